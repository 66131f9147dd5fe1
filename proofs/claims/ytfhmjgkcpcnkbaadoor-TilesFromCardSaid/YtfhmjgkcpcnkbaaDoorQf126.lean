/- tiles.Grown. -/
import Derived.Test.YtfhmjgkcpcnkbaaDoorQf125
import Derived.Test.YtfhmjgkcpcnkbaaDoorQf124
namespace Go.Proofs.YtfhmjgkcpcnkbaaDoor
open Go Go.RowKit
attribute [local go_sem] Oper.semAt_some

theorem gL_take (h m n l i : Nat) (hc : cT h l m < cT h l n) (h1 : cT h l m / 2 ^ h ≤ i) (h2 : i ≤ (cT h l n - 1) / 2 ^ h) :
    (gL h m n l).take (i + 1 - cT h l m / 2 ^ h) = (gL h m n l).take (i - cT h l m / 2 ^ h) ++ [(l, i, min (2 ^ h) (cT h l n - i * 2 ^ h))] := by
  have hlt : i - cT h l m / 2 ^ h < (cT h l n - 1) / 2 ^ h + 1 - cT h l m / 2 ^ h := by omega
  rw [show i + 1 - cT h l m / 2 ^ h = (i - cT h l m / 2 ^ h) + 1 by omega, List.take_add_one]
  congr 1
  unfold gL
  rw [if_pos hc, List.getElem?_map, List.getElem?_range hlt]
  simp only [Option.map_some, Option.toList_some]
  rw [show cT h l m / 2 ^ h + (i - cT h l m / 2 ^ h) = i by omega]
theorem run_quoG_op {ρ : Operand → Value} {o : Oper} {T : TypeId} (x y : Operand) (ty : TypeId) (n h : Nat) (hh : h ≠ 0) (ho : o.op = .binOp .quo T x y ty) (hx : ρ x = .int .i64 (n : Int)) (hy : ρ y = .int .i64 (h : Int)) (hn : n < 9223372036854775808) (W : World) :
    (execOp ρ o).run Tryd.prog W = .ok (.value (.int .i64 ((n / h : Nat) : Int))) W := by
  have h0 : (h : Int) ≠ 0 := by omega
  have hq : n / h ≤ n := Nat.div_le_self _ _
  obtain ⟨q, hqe⟩ : ∃ q, n / h = q := ⟨_, rfl⟩
  have e : (n : Int) / (h : Int) = (q : Int) := by rw [← hqe]; rfl
  rw [hqe] at hq ⊢
  clear hqe
  have h1 : IntKind.i64.wrap (q : Int) = (q : Int) := IntWalk.i64_in _ ⟨by omega, by omega⟩
  unfold execOp
  simp only [ho, hx, hy]
  go_simp
theorem grown_over {h m n k : Nat} (hk : k ≤ 63) (hl : 65536 < (gA h m n k).length) : grownA h m n = ([], 3) := by
  unfold grownA
  have := gA_leR h m n k hk
  rw [if_neg (by omega)]
theorem tgrown_bad (z a b : Int) (w : World) (hb : z < 1 ∨ 8 < z ∨ a < 0 ∨ b < a) : Calls Tryd.prog 7 #[.int .i64 z, .int .i64 a, .int .i64 b] w fun e w' => e = .returned (.tuple #[.slice none 0 0, .int .i64 2]) ∧ w' = w := by
  by_cases h1 : z < 1
  · have d1 : decide (z < 1) = true := by simpa using h1
    clear hb h1
    go_enter Tryd.func7, Tryd.ntmps7
    go_wp2_with fail
    go_ret2
    exact ⟨rfl, by trivial⟩
  have d1 : decide (z < 1) = false := by simpa using h1
  by_cases h2 : 8 < z
  · have d2 : decide (8 < z) = true := by simpa using h2
    clear hb h1 h2
    go_enter Tryd.func7, Tryd.ntmps7
    go_wp2_with fail
    go_ret2
    exact ⟨rfl, by trivial⟩
  have d2 : decide (8 < z) = false := by simpa using h2
  by_cases h3 : a < 0
  · have d3 : decide (a < 0) = true := by simpa using h3
    clear hb h1 h2 h3
    go_enter Tryd.func7, Tryd.ntmps7
    go_wp2_with fail
    go_ret2
    exact ⟨rfl, by trivial⟩
  have d3 : decide (a < 0) = false := by simpa using h3
  have d4 : decide (b < a) = true := by simp; omega
  clear hb h1 h2 h3
  go_enter Tryd.func7, Tryd.ntmps7
  go_wp2_with fail
  go_ret2
  exact ⟨rfl, by trivial⟩
set_option maxHeartbeats 8000000 in
set_option maxRecDepth 100000 in
theorem tgrown_any (h m n : Nat) (w : World) (h1 : 1 ≤ h) (h8 : h ≤ 8) (hmn : m ≤ n) (hn : n < 9223372036854775808) :
    Calls Tryd.prog 7 #[.int .i64 (h : Int), .int .i64 (m : Int), .int .i64 (n : Int)] w fun e w' => ∃ v, e = .returned (.tuple #[v, .int .i64 (grownA h m n).2]) ∧ w'.ownsRow w.heap.size 30 3 v (grownA h m n).1.length (plcells (grownA h m n).1) ∧ Below w.heap.size w w' := by
  have e1 : decide ((h : Int) < 1) = false := by simp; omega
  have e1n : decide (h < 1) = false := by simp; omega
  have e2 : decide ((8 : Int) < (h : Int)) = false := by simp; omega
  have e2n : decide (8 < h) = false := by simp; omega
  have e3 : decide ((m : Int) < 0) = false := by simp
  have e4 : decide ((n : Int) < (m : Int)) = false := by simp; omega
  have e4n : decide (n < m) = false := by simp; omega
  obtain ⟨s2, hs2⟩ : ∃ s, 2 ^ h = s := ⟨_, rfl⟩
  have hsp : 2 ≤ s2 := by rw [← hs2]; exact Nat.le_trans (by decide) (Nat.pow_le_pow_right (n := 2) (by decide) h1)
  have hs8 : s2 ≤ 256 := by rw [← hs2]; exact Nat.pow_le_pow_right (n := 2) (by decide) (show h ≤ 8 from h8)
  have hsh1 : IntKind.i64.wrap ((2 : Int) ^ h) = (s2 : Int) := by rw [← hs2]; exact pow8 h h8
  have hh0' : (0 : Int) ≤ (h : Int) := by omega
  have hh64 : (h : Int) ≤ 64 := by omega
  have Hs2 := Lib.hid hs2
  clear hs2
  obtain ⟨res, hres⟩ : ∃ x, grownA h m n = x := ⟨_, rfl⟩
  rw [hres]
  have Hres := Lib.hid hres
  clear hres
  go_enter Tryd.func7, Tryd.ntmps7
  go_wp2_with fail
  clear e1 e1n e2 e2n e3 e4 e4n hsh1 hh0' hh64
  go_loopw [9, 10] (fun v9 v10 wr => ∃ l : Nat, v10 = .int .i64 (l : Int) ∧ l ≤ 63 ∧ wr.ownsRow w.heap.size 30 3 v9 (gA h m n l).length (plcells (gA h m n l)) ∧ (gA h m n l).length ≤ 65536 ∧ Below w.heap.size w wr) (fun _ v10 _ => 63 - (intOf v10).toNat)
  case atStart => exact ⟨0, rfl, by omega, World.ownsRow_nil _ _ _ _, by simp [gA], Below.refl _ _⟩
  case round =>
    obtain ⟨l, rfl, hl63, ho, hle, hb⟩ := hrel
    have hz := hb.size
    obtain ⟨cn, hcn⟩ : ∃ c, cT h l n = c := ⟨_, rfl⟩
    obtain ⟨cm, hcm⟩ : ∃ c, cT h l m = c := ⟨_, rfl⟩
    have hcmn : cm ≤ cn := by rw [← hcn, ← hcm]; exact cT_mono h l hmn
    have hcnn : cn ≤ n := by rw [← hcn]; exact cT_le h l n
    have hKn := tcount_any h l n wr h1 h8 (by omega) hn
    have hKm := tcount_any h l m wr h1 h8 (by omega) (by omega)
    rw [hcn] at hKn
    rw [hcm] at hKm
    have HKn := Lib.hid hKn
    have HKm := Lib.hid hKm
    have Hcn := Lib.hid hcn
    have Hcm := Lib.hid hcm
    have Ho := Lib.hid ho
    have Hb := Lib.hid hb
    have hwl : IntKind.i64.wrap ((l : Int) + 1) = (l : Int) + 1 := IntWalk.i64_in _ (by omega)
    clear hKn hKm hcn hcm ho hb
    by_cases h0 : cn = 0
    · subst h0
      have d0 : decide ((0 : Int) < ((0 : Nat) : Int)) = false := by decide
      have hg0 : res = (gA h m n l, 0) := by
        rw [← Hres.out]
        unfold grownA
        rw [← gA_full h m n l hl63 Hcn.out, if_pos hle]
      have Hg := Lib.hid hg0
      clear HKm hg0
      go_wp2_with (go_at_call 36; refine HKn.out.mono ?_; rintro e w2 ⟨rfl, hw⟩; obtain rfl := hw.symm; clear hw)
      go_ret2
      rw [Hg.out]
      exact ⟨_, rfl, Ho.out, Hb.out⟩
    · have d0 : decide ((0 : Int) < (cn : Int)) = true := by simp; omega
      have d0n : decide (0 < cn) = true := by simp; omega
      have hl62 := (cT_lev h l n h1 hn (by rw [Hcn.out]; omega)).2
      by_cases hq : cm = cn
      · subst hq
        have hgs := gL_same h m n l (by rw [Hcn.out, Hcm.out])
        have hnx : gA h m n (l + 1) = gA h m n l := by rw [gA_succ, hgs, List.append_nil]
        clear hgs
        go_wp2_with (first
          | (go_at_call_of 36 (Value.int .i64 (n : Int)); refine HKn.out.mono ?_; rintro e w2 ⟨rfl, hw⟩; obtain rfl := hw.symm; clear hw)
          | (go_at_call_of 36 (Value.int .i64 (m : Int)); refine HKm.out.mono ?_; rintro e w2 ⟨rfl, hw⟩; obtain rfl := hw.symm; clear hw))
        go_roundw
        case rel => exact ⟨l + 1, by go_num, by omega, by rw [hnx]; exact Ho.out, by rw [hnx]; exact hle, Hb.out⟩
        case measure => simp [intOf]; omega
      · have hbq : ((cm : Int) == (cn : Int)) = false := by simp; omega
        have hbqn : (cm == cn) = false := by simp; omega
        obtain ⟨c1, hc1⟩ : ∃ c, cn - 1 = c := ⟨_, rfl⟩
        obtain ⟨q1, hq1⟩ : ∃ q, c1 / s2 = q := ⟨_, rfl⟩
        obtain ⟨q0, hq0⟩ : ∃ q, cm / s2 = q := ⟨_, rfl⟩
        have hq01 : q0 ≤ q1 := by rw [← hq0, ← hq1]; exact Nat.div_le_div_right (by omega)
        have hq1c : q1 * s2 ≤ c1 := by rw [← hq1]; exact Nat.div_mul_le_self _ _
        have hq1le : q1 ≤ c1 := by rw [← hq1]; exact Nat.div_le_self _ _
        obtain ⟨d, hd⟩ : ∃ d, q1 - q0 = d := ⟨_, rfl⟩
        have hwc : IntKind.i64.wrap ((cn : Int) - 1) = (c1 : Int) := by rw [IntWalk.i64_in _ (by omega)]; omega
        have hwd : IntKind.i64.wrap ((q1 : Int) - (q0 : Int)) = (d : Int) := by rw [IntWalk.i64_in _ (by omega)]; omega
        have hgl : (gL h m n l).length = d + 1 := by rw [gL_len h m n l (by rw [Hcm.out, Hcn.out]; omega), Hcn.out, Hcm.out, Hs2.out, hc1, hq1, hq0]; omega
        have hs0 : s2 ≠ 0 := by omega
        have hc163 : c1 < 9223372036854775808 := by omega
        have hcm63 : cm < 9223372036854775808 := by omega
        have hnext : gA h m n (l + 1) = gA h m n l ++ gL h m n l := gA_succ h m n l
        have hlen2 : (gA h m n (l + 1)).length = (gA h m n l).length + (d + 1) := by rw [hnext, List.length_append, hgl]
        have Hq1 := Lib.hid hq1
        have Hq0 := Lib.hid hq0
        have Hc1 := Lib.hid hc1
        have Hgl := Lib.hid hgl
        have Hnx := Lib.hid hnext
        have Hlen2 := Lib.hid hlen2
        have Hq1c := Lib.hid hq1c
        have hS : True ∧ wr.drew = wr.drew := ⟨trivial, rfl⟩
        clear hq1 hq0 hc1 hgl hnext hlen2 hq1c hS
        have hSB : Below wr.heap.size wr wr.drew := (Below.refl _ _).drew
        by_cases hbig : 65536 ≤ d
        · have db : decide ((65536 : Int) ≤ (d : Int)) = true := by simp; omega
          have dbn : decide (65536 ≤ d) = true := by simp; omega
          have hg : res = ([], 3) := Hres.out.symm.trans <| grown_over (k := l + 1) (by omega) (by rw [Hlen2.out]; omega)
          have Hg := Lib.hid hg
          clear hg
          go_upto_region 10 with (first
            | (go_at_call_of 36 (Value.int .i64 (n : Int)); refine HKn.out.mono ?_; rintro e w2 ⟨rfl, hw⟩; obtain rfl := hw.symm; clear hw)
            | (go_at_call_of 36 (Value.int .i64 (m : Int)); refine HKm.out.mono ?_; rintro e w2 ⟨rfl, hw⟩; obtain rfl := hw.symm; clear hw))
          have hS := hSB
          clear hSB
          refine wp_region_mix (fun V => Below wr.heap.size wr V) [(0, true), (1, true), (2, true), (3, true), (4, true), (5, true), (6, true), (7, true), (8, true)] (by kernel_rfl) (by kernel_rfl) hS fun _ => ?_
          simp only [List.map_cons, List.map_nil, Array.getD_eq_getD_getElem?, List.getElem?_toArray, List.getElem?_cons_succ, List.getElem?_cons_zero, Option.getD_some]
          generalize wr.drew = V0 at hS ⊢
          refine wpMix_s (fun K hK => ?_)
          go_simp
          refine hK _ ?_
          clear hK K
          refine wpMix_s (fun K hK => ?_)
          go_simp
          refine hK _ ?_
          clear hK K
          refine wpMix_s (fun K hK => ?_)
          go_simp
          refine hK _ ?_
          clear hK K
          refine wpMix_v (by kernel_rfl) (.int .i64 (q1 : Int)) (fun s => by rw [← Hq1.out]; exact run_quoG_op (.tmp 50) (.tmp 51) _ c1 s2 hs0 rfl rfl rfl hc163 s.W) ?_
          simp only [Act.put, List.setIfInBounds_toArray, List.set_cons_succ, List.set_cons_zero]
          refine wpMix_s (fun K hK => ?_)
          go_simp
          refine hK _ ?_
          clear hK K
          refine wpMix_s (fun K hK => ?_)
          go_simp
          refine hK _ ?_
          clear hK K
          refine wpMix_v (by kernel_rfl) (.int .i64 (q0 : Int)) (fun s => by rw [← Hq0.out]; exact run_quoG_op (.tmp 53) (.tmp 54) _ cm s2 hs0 rfl rfl rfl hcm63 s.W) ?_
          simp only [Act.put, List.setIfInBounds_toArray, List.set_cons_succ, List.set_cons_zero]
          refine wpMix_s (fun K hK => ?_)
          go_simp
          refine hK _ ?_
          clear hK K
          refine wpMix_s (fun K hK => ?_)
          go_simp
          refine hK _ ?_
          clear hK K
          refine wpMix_nil ?_
          intro _
          go_wp2_with fail
          go_ret2
          rw [Hg.out]
          exact ⟨_, rfl, World.ownsRow_nil _ _ _ _, Hb.out.trans (hS.mono Hb.out.size)⟩
        · have db : decide ((65536 : Int) ≤ (d : Int)) = false := by simp; omega
          have dbn : decide (65536 ≤ d) = false := by simp; omega
          go_upto_region 10 with (first
            | (go_at_call_of 36 (Value.int .i64 (n : Int)); refine HKn.out.mono ?_; rintro e w2 ⟨rfl, hw⟩; obtain rfl := hw.symm; clear hw)
            | (go_at_call_of 36 (Value.int .i64 (m : Int)); refine HKm.out.mono ?_; rintro e w2 ⟨rfl, hw⟩; obtain rfl := hw.symm; clear hw))
          have hS := hSB
          clear hSB
          refine wp_region_mix (fun V => Below wr.heap.size wr V) [(0, true), (1, true), (2, true), (3, true), (4, true), (5, true), (6, true), (7, true), (8, true)] (by kernel_rfl) (by kernel_rfl) hS fun _ => ?_
          simp only [List.map_cons, List.map_nil, Array.getD_eq_getD_getElem?, List.getElem?_toArray, List.getElem?_cons_succ, List.getElem?_cons_zero, Option.getD_some]
          generalize wr.drew = V0 at hS ⊢
          refine wpMix_s (fun K hK => ?_)
          go_simp
          refine hK _ ?_
          clear hK K
          refine wpMix_s (fun K hK => ?_)
          go_simp
          refine hK _ ?_
          clear hK K
          refine wpMix_s (fun K hK => ?_)
          go_simp
          refine hK _ ?_
          clear hK K
          refine wpMix_v (by kernel_rfl) (.int .i64 (q1 : Int)) (fun s => by rw [← Hq1.out]; exact run_quoG_op (.tmp 50) (.tmp 51) _ c1 s2 hs0 rfl rfl rfl hc163 s.W) ?_
          simp only [Act.put, List.setIfInBounds_toArray, List.set_cons_succ, List.set_cons_zero]
          refine wpMix_s (fun K hK => ?_)
          go_simp
          refine hK _ ?_
          clear hK K
          refine wpMix_s (fun K hK => ?_)
          go_simp
          refine hK _ ?_
          clear hK K
          refine wpMix_v (by kernel_rfl) (.int .i64 (q0 : Int)) (fun s => by rw [← Hq0.out]; exact run_quoG_op (.tmp 53) (.tmp 54) _ cm s2 hs0 rfl rfl rfl hcm63 s.W) ?_
          simp only [Act.put, List.setIfInBounds_toArray, List.set_cons_succ, List.set_cons_zero]
          refine wpMix_s (fun K hK => ?_)
          go_simp
          refine hK _ ?_
          clear hK K
          refine wpMix_s (fun K hK => ?_)
          go_simp
          refine hK _ ?_
          clear hK K
          refine wpMix_nil ?_
          intro _
          have ho0 := owns_step Ho.out hS
          have hb0 := Hb.out.trans (hS.mono Hb.out.size)
          have hq0v : (cm : Int) / (s2 : Int) = (q0 : Int) := by rw [← Hq0.out]; rfl
          have hq1v : (c1 : Int) / (s2 : Int) = (q1 : Int) := by rw [← Hq1.out]; rfl
          have hwq0 : IntKind.i64.wrap (q0 : Int) = (q0 : Int) := IntWalk.i64_in _ (by omega)
          have hwq1 : IntKind.i64.wrap (q1 : Int) = (q1 : Int) := IntWalk.i64_in _ (by omega)
          have hs0' : (s2 : Int) ≠ 0 := by omega
          clear hS HKn HKm Ho Hb db dbn d0 d0n hwd hz
          go_wp2_with fail
          go_loopw [9, 13] (fun v9 v13 wr => ∃ i : Nat, v13 = .int .i64 (i : Int) ∧ q0 ≤ i ∧ i ≤ q1 + 1 ∧ wr.ownsRow w.heap.size 30 3 v9 ((gA h m n l).length + (i - q0)) (plcells (gA h m n l ++ (gL h m n l).take (i - q0))) ∧ Below w.heap.size w wr) (fun _ v13 _ => q1 + 1 - (intOf v13).toNat)
          case atStart => exact ⟨q0, rfl, Nat.le_refl _, by omega, by rw [Nat.sub_self, List.take_zero, List.append_nil]; exact ho0, hb0⟩
          case round =>
            clear ho0 hb0
            obtain ⟨i, rfl, hi0, hi1, ho, hb⟩ := hrel
            have hz := hb.size
            by_cases hiq : i ≤ q1
            · have di : decide ((i : Int) ≤ (q1 : Int)) = true := by simp; omega
              have din : decide (i ≤ q1) = true := by simp; omega
              have hiw : i * s2 ≤ c1 := Nat.le_trans (Nat.mul_le_mul_right s2 hiq) Hq1c.out
              obtain ⟨iw, hiwe⟩ : ∃ x, i * s2 = x := ⟨_, rfl⟩
              have hmul : IntKind.i64.wrap ((i : Int) * (s2 : Int)) = (iw : Int) := by
                rw [← Int.natCast_mul, hiwe, IntWalk.i64_in _ (by omega)]
              obtain ⟨r, hr⟩ : ∃ r, cn - iw = r := ⟨_, rfl⟩
              have hc1v := Hc1.out
              have hwr : IntKind.i64.wrap ((cn : Int) - (iw : Int)) = (r : Int) := by rw [IntWalk.i64_in _ (by omega)]; omega
              obtain ⟨wd, hwde⟩ : ∃ x, min s2 r = x := ⟨_, rfl⟩
              have hmin : min (s2 : Int) (r : Int) = (wd : Int) := by omega
              have hwi : IntKind.i64.wrap ((i : Int) + 1) = (i : Int) + 1 := IntWalk.i64_in _ (by omega)
              have htk := gL_take h m n l i (by rw [Hcm.out, Hcn.out]; omega) (by rw [Hcm.out, Hs2.out, Hq0.out]; exact hi0) (by rw [Hcn.out, Hs2.out, Hc1.out, Hq1.out]; exact hiq)
              rw [Hcm.out, Hcn.out, Hs2.out, Hq0.out, hiwe, hr, hwde] at htk
              have hlen : (gA h m n l ++ (gL h m n l).take (i - q0)).length = (gA h m n l).length + (i - q0) := by rw [List.length_append, List.length_take, Hgl.out]; omega
              obtain ⟨A2, c2, w2, hr2, ho2, hb2⟩ := app_place ho hlen hz (by omega) (l, i, wd)
              rw [List.append_assoc, ← htk] at ho2
              have Hr2 := Lib.hid hr2
              have Ho2 := Lib.hid ho2
              have Hb2 := Lib.hid hb2
              have Hb := Lib.hid hb
              obtain ⟨A0, c0, rfl, -⟩ := owns_slv ho
              obtain ⟨k0, hk0⟩ : ∃ k, (gA h m n l).length + (i - q0) = k := ⟨_, rfl⟩
              rw [hk0] at Hr2 Ho2 ⊢
              have Hk0 := Lib.hid hk0
              clear htk hlen hr2 ho2 hb2 hb ho hiwe hr hwde hk0 hc1v
              go_wp2_with (first
                | ((with_reducible show wpList _ _ _ (⟨some 78, .call _, _, _, _, _⟩ :: _) _ _); refine wpList_run0 rfl (.int .i64 (wd : Int)) (by unfold execOp; simp [go_sem, Lib.run_min_ints, hmin]) ?_; simp only [Act.put, List.setIfInBounds_toArray, List.set_cons_succ, List.set_cons_zero])
                | ((with_reducible show wpList _ _ _ (⟨some 80, .buildSlice _ _ _, _, _, _, _⟩ :: _) _ _); refine wpList_run rfl (.slice (some ⟨wr.heap.size, 0, none⟩) 1 1) (wr.alloc (.cells (plcell (l, i, wd)).toArray 30)) (run_litPl_op (.tmp 79) (l : Int) (i : Int) (wd : Int) rfl rfl _) ?_; simp only [Act.put, List.setIfInBounds_toArray, List.set_cons_succ, List.set_cons_zero])
                | ((with_reducible show wpList _ _ _ (⟨some 81, .call _, _, _, _, _⟩ :: _) _ _); refine wpList_run rfl (.slice A2 (k0 + 1) c2) w2 (run_append_op (.tmp 69) (.tmp 80) 22 rfl _ _ rfl rfl Hr2.out) ?_; simp only [Act.put, List.setIfInBounds_toArray, List.set_cons_succ, List.set_cons_zero]))
              go_roundw
              case rel => exact ⟨i + 1, by go_num, by omega, by omega, by have e : (gA h m n l).length + (i + 1 - q0) = k0 + 1 := (by rw [← Hk0.out]; omega); rw [e]; exact Ho2.out, Hb.out.trans Hb2.out⟩
              case measure => simp [intOf]; omega
            · obtain rfl : i = q1 + 1 := by omega
              have di : decide (((q1 + 1 : Nat) : Int) ≤ (q1 : Int)) = false := by simp; omega
              have di2 : decide ((q1 : Int) + 1 ≤ (q1 : Int)) = false := by simp; omega
              have din : decide (q1 + 1 ≤ q1) = false := by simp
              have htk : (gL h m n l).take (q1 + 1 - q0) = gL h m n l := List.take_of_length_le (by rw [Hgl.out]; omega)
              rw [htk, ← Hnx.out, show (gA h m n l).length + (q1 + 1 - q0) = (gA h m n (l + 1)).length by rw [Hlen2.out]; omega] at ho
              obtain ⟨T, hT⟩ : ∃ T, (gA h m n (l + 1)).length = T := ⟨_, rfl⟩
              rw [hT] at ho
              obtain ⟨A0, c0, rfl, hs0v⟩ := owns_slv ho
              have hrm := hs0v.room
              have hmm := hs0v.max
              unfold maxLen at hmm
              have HT := Lib.hid hT
              have Ho := Lib.hid ho
              have Hb := Lib.hid hb
              clear htk hs0v ho hb hT
              by_cases hover : 65536 < T
              · have dT : decide ((65536 : Int) < (T : Int)) = true := by simp; omega
                have dTn : decide (65536 < T) = true := by simp; omega
                have hg : res = ([], 3) := Hres.out.symm.trans <| grown_over (k := l + 1) (by omega) (by rw [HT.out]; exact hover)
                have Hg := Lib.hid hg
                clear hg
                go_wp2_with fail
                go_ret2
                rw [Hg.out]
                exact ⟨_, rfl, World.ownsRow_nil _ _ _ _, Hb.out⟩
              · have dT : decide ((65536 : Int) < (T : Int)) = false := by simp; omega
                have dTn : decide (65536 < T) = false := by simp; omega
                go_wp2_with fail
                go_roundw
                case rel => exact ⟨l + 1, by go_num, by omega, by rw [HT.out]; exact Ho.out, by rw [HT.out]; omega, Hb.out⟩
                case measure => simp [intOf]; omega
end Go.Proofs.YtfhmjgkcpcnkbaaDoor
/- notaryref14.Places, Grown. -/
namespace Go.Proofs.YtfhmjgkcpcnkbaaDoor
open Go Go.RowKit
attribute [local go_sem] Oper.semAt_some

/-- what Places answers -/
def placesA (h m n : Nat) : List PlV × Bool := if (gR h m n).length ≤ 65536 then (gR h m n, true) else ([], false)
theorem places_over {h m n k : Nat} (hk : k ≤ 63) (hl : 65536 < (gA h m n k).length) : placesA h m n = ([], false) := by
  unfold placesA
  have := gA_leR h m n k hk
  rw [if_neg (by omega)]
set_option maxHeartbeats 8000000 in
set_option maxRecDepth 100000 in
theorem rplaces_any (h m n : Nat) (w : World) (h1 : 1 ≤ h) (h8 : h ≤ 8) (hmn : m ≤ n) (hn : n < 9223372036854775808) :
    Calls Tryd.prog 37 #[.int .i64 (h : Int), .int .i64 (m : Int), .int .i64 (n : Int)] w fun e w' => ∃ v, e = .returned (.tuple #[v, .bool (placesA h m n).2]) ∧ w'.ownsRow w.heap.size 30 3 v (placesA h m n).1.length (plcells (placesA h m n).1) ∧ Below w.heap.size w w' := by
  obtain ⟨s2, hs2⟩ : ∃ s, 2 ^ h = s := ⟨_, rfl⟩
  have hsp : 2 ≤ s2 := by rw [← hs2]; exact Nat.le_trans (by decide) (Nat.pow_le_pow_right (n := 2) (by decide) h1)
  have hs8 : s2 ≤ 256 := by rw [← hs2]; exact Nat.pow_le_pow_right (n := 2) (by decide) (show h ≤ 8 from h8)
  have Hs2 := Lib.hid hs2
  clear hs2
  obtain ⟨res, hres⟩ : ∃ x, placesA h m n = x := ⟨_, rfl⟩
  rw [hres]
  have Hres := Lib.hid hres
  clear hres
  go_enter Tryd.func37, Tryd.ntmps37
  go_wp2_with fail
  go_loopw [8, 9] (fun v8 v9 wr => ∃ l : Nat, v9 = .int .i64 (l : Int) ∧ l ≤ 63 ∧ wr.ownsRow w.heap.size 30 3 v8 (gA h m n l).length (plcells (gA h m n l)) ∧ (gA h m n l).length ≤ 65536 ∧ Below w.heap.size w wr) (fun _ v9 _ => 63 - (intOf v9).toNat)
  case atStart => exact ⟨0, rfl, by omega, World.ownsRow_nil _ _ _ _, by simp [gA], Below.refl _ _⟩
  case round =>
    obtain ⟨l, rfl, hl63, ho, hle, hb⟩ := hrel
    have hz := hb.size
    obtain ⟨cn, hcn⟩ : ∃ c, cT h l n = c := ⟨_, rfl⟩
    obtain ⟨cm, hcm⟩ : ∃ c, cT h l m = c := ⟨_, rfl⟩
    have hcmn : cm ≤ cn := by rw [← hcn, ← hcm]; exact cT_mono h l hmn
    have hcnn : cn ≤ n := by rw [← hcn]; exact cT_le h l n
    have hKn := rcount_any h l n wr h1 h8 (by omega) hn
    have hKm := rcount_any h l m wr h1 h8 (by omega) (by omega)
    have hKw := rwhole14_any h wr h8
    rw [hcn] at hKn
    rw [hcm] at hKm
    rw [Hs2.out] at hKw
    have HKn := Lib.hid hKn
    have HKm := Lib.hid hKm
    have HKw := Lib.hid hKw
    have Hcn := Lib.hid hcn
    have Hcm := Lib.hid hcm
    have Ho := Lib.hid ho
    have Hb := Lib.hid hb
    have hwl : IntKind.i64.wrap ((l : Int) + 1) = (l : Int) + 1 := IntWalk.i64_in _ (by omega)
    clear hKn hKm hKw hcn hcm ho hb
    by_cases h0 : cn = 0
    · subst h0
      have d0 : decide ((0 : Int) < ((0 : Nat) : Int)) = false := by decide
      have hg0 : res = (gA h m n l, true) := by
        rw [← Hres.out]
        unfold placesA
        rw [← gA_full h m n l hl63 Hcn.out, if_pos hle]
      have Hg := Lib.hid hg0
      clear HKm HKw hg0
      go_wp2_with (go_at_call 59; refine HKn.out.mono ?_; rintro e w2 ⟨rfl, hw⟩; obtain rfl := hw.symm; clear hw)
      go_ret2
      rw [Hg.out]
      exact ⟨_, rfl, Ho.out, Hb.out⟩
    · have d0 : decide ((0 : Int) < (cn : Int)) = true := by simp; omega
      have d0n : decide (0 < cn) = true := by simp; omega
      have hl62 := (cT_lev h l n h1 hn (by rw [Hcn.out]; omega)).2
      obtain ⟨c1, hc1⟩ : ∃ c, cn - 1 = c := ⟨_, rfl⟩
      obtain ⟨q1, hq1⟩ : ∃ q, c1 / s2 = q := ⟨_, rfl⟩
      obtain ⟨q0, hq0⟩ : ∃ q, cm / s2 = q := ⟨_, rfl⟩
      have hq0le : q0 ≤ cm := by rw [← hq0]; exact Nat.div_le_self _ _
      have hq0v : (cm : Int) / (s2 : Int) = (q0 : Int) := by rw [← hq0]; rfl
      have hwq0 : IntKind.i64.wrap (q0 : Int) = (q0 : Int) := IntWalk.i64_in _ (by omega)
      have hs0' : (s2 : Int) ≠ 0 := by omega
      by_cases hq : cm = cn
      · subst hq
        have hgs := gL_same h m n l (by rw [Hcn.out, Hcm.out])
        have hnx : gA h m n (l + 1) = gA h m n l := by rw [gA_succ, hgs, List.append_nil]
        have Hnx := Lib.hid hnx
        have dlt : decide ((cm : Int) < (cm : Int)) = false := by simp
        have dltn : decide (cm < cm) = false := by simp
        clear hgs hq1 hc1 hq0 hnx
        go_wp2_with (first
      | (go_at_call_of 59 (Value.int .i64 (n : Int)); refine HKn.out.mono ?_; rintro e w2 ⟨rfl, hw⟩; obtain rfl := hw.symm; clear hw)
      | (go_at_call_of 59 (Value.int .i64 (m : Int)); refine HKm.out.mono ?_; rintro e w2 ⟨rfl, hw⟩; obtain rfl := hw.symm; clear hw)
      | (go_at_call 60; refine HKw.out.mono ?_; rintro e w2 ⟨rfl, hw⟩; obtain rfl := hw.symm; clear hw))
        go_loopw [8, 13] (fun v8 v13 wr => v13 = .int .i64 (q0 : Int) ∧ wr.ownsRow w.heap.size 30 3 v8 (gA h m n l).length (plcells (gA h m n l)) ∧ Below w.heap.size w wr) (fun _ _ _ => 0)
        case atStart => exact ⟨rfl, Ho.out, Hb.out⟩
        case round =>
          obtain ⟨rfl, ho, hb⟩ := hrel
          have Ho2 := Lib.hid ho
          have Hb2 := Lib.hid hb
          clear ho hb HKn HKm HKw
          go_wp2_with fail
          go_roundw
          case rel => exact ⟨l + 1, by go_num, by omega, by rw [Hnx.out]; exact Ho2.out, by rw [Hnx.out]; exact hle, Hb2.out⟩
          case measure => simp [intOf]; omega
      · have dlt : decide ((cm : Int) < (cn : Int)) = true := by simp; omega
        have dltn : decide (cm < cn) = true := by simp; omega
        have hq01 : q0 ≤ q1 := by rw [← hq0, ← hq1]; exact Nat.div_le_div_right (by omega)
        have hq1c : q1 * s2 ≤ c1 := by rw [← hq1]; exact Nat.div_mul_le_self _ _
        have hq1le : q1 ≤ c1 := by rw [← hq1]; exact Nat.div_le_self _ _
        obtain ⟨d, hd⟩ : ∃ d, q1 - q0 = d := ⟨_, rfl⟩
        have hwc : IntKind.i64.wrap ((cn : Int) - 1) = (c1 : Int) := by rw [IntWalk.i64_in _ (by omega)]; omega
        have hgl : (gL h m n l).length = d + 1 := by rw [gL_len h m n l (by rw [Hcm.out, Hcn.out]; omega), Hcn.out, Hcm.out, Hs2.out, hc1, hq1, hq0]; omega
        have hnext : gA h m n (l + 1) = gA h m n l ++ gL h m n l := gA_succ h m n l
        have hlen2 : (gA h m n (l + 1)).length = (gA h m n l).length + (d + 1) := by rw [hnext, List.length_append, hgl]
        have hq1v : (c1 : Int) / (s2 : Int) = (q1 : Int) := by rw [← hq1]; rfl
        have hwq1 : IntKind.i64.wrap (q1 : Int) = (q1 : Int) := IntWalk.i64_in _ (by omega)
        have hc163 : c1 < 9223372036854775808 := by omega
        have Hq1 := Lib.hid hq1
        have Hq0 := Lib.hid hq0
        have Hc1 := Lib.hid hc1
        have Hgl := Lib.hid hgl
        have Hnx := Lib.hid hnext
        have Hlen2 := Lib.hid hlen2
        have Hq1c := Lib.hid hq1c
        clear hq1 hq0 hc1 hgl hnext hlen2 hq1c
        go_wp2_with (first
      | (go_at_call_of 59 (Value.int .i64 (n : Int)); refine HKn.out.mono ?_; rintro e w2 ⟨rfl, hw⟩; obtain rfl := hw.symm; clear hw)
      | (go_at_call_of 59 (Value.int .i64 (m : Int)); refine HKm.out.mono ?_; rintro e w2 ⟨rfl, hw⟩; obtain rfl := hw.symm; clear hw)
      | (go_at_call 60; refine HKw.out.mono ?_; rintro e w2 ⟨rfl, hw⟩; obtain rfl := hw.symm; clear hw))
        go_loopw [8, 13] (fun v8 v13 wr => ∃ i : Nat, v13 = .int .i64 (i : Int) ∧ q0 ≤ i ∧ i ≤ q1 + 1 ∧ (gA h m n l).length + (i - q0) ≤ 65536 ∧ wr.ownsRow w.heap.size 30 3 v8 ((gA h m n l).length + (i - q0)) (plcells (gA h m n l ++ (gL h m n l).take (i - q0))) ∧ Below w.heap.size w wr) (fun _ v13 _ => q1 + 1 - (intOf v13).toNat)
        case atStart => exact ⟨q0, rfl, Nat.le_refl _, by omega, by omega, by rw [Nat.sub_self, List.take_zero, List.append_nil]; exact Ho.out, Hb.out⟩
        case round =>
          clear HKn HKm HKw Ho Hb d0 d0n hz
          obtain ⟨i, rfl, hi0, hi1, hi65, ho, hb⟩ := hrel
          have hz := hb.size
          by_cases hiq : i ≤ q1
          · have di : decide ((i : Int) ≤ (q1 : Int)) = true := by simp; omega
            have din : decide (i ≤ q1) = true := by simp; omega
            have hlen : (gA h m n l ++ (gL h m n l).take (i - q0)).length = (gA h m n l).length + (i - q0) := by rw [List.length_append, List.length_take, Hgl.out]; omega
            obtain ⟨A0, c0, rfl, hsv⟩ := owns_slv ho
            have hrm := hsv.room
            have hmm := hsv.max
            unfold maxLen at hmm
            obtain ⟨k0, hk0⟩ : ∃ k, (gA h m n l).length + (i - q0) = k := ⟨_, rfl⟩
            by_cases hful : k0 = 65536
            · have hg0 : res = ([], false) := Hres.out.symm.trans <| places_over (k := l + 1) (by omega) (by rw [Hlen2.out]; omega)
              have Hg := Lib.hid hg0
              have Hb2 := Lib.hid hb
              rw [hk0] at ho hsv hrm ⊢
              subst hful
              clear hg0 hlen hb ho hsv hk0
              go_wp2_with fail
              go_ret2
              rw [Hg.out]
              exact ⟨_, rfl, World.ownsRow_nil _ _ _ _, Hb2.out⟩
            · have dk : ((k0 : Int) == 65536) = false := by simp; omega
              have dkn : (k0 == 65536) = false := by simp; omega
              have hiw : i * s2 ≤ c1 := Nat.le_trans (Nat.mul_le_mul_right s2 hiq) Hq1c.out
              obtain ⟨iw, hiwe⟩ : ∃ x, i * s2 = x := ⟨_, rfl⟩
              have hmul : IntKind.i64.wrap ((i : Int) * (s2 : Int)) = (iw : Int) := by
                rw [← Int.natCast_mul, hiwe, IntWalk.i64_in _ (by omega)]
              obtain ⟨r, hr⟩ : ∃ r, cn - iw = r := ⟨_, rfl⟩
              have hc1v := Hc1.out
              have hwr : IntKind.i64.wrap ((cn : Int) - (iw : Int)) = (r : Int) := by rw [IntWalk.i64_in _ (by omega)]; omega
              obtain ⟨wd, hwde⟩ : ∃ x, min s2 r = x := ⟨_, rfl⟩
              have hmin : min (s2 : Int) (r : Int) = (wd : Int) := by omega
              have hwi : IntKind.i64.wrap ((i : Int) + 1) = (i : Int) + 1 := IntWalk.i64_in _ (by omega)
              have htk := gL_take h m n l i (by rw [Hcm.out, Hcn.out]; omega) (by rw [Hcm.out, Hs2.out, Hq0.out]; exact hi0) (by rw [Hcn.out, Hs2.out, Hc1.out, Hq1.out]; exact hiq)
              rw [Hcm.out, Hcn.out, Hs2.out, Hq0.out, hiwe, hr, hwde] at htk
              obtain ⟨A2, c2, w2, hr2, ho2, hb2⟩ := app_place ho hlen hz (by omega) (l, i, wd)
              rw [List.append_assoc, ← htk] at ho2
              have Hr2 := Lib.hid hr2
              have Ho2 := Lib.hid ho2
              have Hb2 := Lib.hid hb2
              have Hb := Lib.hid hb
              rw [hk0] at Hr2 Ho2 hsv hrm hi65 ⊢
              have Hk0 := Lib.hid hk0
              clear htk hlen hr2 ho2 hb2 hb ho hiwe hr hwde hk0 hc1v hsv
              go_wp2_with (first
                | ((with_reducible show wpList _ _ _ (⟨some 59, .call _, _, _, _, _⟩ :: _) _ _); refine wpList_run0 rfl (.int .i64 (wd : Int)) (by unfold execOp; simp [go_sem, Lib.run_min_ints, hmin]) ?_; simp only [Act.put, List.setIfInBounds_toArray, List.set_cons_succ, List.set_cons_zero])
                | ((with_reducible show wpList _ _ _ (⟨some 61, .buildSlice _ _ _, _, _, _, _⟩ :: _) _ _); refine wpList_run rfl (.slice (some ⟨wr.heap.size, 0, none⟩) 1 1) (wr.alloc (.cells (plcell (l, i, wd)).toArray 30)) (run_litPl_op (.tmp 60) (l : Int) (i : Int) (wd : Int) rfl rfl _) ?_; simp only [Act.put, List.setIfInBounds_toArray, List.set_cons_succ, List.set_cons_zero])
                | ((with_reducible show wpList _ _ _ (⟨some 62, .call _, _, _, _, _⟩ :: _) _ _); refine wpList_run rfl (.slice A2 (k0 + 1) c2) w2 (run_append_op (.tmp 50) (.tmp 61) 22 rfl _ _ rfl rfl Hr2.out) ?_; simp only [Act.put, List.setIfInBounds_toArray, List.set_cons_succ, List.set_cons_zero]))
              go_roundw
              case rel => exact ⟨i + 1, by go_num, by omega, by omega, by have := Hk0.out; omega, by have e : (gA h m n l).length + (i + 1 - q0) = k0 + 1 := (by rw [← Hk0.out]; omega); rw [e]; exact Ho2.out, Hb.out.trans Hb2.out⟩
              case measure => simp [intOf]; omega
          · obtain rfl : i = q1 + 1 := by omega
            have di : decide (((q1 + 1 : Nat) : Int) ≤ (q1 : Int)) = false := by simp; omega
            have di2 : decide ((q1 : Int) + 1 ≤ (q1 : Int)) = false := by simp; omega
            have din : decide (q1 + 1 ≤ q1) = false := by simp
            have htk : (gL h m n l).take (q1 + 1 - q0) = gL h m n l := List.take_of_length_le (by rw [Hgl.out]; omega)
            rw [htk, ← Hnx.out, show (gA h m n l).length + (q1 + 1 - q0) = (gA h m n (l + 1)).length by rw [Hlen2.out]; omega] at ho
            rw [show (gA h m n l).length + (q1 + 1 - q0) = (gA h m n (l + 1)).length by rw [Hlen2.out]; omega] at hi65
            have Ho2 := Lib.hid ho
            have Hb2 := Lib.hid hb
            have Hi := Lib.hid hi65
            clear htk ho hb hi65
            go_wp2_with fail
            go_roundw
            case rel => exact ⟨l + 1, by go_num, by omega, Ho2.out, Hi.out, Hb2.out⟩
            case measure => simp [intOf]; omega
theorem rgrown_bad (z a b : Int) (w : World) (hb : z < 1 ∨ 8 < z ∨ a < 0 ∨ b < a) : Calls Tryd.prog 8 #[.int .i64 z, .int .i64 a, .int .i64 b] w fun e w' => e = .returned (.tuple #[.slice none 0 0, .int .i64 2]) ∧ w' = w := by
  by_cases h1 : z < 1
  · have d1 : decide (z < 1) = true := by simpa using h1
    clear hb h1
    go_enter Tryd.func8, Tryd.ntmps8
    go_wp2_with fail
    go_ret2
    exact ⟨rfl, by trivial⟩
  have d1 : decide (z < 1) = false := by simpa using h1
  by_cases h2 : 8 < z
  · have d2 : decide (8 < z) = true := by simpa using h2
    clear hb h1 h2
    go_enter Tryd.func8, Tryd.ntmps8
    go_wp2_with fail
    go_ret2
    exact ⟨rfl, by trivial⟩
  have d2 : decide (8 < z) = false := by simpa using h2
  by_cases h3 : a < 0
  · have d3 : decide (a < 0) = true := by simpa using h3
    clear hb h1 h2 h3
    go_enter Tryd.func8, Tryd.ntmps8
    go_wp2_with fail
    go_ret2
    exact ⟨rfl, by trivial⟩
  have d3 : decide (a < 0) = false := by simpa using h3
  have d4 : decide (b < a) = true := by simp; omega
  clear hb h1 h2 h3
  go_enter Tryd.func8, Tryd.ntmps8
  go_wp2_with fail
  go_ret2
  exact ⟨rfl, by trivial⟩
set_option maxHeartbeats 4000000 in
set_option maxRecDepth 100000 in
theorem rgrown_any (h m n : Nat) (w : World) (h1 : 1 ≤ h) (h8 : h ≤ 8) (hmn : m ≤ n) (hn : n < 9223372036854775808) :
    Calls Tryd.prog 8 #[.int .i64 (h : Int), .int .i64 (m : Int), .int .i64 (n : Int)] w fun e w' => ∃ v, e = .returned (.tuple #[v, .int .i64 (grownA h m n).2]) ∧ w'.ownsRow w.heap.size 30 3 v (grownA h m n).1.length (plcells (grownA h m n).1) ∧ Below w.heap.size w w' := by
  have e1 : decide ((h : Int) < 1) = false := by simp; omega
  have e1n : decide (h < 1) = false := by simp; omega
  have e2 : decide ((8 : Int) < (h : Int)) = false := by simp; omega
  have e2n : decide (8 < h) = false := by simp; omega
  have e3 : decide ((m : Int) < 0) = false := by simp
  have e4 : decide ((n : Int) < (m : Int)) = false := by simp; omega
  have e4n : decide (n < m) = false := by simp; omega
  have hp := rplaces_any h m n w h1 h8 hmn hn
  by_cases hc : (gR h m n).length ≤ 65536
  · have hg : grownA h m n = (gR h m n, 0) := if_pos hc
    have hpa : placesA h m n = (gR h m n, true) := if_pos hc
    rw [hpa] at hp
    rw [hg]
    have Hp := Lib.hid hp
    clear hp hg hpa hc
    go_enter Tryd.func8, Tryd.ntmps8
    go_wp2_with fail
    refine Hp.out.mono ?_
    rintro e w2 ⟨v, rfl, ho, hb⟩
    have Ho := Lib.hid ho
    have Hb := Lib.hid hb
    clear ho hb Hp
    go_wp2_with fail
    go_ret2
    exact ⟨v, rfl, Ho.out, Hb.out⟩
  · have hg : grownA h m n = ([], 3) := if_neg hc
    have hpa : placesA h m n = ([], false) := if_neg hc
    rw [hpa] at hp
    rw [hg]
    have Hp := Lib.hid hp
    clear hp hg hpa hc
    go_enter Tryd.func8, Tryd.ntmps8
    go_wp2_with fail
    refine Hp.out.mono ?_
    rintro e w2 ⟨v, rfl, ho, hb⟩
    have Hb := Lib.hid hb
    clear ho hb Hp
    go_wp2_with fail
    go_ret2
    exact ⟨_, rfl, World.ownsRow_nil _ _ _ _, Hb.out⟩
end Go.Proofs.YtfhmjgkcpcnkbaaDoor
