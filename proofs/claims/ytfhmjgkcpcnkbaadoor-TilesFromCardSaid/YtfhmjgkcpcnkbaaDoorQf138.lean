/- notarylaw14.TilesFrom. -/
import Derived.Test.YtfhmjgkcpcnkbaaDoorQf137
import Derived.Test.YtfhmjgkcpcnkbaaDoorQf130
import Derived.Test.YtfhmjgkcpcnkbaaDoorQf134
namespace Go.Proofs.YtfhmjgkcpcnkbaaDoor
open Go Go.RowKit
attribute [local go_sem] Oper.semAt_some

theorem leaves0_le (b : Nat) : ∀ ts : List TileV, (∀ t ∈ ts, t.2.2.length ≤ b) → (leaves0 ts).length ≤ ts.length * b
  | [], _ => by simp [leaves0]
  | t :: ts, h => by
    have h0 := leaves0_le b ts (fun x hx => h x (List.mem_cons_of_mem _ hx))
    have h1 := h t List.mem_cons_self
    have e : leaves0 (t :: ts) = (if t.1 = 0 then t.2.2 else []) ++ leaves0 ts := by simp [leaves0]
    rw [e, List.length_append, List.length_cons, Nat.succ_mul]
    split
    · omega
    · rw [List.length_nil]; omega
theorem fromT14_ok (z size : Int) (ts : List TileV) (h : (fromT14 z size ts).2 = 0) : 1 ≤ z ∧ z ≤ 8 ∧ (fromT14 z size ts).1 = leaves0 ts ∧ ((leaves0 ts).length : Int) = size := by
  unfold fromT14 at h ⊢
  split at h
  · exact absurd h (by decide)
  · rename_i h1
    rw [if_neg h1]
    split at h
    · exact absurd h (by decide)
    · rename_i h2
      rw [if_neg h2]
      split at h
      · rename_i h3
        rw [if_pos h3]
        exact ⟨by omega, by omega, rfl, by omega⟩
      · exact absurd h (by decide)
theorem rall_view (L : HL) (A : Option Addr) (n c h : Nat) (w : World) (hL : Hs w (fun _ => True) A n c L) (h1 : 1 ≤ h) (h8 : h ≤ 8) (hn : n ≤ 65536) :
    Calls Tryd.prog 22 #[.slice A n c, .int .i64 (h : Int)] w fun e w' => ∃ A' n' c', e = .returned (.slice A' n' c') ∧ Ts w' (fun _ => True) A' n' c' (tilesL h L) ∧ n' ≤ 1000000 ∧ Below w.heap.size w w' := by
  refine (rall_any L A n c h w hL h1 h8 hn).mono ?_
  rintro e w' ⟨v, rfl, ho, hb⟩
  obtain ⟨A', c', rfl, ht⟩ := ho.view
  have := tilesL_le h L h1
  have := hL.len
  exact ⟨A', _, c', rfl, ht.weak fun _ _ _ => trivial, by omega, hb⟩
theorem run_eqTnil {ρ : Operand → Value} {o : Oper} (x : Operand) (ty : TypeId) (v : Value) (bn : Bool) (hv : (v = .pointer none ∧ bn = true) ∨ ∃ p, v = .pointer (some ⟨p, 0, none⟩) ∧ bn = false) (ho : o.op = .binOp .eql 40 x (.const (.pointer none)) ty) (hx : ρ x = v) (hy : ρ (.const (.pointer none)) = .pointer none) (W : World) :
    (execOp ρ o).run Tryd.prog W = .ok (.value (.bool bn)) W := by
  rcases hv with ⟨rfl, rfl⟩ | ⟨p, rfl, rfl⟩
  · unfold execOp
    simp only [ho, hx, hy]
    go_simp
  · unfold execOp
    simp only [ho, hx, hy]
    go_simp
theorem mark_cell {W : World} {lo g n c : Nat} {rs : List TrV} (ho : W.ownsRow lo 38 3 (.slice (some ⟨g, 0, none⟩) (n + 1) c) (n + 1) (tcells_ (rs ++ [((99, 0, .slice none 0 0) : TrV)]))) (hl : rs.length = n) : W.cell? ⟨g, n * 3, none⟩ = some (.int .i64 99) := by
  subst hl
  have := head_cells ho (i := rs.length) (j := 0) (u := .int .i64 99) (by simp) (by simp [tcell])
  simpa using this
set_option maxHeartbeats 16000000 in
set_option maxRecDepth 100000 in
theorem tilesFrom_any (z size : Int) (A : Option Addr) (n c : Nat) (ts : List TileV) (W : World) (h : Ts W (fun _ => True) A n c ts) (hT : Tab W) (hsz : I64 size) :
    Calls Tryd.prog 4 #[.agg #[.int .i64 z, .int .i64 size, .slice A n c]] W fun e w' => e = .returned (.bool true) ∧ Below W.heap.size W w' := by
  have hl := h.len
  have hr := h.room
  unfold maxLen at hr
  obtain ⟨w1, hw1⟩ : ∃ x, W.alloc (.cells #[.int .i64 z, .int .i64 size, .slice A n c] 35) = x := ⟨_, rfl⟩
  have b1 : Below W.heap.size W w1 := by rw [← hw1]; exact (Below.refl _ _).alloc (Nat.le_refl _) _
  have k1 : Blk w1 W.heap.size 35 #[.int .i64 z, .int .i64 size, .slice A n c] := by rw [← hw1]; exact Blk.new _ _ _
  have l1 := k1.lt
  have c12 : w1.cell? ⟨W.heap.size, 2, none⟩ = some (.slice A n c) := by rw [k1.cell]; rfl
  have Hw1 := Lib.hid hw1
  have HT1 := Lib.hid (hT.step b1)
  have H1 := Lib.hid (h.step b1)
  have Hl := Lib.hid hl
  have B1 := Lib.hid b1
  have K1 := Lib.hid k1
  have h0w := hT.lt
  clear hw1 b1 k1 h hT hl
  by_cases hbig : 200 < n
  · have d1 : decide ((200 : Int) < (n : Int)) = true := by simp; omega
    have d2 : decide (200 < n) = true := by simpa using hbig
    clear hbig
    go_enter Tryd.func4, Tryd.ntmps4
    go_wp2_with (rw [Hw1.out])
    refine (works14_any _ HT1.out).mono ?_
    rintro e w2 ⟨rfl, hb2⟩
    have HB := Lib.hid (B1.out.trans (hb2.mono B1.out.size))
    clear hb2
    go_wp2_with fail
    go_ret
    exact ⟨rfl, HB.out⟩
  have d1 : decide ((200 : Int) < (n : Int)) = false := by simp; omega
  have d2 : decide (200 < n) = false := by simp; omega
  have hn200 : n ≤ 200 := by omega
  clear hbig
  go_enter Tryd.func4, Tryd.ntmps4
  go_wp2_with (rw [Hw1.out])
  clear d1 d2 c12
  go_loopw [3, 4] (fun v3 v4 wr => ∃ i : Nat, i ≤ n ∧ v4 = .int .i64 (i : Int) ∧ TkO wr w1.heap.size v3 (ts.take i) ∧ (∀ t ∈ ts.take i, t.2.2.length ≤ 300) ∧ Below w1.heap.size w1 wr) (fun _ v4 _ => n - (intOf v4).toNat)
  case atStart => exact ⟨0, Nat.zero_le _, rfl, TkO.nil _ _, by simp, Below.refl _ _⟩
  case round =>
    obtain ⟨i, hi, rfl, ho, hsm, hb⟩ := hrel
    have hz := hb.size
    have c12 : wr.cell? ⟨W.heap.size, 2, none⟩ = some (.slice A n c) := by rw [(K1.out.step hb).cell]; rfl
    have ho' := ho
    obtain ⟨rs0, hor, -⟩ := ho'.ex
    obtain ⟨A3, c3, hv3, hs3⟩ := owns_slv hor
    have hr3 := hs3.room
    have hm3 := hs3.max
    unfold maxLen at hm3
    obtain ⟨n3, hn3⟩ : ∃ k, (ts.take i).length = k := ⟨_, rfl⟩
    have hn3i : n3 ≤ i := by rw [← hn3, List.length_take]; omega
    clear ho' hor hs3
    by_cases hin : i < n
    · have hd : decide ((i : Int) < (n : Int)) = true := by simp; omega
      have hwi : IntKind.i64.wrap ((i : Int) + 1) = (i : Int) + 1 := IntWalk.i64_in _ (by omega)
      have hit : i < ts.length := by rw [Hl.out]; exact hin
      have hTs := H1.out.step hb
      obtain ⟨b, o, rfl, -, -, -⟩ := hTs.at_ (by omega)
      obtain ⟨Ax, cx, hcx, hhx, hldx⟩ := hTs.cells rfl i hit
      have hsn := tile_snoc ts i hit
      obtain ⟨⟨xl, xi, xh⟩, hx⟩ : ∃ x, ts[i] = x := ⟨_, rfl⟩
      rw [hx] at hcx hhx hldx hsn
      dsimp only at hcx hhx hldx
      obtain ⟨nx, hnx⟩ : ∃ k, xh.length = k := ⟨_, rfl⟩
      rw [hnx] at hcx hhx hldx
      have hrx := hhx.sl.room
      have hmx := hhx.sl.max
      unfold maxLen at hmx
      have cx2 : wr.cell? ⟨b, o + i * 3 + 2, none⟩ = some (.slice Ax nx cx) := (hcx wr (Below.refl _ _)).2.2
      have Hld := Lib.hid (hldx wr (Below.refl _ _))
      have Ho := Lib.hid ho
      have Hsm := Lib.hid hsm
      have Hb := Lib.hid hb
      have Hhx := Lib.hid hhx
      have Hnx := Lib.hid hnx
      have Hsn := Lib.hid hsn
      have Hn3 := Lib.hid hn3
      clear hcx hhx hldx hsn hx hnx ho hsm hb hTs hit hv3 hr3 hm3 hn3 c3 A3 rs0
      by_cases h300 : 300 < nx
      · have e1 : decide ((300 : Int) < (nx : Int)) = true := by simp; omega
        have e2 : decide (300 < nx) = true := by simpa using h300
        have HTw := Lib.hid (HT1.out.below Hb.out (by omega))
        clear h300
        go_wp2_with fail
        refine (works14_any _ HTw.out).mono ?_
        rintro e w2 ⟨rfl, hb2⟩
        have HB := Lib.hid ((B1.out.trans (Hb.out.mono B1.out.size)).trans (hb2.mono (Nat.le_trans B1.out.size hz)))
        clear hb2
        go_wp2_with fail
        go_ret
        exact ⟨rfl, HB.out⟩
      · have e1 : decide ((300 : Int) < (nx : Int)) = false := by simp; omega
        have e2 : decide (300 < nx) = false := by simpa using h300
        go_upto_region 10 with (first
          | ((with_reducible show wpList _ _ _ (⟨some 38, .load _ _, _, _, _, _⟩ :: _) _ _); refine wpList_run rfl (.agg #[.int .i64 xl, .int .i64 xi, .slice Ax nx cx]) wr (run_load_op 38 (.tmp 37) rfl b (o + i * 3) rfl _ Hld.out) ?_; simp only [Act.put, List.setIfInBounds_toArray, List.set_cons_succ, List.set_cons_zero])
          | ((with_reducible show wpList _ _ _ (⟨some 5, .alloc _, _, _, _, _⟩ :: _) _ _); refine wpList_tvar xl xi Ax nx cx (.tmp 5) (.tmp 38) rfl rfl rfl rfl rfl rfl ?_; intro w5 k5 hb5; simp only [Act.put, List.setIfInBounds_toArray, List.set_cons_succ, List.set_cons_zero]))
        have c52 : w5.cell? ⟨wr.heap.size, 2, none⟩ = some (.slice Ax nx cx) := by rw [k5.cell]; rfl
        have hk5 := k5.lt
        have K5 := Lib.hid k5
        have Hb5 := Lib.hid hb5
        clear k5 hb5 cx2 c12 Hld e1 e2
        go_wp2_with fail
        refine (row14_any xh Ax nx cx w5 (Hhx.out.step Hb5.out) (by omega)).mono ?_
        rintro e w6 ⟨g, c', rfl, ho6, hb6⟩
        have k6 := K5.out.step hb6
        have d52 : w6.cell? ⟨wr.heap.size, 2, none⟩ = some (.slice Ax nx cx) := by rw [k6.cell]; rfl
        have f52 := k6.frozen 2
        have k7 := k6.set_ 2 (.slice (some ⟨g, 0, none⟩) nx c')
        have hg6 := (ho6.lt g rfl).1
        have ho7 : (w6.setCell ⟨wr.heap.size, 2, none⟩ (.slice (some ⟨g, 0, none⟩) nx c')).ownsRow wr.heap.size 48 32 (.slice (some ⟨g, 0, none⟩) (nx + 1) c') (nx + 1) (hcells (xh ++ [oneHash 165])) :=
          owns_le (ho6.kept (grown_setCell (World.grownBy.refl _ _) 2 _) (.inr fun e => by have : g = wr.heap.size := Option.some.inj e; omega)) (by omega)
        have hb7 : Below wr.heap.size wr (w6.setCell ⟨wr.heap.size, 2, none⟩ (.slice (some ⟨g, 0, none⟩) nx c')) := (Hb5.out.trans (hb6.mono Hb5.out.size)).setCell (p := ⟨wr.heap.size, 2, none⟩) (Nat.le_refl _) _
        obtain ⟨w7, hw7⟩ : ∃ x, w6.setCell ⟨wr.heap.size, 2, none⟩ (.slice (some ⟨g, 0, none⟩) nx c') = x := ⟨_, rfl⟩
        rw [hw7] at k7 ho7 hb7
        have k7' : Blk w7 wr.heap.size 38 #[.int .i64 xl, .int .i64 xi, .slice (some ⟨g, 0, none⟩) nx c'] := k7
        have hnx := Hnx.out
        subst hnx
        obtain ⟨A', c2, W8, hra, hok, hbA⟩ := Ho.out.app (t := (xl, xi, xh)) hb7 hz (by have := Hn3.out; omega) ho7 Hhx.out.all
        rw [← Hsn.out] at hok
        rw [Hn3.out] at hra hok
        have Hw7 := Lib.hid hw7
        have Hra := Lib.hid hra
        have Hok := Lib.hid hok
        have HbA := Lib.hid ((Hb.out.trans (hb7.mono hz)).trans (hbA.mono (Nat.le_refl _)))
        have Hld7 := Lib.hid (run_load_blk (P := Tryd.prog) (aggTile _) (sizeTile _) wr.heap.size _ rfl k7')
        clear hra hok hbA k7 k7' ho7 hb7 hw7 k6 ho6 hb6 c52
        go_wp2_with (first
          | rw [Hw7.out]
          | ((with_reducible show wpList _ _ _ (⟨some 44, .load _ _, _, _, _, _⟩ :: _) _ _); refine wpList_run rfl _ w7 (run_load_op 38 (.tmp 5) rfl wr.heap.size 0 rfl _ Hld7.out) ?_; simp only [Act.put, List.setIfInBounds_toArray, List.set_cons_succ, List.set_cons_zero])
          | ((with_reducible show wpList _ _ _ (⟨some 45, .buildSlice _ _ _, _, _, _, _⟩ :: _) _ _); refine wpList_run rfl _ _ (run_litTile_op (.tmp 44) xl xi (some ⟨g, 0, none⟩) xh.length c' rfl rfl _) ?_; simp only [Act.put, List.setIfInBounds_toArray, List.set_cons_succ, List.set_cons_zero])
          | ((with_reducible show wpList _ _ _ (⟨some 46, .call _, _, _, _, _⟩ :: _) _ _); refine wpList_run rfl _ W8 (run_append_op (.tmp 43) (.tmp 45) 33 rfl _ _ rfl rfl Hra.out) ?_; simp only [Act.put, List.setIfInBounds_toArray, List.set_cons_succ, List.set_cons_zero]))
        go_roundw
        case rel =>
          refine ⟨i + 1, by omega, by go_num, Hok.out, ?_, HbA.out⟩
          intro t ht
          rw [Hsn.out] at ht
          rcases List.mem_append.1 ht with ht | ht
          · exact Hsm.out t ht
          · rw [List.mem_singleton.1 ht]
            show xh.length ≤ 300
            omega
        case measure => simp [intOf]; omega
    · obtain rfl : i = n := by omega
      have hd : decide ((i : Int) < (i : Int)) = false := by simp
      have htk : ts.take i = ts := List.take_of_length_le (by rw [Hl.out]; exact Nat.le_refl _)
      rw [htk] at ho hsm hn3
      rw [Hl.out] at hn3
      subst hn3
      obtain ⟨g, c9, rs, w9, hra, ho9, hm9, hb9⟩ := ho.mark hz (by rw [Hl.out]; omega)
      rw [Hl.out] at hra ho9
      rw [htk, Hl.out] at hv3
      have hrv := (owns_slv ho9)
      obtain ⟨A9, c9', he9, hs9⟩ := hrv
      have hr9 := hs9.room
      have hmm9 := hs9.max
      unfold maxLen at hmm9
      have hcc : c9' = c9 := by injection he9 with _ _ e3; exact e3.symm
      rw [hcc] at hr9 hmm9
      subst hv3
      have Hra := Lib.hid hra
      have HO9 := Lib.hid ho9
      have HM9 := Lib.hid hm9
      have HB9 := Lib.hid (hb.trans hb9)
      have Hsm := Lib.hid hsm
      clear hra ho9 hm9 hb9 hb ho hsm hs9 he9 htk hcc
      go_upto_region 13 with (first
        | ((with_reducible show wpList _ _ _ (⟨some 48, .build _ _, _, _, _, _⟩ :: _) _ _); refine wpList_run0 rfl (.agg #[.int .i64 99, .int .i64 0, .slice none 0 0]) (by kernel_rfl) ?_; simp only [Act.put, List.setIfInBounds_toArray, List.set_cons_succ, List.set_cons_zero])
        | ((with_reducible show wpList _ _ _ (⟨some 49, .buildSlice _ _ _, _, _, _, _⟩ :: _) _ _); refine wpList_run rfl _ _ (run_litTile_op (.tmp 48) 99 0 none 0 0 rfl rfl _) ?_; simp only [Act.put, List.setIfInBounds_toArray, List.set_cons_succ, List.set_cons_zero])
        | ((with_reducible show wpList _ _ _ (⟨some 50, .call _, _, _, _, _⟩ :: _) _ _); refine wpList_run rfl _ w9 (run_append_op (.tmp 47) (.tmp 49) 33 rfl _ _ rfl rfl Hra.out) ?_; simp only [Act.put, List.setIfInBounds_toArray, List.set_cons_succ, List.set_cons_zero]))
      clear hd c12 Hra
      have hrl : rs.length = i := HM9.out.len.trans Hl.out
      have hlv : (leaves0 ts).length ≤ 65536 := by
        have := leaves0_le 300 ts Hsm.out
        rw [Hl.out] at this
        omega
      have hfr := tfrom_any z size ts _ i c9 w9 ((HM9.out.view Hl.out HO9.out).weak fun _ _ _ => trivial) (by omega) (fun t ht => by have := Hsm.out t ht; omega) hlv hsz
      obtain ⟨⟨L, er⟩, hres⟩ : ∃ r, fromT14 z size ts = r := ⟨_, rfl⟩
      have hrf : ∀ V, Below w9.heap.size w9 V → Calls Tryd.prog 13 #[.int .i64 z, .int .i64 size, .slice A i c] V fun e w' => ∃ v, e = .returned (.tuple #[v, .int .i64 er]) ∧ w'.ownsRow V.heap.size 48 32 v L.length (hcells L) ∧ Below V.heap.size V w' := fun V hV => by
        have h := rfrom_any z size ts A i c V ((H1.out.step HB9.out).step hV) (by omega) (fun t ht => by have := Hsm.out t ht; omega) hlv hsz
        rw [hres] at h
        exact h
      rw [hres] at hfr
      have hok := fromT14_ok z size ts
      rw [hres] at hok
      dsimp only at hok
      have k9 := K1.out.step HB9.out
      have c90 : w9.cell? ⟨W.heap.size, 0, none⟩ = some (.int .i64 z) := by rw [k9.cell]; rfl
      have c91 : w9.cell? ⟨W.heap.size, 1, none⟩ = some (.int .i64 size) := by rw [k9.cell]; rfl
      have hlow : ∀ j (h1 : j < rs.length) k, (rs[j]).2.2.ownBlock = some k → k < w9.heap.size := fun j h1 k hk => by
        obtain ⟨-, -, g', c', e3, e4⟩ := HM9.out.row j h1 (by rw [Hl.out, ← hrl]; exact h1)
        rw [e3] at hk
        exact ((e4 (Nat.zero_le _)).lt k hk).2
      have h32 : er = 0 → H32 L := fun h => by rw [(hok h).2.2.1]; exact leaves0_32 H1.out
      have Hfr := Lib.hid hfr
      have Hrf := Lib.hid hrf
      have Hok := Lib.hid hok
      have H32_ := Lib.hid h32
      have Hlow := Lib.hid hlow
      have Hrl := Lib.hid hrl
      clear hfr hrf hok hlow h32 hlv hres k9 hrl
      go_wp2_with fail
      refine Hfr.out.mono ?_
      rintro e wa ⟨v6, rfl, hba, hor⟩
      dsimp only at hor ⊢
      have ka := (K1.out.step HB9.out).step hba
      have ca0 : wa.cell? ⟨W.heap.size, 0, none⟩ = some (.int .i64 z) := by rw [ka.cell]; rfl
      have ca1 : wa.cell? ⟨W.heap.size, 1, none⟩ = some (.int .i64 size) := by rw [ka.cell]; rfl
      have ca2 : wa.cell? ⟨W.heap.size, 2, none⟩ = some (.slice A i c) := by rw [ka.cell]; rfl
      have hza := hba.size
      have Hor := Lib.hid hor
      have Hba := Lib.hid hba
      clear hor hba ka c90 c91 Hfr
      go_wp2_with fail
      refine (Hrf.out wa Hba.out).mono ?_
      rintro e wb ⟨v8, rfl, ho8, hbb⟩
      obtain ⟨A8, c8, rfl, -⟩ := owns_slv ho8
      obtain ⟨bn, hbn⟩ : ∃ b, (er != 0) = b := ⟨_, rfl⟩
      have hnil : (v6 = .pointer none ∧ bn = true) ∨ ∃ p, v6 = .pointer (some ⟨p, 0, none⟩) ∧ bn = false := by
        rcases Hor.out with ⟨h1, h2⟩ | ⟨h1, lo, p, m, f, -, h2, -⟩
        · exact .inl ⟨h2, by rw [← hbn]; simpa using h1⟩
        · exact .inr ⟨p, h2, by rw [← hbn]; simp [h1]⟩
      have Hnil := Lib.hid hnil
      clear hnil
      have hob := owns_step (owns_step HO9.out Hba.out) hbb
      have c94 : wb.cell? ⟨g, i * 3, none⟩ = some (.int .i64 99) := mark_cell hob Hrl.out
      have hmb := (HM9.out.step Hba.out).step hbb
      have hzb := hbb.size
      have hBb : Below w1.heap.size w1 wb := (HB9.out.trans (Hba.out.mono HB9.out.size)).trans (hbb.mono (Nat.le_trans HB9.out.size hza))
      have hz19 := HB9.out.size
      have hwn : IntKind.i64.wrap ((i : Int) + 1) = (i : Int) + 1 := IntWalk.i64_in _ (by omega)
      have herr : (er != er) = false := by simp
      have hbnn : (bn != bn) = false := by simp
      have Ho8 := Lib.hid ho8
      have Hbb := Lib.hid hbb
      have Hob := Lib.hid hob
      have Hmb := Lib.hid hmb
      have HBb := Lib.hid hBb
      have HTb := Lib.hid (HT1.out.below hBb (by omega))
      have Hts := Lib.hid ((H1.out.lt).step hBb)
      have Kb := Lib.hid (K1.out.step hBb)
      have Hbn := Lib.hid hbn
      clear ho8 hbb hob hmb hBb ca0 ca1 ca2 Hrf
      go_wp2_with (first | ((with_reducible show wpList _ _ _ (⟨some 79, .binOp _ _ _ _ _, _, _, _, _⟩ :: _) _ _); refine wpList_runG (by kernel_rfl) (.bool bn) _ (run_eqTnil (.tmp 78) _ v6 bn Hnil.out rfl rfl rfl _) ?_; simp only [Act.put, List.setIfInBounds_toArray, List.set_cons_succ, List.set_cons_zero]) | (go_at_call 9; refine (num14_any _ _).mono ?_; rintro e w2 ⟨rfl, hw⟩; obtain rfl := hw))
      clear c94 hwn herr hbnn Hnil
      go_loopw [10] (fun v10 wr => ∃ q : Nat, q ≤ i ∧ v10 = .int .i64 (q : Int) ∧ KB (fun b => w1.heap.size ≤ b ∧ b < w9.heap.size) wb wr ∧ wr.ownsRow w1.heap.size 38 3 (.slice (some ⟨g, 0, none⟩) (i + 1) c9) (i + 1) (tcells_ (rs ++ [((99, 0, .slice none 0 0) : TrV)])) ∧ TMk wr w1.heap.size q rs ts) (fun v10 _ => i - (intOf v10).toNat)
      case atStart => exact ⟨0, Nat.zero_le _, rfl, KB.refl _ _, Hob.out, Hmb.out⟩
      case round =>
        obtain ⟨q, hq, rfl, hkb, hoq, hmq⟩ := hrel
        have hzq := hkb.size
        by_cases hqi : q < i
        · have hd : decide ((q : Int) < (i : Int)) = true := by simp; omega
          have hwq : IntKind.i64.wrap ((q : Int) + 1) = (q : Int) + 1 := IntWalk.i64_in _ (by omega)
          have hqr : q < rs.length := by rw [Hrl.out]; exact hqi
          have hqt : q < ts.length := by rw [Hl.out]; exact hqi
          have hTs := (Hts.out.kb hkb fun b _ hx hm => by have := hx.2; have := hm.1; omega).weak (Y := fun _ => True) fun _ _ _ => trivial
          have hkB := hkb.blk Kb.out (fun hm => by have := hm.1; omega)
          obtain ⟨b, o, rfl, -, -, -⟩ := hTs.at_ (by omega)
          obtain ⟨Ax, cx, hcx, hhx, -⟩ := hTs.cells rfl q hqt
          obtain ⟨e1, e2, gq, cq, e3, e4⟩ := hmq.row q hqr hqt
          have hro : (rs ++ [((99, 0, .slice none 0 0) : TrV)])[q]'(by simp; omega) = rs[q] := List.getElem_append_left hqr
          have hh32 := hmq.all q hqt
          obtain ⟨⟨xl, xi, xh⟩, hx⟩ : ∃ x, ts[q] = x := ⟨_, rfl⟩
          rw [hx] at hcx hhx e1 e2 e3 e4 hh32
          dsimp only at hcx hhx e1 e2 e3 e4 hh32
          obtain ⟨nx, hnx⟩ : ∃ k, xh.length = k := ⟨_, rfl⟩
          have hsx := Hsm.out _ (List.getElem_mem hqt)
          rw [hx] at hsx
          dsimp only at hsx
          rw [hnx] at hcx hhx e3 e4 hsx
          have hcell : ∀ V, Below wr.heap.size wr V → V.cell? ⟨g, q * 3, none⟩ = some (.int .i64 xl) ∧ V.cell? ⟨g, q * 3 + 1, none⟩ = some (.int .i64 xi) ∧ V.cell? ⟨g, q * 3 + 2, none⟩ = some (.slice (some ⟨gq, 0, none⟩) nx cq) := fun V hV => by
            have ho := owns_step hoq hV
            refine ⟨head_cells ho (i := q) (j := 0) (by simp; omega) (by rw [hro, ← e1]; rfl), head_cells ho (i := q) (j := 1) (by simp; omega) (by rw [hro, ← e2]; rfl), head_cells ho (i := q) (j := 2) (by simp; omega) (by rw [hro, ← e3]; rfl)⟩
          have hrow := e4 (Nat.le_refl q)
          have hmk : Hs wr (fun _ => True) (some ⟨gq, 0, none⟩) (nx + 1) cq (xh ++ [oneHash 165]) := by
            obtain ⟨A', c', e, hs⟩ := owns_slv hrow
            cases e
            exact ⟨hs.weak fun _ _ _ => trivial, by rw [List.length_append, hnx]; rfl, fun x hx => by
              rcases List.mem_append.1 hx with hx | hx
              · exact hh32 x hx
              · rw [List.mem_singleton.1 hx]; rfl⟩
          have hleft := fun V (hV : Below wr.heap.size wr V) => left14_any xh gq Ax nx cq cx V (hmk.step hV) (hhx.step hV) (by omega)
          have hgq := (hrow.lt gq rfl).1
          have hgl := Hlow.out q hqr gq (by rw [e3]; rfl)
          have hown : (rs[q]).2.2.ownBlock = some gq := by rw [e3]; rfl
          have hrm := hTs.room
          unfold maxLen at hrm
          have c109 : ∀ s : InC (fun V => Below wr.heap.size wr V), s.W.cell? ⟨W.heap.size, 2, none⟩ = some (.slice (some ⟨b, o, none⟩) i c) := fun s => by rw [(hkB.step s.ok).cell]; rfl
          have c107 : ∀ s : InC (fun V => Below wr.heap.size wr V), s.W.cell? ⟨g, q * 3, none⟩ = some (.int .i64 xl) := fun s => (hcell s.W s.ok).1
          have c120 : ∀ s : InC (fun V => Below wr.heap.size wr V), s.W.cell? ⟨g, q * 3 + 1, none⟩ = some (.int .i64 xi) := fun s => (hcell s.W s.ok).2.1
          have c134 : ∀ s : InC (fun V => Below wr.heap.size wr V), s.W.cell? ⟨g, q * 3 + 2, none⟩ = some (.slice (some ⟨gq, 0, none⟩) nx cq) := fun s => (hcell s.W s.ok).2.2
          have c113 : ∀ s : InC (fun V => Below wr.heap.size wr V), s.W.cell? ⟨b, o + q * 3, none⟩ = some (.int .i64 xl) := fun s => (hcx s.W s.ok).1
          have c126 : ∀ s : InC (fun V => Below wr.heap.size wr V), s.W.cell? ⟨b, o + q * 3 + 1, none⟩ = some (.int .i64 xi) := fun s => (hcx s.W s.ok).2.1
          have c140 : ∀ s : InC (fun V => Below wr.heap.size wr V), s.W.cell? ⟨b, o + q * 3 + 2, none⟩ = some (.slice Ax nx cx) := fun s => (hcx s.W s.ok).2.2
          have hS : Below wr.heap.size wr wr.drew := (Below.refl _ _).drew
          have b1_ : (xl != xl) = false := by simp
          have b2_ : (xi != xi) = false := by simp
          have Hb1 := Lib.hid b1_
          have Hb2 := Lib.hid b2_
          have Hleft := Lib.hid hleft
          have Hcell := Lib.hid hcell
          have Hrow := Lib.hid hrow
          have Hown := Lib.hid hown
          have Hkb := Lib.hid hkb
          have Hoq := Lib.hid hoq
          have Hmq := Lib.hid hmq
          have Hqr := Lib.hid hqr
          clear hTs hkB hcx hhx e1 e2 e3 e4 hro hh32 hx hnx hcell hrow hmk hleft hown b1_ b2_ hkb hoq hmq hqt
          go_upto_region 20 with fail
          refine wp_region_mix (fun V => Below wr.heap.size wr V) [(0, true), (1, true), (2, true), (3, true), (4, true), (5, true), (6, true), (7, true), (8, true), (9, true), (10, true), (11, true), (12, true), (13, true), (14, true), (15, true), (16, true), (17, true), (18, true), (19, true), (20, true), (21, true), (22, true), (23, true), (24, true), (25, true), (26, true), (27, true), (28, true), (29, true), (30, true), (31, true), (32, true), (33, true), (34, true), (35, true), (36, true), (37, true), (38, false), (39, true), (40, true)] (by kernel_rfl) (by kernel_rfl) hS fun _ => ?_
          simp only [List.map_cons, List.map_nil, Array.getD_eq_getD_getElem?, List.getElem?_toArray, List.getElem?_cons_succ, List.getElem?_cons_zero, Option.getD_some]
          generalize wr.drew = Z20 at hS ⊢
          refine wpMix_s (fun K hK => ?_)
          go_simp
          refine hK _ ?_
          clear hK K
          refine wpMix_s (fun K hK => ?_)
          go_simp
          refine hK _ ?_
          clear hK K
          refine wpMix_s (fun K hK => ?_)
          go_simp
          refine hK _ ?_
          clear hK K
          refine wpMix_s (fun K hK => ?_)
          go_simp
          refine hK _ ?_
          clear hK K
          refine wpMix_s (fun K hK => ?_)
          go_simp
          refine hK _ ?_
          clear hK K
          refine wpMix_s (fun K hK => ?_)
          go_simp
          refine hK _ ?_
          clear hK K
          refine wpMix_s (fun K hK => ?_)
          go_simp
          refine hK _ ?_
          clear hK K
          refine wpMix_s (fun K hK => ?_)
          go_simp
          refine hK _ ?_
          clear hK K
          refine wpMix_s (fun K hK => ?_)
          go_simp
          refine hK _ ?_
          clear hK K
          refine wpMix_s (fun K hK => ?_)
          go_simp
          refine hK _ ?_
          clear hK K
          refine wpMix_s (fun K hK => ?_)
          go_simp
          refine hK _ ?_
          clear hK K
          refine wpMix_v (by kernel_rfl) (.bool false) (fun s => run_neqI_op (.tmp 107) (.tmp 113) _ xl xl false rfl rfl rfl Hb1.out s.W) ?_
          simp only [Act.put, List.setIfInBounds_toArray, List.set_cons_succ, List.set_cons_zero]
          refine wpMix_s (fun K hK => ?_)
          go_simp
          refine hK _ ?_
          clear hK K
          refine wpMix_s (fun K hK => ?_)
          go_simp
          refine hK _ ?_
          clear hK K
          refine wpMix_s (fun K hK => ?_)
          go_simp
          refine hK _ ?_
          clear hK K
          refine wpMix_s (fun K hK => ?_)
          go_simp
          refine hK _ ?_
          clear hK K
          refine wpMix_s (fun K hK => ?_)
          go_simp
          refine hK _ ?_
          clear hK K
          refine wpMix_s (fun K hK => ?_)
          go_simp
          refine hK _ ?_
          clear hK K
          refine wpMix_s (fun K hK => ?_)
          go_simp
          refine hK _ ?_
          clear hK K
          refine wpMix_s (fun K hK => ?_)
          go_simp
          refine hK _ ?_
          clear hK K
          refine wpMix_s (fun K hK => ?_)
          go_simp
          refine hK _ ?_
          clear hK K
          refine wpMix_s (fun K hK => ?_)
          go_simp
          refine hK _ ?_
          clear hK K
          refine wpMix_s (fun K hK => ?_)
          go_simp
          refine hK _ ?_
          clear hK K
          refine wpMix_s (fun K hK => ?_)
          go_simp
          refine hK _ ?_
          clear hK K
          refine wpMix_v (by kernel_rfl) (.bool false) (fun s => run_neqI_op (.tmp 120) (.tmp 126) _ xi xi false rfl rfl rfl Hb2.out s.W) ?_
          simp only [Act.put, List.setIfInBounds_toArray, List.set_cons_succ, List.set_cons_zero]
          refine wpMix_s (fun K hK => ?_)
          go_simp
          refine hK _ ?_
          clear hK K
          refine wpMix_s (fun K hK => ?_)
          go_simp
          refine hK _ ?_
          clear hK K
          refine wpMix_s (fun K hK => ?_)
          go_simp
          refine hK _ ?_
          clear hK K
          refine wpMix_s (fun K hK => ?_)
          go_simp
          refine hK _ ?_
          clear hK K
          refine wpMix_s (fun K hK => ?_)
          go_simp
          refine hK _ ?_
          clear hK K
          refine wpMix_s (fun K hK => ?_)
          go_simp
          refine hK _ ?_
          clear hK K
          refine wpMix_s (fun K hK => ?_)
          go_simp
          refine hK _ ?_
          clear hK K
          refine wpMix_s (fun K hK => ?_)
          go_simp
          refine hK _ ?_
          clear hK K
          refine wpMix_s (fun K hK => ?_)
          go_simp
          refine hK _ ?_
          clear hK K
          refine wpMix_s (fun K hK => ?_)
          go_simp
          refine hK _ ?_
          clear hK K
          refine wpMix_s (fun K hK => ?_)
          go_simp
          refine hK _ ?_
          clear hK K
          refine wpMix_s (fun K hK => ?_)
          go_simp
          refine hK _ ?_
          clear hK K
          refine wpMix_s (fun K hK => ?_)
          go_simp
          refine hK _ ?_
          clear hK K
          refine wpMix_c (fun K hK => ?_) hS
          go_simp
          refine (Hleft.out Z20 hS).mono ?_
          rintro e Z20_1 ⟨rfl, hb'⟩
          refine hK _ _ ?_
          clear hK K
          replace hS := hS.trans (hb'.mono hS.size)
          refine ⟨hS, ?_⟩
          clear hb'
          refine wpMix_s (fun K hK => ?_)
          go_simp
          refine hK _ ?_
          clear hK K
          refine wpMix_s (fun K hK => ?_)
          go_simp
          refine hK _ ?_
          clear hK K
          refine wpMix_nil ?_
          intro _
          generalize Z20_1 = W3 at *
          have c148 : W3.cell? ⟨g, q * 3 + 2, none⟩ = some (.slice (some ⟨gq, 0, none⟩) nx cq) := (Hcell.out _ hS).2.2
          have hz3 := hS.size
          have ho3 := owns_step Hrow.out hS
          have hsp := spoilt14_any W3 w1.heap.size nx (.slice (some ⟨gq, 0, none⟩) nx cq) _ (owns_few14 ho3 (Nat.le_succ nx)) (by omega) (by omega)
          have hoq3 := owns_step Hoq.out hS
          have Hsp := Lib.hid hsp
          have Ho3 := Lib.hid ho3
          have Hoq3 := Lib.hid hoq3
          have Hmq3 := Lib.hid (Hmq.out.step hS)
          have Hkb3 := Lib.hid (Hkb.out.trans (KB.of_below hS))
          clear hS hsp ho3 hoq3 c107 c109 c120 c134 c113 c126 c140 Hleft Hcell
          go_wp2_with fail
          refine Hsp.out.mono ?_
          rintro e W4 ⟨rfl, hg4⟩
          have hm4 := Hmq3.out.spoil Hqr.out Hown.out hg4
          have ho4 := Hoq3.out.kept hg4 (.inr fun e => own_two Hoq3.out Ho3.out (by decide) e rfl)
          have hk4 := Hkb3.out.trans (KB.of_grown (M := fun b => w1.heap.size ≤ b ∧ b < w9.heap.size) hg4 fun r hr => by cases hr; exact ⟨hgq, hgl⟩)
          have Hm4 := Lib.hid hm4
          have Ho4 := Lib.hid ho4
          have Hk4 := Lib.hid hk4
          clear hm4 ho4 hk4 hg4 c148
          go_wp2_with fail
          go_roundw
          case rel => exact ⟨q + 1, by omega, by go_num, Hk4.out, Ho4.out, Hm4.out⟩
          case measure => simp [intOf]; omega
        · obtain rfl : q = i := by omega
          have hd : decide ((q : Int) < (q : Int)) = false := by simp
          have hTX := HTb.out.kb hkb (fun hm => by have := hm.1; omega)
          have BX := B1.out.trans ((HBb.out.trans (hkb.below (fun b hb => hb.1) (by omega))).mono B1.out.size)
          clear hoq hmq
          by_cases her : er = 0
          · subst her
            have hok := Hok.out rfl
            obtain ⟨h0, rfl⟩ : ∃ k : Nat, z = k := ⟨z.toNat, by omega⟩
            have hh1 : 1 ≤ h0 := by omega
            have hh8 : h0 ≤ 8 := by omega
            obtain ⟨k, hk⟩ : ∃ k, L.length = k := ⟨_, rfl⟩
            obtain rfl : size = (k : Int) := by rw [← hk, hok.2.2.1]; exact hok.2.2.2.symm
            have hk5 : k ≤ 65536 := by
              have := leaves0_le 300 ts Hsm.out
              rw [← hok.2.2.1, hk, Hl.out] at this
              omega
            rcases Hor.out with ⟨h1, -⟩ | ⟨-, lo2, p, m2, f, hlo2, h2, hti⟩
            · exact absurd rfl h1
            subst h2
            rw [Int.toNat_natCast] at hti
            have htX := (hti.step Hbb.out).kb hkb fun b hb hm => by have := (hti.t.ltR b hb).1; have := hm.2; omega
            have hoX := hkb.own Ho8.out (fun b hb hm => by have := (Ho8.out.lt b hb).1; have := hm.2; omega)
            obtain ⟨A8', c8', e8, hs8⟩ := owns_slv hoX
            have h32 := H32_.out rfl
            have hHL : Hs wr (fun _ => True) A8 k c8 L := by
              injection e8 with x1 x2 x3
              subst x1
              subst x3
              rw [← hk]
              exact ⟨hs8.weak fun _ _ _ => trivial, rfl, h32⟩
            have hroot : rootT L (k : Int) = (rootL L, 0) := by
              unfold rootT
              rw [if_pos ⟨by omega, by omega⟩, Int.toNat_natCast, ← hk, List.take_of_length_le (Nat.le_refl _)]
            have hrt := tRoot_any lo2 p m2 h0 f L (k : Int) wr htX hTX
            rw [hroot] at hrt
            dsimp only at hrt
            have hkX := hkb.blk Kb.out (fun hm => by have := hm.1; omega)
            have hrlen : (rootL L).length = 32 := length_rootL _ h32
            obtain ⟨r, hr⟩ : ∃ r, rootL L = r := ⟨_, rfl⟩
            have c0 : wr.cell? ⟨W.heap.size, 1, none⟩ = some (.int .i64 (k : Int)) := by rw [hkX.cell]; rfl
            rw [hr] at hrt hrlen
            have Hrlen := Lib.hid hrlen
            have Hr := Lib.hid hr
            have Hrt := Lib.hid hrt
            have HtX := Lib.hid htX
            have HTX := Lib.hid hTX
            have HkX := Lib.hid hkX
            have HBX := Lib.hid BX
            have HHL := Lib.hid hHL
            have hrL := hHL.sl.room
            have hmL := hHL.sl.max
            rw [hk] at Ho8
            unfold maxLen at hmL
            have Hk := Lib.hid hk
            rw [hk]
            clear hok hrlen hr hrt htX hTX hkX BX hHL h32 hs8 hoX e8 hroot hti hkb hk Ho8 Hor Hbb Hok
            go_wp2_with fail
            refine Hrt.out.mono ?_
            rintro e wR ⟨rfl, hbR⟩
            have HbR := Lib.hid hbR
            clear hbR c0 Hrt
            go_upto_region 26 with ((with_reducible show wpList _ _ _ (⟨some 11, .alloc _, _, _, _, _⟩ :: _) _ _); refine wpList_hvar (.tmp 11) (.tmp 158) rfl rfl rfl rfl rfl rfl Hrlen.out ?_; intro wX k11 hbX; simp only [Act.put, List.setIfInBounds_toArray, List.set_cons_succ, List.set_cons_zero])
            have hXq := HbR.out.trans (hbX.mono HbR.out.size)
            have htX := HtX.out.step hXq
            have hTX := HTX.out.step hXq
            have hkX := HkX.out.step hXq
            have hHL := HHL.out.step hXq
            have hBX := HBX.out.trans (hXq.mono HBX.out.size)
            have c163 : ∀ s : InC (fun V => Below wX.heap.size wX V), s.W.cell? ⟨W.heap.size, 1, none⟩ = some (.int .i64 (k : Int)) := fun s => by rw [(hkX.step s.ok).cell]; rfl
            have c169 : ∀ s : InC (fun V => Below wX.heap.size wX V), s.W.cell? ⟨W.heap.size, 0, none⟩ = some (.int .i64 (h0 : Int)) := fun s => by rw [(hkX.step s.ok).cell]; rfl
            have hsz_ : ∀ V, Below wX.heap.size wX V → Calls Tryd.prog 17 #[.pointer (some ⟨p, 0, none⟩)] V fun e w' => e = .returned (.int .i64 (k : Int)) ∧ w' = V := fun V hV => by rw [← Hk.out]; exact tsize_any (htX.step hV)
            have Hsz := Lib.hid hsz_
            have hrr : ∀ V, Below wX.heap.size wX V → Calls Tryd.prog 19 #[.slice A8 k c8] V fun e w' => e = .returned (.agg (r.map B).toArray) ∧ Below V.heap.size V w' := fun V hV => by rw [← Hr.out]; exact r11root_any L A8 k c8 V (hHL.step hV) (by omega)
            have Hrr := Lib.hid hrr
            have HtX2 := Lib.hid htX
            have HTX2 := Lib.hid hTX
            have HHL2 := Lib.hid hHL
            have HBX2 := Lib.hid hBX
            have K11 := Lib.hid k11
            have hS : Below wX.heap.size wX wX.drew := (Below.refl _ _).drew
            generalize wR.heap.size = gR at K11 ⊢
            clear hXq htX hTX hkX hHL hBX k11 hbX hsz_ hrr HtX HTX HkX HBX HHL HbR
            refine wp_region_mix (fun V => Below wX.heap.size wX V) [(0, true), (2, true), (3, true), (1, false), (4, true), (5, true), (6, true), (8, true), (9, true), (7, false), (10, true), (11, true), (12, true), (13, true), (14, true), (15, false), (16, true), (17, true), (18, true), (19, true), (20, false), (21, true), (22, true), (23, true), (24, true), (26, true), (27, true), (28, true), (25, false), (29, false), (30, false), (31, true), (32, true), (33, false), (34, true), (35, true)] (by kernel_rfl) (by kernel_rfl) hS fun _ => ?_
            simp only [List.map_cons, List.map_nil, Array.getD_eq_getD_getElem?, List.getElem?_toArray, List.getElem?_cons_succ, List.getElem?_cons_zero, Option.getD_some]
            generalize wX.drew = Z26 at hS ⊢
            refine wpMix_s (fun K hK => ?_)
            go_simp
            refine hK _ ?_
            clear hK K
            refine wpMix_s (fun K hK => ?_)
            go_simp
            refine hK _ ?_
            clear hK K
            refine wpMix_s (fun K hK => ?_)
            go_simp
            refine hK _ ?_
            clear hK K
            refine wpMix_c (fun K hK => ?_) hS
            go_simp
            refine (Hsz.out Z26 hS).mono ?_
            rintro e Z26e ⟨rfl, hww⟩
            obtain rfl := hww.symm
            refine hK _ _ ?_
            clear hK K
            refine ⟨hS, ?_⟩
            refine wpMix_s (fun K hK => ?_)
            go_simp
            refine hK _ ?_
            clear hK K
            refine wpMix_s (fun K hK => ?_)
            go_simp
            refine hK _ ?_
            clear hK K
            refine wpMix_s (fun K hK => ?_)
            go_simp
            refine hK _ ?_
            clear hK K
            refine wpMix_s (fun K hK => ?_)
            go_simp
            refine hK _ ?_
            clear hK K
            refine wpMix_s (fun K hK => ?_)
            go_simp
            refine hK _ ?_
            clear hK K
            refine wpMix_c (fun K hK => ?_) hS
            go_simp
            refine (theight_any (HtX2.out.step hS)).mono ?_
            rintro e Z26e ⟨rfl, hww⟩
            obtain rfl := hww.symm
            refine hK _ _ ?_
            clear hK K
            refine ⟨hS, ?_⟩
            refine wpMix_s (fun K hK => ?_)
            go_simp
            refine hK _ ?_
            clear hK K
            refine wpMix_s (fun K hK => ?_)
            go_simp
            refine hK _ ?_
            clear hK K
            refine wpMix_s (fun K hK => ?_)
            go_simp
            refine hK _ ?_
            clear hK K
            refine wpMix_load (by kernel_rfl) 48 (.tmp 11) rfl (gR) (0) rfl (r.map B).toArray (fun s => (K11.out.step s.ok).load) ?_
            simp only [Act.put, List.setIfInBounds_toArray, List.set_cons_succ, List.set_cons_zero]
            refine wpMix_s (fun K hK => ?_)
            go_simp
            refine hK _ ?_
            clear hK K
            refine wpMix_c (fun K hK => ?_) hS
            go_simp
            refine (Hrr.out Z26 hS).mono ?_
            rintro e Z26_1 ⟨rfl, hb'⟩
            refine hK _ _ ?_
            clear hK K
            replace hS := hS.trans (hb'.mono hS.size)
            refine ⟨hS, ?_⟩
            clear hb'
            refine wpMix_v (by kernel_rfl) (.bool true) (fun s => run_eql26_t (.tmp 173) (.tmp 175) _ r r rfl rfl rfl Hrlen.out Hrlen.out rfl s.W) ?_
            simp only [Act.put, List.setIfInBounds_toArray, List.set_cons_succ, List.set_cons_zero]
            refine wpMix_s (fun K hK => ?_)
            go_simp
            refine hK _ ?_
            clear hK K
            refine wpMix_s (fun K hK => ?_)
            go_simp
            refine hK _ ?_
            clear hK K
            refine wpMix_s (fun K hK => ?_)
            go_simp
            refine hK _ ?_
            clear hK K
            refine wpMix_c (fun K hK => ?_) hS
            go_simp
            refine (num14_any _ _).mono ?_
            rintro e V9 ⟨rfl, hww⟩
            obtain rfl := hww
            refine hK _ _ ?_
            clear hK K
            refine ⟨hS, ?_⟩
            refine wpMix_s (fun K hK => ?_)
            go_simp
            refine hK _ ?_
            clear hK K
            refine wpMix_s (fun K hK => ?_)
            go_simp
            refine hK _ ?_
            clear hK K
            refine wpMix_s (fun K hK => ?_)
            go_simp
            refine hK _ ?_
            clear hK K
            refine wpMix_s (fun K hK => ?_)
            go_simp
            refine hK _ ?_
            clear hK K
            refine wpMix_s (fun K hK => ?_)
            go_simp
            refine hK _ ?_
            clear hK K
            refine wpMix_s (fun K hK => ?_)
            go_simp
            refine hK _ ?_
            clear hK K
            refine wpMix_s (fun K hK => ?_)
            go_simp
            refine hK _ ?_
            clear hK K
            refine wpMix_c (fun K hK => ?_) hS
            go_simp
            refine (tall_any _ Z26_1 rfl).mono ?_
            rintro e Z26_2 ⟨rfl, hbx, hb'⟩
            refine hK _ _ ?_
            clear hK K
            replace hS := hS.trans (hb'.mono hS.size)
            refine ⟨hS, ?_⟩
            clear hb'
            refine wpMix_c (fun K hK => ?_) hS
            go_simp
            refine (rall_view L A8 k c8 h0 Z26_2 (HHL2.out.step hS) hh1 hh8 (by omega)).mono ?_
            rintro e Z26_3 ⟨A9, n9, c9x, rfl, hts9, hn9, hb'⟩
            refine hK _ _ ?_
            clear hK K
            replace hS := hS.trans (hb'.mono hS.size)
            refine ⟨hS, ?_⟩
            replace hbx := hbx.step hb'
            clear hb'
            refine wpMix_c (fun K hK => ?_) hS
            go_simp
            refine (goes14_any lo2 p m2 h0 _ f L A9 n9 c9x 0 Z26_3 (HtX2.out.step hS) hbx hts9 hn9).mono ?_
            rintro e Z26_4 ⟨rfl, hb'⟩
            refine hK _ _ ?_
            clear hK K
            replace hS := hS.trans (hb'.mono hS.size)
            refine ⟨hS, ?_⟩
            clear hb'
            refine wpMix_s (fun K hK => ?_)
            go_simp
            refine hK _ ?_
            clear hK K
            refine wpMix_s (fun K hK => ?_)
            go_simp
            refine hK _ ?_
            clear hK K
            refine wpMix_c (fun K hK => ?_) hS
            go_simp
            refine (works14_any Z26_4 (HTX2.out.step hS)).mono ?_
            rintro e Z26_5 ⟨rfl, hb'⟩
            refine hK _ _ ?_
            clear hK K
            replace hS := hS.trans (hb'.mono hS.size)
            refine ⟨hS, ?_⟩
            clear hb'
            refine wpMix_s (fun K hK => ?_)
            go_simp
            refine hK _ ?_
            clear hK K
            refine wpMix_s (fun K hK => ?_)
            go_simp
            refine hK _ ?_
            clear hK K
            refine wpMix_nil ?_
            intro _
            have HE := Lib.hid (HBX2.out.trans (hS.mono HBX2.out.size))
            clear hS c163 c169
            go_wp2_with fail
            go_ret
            exact ⟨rfl, HE.out⟩
          · have hb0 : (er != 0) = true := by simpa using her
            have Hw := Lib.hid (works14_any _ hTX)
            have HBX := Lib.hid BX
            have Hb0 := Lib.hid hb0
            clear hkb hTX BX her hb0
            go_wp2_with ((with_reducible show wpList _ _ _ (⟨some 151, .binOp _ _ _ _ _, _, _, _, _⟩ :: _) _ _); refine wpList_run rfl (.bool true) _ (run_neqI_op (.tmp 150) (.const (.int .i64 0)) _ er 0 true rfl rfl rfl Hb0.out _) ?_; simp only [Act.put, List.setIfInBounds_toArray, List.set_cons_succ, List.set_cons_zero])
            refine Hw.out.mono ?_
            rintro e w2 ⟨rfl, hb2⟩
            have HE := Lib.hid (HBX.out.trans (hb2.mono HBX.out.size))
            clear hb2
            go_wp2_with fail
            go_ret
            exact ⟨rfl, HE.out⟩
end Go.Proofs.YtfhmjgkcpcnkbaaDoor
