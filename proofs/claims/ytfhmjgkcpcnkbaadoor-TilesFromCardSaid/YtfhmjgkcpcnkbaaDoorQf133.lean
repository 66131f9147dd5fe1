/- tiles.same. -/
import Derived.Test.YtfhmjgkcpcnkbaaDoorQf132
import Derived.Test.YtfhmjgkcpcnkbaaDoorQf125
namespace Go.Proofs.YtfhmjgkcpcnkbaaDoor
open Go Go.RowKit
attribute [local go_sem] Oper.semAt_some

set_option maxHeartbeats 8000000 in
set_option maxRecDepth 100000 in
theorem tsame14_any (l1 i1 l2 i2 : Int) (hs hs' : HL) (A A' : Option Addr) (n n' c c' : Nat) (w : World) (h1 : Hs w (fun _ => True) A n c hs) (h2 : Hs w (fun _ => True) A' n' c' hs') (hn : n ≤ 4398046511104) (hn' : n' ≤ 4398046511104) :
    Calls Tryd.prog 39 #[.agg #[.int .i64 l1, .int .i64 i1, .slice A n c], .agg #[.int .i64 l2, .int .i64 i2, .slice A' n' c']] w fun e w' => e = .returned (.bool (decide ((l1, i1, hs) = (l2, i2, hs')))) ∧ Below w.heap.size w w' := by
  have hl1 := h1.len
  have hl2 := h2.len
  have hr1 := h1.sl.room
  have hr2 := h2.sl.room
  have hm1 := h1.sl.max
  have hm2 := h2.sl.max
  unfold maxLen at hm1 hm2
  obtain ⟨w1, hw1⟩ : ∃ x, (w.alloc (.cells #[.int .i64 l1, .int .i64 i1, .slice A n c] 38)).alloc (.cells #[.int .i64 l2, .int .i64 i2, .slice A' n' c'] 38) = x := ⟨_, rfl⟩
  have hb1 : Below w.heap.size w w1 := by rw [← hw1]; exact ((Below.refl _ _).alloc (Nat.le_refl _) _).alloc (by simp) _
  have k4 : Blk w1 w.heap.size 38 #[.int .i64 l1, .int .i64 i1, .slice A n c] := by rw [← hw1]; exact (Blk.new _ _ _).alloc _
  have k5 : Blk w1 (w.heap.size + 1) 38 #[.int .i64 l2, .int .i64 i2, .slice A' n' c'] := by rw [← hw1]; exact Blk.new' _ _ _ _ (by simp)
  have c10 : w1.cell? ⟨w.heap.size, 0, none⟩ = some (.int .i64 l1) := by rw [k4.cell]; rfl
  have c11 : w1.cell? ⟨w.heap.size, 1, none⟩ = some (.int .i64 i1) := by rw [k4.cell]; rfl
  have c12 : w1.cell? ⟨w.heap.size, 2, none⟩ = some (.slice A n c) := by rw [k4.cell]; rfl
  have c20 : w1.cell? ⟨w.heap.size + 1, 0, none⟩ = some (.int .i64 l2) := by rw [k5.cell]; rfl
  have c21 : w1.cell? ⟨w.heap.size + 1, 1, none⟩ = some (.int .i64 i2) := by rw [k5.cell]; rfl
  have c22 : w1.cell? ⟨w.heap.size + 1, 2, none⟩ = some (.slice A' n' c') := by rw [k5.cell]; rfl
  have Hw1 := Lib.hid hw1
  have Hb1 := Lib.hid hb1
  obtain ⟨res, hres⟩ : ∃ r, decide ((l1, i1, hs) = (l2, i2, hs')) = r := ⟨_, rfl⟩
  rw [hres]
  by_cases hl : l1 = l2
  · by_cases hi : i1 = i2
    · by_cases hne : n = n'
      · subst hl hi hne
        have hres' : decide (hs = hs') = res := by rw [← hres]; simp
        have Hres := Lib.hid hres'
        have H1 := Lib.hid (h1.step hb1)
        have H2 := Lib.hid (h2.step hb1)
        have Hl1 := Lib.hid hl1
        have Hl2 := Lib.hid hl2
        have K4 := Lib.hid k4
        have K5 := Lib.hid k5
        have d1 : (l1 != l1) = false := by simp
        have d2 : (i1 != i1) = false := by simp
        have d3 : ((n : Int) != (n : Int)) = false := by simp
        clear hres hres' h1 h2 hl1 hl2 hw1 hb1 k4 k5
        go_enter Tryd.func39, Tryd.ntmps39
        go_wp2_with (rw [Hw1.out])
        clear c10 c11 c12 c20 c21 c22
        go_loopw [30] (fun v wr => ∃ q : Nat, q ≤ n ∧ v = .int .i64 (q : Int) ∧ hs.take q = hs'.take q ∧ Below w1.heap.size w1 wr) (fun v _ => n - (intOf v).toNat)
        case atStart => exact ⟨0, Nat.zero_le _, rfl, rfl, Below.refl _ _⟩
        case round =>
          obtain ⟨q, hq, rfl, htk, hb⟩ := hrel
          by_cases hlq : q < n
          · have hd : decide ((q : Int) < (n : Int)) = true := by simp; omega
            have hwq : IntKind.i64.wrap ((q : Int) + 1) = (q : Int) + 1 := IntWalk.i64_in _ (by omega)
            obtain ⟨b1, o1, rfl, -, -, -⟩ := H1.out.at_ (by omega)
            obtain ⟨b2, o2, rfl, -, -, -⟩ := H2.out.at_ (by omega)
            have l1' := fun V (hV : Below wr.heap.size wr V) => ((H1.out.step hb).step hV).get rfl q hlq
            have l2' := fun V (hV : Below wr.heap.size wr V) => ((H2.out.step hb).step hV).get rfl q hlq
            have c34 : ∀ s : InC (fun V => Below wr.heap.size wr V), s.W.cell? ⟨w.heap.size, 2, none⟩ = some (.slice (some ⟨b1, o1, none⟩) n c) := fun s => by rw [((K4.out.step hb).step s.ok).cell]; rfl
            have c39 : ∀ s : InC (fun V => Below wr.heap.size wr V), s.W.cell? ⟨w.heap.size + 1, 2, none⟩ = some (.slice (some ⟨b2, o2, none⟩) n c') := fun s => by rw [((K5.out.step hb).step s.ok).cell]; rfl
            have hx32 := H1.out.all.getD q (by rw [Hl1.out]; exact hlq)
            have hy32 := H2.out.all.getD q (by rw [Hl2.out]; exact hlq)
            have t1 := take_snocT hs q (by rw [Hl1.out]; exact hlq)
            have t2 := take_snocT hs' q (by rw [Hl2.out]; exact hlq)
            have hgd : hs = hs' → hs.getD q [] = hs'.getD q [] := fun e => by rw [e]
            obtain ⟨x, hx⟩ : ∃ x, hs.getD q [] = x := ⟨_, rfl⟩
            obtain ⟨y, hy⟩ : ∃ y, hs'.getD q [] = y := ⟨_, rfl⟩
            rw [hx] at l1' hx32 t1 hgd
            rw [hy] at l2' hy32 t2 hgd
            have Hx32 := Lib.hid hx32
            have Hy32 := Lib.hid hy32
            have Hlx := Lib.hid l1'
            have Hly := Lib.hid l2'
            have Hb := Lib.hid hb
            have hS : Below wr.heap.size wr wr.drew := (Below.refl _ _).drew
            by_cases hxy : x = y
            · have htk2 : hs.take (q + 1) = hs'.take (q + 1) := by rw [t1, t2, htk, hxy]
              have Htk := Lib.hid htk2
              have Hxy := Lib.hid hxy
              clear hx hy hx32 hy32 l1' l2' t1 t2 hgd hb htk htk2 hxy
              go_upto_region 6 with fail
              refine wp_region_mix (fun V => Below wr.heap.size wr V) [(0, true), (1, true), (2, true), (3, true), (4, true), (5, true), (6, true), (7, true), (8, true), (9, true), (10, true)] (by kernel_rfl) (by kernel_rfl) hS fun _ => ?_
              simp only [List.map_cons, List.map_nil, Array.getD_eq_getD_getElem?, List.getElem?_toArray, List.getElem?_cons_succ, List.getElem?_cons_zero, Option.getD_some]
              generalize wr.drew = V0 at hS ⊢
              refine wpMix_s (fun K hK => ?_)
              go_simp
              refine hK _ ?_
              clear hK K
              refine wpMix_s (fun K hK => ?_)
              go_simp
              refine hK _ ?_
              clear hK K
              refine wpMix_s (fun K hK => ?_)
              go_simp
              refine hK _ ?_
              clear hK K
              refine wpMix_s (fun K hK => ?_)
              go_simp
              refine hK _ ?_
              clear hK K
              refine wpMix_load (by kernel_rfl) 48 (.tmp 36) rfl (b1) (o1 + q * 32) rfl (x.map B).toArray (fun s => Hlx.out s.W s.ok) ?_
              simp only [Act.put, List.setIfInBounds_toArray, List.set_cons_succ, List.set_cons_zero]
              refine wpMix_s (fun K hK => ?_)
              go_simp
              refine hK _ ?_
              clear hK K
              refine wpMix_s (fun K hK => ?_)
              go_simp
              refine hK _ ?_
              clear hK K
              refine wpMix_s (fun K hK => ?_)
              go_simp
              refine hK _ ?_
              clear hK K
              refine wpMix_s (fun K hK => ?_)
              go_simp
              refine hK _ ?_
              clear hK K
              refine wpMix_load (by kernel_rfl) 48 (.tmp 41) rfl (b2) (o2 + q * 32) rfl (y.map B).toArray (fun s => Hly.out s.W s.ok) ?_
              simp only [Act.put, List.setIfInBounds_toArray, List.set_cons_succ, List.set_cons_zero]
              refine wpMix_v (by kernel_rfl) (.bool false) (fun s => run_neq26_f (.tmp 37) (.tmp 42) _ x y rfl rfl rfl Hx32.out Hy32.out Hxy.out s.W) ?_
              simp only [Act.put, List.setIfInBounds_toArray, List.set_cons_succ, List.set_cons_zero]
              refine wpMix_nil ?_
              intro _
              have Hb2 := Lib.hid (Hb.out.trans (hS.mono Hb.out.size))
              clear hS c34 c39
              go_wp2_with fail
              go_roundw
              case rel => exact ⟨q + 1, by omega, by go_num, Htk.out, Hb2.out⟩
              case measure => simp [intOf]; omega
            · have hr : res = false := by rw [← Hres.out]; exact decide_eq_false fun e => hxy (hgd e)
              have Hr := Lib.hid hr
              have Hxy := Lib.hid hxy
              clear hx hy hx32 hy32 l1' l2' t1 t2 hgd hb htk hxy hr
              go_upto_region 6 with fail
              refine wp_region_mix (fun V => Below wr.heap.size wr V) [(0, true), (1, true), (2, true), (3, true), (4, true), (5, true), (6, true), (7, true), (8, true), (9, true), (10, true)] (by kernel_rfl) (by kernel_rfl) hS fun _ => ?_
              simp only [List.map_cons, List.map_nil, Array.getD_eq_getD_getElem?, List.getElem?_toArray, List.getElem?_cons_succ, List.getElem?_cons_zero, Option.getD_some]
              generalize wr.drew = V0 at hS ⊢
              refine wpMix_s (fun K hK => ?_)
              go_simp
              refine hK _ ?_
              clear hK K
              refine wpMix_s (fun K hK => ?_)
              go_simp
              refine hK _ ?_
              clear hK K
              refine wpMix_s (fun K hK => ?_)
              go_simp
              refine hK _ ?_
              clear hK K
              refine wpMix_s (fun K hK => ?_)
              go_simp
              refine hK _ ?_
              clear hK K
              refine wpMix_load (by kernel_rfl) 48 (.tmp 36) rfl (b1) (o1 + q * 32) rfl (x.map B).toArray (fun s => Hlx.out s.W s.ok) ?_
              simp only [Act.put, List.setIfInBounds_toArray, List.set_cons_succ, List.set_cons_zero]
              refine wpMix_s (fun K hK => ?_)
              go_simp
              refine hK _ ?_
              clear hK K
              refine wpMix_s (fun K hK => ?_)
              go_simp
              refine hK _ ?_
              clear hK K
              refine wpMix_s (fun K hK => ?_)
              go_simp
              refine hK _ ?_
              clear hK K
              refine wpMix_s (fun K hK => ?_)
              go_simp
              refine hK _ ?_
              clear hK K
              refine wpMix_load (by kernel_rfl) 48 (.tmp 41) rfl (b2) (o2 + q * 32) rfl (y.map B).toArray (fun s => Hly.out s.W s.ok) ?_
              simp only [Act.put, List.setIfInBounds_toArray, List.set_cons_succ, List.set_cons_zero]
              refine wpMix_v (by kernel_rfl) (.bool true) (fun s => run_neq26_t (.tmp 37) (.tmp 42) _ x y rfl rfl rfl Hx32.out Hy32.out Hxy.out s.W) ?_
              simp only [Act.put, List.setIfInBounds_toArray, List.set_cons_succ, List.set_cons_zero]
              refine wpMix_nil ?_
              intro _
              have Hb2 := Lib.hid (Hb1.out.trans ((Hb.out.trans (hS.mono Hb.out.size)).mono Hb1.out.size))
              clear hS c34 c39
              go_wp2_with fail
              go_ret
              rw [Hr.out]
              exact ⟨rfl, Hb2.out⟩
          · obtain rfl : q = n := by omega
            have hd : decide ((q : Int) < (q : Int)) = false := by simp
            have hr : res = true := by
              rw [← Hres.out, decide_eq_true_eq]
              rw [List.take_of_length_le (by rw [Hl1.out]; exact Nat.le_refl _), List.take_of_length_le (by rw [Hl2.out]; exact Nat.le_refl _)] at htk
              exact htk
            have Hr := Lib.hid hr
            have Hb2 := Lib.hid (Hb1.out.trans (hb.mono Hb1.out.size))
            clear hr htk hb
            go_wp2_with fail
            go_ret
            rw [Hr.out]
            exact ⟨rfl, Hb2.out⟩
      · subst hl hi
        have hr : res = false := by rw [← hres]; exact decide_eq_false fun e => hne (by rw [← hl1, ← hl2]; cases e; rfl)
        have Hr := Lib.hid hr
        have d1 : (l1 != l1) = false := by simp
        have d2 : (i1 != i1) = false := by simp
        have d3 : ((n : Int) != (n' : Int)) = true := by simp; omega
        have d3n : (n != n') = true := by simpa using hne
        clear hres h1 h2 hl1 hl2 hw1 hb1 k4 k5 hr hne
        go_enter Tryd.func39, Tryd.ntmps39
        go_wp2_with (rw [Hw1.out])
        go_ret
        rw [Hr.out]
        exact ⟨rfl, Hb1.out⟩
    · subst hl
      have hr : res = false := by rw [← hres]; exact decide_eq_false fun e => hi (by cases e; rfl)
      have Hr := Lib.hid hr
      have d1 : (l1 != l1) = false := by simp
      have d2 : (i1 != i2) = true := by simpa using hi
      clear hres h1 h2 hl1 hl2 hw1 hb1 k4 k5 hr hi
      go_enter Tryd.func39, Tryd.ntmps39
      go_wp2_with (rw [Hw1.out])
      go_ret
      rw [Hr.out]
      exact ⟨rfl, Hb1.out⟩
  · have hr : res = false := by rw [← hres]; exact decide_eq_false fun e => hl (by cases e; rfl)
    have Hr := Lib.hid hr
    have d1 : (l1 != l2) = true := by simpa using hl
    clear hres h1 h2 hl1 hl2 hw1 hb1 k4 k5 hr hl
    go_enter Tryd.func39, Tryd.ntmps39
    go_wp2_with (rw [Hw1.out])
    go_ret
    rw [Hr.out]
    exact ⟨rfl, Hb1.out⟩
end Go.Proofs.YtfhmjgkcpcnkbaaDoor
/- tiles: part, the root of a stretch. -/
namespace Go.Proofs.YtfhmjgkcpcnkbaaDoor
open Go Go.RowKit
attribute [local go_sem] Oper.semAt_some

theorem ctz_is (n : Nat) (hn : pow2 n = true) (hm : n ≤ 100000) : ∃ j, n = 2 ^ j ∧ Lib.ctz 64 n = j := by
  obtain ⟨j, rfl⟩ := pow2_is n n (Nat.le_refl _) hn
  refine ⟨j, rfl, ctz_pow j ?_⟩
  apply Classical.byContradiction
  intro hne
  have := Nat.pow_le_pow_right (n := 2) (by decide) (show 63 ≤ j by omega)
  omega
theorem pow2_of_and (n : Nat) (h0 : 1 ≤ n) (h : n &&& (n - 1) = 0) : pow2 n = true := by
  unfold pow2
  rw [h]
  simp
  omega
theorem aggRng : ∀ w : World, (isAgg 96).run Tryd.prog w = .ok true w := fun _ => by kernel_rfl
theorem sizeRng : ∀ w : World, (sizeOf 96).run Tryd.prog w = .ok 2 w := fun _ => by kernel_rfl
set_option maxHeartbeats 8000000 in
set_option maxRecDepth 100000 in
theorem tpart_rec (lo p m h : Nat) (f : Int → Int → Option Value) (L : HL) : ∀ (n a : Nat) (w : World), Ti lo p m h f L w → Tab w → 1 ≤ n → a + n ≤ L.length →
    Calls Tryd.prog 62 #[.pointer (some ⟨p, 0, none⟩), .agg #[.int .i64 (a : Int), .int .i64 ((a + n : Nat) : Int)]] w fun e w' => e = .returned (.agg ((rootL ((L.drop a).take n)).map B).toArray) ∧ Below w.heap.size w w' := by
  intro n
  induction n using Nat.strongRecOn with
  | ind n ih =>
  intro a w ht hT hn1 han
  have hmax := ht.max
  obtain ⟨r, hr⟩ : ∃ r, rootL ((L.drop a).take n) = r := ⟨_, rfl⟩
  have hr32 : r.length = 32 := by rw [← hr]; exact length_rootL _ ((ht.all.drop _).take _)
  obtain ⟨b, hb⟩ : ∃ b, a + n = b := ⟨_, rfl⟩
  obtain ⟨n1, hn1e⟩ : ∃ n1, n - 1 = n1 := ⟨_, rfl⟩
  have hw1 : IntKind.i64.wrap ((b : Int) - (a : Int)) = (n : Int) := by rw [IntWalk.i64_in _ (by omega)]; omega
  have hw2 : IntKind.i64.wrap ((n : Int) - 1) = (n1 : Int) := by rw [IntWalk.i64_in _ (by omega)]; omega
  have hb1 : bits .and .i64 (n : Int) (n1 : Int) = ((n &&& n1 : Nat) : Int) := i64_and_nat n n1 (by omega) (by omega)
  have hb2 : bits .and .i64 (a : Int) (n1 : Int) = ((a &&& n1 : Nat) : Int) := i64_and_nat a n1 (by omega) (by omega)
  obtain ⟨w0, hw0⟩ : ∃ x, w.alloc (.cells #[.int .i64 (a : Int), .int .i64 (b : Int)] 96) = x := ⟨_, rfl⟩
  have k3 : Blk w0 w.heap.size 96 #[.int .i64 (a : Int), .int .i64 (b : Int)] := by rw [← hw0]; exact Blk.new _ _ _
  have hb0 : Below w.heap.size w w0 := by rw [← hw0]; exact (Below.refl _ _).alloc (Nat.le_refl _) _
  have hTT := fun V (hV : Below w.heap.size w V) => And.intro (ht.step hV) (hT.step hV)
  have HT := Lib.hid hTT
  have Hw0 := Lib.hid hw0
  have Hr32 := Lib.hid hr32
  have Hih := Lib.hid ih
  have Hr := Lib.hid hr
  have Hb := Lib.hid hb
  have hall := ht.all
  have Hall := Lib.hid hall
  rw [hr, hb]
  clear ih ht hT hTT hw0 hr32 hall hr
  by_cases hz1 : n &&& n1 = 0
  · have hpw : pow2 n = true := pow2_of_and n hn1 (by rw [hn1e]; exact hz1)
    obtain ⟨j, hj, hctz⟩ := ctz_is n hpw (by omega)
    rw [hz1] at hb1
    by_cases hz2 : a &&& n1 = 0
    · rw [hz2] at hb2
      have hz3 : a % 2 ^ j = 0 := by rw [← Nat.and_two_pow_sub_one_eq_mod, ← hj, hn1e]; exact hz2
      obtain ⟨c, hc⟩ : ∃ c, a = c * 2 ^ j := ⟨a / 2 ^ j, by have := Nat.div_add_mod a (2 ^ j); rw [hz3, Nat.mul_comm] at this; omega⟩
      have hcn : (c + 1) * 2 ^ j ≤ L.length := by rw [Nat.add_mul, ← hc, Nat.one_mul, ← hj]; omega
      have htz := fun V (hV : Below w.heap.size w V) => tz64_any n (by omega) (by omega) V (HT.out V hV).2
      rw [hctz] at htz
      have hpf := fun V (hV : Below w.heap.size w V) => tperfect_any lo p m h f L c j V (HT.out V hV).1 hcn
      rw [← hc, ← hj, Hr.out] at hpf
      have hcv : IntKind.u64.wrap (n : Int) = (n : Int) := by rw [IntKind.wrap_u64]; omega
      have Htz := Lib.hid htz
      have Hpf := Lib.hid hpf
      clear hpw hctz hz1 hz2 hz3 hc hcn htz hpf hj
      go_enter Tryd.func62, Tryd.ntmps62
      refine Code.wp_mono (fun _ _ _ h => BP.out h) ?_
      go_wp2_with (first
  | ((with_reducible show wpList _ _ _ (⟨some 4, .alloc _, _, _, _, _⟩ :: _) _ _); rw [Hw0.out]; refine wpList_hnew rfl rfl ?_; intro w1 k4 hb1'; replace k3 := k3.step hb1'; replace hb0 := hb0.trans (hb1'.mono hb0.size); have k4g := hb1'.size; obtain ⟨g4, hg4⟩ : ∃ g, w0.heap.size = g := ⟨_, rfl⟩; have hg4l : w.heap.size + 1 ≤ g4 := (by rw [← hg4, ← Hw0.out]; simp); rw [hg4] at k4 k4g ⊢; clear hb1' hg4; have c30 : w1.cell? ⟨w.heap.size, 0, none⟩ = some (.int .i64 (a : Int)) := (by rw [k3.cell]; rfl); have c31 : w1.cell? ⟨w.heap.size, 1, none⟩ = some (.int .i64 (b : Int)) := (by rw [k3.cell]; rfl); simp only [Act.put, List.setIfInBounds_toArray, List.set_cons_succ, List.set_cons_zero]))
      clear c30 c31
      have hb1 := hb0
      clear hb0
      have hz1s := hb1.size
      have c30 : ∀ s : InC (fun V => Below w1.heap.size w1 V), s.W.cell? ⟨w.heap.size, 0, none⟩ = some (.int .i64 (a : Int)) := fun s => by rw [(k3.step s.ok).cell]; rfl
      have c31 : ∀ s : InC (fun V => Below w1.heap.size w1 V), s.W.cell? ⟨w.heap.size, 1, none⟩ = some (.int .i64 (b : Int)) := fun s => by rw [(k3.step s.ok).cell]; rfl
      have hS : Below w1.heap.size w1 w1.drew := (Below.refl _ _).drew
      refine wp_region_mix_last (fun W => Below w1.heap.size w1 W) 7 [(0, true), (1, true), (2, true), (3, true), (4, true), (5, false), (6, false)] (by kernel_rfl) (by kernel_rfl) hS fun _ => ?_
      simp only [List.map_cons, List.map_nil, Array.getD_eq_getD_getElem?, List.getElem?_toArray, List.getElem?_cons_succ, List.getElem?_cons_zero, Option.getD_some]
      generalize w1.drew = V0 at hS ⊢
      refine wpMix_s (fun K hK => ?_)
      go_simp
      refine hK _ ?_
      clear hK K
      refine wpMix_s (fun K hK => ?_)
      go_simp
      refine hK _ ?_
      clear hK K
      refine wpMix_s (fun K hK => ?_)
      go_simp
      refine hK _ ?_
      clear hK K
      refine wpMix_s (fun K hK => ?_)
      go_simp
      refine hK _ ?_
      clear hK K
      refine wpMix_s (fun K hK => ?_)
      go_simp
      refine hK _ ?_
      clear hK K
      refine wpMix_c (fun K hK => ?_) hS
      go_simp
      refine (Htz.out V0 (hb1.trans (hS.mono hb1.size))).mono ?_
      rintro e V0e ⟨rfl, hww⟩
      obtain rfl := hww.symm
      refine hK _ _ ?_
      clear hK K
      refine ⟨hS, ?_⟩
      refine wpMix_c (fun K hK => ?_) hS
      go_simp
      refine (Hpf.out V0 (hb1.trans (hS.mono hb1.size))).mono ?_
      rintro e V0_1 ⟨rfl, hb'⟩
      refine hK _ _ ?_
      clear hK K
      replace hS := hS.trans (hb'.mono hS.size)
      refine ⟨hS, ?_⟩
      clear hb'
      refine wpMix_nil ?_
      intro _
      simp only [List.drop_succ_cons, List.drop_zero]
      have k4e := k4.step hS
      clear c30 c31
      go_wp2_with ((with_reducible show wpList _ _ _ (⟨none, .store _ _ _, _, _, _, _⟩ :: _) _ _); refine wpList_hset (.tmp 4) (.tmp 32) rfl rfl k4e rfl rfl Hr32.out ?_; intro w6 k4s hb6 he6; clear he6; simp only [Act.put])
      refine np_normal ?_
      go_wp2_with fail
      exact ⟨bodyPost_ret (ret_hash rfl rfl k4s) rfl ⟨rfl, (hb1.trans (hS.mono hb1.size)).trans (hb6.mono (by omega))⟩⟩
    · have he2 : (((a &&& n1 : Nat) : Int) == 0) = false := by simp; omega
      obtain ⟨z2, hz2e⟩ : ∃ z, a &&& n1 = z := ⟨_, rfl⟩
      rw [hz2e] at hb2 he2 hz2
      have hn2 : 2 ≤ n := by
        apply Classical.byContradiction
        intro hne
        have : n1 = 0 := by omega
        rw [this, Nat.and_zero] at hz2e
        omega
      clear hpw hj hctz hz1 hz2 hz2e
      obtain ⟨s, hs⟩ : ∃ s, splitN n = s := ⟨_, rfl⟩
      have hsl := splitN_lt n hn2
      have hsp := splitN_pos n hn2
      have hspl := fun V => tsplit_any (n : Int) V (by omega)
      rw [Int.toNat_natCast] at hspl
      rw [hs] at hspl hsl hsp
      have hln : ((L.drop a).take n).length = n := by rw [List.length_take, List.length_drop]; omega
      have hmore := rootL_more ((L.drop a).take n) (by rw [hln]; omega)
      rw [hln, hs, Hr.out, List.take_take, Nat.min_eq_left (by omega : s ≤ n), List.drop_take, List.drop_drop] at hmore
      have hL := fun V (hV : Below w.heap.size w V) => Hih.out s (by omega) a V (HT.out V hV).1 (HT.out V hV).2 (by omega) (by omega)
      have hR := fun V (hV : Below w.heap.size w V) => Hih.out (n - s) (by omega) (a + s) V (HT.out V hV).1 (HT.out V hV).2 (by omega) (by omega)
      rw [show a + s + (n - s) = b by omega] at hR
      obtain ⟨x, hx⟩ : ∃ x, rootL ((L.drop a).take s) = x := ⟨_, rfl⟩
      obtain ⟨y, hy⟩ : ∃ y, rootL ((L.drop (a + s)).take (n - s)) = y := ⟨_, rfl⟩
      have hxl : x.length = 32 := by rw [← hx]; exact length_rootL _ ((Hall.out.drop _).take _)
      have hyl : y.length = 32 := by rw [← hy]; exact length_rootL _ ((Hall.out.drop _).take _)
      rw [hx] at hL hmore
      rw [hy] at hR hmore
      have hN := fun V => hnode_any x y V hxl hyl
      rw [← hmore] at hN
      obtain ⟨k, hk⟩ : ∃ k, a + s = k := ⟨_, rfl⟩
      rw [hk] at hL hR
      have hwk : IntKind.i64.wrap ((a : Int) + (s : Int)) = (k : Int) := by rw [IntWalk.i64_in _ (by omega)]; omega
      have Hspl := Lib.hid hspl
      have HL := Lib.hid hL
      have HR := Lib.hid hR
      have HN := Lib.hid hN
      clear hspl hL hR hN hx hy hxl hyl hmore hln hs hk Hih
      go_enter Tryd.func62, Tryd.ntmps62
      refine Code.wp_mono (fun _ _ _ h => BP.out h) ?_
      go_wp2_with (first
  | ((with_reducible show wpList _ _ _ (⟨some 4, .alloc _, _, _, _, _⟩ :: _) _ _); rw [Hw0.out]; refine wpList_hnew rfl rfl ?_; intro w1 k4 hb1'; replace k3 := k3.step hb1'; replace hb0 := hb0.trans (hb1'.mono hb0.size); have k4g := hb1'.size; obtain ⟨g4, hg4⟩ : ∃ g, w0.heap.size = g := ⟨_, rfl⟩; have hg4l : w.heap.size + 1 ≤ g4 := (by rw [← hg4, ← Hw0.out]; simp); rw [hg4] at k4 k4g ⊢; clear hb1' hg4; have c30 : w1.cell? ⟨w.heap.size, 0, none⟩ = some (.int .i64 (a : Int)) := (by rw [k3.cell]; rfl); have c31 : w1.cell? ⟨w.heap.size, 1, none⟩ = some (.int .i64 (b : Int)) := (by rw [k3.cell]; rfl); simp only [Act.put, List.setIfInBounds_toArray, List.set_cons_succ, List.set_cons_zero]))
      clear c30 c31
      have hb1 := hb0
      clear hb0
      have hz1s := hb1.size
      have c30 : ∀ s : InC (fun V => Below w1.heap.size w1 V), s.W.cell? ⟨w.heap.size, 0, none⟩ = some (.int .i64 (a : Int)) := fun s => by rw [(k3.step s.ok).cell]; rfl
      have c31 : ∀ s : InC (fun V => Below w1.heap.size w1 V), s.W.cell? ⟨w.heap.size, 1, none⟩ = some (.int .i64 (b : Int)) := fun s => by rw [(k3.step s.ok).cell]; rfl
      have hS : Below w1.heap.size w1 w1.drew := (Below.refl _ _).drew
      refine wp_region_mix (fun W => Below w1.heap.size w1 W) [(0, true), (1, true), (2, true), (3, false), (4, true), (5, true)] (by kernel_rfl) (by kernel_rfl) hS fun _ => ?_
      simp only [List.map_cons, List.map_nil, Array.getD_eq_getD_getElem?, List.getElem?_toArray, List.getElem?_cons_succ, List.getElem?_cons_zero, Option.getD_some]
      generalize w1.drew = U0 at hS ⊢
      refine wpMix_s (fun K hK => ?_)
      go_simp
      refine hK _ ?_
      clear hK K
      refine wpMix_s (fun K hK => ?_)
      go_simp
      refine hK _ ?_
      clear hK K
      refine wpMix_s (fun K hK => ?_)
      go_simp
      refine hK _ ?_
      clear hK K
      refine wpMix_c (fun K hK => ?_) hS
      go_simp
      refine (Hspl.out U0).mono ?_
      rintro e U0e ⟨rfl, rfl⟩
      refine hK _ _ ?_
      clear hK K
      refine ⟨hS, ?_⟩
      refine wpMix_s (fun K hK => ?_)
      go_simp
      refine hK _ ?_
      clear hK K
      refine wpMix_s (fun K hK => ?_)
      go_simp
      refine hK _ ?_
      clear hK K
      refine wpMix_nil ?_
      intro _
      have k3 := k3.step hS
      have k4 := k4.step hS
      have hb1 := hb1.trans (hS.mono hb1.size)
      clear c30 c31 hS hz1s
      go_wp2_with fail
      have hz1s := hb1.size
      have c30 : ∀ s : InC (fun V => Below U0.heap.size U0 V), s.W.cell? ⟨w.heap.size, 0, none⟩ = some (.int .i64 (a : Int)) := fun s => by rw [(k3.step s.ok).cell]; rfl
      have c31 : ∀ s : InC (fun V => Below U0.heap.size U0 V), s.W.cell? ⟨w.heap.size, 1, none⟩ = some (.int .i64 (b : Int)) := fun s => by rw [(k3.step s.ok).cell]; rfl
      have hS : Below U0.heap.size U0 U0.drew := (Below.refl _ _).drew
      refine wp_region_mix_tail7 (fun W => Below U0.heap.size U0 W) 13 [(0, true), (1, true), (2, true), (3, true), (4, true), (6, true), (7, true), (8, true), (9, true), (10, true), (5, false), (11, false), (12, false)] (by kernel_rfl) (by kernel_rfl) hS fun _ => ?_
      simp only [List.map_cons, List.map_nil, Array.getD_eq_getD_getElem?, List.getElem?_toArray, List.getElem?_cons_succ, List.getElem?_cons_zero, Option.getD_some]
      generalize U0.drew = V0 at hS ⊢
      refine wpMix_s (fun K hK => ?_)
      go_simp
      refine hK _ ?_
      clear hK K
      refine wpMix_s (fun K hK => ?_)
      go_simp
      refine hK _ ?_
      clear hK K
      refine wpMix_s (fun K hK => ?_)
      go_simp
      refine hK _ ?_
      clear hK K
      refine wpMix_s (fun K hK => ?_)
      go_simp
      refine hK _ ?_
      clear hK K
      refine wpMix_s (fun K hK => ?_)
      go_simp
      refine hK _ ?_
      clear hK K
      refine wpMix_s (fun K hK => ?_)
      go_simp
      refine hK _ ?_
      clear hK K
      refine wpMix_s (fun K hK => ?_)
      go_simp
      refine hK _ ?_
      clear hK K
      refine wpMix_s (fun K hK => ?_)
      go_simp
      refine hK _ ?_
      clear hK K
      refine wpMix_s (fun K hK => ?_)
      go_simp
      refine hK _ ?_
      clear hK K
      refine wpMix_s (fun K hK => ?_)
      go_simp
      refine hK _ ?_
      clear hK K
      refine wpMix_c (fun K hK => ?_) hS
      go_simp
      refine (HL.out V0 (hb1.trans (hS.mono hb1.size))).mono ?_
      rintro e V0_1 ⟨rfl, hb'⟩
      refine hK _ _ ?_
      clear hK K
      replace hS := hS.trans (hb'.mono hS.size)
      refine ⟨hS, ?_⟩
      clear hb'
      refine wpMix_c (fun K hK => ?_) hS
      go_simp
      refine (HR.out V0_1 (hb1.trans (hS.mono hb1.size))).mono ?_
      rintro e V0_2 ⟨rfl, hb'⟩
      refine hK _ _ ?_
      clear hK K
      replace hS := hS.trans (hb'.mono hS.size)
      refine ⟨hS, ?_⟩
      clear hb'
      refine wpMix_c (fun K hK => ?_) hS
      go_simp
      refine (HN.out V0_2).mono ?_
      rintro e V0_3 ⟨rfl, hb'⟩
      refine hK _ _ ?_
      clear hK K
      replace hS := hS.trans (hb'.mono hS.size)
      refine ⟨hS, ?_⟩
      clear hb'
      refine wpMix_nil ?_
      intro _
      simp only [List.drop_succ_cons, List.drop_zero]
      have k4e := k4.step hS
      clear c30 c31
      go_wp2_with ((with_reducible show wpList _ _ _ (⟨none, .store _ _ _, _, _, _, _⟩ :: _) _ _); refine wpList_hset (.tmp 4) (.tmp 52) rfl rfl k4e rfl rfl Hr32.out ?_; intro w6 k4s hb6 he6; clear he6; simp only [Act.put])
      refine np_normal ?_
      go_wp2_with fail
      exact ⟨bodyPost_ret (ret_hash rfl rfl k4s) rfl ⟨rfl, (hb1.trans (hS.mono hb1.size)).trans (hb6.mono (by omega))⟩⟩
  · have he1 : (((n &&& n1 : Nat) : Int) == 0) = false := by simp; omega
    obtain ⟨z1, hz1e⟩ : ∃ z, n &&& n1 = z := ⟨_, rfl⟩
    rw [hz1e] at hb1 he1 hz1
    have hn2 : 2 ≤ n := by
      apply Classical.byContradiction
      intro hne
      have : n1 = 0 := by omega
      rw [this, Nat.and_zero] at hz1e
      omega
    clear hz1 hz1e
    obtain ⟨s, hs⟩ : ∃ s, splitN n = s := ⟨_, rfl⟩
    have hsl := splitN_lt n hn2
    have hsp := splitN_pos n hn2
    have hspl := fun V => tsplit_any (n : Int) V (by omega)
    rw [Int.toNat_natCast] at hspl
    rw [hs] at hspl hsl hsp
    have hln : ((L.drop a).take n).length = n := by rw [List.length_take, List.length_drop]; omega
    have hmore := rootL_more ((L.drop a).take n) (by rw [hln]; omega)
    rw [hln, hs, Hr.out, List.take_take, Nat.min_eq_left (by omega : s ≤ n), List.drop_take, List.drop_drop] at hmore
    have hL := fun V (hV : Below w.heap.size w V) => Hih.out s (by omega) a V (HT.out V hV).1 (HT.out V hV).2 (by omega) (by omega)
    have hR := fun V (hV : Below w.heap.size w V) => Hih.out (n - s) (by omega) (a + s) V (HT.out V hV).1 (HT.out V hV).2 (by omega) (by omega)
    rw [show a + s + (n - s) = b by omega] at hR
    obtain ⟨x, hx⟩ : ∃ x, rootL ((L.drop a).take s) = x := ⟨_, rfl⟩
    obtain ⟨y, hy⟩ : ∃ y, rootL ((L.drop (a + s)).take (n - s)) = y := ⟨_, rfl⟩
    have hxl : x.length = 32 := by rw [← hx]; exact length_rootL _ ((Hall.out.drop _).take _)
    have hyl : y.length = 32 := by rw [← hy]; exact length_rootL _ ((Hall.out.drop _).take _)
    rw [hx] at hL hmore
    rw [hy] at hR hmore
    have hN := fun V => hnode_any x y V hxl hyl
    rw [← hmore] at hN
    obtain ⟨k, hk⟩ : ∃ k, a + s = k := ⟨_, rfl⟩
    rw [hk] at hL hR
    have hwk : IntKind.i64.wrap ((a : Int) + (s : Int)) = (k : Int) := by rw [IntWalk.i64_in _ (by omega)]; omega
    have Hspl := Lib.hid hspl
    have HL := Lib.hid hL
    have HR := Lib.hid hR
    have HN := Lib.hid hN
    clear hspl hL hR hN hx hy hxl hyl hmore hln hs hk Hih
    go_enter Tryd.func62, Tryd.ntmps62
    refine Code.wp_mono (fun _ _ _ h => BP.out h) ?_
    go_wp2_with (first
  | ((with_reducible show wpList _ _ _ (⟨some 4, .alloc _, _, _, _, _⟩ :: _) _ _); rw [Hw0.out]; refine wpList_hnew rfl rfl ?_; intro w1 k4 hb1'; replace k3 := k3.step hb1'; replace hb0 := hb0.trans (hb1'.mono hb0.size); have k4g := hb1'.size; obtain ⟨g4, hg4⟩ : ∃ g, w0.heap.size = g := ⟨_, rfl⟩; have hg4l : w.heap.size + 1 ≤ g4 := (by rw [← hg4, ← Hw0.out]; simp); rw [hg4] at k4 k4g ⊢; clear hb1' hg4; have c30 : w1.cell? ⟨w.heap.size, 0, none⟩ = some (.int .i64 (a : Int)) := (by rw [k3.cell]; rfl); have c31 : w1.cell? ⟨w.heap.size, 1, none⟩ = some (.int .i64 (b : Int)) := (by rw [k3.cell]; rfl); simp only [Act.put, List.setIfInBounds_toArray, List.set_cons_succ, List.set_cons_zero]))
    clear c30 c31
    have hb1 := hb0
    clear hb0
    have hz1s := hb1.size
    have c30 : ∀ s : InC (fun V => Below w1.heap.size w1 V), s.W.cell? ⟨w.heap.size, 0, none⟩ = some (.int .i64 (a : Int)) := fun s => by rw [(k3.step s.ok).cell]; rfl
    have c31 : ∀ s : InC (fun V => Below w1.heap.size w1 V), s.W.cell? ⟨w.heap.size, 1, none⟩ = some (.int .i64 (b : Int)) := fun s => by rw [(k3.step s.ok).cell]; rfl
    have hS : Below w1.heap.size w1 w1.drew := (Below.refl _ _).drew
    refine wp_region_mix (fun W => Below w1.heap.size w1 W) [(0, true), (1, true), (2, true), (3, false), (4, true), (5, true)] (by kernel_rfl) (by kernel_rfl) hS fun _ => ?_
    simp only [List.map_cons, List.map_nil, Array.getD_eq_getD_getElem?, List.getElem?_toArray, List.getElem?_cons_succ, List.getElem?_cons_zero, Option.getD_some]
    generalize w1.drew = U0 at hS ⊢
    refine wpMix_s (fun K hK => ?_)
    go_simp
    refine hK _ ?_
    clear hK K
    refine wpMix_s (fun K hK => ?_)
    go_simp
    refine hK _ ?_
    clear hK K
    refine wpMix_s (fun K hK => ?_)
    go_simp
    refine hK _ ?_
    clear hK K
    refine wpMix_c (fun K hK => ?_) hS
    go_simp
    refine (Hspl.out U0).mono ?_
    rintro e U0e ⟨rfl, rfl⟩
    refine hK _ _ ?_
    clear hK K
    refine ⟨hS, ?_⟩
    refine wpMix_s (fun K hK => ?_)
    go_simp
    refine hK _ ?_
    clear hK K
    refine wpMix_s (fun K hK => ?_)
    go_simp
    refine hK _ ?_
    clear hK K
    refine wpMix_nil ?_
    intro _
    have k3 := k3.step hS
    have k4 := k4.step hS
    have hb1 := hb1.trans (hS.mono hb1.size)
    clear c30 c31 hS hz1s
    go_wp2_with fail
    have hz1s := hb1.size
    have c30 : ∀ s : InC (fun V => Below U0.heap.size U0 V), s.W.cell? ⟨w.heap.size, 0, none⟩ = some (.int .i64 (a : Int)) := fun s => by rw [(k3.step s.ok).cell]; rfl
    have c31 : ∀ s : InC (fun V => Below U0.heap.size U0 V), s.W.cell? ⟨w.heap.size, 1, none⟩ = some (.int .i64 (b : Int)) := fun s => by rw [(k3.step s.ok).cell]; rfl
    have hS : Below U0.heap.size U0 U0.drew := (Below.refl _ _).drew
    refine wp_region_mix_tail7 (fun W => Below U0.heap.size U0 W) 13 [(0, true), (1, true), (2, true), (3, true), (4, true), (6, true), (7, true), (8, true), (9, true), (10, true), (5, false), (11, false), (12, false)] (by kernel_rfl) (by kernel_rfl) hS fun _ => ?_
    simp only [List.map_cons, List.map_nil, Array.getD_eq_getD_getElem?, List.getElem?_toArray, List.getElem?_cons_succ, List.getElem?_cons_zero, Option.getD_some]
    generalize U0.drew = V0 at hS ⊢
    refine wpMix_s (fun K hK => ?_)
    go_simp
    refine hK _ ?_
    clear hK K
    refine wpMix_s (fun K hK => ?_)
    go_simp
    refine hK _ ?_
    clear hK K
    refine wpMix_s (fun K hK => ?_)
    go_simp
    refine hK _ ?_
    clear hK K
    refine wpMix_s (fun K hK => ?_)
    go_simp
    refine hK _ ?_
    clear hK K
    refine wpMix_s (fun K hK => ?_)
    go_simp
    refine hK _ ?_
    clear hK K
    refine wpMix_s (fun K hK => ?_)
    go_simp
    refine hK _ ?_
    clear hK K
    refine wpMix_s (fun K hK => ?_)
    go_simp
    refine hK _ ?_
    clear hK K
    refine wpMix_s (fun K hK => ?_)
    go_simp
    refine hK _ ?_
    clear hK K
    refine wpMix_s (fun K hK => ?_)
    go_simp
    refine hK _ ?_
    clear hK K
    refine wpMix_s (fun K hK => ?_)
    go_simp
    refine hK _ ?_
    clear hK K
    refine wpMix_c (fun K hK => ?_) hS
    go_simp
    refine (HL.out V0 (hb1.trans (hS.mono hb1.size))).mono ?_
    rintro e V0_1 ⟨rfl, hb'⟩
    refine hK _ _ ?_
    clear hK K
    replace hS := hS.trans (hb'.mono hS.size)
    refine ⟨hS, ?_⟩
    clear hb'
    refine wpMix_c (fun K hK => ?_) hS
    go_simp
    refine (HR.out V0_1 (hb1.trans (hS.mono hb1.size))).mono ?_
    rintro e V0_2 ⟨rfl, hb'⟩
    refine hK _ _ ?_
    clear hK K
    replace hS := hS.trans (hb'.mono hS.size)
    refine ⟨hS, ?_⟩
    clear hb'
    refine wpMix_c (fun K hK => ?_) hS
    go_simp
    refine (HN.out V0_2).mono ?_
    rintro e V0_3 ⟨rfl, hb'⟩
    refine hK _ _ ?_
    clear hK K
    replace hS := hS.trans (hb'.mono hS.size)
    refine ⟨hS, ?_⟩
    clear hb'
    refine wpMix_nil ?_
    intro _
    simp only [List.drop_succ_cons, List.drop_zero]
    have k4e := k4.step hS
    clear c30 c31
    go_wp2_with ((with_reducible show wpList _ _ _ (⟨none, .store _ _ _, _, _, _, _⟩ :: _) _ _); refine wpList_hset (.tmp 4) (.tmp 52) rfl rfl k4e rfl rfl Hr32.out ?_; intro w6 k4s hb6 he6; clear he6; simp only [Act.put])
    refine np_normal ?_
    go_wp2_with fail
    exact ⟨bodyPost_ret (ret_hash rfl rfl k4s) rfl ⟨rfl, (hb1.trans (hS.mono hb1.size)).trans (hb6.mono (by omega))⟩⟩
end Go.Proofs.YtfhmjgkcpcnkbaaDoor
