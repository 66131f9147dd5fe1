/- notaryref08.Compare, Text. -/
import Derived.Test.YtdkgndjomkbbjaaHCompare
namespace Go.Proofs.Ytdkgndjomkbbjaa
open Go Go.RowKit

structure CrC (w : World) (av bv : Array Value) (W : World) : Prop where
  k1 : Blk W w.heap.size 26 av
  k2 : Blk W (w.heap.size + 1) 26 bv
  bel : Below w.heap.size w W
theorem CrC.drew {w W : World} {av bv : Array Value} (h : CrC w av bv W) : CrC w av bv W.drew := ⟨h.k1.drew, h.k2.drew, h.bel.drew⟩

set_option maxHeartbeats 1000000 in
set_option maxRecDepth 100000 in
theorem rcompare_any (a b : List UInt8) (w : World) (ha : a.length = 32) (hb : b.length = 32) :
    Calls Try.prog 58 #[.agg (a.map B).toArray, .agg (b.map B).toArray] w fun e w' => e = .returned (.int .i64 (cmpL a b)) ∧ Below w.heap.size w w' := by
  obtain ⟨av, hav⟩ : ∃ av, (a.map B).toArray = av := ⟨_, rfl⟩
  obtain ⟨bv, hbv⟩ : ∃ bv, (b.map B).toArray = bv := ⟨_, rfl⟩
  rw [hav, hbv]
  obtain ⟨w1, hw1⟩ : ∃ w1, w.alloc (.cells av 26) = w1 := ⟨_, rfl⟩
  obtain ⟨w2, hw2⟩ : ∃ w2, w1.alloc (.cells bv 26) = w2 := ⟨_, rfl⟩
  have hs1 : w1.heap.size = w.heap.size + 1 := by rw [← hw1]; simp
  have hC2 : CrC w av bv w2 := ⟨by rw [← hw2, ← hw1]; exact (Blk.new _ _ _).alloc _, by rw [← hw2]; exact Blk.new' _ _ _ _ hs1.symm, by rw [← hw2, ← hw1]; exact ((Below.refl _ _).alloc (Nat.le_refl _) _).alloc (by simp) _⟩
  have Hav := Lib.hid hav
  have Hbv := Lib.hid hbv
  have Hw1 := Lib.hid hw1
  have Hw2 := Lib.hid hw2
  have Hs1 := Lib.hid hs1
  clear hav hbv hw1 hw2 hs1
  obtain ⟨z, hz⟩ : ∃ z, cmpL a b = z := ⟨_, rfl⟩
  rw [hz]
  have Hz := Lib.hid hz
  clear hz
  go_enter Try.func58, Try.ntmps58
  go_wp2_with (first
    | ((with_reducible show wpList _ _ _ (⟨some 2, .box _ _, _, _, _, _⟩ :: _) _ _); refine wpList_run rfl (.pointer (some ⟨w.heap.size, 0, none⟩)) w1 (by rw [← Hw1.out]; rfl) ?_; simp only [Act.put])
    | ((with_reducible show wpList _ _ _ (⟨some 3, .box _ _, _, _, _, _⟩ :: _) _ _); refine wpList_run rfl (.pointer (some ⟨w.heap.size + 1, 0, none⟩)) w2 (by rw [← Hw2.out, ← Hs1.out]; rfl) ?_; simp only [Act.put]))
  go_loopw [5] (fun v wr => ∃ (q : Nat), q ≤ 32 ∧ v = .int .i64 q ∧ (∀ j, j < q → a.getD j 0 = b.getD j 0) ∧ CrC w av bv wr) (fun v _ => 32 - (intOf v).toNat)
  case atStart => exact ⟨0, by omega, rfl, fun j hj => absurd hj (by omega), hC2⟩
  case round =>
    clear hC2
    obtain ⟨q, hq, rfl, hsame, hC⟩ := hrel
    by_cases hlq : q < 32
    · have hcm := cmpL_take a b q (by omega) (by omega) hsame
      obtain ⟨x, hx⟩ : ∃ x, a.getD q 0 = x := ⟨_, rfl⟩
      obtain ⟨y, hy⟩ : ∃ y, b.getD q 0 = y := ⟨_, rfl⟩
      have cx : ∀ s : InC (CrC w av bv), s.W.cell? ⟨w.heap.size, q, none⟩ = some (B x) := fun s => by rw [s.ok.k1.cell, ← Hav.out, cellB a q (by omega), hx]
      have cy : ∀ s : InC (CrC w av bv), s.W.cell? ⟨w.heap.size + 1, q, none⟩ = some (B y) := fun s => by rw [s.ok.k2.cell, ← Hbv.out, cellB b q (by omega), hy]
      rw [hx, hy, Hz.out] at hcm
      have Hx := Lib.hid hx
      have Hy := Lib.hid hy
      have Hcm := Lib.hid hcm
      have Hsame := Lib.hid hsame
      clear hx hy hcm hsame
      by_cases h1 : x.toNat < y.toNat
      · have hz1 := Hcm.out.1 h1
        have Hz1 := Lib.hid hz1
        clear hz1
        go_upto_region 4 with fail
        refine wp_region_mix (CrC w av bv) [(0, true), (1, true), (2, true), (3, true), (4, true), (5, true), (6, true)] (by kernel_rfl) (by kernel_rfl) hC.drew fun _ => ?_
        simp only [List.map_cons, List.map_nil, Array.getD_eq_getD_getElem?, List.getElem?_toArray, List.getElem?_cons_succ, List.getElem?_cons_zero, Option.getD_some]
        iterate 7 (refine wpMix_s (fun K hK => ?_); go_simp; refine hK _ ?_; clear hK K)
        refine wpMix_nil ?_
        intro hC1
        generalize wr.drew = W1 at hC1 ⊢
        go_wp2_with fail
        go_ret
        exact ⟨by rw [Hz1.out]; rfl, hC1.bel⟩
      · go_upto_region 4 with fail
        refine wp_region_mix (CrC w av bv) [(0, true), (1, true), (2, true), (3, true), (4, true), (5, true), (6, true)] (by kernel_rfl) (by kernel_rfl) hC.drew fun _ => ?_
        simp only [List.map_cons, List.map_nil, Array.getD_eq_getD_getElem?, List.getElem?_toArray, List.getElem?_cons_succ, List.getElem?_cons_zero, Option.getD_some]
        iterate 7 (refine wpMix_s (fun K hK => ?_); go_simp; refine hK _ ?_; clear hK K)
        refine wpMix_nil ?_
        intro hC1
        generalize wr.drew = W1 at hC1 ⊢
        by_cases h2 : y.toNat < x.toNat
        · have hz1 := Hcm.out.2 h2
          have Hz1 := Lib.hid hz1
          clear hz1
          go_upto_region 6 with fail
          refine wp_region_mix (CrC w av bv) [(0, true), (1, true), (2, true), (3, true), (4, true), (5, true), (6, true)] (by kernel_rfl) (by kernel_rfl) hC1.drew fun _ => ?_
          simp only [List.map_cons, List.map_nil, Array.getD_eq_getD_getElem?, List.getElem?_toArray, List.getElem?_cons_succ, List.getElem?_cons_zero, Option.getD_some]
          iterate 7 (refine wpMix_s (fun K hK => ?_); go_simp; refine hK _ ?_; clear hK K)
          refine wpMix_nil ?_
          intro hC2
          generalize W1.drew = W2 at hC2 ⊢
          go_wp2_with fail
          go_ret
          exact ⟨by rw [Hz1.out]; rfl, hC2.bel⟩
        · go_upto_region 6 with fail
          refine wp_region_mix (CrC w av bv) [(0, true), (1, true), (2, true), (3, true), (4, true), (5, true), (6, true)] (by kernel_rfl) (by kernel_rfl) hC1.drew fun _ => ?_
          simp only [List.map_cons, List.map_nil, Array.getD_eq_getD_getElem?, List.getElem?_toArray, List.getElem?_cons_succ, List.getElem?_cons_zero, Option.getD_some]
          iterate 7 (refine wpMix_s (fun K hK => ?_); go_simp; refine hK _ ?_; clear hK K)
          refine wpMix_nil ?_
          intro hC2
          generalize W1.drew = W2 at hC2 ⊢
          have hxy : x = y := UInt8.toNat_inj.1 (by omega)
          have Hxy := Lib.hid hxy
          clear hxy
          go_wp2_with fail
          refine ⟨⟨q + 1, by omega, by go_num, fun j hj => ?_, hC2⟩, by simp [intOf]; omega⟩
          by_cases hjq : j < q
          · exact Hsame.out j hjq
          · obtain rfl : j = q := by omega
            rw [Hx.out, Hy.out, Hxy.out]
    · obtain rfl : q = 32 := by omega
      have he : a = b := by
        apply List.ext_getElem (by rw [ha, hb])
        intro i h1 h2
        have := hsame i (by omega)
        rwa [List.getD_eq_getElem?_getD, List.getElem?_eq_getElem h1, List.getD_eq_getElem?_getD, List.getElem?_eq_getElem h2] at this
      have hz0 : z = 0 := by rw [← Hz.out, he]; exact cmpL_self b
      have Hz0 := Lib.hid hz0
      clear he hz0 hsame
      go_wp2_with fail
      go_ret
      exact ⟨by rw [Hz0.out]; rfl, hC.bel⟩
end Go.Proofs.Ytdkgndjomkbbjaa
