/- notarylaw12.known. -/
import Derived.Test.YtgcbdnoniikboaaQa16
import Derived.Test.YtgcbdnoniikboaaQa28
import Derived.Test.YtgcbdnoniikboaaQa21
import Derived.Test.YtgcbdnoniikboaaQa06
import Derived.Test.YtgcbdnoniikboaaQa07
namespace Go.Proofs.Ytgcbdnoniikboaa
open Go Go.RowKit

set_option maxHeartbeats 4000000 in
set_option maxRecDepth 100000 in
theorem known12_any (w : World) : Calls Try.prog 39 #[] w fun e w' => e = .returned (.bool true) ∧ Below w.heap.size w w' := by
  have r23 := rootsS23 (oneHash 1) (oneHash 2) (oneHash 3)
  have k1 := checkE23 (hNode (oneHash 1) (oneHash 2)) (hNode (hNode (oneHash 1) (oneHash 2)) (oneHash 3)) (oneHash 3)
  have k2 := checkE23 (hNode (hNode (oneHash 1) (oneHash 2)) (oneHash 3)) (hNode (hNode (oneHash 1) (oneHash 2)) (oneHash 3)) (oneHash 3)
  rw [if_neg (by simp)] at k1
  rw [if_pos eval_1233] at k2
  obtain ⟨a, ha⟩ : ∃ a, oneHash 1 = a := ⟨_, rfl⟩
  obtain ⟨b, hb⟩ : ∃ b, oneHash 2 = b := ⟨_, rfl⟩
  obtain ⟨c, hc⟩ : ∃ c, oneHash 3 = c := ⟨_, rfl⟩
  have hal : a.length = 32 := by rw [← ha]; exact length_oneHash _
  have hbl : b.length = 32 := by rw [← hb]; exact length_oneHash _
  have hcl : c.length = 32 := by rw [← hc]; exact length_oneHash _
  rw [ha, hb, hc] at r23 k1 k2
  obtain ⟨u, hu⟩ : ∃ u, hNode a b = u := ⟨_, rfl⟩
  have hul : u.length = 32 := by rw [← hu]; exact length_hNode _ _
  rw [hu] at k1 k2
  obtain ⟨t, ht⟩ : ∃ t, hNode u c = t := ⟨_, rfl⟩
  have htl : t.length = 32 := by rw [← ht]; exact length_hNode _ _
  rw [ht] at k1 k2
  have k3 := checkE_lo 3 2 u t [c] (by decide)
  have hab : H32 [a, b, c] := by
    intro h hh
    simp only [List.mem_cons, List.not_mem_nil, or_false] at hh
    rcases hh with rfl | rfl | rfl
    · exact hal
    · exact hbl
    · exact hcl
  have hcc : H32 [c] := by
    intro h hh
    rw [List.mem_singleton.1 hh]
    exact hcl
  have hn1 := fun W => hrnode_any a b W hal hbl
  have hn2 := fun W => hrnode_any u c W hul hcl
  rw [hu] at hn1
  rw [ht] at hn2
  obtain ⟨w1, hw1⟩ : ∃ w1, w.alloc (.cells (hcells [a, b, c]).toArray 34) = w1 := ⟨_, rfl⟩
  have hb0 : Below w.heap.size w w1 := by rw [← hw1]; exact (Below.refl _ _).alloc (Nat.le_refl _) _
  have hL : Hs w1 (fun _ => True) (some ⟨w.heap.size, 0, none⟩) 3 3 [a, b, c] := by rw [← hw1]; exact Hs.lit w [a, b, c] hab (by simp) 3 rfl
  have hpr := cprove_any [a, b, c] (some ⟨w.heap.size, 0, none⟩) 3 3 w1 2 hL (by decide)
  rw [show (([a, b, c] : List (List UInt8)).length : Int) = 3 from rfl, stepsA23, r23] at hpr
  have hck1 := fun A cp W (h : Hs W (fun _ => True) A 1 cp [c]) => ccheck_any 2 3 u t [c] A 1 cp W (by decide) hul htl h
  have hck2 := fun A cp W (h : Hs W (fun _ => True) A 1 cp [c]) => ccheck_any 2 3 t t [c] A 1 cp W (by decide) htl htl h
  have hck3 := fun A cp W (h : Hs W (fun _ => True) A 1 cp [c]) => ccheck_any 3 2 u t [c] A 1 cp W (by decide) hul htl h
  rw [k1] at hck1
  rw [k2] at hck2
  rw [k3] at hck3
  have Ha := Lib.hid ha
  have Hb := Lib.hid hb
  have Hc := Lib.hid hc
  have Hul := Lib.hid hul
  have Htl := Lib.hid htl
  have Hcl := Lib.hid hcl
  have Hab := Lib.hid hab
  have Hn1 := Lib.hid hn1
  have Hn2 := Lib.hid hn2
  have Hw1 := Lib.hid hw1
  have Hpr := Lib.hid hpr
  have Hck1 := Lib.hid hck1
  have Hck2 := Lib.hid hck2
  have Hck3 := Lib.hid hck3
  clear ha hb hc hal hbl hcl hu hul ht htl hab hn1 hn2 hw1 hpr hck1 hck2 hck3 r23 k1 k2 k3
  go_enter Try.func39, Try.ntmps39
  go_wp2_with (first
    | ((with_reducible show wpList _ _ _ (⟨some 6, .build _ _, _, _, _, _⟩ :: _) _ _); refine wpList_run0 rfl (.agg (a.map B).toArray) (by rw [← Ha.out]; kernel_rfl) ?_; simp only [Act.put])
    | ((with_reducible show wpList _ _ _ (⟨some 7, .build _ _, _, _, _, _⟩ :: _) _ _); refine wpList_run0 rfl (.agg (b.map B).toArray) (by rw [← Hb.out]; kernel_rfl) ?_; simp only [Act.put])
    | ((with_reducible show wpList _ _ _ (⟨some 8, .build _ _, _, _, _, _⟩ :: _) _ _); refine wpList_run0 rfl (.agg (c.map B).toArray) (by rw [← Hc.out]; kernel_rfl) ?_; simp only [Act.put])
    | ((with_reducible show wpList _ _ _ (⟨some 9, .buildSlice _ _ _, _, _, _, _⟩ :: _) _ _); refine wpList_run rfl _ _ (run_lit_op [a, b, c] Hab.out (by simp) (by simp) 3 _ rfl (by simp [Act.eval]) rfl _) ?_; simp only [Act.put]; rw [Hw1.out]))
  refine Hpr.out.mono ?_
  rintro e w2 ⟨v, rfl, ho, hb2⟩
  obtain ⟨gp, cp, rfl⟩ := owns_some ho (by simp)
  obtain ⟨A', c', hv, hp⟩ := Hs.of_owns ho rfl hcc
  cases hv
  replace hp := hp.weak (Y := fun _ => True) fun _ _ _ => trivial
  replace hL := hL.step hb2
  replace hb0 := hb0.trans (hb2.mono hb0.size)
  have hcp := hp.sl.room
  have hcm := hp.sl.max
  unfold maxLen at hcm
  clear ho hb2 Hpr
  go_wp2_with fail
  refine wp_share_us (fun us a' W' => ∃ g4, a' = { tmps := #[us 0, .slice (some ⟨w.heap.size, 0, none⟩) 3 3, .slice (some ⟨gp, 0, none⟩) 1 cp, .int .i64 0, .pointer (some ⟨g4, 0, none⟩), us 5, us 6, us 7, us 8, us 9, us 10, us 11, us 12, us 13, us 14, us 15, us 16, us 17, us 18, us 19, us 20, us 21, us 22, us 23, us 24, us 25, us 26, us 27, us 28, us 29, us 30, us 31, us 32, us 33, us 34, us 35, us 36, us 37, us 38, us 39, us 40, us 41, us 42, us 43, us 44, us 45, us 46, us 47, us 48, us 49, us 50, us 51, us 52, us 53, us 54, us 55, us 56, us 57, us 58, us 59, us 60, us 61, us 62, us 63], defers := [] } ∧ HV W' g4 u ∧ Below w2.heap.size w2 W') ?_ ?_
  · have l0 : ∀ s : InC (fun W => Below w2.heap.size w2 W), (Instr.loadAt 34 (.pointer (some ⟨w.heap.size, 0, none⟩))).run Try.prog s.W = .ok (.agg (a.map B).toArray) s.W := fun s => (hL.step s.ok).get rfl 0 (by simp)
    have L0 := Lib.hid l0
    clear l0
    have l1 : ∀ s : InC (fun W => Below w2.heap.size w2 W), (Instr.loadAt 34 (.pointer (some ⟨w.heap.size, 32, none⟩))).run Try.prog s.W = .ok (.agg (b.map B).toArray) s.W := fun s => (hL.step s.ok).get rfl 1 (by simp)
    have L1 := Lib.hid l1
    clear l1
    have hS : Below (w2.heap.size) w2 w2.drew := (Below.refl _ _).drew
    refine wp_region_begin (fun W => Below (w2.heap.size) w2 W) (by kernel_rfl) hS fun _ => ?_
    generalize w2.drew = w3 at hS  ⊢
    refine wpAnyH_pre (f := 3) (by kernel_rfl) #[true, true, true, true, true, true, false, false, false] [(0, true), (1, true), (2, true), (3, true), (4, true), (5, true)] _ _ _ (by kernel_rfl) hS ?_
    simp only [List.map_cons, List.map_nil, Array.getD_eq_getD_getElem?, List.getElem?_toArray, List.getElem?_cons_succ, List.getElem?_cons_zero, Option.getD_some]
    refine wpMix_s (fun K hK => ?_)
    go_simp
    refine hK _ ?_
    clear hK K
    refine wpMix_s (fun K hK => ?_)
    go_simp
    refine hK _ ?_
    clear hK K
    refine wpMix_load (by kernel_rfl) 34 (.tmp 16) rfl (w.heap.size) (0) rfl (a.map B).toArray (L0.out) ?_
    simp only [Act.put]
    refine wpMix_s (fun K hK => ?_)
    go_simp
    refine hK _ ?_
    clear hK K
    refine wpMix_s (fun K hK => ?_)
    go_simp
    refine hK _ ?_
    clear hK K
    refine wpMix_load (by kernel_rfl) 34 (.tmp 19) rfl (w.heap.size) (32) rfl (b.map B).toArray (L1.out) ?_
    simp only [Act.put]
    refine wpMix_nil ?_
    intro _
    refine wpAnyH_fork (f := 2) (i := 6) (j := 7) (by kernel_rfl) hS ?_ ?_
    · simp only [Array.getD_eq_getD_getElem?, List.getElem?_toArray, List.getElem?_cons_succ, List.getElem?_cons_zero, Option.getD_some]
      refine wpMix_c (fun K hK => ?_) hS
      go_simp
      refine (Hn1.out w3).mono ?_
      rintro e w3_1 ⟨rfl, hb'⟩
      refine hK _ _ ?_
      clear hK K
      replace hS := hS.trans (hb'.mono hS.size)
      refine ⟨hS, ?_⟩
      try replace k4 := k4.step hb'
      clear hb'
      refine wpMix_nil ?_
      intro _
      show wpAnyH _ _ _ _ _ _ #[true, true, true, true, true, true, true, false, false] _ _
      refine wpAnyH_pre (f := 0) (by kernel_rfl) #[true, true, true, true, true, true, true, true, true] [(7, false), (8, false)] _ _ _ (by kernel_rfl) hS ?_
      simp only [List.map_cons, List.map_nil, Array.getD_eq_getD_getElem?, List.getElem?_toArray, List.getElem?_cons_succ, List.getElem?_cons_zero, Option.getD_some]
      have k4g := hS.size
      refine wpMix_hnew rfl rfl (fun _ hb => hS.trans (hb.mono hS.size)) ?_
      intro w3_2 k4 hb'
      simp only [Act.put]
      replace hS := hS.trans (hb'.mono hS.size)
      clear hb'
      refine wpMix_hset (.tmp 4) (.tmp 21) rfl rfl k4 rfl rfl Hul.out (fun _ hb => hS.trans (hb.mono k4g)) ?_
      intro w3_3 k4s hb' hoth
      simp only [Act.put]
      replace hS := hS.trans (hb'.mono k4g)
      clear hb' hoth
      refine wpMix_nil ?_
      intro _
      refine wpAnyH_end (by kernel_rfl) ?_
      refine ⟨_, ?_, k4s, hS⟩
      kernel_rfl
    · simp only [Array.getD_eq_getD_getElem?, List.getElem?_toArray, List.getElem?_cons_succ, List.getElem?_cons_zero, Option.getD_some]
      have k4g := hS.size
      refine wpMix_hnew rfl rfl (fun _ hb => hS.trans (hb.mono hS.size)) ?_
      intro w3_4 k4 hb'
      simp only [Act.put]
      replace hS := hS.trans (hb'.mono hS.size)
      clear hb'
      refine wpMix_nil ?_
      intro _
      show wpAnyH _ _ _ _ _ _ #[true, true, true, true, true, true, false, true, false] _ _
      refine wpAnyH_pre (f := 0) (by kernel_rfl) #[true, true, true, true, true, true, true, true, true] [(6, false), (8, false)] _ _ _ (by kernel_rfl) hS ?_
      simp only [List.map_cons, List.map_nil, Array.getD_eq_getD_getElem?, List.getElem?_toArray, List.getElem?_cons_succ, List.getElem?_cons_zero, Option.getD_some]
      refine wpMix_c (fun K hK => ?_) hS
      go_simp
      refine (Hn1.out w3_4).mono ?_
      rintro e w3_5 ⟨rfl, hb'⟩
      refine hK _ _ ?_
      clear hK K
      replace hS := hS.trans (hb'.mono hS.size)
      refine ⟨hS, ?_⟩
      try replace k4 := k4.step hb'
      clear hb'
      refine wpMix_hset (.tmp 4) (.tmp 21) rfl rfl k4 rfl rfl Hul.out (fun _ hb => hS.trans (hb.mono k4g)) ?_
      intro w3_6 k4s hb' hoth
      simp only [Act.put]
      replace hS := hS.trans (hb'.mono k4g)
      clear hb' hoth
      refine wpMix_nil ?_
      intro _
      refine wpAnyH_end (by kernel_rfl) ?_
      refine ⟨_, ?_, k4s, hS⟩
      kernel_rfl
  rintro us a' w4 ⟨g4, rfl, k4, hb4⟩
  replace hp := hp.step hb4
  replace hL := hL.step hb4
  replace hb0 := hb0.trans (hb4.mono hb0.size)
  have hg4 := k4.lt
  clear hb4
  go_wp2_with fail
  refine wp_share_us (fun us a' W' => ∃ g5, a' = { tmps := #[us 0, .slice (some ⟨w.heap.size, 0, none⟩) 3 3, .slice (some ⟨gp, 0, none⟩) 1 cp, .int .i64 0, .pointer (some ⟨g4, 0, none⟩), .pointer (some ⟨g5, 0, none⟩), us 6, us 7, us 8, us 9, us 10, us 11, us 12, us 13, us 14, us 15, us 16, us 17, us 18, us 19, us 20, us 21, us 22, us 23, us 24, us 25, us 26, us 27, us 28, us 29, us 30, us 31, us 32, us 33, us 34, us 35, us 36, us 37, us 38, us 39, us 40, us 41, us 42, us 43, us 44, us 45, us 46, us 47, us 48, us 49, us 50, us 51, us 52, us 53, us 54, us 55, us 56, us 57, us 58, us 59, us 60, us 61, us 62, us 63], defers := [] } ∧ HV W' g4 u ∧ HV W' g5 t ∧ Below w4.heap.size w4 W') ?_ ?_
  · have l0 : ∀ s : InC (fun W => Below w4.heap.size w4 W), (Instr.loadAt 34 (.pointer (some ⟨g4, 0, none⟩))).run Try.prog s.W = .ok (.agg (u.map B).toArray) s.W := fun s => (k4.step s.ok).load
    have L0 := Lib.hid l0
    clear l0
    have l1 : ∀ s : InC (fun W => Below w4.heap.size w4 W), (Instr.loadAt 34 (.pointer (some ⟨w.heap.size, 64, none⟩))).run Try.prog s.W = .ok (.agg (c.map B).toArray) s.W := fun s => (hL.step s.ok).get rfl 2 (by simp)
    have L1 := Lib.hid l1
    clear l1
    replace k4 := k4.drew
    have hS : Below (w4.heap.size) w4 w4.drew := (Below.refl _ _).drew
    refine wp_region_begin (fun W => Below (w4.heap.size) w4 W) (by kernel_rfl) hS fun _ => ?_
    generalize w4.drew = w5 at hS k4 ⊢
    refine wpAnyH_pre (f := 3) (by kernel_rfl) #[true, true, true, true, false, false, false] [(0, true), (1, true), (2, true), (3, true)] _ _ _ (by kernel_rfl) hS ?_
    simp only [List.map_cons, List.map_nil, Array.getD_eq_getD_getElem?, List.getElem?_toArray, List.getElem?_cons_succ, List.getElem?_cons_zero, Option.getD_some]
    refine wpMix_load (by kernel_rfl) 34 (.tmp 4) rfl (g4) (0) rfl (u.map B).toArray (L0.out) ?_
    simp only [Act.put]
    refine wpMix_s (fun K hK => ?_)
    go_simp
    refine hK _ ?_
    clear hK K
    refine wpMix_s (fun K hK => ?_)
    go_simp
    refine hK _ ?_
    clear hK K
    refine wpMix_load (by kernel_rfl) 34 (.tmp 24) rfl (w.heap.size) (64) rfl (c.map B).toArray (L1.out) ?_
    simp only [Act.put]
    refine wpMix_nil ?_
    intro _
    refine wpAnyH_fork (f := 2) (i := 4) (j := 5) (by kernel_rfl) hS ?_ ?_
    · simp only [Array.getD_eq_getD_getElem?, List.getElem?_toArray, List.getElem?_cons_succ, List.getElem?_cons_zero, Option.getD_some]
      refine wpMix_c (fun K hK => ?_) hS
      go_simp
      refine (Hn2.out w5).mono ?_
      rintro e w5_1 ⟨rfl, hb'⟩
      refine hK _ _ ?_
      clear hK K
      replace hS := hS.trans (hb'.mono hS.size)
      refine ⟨hS, ?_⟩
      replace k4 := k4.step hb'
      try replace k5 := k5.step hb'
      clear hb'
      refine wpMix_nil ?_
      intro _
      show wpAnyH _ _ _ _ _ _ #[true, true, true, true, true, false, false] _ _
      refine wpAnyH_pre (f := 0) (by kernel_rfl) #[true, true, true, true, true, true, true] [(5, false), (6, false)] _ _ _ (by kernel_rfl) hS ?_
      simp only [List.map_cons, List.map_nil, Array.getD_eq_getD_getElem?, List.getElem?_toArray, List.getElem?_cons_succ, List.getElem?_cons_zero, Option.getD_some]
      have k5g := hS.size
      refine wpMix_hnew rfl rfl (fun _ hb => hS.trans (hb.mono hS.size)) ?_
      intro w5_2 k5 hb'
      simp only [Act.put]
      replace hS := hS.trans (hb'.mono hS.size)
      replace k4 := k4.step hb'
      clear hb'
      refine wpMix_hset (.tmp 5) (.tmp 26) rfl rfl k5 rfl rfl Htl.out (fun _ hb => hS.trans (hb.mono k5g)) ?_
      intro w5_3 k5s hb' hoth
      simp only [Act.put]
      replace hS := hS.trans (hb'.mono k5g)
      replace k4 := hoth _ _ (by omega) k4
      clear hb' hoth
      refine wpMix_nil ?_
      intro _
      refine wpAnyH_end (by kernel_rfl) ?_
      refine ⟨_, ?_, k4, k5s, hS⟩
      kernel_rfl
    · simp only [Array.getD_eq_getD_getElem?, List.getElem?_toArray, List.getElem?_cons_succ, List.getElem?_cons_zero, Option.getD_some]
      have k5g := hS.size
      refine wpMix_hnew rfl rfl (fun _ hb => hS.trans (hb.mono hS.size)) ?_
      intro w5_4 k5 hb'
      simp only [Act.put]
      replace hS := hS.trans (hb'.mono hS.size)
      replace k4 := k4.step hb'
      clear hb'
      refine wpMix_nil ?_
      intro _
      show wpAnyH _ _ _ _ _ _ #[true, true, true, true, false, true, false] _ _
      refine wpAnyH_pre (f := 0) (by kernel_rfl) #[true, true, true, true, true, true, true] [(4, false), (6, false)] _ _ _ (by kernel_rfl) hS ?_
      simp only [List.map_cons, List.map_nil, Array.getD_eq_getD_getElem?, List.getElem?_toArray, List.getElem?_cons_succ, List.getElem?_cons_zero, Option.getD_some]
      refine wpMix_c (fun K hK => ?_) hS
      go_simp
      refine (Hn2.out w5_4).mono ?_
      rintro e w5_5 ⟨rfl, hb'⟩
      refine hK _ _ ?_
      clear hK K
      replace hS := hS.trans (hb'.mono hS.size)
      refine ⟨hS, ?_⟩
      replace k4 := k4.step hb'
      try replace k5 := k5.step hb'
      clear hb'
      refine wpMix_hset (.tmp 5) (.tmp 26) rfl rfl k5 rfl rfl Htl.out (fun _ hb => hS.trans (hb.mono k5g)) ?_
      intro w5_6 k5s hb' hoth
      simp only [Act.put]
      replace hS := hS.trans (hb'.mono k5g)
      replace k4 := hoth _ _ (by omega) k4
      clear hb' hoth
      refine wpMix_nil ?_
      intro _
      refine wpAnyH_end (by kernel_rfl) ?_
      refine ⟨_, ?_, k4, k5s, hS⟩
      kernel_rfl
  rintro us a' w6 ⟨g5, rfl, k4, k5, hb6⟩
  replace hp := hp.step hb6
  replace hL := hL.step hb6
  replace hb0 := hb0.trans (hb6.mono hb0.size)
  clear hb6
  go_wp2_with fail
  have hS : Below w6.heap.size w6 w6.drew := (Below.refl _ _).drew
  have l0 : ∀ s : InC (fun W => Below w6.heap.size w6 W), (Instr.loadAt 34 (.pointer (some ⟨gp, 0, none⟩))).run Try.prog s.W = .ok (.agg (c.map B).toArray) s.W := fun s => (hp.step s.ok).get rfl 0 (by simp)
  have L0 := Lib.hid l0
  clear l0
  have l1 : ∀ s : InC (fun W => Below w6.heap.size w6 W), (Instr.loadAt 34 (.pointer (some ⟨w.heap.size, 64, none⟩))).run Try.prog s.W = .ok (.agg (c.map B).toArray) s.W := fun s => (hL.step s.ok).get rfl 2 (by simp)
  have L1 := Lib.hid l1
  clear l1
  have l4 : ∀ s : InC (fun W => Below w6.heap.size w6 W), (Instr.loadAt 34 (.pointer (some ⟨g4, 0, none⟩))).run Try.prog s.W = .ok (.agg (u.map B).toArray) s.W := fun s => (k4.step s.ok).load
  have L4 := Lib.hid l4
  clear l4
  have l5 : ∀ s : InC (fun W => Below w6.heap.size w6 W), (Instr.loadAt 34 (.pointer (some ⟨g5, 0, none⟩))).run Try.prog s.W = .ok (.agg (t.map B).toArray) s.W := fun s => (k5.step s.ok).load
  have L5 := Lib.hid l5
  clear l5
  refine wp_region_mix (fun W => Below w6.heap.size w6 W) [(0, true), (1, true), (2, true), (3, true), (4, true), (5, true), (6, true), (7, true), (8, true), (9, true), (10, true), (11, true), (12, true), (13, true), (14, true), (15, true), (16, true), (17, true), (18, true), (19, true), (20, false), (21, true), (22, true), (23, true), (24, true), (25, true), (26, true), (27, false), (28, true), (29, true), (30, true), (31, true), (32, true), (33, true), (34, false), (35, true), (36, true), (37, true)] (by kernel_rfl) (by kernel_rfl) hS fun _ => ?_
  simp only [List.map_cons, List.map_nil, Array.getD_eq_getD_getElem?, List.getElem?_toArray, List.getElem?_cons_succ, List.getElem?_cons_zero, Option.getD_some]
  generalize w6.drew = w7 at hS ⊢
  refine wpMix_s (fun K hK => ?_)
  go_simp
  refine hK _ ?_
  clear hK K
  refine wpMix_s (fun K hK => ?_)
  go_simp
  refine hK _ ?_
  clear hK K
  refine wpMix_s (fun K hK => ?_)
  go_simp
  refine hK _ ?_
  clear hK K
  refine wpMix_s (fun K hK => ?_)
  go_simp
  refine hK _ ?_
  clear hK K
  refine wpMix_s (fun K hK => ?_)
  go_simp
  refine hK _ ?_
  clear hK K
  refine wpMix_s (fun K hK => ?_)
  go_simp
  refine hK _ ?_
  clear hK K
  refine wpMix_s (fun K hK => ?_)
  go_simp
  refine hK _ ?_
  clear hK K
  refine wpMix_s (fun K hK => ?_)
  go_simp
  refine hK _ ?_
  clear hK K
  refine wpMix_s (fun K hK => ?_)
  go_simp
  refine hK _ ?_
  clear hK K
  refine wpMix_s (fun K hK => ?_)
  go_simp
  refine hK _ ?_
  clear hK K
  refine wpMix_load (by kernel_rfl) 34 (.tmp 36) rfl (gp) (0) rfl (c.map B).toArray (L0.out) ?_
  simp only [Act.put]
  refine wpMix_s (fun K hK => ?_)
  go_simp
  refine hK _ ?_
  clear hK K
  refine wpMix_s (fun K hK => ?_)
  go_simp
  refine hK _ ?_
  clear hK K
  refine wpMix_load (by kernel_rfl) 34 (.tmp 39) rfl (w.heap.size) (64) rfl (c.map B).toArray (L1.out) ?_
  simp only [Act.put]
  refine wpMix_v (by kernel_rfl) (.bool true) (fun s => run_eql26_t (.tmp 37) (.tmp 40) _ c c rfl rfl rfl Hcl.out Hcl.out rfl s.W) ?_
  simp only [Act.put]
  refine wpMix_s (fun K hK => ?_)
  go_simp
  refine hK _ ?_
  clear hK K
  refine wpMix_s (fun K hK => ?_)
  go_simp
  refine hK _ ?_
  clear hK K
  refine wpMix_load (by kernel_rfl) 34 (.tmp 4) rfl (g4) (0) rfl (u.map B).toArray (L4.out) ?_
  simp only [Act.put]
  refine wpMix_load (by kernel_rfl) 34 (.tmp 5) rfl (g5) (0) rfl (t.map B).toArray (L5.out) ?_
  simp only [Act.put]
  refine wpMix_s (fun K hK => ?_)
  go_simp
  refine hK _ ?_
  clear hK K
  refine wpMix_c (fun K hK => ?_) hS
  go_simp
  refine (Hck1.out _ _ w7 (hp.step hS)).mono ?_
  rintro e w7_1 ⟨rfl, hb'⟩
  refine hK _ _ ?_
  clear hK K
  replace hS := hS.trans (hb'.mono hS.size)
  refine ⟨hS, ?_⟩
  clear hb'
  refine wpMix_s (fun K hK => ?_)
  go_simp
  refine hK _ ?_
  clear hK K
  refine wpMix_s (fun K hK => ?_)
  go_simp
  refine hK _ ?_
  clear hK K
  refine wpMix_s (fun K hK => ?_)
  go_simp
  refine hK _ ?_
  clear hK K
  refine wpMix_load (by kernel_rfl) 34 (.tmp 5) rfl (g5) (0) rfl (t.map B).toArray (L5.out) ?_
  simp only [Act.put]
  refine wpMix_load (by kernel_rfl) 34 (.tmp 5) rfl (g5) (0) rfl (t.map B).toArray (L5.out) ?_
  simp only [Act.put]
  refine wpMix_s (fun K hK => ?_)
  go_simp
  refine hK _ ?_
  clear hK K
  refine wpMix_c (fun K hK => ?_) hS
  go_simp
  refine (Hck2.out _ _ w7_1 (hp.step hS)).mono ?_
  rintro e w7_2 ⟨rfl, hb'⟩
  refine hK _ _ ?_
  clear hK K
  replace hS := hS.trans (hb'.mono hS.size)
  refine ⟨hS, ?_⟩
  clear hb'
  refine wpMix_s (fun K hK => ?_)
  go_simp
  refine hK _ ?_
  clear hK K
  refine wpMix_s (fun K hK => ?_)
  go_simp
  refine hK _ ?_
  clear hK K
  refine wpMix_s (fun K hK => ?_)
  go_simp
  refine hK _ ?_
  clear hK K
  refine wpMix_load (by kernel_rfl) 34 (.tmp 4) rfl (g4) (0) rfl (u.map B).toArray (L4.out) ?_
  simp only [Act.put]
  refine wpMix_load (by kernel_rfl) 34 (.tmp 5) rfl (g5) (0) rfl (t.map B).toArray (L5.out) ?_
  simp only [Act.put]
  refine wpMix_s (fun K hK => ?_)
  go_simp
  refine hK _ ?_
  clear hK K
  refine wpMix_c (fun K hK => ?_) hS
  go_simp
  refine (Hck3.out _ _ w7_2 (hp.step hS)).mono ?_
  rintro e w7_3 ⟨rfl, hb'⟩
  refine hK _ _ ?_
  clear hK K
  replace hS := hS.trans (hb'.mono hS.size)
  refine ⟨hS, ?_⟩
  clear hb'
  refine wpMix_s (fun K hK => ?_)
  go_simp
  refine hK _ ?_
  clear hK K
  refine wpMix_s (fun K hK => ?_)
  go_simp
  refine hK _ ?_
  clear hK K
  refine wpMix_s (fun K hK => ?_)
  go_simp
  refine hK _ ?_
  clear hK K
  refine wpMix_nil ?_
  intro _
  go_wp2_with fail
  go_ret
  exact ⟨rfl, hb0.trans (hS.mono hb0.size)⟩
end Go.Proofs.Ytgcbdnoniikboaa
/- Proofs are taken (plain). -/
namespace Go.Proofs.Ytgcbdnoniikboaa
open Go Go.RowKit

theorem stretch_split (hs : List (List UInt8)) (a n : Nat) (hn : 2 ≤ n) (h : a + n ≤ hs.length) : stretchL hs a (a + n) = hNode (stretchL hs a (a + splitN n)) (stretchL hs (a + splitN n) (a + n)) := by
  have hl := splitN_lt n hn
  unfold stretchL
  rw [show a + n - a = n by omega, show a + splitN n - a = splitN n by omega, show a + n - (a + splitN n) = n - splitN n by omega]
  have hlen : ((hs.drop a).take n).length = n := by rw [List.length_take, List.length_drop]; omega
  rw [rootL_more ((hs.drop a).take n) (by rw [hlen]; omega), hlen, List.take_take, Nat.min_eq_left (by omega), List.drop_take, List.drop_drop]
theorem rootsL_snoc (hs : List (List UInt8)) (l : List (Nat × Nat)) (x : Nat × Nat) : rootsL hs (l ++ [x]) = rootsL hs l ++ [stretchL hs x.1 x.2] := by simp [rootsL]
theorem last_snocH (l : List (List UInt8)) (x : List UInt8) : (l ++ [x]).getD ((l ++ [x]).length - 1) [] = x := by simp [List.getD_eq_getElem?_getD]
/-- the same split, for what lies behind it too -/
theorem splitN_same (m n : Nat) (h : splitN n < m) (hn : m ≤ n) (h2 : 2 ≤ n) : splitN m = splitN n := by
  obtain ⟨j, h3, h4, h5⟩ := splitN_pow n h2
  rw [h3] at h ⊢
  exact splitN_eq m j h (by omega)
theorem bothL_roots (hs : List (List UInt8)) (d : Nat) : ∀ (m a n : Nat) (whole : Bool) (x : List UInt8), n ≤ d → 1 ≤ m → m ≤ n → a + n ≤ hs.length → (whole = true → x = stretchL hs a (a + m)) →
    bothL m n whole x (rootsL hs (stepsL m a n whole)) = (stretchL hs a (a + m), stretchL hs a (a + n)) := by
  induction d with
  | zero => intro m a n whole x h h1 h2; omega
  | succ d ih =>
    intro m a n whole x h h1 h2 ha hx
    by_cases hmn : m = n
    · subst hmn
      rw [bothL_eq m whole x _ h1, stepsL_eq m a whole h1]
      cases whole with
      | true => rw [if_pos rfl, ← hx rfl]
      | false => rfl
    · have hl := splitN_lt n (by omega)
      have hps := splitN_pos n (by omega)
      by_cases hk : m ≤ splitN n
      · rw [bothL_left m n whole x _ h1 (by omega) hk, stepsL_left m a n whole h1 (by omega) hk, rootsL_snoc, List.dropLast_concat, last_snocH, ih m a (splitN n) whole x (by omega) h1 hk (by omega) hx, stretch_split hs a n (by omega) ha]
      · rw [bothL_right m n whole x _ h1 (by omega) hk, stepsL_right m a n whole h1 (by omega) hk, rootsL_snoc, List.dropLast_concat, last_snocH, ih (m - splitN n) (a + splitN n) (n - splitN n) false x (by omega) (by omega) (by omega) (by omega) (fun e => by cases e),
          stretch_split hs a n (by omega) ha, stretch_split hs a m (by omega) (by omega), splitN_same m n (by omega) h2 (by omega), show a + splitN n + (m - splitN n) = a + m by omega, show a + splitN n + (n - splitN n) = a + n by omega]
/-- the first hash is not looked at where the stretch is not whole -/
theorem bothL_false (d : Nat) : ∀ (m n : Nat) (x y : List UInt8) (p : List (List UInt8)), n ≤ d → 1 ≤ m → m ≤ n → bothL m n false x p = bothL m n false y p := by
  induction d with
  | zero => intro m n x y p h h1 h2; omega
  | succ d ih =>
    intro m n x y p h h1 h2
    by_cases hmn : m = n
    · subst hmn
      rw [bothL_eq m false x p h1, bothL_eq m false y p h1]
      rfl
    · have hl := splitN_lt n (by omega)
      have hps := splitN_pos n (by omega)
      by_cases hk : m ≤ splitN n
      · rw [bothL_left m n false x p h1 (by omega) hk, bothL_left m n false y p h1 (by omega) hk, ih m (splitN n) x y _ (by omega) h1 hk]
      · rw [bothL_right m n false x p h1 (by omega) hk, bothL_right m n false y p h1 (by omega) hk, ih (m - splitN n) (n - splitN n) x y _ (by omega) (by omega) (by omega)]
/-- nor where the smaller one is no power of two -/
theorem bothL_true (d : Nat) : ∀ (m n : Nat) (x y : List UInt8) (p : List (List UInt8)), n ≤ d → 1 ≤ m → m < n → (∀ j, m ≠ 2 ^ j) → bothL m n true x p = bothL m n true y p := by
  induction d with
  | zero => intro m n x y p h h1 h2; omega
  | succ d ih =>
    intro m n x y p h h1 h2 hp
    have hl := splitN_lt n (by omega)
    have hps := splitN_pos n (by omega)
    obtain ⟨j, h3, _, _⟩ := splitN_pow n (by omega)
    by_cases hk : m ≤ splitN n
    · have hne : m ≠ splitN n := by rw [h3]; exact hp j
      rw [bothL_left m n true x p h1 (by omega) hk, bothL_left m n true y p h1 (by omega) hk, ih m (splitN n) x y _ (by omega) h1 (by omega) hp]
    · rw [bothL_right m n true x p h1 (by omega) hk, bothL_right m n true y p h1 (by omega) hk, bothL_false d (m - splitN n) (n - splitN n) x y _ (by omega) (by omega) (by omega)]
theorem stepsA_nat (m n : Nat) (h1 : 1 ≤ m) (h2 : m ≤ n) : stepsA (m : Int) (n : Int) = (stepsL m 0 n true, 0) := by
  unfold stepsA
  rw [if_neg (by omega), if_neg (by omega), Int.toNat_natCast, Int.toNat_natCast]
theorem stepsA_none (n : Nat) : stepsA 0 (n : Int) = ([], 0) := by
  unfold stepsA
  rw [if_neg (by omega), if_pos rfl]
theorem stepsA_fine (m n : Nat) (h : m ≤ n) : (stepsA (m : Int) (n : Int)).2 = 0 := by
  rcases Nat.eq_zero_or_pos m with h0 | h0
  · subst h0; exact congrArg Prod.snd (stepsA_none n)
  · rw [stepsA_nat m n h0 h]
theorem stretch_all (hs : List (List UInt8)) : stretchL hs 0 hs.length = rootL hs := by unfold stretchL; simp
theorem stretch_head (hs : List (List UInt8)) (m : Nat) : stretchL hs 0 m = rootL (hs.take m) := by unfold stretchL; simp
/-- the two roots come out of the proof -/
theorem bothE_roots (hs : List (List UInt8)) (m : Nat) (h1 : 1 ≤ m) (h2 : m ≤ hs.length) : bothE (m : Int) (hs.length : Int) (rootL (hs.take m)) (rootsS hs (m : Int)) = ((rootL (hs.take m), rootL hs), 0) := by
  rw [bothE_ok _ _ _ _ (by omega) (by rw [length_rootsS]), Int.toNat_natCast, Int.toNat_natCast]
  unfold rootsS
  rw [stepsA_nat m hs.length h1 h2]
  have := bothL_roots hs hs.length m 0 hs.length true (rootL (hs.take m)) (Nat.le_refl _) h1 h2 (by omega) (fun _ => by rw [Nat.zero_add, stretch_head])
  simp only [Nat.zero_add, stretch_head, List.take_length] at this
  rw [this]
/-- the proof is taken -/
theorem checkE_taken (hs : List (List UInt8)) (m : Nat) (h2 : m ≤ hs.length) : checkE (m : Int) (hs.length : Int) (rootL (hs.take m)) (rootL hs) (rootsS hs (m : Int)) = 0 := by
  unfold checkE
  rw [if_neg (by omega)]
  rcases Nat.eq_zero_or_pos m with h0 | h0
  · subst h0
    rw [if_pos (by decide), if_neg]
    rintro (h | h | ⟨h, h'⟩)
    · exact h rfl
    · exact h (by unfold rootsS; rw [show ((0 : Nat) : Int) = 0 from rfl, stepsA_none]; rfl)
    · exact h' (by rw [show hs = [] from List.eq_nil_of_length_eq_zero (by omega)]; rfl)
  · rw [if_neg (by omega), bothE_roots hs m h0 h2]
    simp
/-- not with another second root -/
theorem checkE_second (hs : List (List UInt8)) (m : Nat) (h1 : 1 ≤ m) (h2 : m ≤ hs.length) (y : List UInt8) (hy : y ≠ rootL hs) : checkE (m : Int) (hs.length : Int) (rootL (hs.take m)) y (rootsS hs (m : Int)) = 220 := by
  unfold checkE
  rw [if_neg (by omega), if_neg (by omega), bothE_roots hs m h1 h2, if_pos (.inr (.inr fun e => hy e.symm))]
/-- not with more hashes, nor with fewer -/
theorem checkE_length (m n : Nat) (h1 : 1 ≤ m) (h2 : m ≤ n) (x y : List UInt8) (p : List (List UInt8)) (h : (stepsA (m : Int) (n : Int)).1.length ≠ p.length) : checkE (m : Int) (n : Int) x y p = 220 := by
  unfold checkE
  rw [if_neg (by omega), if_neg (by omega), bothE_size _ _ _ _ (by omega) h, if_pos (.inl (by decide))]
/-- nor, where the smaller list is no power of two, or not smaller, with another first root -/
theorem checkE_first (hs : List (List UInt8)) (m : Nat) (h1 : 1 ≤ m) (h2 : m ≤ hs.length) (x : List UInt8) (hx : x ≠ rootL (hs.take m)) (hp : m = hs.length ∨ ∀ j, m ≠ 2 ^ j) : checkE (m : Int) (hs.length : Int) x (rootL hs) (rootsS hs (m : Int)) = 220 := by
  unfold checkE
  rw [if_neg (by omega), if_neg (by omega)]
  rw [if_pos]
  have hb := bothE_roots hs m h1 h2
  rw [bothE_ok _ _ _ _ (by omega) (by rw [length_rootsS]), Int.toNat_natCast, Int.toNat_natCast] at hb ⊢
  dsimp only at hb ⊢
  by_cases he : m = hs.length
  · right; right
    rw [← he, bothL_eq m true _ _ h1, if_pos rfl]
    rw [he, List.take_length] at hx
    exact hx
  · right; left
    rw [bothL_true hs.length m hs.length x (rootL (hs.take m)) _ (Nat.le_refl _) h1 (by omega) (hp.resolve_left he), congrArg Prod.fst (congrArg Prod.fst hb)]
    exact fun e => hx e.symm
end Go.Proofs.Ytgcbdnoniikboaa
/- A drawn region in which several makers may come in any order: each is walked once. No program in sight. -/
namespace Go.Proofs.Ytgcbdnoniikboaa
open Go Go.RowKit

/-- these have come up -/
def setAll (L : Array Bool) (sub : List Nat) : Array Bool := sub.foldr (fun k L => L.setIfInBounds k true) L
theorem size_setAll (L : Array Bool) : ∀ sub : List Nat, (setAll L sub).size = L.size
  | [] => rfl
  | k :: sub => by
    show ((setAll L sub).setIfInBounds k true).size = L.size
    rw [Array.size_setIfInBounds, size_setAll L sub]
theorem setAll_get (L : Array Bool) (i : Nat) (hi : i < L.size) : ∀ sub : List Nat, (setAll L sub)[i]? = some (L[i] || sub.contains i)
  | [] => by simp [setAll, hi]
  | k :: sub => by
    show ((setAll L sub).setIfInBounds k true)[i]? = _
    rw [Array.getElem?_setIfInBounds]
    by_cases hk : k = i
    · subst hk
      rw [if_pos rfl, if_pos (by rw [size_setAll]; exact hi)]
      simp
    · rw [if_neg hk, setAll_get L i hi sub]
      have : (i == k) = false := by simpa using fun e => hk e.symm
      rw [List.contains_cons, this, Bool.false_or]
theorem setAll_same (L : Array Bool) (s t : List Nat) (h : ∀ i, s.contains i = t.contains i) : setAll L s = setAll L t := by
  apply Array.ext
  · rw [size_setAll, size_setAll]
  · intro i h1 h2
    have hi : i < L.size := by rwa [size_setAll] at h1
    have e1 := setAll_get L i hi s
    have e2 := setAll_get L i hi t
    rw [h i] at e1
    have := e1.trans e2.symm
    rw [Array.getElem?_eq_getElem h1, Array.getElem?_eq_getElem h2] at this
    exact Option.some.inj this
def subsL : List Nat → List (List Nat)
  | [] => [[]]
  | k :: l => subsL l ++ (subsL l).map (k :: ·)
theorem filter_subs (p : Nat → Bool) : ∀ l : List Nat, l.filter p ∈ subsL l
  | [] => by simp [subsL]
  | k :: l => by
    have := filter_subs p l
    rw [List.filter_cons]
    unfold subsL
    split
    · exact List.mem_append.2 (.inr (List.mem_map.2 ⟨_, this, rfl⟩))
    · exact List.mem_append.2 (.inl this)
/-- what each of them waits for has come up, too -/
def closedP (ops : Array Oper) (L : Array Bool) (k : Nat) : Bool := (ops.getD k default).after.toList.all fun e => !Region.binds .any e || L.getD e.on false
theorem closedP_step (ops : Array Oper) (L : Array Bool) (j k : Nat) (h : closedP ops L k = true) : closedP ops (L.setIfInBounds j true) k = true := by
  unfold closedP at *
  rw [List.all_eq_true] at *
  intro e he
  have := h e he
  rw [Bool.or_eq_true] at this ⊢
  rcases this with h1 | h1
  · exact .inl h1
  · right
    rw [Array.getD_eq_getD_getElem?] at h1 ⊢
    rw [Array.getElem?_setIfInBounds]
    split
    · rename_i h2
      split
      · rfl
      · rename_i h3
        rw [← h2, Array.getElem?_eq_none (by omega)] at h1
        cases h1
    · exact h1
/-- in every state that some of them have left, some more of them may come up, and none else -/
def makersOk (ops : Array Oper) (L : Array Bool) (ks : List Nat) (need : Nat → List Nat) : Bool :=
  (subsL ks).all fun s => ks.all s.contains || !(s.all fun k => closedP ops (setAll L s) k) || (!(Region.ready .any ops (setAll L s)).isEmpty && (Region.ready .any ops (setAll L s)).all fun k => ks.contains k && (need k).all s.contains)

def upd (us : Nat → Value) (s : Nat) (v : Value) : Nat → Value := fun j => if j = s then v else us j
theorem upd_same (us : Nat → Value) (s : Nat) (v : Value) : upd us s v s = v := if_pos rfl
theorem upd_other (us : Nat → Value) (s j : Nat) (v : Value) (h : j ≠ s) : upd us s v j = us j := if_neg h
abbrev ptrB (g : Nat) : Value := .pointer (some ⟨g, 0, none⟩)
/-- how many are left -/
def leftN (ks sub : List Nat) : Nat := (ks.filter fun k => !sub.contains k).length
theorem leftN_cons (sub : List Nat) (k : Nat) (hk : sub.contains k = false) : ∀ ks : List Nat, ks.Nodup → k ∈ ks → leftN ks (k :: sub) + 1 = leftN ks sub
  | [], _, h => by cases h
  | x :: ks, hn, h => by
    obtain ⟨hx, hn⟩ := List.nodup_cons.1 hn
    unfold leftN
    by_cases hxk : x = k
    · subst hxk
      have hrest : (ks.filter fun y => !(x :: sub).contains y) = ks.filter fun y => !sub.contains y := by
        apply List.filter_congr
        intro y hy
        have : (y == x) = false := by simp; rintro rfl; exact hx hy
        rw [List.contains_cons, this, Bool.false_or]
      rw [List.filter_cons, List.filter_cons, if_neg (by simp), if_pos (by rw [hk]; rfl), hrest]
      rfl
    · have hm : k ∈ ks := by
        rcases List.mem_cons.1 h with e | e
        · exact absurd e.symm hxk
        · exact e
      have := leftN_cons sub k hk ks hn hm
      unfold leftN at this
      have hxe : (x == k) = false := by simpa using hxk
      have e1 : (k :: sub).contains x = sub.contains x := by rw [List.contains_cons, hxe, Bool.false_or]
      rw [List.filter_cons, List.filter_cons, e1]
      split
      · simp only [List.length_cons]; omega
      · exact this
theorem leftN_zero (ks sub : List Nat) (h : leftN ks sub = 0) : ks.all sub.contains = true := by
  rw [List.all_eq_true]
  intro k hk
  unfold leftN at h
  have := List.eq_nil_of_length_eq_zero h
  have := List.filter_eq_nil_iff.1 this k hk
  simpa using this

section
variable {P : Program} {ops : Array Oper} {Q : Exit → Act → World → Prop} {S : World → Prop}
theorem wpAnyH_makers0 (mk : (Nat → Value) → Act) (L : Array Bool) (ks : List Nat) (need : Nat → List Nat) (slot : Nat → Nat) (fact : Nat → Value → World → Prop) (f1 : Nat)
    (hok : makersOk ops L ks need = true) (hnd : ks.Nodup) (hslot : ∀ k ∈ ks, ∀ k' ∈ ks, slot k = slot k' → k = k')
    (hstep : ∀ k ∈ ks, ∀ v W W', fact k v W → Below W.heap.size W W' → fact k v W') (hlt : ∀ k ∈ ks, ∀ g W, fact k (ptrB g) W → g < W.heap.size)
    (hrun : ∀ k ∈ ks, ∀ us W, S W → (∀ k' ∈ need k, fact k' (us (slot k')) W) →
      wpMix P ops S Q (fun a W' => ∃ v, a = mk (upd us (slot k) v) ∧ fact k v W' ∧ Below W.heap.size W W' ∧ ∀ g, v = ptrB g → W.heap.size ≤ g) [(ops.getD k default, false)] (mk us) W)
    (htail : ∀ us W, S W → (∀ k ∈ ks, fact k (us (slot k)) W) → (∀ k ∈ ks, ∀ k' ∈ ks, k ≠ k' → ∀ g, us (slot k) = ptrB g → us (slot k') ≠ ptrB g) → wpAnyH P .any ops (NoPanic Q) S f1 (setAll L ks) (mk us) W) :
    ∀ (n : Nat) (sub : List Nat) (us : Nat → Value) (W : World), leftN ks sub = n → (∀ k ∈ sub, k ∈ ks) → (∀ k ∈ sub, closedP ops (setAll L sub) k = true) → S W → (∀ k ∈ sub, fact k (us (slot k)) W) → (∀ k ∈ sub, ∀ k' ∈ sub, k ≠ k' → ∀ g, us (slot k) = ptrB g → us (slot k') ≠ ptrB g) →
      wpAnyH P .any ops (NoPanic Q) S (n + f1) (setAll L sub) (mk us) W
  | 0, sub, us, W, hn, hsub, _, hS, hf, ha => by
    have hall := leftN_zero ks sub hn
    rw [List.all_eq_true] at hall
    have hm : ∀ k ∈ ks, k ∈ sub := fun k hk => by simpa using hall k hk
    rw [setAll_same L sub ks (fun i => by
      by_cases hi : i ∈ sub
      · rw [List.contains_iff_mem.2 hi, List.contains_iff_mem.2 (hsub i hi)]
      · have hi' : i ∉ ks := fun h => hi (hm i h)
        rw [Bool.eq_false_iff.2 (fun h => hi (List.contains_iff_mem.1 h)), Bool.eq_false_iff.2 (fun h => hi' (List.contains_iff_mem.1 h))]), Nat.zero_add]
    exact htail us W hS (fun k hk => hf k (hm k hk)) (fun k hk k' hk' => ha k (hm k hk) k' (hm k' hk'))
  | n + 1, sub, us, W, hn, hsub, hcl, hS, hf, ha => by
    have hok' := hok
    unfold makersOk at hok'
    rw [List.all_eq_true] at hok'
    have hc := hok' _ (filter_subs (fun k => sub.contains k) ks)
    have hse : ∀ i, (ks.filter fun k => sub.contains k).contains i = sub.contains i := fun i => by
      by_cases hi : i ∈ sub
      · rw [List.contains_iff_mem.2 hi, List.contains_iff_mem.2 (List.mem_filter.2 ⟨hsub i hi, List.contains_iff_mem.2 hi⟩)]
      · rw [Bool.eq_false_iff.2 (fun h => hi (List.contains_iff_mem.1 h)), Bool.eq_false_iff.2 (fun h => hi (List.contains_iff_mem.1 (List.mem_filter.1 (List.contains_iff_mem.1 h)).2))]
    rw [setAll_same L _ sub hse] at hc
    have hnall : ks.all (ks.filter fun k => sub.contains k).contains = false := by
      rw [Bool.eq_false_iff]
      intro h
      rw [List.all_eq_true] at h
      unfold leftN at hn
      have h0 : (ks.filter fun k => !sub.contains k) = [] := List.filter_eq_nil_iff.2 fun k hk => by
        have := h k hk
        rw [hse] at this
        simp [List.contains_iff_mem.1 this]
      rw [h0] at hn
      cases hn
    have hclf : ((ks.filter fun k => sub.contains k).all fun k => closedP ops (setAll L sub) k) = true := by
      rw [List.all_eq_true]
      exact fun k hk => hcl k (List.contains_iff_mem.1 (List.mem_filter.1 hk).2)
    rw [hnall, hclf, Bool.not_true, Bool.or_false, Bool.false_or, Bool.and_eq_true] at hc
    obtain ⟨hne, hrd⟩ := hc
    rw [List.all_eq_true] at hrd
    rw [show n + 1 + f1 = n + f1 + 1 by omega]
    refine ⟨fun h0 => (by rw [h0] at hne; cases hne), fun k hk => ?_⟩
    have hk' := hrd k hk
    rw [Bool.and_eq_true, List.contains_iff_mem] at hk'
    obtain ⟨hks, hnd'⟩ := hk'
    rw [List.all_eq_true] at hnd'
    obtain ⟨hun, ok, hoi, hed⟩ := mem_ready.1 hk
    have hget : ops.getD k default = ok := by simp [hoi]
    have hkn : sub.contains k = false := by
      by_cases hkL : k < L.size
      · have := setAll_get L k hkL sub
        rw [Array.getD_eq_getD_getElem?, this] at hun
        simp only [Option.getD_some, Bool.or_eq_false_iff] at hun
        exact hun.2
      · rw [Array.getD_eq_getD_getElem?, Array.getElem?_eq_none (by rw [size_setAll]; omega)] at hun
        cases hun
    have hr := (hrun k hks us W hS (fun k' hk'' => hf k' (by
      have := hnd' k' hk''
      rw [hse] at this
      exact List.contains_iff_mem.1 this))).out
    have key : ∀ v W', S W' → fact k v W' → Below W.heap.size W W' → (∀ g, v = ptrB g → W.heap.size ≤ g) → wpAnyH P .any ops (NoPanic Q) S (n + f1) (setAll L (k :: sub)) (mk (upd us (slot k) v)) W' := fun v W' hS' hv hb hg => by
      have hother : ∀ k' ∈ sub, upd us (slot k) v (slot k') = us (slot k') := fun k' hk'' => upd_other _ _ _ _ (fun e => by
        have := hslot k' (hsub k' hk'') k hks e
        subst this
        rw [List.contains_iff_mem.2 hk''] at hkn
        cases hkn)
      refine wpAnyH_makers0 mk L ks need slot fact f1 hok hnd hslot hstep hlt hrun htail n (k :: sub) _ W' (by have := leftN_cons sub k hkn ks hnd hks; omega) ?_ ?_ hS' ?_ ?_
      · intro k' hk''
        rcases List.mem_cons.1 hk'' with rfl | hk''
        · exact hks
        · exact hsub k' hk''
      · intro k' hk''
        refine closedP_step ops (setAll L sub) k k' ?_
        rcases List.mem_cons.1 hk'' with rfl | hk''
        · unfold closedP
          rw [hget, List.all_eq_true]
          intro e he
          by_cases hb : Region.binds .any e = true
          · rw [hed e (by simpa using he) hb]; simp
          · simp [hb]
        · exact hcl k' hk''
      · intro k' hk''
        rcases List.mem_cons.1 hk'' with rfl | hk''
        · rw [upd_same]; exact hv
        · rw [hother k' hk'']; exact hstep k' (hsub k' hk'') _ _ _ (hf k' hk'') hb
      · intro k1 m1 k2 m2 hne' g hp hq
        rcases List.mem_cons.1 m1 with e1 | h1
        · rw [e1, upd_same] at hp
          rcases List.mem_cons.1 m2 with e2 | h2
          · exact hne' (e1.trans e2.symm)
          · rw [hother k2 h2] at hq
            have := hf k2 h2
            rw [hq] at this
            have := hlt k2 (hsub k2 h2) _ _ this
            have := hg g hp
            omega
        · rw [hother k1 h1] at hp
          rcases List.mem_cons.1 m2 with e2 | h2
          · rw [e2, upd_same] at hq
            have := hf k1 h1
            rw [hp] at this
            have := hlt k1 (hsub k1 h1) _ _ this
            have := hg g hq
            omega
          · rw [hother k2 h2] at hq
            exact ha k1 h1 k2 h2 hne' g hp hq
    simp only [wpMix0, hget] at hr
    unfold wpOp
    simp only [hoi]
    show (if Region.wanted ok (yielded ops (mk us).tmps) = true then _ else _)
    by_cases hw : Region.wanted ok (yielded ops (mk us).tmps) = true
    · rw [if_pos hw] at hr ⊢
      refine .inl (Oper.wp_mono (fun a' w' hh => ?_) hr)
      obtain ⟨g1, v, rfl, h1, h2, h3⟩ := hh
      exact ⟨g1, key v w' g1 h1 h2 h3⟩
    · rw [if_neg hw] at hr ⊢
      obtain ⟨v, ha', h1, h2, h3⟩ := hr
      rw [ha']
      exact ⟨hS, key v W hS h1 h2 h3⟩
theorem wpAnyH_makers (mk : (Nat → Value) → Act) (ks : List Nat) (need : Nat → List Nat) (slot : Nat → Nat) (fact : Nat → Value → World → Prop) (f1 : Nat) {L : Array Bool} {us : Nat → Value} {W : World}
    (hok : makersOk ops L ks need = true) (hnd : ks.Nodup) (hslot : ∀ k ∈ ks, ∀ k' ∈ ks, slot k = slot k' → k = k')
    (hstep : ∀ k ∈ ks, ∀ v W W', fact k v W → Below W.heap.size W W' → fact k v W') (hlt : ∀ k ∈ ks, ∀ g W, fact k (ptrB g) W → g < W.heap.size) (hS : S W)
    (hrun : ∀ k ∈ ks, ∀ us W, S W → (∀ k' ∈ need k, fact k' (us (slot k')) W) →
      wpMix P ops S Q (fun a W' => ∃ v, a = mk (upd us (slot k) v) ∧ fact k v W' ∧ Below W.heap.size W W' ∧ ∀ g, v = ptrB g → W.heap.size ≤ g) [(ops.getD k default, false)] (mk us) W)
    (htail : ∀ us W, S W → (∀ k ∈ ks, fact k (us (slot k)) W) → (∀ k ∈ ks, ∀ k' ∈ ks, k ≠ k' → ∀ g, us (slot k) = ptrB g → us (slot k') ≠ ptrB g) → wpAnyH P .any ops (NoPanic Q) S f1 (setAll L ks) (mk us) W) :
    wpAnyH P .any ops (NoPanic Q) S (leftN ks [] + f1) L (mk us) W :=
  wpAnyH_makers0 mk L ks need slot fact f1 hok hnd hslot hstep hlt hrun htail _ [] us W rfl (fun k h => by cases h) (fun k h => by cases h) hS (fun k h => by cases h) (fun k h => by cases h)
end
/-- what is known of a value that has come up -/
structure Fc where
  ok : Value → World → Prop
  step : ∀ v W W', ok v W → Below W.heap.size W W' → ok v W'
  lt : ∀ g W, ok (ptrB g) W → g < W.heap.size
def Fc.val (x : Value) (hx : ∀ g, x ≠ ptrB g) : Fc := ⟨fun v _ => v = x, fun _ _ _ h _ => h, fun g _ h => absurd h.symm (hx g)⟩
def putAll (a : Act) (us : Nat → Value) : List Nat → Act
  | [] => a
  | s :: l => (putAll a us l).put (some s) (us s)
theorem wpAnyH_many {P : Program} {ops : Array Oper} {Q : Exit → Act → World → Prop} {S : World → Prop} (ks : List Nat) (need : Nat → List Nat) (slot : Nat → Nat) (fc : Nat → Fc) (slots : List Nat) (f1 : Nat) {L : Array Bool} {a : Act} {W : World} (us0 : Nat → Value)
    (hok : makersOk ops L ks need = true) (hnd : ks.Nodup) (hslot : ∀ k ∈ ks, ∀ k' ∈ ks, slot k = slot k' → k = k') (h0 : putAll a us0 slots = a) (hS : S W)
    (hrun : ∀ k ∈ ks, ∀ us W, S W → (∀ k' ∈ need k, (fc k').ok (us (slot k')) W) →
      wpMix P ops S Q (fun a' W' => ∃ v, a' = putAll a (upd us (slot k) v) slots ∧ (fc k).ok v W' ∧ Below W.heap.size W W' ∧ ∀ g, v = ptrB g → W.heap.size ≤ g) [(ops.getD k default, false)] (putAll a us slots) W)
    (htail : ∀ us W, S W → (∀ k ∈ ks, (fc k).ok (us (slot k)) W) → (∀ k ∈ ks, ∀ k' ∈ ks, k ≠ k' → ∀ g, us (slot k) = ptrB g → us (slot k') ≠ ptrB g) → wpAnyH P .any ops (NoPanic Q) S f1 (setAll L ks) (putAll a us slots) W) :
    wpAnyH P .any ops (NoPanic Q) S (leftN ks [] + f1) L a W := by
  have := wpAnyH_makers (P := P) (Q := Q) (S := S) (fun us => putAll a us slots) ks need slot (fun k => (fc k).ok) f1 (us := us0) hok hnd hslot (fun k _ => (fc k).step) (fun k _ => (fc k).lt) hS hrun htail
  rwa [h0] at this
end Go.Proofs.Ytgcbdnoniikboaa
