/- notarylaw12.known. -/
import Derived.Test.YtgcbdnoniikboaaQCC16
import Derived.Test.YtgcbdnoniikboaaQCC28
import Derived.Test.YtgcbdnoniikboaaQCC14
import Derived.Test.YtgcbdnoniikboaaQCC12
import Derived.Test.YtgcbdnoniikboaaQCC10
namespace Go.Proofs.Ytgcbdnoniikboaa
open Go Go.RowKit

set_option maxHeartbeats 4000000 in
set_option maxRecDepth 100000 in
theorem known12_any (w : World) : Calls Try.prog 39 #[] w fun e w' => e = .returned (.bool true) ∧ Below w.heap.size w w' := by
  have r23 := rootsS23 (oneHash 1) (oneHash 2) (oneHash 3)
  have k1 := checkE23 (hNode (oneHash 1) (oneHash 2)) (hNode (hNode (oneHash 1) (oneHash 2)) (oneHash 3)) (oneHash 3)
  have k2 := checkE23 (hNode (hNode (oneHash 1) (oneHash 2)) (oneHash 3)) (hNode (hNode (oneHash 1) (oneHash 2)) (oneHash 3)) (oneHash 3)
  rw [if_neg (by simp)] at k1
  rw [if_pos eval_1233] at k2
  obtain ⟨a, ha⟩ : ∃ a, oneHash 1 = a := ⟨_, rfl⟩
  obtain ⟨b, hb⟩ : ∃ b, oneHash 2 = b := ⟨_, rfl⟩
  obtain ⟨c, hc⟩ : ∃ c, oneHash 3 = c := ⟨_, rfl⟩
  have hal : a.length = 32 := by rw [← ha]; exact length_oneHash _
  have hbl : b.length = 32 := by rw [← hb]; exact length_oneHash _
  have hcl : c.length = 32 := by rw [← hc]; exact length_oneHash _
  rw [ha, hb, hc] at r23 k1 k2
  obtain ⟨u, hu⟩ : ∃ u, hNode a b = u := ⟨_, rfl⟩
  have hul : u.length = 32 := by rw [← hu]; exact length_hNode _ _
  rw [hu] at k1 k2
  obtain ⟨t, ht⟩ : ∃ t, hNode u c = t := ⟨_, rfl⟩
  have htl : t.length = 32 := by rw [← ht]; exact length_hNode _ _
  rw [ht] at k1 k2
  have k3 := checkE_lo 3 2 u t [c] (by decide)
  have hab : H32 [a, b, c] := by
    intro h hh
    simp only [List.mem_cons, List.not_mem_nil, or_false] at hh
    rcases hh with rfl | rfl | rfl
    · exact hal
    · exact hbl
    · exact hcl
  have hcc : H32 [c] := by
    intro h hh
    rw [List.mem_singleton.1 hh]
    exact hcl
  have hn1 := fun W => hrnode_any a b W hal hbl
  have hn2 := fun W => hrnode_any u c W hul hcl
  rw [hu] at hn1
  rw [ht] at hn2
  obtain ⟨w1, hw1⟩ : ∃ w1, w.alloc (.cells (hcells [a, b, c]).toArray 34) = w1 := ⟨_, rfl⟩
  have hb0 : Below w.heap.size w w1 := by rw [← hw1]; exact (Below.refl _ _).alloc (Nat.le_refl _) _
  have hL : Hs w1 (fun _ => True) (some ⟨w.heap.size, 0, none⟩) 3 3 [a, b, c] := by rw [← hw1]; exact Hs.lit w [a, b, c] hab (by simp) 3 rfl
  have hpr := cprove_any [a, b, c] (some ⟨w.heap.size, 0, none⟩) 3 3 w1 2 hL (by decide)
  rw [show (([a, b, c] : List (List UInt8)).length : Int) = 3 from rfl, stepsA23, r23] at hpr
  have hck1 := fun A cp W (h : Hs W (fun _ => True) A 1 cp [c]) => ccheck_any 2 3 u t [c] A 1 cp W (by decide) hul htl h
  have hck2 := fun A cp W (h : Hs W (fun _ => True) A 1 cp [c]) => ccheck_any 2 3 t t [c] A 1 cp W (by decide) htl htl h
  have hck3 := fun A cp W (h : Hs W (fun _ => True) A 1 cp [c]) => ccheck_any 3 2 u t [c] A 1 cp W (by decide) hul htl h
  rw [k1] at hck1
  rw [k2] at hck2
  rw [k3] at hck3
  have Ha := Lib.hid ha
  have Hb := Lib.hid hb
  have Hc := Lib.hid hc
  have Hul := Lib.hid hul
  have Htl := Lib.hid htl
  have Hcl := Lib.hid hcl
  have Hab := Lib.hid hab
  have Hn1 := Lib.hid hn1
  have Hn2 := Lib.hid hn2
  have Hw1 := Lib.hid hw1
  have Hpr := Lib.hid hpr
  have Hck1 := Lib.hid hck1
  have Hck2 := Lib.hid hck2
  have Hck3 := Lib.hid hck3
  clear ha hb hc hal hbl hcl hu hul ht htl hab hn1 hn2 hw1 hpr hck1 hck2 hck3 r23 k1 k2 k3
  go_enter Try.func39, Try.ntmps39
  go_wp2_with (first
    | ((with_reducible show wpList _ _ _ (⟨some 6, .build _ _, _, _, _, _⟩ :: _) _ _); refine wpList_run0 rfl (.agg (a.map B).toArray) (by rw [← Ha.out]; kernel_rfl) ?_; simp only [Act.put])
    | ((with_reducible show wpList _ _ _ (⟨some 7, .build _ _, _, _, _, _⟩ :: _) _ _); refine wpList_run0 rfl (.agg (b.map B).toArray) (by rw [← Hb.out]; kernel_rfl) ?_; simp only [Act.put])
    | ((with_reducible show wpList _ _ _ (⟨some 8, .build _ _, _, _, _, _⟩ :: _) _ _); refine wpList_run0 rfl (.agg (c.map B).toArray) (by rw [← Hc.out]; kernel_rfl) ?_; simp only [Act.put])
    | ((with_reducible show wpList _ _ _ (⟨some 9, .buildSlice _ _ _, _, _, _, _⟩ :: _) _ _); refine wpList_run rfl _ _ (run_lit_op [a, b, c] Hab.out (by simp) (by simp) 3 _ rfl (by simp [Act.eval]) rfl _) ?_; simp only [Act.put]; rw [Hw1.out]))
  refine Hpr.out.mono ?_
  rintro e w2 ⟨v, rfl, ho, hb2⟩
  obtain ⟨gp, cp, rfl⟩ := owns_some ho (by simp)
  obtain ⟨A', c', hv, hp⟩ := Hs.of_owns ho rfl hcc
  cases hv
  replace hp := hp.weak (Y := fun _ => True) fun _ _ _ => trivial
  replace hL := hL.step hb2
  replace hb0 := hb0.trans (hb2.mono hb0.size)
  have hcp := hp.sl.room
  have hcm := hp.sl.max
  unfold maxLen at hcm
  clear ho hb2 Hpr
  go_wp2_with fail
  refine wp_share_us (fun us a' W' => ∃ g4, a' = { tmps := #[us 0, .slice (some ⟨w.heap.size, 0, none⟩) 3 3, .slice (some ⟨gp, 0, none⟩) 1 cp, .int .i64 0, .pointer (some ⟨g4, 0, none⟩), us 5, us 6, us 7, us 8, us 9, us 10, us 11, us 12, us 13, us 14, us 15, us 16, us 17, us 18, us 19, us 20, us 21, us 22, us 23, us 24, us 25, us 26, us 27, us 28, us 29, us 30, us 31, us 32, us 33, us 34, us 35, us 36, us 37, us 38, us 39, us 40, us 41, us 42, us 43, us 44, us 45, us 46, us 47, us 48, us 49, us 50, us 51, us 52, us 53, us 54, us 55, us 56, us 57, us 58, us 59, us 60, us 61, us 62, us 63], defers := [] } ∧ HV W' g4 u ∧ Below w2.heap.size w2 W') ?_ ?_
  · have l0 : ∀ s : InC (fun W => Below w2.heap.size w2 W), (Instr.loadAt 34 (.pointer (some ⟨w.heap.size, 0, none⟩))).run Try.prog s.W = .ok (.agg (a.map B).toArray) s.W := fun s => (hL.step s.ok).get rfl 0 (by simp)
    have L0 := Lib.hid l0
    clear l0
    have l1 : ∀ s : InC (fun W => Below w2.heap.size w2 W), (Instr.loadAt 34 (.pointer (some ⟨w.heap.size, 32, none⟩))).run Try.prog s.W = .ok (.agg (b.map B).toArray) s.W := fun s => (hL.step s.ok).get rfl 1 (by simp)
    have L1 := Lib.hid l1
    clear l1
    have hS : Below (w2.heap.size) w2 w2.drew := (Below.refl _ _).drew
    refine wp_region_begin (fun W => Below (w2.heap.size) w2 W) (by kernel_rfl) hS fun _ => ?_
    generalize w2.drew = w3 at hS  ⊢
    refine wpAnyH_pre (f := 3) (by kernel_rfl) #[true, true, true, true, true, true, false, false, false] [(0, true), (1, true), (2, true), (3, true), (4, true), (5, true)] _ _ _ (by kernel_rfl) hS ?_
    simp only [List.map_cons, List.map_nil, Array.getD_eq_getD_getElem?, List.getElem?_toArray, List.getElem?_cons_succ, List.getElem?_cons_zero, Option.getD_some]
    refine wpMix_s (fun K hK => ?_)
    go_simp
    refine hK _ ?_
    clear hK K
    refine wpMix_s (fun K hK => ?_)
    go_simp
    refine hK _ ?_
    clear hK K
    refine wpMix_load (by kernel_rfl) 34 (.tmp 16) rfl (w.heap.size) (0) rfl (a.map B).toArray (L0.out) ?_
    simp only [Act.put]
    refine wpMix_s (fun K hK => ?_)
    go_simp
    refine hK _ ?_
    clear hK K
    refine wpMix_s (fun K hK => ?_)
    go_simp
    refine hK _ ?_
    clear hK K
    refine wpMix_load (by kernel_rfl) 34 (.tmp 19) rfl (w.heap.size) (32) rfl (b.map B).toArray (L1.out) ?_
    simp only [Act.put]
    refine wpMix_nil ?_
    intro _
    refine wpAnyH_fork (f := 2) (i := 6) (j := 7) (by kernel_rfl) hS ?_ ?_
    · simp only [Array.getD_eq_getD_getElem?, List.getElem?_toArray, List.getElem?_cons_succ, List.getElem?_cons_zero, Option.getD_some]
      refine wpMix_c (fun K hK => ?_) hS
      go_simp
      refine (Hn1.out w3).mono ?_
      rintro e w3_1 ⟨rfl, hb'⟩
      refine hK _ _ ?_
      clear hK K
      replace hS := hS.trans (hb'.mono hS.size)
      refine ⟨hS, ?_⟩
      try replace k4 := k4.step hb'
      clear hb'
      refine wpMix_nil ?_
      intro _
      show wpAnyH _ _ _ _ _ _ #[true, true, true, true, true, true, true, false, false] _ _
      refine wpAnyH_pre (f := 0) (by kernel_rfl) #[true, true, true, true, true, true, true, true, true] [(7, false), (8, false)] _ _ _ (by kernel_rfl) hS ?_
      simp only [List.map_cons, List.map_nil, Array.getD_eq_getD_getElem?, List.getElem?_toArray, List.getElem?_cons_succ, List.getElem?_cons_zero, Option.getD_some]
      have k4g := hS.size
      refine wpMix_hnew rfl rfl (fun _ hb => hS.trans (hb.mono hS.size)) ?_
      intro w3_2 k4 hb'
      simp only [Act.put]
      replace hS := hS.trans (hb'.mono hS.size)
      clear hb'
      refine wpMix_hset (.tmp 4) (.tmp 21) rfl rfl k4 rfl rfl Hul.out (fun _ hb => hS.trans (hb.mono k4g)) ?_
      intro w3_3 k4s hb' hoth
      simp only [Act.put]
      replace hS := hS.trans (hb'.mono k4g)
      clear hb' hoth
      refine wpMix_nil ?_
      intro _
      refine wpAnyH_end (by kernel_rfl) ?_
      refine ⟨_, ?_, k4s, hS⟩
      kernel_rfl
    · simp only [Array.getD_eq_getD_getElem?, List.getElem?_toArray, List.getElem?_cons_succ, List.getElem?_cons_zero, Option.getD_some]
      have k4g := hS.size
      refine wpMix_hnew rfl rfl (fun _ hb => hS.trans (hb.mono hS.size)) ?_
      intro w3_4 k4 hb'
      simp only [Act.put]
      replace hS := hS.trans (hb'.mono hS.size)
      clear hb'
      refine wpMix_nil ?_
      intro _
      show wpAnyH _ _ _ _ _ _ #[true, true, true, true, true, true, false, true, false] _ _
      refine wpAnyH_pre (f := 0) (by kernel_rfl) #[true, true, true, true, true, true, true, true, true] [(6, false), (8, false)] _ _ _ (by kernel_rfl) hS ?_
      simp only [List.map_cons, List.map_nil, Array.getD_eq_getD_getElem?, List.getElem?_toArray, List.getElem?_cons_succ, List.getElem?_cons_zero, Option.getD_some]
      refine wpMix_c (fun K hK => ?_) hS
      go_simp
      refine (Hn1.out w3_4).mono ?_
      rintro e w3_5 ⟨rfl, hb'⟩
      refine hK _ _ ?_
      clear hK K
      replace hS := hS.trans (hb'.mono hS.size)
      refine ⟨hS, ?_⟩
      try replace k4 := k4.step hb'
      clear hb'
      refine wpMix_hset (.tmp 4) (.tmp 21) rfl rfl k4 rfl rfl Hul.out (fun _ hb => hS.trans (hb.mono k4g)) ?_
      intro w3_6 k4s hb' hoth
      simp only [Act.put]
      replace hS := hS.trans (hb'.mono k4g)
      clear hb' hoth
      refine wpMix_nil ?_
      intro _
      refine wpAnyH_end (by kernel_rfl) ?_
      refine ⟨_, ?_, k4s, hS⟩
      kernel_rfl
  rintro us a' w4 ⟨g4, rfl, k4, hb4⟩
  replace hp := hp.step hb4
  replace hL := hL.step hb4
  replace hb0 := hb0.trans (hb4.mono hb0.size)
  have hg4 := k4.lt
  clear hb4
  go_wp2_with fail
  refine wp_share_us (fun us a' W' => ∃ g5, a' = { tmps := #[us 0, .slice (some ⟨w.heap.size, 0, none⟩) 3 3, .slice (some ⟨gp, 0, none⟩) 1 cp, .int .i64 0, .pointer (some ⟨g4, 0, none⟩), .pointer (some ⟨g5, 0, none⟩), us 6, us 7, us 8, us 9, us 10, us 11, us 12, us 13, us 14, us 15, us 16, us 17, us 18, us 19, us 20, us 21, us 22, us 23, us 24, us 25, us 26, us 27, us 28, us 29, us 30, us 31, us 32, us 33, us 34, us 35, us 36, us 37, us 38, us 39, us 40, us 41, us 42, us 43, us 44, us 45, us 46, us 47, us 48, us 49, us 50, us 51, us 52, us 53, us 54, us 55, us 56, us 57, us 58, us 59, us 60, us 61, us 62, us 63], defers := [] } ∧ HV W' g4 u ∧ HV W' g5 t ∧ Below w4.heap.size w4 W') ?_ ?_
  · have l0 : ∀ s : InC (fun W => Below w4.heap.size w4 W), (Instr.loadAt 34 (.pointer (some ⟨g4, 0, none⟩))).run Try.prog s.W = .ok (.agg (u.map B).toArray) s.W := fun s => (k4.step s.ok).load
    have L0 := Lib.hid l0
    clear l0
    have l1 : ∀ s : InC (fun W => Below w4.heap.size w4 W), (Instr.loadAt 34 (.pointer (some ⟨w.heap.size, 64, none⟩))).run Try.prog s.W = .ok (.agg (c.map B).toArray) s.W := fun s => (hL.step s.ok).get rfl 2 (by simp)
    have L1 := Lib.hid l1
    clear l1
    replace k4 := k4.drew
    have hS : Below (w4.heap.size) w4 w4.drew := (Below.refl _ _).drew
    refine wp_region_begin (fun W => Below (w4.heap.size) w4 W) (by kernel_rfl) hS fun _ => ?_
    generalize w4.drew = w5 at hS k4 ⊢
    refine wpAnyH_pre (f := 3) (by kernel_rfl) #[true, true, true, true, false, false, false] [(0, true), (1, true), (2, true), (3, true)] _ _ _ (by kernel_rfl) hS ?_
    simp only [List.map_cons, List.map_nil, Array.getD_eq_getD_getElem?, List.getElem?_toArray, List.getElem?_cons_succ, List.getElem?_cons_zero, Option.getD_some]
    refine wpMix_load (by kernel_rfl) 34 (.tmp 4) rfl (g4) (0) rfl (u.map B).toArray (L0.out) ?_
    simp only [Act.put]
    refine wpMix_s (fun K hK => ?_)
    go_simp
    refine hK _ ?_
    clear hK K
    refine wpMix_s (fun K hK => ?_)
    go_simp
    refine hK _ ?_
    clear hK K
    refine wpMix_load (by kernel_rfl) 34 (.tmp 24) rfl (w.heap.size) (64) rfl (c.map B).toArray (L1.out) ?_
    simp only [Act.put]
    refine wpMix_nil ?_
    intro _
    refine wpAnyH_fork (f := 2) (i := 4) (j := 5) (by kernel_rfl) hS ?_ ?_
    · simp only [Array.getD_eq_getD_getElem?, List.getElem?_toArray, List.getElem?_cons_succ, List.getElem?_cons_zero, Option.getD_some]
      refine wpMix_c (fun K hK => ?_) hS
      go_simp
      refine (Hn2.out w5).mono ?_
      rintro e w5_1 ⟨rfl, hb'⟩
      refine hK _ _ ?_
      clear hK K
      replace hS := hS.trans (hb'.mono hS.size)
      refine ⟨hS, ?_⟩
      replace k4 := k4.step hb'
      try replace k5 := k5.step hb'
      clear hb'
      refine wpMix_nil ?_
      intro _
      show wpAnyH _ _ _ _ _ _ #[true, true, true, true, true, false, false] _ _
      refine wpAnyH_pre (f := 0) (by kernel_rfl) #[true, true, true, true, true, true, true] [(5, false), (6, false)] _ _ _ (by kernel_rfl) hS ?_
      simp only [List.map_cons, List.map_nil, Array.getD_eq_getD_getElem?, List.getElem?_toArray, List.getElem?_cons_succ, List.getElem?_cons_zero, Option.getD_some]
      have k5g := hS.size
      refine wpMix_hnew rfl rfl (fun _ hb => hS.trans (hb.mono hS.size)) ?_
      intro w5_2 k5 hb'
      simp only [Act.put]
      replace hS := hS.trans (hb'.mono hS.size)
      replace k4 := k4.step hb'
      clear hb'
      refine wpMix_hset (.tmp 5) (.tmp 26) rfl rfl k5 rfl rfl Htl.out (fun _ hb => hS.trans (hb.mono k5g)) ?_
      intro w5_3 k5s hb' hoth
      simp only [Act.put]
      replace hS := hS.trans (hb'.mono k5g)
      replace k4 := hoth _ _ (by omega) k4
      clear hb' hoth
      refine wpMix_nil ?_
      intro _
      refine wpAnyH_end (by kernel_rfl) ?_
      refine ⟨_, ?_, k4, k5s, hS⟩
      kernel_rfl
    · simp only [Array.getD_eq_getD_getElem?, List.getElem?_toArray, List.getElem?_cons_succ, List.getElem?_cons_zero, Option.getD_some]
      have k5g := hS.size
      refine wpMix_hnew rfl rfl (fun _ hb => hS.trans (hb.mono hS.size)) ?_
      intro w5_4 k5 hb'
      simp only [Act.put]
      replace hS := hS.trans (hb'.mono hS.size)
      replace k4 := k4.step hb'
      clear hb'
      refine wpMix_nil ?_
      intro _
      show wpAnyH _ _ _ _ _ _ #[true, true, true, true, false, true, false] _ _
      refine wpAnyH_pre (f := 0) (by kernel_rfl) #[true, true, true, true, true, true, true] [(4, false), (6, false)] _ _ _ (by kernel_rfl) hS ?_
      simp only [List.map_cons, List.map_nil, Array.getD_eq_getD_getElem?, List.getElem?_toArray, List.getElem?_cons_succ, List.getElem?_cons_zero, Option.getD_some]
      refine wpMix_c (fun K hK => ?_) hS
      go_simp
      refine (Hn2.out w5_4).mono ?_
      rintro e w5_5 ⟨rfl, hb'⟩
      refine hK _ _ ?_
      clear hK K
      replace hS := hS.trans (hb'.mono hS.size)
      refine ⟨hS, ?_⟩
      replace k4 := k4.step hb'
      try replace k5 := k5.step hb'
      clear hb'
      refine wpMix_hset (.tmp 5) (.tmp 26) rfl rfl k5 rfl rfl Htl.out (fun _ hb => hS.trans (hb.mono k5g)) ?_
      intro w5_6 k5s hb' hoth
      simp only [Act.put]
      replace hS := hS.trans (hb'.mono k5g)
      replace k4 := hoth _ _ (by omega) k4
      clear hb' hoth
      refine wpMix_nil ?_
      intro _
      refine wpAnyH_end (by kernel_rfl) ?_
      refine ⟨_, ?_, k4, k5s, hS⟩
      kernel_rfl
  rintro us a' w6 ⟨g5, rfl, k4, k5, hb6⟩
  replace hp := hp.step hb6
  replace hL := hL.step hb6
  replace hb0 := hb0.trans (hb6.mono hb0.size)
  clear hb6
  go_wp2_with fail
  have hS : Below w6.heap.size w6 w6.drew := (Below.refl _ _).drew
  have l0 : ∀ s : InC (fun W => Below w6.heap.size w6 W), (Instr.loadAt 34 (.pointer (some ⟨gp, 0, none⟩))).run Try.prog s.W = .ok (.agg (c.map B).toArray) s.W := fun s => (hp.step s.ok).get rfl 0 (by simp)
  have L0 := Lib.hid l0
  clear l0
  have l1 : ∀ s : InC (fun W => Below w6.heap.size w6 W), (Instr.loadAt 34 (.pointer (some ⟨w.heap.size, 64, none⟩))).run Try.prog s.W = .ok (.agg (c.map B).toArray) s.W := fun s => (hL.step s.ok).get rfl 2 (by simp)
  have L1 := Lib.hid l1
  clear l1
  have l4 : ∀ s : InC (fun W => Below w6.heap.size w6 W), (Instr.loadAt 34 (.pointer (some ⟨g4, 0, none⟩))).run Try.prog s.W = .ok (.agg (u.map B).toArray) s.W := fun s => (k4.step s.ok).load
  have L4 := Lib.hid l4
  clear l4
  have l5 : ∀ s : InC (fun W => Below w6.heap.size w6 W), (Instr.loadAt 34 (.pointer (some ⟨g5, 0, none⟩))).run Try.prog s.W = .ok (.agg (t.map B).toArray) s.W := fun s => (k5.step s.ok).load
  have L5 := Lib.hid l5
  clear l5
  refine wp_region_mix (fun W => Below w6.heap.size w6 W) [(0, true), (1, true), (2, true), (3, true), (4, true), (5, true), (6, true), (7, true), (8, true), (9, true), (10, true), (11, true), (12, true), (13, true), (14, true), (15, true), (16, true), (17, true), (18, true), (19, true), (20, false), (21, true), (22, true), (23, true), (24, true), (25, true), (26, true), (27, false), (28, true), (29, true), (30, true), (31, true), (32, true), (33, true), (34, false), (35, true), (36, true), (37, true)] (by kernel_rfl) (by kernel_rfl) hS fun _ => ?_
  simp only [List.map_cons, List.map_nil, Array.getD_eq_getD_getElem?, List.getElem?_toArray, List.getElem?_cons_succ, List.getElem?_cons_zero, Option.getD_some]
  generalize w6.drew = w7 at hS ⊢
  refine wpMix_s (fun K hK => ?_)
  go_simp
  refine hK _ ?_
  clear hK K
  refine wpMix_s (fun K hK => ?_)
  go_simp
  refine hK _ ?_
  clear hK K
  refine wpMix_s (fun K hK => ?_)
  go_simp
  refine hK _ ?_
  clear hK K
  refine wpMix_s (fun K hK => ?_)
  go_simp
  refine hK _ ?_
  clear hK K
  refine wpMix_s (fun K hK => ?_)
  go_simp
  refine hK _ ?_
  clear hK K
  refine wpMix_s (fun K hK => ?_)
  go_simp
  refine hK _ ?_
  clear hK K
  refine wpMix_s (fun K hK => ?_)
  go_simp
  refine hK _ ?_
  clear hK K
  refine wpMix_s (fun K hK => ?_)
  go_simp
  refine hK _ ?_
  clear hK K
  refine wpMix_s (fun K hK => ?_)
  go_simp
  refine hK _ ?_
  clear hK K
  refine wpMix_s (fun K hK => ?_)
  go_simp
  refine hK _ ?_
  clear hK K
  refine wpMix_load (by kernel_rfl) 34 (.tmp 36) rfl (gp) (0) rfl (c.map B).toArray (L0.out) ?_
  simp only [Act.put]
  refine wpMix_s (fun K hK => ?_)
  go_simp
  refine hK _ ?_
  clear hK K
  refine wpMix_s (fun K hK => ?_)
  go_simp
  refine hK _ ?_
  clear hK K
  refine wpMix_load (by kernel_rfl) 34 (.tmp 39) rfl (w.heap.size) (64) rfl (c.map B).toArray (L1.out) ?_
  simp only [Act.put]
  refine wpMix_v (by kernel_rfl) (.bool true) (fun s => run_eql26_t (.tmp 37) (.tmp 40) _ c c rfl rfl rfl Hcl.out Hcl.out rfl s.W) ?_
  simp only [Act.put]
  refine wpMix_s (fun K hK => ?_)
  go_simp
  refine hK _ ?_
  clear hK K
  refine wpMix_s (fun K hK => ?_)
  go_simp
  refine hK _ ?_
  clear hK K
  refine wpMix_load (by kernel_rfl) 34 (.tmp 4) rfl (g4) (0) rfl (u.map B).toArray (L4.out) ?_
  simp only [Act.put]
  refine wpMix_load (by kernel_rfl) 34 (.tmp 5) rfl (g5) (0) rfl (t.map B).toArray (L5.out) ?_
  simp only [Act.put]
  refine wpMix_s (fun K hK => ?_)
  go_simp
  refine hK _ ?_
  clear hK K
  refine wpMix_c (fun K hK => ?_) hS
  go_simp
  refine (Hck1.out _ _ w7 (hp.step hS)).mono ?_
  rintro e w7_1 ⟨rfl, hb'⟩
  refine hK _ _ ?_
  clear hK K
  replace hS := hS.trans (hb'.mono hS.size)
  refine ⟨hS, ?_⟩
  clear hb'
  refine wpMix_s (fun K hK => ?_)
  go_simp
  refine hK _ ?_
  clear hK K
  refine wpMix_s (fun K hK => ?_)
  go_simp
  refine hK _ ?_
  clear hK K
  refine wpMix_s (fun K hK => ?_)
  go_simp
  refine hK _ ?_
  clear hK K
  refine wpMix_load (by kernel_rfl) 34 (.tmp 5) rfl (g5) (0) rfl (t.map B).toArray (L5.out) ?_
  simp only [Act.put]
  refine wpMix_load (by kernel_rfl) 34 (.tmp 5) rfl (g5) (0) rfl (t.map B).toArray (L5.out) ?_
  simp only [Act.put]
  refine wpMix_s (fun K hK => ?_)
  go_simp
  refine hK _ ?_
  clear hK K
  refine wpMix_c (fun K hK => ?_) hS
  go_simp
  refine (Hck2.out _ _ w7_1 (hp.step hS)).mono ?_
  rintro e w7_2 ⟨rfl, hb'⟩
  refine hK _ _ ?_
  clear hK K
  replace hS := hS.trans (hb'.mono hS.size)
  refine ⟨hS, ?_⟩
  clear hb'
  refine wpMix_s (fun K hK => ?_)
  go_simp
  refine hK _ ?_
  clear hK K
  refine wpMix_s (fun K hK => ?_)
  go_simp
  refine hK _ ?_
  clear hK K
  refine wpMix_s (fun K hK => ?_)
  go_simp
  refine hK _ ?_
  clear hK K
  refine wpMix_load (by kernel_rfl) 34 (.tmp 4) rfl (g4) (0) rfl (u.map B).toArray (L4.out) ?_
  simp only [Act.put]
  refine wpMix_load (by kernel_rfl) 34 (.tmp 5) rfl (g5) (0) rfl (t.map B).toArray (L5.out) ?_
  simp only [Act.put]
  refine wpMix_s (fun K hK => ?_)
  go_simp
  refine hK _ ?_
  clear hK K
  refine wpMix_c (fun K hK => ?_) hS
  go_simp
  refine (Hck3.out _ _ w7_2 (hp.step hS)).mono ?_
  rintro e w7_3 ⟨rfl, hb'⟩
  refine hK _ _ ?_
  clear hK K
  replace hS := hS.trans (hb'.mono hS.size)
  refine ⟨hS, ?_⟩
  clear hb'
  refine wpMix_s (fun K hK => ?_)
  go_simp
  refine hK _ ?_
  clear hK K
  refine wpMix_s (fun K hK => ?_)
  go_simp
  refine hK _ ?_
  clear hK K
  refine wpMix_s (fun K hK => ?_)
  go_simp
  refine hK _ ?_
  clear hK K
  refine wpMix_nil ?_
  intro _
  go_wp2_with fail
  go_ret
  exact ⟨rfl, hb0.trans (hS.mono hb0.size)⟩
end Go.Proofs.Ytgcbdnoniikboaa
/- notarylaw12.lent, kept: hashes with a mark behind them. -/
namespace Go.Proofs.Ytgcbdnoniikboaa
open Go Go.RowKit

/-- lent: one hash of a mark lies behind them -/
def markH : List UInt8 := oneHash 165
theorem length_markH : markH.length = 32 := rfl

set_option maxHeartbeats 1000000 in
set_option maxRecDepth 100000 in
theorem lent12_own (hs : List (List UInt8)) (A : Option Addr) (n c : Nat) (w : World) (h : Hs w (fun _ => True) A n c hs) (hmax : n ≤ 1099511627776) :
    Calls Try.prog 40 #[.slice A n c] w fun e w' => ∃ A' c', e = .returned (.slice A' n c') ∧ w'.ownsRow w.heap.size 34 32 (.slice A' (n + 1) c') (n + 1) (hcells (hs ++ [markH])) ∧ Hs w' (w.heap.size ≤ ·) A' (n + 1) c' (hs ++ [markH]) ∧ Below w.heap.size w w' := by
  have hroom := h.sl.room
  have hmx := h.sl.max
  unfold maxLen at hmx
  have hlen := h.len
  obtain ⟨v1, w1, hr1, ho1, hg1, -⟩ := append_slv (ty := 37) Try.underlying37 info26z (by simp [Value.cells]) (by decide) (World.ownsRow_nil w w.heap.size 34 32) h.sl (oneB _) (by unfold maxLen; omega) (by omega) (Nat.le_refl _)
  rw [List.nil_append, Nat.zero_add] at ho1
  obtain ⟨m, hm⟩ : ∃ m, markH = m := ⟨_, rfl⟩
  have hml : m.length = 32 := by rw [← hm]; rfl
  have hm32 : H32 [m] := by intro x hx; rw [List.mem_singleton.1 hx]; exact hml
  have B1 := (Below.refl w.heap.size w).grown hg1 (Nat.le_refl _) (fun k hk => by cases hk)
  have hbA : Below w1.heap.size w1 (w1.alloc (.cells (hcells [m]).toArray 34)) := (Below.refl _ _).alloc (Nat.le_refl _) _
  have ho2 := owns_step ho1 hbA
  have B2 := B1.trans (hbA.mono B1.size)
  obtain ⟨v3, w3, hr3, ho3, hg3, -⟩ := append_slv (ty := 37) Try.underlying37 info26z (by simp [Value.cells]) (by decide) ho2 (Hs.lit w1 [m] hm32 (by simp) 1 rfl).sl (oneB _) (by unfold maxLen; omega) (by omega) B2.size
  rw [← hcells_append] at ho3
  have B3 := B2.grown hg3 B2.size (fun k hk => (ho2.lt k hk).1)
  obtain ⟨A3, c3, rfl, hs3⟩ := Hs.of_owns ho3 (by rw [List.length_append, hlen]; rfl) (h.all.append hm32)
  have hr3' := hs3.sl.room
  have hs4 : Hs w3 (w.heap.size ≤ ·) A3 (n + 1) c3 (hs ++ [m]) := hs3.weak fun _ _ hx => hx.1
  rw [hm]
  have Hr1 := Lib.hid hr1
  have Hr3 := Lib.hid hr3
  have Hm := Lib.hid hm
  have Ho3 := Lib.hid ho3
  clear hr1 hr3 ho1 ho2 ho3 hg1 hg3 B1 B2 hbA h hm hs3
  go_enter Try.func40, Try.ntmps40
  go_wp2_with (first
    | ((with_reducible show wpList _ _ _ (⟨some 4, .call _, _, _, _, _⟩ :: _) _ _); refine wpList_run rfl v1 w1 (run_append_op (.const (.slice none 0 0)) (.tmp 3) 37 rfl _ _ rfl rfl Hr1.out) ?_; simp only [Act.put])
    | ((with_reducible show wpList _ _ _ (⟨some 5, .build _ _, _, _, _, _⟩ :: _) _ _); refine wpList_run0 rfl (.agg (m.map B).toArray) (by rw [← Hm.out]; kernel_rfl) ?_; simp only [Act.put])
    | ((with_reducible show wpList _ _ _ (⟨some 6, .buildSlice _ _ _, _, _, _, _⟩ :: _) _ _); refine wpList_run rfl _ _ (run_lit_op [m] hm32 (by simp) (by simp) 1 _ rfl (by simp [Act.eval]) rfl _) ?_; simp only [Act.put])
    | ((with_reducible show wpList _ _ _ (⟨some 7, .call _, _, _, _, _⟩ :: _) _ _); refine wpList_run rfl (.slice A3 (n + 1) c3) w3 (run_append_op (.tmp 4) (.tmp 6) 37 rfl _ _ rfl rfl Hr3.out) ?_; simp only [Act.put])
    | ((with_reducible show wpList _ _ _ (⟨some 10, .slice _ _ _ _ _, _, _, _, _⟩ :: _) _ _); refine wpList_run0 rfl (.slice A3 n c3) (run_slice_op_hi (.tmp 7) (.tmp 9) rfl A3 (n + 1) c3 n rfl rfl (by omega) _) ?_; simp only [Act.put]))
  go_ret
  exact ⟨A3, c3, rfl, Ho3.out, hs4, B3⟩
theorem lent12_any (hs : List (List UInt8)) (A : Option Addr) (n c : Nat) (w : World) (h : Hs w (fun _ => True) A n c hs) (hmax : n ≤ 1099511627776) :
    Calls Try.prog 40 #[.slice A n c] w fun e w' => ∃ A' c', e = .returned (.slice A' n c') ∧ Hs w' (w.heap.size ≤ ·) A' (n + 1) c' (hs ++ [markH]) ∧ Below w.heap.size w w' :=
  (lent12_own hs A n c w h hmax).mono fun _ _ ⟨A', c', h1, _, h2, h3⟩ => ⟨A', c', h1, h2, h3⟩

set_option maxHeartbeats 1000000 in
set_option maxRecDepth 100000 in
theorem kept12_any (hs : List (List UInt8)) (A A' : Option Addr) (n c c' : Nat) (w : World) (h : Hs w (fun _ => True) A (n + 1) c (hs ++ [markH])) (hb : Hs w (fun _ => True) A' n c' hs) (hmax : n ≤ 1099511627776) :
    Calls Try.prog 45 #[.slice A n c, .slice A' n c'] w fun e w' => e = .returned (.bool true) ∧ Below w.heap.size w w' := by
  have hroom := h.sl.room
  have hmx := h.sl.max
  unfold maxLen at hmx
  have hr2 := hb.sl.room
  have hmx2 := hb.sl.max
  unfold maxLen at hmx2
  have ht := h.take n (by omega)
  rw [show (hs ++ [markH]).take n = hs by rw [← hb.len]; simp] at ht
  have hsame := sameh_any hs A A' n c c' w ht hb (by omega)
  obtain ⟨b, o, rfl, -, -, -⟩ := h.at_ (by omega)
  have hld : ∀ W, Below w.heap.size w W → (Instr.loadAt 34 (.pointer (some ⟨b, o + n * 32, none⟩))).run Try.prog W = .ok (.agg (markH.map B).toArray) W := fun W hW => by
    obtain ⟨b', o', hA, -, -, hat⟩ := (h.step hW).at_ (by omega)
    cases hA
    have := hat n (by omega)
    rw [show (hs ++ [markH]).getD n [] = markH by rw [← hb.len]; simp [List.getD_eq_getElem?_getD]] at this
    exact this
  obtain ⟨m, hm⟩ : ∃ m, markH = m := ⟨_, rfl⟩
  have hml : m.length = 32 := by rw [← hm]; rfl
  rw [hm] at hld
  have hw1 : IntKind.i64.wrap ((n : Int) + 1) = (n : Int) + 1 := IntWalk.i64_in _ (by omega)
  have hnn : (n : Int) < (n : Int) + 1 := by omega
  have Hld := Lib.hid hld
  have Hm := Lib.hid hm
  have Hsame := Lib.hid hsame
  clear hld hm hsame ht h hb
  go_enter Try.func45, Try.ntmps45
  go_wp2_with fail
  refine Hsame.out.mono ?_
  rintro e w1 ⟨rfl, hb1⟩
  go_wp2_with (first
    | ((with_reducible show wpList _ _ _ (⟨some 13, .slice _ _ _ _ _, _, _, _, _⟩ :: _) _ _); refine wpList_runG (by kernel_rfl) (.slice (some ⟨b, o, none⟩) (n + 1) c) _ (run_slice_op_hi (.tmp 9) (.tmp 12) rfl (some ⟨b, o, none⟩) n c (n + 1) rfl rfl (by omega) _) ?_; simp only [Act.put])
    | ((with_reducible show wpList _ _ _ (⟨some 17, .load _ _, _, _, _, _⟩ :: _) _ _); refine wpList_runG (by kernel_rfl) (.agg (m.map B).toArray) _ (run_load_op 34 (.tmp 16) rfl b (o + n * 32) rfl _ (Hld.out _ hb1)) ?_; simp only [Act.put])
    | ((with_reducible show wpList _ _ _ (⟨some 18, .build _ _, _, _, _, _⟩ :: _) _ _); refine wpList_runG (by kernel_rfl) (.agg (m.map B).toArray) w1 (by rw [← Hm.out]; kernel_rfl) ?_; simp only [Act.put])
    | ((with_reducible show wpList _ _ _ (⟨some 19, .binOp _ _ _ _ _, _, _, _, _⟩ :: _) _ _); refine wpList_runG (by kernel_rfl) (.bool true) _ (run_eql26_t (.tmp 17) (.tmp 18) _ m m rfl rfl rfl hml hml rfl _) ?_; simp only [Act.put]))
  go_ret
  exact ⟨rfl, hb1⟩
end Go.Proofs.Ytgcbdnoniikboaa
/- Lent hashes and their source, while a law of layer 12 goes on. -/
namespace Go.Proofs.Ytgcbdnoniikboaa
open Go Go.RowKit

/-- the lent hashes, while the law goes on -/
structure CpL (w : World) (hs : List (List UInt8)) (A : Option Addr) (n c : Nat) (A' : Option Addr) (c' N : Nat) (W : World) : Prop where
  src : Hs W (· < w.heap.size) A n c hs
  lent : Hs W (fun b => w.heap.size ≤ b ∧ b < N) A' (n + 1) c' (hs ++ [markH])
  le : N ≤ W.heap.size
  ge : w.heap.size ≤ N
  bel : Below w.heap.size w W
section
variable {w W W' : World} {hs : List (List UInt8)} {A A' : Option Addr} {n c c' N : Nat}
theorem CpL.step (h : CpL w hs A n c A' c' N W) (hb : Below W.heap.size W W') : CpL w hs A n c A' c' N W' :=
  ⟨h.src.step hb, h.lent.step hb, Nat.le_trans h.le hb.size, h.ge, h.bel.trans (hb.mono h.bel.size)⟩
theorem CpL.setRow (h : CpL w hs A n c A' c' N W) (g : Nat) (cs : Array Value) (hg : N ≤ g) : CpL w hs A n c A' c' N (W.setRow g cs) :=
  ⟨h.src.setRow g cs (by have := h.ge; omega), h.lent.setRow g cs (by omega), by simpa using h.le, h.ge, below_setRow h.bel (Nat.le_trans h.ge hg) _⟩
theorem CpL.far {k : Nat} (h : CpL w hs A n c A' c' N W) (hb : Below k W W') (hk : N ≤ k) : CpL w hs A n c A' c' N W' :=
  ⟨⟨h.src.sl.below hb (fun b _ hx => by have : b < w.heap.size := hx; have := h.ge; omega), h.src.len, h.src.all⟩, ⟨h.lent.sl.below hb (fun _ _ hx => Nat.lt_of_lt_of_le hx.2 hk), h.lent.len, h.lent.all⟩, Nat.le_trans h.le hb.size, h.ge, h.bel.trans (hb.mono (Nat.le_trans h.ge hk))⟩
theorem CpL.mine (h : CpL w hs A n c A' c' N W) : Hs W (fun _ => True) A' n c' hs := by
  have := (h.lent.take n (by omega)).weak (Y := fun _ => True) fun _ _ _ => trivial
  rwa [show (hs ++ [markH]).take n = hs by rw [← h.src.len]; simp] at this
theorem CpL.yours (h : CpL w hs A n c A' c' N W) : Hs W (fun _ => True) A n c hs := h.src.weak fun _ _ _ => trivial
theorem CpL.kept (h : CpL w hs A n c A' c' N W) : Hs W (fun _ => True) A' (n + 1) c' (hs ++ [markH]) := h.lent.weak fun _ _ _ => trivial
end
end Go.Proofs.Ytgcbdnoniikboaa
