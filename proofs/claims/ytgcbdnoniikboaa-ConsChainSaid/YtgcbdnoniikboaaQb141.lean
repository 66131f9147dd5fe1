/- Three leaves go on two (plain). -/
import Derived.Test.YtgcbdnoniikboaaQb121
import Derived.Test.YtgcbdnoniikboaaQb110
import Derived.Test.YtgcbdnoniikboaaQb139
namespace Go.Proofs.Ytgcbdnoniikboaa
open Go Go.RowKit

theorem stepsA23 : stepsA 2 3 = ([(2, 3)], 0) := by decide
theorem rootsS23 (a b c : List UInt8) : rootsS [a, b, c] 2 = [c] := by
  show rootsL [a, b, c] (stepsA 2 3).1 = [c]
  rw [stepsA23]
  rfl
theorem bothE23 (x c : List UInt8) : bothE 2 3 x [c] = ((x, hNode x c), 0) := by
  rw [bothE_ok 2 3 x [c] (by decide) (by rw [stepsA23]; rfl)]
  show (bothL 2 3 true x [c], (0 : Int)) = _
  rw [bothL_left 2 3 true x [c] (by decide) (by decide) (by decide), show splitN 3 = 2 by decide, bothL_eq 2 true x _ (by decide)]
  rfl
theorem checkE23 (x y c : List UInt8) : checkE 2 3 x y [c] = if hNode x c ≠ y then 220 else 0 := by
  unfold checkE
  rw [if_neg (by decide), if_neg (by decide), bothE23]
  simp
theorem eval_12 : hNode (oneHash 1) (oneHash 2) = [127, 80, 117, 78, 227, 143, 160, 51, 23, 237, 95, 254, 79, 42, 217, 20, 128, 133, 79, 170, 249, 85, 136, 108, 215, 128, 243, 116, 250, 101, 130, 246] := by decide +kernel
theorem eval_123 : hNode (hNode (oneHash 1) (oneHash 2)) (oneHash 3) = [239, 181, 50, 114, 171, 165, 7, 99, 1, 255, 156, 68, 26, 192, 16, 158, 230, 191, 194, 105, 194, 144, 178, 57, 82, 124, 164, 54, 240, 110, 240, 81] := by rw [eval_12]; decide +kernel
theorem eval_1233 : hNode (hNode (hNode (oneHash 1) (oneHash 2)) (oneHash 3)) (oneHash 3) ≠ hNode (hNode (oneHash 1) (oneHash 2)) (oneHash 3) := by
  rw [eval_123]
  have h1 : hNode [239, 181, 50, 114, 171, 165, 7, 99, 1, 255, 156, 68, 26, 192, 16, 158, 230, 191, 194, 105, 194, 144, 178, 57, 82, 124, 164, 54, 240, 110, 240, 81] (oneHash 3) = [176, 177, 190, 171, 13, 10, 129, 27, 148, 22, 118, 205, 64, 50, 158, 143, 113, 220, 153, 174, 171, 87, 34, 9, 124, 202, 48, 60, 63, 177, 116, 95] := by decide +kernel
  rw [h1]
  decide
end Go.Proofs.Ytgcbdnoniikboaa
/- notarylaw12.known. -/
namespace Go.Proofs.Ytgcbdnoniikboaa
open Go Go.RowKit

set_option maxHeartbeats 4000000 in
set_option maxRecDepth 100000 in
theorem known12_any (w : World) : Calls Try.prog 39 #[] w fun e w' => e = .returned (.bool true) ∧ Below w.heap.size w w' := by
  have r23 := rootsS23 (oneHash 1) (oneHash 2) (oneHash 3)
  have k1 := checkE23 (hNode (oneHash 1) (oneHash 2)) (hNode (hNode (oneHash 1) (oneHash 2)) (oneHash 3)) (oneHash 3)
  have k2 := checkE23 (hNode (hNode (oneHash 1) (oneHash 2)) (oneHash 3)) (hNode (hNode (oneHash 1) (oneHash 2)) (oneHash 3)) (oneHash 3)
  rw [if_neg (by simp)] at k1
  rw [if_pos eval_1233] at k2
  obtain ⟨a, ha⟩ : ∃ a, oneHash 1 = a := ⟨_, rfl⟩
  obtain ⟨b, hb⟩ : ∃ b, oneHash 2 = b := ⟨_, rfl⟩
  obtain ⟨c, hc⟩ : ∃ c, oneHash 3 = c := ⟨_, rfl⟩
  have hal : a.length = 32 := by rw [← ha]; exact length_oneHash _
  have hbl : b.length = 32 := by rw [← hb]; exact length_oneHash _
  have hcl : c.length = 32 := by rw [← hc]; exact length_oneHash _
  rw [ha, hb, hc] at r23 k1 k2
  obtain ⟨u, hu⟩ : ∃ u, hNode a b = u := ⟨_, rfl⟩
  have hul : u.length = 32 := by rw [← hu]; exact length_hNode _ _
  rw [hu] at k1 k2
  obtain ⟨t, ht⟩ : ∃ t, hNode u c = t := ⟨_, rfl⟩
  have htl : t.length = 32 := by rw [← ht]; exact length_hNode _ _
  rw [ht] at k1 k2
  have k3 := checkE_lo 3 2 u t [c] (by decide)
  have hab : H32 [a, b, c] := by
    intro h hh
    simp only [List.mem_cons, List.not_mem_nil, or_false] at hh
    rcases hh with rfl | rfl | rfl
    · exact hal
    · exact hbl
    · exact hcl
  have hcc : H32 [c] := by
    intro h hh
    rw [List.mem_singleton.1 hh]
    exact hcl
  have hn1 := fun W => hrnode_any a b W hal hbl
  have hn2 := fun W => hrnode_any u c W hul hcl
  rw [hu] at hn1
  rw [ht] at hn2
  obtain ⟨w1, hw1⟩ : ∃ w1, w.alloc (.cells (hcells [a, b, c]).toArray 34) = w1 := ⟨_, rfl⟩
  have hb0 : Below w.heap.size w w1 := by rw [← hw1]; exact (Below.refl _ _).alloc (Nat.le_refl _) _
  have hL : Hs w1 (fun _ => True) (some ⟨w.heap.size, 0, none⟩) 3 3 [a, b, c] := by rw [← hw1]; exact Hs.lit w [a, b, c] hab (by simp) 3 rfl
  have hpr := cprove_any [a, b, c] (some ⟨w.heap.size, 0, none⟩) 3 3 w1 2 hL (by decide)
  rw [show (([a, b, c] : List (List UInt8)).length : Int) = 3 from rfl, stepsA23, r23] at hpr
  have hck1 := fun A cp W (h : Hs W (fun _ => True) A 1 cp [c]) => ccheck_any 2 3 u t [c] A 1 cp W (by decide) hul htl h
  have hck2 := fun A cp W (h : Hs W (fun _ => True) A 1 cp [c]) => ccheck_any 2 3 t t [c] A 1 cp W (by decide) htl htl h
  have hck3 := fun A cp W (h : Hs W (fun _ => True) A 1 cp [c]) => ccheck_any 3 2 u t [c] A 1 cp W (by decide) hul htl h
  rw [k1] at hck1
  rw [k2] at hck2
  rw [k3] at hck3
  have Ha := Lib.hid ha
  have Hb := Lib.hid hb
  have Hc := Lib.hid hc
  have Hul := Lib.hid hul
  have Htl := Lib.hid htl
  have Hcl := Lib.hid hcl
  have Hab := Lib.hid hab
  have Hn1 := Lib.hid hn1
  have Hn2 := Lib.hid hn2
  have Hw1 := Lib.hid hw1
  have Hpr := Lib.hid hpr
  have Hck1 := Lib.hid hck1
  have Hck2 := Lib.hid hck2
  have Hck3 := Lib.hid hck3
  clear ha hb hc hal hbl hcl hu hul ht htl hab hn1 hn2 hw1 hpr hck1 hck2 hck3 r23 k1 k2 k3
  go_enter Try.func39, Try.ntmps39
  go_wp2_with (first
    | ((with_reducible show wpList _ _ _ (⟨some 6, .build _ _, _, _, _, _⟩ :: _) _ _); refine wpList_run0 rfl (.agg (a.map B).toArray) (by rw [← Ha.out]; kernel_rfl) ?_; simp only [Act.put])
    | ((with_reducible show wpList _ _ _ (⟨some 7, .build _ _, _, _, _, _⟩ :: _) _ _); refine wpList_run0 rfl (.agg (b.map B).toArray) (by rw [← Hb.out]; kernel_rfl) ?_; simp only [Act.put])
    | ((with_reducible show wpList _ _ _ (⟨some 8, .build _ _, _, _, _, _⟩ :: _) _ _); refine wpList_run0 rfl (.agg (c.map B).toArray) (by rw [← Hc.out]; kernel_rfl) ?_; simp only [Act.put])
    | ((with_reducible show wpList _ _ _ (⟨some 9, .buildSlice _ _ _, _, _, _, _⟩ :: _) _ _); refine wpList_run rfl _ _ (run_lit_op [a, b, c] Hab.out (by simp) (by simp) 3 _ rfl (by simp [Act.eval]) rfl _) ?_; simp only [Act.put]; rw [Hw1.out]))
  refine Hpr.out.mono ?_
  rintro e w2 ⟨v, rfl, ho, hb2⟩
  obtain ⟨gp, cp, rfl⟩ := owns_some ho (by simp)
  obtain ⟨A', c', hv, hp⟩ := Hs.of_owns ho rfl hcc
  cases hv
  replace hp := hp.weak (Y := fun _ => True) fun _ _ _ => trivial
  replace hL := hL.step hb2
  replace hb0 := hb0.trans (hb2.mono hb0.size)
  have hcp := hp.sl.room
  have hcm := hp.sl.max
  unfold maxLen at hcm
  clear ho hb2 Hpr
  go_wp2_with fail
  refine wp_share_us (fun us a' W' => ∃ g4, a' = { tmps := #[us 0, .slice (some ⟨w.heap.size, 0, none⟩) 3 3, .slice (some ⟨gp, 0, none⟩) 1 cp, .int .i64 0, .pointer (some ⟨g4, 0, none⟩), us 5, us 6, us 7, us 8, us 9, us 10, us 11, us 12, us 13, us 14, us 15, us 16, us 17, us 18, us 19, us 20, us 21, us 22, us 23, us 24, us 25, us 26, us 27, us 28, us 29, us 30, us 31, us 32, us 33, us 34, us 35, us 36, us 37, us 38, us 39, us 40, us 41, us 42, us 43, us 44, us 45, us 46, us 47, us 48, us 49, us 50, us 51, us 52, us 53, us 54, us 55, us 56, us 57, us 58, us 59, us 60, us 61, us 62, us 63], defers := [] } ∧ HV W' g4 u ∧ Below w2.heap.size w2 W') ?_ ?_
  · have l0 : ∀ s : InC (fun W => Below w2.heap.size w2 W), (Instr.loadAt 34 (.pointer (some ⟨w.heap.size, 0, none⟩))).run Try.prog s.W = .ok (.agg (a.map B).toArray) s.W := fun s => (hL.step s.ok).get rfl 0 (by simp)
    have L0 := Lib.hid l0
    clear l0
    have l1 : ∀ s : InC (fun W => Below w2.heap.size w2 W), (Instr.loadAt 34 (.pointer (some ⟨w.heap.size, 32, none⟩))).run Try.prog s.W = .ok (.agg (b.map B).toArray) s.W := fun s => (hL.step s.ok).get rfl 1 (by simp)
    have L1 := Lib.hid l1
    clear l1
    have hS : Below (w2.heap.size) w2 w2.drew := (Below.refl _ _).drew
    refine wp_region_begin (fun W => Below (w2.heap.size) w2 W) (by kernel_rfl) hS fun _ => ?_
    generalize w2.drew = w3 at hS  ⊢
    refine wpAnyH_pre (f := 3) (by kernel_rfl) #[true, true, true, true, true, true, false, false, false] [(0, true), (1, true), (2, true), (3, true), (4, true), (5, true)] _ _ _ (by kernel_rfl) hS ?_
    simp only [List.map_cons, List.map_nil, Array.getD_eq_getD_getElem?, List.getElem?_toArray, List.getElem?_cons_succ, List.getElem?_cons_zero, Option.getD_some]
    refine wpMix_s (fun K hK => ?_)
    go_simp
    refine hK _ ?_
    clear hK K
    refine wpMix_s (fun K hK => ?_)
    go_simp
    refine hK _ ?_
    clear hK K
    refine wpMix_load (by kernel_rfl) 34 (.tmp 16) rfl (w.heap.size) (0) rfl (a.map B).toArray (L0.out) ?_
    simp only [Act.put]
    refine wpMix_s (fun K hK => ?_)
    go_simp
    refine hK _ ?_
    clear hK K
    refine wpMix_s (fun K hK => ?_)
    go_simp
    refine hK _ ?_
    clear hK K
    refine wpMix_load (by kernel_rfl) 34 (.tmp 19) rfl (w.heap.size) (32) rfl (b.map B).toArray (L1.out) ?_
    simp only [Act.put]
    refine wpMix_nil ?_
    intro _
    refine wpAnyH_fork (f := 2) (i := 6) (j := 7) (by kernel_rfl) hS ?_ ?_
    · simp only [Array.getD_eq_getD_getElem?, List.getElem?_toArray, List.getElem?_cons_succ, List.getElem?_cons_zero, Option.getD_some]
      refine wpMix_c (fun K hK => ?_) hS
      go_simp
      refine (Hn1.out w3).mono ?_
      rintro e w3_1 ⟨rfl, hb'⟩
      refine hK _ _ ?_
      clear hK K
      replace hS := hS.trans (hb'.mono hS.size)
      refine ⟨hS, ?_⟩
      try replace k4 := k4.step hb'
      clear hb'
      refine wpMix_nil ?_
      intro _
      show wpAnyH _ _ _ _ _ _ #[true, true, true, true, true, true, true, false, false] _ _
      refine wpAnyH_pre (f := 0) (by kernel_rfl) #[true, true, true, true, true, true, true, true, true] [(7, false), (8, false)] _ _ _ (by kernel_rfl) hS ?_
      simp only [List.map_cons, List.map_nil, Array.getD_eq_getD_getElem?, List.getElem?_toArray, List.getElem?_cons_succ, List.getElem?_cons_zero, Option.getD_some]
      have k4g := hS.size
      refine wpMix_hnew rfl rfl (fun _ hb => hS.trans (hb.mono hS.size)) ?_
      intro w3_2 k4 hb'
      simp only [Act.put]
      replace hS := hS.trans (hb'.mono hS.size)
      clear hb'
      refine wpMix_hset (.tmp 4) (.tmp 21) rfl rfl k4 rfl rfl Hul.out (fun _ hb => hS.trans (hb.mono k4g)) ?_
      intro w3_3 k4s hb' hoth
      simp only [Act.put]
      replace hS := hS.trans (hb'.mono k4g)
      clear hb' hoth
      refine wpMix_nil ?_
      intro _
      refine wpAnyH_end (by kernel_rfl) ?_
      refine ⟨_, ?_, k4s, hS⟩
      kernel_rfl
    · simp only [Array.getD_eq_getD_getElem?, List.getElem?_toArray, List.getElem?_cons_succ, List.getElem?_cons_zero, Option.getD_some]
      have k4g := hS.size
      refine wpMix_hnew rfl rfl (fun _ hb => hS.trans (hb.mono hS.size)) ?_
      intro w3_4 k4 hb'
      simp only [Act.put]
      replace hS := hS.trans (hb'.mono hS.size)
      clear hb'
      refine wpMix_nil ?_
      intro _
      show wpAnyH _ _ _ _ _ _ #[true, true, true, true, true, true, false, true, false] _ _
      refine wpAnyH_pre (f := 0) (by kernel_rfl) #[true, true, true, true, true, true, true, true, true] [(6, false), (8, false)] _ _ _ (by kernel_rfl) hS ?_
      simp only [List.map_cons, List.map_nil, Array.getD_eq_getD_getElem?, List.getElem?_toArray, List.getElem?_cons_succ, List.getElem?_cons_zero, Option.getD_some]
      refine wpMix_c (fun K hK => ?_) hS
      go_simp
      refine (Hn1.out w3_4).mono ?_
      rintro e w3_5 ⟨rfl, hb'⟩
      refine hK _ _ ?_
      clear hK K
      replace hS := hS.trans (hb'.mono hS.size)
      refine ⟨hS, ?_⟩
      try replace k4 := k4.step hb'
      clear hb'
      refine wpMix_hset (.tmp 4) (.tmp 21) rfl rfl k4 rfl rfl Hul.out (fun _ hb => hS.trans (hb.mono k4g)) ?_
      intro w3_6 k4s hb' hoth
      simp only [Act.put]
      replace hS := hS.trans (hb'.mono k4g)
      clear hb' hoth
      refine wpMix_nil ?_
      intro _
      refine wpAnyH_end (by kernel_rfl) ?_
      refine ⟨_, ?_, k4s, hS⟩
      kernel_rfl
  rintro us a' w4 ⟨g4, rfl, k4, hb4⟩
  replace hp := hp.step hb4
  replace hL := hL.step hb4
  replace hb0 := hb0.trans (hb4.mono hb0.size)
  have hg4 := k4.lt
  clear hb4
  go_wp2_with fail
  refine wp_share_us (fun us a' W' => ∃ g5, a' = { tmps := #[us 0, .slice (some ⟨w.heap.size, 0, none⟩) 3 3, .slice (some ⟨gp, 0, none⟩) 1 cp, .int .i64 0, .pointer (some ⟨g4, 0, none⟩), .pointer (some ⟨g5, 0, none⟩), us 6, us 7, us 8, us 9, us 10, us 11, us 12, us 13, us 14, us 15, us 16, us 17, us 18, us 19, us 20, us 21, us 22, us 23, us 24, us 25, us 26, us 27, us 28, us 29, us 30, us 31, us 32, us 33, us 34, us 35, us 36, us 37, us 38, us 39, us 40, us 41, us 42, us 43, us 44, us 45, us 46, us 47, us 48, us 49, us 50, us 51, us 52, us 53, us 54, us 55, us 56, us 57, us 58, us 59, us 60, us 61, us 62, us 63], defers := [] } ∧ HV W' g4 u ∧ HV W' g5 t ∧ Below w4.heap.size w4 W') ?_ ?_
  · have l0 : ∀ s : InC (fun W => Below w4.heap.size w4 W), (Instr.loadAt 34 (.pointer (some ⟨g4, 0, none⟩))).run Try.prog s.W = .ok (.agg (u.map B).toArray) s.W := fun s => (k4.step s.ok).load
    have L0 := Lib.hid l0
    clear l0
    have l1 : ∀ s : InC (fun W => Below w4.heap.size w4 W), (Instr.loadAt 34 (.pointer (some ⟨w.heap.size, 64, none⟩))).run Try.prog s.W = .ok (.agg (c.map B).toArray) s.W := fun s => (hL.step s.ok).get rfl 2 (by simp)
    have L1 := Lib.hid l1
    clear l1
    replace k4 := k4.drew
    have hS : Below (w4.heap.size) w4 w4.drew := (Below.refl _ _).drew
    refine wp_region_begin (fun W => Below (w4.heap.size) w4 W) (by kernel_rfl) hS fun _ => ?_
    generalize w4.drew = w5 at hS k4 ⊢
    refine wpAnyH_pre (f := 3) (by kernel_rfl) #[true, true, true, true, false, false, false] [(0, true), (1, true), (2, true), (3, true)] _ _ _ (by kernel_rfl) hS ?_
    simp only [List.map_cons, List.map_nil, Array.getD_eq_getD_getElem?, List.getElem?_toArray, List.getElem?_cons_succ, List.getElem?_cons_zero, Option.getD_some]
    refine wpMix_load (by kernel_rfl) 34 (.tmp 4) rfl (g4) (0) rfl (u.map B).toArray (L0.out) ?_
    simp only [Act.put]
    refine wpMix_s (fun K hK => ?_)
    go_simp
    refine hK _ ?_
    clear hK K
    refine wpMix_s (fun K hK => ?_)
    go_simp
    refine hK _ ?_
    clear hK K
    refine wpMix_load (by kernel_rfl) 34 (.tmp 24) rfl (w.heap.size) (64) rfl (c.map B).toArray (L1.out) ?_
    simp only [Act.put]
    refine wpMix_nil ?_
    intro _
    refine wpAnyH_fork (f := 2) (i := 4) (j := 5) (by kernel_rfl) hS ?_ ?_
    · simp only [Array.getD_eq_getD_getElem?, List.getElem?_toArray, List.getElem?_cons_succ, List.getElem?_cons_zero, Option.getD_some]
      refine wpMix_c (fun K hK => ?_) hS
      go_simp
      refine (Hn2.out w5).mono ?_
      rintro e w5_1 ⟨rfl, hb'⟩
      refine hK _ _ ?_
      clear hK K
      replace hS := hS.trans (hb'.mono hS.size)
      refine ⟨hS, ?_⟩
      replace k4 := k4.step hb'
      try replace k5 := k5.step hb'
      clear hb'
      refine wpMix_nil ?_
      intro _
      show wpAnyH _ _ _ _ _ _ #[true, true, true, true, true, false, false] _ _
      refine wpAnyH_pre (f := 0) (by kernel_rfl) #[true, true, true, true, true, true, true] [(5, false), (6, false)] _ _ _ (by kernel_rfl) hS ?_
      simp only [List.map_cons, List.map_nil, Array.getD_eq_getD_getElem?, List.getElem?_toArray, List.getElem?_cons_succ, List.getElem?_cons_zero, Option.getD_some]
      have k5g := hS.size
      refine wpMix_hnew rfl rfl (fun _ hb => hS.trans (hb.mono hS.size)) ?_
      intro w5_2 k5 hb'
      simp only [Act.put]
      replace hS := hS.trans (hb'.mono hS.size)
      replace k4 := k4.step hb'
      clear hb'
      refine wpMix_hset (.tmp 5) (.tmp 26) rfl rfl k5 rfl rfl Htl.out (fun _ hb => hS.trans (hb.mono k5g)) ?_
      intro w5_3 k5s hb' hoth
      simp only [Act.put]
      replace hS := hS.trans (hb'.mono k5g)
      replace k4 := hoth _ _ (by omega) k4
      clear hb' hoth
      refine wpMix_nil ?_
      intro _
      refine wpAnyH_end (by kernel_rfl) ?_
      refine ⟨_, ?_, k4, k5s, hS⟩
      kernel_rfl
    · simp only [Array.getD_eq_getD_getElem?, List.getElem?_toArray, List.getElem?_cons_succ, List.getElem?_cons_zero, Option.getD_some]
      have k5g := hS.size
      refine wpMix_hnew rfl rfl (fun _ hb => hS.trans (hb.mono hS.size)) ?_
      intro w5_4 k5 hb'
      simp only [Act.put]
      replace hS := hS.trans (hb'.mono hS.size)
      replace k4 := k4.step hb'
      clear hb'
      refine wpMix_nil ?_
      intro _
      show wpAnyH _ _ _ _ _ _ #[true, true, true, true, false, true, false] _ _
      refine wpAnyH_pre (f := 0) (by kernel_rfl) #[true, true, true, true, true, true, true] [(4, false), (6, false)] _ _ _ (by kernel_rfl) hS ?_
      simp only [List.map_cons, List.map_nil, Array.getD_eq_getD_getElem?, List.getElem?_toArray, List.getElem?_cons_succ, List.getElem?_cons_zero, Option.getD_some]
      refine wpMix_c (fun K hK => ?_) hS
      go_simp
      refine (Hn2.out w5_4).mono ?_
      rintro e w5_5 ⟨rfl, hb'⟩
      refine hK _ _ ?_
      clear hK K
      replace hS := hS.trans (hb'.mono hS.size)
      refine ⟨hS, ?_⟩
      replace k4 := k4.step hb'
      try replace k5 := k5.step hb'
      clear hb'
      refine wpMix_hset (.tmp 5) (.tmp 26) rfl rfl k5 rfl rfl Htl.out (fun _ hb => hS.trans (hb.mono k5g)) ?_
      intro w5_6 k5s hb' hoth
      simp only [Act.put]
      replace hS := hS.trans (hb'.mono k5g)
      replace k4 := hoth _ _ (by omega) k4
      clear hb' hoth
      refine wpMix_nil ?_
      intro _
      refine wpAnyH_end (by kernel_rfl) ?_
      refine ⟨_, ?_, k4, k5s, hS⟩
      kernel_rfl
  rintro us a' w6 ⟨g5, rfl, k4, k5, hb6⟩
  replace hp := hp.step hb6
  replace hL := hL.step hb6
  replace hb0 := hb0.trans (hb6.mono hb0.size)
  clear hb6
  go_wp2_with fail
  have hS : Below w6.heap.size w6 w6.drew := (Below.refl _ _).drew
  have l0 : ∀ s : InC (fun W => Below w6.heap.size w6 W), (Instr.loadAt 34 (.pointer (some ⟨gp, 0, none⟩))).run Try.prog s.W = .ok (.agg (c.map B).toArray) s.W := fun s => (hp.step s.ok).get rfl 0 (by simp)
  have L0 := Lib.hid l0
  clear l0
  have l1 : ∀ s : InC (fun W => Below w6.heap.size w6 W), (Instr.loadAt 34 (.pointer (some ⟨w.heap.size, 64, none⟩))).run Try.prog s.W = .ok (.agg (c.map B).toArray) s.W := fun s => (hL.step s.ok).get rfl 2 (by simp)
  have L1 := Lib.hid l1
  clear l1
  have l4 : ∀ s : InC (fun W => Below w6.heap.size w6 W), (Instr.loadAt 34 (.pointer (some ⟨g4, 0, none⟩))).run Try.prog s.W = .ok (.agg (u.map B).toArray) s.W := fun s => (k4.step s.ok).load
  have L4 := Lib.hid l4
  clear l4
  have l5 : ∀ s : InC (fun W => Below w6.heap.size w6 W), (Instr.loadAt 34 (.pointer (some ⟨g5, 0, none⟩))).run Try.prog s.W = .ok (.agg (t.map B).toArray) s.W := fun s => (k5.step s.ok).load
  have L5 := Lib.hid l5
  clear l5
  refine wp_region_mix (fun W => Below w6.heap.size w6 W) [(0, true), (1, true), (2, true), (3, true), (4, true), (5, true), (6, true), (7, true), (8, true), (9, true), (10, true), (11, true), (12, true), (13, true), (14, true), (15, true), (16, true), (17, true), (18, true), (19, true), (20, false), (21, true), (22, true), (23, true), (24, true), (25, true), (26, true), (27, false), (28, true), (29, true), (30, true), (31, true), (32, true), (33, true), (34, false), (35, true), (36, true), (37, true)] (by kernel_rfl) (by kernel_rfl) hS fun _ => ?_
  simp only [List.map_cons, List.map_nil, Array.getD_eq_getD_getElem?, List.getElem?_toArray, List.getElem?_cons_succ, List.getElem?_cons_zero, Option.getD_some]
  generalize w6.drew = w7 at hS ⊢
  refine wpMix_s (fun K hK => ?_)
  go_simp
  refine hK _ ?_
  clear hK K
  refine wpMix_s (fun K hK => ?_)
  go_simp
  refine hK _ ?_
  clear hK K
  refine wpMix_s (fun K hK => ?_)
  go_simp
  refine hK _ ?_
  clear hK K
  refine wpMix_s (fun K hK => ?_)
  go_simp
  refine hK _ ?_
  clear hK K
  refine wpMix_s (fun K hK => ?_)
  go_simp
  refine hK _ ?_
  clear hK K
  refine wpMix_s (fun K hK => ?_)
  go_simp
  refine hK _ ?_
  clear hK K
  refine wpMix_s (fun K hK => ?_)
  go_simp
  refine hK _ ?_
  clear hK K
  refine wpMix_s (fun K hK => ?_)
  go_simp
  refine hK _ ?_
  clear hK K
  refine wpMix_s (fun K hK => ?_)
  go_simp
  refine hK _ ?_
  clear hK K
  refine wpMix_s (fun K hK => ?_)
  go_simp
  refine hK _ ?_
  clear hK K
  refine wpMix_load (by kernel_rfl) 34 (.tmp 36) rfl (gp) (0) rfl (c.map B).toArray (L0.out) ?_
  simp only [Act.put]
  refine wpMix_s (fun K hK => ?_)
  go_simp
  refine hK _ ?_
  clear hK K
  refine wpMix_s (fun K hK => ?_)
  go_simp
  refine hK _ ?_
  clear hK K
  refine wpMix_load (by kernel_rfl) 34 (.tmp 39) rfl (w.heap.size) (64) rfl (c.map B).toArray (L1.out) ?_
  simp only [Act.put]
  refine wpMix_v (by kernel_rfl) (.bool true) (fun s => run_eql26_t (.tmp 37) (.tmp 40) _ c c rfl rfl rfl Hcl.out Hcl.out rfl s.W) ?_
  simp only [Act.put]
  refine wpMix_s (fun K hK => ?_)
  go_simp
  refine hK _ ?_
  clear hK K
  refine wpMix_s (fun K hK => ?_)
  go_simp
  refine hK _ ?_
  clear hK K
  refine wpMix_load (by kernel_rfl) 34 (.tmp 4) rfl (g4) (0) rfl (u.map B).toArray (L4.out) ?_
  simp only [Act.put]
  refine wpMix_load (by kernel_rfl) 34 (.tmp 5) rfl (g5) (0) rfl (t.map B).toArray (L5.out) ?_
  simp only [Act.put]
  refine wpMix_s (fun K hK => ?_)
  go_simp
  refine hK _ ?_
  clear hK K
  refine wpMix_c (fun K hK => ?_) hS
  go_simp
  refine (Hck1.out _ _ w7 (hp.step hS)).mono ?_
  rintro e w7_1 ⟨rfl, hb'⟩
  refine hK _ _ ?_
  clear hK K
  replace hS := hS.trans (hb'.mono hS.size)
  refine ⟨hS, ?_⟩
  clear hb'
  refine wpMix_s (fun K hK => ?_)
  go_simp
  refine hK _ ?_
  clear hK K
  refine wpMix_s (fun K hK => ?_)
  go_simp
  refine hK _ ?_
  clear hK K
  refine wpMix_s (fun K hK => ?_)
  go_simp
  refine hK _ ?_
  clear hK K
  refine wpMix_load (by kernel_rfl) 34 (.tmp 5) rfl (g5) (0) rfl (t.map B).toArray (L5.out) ?_
  simp only [Act.put]
  refine wpMix_load (by kernel_rfl) 34 (.tmp 5) rfl (g5) (0) rfl (t.map B).toArray (L5.out) ?_
  simp only [Act.put]
  refine wpMix_s (fun K hK => ?_)
  go_simp
  refine hK _ ?_
  clear hK K
  refine wpMix_c (fun K hK => ?_) hS
  go_simp
  refine (Hck2.out _ _ w7_1 (hp.step hS)).mono ?_
  rintro e w7_2 ⟨rfl, hb'⟩
  refine hK _ _ ?_
  clear hK K
  replace hS := hS.trans (hb'.mono hS.size)
  refine ⟨hS, ?_⟩
  clear hb'
  refine wpMix_s (fun K hK => ?_)
  go_simp
  refine hK _ ?_
  clear hK K
  refine wpMix_s (fun K hK => ?_)
  go_simp
  refine hK _ ?_
  clear hK K
  refine wpMix_s (fun K hK => ?_)
  go_simp
  refine hK _ ?_
  clear hK K
  refine wpMix_load (by kernel_rfl) 34 (.tmp 4) rfl (g4) (0) rfl (u.map B).toArray (L4.out) ?_
  simp only [Act.put]
  refine wpMix_load (by kernel_rfl) 34 (.tmp 5) rfl (g5) (0) rfl (t.map B).toArray (L5.out) ?_
  simp only [Act.put]
  refine wpMix_s (fun K hK => ?_)
  go_simp
  refine hK _ ?_
  clear hK K
  refine wpMix_c (fun K hK => ?_) hS
  go_simp
  refine (Hck3.out _ _ w7_2 (hp.step hS)).mono ?_
  rintro e w7_3 ⟨rfl, hb'⟩
  refine hK _ _ ?_
  clear hK K
  replace hS := hS.trans (hb'.mono hS.size)
  refine ⟨hS, ?_⟩
  clear hb'
  refine wpMix_s (fun K hK => ?_)
  go_simp
  refine hK _ ?_
  clear hK K
  refine wpMix_s (fun K hK => ?_)
  go_simp
  refine hK _ ?_
  clear hK K
  refine wpMix_s (fun K hK => ?_)
  go_simp
  refine hK _ ?_
  clear hK K
  refine wpMix_nil ?_
  intro _
  go_wp2_with fail
  go_ret
  exact ⟨rfl, hb0.trans (hS.mono hb0.size)⟩
end Go.Proofs.Ytgcbdnoniikboaa
