/- notarylaw10.known. -/
import Derived.Test.YtonidnfgneokbaaQd230
namespace Go.Proofs.Ytonidnfgneokbaa
open Go Go.RowKit Go.Shelf
attribute [local go_sem] Oper.semAt_some

theorem Es.one {w w' : World} {A : Option Addr} {c : Nat} {x : List UInt8} {n : Nat} (h : Sl w (fun _ => True) A n c x) (hw : w.alloc (.cells #[.slice A n c] 23) = w') : Es w' (fun _ => True) (some ⟨w.heap.size, 0, none⟩) 1 1 [x] := by
  have hb : Below w.heap.size w w' := by rw [← hw]; exact (Below.refl _ _).alloc (Nat.le_refl _) _
  have hl := h.len
  refine ⟨⟨[.slice A n c], by rw [← hw]; exact SlV.lit w _ 23 [.slice A n c] rfl (by unfold maxLen; decide) trivial, fun i hi => ?_⟩, rfl⟩
  obtain rfl : i = 0 := by simp at hi; exact hi
  refine ⟨A, c, by simp [hl], ?_⟩
  show Sl w' _ A x.length c x
  rw [hl]
  exact h.step hb
theorem Es.two {w w' : World} {A A' : Option Addr} {c c' : Nat} {x y : List UInt8} {n n' : Nat} (h : Sl w (fun _ => True) A n c x) (h' : Sl w (fun _ => True) A' n' c' y) (hw : w.alloc (.cells #[.slice A n c, .slice A' n' c'] 23) = w') : Es w' (fun _ => True) (some ⟨w.heap.size, 0, none⟩) 2 2 [x, y] := by
  have hb : Below w.heap.size w w' := by rw [← hw]; exact (Below.refl _ _).alloc (Nat.le_refl _) _
  have hl := h.len
  have hl' := h'.len
  refine ⟨⟨[.slice A n c, .slice A' n' c'], by rw [← hw]; exact SlV.lit w _ 23 [.slice A n c, .slice A' n' c'] rfl (by unfold maxLen; decide) trivial, fun i hi => ?_⟩, rfl⟩
  have hi : i = 0 ∨ i = 1 := by simp at hi; omega
  rcases hi with rfl | rfl
  · refine ⟨A, c, by simp [hl], ?_⟩
    show Sl w' _ A x.length c x
    rw [hl]
    exact h.step hb
  · refine ⟨A', c', by simp [hl'], ?_⟩
    show Sl w' _ A' y.length c' y
    rw [hl']
    exact h'.step hb
/-- one byte as a text -/
theorem byte_text (w : World) (x : UInt8) : ∃ w2, (convert 23 23 (.slice (some ⟨w.heap.size, 0, none⟩) 1 1)).run Try.prog (w.alloc (.cells #[B x] 5)) = .ok (.slice (some ⟨w.heap.size, 0, none⟩) 1 1) w2 ∧ Sl w2 (fun _ => True) (some ⟨w.heap.size, 0, none⟩) 1 1 [x] ∧ Below w.heap.size w w2 := by
  obtain ⟨w2, h1, h2, h3⟩ := conv_new w #[B x] [x] 1 rfl rfl
  exact ⟨w2, h1, ⟨h2.weak fun _ _ _ => trivial, rfl, Nat.le_refl _, (fun e => by cases e), by unfold maxLen; decide⟩, h3⟩
def kA : List UInt8 := hLeaf [97]
def kB : List UInt8 := hLeaf [98]
def kC : List UInt8 := hLeaf [99]
def kAB : List UInt8 := hNode kA kB
def kn1 : FrV := [(0, kA)]
def kn2 : FrV := [(1, kAB), (0, kC)]
theorem kn_one : appendE [] [[97]] = (kn1, 0) := rfl
theorem kn_two : appendE kn1 [[98], [99]] = (kn2, 0) := rfl
theorem kn1_ok : FrOk kn1 := by have := frOk_nil.appendE [[97]]; rw [kn_one] at this; exact this
theorem kn2_ok : FrOk kn2 := by have := kn1_ok.appendE [[98], [99]]; rw [kn_two] at this; exact this
theorem kn_grow1 : growE kn2 1 kA = (kn2, 201) := by unfold growE; rw [if_neg (by decide), if_pos (by decide)]
theorem kn_grow63 : growE kn2 63 kA = (kn2, 2) := by unfold growE; rw [if_pos (by decide)]
theorem kn_size : szF kn2 = 3 := rfl
theorem kn_root : rootG kn2 = hNode kAB kC := rfl
theorem kn_from : fromE 3 [kA] = (none, 2) := by
  unfold fromE
  rw [if_neg (by decide), if_pos (by decide)]

theorem FrOpt.some' {W : World} {lo : Nat} {v : Value} {ps : FrV} (h : FrOpt W lo v (some ps)) : ∃ g, v = fptr g ∧ lo ≤ g ∧ FrOF W lo g ps := by
  rcases h with ⟨h, _⟩ | ⟨g, qs, h1, h2, h3, h4⟩
  · cases h
  · cases h1
    exact ⟨g, h2, h3, h4⟩
theorem FrOpt.none' {W : World} {lo : Nat} {v : Value} (h : FrOpt W lo v none) : v = .pointer none := by
  rcases h with ⟨_, h⟩ | ⟨g, qs, h1, h2, h3, h4⟩
  · exact h
  · cases h1
/-- while known asks -/
structure KnC (w : World) (g2 g3 g4 : Nat) (W : World) : Prop where
  f : FrO W w.heap.size kn2
  h2 : HV W g2 kA
  h3 : HV W g3 kB
  h4 : HV W g4 kC
  bel : Below w.heap.size w W
theorem KnC.step {w W W' : World} {g2 g3 g4 : Nat} (h : KnC w g2 g3 g4 W) (hb : Below W.heap.size W W') : KnC w g2 g3 g4 W' := ⟨h.f.step hb, h.h2.step hb, h.h3.step hb, h.h4.step hb, h.bel.trans (hb.mono h.bel.size)⟩
theorem KnC.grow {w W W' : World} {g2 g3 g4 : Nat} (h : KnC w g2 g3 g4 W) (hF : FrO W' w.heap.size kn2) (hg : W.grownBy W' (some w.heap.size)) (h2 : w.heap.size < g2) (h3 : w.heap.size < g3) (h4 : w.heap.size < g4) : KnC w g2 g3 g4 W' :=
  ⟨hF, ⟨h.h2.blk.grown hg (fun e => by have e := Option.some.inj e; omega), h.h2.len⟩, ⟨h.h3.blk.grown hg (fun e => by have e := Option.some.inj e; omega), h.h3.len⟩, ⟨h.h4.blk.grown hg (fun e => by have e := Option.some.inj e; omega), h.h4.len⟩, h.bel.grown hg h.bel.size (fun r e => by have e := Option.some.inj e; omega)⟩

set_option maxHeartbeats 8000000 in
set_option maxRecDepth 100000 in
theorem known10_any (w : World) : Calls Try.prog 39 #[] w fun e w' => e = .returned (.bool true) ∧ Below w.heap.size w w' := by
  have hem := length_hEmpty
  have hroot0 := fun W g (h : FrO W g []) => froot_any g [] W h frOk_nil
  have hof := fun W => of_none W
  rw [show rootG [] = hEmpty from rfl] at hroot0
  obtain ⟨em, hemE⟩ : ∃ e, hEmpty = e := ⟨_, rfl⟩
  rw [hemE] at hem hroot0 hof
  have hsz0 := fun W g (h : FrO W g []) => fsize_some h frOk_nil
  have hap1 := fun g W A (h : FrO W g []) (hh : Es W (fun _ => True) A 1 1 [[97]]) => fappend_any g [] [[97]] A 1 1 W h frOk_nil hh (by decide) (by decide)
  have hap2 := fun g W A (h : FrO W g kn1) (hh : Es W (fun _ => True) A 2 2 [[98], [99]]) => fappend_any g kn1 [[98], [99]] A 2 2 W h kn1_ok hh (by decide) (by decide)
  rw [kn_one] at hap1
  rw [kn_two] at hap2
  have hA32 : kA.length = 32 := length_hLeaf _
  have hB32 : kB.length = 32 := length_hLeaf _
  have hC32 : kC.length = 32 := length_hLeaf _
  have hAB32 : kAB.length = 32 := length_hNode _ _
  have HlA := Lib.hid fun W A (h : Sl W (fun _ => True) A 1 1 [97]) => (show Calls Try.prog 66 #[.slice A 1 1] W (fun e w' => e = .returned (.agg (kA.map B).toArray) ∧ Below W.heap.size W w') from hrleaf_any [97] A 1 1 W h (by decide))
  have HlB := Lib.hid fun W A (h : Sl W (fun _ => True) A 1 1 [98]) => (show Calls Try.prog 66 #[.slice A 1 1] W (fun e w' => e = .returned (.agg (kB.map B).toArray) ∧ Below W.heap.size W w') from hrleaf_any [98] A 1 1 W h (by decide))
  have HlC := Lib.hid fun W A (h : Sl W (fun _ => True) A 1 1 [99]) => (show Calls Try.prog 66 #[.slice A 1 1] W (fun e w' => e = .returned (.agg (kC.map B).toArray) ∧ Below W.heap.size W w') from hrleaf_any [99] A 1 1 W h (by decide))
  have HkAB := Lib.hid fun W => (show Calls Try.prog 103 #[.agg (kA.map B).toArray, .agg (kB.map B).toArray] W (fun e w' => e = .returned (.agg (kAB.map B).toArray) ∧ Below W.heap.size W w') from hrnode_any kA kB W hA32 hB32)
  have Hk2ok := Lib.hid kn2_ok
  have HSz2 := Lib.hid fun W g (h : FrO W g kn2) => (show Calls Try.prog 43 #[fptr g] W (fun e w' => e = .returned (.int .i64 3) ∧ Below W.heap.size W w') from fsize_some h kn2_ok)
  have hrt2 := fun W g (h : FrO W g kn2) => froot_any g kn2 W h kn2_ok
  have hnd2 := fun W => hrnode_any kAB kC W hAB32 hC32
  have hrl2 := length_hNode kAB kC
  rw [kn_root] at hrt2
  obtain ⟨r2, hr2⟩ : ∃ r, hNode kAB kC = r := ⟨_, rfl⟩
  rw [hr2] at hrt2 hnd2 hrl2
  have HRt2 := Lib.hid hrt2
  have HNd2 := Lib.hid hnd2
  have hg1 := fun W g (h : FrO W g kn2) => fgrow_any g kn2 1 kA W h kn2_ok hA32
  have hg63 := fun W g (h : FrO W g kn2) => fgrow_any g kn2 63 kA W h kn2_ok hA32
  rw [kn_grow1] at hg1
  rw [kn_grow63] at hg63
  have HG1 := Lib.hid hg1
  have HG63 := Lib.hid hg63
  have HBy := Lib.hid fun W g (h : FrO W g kn2) => fbytes_any g kn2 W h kn2_ok
  have hbl : (bytesF kn2).length = 72 := by rw [length_bytesF kn2 kn2_ok.h32]; rfl
  have Hbl := Lib.hid hbl
  have hrd := fun W A c (h : Sl W (fun _ => True) A 72 c (bytesF kn2)) => fread_any (bytesF kn2) A 72 c W h (by decide)
  rw [readF_bytes kn2 kn2_ok] at hrd
  have HRd := Lib.hid hrd
  have hfm := fun W A (h : Hs W (fun _ => True) A 1 1 [kA]) => ffrom_any 3 [kA] A 1 1 W h (by decide)
  rw [kn_from] at hfm
  have HFm := Lib.hid hfm
  have HSm := Lib.hid fun W g g' (h : FrO W g kn2) (h' : FrO W g' kn2) => (fsame_any g g' kn2 kn2 W h h')
  have HPa := Lib.hid fun W g (h : FrO W g kn2) => fparts_any (fptr g) kn2 W rfl (allOk_some h kn2_ok.h62 (by decide)) kn2_ok.h32 (by decide)
  clear hrt2 hnd2 hg1 hg63 hrd hfm hr2 hbl
  have Hroot0 := Lib.hid hroot0
  have Hof := Lib.hid hof
  have Hsz0 := Lib.hid hsz0
  have Hap1 := Lib.hid hap1
  have Hap2 := Lib.hid hap2
  clear hroot0 hof hsz0 hap1 hap2 hemE
  go_enter Try.func39, Try.ntmps39
  go_wp2_with (first
    | (go_at_call 40; refine (fnew_any w).mono ?_; rintro e w1 ⟨rfl, hF, hbel⟩)
    | (go_at_call 43; refine (Hsz0.out w1 _ hF).mono ?_; rintro e w2 ⟨rfl, hb2⟩; replace hF := hF.step hb2; replace hbel := hbel.trans (hb2.mono hbel.size))
    | (go_at_call 45; refine (Hroot0.out w2 _ hF).mono ?_; rintro e w3 ⟨rfl, hb3⟩; replace hF := hF.step hb3; replace hbel := hbel.trans (hb3.mono hbel.size))
    | (go_at_call 102; refine (Hof.out w3).mono ?_; rintro e w4 ⟨rfl, hb4⟩; replace hF := hF.step hb4; replace hbel := hbel.trans (hb4.mono hbel.size))
    | ((with_reducible show wpList _ _ _ (⟨some 21, .binOp _ _ _ _ _, _, _, _, _⟩ :: _) _ _); refine wpList_runG (by kernel_rfl) (.bool false) _ (run_neq26_f (.tmp 19) (.tmp 20) _ em em rfl rfl rfl hem hem rfl _) ?_; simp only [Act.put])
    | ((with_reducible show wpList _ _ _ (⟨some 25, .buildSlice _ _ _, _, _, _, _⟩ :: _) _ _); obtain ⟨w5, hc5, hs5, hb5⟩ := byte_text w4 97; refine wpList_runG (by kernel_rfl) (.slice (some ⟨w4.heap.size, 0, none⟩) 1 1) (w4.alloc (.cells #[B 97] 5)) (by kernel_rfl) ?_; simp only [Act.put])
    | ((with_reducible show wpList _ _ _ (⟨some 26, .convert _ _ _, _, _, _, _⟩ :: _) _ _); refine wpList_runG (by kernel_rfl) _ w5 (run_conv_op 23 23 (.tmp 25) rfl _ rfl hc5) ?_; replace hF := hF.step hb5; replace hbel := hbel.trans (hb5.mono hbel.size); simp only [Act.put])
    | ((with_reducible show wpList _ _ _ (⟨some 27, .buildSlice _ _ _, _, _, _, _⟩ :: _) _ _); refine wpList_runG (by kernel_rfl) (.slice (some ⟨w5.heap.size, 0, none⟩) 1 1) (w5.alloc (.cells #[.slice (some ⟨w4.heap.size, 0, none⟩) 1 1] 23)) (by kernel_rfl) ?_; obtain ⟨w6, hw6⟩ : ∃ x, w5.alloc (.cells #[.slice (some ⟨w4.heap.size, 0, none⟩) 1 1] 23) = x := ⟨_, rfl⟩; have hE6 := Es.one hs5 hw6; have hb6 : Below w5.heap.size w5 w6 := (by rw [← hw6]; exact (Below.refl _ _).alloc (Nat.le_refl _) _); replace hF := hF.step hb6; replace hbel := hbel.trans (hb6.mono hbel.size); rw [hw6]; clear hw6 hc5 hs5 hb5 hb6; simp only [Act.put])
    | ((with_reducible show wpList _ _ _ (⟨some 34, .buildSlice _ _ _, _, _, _, _⟩ :: _) _ _); obtain ⟨w8, hc8, hs8, hb8⟩ := byte_text w7 98; refine wpList_runG (by kernel_rfl) (.slice (some ⟨w7.heap.size, 0, none⟩) 1 1) (w7.alloc (.cells #[B 98] 5)) (by kernel_rfl) ?_; simp only [Act.put])
    | ((with_reducible show wpList _ _ _ (⟨some 35, .convert _ _ _, _, _, _, _⟩ :: _) _ _); refine wpList_runG (by kernel_rfl) _ w8 (run_conv_op 23 23 (.tmp 34) rfl _ rfl hc8) ?_; replace hF := hF.step hb8; replace hbel := hbel.trans (hb8.mono hbel.size); simp only [Act.put])
    | ((with_reducible show wpList _ _ _ (⟨some 36, .buildSlice _ _ _, _, _, _, _⟩ :: _) _ _); obtain ⟨w9, hc9, hs9, hb9⟩ := byte_text w8 99; refine wpList_runG (by kernel_rfl) (.slice (some ⟨w8.heap.size, 0, none⟩) 1 1) (w8.alloc (.cells #[B 99] 5)) (by kernel_rfl) ?_; simp only [Act.put])
    | ((with_reducible show wpList _ _ _ (⟨some 37, .convert _ _ _, _, _, _, _⟩ :: _) _ _); refine wpList_runG (by kernel_rfl) _ w9 (run_conv_op 23 23 (.tmp 36) rfl _ rfl hc9) ?_; replace hF := hF.step hb9; replace hs8 := hs8.step hb9; replace hbel := hbel.trans (hb9.mono hbel.size); simp only [Act.put])
    | ((with_reducible show wpList _ _ _ (⟨some 38, .buildSlice _ _ _, _, _, _, _⟩ :: _) _ _); refine wpList_runG (by kernel_rfl) (.slice (some ⟨w9.heap.size, 0, none⟩) 2 2) (w9.alloc (.cells #[.slice (some ⟨w7.heap.size, 0, none⟩) 1 1, .slice (some ⟨w8.heap.size, 0, none⟩) 1 1] 23)) (by kernel_rfl) ?_; obtain ⟨w10, hw10⟩ : ∃ x, w9.alloc (.cells #[.slice (some ⟨w7.heap.size, 0, none⟩) 1 1, .slice (some ⟨w8.heap.size, 0, none⟩) 1 1] 23) = x := ⟨_, rfl⟩; have hE10 := Es.two hs8 hs9 hw10; have hb10 : Below w9.heap.size w9 w10 := (by rw [← hw10]; exact (Below.refl _ _).alloc (Nat.le_refl _) _); replace hF := hF.step hb10; replace hbel := hbel.trans (hb10.mono hbel.size); rw [hw10]; clear hw10 hc8 hs8 hb8 hc9 hs9 hb9 hb10; simp only [Act.put])
    | (go_at_call 42; refine (Hap1.out _ w6 _ hF hE6).mono ?_; rintro e w7 ⟨rfl, hF7, hg7⟩; clear hF hE6; have hF := hF7; replace hbel := hbel.grown hg7 hbel.size (fun r e => by have e : w.heap.size = r := Option.some.inj e; omega); clear hF7 hg7)
    | (go_at_call 42; refine (Hap2.out _ w10 _ hF hE10).mono ?_; rintro e w11 ⟨rfl, hF11, hg11⟩; clear hF hE10; have hF := hF11; replace hbel := hbel.grown hg11 hbel.size (fun r e => by have e : w.heap.size = r := Option.some.inj e; omega); clear hF11 hg11)
    | ((with_reducible show wpList _ _ _ (⟨some 43, .buildSlice _ _ _, _, _, _, _⟩ :: _) _ _); obtain ⟨w12, hc, hs, hb⟩ := byte_text w11 97; refine wpList_runG (by kernel_rfl) (.slice (some ⟨w11.heap.size, 0, none⟩) 1 1) (w11.alloc (.cells #[B 97] 5)) (by kernel_rfl) ?_; simp only [Act.put])
    | ((with_reducible show wpList _ _ _ (⟨some 44, .convert _ _ _, _, _, _, _⟩ :: _) _ _); refine wpList_runG (by kernel_rfl) _ w12 (run_conv_op 23 23 (.tmp 43) rfl _ rfl hc) ?_; replace hF := hF.step hb; replace hbel := hbel.trans (hb.mono hbel.size); clear hc hb; simp only [Act.put])
    | (go_at_call 66; refine (HlA.out w12 _ hs).mono ?_; rintro e w13 ⟨rfl, hb⟩; replace hF := hF.step hb; replace hbel := hbel.trans (hb.mono hbel.size); clear hb hs)
    | ((with_reducible show wpList _ _ _ (⟨some 46, .buildSlice _ _ _, _, _, _, _⟩ :: _) _ _); obtain ⟨w14, hc, hs, hb⟩ := byte_text w13 98; refine wpList_runG (by kernel_rfl) (.slice (some ⟨w13.heap.size, 0, none⟩) 1 1) (w13.alloc (.cells #[B 98] 5)) (by kernel_rfl) ?_; simp only [Act.put])
    | ((with_reducible show wpList _ _ _ (⟨some 47, .convert _ _ _, _, _, _, _⟩ :: _) _ _); refine wpList_runG (by kernel_rfl) _ w14 (run_conv_op 23 23 (.tmp 46) rfl _ rfl hc) ?_; replace hF := hF.step hb; replace hbel := hbel.trans (hb.mono hbel.size); clear hc hb; simp only [Act.put])
    | (go_at_call 66; refine (HlB.out w14 _ hs).mono ?_; rintro e w15 ⟨rfl, hb⟩; replace hF := hF.step hb; replace hbel := hbel.trans (hb.mono hbel.size); clear hb hs)
    | ((with_reducible show wpList _ _ _ (⟨some 49, .buildSlice _ _ _, _, _, _, _⟩ :: _) _ _); obtain ⟨w16, hc, hs, hb⟩ := byte_text w15 99; refine wpList_runG (by kernel_rfl) (.slice (some ⟨w15.heap.size, 0, none⟩) 1 1) (w15.alloc (.cells #[B 99] 5)) (by kernel_rfl) ?_; simp only [Act.put])
    | ((with_reducible show wpList _ _ _ (⟨some 50, .convert _ _ _, _, _, _, _⟩ :: _) _ _); refine wpList_runG (by kernel_rfl) _ w16 (run_conv_op 23 23 (.tmp 49) rfl _ rfl hc) ?_; replace hF := hF.step hb; replace hbel := hbel.trans (hb.mono hbel.size); clear hc hb; simp only [Act.put])
    | (go_at_call 66; refine (HlC.out w16 _ hs).mono ?_; rintro e w17 ⟨rfl, hb⟩; replace hF := hF.step hb; replace hbel := hbel.trans (hb.mono hbel.size); clear hb hs)
    | ((with_reducible show wpList _ _ _ (⟨some 2, .alloc _, _, _, _, _⟩ :: _) _ _); refine wpList_hnew rfl rfl ?_; intro w18 k2 hb; have hw17 := hF.lt; have hg2 := k2.lt; replace hF := hF.step hb; replace hbel := hbel.trans (hb.mono hbel.size); clear hb; simp only [Act.put])
    | ((with_reducible show wpList _ _ _ (⟨some 3, .alloc _, _, _, _, _⟩ :: _) _ _); refine wpList_hnew rfl rfl ?_; intro w19 k3 hb; have hg3 := k3.lt; replace k2 := k2.step hb; replace hF := hF.step hb; replace hbel := hbel.trans (hb.mono hbel.size); clear hb; simp only [Act.put])
    | ((with_reducible show wpList _ _ _ (⟨some 4, .alloc _, _, _, _, _⟩ :: _) _ _); refine wpList_hnew rfl rfl ?_; intro w20 k4 hb; replace k2 := k2.step hb; replace k3 := k3.step hb; replace hF := hF.step hb; replace hbel := hbel.trans (hb.mono hbel.size); clear hb; simp only [Act.put])
    | ((with_reducible show wpList _ _ _ (⟨none, .store _ (.tmp 2) _, _, _, _, _⟩ :: _) _ _); refine wpList_hset (.tmp 2) (.tmp 45) rfl rfl k2 rfl rfl hA32 ?_; intro w21 k2b hb hW; have hg : w20.grownBy w21 (some w17.heap.size) := (by rw [hW]; exact grown_setRow (grown_of_below (Below.refl _ _) _) _); replace k3 : HV w21 w18.heap.size (List.replicate 32 0) := ⟨k3.blk.grown hg (fun e => by have e := Option.some.inj e; omega), k3.len⟩; replace k4 : HV w21 w19.heap.size (List.replicate 32 0) := ⟨k4.blk.grown hg (fun e => by have e := Option.some.inj e; omega), k4.len⟩; replace hF := hF.grown hg k2.blk (by simp []) (by omega); replace hbel := hbel.trans (hb.mono (Nat.le_of_lt hw17)); clear hW hg hb k2; simp only [Act.put])
    | ((with_reducible show wpList _ _ _ (⟨none, .store _ (.tmp 3) _, _, _, _, _⟩ :: _) _ _); refine wpList_hset (.tmp 3) (.tmp 48) rfl rfl k3 rfl rfl hB32 ?_; intro w22 k3b hb hW; have hg : w21.grownBy w22 (some w18.heap.size) := (by rw [hW]; exact grown_setRow (grown_of_below (Below.refl _ _) _) _); replace k2b : HV w22 w17.heap.size kA := ⟨k2b.blk.grown hg (fun e => by have e := Option.some.inj e; omega), k2b.len⟩; replace k4 : HV w22 w19.heap.size (List.replicate 32 0) := ⟨k4.blk.grown hg (fun e => by have e := Option.some.inj e; omega), k4.len⟩; replace hF := hF.grown hg k3.blk (by simp []) (by omega); replace hbel := hbel.trans (hb.mono (by omega)); clear hW hg hb k3; simp only [Act.put])
    | ((with_reducible show wpList _ _ _ [⟨none, .store _ (.tmp 4) _, _, _, _, _⟩] _ _); refine wpList_hset (.tmp 4) (.tmp 51) rfl rfl k4 rfl rfl hC32 ?_; intro w23 k4b hb hW; have hg : w22.grownBy w23 (some w19.heap.size) := (by rw [hW]; exact grown_setRow (grown_of_below (Below.refl _ _) _) _); replace k2b : HV w23 w17.heap.size kA := ⟨k2b.blk.grown hg (fun e => by have e := Option.some.inj e; omega), k2b.len⟩; replace k3b : HV w23 w18.heap.size kB := ⟨k3b.blk.grown hg (fun e => by have e := Option.some.inj e; omega), k3b.len⟩; replace hF := hF.grown hg k4.blk (by simp []) (by omega); replace hbel := hbel.trans (hb.mono (by omega)); clear hW hg hb k4; simp only [Act.put])
    | (go_at_call 41; refine (num10_any _ _).mono ?_; rintro e wn ⟨rfl, hww⟩; obtain rfl := hww.symm))
  have hK : KnC w w17.heap.size w18.heap.size w19.heap.size w23 := ⟨hF, k2b, k3b, k4b, hbel⟩
  have hlt2 : w.heap.size < w17.heap.size := hw17
  have hlt3 : w.heap.size < w18.heap.size := by omega
  have hlt4 : w.heap.size < w19.heap.size := by omega
  obtain ⟨g2, hg2e⟩ : ∃ x, w17.heap.size = x := ⟨_, rfl⟩
  obtain ⟨g3, hg3e⟩ : ∃ x, w18.heap.size = x := ⟨_, rfl⟩
  obtain ⟨g4, hg4e⟩ : ∃ x, w19.heap.size = x := ⟨_, rfl⟩
  rw [hg2e, hg3e, hg4e] at hK
  rw [hg2e] at hlt2 ⊢
  rw [hg3e] at hlt3 ⊢
  rw [hg4e] at hlt4 ⊢
  clear hF k2b k3b k4b hbel hg2 hg3 hw17 hg2e hg3e hg4e
  have hS : KnC w g2 g3 g4 w23.drew := hK.step ((Below.refl _ _).drew)
  clear hK
  refine wp_region_mix (KnC w g2 g3 g4) [(0, true), (1, false), (2, true), (3, true), (4, true), (6, true), (7, true), (9, true), (5, false), (8, false), (10, false), (11, true), (12, true), (13, true), (14, true), (15, true), (16, false), (17, false), (18, true), (19, true), (20, true), (21, true), (22, true), (23, false), (24, false), (25, true), (26, true)] (by kernel_rfl) (by kernel_rfl) hS fun _ => ?_
  simp only [List.map_cons, List.map_nil, Array.getD_eq_getD_getElem?, List.getElem?_toArray, List.getElem?_cons_succ, List.getElem?_cons_zero, Option.getD_some]
  generalize w23.drew = u2 at hS ⊢
  refine wpMix_s (fun K hK => ?_)
  go_simp
  refine hK _ ?_
  clear hK K
  refine wpMix_c (fun K hK => ?_) hS
  go_simp
  refine (HSz2.out u2 _ hS.f).mono ?_
  rintro e u2a ⟨rfl, hb'⟩
  refine hK _ _ ?_
  clear hK K
  replace hS : KnC w g2 g3 g4 u2a := hS.step hb'
  refine ⟨hS, ?_⟩
  refine wpMix_s (fun K hK => ?_)
  go_simp
  refine hK _ ?_
  clear hK K
  refine wpMix_s (fun K hK => ?_)
  go_simp
  refine hK _ ?_
  clear hK K
  refine wpMix_s (fun K hK => ?_)
  go_simp
  refine hK _ ?_
  clear hK K
  refine wpMix_load (by kernel_rfl) 25 (.tmp 2) rfl (g2) (0) rfl (kA.map B).toArray ((fun s => s.ok.h2.load)) ?_
  simp only [Act.put]
  refine wpMix_load (by kernel_rfl) 25 (.tmp 3) rfl (g3) (0) rfl (kB.map B).toArray ((fun s => s.ok.h3.load)) ?_
  simp only [Act.put]
  refine wpMix_load (by kernel_rfl) 25 (.tmp 4) rfl (g4) (0) rfl (kC.map B).toArray ((fun s => s.ok.h4.load)) ?_
  simp only [Act.put]
  refine wpMix_c (fun K hK => ?_) hS
  go_simp
  refine (HRt2.out u2a _ hS.f).mono ?_
  rintro e u2aa ⟨rfl, hb'⟩
  refine hK _ _ ?_
  clear hK K
  replace hS : KnC w g2 g3 g4 u2aa := hS.step hb'
  refine ⟨hS, ?_⟩
  refine wpMix_c (fun K hK => ?_) hS
  go_simp
  refine (HkAB.out u2aa).mono ?_
  rintro e u2aaa ⟨rfl, hb'⟩
  refine hK _ _ ?_
  clear hK K
  replace hS : KnC w g2 g3 g4 u2aaa := hS.step hb'
  refine ⟨hS, ?_⟩
  refine wpMix_c (fun K hK => ?_) hS
  go_simp
  refine (HNd2.out u2aaa).mono ?_
  rintro e u2aaaa ⟨rfl, hb'⟩
  refine hK _ _ ?_
  clear hK K
  replace hS : KnC w g2 g3 g4 u2aaaa := hS.step hb'
  refine ⟨hS, ?_⟩
  refine wpMix_v (by kernel_rfl) (.bool false) ((fun s => run_neq26_f (.tmp 57) (.tmp 62) _ r2 r2 rfl rfl rfl hrl2 hrl2 rfl s.W)) ?_
  simp only [Act.put]
  refine wpMix_s (fun K hK => ?_)
  go_simp
  refine hK _ ?_
  clear hK K
  refine wpMix_s (fun K hK => ?_)
  go_simp
  refine hK _ ?_
  clear hK K
  refine wpMix_s (fun K hK => ?_)
  go_simp
  refine hK _ ?_
  clear hK K
  refine wpMix_load (by kernel_rfl) 25 (.tmp 2) rfl (g2) (0) rfl (kA.map B).toArray ((fun s => s.ok.h2.load)) ?_
  simp only [Act.put]
  refine wpMix_c (fun K hK => ?_) hS
  go_simp
  refine (HG1.out u2aaaa _ hS.f).mono ?_
  rintro e u2aaaaa ⟨rfl, hF', hg'⟩
  refine hK _ _ ?_
  clear hK K
  replace hS : KnC w g2 g3 g4 u2aaaaa := hS.grow hF' hg' hlt2 hlt3 hlt4
  refine ⟨hS, ?_⟩
  refine wpMix_c (fun K hK => ?_) hS
  go_simp
  refine (num10_any _ u2aaaaa).mono ?_
  rintro e u2e ⟨rfl, hww⟩
  obtain rfl := hww.symm
  refine hK _ _ ?_
  clear hK K
  refine ⟨hS, ?_⟩
  refine wpMix_s (fun K hK => ?_)
  go_simp
  refine hK _ ?_
  clear hK K
  refine wpMix_s (fun K hK => ?_)
  go_simp
  refine hK _ ?_
  clear hK K
  refine wpMix_s (fun K hK => ?_)
  go_simp
  refine hK _ ?_
  clear hK K
  refine wpMix_s (fun K hK => ?_)
  go_simp
  refine hK _ ?_
  clear hK K
  refine wpMix_load (by kernel_rfl) 25 (.tmp 2) rfl (g2) (0) rfl (kA.map B).toArray ((fun s => s.ok.h2.load)) ?_
  simp only [Act.put]
  refine wpMix_c (fun K hK => ?_) hS
  go_simp
  refine (HG63.out u2aaaaa _ hS.f).mono ?_
  rintro e u2aaaaaa ⟨rfl, hF', hg'⟩
  refine hK _ _ ?_
  clear hK K
  replace hS : KnC w g2 g3 g4 u2aaaaaa := hS.grow hF' hg' hlt2 hlt3 hlt4
  refine ⟨hS, ?_⟩
  refine wpMix_c (fun K hK => ?_) hS
  go_simp
  refine (num10_any _ u2aaaaaa).mono ?_
  rintro e u2e ⟨rfl, hww⟩
  obtain rfl := hww.symm
  refine hK _ _ ?_
  clear hK K
  refine ⟨hS, ?_⟩
  refine wpMix_s (fun K hK => ?_)
  go_simp
  refine hK _ ?_
  clear hK K
  refine wpMix_s (fun K hK => ?_)
  go_simp
  refine hK _ ?_
  clear hK K
  refine wpMix_nil ?_
  intro _
  have hlen2 : (hashF kn2).length = 2 := rfl
  have Hl2 := Lib.hid hlen2
  have hdk : decide (kn2 = kn2) = true := by simp
  have Hdk := Lib.hid hdk
  clear hlen2 hdk
  go_wp2_with (first
    | (go_at_call 48; refine (HBy.out u2aaaaaa _ hS.f).mono ?_; rintro e w30 ⟨v30, rfl, hFr⟩; obtain ⟨A30, c30, rfl, hs30⟩ := hFr.slE; rw [Hbl.out] at hs30 ⊢; replace hS := hS.step (hFr.2.mono (Nat.le_refl _)); clear hFr)
    | (go_at_call 47; refine (HRd.out w30 _ _ (hs30.weak fun _ _ _ => trivial)).mono ?_; rintro e w31 ⟨v31, rfl, hO31, hb31⟩; obtain ⟨g5, rfl, hg5, hF5⟩ := hO31.some'; replace hF5 := hF5.fro; replace hS := hS.step hb31; clear hb31 hs30)
    | ((with_reducible show wpList _ _ _ (⟨some 86, .load _ _, _, _, _, _⟩ :: _) _ _); refine wpList_hload (.tmp 2) (by kernel_rfl) rfl hS.h2 rfl ?_; simp only [Act.put])
    | ((with_reducible show wpList _ _ _ (⟨some 87, .buildSlice _ _ _, _, _, _, _⟩ :: _) _ _); refine wpList_run rfl _ _ (run_litH1_op kA hA32 (.tmp 86) rfl rfl _) ?_; obtain ⟨w32, hw32⟩ : ∃ x, w31.alloc (.cells (hcells [kA]).toArray 25) = x := ⟨_, rfl⟩; have hs32 : Hs w32 (fun _ => True) (some ⟨w31.heap.size, 0, none⟩) 1 1 [kA] := (by rw [← hw32]; exact Hs.lit w31 [kA] (fun h hh => by rw [List.mem_singleton.1 hh]; exact hA32) (by decide) 1 rfl); have hb32 : Below w31.heap.size w31 w32 := (by rw [← hw32]; exact (Below.refl _ _).alloc (Nat.le_refl _) _); rw [hw32]; replace hS := hS.step hb32; replace hF5 := hF5.step hb32; clear hw32 hb32; simp only [Act.put])
    | (go_at_call 55; refine (HFm.out w32 _ hs32).mono ?_; rintro e w33 ⟨v33, rfl, hO33, hb33⟩; obtain rfl := hO33.none'; replace hS := hS.step hb33; replace hF5 := hF5.step hb33; clear hb33 hs32)
    | (go_at_call 52; refine (HSm.out w33 _ _ hF5 hS.f).mono ?_; rw [Hdk.out]; rintro e w34 ⟨rfl, hb34⟩; replace hS := hS.step hb34; clear hb34)
    | (go_at_call 68; refine (HPa.out w34 _ hS.f).mono ?_; rintro e w35 ⟨v35, rfl, ho35, hb35⟩; rw [Hl2.out] at ho35; obtain ⟨A35, c35, rfl, hs35⟩ := owns_slv ho35; replace hS := hS.step hb35; clear hb35 ho35)
    | (go_at_call 41; refine (num10_any _ _).mono ?_; rintro e wn ⟨rfl, hww⟩; obtain rfl := hww.symm))
  go_ret
  exact ⟨rfl, hS.bel⟩
end Go.Proofs.Ytonidnfgneokbaa
/- FrontReads. -/
namespace Go.Proofs.Ytonidnfgneokbaa
open Go Go.RowKit Go.Shelf
attribute [local go_sem] Oper.semAt_some

theorem FrPOpt.some' {W : World} {lo : Nat} {v : Value} {ps : FrV} (h : FrPOpt W lo v (some ps)) : ∃ g, v = fptr g ∧ lo ≤ g ∧ FrPF W lo g ps := by
  rcases h with ⟨h, _⟩ | ⟨g, qs, h1, h2, h3, h4⟩
  · cases h
  · cases h1
    exact ⟨g, h2, h3, h4⟩
theorem FrPOpt.none' {W : World} {lo : Nat} {v : Value} (h : FrPOpt W lo v none) : v = .pointer none := by
  rcases h with ⟨_, h⟩ | ⟨g, qs, h1, h2, h3, h4⟩
  · exact h
  · cases h1
/-- the two fronts, in the case that they are there or not -/
def Both (W : World) (lo : Nat) (f r : Value) (o : Option FrV) : Prop := (o = none ∧ f = .pointer none ∧ r = .pointer none) ∨ ∃ g g' ps, o = some ps ∧ f = fptr g ∧ r = fptr g' ∧ lo ≤ g ∧ lo ≤ g' ∧ FrOF W lo g ps ∧ FrPF W lo g' ps ∧ FrOk ps

theorem Both.grown {W W' : World} {lo gm : Nat} {f r : Value} {o : Option FrV} (h : Both W lo f r o) (hg : W.grownBy W' (some gm)) (hl : gm < lo) : Both W' lo f r o := by
  rcases h with h | ⟨g, g', ps, h1, h2, h3, h4, h5, h6, h7, h8⟩
  · exact .inl h
  · exact .inr ⟨g, g', ps, h1, h2, h3, h4, h5, h6.grown hg hl (by omega), h7.grown hg hl (by omega), h8⟩
theorem Both.hasO {W : World} {lo : Nat} {f r : Value} {o : Option FrV} (h : Both W lo f r o) : HasO W f o := by
  rcases h with ⟨h1, h2, _⟩ | ⟨g, g', ps, h1, h2, h3, h4, h5, h6, h7, h8⟩
  · exact .inl ⟨h1, h2⟩
  · exact .inr ⟨g, ps, h1, h2, h6.fro, h8⟩
theorem Both.hasR {W : World} {lo : Nat} {f r : Value} {o : Option FrV} (h : Both W lo f r o) : HasR W r o := by
  rcases h with ⟨h1, _, h2⟩ | ⟨g, g', ps, h1, h2, h3, h4, h5, h6, h7, h8⟩
  · exact .inl ⟨h1, h2⟩
  · exact .inr ⟨g', ps, h1, h3, h7.frp, h8⟩

set_option maxHeartbeats 8000000 in
set_option maxRecDepth 100000 in
theorem frontReads_any (b : List UInt8) (A : Option Addr) (n c : Nat) (w : World) (h : Sl w (fun _ => True) A n c b) (hn : n ≤ 2097152) : Calls Try.prog 9 #[.slice A n c] w fun e w' => e = .returned (.bool true) ∧ Below w.heap.size w w' := by
  have hlen := h.len
  have hroom := h.room
  have hmx := h.max
  unfold maxLen at hmx
  -- the bytes, with a mark behind them
  obtain ⟨v10, w1, hr10, ho10, hR10⟩ := append_slb (xs := []) (World.ownsRow_nil w w.heap.size 5 1) h (by simp; omega) (Nat.le_refl _)
  rw [List.nil_append] at ho10
  have hb1 : Below w.heap.size w w1 := (Below.refl _ _).grown hR10.gr (Nat.le_refl _) (fun r e => by cases e)
  obtain ⟨v12, w2, hr12, ho12, hR12⟩ := lit_byte ho10 165 (by omega) hb1.size
  have hb2 : Below w.heap.size w w2 := hb1.grown hR12.gr hb1.size (fun r e => (ho10.lt r e).1)
  have hl12 : (b ++ [165]).length = n + 1 := by rw [List.length_append, hlen]; rfl
  rw [hl12] at ho12
  obtain ⟨gm, cm, rfl, hgm⟩ := owns_someB ho12 (by omega)
  obtain ⟨A_, c_, e_, hs12⟩ := owns_slv ho12
  injection e_ with e1 _ e2
  subst e1 e2
  have hgl : gm < w2.heap.size := (ho12.lt gm rfl).2
  have hS12 : Sl w2 (fun b => b < w2.heap.size) (some ⟨gm, 0, none⟩) (n + 1) cm (b ++ [165]) := ⟨(hs12.weak fun b hb _ => hb).bs, hl12, hs12.room, hs12.nil, hs12.max⟩
  have hcm := hs12.room
  have hcx := hs12.max
  unfold maxLen at hcx
  have hSm : Sl w2 (fun b => b < w2.heap.size) (some ⟨gm, 0, none⟩) n cm b := by
    have := hS12.take n (by omega)
    rw [List.take_append_of_le_length (by omega), List.take_of_length_le (by omega)] at this
    exact this
  have hrd := fread_any b (some ⟨gm, 0, none⟩) n cm w2 (hSm.weak fun _ _ _ => trivial) (by omega)
  have hrr := fun W (hb : Below w.heap.size w W) => rfread_any b A n c W (h.step hb) (by omega)
  have hbb : (b == b) = true := by simp
  have hcn : (b ++ [165]).getD n 0 = 165 := by rw [← hlen, List.getD_eq_getElem?_getD, List.getElem?_append_right (Nat.le_refl _), Nat.sub_self]; rfl
  have Hbb := Lib.hid hbb
  have Hr10 := Lib.hid hr10
  have Hr12 := Lib.hid hr12
  have Hlen := Lib.hid hlen
  have H := Lib.hid h
  have Hcn := Lib.hid hcn
  obtain ⟨A1, c1, rfl, -⟩ := owns_slv ho10
  rw [hlen] at Hr10 Hr12
  clear hbb hr10 hr12 ho10 hR10 hR12 hb1 hs12 hcn h
  -- is there a front?
  have key : ∀ (o : Option FrV) (er : Int), (∀ W, Below w.heap.size w W → True) → readF b = (o, er) → (o = none ∧ er = 200 ∨ ∃ ps, o = some ps ∧ er = 0 ∧ FrOk ps ∧ bytesF ps = b) →
      Calls Try.prog 9 #[.slice A n c] w fun e w' => e = .returned (.bool true) ∧ Below w.heap.size w w' := by
    intro o er _ hread hcase
    rw [hread] at hrd hrr
    have Hrd := Lib.hid hrd
    have Hrr := Lib.hid hrr
    clear hrd hrr hread
    rcases hcase with ⟨rfl, rfl⟩ | ⟨ps, rfl, rfl, hok, hbytes⟩
    · go_enter Try.func9, Try.ntmps9
      go_wp2_with (first
        | ((with_reducible show wpList _ _ _ (⟨some 10, .call _, _, _, _, _⟩ :: _) _ _); refine wpList_run rfl (.slice A1 n c1) w1 (run_append_op (.const (.slice none 0 0)) (.tmp 9) 23 rfl _ _ rfl rfl Hr10.out) ?_; simp only [Act.put])
        | ((with_reducible show wpList _ _ _ (⟨some 11, .buildSlice _ _ _, _, _, _, _⟩ :: _) _ _); refine wpList_run rfl (.slice (some ⟨w1.heap.size, 0, none⟩) 1 1) (w1.alloc (.cells #[B 165] 5)) (by kernel_rfl) ?_; simp only [Act.put])
        | ((with_reducible show wpList _ _ _ (⟨some 12, .call _, _, _, _, _⟩ :: _) _ _); refine wpList_run rfl (.slice (some ⟨gm, 0, none⟩) (n + 1) cm) w2 (run_append_op (.tmp 10) (.tmp 11) 23 rfl _ _ rfl rfl Hr12.out) ?_; simp only [Act.put])
        | ((with_reducible show wpList _ _ _ (⟨some 15, .slice _ _ _ _ _, _, _, _, _⟩ :: _) _ _); refine wpList_run0 rfl (.slice (some ⟨gm, 0, none⟩) n cm) (run_slice_hi8 (.tmp 12) (.tmp 14) rfl _ (n + 1) cm n rfl rfl (by omega) _) ?_; simp only [Act.put])
        | (go_at_call 47; refine Hrd.out.mono ?_; rintro e w3 ⟨v3, rfl, hO, hb3⟩; obtain rfl := hO.none'; have hb23 := hb2.trans (hb3.mono hb2.size))
        | (go_at_call 53; refine (Hrr.out w3 hb23).mono ?_; rintro e w4 ⟨v4, rfl, hO4, hb4⟩; obtain rfl := hO4.none'; have hb24 := hb23.trans (hb4.mono hb23.size); replace hSm := (hSm.step hb3).step hb4; replace hS12 := (hS12.step hb3).step hb4; have ho12 := owns_step (owns_step ho12 hb3) hb4; have c52 : w4.cell? ⟨gm, n, none⟩ = some (B 165) := (by obtain ⟨b', o', e, -, -, hat⟩ := hS12.cells (by omega); cases e; have h9 := hat n (by omega); rw [Nat.zero_add, Hcn.out] at h9; exact h9); have Hs := Lib.hid (same10_any b b _ _ n _ n _ w4 (hSm.weak fun _ _ _ => trivial) (H.out.step hb24)); rw [Hbb.out] at Hs)
        | ((with_reducible show wpList _ _ _ (⟨some 48, .slice _ _ _ _ _, _, _, _, _⟩ :: _) _ _); refine wpList_runG (by kernel_rfl) (.slice (some ⟨gm, 0, none⟩) (n + 1) cm) _ (run_slice_hi8 (.tmp 44) (.tmp 47) rfl _ n cm (n + 1) rfl (by rfl) (by omega) _) ?_; simp only [Act.put])
        | (go_at_call 23; refine Hs.out.mono ?_; rintro e w5 ⟨rfl, hww⟩; obtain rfl := hww.symm)
        | (go_at_call 41; refine (num10_any _ _).mono ?_; rintro e wn ⟨rfl, hww⟩; obtain rfl := hww.symm))
      have hBo : Both w4 w2.heap.size (.pointer none) (.pointer none) none := .inl ⟨rfl, rfl, rfl⟩
      have hl2 : gm < w2.heap.size := hgl
      have hge2 := hgm
      clear hSm hS12 Hs
      obtain ⟨lo, hlo⟩ : ∃ x, w2.heap.size = x := ⟨_, rfl⟩
      rw [hlo] at hl2 hBo
      obtain ⟨ys, hys⟩ : ∃ x, (b ++ [165]).map B = x := ⟨_, rfl⟩
      rw [hys] at ho12
      clear hys hlo
      go_loopw [8] (fun v8 wr => ∃ (q : Nat) (ys : List Value), q ≤ n ∧ v8 = .int .i64 (q : Int) ∧ wr.ownsRow w.heap.size 5 1 (.slice (some ⟨gm, 0, none⟩) (n + 1) cm) (n + 1) ys ∧ Both wr lo (.pointer none) (.pointer none) none ∧ Below w.heap.size w wr) (fun v8 _ => n - (intOf v8).toNat)
      case atStart => exact ⟨0, ys, Nat.zero_le _, rfl, ho12, hBo, hb24⟩
      case round =>
        clear ho12 hBo hb24 ys c52
        obtain ⟨q, ys, hq, rfl, ho, hBo, hB⟩ := hrel
        by_cases hqn : q < n
        · have hd : decide ((q : Int) < (n : Int)) = true := by simp; omega
          have hwq : IntKind.i64.wrap ((q : Int) + 1) = (q : Int) + 1 := IntWalk.i64_in _ (by omega)
          obtain ⟨cs, hk1, hs1, ys', hon⟩ := owns_set10 ho (by omega : q < n + 1) (.int .u8 99)
          obtain ⟨c0, hc0⟩ : ∃ u, wr.cell? ⟨gm, q, none⟩ = some u := by
            rw [hk1.cell]
            exact ⟨_, Array.getElem?_eq_getElem hs1⟩
          have f0 := hk1.frozen q
          have hBn : Below w.heap.size w (wr.setCell ⟨gm, q, none⟩ (.int .u8 99)) := hB.setCell (p := ⟨gm, q, none⟩) hge2 _
          have hBo2 := hBo.grown (grown_setCell (grown_of_below (Below.refl _ wr) (some gm)) q (.int .u8 99)) hl2
          have Ho := Lib.hid hon
          have HB := Lib.hid hBn
          have HBo := Lib.hid hBo2
          clear hon hBn hBo2
          go_wp2_with fail
          go_roundw
          case rel => exact ⟨q + 1, ys', by omega, by go_num, Ho.out, HBo.out, HB.out⟩
          case measure => simp [intOf]; omega
        · obtain rfl : q = n := by omega
          have hd : decide ((q : Int) < (q : Int)) = false := by simp
          have hHO := hBo.hasO
          have hHR := hBo.hasR
          clear ho hBo
          go_wp2_with (first
            | (go_at_call 54; refine (tells_any _ _ _ wr hHO hHR).mono ?_; rintro e w6 ⟨rfl, hb6⟩; have hB6 := hB.trans (hb6.mono hB.size))
            | (go_at_call 39; refine (known10_any w6).mono ?_; rintro e w9 ⟨rfl, hb9⟩))
          go_ret
          exact ⟨rfl, hB6.trans (hb9.mono hB6.size)⟩
    · have Hby := Lib.hid hbytes
      go_enter Try.func9, Try.ntmps9
      go_wp2_with (first
        | ((with_reducible show wpList _ _ _ (⟨some 10, .call _, _, _, _, _⟩ :: _) _ _); refine wpList_run rfl (.slice A1 n c1) w1 (run_append_op (.const (.slice none 0 0)) (.tmp 9) 23 rfl _ _ rfl rfl Hr10.out) ?_; simp only [Act.put])
        | ((with_reducible show wpList _ _ _ (⟨some 11, .buildSlice _ _ _, _, _, _, _⟩ :: _) _ _); refine wpList_run rfl (.slice (some ⟨w1.heap.size, 0, none⟩) 1 1) (w1.alloc (.cells #[B 165] 5)) (by kernel_rfl) ?_; simp only [Act.put])
        | ((with_reducible show wpList _ _ _ (⟨some 12, .call _, _, _, _, _⟩ :: _) _ _); refine wpList_run rfl (.slice (some ⟨gm, 0, none⟩) (n + 1) cm) w2 (run_append_op (.tmp 10) (.tmp 11) 23 rfl _ _ rfl rfl Hr12.out) ?_; simp only [Act.put])
        | ((with_reducible show wpList _ _ _ (⟨some 15, .slice _ _ _ _ _, _, _, _, _⟩ :: _) _ _); refine wpList_run0 rfl (.slice (some ⟨gm, 0, none⟩) n cm) (run_slice_hi8 (.tmp 12) (.tmp 14) rfl _ (n + 1) cm n rfl rfl (by omega) _) ?_; simp only [Act.put])
        | (go_at_call 47; refine Hrd.out.mono ?_; rintro e w3 ⟨v3, rfl, hO, hb3⟩; obtain ⟨gf, rfl, hgf, hFF⟩ := hO.some'; have hb23 := hb2.trans (hb3.mono hb2.size))
        | (go_at_call 53; refine (Hrr.out w3 hb23).mono ?_; rintro e w4 ⟨v4, rfl, hO4, hb4⟩; obtain ⟨gr, rfl, hgr, hRR⟩ := hO4.some'; have hb24 := hb23.trans (hb4.mono hb23.size); replace hFF := hFF.step hb4; replace hSm := (hSm.step hb3).step hb4; replace hS12 := (hS12.step hb3).step hb4; have ho12 := owns_step (owns_step ho12 hb3) hb4; have c52 : w4.cell? ⟨gm, n, none⟩ = some (B 165) := (by obtain ⟨b', o', e, -, -, hat⟩ := hS12.cells (by omega); cases e; have h9 := hat n (by omega); rw [Nat.zero_add, Hcn.out] at h9; exact h9); have Hs := Lib.hid (same10_any b b _ _ n _ n _ w4 (hSm.weak fun _ _ _ => trivial) (H.out.step hb24)); rw [Hbb.out] at Hs)
        | ((with_reducible show wpList _ _ _ (⟨some 48, .slice _ _ _ _ _, _, _, _, _⟩ :: _) _ _); refine wpList_runG (by kernel_rfl) (.slice (some ⟨gm, 0, none⟩) (n + 1) cm) _ (run_slice_hi8 (.tmp 44) (.tmp 47) rfl _ n cm (n + 1) rfl (by rfl) (by omega) _) ?_; simp only [Act.put])
        | (go_at_call 23; refine Hs.out.mono ?_; rintro e w5 ⟨rfl, hww⟩; obtain rfl := hww.symm)
        | (go_at_call 41; refine (num10_any _ _).mono ?_; rintro e wn ⟨rfl, hww⟩; obtain rfl := hww.symm))
      have hBo : Both w4 w2.heap.size (fptr gf) (fptr gr) (some ps) := .inr ⟨gf, gr, ps, rfl, rfl, rfl, hgf, Nat.le_trans hb3.size hgr, hFF, hRR.le hb3.size, hok⟩
      have hl2 : gm < w2.heap.size := hgl
      have hge2 := hgm
      clear hSm hS12 Hs
      obtain ⟨lo, hlo⟩ : ∃ x, w2.heap.size = x := ⟨_, rfl⟩
      rw [hlo] at hl2 hBo
      obtain ⟨ys, hys⟩ : ∃ x, (b ++ [165]).map B = x := ⟨_, rfl⟩
      rw [hys] at ho12
      clear hys hlo
      go_loopw [8] (fun v8 wr => ∃ (q : Nat) (ys : List Value), q ≤ n ∧ v8 = .int .i64 (q : Int) ∧ wr.ownsRow w.heap.size 5 1 (.slice (some ⟨gm, 0, none⟩) (n + 1) cm) (n + 1) ys ∧ Both wr lo (fptr gf) (fptr gr) (some ps) ∧ Below w.heap.size w wr) (fun v8 _ => n - (intOf v8).toNat)
      case atStart => exact ⟨0, ys, Nat.zero_le _, rfl, ho12, hBo, hb24⟩
      case round =>
        clear ho12 hBo hb24 ys c52
        obtain ⟨q, ys, hq, rfl, ho, hBo, hB⟩ := hrel
        by_cases hqn : q < n
        · have hd : decide ((q : Int) < (n : Int)) = true := by simp; omega
          have hwq : IntKind.i64.wrap ((q : Int) + 1) = (q : Int) + 1 := IntWalk.i64_in _ (by omega)
          obtain ⟨cs, hk1, hs1, ys', hon⟩ := owns_set10 ho (by omega : q < n + 1) (.int .u8 99)
          obtain ⟨c0, hc0⟩ : ∃ u, wr.cell? ⟨gm, q, none⟩ = some u := by
            rw [hk1.cell]
            exact ⟨_, Array.getElem?_eq_getElem hs1⟩
          have f0 := hk1.frozen q
          have hBn : Below w.heap.size w (wr.setCell ⟨gm, q, none⟩ (.int .u8 99)) := hB.setCell (p := ⟨gm, q, none⟩) hge2 _
          have hBo2 := hBo.grown (grown_setCell (grown_of_below (Below.refl _ wr) (some gm)) q (.int .u8 99)) hl2
          have Ho := Lib.hid hon
          have HB := Lib.hid hBn
          have HBo := Lib.hid hBo2
          clear hon hBn hBo2
          go_wp2_with fail
          go_roundw
          case rel => exact ⟨q + 1, ys', by omega, by go_num, Ho.out, HBo.out, HB.out⟩
          case measure => simp [intOf]; omega
        · obtain rfl : q = n := by omega
          have hd : decide ((q : Int) < (q : Int)) = false := by simp
          have hHO := hBo.hasO
          have hHR := hBo.hasR
          clear ho hBo
          go_wp2_with (first
            | (go_at_call 54; refine (tells_any _ _ _ wr hHO hHR).mono ?_; rintro e w6 ⟨rfl, hb6⟩; have hB6 := hB.trans (hb6.mono hB.size))
            | (go_at_call 48; refine (bytes_o _ _ w6 (hHO.step hb6)).mono ?_; rintro e w7 ⟨v72, rfl, hF7⟩; obtain ⟨A72, c72, rfl, hs72⟩ := hF7.slE; have hB7 := hB6.trans (hF7.2.mono hB6.size); have Hs := Lib.hid (same10_any _ b _ _ _ _ q _ w7 (hs72.weak fun _ _ _ => trivial) (H.out.step hB7)); rw [show bytesO (some ps) = b from Hby.out, Hbb.out, Hlen.out] at Hs; rw [show bytesO (some ps) = b from Hby.out, Hlen.out])
            | (go_at_call 23; refine Hs.out.mono ?_; rintro e w8 ⟨rfl, hww⟩; obtain rfl := hww.symm)
            | (go_at_call 39; refine (known10_any w7).mono ?_; rintro e w9 ⟨rfl, hb9⟩))
          go_ret
          exact ⟨rfl, hB7.trans (hb9.mono hB7.size)⟩
  have hlen := Hlen.out
  rcases readF_two b with ⟨ps, hps⟩ | hps
  · obtain ⟨h1, h2⟩ := readF_some b ps (by rw [hps])
    exact key _ _ (fun _ _ => trivial) hps (.inr ⟨ps, rfl, rfl, h1, h2⟩)
  · exact key _ _ (fun _ _ => trivial) hps (.inl ⟨rfl, rfl⟩)
end Go.Proofs.Ytonidnfgneokbaa
