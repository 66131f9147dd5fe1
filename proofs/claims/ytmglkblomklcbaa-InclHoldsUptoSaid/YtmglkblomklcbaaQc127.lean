/- notarylaw11.three, works. -/
import Derived.Test.YtmglkblomklcbaaQc126
import Derived.Test.YtmglkblomklcbaaQc125
namespace Go.Proofs.Ytmglkblomklcbaa
open Go Go.RowKit

theorem pathA23 : pathA 2 3 = ([(0, 2)], 0) := by decide
theorem splitN2 : splitN 2 = 1 := by decide
theorem splitN3 : splitN 3 = 2 := by decide
theorem rootsP23 (a b c : List UInt8) : rootsP [a, b, c] 2 = [hNode a b] := by
  show rootsL [a, b, c] (pathA 2 3).1 = [hNode a b]
  rw [pathA23]
  show [stretchL [a, b, c] 0 2] = [hNode a b]
  unfold stretchL
  rw [show ((([a, b, c] : List (List UInt8)).drop 0).take (2 - 0)) = [a, b] from rfl, rootL_more [a, b] (by simp), show splitN ([a, b] : List (List UInt8)).length = 1 from splitN2]
  rfl
theorem wayA03 (a b c : List UInt8) : wayA a 0 3 [b, c] = ([((0, 1), a), ((0, 2), hNode a b), ((0, 3), hNode (hNode a b) c)], 0) := by
  rw [wayA_ok a 0 3 [b, c] (by decide) (show (pathA 0 3).1.length = 2 by decide)]
  show (upL a 0 0 3 [b, c], (0 : Int)) = _
  rw [upL_left a 0 0 3 [b, c] (by decide) (by decide), show (0 + splitN (3 - 0)) = 2 by decide, show ([b, c] : List (List UInt8)).dropLast = [b] from rfl, upL_left a 0 0 2 [b] (by decide) (by decide), show (0 + splitN (2 - 0)) = 1 by decide, upL_small a 0 0 1 _ (by decide)]
  rfl
theorem fromA03 (a b c : List UInt8) : fromA a 0 3 [b, c] = (hNode (hNode a b) c, 0) := by
  unfold fromA
  rw [wayA03]
  rfl
theorem takenA03 (a b c : List UInt8) : takenA a 0 3 (hNode (hNode a b) c) [b, c] = 0 := by
  unfold takenA
  rw [fromA03]
  simp

theorem builtPt (n : Int) (l : List UInt8) (h : l.length = 32) : Try.prog.built 47 [(0, .int .i64 n), (1, .agg (l.map B).toArray)] = some (.int .i64 n :: l.map B).toArray := by
  obtain ⟨a0, a1, a2, a3, a4, a5, a6, a7, a8, a9, a10, a11, a12, a13, a14, a15, a16, a17, a18, a19, a20, a21, a22, a23, a24, a25, a26, a27, a28, a29, a30, a31, rfl⟩ := explode32 l h
  kernel_rfl
theorem run_build_pt {ρ : Operand → Value} {o : Oper} (x y : Operand) (n : Int) (l : List UInt8) (hl : l.length = 32) (ho : o.op = .build 47 #[(0, x), (1, y)]) (hx : ρ x = .int .i64 n) (hy : ρ y = .agg (l.map B).toArray) (W : World) :
    (execOp ρ o).run Try.prog W = .ok (.value (.agg (.int .i64 n :: l.map B).toArray)) W :=
  run_build_op ho (by
    have e : (#[(0, x), (1, y)].map fun (i, x) => (i, ρ x)).toList = [(0, .int .i64 n), (1, .agg (l.map B).toArray)] := by simp [hx, hy]
    rw [e]
    exact builtPt n l hl) W

theorem eqnil_all (g : Nat) (W : World) : (binOp .eql 40 (.func (.func 41) #[] #[.pointer (some ⟨g, 0, none⟩)]) .nilFunc).run Try.prog W = .ok (.bool false) W := by kernel_rfl
theorem eqnil_up (g : Nat) (W : World) : (binOp .eql 58 (.func (.func 44) #[] #[.pointer (some ⟨g, 0, none⟩)]) .nilFunc).run Try.prog W = .ok (.bool false) W := by kernel_rfl

set_option maxHeartbeats 1000000 in
set_option maxRecDepth 100000 in
theorem three11_any (w : World) : Calls Try.prog 35 #[] w fun e w' => ∃ g, e = .returned (.slice (some ⟨g, 0, none⟩) 3 3) ∧ Hs w' (fun _ => True) (some ⟨g, 0, none⟩) 3 3 [oneHash 1, oneHash 2, oneHash 3] ∧ Below w.heap.size w w' := by
  obtain ⟨a, ha⟩ : ∃ a, oneHash 1 = a := ⟨_, rfl⟩
  obtain ⟨b, hb⟩ : ∃ b, oneHash 2 = b := ⟨_, rfl⟩
  obtain ⟨c, hc⟩ : ∃ c, oneHash 3 = c := ⟨_, rfl⟩
  have hab : H32 [a, b, c] := by
    intro h hh
    simp only [List.mem_cons, List.not_mem_nil, or_false] at hh
    rcases hh with rfl | rfl | rfl
    · rw [← ha]; exact length_oneHash _
    · rw [← hb]; exact length_oneHash _
    · rw [← hc]; exact length_oneHash _
  rw [ha, hb, hc]
  have Ha := Lib.hid ha
  have Hb := Lib.hid hb
  have Hc := Lib.hid hc
  have Hab := Lib.hid hab
  have hL := Hs.lit w [a, b, c] hab (by simp) 3 rfl
  have hB : Below w.heap.size w (w.alloc (.cells (hcells [a, b, c]).toArray 45)) := (Below.refl _ _).alloc (Nat.le_refl _) _
  have HL := Lib.hid hL
  have HB := Lib.hid hB
  clear ha hb hc hab hL hB
  go_enter Try.func35, Try.ntmps35
  go_wp2_with (first
    | ((with_reducible show wpList _ _ _ (⟨some 1, .build _ _, _, _, _, _⟩ :: _) _ _); refine wpList_run0 rfl (.agg (a.map B).toArray) (by rw [← Ha.out]; kernel_rfl) ?_; simp only [Act.put])
    | ((with_reducible show wpList _ _ _ (⟨some 2, .build _ _, _, _, _, _⟩ :: _) _ _); refine wpList_run0 rfl (.agg (b.map B).toArray) (by rw [← Hb.out]; kernel_rfl) ?_; simp only [Act.put])
    | ((with_reducible show wpList _ _ _ (⟨some 3, .build _ _, _, _, _, _⟩ :: _) _ _); refine wpList_run0 rfl (.agg (c.map B).toArray) (by rw [← Hc.out]; kernel_rfl) ?_; simp only [Act.put])
    | ((with_reducible show wpList _ _ _ (⟨some 4, .buildSlice _ _ _, _, _, _, _⟩ :: _) _ _); refine wpList_run rfl _ _ (run_lit_op [a, b, c] Hab.out (by simp) (by simp) 3 _ rfl (by simp [Act.eval]) rfl _) ?_; simp only [Act.put]))
  go_ret
  exact ⟨_, rfl, HL.out, HB.out⟩

set_option maxHeartbeats 4000000 in
set_option maxRecDepth 100000 in
theorem works11_any (w : World) : Calls Try.prog 9 #[] w fun e w' => e = .returned (.bool true) ∧ Below w.heap.size w w' := by
  have h3 := three11_any w
  have hpr := fun A c W (h : Hs W (fun _ => True) A 3 c [oneHash 1, oneHash 2, oneHash 3]) => iprove_any [oneHash 1, oneHash 2, oneHash 3] A 3 c W 2 h (by decide)
  rw [show (([oneHash 1, oneHash 2, oneHash 3] : List (List UInt8)).length : Int) = 3 from rfl, pathA23, rootsP23] at hpr
  have hal := fun A c W (h : Hs W (fun _ => True) A 3 c [oneHash 1, oneHash 2, oneHash 3]) => iall_any [oneHash 1, oneHash 2, oneHash 3] A 3 c W h (by decide)
  obtain ⟨a, ha⟩ : ∃ a, oneHash 1 = a := ⟨_, rfl⟩
  obtain ⟨b, hb⟩ : ∃ b, oneHash 2 = b := ⟨_, rfl⟩
  obtain ⟨c, hc⟩ : ∃ c, oneHash 3 = c := ⟨_, rfl⟩
  have hal' : a.length = 32 := by rw [← ha]; exact length_oneHash _
  have hbl : b.length = 32 := by rw [← hb]; exact length_oneHash _
  have hcl : c.length = 32 := by rw [← hc]; exact length_oneHash _
  rw [ha, hb, hc] at h3 hpr hal
  have hfr := fromA03 a b c
  have htk := takenA03 a b c
  obtain ⟨u, hu⟩ : ∃ u, hNode a b = u := ⟨_, rfl⟩
  have hul : u.length = 32 := by rw [← hu]; exact length_hNode _ _
  rw [hu] at hfr htk hpr
  obtain ⟨r, hr⟩ : ∃ r, hNode u c = r := ⟨_, rfl⟩
  have hrl : r.length = 32 := by rw [← hr]; exact length_hNode _ _
  rw [hr] at hfr htk
  have hbc : H32 [b, c] := by
    intro h hh
    simp only [List.mem_cons, List.not_mem_nil, or_false] at hh
    rcases hh with rfl | rfl
    · exact hbl
    · exact hcl
  have huu : H32 [u] := by
    intro h hh
    rw [List.mem_singleton.1 hh]
    exact hul
  have hn1 := fun W => hnode_any a b W hal' hbl
  have hn2 := fun W => hnode_any u c W hul hcl
  rw [hu] at hn1
  rw [hr] at hn2
  have hup := fun W => iup_any a 0 1 [] none 0 0 W hal' (by decide) Hs.empty
  have hro := fun A W (h : Hs W (fun _ => True) A 2 2 [b, c]) => iroot_any a 0 3 [b, c] A 2 2 W hal' (by decide) h
  have hck := fun A W (h : Hs W (fun _ => True) A 2 2 [b, c]) => icheck_any a 0 3 r [b, c] A 2 2 W hal' hrl (by decide) h
  have hby : ∀ A cp W, Hs W (fun _ => True) A 1 cp [u] → Calls Try.prog 31 #[.slice A 1 cp] W fun e w' => (∃ A9 c9, e = .returned (.slice A9 32 c9)) ∧ Below W.heap.size W w' := fun A cp W h => (ibytes_any [u] A 1 cp W h (by decide)).mono fun e w' he => by
    obtain ⟨v, rfl, ho, hb⟩ := he
    obtain ⟨A9, c9, hv, -⟩ := owns_sl ho
    rw [show ([u] : List (List UInt8)).flatten.length = 32 by simp [hul]] at hv
    exact ⟨⟨A9, c9, by rw [hv]⟩, hb⟩
  rw [hfr] at hro
  rw [htk] at hck
  have H3 := Lib.hid h3
  have Hpr := Lib.hid hpr
  have Hall := Lib.hid hal
  have Hal := Lib.hid hal'
  have Hbl := Lib.hid hbl
  have Hcl := Lib.hid hcl
  have Hul := Lib.hid hul
  have Hrl := Lib.hid hrl
  have Hbc := Lib.hid hbc
  have Huu := Lib.hid huu
  have Hn1 := Lib.hid hn1
  have Hn2 := Lib.hid hn2
  have Hup := Lib.hid hup
  have Hro := Lib.hid hro
  have Hck := Lib.hid hck
  have Hby := Lib.hid hby
  clear h3 hpr hal hal' hbl hcl hul hrl hbc huu hn1 hn2 hup hro hck hby hfr htk ha hb hc hu hr
  go_enter Try.func9, Try.ntmps9
  go_wp2_with fail
  refine H3.out.mono ?_
  rintro e w1 ⟨g, rfl, hL, hb0⟩
  go_wp2_with fail
  refine (Hall.out _ _ w1 hL).mono ?_
  rintro e w2 ⟨A', c', rfl, -, -, hb2⟩
  replace hL := hL.step hb2
  replace hb0 := hb0.trans (hb2.mono hb0.size)
  clear hb2
  have hld := hL.get rfl 0 (by simp)
  have q1 := eqnil_all w1.heap.size w2
  go_wp2_with (first
    | ((with_reducible show wpList _ _ _ (⟨some 13, .load _ _, _, _, _, _⟩ :: _) _ _); refine wpList_runG (by kernel_rfl) (.agg (a.map B).toArray) _ (run_load_op 45 (.tmp 12) rfl _ _ rfl _ hld) ?_; simp only [Act.put]))
  refine (Hup.out w2).mono ?_
  rintro e w3 ⟨g2, A2, c2, rfl, -, -, -, hb3⟩
  replace hL := hL.step hb3
  replace hb0 := hb0.trans (hb3.mono hb0.size)
  clear hb3 hld
  have q2 := eqnil_up g2 w3
  go_wp2_with fail
  refine (Hpr.out _ _ w3 hL).mono ?_
  rintro e w4 ⟨v, rfl, ho, hb4⟩
  obtain ⟨gp, cp, rfl⟩ := owns_some ho (by simp)
  obtain ⟨A4, c4, hv, hp⟩ := Hs.of_owns ho rfl Huu.out
  cases hv
  replace hp := hp.weak (Y := fun _ => True) fun _ _ _ => trivial
  replace hL := hL.step hb4
  replace hb0 := hb0.trans (hb4.mono hb0.size)
  have hcp := hp.sl.room
  have hcm := hp.sl.max
  unfold maxLen at hcm
  clear ho hb4
  go_wp2_with fail
  refine wp_share_us (fun us a' W' => ∃ g4, a' = { tmps := #[us 0, .slice (some ⟨g, 0, none⟩) 3 3, .slice (some ⟨gp, 0, none⟩) 1 cp, .int .i64 0, .pointer (some ⟨g4, 0, none⟩), .int .i64 0, us 6, us 7, us 8, us 9, us 10, us 11, us 12, us 13, us 14, us 15, us 16, us 17, us 18, us 19, us 20, us 21, us 22, us 23, us 24, us 25, us 26, us 27, us 28, us 29, us 30, us 31, us 32, us 33, us 34, us 35, us 36, us 37, us 38, us 39, us 40, us 41, us 42, us 43, us 44, us 45, us 46, us 47, us 48, us 49, us 50, us 51, us 52, us 53, us 54, us 55, us 56, us 57, us 58, us 59, us 60, us 61, us 62, us 63, us 64, us 65, us 66, us 67, us 68, us 69, us 70, us 71, us 72, us 73, us 74, us 75, us 76, us 77, us 78, us 79, us 80, us 81, us 82, us 83, us 84, us 85, us 86, us 87, us 88, us 89, us 90, us 91, us 92, us 93, us 94, us 95, us 96, us 97, us 98, us 99], defers := [] } ∧ HV W' g4 r ∧ Below w4.heap.size w4 W') ?_ ?_
  · have l0 : ∀ s : InC (fun W => Below w4.heap.size w4 W), (Instr.loadAt 45 (.pointer (some ⟨g, 0, none⟩))).run Try.prog s.W = .ok (.agg (a.map B).toArray) s.W := fun s => (hL.step s.ok).get rfl 0 (by simp)
    have L0 := Lib.hid l0
    clear l0
    have l1 : ∀ s : InC (fun W => Below w4.heap.size w4 W), (Instr.loadAt 45 (.pointer (some ⟨g, 32, none⟩))).run Try.prog s.W = .ok (.agg (b.map B).toArray) s.W := fun s => (hL.step s.ok).get rfl 1 (by simp)
    have L1 := Lib.hid l1
    clear l1
    have l2 : ∀ s : InC (fun W => Below w4.heap.size w4 W), (Instr.loadAt 45 (.pointer (some ⟨g, 64, none⟩))).run Try.prog s.W = .ok (.agg (c.map B).toArray) s.W := fun s => (hL.step s.ok).get rfl 2 (by simp)
    have L2 := Lib.hid l2
    clear l2
    have hS : Below (w4.heap.size) w4 w4.drew := (Below.refl _ _).drew
    refine wp_region_begin (fun W => Below (w4.heap.size) w4 W) (by kernel_rfl) hS fun _ => ?_
    generalize w4.drew = w5 at hS  ⊢
    refine wpAnyH_pre (f := 8) (by kernel_rfl) #[true, true, true, true, true, true, true, true, true, false, false, false, false, false, false, false, false] [(0, true), (1, true), (2, true), (3, true), (4, true), (5, true), (6, true), (7, true), (8, true)] _ _ _ (by kernel_rfl) hS ?_
    simp only [List.map_cons, List.map_nil, Array.getD_eq_getD_getElem?, List.getElem?_toArray, List.getElem?_cons_succ, List.getElem?_cons_zero, Option.getD_some]
    refine wpMix_s (fun K hK => ?_)
    go_simp
    refine hK _ ?_
    clear hK K
    refine wpMix_s (fun K hK => ?_)
    go_simp
    refine hK _ ?_
    clear hK K
    refine wpMix_load (by kernel_rfl) 45 (.tmp 24) rfl (g) (0) rfl (a.map B).toArray (L0.out) ?_
    simp only [Act.put]
    refine wpMix_s (fun K hK => ?_)
    go_simp
    refine hK _ ?_
    clear hK K
    refine wpMix_s (fun K hK => ?_)
    go_simp
    refine hK _ ?_
    clear hK K
    refine wpMix_load (by kernel_rfl) 45 (.tmp 27) rfl (g) (32) rfl (b.map B).toArray (L1.out) ?_
    simp only [Act.put]
    refine wpMix_s (fun K hK => ?_)
    go_simp
    refine hK _ ?_
    clear hK K
    refine wpMix_s (fun K hK => ?_)
    go_simp
    refine hK _ ?_
    clear hK K
    refine wpMix_load (by kernel_rfl) 45 (.tmp 30) rfl (g) (64) rfl (c.map B).toArray (L2.out) ?_
    simp only [Act.put]
    refine wpMix_nil ?_
    intro _
    refine wpAnyH_fork (f := 7) (i := 9) (j := 14) (by kernel_rfl) hS ?_ ?_
    · simp only [Array.getD_eq_getD_getElem?, List.getElem?_toArray, List.getElem?_cons_succ, List.getElem?_cons_zero, Option.getD_some]
      have hA0 : Below w5.heap.size w5 (w5.alloc (.cells (hcells [b, c]).toArray 45)) := (Below.refl _ _).alloc (Nat.le_refl _) _
      have hl2 := Hs.lit w5 [b, c] Hbc.out (by simp) 2 rfl
      generalize hge : w5.heap.size = gl at hl2
      refine wpMix_run (by kernel_rfl) _ _ (run_lit_op [b, c] Hbc.out (by simp) (by simp) 2 _ rfl (by simp [Act.eval]) rfl _) (hS.trans (hA0.mono hS.size)) ?_
      simp only [Act.put]
      replace hS := hS.trans (hA0.mono hS.size)
      try replace k4 := k4.step hA0
      rw [hge]
      first
        | generalize w5.alloc (.cells (hcells [b, c]).toArray 45) = w5l at hl2 hS k4 ⊢
        | generalize w5.alloc (.cells (hcells [b, c]).toArray 45) = w5l at hl2 hS ⊢
      clear hA0 hge
      refine wpMix_nil ?_
      intro _
      show wpAnyH _ _ _ _ _ _ #[true, true, true, true, true, true, true, true, true, true, false, false, false, false, false, false, false] _ _
      refine wpAnyH_fork (f := 6) (i := 10) (j := 14) (by kernel_rfl) hS ?_ ?_
      · simp only [Array.getD_eq_getD_getElem?, List.getElem?_toArray, List.getElem?_cons_succ, List.getElem?_cons_zero, Option.getD_some]
        refine wpMix_c (fun K hK => ?_) hS
        go_simp
        refine (Hro.out _ w5l hl2).mono ?_
        rintro e w5_1 ⟨rfl, hb'⟩
        refine hK _ _ ?_
        clear hK K
        replace hS := hS.trans (hb'.mono hS.size)
        refine ⟨hS, ?_⟩
        try replace k4 := k4.step hb'
        clear hb' hl2
        refine wpMix_nil ?_
        intro _
        show wpAnyH _ _ _ _ _ _ #[true, true, true, true, true, true, true, true, true, true, true, false, false, false, false, false, false] _ _
        refine wpAnyH_pre (f := 0) (by kernel_rfl) #[true, true, true, true, true, true, true, true, true, true, true, true, true, true, true, true, true] [(11, true), (12, true), (13, true), (14, false), (15, false), (16, true)] _ _ _ (by kernel_rfl) hS ?_
        simp only [List.map_cons, List.map_nil, Array.getD_eq_getD_getElem?, List.getElem?_toArray, List.getElem?_cons_succ, List.getElem?_cons_zero, Option.getD_some]
        refine wpMix_s (fun K hK => ?_)
        go_simp
        refine hK _ ?_
        clear hK K
        refine wpMix_s (fun K hK => ?_)
        go_simp
        refine hK _ ?_
        clear hK K
        refine wpMix_s (fun K hK => ?_)
        go_simp
        refine hK _ ?_
        clear hK K
        have k4g := hS.size
        refine wpMix_hnew rfl rfl (fun _ hb => hS.trans (hb.mono hS.size)) ?_
        intro w5_2 k4 hb'
        simp only [Act.put]
        replace hS := hS.trans (hb'.mono hS.size)
        try replace hl2 := hl2.step hb'
        clear hb'
        refine wpMix_hset (.tmp 4) (.tmp 34) rfl rfl k4 rfl rfl Hrl.out (fun _ hb => hS.trans (hb.mono k4g)) ?_
        intro w5_3 k4s hb' hoth
        simp only [Act.put]
        replace hS := hS.trans (hb'.mono k4g)
        clear hb' hoth
        refine wpMix_s (fun K hK => ?_)
        go_simp
        refine hK _ ?_
        clear hK K
        refine wpMix_nil ?_
        intro _
        refine wpAnyH_end (by kernel_rfl) ?_
        refine ⟨_, ?_, k4s, hS⟩
        kernel_rfl
      · simp only [Array.getD_eq_getD_getElem?, List.getElem?_toArray, List.getElem?_cons_succ, List.getElem?_cons_zero, Option.getD_some]
        have k4g := hS.size
        refine wpMix_hnew rfl rfl (fun _ hb => hS.trans (hb.mono hS.size)) ?_
        intro w5_4 k4 hb'
        simp only [Act.put]
        replace hS := hS.trans (hb'.mono hS.size)
        try replace hl2 := hl2.step hb'
        clear hb'
        refine wpMix_nil ?_
        intro _
        show wpAnyH _ _ _ _ _ _ #[true, true, true, true, true, true, true, true, true, true, false, false, false, false, true, false, false] _ _
        refine wpAnyH_pre (f := 0) (by kernel_rfl) #[true, true, true, true, true, true, true, true, true, true, true, true, true, true, true, true, true] [(10, false), (11, true), (12, true), (13, true), (15, false), (16, true)] _ _ _ (by kernel_rfl) hS ?_
        simp only [List.map_cons, List.map_nil, Array.getD_eq_getD_getElem?, List.getElem?_toArray, List.getElem?_cons_succ, List.getElem?_cons_zero, Option.getD_some]
        refine wpMix_c (fun K hK => ?_) hS
        go_simp
        refine (Hro.out _ w5_4 hl2).mono ?_
        rintro e w5_5 ⟨rfl, hb'⟩
        refine hK _ _ ?_
        clear hK K
        replace hS := hS.trans (hb'.mono hS.size)
        refine ⟨hS, ?_⟩
        try replace k4 := k4.step hb'
        clear hb' hl2
        refine wpMix_s (fun K hK => ?_)
        go_simp
        refine hK _ ?_
        clear hK K
        refine wpMix_s (fun K hK => ?_)
        go_simp
        refine hK _ ?_
        clear hK K
        refine wpMix_s (fun K hK => ?_)
        go_simp
        refine hK _ ?_
        clear hK K
        refine wpMix_hset (.tmp 4) (.tmp 34) rfl rfl k4 rfl rfl Hrl.out (fun _ hb => hS.trans (hb.mono k4g)) ?_
        intro w5_6 k4s hb' hoth
        simp only [Act.put]
        replace hS := hS.trans (hb'.mono k4g)
        clear hb' hoth
        refine wpMix_s (fun K hK => ?_)
        go_simp
        refine hK _ ?_
        clear hK K
        refine wpMix_nil ?_
        intro _
        refine wpAnyH_end (by kernel_rfl) ?_
        refine ⟨_, ?_, k4s, hS⟩
        kernel_rfl
    · simp only [Array.getD_eq_getD_getElem?, List.getElem?_toArray, List.getElem?_cons_succ, List.getElem?_cons_zero, Option.getD_some]
      have k4g := hS.size
      refine wpMix_hnew rfl rfl (fun _ hb => hS.trans (hb.mono hS.size)) ?_
      intro w5_7 k4 hb'
      simp only [Act.put]
      replace hS := hS.trans (hb'.mono hS.size)
      try replace hl2 := hl2.step hb'
      clear hb'
      refine wpMix_nil ?_
      intro _
      show wpAnyH _ _ _ _ _ _ #[true, true, true, true, true, true, true, true, true, false, false, false, false, false, true, false, false] _ _
      refine wpAnyH_pre (f := 0) (by kernel_rfl) #[true, true, true, true, true, true, true, true, true, true, true, true, true, true, true, true, true] [(9, false), (10, false), (11, true), (12, true), (13, true), (15, false), (16, true)] _ _ _ (by kernel_rfl) hS ?_
      simp only [List.map_cons, List.map_nil, Array.getD_eq_getD_getElem?, List.getElem?_toArray, List.getElem?_cons_succ, List.getElem?_cons_zero, Option.getD_some]
      have hA0 : Below w5_7.heap.size w5_7 (w5_7.alloc (.cells (hcells [b, c]).toArray 45)) := (Below.refl _ _).alloc (Nat.le_refl _) _
      have hl2 := Hs.lit w5_7 [b, c] Hbc.out (by simp) 2 rfl
      generalize hge : w5_7.heap.size = gl at hl2
      refine wpMix_run (by kernel_rfl) _ _ (run_lit_op [b, c] Hbc.out (by simp) (by simp) 2 _ rfl (by simp [Act.eval]) rfl _) (hS.trans (hA0.mono hS.size)) ?_
      simp only [Act.put]
      replace hS := hS.trans (hA0.mono hS.size)
      try replace k4 := k4.step hA0
      rw [hge]
      first
        | generalize w5_7.alloc (.cells (hcells [b, c]).toArray 45) = w5_7l at hl2 hS k4 ⊢
        | generalize w5_7.alloc (.cells (hcells [b, c]).toArray 45) = w5_7l at hl2 hS ⊢
      clear hA0 hge
      refine wpMix_c (fun K hK => ?_) hS
      go_simp
      refine (Hro.out _ w5_7l hl2).mono ?_
      rintro e w5_8 ⟨rfl, hb'⟩
      refine hK _ _ ?_
      clear hK K
      replace hS := hS.trans (hb'.mono hS.size)
      refine ⟨hS, ?_⟩
      try replace k4 := k4.step hb'
      clear hb' hl2
      refine wpMix_s (fun K hK => ?_)
      go_simp
      refine hK _ ?_
      clear hK K
      refine wpMix_s (fun K hK => ?_)
      go_simp
      refine hK _ ?_
      clear hK K
      refine wpMix_s (fun K hK => ?_)
      go_simp
      refine hK _ ?_
      clear hK K
      refine wpMix_hset (.tmp 4) (.tmp 34) rfl rfl k4 rfl rfl Hrl.out (fun _ hb => hS.trans (hb.mono k4g)) ?_
      intro w5_9 k4s hb' hoth
      simp only [Act.put]
      replace hS := hS.trans (hb'.mono k4g)
      clear hb' hoth
      refine wpMix_s (fun K hK => ?_)
      go_simp
      refine hK _ ?_
      clear hK K
      refine wpMix_nil ?_
      intro _
      refine wpAnyH_end (by kernel_rfl) ?_
      refine ⟨_, ?_, k4s, hS⟩
      kernel_rfl
  rintro us a' w6 ⟨g4, rfl, k4, hb6⟩
  replace hp := hp.step hb6
  replace hL := hL.step hb6
  replace hb0 := hb0.trans (hb6.mono hb0.size)
  clear hb6
  go_wp2_with fail
  have l0 : ∀ s : InC (fun W => Below w6.heap.size w6 W), (Instr.loadAt 45 (.pointer (some ⟨g, 0, none⟩))).run Try.prog s.W = .ok (.agg (a.map B).toArray) s.W := fun s => (hL.step s.ok).get rfl 0 (by simp)
  have L0 := Lib.hid l0
  clear l0
  have l1 : ∀ s : InC (fun W => Below w6.heap.size w6 W), (Instr.loadAt 45 (.pointer (some ⟨g, 32, none⟩))).run Try.prog s.W = .ok (.agg (b.map B).toArray) s.W := fun s => (hL.step s.ok).get rfl 1 (by simp)
  have L1 := Lib.hid l1
  clear l1
  have l2 : ∀ s : InC (fun W => Below w6.heap.size w6 W), (Instr.loadAt 45 (.pointer (some ⟨g, 64, none⟩))).run Try.prog s.W = .ok (.agg (c.map B).toArray) s.W := fun s => (hL.step s.ok).get rfl 2 (by simp)
  have L2 := Lib.hid l2
  clear l2
  have l4 : ∀ s : InC (fun W => Below w6.heap.size w6 W), (Instr.loadAt 45 (.pointer (some ⟨g4, 0, none⟩))).run Try.prog s.W = .ok (.agg (r.map B).toArray) s.W := fun s => (k4.step s.ok).load
  have L4 := Lib.hid l4
  clear l4
  have l5 : ∀ s : InC (fun W => Below w6.heap.size w6 W), (Instr.loadAt 45 (.pointer (some ⟨gp, 0, none⟩))).run Try.prog s.W = .ok (.agg (u.map B).toArray) s.W := fun s => (hp.step s.ok).get rfl 0 (by simp)
  have L5 := Lib.hid l5
  clear l5
  have hS : Below w6.heap.size w6 w6.drew := (Below.refl _ _).drew
  refine wp_region_mix (fun W => Below w6.heap.size w6 W) [(0, true), (1, false), (2, true), (3, true), (4, true), (5, true), (6, true), (7, true), (8, true), (9, true), (10, true), (11, true), (12, true), (13, true), (14, true), (15, true), (16, true), (17, true), (18, false), (19, true), (20, true), (21, true), (22, true), (23, false), (24, true), (25, true), (26, true), (27, true), (28, true), (29, true), (30, true), (31, true), (32, true), (33, true), (35, true), (36, true), (37, true), (34, false), (38, false), (39, true), (40, true), (41, true), (42, true), (43, true), (44, true), (45, true), (46, true), (47, true), (48, true), (49, true), (50, true), (51, true), (52, true), (53, false), (54, false), (55, false), (56, true), (57, true), (58, true), (59, true), (60, false), (61, true), (62, true), (63, true), (64, true)] (by kernel_rfl) (by kernel_rfl) hS fun _ => ?_
  simp only [List.map_cons, List.map_nil, Array.getD_eq_getD_getElem?, List.getElem?_toArray]
  generalize w6.drew = w7 at hS ⊢
  refine wpMix_s (fun K hK => ?_)
  go_simp
  refine hK _ ?_
  clear hK K
  refine wpMix_c (fun K hK => ?_) hS
  go_simp
  refine (num11_any _ w7).mono ?_
  rintro e _ ⟨rfl, rfl⟩
  refine hK _ _ ?_
  clear hK K
  refine ⟨hS, ?_⟩
  refine wpMix_s (fun K hK => ?_)
  go_simp
  refine hK _ ?_
  clear hK K
  refine wpMix_s (fun K hK => ?_)
  go_simp
  refine hK _ ?_
  clear hK K
  refine wpMix_s (fun K hK => ?_)
  go_simp
  refine hK _ ?_
  clear hK K
  refine wpMix_s (fun K hK => ?_)
  go_simp
  refine hK _ ?_
  clear hK K
  refine wpMix_s (fun K hK => ?_)
  go_simp
  refine hK _ ?_
  clear hK K
  refine wpMix_s (fun K hK => ?_)
  go_simp
  refine hK _ ?_
  clear hK K
  refine wpMix_s (fun K hK => ?_)
  go_simp
  refine hK _ ?_
  clear hK K
  refine wpMix_s (fun K hK => ?_)
  go_simp
  refine hK _ ?_
  clear hK K
  refine wpMix_s (fun K hK => ?_)
  go_simp
  refine hK _ ?_
  clear hK K
  refine wpMix_load (by kernel_rfl) 45 (.tmp 46) rfl (gp) (0) rfl (u.map B).toArray (L5.out) ?_
  simp only [Act.put]
  refine wpMix_s (fun K hK => ?_)
  go_simp
  refine hK _ ?_
  clear hK K
  refine wpMix_s (fun K hK => ?_)
  go_simp
  refine hK _ ?_
  clear hK K
  refine wpMix_load (by kernel_rfl) 45 (.tmp 49) rfl (g) (0) rfl (a.map B).toArray (L0.out) ?_
  simp only [Act.put]
  refine wpMix_s (fun K hK => ?_)
  go_simp
  refine hK _ ?_
  clear hK K
  refine wpMix_s (fun K hK => ?_)
  go_simp
  refine hK _ ?_
  clear hK K
  refine wpMix_load (by kernel_rfl) 45 (.tmp 52) rfl (g) (32) rfl (b.map B).toArray (L1.out) ?_
  simp only [Act.put]
  refine wpMix_c (fun K hK => ?_) hS
  go_simp
  refine (Hn1.out w7).mono ?_
  rintro e w7_1 ⟨rfl, hb'⟩
  refine hK _ _ ?_
  clear hK K
  replace hS := hS.trans (hb'.mono hS.size)
  refine ⟨hS, ?_⟩
  clear hb'
  refine wpMix_v (by kernel_rfl) (.bool true) (fun s => run_eql26_t (.tmp 47) (.tmp 54) _ u u rfl rfl rfl Hul.out Hul.out rfl s.W) ?_
  simp only [Act.put]
  refine wpMix_s (fun K hK => ?_)
  go_simp
  refine hK _ ?_
  clear hK K
  refine wpMix_s (fun K hK => ?_)
  go_simp
  refine hK _ ?_
  clear hK K
  refine wpMix_s (fun K hK => ?_)
  go_simp
  refine hK _ ?_
  clear hK K
  refine wpMix_c (fun K hK => ?_) hS
  go_simp
  refine (num11_any _ w7_1).mono ?_
  rintro e _ ⟨rfl, rfl⟩
  refine hK _ _ ?_
  clear hK K
  refine ⟨hS, ?_⟩
  refine wpMix_s (fun K hK => ?_)
  go_simp
  refine hK _ ?_
  clear hK K
  refine wpMix_s (fun K hK => ?_)
  go_simp
  refine hK _ ?_
  clear hK K
  refine wpMix_s (fun K hK => ?_)
  go_simp
  refine hK _ ?_
  clear hK K
  refine wpMix_load (by kernel_rfl) 45 (.tmp 4) rfl (g4) (0) rfl (r.map B).toArray (L4.out) ?_
  simp only [Act.put]
  refine wpMix_s (fun K hK => ?_)
  go_simp
  refine hK _ ?_
  clear hK K
  refine wpMix_s (fun K hK => ?_)
  go_simp
  refine hK _ ?_
  clear hK K
  refine wpMix_load (by kernel_rfl) 45 (.tmp 65) rfl (g) (0) rfl (a.map B).toArray (L0.out) ?_
  simp only [Act.put]
  refine wpMix_s (fun K hK => ?_)
  go_simp
  refine hK _ ?_
  clear hK K
  refine wpMix_s (fun K hK => ?_)
  go_simp
  refine hK _ ?_
  clear hK K
  refine wpMix_load (by kernel_rfl) 45 (.tmp 68) rfl (g) (32) rfl (b.map B).toArray (L1.out) ?_
  simp only [Act.put]
  refine wpMix_s (fun K hK => ?_)
  go_simp
  refine hK _ ?_
  clear hK K
  refine wpMix_s (fun K hK => ?_)
  go_simp
  refine hK _ ?_
  clear hK K
  refine wpMix_load (by kernel_rfl) 45 (.tmp 72) rfl (g) (64) rfl (c.map B).toArray (L2.out) ?_
  simp only [Act.put]
  refine wpMix_c (fun K hK => ?_) hS
  go_simp
  refine (Hn1.out w7_1).mono ?_
  rintro e w7_2 ⟨rfl, hb'⟩
  refine hK _ _ ?_
  clear hK K
  replace hS := hS.trans (hb'.mono hS.size)
  refine ⟨hS, ?_⟩
  clear hb'
  refine wpMix_c (fun K hK => ?_) hS
  go_simp
  refine (Hn2.out w7_2).mono ?_
  rintro e w7_3 ⟨rfl, hb'⟩
  refine hK _ _ ?_
  clear hK K
  replace hS := hS.trans (hb'.mono hS.size)
  refine ⟨hS, ?_⟩
  clear hb'
  refine wpMix_v (by kernel_rfl) (.bool true) (fun s => run_eql26_t (.tmp 63) (.tmp 74) _ r r rfl rfl rfl Hrl.out Hrl.out rfl s.W) ?_
  simp only [Act.put]
  refine wpMix_s (fun K hK => ?_)
  go_simp
  refine hK _ ?_
  clear hK K
  refine wpMix_s (fun K hK => ?_)
  go_simp
  refine hK _ ?_
  clear hK K
  refine wpMix_s (fun K hK => ?_)
  go_simp
  refine hK _ ?_
  clear hK K
  refine wpMix_s (fun K hK => ?_)
  go_simp
  refine hK _ ?_
  clear hK K
  refine wpMix_load (by kernel_rfl) 45 (.tmp 79) rfl (g) (0) rfl (a.map B).toArray (L0.out) ?_
  simp only [Act.put]
  refine wpMix_load (by kernel_rfl) 45 (.tmp 4) rfl (g4) (0) rfl (r.map B).toArray (L4.out) ?_
  simp only [Act.put]
  refine wpMix_v (by kernel_rfl) (.agg (.int .i64 3 :: r.map B).toArray) (fun s => run_build_pt (.const (.int .i64 3)) (.tmp 81) 3 r Hrl.out rfl rfl rfl s.W) ?_
  simp only [Act.put]
  refine wpMix_s (fun K hK => ?_)
  go_simp
  refine hK _ ?_
  clear hK K
  refine wpMix_s (fun K hK => ?_)
  go_simp
  refine hK _ ?_
  clear hK K
  refine wpMix_load (by kernel_rfl) 45 (.tmp 84) rfl (g) (32) rfl (b.map B).toArray (L1.out) ?_
  simp only [Act.put]
  refine wpMix_s (fun K hK => ?_)
  go_simp
  refine hK _ ?_
  clear hK K
  refine wpMix_s (fun K hK => ?_)
  go_simp
  refine hK _ ?_
  clear hK K
  refine wpMix_load (by kernel_rfl) 45 (.tmp 87) rfl (g) (64) rfl (c.map B).toArray (L2.out) ?_
  simp only [Act.put]
  have hA0 : Below w7_3.heap.size w7_3 (w7_3.alloc (.cells (hcells [b, c]).toArray 45)) := (Below.refl _ _).alloc (Nat.le_refl _) _
  have hl2 := Hs.lit w7_3 [b, c] Hbc.out (by simp) 2 rfl
  generalize hge : w7_3.heap.size = gl at hl2
  refine wpMix_run (by kernel_rfl) _ _ (run_lit_op [b, c] Hbc.out (by simp) (by simp) 2 _ rfl (by simp [Act.eval]) rfl _) (hS.trans (hA0.mono hS.size)) ?_
  simp only [Act.put]
  replace hS := hS.trans (hA0.mono hS.size)
  try replace k4 := k4.step hA0
  rw [hge]
  first
    | generalize w7_3.alloc (.cells (hcells [b, c]).toArray 45) = w7_3l at hl2 hS k4 ⊢
    | generalize w7_3.alloc (.cells (hcells [b, c]).toArray 45) = w7_3l at hl2 hS ⊢
  clear hA0 hge
  refine wpMix_c (fun K hK => ?_) hS
  go_simp
  refine (Hck.out _ w7_3l hl2).mono ?_
  rintro e w7_4 ⟨rfl, hb'⟩
  refine hK _ _ ?_
  clear hK K
  replace hS := hS.trans (hb'.mono hS.size)
  refine ⟨hS, ?_⟩
  clear hb' hl2
  refine wpMix_c (fun K hK => ?_) hS
  go_simp
  refine (num11_any _ w7_4).mono ?_
  rintro e _ ⟨rfl, rfl⟩
  refine hK _ _ ?_
  clear hK K
  refine ⟨hS, ?_⟩
  refine wpMix_s (fun K hK => ?_)
  go_simp
  refine hK _ ?_
  clear hK K
  refine wpMix_s (fun K hK => ?_)
  go_simp
  refine hK _ ?_
  clear hK K
  refine wpMix_s (fun K hK => ?_)
  go_simp
  refine hK _ ?_
  clear hK K
  refine wpMix_s (fun K hK => ?_)
  go_simp
  refine hK _ ?_
  clear hK K
  refine wpMix_c (fun K hK => ?_) hS
  go_simp
  refine (Hby.out _ _ w7_4 (hp.step hS)).mono ?_
  rintro e w7_5 ⟨⟨A9, c9, rfl⟩, hb'⟩
  refine hK _ _ ?_
  clear hK K
  replace hS := hS.trans (hb'.mono hS.size)
  refine ⟨hS, ?_⟩
  clear hb'
  refine wpMix_s (fun K hK => ?_)
  go_simp
  refine hK _ ?_
  clear hK K
  refine wpMix_s (fun K hK => ?_)
  go_simp
  refine hK _ ?_
  clear hK K
  refine wpMix_s (fun K hK => ?_)
  go_simp
  refine hK _ ?_
  clear hK K
  refine wpMix_s (fun K hK => ?_)
  go_simp
  refine hK _ ?_
  clear hK K
  refine wpMix_nil ?_
  intro _
  go_wp2_with fail
  go_ret
  exact ⟨rfl, hb0.trans (hS.mono hb0.size)⟩
end Go.Proofs.Ytmglkblomklcbaa
