/- notarylaw11.three, works. -/
import Derived.Test.YtmglkblomklcbaaQc115
import Derived.Test.YtmglkblomklcbaaQc123
import Derived.Test.YtmglkblomklcbaaQc125
import Derived.Test.YtmglkblomklcbaaQc122
namespace Go.Proofs.Ytmglkblomklcbaa
open Go Go.RowKit

theorem pathA23 : pathA 2 3 = ([(0, 2)], 0) := by decide
theorem splitN2 : splitN 2 = 1 := by decide
theorem splitN3 : splitN 3 = 2 := by decide
theorem rootsP23 (a b c : List UInt8) : rootsP [a, b, c] 2 = [hNode a b] := by
  show rootsL [a, b, c] (pathA 2 3).1 = [hNode a b]
  rw [pathA23]
  show [stretchL [a, b, c] 0 2] = [hNode a b]
  unfold stretchL
  rw [show ((([a, b, c] : List (List UInt8)).drop 0).take (2 - 0)) = [a, b] from rfl, rootL_more [a, b] (by simp), show splitN ([a, b] : List (List UInt8)).length = 1 from splitN2]
  rfl
theorem wayA03 (a b c : List UInt8) : wayA a 0 3 [b, c] = ([((0, 1), a), ((0, 2), hNode a b), ((0, 3), hNode (hNode a b) c)], 0) := by
  rw [wayA_ok a 0 3 [b, c] (by decide) (show (pathA 0 3).1.length = 2 by decide)]
  show (upL a 0 0 3 [b, c], (0 : Int)) = _
  rw [upL_left a 0 0 3 [b, c] (by decide) (by decide), show (0 + splitN (3 - 0)) = 2 by decide, show ([b, c] : List (List UInt8)).dropLast = [b] from rfl, upL_left a 0 0 2 [b] (by decide) (by decide), show (0 + splitN (2 - 0)) = 1 by decide, upL_small a 0 0 1 _ (by decide)]
  rfl
theorem fromA03 (a b c : List UInt8) : fromA a 0 3 [b, c] = (hNode (hNode a b) c, 0) := by
  unfold fromA
  rw [wayA03]
  rfl
theorem takenA03 (a b c : List UInt8) : takenA a 0 3 (hNode (hNode a b) c) [b, c] = 0 := by
  unfold takenA
  rw [fromA03]
  simp

theorem builtPt (n : Int) (l : List UInt8) (h : l.length = 32) : Try.prog.built 47 [(0, .int .i64 n), (1, .agg (l.map B).toArray)] = some (.int .i64 n :: l.map B).toArray := by
  obtain ⟨a0, a1, a2, a3, a4, a5, a6, a7, a8, a9, a10, a11, a12, a13, a14, a15, a16, a17, a18, a19, a20, a21, a22, a23, a24, a25, a26, a27, a28, a29, a30, a31, rfl⟩ := explode32 l h
  kernel_rfl
theorem run_build_pt {ρ : Operand → Value} {o : Oper} (x y : Operand) (n : Int) (l : List UInt8) (hl : l.length = 32) (ho : o.op = .build 47 #[(0, x), (1, y)]) (hx : ρ x = .int .i64 n) (hy : ρ y = .agg (l.map B).toArray) (W : World) :
    (execOp ρ o).run Try.prog W = .ok (.value (.agg (.int .i64 n :: l.map B).toArray)) W :=
  run_build_op ho (by
    have e : (#[(0, x), (1, y)].map fun (i, x) => (i, ρ x)).toList = [(0, .int .i64 n), (1, .agg (l.map B).toArray)] := by simp [hx, hy]
    rw [e]
    exact builtPt n l hl) W

theorem eqnil_all (g : Nat) (W : World) : (binOp .eql 40 (.func (.func 41) #[] #[.pointer (some ⟨g, 0, none⟩)]) .nilFunc).run Try.prog W = .ok (.bool false) W := by kernel_rfl
theorem eqnil_up (g : Nat) (W : World) : (binOp .eql 58 (.func (.func 44) #[] #[.pointer (some ⟨g, 0, none⟩)]) .nilFunc).run Try.prog W = .ok (.bool false) W := by kernel_rfl

set_option maxHeartbeats 1000000 in
set_option maxRecDepth 100000 in
theorem three11_any (w : World) : Calls Try.prog 35 #[] w fun e w' => ∃ g, e = .returned (.slice (some ⟨g, 0, none⟩) 3 3) ∧ Hs w' (fun _ => True) (some ⟨g, 0, none⟩) 3 3 [oneHash 1, oneHash 2, oneHash 3] ∧ Below w.heap.size w w' := by
  obtain ⟨a, ha⟩ : ∃ a, oneHash 1 = a := ⟨_, rfl⟩
  obtain ⟨b, hb⟩ : ∃ b, oneHash 2 = b := ⟨_, rfl⟩
  obtain ⟨c, hc⟩ : ∃ c, oneHash 3 = c := ⟨_, rfl⟩
  have hab : H32 [a, b, c] := by
    intro h hh
    simp only [List.mem_cons, List.not_mem_nil, or_false] at hh
    rcases hh with rfl | rfl | rfl
    · rw [← ha]; exact length_oneHash _
    · rw [← hb]; exact length_oneHash _
    · rw [← hc]; exact length_oneHash _
  rw [ha, hb, hc]
  have Ha := Lib.hid ha
  have Hb := Lib.hid hb
  have Hc := Lib.hid hc
  have Hab := Lib.hid hab
  have hL := Hs.lit w [a, b, c] hab (by simp) 3 rfl
  have hB : Below w.heap.size w (w.alloc (.cells (hcells [a, b, c]).toArray 45)) := (Below.refl _ _).alloc (Nat.le_refl _) _
  have HL := Lib.hid hL
  have HB := Lib.hid hB
  clear ha hb hc hab hL hB
  go_enter Try.func35, Try.ntmps35
  go_wp2_with (first
    | ((with_reducible show wpList _ _ _ (⟨some 1, .build _ _, _, _, _, _⟩ :: _) _ _); refine wpList_run0 rfl (.agg (a.map B).toArray) (by rw [← Ha.out]; kernel_rfl) ?_; simp only [Act.put])
    | ((with_reducible show wpList _ _ _ (⟨some 2, .build _ _, _, _, _, _⟩ :: _) _ _); refine wpList_run0 rfl (.agg (b.map B).toArray) (by rw [← Hb.out]; kernel_rfl) ?_; simp only [Act.put])
    | ((with_reducible show wpList _ _ _ (⟨some 3, .build _ _, _, _, _, _⟩ :: _) _ _); refine wpList_run0 rfl (.agg (c.map B).toArray) (by rw [← Hc.out]; kernel_rfl) ?_; simp only [Act.put])
    | ((with_reducible show wpList _ _ _ (⟨some 4, .buildSlice _ _ _, _, _, _, _⟩ :: _) _ _); refine wpList_run rfl _ _ (run_lit_op [a, b, c] Hab.out (by simp) (by simp) 3 _ rfl (by simp [Act.eval]) rfl _) ?_; simp only [Act.put]))
  go_ret
  exact ⟨_, rfl, HL.out, HB.out⟩

set_option maxHeartbeats 4000000 in
set_option maxRecDepth 100000 in
theorem works11_any (w : World) : Calls Try.prog 9 #[] w fun e w' => e = .returned (.bool true) ∧ Below w.heap.size w w' := by
  have h3 := three11_any w
  have hpr := fun A c W (h : Hs W (fun _ => True) A 3 c [oneHash 1, oneHash 2, oneHash 3]) => iprove_any [oneHash 1, oneHash 2, oneHash 3] A 3 c W 2 h (by decide)
  rw [show (([oneHash 1, oneHash 2, oneHash 3] : List (List UInt8)).length : Int) = 3 from rfl, pathA23, rootsP23] at hpr
  have hal := fun A c W (h : Hs W (fun _ => True) A 3 c [oneHash 1, oneHash 2, oneHash 3]) => iall_any [oneHash 1, oneHash 2, oneHash 3] A 3 c W h (by decide)
  obtain ⟨a, ha⟩ : ∃ a, oneHash 1 = a := ⟨_, rfl⟩
  obtain ⟨b, hb⟩ : ∃ b, oneHash 2 = b := ⟨_, rfl⟩
  obtain ⟨c, hc⟩ : ∃ c, oneHash 3 = c := ⟨_, rfl⟩
  have hal' : a.length = 32 := by rw [← ha]; exact length_oneHash _
  have hbl : b.length = 32 := by rw [← hb]; exact length_oneHash _
  have hcl : c.length = 32 := by rw [← hc]; exact length_oneHash _
  rw [ha, hb, hc] at h3 hpr hal
  have hfr := fromA03 a b c
  have htk := takenA03 a b c
  obtain ⟨u, hu⟩ : ∃ u, hNode a b = u := ⟨_, rfl⟩
  have hul : u.length = 32 := by rw [← hu]; exact length_hNode _ _
  rw [hu] at hfr htk hpr
  obtain ⟨r, hr⟩ : ∃ r, hNode u c = r := ⟨_, rfl⟩
  have hrl : r.length = 32 := by rw [← hr]; exact length_hNode _ _
  rw [hr] at hfr htk
  have hbc : H32 [b, c] := by
    intro h hh
    simp only [List.mem_cons, List.not_mem_nil, or_false] at hh
    rcases hh with rfl | rfl
    · exact hbl
    · exact hcl
  have huu : H32 [u] := by
    intro h hh
    rw [List.mem_singleton.1 hh]
    exact hul
  have hn1 := fun W => hnode_any a b W hal' hbl
  have hn2 := fun W => hnode_any u c W hul hcl
  rw [hu] at hn1
  rw [hr] at hn2
  have hup := fun W => iup_any a 0 1 [] none 0 0 W hal' (by decide) Hs.empty
  have hro := fun A W (h : Hs W (fun _ => True) A 2 2 [b, c]) => iroot_any a 0 3 [b, c] A 2 2 W hal' (by decide) h
  have hck := fun A W (h : Hs W (fun _ => True) A 2 2 [b, c]) => icheck_any a 0 3 r [b, c] A 2 2 W hal' hrl (by decide) h
  have hby : ∀ A cp W, Hs W (fun _ => True) A 1 cp [u] → Calls Try.prog 31 #[.slice A 1 cp] W fun e w' => (∃ A9 c9, e = .returned (.slice A9 32 c9)) ∧ Below W.heap.size W w' := fun A cp W h => (ibytes_any [u] A 1 cp W h (by decide)).mono fun e w' he => by
    obtain ⟨v, rfl, ho, hb⟩ := he
    obtain ⟨A9, c9, hv, -⟩ := owns_sl ho
    rw [show ([u] : List (List UInt8)).flatten.length = 32 by simp [hul]] at hv
    exact ⟨⟨A9, c9, by rw [hv]⟩, hb⟩
  rw [hfr] at hro
  rw [htk] at hck
  have H3 := Lib.hid h3
  have Hpr := Lib.hid hpr
  have Hall := Lib.hid hal
  have Hal := Lib.hid hal'
  have Hbl := Lib.hid hbl
  have Hcl := Lib.hid hcl
  have Hul := Lib.hid hul
  have Hrl := Lib.hid hrl
  have Hbc := Lib.hid hbc
  have Huu := Lib.hid huu
  have Hn1 := Lib.hid hn1
  have Hn2 := Lib.hid hn2
  have Hup := Lib.hid hup
  have Hro := Lib.hid hro
  have Hck := Lib.hid hck
  have Hby := Lib.hid hby
  clear h3 hpr hal hal' hbl hcl hul hrl hbc huu hn1 hn2 hup hro hck hby hfr htk ha hb hc hu hr
  go_enter Try.func9, Try.ntmps9
  go_wp2_with fail
  refine H3.out.mono ?_
  rintro e w1 ⟨g, rfl, hL, hb0⟩
  go_wp2_with fail
  refine (Hall.out _ _ w1 hL).mono ?_
  rintro e w2 ⟨A', c', rfl, -, -, hb2⟩
  replace hL := hL.step hb2
  replace hb0 := hb0.trans (hb2.mono hb0.size)
  clear hb2
  have hld := hL.get rfl 0 (by simp)
  have q1 := eqnil_all w1.heap.size w2
  go_wp2_with (first
    | ((with_reducible show wpList _ _ _ (⟨some 13, .load _ _, _, _, _, _⟩ :: _) _ _); refine wpList_runG (by kernel_rfl) (.agg (a.map B).toArray) _ (run_load_op 45 (.tmp 12) rfl _ _ rfl _ hld) ?_; simp only [Act.put]))
  refine (Hup.out w2).mono ?_
  rintro e w3 ⟨g2, A2, c2, rfl, -, -, -, hb3⟩
  replace hL := hL.step hb3
  replace hb0 := hb0.trans (hb3.mono hb0.size)
  clear hb3 hld
  have q2 := eqnil_up g2 w3
  go_wp2_with fail
  refine (Hpr.out _ _ w3 hL).mono ?_
  rintro e w4 ⟨v, rfl, ho, hb4⟩
  obtain ⟨gp, cp, rfl⟩ := owns_some ho (by simp)
  obtain ⟨A4, c4, hv, hp⟩ := Hs.of_owns ho rfl Huu.out
  cases hv
  replace hp := hp.weak (Y := fun _ => True) fun _ _ _ => trivial
  replace hL := hL.step hb4
  replace hb0 := hb0.trans (hb4.mono hb0.size)
  have hcp := hp.sl.room
  have hcm := hp.sl.max
  unfold maxLen at hcm
  clear ho hb4
  go_wp2_with fail
  refine wp_share_us (fun us a' W' => ∃ g4, a' = { tmps := #[us 0, .slice (some ⟨g, 0, none⟩) 3 3, .slice (some ⟨gp, 0, none⟩) 1 cp, .int .i64 0, .pointer (some ⟨g4, 0, none⟩), .int .i64 0, us 6, us 7, us 8, us 9, us 10, us 11, us 12, us 13, us 14, us 15, us 16, us 17, us 18, us 19, us 20, us 21, us 22, us 23, us 24, us 25, us 26, us 27, us 28, us 29, us 30, us 31, us 32, us 33, us 34, us 35, us 36, us 37, us 38, us 39, us 40, us 41, us 42, us 43, us 44, us 45, us 46, us 47, us 48, us 49, us 50, us 51, us 52, us 53, us 54, us 55, us 56, us 57, us 58, us 59, us 60, us 61, us 62, us 63, us 64, us 65, us 66, us 67, us 68, us 69, us 70, us 71, us 72, us 73, us 74, us 75, us 76, us 77, us 78, us 79, us 80, us 81, us 82, us 83, us 84, us 85, us 86, us 87, us 88, us 89, us 90, us 91, us 92, us 93, us 94, us 95, us 96, us 97, us 98, us 99], defers := [] } ∧ HV W' g4 r ∧ Below w4.heap.size w4 W') ?_ ?_
  · have l0 : ∀ s : InC (fun W => Below w4.heap.size w4 W), (Instr.loadAt 45 (.pointer (some ⟨g, 0, none⟩))).run Try.prog s.W = .ok (.agg (a.map B).toArray) s.W := fun s => (hL.step s.ok).get rfl 0 (by simp)
    have L0 := Lib.hid l0
    clear l0
    have l1 : ∀ s : InC (fun W => Below w4.heap.size w4 W), (Instr.loadAt 45 (.pointer (some ⟨g, 32, none⟩))).run Try.prog s.W = .ok (.agg (b.map B).toArray) s.W := fun s => (hL.step s.ok).get rfl 1 (by simp)
    have L1 := Lib.hid l1
    clear l1
    have l2 : ∀ s : InC (fun W => Below w4.heap.size w4 W), (Instr.loadAt 45 (.pointer (some ⟨g, 64, none⟩))).run Try.prog s.W = .ok (.agg (c.map B).toArray) s.W := fun s => (hL.step s.ok).get rfl 2 (by simp)
    have L2 := Lib.hid l2
    clear l2
    have hS : Below (w4.heap.size) w4 w4.drew := (Below.refl _ _).drew
    refine wp_region_begin (fun W => Below (w4.heap.size) w4 W) (by kernel_rfl) hS fun _ => ?_
    generalize w4.drew = w5 at hS  ⊢
    refine wpAnyH_pre (f := 8) (by kernel_rfl) #[true, true, true, true, true, true, true, true, true, false, false, false, false, false, false, false, false] [(0, true), (1, true), (2, true), (3, true), (4, true), (5, true), (6, true), (7, true), (8, true)] _ _ _ (by kernel_rfl) hS ?_
    simp only [List.map_cons, List.map_nil, Array.getD_eq_getD_getElem?, List.getElem?_toArray, List.getElem?_cons_succ, List.getElem?_cons_zero, Option.getD_some]
    refine wpMix_s (fun K hK => ?_)
    go_simp
    refine hK _ ?_
    clear hK K
    refine wpMix_s (fun K hK => ?_)
    go_simp
    refine hK _ ?_
    clear hK K
    refine wpMix_load (by kernel_rfl) 45 (.tmp 24) rfl (g) (0) rfl (a.map B).toArray (L0.out) ?_
    simp only [Act.put]
    refine wpMix_s (fun K hK => ?_)
    go_simp
    refine hK _ ?_
    clear hK K
    refine wpMix_s (fun K hK => ?_)
    go_simp
    refine hK _ ?_
    clear hK K
    refine wpMix_load (by kernel_rfl) 45 (.tmp 27) rfl (g) (32) rfl (b.map B).toArray (L1.out) ?_
    simp only [Act.put]
    refine wpMix_s (fun K hK => ?_)
    go_simp
    refine hK _ ?_
    clear hK K
    refine wpMix_s (fun K hK => ?_)
    go_simp
    refine hK _ ?_
    clear hK K
    refine wpMix_load (by kernel_rfl) 45 (.tmp 30) rfl (g) (64) rfl (c.map B).toArray (L2.out) ?_
    simp only [Act.put]
    refine wpMix_nil ?_
    intro _
    refine wpAnyH_fork (f := 7) (i := 9) (j := 14) (by kernel_rfl) hS ?_ ?_
    · simp only [Array.getD_eq_getD_getElem?, List.getElem?_toArray, List.getElem?_cons_succ, List.getElem?_cons_zero, Option.getD_some]
      have hA0 : Below w5.heap.size w5 (w5.alloc (.cells (hcells [b, c]).toArray 45)) := (Below.refl _ _).alloc (Nat.le_refl _) _
      have hl2 := Hs.lit w5 [b, c] Hbc.out (by simp) 2 rfl
      generalize hge : w5.heap.size = gl at hl2
      refine wpMix_run (by kernel_rfl) _ _ (run_lit_op [b, c] Hbc.out (by simp) (by simp) 2 _ rfl (by simp [Act.eval]) rfl _) (hS.trans (hA0.mono hS.size)) ?_
      simp only [Act.put]
      replace hS := hS.trans (hA0.mono hS.size)
      try replace k4 := k4.step hA0
      rw [hge]
      first
        | generalize w5.alloc (.cells (hcells [b, c]).toArray 45) = w5l at hl2 hS k4 ⊢
        | generalize w5.alloc (.cells (hcells [b, c]).toArray 45) = w5l at hl2 hS ⊢
      clear hA0 hge
      refine wpMix_nil ?_
      intro _
      show wpAnyH _ _ _ _ _ _ #[true, true, true, true, true, true, true, true, true, true, false, false, false, false, false, false, false] _ _
      refine wpAnyH_fork (f := 6) (i := 10) (j := 14) (by kernel_rfl) hS ?_ ?_
      · simp only [Array.getD_eq_getD_getElem?, List.getElem?_toArray, List.getElem?_cons_succ, List.getElem?_cons_zero, Option.getD_some]
        refine wpMix_c (fun K hK => ?_) hS
        go_simp
        refine (Hro.out _ w5l hl2).mono ?_
        rintro e w5_1 ⟨rfl, hb'⟩
        refine hK _ _ ?_
        clear hK K
        replace hS := hS.trans (hb'.mono hS.size)
        refine ⟨hS, ?_⟩
        try replace k4 := k4.step hb'
        clear hb' hl2
        refine wpMix_nil ?_
        intro _
        show wpAnyH _ _ _ _ _ _ #[true, true, true, true, true, true, true, true, true, true, true, false, false, false, false, false, false] _ _
        refine wpAnyH_pre (f := 0) (by kernel_rfl) #[true, true, true, true, true, true, true, true, true, true, true, true, true, true, true, true, true] [(11, true), (12, true), (13, true), (14, false), (15, false), (16, true)] _ _ _ (by kernel_rfl) hS ?_
        simp only [List.map_cons, List.map_nil, Array.getD_eq_getD_getElem?, List.getElem?_toArray, List.getElem?_cons_succ, List.getElem?_cons_zero, Option.getD_some]
        refine wpMix_s (fun K hK => ?_)
        go_simp
        refine hK _ ?_
        clear hK K
        refine wpMix_s (fun K hK => ?_)
        go_simp
        refine hK _ ?_
        clear hK K
        refine wpMix_s (fun K hK => ?_)
        go_simp
        refine hK _ ?_
        clear hK K
        have k4g := hS.size
        refine wpMix_hnew rfl rfl (fun _ hb => hS.trans (hb.mono hS.size)) ?_
        intro w5_2 k4 hb'
        simp only [Act.put]
        replace hS := hS.trans (hb'.mono hS.size)
        try replace hl2 := hl2.step hb'
        clear hb'
        refine wpMix_hset (.tmp 4) (.tmp 34) rfl rfl k4 rfl rfl Hrl.out (fun _ hb => hS.trans (hb.mono k4g)) ?_
        intro w5_3 k4s hb' hoth
        simp only [Act.put]
        replace hS := hS.trans (hb'.mono k4g)
        clear hb' hoth
        refine wpMix_s (fun K hK => ?_)
        go_simp
        refine hK _ ?_
        clear hK K
        refine wpMix_nil ?_
        intro _
        refine wpAnyH_end (by kernel_rfl) ?_
        refine ⟨_, ?_, k4s, hS⟩
        kernel_rfl
      · simp only [Array.getD_eq_getD_getElem?, List.getElem?_toArray, List.getElem?_cons_succ, List.getElem?_cons_zero, Option.getD_some]
        have k4g := hS.size
        refine wpMix_hnew rfl rfl (fun _ hb => hS.trans (hb.mono hS.size)) ?_
        intro w5_4 k4 hb'
        simp only [Act.put]
        replace hS := hS.trans (hb'.mono hS.size)
        try replace hl2 := hl2.step hb'
        clear hb'
        refine wpMix_nil ?_
        intro _
        show wpAnyH _ _ _ _ _ _ #[true, true, true, true, true, true, true, true, true, true, false, false, false, false, true, false, false] _ _
        refine wpAnyH_pre (f := 0) (by kernel_rfl) #[true, true, true, true, true, true, true, true, true, true, true, true, true, true, true, true, true] [(10, false), (11, true), (12, true), (13, true), (15, false), (16, true)] _ _ _ (by kernel_rfl) hS ?_
        simp only [List.map_cons, List.map_nil, Array.getD_eq_getD_getElem?, List.getElem?_toArray, List.getElem?_cons_succ, List.getElem?_cons_zero, Option.getD_some]
        refine wpMix_c (fun K hK => ?_) hS
        go_simp
        refine (Hro.out _ w5_4 hl2).mono ?_
        rintro e w5_5 ⟨rfl, hb'⟩
        refine hK _ _ ?_
        clear hK K
        replace hS := hS.trans (hb'.mono hS.size)
        refine ⟨hS, ?_⟩
        try replace k4 := k4.step hb'
        clear hb' hl2
        refine wpMix_s (fun K hK => ?_)
        go_simp
        refine hK _ ?_
        clear hK K
        refine wpMix_s (fun K hK => ?_)
        go_simp
        refine hK _ ?_
        clear hK K
        refine wpMix_s (fun K hK => ?_)
        go_simp
        refine hK _ ?_
        clear hK K
        refine wpMix_hset (.tmp 4) (.tmp 34) rfl rfl k4 rfl rfl Hrl.out (fun _ hb => hS.trans (hb.mono k4g)) ?_
        intro w5_6 k4s hb' hoth
        simp only [Act.put]
        replace hS := hS.trans (hb'.mono k4g)
        clear hb' hoth
        refine wpMix_s (fun K hK => ?_)
        go_simp
        refine hK _ ?_
        clear hK K
        refine wpMix_nil ?_
        intro _
        refine wpAnyH_end (by kernel_rfl) ?_
        refine ⟨_, ?_, k4s, hS⟩
        kernel_rfl
    · simp only [Array.getD_eq_getD_getElem?, List.getElem?_toArray, List.getElem?_cons_succ, List.getElem?_cons_zero, Option.getD_some]
      have k4g := hS.size
      refine wpMix_hnew rfl rfl (fun _ hb => hS.trans (hb.mono hS.size)) ?_
      intro w5_7 k4 hb'
      simp only [Act.put]
      replace hS := hS.trans (hb'.mono hS.size)
      try replace hl2 := hl2.step hb'
      clear hb'
      refine wpMix_nil ?_
      intro _
      show wpAnyH _ _ _ _ _ _ #[true, true, true, true, true, true, true, true, true, false, false, false, false, false, true, false, false] _ _
      refine wpAnyH_pre (f := 0) (by kernel_rfl) #[true, true, true, true, true, true, true, true, true, true, true, true, true, true, true, true, true] [(9, false), (10, false), (11, true), (12, true), (13, true), (15, false), (16, true)] _ _ _ (by kernel_rfl) hS ?_
      simp only [List.map_cons, List.map_nil, Array.getD_eq_getD_getElem?, List.getElem?_toArray, List.getElem?_cons_succ, List.getElem?_cons_zero, Option.getD_some]
      have hA0 : Below w5_7.heap.size w5_7 (w5_7.alloc (.cells (hcells [b, c]).toArray 45)) := (Below.refl _ _).alloc (Nat.le_refl _) _
      have hl2 := Hs.lit w5_7 [b, c] Hbc.out (by simp) 2 rfl
      generalize hge : w5_7.heap.size = gl at hl2
      refine wpMix_run (by kernel_rfl) _ _ (run_lit_op [b, c] Hbc.out (by simp) (by simp) 2 _ rfl (by simp [Act.eval]) rfl _) (hS.trans (hA0.mono hS.size)) ?_
      simp only [Act.put]
      replace hS := hS.trans (hA0.mono hS.size)
      try replace k4 := k4.step hA0
      rw [hge]
      first
        | generalize w5_7.alloc (.cells (hcells [b, c]).toArray 45) = w5_7l at hl2 hS k4 ⊢
        | generalize w5_7.alloc (.cells (hcells [b, c]).toArray 45) = w5_7l at hl2 hS ⊢
      clear hA0 hge
      refine wpMix_c (fun K hK => ?_) hS
      go_simp
      refine (Hro.out _ w5_7l hl2).mono ?_
      rintro e w5_8 ⟨rfl, hb'⟩
      refine hK _ _ ?_
      clear hK K
      replace hS := hS.trans (hb'.mono hS.size)
      refine ⟨hS, ?_⟩
      try replace k4 := k4.step hb'
      clear hb' hl2
      refine wpMix_s (fun K hK => ?_)
      go_simp
      refine hK _ ?_
      clear hK K
      refine wpMix_s (fun K hK => ?_)
      go_simp
      refine hK _ ?_
      clear hK K
      refine wpMix_s (fun K hK => ?_)
      go_simp
      refine hK _ ?_
      clear hK K
      refine wpMix_hset (.tmp 4) (.tmp 34) rfl rfl k4 rfl rfl Hrl.out (fun _ hb => hS.trans (hb.mono k4g)) ?_
      intro w5_9 k4s hb' hoth
      simp only [Act.put]
      replace hS := hS.trans (hb'.mono k4g)
      clear hb' hoth
      refine wpMix_s (fun K hK => ?_)
      go_simp
      refine hK _ ?_
      clear hK K
      refine wpMix_nil ?_
      intro _
      refine wpAnyH_end (by kernel_rfl) ?_
      refine ⟨_, ?_, k4s, hS⟩
      kernel_rfl
  rintro us a' w6 ⟨g4, rfl, k4, hb6⟩
  replace hp := hp.step hb6
  replace hL := hL.step hb6
  replace hb0 := hb0.trans (hb6.mono hb0.size)
  clear hb6
  go_wp2_with fail
  have l0 : ∀ s : InC (fun W => Below w6.heap.size w6 W), (Instr.loadAt 45 (.pointer (some ⟨g, 0, none⟩))).run Try.prog s.W = .ok (.agg (a.map B).toArray) s.W := fun s => (hL.step s.ok).get rfl 0 (by simp)
  have L0 := Lib.hid l0
  clear l0
  have l1 : ∀ s : InC (fun W => Below w6.heap.size w6 W), (Instr.loadAt 45 (.pointer (some ⟨g, 32, none⟩))).run Try.prog s.W = .ok (.agg (b.map B).toArray) s.W := fun s => (hL.step s.ok).get rfl 1 (by simp)
  have L1 := Lib.hid l1
  clear l1
  have l2 : ∀ s : InC (fun W => Below w6.heap.size w6 W), (Instr.loadAt 45 (.pointer (some ⟨g, 64, none⟩))).run Try.prog s.W = .ok (.agg (c.map B).toArray) s.W := fun s => (hL.step s.ok).get rfl 2 (by simp)
  have L2 := Lib.hid l2
  clear l2
  have l4 : ∀ s : InC (fun W => Below w6.heap.size w6 W), (Instr.loadAt 45 (.pointer (some ⟨g4, 0, none⟩))).run Try.prog s.W = .ok (.agg (r.map B).toArray) s.W := fun s => (k4.step s.ok).load
  have L4 := Lib.hid l4
  clear l4
  have l5 : ∀ s : InC (fun W => Below w6.heap.size w6 W), (Instr.loadAt 45 (.pointer (some ⟨gp, 0, none⟩))).run Try.prog s.W = .ok (.agg (u.map B).toArray) s.W := fun s => (hp.step s.ok).get rfl 0 (by simp)
  have L5 := Lib.hid l5
  clear l5
  have hS : Below w6.heap.size w6 w6.drew := (Below.refl _ _).drew
  refine wp_region_mix (fun W => Below w6.heap.size w6 W) [(0, true), (1, false), (2, true), (3, true), (4, true), (5, true), (6, true), (7, true), (8, true), (9, true), (10, true), (11, true), (12, true), (13, true), (14, true), (15, true), (16, true), (17, true), (18, false), (19, true), (20, true), (21, true), (22, true), (23, false), (24, true), (25, true), (26, true), (27, true), (28, true), (29, true), (30, true), (31, true), (32, true), (33, true), (35, true), (36, true), (37, true), (34, false), (38, false), (39, true), (40, true), (41, true), (42, true), (43, true), (44, true), (45, true), (46, true), (47, true), (48, true), (49, true), (50, true), (51, true), (52, true), (53, false), (54, false), (55, false), (56, true), (57, true), (58, true), (59, true), (60, false), (61, true), (62, true), (63, true), (64, true)] (by kernel_rfl) (by kernel_rfl) hS fun _ => ?_
  simp only [List.map_cons, List.map_nil, Array.getD_eq_getD_getElem?, List.getElem?_toArray]
  generalize w6.drew = w7 at hS ⊢
  refine wpMix_s (fun K hK => ?_)
  go_simp
  refine hK _ ?_
  clear hK K
  refine wpMix_c (fun K hK => ?_) hS
  go_simp
  refine (num11_any _ w7).mono ?_
  rintro e _ ⟨rfl, rfl⟩
  refine hK _ _ ?_
  clear hK K
  refine ⟨hS, ?_⟩
  refine wpMix_s (fun K hK => ?_)
  go_simp
  refine hK _ ?_
  clear hK K
  refine wpMix_s (fun K hK => ?_)
  go_simp
  refine hK _ ?_
  clear hK K
  refine wpMix_s (fun K hK => ?_)
  go_simp
  refine hK _ ?_
  clear hK K
  refine wpMix_s (fun K hK => ?_)
  go_simp
  refine hK _ ?_
  clear hK K
  refine wpMix_s (fun K hK => ?_)
  go_simp
  refine hK _ ?_
  clear hK K
  refine wpMix_s (fun K hK => ?_)
  go_simp
  refine hK _ ?_
  clear hK K
  refine wpMix_s (fun K hK => ?_)
  go_simp
  refine hK _ ?_
  clear hK K
  refine wpMix_s (fun K hK => ?_)
  go_simp
  refine hK _ ?_
  clear hK K
  refine wpMix_s (fun K hK => ?_)
  go_simp
  refine hK _ ?_
  clear hK K
  refine wpMix_load (by kernel_rfl) 45 (.tmp 46) rfl (gp) (0) rfl (u.map B).toArray (L5.out) ?_
  simp only [Act.put]
  refine wpMix_s (fun K hK => ?_)
  go_simp
  refine hK _ ?_
  clear hK K
  refine wpMix_s (fun K hK => ?_)
  go_simp
  refine hK _ ?_
  clear hK K
  refine wpMix_load (by kernel_rfl) 45 (.tmp 49) rfl (g) (0) rfl (a.map B).toArray (L0.out) ?_
  simp only [Act.put]
  refine wpMix_s (fun K hK => ?_)
  go_simp
  refine hK _ ?_
  clear hK K
  refine wpMix_s (fun K hK => ?_)
  go_simp
  refine hK _ ?_
  clear hK K
  refine wpMix_load (by kernel_rfl) 45 (.tmp 52) rfl (g) (32) rfl (b.map B).toArray (L1.out) ?_
  simp only [Act.put]
  refine wpMix_c (fun K hK => ?_) hS
  go_simp
  refine (Hn1.out w7).mono ?_
  rintro e w7_1 ⟨rfl, hb'⟩
  refine hK _ _ ?_
  clear hK K
  replace hS := hS.trans (hb'.mono hS.size)
  refine ⟨hS, ?_⟩
  clear hb'
  refine wpMix_v (by kernel_rfl) (.bool true) (fun s => run_eql26_t (.tmp 47) (.tmp 54) _ u u rfl rfl rfl Hul.out Hul.out rfl s.W) ?_
  simp only [Act.put]
  refine wpMix_s (fun K hK => ?_)
  go_simp
  refine hK _ ?_
  clear hK K
  refine wpMix_s (fun K hK => ?_)
  go_simp
  refine hK _ ?_
  clear hK K
  refine wpMix_s (fun K hK => ?_)
  go_simp
  refine hK _ ?_
  clear hK K
  refine wpMix_c (fun K hK => ?_) hS
  go_simp
  refine (num11_any _ w7_1).mono ?_
  rintro e _ ⟨rfl, rfl⟩
  refine hK _ _ ?_
  clear hK K
  refine ⟨hS, ?_⟩
  refine wpMix_s (fun K hK => ?_)
  go_simp
  refine hK _ ?_
  clear hK K
  refine wpMix_s (fun K hK => ?_)
  go_simp
  refine hK _ ?_
  clear hK K
  refine wpMix_s (fun K hK => ?_)
  go_simp
  refine hK _ ?_
  clear hK K
  refine wpMix_load (by kernel_rfl) 45 (.tmp 4) rfl (g4) (0) rfl (r.map B).toArray (L4.out) ?_
  simp only [Act.put]
  refine wpMix_s (fun K hK => ?_)
  go_simp
  refine hK _ ?_
  clear hK K
  refine wpMix_s (fun K hK => ?_)
  go_simp
  refine hK _ ?_
  clear hK K
  refine wpMix_load (by kernel_rfl) 45 (.tmp 65) rfl (g) (0) rfl (a.map B).toArray (L0.out) ?_
  simp only [Act.put]
  refine wpMix_s (fun K hK => ?_)
  go_simp
  refine hK _ ?_
  clear hK K
  refine wpMix_s (fun K hK => ?_)
  go_simp
  refine hK _ ?_
  clear hK K
  refine wpMix_load (by kernel_rfl) 45 (.tmp 68) rfl (g) (32) rfl (b.map B).toArray (L1.out) ?_
  simp only [Act.put]
  refine wpMix_s (fun K hK => ?_)
  go_simp
  refine hK _ ?_
  clear hK K
  refine wpMix_s (fun K hK => ?_)
  go_simp
  refine hK _ ?_
  clear hK K
  refine wpMix_load (by kernel_rfl) 45 (.tmp 72) rfl (g) (64) rfl (c.map B).toArray (L2.out) ?_
  simp only [Act.put]
  refine wpMix_c (fun K hK => ?_) hS
  go_simp
  refine (Hn1.out w7_1).mono ?_
  rintro e w7_2 ⟨rfl, hb'⟩
  refine hK _ _ ?_
  clear hK K
  replace hS := hS.trans (hb'.mono hS.size)
  refine ⟨hS, ?_⟩
  clear hb'
  refine wpMix_c (fun K hK => ?_) hS
  go_simp
  refine (Hn2.out w7_2).mono ?_
  rintro e w7_3 ⟨rfl, hb'⟩
  refine hK _ _ ?_
  clear hK K
  replace hS := hS.trans (hb'.mono hS.size)
  refine ⟨hS, ?_⟩
  clear hb'
  refine wpMix_v (by kernel_rfl) (.bool true) (fun s => run_eql26_t (.tmp 63) (.tmp 74) _ r r rfl rfl rfl Hrl.out Hrl.out rfl s.W) ?_
  simp only [Act.put]
  refine wpMix_s (fun K hK => ?_)
  go_simp
  refine hK _ ?_
  clear hK K
  refine wpMix_s (fun K hK => ?_)
  go_simp
  refine hK _ ?_
  clear hK K
  refine wpMix_s (fun K hK => ?_)
  go_simp
  refine hK _ ?_
  clear hK K
  refine wpMix_s (fun K hK => ?_)
  go_simp
  refine hK _ ?_
  clear hK K
  refine wpMix_load (by kernel_rfl) 45 (.tmp 79) rfl (g) (0) rfl (a.map B).toArray (L0.out) ?_
  simp only [Act.put]
  refine wpMix_load (by kernel_rfl) 45 (.tmp 4) rfl (g4) (0) rfl (r.map B).toArray (L4.out) ?_
  simp only [Act.put]
  refine wpMix_v (by kernel_rfl) (.agg (.int .i64 3 :: r.map B).toArray) (fun s => run_build_pt (.const (.int .i64 3)) (.tmp 81) 3 r Hrl.out rfl rfl rfl s.W) ?_
  simp only [Act.put]
  refine wpMix_s (fun K hK => ?_)
  go_simp
  refine hK _ ?_
  clear hK K
  refine wpMix_s (fun K hK => ?_)
  go_simp
  refine hK _ ?_
  clear hK K
  refine wpMix_load (by kernel_rfl) 45 (.tmp 84) rfl (g) (32) rfl (b.map B).toArray (L1.out) ?_
  simp only [Act.put]
  refine wpMix_s (fun K hK => ?_)
  go_simp
  refine hK _ ?_
  clear hK K
  refine wpMix_s (fun K hK => ?_)
  go_simp
  refine hK _ ?_
  clear hK K
  refine wpMix_load (by kernel_rfl) 45 (.tmp 87) rfl (g) (64) rfl (c.map B).toArray (L2.out) ?_
  simp only [Act.put]
  have hA0 : Below w7_3.heap.size w7_3 (w7_3.alloc (.cells (hcells [b, c]).toArray 45)) := (Below.refl _ _).alloc (Nat.le_refl _) _
  have hl2 := Hs.lit w7_3 [b, c] Hbc.out (by simp) 2 rfl
  generalize hge : w7_3.heap.size = gl at hl2
  refine wpMix_run (by kernel_rfl) _ _ (run_lit_op [b, c] Hbc.out (by simp) (by simp) 2 _ rfl (by simp [Act.eval]) rfl _) (hS.trans (hA0.mono hS.size)) ?_
  simp only [Act.put]
  replace hS := hS.trans (hA0.mono hS.size)
  try replace k4 := k4.step hA0
  rw [hge]
  first
    | generalize w7_3.alloc (.cells (hcells [b, c]).toArray 45) = w7_3l at hl2 hS k4 ⊢
    | generalize w7_3.alloc (.cells (hcells [b, c]).toArray 45) = w7_3l at hl2 hS ⊢
  clear hA0 hge
  refine wpMix_c (fun K hK => ?_) hS
  go_simp
  refine (Hck.out _ w7_3l hl2).mono ?_
  rintro e w7_4 ⟨rfl, hb'⟩
  refine hK _ _ ?_
  clear hK K
  replace hS := hS.trans (hb'.mono hS.size)
  refine ⟨hS, ?_⟩
  clear hb' hl2
  refine wpMix_c (fun K hK => ?_) hS
  go_simp
  refine (num11_any _ w7_4).mono ?_
  rintro e _ ⟨rfl, rfl⟩
  refine hK _ _ ?_
  clear hK K
  refine ⟨hS, ?_⟩
  refine wpMix_s (fun K hK => ?_)
  go_simp
  refine hK _ ?_
  clear hK K
  refine wpMix_s (fun K hK => ?_)
  go_simp
  refine hK _ ?_
  clear hK K
  refine wpMix_s (fun K hK => ?_)
  go_simp
  refine hK _ ?_
  clear hK K
  refine wpMix_s (fun K hK => ?_)
  go_simp
  refine hK _ ?_
  clear hK K
  refine wpMix_c (fun K hK => ?_) hS
  go_simp
  refine (Hby.out _ _ w7_4 (hp.step hS)).mono ?_
  rintro e w7_5 ⟨⟨A9, c9, rfl⟩, hb'⟩
  refine hK _ _ ?_
  clear hK K
  replace hS := hS.trans (hb'.mono hS.size)
  refine ⟨hS, ?_⟩
  clear hb'
  refine wpMix_s (fun K hK => ?_)
  go_simp
  refine hK _ ?_
  clear hK K
  refine wpMix_s (fun K hK => ?_)
  go_simp
  refine hK _ ?_
  clear hK K
  refine wpMix_s (fun K hK => ?_)
  go_simp
  refine hK _ ?_
  clear hK K
  refine wpMix_s (fun K hK => ?_)
  go_simp
  refine hK _ ?_
  clear hK K
  refine wpMix_nil ?_
  intro _
  go_wp2_with fail
  go_ret
  exact ⟨rfl, hb0.trans (hS.mono hb0.size)⟩
end Go.Proofs.Ytmglkblomklcbaa
/- notaryref11.Split, Root, Len, Prove. -/
namespace Go.Proofs.Ytmglkblomklcbaa
open Go Go.RowKit

set_option maxHeartbeats 400000 in
theorem r11split_any (n : Int) (w : World) (h2 : 2 ≤ n) (hn : n ≤ 9223372036854775807) :
    Calls Try.prog 39 #[.int .i64 n] w fun e w' => e = .returned (.int .i64 (splitN n.toNat : Int)) ∧ w = w' := by
  obtain ⟨m, rfl⟩ : ∃ m : Nat, n = (m : Int) := ⟨n.toNat, by omega⟩
  rw [Int.toNat_natCast]
  obtain ⟨s, hs⟩ : ∃ s, splitN m = s := ⟨_, rfl⟩
  have hsl := splitN_lt m (by omega)
  have Hs := Lib.hid hs
  rw [hs] at hsl ⊢
  clear hs
  go_enter Try.func39, Try.ntmps39
  go_wp2_with fail
  go_loop [3] (fun v => ∃ j k : Nat, 1 ≤ k ∧ k < m ∧ k = 2 ^ j ∧ v = .int .i64 (k : Int)) (fun v => m - (intOf v).toNat)
  case atStart => exact ⟨0, 1, by omega, by omega, rfl, rfl⟩
  case round =>
    obtain ⟨j, k, hk1, hkm, hk, rfl⟩ := hrel
    by_cases hlt : k < m - k
    · have Hk := Lib.hid hk
      clear hk
      have hd : decide ((k : Int) < (m : Int) - (k : Int)) = true := by simp; omega
      go_wp2_with fail
      go_round
      case rel => exact ⟨j + 1, 2 * k, by omega, by omega, by rw [Nat.pow_succ, Hk.out]; omega, by go_num⟩
      case measure => simp [intOf]; omega
    · have hks : s = k := by rw [← Hs.out, splitN_eq m j (by omega) (by rw [Nat.pow_succ]; omega), hk]
      subst hks
      clear hk
      have hd : decide ((s : Int) < (m : Int) - (s : Int)) = false := by simp; omega
      go_wp2_with fail
      go_ret
      exact ⟨rfl, rfl⟩
theorem r08nil (w : World) : Calls Try.prog 54 #[.slice none 0 0] w fun e w' => e = .returned (.agg (hEmpty.map B).toArray) ∧ Below w.heap.size w w' :=
  hrof_any [] none 0 0 w Sl.nil (by decide)

set_option maxHeartbeats 2000000 in
set_option maxRecDepth 100000 in
theorem r11root_rec (d : Nat) : ∀ (hs : List (List UInt8)) (A : Option Addr) (n c : Nat) (w : World), n ≤ d → Hs w (fun _ => True) A n c hs → n ≤ 4398046511104 →
    Calls Try.prog 40 #[.slice A n c] w fun e w' => e = .returned (.agg ((rootL hs).map B).toArray) ∧ Below w.heap.size w w' := by
  induction d using Nat.strongRecOn with
  | ind d ih =>
  intro hs A n c w hnd h hn
  obtain ⟨zs, hzs⟩ : ∃ zs, zeroHash = zs := ⟨_, rfl⟩
  have hzl : zs.size = 32 := by rw [← hzs]; rfl
  have hlen := h.len
  have hroom := h.sl.room
  have hmax := h.sl.max
  unfold maxLen at hmax
  have hb0 := (Below.refl w.heap.size w).alloc (Nat.le_refl _) (.cells zs 45)
  have k0 := Blk.new w 45 zs
  have h0 := h.step hb0
  obtain ⟨r, hr⟩ : ∃ r, rootL hs = r := ⟨_, rfl⟩
  have hrl : r.length = 32 := by rw [← hr]; exact length_rootL hs h.all
  rw [hr]
  have Hzs := Lib.hid hzs
  have Hrl := Lib.hid hrl
  have Hr := Lib.hid hr
  have Hlen := Lib.hid hlen
  clear hzs hrl hr hlen
  by_cases hn0 : n = 0
  · subst hn0
    have hnil : hs = [] := List.eq_nil_of_length_eq_zero Hlen.out
    subst hnil
    obtain rfl : r = hEmpty := Hr.out.symm
    clear ih h h0
    go_enter Try.func40, Try.ntmps40
    go_wp2_with (first
      | ((with_reducible show wpList _ _ _ (⟨some 2, .alloc _, _, _, _, _⟩ :: _) _ _); refine wpList_run rfl (.pointer (some ⟨w.heap.size, 0, none⟩)) (w.alloc (.cells zs 45)) (by rw [← Hzs.out]; rfl) ?_; simp only [Act.put])
      | (go_at_call 54; refine (r08nil _).mono ?_; rintro e w1 ⟨rfl, hb1⟩; have k1 := k0.below hb1 (by simp); have B1 := hb0.trans (hb1.mono (by simp)))
      | ((with_reducible show wpList _ _ _ (⟨none, .store _ _ _, _, _, _, _⟩ :: _) _ _); refine wpList_store_blk rfl 45 (.tmp 2) (.tmp 9) rfl 32 size26 w.heap.size (hEmpty.map B).toArray rfl rfl (by simp [Hrl.out]) (oneCell_B _) 45 _ k1 hzl ?_; simp only [Act.put]))
    refine bodyPost_ret (results_cell_row rfl _ _ w.heap.size 45 (hEmpty.map B).toArray (0, 0) _ rfl (k1.setRow_ _) Try.underlying45 rfl (by rw [show (hEmpty.map B).toArray.size = 32 by simp [Hrl.out]]; exact info26)) rfl ⟨rfl, ?_⟩
    exact below_setRow B1 (Nat.le_refl _) _
  by_cases hn1 : n = 1
  · subst hn1
    obtain ⟨x, rfl⟩ := List.length_eq_one_iff.1 Hlen.out
    obtain rfl : r = x := Hr.out.symm
    obtain ⟨b, o, rfl, -, -, hat⟩ := h0.at_ (by omega)
    have hld : (Instr.loadAt 45 (.pointer (some ⟨b, o, none⟩))).run Try.prog (w.alloc (.cells zs 45)) = .ok (.agg (r.map B).toArray) (w.alloc (.cells zs 45)) := hat 0 (by omega)
    have Hld := Lib.hid hld
    clear ih h h0 hat hld
    go_enter Try.func40, Try.ntmps40
    go_wp2_with (first
      | ((with_reducible show wpList _ _ _ (⟨some 2, .alloc _, _, _, _, _⟩ :: _) _ _); refine wpList_run rfl (.pointer (some ⟨w.heap.size, 0, none⟩)) (w.alloc (.cells zs 45)) (by rw [← Hzs.out]; rfl) ?_; simp only [Act.put])
      | ((with_reducible show wpList _ _ _ (⟨some 14, .load _ _, _, _, _, _⟩ :: _) _ _); refine wpList_load rfl 45 (.tmp 13) rfl b o rfl (r.map B).toArray Hld.out ?_; simp only [Act.put])
      | ((with_reducible show wpList _ _ _ (⟨none, .store _ _ _, _, _, _, _⟩ :: _) _ _); refine wpList_store_blk rfl 45 (.tmp 2) (.tmp 14) rfl 32 size26 w.heap.size (r.map B).toArray rfl rfl (by simp [Hrl.out]) (oneCell_B _) 45 _ k0 hzl ?_; simp only [Act.put]))
    refine bodyPost_ret (results_cell_row rfl _ _ w.heap.size 45 (r.map B).toArray (0, 0) _ rfl (k0.setRow_ _) Try.underlying45 rfl (by rw [show (r.map B).toArray.size = 32 by simp [Hrl.out]]; exact info26)) rfl ⟨rfl, ?_⟩
    exact below_setRow hb0 (Nat.le_refl _) _
  have hne0 : ((n : Int) == 0) = false := by simp; omega
  have hne1 : ((n : Int) == 1) = false := by simp; omega
  have hmore := rootL_more hs (by rw [Hlen.out]; omega)
  rw [Hlen.out, Hr.out] at hmore
  have hspl := fun w => r11split_any (n : Int) w (by omega) (by omega)
  rw [Int.toNat_natCast] at hspl
  have hsl := splitN_lt n (by omega)
  have hsp := splitN_pos n (by omega)
  obtain ⟨s, hs'⟩ : ∃ s, splitN n = s := ⟨_, rfl⟩
  rw [hs'] at hmore hspl hsl hsp
  have hL := fun W (hW : Below (w.alloc (.cells zs 45)).heap.size (w.alloc (.cells zs 45)) W) => ih s (by omega) (hs.take s) A s c W (Nat.le_refl _) ((h0.step hW).take s (by omega)) (by omega)
  have hR := fun W (hW : Below (w.alloc (.cells zs 45)).heap.size (w.alloc (.cells zs 45)) W) => ih (n - s) (by omega) (hs.drop s) _ (n - s) (c - s) W (Nat.le_refl _) ((h0.step hW).drop s (by omega)) (by omega)
  obtain ⟨x, hx⟩ : ∃ x, rootL (hs.take s) = x := ⟨_, rfl⟩
  obtain ⟨y, hy⟩ : ∃ y, rootL (hs.drop s) = y := ⟨_, rfl⟩
  have hxl : x.length = 32 := by rw [← hx]; exact length_rootL _ (h.all.take s)
  have hyl : y.length = 32 := by rw [← hy]; exact length_rootL _ (h.all.drop s)
  rw [hx] at hL hmore
  rw [hy] at hR hmore
  have hN := fun W => hrnode_any x y W hxl hyl
  rw [← hmore] at hN
  have Hspl := Lib.hid hspl
  have HL := Lib.hid hL
  have HR := Lib.hid hR
  have HN := Lib.hid hN
  clear hspl hL hR hN hx hy hxl hyl hmore hs' ih h
  go_enter Try.func40, Try.ntmps40
  go_wp2_with (first
    | ((with_reducible show wpList _ _ _ (⟨some 2, .alloc _, _, _, _, _⟩ :: _) _ _); refine wpList_run rfl (.pointer (some ⟨w.heap.size, 0, none⟩)) (w.alloc (.cells zs 45)) (by rw [← Hzs.out]; rfl) ?_; simp only [Act.put])
    | (go_at_call 39; refine (Hspl.out _).mono ?_; rintro e w1 ⟨rfl, rfl⟩))
  generalize w.alloc (.cells zs 45) = w1 at hb0 k0 h0 HL HR ⊢
  have hS : Below w1.heap.size w1 w1.drew := (Below.refl _ _).drew
  refine wp_region_mix_last (fun W => Below w1.heap.size w1 W) 9 [(0, true), (1, true), (2, true), (4, true), (5, true), (6, true), (3, false), (7, false), (8, false)] (by kernel_rfl) (by kernel_rfl) hS fun _ => ?_
  simp only [List.map_cons, List.map_nil, Array.getD_eq_getD_getElem?, List.getElem?_toArray, List.getElem?_cons_succ, List.getElem?_cons_zero, Option.getD_some]
  generalize w1.drew = W0 at hS ⊢
  refine wpMix_s (fun K hK => ?_)
  go_simp
  refine hK _ ?_
  clear hK K
  refine wpMix_s (fun K hK => ?_)
  go_simp
  refine hK _ ?_
  clear hK K
  refine wpMix_v (by kernel_rfl) (.slice A s c) (fun u => run_slice_op_hi (.tmp 17) (.tmp 18) rfl A n c s rfl rfl (by omega) u.W) ?_
  simp only [Act.put]
  refine wpMix_s (fun K hK => ?_)
  go_simp
  refine hK _ ?_
  clear hK K
  refine wpMix_s (fun K hK => ?_)
  go_simp
  refine hK _ ?_
  clear hK K
  refine wpMix_v (by kernel_rfl) (.slice (if c = s then A else A.map (·.add (s * 32))) (n - s) (c - s)) (fun u => run_slice_op_lo (.tmp 21) (.tmp 22) rfl A n c s rfl rfl (by omega) u.W) ?_
  simp only [Act.put]
  refine wpMix_c (fun K hK => ?_) hS
  go_simp
  refine (HL.out W0 hS).mono ?_
  rintro e W1 ⟨rfl, hb'⟩
  refine hK _ _ ?_
  clear hK K
  replace hS := hS.trans (hb'.mono hS.size)
  refine ⟨hS, ?_⟩
  clear hb'
  refine wpMix_c (fun K hK => ?_) hS
  go_simp
  refine (HR.out W1 hS).mono ?_
  rintro e W2 ⟨rfl, hb'⟩
  refine hK _ _ ?_
  clear hK K
  replace hS := hS.trans (hb'.mono hS.size)
  refine ⟨hS, ?_⟩
  clear hb'
  refine wpMix_c (fun K hK => ?_) hS
  go_simp
  refine (HN.out W2).mono ?_
  rintro e W3 ⟨rfl, hb'⟩
  refine hK _ _ ?_
  clear hK K
  replace hS := hS.trans (hb'.mono hS.size)
  refine ⟨hS, ?_⟩
  clear hb'
  refine wpMix_nil ?_
  intro _
  simp only [List.drop_succ_cons, List.drop_zero]
  have k3 := k0.below hS k0.lt
  go_wp2_with ((with_reducible show wpList _ _ _ (⟨none, .store _ _ _, _, _, _, _⟩ :: _) _ _); refine wpList_store_blk rfl 45 (.tmp 2) (.tmp 25) rfl 32 size26 w.heap.size (r.map B).toArray rfl rfl (by simp [Hrl.out]) (oneCell_B _) 45 _ k3 hzl ?_; simp only [Act.put])
  refine np_normal ?_
  go_wp2_with fail
  refine bodyPost_ret (results_cell_row rfl _ _ w.heap.size 45 (r.map B).toArray (0, 0) _ rfl (k3.setRow_ _) Try.underlying45 rfl (by rw [show (r.map B).toArray.size = 32 by simp [Hrl.out]]; exact info26)) rfl ⟨rfl, ?_⟩
  exact below_setRow (hb0.trans (hS.mono hb0.size)) (Nat.le_refl _) _
theorem r11root_any (hs : List (List UInt8)) (A : Option Addr) (n c : Nat) (w : World) (h : Hs w (fun _ => True) A n c hs) (hn : n ≤ 4398046511104) :
    Calls Try.prog 40 #[.slice A n c] w fun e w' => e = .returned (.agg ((rootL hs).map B).toArray) ∧ Below w.heap.size w w' := r11root_rec n hs A n c w (Nat.le_refl _) h hn

/-- a path, further on -/
theorem pathL_shift (k d : Nat) : ∀ (i a b : Nat), b - a ≤ d → pathL (i + k) (a + k) (b + k) = (pathL i a b).map fun x => (x.1 + k, x.2 + k) := by
  induction d with
  | zero => intro i a b h; rw [pathL_small _ _ _ (by omega), pathL_small _ _ _ (by omega)]; rfl
  | succ d ih =>
    intro i a b h
    by_cases h2 : b - a < 2
    · rw [pathL_small _ _ _ (by omega), pathL_small _ _ _ h2]; rfl
    · have hl := splitN_lt (b - a) (by omega)
      have hp := splitN_pos (b - a) (by omega)
      have e : b + k - (a + k) = b - a := by omega
      by_cases hi : i < a + splitN (b - a)
      · rw [pathL_left (i + k) (a + k) (b + k) (by omega) (by rw [e]; omega), pathL_left i a b (by omega) hi, e, show a + k + splitN (b - a) = a + splitN (b - a) + k by omega, ih i a (a + splitN (b - a)) (by omega)]
        simp
      · rw [pathL_right (i + k) (a + k) (b + k) (by omega) (by rw [e]; omega), pathL_right i a b (by omega) hi, e, show a + k + splitN (b - a) = a + splitN (b - a) + k by omega, ih i (a + splitN (b - a)) b (by omega)]
        simp
theorem stretchL_take (hs : List (List UInt8)) (k a b : Nat) (h : b ≤ k) : stretchL (hs.take k) a b = stretchL hs a b := by
  unfold stretchL
  rw [List.drop_take, List.take_take, Nat.min_eq_left (by omega)]
theorem stretchL_drop (hs : List (List UInt8)) (k a b : Nat) : stretchL (hs.drop k) a b = stretchL hs (a + k) (b + k) := by
  unfold stretchL
  rw [List.drop_drop, show b + k - (a + k) = b - a by omega, show k + a = a + k by omega]
/-- the proof of an entry that is there -/
def rootsN (hs : List (List UInt8)) (i : Nat) : List (List UInt8) := rootsL hs (pathL i 0 hs.length)
theorem rootsN_left (hs : List (List UInt8)) (i : Nat) (h2 : 2 ≤ hs.length) (hi : i < splitN hs.length) : rootsN hs i = rootsN (hs.take (splitN hs.length)) i ++ [rootL (hs.drop (splitN hs.length))] := by
  have hl := splitN_lt hs.length h2
  have hok := pathL_ok (splitN hs.length) i 0 (splitN hs.length) (by omega) (by omega) hi
  unfold rootsN
  rw [pathL_left i 0 hs.length (by omega) (by simpa using hi), List.length_take, Nat.min_eq_left (by omega), Nat.sub_zero, Nat.zero_add]
  unfold rootsL
  rw [List.map_append]
  congr 1
  · refine List.map_congr_left fun x hx => ?_
    exact (stretchL_take hs _ _ _ (hok.each x hx).2.2.1).symm
  · simp only [List.map_cons, List.map_nil]
    unfold stretchL
    rw [List.take_of_length_le (by rw [List.length_drop]; exact Nat.le_refl _)]
theorem rootsN_right (hs : List (List UInt8)) (i : Nat) (h2 : 2 ≤ hs.length) (hi : ¬ i < splitN hs.length) : rootsN hs i = rootsN (hs.drop (splitN hs.length)) (i - splitN hs.length) ++ [rootL (hs.take (splitN hs.length))] := by
  have hl := splitN_lt hs.length h2
  unfold rootsN
  rw [pathL_right i 0 hs.length (by omega) (by simpa using hi), List.length_drop, Nat.sub_zero, Nat.zero_add]
  have hsh := pathL_shift (splitN hs.length) (hs.length - splitN hs.length) (i - splitN hs.length) 0 (hs.length - splitN hs.length) (by omega)
  rw [show i - splitN hs.length + splitN hs.length = i by omega, Nat.zero_add, show hs.length - splitN hs.length + splitN hs.length = hs.length by omega] at hsh
  rw [hsh]
  unfold rootsL
  rw [List.map_append, List.map_map]
  congr 1
  · refine List.map_congr_left fun x hx => ?_
    exact (stretchL_drop hs _ _ _).symm
theorem rootsN_small (hs : List (List UInt8)) (i : Nat) (h : hs.length < 2) : rootsN hs i = [] := by
  unfold rootsN
  rw [pathL_small _ _ _ (by omega)]; rfl
theorem rootsN_all (hs : List (List UInt8)) (h : H32 hs) (i : Nat) : H32 (rootsN hs i) := rootsL_all hs h _
theorem length_rootsN (hs : List (List UInt8)) (i : Nat) : (rootsN hs i).length = (pathL i 0 hs.length).length := by simp [rootsN, rootsL]
theorem rootsP_nat (hs : List (List UInt8)) (i : Int) (h0 : 0 ≤ i) (h1 : i < hs.length) : rootsP hs i = rootsN hs i.toNat ∧ (pathA i hs.length).2 = 0 := by
  unfold rootsP rootsN pathA
  rw [if_neg (by omega)]
  exact ⟨by rw [Int.toNat_natCast], rfl⟩
end Go.Proofs.Ytmglkblomklcbaa
