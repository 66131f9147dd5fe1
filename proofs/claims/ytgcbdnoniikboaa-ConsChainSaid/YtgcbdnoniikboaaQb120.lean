/- notarylaw09.known. -/
import Derived.Test.YtgcbdnoniikboaaQb119
import Derived.Test.YtgcbdnoniikboaaQb117
namespace Go.Proofs.Ytgcbdnoniikboaa
open Go Go.RowKit

theorem rootL_three (a b c : List UInt8) : rootL [a, b, c] = hNode (hNode a b) c := by
  rw [rootL_more _ (by simp), show splitN [a, b, c].length = 2 from (by decide : splitN 3 = 2)]
  show hNode (rootL [a, b]) (rootL [c]) = _
  rw [rootL_more [a, b] (by simp), show splitN [a, b].length = 1 from (by decide : splitN 2 = 1)]
  rfl
theorem path23 : pathL 2 0 3 = [(0, 2)] := by decide
theorem steps37 : stepsL 3 0 7 true = [(2, 3), (3, 4), (0, 2), (4, 7)] := by decide

structure KnC (w : World) (a b c : List UInt8) (Ap : Option Addr) (cp : Nat) (As : Option Addr) (cs : Nat) (W : World) : Prop where
  k1 : Blk W w.heap.size 34 (a.map B).toArray
  k2 : Blk W (w.heap.size + 1) 34 (b.map B).toArray
  k3 : Blk W (w.heap.size + 1 + 1) 34 (c.map B).toArray
  p : Rs W (fun _ => True) Ap 1 cp [(0, 2)]
  s : Rs W (fun _ => True) As 4 cs [(2, 3), (3, 4), (0, 2), (4, 7)]
  bel : Below w.heap.size w W
theorem KnC.step {w W W' : World} {a b c : List UInt8} {Ap As : Option Addr} {cp cs : Nat} (h : KnC w a b c Ap cp As cs W) (hb : Below W.heap.size W W') : KnC w a b c Ap cp As cs W' :=
  ⟨h.k1.below hb h.k1.lt, h.k2.below hb h.k2.lt, h.k3.below hb h.k3.lt, h.p.step hb, h.s.step hb, h.bel.trans (hb.mono h.bel.size)⟩

set_option maxHeartbeats 2000000 in
set_option maxRecDepth 100000 in
theorem known9_any (w : World) : Calls Try.prog 15 #[] w fun e w' => e = .returned (.bool true) ∧ Below w.heap.size w w' := by
  obtain ⟨a, ha⟩ : ∃ a, oneHash 1 = a := ⟨_, rfl⟩
  obtain ⟨b, hb⟩ : ∃ b, oneHash 2 = b := ⟨_, rfl⟩
  obtain ⟨c, hc⟩ : ∃ c, oneHash 3 = c := ⟨_, rfl⟩
  have hal : a.length = 32 := by rw [← ha]; exact length_oneHash _
  have hbl : b.length = 32 := by rw [← hb]; exact length_oneHash _
  have hcl : c.length = 32 := by rw [← hc]; exact length_oneHash _
  obtain ⟨zs, hzs⟩ : ∃ zs, zeroHash = zs := ⟨_, rfl⟩
  have hzl : zs.size = 32 := by rw [← hzs]; rfl
  obtain ⟨w1, hw1⟩ : ∃ w1, w.alloc (.cells zs 34) = w1 := ⟨_, rfl⟩
  obtain ⟨w2, hw2⟩ : ∃ w2, w1.alloc (.cells zs 34) = w2 := ⟨_, rfl⟩
  obtain ⟨w3, hw3⟩ : ∃ w3, w2.alloc (.cells zs 34) = w3 := ⟨_, rfl⟩
  have hs1 : w1.heap.size = w.heap.size + 1 := by rw [← hw1]; simp
  have hs2 : w2.heap.size = w.heap.size + 1 + 1 := by rw [← hw2]; simp [hs1]
  have z1 : Blk w3 w.heap.size 34 zs := by rw [← hw3, ← hw2, ← hw1]; exact ((Blk.new _ _ _).alloc _).alloc _
  have z2 : Blk w3 (w.heap.size + 1) 34 zs := by rw [← hw3, ← hw2]; exact (Blk.new' _ _ _ _ hs1.symm).alloc _
  have z3 : Blk w3 (w.heap.size + 1 + 1) 34 zs := by rw [← hw3]; exact Blk.new' _ _ _ _ hs2.symm
  have B3 : Below w.heap.size w w3 := by rw [← hw3, ← hw2, ← hw1]; exact (((Below.refl _ _).alloc (Nat.le_refl _) _).alloc (by simp) _).alloc (by simp; omega) _
  have z2' := z2.setRow_apart (g' := w.heap.size) (by omega) (a.map B).toArray
  have z3' := (z3.setRow_apart (g' := w.heap.size) (by omega) (a.map B).toArray).setRow_apart (g' := w.heap.size + 1) (by omega) (b.map B).toArray
  obtain ⟨w4, hw4⟩ : ∃ w4, ((w3.setRow w.heap.size (a.map B).toArray).setRow (w.heap.size + 1) (b.map B).toArray).setRow (w.heap.size + 1 + 1) (c.map B).toArray = w4 := ⟨_, rfl⟩
  have k1 : Blk w4 w.heap.size 34 (a.map B).toArray := by rw [← hw4]; exact ((z1.setRow_ _).setRow_apart (by omega) _).setRow_apart (by omega) _
  have k2 : Blk w4 (w.heap.size + 1) 34 (b.map B).toArray := by rw [← hw4]; exact ((z2.setRow_apart (by omega) _).setRow_ _).setRow_apart (by omega) _
  have k3 : Blk w4 (w.heap.size + 1 + 1) 34 (c.map B).toArray := by rw [← hw4]; exact ((z3.setRow_apart (by omega) _).setRow_apart (by omega) _).setRow_ _
  have B4 : Below w.heap.size w w4 := by rw [← hw4]; exact below_setRow (below_setRow (below_setRow B3 (Nat.le_refl _) _) (by omega) _) (by omega) _
  have hpath := tpath_ok 2 3 w4 (by decide) (by decide)
  rw [path23] at hpath
  have hsteps := fun W => tsteps_ok 3 7 W (by decide) (by decide) (by decide)
  rw [steps37] at hsteps
  obtain ⟨u, hu⟩ : ∃ u, hNode a b = u := ⟨_, rfl⟩
  have hul : u.length = 32 := by rw [← hu]; exact length_hNode _ _
  obtain ⟨t, ht⟩ : ∃ t, hNode u c = t := ⟨_, rfl⟩
  have htl : t.length = 32 := by rw [← ht]; exact length_hNode _ _
  obtain ⟨z, hz⟩ : ∃ z, hEmpty = z := ⟨_, rfl⟩
  have hzzl : z.length = 32 := by rw [← hz]; exact length_hEmpty
  have hab : H32 [a, b, c] := by
    intro h hh
    simp only [List.mem_cons, List.not_mem_nil, or_false] at hh
    rcases hh with rfl | rfl | rfl
    · exact hal
    · exact hbl
    · exact hcl
  have hof := fun W A (h : Hs W (fun _ => True) A 3 3 [a, b, c]) => tof_any [a, b, c] A 3 3 W h (by decide)
  rw [rootL_three, hu, ht] at hof
  have hof0 := fun W => tof_any [] none 0 0 W Hs.empty (by decide)
  rw [show rootL [] = z from hz] at hof0
  have hem := rempty_any
  rw [hz] at hem
  have Ha := Lib.hid ha
  have Hb := Lib.hid hb
  have Hc := Lib.hid hc
  have Hal := Lib.hid hal
  have Hbl := Lib.hid hbl
  have Hcl := Lib.hid hcl
  have Hzs := Lib.hid hzs
  have Hzl := Lib.hid hzl
  have Hw1 := Lib.hid hw1
  have Hw2 := Lib.hid hw2
  have Hw3 := Lib.hid hw3
  have Hw4 := Lib.hid hw4
  have Hs1 := Lib.hid hs1
  have Hs2 := Lib.hid hs2
  have Hpath := Lib.hid hpath
  have Hsteps := Lib.hid hsteps
  have Hu := Lib.hid hu
  have Hul := Lib.hid hul
  have Ht := Lib.hid ht
  have Htl := Lib.hid htl
  have Hzzl := Lib.hid hzzl
  have Hof := Lib.hid hof
  have Hof0 := Lib.hid hof0
  have Hem := Lib.hid hem
  clear ha hb hc hal hbl hcl hzs hzl hw1 hw2 hw3 hw4 hs1 hs2 hpath hsteps hu hul ht htl hz hzzl hof hof0 hem z2 z3 B3
  go_enter Try.func15, Try.ntmps15
  go_wp2_with (first
    | ((with_reducible show wpList _ _ _ (⟨some 8, .build _ _, _, _, _, _⟩ :: _) _ _); refine wpList_run0 rfl (.agg (a.map B).toArray) (by rw [← Ha.out]; kernel_rfl) ?_; simp only [Act.put])
    | ((with_reducible show wpList _ _ _ (⟨some 9, .build _ _, _, _, _, _⟩ :: _) _ _); refine wpList_run0 rfl (.agg (b.map B).toArray) (by rw [← Hb.out]; kernel_rfl) ?_; simp only [Act.put])
    | ((with_reducible show wpList _ _ _ (⟨some 10, .build _ _, _, _, _, _⟩ :: _) _ _); refine wpList_run0 rfl (.agg (c.map B).toArray) (by rw [← Hc.out]; kernel_rfl) ?_; simp only [Act.put])
    | ((with_reducible show wpList _ _ _ (⟨some 1, .alloc _, _, _, _, _⟩ :: _) _ _); refine wpList_run rfl (.pointer (some ⟨w.heap.size, 0, none⟩)) w1 (by rw [← Hw1.out, ← Hzs.out]; rfl) ?_; simp only [Act.put])
    | ((with_reducible show wpList _ _ _ (⟨some 2, .alloc _, _, _, _, _⟩ :: _) _ _); refine wpList_run rfl (.pointer (some ⟨w.heap.size + 1, 0, none⟩)) w2 (by rw [← Hw2.out, ← Hzs.out, ← Hs1.out]; rfl) ?_; simp only [Act.put])
    | ((with_reducible show wpList _ _ _ (⟨some 3, .alloc _, _, _, _, _⟩ :: _) _ _); refine wpList_run rfl (.pointer (some ⟨w.heap.size + 1 + 1, 0, none⟩)) w3 (by rw [← Hw3.out, ← Hzs.out, ← Hs2.out]; rfl) ?_; simp only [Act.put])
    | ((with_reducible show wpList _ _ _ (⟨none, .store _ (.tmp 1) _, _, _, _, _⟩ :: _) _ _); refine wpList_store_blk rfl 34 (.tmp 1) (.tmp 8) rfl 32 size26 w.heap.size (a.map B).toArray rfl rfl (by simp [Hal.out]) (oneCell_B _) 34 _ z1 Hzl.out ?_; simp only [Act.put])
    | ((with_reducible show wpList _ _ _ (⟨none, .store _ (.tmp 2) _, _, _, _, _⟩ :: _) _ _); refine wpList_store_blk rfl 34 (.tmp 2) (.tmp 9) rfl 32 size26 (w.heap.size + 1) (b.map B).toArray rfl rfl (by simp [Hbl.out]) (oneCell_B _) 34 _ z2' Hzl.out ?_; simp only [Act.put])
    | ((with_reducible show wpList _ _ _ (⟨none, .store _ (.tmp 3) _, _, _, _, _⟩ :: _) _ _); refine wpList_store_blk rfl 34 (.tmp 3) (.tmp 10) rfl 32 size26 (w.heap.size + 1 + 1) (c.map B).toArray rfl rfl (by simp [Hcl.out]) (oneCell_B _) 34 _ z3' Hzl.out ?_; rw [Hw4.out]; simp only [Act.put]))
  refine Hpath.out.mono ?_
  rintro e w5 ⟨vp, rfl, hop, b5⟩
  clear z1 z2' z3'
  go_wp2_with fail
  refine (Hsteps.out _).mono ?_
  rintro e w6 ⟨vs, rfl, hos, b6⟩
  obtain ⟨Ap, cp, rfl, hp⟩ := Rs.of_owns (owns_step hop b6) rfl
  obtain ⟨As, cs, rfl, hs⟩ := Rs.of_owns hos rfl
  have hK9 : KnC w a b c Ap cp As cs w6 := ⟨(k1.below b5 k1.lt).below b6 (Nat.lt_of_lt_of_le k1.lt b5.size), (k2.below b5 k2.lt).below b6 (Nat.lt_of_lt_of_le k2.lt b5.size), (k3.below b5 k3.lt).below b6 (Nat.lt_of_lt_of_le k3.lt b5.size), hp.weak fun _ _ _ => trivial, hs.weak fun _ _ _ => trivial, (B4.trans (b5.mono B4.size)).trans (b6.mono (Nat.le_trans B4.size b5.size))⟩
  clear k1 k2 k3 B4 hop hos hp hs b5 b6 Hpath Hsteps
  go_wp2_with fail
  have hS : Below w6.heap.size w6 w6.drew := (Below.refl _ _).drew
  refine wp_region_mix (fun W => Below w6.heap.size w6 W) [(0, true), (1, true), (2, true), (5, true), (6, true), (8, true), (3, false), (4, false), (7, false), (9, false), (10, true), (11, true), (12, false), (13, false), (14, true), (15, true), (16, true), (17, true), (18, true), (19, true), (20, true), (21, true), (22, true), (23, false), (24, false), (25, true), (26, true), (27, true), (28, true), (29, true), (30, true), (31, true), (32, true), (33, true), (34, true), (35, true), (36, false), (37, false), (38, true), (39, true)] (by kernel_rfl) (by kernel_rfl) hS fun _ => ?_
  simp only [List.map_cons, List.map_nil, Array.getD_eq_getD_getElem?, List.getElem?_toArray, List.getElem?_cons_succ, List.getElem?_cons_zero, Option.getD_some]
  generalize w6.drew = W0 at hS ⊢
  refine wpMix_load (by kernel_rfl) 34 (.tmp 1) rfl (w.heap.size) (0) rfl (a.map B).toArray (fun s => run_load_blk (agg26 _) (size26 _) _ _ (by simp [Hal.out]) (hK9.step s.ok).k1) ?_
  simp only [Act.put]
  refine wpMix_load (by kernel_rfl) 34 (.tmp 2) rfl (w.heap.size + 1) (0) rfl (b.map B).toArray (fun s => run_load_blk (agg26 _) (size26 _) _ _ (by simp [Hbl.out]) (hK9.step s.ok).k2) ?_
  simp only [Act.put]
  refine wpMix_load (by kernel_rfl) 34 (.tmp 3) rfl (w.heap.size + 1 + 1) (0) rfl (c.map B).toArray (fun s => run_load_blk (agg26 _) (size26 _) _ _ (by simp [Hcl.out]) (hK9.step s.ok).k3) ?_
  simp only [Act.put]
  refine wpMix_load (by kernel_rfl) 34 (.tmp 1) rfl (w.heap.size) (0) rfl (a.map B).toArray (fun s => run_load_blk (agg26 _) (size26 _) _ _ (by simp [Hal.out]) (hK9.step s.ok).k1) ?_
  simp only [Act.put]
  refine wpMix_load (by kernel_rfl) 34 (.tmp 2) rfl (w.heap.size + 1) (0) rfl (b.map B).toArray (fun s => run_load_blk (agg26 _) (size26 _) _ _ (by simp [Hbl.out]) (hK9.step s.ok).k2) ?_
  simp only [Act.put]
  refine wpMix_load (by kernel_rfl) 34 (.tmp 3) rfl (w.heap.size + 1 + 1) (0) rfl (c.map B).toArray (fun s => run_load_blk (agg26 _) (size26 _) _ _ (by simp [Hcl.out]) (hK9.step s.ok).k3) ?_
  simp only [Act.put]
  have hL := Hs.lit W0 [a, b, c] hab (by simp) 3 rfl
  have hA0 : Below W0.heap.size W0 (W0.alloc (.cells (hcells [a, b, c]).toArray 34)) := (Below.refl _ _).alloc (Nat.le_refl _) _
  refine wpMix_run (by kernel_rfl) _ _ (run_lit_op [a, b, c] hab (by simp) (by simp) 3 _ rfl (by simp [Act.eval]) rfl _) (hS.trans (hA0.mono hS.size)) ?_
  simp only [Act.put]
  replace hS := hS.trans (hA0.mono hS.size)
  generalize W0.alloc (.cells (hcells [a, b, c]).toArray 34) = W1 at hS hL ⊢
  refine wpMix_c (fun K hK => ?_) hS
  go_simp
  refine (Hof.out W1 _ hL).mono ?_
  rintro e W2 ⟨rfl, hb'⟩
  refine hK _ _ ?_
  clear hK K
  replace hS := hS.trans (hb'.mono hS.size)
  refine ⟨hS, ?_⟩
  clear hb'
  clear hL hA0
  refine wpMix_c (fun K hK => ?_) hS
  go_simp
  refine (hrnode_any a b W2 Hal.out Hbl.out).mono ?_
  rintro e W3 ⟨rfl, hb'⟩
  refine hK _ _ ?_
  clear hK K
  replace hS := hS.trans (hb'.mono hS.size)
  refine ⟨hS, ?_⟩
  clear hb'
  rw [Hu.out]
  refine wpMix_c (fun K hK => ?_) hS
  go_simp
  refine (hrnode_any u c W3 Hul.out Hcl.out).mono ?_
  rintro e W4 ⟨rfl, hb'⟩
  refine hK _ _ ?_
  clear hK K
  replace hS := hS.trans (hb'.mono hS.size)
  refine ⟨hS, ?_⟩
  clear hb'
  rw [Ht.out]
  refine wpMix_v (by kernel_rfl) (.bool true) (fun s => run_eql26_t (.tmp 23) (.tmp 28) _ t t rfl rfl rfl Htl.out Htl.out rfl s.W) ?_
  simp only [Act.put]
  refine wpMix_s (fun K hK => ?_)
  go_simp
  refine hK _ ?_
  clear hK K
  refine wpMix_c (fun K hK => ?_) hS
  go_simp
  refine (Hof0.out W4).mono ?_
  rintro e W5 ⟨rfl, hb'⟩
  refine hK _ _ ?_
  clear hK K
  replace hS := hS.trans (hb'.mono hS.size)
  refine ⟨hS, ?_⟩
  clear hb'
  refine wpMix_c (fun K hK => ?_) hS
  go_simp
  refine (Hem.out W5).mono ?_
  rintro e W6 ⟨rfl, hb'⟩
  refine hK _ _ ?_
  clear hK K
  replace hS := hS.trans (hb'.mono hS.size)
  refine ⟨hS, ?_⟩
  clear hb'
  refine wpMix_v (by kernel_rfl) (.bool true) (fun s => run_eql26_t (.tmp 31) (.tmp 32) _ z z rfl rfl rfl Hzzl.out Hzzl.out rfl s.W) ?_
  simp only [Act.put]
  refine wpMix_s (fun K hK => ?_)
  go_simp
  refine hK _ ?_
  clear hK K
  refine wpMix_s (fun K hK => ?_)
  go_simp
  refine hK _ ?_
  clear hK K
  refine wpMix_s (fun K hK => ?_)
  go_simp
  refine hK _ ?_
  clear hK K
  refine wpMix_s (fun K hK => ?_)
  go_simp
  refine hK _ ?_
  clear hK K
  refine wpMix_s (fun K hK => ?_)
  go_simp
  refine hK _ ?_
  clear hK K
  refine wpMix_s (fun K hK => ?_)
  go_simp
  refine hK _ ?_
  clear hK K
  refine wpMix_s (fun K hK => ?_)
  go_simp
  refine hK _ ?_
  clear hK K
  refine wpMix_s (fun K hK => ?_)
  go_simp
  refine hK _ ?_
  clear hK K
  refine wpMix_c (fun K hK => ?_) hS
  go_simp
  refine hK _ _ ?_
  clear hK K
  refine mix_world (fun W => Below w6.heap.size w6 W ∧ Rs W (fun _ => True) (some ⟨W6.heap.size, 0, none⟩) 1 1 [(0, 2)]) ⟨hS.alloc hS.size _, Rs.lit W6 [(0, 2)] (by simp) 1 rfl⟩ (fun _ h => h.1) ?_
  clear hS
  rintro W7 ⟨hS, hL⟩
  refine wpMix_c (fun K hK => ?_) hS
  go_simp
  refine (samer_any [(0, 2)] Ap _ 1 cp 1 W7 (hK9.step hS).p hL (by decide)).mono ?_
  rintro e W8 ⟨rfl, hb'⟩
  refine hK _ _ ?_
  clear hK K
  replace hS := hS.trans (hb'.mono hS.size)
  refine ⟨hS, ?_⟩
  clear hb'
  clear hL
  refine wpMix_s (fun K hK => ?_)
  go_simp
  refine hK _ ?_
  clear hK K
  refine wpMix_s (fun K hK => ?_)
  go_simp
  refine hK _ ?_
  clear hK K
  refine wpMix_s (fun K hK => ?_)
  go_simp
  refine hK _ ?_
  clear hK K
  refine wpMix_s (fun K hK => ?_)
  go_simp
  refine hK _ ?_
  clear hK K
  refine wpMix_s (fun K hK => ?_)
  go_simp
  refine hK _ ?_
  clear hK K
  refine wpMix_s (fun K hK => ?_)
  go_simp
  refine hK _ ?_
  clear hK K
  refine wpMix_s (fun K hK => ?_)
  go_simp
  refine hK _ ?_
  clear hK K
  refine wpMix_s (fun K hK => ?_)
  go_simp
  refine hK _ ?_
  clear hK K
  refine wpMix_s (fun K hK => ?_)
  go_simp
  refine hK _ ?_
  clear hK K
  refine wpMix_s (fun K hK => ?_)
  go_simp
  refine hK _ ?_
  clear hK K
  refine wpMix_s (fun K hK => ?_)
  go_simp
  refine hK _ ?_
  clear hK K
  refine wpMix_c (fun K hK => ?_) hS
  go_simp
  refine hK _ _ ?_
  clear hK K
  refine mix_world (fun W => Below w6.heap.size w6 W ∧ Rs W (fun _ => True) (some ⟨W8.heap.size, 0, none⟩) 4 4 [(2, 3), (3, 4), (0, 2), (4, 7)]) ⟨hS.alloc hS.size _, Rs.lit W8 [(2, 3), (3, 4), (0, 2), (4, 7)] (by simp) 4 rfl⟩ (fun _ h => h.1) ?_
  clear hS
  rintro W9 ⟨hS, hL⟩
  refine wpMix_c (fun K hK => ?_) hS
  go_simp
  refine (samer_any [(2, 3), (3, 4), (0, 2), (4, 7)] As _ 4 cs 4 W9 (hK9.step hS).s hL (by decide)).mono ?_
  rintro e W10 ⟨rfl, hb'⟩
  refine hK _ _ ?_
  clear hK K
  replace hS := hS.trans (hb'.mono hS.size)
  refine ⟨hS, ?_⟩
  clear hb'
  clear hL
  refine wpMix_s (fun K hK => ?_)
  go_simp
  refine hK _ ?_
  clear hK K
  refine wpMix_s (fun K hK => ?_)
  go_simp
  refine hK _ ?_
  clear hK K
  refine wpMix_nil ?_
  intro _
  go_wp2_with fail
  go_ret
  exact ⟨rfl, hK9.bel.trans (hS.mono hK9.bel.size)⟩
end Go.Proofs.Ytgcbdnoniikboaa
/- tree.Whole, notaryref09.Whole. -/
namespace Go.Proofs.Ytgcbdnoniikboaa
open Go Go.RowKit

theorem bit_one (n i : Nat) (h : n / 2 ^ i % 2 = 1) : n % 2 ^ (i + 1) = 2 ^ i + n % 2 ^ i := by
  rw [Nat.mod_pow_succ, h, Nat.mul_one, Nat.add_comm]
theorem bit_zero (n i : Nat) (h : n / 2 ^ i % 2 = 0) : n % 2 ^ (i + 1) = n % 2 ^ i := by
  rw [Nat.mod_pow_succ, h, Nat.mul_zero, Nat.add_zero]
theorem wholeL_bit (a n i : Nat) (h : n / 2 ^ i % 2 = 1) : wholeL a (n % 2 ^ (i + 1)) = (a, a + 2 ^ i) :: wholeL (a + 2 ^ i) (n % 2 ^ i) := by
  have hp := Nat.two_pow_pos i
  have hlt : n % 2 ^ i < 2 ^ i := Nat.mod_lt _ hp
  rw [bit_one n i h]
  have hlog : (2 ^ i + n % 2 ^ i).log2 = i := (Nat.log2_eq_iff (by omega)).2 ⟨by omega, by rw [Nat.pow_succ]; omega⟩
  rw [wholeL_more a _ (by omega), hlog, Nat.add_sub_cancel_left]

theorem i64_and_one (a : Nat) (ha : a < 9223372036854775808) : bits .and .i64 (a : Int) 1 = ((a % 2 : Nat) : Int) := by
  have e : a &&& 1 = a % 2 := Nat.and_one_is_mod a
  show IntKind.i64.wrap ((BitVec.ofInt 64 (a : Int) &&& BitVec.ofInt 64 ((1 : Nat) : Int)).toNat : Int) = _
  rw [BitVec.toNat_and, ofInt_u64 a (by omega), ofInt_u64 1 (by omega), e, IntKind.wrap_i64]
  omega
theorem wholeL_len (d : Nat) : ∀ a n : Nat, n < 2 ^ d → (wholeL a n).length ≤ d + 1 := by
  induction d with
  | zero => intro a n h; rw [show n = 0 by omega, wholeL_zero]; simp
  | succ d ih =>
    intro a n h
    by_cases hn : n = 0
    · subst hn; rw [wholeL_zero]; simp
    · rw [wholeL_more a n hn, List.length_cons]
      have h1 := Nat.log2_self_le hn
      have h2 := Nat.lt_log2_self (n := n)
      have hl : n.log2 ≤ d := by
        have : n.log2 < d + 1 := (Nat.log2_lt hn).2 h
        omega
      have h3 : 2 ^ n.log2 ≤ 2 ^ d := Nat.pow_le_pow_right (by decide) hl
      rw [Nat.pow_succ] at h2
      have := ih (a + 2 ^ n.log2) (n - 2 ^ n.log2) (by omega)
      omega

set_option maxHeartbeats 1000000 in
set_option maxRecDepth 100000 in
theorem twhole_any (n : Int) (w : World) (hn : n ≤ 9223372036854775807) :
    Calls Try.prog 21 #[.int .i64 n] w fun e w' => ∃ v, e = .returned v ∧ w'.ownsRow w.heap.size 29 2 v (wholeL 0 n.toNat).length (rcells (natR (wholeL 0 n.toNat))) ∧ Below w.heap.size w w' := by
  by_cases h0 : n ≤ 0
  · rw [show n.toNat = 0 by omega, wholeL_zero]
    have hd : decide (0 < n) = false := by simp; omega
    go_enter Try.func21, Try.ntmps21
    go_wp2_with fail
    go_loopw [3, 5] (fun o i wr => o = .slice none 0 0 ∧ i = .int .i64 62 ∧ w = wr) (fun _ _ _ => 0)
    case atStart => exact ⟨rfl, rfl, rfl⟩
    case round =>
      obtain ⟨rfl, rfl, rfl⟩ := hrel
      go_wp2_with fail
      go_ret
      exact ⟨_, rfl, World.ownsRow_nil _ _ _ _, Below.refl _ _⟩
  · obtain ⟨m, rfl⟩ : ∃ m : Nat, n = (m : Int) := ⟨n.toNat, by omega⟩
    rw [Int.toNat_natCast]
    have hd : decide (0 < (m : Int)) = true := by simp; omega
    have hd' : decide (0 < m) = true := by simp; omega
    obtain ⟨p, hp⟩ : ∃ p, wholeL 0 m = p := ⟨_, rfl⟩
    rw [hp]
    have Hp := Lib.hid hp
    clear hp
    go_enter Try.func21, Try.ntmps21
    go_wp2_with fail
    go_loopw [3, 4, 5] (fun o t i wr => ∃ (j a : Nat) (v : Value) (os : List (Nat × Nat)), j ≤ 63 ∧ i = .int .i64 ((j : Int) - 1) ∧ t = .int .i64 (a : Int) ∧ v = o ∧ a + m % 2 ^ j = m ∧ os.length + j ≤ 63 ∧ os ++ wholeL a (m % 2 ^ j) = p ∧ PtC w os v wr) (fun _ _ i => fun _ => (intOf i + 1).toNat)
    case atStart => exact ⟨63, 0, _, [], Nat.le_refl _, rfl, rfl, rfl, by rw [Nat.mod_eq_of_lt (by omega)]; omega, Nat.le_refl _, by rw [Nat.mod_eq_of_lt (by omega)]; exact Hp.out, World.ownsRow_nil _ _ _ _, Below.refl _ _⟩
    case round =>
      obtain ⟨j, a, v, os, hj, rfl, rfl, rfl, ha, hol, hos, hC⟩ := hrel
      by_cases hj0 : j = 0
      · subst hj0
        have hos' : os = p := by rw [← hos, Nat.pow_zero, Nat.mod_one, wholeL_zero, List.append_nil]
        subst hos'
        clear hos ha
        have ho := hC.own
        have hb := hC.bel
        go_wp2_with fail
        go_ret
        exact ⟨_, rfl, ho, hb⟩
      · obtain ⟨i, rfl⟩ : ∃ i, j = i + 1 := ⟨j - 1, by omega⟩
        have hi62 : i ≤ 62 := by omega
        have hpl := pow63_lt i 63 (by omega) (Nat.le_refl _)
        have ei : (((i + 1 : Nat) : Int) - 1) = (i : Int) := by omega
        rw [ei]
        have hi0 : (0 : Int) ≤ (i : Int) := by omega
        clear ei
        have hk2 : (2 : Int) ^ i = ((2 ^ i : Nat) : Int) := by simp
        have hba : bits .and .i64 ((m : Int) / ((2 ^ i : Nat) : Int)) 1 = ((m / 2 ^ i % 2 : Nat) : Int) := by
          rw [← Int.natCast_ediv]
          exact i64_and_one (m / 2 ^ i) (Nat.lt_of_le_of_lt (Nat.div_le_self _ _) (by omega))
        have hal : a + m % 2 ^ i ≤ m := by
          have := Nat.mod_pow_succ (b := 2) (x := m) (k := i)
          have h2 : m % 2 ^ i ≤ m % 2 ^ (i + 1) := by rw [this]; exact Nat.le_add_right _ _
          omega
        rcases Nat.mod_two_eq_zero_or_one (m / 2 ^ i) with hb | hb
        · have hz := bit_zero m i hb
          rw [hz] at ha hos
          rw [hb] at hba
          obtain ⟨k, hk⟩ : ∃ k, 2 ^ i = k := ⟨_, rfl⟩
          rw [hk] at hba hk2 hpl
          have Ha := Lib.hid ha
          have Hos := Lib.hid hos
          clear ha hos hb hz hj0 hk hal
          go_wp2_with fail
          refine ⟨⟨i, a, v, os, by omega, by go_num, rfl, rfl, Ha.out, by omega, Hos.out, hC⟩, by simp [intOf]⟩
        · have hz := wholeL_bit a m i hb
          have hz2 := bit_one m i hb
          rw [hz] at hos
          rw [hz2] at ha
          rw [hb] at hba
          obtain ⟨r, hr⟩ : ∃ r, m % 2 ^ i = r := ⟨_, rfl⟩
          obtain ⟨k, hk⟩ : ∃ k, 2 ^ i = k := ⟨_, rfl⟩
          rw [hr, hk] at ha
          rw [hk] at hos hba hk2 hpl
          obtain ⟨v', w', hr', ho, hg, -⟩ := append_r hC.own ((a : Int), ((a + k : Nat) : Int)) (by omega) hC.bel.size
          rw [show natR os ++ [((a : Int), ((a + k : Nat) : Int))] = natR (os ++ [(a, a + k)]) by rw [natR_append]; rfl, show os.length + 1 = (os ++ [(a, a + k)]).length by simp] at ho
          rw [show ((a + k : Nat) : Int) = (a : Int) + (k : Int) by omega] at hr'
          have hC2 : PtC w (os ++ [(a, a + k)]) v' w' := ⟨ho, hC.bel.grown hg hC.bel.size (fun k hk => (hC.own.lt k hk).1)⟩
          have hakm : a + k ≤ m := by omega
          have Ha := Lib.hid ha
          have Hos := Lib.hid hos
          have Hr := Lib.hid hr
          have Hk := Lib.hid hk
          have Hr' := Lib.hid hr'
          clear ha hos hb hz hz2 hj0 hk hr hr' ho hg hC hal
          go_wp2_with ((with_reducible show wpList _ _ _ (⟨some 27, .call _, _, _, _, _⟩ :: _) _ _); refine wpList_run rfl v' w' (run_append_op (.tmp 19) (.tmp 26) 22 rfl _ _ rfl rfl Hr'.out) ?_; simp only [Act.put])
          refine ⟨⟨i, a + k, v', os ++ [(a, a + k)], by omega, by go_num, by go_num, rfl, by rw [Hr.out]; have := Ha.out; omega, by rw [List.length_append]; simp; omega, by rw [List.append_assoc, ← Hos.out, Hk.out]; rfl, hC2⟩, by simp [intOf]⟩

/-- the greatest power of two that is not above n -/
theorem log2_of_pow (n j : Nat) (h1 : 2 ^ j ≤ n) (h2 : n < 2 ^ (j + 1)) : n.log2 = j := (Nat.log2_eq_iff (by have := Nat.two_pow_pos j; omega)).2 ⟨h1, h2⟩

set_option maxHeartbeats 1000000 in
set_option maxRecDepth 100000 in
theorem rwhole_any (n : Int) (w : World) (hn : n ≤ 9223372036854775807) :
    Calls Try.prog 22 #[.int .i64 n] w fun e w' => ∃ v, e = .returned v ∧ w'.ownsRow w.heap.size 29 2 v (wholeL 0 n.toNat).length (rcells (natR (wholeL 0 n.toNat))) ∧ Below w.heap.size w w' := by
  by_cases h0 : n ≤ 0
  · rw [show n.toNat = 0 by omega, wholeL_zero]
    have hd : decide (0 < n) = false := by simp; omega
    go_enter Try.func22, Try.ntmps22
    go_wp2_with fail
    go_loopw [3, 4] (fun o i wr => o = .slice none 0 0 ∧ i = .int .i64 0 ∧ w = wr) (fun _ _ _ => 0)
    case atStart => exact ⟨rfl, rfl, rfl⟩
    case round =>
      obtain ⟨rfl, rfl, rfl⟩ := hrel
      go_wp2_with fail
      go_ret
      exact ⟨_, rfl, World.ownsRow_nil _ _ _ _, Below.refl _ _⟩
  · obtain ⟨m, rfl⟩ : ∃ m : Nat, n = (m : Int) := ⟨n.toNat, by omega⟩
    rw [Int.toNat_natCast]
    obtain ⟨p, hp⟩ : ∃ p, wholeL 0 m = p := ⟨_, rfl⟩
    have hpl : p.length ≤ 64 := by rw [← hp]; exact wholeL_len 63 0 m (by omega)
    rw [hp]
    have Hp := Lib.hid hp
    clear hp
    go_enter Try.func22, Try.ntmps22
    go_wp2_with fail
    go_loopw [3, 4] (fun o t wr => ∃ (a : Nat) (v : Value) (os : List (Nat × Nat)), t = .int .i64 (a : Int) ∧ v = o ∧ a ≤ m ∧ os ++ wholeL a (m - a) = p ∧ PtC w os v wr) (fun _ t => fun _ => m - (intOf t).toNat)
    case atStart => exact ⟨0, _, [], rfl, rfl, Nat.zero_le _, by simpa using Hp.out, World.ownsRow_nil _ _ _ _, Below.refl _ _⟩
    case round =>
      obtain ⟨a, v, os, rfl, rfl, ha, hos, hC⟩ := hrel
      have hol : os.length ≤ 64 := by have := congrArg List.length hos; rw [List.length_append] at this; omega
      obtain ⟨wo, hwo⟩ : ∃ wo : World, wo = wr := ⟨_, rfl⟩
      subst hwo
      by_cases hlt : a < m
      · have hmore := wholeL_more a (m - a) (by omega)
        rw [hmore] at hos
        have Hos := Lib.hid hos
        clear hos hmore
        go_wp2_with fail
        go_loop [5] (fun v => ∃ j k : Nat, 1 ≤ k ∧ k ≤ m - a ∧ k = 2 ^ j ∧ v = .int .i64 (k : Int)) (fun v => m - (intOf v).toNat)
        case atStart => exact ⟨0, 1, by omega, by omega, rfl, rfl⟩
        case round =>
          obtain ⟨j, k, hk1, hkm, hk, rfl⟩ := hrel
          by_cases hk2 : k ≤ m - a - k
          · have Hk := Lib.hid hk
            clear hk
            have hd : decide ((k : Int) ≤ (m : Int) - (a : Int) - (k : Int)) = true := by simp; omega
            go_wp2_with fail
            go_round
            case rel => exact ⟨j + 1, 2 * k, by omega, by omega, by rw [Nat.pow_succ, Hk.out]; omega, by go_num⟩
            case measure => simp [intOf]; omega
          · have hlog : (m - a).log2 = j := log2_of_pow _ _ (by omega) (by rw [Nat.pow_succ]; omega)
            have hos := Hos.out
            rw [hlog, ← hk] at hos
            have hd : decide ((k : Int) ≤ (m : Int) - (a : Int) - (k : Int)) = false := by simp; omega
            obtain ⟨v', w', hr', ho, hg, -⟩ := append_r hC.own ((a : Int), ((a + k : Nat) : Int)) (by omega) hC.bel.size
            rw [show natR os ++ [((a : Int), ((a + k : Nat) : Int))] = natR (os ++ [(a, a + k)]) by rw [natR_append]; rfl, show os.length + 1 = (os ++ [(a, a + k)]).length by simp] at ho
            rw [show ((a + k : Nat) : Int) = (a : Int) + (k : Int) by omega] at hr'
            have hC2 : PtC w (os ++ [(a, a + k)]) v' w' := ⟨ho, hC.bel.grown hg hC.bel.size (fun k hk => (hC.own.lt k hk).1)⟩
            have hakm : a + k ≤ m := by omega
            have Hos2 := Lib.hid hos
            have Hr' := Lib.hid hr'
            clear hos hk hlog hr' ho hg hC Hos
            go_wp2_with ((with_reducible show wpList _ _ _ (⟨some 25, .call _, _, _, _, _⟩ :: _) _ _); refine wpList_run rfl v' w' (run_append_op (.tmp 18) (.tmp 24) 22 rfl _ _ rfl rfl Hr'.out) ?_; simp only [Act.put])
            refine ⟨⟨a + k, v', os ++ [(a, a + k)], by go_num, rfl, hakm, by rw [List.append_assoc, ← Hos2.out, show m - (a + k) = m - a - k by omega]; rfl, hC2⟩, by simp [intOf]; omega⟩
      · have hos' : os = p := by rw [← hos, show m - a = 0 by omega, wholeL_zero, List.append_nil]
        subst hos'
        have ho := hC.own
        have hb := hC.bel
        clear hos hC
        go_wp2_with fail
        go_ret
        exact ⟨_, rfl, ho, hb⟩
end Go.Proofs.Ytgcbdnoniikboaa
/- notaryref09.path, Path, steps, Steps. -/
namespace Go.Proofs.Ytgcbdnoniikboaa
open Go Go.RowKit

/-- one stretch more, behind what a call has told -/
theorem PtC.app {w W : World} {os : List (Nat × Nat)} {v : Value} (h : PtC w os v W) (x : Nat × Nat) (hl : os.length ≤ 1000) :
    ∃ v' w', (Builtin.append_ #[22, 22] 22 #[v, .slice (some ⟨W.heap.size, 0, none⟩) 1 1]).run Try.prog (W.alloc (.cells #[.int .i64 (x.1 : Int), .int .i64 (x.2 : Int)] 29)) = .ok v' w' ∧ PtC w (os ++ [x]) v' w' := by
  obtain ⟨v', w', hr, ho, hg, -⟩ := append_r h.own ((x.1 : Int), (x.2 : Int)) (by omega) h.bel.size
  rw [show natR os ++ [((x.1 : Int), (x.2 : Int))] = natR (os ++ [x]) by rw [natR_append]; rfl, show os.length + 1 = (os ++ [x]).length by simp] at ho
  exact ⟨v', w', hr, ho, h.bel.grown hg h.bel.size (fun k hk => (h.own.lt k hk).1)⟩

set_option maxHeartbeats 1000000 in
set_option maxRecDepth 100000 in
theorem rpath_rec (d : Nat) : ∀ (i a b : Nat) (w : World), b - a ≤ d → a ≤ b → b ≤ 9223372036854775807 →
    Calls Try.prog 60 #[.int .i64 (i : Int), .int .i64 (a : Int), .int .i64 (b : Int)] w fun e w' => ∃ v, e = .returned v ∧ PtC w (pathL i a b) v w' := by
  induction d using Nat.strongRecOn with
  | ind d ih =>
  intro i a b w hd hab hb
  have hpl : (pathL i a b).length ≤ 63 := pathL_len 63 i a b (by omega)
  by_cases h2 : b - a < 2
  · rw [pathL_small i a b h2]
    have hd : decide ((b : Int) - (a : Int) < 2) = true := by simp; omega
    clear ih
    go_enter Try.func60, Try.ntmps60
    go_wp2_with fail
    go_ret
    exact ⟨_, rfl, World.ownsRow_nil _ _ _ _, Below.refl _ _⟩
  · have hdd : decide ((b : Int) - (a : Int) < 2) = false := by simp; omega
    have hsl := splitN_lt (b - a) (by omega)
    have hsp := splitN_pos (b - a) (by omega)
    have hle := pathL_left i a b (by omega)
    have hri := pathL_right i a b (by omega)
    have hspl := fun w => rsplit_any ((b : Int) - (a : Int)) w (by omega)
    rw [show ((b : Int) - (a : Int)).toNat = b - a by omega] at hspl
    obtain ⟨s, hs⟩ : ∃ s, splitN (b - a) = s := ⟨_, rfl⟩
    rw [hs] at hspl hsl hsp hle hri
    have Hspl := Lib.hid hspl
    clear hspl hs
    by_cases hi : i < a + s
    · have hd3 : decide ((i : Int) < (a : Int) + (s : Int)) = true := by simp; omega
      have hp := hle hi
      rw [hp, List.length_append, List.length_singleton] at hpl
      rw [hp]
      have hih := ih (a + s - a) (by omega) i a (a + s) w (Nat.le_refl _) (by omega) (by omega)
      rw [show ((a + s : Nat) : Int) = (a : Int) + (s : Int) by omega] at hih
      have Hih := Lib.hid hih
      clear hih ih hle hri hp
      go_enter Try.func60, Try.ntmps60
      go_wp2_with (go_at_call 26; refine (Hspl.out _).mono ?_; rintro e w1 ⟨rfl, rfl⟩)
      refine Hih.out.mono ?_
      rintro e w2 ⟨v, rfl, hC⟩
      obtain ⟨v', w', hr, hC'⟩ := hC.app (a + s, b) (by omega)
      rw [show ((a + s : Nat) : Int) = (a : Int) + (s : Int) by omega] at hr
      have Hr := Lib.hid hr
      clear hr hC
      go_wp2_with ((with_reducible show wpList _ _ _ (⟨some 29, .call _, _, _, _, _⟩ :: _) _ _); refine wpList_run rfl v' w' (run_append_op (.tmp 24) (.tmp 28) 22 rfl _ _ rfl rfl Hr.out) ?_; simp only [Act.put])
      go_ret
      exact ⟨_, rfl, hC'⟩
    · have hd3 : decide ((i : Int) < (a : Int) + (s : Int)) = false := by simp; omega
      have hp := hri hi
      rw [hp, List.length_append, List.length_singleton] at hpl
      rw [hp]
      have hih := ih (b - (a + s)) (by omega) i (a + s) b w (Nat.le_refl _) (by omega) hb
      rw [show ((a + s : Nat) : Int) = (a : Int) + (s : Int) by omega] at hih
      have Hih := Lib.hid hih
      clear hih ih hle hri hp
      go_enter Try.func60, Try.ntmps60
      go_wp2_with (go_at_call 26; refine (Hspl.out _).mono ?_; rintro e w1 ⟨rfl, rfl⟩)
      refine Hih.out.mono ?_
      rintro e w2 ⟨v, rfl, hC⟩
      obtain ⟨v', w', hr, hC'⟩ := hC.app (a, a + s) (by omega)
      rw [show ((a + s : Nat) : Int) = (a : Int) + (s : Int) by omega] at hr
      have Hr := Lib.hid hr
      clear hr hC
      go_wp2_with ((with_reducible show wpList _ _ _ (⟨some 38, .call _, _, _, _, _⟩ :: _) _ _); refine wpList_run rfl v' w' (run_append_op (.tmp 33) (.tmp 37) 22 rfl _ _ rfl rfl Hr.out) ?_; simp only [Act.put])
      go_ret
      exact ⟨_, rfl, hC'⟩

theorem rpath_bad (i n : Int) (w : World) (h : i < 0 ∨ n ≤ i) :
    Calls Try.prog 23 #[.int .i64 i, .int .i64 n] w fun e w' => e = .returned (.tuple #[.slice none 0 0, .int .i64 4]) ∧ w = w' := by
  by_cases h0 : i < 0
  · have h0' : decide (i < 0) = true := by simp; exact h0
    go_enter Try.func23, Try.ntmps23
    go_wp2_with fail
    go_ret2
    exact ⟨rfl, rfl⟩
  · have h1 : decide (n ≤ i) = true := by simp; omega
    have h0' : decide (i < 0) = false := by simp; omega
    go_enter Try.func23, Try.ntmps23
    go_wp2_with fail
    go_ret2
    exact ⟨rfl, rfl⟩
theorem rpath_ok (i n : Nat) (w : World) (hi : i < n) (hn : n ≤ 9223372036854775807) :
    Calls Try.prog 23 #[.int .i64 (i : Int), .int .i64 (n : Int)] w fun e w' => ∃ v, e = .returned (.tuple #[v, .int .i64 0]) ∧ PtC w (pathL i 0 n) v w' := by
  have hp := rpath_rec n i 0 n w (Nat.le_refl _) (Nat.zero_le _) hn
  have h0 : decide ((i : Int) < 0) = false := by simp
  have h1 : decide ((n : Int) ≤ (i : Int)) = false := by simp; omega
  have h1' : decide (n ≤ i) = false := by simp; omega
  have Hp := Lib.hid hp
  clear hp
  go_enter Try.func23, Try.ntmps23
  go_wp2_with fail
  refine Hp.out.mono ?_
  rintro e w2 ⟨v, rfl, hC⟩
  go_wp2_with fail
  go_ret2
  exact ⟨v, rfl, hC⟩

set_option maxHeartbeats 1000000 in
set_option maxRecDepth 100000 in
theorem rsteps_rec (d : Nat) : ∀ (m a n : Nat) (whole : Bool) (w : World), n ≤ d → 1 ≤ m → m ≤ n → a + n ≤ 9223372036854775807 →
    Calls Try.prog 61 #[.int .i64 (m : Int), .int .i64 (a : Int), .int .i64 (n : Int), .bool whole] w fun e w' => ∃ v, e = .returned v ∧ PtC w (stepsL m a n whole) v w' := by
  induction d using Nat.strongRecOn with
  | ind d ih =>
  intro m a n whole w hd h1 h2 hb
  have hsl' : (stepsL m a n whole).length ≤ 64 := stepsL_len 63 m a n whole h1 h2 (by omega)
  by_cases hmn : m = n
  · subst hmn
    rw [stepsL_eq m a whole h1]
    clear ih hsl'
    have hbe : ((m : Int) == (m : Int)) = true := by simp
    cases whole with
    | true =>
      go_enter Try.func61, Try.ntmps61
      go_wp2_with fail
      go_ret
      exact ⟨_, rfl, World.ownsRow_nil _ _ _ _, Below.refl _ _⟩
    | false =>
      have ho : (w.alloc (.cells #[.int .i64 (a : Int), .int .i64 ((a : Int) + (m : Int))] 29)).ownsRow w.heap.size 29 2 (.slice (some ⟨w.heap.size, 0, none⟩) 1 1) 1 (rcells (natR [(a, a + m)])) := by
        have := World.ownsRow_lit (base := w.heap.size) (e := 29) (size := 2) w #[.int .i64 (a : Int), .int .i64 ((a : Int) + (m : Int))] 1 (Nat.le_refl _) (by decide) rfl
        rw [show rcells (natR [(a, a + m)]) = [.int .i64 (a : Int), .int .i64 ((a : Int) + (m : Int))] by show [Value.int .i64 (a : Int), .int .i64 ((a + m : Nat) : Int)] = _; rw [show ((a + m : Nat) : Int) = (a : Int) + (m : Int) by omega]]
        exact this
      have hb := (Below.refl w.heap.size w).alloc (Nat.le_refl _) (.cells #[.int .i64 (a : Int), .int .i64 ((a : Int) + (m : Int))] 29)
      go_enter Try.func61, Try.ntmps61
      go_wp2_with fail
      go_ret
      exact ⟨_, rfl, ho, hb⟩
  · have hbe : ((m : Int) == (n : Int)) = false := by simp; omega
    have hsl := splitN_lt n (by omega)
    have hsp := splitN_pos n (by omega)
    have hle := stepsL_left m a n whole h1 (by omega)
    have hri := stepsL_right m a n whole h1 (by omega)
    have hspl := fun w => rsplit_any (n : Int) w (by omega)
    rw [Int.toNat_natCast] at hspl
    obtain ⟨s, hs⟩ : ∃ s, splitN n = s := ⟨_, rfl⟩
    rw [hs] at hspl hsl hsp hle hri
    have Hspl := Lib.hid hspl
    clear hspl hs hmn
    by_cases hk : m ≤ s
    · have hd3 : decide ((m : Int) ≤ (s : Int)) = true := by simp; omega
      have hd3' : decide (m ≤ s) = true := by simp; omega
      have hp := hle hk
      rw [hp, List.length_append, List.length_singleton] at hsl'
      rw [hp]
      have hih := ih s (by omega) m a s whole w (Nat.le_refl _) h1 hk (by omega)
      have Hih := Lib.hid hih
      clear hih ih hle hri hp
      go_enter Try.func61, Try.ntmps61
      go_wp2_with (go_at_call 26; refine (Hspl.out _).mono ?_; rintro e w1 ⟨rfl, rfl⟩)
      refine Hih.out.mono ?_
      rintro e w2 ⟨v, rfl, hC⟩
      obtain ⟨v', w', hr, hC'⟩ := hC.app (a + s, a + n) (by omega)
      rw [show ((a + s : Nat) : Int) = (a : Int) + (s : Int) by omega, show ((a + n : Nat) : Int) = (a : Int) + (n : Int) by omega] at hr
      have Hr := Lib.hid hr
      clear hr hC
      go_wp2_with ((with_reducible show wpList _ _ _ (⟨some 38, .call _, _, _, _, _⟩ :: _) _ _); refine wpList_run rfl v' w' (run_append_op (.tmp 29) (.tmp 37) 22 rfl _ _ rfl rfl Hr.out) ?_; simp only [Act.put])
      go_ret
      exact ⟨_, rfl, hC'⟩
    · have hd3 : decide ((m : Int) ≤ (s : Int)) = false := by simp; omega
      have hd3' : decide (m ≤ s) = false := by simp; omega
      have hp := hri hk
      rw [hp, List.length_append, List.length_singleton] at hsl'
      rw [hp]
      have hih := ih (n - s) (by omega) (m - s) (a + s) (n - s) false w (Nat.le_refl _) (by omega) (by omega) (by omega)
      rw [show ((a + s : Nat) : Int) = (a : Int) + (s : Int) by omega, show ((m - s : Nat) : Int) = (m : Int) - (s : Int) by omega, show ((n - s : Nat) : Int) = (n : Int) - (s : Int) by omega] at hih
      have Hih := Lib.hid hih
      clear hih ih hle hri hp
      go_enter Try.func61, Try.ntmps61
      go_wp2_with (go_at_call 26; refine (Hspl.out _).mono ?_; rintro e w1 ⟨rfl, rfl⟩)
      refine Hih.out.mono ?_
      rintro e w2 ⟨v, rfl, hC⟩
      obtain ⟨v', w', hr, hC'⟩ := hC.app (a, a + s) (by omega)
      rw [show ((a + s : Nat) : Int) = (a : Int) + (s : Int) by omega] at hr
      have Hr := Lib.hid hr
      clear hr hC
      go_wp2_with ((with_reducible show wpList _ _ _ (⟨some 55, .call _, _, _, _, _⟩ :: _) _ _); refine wpList_run rfl v' w' (run_append_op (.tmp 48) (.tmp 54) 22 rfl _ _ rfl rfl Hr.out) ?_; simp only [Act.put])
      go_ret
      exact ⟨_, rfl, hC'⟩

theorem rsteps_bad (m n : Int) (w : World) (h : m < 0 ∨ n < m) :
    Calls Try.prog 24 #[.int .i64 m, .int .i64 n] w fun e w' => e = .returned (.tuple #[.slice none 0 0, .int .i64 4]) ∧ w = w' := by
  by_cases h0 : m < 0
  · have h0' : decide (m < 0) = true := by simp; exact h0
    go_enter Try.func24, Try.ntmps24
    go_wp2_with fail
    go_ret2
    exact ⟨rfl, rfl⟩
  · have h1 : decide (n < m) = true := by simp; omega
    have h0' : decide (m < 0) = false := by simp; omega
    go_enter Try.func24, Try.ntmps24
    go_wp2_with fail
    go_ret2
    exact ⟨rfl, rfl⟩
theorem rsteps_zero (n : Int) (w : World) (h : 0 ≤ n) :
    Calls Try.prog 24 #[.int .i64 0, .int .i64 n] w fun e w' => e = .returned (.tuple #[.slice none 0 0, .int .i64 0]) ∧ w = w' := by
  have h1 : decide (n < 0) = false := by simp; omega
  go_enter Try.func24, Try.ntmps24
  go_wp2_with fail
  go_ret2
  exact ⟨rfl, rfl⟩
theorem rsteps_ok (m n : Nat) (w : World) (h1 : 1 ≤ m) (h2 : m ≤ n) (hn : n ≤ 9223372036854775807) :
    Calls Try.prog 24 #[.int .i64 (m : Int), .int .i64 (n : Int)] w fun e w' => ∃ v, e = .returned (.tuple #[v, .int .i64 0]) ∧ PtC w (stepsL m 0 n true) v w' := by
  have hp := rsteps_rec n m 0 n true w (Nat.le_refl _) h1 h2 (by omega)
  have h0 : decide ((m : Int) < 0) = false := by simp
  have h3 : decide ((n : Int) < (m : Int)) = false := by simp; omega
  have h3' : decide (n < m) = false := by simp; omega
  have hz : ((m : Int) == 0) = false := by simp; omega
  have Hp := Lib.hid hp
  clear hp
  go_enter Try.func24, Try.ntmps24
  go_wp2_with fail
  refine Hp.out.mono ?_
  rintro e w2 ⟨v, rfl, hC⟩
  go_wp2_with fail
  go_ret2
  exact ⟨v, rfl, hC⟩
end Go.Proofs.Ytgcbdnoniikboaa
