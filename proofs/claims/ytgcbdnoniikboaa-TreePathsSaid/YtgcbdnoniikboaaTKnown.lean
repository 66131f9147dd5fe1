/- notarylaw09.known. -/
import Derived.Test.YtgcbdnoniikboaaTSame
import Derived.Test.YtgcbdnoniikboaaTOf
import Derived.Test.YtgcbdnoniikboaaTSteps2
namespace Go.Proofs.Ytgcbdnoniikboaa
open Go Go.RowKit

theorem rootL_three (a b c : List UInt8) : rootL [a, b, c] = hNode (hNode a b) c := by
  rw [rootL_more _ (by simp), show splitN [a, b, c].length = 2 from (by decide : splitN 3 = 2)]
  show hNode (rootL [a, b]) (rootL [c]) = _
  rw [rootL_more [a, b] (by simp), show splitN [a, b].length = 1 from (by decide : splitN 2 = 1)]
  rfl
theorem path23 : pathL 2 0 3 = [(0, 2)] := by decide
theorem steps37 : stepsL 3 0 7 true = [(2, 3), (3, 4), (0, 2), (4, 7)] := by decide

structure KnC (w : World) (a b c : List UInt8) (Ap : Option Addr) (cp : Nat) (As : Option Addr) (cs : Nat) (W : World) : Prop where
  k1 : Blk W w.heap.size 34 (a.map B).toArray
  k2 : Blk W (w.heap.size + 1) 34 (b.map B).toArray
  k3 : Blk W (w.heap.size + 1 + 1) 34 (c.map B).toArray
  p : Rs W (fun _ => True) Ap 1 cp [(0, 2)]
  s : Rs W (fun _ => True) As 4 cs [(2, 3), (3, 4), (0, 2), (4, 7)]
  bel : Below w.heap.size w W
theorem KnC.step {w W W' : World} {a b c : List UInt8} {Ap As : Option Addr} {cp cs : Nat} (h : KnC w a b c Ap cp As cs W) (hb : Below W.heap.size W W') : KnC w a b c Ap cp As cs W' :=
  ⟨h.k1.below hb h.k1.lt, h.k2.below hb h.k2.lt, h.k3.below hb h.k3.lt, h.p.step hb, h.s.step hb, h.bel.trans (hb.mono h.bel.size)⟩

set_option maxHeartbeats 2000000 in
set_option maxRecDepth 100000 in
theorem known9_any (w : World) : Calls Try.prog 15 #[] w fun e w' => e = .returned (.bool true) ∧ Below w.heap.size w w' := by
  obtain ⟨a, ha⟩ : ∃ a, oneHash 1 = a := ⟨_, rfl⟩
  obtain ⟨b, hb⟩ : ∃ b, oneHash 2 = b := ⟨_, rfl⟩
  obtain ⟨c, hc⟩ : ∃ c, oneHash 3 = c := ⟨_, rfl⟩
  have hal : a.length = 32 := by rw [← ha]; exact length_oneHash _
  have hbl : b.length = 32 := by rw [← hb]; exact length_oneHash _
  have hcl : c.length = 32 := by rw [← hc]; exact length_oneHash _
  obtain ⟨zs, hzs⟩ : ∃ zs, zeroHash = zs := ⟨_, rfl⟩
  have hzl : zs.size = 32 := by rw [← hzs]; rfl
  obtain ⟨w1, hw1⟩ : ∃ w1, w.alloc (.cells zs 34) = w1 := ⟨_, rfl⟩
  obtain ⟨w2, hw2⟩ : ∃ w2, w1.alloc (.cells zs 34) = w2 := ⟨_, rfl⟩
  obtain ⟨w3, hw3⟩ : ∃ w3, w2.alloc (.cells zs 34) = w3 := ⟨_, rfl⟩
  have hs1 : w1.heap.size = w.heap.size + 1 := by rw [← hw1]; simp
  have hs2 : w2.heap.size = w.heap.size + 1 + 1 := by rw [← hw2]; simp [hs1]
  have z1 : Blk w3 w.heap.size 34 zs := by rw [← hw3, ← hw2, ← hw1]; exact ((Blk.new _ _ _).alloc _).alloc _
  have z2 : Blk w3 (w.heap.size + 1) 34 zs := by rw [← hw3, ← hw2]; exact (Blk.new' _ _ _ _ hs1.symm).alloc _
  have z3 : Blk w3 (w.heap.size + 1 + 1) 34 zs := by rw [← hw3]; exact Blk.new' _ _ _ _ hs2.symm
  have B3 : Below w.heap.size w w3 := by rw [← hw3, ← hw2, ← hw1]; exact (((Below.refl _ _).alloc (Nat.le_refl _) _).alloc (by simp) _).alloc (by simp; omega) _
  have z2' := z2.setRow_apart (g' := w.heap.size) (by omega) (a.map B).toArray
  have z3' := (z3.setRow_apart (g' := w.heap.size) (by omega) (a.map B).toArray).setRow_apart (g' := w.heap.size + 1) (by omega) (b.map B).toArray
  obtain ⟨w4, hw4⟩ : ∃ w4, ((w3.setRow w.heap.size (a.map B).toArray).setRow (w.heap.size + 1) (b.map B).toArray).setRow (w.heap.size + 1 + 1) (c.map B).toArray = w4 := ⟨_, rfl⟩
  have k1 : Blk w4 w.heap.size 34 (a.map B).toArray := by rw [← hw4]; exact ((z1.setRow_ _).setRow_apart (by omega) _).setRow_apart (by omega) _
  have k2 : Blk w4 (w.heap.size + 1) 34 (b.map B).toArray := by rw [← hw4]; exact ((z2.setRow_apart (by omega) _).setRow_ _).setRow_apart (by omega) _
  have k3 : Blk w4 (w.heap.size + 1 + 1) 34 (c.map B).toArray := by rw [← hw4]; exact ((z3.setRow_apart (by omega) _).setRow_apart (by omega) _).setRow_ _
  have B4 : Below w.heap.size w w4 := by rw [← hw4]; exact below_setRow (below_setRow (below_setRow B3 (Nat.le_refl _) _) (by omega) _) (by omega) _
  have hpath := tpath_ok 2 3 w4 (by decide) (by decide)
  rw [path23] at hpath
  have hsteps := fun W => tsteps_ok 3 7 W (by decide) (by decide) (by decide)
  rw [steps37] at hsteps
  obtain ⟨u, hu⟩ : ∃ u, hNode a b = u := ⟨_, rfl⟩
  have hul : u.length = 32 := by rw [← hu]; exact length_hNode _ _
  obtain ⟨t, ht⟩ : ∃ t, hNode u c = t := ⟨_, rfl⟩
  have htl : t.length = 32 := by rw [← ht]; exact length_hNode _ _
  obtain ⟨z, hz⟩ : ∃ z, hEmpty = z := ⟨_, rfl⟩
  have hzzl : z.length = 32 := by rw [← hz]; exact length_hEmpty
  have hab : H32 [a, b, c] := by
    intro h hh
    simp only [List.mem_cons, List.not_mem_nil, or_false] at hh
    rcases hh with rfl | rfl | rfl
    · exact hal
    · exact hbl
    · exact hcl
  have hof := fun W A (h : Hs W (fun _ => True) A 3 3 [a, b, c]) => tof_any [a, b, c] A 3 3 W h (by decide)
  rw [rootL_three, hu, ht] at hof
  have hof0 := fun W => tof_any [] none 0 0 W Hs.empty (by decide)
  rw [show rootL [] = z from hz] at hof0
  have hem := rempty_any
  rw [hz] at hem
  have Ha := Lib.hid ha
  have Hb := Lib.hid hb
  have Hc := Lib.hid hc
  have Hal := Lib.hid hal
  have Hbl := Lib.hid hbl
  have Hcl := Lib.hid hcl
  have Hzs := Lib.hid hzs
  have Hzl := Lib.hid hzl
  have Hw1 := Lib.hid hw1
  have Hw2 := Lib.hid hw2
  have Hw3 := Lib.hid hw3
  have Hw4 := Lib.hid hw4
  have Hs1 := Lib.hid hs1
  have Hs2 := Lib.hid hs2
  have Hpath := Lib.hid hpath
  have Hsteps := Lib.hid hsteps
  have Hu := Lib.hid hu
  have Hul := Lib.hid hul
  have Ht := Lib.hid ht
  have Htl := Lib.hid htl
  have Hzzl := Lib.hid hzzl
  have Hof := Lib.hid hof
  have Hof0 := Lib.hid hof0
  have Hem := Lib.hid hem
  clear ha hb hc hal hbl hcl hzs hzl hw1 hw2 hw3 hw4 hs1 hs2 hpath hsteps hu hul ht htl hz hzzl hof hof0 hem z2 z3 B3
  go_enter Try.func15, Try.ntmps15
  go_wp2_with (first
    | ((with_reducible show wpList _ _ _ (⟨some 8, .build _ _, _, _, _, _⟩ :: _) _ _); refine wpList_run0 rfl (.agg (a.map B).toArray) (by rw [← Ha.out]; kernel_rfl) ?_; simp only [Act.put])
    | ((with_reducible show wpList _ _ _ (⟨some 9, .build _ _, _, _, _, _⟩ :: _) _ _); refine wpList_run0 rfl (.agg (b.map B).toArray) (by rw [← Hb.out]; kernel_rfl) ?_; simp only [Act.put])
    | ((with_reducible show wpList _ _ _ (⟨some 10, .build _ _, _, _, _, _⟩ :: _) _ _); refine wpList_run0 rfl (.agg (c.map B).toArray) (by rw [← Hc.out]; kernel_rfl) ?_; simp only [Act.put])
    | ((with_reducible show wpList _ _ _ (⟨some 1, .alloc _, _, _, _, _⟩ :: _) _ _); refine wpList_run rfl (.pointer (some ⟨w.heap.size, 0, none⟩)) w1 (by rw [← Hw1.out, ← Hzs.out]; rfl) ?_; simp only [Act.put])
    | ((with_reducible show wpList _ _ _ (⟨some 2, .alloc _, _, _, _, _⟩ :: _) _ _); refine wpList_run rfl (.pointer (some ⟨w.heap.size + 1, 0, none⟩)) w2 (by rw [← Hw2.out, ← Hzs.out, ← Hs1.out]; rfl) ?_; simp only [Act.put])
    | ((with_reducible show wpList _ _ _ (⟨some 3, .alloc _, _, _, _, _⟩ :: _) _ _); refine wpList_run rfl (.pointer (some ⟨w.heap.size + 1 + 1, 0, none⟩)) w3 (by rw [← Hw3.out, ← Hzs.out, ← Hs2.out]; rfl) ?_; simp only [Act.put])
    | ((with_reducible show wpList _ _ _ (⟨none, .store _ (.tmp 1) _, _, _, _, _⟩ :: _) _ _); refine wpList_store_blk rfl 34 (.tmp 1) (.tmp 8) rfl 32 size26 w.heap.size (a.map B).toArray rfl rfl (by simp [Hal.out]) (oneCell_B _) 34 _ z1 Hzl.out ?_; simp only [Act.put])
    | ((with_reducible show wpList _ _ _ (⟨none, .store _ (.tmp 2) _, _, _, _, _⟩ :: _) _ _); refine wpList_store_blk rfl 34 (.tmp 2) (.tmp 9) rfl 32 size26 (w.heap.size + 1) (b.map B).toArray rfl rfl (by simp [Hbl.out]) (oneCell_B _) 34 _ z2' Hzl.out ?_; simp only [Act.put])
    | ((with_reducible show wpList _ _ _ (⟨none, .store _ (.tmp 3) _, _, _, _, _⟩ :: _) _ _); refine wpList_store_blk rfl 34 (.tmp 3) (.tmp 10) rfl 32 size26 (w.heap.size + 1 + 1) (c.map B).toArray rfl rfl (by simp [Hcl.out]) (oneCell_B _) 34 _ z3' Hzl.out ?_; rw [Hw4.out]; simp only [Act.put]))
  refine Hpath.out.mono ?_
  rintro e w5 ⟨vp, rfl, hop, b5⟩
  clear z1 z2' z3'
  go_wp2_with fail
  refine (Hsteps.out _).mono ?_
  rintro e w6 ⟨vs, rfl, hos, b6⟩
  obtain ⟨Ap, cp, rfl, hp⟩ := Rs.of_owns (owns_step hop b6) rfl
  obtain ⟨As, cs, rfl, hs⟩ := Rs.of_owns hos rfl
  have hK9 : KnC w a b c Ap cp As cs w6 := ⟨(k1.below b5 k1.lt).below b6 (Nat.lt_of_lt_of_le k1.lt b5.size), (k2.below b5 k2.lt).below b6 (Nat.lt_of_lt_of_le k2.lt b5.size), (k3.below b5 k3.lt).below b6 (Nat.lt_of_lt_of_le k3.lt b5.size), hp.weak fun _ _ _ => trivial, hs.weak fun _ _ _ => trivial, (B4.trans (b5.mono B4.size)).trans (b6.mono (Nat.le_trans B4.size b5.size))⟩
  clear k1 k2 k3 B4 hop hos hp hs b5 b6 Hpath Hsteps
  go_wp2_with fail
  have hS : Below w6.heap.size w6 w6.drew := (Below.refl _ _).drew
  refine wp_region_mix (fun W => Below w6.heap.size w6 W) [(0, true), (1, true), (2, true), (5, true), (6, true), (8, true), (3, false), (4, false), (7, false), (9, false), (10, true), (11, true), (12, false), (13, false), (14, true), (15, true), (16, true), (17, true), (18, true), (19, true), (20, true), (21, true), (22, true), (23, false), (24, false), (25, true), (26, true), (27, true), (28, true), (29, true), (30, true), (31, true), (32, true), (33, true), (34, true), (35, true), (36, false), (37, false), (38, true), (39, true)] (by kernel_rfl) (by kernel_rfl) hS fun _ => ?_
  simp only [List.map_cons, List.map_nil, Array.getD_eq_getD_getElem?, List.getElem?_toArray, List.getElem?_cons_succ, List.getElem?_cons_zero, Option.getD_some]
  generalize w6.drew = W0 at hS ⊢
  refine wpMix_load (by kernel_rfl) 34 (.tmp 1) rfl (w.heap.size) (0) rfl (a.map B).toArray (fun s => run_load_blk (agg26 _) (size26 _) _ _ (by simp [Hal.out]) (hK9.step s.ok).k1) ?_
  simp only [Act.put]
  refine wpMix_load (by kernel_rfl) 34 (.tmp 2) rfl (w.heap.size + 1) (0) rfl (b.map B).toArray (fun s => run_load_blk (agg26 _) (size26 _) _ _ (by simp [Hbl.out]) (hK9.step s.ok).k2) ?_
  simp only [Act.put]
  refine wpMix_load (by kernel_rfl) 34 (.tmp 3) rfl (w.heap.size + 1 + 1) (0) rfl (c.map B).toArray (fun s => run_load_blk (agg26 _) (size26 _) _ _ (by simp [Hcl.out]) (hK9.step s.ok).k3) ?_
  simp only [Act.put]
  refine wpMix_load (by kernel_rfl) 34 (.tmp 1) rfl (w.heap.size) (0) rfl (a.map B).toArray (fun s => run_load_blk (agg26 _) (size26 _) _ _ (by simp [Hal.out]) (hK9.step s.ok).k1) ?_
  simp only [Act.put]
  refine wpMix_load (by kernel_rfl) 34 (.tmp 2) rfl (w.heap.size + 1) (0) rfl (b.map B).toArray (fun s => run_load_blk (agg26 _) (size26 _) _ _ (by simp [Hbl.out]) (hK9.step s.ok).k2) ?_
  simp only [Act.put]
  refine wpMix_load (by kernel_rfl) 34 (.tmp 3) rfl (w.heap.size + 1 + 1) (0) rfl (c.map B).toArray (fun s => run_load_blk (agg26 _) (size26 _) _ _ (by simp [Hcl.out]) (hK9.step s.ok).k3) ?_
  simp only [Act.put]
  have hL := Hs.lit W0 [a, b, c] hab (by simp) 3 rfl
  have hA0 : Below W0.heap.size W0 (W0.alloc (.cells (hcells [a, b, c]).toArray 34)) := (Below.refl _ _).alloc (Nat.le_refl _) _
  refine wpMix_run (by kernel_rfl) _ _ (run_lit_op [a, b, c] hab (by simp) (by simp) 3 _ rfl (by simp [Act.eval]) rfl _) (hS.trans (hA0.mono hS.size)) ?_
  simp only [Act.put]
  replace hS := hS.trans (hA0.mono hS.size)
  generalize W0.alloc (.cells (hcells [a, b, c]).toArray 34) = W1 at hS hL ⊢
  refine wpMix_c (fun K hK => ?_) hS
  go_simp
  refine (Hof.out W1 _ hL).mono ?_
  rintro e W2 ⟨rfl, hb'⟩
  refine hK _ _ ?_
  clear hK K
  replace hS := hS.trans (hb'.mono hS.size)
  refine ⟨hS, ?_⟩
  clear hb'
  clear hL hA0
  refine wpMix_c (fun K hK => ?_) hS
  go_simp
  refine (hrnode_any a b W2 Hal.out Hbl.out).mono ?_
  rintro e W3 ⟨rfl, hb'⟩
  refine hK _ _ ?_
  clear hK K
  replace hS := hS.trans (hb'.mono hS.size)
  refine ⟨hS, ?_⟩
  clear hb'
  rw [Hu.out]
  refine wpMix_c (fun K hK => ?_) hS
  go_simp
  refine (hrnode_any u c W3 Hul.out Hcl.out).mono ?_
  rintro e W4 ⟨rfl, hb'⟩
  refine hK _ _ ?_
  clear hK K
  replace hS := hS.trans (hb'.mono hS.size)
  refine ⟨hS, ?_⟩
  clear hb'
  rw [Ht.out]
  refine wpMix_v (by kernel_rfl) (.bool true) (fun s => run_eql26_t (.tmp 23) (.tmp 28) _ t t rfl rfl rfl Htl.out Htl.out rfl s.W) ?_
  simp only [Act.put]
  refine wpMix_s (fun K hK => ?_)
  go_simp
  refine hK _ ?_
  clear hK K
  refine wpMix_c (fun K hK => ?_) hS
  go_simp
  refine (Hof0.out W4).mono ?_
  rintro e W5 ⟨rfl, hb'⟩
  refine hK _ _ ?_
  clear hK K
  replace hS := hS.trans (hb'.mono hS.size)
  refine ⟨hS, ?_⟩
  clear hb'
  refine wpMix_c (fun K hK => ?_) hS
  go_simp
  refine (Hem.out W5).mono ?_
  rintro e W6 ⟨rfl, hb'⟩
  refine hK _ _ ?_
  clear hK K
  replace hS := hS.trans (hb'.mono hS.size)
  refine ⟨hS, ?_⟩
  clear hb'
  refine wpMix_v (by kernel_rfl) (.bool true) (fun s => run_eql26_t (.tmp 31) (.tmp 32) _ z z rfl rfl rfl Hzzl.out Hzzl.out rfl s.W) ?_
  simp only [Act.put]
  refine wpMix_s (fun K hK => ?_)
  go_simp
  refine hK _ ?_
  clear hK K
  refine wpMix_s (fun K hK => ?_)
  go_simp
  refine hK _ ?_
  clear hK K
  refine wpMix_s (fun K hK => ?_)
  go_simp
  refine hK _ ?_
  clear hK K
  refine wpMix_s (fun K hK => ?_)
  go_simp
  refine hK _ ?_
  clear hK K
  refine wpMix_s (fun K hK => ?_)
  go_simp
  refine hK _ ?_
  clear hK K
  refine wpMix_s (fun K hK => ?_)
  go_simp
  refine hK _ ?_
  clear hK K
  refine wpMix_s (fun K hK => ?_)
  go_simp
  refine hK _ ?_
  clear hK K
  refine wpMix_s (fun K hK => ?_)
  go_simp
  refine hK _ ?_
  clear hK K
  refine wpMix_c (fun K hK => ?_) hS
  go_simp
  refine hK _ _ ?_
  clear hK K
  refine mix_world (fun W => Below w6.heap.size w6 W ∧ Rs W (fun _ => True) (some ⟨W6.heap.size, 0, none⟩) 1 1 [(0, 2)]) ⟨hS.alloc hS.size _, Rs.lit W6 [(0, 2)] (by simp) 1 rfl⟩ (fun _ h => h.1) ?_
  clear hS
  rintro W7 ⟨hS, hL⟩
  refine wpMix_c (fun K hK => ?_) hS
  go_simp
  refine (samer_any [(0, 2)] Ap _ 1 cp 1 W7 (hK9.step hS).p hL (by decide)).mono ?_
  rintro e W8 ⟨rfl, hb'⟩
  refine hK _ _ ?_
  clear hK K
  replace hS := hS.trans (hb'.mono hS.size)
  refine ⟨hS, ?_⟩
  clear hb'
  clear hL
  refine wpMix_s (fun K hK => ?_)
  go_simp
  refine hK _ ?_
  clear hK K
  refine wpMix_s (fun K hK => ?_)
  go_simp
  refine hK _ ?_
  clear hK K
  refine wpMix_s (fun K hK => ?_)
  go_simp
  refine hK _ ?_
  clear hK K
  refine wpMix_s (fun K hK => ?_)
  go_simp
  refine hK _ ?_
  clear hK K
  refine wpMix_s (fun K hK => ?_)
  go_simp
  refine hK _ ?_
  clear hK K
  refine wpMix_s (fun K hK => ?_)
  go_simp
  refine hK _ ?_
  clear hK K
  refine wpMix_s (fun K hK => ?_)
  go_simp
  refine hK _ ?_
  clear hK K
  refine wpMix_s (fun K hK => ?_)
  go_simp
  refine hK _ ?_
  clear hK K
  refine wpMix_s (fun K hK => ?_)
  go_simp
  refine hK _ ?_
  clear hK K
  refine wpMix_s (fun K hK => ?_)
  go_simp
  refine hK _ ?_
  clear hK K
  refine wpMix_s (fun K hK => ?_)
  go_simp
  refine hK _ ?_
  clear hK K
  refine wpMix_c (fun K hK => ?_) hS
  go_simp
  refine hK _ _ ?_
  clear hK K
  refine mix_world (fun W => Below w6.heap.size w6 W ∧ Rs W (fun _ => True) (some ⟨W8.heap.size, 0, none⟩) 4 4 [(2, 3), (3, 4), (0, 2), (4, 7)]) ⟨hS.alloc hS.size _, Rs.lit W8 [(2, 3), (3, 4), (0, 2), (4, 7)] (by simp) 4 rfl⟩ (fun _ h => h.1) ?_
  clear hS
  rintro W9 ⟨hS, hL⟩
  refine wpMix_c (fun K hK => ?_) hS
  go_simp
  refine (samer_any [(2, 3), (3, 4), (0, 2), (4, 7)] As _ 4 cs 4 W9 (hK9.step hS).s hL (by decide)).mono ?_
  rintro e W10 ⟨rfl, hb'⟩
  refine hK _ _ ?_
  clear hK K
  replace hS := hS.trans (hb'.mono hS.size)
  refine ⟨hS, ?_⟩
  clear hb'
  clear hL
  refine wpMix_s (fun K hK => ?_)
  go_simp
  refine hK _ ?_
  clear hK K
  refine wpMix_s (fun K hK => ?_)
  go_simp
  refine hK _ ?_
  clear hK K
  refine wpMix_nil ?_
  intro _
  go_wp2_with fail
  go_ret
  exact ⟨rfl, hK9.bel.trans (hS.mono hK9.bel.size)⟩
end Go.Proofs.Ytgcbdnoniikboaa
