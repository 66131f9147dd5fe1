/- What cons.Both hands out: a function that takes the next hash, one that goes back through the steps. -/
import Derived.Test.YtobcfgbkhgkelaaQe128
import Derived.Test.YtobcfgbkhgkelaaQe119
import Derived.Test.YtobcfgbkhgkelaaQe121
namespace Go.Proofs.Ytobcfgbkhgkelaa
open Go Go.RowKit

theorem results_cell1 {fn : Func} {p : Tmp} (h : fn.results = #[.cell p 26]) (tmps : Array Value) (w : World) (g : Nat) (x : List UInt8) (hp : tmps.getD p undef = .pointer (some ⟨g, 0, none⟩)) (hx : HV w g x) :
    (results fn tmps).run Try.prog w = .ok (.agg (x.map B).toArray) w := by
  have l1 := run_loadVar_row (P := Try.prog) w g _ 26 _ (0, 0) _ hx.blk Try.underlying26 rfl (by rw [show (x.map B).toArray.size = 32 by simp [hx.len]]; exact info26)
  have hp' : tmps[p]?.getD undef = .pointer (some ⟨g, 0, none⟩) := by simpa using hp
  simp only [results, h]
  simp [hp', asAddr, l1]
theorem HV.grown {w W : World} {g : Nat} {l : List UInt8} {row : Option Nat} (h : HV w g l) (hg : w.grownBy W row) (hne : some g ≠ row) : HV W g l := ⟨h.blk.grown hg hne, h.len⟩
/-- the boxes that the two share -/
structure BkC (M : Nat) (x : List UInt8) (p : List (List UInt8)) (A : Option Addr) (np c g4 g6 g7 g13 g14 g15 N : Nat) (j : Nat) (W : World) : Prop where
  b4 : Blk W g4 2 #[.int .i64 (M : Int)]
  b6 : HV W g6 x
  b7 : Blk W g7 33 #[.slice A np c]
  b13 : Blk W g13 3 #[.int .i64 (j : Int)]
  b14 : Blk W g14 96 #[.func (.func 78) #[] #[.pointer (some ⟨g13, 0, none⟩), .pointer (some ⟨g7, 0, none⟩)]]
  b15 : Blk W g15 125 #[.func (.func 79) #[] #[.pointer (some ⟨g4, 0, none⟩), .pointer (some ⟨g6, 0, none⟩), .pointer (some ⟨g14, 0, none⟩), .pointer (some ⟨g15, 0, none⟩)]]
  h : Hs W (fun b => b ≠ g13 ∧ b < N) A np c p
  l4 : g4 < N
  l6 : g6 < N
  l7 : g7 < N
  l13 : g13 < N
  l14 : g14 < N
  l15 : g15 < N
  sz : N ≤ W.heap.size
  n4 : g4 ≠ g13
  n6 : g6 ≠ g13
  n7 : g7 ≠ g13
  n14 : g14 ≠ g13
  n15 : g15 ≠ g13
section
variable {M : Nat} {x : List UInt8} {p : List (List UInt8)} {A : Option Addr} {np c g4 g6 g7 g13 g14 g15 N j : Nat} {W W' : World}
theorem BkC.step (h : BkC M x p A np c g4 g6 g7 g13 g14 g15 N j W) (hb : Below W.heap.size W W') : BkC M x p A np c g4 g6 g7 g13 g14 g15 N j W' :=
  ⟨h.b4.step hb, h.b6.step hb, h.b7.step hb, h.b13.step hb, h.b14.step hb, h.b15.step hb, h.h.step hb, h.l4, h.l6, h.l7, h.l13, h.l14, h.l15, Nat.le_trans h.sz hb.size, h.n4, h.n6, h.n7, h.n14, h.n15⟩
theorem BkC.setj (h : BkC M x p A np c g4 g6 g7 g13 g14 g15 N j W) (j' : Nat) : BkC M x p A np c g4 g6 g7 g13 g14 g15 N j' (W.setCell ⟨g13, 0, none⟩ (.int .i64 (j' : Int))) :=
  ⟨h.b4.apart h.n4 _, h.b6.grown (grownBy_setCell' W g13 _) (fun e => h.n6 (Option.some.inj e)), h.b7.apart h.n7 _, h.b13.set_ 0 _, h.b14.apart h.n14 _, h.b15.apart h.n15 _, h.h.grown (grownBy_setCell' W g13 _) (fun b _ hx e => hx.1 (Option.some.inj e)), h.l4, h.l6, h.l7, h.l13, h.l14, h.l15, by simpa [World.setCell] using h.sz, h.n4, h.n6, h.n7, h.n14, h.n15⟩
/-- a block of one's own is written over -/
theorem BkC.grown {row : Option Nat} (h : BkC M x p A np c g4 g6 g7 g13 g14 g15 N j W) (hg : W.grownBy W' row) (hr : ∀ r, row = some r → N ≤ r) : BkC M x p A np c g4 g6 g7 g13 g14 g15 N j W' := by
  have hne : ∀ g, g < N → some g ≠ row := fun g hg e => by have := hr g e.symm; omega
  exact ⟨h.b4.grown hg (hne _ h.l4), h.b6.grown hg (hne _ h.l6), h.b7.grown hg (hne _ h.l7), h.b13.grown hg (hne _ h.l13), h.b14.grown hg (hne _ h.l14), h.b15.grown hg (hne _ h.l15), h.h.grown hg (fun b _ hx => hne b hx.2), h.l4, h.l6, h.l7, h.l13, h.l14, h.l15, Nat.le_trans h.sz hg.size, h.n4, h.n6, h.n7, h.n14, h.n15⟩
/-- whatever comes behind -/
theorem BkC.below {n : Nat} (h : BkC M x p A np c g4 g6 g7 g13 g14 g15 N j W) (hb : Below n W W') (hn : N ≤ n) : BkC M x p A np c g4 g6 g7 g13 g14 g15 N j W' :=
  ⟨h.b4.below hb (Nat.lt_of_lt_of_le h.l4 hn), h.b6.far hb (Nat.lt_of_lt_of_le h.l6 hn), h.b7.below hb (Nat.lt_of_lt_of_le h.l7 hn), h.b13.below hb (Nat.lt_of_lt_of_le h.l13 hn), h.b14.below hb (Nat.lt_of_lt_of_le h.l14 hn), h.b15.below hb (Nat.lt_of_lt_of_le h.l15 hn),
    ⟨h.h.sl.below hb (fun _ _ hx => Nat.lt_of_lt_of_le hx.2 hn), h.h.len, h.h.all⟩, h.l4, h.l6, h.l7, h.l13, h.l14, h.l15, Nat.le_trans h.sz hb.size, h.n4, h.n6, h.n7, h.n14, h.n15⟩
end
theorem grownBy_below {A B C : World} {r : Option Nat} (h : A.grownBy B r) (k : Below A.heap.size B C) : A.grownBy C r :=
  ⟨k.os.trans h.os, k.tape.trans h.tape, k.output.trans h.output, Nat.le_trans h.size k.size, fun i hi hn => (k.block i hi).trans (h.block i hi hn)⟩
theorem grownBy_trans {A B C : World} {g : Nat} (h : A.grownBy B (some g)) (k : B.grownBy C (some g)) : A.grownBy C (some g) :=
  ⟨k.os.trans h.os, k.tape.trans h.tape, k.output.trans h.output, Nat.le_trans h.size k.size, fun i hi hn => (k.block i (Nat.lt_of_lt_of_le hi h.size) hn).trans (h.block i hi hn)⟩

set_option maxHeartbeats 2000000 in
set_option maxRecDepth 100000 in
theorem takeh_any (M : Nat) (x : List UInt8) (p : List (List UInt8)) (A : Option Addr) (np c g4 g6 g7 g13 g14 g15 N : Nat) (j : Nat) (w : World) (h : BkC M x p A np c g4 g6 g7 g13 g14 g15 N j w) (hj : j < np) :
    Calls Try.prog 78 #[.pointer (some ⟨g13, 0, none⟩), .pointer (some ⟨g7, 0, none⟩)] w fun e w' => e = .returned (.agg ((p.getD j []).map B).toArray) ∧ BkC M x p A np c g4 g6 g7 g13 g14 g15 N (j + 1) w' ∧ w.grownBy w' (some g13) := by
  have hroom := h.h.sl.room
  have hmx := h.h.sl.max
  unfold maxLen at hmx
  obtain ⟨b, o, rfl, -, -, -⟩ := h.h.at_ (by omega)
  obtain ⟨w1, hw1⟩ : ∃ w1, w.alloc (.cells zeroHash 26) = w1 := ⟨_, rfl⟩
  have hb1 : Below w.heap.size w w1 := by rw [← hw1]; exact (Below.refl _ _).alloc (Nat.le_refl _) _
  have k2 : HV w1 w.heap.size (List.replicate 32 0) := ⟨by rw [← hw1]; exact Blk.new _ _ _, rfl⟩
  have hC1 := h.step hb1
  have hC2 := hC1.setj (j + 1)
  have hg13 := h.b13.lt
  have k2' := k2.grown (grownBy_setCell' w1 g13 (.int .i64 ((j + 1 : Nat) : Int))) (fun e => by have e : w.heap.size = g13 := Option.some.inj e; omega)
  have hgr := grownBy_trans (grown_of_below hb1 (some g13)) (grownBy_setCell' w1 g13 (.int .i64 ((j + 1 : Nat) : Int)))
  have hld := hC2.h.at_ (by omega)
  obtain ⟨b', o', hA, -, -, hld⟩ := hld
  cases hA
  have hld := hld j hj
  have hyl := h.h.all.getD j (by rw [h.h.len]; exact hj)
  have ej : ((j + 1 : Nat) : Int) = (j : Int) + 1 := by omega
  rw [ej] at hC2 k2' hgr hld
  have c1 : w1.cell? ⟨g13, 0, none⟩ = some (.int .i64 (j : Int)) := by rw [hC1.b13.cell]; rfl
  have f1 := hC1.b13.frozen 0
  have c2 : (w1.setCell ⟨g13, 0, none⟩ (.int .i64 ((j : Int) + 1))).cell? ⟨g13, 0, none⟩ = some (.int .i64 ((j : Int) + 1)) := by rw [hC2.b13.cell]; simp
  have c7 : (w1.setCell ⟨g13, 0, none⟩ (.int .i64 ((j : Int) + 1))).cell? ⟨g7, 0, none⟩ = some (.slice (some ⟨b, o, none⟩) np c) := by rw [hC2.b7.cell]; rfl
  obtain ⟨w2, hw2⟩ : ∃ w2, w1.setCell ⟨g13, 0, none⟩ (.int .i64 ((j : Int) + 1)) = w2 := ⟨_, rfl⟩
  have hw1' : w.alloc (.cells #[.int .u8 0, .int .u8 0, .int .u8 0, .int .u8 0, .int .u8 0, .int .u8 0, .int .u8 0, .int .u8 0, .int .u8 0, .int .u8 0, .int .u8 0, .int .u8 0, .int .u8 0, .int .u8 0, .int .u8 0, .int .u8 0, .int .u8 0, .int .u8 0, .int .u8 0, .int .u8 0, .int .u8 0, .int .u8 0, .int .u8 0, .int .u8 0, .int .u8 0, .int .u8 0, .int .u8 0, .int .u8 0, .int .u8 0, .int .u8 0, .int .u8 0, .int .u8 0] 26) = w1 := hw1
  rw [hw2] at hC2 k2' hgr hld c2 c7
  obtain ⟨y, hy⟩ : ∃ y, p.getD j [] = y := ⟨_, rfl⟩
  rw [hy] at hld hyl ⊢
  have Hw1 := Lib.hid hw1'
  have Hw2 := Lib.hid hw2
  have HC2 := Lib.hid hC2
  have hlw := h.b4.lt
  have hl6 := h.b6.lt
  have hl7 := h.b7.lt
  have hl14 := h.b14.lt
  have hl15 := h.b15.lt
  clear hw1 hw1' hw2 hC1 hC2 k2 hb1 ej hy
  go_enter Try.func78, Try.ntmps78
  go_wp2_with (first
    | ((with_reducible show wpList _ _ _ (⟨some 3, .load _ _, _, _, _, _⟩ :: _) _ _); rw [Hw1.out])
    | ((with_reducible show wpList _ _ _ (⟨some 5, .load _ _, _, _, _, _⟩ :: _) _ _); rw [Hw2.out])
    | ((with_reducible show wpList _ _ _ (⟨some 9, .load _ _, _, _, _, _⟩ :: _) _ _); refine wpList_runG (by kernel_rfl) (.agg (y.map B).toArray) w2 (run_load_op 26 (.tmp 8) rfl b (o + j * 32) rfl _ hld) ?_; simp only [Act.put])
    | ((with_reducible show wpList _ _ _ (⟨none, .store _ (.tmp 2) _, _, _, _, _⟩ :: _) _ _); refine wpList_hset2 (.tmp 2) (.tmp 9) rfl rfl k2' rfl rfl hyl ?_; intro W9 k9 hb9 hoth; simp only [Act.put]))
  refine bodyPost_ret (results_cell1 rfl _ _ w.heap.size y rfl k9) rfl ⟨rfl, HC2.out.below hb9 h.sz, grownBy_below hgr hb9⟩

/-- within back: the boxes, and what lay ahead of the call but for the number of the next hash -/
structure BkS (M : Nat) (x : List UInt8) (p : List (List UInt8)) (A : Option Addr) (np c g4 g6 g7 g13 g14 g15 N : Nat) (w : World) (j : Nat) (W : World) : Prop where
  c : BkC M x p A np c g4 g6 g7 g13 g14 g15 N j W
  g : w.grownBy W (some g13)
section
variable {M : Nat} {x : List UInt8} {p : List (List UInt8)} {A : Option Addr} {np c g4 g6 g7 g13 g14 g15 N j : Nat} {w W W' : World}
theorem BkS.step (h : BkS M x p A np c g4 g6 g7 g13 g14 g15 N w j W) (hb : Below W.heap.size W W') : BkS M x p A np c g4 g6 g7 g13 g14 g15 N w j W' := ⟨h.c.step hb, grownBy_below h.g (hb.mono h.g.size)⟩
theorem BkS.low {n : Nat} (h : BkS M x p A np c g4 g6 g7 g13 g14 g15 N w j W) (hb : Below n W W') (hN : N ≤ w.heap.size) (hn : w.heap.size ≤ n) : BkS M x p A np c g4 g6 g7 g13 g14 g15 N w j W' := ⟨h.c.below hb (Nat.le_trans hN hn), grownBy_below h.g (hb.mono hn)⟩
end
theorem last_take (p : List (List UInt8)) (j e : Nat) (h : j + e < p.length) : ((p.drop j).take (e + 1)).dropLast = (p.drop j).take e ∧ ((p.drop j).take (e + 1)).getD (((p.drop j).take (e + 1)).length - 1) [] = p.getD (j + e) [] := by
  have hl : ((p.drop j).take (e + 1)).length = e + 1 := by rw [List.length_take, List.length_drop]; omega
  constructor
  · rw [List.dropLast_eq_take, hl, List.take_take]
    congr 1
    omega
  · rw [hl, Nat.add_sub_cancel, List.getD_eq_getElem?_getD, List.getElem?_take, if_pos (by omega), List.getElem?_drop, List.getD_eq_getElem?_getD]
set_option maxHeartbeats 8000000 in
set_option maxRecDepth 100000 in
theorem back_rec (M : Nat) (x : List UInt8) (p : List (List UInt8)) (A : Option Addr) (np c g4 g6 g7 g13 g14 g15 N : Nat) (hx : x.length = 32) (_hM : M ≤ 9223372036854775807) (d : Nat) : ∀ (a b j : Nat) (whole : Bool) (w : World), b - a ≤ d → a < M → M ≤ b → b ≤ 9223372036854775807 → j + cntS (M - a) (b - a) whole ≤ np → BkC M x p A np c g4 g6 g7 g13 g14 g15 N j w →
    Calls Try.prog 79 #[.int .i64 (a : Int), .int .i64 (b : Int), .bool whole, .pointer (some ⟨g4, 0, none⟩), .pointer (some ⟨g6, 0, none⟩), .pointer (some ⟨g14, 0, none⟩), .pointer (some ⟨g15, 0, none⟩)] w fun e w' =>
      e = .returned (.tuple #[.agg ((bothL (M - a) (b - a) whole x ((p.drop j).take (cntS (M - a) (b - a) whole))).1.map B).toArray, .agg ((bothL (M - a) (b - a) whole x ((p.drop j).take (cntS (M - a) (b - a) whole))).2.map B).toArray]) ∧ BkC M x p A np c g4 g6 g7 g13 g14 g15 N (j + cntS (M - a) (b - a) whole) w' ∧ w.grownBy w' (some g13) := by
  induction d with
  | zero => intro a b j whole w h h1 h2; omega
  | succ d ih =>
    intro a b j whole w hd h1 h2 hb hj h
    have hroom := h.h.sl.room
    have hmx := h.h.sl.max
    unfold maxLen at hmx
    have hplen := h.h.len
    have hp32 := h.h.all
    obtain ⟨w2, hw2⟩ : ∃ w2, (w.alloc (.cells #[.int .u8 0, .int .u8 0, .int .u8 0, .int .u8 0, .int .u8 0, .int .u8 0, .int .u8 0, .int .u8 0, .int .u8 0, .int .u8 0, .int .u8 0, .int .u8 0, .int .u8 0, .int .u8 0, .int .u8 0, .int .u8 0, .int .u8 0, .int .u8 0, .int .u8 0, .int .u8 0, .int .u8 0, .int .u8 0, .int .u8 0, .int .u8 0, .int .u8 0, .int .u8 0, .int .u8 0, .int .u8 0, .int .u8 0, .int .u8 0, .int .u8 0, .int .u8 0] 26)).alloc (.cells #[.int .u8 0, .int .u8 0, .int .u8 0, .int .u8 0, .int .u8 0, .int .u8 0, .int .u8 0, .int .u8 0, .int .u8 0, .int .u8 0, .int .u8 0, .int .u8 0, .int .u8 0, .int .u8 0, .int .u8 0, .int .u8 0, .int .u8 0, .int .u8 0, .int .u8 0, .int .u8 0, .int .u8 0, .int .u8 0, .int .u8 0, .int .u8 0, .int .u8 0, .int .u8 0, .int .u8 0, .int .u8 0, .int .u8 0, .int .u8 0, .int .u8 0, .int .u8 0] 26) = w2 := ⟨_, rfl⟩
    have hb2 : Below w.heap.size w w2 := by rw [← hw2]; exact ((Below.refl _ _).alloc (Nat.le_refl _) _).alloc (by simp) _
    have hsz2 : w2.heap.size = w.heap.size + 1 + 1 := by rw [← hw2]; simp
    have k10 : HV w2 w.heap.size (List.replicate 32 0) := ⟨by rw [← hw2]; exact (Blk.new w 26 zeroHash).alloc _, rfl⟩
    have k11 : HV w2 (w.heap.size + 1) (List.replicate 32 0) := ⟨by rw [← hw2]; exact Blk.new' _ _ zeroHash _ (by simp), rfl⟩
    have hN := h.sz
    have h13 := h.l13
    have hC : BkS M x p A np c g4 g6 g7 g13 g14 g15 N w j w2 := ⟨h.step hb2, grown_of_below hb2 (some g13)⟩
    have Hw2 := Lib.hid hw2
    have Hx := Lib.hid hx
    have Hplen := Lib.hid hplen
    have Hp32 := Lib.hid hp32
    have c4 : w2.cell? ⟨g4, 0, none⟩ = some (.int .i64 (M : Int)) := by rw [hC.c.b4.cell]; rfl
    clear hw2 h hx hb2 hplen hp32
    by_cases hmn : M = b
    · subst hmn
      have heq : ((M : Int) == (M : Int)) = true := by simp
      have hcq := cntS_eq (M - a) whole (by omega)
      have hbo := fun p => bothL_eq (M - a) whole x p (by omega)
      clear ih
      cases whole with
      | true =>
        simp only [if_true] at hbo hcq
        rw [hcq, hbo, Nat.add_zero]
        clear hcq hbo
        go_enter Try.func79, Try.ntmps79
        go_wp2_with (first
          | ((with_reducible show wpList _ _ _ (⟨some 19, .load _ _, _, _, _, _⟩ :: _) _ _); rw [Hw2.out])
          | ((with_reducible show wpList _ _ _ (⟨some 22, .load _ _, _, _, _, _⟩ :: _) _ _); refine wpList_hload (.tmp 4) (by kernel_rfl) rfl hC.c.b6 rfl ?_; simp only [Act.put])
          | ((with_reducible show wpList _ _ _ (⟨some 12, .alloc _, _, _, _, _⟩ :: _) _ _); refine wpList_hvar (.tmp 12) (.tmp 22) rfl rfl rfl rfl rfl rfl Hx.out ?_; intro W3 k12 hb3; simp only [Act.put]))
        have hC3 := hC.step hb3
        have k10' := k10.step hb3
        have k11' := k11.step hb3
        rw [hsz2] at k12
        clear hC k10 k11 hb3 c4
        replace k10' := k10'.drew
        replace k11' := k11'.drew
        replace k12 := k12.drew
        have hS : HV W3.drew (w.heap.size + 1 + 1) x ∧ Below w.heap.size W3 W3.drew := ⟨k12, (Below.refl _ _).drew⟩
        go_wp2_with fail
        refine wp_region_mix (fun W => HV W (w.heap.size + 1 + 1) x ∧ Below w.heap.size W3 W) [(0, true), (1, true), (2, false), (3, false)] (by kernel_rfl) (by kernel_rfl) hS fun _ => ?_
        simp only [List.map_cons, List.map_nil, Array.getD_eq_getD_getElem?, List.getElem?_toArray, List.getElem?_cons_succ, List.getElem?_cons_zero, Option.getD_some]
        generalize W3.drew = W4 at hS k10' k11' k12 ⊢
        refine wpMix_load (by kernel_rfl) 26 (.tmp 12) rfl (w.heap.size + 1 + 1) (0) rfl (x.map B).toArray (fun s => s.ok.1.load) ?_
        simp only [Act.put]
        refine wpMix_load (by kernel_rfl) 26 (.tmp 12) rfl (w.heap.size + 1 + 1) (0) rfl (x.map B).toArray (fun s => s.ok.1.load) ?_
        simp only [Act.put]
        refine wpMix_hset3 (.tmp 10) (.tmp 27) rfl rfl k10' rfl rfl Hx.out (fun _ _ hb hoth => ⟨hoth _ _ (by omega) k12, hS.2.trans hb⟩) ?_
        intro W5 k10s hb5 hoth5
        simp only [Act.put]
        have k12' := hoth5 _ _ (by omega) k12
        have k11'' := hoth5 _ _ (by omega) k11'
        have hS2 := hS.2.trans hb5
        refine wpMix_hset3 (.tmp 11) (.tmp 28) rfl rfl k11'' rfl rfl Hx.out (fun _ _ hb hoth => ⟨hoth _ _ (by omega) k12', hS2.trans (hb.mono (by omega))⟩) ?_
        intro W6 k11s hb6 hoth6
        simp only [Act.put]
        replace k10s := hoth6 _ _ (by omega) k10s
        replace hS2 := hS2.trans (hb6.mono (by omega))
        refine wpMix_nil ?_
        intro _
        go_wp2_with fail
        have hC4 := hC3.low hS2 hN (Nat.le_refl _)
        refine bodyPost_ret (tuple_cells2 rfl _ _ w.heap.size (w.heap.size + 1) x x rfl rfl k10s k11s) rfl ⟨rfl, hC4.c, hC4.g⟩
      | false =>
        simp only [Bool.false_eq_true, if_false] at hbo hcq
        rw [hcq] at hj ⊢
        rw [hbo]
        obtain ⟨y, hy⟩ : ∃ y, p.getD j [] = y := ⟨_, rfl⟩
        have hyl : y.length = 32 := by rw [← hy]; exact Hp32.out.getD j (by rw [Hplen.out]; omega)
        rw [show ((p.drop j).take 1).getD 0 [] = y by rw [← hy, List.getD_eq_getElem?_getD, List.getElem?_take, if_pos (by omega), List.getElem?_drop, List.getD_eq_getElem?_getD]; rfl]
        have ht := fun W (h : BkC M x p A np c g4 g6 g7 g13 g14 g15 N j W) => takeh_any M x p A np c g4 g6 g7 g13 g14 g15 N j W h (by omega)
        rw [hy] at ht
        have Ht := Lib.hid ht
        have Hyl := Lib.hid hyl
        clear hcq hbo ht hy hyl
        go_enter Try.func79, Try.ntmps79
        go_wp2_with (first
          | ((with_reducible show wpList _ _ _ (⟨some 19, .load _ _, _, _, _, _⟩ :: _) _ _); rw [Hw2.out])
          | ((with_reducible show wpList _ _ _ (⟨some 22, .load _ _, _, _, _, _⟩ :: _) _ _); refine wpList_hload (.tmp 4) (by kernel_rfl) rfl hC.c.b6 rfl ?_; simp only [Act.put])
          | ((with_reducible show wpList _ _ _ (⟨some 12, .alloc _, _, _, _, _⟩ :: _) _ _); refine wpList_hvar (.tmp 12) (.tmp 22) rfl rfl rfl rfl rfl rfl Hx.out ?_; intro W2 k12 hb3; simp only [Act.put]; have d5 : W2.cell? ⟨g14, 0, none⟩ = some (.func (.func 78) #[] #[.pointer (some ⟨g13, 0, none⟩), .pointer (some ⟨g7, 0, none⟩)]) := (by rw [(hC.step hb3).c.b14.cell]; rfl)))
        have hC2 := hC.step hb3
        have k10' := k10.step hb3
        have k11' := k11.step hb3
        rw [hsz2] at k12
        clear hC k10 k11 hb3 c4
        refine (Ht.out W2 hC2.c).mono ?_
        rintro e W2' ⟨rfl, hc', hg'⟩
        replace k10' := k10'.grown hg' (fun e => by have e : w.heap.size = g13 := Option.some.inj e; omega)
        replace k11' := k11'.grown hg' (fun e => by have e : w.heap.size + 1 = g13 := Option.some.inj e; omega)
        replace k12 := k12.grown hg' (fun e => by have e : w.heap.size + 1 + 1 = g13 := Option.some.inj e; omega)
        have hC3 : BkS M x p A np c g4 g6 g7 g13 g14 g15 N w (j + 1) W2' := ⟨hc', grownBy_trans hC2.g hg'⟩
        clear hC2 hc' hg' d5
        go_wp2_with ((with_reducible show wpList _ _ _ (⟨none, .store _ (.tmp 12) _, _, _, _, _⟩ :: _) _ _); refine wpList_hset2 (.tmp 12) (.tmp 26) rfl rfl k12 rfl rfl Hyl.out ?_; intro W3 k12s hb4 hoth; simp only [Act.put]; replace k10' := hoth _ _ (by omega) k10'; replace k11' := hoth _ _ (by omega) k11'; replace hC3 := hC3.low hb4 hN (by omega))
        clear k12 hb4 hoth
        replace k10' := k10'.drew
        replace k11' := k11'.drew
        have k12 := k12s.drew
        have hS : HV W3.drew (w.heap.size + 1 + 1) y ∧ Below w.heap.size W3 W3.drew := ⟨k12, (Below.refl _ _).drew⟩
        go_wp2_with fail
        refine wp_region_mix (fun W => HV W (w.heap.size + 1 + 1) y ∧ Below w.heap.size W3 W) [(0, true), (1, true), (2, false), (3, false)] (by kernel_rfl) (by kernel_rfl) hS fun _ => ?_
        simp only [List.map_cons, List.map_nil, Array.getD_eq_getD_getElem?, List.getElem?_toArray, List.getElem?_cons_succ, List.getElem?_cons_zero, Option.getD_some]
        generalize W3.drew = W4 at hS k10' k11' k12 ⊢
        refine wpMix_load (by kernel_rfl) 26 (.tmp 12) rfl (w.heap.size + 1 + 1) (0) rfl (y.map B).toArray (fun s => s.ok.1.load) ?_
        simp only [Act.put]
        refine wpMix_load (by kernel_rfl) 26 (.tmp 12) rfl (w.heap.size + 1 + 1) (0) rfl (y.map B).toArray (fun s => s.ok.1.load) ?_
        simp only [Act.put]
        refine wpMix_hset3 (.tmp 10) (.tmp 27) rfl rfl k10' rfl rfl Hyl.out (fun _ _ hb hoth => ⟨hoth _ _ (by omega) k12, hS.2.trans hb⟩) ?_
        intro W5 k10s hb5 hoth5
        simp only [Act.put]
        have k12' := hoth5 _ _ (by omega) k12
        have k11'' := hoth5 _ _ (by omega) k11'
        have hS2 := hS.2.trans hb5
        refine wpMix_hset3 (.tmp 11) (.tmp 28) rfl rfl k11'' rfl rfl Hyl.out (fun _ _ hb hoth => ⟨hoth _ _ (by omega) k12', hS2.trans (hb.mono (by omega))⟩) ?_
        intro W6 k11s hb6 hoth6
        simp only [Act.put]
        replace k10s := hoth6 _ _ (by omega) k10s
        replace hS2 := hS2.trans (hb6.mono (by omega))
        refine wpMix_nil ?_
        intro _
        go_wp2_with fail
        have hC4 := hC3.low hS2 hN (Nat.le_refl _)
        refine bodyPost_ret (tuple_cells2 rfl _ _ w.heap.size (w.heap.size + 1) y y rfl rfl k10s k11s) rfl ⟨rfl, hC4.c, hC4.g⟩
    · have hne : ((M : Int) == (b : Int)) = false := by simp; omega
      obtain ⟨k, hk⟩ : ∃ k, splitN (b - a) = k := ⟨_, rfl⟩
      have hk1 := splitN_pos (b - a) (by omega)
      have hk2 := splitN_lt (b - a) (by omega)
      rw [hk] at hk1 hk2
      have hw1 : IntKind.i64.wrap ((b : Int) - (a : Int)) = (b : Int) - a := IntWalk.i64_in _ (by omega)
      have hw3 : IntKind.i64.wrap ((a : Int) + (k : Int)) = (a : Int) + k := IntWalk.i64_in _ (by omega)
      have hsp := fun W => tsplit_any ((b : Int) - a) W (by omega)
      rw [show ((b : Int) - a).toNat = b - a by omega, hk] at hsp
      have Hsp := Lib.hid hsp
      clear hsp
      by_cases hkm : M ≤ a + k
      · have hkm' : (M : Int) ≤ (a : Int) + (k : Int) := by omega
        have hcq : cntS (M - a) (b - a) whole = cntS (M - a) k whole + 1 := by rw [← hk]; exact cntS_left (M - a) (b - a) whole (by omega) (by omega) (by omega)
        have hbo := fun p => bothL_left (M - a) (b - a) whole x p (by omega) (by omega) (by omega)
        rw [hk] at hbo
        obtain ⟨e, he⟩ : ∃ e, cntS (M - a) k whole = e := ⟨_, rfl⟩
        rw [he] at hcq
        rw [hcq] at hj ⊢
        have hlt := last_take p j e (by rw [Hplen.out]; omega)
        rw [hbo, hlt.1, hlt.2]
        have hic := fun W (h : BkC M x p A np c g4 g6 g7 g13 g14 g15 N j W) => ih a (a + k) j whole W (by omega) h1 hkm (by omega) (by rw [show a + k - a = k by omega, he]; omega) h
        rw [show a + k - a = k by omega, he, show ((a + k : Nat) : Int) = (a : Int) + k by omega] at hic
        have hlb := length_bothL d (M - a) k whole x ((p.drop j).take e) (by omega) (by omega) (by omega) Hx.out (fun y hy => Hp32.out y (List.mem_of_mem_drop (List.mem_of_mem_take hy))) (by rw [he, List.length_take, List.length_drop, Hplen.out]; omega)
        obtain ⟨r1, hr1⟩ : ∃ r, (bothL (M - a) k whole x ((p.drop j).take e)).1 = r := ⟨_, rfl⟩
        obtain ⟨r2, hr2⟩ : ∃ r, (bothL (M - a) k whole x ((p.drop j).take e)).2 = r := ⟨_, rfl⟩
        obtain ⟨y, hy⟩ : ∃ y, p.getD (j + e) [] = y := ⟨_, rfl⟩
        have hyl : y.length = 32 := by rw [← hy]; exact Hp32.out.getD (j + e) (by rw [Hplen.out]; omega)
        have ht := fun W (h : BkC M x p A np c g4 g6 g7 g13 g14 g15 N (j + e) W) => takeh_any M x p A np c g4 g6 g7 g13 g14 g15 N (j + e) W h (by omega)
        rw [hy] at ht
        rw [hr1, hr2] at hlb hic ⊢
        rw [hy]
        obtain ⟨hl1, hl2⟩ := hlb
        have Hic := Lib.hid hic
        have Ht := Lib.hid ht
        have Hl1 := Lib.hid hl1
        have Hl2 := Lib.hid hl2
        have Hyl := Lib.hid hyl
        clear hic ht hl1 hl2 hyl hbo hcq he hlt hr1 hr2 hy ih hk
        go_enter Try.func79, Try.ntmps79
        go_wp2_with ((with_reducible show wpList _ _ _ (⟨some 19, .load _ _, _, _, _, _⟩ :: _) _ _); rw [Hw2.out])
        refine (Hsp.out w2).mono ?_
        rintro e' _ ⟨rfl, rfl⟩
        have d15 : w2.cell? ⟨g15, 0, none⟩ = some (.func (.func 79) #[] #[.pointer (some ⟨g4, 0, none⟩), .pointer (some ⟨g6, 0, none⟩), .pointer (some ⟨g14, 0, none⟩), .pointer (some ⟨g15, 0, none⟩)]) := by rw [hC.c.b15.cell]; rfl
        go_wp2_with fail
        refine (Hic.out w2 hC.c).mono ?_
        rintro e' W3 ⟨rfl, hc', hg'⟩
        replace k10 := k10.grown hg' (fun e => by have e : w.heap.size = g13 := Option.some.inj e; omega)
        replace k11 := k11.grown hg' (fun e => by have e : w.heap.size + 1 = g13 := Option.some.inj e; omega)
        have hC3 : BkS M x p A np c g4 g6 g7 g13 g14 g15 N w (j + e) W3 := ⟨hc', grownBy_trans hC.g hg'⟩
        have hs3 := hg'.size
        clear hC hc' hg' d15 c4
        go_wp2_with (first
          | ((with_reducible show wpList _ _ _ (⟨some 14, .alloc _, _, _, _, _⟩ :: _) _ _); refine wpList_hnew rfl rfl ?_; intro W4 ka hb4; simp only [Act.put]; replace k10 := k10.step hb4; replace k11 := k11.step hb4; replace hC3 := hC3.step hb4; have hlta := ka.lt; have hs4 := hb4.size)
          | ((with_reducible show wpList _ _ _ (⟨some 15, .alloc _, _, _, _, _⟩ :: _) _ _); refine wpList_hnew rfl rfl ?_; intro W5 kb hb5; simp only [Act.put]; replace k10 := k10.step hb5; replace k11 := k11.step hb5; replace ka := ka.step hb5; replace hC3 := hC3.step hb5; have hs5 := hb5.size)
          | ((with_reducible show wpList _ _ _ (⟨none, .store _ (.tmp 14) _, _, _, _, _⟩ :: _) _ _); refine wpList_hset2 (.tmp 14) (.tmp 44) rfl rfl ka rfl rfl Hl1.out ?_; intro W6 kas hb6 hoth6; simp only [Act.put]; replace k10 := hoth6 _ _ (by omega) k10; replace k11 := hoth6 _ _ (by omega) k11; replace kb := hoth6 _ _ (by omega) kb; replace hC3 := hC3.low hb6 hN (by omega); have hs6 := hb6.size)
          | ((with_reducible show wpList _ _ _ (⟨none, .store _ (.tmp 15) _, _, _, _, _⟩ :: _) _ _); refine wpList_hset2 (.tmp 15) (.tmp 45) rfl rfl kb rfl rfl Hl2.out ?_; intro W7 kbs hb7 hoth7; simp only [Act.put]; replace k10 := hoth7 _ _ (by omega) k10; replace k11 := hoth7 _ _ (by omega) k11; replace kas := hoth7 _ _ (by omega) kas; replace hC3 := hC3.low hb7 hN (by omega)))
        clear ka kb hb4 hb5 hb6 hb7 hoth6 hoth7
        generalize W3.heap.size = ga at *
        generalize W4.heap.size = gb at *
        have hS : W7.grownBy W7.drew (some g13) := grown_of_below (Below.refl _ _).drew _
        have la : ∀ s : InC (fun W => W7.grownBy W (some g13)), (Instr.loadAt 26 (.pointer (some ⟨ga, 0, none⟩))).run Try.prog s.W = .ok (.agg (r1.map B).toArray) s.W := fun s => (kas.grown s.ok (fun e => by have e : ga = g13 := Option.some.inj e; omega)).load
        have lb : ∀ s : InC (fun W => W7.grownBy W (some g13)), (Instr.loadAt 26 (.pointer (some ⟨gb, 0, none⟩))).run Try.prog s.W = .ok (.agg (r2.map B).toArray) s.W := fun s => (kbs.grown s.ok (fun e => by have e : gb = g13 := Option.some.inj e; omega)).load
        have d14 : ∀ s : InC (fun W => W7.grownBy W (some g13)), s.W.cell? ⟨g14, 0, none⟩ = some (.func (.func 78) #[] #[.pointer (some ⟨g13, 0, none⟩), .pointer (some ⟨g7, 0, none⟩)]) := fun s => by rw [(hC3.c.b14.grown s.ok (fun e => hC3.c.n14 (Option.some.inj e))).cell]; rfl
        have La := Lib.hid la
        have Lb := Lib.hid lb
        clear la lb kas kbs
        replace hC3 := hC3.step (Below.refl _ W7).drew
        replace k10 := k10.drew
        replace k11 := k11.drew
        go_wp2_with fail
        refine wp_region_mix_tail (fun W => W7.grownBy W (some g13)) 5 [(0, true), (1, true), (2, true), (3, false), (4, false)] (by kernel_rfl) (by kernel_rfl) hS fun _ => ?_
        simp only [List.map_cons, List.map_nil, Array.getD_eq_getD_getElem?, List.getElem?_toArray, List.getElem?_cons_succ, List.getElem?_cons_zero, Option.getD_some]
        generalize W7.drew = W8 at hS hC3 k10 k11 ⊢
        refine wpMix_load (by kernel_rfl) 26 (.tmp 14) rfl (ga) (0) rfl (r1.map B).toArray (La.out) ?_
        simp only [Act.put]
        refine wpMix_load (by kernel_rfl) 26 (.tmp 15) rfl (gb) (0) rfl (r2.map B).toArray (Lb.out) ?_
        simp only [Act.put]
        refine wpMix_s (fun K hK => ?_)
        go_simp
        refine hK _ ?_
        clear hK K
        refine wpMix_c (fun K hK => ?_) hS
        go_simp
        refine (Ht.out W8 hC3.c).mono ?_
        rintro e' W9 ⟨rfl, hc', hg'⟩
        refine hK _ _ ?_
        clear hK K
        replace hS := grownBy_trans hS hg'
        replace k10 := k10.grown hg' (fun e => by have e : w.heap.size = g13 := Option.some.inj e; omega)
        replace k11 := k11.grown hg' (fun e => by have e : w.heap.size + 1 = g13 := Option.some.inj e; omega)
        have hC9 : BkS M x p A np c g4 g6 g7 g13 g14 g15 N w (j + e + 1) W9 := ⟨hc', grownBy_trans hC3.g hg'⟩
        refine ⟨hS, ?_⟩
        clear hC3 hc' hg'
        refine wpMix_c (fun K hK => ?_) hS
        go_simp
        refine (hnode_any r2 y W9 Hl2.out Hyl.out).mono ?_
        rintro e' W10 ⟨rfl, hb'⟩
        refine hK _ _ ?_
        clear hK K
        replace hS := grownBy_below hS (hb'.mono hS.size)
        replace k10 := k10.step hb'
        replace k11 := k11.step hb'
        replace hC9 := hC9.step hb'
        refine ⟨hS, ?_⟩
        clear hb'
        refine wpMix_nil ?_
        intro _
        simp only [List.drop_succ_cons, List.drop_zero]
        go_wp2_with (first
          | ((with_reducible show wpList _ _ _ (⟨none, .store _ (.tmp 10) _, _, _, _, _⟩ :: _) _ _); refine wpList_hset2 (.tmp 10) (.tmp 46) rfl rfl k10 rfl rfl Hl1.out ?_; intro W12 k10s hb12 hoth12; simp only [Act.put]; replace k11 := hoth12 _ _ (by omega) k11; replace hC9 := hC9.low hb12 hN (by omega))
          | ((with_reducible show wpList _ _ _ (⟨none, .store _ (.tmp 11) _, _, _, _, _⟩ :: _) _ _); refine wpList_hset2 (.tmp 11) (.tmp 50) rfl rfl k11 rfl rfl (length_hNode _ _) ?_; intro W13 k11s hb13 hoth13; simp only [Act.put]; replace k10s := hoth13 _ _ (by omega) k10s; replace hC9 := hC9.low hb13 hN (by omega)))
        refine np_normal ?_
        go_wp2_with fail
        refine bodyPost_ret (tuple_cells2 rfl _ _ w.heap.size (w.heap.size + 1) r1 (hNode r2 y) rfl rfl k10s k11s) rfl ⟨rfl, hC9.c, hC9.g⟩
      · have hkm' : ¬ (M : Int) ≤ (a : Int) + (k : Int) := by omega
        have hcq : cntS (M - a) (b - a) whole = cntS (M - a - k) (b - a - k) false + 1 := by rw [← hk]; exact cntS_right (M - a) (b - a) whole (by omega) (by omega) (by omega)
        have hbo := fun p => bothL_right (M - a) (b - a) whole x p (by omega) (by omega) (by omega)
        rw [hk] at hbo
        obtain ⟨e, he⟩ : ∃ e, cntS (M - a - k) (b - a - k) false = e := ⟨_, rfl⟩
        rw [he] at hcq
        rw [hcq] at hj ⊢
        have hlt := last_take p j e (by rw [Hplen.out]; omega)
        rw [hbo, hlt.1, hlt.2]
        have hic := fun W (h : BkC M x p A np c g4 g6 g7 g13 g14 g15 N j W) => ih (a + k) b j false W (by omega) (by omega) h2 hb (by rw [show M - (a + k) = M - a - k by omega, show b - (a + k) = b - a - k by omega, he]; omega) h
        rw [show M - (a + k) = M - a - k by omega, show b - (a + k) = b - a - k by omega, he, show ((a + k : Nat) : Int) = (a : Int) + k by omega] at hic
        have hlb := length_bothL (b - a) (M - a - k) (b - a - k) false x ((p.drop j).take e) (by omega) (by omega) (by omega) Hx.out (fun y hy => Hp32.out y (List.mem_of_mem_drop (List.mem_of_mem_take hy))) (by rw [he, List.length_take, List.length_drop, Hplen.out]; omega)
        obtain ⟨r1, hr1⟩ : ∃ r, (bothL (M - a - k) (b - a - k) false x ((p.drop j).take e)).1 = r := ⟨_, rfl⟩
        obtain ⟨r2, hr2⟩ : ∃ r, (bothL (M - a - k) (b - a - k) false x ((p.drop j).take e)).2 = r := ⟨_, rfl⟩
        obtain ⟨y, hy⟩ : ∃ y, p.getD (j + e) [] = y := ⟨_, rfl⟩
        have hyl : y.length = 32 := by rw [← hy]; exact Hp32.out.getD (j + e) (by rw [Hplen.out]; omega)
        have ht := fun W (h : BkC M x p A np c g4 g6 g7 g13 g14 g15 N (j + e) W) => takeh_any M x p A np c g4 g6 g7 g13 g14 g15 N (j + e) W h (by omega)
        rw [hy] at ht
        rw [hr1, hr2] at hlb hic ⊢
        rw [hy]
        obtain ⟨hl1, hl2⟩ := hlb
        have Hic := Lib.hid hic
        have Ht := Lib.hid ht
        have Hl1 := Lib.hid hl1
        have Hl2 := Lib.hid hl2
        have Hyl := Lib.hid hyl
        clear hic ht hl1 hl2 hyl hbo hcq he hlt hr1 hr2 hy ih hk
        go_enter Try.func79, Try.ntmps79
        go_wp2_with ((with_reducible show wpList _ _ _ (⟨some 19, .load _ _, _, _, _, _⟩ :: _) _ _); rw [Hw2.out])
        refine (Hsp.out w2).mono ?_
        rintro e' _ ⟨rfl, rfl⟩
        have d15 : w2.cell? ⟨g15, 0, none⟩ = some (.func (.func 79) #[] #[.pointer (some ⟨g4, 0, none⟩), .pointer (some ⟨g6, 0, none⟩), .pointer (some ⟨g14, 0, none⟩), .pointer (some ⟨g15, 0, none⟩)]) := by rw [hC.c.b15.cell]; rfl
        go_wp2_with fail
        refine (Hic.out w2 hC.c).mono ?_
        rintro e' W3 ⟨rfl, hc', hg'⟩
        replace k10 := k10.grown hg' (fun e => by have e : w.heap.size = g13 := Option.some.inj e; omega)
        replace k11 := k11.grown hg' (fun e => by have e : w.heap.size + 1 = g13 := Option.some.inj e; omega)
        have hC3 : BkS M x p A np c g4 g6 g7 g13 g14 g15 N w (j + e) W3 := ⟨hc', grownBy_trans hC.g hg'⟩
        have hs3 := hg'.size
        clear hC hc' hg' d15 c4
        go_wp2_with (first
          | ((with_reducible show wpList _ _ _ (⟨some 16, .alloc _, _, _, _, _⟩ :: _) _ _); refine wpList_hnew rfl rfl ?_; intro W4 ka hb4; simp only [Act.put]; replace k10 := k10.step hb4; replace k11 := k11.step hb4; replace hC3 := hC3.step hb4; have hlta := ka.lt; have hs4 := hb4.size)
          | ((with_reducible show wpList _ _ _ (⟨some 17, .alloc _, _, _, _, _⟩ :: _) _ _); refine wpList_hnew rfl rfl ?_; intro W5 kb hb5; simp only [Act.put]; replace k10 := k10.step hb5; replace k11 := k11.step hb5; replace ka := ka.step hb5; replace hC3 := hC3.step hb5; have hs5 := hb5.size)
          | ((with_reducible show wpList _ _ _ (⟨none, .store _ (.tmp 16) _, _, _, _, _⟩ :: _) _ _); refine wpList_hset2 (.tmp 16) (.tmp 56) rfl rfl ka rfl rfl Hl1.out ?_; intro W6 kas hb6 hoth6; simp only [Act.put]; replace k10 := hoth6 _ _ (by omega) k10; replace k11 := hoth6 _ _ (by omega) k11; replace kb := hoth6 _ _ (by omega) kb; replace hC3 := hC3.low hb6 hN (by omega); have hs6 := hb6.size)
          | ((with_reducible show wpList _ _ _ (⟨none, .store _ (.tmp 17) _, _, _, _, _⟩ :: _) _ _); refine wpList_hset2 (.tmp 17) (.tmp 57) rfl rfl kb rfl rfl Hl2.out ?_; intro W7 kbs hb7 hoth7; simp only [Act.put]; replace k10 := hoth7 _ _ (by omega) k10; replace k11 := hoth7 _ _ (by omega) k11; replace kas := hoth7 _ _ (by omega) kas; replace hC3 := hC3.low hb7 hN (by omega); have d14 : W7.cell? ⟨g14, 0, none⟩ = some (.func (.func 78) #[] #[.pointer (some ⟨g13, 0, none⟩), .pointer (some ⟨g7, 0, none⟩)]) := (by rw [hC3.c.b14.cell]; rfl)))
        refine (Ht.out W7 hC3.c).mono ?_
        rintro e' W8 ⟨rfl, hc', hg'⟩
        have hsa : W3.heap.size ≠ g13 := by omega
        have hsb : W4.heap.size ≠ g13 := by omega
        replace k10 := k10.grown hg' (fun e => by have e : w.heap.size = g13 := Option.some.inj e; omega)
        replace k11 := k11.grown hg' (fun e => by have e : w.heap.size + 1 = g13 := Option.some.inj e; omega)
        have kas' := kas.grown hg' (fun e => hsa (Option.some.inj e))
        have kbs' := kbs.grown hg' (fun e => hsb (Option.some.inj e))
        have hC9 : BkS M x p A np c g4 g6 g7 g13 g14 g15 N w (j + e + 1) W8 := ⟨hc', grownBy_trans hC3.g hg'⟩
        have hs8 := hg'.size
        have hs7 := hb7.size
        clear hC3 hc' hg' d14 ka kb kas kbs hb4 hb5 hb6 hb7 hoth6 hoth7
        generalize W3.heap.size = ga at *
        generalize W4.heap.size = gb at *
        go_wp2_with ((with_reducible show wpList _ _ _ (⟨some 18, .alloc _, _, _, _, _⟩ :: _) _ _); refine wpList_hvar (.tmp 18) (.tmp 59) rfl rfl rfl rfl rfl rfl Hyl.out ?_; intro W9 k18 hb9; simp only [Act.put])
        have k10' := k10.step hb9
        have k11' := k11.step hb9
        have ka := kas'.step hb9
        have kb := kbs'.step hb9
        have hCa := hC9.step hb9
        clear k10 k11 kas' kbs' hC9 hb9
        generalize W8.heap.size = g18 at *
        have hS : Below W9.heap.size W9 W9.drew := (Below.refl _ _).drew
        have la : ∀ s : InC (fun W => Below W9.heap.size W9 W), (Instr.loadAt 26 (.pointer (some ⟨ga, 0, none⟩))).run Try.prog s.W = .ok (.agg (r1.map B).toArray) s.W := fun s => (ka.step s.ok).load
        have lb : ∀ s : InC (fun W => Below W9.heap.size W9 W), (Instr.loadAt 26 (.pointer (some ⟨gb, 0, none⟩))).run Try.prog s.W = .ok (.agg (r2.map B).toArray) s.W := fun s => (kb.step s.ok).load
        have l18 : ∀ s : InC (fun W => Below W9.heap.size W9 W), (Instr.loadAt 26 (.pointer (some ⟨g18, 0, none⟩))).run Try.prog s.W = .ok (.agg (y.map B).toArray) s.W := fun s => (k18.step s.ok).load
        have La := Lib.hid la
        have Lb := Lib.hid lb
        have L18 := Lib.hid l18
        clear la lb l18 ka kb k18
        go_wp2_with fail
        refine wp_region_mix_tail (fun W => Below W9.heap.size W9 W) 6 [(0, true), (1, true), (3, true), (4, true), (2, false), (5, false)] (by kernel_rfl) (by kernel_rfl) hS fun _ => ?_
        simp only [List.map_cons, List.map_nil, Array.getD_eq_getD_getElem?, List.getElem?_toArray, List.getElem?_cons_succ, List.getElem?_cons_zero, Option.getD_some]
        generalize W9.drew = W10 at hS ⊢
        refine wpMix_load (by kernel_rfl) 26 (.tmp 18) rfl (g18) (0) rfl (y.map B).toArray (L18.out) ?_
        simp only [Act.put]
        refine wpMix_load (by kernel_rfl) 26 (.tmp 16) rfl (ga) (0) rfl (r1.map B).toArray (La.out) ?_
        simp only [Act.put]
        refine wpMix_load (by kernel_rfl) 26 (.tmp 18) rfl (g18) (0) rfl (y.map B).toArray (L18.out) ?_
        simp only [Act.put]
        refine wpMix_load (by kernel_rfl) 26 (.tmp 17) rfl (gb) (0) rfl (r2.map B).toArray (Lb.out) ?_
        simp only [Act.put]
        refine wpMix_c (fun K hK => ?_) hS
        go_simp
        refine (hnode_any y r1 W10 Hyl.out Hl1.out).mono ?_
        rintro e W10_1 ⟨rfl, hb'⟩
        refine hK _ _ ?_
        clear hK K
        replace hS := hS.trans (hb'.mono hS.size)
        refine ⟨hS, ?_⟩
        clear hb'
        refine wpMix_c (fun K hK => ?_) hS
        go_simp
        refine (hnode_any y r2 W10_1 Hyl.out Hl2.out).mono ?_
        rintro e W10_2 ⟨rfl, hb'⟩
        refine hK _ _ ?_
        clear hK K
        replace hS := hS.trans (hb'.mono hS.size)
        refine ⟨hS, ?_⟩
        clear hb'
        refine wpMix_nil ?_
        intro _
        simp only [List.drop_succ_cons, List.drop_zero]
        generalize W10_2 = W11 at *
        have k10 := k10'.step hS
        have k11 := k11'.step hS
        have hC9 := hCa.step hS
        clear k10' k11' hCa hS
        go_wp2_with (first
          | ((with_reducible show wpList _ _ _ (⟨none, .store _ (.tmp 10) _, _, _, _, _⟩ :: _) _ _); refine wpList_hset2 (.tmp 10) (.tmp 62) rfl rfl k10 rfl rfl (length_hNode _ _) ?_; intro W12 k10s hb12 hoth12; simp only [Act.put]; replace k11 := hoth12 _ _ (by omega) k11; replace hC9 := hC9.low hb12 hN (by omega))
          | ((with_reducible show wpList _ _ _ (⟨none, .store _ (.tmp 11) _, _, _, _, _⟩ :: _) _ _); refine wpList_hset2 (.tmp 11) (.tmp 65) rfl rfl k11 rfl rfl (length_hNode _ _) ?_; intro W13 k11s hb13 hoth13; simp only [Act.put]; replace k10s := hoth13 _ _ (by omega) k10s; replace hC9 := hC9.low hb13 hN (by omega)))
        refine np_normal ?_
        go_wp2_with fail
        refine bodyPost_ret (tuple_cells2 rfl _ _ w.heap.size (w.heap.size + 1) (hNode y r1) (hNode y r2) rfl rfl k10s k11s) rfl ⟨rfl, hC9.c, hC9.g⟩
end Go.Proofs.Ytobcfgbkhgkelaa
/- cons.Size; notaryref12.Prove. -/
namespace Go.Proofs.Ytobcfgbkhgkelaa
open Go Go.RowKit

set_option maxRecDepth 100000 in
theorem csize_any (m n : Int) (w : World) (hn : n ≤ 9223372036854775807) :
    Calls Try.prog 77 #[.int .i64 m, .int .i64 n] w fun e w' => e = .returned (.tuple #[.int .i64 ((stepsA m n).1.length : Int), .int .i64 (stepsA m n).2]) ∧ Below w.heap.size w w' := by
  have hst := tstepsA_any m n w hn
  obtain ⟨⟨ls, e0⟩, hse⟩ : ∃ s, stepsA m n = s := ⟨_, rfl⟩
  rw [hse] at hst ⊢
  dsimp only at hst ⊢
  have Hst := Lib.hid hst
  clear hst hse
  go_enter Try.func77, Try.ntmps77
  go_wp2_with fail
  refine Hst.out.mono ?_
  rintro e w1 ⟨vs, rfl, hP⟩
  obtain ⟨As, cs, rfl, -⟩ := Rs.of_owns hP.own (length_natR ls)
  have hb1 := hP.bel
  clear hP
  go_wp2_with fail
  refine bodyPost_ret (results_tmp2 rfl _ _ _) rfl ⟨rfl, hb1⟩

structure RpI (w : World) (hs : List (List UInt8)) (A : Option Addr) (n c : Nat) (As : Option Addr) (ns cs b1 : Nat) (ls : List (Nat × Nat)) (q : List (List UInt8)) (v : Value) (W : World) : Prop where
  src : Hs W (· < w.heap.size) A n c hs
  st : Rs W (· < b1) As ns cs (natR ls)
  own : W.ownsRow b1 26 32 v q.length (hcells q)
  bel : Below w.heap.size w W
  le : w.heap.size ≤ b1
  sz : b1 ≤ W.heap.size

end Go.Proofs.Ytobcfgbkhgkelaa
