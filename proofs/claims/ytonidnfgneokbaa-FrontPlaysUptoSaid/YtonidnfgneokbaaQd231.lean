/- notarylaw10.hashes, kept: hashes with a mark behind them. -/
import Derived.Test.YtonidnfgneokbaaQd230
import Derived.Test.YtonidnfgneokbaaQd211
import Derived.Test.YtonidnfgneokbaaQd214
namespace Go.Proofs.Ytonidnfgneokbaa
open Go Go.RowKit

def mark77 : List UInt8 := oneHash 77
theorem length_mark77 : mark77.length = 32 := rfl

set_option maxHeartbeats 1000000 in
set_option maxRecDepth 100000 in
theorem hashes10_any (hs : List (List UInt8)) (A : Option Addr) (n c : Nat) (w : World) (h : Hs w (fun _ => True) A n c hs) (hmax : n ≤ 1099511627776) :
    Calls Try.prog 60 #[.slice A n c] w fun e w' => ∃ A' c', e = .returned (.slice A' n c') ∧ w'.ownsRow w.heap.size 25 32 (.slice A' (n + 1) c') (n + 1) (hcells (hs ++ [mark77])) ∧ Hs w' (w.heap.size ≤ ·) A' (n + 1) c' (hs ++ [mark77]) ∧ Below w.heap.size w w' := by
  have hroom := h.sl.room
  have hmx := h.sl.max
  unfold maxLen at hmx
  have hlen := h.len
  obtain ⟨v1, w1, hr1, ho1, hg1, -⟩ := append_slv (ty := 26) Try.underlying26 info26z (by simp [Value.cells]) (by decide) (World.ownsRow_nil w w.heap.size 25 32) h.sl (oneB _) (by unfold maxLen; omega) (by omega) (Nat.le_refl _)
  rw [List.nil_append, Nat.zero_add] at ho1
  obtain ⟨m, hm⟩ : ∃ m, mark77 = m := ⟨_, rfl⟩
  have hml : m.length = 32 := by rw [← hm]; rfl
  have hm32 : H32 [m] := by intro x hx; rw [List.mem_singleton.1 hx]; exact hml
  have B1 := (Below.refl w.heap.size w).grown hg1 (Nat.le_refl _) (fun k hk => by cases hk)
  have hbA : Below w1.heap.size w1 (w1.alloc (.cells (hcells [m]).toArray 25)) := (Below.refl _ _).alloc (Nat.le_refl _) _
  have ho2 := owns_step ho1 hbA
  have B2 := B1.trans (hbA.mono B1.size)
  obtain ⟨v3, w3, hr3, ho3, hg3, -⟩ := append_slv (ty := 26) Try.underlying26 info26z (by simp [Value.cells]) (by decide) ho2 (Hs.lit w1 [m] hm32 (by simp) 1 rfl).sl (oneB _) (by unfold maxLen; omega) (by omega) B2.size
  rw [← hcells_append] at ho3
  have B3 := B2.grown hg3 B2.size (fun k hk => (ho2.lt k hk).1)
  obtain ⟨A3, c3, rfl, hs3⟩ := Hs.of_owns ho3 (by rw [List.length_append, hlen]; rfl) (h.all.append hm32)
  have hr3' := hs3.sl.room
  have hs4 : Hs w3 (w.heap.size ≤ ·) A3 (n + 1) c3 (hs ++ [m]) := hs3.weak fun _ _ hx => hx.1
  rw [hm]
  have Hr1 := Lib.hid hr1
  have Hr3 := Lib.hid hr3
  have Hm := Lib.hid hm
  have Ho3 := Lib.hid ho3
  clear hr1 hr3 ho1 ho2 ho3 hg1 hg3 B1 B2 hbA h hm hs3
  go_enter Try.func60, Try.ntmps60
  go_wp2_with (first
    | ((with_reducible show wpList _ _ _ (⟨some 5, .call _, _, _, _, _⟩ :: _) _ _); refine wpList_run rfl v1 w1 (run_append_op (.const (.slice none 0 0)) (.tmp 4) 26 rfl _ _ rfl rfl Hr1.out) ?_; simp only [Act.put])
    | ((with_reducible show wpList _ _ _ (⟨some 6, .build _ _, _, _, _, _⟩ :: _) _ _); refine wpList_run0 rfl (.agg (m.map B).toArray) (by rw [← Hm.out]; kernel_rfl) ?_; simp only [Act.put])
    | ((with_reducible show wpList _ _ _ (⟨some 7, .buildSlice _ _ _, _, _, _, _⟩ :: _) _ _); refine wpList_run rfl _ _ (run_lit_op [m] hm32 (by simp) (by simp) 1 _ rfl (by simp [Act.eval]) rfl _) ?_; simp only [Act.put])
    | ((with_reducible show wpList _ _ _ (⟨some 8, .call _, _, _, _, _⟩ :: _) _ _); refine wpList_run rfl (.slice A3 (n + 1) c3) w3 (run_append_op (.tmp 5) (.tmp 7) 26 rfl _ _ rfl rfl Hr3.out) ?_; simp only [Act.put])
    | ((with_reducible show wpList _ _ _ (⟨some 12, .slice _ _ _ _ _, _, _, _, _⟩ :: _) _ _); refine wpList_run0 rfl (.slice A3 n c3) (run_slice_op_hi (.tmp 9) (.tmp 11) rfl A3 (n + 1) c3 n rfl rfl (by omega) _) ?_; simp only [Act.put]))
  go_ret
  exact ⟨A3, c3, rfl, Ho3.out, hs4, B3⟩
set_option maxHeartbeats 1000000 in
set_option maxRecDepth 100000 in
theorem kept10_any (hs : List (List UInt8)) (A A' : Option Addr) (n c c' : Nat) (w : World) (h : Hs w (fun _ => True) A (n + 1) c (hs ++ [mark77])) (hb : Hs w (fun _ => True) A' n c' hs) (hmax : n ≤ 1099511627776) :
    Calls Try.prog 61 #[.slice A n c, .slice A' n c'] w fun e w' => e = .returned (.bool true) ∧ Below w.heap.size w w' := by
  have hroom := h.sl.room
  have hmx := h.sl.max
  unfold maxLen at hmx
  have hr2 := hb.sl.room
  have hmx2 := hb.sl.max
  unfold maxLen at hmx2
  have ht := h.take n (by omega)
  rw [show (hs ++ [mark77]).take n = hs by rw [← hb.len]; simp] at ht
  have hsame := sameh10_any hs A A' n c c' w ht hb
  obtain ⟨b, o, rfl, -, -, -⟩ := h.at_ (by omega)
  have hld : ∀ W, Below w.heap.size w W → (Instr.loadAt 25 (.pointer (some ⟨b, o + n * 32, none⟩))).run Try.prog W = .ok (.agg (mark77.map B).toArray) W := fun W hW => by
    obtain ⟨b', o', hA, -, -, hat⟩ := (h.step hW).at_ (by omega)
    cases hA
    have := hat n (by omega)
    rw [show (hs ++ [mark77]).getD n [] = mark77 by rw [← hb.len]; simp [List.getD_eq_getElem?_getD]] at this
    exact this
  obtain ⟨m, hm⟩ : ∃ m, mark77 = m := ⟨_, rfl⟩
  have hml : m.length = 32 := by rw [← hm]; rfl
  rw [hm] at hld
  have hw1 : IntKind.i64.wrap ((n : Int) + 1) = (n : Int) + 1 := IntWalk.i64_in _ (by omega)
  have hnn : (n : Int) < (n : Int) + 1 := by omega
  have Hld := Lib.hid hld
  have Hm := Lib.hid hm
  have Hsame := Lib.hid hsame
  clear hld hm hsame ht h hb
  go_enter Try.func61, Try.ntmps61
  go_wp2_with fail
  refine Hsame.out.mono ?_
  rintro e w1 ⟨rfl, hb1⟩
  go_wp2_with (first
    | ((with_reducible show wpList _ _ _ (⟨some 13, .slice _ _ _ _ _, _, _, _, _⟩ :: _) _ _); refine wpList_runG (by kernel_rfl) (.slice (some ⟨b, o, none⟩) (n + 1) c) _ (run_slice_op_hi (.tmp 9) (.tmp 12) rfl (some ⟨b, o, none⟩) n c (n + 1) rfl rfl (by omega) _) ?_; simp only [Act.put])
    | ((with_reducible show wpList _ _ _ (⟨some 17, .load _ _, _, _, _, _⟩ :: _) _ _); refine wpList_runG (by kernel_rfl) (.agg (m.map B).toArray) _ (run_load_op 25 (.tmp 16) rfl b (o + n * 32) rfl _ (Hld.out _ hb1)) ?_; simp only [Act.put])
    | ((with_reducible show wpList _ _ _ (⟨some 18, .build _ _, _, _, _, _⟩ :: _) _ _); refine wpList_runG (by kernel_rfl) (.agg (m.map B).toArray) w1 (by rw [← Hm.out]; kernel_rfl) ?_; simp only [Act.put])
    | ((with_reducible show wpList _ _ _ (⟨some 19, .binOp _ _ _ _ _, _, _, _, _⟩ :: _) _ _); refine wpList_runG (by kernel_rfl) (.bool true) _ (run_eql26_t (.tmp 17) (.tmp 18) _ m m rfl rfl rfl hml hml rfl _) ?_; simp only [Act.put]))
  go_ret
  exact ⟨rfl, hb1⟩
end Go.Proofs.Ytonidnfgneokbaa
/- notarylaw10.goes: All, left behind some turns, and gone over once more. -/
namespace Go.Proofs.Ytonidnfgneokbaa
open Go Go.RowKit Go.Shelf
attribute [local go_sem] Oper.semAt_some

def psO : Option FrV → FrV | none => [] | some ps => ps
theorem HasO.all {W : World} {v : Value} {o : Option FrV} (h : HasO W v o) : AllOk v (psO o) W := by
  rcases h with ⟨rfl, rfl⟩ | ⟨g, ps, rfl, rfl, h3, h4⟩
  · exact allOk_nil W
  · exact allOk_some h3 h4.h62 (Nat.le_trans h4.len (by decide))
theorem HasO.ok {W : World} {v : Value} {o : Option FrV} (h : HasO W v o) : FrOk (psO o) := by
  rcases h with ⟨rfl, rfl⟩ | ⟨g, ps, rfl, rfl, h3, h4⟩
  · exact frOk_nil
  · exact h4
theorem eql_all_nil (g : Nat) (W : World) : (binOp .eql 73 (.func (.func 118) #[] #[.pointer (some ⟨g, 0, none⟩)]) .nilFunc).run Try.prog W = .ok (.bool false) W := by
  kernel_rfl
theorem results_cb10 {fn : Func} {p : Tmp} (h : fn.results = #[.cell p 4]) (tmps : Array Value) (w : World) (g : Nat) (b : Bool) (hp : tmps.getD p undef = .pointer (some ⟨g, 0, none⟩)) (hg : Blk w g 4 #[.bool b]) :
    (results fn tmps).run Try.prog w = .ok (.bool b) w := by
  have hp' : tmps[p]?.getD undef = .pointer (some ⟨g, 0, none⟩) := by simpa using hp
  have hc : w.cell? ⟨g, 0, none⟩ = some (.bool b) := by rw [hg.cell]; rfl
  have hagg : ∀ w : World, (isAgg 4).run Try.prog w = .ok false w := fun _ => by kernel_rfl
  simp [results, h, hp', asAddr, loadVar, hagg, hc, go_sem]
/-- within the loops of goes -/
structure GoR (w8 : World) (gT gk t : Nat) (ds : List Nat) (k : Nat) (W : World) : Prop where
  bel : Below w8.heap.size w8 W
  bT : Blk W gT 3 #[.int .i64 (t : Int)]
  bk : Blk W gk 3 #[.int .i64 (k : Int)]
  mks : MarksOk w8.heap.size ds W
  zT : w8.heap.size ≤ gT
  tk : gT < gk
structure GoQ (w8 : World) (gT gk t : Nat) (ds : List Nat) (lv : Int) (k : Nat) (W : World) : Prop extends GoR w8 gT gk t ds k W where
  nx : t = 0 → ¬ (1 ≤ lv ∧ lv ≤ (k : Int))
section
variable {w8 W W' : World} {gT gk t k B : Nat} {ds : List Nat} {lv : Int}
theorem GoR.step (h : GoR w8 gT gk t ds k W) (hb : Below W.heap.size W W') : GoR w8 gT gk t ds k W' := ⟨h.bel.trans (hb.mono h.bel.size), h.bT.step hb, h.bk.step hb, h.mks.step hb, h.zT, h.tk⟩
theorem GoQ.step (h : GoQ w8 gT gk t ds lv k W) (hb : Below W.heap.size W W') : GoQ w8 gT gk t ds lv k W' := ⟨h.toGoR.step hb, h.nx⟩
theorem GoR.own (hB : gk < B) (hd : ∀ D ∈ ds, D < B) : OwnFrom B (fun k W => GoR w8 gT gk t ds k W) := fun k X Y row h hg hr => by
  have h1 := h.zT
  have h2 := h.tk
  have hne : ∀ g, g < B → some g ≠ row := fun g hg e => by have := (hr g e.symm).1; omega
  exact ⟨h.bel.grown hg h.bel.size (fun r e => by have := (hr r e).1; omega), h.bT.grown hg (hne _ (by omega)), h.bk.grown hg (hne _ hB), h.mks.grown hg (fun D hD => hne _ (hd D hD)), h1, h2⟩
theorem GoQ.own (hB : gk < B) (hd : ∀ D ∈ ds, D < B) : OwnFrom B (fun k W => GoQ w8 gT gk t ds lv k W) := fun k X Y row h hg hr => ⟨GoR.own hB hd k X Y row h.toGoR hg hr, h.nx⟩
theorem GoR.setk (h : GoR w8 gT gk t ds k W) (k' : Nat) : GoR w8 gT gk t ds k' (W.setCell ⟨gk, 0, none⟩ (.int .i64 (k' : Int))) := by
  have h1 := h.zT
  have h2 := h.tk
  exact ⟨h.bel.grown (grownBy_setCell' W gk _) h.bel.size (fun r e => by cases e; omega), h.bT.apart (by omega) _, h.bk.set_ 0 _, h.mks.cell h.bk _, h1, h2⟩
end

set_option maxHeartbeats 8000000 in
set_option maxRecDepth 100000 in
theorem goes_any (f r : Value) (o : Option FrV) (lv : Int) (w : World) (hf : HasO w f o) (hr : HasR w r o) : Calls Try.prog 59 #[f, r, .int .i64 lv] w fun e w' => e = .returned (.bool true) ∧ Below w.heap.size w w' := by
  have hal := fun W => fall_any f W hf.one
  have Hal := Lib.hid hal
  have hA := hf.all
  have hok := hf.ok
  obtain ⟨w1, hw1⟩ : ∃ x, w.alloc (.cells #[.int .i64 lv] 3) = x := ⟨_, rfl⟩
  obtain ⟨w2, hw2⟩ : ∃ x, w1.alloc (.cells #[.bool false] 4) = x := ⟨_, rfl⟩
  have hb1 : Below w.heap.size w w1 := by rw [← hw1]; exact (Below.refl _ _).alloc (Nat.le_refl _) _
  have hb2 : Below w1.heap.size w1 w2 := by rw [← hw2]; exact (Below.refl _ _).alloc (Nat.le_refl _) _
  have k5 : Blk w1 w.heap.size 3 #[.int .i64 lv] := by rw [← hw1]; exact Blk.new _ _ _
  have k6 : Blk w2 w1.heap.size 4 #[.bool false] := by rw [← hw2]; exact Blk.new _ _ _
  replace k5 := k5.step hb2
  have hb12 := hb1.trans (hb2.mono hb1.size)
  have hs1 := hb1.size
  have hs2 := hb2.size
  have hz5 := k5.lt
  have Hw1 := Lib.hid hw1
  have Hw2 := Lib.hid hw2
  clear hal hw1 hw2 hb1 hb2
  refine (callsIn_wide (n := 5)).1 ?_
  refine callsIn_of_wp_marks Try.func59 rfl trivial ?_ rfl
  simp only [Try.ntmps59, List.size_toArray, List.length_cons, List.length_nil, Nat.reduceAdd, Nat.reduceSub, Array.replicate_succ, Array.replicate_zero, List.push_toArray, List.append_toArray, List.nil_append, List.cons_append]
  refine wpIn_wide.2 ?_
  go_upto_region 5 with (first | rw [Hw1.out] | rw [Hw2.out] | ((with_reducible show Calls _ _ _ _ _); refine (Hal.out w2).mono ?_; rintro e w3 ⟨rfl, hbx, hb3⟩; have hnil := eql_all_nil w2.heap.size w3) | ((with_reducible show wpList _ _ _ [⟨some 8, .alloc _, _, _, _, _⟩] _ _); refine wpList_run rfl (.pointer (some ⟨w3.heap.size, 0, none⟩)) (w3.alloc (.cells #[.slice none 0 0] 89)) (by kernel_rfl) ?_; have k8 : Blk (w3.alloc (.cells #[.slice none 0 0] 89)) w3.heap.size 89 #[.slice none 0 0] := Blk.new _ _ _; have hb4 : Below w3.heap.size w3 (w3.alloc (.cells #[.slice none 0 0] 89)) := (Below.refl _ _).alloc (Nat.le_refl _) _; generalize w3.alloc (.cells #[.slice none 0 0] 89) = w4 at k8 hb4 ⊢; simp only [Act.put]))
  have hb34 := hb12.trans (hb3.mono (Nat.le_trans hs1 hs2))
  have hb40 := hb34.trans (hb4.mono hb34.size)
  have hr4 := hr.step (Below.mono hb40 (Nat.le_refl _))
  have hs3 := hb3.size
  replace k5 := k5.step hb3
  replace k6 := k6.step hb3
  rename_i Kc hc K0 h0
  have key : ∀ (a : Act) (A : Option Addr) (n c : Nat) (W8 : World), a = { tmps := #[(fun j => a.tmps.toList.getD j undef) 0, (fun j => a.tmps.toList.getD j undef) 1, (fun j => a.tmps.toList.getD j undef) 2, (fun j => a.tmps.toList.getD j undef) 3, (fun j => a.tmps.toList.getD j undef) 4, .pointer (some ⟨w.heap.size, 0, none⟩), .pointer (some ⟨w1.heap.size, 0, none⟩), .func (.func 118) #[] #[.pointer (some ⟨w2.heap.size, 0, none⟩)], .pointer (some ⟨w3.heap.size, 0, none⟩), (fun j => a.tmps.toList.getD j undef) 9, (fun j => a.tmps.toList.getD j undef) 10, (fun j => a.tmps.toList.getD j undef) 11, (fun j => a.tmps.toList.getD j undef) 12, (fun j => a.tmps.toList.getD j undef) 13, (fun j => a.tmps.toList.getD j undef) 14, (fun j => a.tmps.toList.getD j undef) 15, (fun j => a.tmps.toList.getD j undef) 16, (fun j => a.tmps.toList.getD j undef) 17, (fun j => a.tmps.toList.getD j undef) 18, (fun j => a.tmps.toList.getD j undef) 19, (fun j => a.tmps.toList.getD j undef) 20, (fun j => a.tmps.toList.getD j undef) 21, (fun j => a.tmps.toList.getD j undef) 22, (fun j => a.tmps.toList.getD j undef) 23, (fun j => a.tmps.toList.getD j undef) 24, (fun j => a.tmps.toList.getD j undef) 25, (fun j => a.tmps.toList.getD j undef) 26, (fun j => a.tmps.toList.getD j undef) 27, (fun j => a.tmps.toList.getD j undef) 28, (fun j => a.tmps.toList.getD j undef) 29, (fun j => a.tmps.toList.getD j undef) 30, (fun j => a.tmps.toList.getD j undef) 31, (fun j => a.tmps.toList.getD j undef) 32, (fun j => a.tmps.toList.getD j undef) 33, (fun j => a.tmps.toList.getD j undef) 34, (fun j => a.tmps.toList.getD j undef) 35, (fun j => a.tmps.toList.getD j undef) 36, (fun j => a.tmps.toList.getD j undef) 37, (fun j => a.tmps.toList.getD j undef) 38, (fun j => a.tmps.toList.getD j undef) 39, (fun j => a.tmps.toList.getD j undef) 40, (fun j => a.tmps.toList.getD j undef) 41, (fun j => a.tmps.toList.getD j undef) 42, (fun j => a.tmps.toList.getD j undef) 43, (fun j => a.tmps.toList.getD j undef) 44, (fun j => a.tmps.toList.getD j undef) 45, (fun j => a.tmps.toList.getD j undef) 46, (fun j => a.tmps.toList.getD j undef) 47, (fun j => a.tmps.toList.getD j undef) 48, (fun j => a.tmps.toList.getD j undef) 49, (fun j => a.tmps.toList.getD j undef) 50, (fun j => a.tmps.toList.getD j undef) 51, (fun j => a.tmps.toList.getD j undef) 52, (fun j => a.tmps.toList.getD j undef) 53, (fun j => a.tmps.toList.getD j undef) 54, (fun j => a.tmps.toList.getD j undef) 55, (fun j => a.tmps.toList.getD j undef) 56, (fun j => a.tmps.toList.getD j undef) 57, (fun j => a.tmps.toList.getD j undef) 58, (fun j => a.tmps.toList.getD j undef) 59, (fun j => a.tmps.toList.getD j undef) 60, (fun j => a.tmps.toList.getD j undef) 61, (fun j => a.tmps.toList.getD j undef) 62, (fun j => a.tmps.toList.getD j undef) 63, (fun j => a.tmps.toList.getD j undef) 64, (fun j => a.tmps.toList.getD j undef) 65, (fun j => a.tmps.toList.getD j undef) 66, (fun j => a.tmps.toList.getD j undef) 67, (fun j => a.tmps.toList.getD j undef) 68, (fun j => a.tmps.toList.getD j undef) 69, (fun j => a.tmps.toList.getD j undef) 70, (fun j => a.tmps.toList.getD j undef) 71, (fun j => a.tmps.toList.getD j undef) 72, (fun j => a.tmps.toList.getD j undef) 73, (fun j => a.tmps.toList.getD j undef) 74, (fun j => a.tmps.toList.getD j undef) 75, (fun j => a.tmps.toList.getD j undef) 76, (fun j => a.tmps.toList.getD j undef) 77, (fun j => a.tmps.toList.getD j undef) 78, (fun j => a.tmps.toList.getD j undef) 79, (fun j => a.tmps.toList.getD j undef) 80, (fun j => a.tmps.toList.getD j undef) 81, (fun j => a.tmps.toList.getD j undef) 82, (fun j => a.tmps.toList.getD j undef) 83, (fun j => a.tmps.toList.getD j undef) 84, (fun j => a.tmps.toList.getD j undef) 85, (fun j => a.tmps.toList.getD j undef) 86, (fun j => a.tmps.toList.getD j undef) 87, (fun j => a.tmps.toList.getD j undef) 88, (fun j => a.tmps.toList.getD j undef) 89], defers := [] } → Blk W8 w3.heap.size 89 #[.slice A n c] → Pcs W8 (fun b => b ≠ w3.heap.size) A n c (fpq (psO o)) → Below w3.heap.size w3 W8 → Kc a W8 := by
    clear h0 k8 hb4 hr4 hr hf hb40 hb3
    intro a A n c W8 ha k8 hP hb8
    obtain ⟨us, hus⟩ : ∃ us, (fun j => a.tmps.toList.getD j undef) = us := ⟨_, rfl⟩
    replace ha : a = { tmps := #[us 0, us 1, us 2, us 3, us 4, .pointer (some ⟨w.heap.size, 0, none⟩), .pointer (some ⟨w1.heap.size, 0, none⟩), .func (.func 118) #[] #[.pointer (some ⟨w2.heap.size, 0, none⟩)], .pointer (some ⟨w3.heap.size, 0, none⟩), us 9, us 10, us 11, us 12, us 13, us 14, us 15, us 16, us 17, us 18, us 19, us 20, us 21, us 22, us 23, us 24, us 25, us 26, us 27, us 28, us 29, us 30, us 31, us 32, us 33, us 34, us 35, us 36, us 37, us 38, us 39, us 40, us 41, us 42, us 43, us 44, us 45, us 46, us 47, us 48, us 49, us 50, us 51, us 52, us 53, us 54, us 55, us 56, us 57, us 58, us 59, us 60, us 61, us 62, us 63, us 64, us 65, us 66, us 67, us 68, us 69, us 70, us 71, us 72, us 73, us 74, us 75, us 76, us 77, us 78, us 79, us 80, us 81, us 82, us 83, us 84, us 85, us 86, us 87, us 88, us 89], defers := [] } := by rw [← hus]; exact ha
    clear hus
    subst ha
    refine hc _ _ ?_
    clear hc
    have k5 := k5.step hb8
    have k6 := k6.step hb8
    have kx := hbx.step hb8
    have hz8 := k8.lt
    have hb38 := hb34.trans (hb8.mono hb34.size)
    have hA8 := hA.step hb38
    have hlen : (psO o).length = n := by rw [← hP.len, length_fpq]
    have hn63 : n ≤ 63 := by rw [← hlen]; exact hok.len
    have hroom := hP.sl.room
    have hmx := hP.sl.max
    unfold maxLen at hmx
    have hdec := hok.dec
    obtain ⟨ps, hps⟩ : ∃ ps, psO o = ps := ⟨_, rfl⟩
    rw [hps] at hA8 hP hlen
    have h32 : F32 ps := by rw [← hps]; exact hok.h32
    have Hlen := Lib.hid hlen
    have H32 := Lib.hid h32
    have Hk5 := Lib.hid k5
    have Hk6 := Lib.hid k6
    have Hkx := Lib.hid kx
    have Hk8 := Lib.hid k8
    have HP := Lib.hid hP
    have HA := Lib.hid hA8
    clear hA hok hdec hps hbx k5 k6 kx k8 hP hb8 hlen h32 hA8 hb34
    go_wp2_with fail
    have hT0 : Blk (W8.alloc (.cells #[.int .i64 0] 3)) W8.heap.size 3 #[.int .i64 0] := Blk.new _ _ _
    have hbT : Below W8.heap.size W8 (W8.alloc (.cells #[.int .i64 0] 3)) := (Below.refl _ _).alloc (Nat.le_refl _) _
    generalize W8.alloc (.cells #[.int .i64 0] 3) = W0 at *
    refine wp_loop_us (fun us a W => ∃ (gT : Nat) (ds : List Nat), ds.length ≤ 2 ∧ a = { tmps := #[us 0, us 1, us 2, us 3, us 4, .pointer (some ⟨w.heap.size, 0, none⟩), .pointer (some ⟨w1.heap.size, 0, none⟩), .func (.func 118) #[] #[.pointer (some ⟨w2.heap.size, 0, none⟩)], .pointer (some ⟨w3.heap.size, 0, none⟩), .pointer (some ⟨gT, 0, none⟩), us 10, us 11, us 12, us 13, us 14, us 15, us 16, us 17, us 18, us 19, us 20, us 21, us 22, us 23, us 24, us 25, us 26, us 27, us 28, us 29, us 30, us 31, us 32, us 33, us 34, us 35, us 36, us 37, us 38, us 39, us 40, us 41, us 42, us 43, us 44, us 45, us 46, us 47, us 48, us 49, us 50, us 51, us 52, us 53, us 54, us 55, us 56, us 57, us 58, us 59, us 60, us 61, us 62, us 63, us 64, us 65, us 66, us 67, us 68, us 69, us 70, us 71, us 72, us 73, us 74, us 75, us 76, us 77, us 78, us 79, us 80, us 81, us 82, us 83, us 84, us 85, us 86, us 87, us 88, us 89], defers := ds.map markOf } ∧ Below W8.heap.size W8 W ∧ Blk W gT 3 #[.int .i64 (ds.length : Int)] ∧ MarksOk W8.heap.size ds W ∧ W8.heap.size ≤ gT) (fun a _ => 2 - a.defers.length) ?_ ?_
    · exact ⟨W8.heap.size, [], by simp, by kernel_rfl, hbT, hT0, MarksOk.nil _ _, Nat.le_refl _⟩
    · clear hT0 hbT W0
      rintro us a W ⟨gT, ds, hds, rfl, hbel, hT, hM, hgT⟩
      obtain ⟨t, ht⟩ : ∃ t, ds.length = t := ⟨_, rfl⟩
      rw [ht] at hT hds
      have c9 : W.cell? ⟨gT, 0, none⟩ = some (.int .i64 (t : Int)) := by rw [hT.cell]; rfl
      have Ht := Lib.hid ht
      have hTs := hT.lt
      clear ht
      by_cases ht2 : t < 2
      · clear hds
        go_wp2_with fail
        have hbk : Below W.heap.size W (W.alloc (.cells #[.int .i64 0] 3)) := (Below.refl _ _).alloc (Nat.le_refl _) _
        have hQ0 : GoQ W8 gT W.heap.size t ds lv 0 (W.alloc (.cells #[.int .i64 0] 3)) := ⟨⟨hbel.trans (hbk.mono hbel.size), hT.step hbk, Blk.new _ _ _, hM.step hbk, hgT, hTs⟩, by omega⟩
        have hmD := hM.lt
        have hsz1 : W.heap.size < (W.alloc (.cells #[.int .i64 0] 3)).heap.size := by simp
        have hWs := hbel.size
        clear hbel hT hM hbk c9
        generalize W.alloc (.cells #[.int .i64 0] 3) = W1 at *
        generalize W.heap.size = gk at *
        refine wp_range_U (gf := 118) (lb := #[.pointer (some ⟨w2.heap.size, 0, none⟩)]) rfl (enters_of Try.func118 (by kernel_rfl) rfl)
          (HA.out W1 w2.heap.size (· = gk) hQ0.bel (Hkx.out.below hQ0.bel (by omega)) (fun b hb => by have hb : b = gk := hb; omega)) (fun _ _ _ _ h => by rw [show _ = _ from h]; rfl)
          (fun _ => GoQ W8 gT gk t ds lv) (fun _ cd k W => cd = .exit 2 ∧ (t : Int) = 0 ∧ (k : Int) = lv ∧ GoR W8 gT gk t ds k W)
          (fun _ => GoQ.own (by omega) (fun D hD => by have := hmD D hD; omega)) (fun _ cd k X Y row h hg hr => ⟨h.1, h.2.1, h.2.2.1, GoR.own (by omega) (fun D hD => by have := hmD D hD; omega) k X Y row h.2.2.2 hg hr⟩) (fun _ _ => hQ0) ?round ?done ?stop
        case round =>
          clear hQ0
          intro li n₁ k vs X hl hln hnX hk hI hy
          have hy : vs = _ := hy
          subst hy
          have hq := fpq_getD ps k hk
          obtain ⟨⟨l, z⟩, hx⟩ : ∃ x, ps.getD k (0, []) = x := ⟨_, rfl⟩
          have hzl : z.length = 32 := by
            have : (ps.getD k (0, [])).2.length = 32 := by
              rw [List.getD_eq_getElem?_getD, List.getElem?_eq_getElem hk]
              exact H32.out _ (List.getElem_mem hk)
            rw [hx] at this
            exact this
          rw [hx] at hq ⊢
          dsimp only at hq ⊢
          rw [show ((2 ^ l : Nat) : Int) = (2 : Int) ^ l by simp] at hq
          obtain ⟨m, hm⟩ : ∃ m, (2 : Int) ^ l = m := ⟨_, rfl⟩
          rw [hm] at hq ⊢
          have Hzl := Lib.hid hzl
          have Hq := Lib.hid hq
          clear hx hm hzl hq
          gi_wp2_with ((with_reducible show wpListIn _ _ _ _ _ (⟨some 12, .alloc _, _, _, _, _⟩ :: _) _ _); refine wpListIn_of2 (openR li) rfl ?_; refine wpList_hvar (.tmp 12) (.tmp 29) rfl rfl rfl rfl rfl rfl Hzl.out ?_; intro X1 k12 hb12'; refine thenN_nil ?_; simp only [Act.put])
          refine ⟨KeepU.below hb12', ?_⟩
          intro X2 hturn
          have hQ2 := hturn.own (GoQ.own (by omega) (fun D hD => by have := hmD D hD; omega)) (hI.step hb12')
          have k12' : HV X2 X.heap.size z := ⟨hturn.blk k12.blk, Hzl.out⟩
          clear hI k12 hb12' hturn hnX
          generalize X.heap.size = g12 at k12' ⊢
          have hkn : k < n := by rw [← Hlen.out]; exact hk
          obtain ⟨b, o', rfl, -, -⟩ := HP.out.at_ (by omega)
          have hS : Below X2.heap.size X2 X2.drew := (Below.refl _ _).drew
          have c10 : ∀ s : InC (fun W => Below X2.heap.size X2 W), s.W.cell? ⟨gk, 0, none⟩ = some (.int .i64 (k : Int)) := fun s => by rw [(hQ2.bk.step s.ok).cell]; rfl
          have c8 : ∀ s : InC (fun W => Below X2.heap.size X2 W), s.W.cell? ⟨w3.heap.size, 0, none⟩ = some (.slice (some ⟨b, o', none⟩) n c) := fun s => by rw [((Hk8.out.below hQ2.bel hz8).step s.ok).cell]; rfl
          have hPW : Pcs X2 (fun _ => True) (some ⟨b, o', none⟩) n c (fpq ps) := HP.out.every.step hQ2.bel
          have cm : ∀ s : InC (fun W => Below X2.heap.size X2 W), s.W.cell? ⟨b, o' + k * 33, none⟩ = some (.int .i64 m) := fun s => by
            have := (hPW.step s.ok).num rfl k hkn
            rw [Hq.out] at this
            exact this
          have Lz := Lib.hid (fun s : InC (fun W => Below X2.heap.size X2 W) => by
            have := (hPW.step s.ok).hash rfl k hkn
            rw [Hq.out] at this
            exact this)
          have L12 := Lib.hid (fun s : InC (fun W => Below X2.heap.size X2 W) => (k12'.step s.ok).load)
          have hge1 : decide (n ≤ k) = false := by simp; omega
          have hge2 : decide ((n : Int) ≤ (k : Int)) = false := by simp; omega
          clear hPW k12'
          gi_wp2
          refine wpIn_region_mix (openR li) rfl (fun _ _ h => h) (fun W => Below X2.heap.size X2 W) [(0, true), (1, true), (2, true), (3, true), (4, true), (5, true), (6, true), (7, true), (8, true), (9, true), (10, true), (11, true), (12, true), (13, true), (14, true), (15, true), (16, true), (17, true), (18, true), (19, true), (20, true), (21, true)] (by kernel_rfl) (by kernel_rfl) hS fun _ => ?_
          simp only [List.map_cons, List.map_nil, Array.getD_eq_getD_getElem?, List.getElem?_toArray, List.getElem?_cons_succ, List.getElem?_cons_zero, Option.getD_some]
          generalize X2.drew = u0 at hS ⊢
          refine wpMix_s (fun K hK => ?_)
          go_simp
          refine hK _ ?_
          clear hK K
          refine wpMix_s (fun K hK => ?_)
          go_simp
          refine hK _ ?_
          clear hK K
          refine wpMix_s (fun K hK => ?_)
          go_simp
          refine hK _ ?_
          clear hK K
          refine wpMix_s (fun K hK => ?_)
          go_simp
          refine hK _ ?_
          clear hK K
          refine wpMix_s (fun K hK => ?_)
          go_simp
          refine hK _ ?_
          clear hK K
          refine wpMix_s (fun K hK => ?_)
          go_simp
          refine hK _ ?_
          clear hK K
          refine wpMix_s (fun K hK => ?_)
          go_simp
          refine hK _ ?_
          clear hK K
          refine wpMix_s (fun K hK => ?_)
          go_simp
          refine hK _ ?_
          clear hK K
          refine wpMix_s (fun K hK => ?_)
          go_simp
          refine hK _ ?_
          clear hK K
          refine wpMix_s (fun K hK => ?_)
          go_simp
          refine hK _ ?_
          clear hK K
          refine wpMix_s (fun K hK => ?_)
          go_simp
          refine hK _ ?_
          clear hK K
          refine wpMix_s (fun K hK => ?_)
          go_simp
          refine hK _ ?_
          clear hK K
          refine wpMix_s (fun K hK => ?_)
          go_simp
          refine hK _ ?_
          clear hK K
          refine wpMix_s (fun K hK => ?_)
          go_simp
          refine hK _ ?_
          clear hK K
          refine wpMix_load (by kernel_rfl) 25 (.tmp 12) rfl (g12) (0) rfl (z.map B).toArray (L12.out) ?_
          simp only [Act.put]
          refine wpMix_s (fun K hK => ?_)
          go_simp
          refine hK _ ?_
          clear hK K
          refine wpMix_s (fun K hK => ?_)
          go_simp
          refine hK _ ?_
          clear hK K
          refine wpMix_s (fun K hK => ?_)
          go_simp
          refine hK _ ?_
          clear hK K
          refine wpMix_s (fun K hK => ?_)
          go_simp
          refine hK _ ?_
          clear hK K
          refine wpMix_load (by kernel_rfl) 25 (.tmp 48) rfl (b) (o' + k * 33 + 1) rfl (z.map B).toArray (Lz.out) ?_
          simp only [Act.put]
          refine wpMix_v (by kernel_rfl) (.bool false) (fun s => run_neq26_f (.tmp 44) (.tmp 49) _ z z rfl rfl rfl Hzl.out Hzl.out rfl s.W) ?_
          simp only [Act.put]
          refine wpMix_s (fun K hK => ?_)
          go_simp
          refine hK _ ?_
          clear hK K
          refine wpMix_nil ?_
          intro _
          generalize u0 = W3 at *
          have hQ3 := hQ2.step hS
          have hK3 : KeepU W1.heap.size n₁ (· = gk) X2 W3 := KeepU.below hS
          clear hQ2 hS c10 c8 cm
          have c10 : W3.cell? ⟨gk, 0, none⟩ = some (.int .i64 (k : Int)) := by rw [hQ3.bk.cell]; rfl
          have f10 := hQ3.bk.frozen 0
          have hwk : IntKind.i64.wrap ((k : Int) + 1) = (k : Int) + 1 := IntWalk.i64_in _ (by omega)
          have hQ4 := hQ3.toGoR.setk (k + 1)
          have hnx3 := hQ3.nx
          have hK4 := hK3.trans (KeepU.setCell (B := W1.heap.size) (n₁ := n₁) (U := (· = gk)) hQ3.bk (.inr rfl) 0 (.int .i64 ((k + 1 : Nat) : Int)))
          rw [show ((k + 1 : Nat) : Int) = (k : Int) + 1 by omega] at hQ4 hK4
          obtain ⟨W4, hW4⟩ : ∃ x, W3.setCell ⟨gk, 0, none⟩ (.int .i64 ((k : Int) + 1)) = x := ⟨_, rfl⟩
          rw [hW4] at hQ4 hK4
          have d9 : W4.cell? ⟨gT, 0, none⟩ = some (.int .i64 (t : Int)) := by rw [hQ4.bT.cell]; rfl
          have d10 : W4.cell? ⟨gk, 0, none⟩ = some (.int .i64 ((k : Int) + 1)) := by rw [hQ4.bk.cell]; simp
          have d5 : W4.cell? ⟨w.heap.size, 0, none⟩ = some (.int .i64 lv) := by rw [(Hk5.out.below hQ4.bel (by omega)).cell]; rfl
          have HW4 := Lib.hid hW4
          have HQ4 := Lib.hid hQ4
          have HK4 := Lib.hid hK4
          have Hnx := Lib.hid hnx3
          clear hQ3 hK3 hQ4 hK4 hW4 hnx3
          by_cases hex : t = 0 ∧ (k : Int) + 1 = lv
          · obtain ⟨rfl, hlv⟩ := hex
            subst hlv
            gi_wp2_with (rw [HW4.out])
            exact ⟨HK4.out.f, rfl, rfl, HQ4.out⟩
          · by_cases ht0 : t = 0
            · subst ht0
              have hkl : ((k : Int) + 1 == lv) = false := by simp; intro e; exact hex ⟨rfl, e⟩
              have hnl : ¬ ((k : Int) + 1 = lv) := fun e => hex ⟨rfl, e⟩
              have Hnl := Lib.hid hnl
              clear hex hnl
              gi_wp2_with (rw [HW4.out])
              exact ⟨HK4.out, HQ4.out, fun _ h => by have := Hnx.out (by simp); have := Hnl.out; omega⟩
            · have hz : ((t : Int) == 0) = false := by simp; omega
              clear hex
              have Hz := Lib.hid ht0
              clear ht0
              gi_wp2_with (rw [HW4.out])
              exact ⟨HK4.out, HQ4.out, fun h => absurd h Hz.out⟩
        case done =>
          clear hQ0
          intro D n₁ X hD hDn hI hK
          rw [Hlen.out] at hI
          obtain ⟨hI, hnx⟩ := hI
          obtain ⟨A9, hA9⟩ : ∃ A', A = A' := ⟨_, rfl⟩
          have c8 : X.cell? ⟨w3.heap.size, 0, none⟩ = some (.slice A n c) := by rw [(Hk8.out.below hI.bel hz8).cell]; rfl
          have c9 : X.cell? ⟨gT, 0, none⟩ = some (.int .i64 (t : Int)) := by rw [hI.bT.cell]; rfl
          have c10 : X.cell? ⟨gk, 0, none⟩ = some (.int .i64 (n : Int)) := by rw [hI.bk.cell]; rfl
          have c5 : X.cell? ⟨w.heap.size, 0, none⟩ = some (.int .i64 lv) := by rw [(Hk5.out.below hI.bel (by omega)).cell]; rfl
          have hbX : Below X.heap.size X (X.alloc (.cells #[.int .i64 ((t + 1 : Nat) : Int)] 3)) := (Below.refl _ _).alloc (Nat.le_refl _) _
          have hB9 := hI.bel.trans (hbX.mono hI.bel.size)
          have hM9 := ((hI.mks.cons (D := D) (by omega) hK (fun h => by have := hmD D h; omega)).step hbX)
          have hT9 : Blk (X.alloc (.cells #[.int .i64 ((t + 1 : Nat) : Int)] 3)) X.heap.size 3 #[.int .i64 ((t + 1 : Nat) : Int)] := Blk.new _ _ _
          have hgX : W8.heap.size ≤ X.heap.size := hI.bel.size
          have HB10 := Lib.hid hB9
          have HM10 := Lib.hid hM9
          have HT10 := Lib.hid hT9
          clear hB9 hM9 hT9 hbX hI hK hA9 A9
          have htt : t = 0 ∨ t = 1 := by omega
          rcases htt with rfl | rfl
          · have hnx := hnx rfl
            by_cases hl0 : lv ≤ 0
            · have hdl : decide (0 < lv) = false := by simp; omega
              have hdl2 : decide (lv ≤ 0) = true := by simp; omega
              clear hnx
              go_wp2_with fail
              refine ⟨⟨X.heap.size, D :: ds, by rw [List.length_cons, Ht.out]; omega, ⟨rfl, rfl⟩, HB10.out, by rw [List.length_cons, Ht.out]; exact HT10.out, HM10.out, hgX⟩, ?_⟩
              have := Ht.out
              omega
            · have hdl : decide (0 < lv) = true := by simp; omega
              have hdl2 : decide (lv ≤ 0) = false := by simp; omega
              have hmin : min lv (n : Int) = (n : Int) := by omega
              clear hnx
              go_wp2_with fail
              refine ⟨⟨X.heap.size, D :: ds, by rw [List.length_cons, Ht.out]; omega, ⟨rfl, rfl⟩, HB10.out, by rw [List.length_cons, Ht.out]; exact HT10.out, HM10.out, hgX⟩, ?_⟩
              have := Ht.out
              omega
          · go_wp2_with fail
            refine ⟨⟨X.heap.size, D :: ds, by rw [List.length_cons, Ht.out]; omega, by kernel_rfl, HB10.out, by rw [List.length_cons, Ht.out]; exact HT10.out, HM10.out, hgX⟩, ?_⟩
            simp only [List.length_cons, List.length_map, Ht.out]
            omega
        case stop =>
          clear hQ0
          rintro D n₁ cd k X hD hDn hk ⟨rfl, h0, hlv, hI⟩ hK
          rw [Hlen.out] at hk
          obtain ⟨q, hq⟩ : ∃ q, k + 1 = q := ⟨_, rfl⟩
          rw [hq] at hI hlv
          obtain ⟨A9, hA9⟩ : ∃ A', A = A' := ⟨_, rfl⟩
          have c8 : X.cell? ⟨w3.heap.size, 0, none⟩ = some (.slice A n c) := by rw [(Hk8.out.below hI.bel hz8).cell]; rfl
          have c9 : X.cell? ⟨gT, 0, none⟩ = some (.int .i64 (t : Int)) := by rw [hI.bT.cell]; rfl
          have c10 : X.cell? ⟨gk, 0, none⟩ = some (.int .i64 (q : Int)) := by rw [hI.bk.cell]; rfl
          have c5 : X.cell? ⟨w.heap.size, 0, none⟩ = some (.int .i64 lv) := by rw [(Hk5.out.below hI.bel (by omega)).cell]; rfl
          have hbX : Below X.heap.size X (X.alloc (.cells #[.int .i64 ((t + 1 : Nat) : Int)] 3)) := (Below.refl _ _).alloc (Nat.le_refl _) _
          have hB9 := hI.bel.trans (hbX.mono hI.bel.size)
          have hM9 := ((hI.mks.cons (D := D) (by omega) hK (fun h => by have := hmD D h; omega)).step hbX)
          have hT9 : Blk (X.alloc (.cells #[.int .i64 ((t + 1 : Nat) : Int)] 3)) X.heap.size 3 #[.int .i64 ((t + 1 : Nat) : Int)] := Blk.new _ _ _
          have hgX : W8.heap.size ≤ X.heap.size := hI.bel.size
          have HB10 := Lib.hid hB9
          have HM10 := Lib.hid hM9
          have HT10 := Lib.hid hT9
          clear hB9 hM9 hT9 hbX hI hK hA9 A9
          obtain rfl : t = 0 := by omega
          subst hlv
          have hdl : decide (0 < (q : Int)) = true := by simp; omega
          have hdl2 : decide ((q : Int) ≤ 0) = false := by simp; omega
          have hmin : min (q : Int) (n : Int) = (q : Int) := by omega
          go_wp2_with fail
          refine ⟨⟨X.heap.size, D :: ds, by rw [List.length_cons, Ht.out]; omega, by kernel_rfl, HB10.out, by rw [List.length_cons, Ht.out]; exact HT10.out, HM10.out, hgX⟩, ?_⟩
          simp only [List.length_cons, List.length_map, Ht.out]
          omega
      · obtain rfl : t = 2 := by omega
        have k6 := Hk6.out.below hbel (by omega)
        have c6 : W.cell? ⟨w1.heap.size, 0, none⟩ = some (.bool false) := by rw [k6.cell]; rfl
        have f6 := k6.frozen 0
        have k6' := k6.set_ 0 (.bool true)
        have hM10 : MarksOk w.heap.size ds (W.setCell ⟨w1.heap.size, 0, none⟩ (.bool true)) := ⟨fun D hD => ⟨by have := (hM.at_ D hD).1; omega, ((hM.cell k6 (.bool true)).at_ D hD).2⟩, hM.nd⟩
        have hbE : Below w.heap.size w (W.setCell ⟨w1.heap.size, 0, none⟩ (.bool true)) := (hb38.trans (hbel.mono hb38.size)).setCell (by show w.heap.size ≤ w1.heap.size; omega) _
        clear hbel hM hT k6
        go_wp2_with fail
        refine leaves_marks (N := w.heap.size) ds _ hM10 fun w' ht => ⟨_, results_cb10 rfl _ _ w1.heap.size true rfl (ht.blk _ _ _ k6'), rfl, hbE.trans ht.bel⟩
  clear hc
  rcases hr4 with ⟨rfl, rfl⟩ | ⟨g', ps, rfl, rfl, h3, h4⟩
  · go_wp2_with fail
    exact key _ none 0 0 w4 (by kernel_rfl) k8 Pcs.empty hb4
  · obtain ⟨A, n, c, hkR, hPR⟩ := h3.ex
    have hne : g' ≠ w3.heap.size := fun e => by
      subst e
      have e1 : w4.heap[w3.heap.size]? = _ := hkR
      rw [show w4.heap[w3.heap.size]? = _ from k8] at e1
      cases e1
    have cR : w4.cell? ⟨g', 0, none⟩ = some (.slice A n c) := by rw [hkR.cell]; rfl
    have c8 : w4.cell? ⟨w3.heap.size, 0, none⟩ = some (.slice none 0 0) := by rw [k8.cell]; rfl
    have f8 := k8.frozen 0
    have hP9 := (hPR.apart k8 (by simp)).grown (grownBy_setCell' w4 w3.heap.size (.slice A n c)) (fun b _ hx e => hx.2 (Option.some.inj e))
    have hB9 : Below w3.heap.size w3 (w4.setCell ⟨w3.heap.size, 0, none⟩ (.slice A n c)) := hb4.setCell (p := ⟨w3.heap.size, 0, none⟩) (Nat.le_refl _) _
    have hk9 := k8.set_ 0 (.slice A n c)
    have HP9 := Lib.hid hP9
    have HB9 := Lib.hid hB9
    have Hk9 := Lib.hid hk9
    clear hP9 hB9 hk9 hPR
    go_wp2_with fail
    exact key _ A n c _ (by kernel_rfl) Hk9.out (HP9.out.weak fun _ _ hx => hx.2) HB9.out
end Go.Proofs.Ytonidnfgneokbaa
