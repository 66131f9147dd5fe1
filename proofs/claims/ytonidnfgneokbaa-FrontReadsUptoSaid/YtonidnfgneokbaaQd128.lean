/- (*Front).Point, Same, Copy. -/
import Derived.Test.YtonidnfgneokbaaQd127
import Derived.Test.YtonidnfgneokbaaQd105
namespace Go.Proofs.Ytonidnfgneokbaa
open Go Go.RowKit Go.Shelf
attribute [local go_sem] Oper.semAt_some

theorem builtPtF (n : Int) (l : List UInt8) (h : l.length = 32) : Try.prog.built 109 [(0, .int .i64 n), (1, .agg (l.map B).toArray)] = some (.int .i64 n :: l.map B).toArray := by
  obtain ⟨a0, a1, a2, a3, a4, a5, a6, a7, a8, a9, a10, a11, a12, a13, a14, a15, a16, a17, a18, a19, a20, a21, a22, a23, a24, a25, a26, a27, a28, a29, a30, a31, rfl⟩ := explode32 l h
  kernel_rfl
theorem run_build_ptF {ρ : Operand → Value} {o : Oper} (x y : Operand) (n : Int) (l : List UInt8) (hl : l.length = 32) (ho : o.op = .build 109 #[(0, x), (1, y)]) (hx : ρ x = .int .i64 n) (hy : ρ y = .agg (l.map B).toArray) (W : World) :
    (execOp ρ o).run Try.prog W = .ok (.value (.agg (.int .i64 n :: l.map B).toArray)) W := by
  have h : (Instr.build 109 #[(0, .int .i64 n), (1, .agg (l.map B).toArray)]).run Try.prog W = .ok (.agg (.int .i64 n :: l.map B).toArray) W := run_build W 109 _ _ (builtPtF n l hl)
  unfold execOp
  have hm : (#[(0, x), (1, y)] : Array (Nat × Operand)).map (fun (i, x) => (i, ρ x)) = #[(0, .int .i64 n), (1, .agg (l.map B).toArray)] := by simp [hx, hy]
  simp only [ho, Sem.run_bind, Sem.run_pure, hm, h, Result.andThen_ok]
theorem ptAggF : ∀ w : World, (isAgg 109).run Try.prog w = .ok true w := fun _ => by kernel_rfl
theorem ptSizeF : ∀ w : World, (sizeOf 109).run Try.prog w = .ok 33 w := fun _ => by kernel_rfl

theorem ret_pt {fn : Func} {p : Tmp} {tmps : Array Value} {W : World} {g : Nat} {n : Int} {l : List UInt8} (h : fn.results = #[.cell p 109]) (hp : tmps.getD p undef = .pointer (some ⟨g, 0, none⟩)) (k : PcB W g 109 n l) : (results fn tmps).run Try.prog W = .ok (.agg (.int .i64 n :: l.map B).toArray) W := by
  exact results_cell_row h tmps W g 109 (Value.int .i64 n :: l.map B).toArray (0, 0) _ hp k.blk Try.underlying109 rfl (by rw [show (Value.int .i64 n :: l.map B).toArray.size = 33 by simp [k.len]]; kernel_rfl)
/-- a new box of 33 cells -/
theorem wpList_boxnew {T : TypeId} {w : World} {ops : Array Oper} {rest : List Oper} {o1 : Oper} {a : Act} {Q : Exit → Act → World → Prop} (hz : ∀ W : World, (execOp a.eval o1).run Try.prog W = .ok (.value (.pointer (some ⟨W.heap.size, 0, none⟩))) (W.alloc (.cells (.int .i64 0 :: (List.replicate 32 (0 : UInt8)).map B).toArray T))) (hg1 : o1.guard = none)
    (h : ∀ W, PcB W w.heap.size T 0 (List.replicate 32 0) → Below w.heap.size w W → wpList Try.prog ops Q rest (a.put o1.dst (.pointer (some ⟨w.heap.size, 0, none⟩))) W) : wpList Try.prog ops Q (o1 :: rest) a w :=
  wpList_run hg1 _ _ (hz w) (h _ ⟨Blk.new _ _ _, rfl⟩ ((Below.refl _ _).alloc (Nat.le_refl _) _))
set_option maxRecDepth 100000 in
theorem wpList_boxset {T : TypeId} (hs : ∀ w : World, (sizeOf T).run Try.prog w = .ok 33 w) {w : World} {ops : Array Oper} {rest : List Oper} {o2 : Oper} {a : Act} {Q : Exit → Act → World → Prop} {g : Nat} {n n' : Int} {l l' : List UInt8} (x y : Operand) (hg2 : o2.guard = none) (ho2 : o2.op = .store T x y) (k : PcB w g T n' l')
    (hx : a.eval x = .pointer (some ⟨g, 0, none⟩)) (hy : a.eval y = .agg (.int .i64 n :: l.map B).toArray) (hl : l.length = 32)
    (h : ∀ W, PcB W g T n l → Below g w W → wpList Try.prog ops Q rest (a.put o2.dst undef) W) : wpList Try.prog ops Q (o2 :: rest) a w :=
  wpList_store_blk hg2 T x y ho2 33 hs g (.int .i64 n :: l.map B).toArray hx hy (by simp [hl]) (oneCell_pc n l) T _ k.blk (by simp [k.len])
    (h _ ⟨k.blk.setRow_ _, hl⟩ (below_setRow (Below.refl _ _) (Nat.le_refl _) _))

set_option maxHeartbeats 4000000 in
set_option maxRecDepth 100000 in
theorem fpoint_any (f : Value) (n : Nat) (root : List UInt8) (w : World) (hrl : root.length = 32)
    (hs : ∀ W, Below w.heap.size w W → Calls Try.prog 43 #[f] W fun e w' => e = .returned (.int .i64 (n : Int)) ∧ Below W.heap.size W w')
    (hr : ∀ W, Below w.heap.size w W → Calls Try.prog 45 #[f] W fun e w' => e = .returned (.agg (root.map B).toArray) ∧ Below W.heap.size W w') :
    Calls Try.prog 67 #[f] w fun e w' => e = .returned (.agg (.int .i64 (n : Int) :: root.map B).toArray) ∧ Below w.heap.size w w' := by
  have Hs := Lib.hid hs
  have Hr := Lib.hid hr
  clear hs hr
  go_enter Try.func67, Try.ntmps67
  go_wp2_with (first
    | ((with_reducible show wpList _ _ _ (⟨some 2, .alloc _, _, _, _, _⟩ :: _) _ _); refine wpList_boxnew (T := 109) (fun W => by kernel_rfl) rfl ?_; intro w1 k2 hb1; simp only [Act.put])
    | (go_at_call 43; refine (Hs.out w1 hb1).mono ?_; rintro e w2 ⟨rfl, hb2⟩; have hb12 := hb1.trans (hb2.mono hb1.size); replace k2 := k2.step hb2)
    | (go_at_call 45; refine (Hr.out w2 hb12).mono ?_; rintro e w3 ⟨rfl, hb3⟩; replace k2 := k2.step hb3)
    | ((with_reducible show wpList _ _ _ (⟨some 7, .build _ _, _, _, _, _⟩ :: _) _ _); refine wpList_run0 rfl (.agg (Value.int .i64 (n : Int) :: root.map B).toArray) (run_build_ptF (.tmp 4) (.tmp 6) (n : Int) root hrl rfl rfl rfl _) ?_; simp only [Act.put])
    | ((with_reducible show wpList _ _ _ [⟨none, .store _ (.tmp 2) _, _, _, _, _⟩] _ _); refine wpList_boxset ptSizeF (.tmp 2) (.tmp 7) rfl rfl k2 rfl rfl hrl ?_; intro w4 k2b hb4; simp only [Act.put]))
  exact bodyPost_ret (ret_pt rfl rfl k2b) rfl ⟨rfl, (hb12.trans (hb3.mono hb12.size)).trans hb4⟩

set_option maxHeartbeats 4000000 in
set_option maxRecDepth 100000 in
theorem same1_any (a b : PcV) (w : World) (ha : a.2.length = 32) (hb : b.2.length = 32) : Calls Try.prog 121 #[.agg (pccell a).toArray, .agg (pccell b).toArray] w fun e w' => e = .returned (.bool (decide (a = b))) ∧ Below w.heap.size w w' := by
  obtain ⟨n, x⟩ := a
  obtain ⟨m, y⟩ := b
  have ha : x.length = 32 := ha
  have hb : y.length = 32 := hb
  obtain ⟨w1, hw1⟩ : ∃ w1, w.alloc (.cells (Value.int .i64 n :: x.map B).toArray 156) = w1 := ⟨_, rfl⟩
  obtain ⟨w2, hw2⟩ : ∃ w2, w1.alloc (.cells (Value.int .i64 m :: y.map B).toArray 156) = w2 := ⟨_, rfl⟩
  have hb1 : Below w.heap.size w w1 := by rw [← hw1]; exact (Below.refl _ _).alloc (Nat.le_refl _) _
  have hb2 : Below w1.heap.size w1 w2 := by rw [← hw2]; exact (Below.refl _ _).alloc (Nat.le_refl _) _
  have k2 : PcB w2 w.heap.size 156 n x := PcB.step ⟨by rw [← hw1]; exact Blk.new _ _ _, ha⟩ hb2
  have k3 : PcB w2 w1.heap.size 156 m y := ⟨by rw [← hw2]; exact Blk.new _ _ _, hb⟩
  have Hw1 := Lib.hid hw1
  have Hw2 := Lib.hid hw2
  have c2 : w2.cell? ⟨w.heap.size, 0, none⟩ = some (.int .i64 n) := k2.num
  have c3 : w2.cell? ⟨w1.heap.size, 0, none⟩ = some (.int .i64 m) := k3.num
  obtain ⟨r, hr⟩ : ∃ r, decide ((n, x) = (m, y)) = r := ⟨_, rfl⟩
  rw [hr]
  by_cases hnm : n = m
  · subst hnm
    have heq : (n == n) = true := by simp
    obtain rfl : (x == y) = r := by rw [← hr]; by_cases h : x = y <;> simp [h]
    clear hw1 hw2 hr
    go_enter Try.func121, Try.ntmps121
    go_wp2_with (first
      | rw [Hw1.out]
      | rw [Hw2.out]
      | ((with_reducible show wpList _ _ _ (⟨some 12, .load _ _, _, _, _, _⟩ :: _) _ _); refine wpList_runG (by kernel_rfl) (.agg (x.map B).toArray) _ (run_load_op 25 (.tmp 11) rfl _ 1 rfl _ k2.hash) ?_; simp only [Act.put])
      | ((with_reducible show wpList _ _ _ (⟨some 14, .load _ _, _, _, _, _⟩ :: _) _ _); refine wpList_runG (by kernel_rfl) (.agg (y.map B).toArray) _ (run_load_op 25 (.tmp 13) rfl _ 1 rfl _ k3.hash) ?_; simp only [Act.put])
      | ((with_reducible show wpList _ _ _ (⟨some 15, .binOp _ _ _ _ _, _, _, _, _⟩ :: _) _ _); refine wpList_runG (by kernel_rfl) (.bool (x == y)) _ (run_eql26 (.tmp 12) (.tmp 14) _ x y rfl rfl rfl ha hb _) ?_; simp only [Act.put]))
    go_ret
    exact ⟨rfl, hb1.trans (hb2.mono hb1.size)⟩
  · have heq : (n == m) = false := by simp [hnm]
    obtain rfl : false = r := by rw [← hr]; simp [hnm]
    clear hw1 hw2 hr
    go_enter Try.func121, Try.ntmps121
    go_wp2_with (first
      | rw [Hw1.out]
      | rw [Hw2.out])
    go_ret
    exact ⟨rfl, hb1.trans (hb2.mono hb1.size)⟩
end Go.Proofs.Ytonidnfgneokbaa
