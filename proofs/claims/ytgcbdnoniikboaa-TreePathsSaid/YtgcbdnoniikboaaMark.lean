/- A slice of bytes that is converted to its own type: its block is marked, and nothing else. -/
import Derived.Test.YtgcbdnoniikboaaEq
import Derived.Lib.UnsafeStr
namespace Go.Proofs.Ytgcbdnoniikboaa
open Go Go.RowKit

theorem size25e : ∀ w : World, (sizeOf 5).run Try.prog w = .ok 1 w := fun _ => by kernel_rfl
theorem agg25e : ∀ w : World, (isAgg 5).run Try.prog w = .ok false w := fun _ => by kernel_rfl
section
variable {w : World}
theorem freeze_size (w : World) (p : Addr) (n : Nat) : (w.freeze p n).heap.size = w.heap.size := by
  unfold World.freeze; split <;> simp
theorem freeze_cell (w : World) (p q : Addr) (n : Nat) (_hq : q.spot = none) : (w.freeze p n).cell? q = w.cell? q := by
  unfold World.freeze
  split
  · rfl
  · unfold World.cell?
    simp only [Array.getElem?_modify]
    by_cases h : p.block = q.block
    · simp only [if_pos h]
      cases hx : w.heap[q.block]? with
      | none => rfl
      | some o => cases o <;> simp
    · simp only [if_neg h]
theorem Blk.freeze {w : World} {g : Nat} {t : TypeId} {cs : Array Value} (h : Blk w g t cs) (p : Addr) (n : Nat) (hp : p.block ≠ g) : Blk (w.freeze p n) g t cs := by
  show (w.freeze p n).heap[g]? = _
  unfold World.freeze
  split
  · exact h
  · simp only [Array.getElem?_modify]
    rw [if_neg hp]
    exact h
theorem Bs.freeze {w : World} {X : Nat → Prop} {A : Option Addr} {l : List Value} (h : Bs w X A l) (p : Addr) (n : Nat) : Bs (w.freeze p n) X A l := fun hl => by
  obtain ⟨b, o, h1, h2, h3, h4⟩ := h hl
  exact ⟨b, o, h1, by rw [freeze_size]; exact h2, h3, fun j v hv => by rw [freeze_cell _ _ _ _ rfl]; exact h4 j v hv⟩
theorem run_convert_blk {P : Program} {w : World} {g : Nat} {t e : TypeId} {C : Array Value} (o n c : Nat) (ht : P.underlying t = some (.slice e)) (he : P.underlying e = some (.int .u8)) (h : Blk w g e C) :
    (convert t t (.slice (some ⟨g, o, none⟩) n c)).run P w = .ok (.slice (some ⟨g, o, none⟩) n c) (w.freeze ⟨g, C.size, none⟩ 1) := by
  have hsh : w.shape? g = some (e, C.size) := by
    unfold World.shape?
    rw [show w.heap[g]? = some (.cells C e (0, 0)) from h]
  simp [convert, run_underlying ht, run_underlying he, markStringish, hsh]
theorem Bs.new (w : World) (X : Nat → Prop) (t : TypeId) (C : List Value) (hX : X w.heap.size) : Bs (w.alloc (.cells C.toArray t)) X (some ⟨w.heap.size, 0, none⟩) C := fun _ =>
  ⟨w.heap.size, 0, rfl, by simp, hX, fun j v hv => by rw [Nat.zero_add, (Blk.new w t C.toArray).cell]; simpa using hv⟩
theorem Sh.lt {g : Nat} {u : Und} (h : Sh w g u) : g < w.heap.size := h.choose_spec.blk.lt
theorem Sh.below {w' : World} {g N : Nat} {u : Und} (h : Sh w g u) (hb : Below N w w') (hg : g < N) : Sh w' g u := ⟨_, h.choose_spec.move (h.choose_spec.blk.below hb hg)⟩
theorem Sh.grown {w' : World} {g : Nat} {row : Option Nat} {u : Und} (h : Sh w g u) (hb : w.grownBy w' row) (hg : some g ≠ row) : Sh w' g u := ⟨_, h.choose_spec.move (h.choose_spec.blk.grown hb hg)⟩
theorem conv_new (w : World) (C : Array Value) (l : List UInt8) (n : Nat) (_hn : l.length = n) (hC : C = (l.map B).toArray) : ∃ w2,
    (convert 32 32 (.slice (some ⟨w.heap.size, 0, none⟩) n n)).run Try.prog (w.alloc (.cells C 5)) = .ok (.slice (some ⟨w.heap.size, 0, none⟩) n n) w2 ∧
      Bs w2 (w.heap.size ≤ ·) (some ⟨w.heap.size, 0, none⟩) (l.map B) ∧ Below w.heap.size w w2 := by
  subst hC
  exact ⟨_, run_convert_blk 0 n n (by kernel_rfl) (by kernel_rfl) (Blk.new w _ _), (Bs.new w (w.heap.size ≤ ·) _ _ (Nat.le_refl _)).freeze _ _, Lib.below_freeze ((Below.refl _ _).alloc (Nat.le_refl _) _) (Nat.le_refl _) _⟩
/-- the operation '==' on two hashes -/
theorem run_eql26 {ρ : Operand → Value} {o : Oper} (x y : Operand) (ty : TypeId) (xs ys : List UInt8) (ho : o.op = .binOp .eql 34 x y ty) (hx : ρ x = .agg (xs.map B).toArray) (hy : ρ y = .agg (ys.map B).toArray) (lx : xs.length = 32) (ly : ys.length = 32) (W : World) :
    (execOp ρ o).run Try.prog W = .ok (.value (.bool (xs == ys))) W := by
  have hm : Try.prog.eqGuardType Try.prog.depth 34 = false := by kernel_rfl
  have h1 := run_eql_bytes (P := Try.prog) (t := 34) (e := 5) (N := 32) Try.underlying34 (by kernel_rfl) size25e agg25e xs ys lx ly W
  unfold execOp
  simp only [ho, hx, hy, Sem.run_bind, Sem.run_pure, run_eqGuard_agg _ _ _ _ _ _ _ hm, h1, Result.andThen_ok]
theorem run_neq26 {ρ : Operand → Value} {o : Oper} (x y : Operand) (ty : TypeId) (xs ys : List UInt8) (ho : o.op = .binOp .neq 34 x y ty) (hx : ρ x = .agg (xs.map B).toArray) (hy : ρ y = .agg (ys.map B).toArray) (lx : xs.length = 32) (ly : ys.length = 32) (W : World) :
    (execOp ρ o).run Try.prog W = .ok (.value (.bool (xs != ys))) W := by
  have hm : Try.prog.eqGuardType Try.prog.depth 34 = false := by kernel_rfl
  have h1 := run_neq_bytes (P := Try.prog) (t := 34) (e := 5) (N := 32) Try.underlying34 (by kernel_rfl) size25e agg25e xs ys lx ly W
  unfold execOp
  simp only [ho, hx, hy, Sem.run_bind, Sem.run_pure, run_eqGuard_agg _ _ _ _ _ _ _ hm, h1, Result.andThen_ok]
theorem run_conv_op {P : Program} {ρ : Operand → Value} {o : Oper} {w w' : World} {v : Value} (t u : TypeId) (x : Operand) (ho : o.op = .convert t u x) (vx : Value) (hx : ρ x = vx) (h : (convert t u vx).run P w = .ok v w') : (execOp ρ o).run P w = .ok (.value v) w' := by
  unfold execOp
  simp only [ho, hx, Sem.run_bind, Sem.run_pure, h, Result.andThen_ok]
theorem run_eql34 {ρ : Operand → Value} {o : Oper} (x y : Operand) (ty : TypeId) (xs ys : List UInt8) (ho : o.op = .binOp .eql 127 x y ty) (hx : ρ x = .agg (xs.map B).toArray) (hy : ρ y = .agg (ys.map B).toArray) (lx : xs.length = 64) (ly : ys.length = 64) (W : World) :
    (execOp ρ o).run Try.prog W = .ok (.value (.bool (xs == ys))) W := by
  have hm : Try.prog.eqGuardType Try.prog.depth 127 = false := by kernel_rfl
  have h1 := run_eql_bytes (P := Try.prog) (t := 127) (e := 5) (N := 64) Try.underlying127 (by kernel_rfl) size25e agg25e xs ys lx ly W
  unfold execOp
  simp only [ho, hx, hy, Sem.run_bind, Sem.run_pure, run_eqGuard_agg _ _ _ _ _ _ _ hm, h1, Result.andThen_ok]
theorem run_eql33 {ρ : Operand → Value} {o : Oper} (x y : Operand) (ty : TypeId) (xs ys : List UInt32) (ho : o.op = .binOp .eql 115 x y ty) (hx : ρ x = .agg (xs.map U).toArray) (hy : ρ y = .agg (ys.map U).toArray) (lx : xs.length = 8) (ly : ys.length = 8) (W : World) :
    (execOp ρ o).run Try.prog W = .ok (.value (.bool (xs == ys))) W := by
  have hm : Try.prog.eqGuardType Try.prog.depth 115 = false := by kernel_rfl
  have h1 := run_eql_words (P := Try.prog) (t := 115) (e := 114) (N := 8) Try.underlying115 (by kernel_rfl) size32 agg32 xs ys lx ly W
  unfold execOp
  simp only [ho, hx, hy, Sem.run_bind, Sem.run_pure, run_eqGuard_agg _ _ _ _ _ _ _ hm, h1, Result.andThen_ok]
theorem Blk.new_bs {w : World} {g : Nat} {t : TypeId} {C : List Value} (h : Blk w g t C.toArray) : Bs w (fun _ => True) (some ⟨g, 0, none⟩) C := fun _ =>
  ⟨g, 0, rfl, h.lt, trivial, fun j v hv => by rw [Nat.zero_add, h.cell]; simpa using hv⟩
theorem Bs.lt' {w : World} {X : Nat → Prop} {A : Option Addr} {l : List Value} (h : Bs w X A l) : Bs w (· < w.heap.size) A l := h.weak fun _ hb _ => hb
end
end Go.Proofs.Ytgcbdnoniikboaa
