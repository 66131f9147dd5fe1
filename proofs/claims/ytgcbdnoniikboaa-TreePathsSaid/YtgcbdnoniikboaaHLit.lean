/- Literals of hashes; what is compared. No function of the program. -/
import Derived.Test.YtgcbdnoniikboaaHs
import Derived.Test.YtgcbdnoniikboaaEq
import Derived.Great.BuildSlice
namespace Go.Proofs.Ytgcbdnoniikboaa
open Go Go.RowKit

theorem lit_cells : ∀ hs : List (List UInt8), ((hs.map fun h => Value.agg (h.map B).toArray).flatMap fun v => v.cells.toList) = hcells hs
  | [] => rfl
  | h :: hs => by
    rw [List.map_cons, List.flatMap_cons, lit_cells hs, hcells, hcells, List.flatten_cons, List.map_append]
    rfl
/-- a literal of hashes -/
theorem run_lit_hash (hs : List (List UInt8)) (h32 : H32 hs) (h0 : 0 < hs.length) (hm : hs.length ≤ 1000) (parts : Array (Nat × Value)) (hp : parts.toList = ((hs.map fun h => Value.agg (h.map B).toArray).zipIdx 0).map fun x => (x.2, x.1)) (n : Nat) (hn : n = hs.length) (W : World) :
    (Instr.buildSlice 37 n parts).run Try.prog W = .ok (.slice (some ⟨W.heap.size, 0, none⟩) n n) (W.alloc (.cells (hcells hs).toArray 34)) := by
  subst hn
  obtain ⟨i, hi⟩ : ∃ i, Try.prog.info? 34 = some i := Option.isSome_iff_exists.1 (by kernel_rfl)
  have hz : i.zero = some (.agg ((List.replicate 32 (0 : UInt8)).map B).toArray) := by
    have : (Try.prog.info? 34).bind (·.zero) = some (.agg ((List.replicate 32 (0 : UInt8)).map B).toArray) := by kernel_rfl
    rw [hi] at this; exact this
  have hs' : i.size = 32 := by
    have : (Try.prog.info? 34).map (·.size) = some 32 := by kernel_rfl
    rw [hi] at this; exact Option.some.inj this
  have hc : ∀ v ∈ (hs.map fun h => Value.agg (h.map B).toArray), v.cells.size = 32 := by
    intro v hv
    obtain ⟨h, hh, rfl⟩ := List.mem_map.1 hv
    simp [Value.cells, h32 h hh]
  have := run_buildSlice (P := Try.prog) W 37 34 hs.length parts (hcells hs).toArray i _ Try.underlying37 hi hz (by rw [hs']; omega) (by rw [hs']; omega) (by
    rw [hp, hs', Great.fill_whole (by decide) _ _ hc (by simp)]
    rw [lit_cells])
  exact this
theorem run_lit_op {ρ : Operand → Value} {o : Oper} (hs : List (List UInt8)) (h32 : H32 hs) (h0 : 0 < hs.length) (hm : hs.length ≤ 1000) (n : Nat) (ps : Array (Nat × Operand)) (ho : o.op = .buildSlice 37 n ps) (hp : (ps.map fun (i, x) => (i, ρ x)).toList = ((hs.map fun h => Value.agg (h.map B).toArray).zipIdx 0).map fun x => (x.2, x.1)) (hn : n = hs.length) (W : World) :
    (execOp ρ o).run Try.prog W = .ok (.value (.slice (some ⟨W.heap.size, 0, none⟩) n n)) (W.alloc (.cells (hcells hs).toArray 34)) := by
  unfold execOp
  simp only [ho, Sem.run_bind, Sem.run_pure, run_lit_hash hs h32 h0 hm _ hp n hn W, Result.andThen_ok]
theorem run_eqstr_op {ρ : Operand → Value} {o : Oper} (x y : Operand) (ty : TypeId) (l m : List UInt8) (ho : o.op = .binOp .eql 9 x y ty) (hx : ρ x = .string (bstr l)) (hy : ρ y = .string (bstr m)) (W : World) :
    (execOp ρ o).run Try.prog W = .ok (.value (.bool (l == m))) W := by
  unfold execOp
  simp only [ho, hx, hy, eqGuard_at_string, Sem.run_bind, Sem.run_pure, run_eql_str, Result.andThen_ok]
theorem run_eqstr_t {ρ : Operand → Value} {o : Oper} (x y : Operand) (ty : TypeId) (l m : List UInt8) (ho : o.op = .binOp .eql 9 x y ty) (hx : ρ x = .string (bstr l)) (hy : ρ y = .string (bstr m)) (h : l = m) (W : World) :
    (execOp ρ o).run Try.prog W = .ok (.value (.bool true)) W := by
  rw [run_eqstr_op x y ty l m ho hx hy W, h, BEq.rfl]
theorem run_eql26_t {ρ : Operand → Value} {o : Oper} (x y : Operand) (ty : TypeId) (xs ys : List UInt8) (ho : o.op = .binOp .eql 34 x y ty) (hx : ρ x = .agg (xs.map B).toArray) (hy : ρ y = .agg (ys.map B).toArray) (lx : xs.length = 32) (ly : ys.length = 32) (h : xs = ys) (W : World) :
    (execOp ρ o).run Try.prog W = .ok (.value (.bool true)) W := by
  rw [run_eql26 x y ty xs ys ho hx hy lx ly W, h, BEq.rfl]
theorem run_neq26_t {ρ : Operand → Value} {o : Oper} (x y : Operand) (ty : TypeId) (xs ys : List UInt8) (ho : o.op = .binOp .neq 34 x y ty) (hx : ρ x = .agg (xs.map B).toArray) (hy : ρ y = .agg (ys.map B).toArray) (lx : xs.length = 32) (ly : ys.length = 32) (h : xs ≠ ys) (W : World) :
    (execOp ρ o).run Try.prog W = .ok (.value (.bool true)) W := by
  rw [run_neq26 x y ty xs ys ho hx hy lx ly W, show (xs != ys) = true by simpa using h]
theorem run_neq26_f {ρ : Operand → Value} {o : Oper} (x y : Operand) (ty : TypeId) (xs ys : List UInt8) (ho : o.op = .binOp .neq 34 x y ty) (hx : ρ x = .agg (xs.map B).toArray) (hy : ρ y = .agg (ys.map B).toArray) (lx : xs.length = 32) (ly : ys.length = 32) (h : xs = ys) (W : World) :
    (execOp ρ o).run Try.prog W = .ok (.value (.bool false)) W := by
  rw [run_neq26 x y ty xs ys ho hx hy lx ly W, show (xs != ys) = false by simpa using h]
theorem Hs.lit (W : World) (hs : List (List UInt8)) (h32 : H32 hs) (hm : hs.length ≤ 1000) (n : Nat) (hn : n = hs.length) : Hs (W.alloc (.cells (hcells hs).toArray 34)) (fun _ => True) (some ⟨W.heap.size, 0, none⟩) n n hs :=
  ⟨SlV.lit W _ _ _ (by rw [hcells_len _ h32, hn]) (by unfold maxLen; omega) trivial, hn.symm, h32⟩
end Go.Proofs.Ytgcbdnoniikboaa
