/- Variables that hold a hash: one step for each, by what is known of their block. -/
import Derived.Test.YtfhmjgkcpcnkbaaDoorQf114
import Derived.Test.YtfhmjgkcpcnkbaaDoorQf110
import Derived.Test.YtfhmjgkcpcnkbaaDoorQf115
namespace Go.Proofs.YtfhmjgkcpcnkbaaDoor
open Go Go.RowKit

/-- a block holds this hash -/
structure HV (w : World) (g : Nat) (l : List UInt8) : Prop where
  blk : Blk w g 48 (l.map B).toArray
  len : l.length = 32
theorem HV.step {w W : World} {g : Nat} {l : List UInt8} (h : HV w g l) (hb : Below w.heap.size w W) : HV W g l := ⟨h.blk.below hb h.blk.lt, h.len⟩
theorem HV.lt {w : World} {g : Nat} {l : List UInt8} (h : HV w g l) : g < w.heap.size := h.blk.lt
theorem HV.drew {w : World} {g : Nat} {l : List UInt8} (h : HV w g l) : HV w.drew g l := ⟨h.blk, h.len⟩
theorem HV.load {w : World} {g : Nat} {l : List UInt8} (h : HV w g l) : (Instr.loadAt 48 (.pointer (some ⟨g, 0, none⟩))).run Tryd.prog w = .ok (.agg (l.map B).toArray) w :=
  run_load_blk (agg26 _) (size26 _) g _ (by simp [h.len]) h.blk
theorem HV.far {w W : World} {g g' : Nat} {l : List UInt8} (h : HV w g l) (hb : Below g' w W) (hg : g < g') : HV W g l := ⟨h.blk.below hb hg, h.len⟩
theorem Blk.step {w W : World} {g : Nat} {t : TypeId} {cs : Array Value} (h : Blk w g t cs) (hb : Below w.heap.size w W) : Blk W g t cs := h.below hb h.lt

section
variable {w : World} {ops : Array Oper} {rest : List Oper} {o o1 o2 o3 : Oper} {a : Act} {Q : Exit → Act → World → Prop}
set_option maxRecDepth 100000 in
/-- a new variable, written at once -/
theorem wpList_hvar {l : List UInt8} (x y : Operand) (hg1 : o1.guard = none) (hg2 : o2.guard = none) (ho1 : o1.op = .alloc 48) (ho2 : o2.op = .store 48 x y)
    (hx : (a.put o1.dst (.pointer (some ⟨w.heap.size, 0, none⟩))).eval x = .pointer (some ⟨w.heap.size, 0, none⟩)) (hy : (a.put o1.dst (.pointer (some ⟨w.heap.size, 0, none⟩))).eval y = .agg (l.map B).toArray) (hl : l.length = 32)
    (h : ∀ W, HV W w.heap.size l → Below w.heap.size w W → wpList Tryd.prog ops Q rest ((a.put o1.dst (.pointer (some ⟨w.heap.size, 0, none⟩))).put o2.dst undef) W) : wpList Tryd.prog ops Q (o1 :: o2 :: rest) a w := by
  have hz : zeroHash.size = 32 := rfl
  refine wpList_run hg1 (.pointer (some ⟨w.heap.size, 0, none⟩)) (w.alloc (.cells zeroHash 48)) ?_ ?_
  · unfold execOp
    rw [ho1]
    rfl
  · refine wpList_store_blk hg2 48 x y ho2 32 size26 w.heap.size (l.map B).toArray hx hy (by simp [hl]) (oneCell_B _) 48 _ (Blk.new w 48 zeroHash) hz ?_
    exact h _ ⟨(Blk.new w 48 zeroHash).setRow_ _, hl⟩ (below_setRow ((Below.refl _ _).alloc (Nat.le_refl _) _) (Nat.le_refl _) _)
set_option maxRecDepth 100000 in
/-- a new variable, nought -/
theorem wpList_hnew (hg1 : o1.guard = none) (ho1 : o1.op = .alloc 48)
    (h : ∀ W, HV W w.heap.size (List.replicate 32 0) → Below w.heap.size w W → wpList Tryd.prog ops Q rest (a.put o1.dst (.pointer (some ⟨w.heap.size, 0, none⟩))) W) : wpList Tryd.prog ops Q (o1 :: rest) a w := by
  refine wpList_run hg1 (.pointer (some ⟨w.heap.size, 0, none⟩)) (w.alloc (.cells zeroHash 48)) ?_ (h _ ⟨Blk.new w 48 zeroHash, rfl⟩ ((Below.refl _ _).alloc (Nat.le_refl _) _))
  unfold execOp
  rw [ho1]
  rfl
/-- a variable is written over: all below it stays -/
theorem wpList_hset {l l' : List UInt8} {g : Nat} (x y : Operand) (hg2 : o.guard = none) (ho2 : o.op = .store 48 x y) (k : HV w g l')
    (hx : a.eval x = .pointer (some ⟨g, 0, none⟩)) (hy : a.eval y = .agg (l.map B).toArray) (hl : l.length = 32)
    (h : ∀ W, HV W g l → Below g w W → W = w.setRow g (l.map B).toArray → wpList Tryd.prog ops Q rest (a.put o.dst undef) W) : wpList Tryd.prog ops Q (o :: rest) a w :=
  wpList_store_blk hg2 48 x y ho2 32 size26 g (l.map B).toArray hx hy (by simp [hl]) (oneCell_B _) 48 _ k.blk (by simp [k.len])
    (h _ ⟨k.blk.setRow_ _, hl⟩ (below_setRow (Below.refl _ _) (Nat.le_refl _) _) rfl)
theorem wpList_hload {l : List UInt8} {g : Nat} (x : Operand) (hw : Region.wanted o (yielded ops a.tmps) = true) (ho : o.op = .load 48 x) (k : HV w g l) (hx : a.eval x = .pointer (some ⟨g, 0, none⟩))
    (h : wpList Tryd.prog ops Q rest (a.put o.dst (.agg (l.map B).toArray)) w) : wpList Tryd.prog ops Q (o :: rest) a w :=
  wpList_runG hw (.agg (l.map B).toArray) w (run_load_op 48 x ho g 0 hx _ k.load) h
/-- a scalar, by its cell -/
theorem wpList_cell {P : Program} (ty : TypeId) (x : Operand) (g off : Nat) (v : Value) (hw : Region.wanted o (yielded ops a.tmps) = true) (ho : o.op = .load ty x) (hx : a.eval x = .pointer (some ⟨g, off, none⟩))
    (hrun : (Instr.loadAt ty (.pointer (some ⟨g, off, none⟩))).run P w = .ok v w) (h : wpList P ops Q rest (a.put o.dst v) w) : wpList P ops Q (o :: rest) a w :=
  wpList_runG hw v w (run_load_op ty x ho g off hx _ hrun) h
end
theorem run_load_scalar {P : Program} {W : World} {ty : TypeId} {g o : Nat} {v : Value} (hagg : (isAgg ty).run P W = .ok false W) (h : W.cell? ⟨g, o, none⟩ = some v) : (Instr.loadAt ty (.pointer (some ⟨g, o, none⟩))).run P W = .ok v W := by
  simp [Instr.loadAt, Instr.sureAddr, loadVar, Sem.run_bind, hagg, Go.load, Sem.run, h]
theorem notagg64 : ∀ w : World, (isAgg 2).run Tryd.prog w = .ok false w := fun _ => by kernel_rfl
/-- hashes: one is put in the place of another -/
theorem hcells_set : ∀ (l : List (List UInt8)), H32 l → ∀ (k : Nat) (x : List UInt8), k < l.length → (hcells l).take (k * 32) ++ x.map B ++ (hcells l).drop (k * 32 + 32) = hcells (l.set k x) := by
  intro l h k x hk
  rw [hcells_take l h k (by omega), show k * 32 + 32 = (k + 1) * 32 by omega, hcells_drop l h (k + 1) (by omega), List.set_eq_take_append_cons_drop, if_pos hk, hcells_append]
  simp [hcells]
theorem H32.set {l : List (List UInt8)} (h : H32 l) (k : Nat) {x : List UInt8} (hx : x.length = 32) : H32 (l.set k x) := fun y hy => by
  rcases List.mem_or_eq_of_mem_set hy with h1 | rfl
  · exact h y h1
  · exact hx
theorem Hs.get {w : World} {X : Nat → Prop} {A : Option Addr} {n c : Nat} {hs : List (List UInt8)} (h : Hs w X A n c hs) {b o : Nat} (hA : A = some ⟨b, o, none⟩) (i : Nat) (hi : i < n) :
    (Instr.loadAt 48 (.pointer (some ⟨b, o + i * 32, none⟩))).run Tryd.prog w = .ok (.agg ((hs.getD i []).map B).toArray) w := by
  obtain ⟨b', o', hA', -, -, hat⟩ := h.at_ (by omega)
  rw [hA] at hA'
  cases hA'
  exact hat i hi
end Go.Proofs.YtfhmjgkcpcnkbaaDoor
