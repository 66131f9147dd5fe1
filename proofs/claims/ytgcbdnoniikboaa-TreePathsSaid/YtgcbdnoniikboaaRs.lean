/- Slices of stretches. -/
import Derived.Test.YtgcbdnoniikboaaHash1
import Derived.Test.YtgcbdnoniikboaaSpoil
namespace Go.Proofs.Ytgcbdnoniikboaa
open Go Go.RowKit

def rcell (x : Int × Int) : List Value := [.int .i64 x.1, .int .i64 x.2]
/-- stretches, side by side -/
def rcells (l : List (Int × Int)) : List Value := l.flatMap rcell
def natR (l : List (Nat × Nat)) : List (Int × Int) := l.map fun x => ((x.1 : Int), (x.2 : Int))
structure Rs (w : World) (X : Nat → Prop) (A : Option Addr) (n c : Nat) (l : List (Int × Int)) : Prop where
  sl : SlV w X A n c 2 (rcells l)
  len : l.length = n
theorem rcells_nil : rcells [] = [] := rfl
theorem rcells_one (x : Int × Int) : rcells [x] = [.int .i64 x.1, .int .i64 x.2] := rfl
theorem rcells_append (a b : List (Int × Int)) : rcells (a ++ b) = rcells a ++ rcells b := by simp [rcells]
theorem rcells_len : ∀ l : List (Int × Int), (rcells l).length = l.length * 2
  | [] => rfl
  | x :: l => by
    have := rcells_len l
    simp only [rcells, List.flatMap_cons, List.length_append, List.length_cons, rcell, List.length_nil] at *
    omega
theorem rcells_take : ∀ (l : List (Int × Int)) (k : Nat), (rcells l).take (k * 2) = rcells (l.take k)
  | [], k => by simp [rcells]
  | x :: l, 0 => by simp [rcells]
  | x :: l, k + 1 => by
    have := rcells_take l k
    rw [show (k + 1) * 2 = k * 2 + 1 + 1 by omega]
    simp only [rcells, List.flatMap_cons, rcell, List.cons_append, List.nil_append, List.take_succ_cons] at *
    rw [this]
theorem rcells_drop : ∀ (l : List (Int × Int)) (k : Nat), (rcells l).drop (k * 2) = rcells (l.drop k)
  | [], k => by simp [rcells]
  | x :: l, 0 => by simp [rcells]
  | x :: l, k + 1 => by
    have := rcells_drop l k
    rw [show (k + 1) * 2 = k * 2 + 1 + 1 by omega]
    simp only [rcells, List.flatMap_cons, rcell, List.cons_append, List.nil_append, List.drop_succ_cons] at *
    exact this
theorem rcells_get (l : List (Int × Int)) (k : Nat) (hk : k < l.length) : (rcells l)[k * 2]? = some (.int .i64 (l.getD k (0, 0)).1) ∧ (rcells l)[k * 2 + 1]? = some (.int .i64 (l.getD k (0, 0)).2) := by
  have h1 : ∀ j, (rcells l)[k * 2 + j]? = (rcells (l.drop k))[j]? := fun j => by rw [← rcells_drop, List.getElem?_drop]
  have h2 := h1 0
  have h3 := h1 1
  rw [Nat.add_zero] at h2
  rw [h2, h3, List.drop_eq_getElem_cons hk, List.getD_eq_getElem?_getD, List.getElem?_eq_getElem hk]
  exact ⟨rfl, rfl⟩
theorem rcells_set (l : List (Int × Int)) (k : Nat) (x : Int × Int) (hk : k < l.length) : (rcells l).take (k * 2) ++ rcell x ++ (rcells l).drop (k * 2 + 2) = rcells (l.set k x) := by
  rw [rcells_take, show k * 2 + 2 = (k + 1) * 2 by omega, rcells_drop, List.set_eq_take_append_cons_drop, if_pos hk, rcells_append]
  simp [rcells]
section
variable {w w' : World} {X Y : Nat → Prop} {A : Option Addr} {n c : Nat} {l : List (Int × Int)}
theorem Rs.weak (h : Rs w X A n c l) (hX : ∀ b, b < w.heap.size → X b → Y b) : Rs w Y A n c l := ⟨h.sl.weak hX, h.len⟩
theorem Rs.step (h : Rs w X A n c l) (hb : Below w.heap.size w w') : Rs w' X A n c l := ⟨h.sl.step hb, h.len⟩
theorem Rs.alloc (h : Rs w X A n c l) (o : Obj) : Rs (w.alloc o) X A n c l := ⟨h.sl.alloc o, h.len⟩
theorem Rs.drew (h : Rs w X A n c l) : Rs w.drew X A n c l := ⟨h.sl.drew, h.len⟩
theorem Rs.drewN (h : Rs w X A n c l) (k : Nat) : Rs (w.drewN k) X A n c l := ⟨h.sl.drewN k, h.len⟩
theorem Rs.grown {row : Option Nat} (h : Rs w X A n c l) (hg : w.grownBy w' row) (hX : ∀ b, b < w.heap.size → X b → some b ≠ row) : Rs w' X A n c l := ⟨h.sl.grown hg hX, h.len⟩
theorem Rs.setRow (h : Rs w X A n c l) (g : Nat) (cs : Array Value) (hX : ¬ X g) : Rs (w.setRow g cs) X A n c l :=
  ⟨h.sl.keep (by simp) fun p _ hx => World.cell?_of_block (setRow_other w g p.block cs (fun e => hX (e ▸ hx))), h.len⟩
theorem Rs.empty : Rs w X none 0 0 [] := ⟨SlV.empty, rfl⟩
theorem Rs.take (h : Rs w X A n c l) (k : Nat) (hk : k ≤ n) : Rs w X A k c (l.take k) := ⟨by have := h.sl.take k hk; rwa [rcells_take] at this, by rw [List.length_take, h.len]; omega⟩
theorem Rs.drop (h : Rs w X A n c l) (k : Nat) (hk : k ≤ n) : Rs w X (if c = k then A else A.map (·.add (k * 2))) (n - k) (c - k) (l.drop k) := ⟨by have := h.sl.drop k hk; rwa [rcells_drop] at this, by rw [List.length_drop, h.len]⟩
/-- where they lie; one is read, whole or by its parts -/
theorem Rs.at_ (h : Rs w X A n c l) (hn : 0 < n) : ∃ b o, A = some ⟨b, o, none⟩ ∧ b < w.heap.size ∧ X b ∧ ∀ i, i < n → w.cell? ⟨b, o + i * 2, none⟩ = some (.int .i64 (l.getD i (0, 0)).1) ∧ w.cell? ⟨b, o + i * 2 + 1, none⟩ = some (.int .i64 (l.getD i (0, 0)).2) := by
  obtain ⟨b, o, h1, h2, h3, h4⟩ := h.sl.at_ hn (by decide)
  refine ⟨b, o, h1, h2, h3, fun i hi => ?_⟩
  obtain ⟨g1, g2⟩ := rcells_get l i (by rw [h.len]; exact hi)
  exact ⟨h4 _ _ g1, by rw [Nat.add_assoc]; exact h4 _ _ g2⟩
theorem Rs.lit (W : World) (l : List (Int × Int)) (hm : l.length ≤ 1000) (n : Nat) (hn : n = l.length) : Rs (W.alloc (.cells (rcells l).toArray 29)) (fun _ => True) (some ⟨W.heap.size, 0, none⟩) n n l :=
  ⟨SlV.lit W _ _ _ (by rw [rcells_len, hn]) (by unfold maxLen; omega) trivial, hn.symm⟩
theorem Rs.of_owns {base : Nat} {v : Value} (h : w.ownsRow base 29 2 v n (rcells l)) (hn : l.length = n) : ∃ A c, v = .slice A n c ∧ Rs w (fun b => base ≤ b ∧ some b = v.ownBlock) A n c l := by
  obtain ⟨A, c, hv, hs⟩ := owns_slv h
  exact ⟨A, c, hv, hs, hn⟩
end
theorem aggR : ∀ w : World, (isAgg 29).run Try.prog w = .ok true w := fun _ => by kernel_rfl
theorem sizeR : ∀ w : World, (sizeOf 29).run Try.prog w = .ok 2 w := fun _ => by kernel_rfl
theorem infoR : (Try.prog.info? 29).map (fun i => (i.zero, i.size, i.bytes)) = some (some (.agg #[.int .i64 0, .int .i64 0]), 2, 16) := by kernel_rfl
theorem sizeRe : ∀ w : World, (sizeOf (Try.prog.elem 22)).run Try.prog w = .ok 2 w := fun _ => by kernel_rfl
theorem sliceR : Try.prog.underlying 22 = some (.slice (Try.prog.elem 22)) := by kernel_rfl
theorem oneR (l : List (Int × Int)) : ∀ v ∈ rcells l, v.oneCell' = true := by
  intro v hv
  simp only [rcells, List.mem_flatMap, rcell] at hv
  obtain ⟨x, _, hv⟩ := hv
  simp only [List.mem_cons, List.not_mem_nil, or_false] at hv
  rcases hv with rfl | rfl <;> rfl
theorem Rs.load {w : World} {X : Nat → Prop} {A : Option Addr} {n c : Nat} {l : List (Int × Int)} (h : Rs w X A n c l) {b o : Nat} (hA : A = some ⟨b, o, none⟩) (i : Nat) (hi : i < n) :
    (Instr.loadAt 29 (.pointer (some ⟨b, o + i * 2, none⟩))).run Try.prog w = .ok (.agg #[.int .i64 (l.getD i (0, 0)).1, .int .i64 (l.getD i (0, 0)).2]) w := by
  obtain ⟨b', o', hA', _, _, hc⟩ := h.at_ (by omega)
  rw [hA] at hA'
  cases hA'
  exact run_load_agg (aggR _) (sizeR _) b (o + i * 2) [.int .i64 (l.getD i (0, 0)).1, .int .i64 (l.getD i (0, 0)).2] rfl fun j u hu => by
    match j, hu with
    | 0, hu => cases hu; exact (hc i hi).1
    | 1, hu => cases hu; exact (hc i hi).2
/-- one stretch more -/
theorem append_r {w : World} {base : Nat} {v : Value} {l : List (Int × Int)} {n : Nat} (h : w.ownsRow base 29 2 v n (rcells l)) (x : Int × Int) (hn : n ≤ 1000000000) (hb : base ≤ w.heap.size) :
    ∃ v' w', (Builtin.append_ #[22, 22] 22 #[v, .slice (some ⟨w.heap.size, 0, none⟩) 1 1]).run Try.prog (w.alloc (.cells #[.int .i64 x.1, .int .i64 x.2] 29)) = .ok v' w' ∧
      w'.ownsRow base 29 2 v' (n + 1) (rcells (l ++ [x])) ∧ w.grownBy w' v.ownBlock ∧ (v'.ownBlock = v.ownBlock ∨ ∃ k, v'.ownBlock = some k ∧ w.heap.size ≤ k) := by
  have hbA : Below w.heap.size w (w.alloc (.cells (rcells [x]).toArray 29)) := (Below.refl _ _).alloc (Nat.le_refl _) _
  obtain ⟨v', w', hr, ho, hg, hf⟩ := append_slv (ty := 22) Try.underlying22 infoR (by simp [Value.cells]) (by decide) (owns_step h hbA) (Rs.lit w [x] (by simp) 1 rfl).sl (oneR _) (by unfold maxLen; omega) (by omega) (Nat.le_trans hb hbA.size)
  rw [← rcells_append] at ho
  refine ⟨v', w', hr, ho, ⟨hg.os, hg.tape, hg.output, Nat.le_trans hbA.size hg.size, fun k hk hne => ?_⟩, ?_⟩
  · rw [hg.block k (Nat.lt_of_lt_of_le hk hbA.size) hne, hbA.block k hk]
  · rcases hf with hf | ⟨k, hf, hk⟩
    · exact .inl hf
    · exact .inr ⟨k, hf, by have := hbA.size; omega⟩
end Go.Proofs.Ytgcbdnoniikboaa
