/- A slice of bytes that is read: parts of it, behind steps. -/
import Derived.Test.YtgcbdnoniikboaaLent
import Derived.Test.YtgcbdnoniikboaaMix
import Derived.Deep.DeepCutAuto
namespace Go.Proofs.Ytgcbdnoniikboaa
open Go.RowKit

/-- what a call hands back: bytes in a row of its own -/
def Fresh (w w' : World) (v : Value) (l : List UInt8) : Prop := w'.ownsRow w.heap.size 5 1 v l.length (l.map B) ∧ Below w.heap.size w w'

theorem info23 : (Try.prog.info? 32).map (fun i => (i.zero, i.size, i.bytes)) = some (some (.slice none 0 0), 1, 24) := by kernel_rfl
theorem info5 : (Try.prog.info? 5).map (fun i => (i.zero, i.size, i.bytes)) = some (some (.int .u8 0), 1, 1) := by kernel_rfl

section
variable {w w' : World} {X Y : Nat → Prop} {A : Option Addr} {n c : Nat} {l : List UInt8}
theorem Sl.weak (h : Sl w X A n c l) (hX : ∀ b, b < w.heap.size → X b → Y b) : Sl w Y A n c l := ⟨h.bs.weak hX, h.len, h.room, h.none, h.max⟩
theorem Sl.all (h : Sl w X A n c l) : Sl w (fun _ => True) A n c l := h.weak fun _ _ _ => trivial
theorem Sl.below {N : Nat} (h : Sl w X A n c l) (hb : Below N w w') (hX : ∀ b, b < w.heap.size → X b → b < N) : Sl w' X A n c l := ⟨h.bs.below hb hX, h.len, h.room, h.none, h.max⟩
/-- behind a step that leaves all that was there -/
theorem Sl.step (h : Sl w X A n c l) (hb : Below w.heap.size w w') : Sl w' X A n c l := h.below hb fun _ hb _ => hb
theorem Sl.alloc (h : Sl w X A n c l) (o : Obj) : Sl (w.alloc o) X A n c l := ⟨h.bs.alloc o, h.len, h.room, h.none, h.max⟩
theorem Sl.drewN (h : Sl w X A n c l) (k : Nat) : Sl (w.drewN k) X A n c l := ⟨h.bs.drewN k, h.len, h.room, h.none, h.max⟩
theorem Sl.drew (h : Sl w X A n c l) : Sl w.drew X A n c l := ⟨h.bs.drew, h.len, h.room, h.none, h.max⟩
theorem Sl.grown {row : Option Nat} (h : Sl w X A n c l) (hg : w.grownBy w' row) (hX : ∀ b, b < w.heap.size → X b → some b ≠ row) : Sl w' X A n c l := ⟨h.bs.grown hg hX, h.len, h.room, h.none, h.max⟩
theorem Sl.setRow (g : Nat) (cs : Array Value) (h : Sl w (· ≠ g) A n c l) : Sl (w.setRow g cs) (· ≠ g) A n c l := ⟨h.bs.setRow_ cs, h.len, h.room, h.none, h.max⟩
theorem Sl.setCell (h : Sl w X A n c l) {p : Addr} (u : Value) (hX : ¬ X p.block) : Sl (w.setCell p u) X A n c l := ⟨h.bs.setCell u hX, h.len, h.room, h.none, h.max⟩
theorem Sl.drop (h : Sl w X A n c l) (k : Nat) (hk : k ≤ n) : Sl w X (if c = k then A else A.map (·.add (k * 1))) (n - k) (c - k) (l.drop k) := by
  refine ⟨?_, by rw [List.length_drop, h.len], by have := h.room; omega, fun hA => ?_, by have := h.max; omega⟩
  · have := h.bs.drop (c := c) (k := k) (s := 1) (by rw [List.length_map, h.len]; have := h.room; omega)
    rw [Nat.mul_one] at this ⊢
    rw [List.map_drop]
    exact this
  · by_cases hc : c = k
    · subst hc
      rw [if_pos rfl] at hA
      have := h.none hA
      omega
    · rw [if_neg hc] at hA
      cases A with
      | none => have := h.none rfl; omega
      | some a => cases hA
theorem Sl.take (h : Sl w X A n c l) (k : Nat) (hk : k ≤ n) : Sl w X A k c (l.take k) := by
  refine ⟨?_, by rw [List.length_take, h.len]; omega, by have := h.room; omega, fun hA => ?_, h.max⟩
  · rw [List.map_take]; exact h.bs.take
  · have := h.none hA; omega
theorem Sl.cells (h : Sl w X A n c l) (hn : 0 < n) : ∃ b o, A = some ⟨b, o, .none⟩ ∧ b < w.heap.size ∧ X b ∧ ∀ j, j < n → w.cell? ⟨b, o + j, .none⟩ = some (B (l.getD j 0)) := by
  obtain ⟨b, o, h1, h2, h3, h4⟩ := h.bs.at_ (by rw [List.length_map, h.len]; exact hn)
  refine ⟨b, o, h1, h2, h3, fun j hj => h4 j _ ?_⟩
  have hj' : j < l.length := by rw [h.len]; exact hj
  rw [List.getElem?_map, List.getElem?_eq_getElem hj', Option.map_some, List.getD_eq_getElem?_getD, List.getElem?_eq_getElem hj', Option.getD_some]
theorem Sl.nil : Sl w X .none 0 0 [] := ⟨Bs.nil, rfl, Nat.le_refl _, fun _ => ⟨rfl, rfl⟩, Nat.zero_le _⟩
/-- what 'append' has made is read -/
theorem owns_sl {base : Nat} {v : Value} (h : w.ownsRow base 5 1 v l.length (l.map B)) : ∃ A c, v = .slice A l.length c ∧ Sl w (base ≤ ·) A l.length c l := by
  rcases h.2 with ⟨hv, h0⟩ | ⟨g, cap, cur, hv, hg, hb, hnc, hcm, hcs, ht⟩
  · have := List.eq_nil_of_length_eq_zero h0
    subst this
    exact ⟨none, 0, hv, Sl.nil⟩
  · refine ⟨_, cap, hv, fun _ => ⟨g, 0, rfl, ?_, hg, fun j u hu => ?_⟩, rfl, hnc, by simp, hcm⟩
    · exact (show Blk w g _ cur from hb).lt
    · rw [Nat.zero_add, (show Blk w g _ cur from hb).cell, ← Array.getElem?_toList]
      rw [Nat.mul_one] at ht
      rw [← ht] at hu
      rw [List.getElem?_take] at hu
      split at hu
      · exact hu
      · cases hu
theorem Fresh.sl {v : Value} (h : Fresh w w' v l) : ∃ A c, v = .slice A l.length c ∧ Sl w' (w.heap.size ≤ ·) A l.length c l := owns_sl h.1
end
theorem Sl.v {w : World} {X : Nat → Prop} {A : Option Addr} {n c : Nat} {l : List UInt8} (h : Sl w X A n c l) : SlV w X A n c 1 (l.map B) := ⟨h.bs, by rw [List.length_map, h.len, Nat.mul_one], h.room, h.none, h.max⟩

/-- slices of bytes, in a slice -/
structure SlS (w : World) (A : Option Addr) (n c : Nat) (vs : List Value) (ls : List (List UInt8)) : Prop where
  out : SlV w (· < w.heap.size) A n c 1 vs
  len : ls.length = n
  ins : ∀ i (h : i < ls.length), ∃ Ai ci, vs[i]? = some (.slice Ai (ls[i]).length ci) ∧ Sl w (· < w.heap.size) Ai (ls[i]).length ci ls[i]

end Go.Proofs.Ytgcbdnoniikboaa
