/- Slices of hashes. -/
import Derived.Test.YtgcbdnoniikboaaHash1
import Derived.Laws.MakeOwn
namespace Go.Proofs.Ytgcbdnoniikboaa
open Go.RowKit

/-- hashes, side by side -/
def hcells (hs : List (List UInt8)) : List Value := hs.flatten.map B
def H32 (hs : List (List UInt8)) : Prop := ∀ h ∈ hs, h.length = 32
structure Hs (w : World) (X : Nat → Prop) (A : Option Addr) (n c : Nat) (hs : List (List UInt8)) : Prop where
  sl : SlV w X A n c 32 (hcells hs)
  len : hs.length = n
  all : H32 hs

theorem hcells_nil : hcells [] = [] := rfl
theorem hcells_append (a b : List (List UInt8)) : hcells (a ++ b) = hcells a ++ hcells b := by simp [hcells]
theorem hcells_len : ∀ (hs : List (List UInt8)), H32 hs → (hcells hs).length = hs.length * 32
  | [], _ => rfl
  | h :: hs, ha => by
    have h1 := hcells_len hs (fun x hx => ha x (by simp [hx]))
    have h2 := ha h (by simp)
    simp only [hcells, List.flatten_cons, List.map_append, List.length_append, List.length_map, List.length_cons] at *
    omega
theorem H32.take {hs : List (List UInt8)} (h : H32 hs) (k : Nat) : H32 (hs.take k) := fun x hx => h x (List.mem_of_mem_take hx)
theorem H32.drop {hs : List (List UInt8)} (h : H32 hs) (k : Nat) : H32 (hs.drop k) := fun x hx => h x (List.mem_of_mem_drop hx)
theorem H32.append {a b : List (List UInt8)} (h : H32 a) (k : H32 b) : H32 (a ++ b) := fun x hx => (List.mem_append.1 hx).elim (h x) (k x)
theorem H32.getD {hs : List (List UInt8)} (h : H32 hs) (k : Nat) (hk : k < hs.length) : (hs.getD k []).length = 32 := by
  rw [List.getD_eq_getElem?_getD, List.getElem?_eq_getElem hk]
  exact h _ (List.getElem_mem hk)
theorem hcells_take (hs : List (List UInt8)) (h : H32 hs) (k : Nat) (hk : k ≤ hs.length) : (hcells hs).take (k * 32) = hcells (hs.take k) := by
  have e : hcells hs = hcells (hs.take k) ++ hcells (hs.drop k) := by rw [← hcells_append, List.take_append_drop]
  have hl : (hcells (hs.take k)).length = k * 32 := by rw [hcells_len _ (h.take k), List.length_take, Nat.min_eq_left hk]
  rw [e, List.take_left' hl]
theorem hcells_drop (hs : List (List UInt8)) (h : H32 hs) (k : Nat) (hk : k ≤ hs.length) : (hcells hs).drop (k * 32) = hcells (hs.drop k) := by
  have e : hcells hs = hcells (hs.take k) ++ hcells (hs.drop k) := by rw [← hcells_append, List.take_append_drop]
  have hl : (hcells (hs.take k)).length = k * 32 := by rw [hcells_len _ (h.take k), List.length_take, Nat.min_eq_left hk]
  rw [e, List.drop_left' hl]
theorem hcells_get (hs : List (List UInt8)) (h : H32 hs) (k : Nat) (hk : k < hs.length) (j : Nat) (v : Value) (hv : ((hs.getD k []).map B)[j]? = some v) : (hcells hs)[k * 32 + j]? = some v := by
  have hj : j < 32 := by have := (List.getElem?_eq_some_iff.1 hv).1; rw [List.length_map, h.getD k hk] at this; exact this
  rw [← List.getElem?_drop, hcells_drop hs h k (by omega), List.drop_eq_getElem_cons hk, hcells, List.flatten_cons, List.map_append, List.getElem?_append_left (by rw [List.length_map, h _ (List.getElem_mem hk)]; exact hj)]
  rw [List.getD_eq_getElem?_getD, List.getElem?_eq_getElem hk] at hv
  exact hv

section
variable {w w' : World} {X Y : Nat → Prop} {A : Option Addr} {n c : Nat} {hs : List (List UInt8)}
theorem Hs.weak (h : Hs w X A n c hs) (hX : ∀ b, b < w.heap.size → X b → Y b) : Hs w Y A n c hs := ⟨h.sl.weak hX, h.len, h.all⟩
theorem Hs.step (h : Hs w X A n c hs) (hb : Below w.heap.size w w') : Hs w' X A n c hs := ⟨h.sl.step hb, h.len, h.all⟩
theorem Hs.below {N : Nat} (h : Hs w X A n c hs) (hb : Below N w w') (hX : ∀ b, b < w.heap.size → X b → b < N) : Hs w' X A n c hs := ⟨h.sl.below hb hX, h.len, h.all⟩
theorem Hs.alloc (h : Hs w X A n c hs) (o : Obj) : Hs (w.alloc o) X A n c hs := ⟨h.sl.alloc o, h.len, h.all⟩
theorem Hs.drew (h : Hs w X A n c hs) : Hs w.drew X A n c hs := ⟨h.sl.drew, h.len, h.all⟩
theorem Hs.grown {row : Option Nat} (h : Hs w X A n c hs) (hg : w.grownBy w' row) (hX : ∀ b, b < w.heap.size → X b → some b ≠ row) : Hs w' X A n c hs := ⟨h.sl.grown hg hX, h.len, h.all⟩
theorem Hs.setRow (h : Hs w X A n c hs) (g : Nat) (cs : Array Value) (hX : ¬ X g) : Hs (w.setRow g cs) X A n c hs :=
  ⟨h.sl.keep (by simp) fun p _ hx => World.cell?_of_block (setRow_other w g p.block cs (fun e => hX (e ▸ hx))), h.len, h.all⟩
theorem Hs.drop (h : Hs w X A n c hs) (k : Nat) (hk : k ≤ n) : Hs w X (if c = k then A else A.map (·.add (k * 32))) (n - k) (c - k) (hs.drop k) :=
  ⟨by have := h.sl.drop k hk; rwa [hcells_drop hs h.all k (by rw [h.len]; exact hk)] at this, by rw [List.length_drop, h.len], h.all.drop k⟩
theorem Hs.take (h : Hs w X A n c hs) (k : Nat) (hk : k ≤ n) : Hs w X A k c (hs.take k) :=
  ⟨by have := h.sl.take k hk; rwa [hcells_take hs h.all k (by rw [h.len]; exact hk)] at this, by rw [List.length_take, h.len]; omega, h.all.take k⟩
theorem Hs.empty : Hs w X none 0 0 [] := ⟨SlV.empty, rfl, fun _ h => absurd h (by simp)⟩
/-- where they lie; one is read -/
theorem Hs.at_ (h : Hs w X A n c hs) (hn : 0 < n) : ∃ b o, A = some ⟨b, o, none⟩ ∧ b < w.heap.size ∧ X b ∧ ∀ i, i < n → (Instr.loadAt 34 (.pointer (some ⟨b, o + i * 32, none⟩))).run Try.prog w = .ok (.agg ((hs.getD i []).map B).toArray) w := by
  obtain ⟨b, o, h1, h2, h3, h4⟩ := h.sl.at_ hn (by decide)
  refine ⟨b, o, h1, h2, h3, fun i hi => run_load_agg (agg26 _) (size26 _) b (o + i * 32) _ (by rw [List.length_map, h.all.getD i (by rw [h.len]; exact hi)]) fun j u hu => ?_⟩
  rw [Nat.add_assoc]
  exact h4 _ u (hcells_get hs h.all i (by rw [h.len]; exact hi) j u hu)
end

theorem run_make_hash (w : World) (m : Nat) (hm : m ≤ 4398046511104) :
    (Instr.makeSlice 37 (.int .i64 (m : Int)) (.int .i64 (m : Int))).run Try.prog w = .ok (.slice (some ⟨w.heap.size, 0, none⟩) m m) (w.alloc (.cells ((List.replicate (m * 32) (0 : UInt8)).map B).toArray 34)) := by
  obtain ⟨i, hi⟩ : ∃ i, Try.prog.info? 34 = some i := Option.isSome_iff_exists.1 (by kernel_rfl)
  have hz : i.zero = some (.agg ((List.replicate 32 (0 : UInt8)).map B).toArray) := by
    have : (Try.prog.info? 34).bind (·.zero) = some (.agg ((List.replicate 32 (0 : UInt8)).map B).toArray) := by kernel_rfl
    rw [hi] at this; exact this
  have hs : i.size = 32 := by
    have : (Try.prog.info? 34).map (·.size) = some 32 := by kernel_rfl
    rw [hi] at this; exact Option.some.inj this
  have hby : i.bytes = 32 := by
    have : (Try.prog.info? 34).map (·.bytes) = some 32 := by kernel_rfl
    rw [hi] at this; exact Option.some.inj this
  have := run_make (P := Try.prog) w 37 34 i _ Try.underlying37 hi hz .i64 .i64 m m (by omega) (by omega) (by rw [hby]; omega) (by omega)
  rw [this, hs, Int.toNat_natCast]
  have hm : madeCells (Value.agg ((List.replicate 32 (0 : UInt8)).map B).toArray).cells (m * 32) = ((List.replicate (m * 32) (0 : UInt8)).map B).toArray := by
    apply Array.ext
    · simp [madeCells]
    · intro k h1 h2
      have hz : ∀ q, q < 32 → (((List.replicate 32 (0 : UInt8)).map B).toArray)[q]! = B 0 := fun q hq => by
        rw [getElem!_pos _ _ (by simp only [List.size_toArray, List.length_map, List.length_replicate]; exact hq), List.getElem_toArray, List.getElem_map, List.getElem_replicate]
      simp only [madeCells, Array.getElem_map, Array.getElem_range, List.getElem_toArray, List.getElem_map, List.getElem_replicate]
      exact hz _ (by rw [show (Value.agg ((List.replicate 32 (0 : UInt8)).map B).toArray).cells = ((List.replicate 32 (0 : UInt8)).map B).toArray from rfl]; simp; omega)
  rw [hm]

theorem size57 : ∀ w : World, (sizeOf (Try.prog.elem 37)).run Try.prog w = .ok 32 w := fun _ => by kernel_rfl
theorem sliceT57 : Try.prog.underlying 37 = some (.slice (Try.prog.elem 37)) := by kernel_rfl
theorem info26z : (Try.prog.info? 34).map (fun i => (i.zero, i.size, i.bytes)) = some (some (.agg ((List.replicate 32 (0 : UInt8)).map B).toArray), 32, 32) := by kernel_rfl
end Go.Proofs.Ytgcbdnoniikboaa
