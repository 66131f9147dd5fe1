/- Words for memory: a block known whole; what is read through a slice. No program in sight. -/
import Derived.Test.YtgcbdnoniikboaaPure
import Derived.Laws.OwnMore
import Derived.Laws.CopyOwn
import Derived.Deep.Draws
import Derived.StillTailTactics
namespace Go.Proofs.Ytgcbdnoniikboaa
open Go.RowKit

/-- block g is just these cells of element type t, none frozen -/
def Blk (w : World) (g : Nat) (t : TypeId) (cs : Array Value) : Prop := w.heap[g]? = some (.cells cs t (0, 0))

section
variable {w w' : World} {g : Nat} {t : TypeId} {cs : Array Value}
theorem Blk.lt (h : Blk w g t cs) : g < w.heap.size := by
  rcases Nat.lt_or_ge g w.heap.size with hlt | hge
  · exact hlt
  · unfold Blk at h; rw [Array.getElem?_eq_none hge] at h; cases h
theorem Blk.cell (h : Blk w g t cs) (i : Nat) : w.cell? ⟨g, i, none⟩ = cs[i]? := cell_of_row w g i cs t (0, 0) h
theorem Blk.frozen (h : Blk w g t cs) (i : Nat) : w.frozen? ⟨g, i, none⟩ = false := by
  unfold Blk at h
  simp [World.frozen?, h]
theorem Blk.new (w : World) (t : TypeId) (cs : Array Value) : Blk (w.alloc (.cells cs t)) w.heap.size t cs := heap_alloc_new w _
theorem Blk.drew (h : Blk w g t cs) : Blk w.drew g t cs := h
theorem Blk.drewN (h : Blk w g t cs) (n : Nat) : Blk (w.drewN n) g t cs := h
theorem Blk.alloc (h : Blk w g t cs) (o : Obj) : Blk (w.alloc o) g t cs := (Below.heap_alloc w o g h.lt).trans h
theorem Blk.set_ (h : Blk w g t cs) (i : Nat) (u : Value) : Blk (w.setCell ⟨g, i, none⟩ u) g t (cs.setIfInBounds i u) := by
  unfold Blk at h ⊢
  simp [World.setCell, Array.getElem?_modify, h]
theorem Blk.far (h : Blk w g t cs) {p : Addr} (hp : g ≠ p.block) (u : Value) : Blk (w.setCell p u) g t cs := (Below.heap_setCell w p u g hp).trans h
theorem Blk.apart (h : Blk w g t cs) {g' i : Nat} (hp : g ≠ g') (u : Value) : Blk (w.setCell ⟨g', i, none⟩ u) g t cs := h.far (p := ⟨g', i, none⟩) hp u
theorem Blk.below {B : Nat} (h : Blk w g t cs) (hb : Below B w w') (hg : g < B) : Blk w' g t cs := (hb.block g hg).trans h
theorem Blk.grown {row : Option Nat} (h : Blk w g t cs) (hb : w.grownBy w' row) (hg : some g ≠ row) : Blk w' g t cs := (hb.block g h.lt hg).trans h
end

theorem Blk.setRow_ {w : World} {g : Nat} {t : TypeId} {cs : Array Value} (h : Blk w g t cs) (cs' : Array Value) : Blk (w.setRow g cs') g t cs' := setRow_heap w g cs cs' t (0, 0) h
theorem Blk.setRow_apart {w : World} {g g' : Nat} {t : TypeId} {cs : Array Value} (h : Blk w g t cs) (hp : g ≠ g') (cs' : Array Value) : Blk (w.setRow g' cs') g t cs := (setRow_other w g' g cs' hp).trans h

theorem addr_add (g o j : Nat) : (⟨g, o, none⟩ : Addr).add j = ⟨g, o + j, none⟩ := by unfold Addr.add; split <;> simp_all

/-- an array, a struct, read whole -/
theorem run_load_agg {P : Program} {w : World} {ty : TypeId} {n : Nat} (hagg : (isAgg ty).run P w = .ok true w) (hsz : (sizeOf ty).run P w = .ok n w) (g o : Nat) (cs : List Value) (hl : cs.length = n)
    (h : ∀ j u, cs[j]? = some u → w.cell? ⟨g, o + j, none⟩ = some u) : (Instr.loadAt ty (.pointer (some ⟨g, o, none⟩))).run P w = .ok (.agg cs.toArray) w := by
  have hc : (loadCells ⟨g, o, none⟩ cs.length).run P w = .ok cs.toArray w := run_loadCells_list w _ cs (fun j v hv => by rw [addr_add]; exact h j v hv)
  rw [hl] at hc
  simp [Instr.loadAt, Instr.sureAddr, loadVar, Sem.run_bind, hagg, hsz, hc]
theorem run_load_blk {P : Program} {w : World} {ty t : TypeId} {n : Nat} (hagg : (isAgg ty).run P w = .ok true w) (hsz : (sizeOf ty).run P w = .ok n w) (g : Nat) (cs : Array Value) (hl : cs.size = n)
    (h : Blk w g t cs) : (Instr.loadAt ty (.pointer (some ⟨g, 0, none⟩))).run P w = .ok (.agg cs) w := by
  have := run_load_agg (P := P) (w := w) hagg hsz g 0 cs.toList (by simpa using hl) (fun j u hu => by rw [Nat.zero_add, h.cell]; simpa using hu)
  simpa using this
/-- an array, a struct, written whole -/
theorem run_store_agg {P : Program} {w : World} {ty t : TypeId} {n : Nat} (hsz : (sizeOf ty).run P w = .ok n w) (g o : Nat) (vs cur : Array Value) (hv : vs.size = n) (h1 : ∀ v ∈ vs.toList, v.oneCell' = true)
    (hg : Blk w g t cur) (hb : o + n ≤ cur.size) : (Instr.storeAt ty (.pointer (some ⟨g, o, none⟩)) (.agg vs)).run P w = .ok () (w.setRow g (cur.toList.take o ++ vs.toList ++ cur.toList.drop (o + n)).toArray) := by
  have hc := run_storeCells_at P g o t vs.toList 0 cur w hg (by simpa [hv] using hb) h1
  simp only [Nat.add_zero, Array.length_toList, hv] at hc
  simp [Instr.storeAt, Instr.sureAddr, storeVar, Sem.run_bind, hsz, Value.cells, hv, hc]
theorem run_store_blk {P : Program} {w : World} {ty t : TypeId} {n : Nat} (hsz : (sizeOf ty).run P w = .ok n w) (g : Nat) (vs cur : Array Value) (hv : vs.size = n) (h1 : ∀ v ∈ vs.toList, v.oneCell' = true)
    (hg : Blk w g t cur) (hc : cur.size = n) : (Instr.storeAt ty (.pointer (some ⟨g, 0, none⟩)) (.agg vs)).run P w = .ok () (w.setRow g vs) := by
  have := run_store_agg (P := P) hsz g 0 vs cur hv h1 hg (by omega)
  have hd : cur.toList.drop (0 + n) = [] := List.drop_eq_nil_of_le (by simp [hc])
  rw [hd] at this
  simpa using this
theorem wpList_store_blk {P : Program} {w : World} {ops : Array Oper} {rest : List Oper} {o : Oper} {a : Act} {Q : Exit → Act → World → Prop} (hgd : o.guard = none) (ty : TypeId) (x y : Operand) (ho : o.op = .store ty x y)
    (n : Nat) (hsz : ∀ w : World, (sizeOf ty).run P w = .ok n w) (g : Nat) (vs : Array Value) (hx : a.eval x = .pointer (some ⟨g, 0, none⟩)) (hy : a.eval y = .agg vs) (hv : vs.size = n) (h1 : ∀ v ∈ vs.toList, v.oneCell' = true)
    (t : TypeId) (cur : Array Value) (hg : Blk w g t cur) (hc : cur.size = n) (h : wpList P ops Q rest (a.put o.dst undef) (w.setRow g vs)) : wpList P ops Q (o :: rest) a w :=
  wpList_plain hgd fun _ hK => by
    unfold Oper.wp execOp
    simp only [ho, hx, hy, run_store_blk (P := P) (hsz w) g vs cur hv h1 hg hc, Sem.run_bind, Sem.run_pure, Result.andThen_ok, Oper.upon]
    exact hK _ _ h
theorem Blk.new' (w : World) (t : TypeId) (cs : Array Value) (n : Nat) (hn : n = w.heap.size) : Blk (w.alloc (.cells cs t)) n t cs := by subst hn; exact Blk.new w t cs
/-- a region that draws its order, whose operations leave the world as it is: walked once, in the text's order -/
theorem still_region {P : Program} {id : Nat} {Q : Exit → Act → World → Prop} {a : Act} {w : World} {l : List Oper} (hm : P.follows .mixedOrders = true) (hB : Region.lexB .any l.toArray = true)
    (h : wpStill P l.toArray w.drew (fun a' => Q .normal a' w.drew) l a) : (Code.region id l.toArray true).wp P Q a w := wp_region_still_lit hm hB h
/-- the same, but for a tail in one forced order -/
theorem still_region_tail {P : Program} {id : Nat} {Q : Exit → Act → World → Prop} {a : Act} {w : World} {l : List Oper} (n : Nat) (hm : P.follows .mixedOrders = true) (hB : Region.lexTailB .any l.toArray n = true)
    (h : wpStill P l.toArray w.drew (fun a' => wpList P l.toArray Q (l.drop n) a' w.drew) (l.take n) a) : (Code.region id l.toArray true).wp P Q a w := wp_region_still_tail n hm hB h
/-- an operation whose run is known, by whatever means -/
theorem wpList_run0 {P : Program} {w : World} {ops : Array Oper} {rest : List Oper} {o : Oper} {a : Act} {Q : Exit → Act → World → Prop} (hgd : o.guard = none) (v : Value) (hrun : (execOp a.eval o).run P w = .ok (.value v) w)
    (h : wpList P ops Q rest (a.put o.dst v) w) : wpList P ops Q (o :: rest) a w :=
  wpList_plain hgd fun _ hK => by
    unfold Oper.wp
    rw [hrun]
    exact hK _ _ h
theorem wpList_run {P : Program} {w : World} {ops : Array Oper} {rest : List Oper} {o : Oper} {a : Act} {Q : Exit → Act → World → Prop} (hgd : o.guard = none) (v : Value) (w' : World) (hrun : (execOp a.eval o).run P w = .ok (.value v) w')
    (h : wpList P ops Q rest (a.put o.dst v) w') : wpList P ops Q (o :: rest) a w :=
  wpList_plain hgd fun _ hK => by
    unfold Oper.wp
    rw [hrun]
    exact hK _ _ h
theorem oneCell_U (L : List UInt32) : ∀ v ∈ (L.map U).toArray.toList, v.oneCell' = true := by simp [Value.oneCell']
theorem oneCell_B (L : List UInt8) : ∀ v ∈ (L.map B).toArray.toList, v.oneCell' = true := by simp [Value.oneCell']

/-- the world under a name of its own, with what is known of it -/
theorem wp_world {P : Program} {c : Code} {Q : Exit → Act → World → Prop} {a : Act} {w0 : World} (F : World → Prop) (h : F w0) (hr : ∀ w, F w → Code.wp P c Q a w) : Code.wp P c Q a w0 := hr _ h
theorem wpList_world {P : Program} {ops : Array Oper} {Q : Exit → Act → World → Prop} {l : List Oper} {a : Act} {w0 : World} (F : World → Prop) (h : F w0) (hr : ∀ w, F w → wpList P ops Q l a w) : wpList P ops Q l a w0 := hr _ h

/-- a cell of a block of words, of bytes -/
theorem cellU (L : List UInt32) (i : Nat) (h : i < L.length) : ((L.map U).toArray)[i]? = some (U (L.getD i 0)) := by
  simp [List.getElem?_eq_getElem h, List.getD_eq_getElem?_getD]
theorem cellB (L : List UInt8) (i : Nat) (h : i < L.length) : ((L.map B).toArray)[i]? = some (B (L.getD i 0)) := by
  simp [List.getElem?_eq_getElem h, List.getD_eq_getElem?_getD]
theorem setU (L : List UInt32) (i : Nat) (x : UInt32) : ((L.map U).toArray).setIfInBounds i (U x) = ((L.set i x).map U).toArray := by simp
theorem setB (L : List UInt8) (i : Nat) (x : UInt8) : ((L.map B).toArray).setIfInBounds i (B x) = ((L.set i x).map B).toArray := by simp
theorem getD_set_same {α : Type} (L : List α) (t : Nat) (x d : α) (h : t < L.length) : (L.set t x).getD t d = x := by
  simp [List.getD_eq_getElem?_getD, h]
theorem getD_set_other {α : Type} (L : List α) (t i : Nat) (x d : α) (h : t ≠ i) : (L.set t x).getD i d = L.getD i d := by
  simp [List.getD_eq_getElem?_getD, h]
theorem getD_take {α : Type} (L : List α) (t i : Nat) (d : α) (h : i < t) : (L.take t).getD i d = L.getD i d := by
  simp [List.getD_eq_getElem?_getD, h]
theorem take_set_succ {α : Type} (L : List α) (t : Nat) (x : α) (h : t < L.length) : (L.set t x).take (t + 1) = L.take t ++ [x] := by
  rw [List.take_succ_eq_append_getElem (by simpa using h)]
  rw [List.take_set_of_le (Nat.le_refl _)]
  simp

theorem wpList_store_agg {P : Program} {w : World} {ops : Array Oper} {rest : List Oper} {o : Oper} {a : Act} {Q : Exit → Act → World → Prop} (hgd : o.guard = none) (ty : TypeId) (x y : Operand) (ho : o.op = .store ty x y)
    (n : Nat) (hsz : ∀ w : World, (sizeOf ty).run P w = .ok n w) (g off : Nat) (vs : Array Value) (hx : a.eval x = .pointer (some ⟨g, off, none⟩)) (hy : a.eval y = .agg vs) (hv : vs.size = n) (h1 : ∀ v ∈ vs.toList, v.oneCell' = true)
    (t : TypeId) (cur : Array Value) (hg : Blk w g t cur) (hc : off + n ≤ cur.size) (h : wpList P ops Q rest (a.put o.dst undef) (w.setRow g (cur.toList.take off ++ vs.toList ++ cur.toList.drop (off + n)).toArray)) : wpList P ops Q (o :: rest) a w :=
  wpList_plain hgd fun _ hK => by
    unfold Oper.wp execOp
    simp only [ho, hx, hy, run_store_agg (P := P) (hsz w) g off vs cur hv h1 hg hc, Sem.run_bind, Sem.run_pure, Result.andThen_ok, Oper.upon]
    exact hK _ _ h

/-- a slice's length -/
def sliceLen : Value → Nat
  | .slice _ n _ => n
  | _ => 0

/-- a slice's elements, as cells, in blocks of which X holds -/
def Bs (w : World) (X : Nat → Prop) (A : Option Addr) (l : List Value) : Prop :=
  l ≠ [] → ∃ b o, A = some ⟨b, o, none⟩ ∧ b < w.heap.size ∧ X b ∧ ∀ j v, l[j]? = some v → w.cell? ⟨b, o + j, none⟩ = some v
section
variable {w w' : World} {X Y : Nat → Prop} {A : Option Addr} {l : List Value}
theorem Bs.nil : Bs w X A [] := fun h => absurd rfl h
theorem Bs.weak (h : Bs w X A l) (hX : ∀ b, b < w.heap.size → X b → Y b) : Bs w Y A l := fun hl =>
  let ⟨b, o, h1, h2, h3, h4⟩ := h hl
  ⟨b, o, h1, h2, hX b h2 h3, h4⟩
theorem Bs.keep (h : Bs w X A l) (hs : w.heap.size ≤ w'.heap.size) (hk : ∀ p : Addr, p.block < w.heap.size → X p.block → w'.cell? p = w.cell? p) : Bs w' X A l := fun hl =>
  let ⟨b, o, h1, h2, h3, h4⟩ := h hl
  ⟨b, o, h1, by omega, h3, fun j v hv => (hk ⟨b, o + j, none⟩ h2 h3).trans (h4 j v hv)⟩
theorem Bs.drewN (h : Bs w X A l) (n : Nat) : Bs (w.drewN n) X A l := h
theorem Bs.drew (h : Bs w X A l) : Bs w.drew X A l := h
theorem Bs.alloc (h : Bs w X A l) (o : Obj) : Bs (w.alloc o) X A l := h.keep (by simp) fun p hp _ => World.cell?_alloc_lt w o p hp
theorem Bs.below {B : Nat} (h : Bs w X A l) (hb : Go.RowKit.Below B w w') (hX : ∀ b, b < w.heap.size → X b → b < B) : Bs w' X A l := h.keep hb.size fun _ hp hx => hb.cell (hX _ hp hx)
theorem Bs.grown {row : Option Nat} (h : Bs w X A l) (hg : w.grownBy w' row) (hX : ∀ b, b < w.heap.size → X b → some b ≠ row) : Bs w' X A l :=
  h.keep hg.size fun p hp hx => World.cell?_of_block (hg.block p.block hp (hX _ hp hx))
theorem Bs.setCell (h : Bs w X A l) {p : Addr} (u : Value) (hX : ¬ X p.block) : Bs (w.setCell p u) X A l :=
  h.keep (by simp [World.setCell]) fun q _ hx => World.cell?_setCell_other w p q u (fun e => by subst e; exact hX hx)
theorem Bs.drop {c k s : Nat} (h : Bs w X A l) (hc : l.length ≤ c * s) : Bs w X (if c = k then A else A.map (·.add (k * s))) (l.drop (k * s)) := fun hl => by
  have hne : l ≠ [] := fun e => hl (by rw [e]; simp)
  obtain ⟨b, o, rfl, h2, h3, h4⟩ := h hne
  have hlt : k * s < l.length := by
    rcases Nat.lt_or_ge (k * s) l.length with h | h
    · exact h
    · exact absurd (List.drop_eq_nil_of_le h) hl
  rw [if_neg (fun e => by subst e; omega)]
  refine ⟨b, o + k * s, by simp [addr_add], h2, h3, fun j v hv => ?_⟩
  rw [show o + k * s + j = o + (k * s + j) by omega]
  exact h4 _ v (by rw [← hv, List.getElem?_drop])
theorem Bs.take {k : Nat} (h : Bs w X A l) : Bs w X A (l.take k) := fun hl => by
  have hne : l ≠ [] := fun e => hl (by rw [e]; simp)
  obtain ⟨b, o, h1, h2, h3, h4⟩ := h hne
  refine ⟨b, o, h1, h2, h3, fun j v hv => h4 j v ?_⟩
  rw [List.getElem?_take] at hv
  split at hv
  · exact hv
  · cases hv
theorem Bs.at_ (h : Bs w X A l) (hl : 0 < l.length) : ∃ b o, A = some ⟨b, o, none⟩ ∧ b < w.heap.size ∧ X b ∧ ∀ j v, l[j]? = some v → w.cell? ⟨b, o + j, none⟩ = some v := h (by intro e; simp [e] at hl)
end

theorem Bs.setRow_ {w : World} {g : Nat} {A : Option Addr} {l : List Value} (h : Bs w (· ≠ g) A l) (cs : Array Value) : Bs (w.setRow g cs) (· ≠ g) A l :=
  h.keep (by simp) fun _ _ hx => World.cell?_of_block (setRow_other w g _ cs hx)
theorem grown_setRow {w w' : World} {g : Nat} (h : w.grownBy w' (some g)) (cs : Array Value) : w.grownBy (w'.setRow g cs) (some g) :=
  ⟨h.os, h.tape, h.output, by simpa using h.size, fun i hi hne => (setRow_other w' g i cs (fun e => hne (by rw [e]))).trans (h.block i hi hne)⟩
theorem grown_setCell {w w' : World} {g : Nat} (h : w.grownBy w' (some g)) (i : Nat) (u : Value) : w.grownBy (w'.setCell ⟨g, i, none⟩ u) (some g) :=
  ⟨h.os, h.tape, h.output, by simpa [World.setCell] using h.size, fun k hk hne => (Go.RowKit.Below.heap_setCell w' ⟨g, i, none⟩ u k (fun e => hne (by rw [e]))).trans (h.block k hk hne)⟩
theorem grown_drewN {a w : World} {row : Option Nat} (h : a.grownBy w row) (n : Nat) : a.grownBy (w.drewN n) row := ⟨h.os, h.tape, h.output, h.size, h.block⟩
theorem grown_drew {a w : World} {row : Option Nat} (h : a.grownBy w row) : a.grownBy w.drew row := ⟨h.os, h.tape, h.output, h.size, h.block⟩
theorem grown_below {a w w' : World} {row : Option Nat} (h : a.grownBy w row) (hb : Go.RowKit.Below w.heap.size w w') : a.grownBy w' row :=
  ⟨hb.os.trans h.os, hb.tape.trans h.tape, hb.output.trans h.output, Nat.le_trans h.size hb.size, fun k hk hne => (hb.block k (Nat.lt_of_lt_of_le hk h.size)).trans (h.block k hk hne)⟩

/-- 's[k:]' -/
theorem run_slice_low {P : Program} {t : TypeId} {s : Nat} (ht : P.underlying t = some (.slice (P.elem t))) (hs : ∀ W : World, (sizeOf (P.elem t)).run P W = .ok s W) (A : Option Addr) (n c k : Nat) (hk : k ≤ n) (W : World) :
    (Instr.sliceAt t (.slice A n c) (some (.int .i64 (k : Int))) none none).run P W = .ok (.slice (if c = k then A else A.map (·.add (k * s))) (n - k) (c - k)) W := by
  rw [run_sliceAt_slice W t _ _ _ _ ht, run_slice_l W t A n c ht .i64 (k : Int) (by omega) (by omega), hs]
  simp [sliced, Result.andThen]
/-- 's[:k]' -/
theorem run_slice_high {P : Program} {t : TypeId} {s : Nat} (ht : P.underlying t = some (.slice (P.elem t))) (hs : ∀ W : World, (sizeOf (P.elem t)).run P W = .ok s W) (A : Option Addr) (n c k : Nat) (hk : k ≤ c) (W : World) :
    (Instr.sliceAt t (.slice A n c) none (some (.int .i64 (k : Int))) none).run P W = .ok (.slice A k c) W := by
  rw [run_sliceAt_slice W t _ _ _ _ ht, run_slice_h W t A n c ht .i64 (k : Int) (by omega) (by omega), hs]
  simp [sliced, Result.andThen]
  intro _
  cases A <;> simp [Addr.add]
/-- 'p[k:]' of an array behind a pointer -/
theorem run_slice_arr {P : Program} {t : TypeId} {s N : Nat} (ht : P.underlying t = some (.array (P.arrayLen t) (P.elem t))) (hN : P.arrayLen t = N) (hs : ∀ W : World, (sizeOf (P.elem t)).run P W = .ok s W) (g o k : Nat) (hk : k < N) (W : World) :
    (Instr.sliceAt t (.pointer (some ⟨g, o, none⟩)) (some (.int .i64 (k : Int))) none none).run P W = .ok (.slice (some ⟨g, o + k * s, none⟩) (N - k) (N - k)) W := by
  rw [run_sliceAt_array_l W t _ ht .i64 (k : Int) (by omega) (by rw [hN]; omega), hs, hN]
  simp only [slicedAt, Result.andThen, Int.toNat_natCast]
  rw [if_neg (by omega), addr_add]
/-- 'copy(p[..], src)' into a block that is known whole, one-cell elements -/
theorem run_copy_blk {P : Program} {w : World} {T E : TypeId} (ty : TypeId) (hu : P.underlying T = some (.slice E)) (hs : (P.info? E).map (·.size) = some 1) (g o : Nat) (t : TypeId) (cur : Array Value) (dLen dCap : Nat)
    (X : Nat → Prop) (A : Option Addr) (l : List Value) (n c : Nat) (hg : Blk w g t cur) (hl : l.length = n) (hb : Bs w X A l) (hfit : o + Nat.min n dLen ≤ cur.size) (h1 : ∀ v ∈ l, v.oneCell' = true) :
    (Builtin.copy_ #[T, T] ty #[.slice (some ⟨g, o, none⟩) dLen dCap, .slice A n c]).run P w =
      .ok (.int .i64 ((Nat.min n dLen : Nat) : Int)) (w.setRow g (cur.toList.take o ++ l.take (Nat.min n dLen) ++ cur.toList.drop (o + Nat.min n dLen)).toArray) := by
  by_cases h0 : Nat.min n dLen = 0
  · rw [h0]
    have := run_copy_none (P := P) w T T ty E (some ⟨g, o, none⟩) A dLen dCap n c hu hs h0
    rw [this]
    simp only [List.take_zero, List.append_nil, Nat.add_zero, List.take_append_drop, Array.toArray_toList]
    rw [setRow_self w g cur t (0, 0) hg]
    rfl
  · have hpos : 0 < l.length := by rw [hl]; have : Nat.min n dLen ≤ n := Nat.min_le_left _ _; omega
    obtain ⟨b, ob, rfl, h2, h3, h4⟩ := hb.at_ hpos
    have hlen : (l.take (Nat.min n dLen)).length = Nat.min n dLen := by
      rw [List.length_take, hl]
      have : Nat.min n dLen ≤ n := Nat.min_le_left _ _
      omega
    have := run_copy_row (P := P) w T T ty E g o dLen dCap ⟨b, ob, none⟩ n c cur t (l.take (Nat.min n dLen)) hu hs hg hlen (fun j v hv => by
      rw [addr_add]
      refine h4 j v ?_
      rw [List.getElem?_take] at hv
      split at hv
      · exact hv
      · cases hv) (by rw [hlen]; exact hfit) (fun v hv => h1 v (List.mem_of_mem_take hv))
    rw [this, hlen]
    rfl

/-- a slice of slices of bytes, all in blocks of which X holds -/
def BsS (w : World) (X : Nat → Prop) (A : Option Addr) (ls : List (List UInt8)) : Prop :=
  ∃ vs : List Value, Bs w X A vs ∧ vs.length = ls.length ∧ ∀ i (h : i < ls.length), ∃ Ai ci, vs[i]? = some (.slice Ai (ls[i]).length ci) ∧ (ls[i]).length ≤ ci ∧ Bs w X Ai ((ls[i]).map B)
section
variable {w w' : World} {X Y : Nat → Prop} {A : Option Addr} {ls : List (List UInt8)}
theorem BsS.keep (h : BsS w X A ls) (hs : w.heap.size ≤ w'.heap.size) (hk : ∀ p : Addr, p.block < w.heap.size → X p.block → w'.cell? p = w.cell? p) : BsS w' X A ls :=
  let ⟨vs, h1, h2, h3⟩ := h
  ⟨vs, h1.keep hs hk, h2, fun i hi => let ⟨Ai, ci, e1, e2, e3⟩ := h3 i hi; ⟨Ai, ci, e1, e2, e3.keep hs hk⟩⟩
theorem BsS.weak (h : BsS w X A ls) (hX : ∀ b, b < w.heap.size → X b → Y b) : BsS w Y A ls :=
  let ⟨vs, h1, h2, h3⟩ := h
  ⟨vs, h1.weak hX, h2, fun i hi => let ⟨Ai, ci, e1, e2, e3⟩ := h3 i hi; ⟨Ai, ci, e1, e2, e3.weak hX⟩⟩
theorem BsS.below {B : Nat} (h : BsS w X A ls) (hb : Go.RowKit.Below B w w') (hX : ∀ b, b < w.heap.size → X b → b < B) : BsS w' X A ls := h.keep hb.size fun _ hp hx => hb.cell (hX _ hp hx)
end
end Go.Proofs.Ytgcbdnoniikboaa
