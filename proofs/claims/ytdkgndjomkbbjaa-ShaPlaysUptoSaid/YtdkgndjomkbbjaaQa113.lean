/- For ShaPlays: the two sums under way, the document's beside them, those put aside, as they lie in memory. -/
import Derived.Test.YtdkgndjomkbbjaaQa111
import Derived.Test.YtdkgndjomkbbjaaQa107
import Derived.Test.YtdkgndjomkbbjaaQa112
import Derived.Test.YtdkgndjomkbbjaaQa105
namespace Go.Proofs.Ytdkgndjomkbbjaa
open Go Go.RowKit

/-- the document's sum under way and where its bytes lie -/
structure UndD where
  u : Und
  A : Option Addr
  n : Nat
  c : Nat
def UndD.cells (d : UndD) : List Value := undCells d.u.st.list d.u.len (.slice d.A d.n d.c)
def UndD.val (d : UndD) : Value := undV d.u (.slice d.A d.n d.c)
theorem UndD.len (d : UndD) : d.cells.length = 10 := undCells_len _ _ rfl
theorem UndD.one (d : UndD) : ∀ v ∈ d.cells, v.oneCell' = true := fun v hv => undCells_one v (by simpa [UndD.cells] using hv)
def sptr (g : Nat) : Value := .pointer (some ⟨g, 0, none⟩)

/-- the cells of a world -/
structure WC (cs : Array Value) (g : Nat → Nat) (p : Nat → UndD) (ov wv : Value) : Prop where
  size : cs.size = 24
  s : ∀ k, k < 2 → cs[k]? = some (sptr (g k))
  u : ∀ k, k < 2 → ∀ j v, (p k).cells[j]? = some v → cs[2 + k * 10 + j]? = some v
  o : cs[22]? = some ov
  w : cs[23]? = some wv
def upd {α : Type} (f : Nat → α) (k : Nat) (x : α) : Nat → α := fun i => if i = k then x else f i
theorem upd_same {α : Type} (f : Nat → α) (k : Nat) (x : α) : upd f k x k = x := if_pos rfl
theorem upd_other {α : Type} (f : Nat → α) (k i : Nat) (x : α) (h : i ≠ k) : upd f k x i = f i := if_neg h
section
variable {cs : Array Value} {g : Nat → Nat} {p : Nat → UndD} {ov wv : Value}
theorem WC.setS (h : WC cs g p ov wv) (k : Nat) (hk : k < 2) (g' : Nat) : WC (cs.setIfInBounds k (sptr g')) (upd g k g') p ov wv := by
  have hz := h.size
  refine ⟨by simpa using h.size, fun i hi => ?_, fun i hi j v hv => ?_, ?_, ?_⟩
  · rw [Array.getElem?_setIfInBounds]
    by_cases e : k = i
    · subst e; rw [if_pos rfl, if_pos (by omega), upd_same]
    · rw [if_neg e, upd_other _ _ _ _ (fun e' => e e'.symm)]; exact h.s i hi
  · rw [Array.getElem?_setIfInBounds, if_neg (by omega)]; exact h.u i hi j v hv
  · rw [Array.getElem?_setIfInBounds, if_neg (by omega)]; exact h.o
  · rw [Array.getElem?_setIfInBounds, if_neg (by omega)]; exact h.w
theorem WC.setO (h : WC cs g p ov wv) (x : Value) : WC (cs.setIfInBounds 22 x) g p x wv := by
  have hz := h.size
  refine ⟨by simpa using h.size, fun i hi => ?_, fun i hi j v hv => ?_, ?_, ?_⟩
  · rw [Array.getElem?_setIfInBounds, if_neg (by omega)]; exact h.s i hi
  · have hj : j < 10 := by have := (p i).len; have := (List.getElem?_eq_some_iff.1 hv).1; omega
    rw [Array.getElem?_setIfInBounds, if_neg (by omega)]; exact h.u i hi j v hv
  · rw [Array.getElem?_setIfInBounds, if_pos rfl, if_pos (by omega)]
  · rw [Array.getElem?_setIfInBounds, if_neg (by omega)]; exact h.w
theorem WC.setW (h : WC cs g p ov wv) (x : Value) : WC (cs.setIfInBounds 23 x) g p ov x := by
  have hz := h.size
  refine ⟨by simpa using h.size, fun i hi => ?_, fun i hi j v hv => ?_, ?_, ?_⟩
  · rw [Array.getElem?_setIfInBounds, if_neg (by omega)]; exact h.s i hi
  · have hj : j < 10 := by have := (p i).len; have := (List.getElem?_eq_some_iff.1 hv).1; omega
    rw [Array.getElem?_setIfInBounds, if_neg (by omega)]; exact h.u i hi j v hv
  · rw [Array.getElem?_setIfInBounds, if_neg (by omega)]; exact h.o
  · rw [Array.getElem?_setIfInBounds, if_pos rfl, if_pos (by omega)]
theorem WC.setU (h : WC cs g p ov wv) (k : Nat) (hk : k < 2) (d : UndD) : WC (cs.toList.take (2 + k * 10) ++ d.cells ++ cs.toList.drop (2 + k * 10 + 10)).toArray g (upd p k d) ov wv := by
  have hz := h.size
  have hl : cs.toList.length = 24 := by simpa using hz
  have hd := d.len
  have ht : (cs.toList.take (2 + k * 10)).length = 2 + k * 10 := by rw [List.length_take]; omega
  have hg : ∀ i v, cs[i]? = some v → (i < 2 + k * 10 ∨ 2 + k * 10 + 10 ≤ i) → (cs.toList.take (2 + k * 10) ++ d.cells ++ cs.toList.drop (2 + k * 10 + 10)).toArray[i]? = some v := fun i v hi hj => by
    rw [List.getElem?_toArray]
    rw [← Array.getElem?_toList] at hi
    rcases hj with hj | hj
    · rw [List.append_assoc, List.getElem?_append_left (by omega), List.getElem?_take_of_lt hj]; exact hi
    · rw [List.getElem?_append_right (by rw [List.length_append, ht, hd]; exact hj), List.getElem?_drop, List.length_append, ht, hd, show 2 + k * 10 + 10 + (i - (2 + k * 10 + 10)) = i by omega]; exact hi
  refine ⟨by simp [hz, hd]; omega, fun i hi => hg _ _ (h.s i hi) (.inl (by omega)), fun i hi j v hv => ?_, hg _ _ h.o (.inr (by omega)), hg _ _ h.w (.inr (by omega))⟩
  by_cases e : i = k
  · subst e
    rw [upd_same] at hv
    have hj : j < 10 := by have := (List.getElem?_eq_some_iff.1 hv).1; omega
    rw [List.getElem?_toArray, List.append_assoc, List.getElem?_append_right (by omega), ht, List.getElem?_append_left (by omega), show 2 + i * 10 + j - (2 + i * 10) = j by omega]
    exact hv
  · rw [upd_other _ _ _ _ e] at hv
    have hj : j < 10 := by have := (p i).len; have := (List.getElem?_eq_some_iff.1 hv).1; omega
    exact hg _ _ (h.u i hi j v hv) (by omega)
end
def pastS (L : List Nat) : List Value := L.map sptr
def pastU (L : List UndD) : List Value := L.flatMap UndD.cells
theorem pastU_len : ∀ (L : List UndD), (pastU L).length = L.length * 10
  | [] => rfl
  | x :: L => by
    have := pastU_len L
    unfold pastU at this ⊢
    rw [List.flatMap_cons, List.length_append, this, x.len, List.length_cons]
    omega
theorem pastU_get : ∀ (L : List UndD) (i : Nat) (x : UndD) (_ : L[i]? = some x) (j : Nat) (v : Value) (_ : x.cells[j]? = some v), (pastU L)[i * 10 + j]? = some v
  | [], _, _, h, _, _, _ => by simp at h
  | y :: L, 0, x, h, j, v, hv => by
    simp only [List.getElem?_cons_zero, Option.some.injEq] at h
    subst h
    unfold pastU
    rw [List.flatMap_cons, Nat.zero_mul, Nat.zero_add, List.getElem?_append_left (List.getElem?_eq_some_iff.1 hv).1]
    exact hv
  | y :: L, i + 1, x, h, j, v, hv => by
    have := pastU_get L i x (by simpa using h) j v hv
    have hy := y.len
    unfold pastU at this ⊢
    rw [List.flatMap_cons, List.getElem?_append_right (by omega), hy, show (i + 1) * 10 + j - 10 = i * 10 + j by omega]
    exact this
/-- a sum and the document's beside it: they tell the same -/
structure Pair (W : World) (X : Nat → Prop) (g : Nat) (u : Und) (d : UndD) : Prop where
  sh : Sh W g u
  len : u.len ≤ 1152921504606846976
  sl : Sl W X d.A d.n d.c d.u.rest
/-- blocks that are not written to -/
def Free (gw : Nat) (g : Nat → Nat) (ov wv : Value) (b : Nat) : Prop := b ≠ gw ∧ b ≠ g 0 ∧ b ≠ g 1 ∧ some b ≠ ov.ownBlock ∧ some b ≠ wv.ownBlock
structure PlW (w : World) (gw : Nat) (g : Nat → Nat) (su : Nat → Und) (p : Nat → UndD) (ov wv : Value) (lo : List Nat) (lu : List UndD) (L : List (Nat × UndD)) (W : World) : Prop where
  blk : ∃ cs, Blk W gw 82 cs ∧ WC cs g p ov wv
  cur : ∀ k, k < 2 → Pair W (Free gw g ov wv) (g k) (su k) (p k)
  ne : g 0 ≠ g 1
  old : W.ownsRow w.heap.size 38 1 ov lo.length (pastS lo)
  was : W.ownsRow w.heap.size 77 10 wv lu.length (pastU lu)
  past : ∀ x ∈ L, Pair W (Free gw g ov wv) x.1 x.2.u x.2 ∧ Free gw g ov wv x.1
  low : w.heap.size ≤ gw
  lows : ∀ k, k < 2 → w.heap.size ≤ g k
  bel : Below w.heap.size w W
theorem own_neS {w : World} {base : Nat} {e t : TypeId} {s : Nat} {v : Value} {n g : Nat} {xs : List Value} {cs : Array Value} (h : w.ownsRow base e s v n xs) (hb : Blk w g t cs) (hne : e ≠ t) : some g ≠ v.ownBlock := by
  intro hv
  rcases h.2 with ⟨rfl, _⟩ | ⟨g', cap, cur, rfl, _, hg, _⟩
  · cases hv
  · have : g = g' := by simpa [Value.ownBlock] using hv
    subst this
    rw [show w.heap[g]? = some (.cells cs t (0, 0)) from hb] at hg
    cases hg
    exact hne rfl
theorem own_neO {w : World} {base : Nat} {e t : TypeId} {s s' : Nat} {v v' : Value} {n n' : Nat} {xs xs' : List Value} (h : w.ownsRow base e s v n xs) (h' : w.ownsRow base t s' v' n' xs') (hne : e ≠ t) (k : Nat) (hk : v'.ownBlock = some k) : some k ≠ v.ownBlock := by
  rcases h'.2 with ⟨rfl, _⟩ | ⟨g', cap, cur, rfl, _, hg, _⟩
  · cases hk
  · cases hk
    exact own_neS h (show Blk w _ t cur from hg) hne
theorem Blk.neS {w : World} {g g' : Nat} {t t' : TypeId} {cs cs' : Array Value} (h : Blk w g t cs) (h' : Blk w g' t' cs') (hne : t ≠ t') : g ≠ g' := by
  intro e
  subst e
  have := (show w.heap[g]? = some (.cells cs t (0, 0)) from h).symm.trans (show w.heap[g]? = some (.cells cs' t' (0, 0)) from h')
  cases this
  exact hne rfl
theorem Sh.blkS {w : World} {g : Nat} {u : Und} (h : Sh w g u) : ∃ cs, Blk w g 41 cs := ⟨_, h.choose_spec.blk⟩
theorem Sh.grownS {W W' : World} {g : Nat} {u : Und} {row : Option Nat} (h : Sh W g u) (hg : W.grownBy W' row) (hr : some g ≠ row) : Sh W' g u := ⟨h.choose, h.choose_spec.move (h.choose_spec.blk.grown hg hr)⟩
theorem Sh.ltS {W : World} {g : Nat} {u : Und} (h : Sh W g u) : g < W.heap.size := h.choose_spec.blk.lt
theorem Sh.stepS {W W' : World} {g : Nat} {u : Und} (h : Sh W g u) (hb : Below W.heap.size W W') : Sh W' g u := ⟨h.choose, h.choose_spec.move (h.choose_spec.blk.below hb h.choose_spec.blk.lt)⟩
section
variable {w W W' : World} {gw : Nat} {g : Nat → Nat} {su : Nat → Und} {p : Nat → UndD} {ov wv : Value} {lo : List Nat} {lu : List UndD} {L : List (Nat × UndD)}
theorem Pair.step {X : Nat → Prop} {g : Nat} {u : Und} {d : UndD} (h : Pair W X g u d) (hb : Below W.heap.size W W') : Pair W' X g u d := ⟨h.sh.stepS hb, h.len, h.sl.step hb⟩
theorem Pair.grown {X : Nat → Prop} {g : Nat} {u : Und} {d : UndD} {row : Option Nat} (h : Pair W X g u d) (hg : W.grownBy W' row) (hr : some g ≠ row) (hX : ∀ b, b < W.heap.size → X b → some b ≠ row) : Pair W' X g u d := ⟨h.sh.grownS hg hr, h.len, h.sl.grown hg hX⟩
theorem Pair.weak {X Y : Nat → Prop} {g : Nat} {u : Und} {d : UndD} (h : Pair W X g u d) (hX : ∀ b, b < W.heap.size → X b → Y b) : Pair W Y g u d := ⟨h.sh, h.len, h.sl.weak hX⟩
theorem PlW.step (h : PlW w gw g su p ov wv lo lu L W) (hb : Below W.heap.size W W') : PlW w gw g su p ov wv lo lu L W' :=
  let ⟨cs, h1, h2⟩ := h.blk
  ⟨⟨cs, h1.below hb h1.lt, h2⟩, fun k hk => (h.cur k hk).step hb, h.ne, owns_step h.old hb, owns_step h.was hb, fun x hx => ⟨(h.past x hx).1.step hb, (h.past x hx).2⟩, h.low, h.lows, h.bel.trans (hb.mono h.bel.size)⟩
theorem PlW.gk (h : PlW w gw g su p ov wv lo lu L W) (k : Nat) (hk : k < 2) : gw ≠ g k := by
  obtain ⟨cs, h1, _⟩ := h.blk
  obtain ⟨cs', h2⟩ := (h.cur k hk).sh.blkS
  exact h1.neS h2 (by decide)
theorem PlW.other (h : PlW w gw g su p ov wv lo lu L W) (k i : Nat) (hk : k < 2) (hi : i < 2) (hne : i ≠ k) : g i ≠ g k := by
  have := h.ne
  rcases (by omega : i = 0 ∧ k = 1 ∨ i = 1 ∧ k = 0) with ⟨rfl, rfl⟩ | ⟨rfl, rfl⟩
  · exact this
  · exact this.symm
theorem Free.ne {b : Nat} (h : Free gw g ov wv b) (k : Nat) (hk : k < 2) : b ≠ g k := by
  rcases (by omega : k = 0 ∨ k = 1) with rfl | rfl
  · exact h.2.1
  · exact h.2.2.1
/-- the sum number k is written to -/
theorem PlW.write (h : PlW w gw g su p ov wv lo lu L W) (k : Nat) (hk : k < 2) (hg : W.grownBy W' (some (g k))) {u : Und} (hs : Sh W' (g k) u) (hl : u.len ≤ 1152921504606846976) : PlW w gw g (upd su k u) p ov wv lo lu L W' := by
  obtain ⟨cs, h1, h2⟩ := h.blk
  obtain ⟨cs', hb⟩ := (h.cur k hk).sh.blkS
  have hX : ∀ b, b < W.heap.size → Free gw g ov wv b → some b ≠ some (g k) := fun b _ hb e => hb.ne k hk (Option.some.inj e)
  refine ⟨⟨cs, h1.grown hg fun e => h.gk k hk (Option.some.inj e), h2⟩, fun i hi => ?_, h.ne, h.old.kept hg (.inr (Ne.symm (own_neS h.old hb (by decide)))), h.was.kept hg (.inr (Ne.symm (own_neS h.was hb (by decide)))), fun x hx => ⟨(h.past x hx).1.grown hg (fun e => (h.past x hx).2.ne k hk (Option.some.inj e)) hX, (h.past x hx).2⟩, h.low, h.lows, h.bel.grown hg h.bel.size fun j hj => by cases hj; exact h.lows k hk⟩
  by_cases e : i = k
  · subst e
    rw [upd_same]
    exact ⟨hs, hl, (h.cur i hi).sl.grown hg hX⟩
  · rw [upd_other _ _ _ _ e]
    exact (h.cur i hi).grown hg (fun e' => h.other k i hk hi e (Option.some.inj e')) hX
/-- the world's own block is written to -/
theorem PlW.cells (h : PlW w gw g su p ov wv lo lu L W) {p' : Nat → UndD} (hg : W.grownBy W' (some gw)) (hb : ∃ cs, Blk W' gw 82 cs ∧ WC cs g p' ov wv) (hp : ∀ k, k < 2 → Sl W (Free gw g ov wv) (p' k).A (p' k).n (p' k).c (p' k).u.rest) : PlW w gw g su p' ov wv lo lu L W' := by
  obtain ⟨cs, h1, h2⟩ := h.blk
  have hX : ∀ b, b < W.heap.size → Free gw g ov wv b → some b ≠ some gw := fun b _ hb e => hb.1 (Option.some.inj e)
  exact ⟨hb, fun i hi => ⟨(h.cur i hi).sh.grownS hg (fun e => h.gk i hi (Option.some.inj e).symm), (h.cur i hi).len, (hp i hi).grown hg hX⟩, h.ne, h.old.kept hg (.inr (Ne.symm (own_neS h.old h1 (by decide)))), h.was.kept hg (.inr (Ne.symm (own_neS h.was h1 (by decide)))), fun x hx => ⟨(h.past x hx).1.grown hg (fun e => (h.past x hx).2.1 (Option.some.inj e)) hX, (h.past x hx).2⟩, h.low, h.lows, h.bel.grown hg h.bel.size fun j hj => by cases hj; exact h.low⟩
theorem lt_of_cellS {W : World} {a : Addr} {v : Value} (h : W.cell? a = some v) : a.block < W.heap.size := by
  rcases Nat.lt_or_ge a.block W.heap.size with hl | hl
  · exact hl
  · unfold World.cell? at h
    rw [Array.getElem?_eq_none (by omega)] at h
    cases h
theorem LentB.weakT {X : Nat → Prop} {g n c : Nat} {l : List UInt8} (h : LentB W X g n c l) : LentB W (fun _ => True) g n c l := ⟨h.sl.all, h.lt, h.mark, trivial, h.in_⟩
theorem PlW.fresh (h : PlW w gw g su p ov wv lo lu L W) {N b : Nat} (hN : W.heap.size ≤ N) (hb : N ≤ b) : Free gw g ov wv b := by
  obtain ⟨_, k, _⟩ := h.blk
  have h0 := (h.cur 0 (by decide)).sh.ltS
  have h1 := (h.cur 1 (by decide)).sh.ltS
  have hg := k.lt
  refine ⟨by omega, by omega, by omega, fun e => ?_, fun e => ?_⟩
  · have := (h.old.lt b e.symm).2; omega
  · have := (h.was.lt b e.symm).2; omega
theorem PlW.gl (h : PlW w gw g su p ov wv lo lu L W) (k : Nat) (hk : k < 2) : g k < W.heap.size := (h.cur k hk).sh.ltS
/-- a fresh one in the place of the sum number k -/
theorem PlW.swap (h : PlW w gw g su p ov wv lo lu L W) (k : Nat) (hk : k < 2) {W1 : World} {y : Nat} (hb : Below W.heap.size W W1) (hy : W.heap.size ≤ y) {u : Und} (hs : Sh W1 y u) (hl : u.len ≤ 1152921504606846976) : PlW w gw (upd g k y) (upd su k u) p ov wv lo lu L (W1.setCell ⟨gw, k, none⟩ (sptr y)) := by
  have h1 := h.step hb
  obtain ⟨cs, k1, hc⟩ := h1.blk
  obtain ⟨cs', ky⟩ := hs.blkS
  have hl0 := h.gl 0 (by decide)
  have hl1 := h.gl 1 (by decide)
  have hgw : gw < W.heap.size := let ⟨_, k, _⟩ := h.blk; k.lt
  have hbw := h.bel.size
  have hF : ∀ b, b < W.heap.size → Free gw g ov wv b → Free gw (upd g k y) ov wv b := fun b hb h => by
    refine ⟨h.1, ?_, ?_, h.2.2.2.1, h.2.2.2.2⟩
    · by_cases e : 0 = k
      · subst e; rw [upd_same]; omega
      · rw [upd_other _ _ _ _ e]; exact h.2.1
    · by_cases e : 1 = k
      · subst e; rw [upd_same]; omega
      · rw [upd_other _ _ _ _ e]; exact h.2.2.1
  have hg : W1.grownBy (W1.setCell ⟨gw, k, none⟩ (sptr y)) (some gw) := grown_setCell (World.grownBy.refl _ _) k _
  have hX : ∀ b, b < W1.heap.size → Free gw (upd g k y) ov wv b → some b ≠ some gw := fun b _ hb e => hb.1 (Option.some.inj e)
  have hyw : some y ≠ some gw := fun e => by cases e; omega
  refine ⟨⟨_, k1.set_ k _, hc.setS k hk y⟩, fun i hi => ?_, ?_, h1.old.kept hg (.inr (Ne.symm (own_neS h1.old k1 (by decide)))), h1.was.kept hg (.inr (Ne.symm (own_neS h1.was k1 (by decide)))), fun x hx => ?_, h.low, fun i hi => ?_, h1.bel.grown hg h1.bel.size fun j hj => by cases hj; exact h.low⟩
  · have hsl : Sl (W1.setCell ⟨gw, k, none⟩ (sptr y)) (Free gw (upd g k y) ov wv) (p i).A (p i).n (p i).c (p i).u.rest := (((h.cur i hi).sl.weak hF).step hb).grown hg hX
    by_cases e : i = k
    · subst e
      rw [upd_same, upd_same]
      exact ⟨hs.grownS hg hyw, hl, hsl⟩
    · rw [upd_other _ _ _ _ e, upd_other _ _ _ _ e]
      exact ⟨(h1.cur i hi).sh.grownS hg (fun e' => h1.gk i hi (Option.some.inj e').symm), (h.cur i hi).len, hsl⟩
  · rcases (by omega : k = 0 ∨ k = 1) with rfl | rfl
    · rw [upd_same, upd_other _ _ _ _ (by decide)]; omega
    · rw [upd_same, upd_other _ _ _ _ (by decide)]; omega
  · obtain ⟨hp, hf⟩ := h.past x hx
    have hf' := hF _ hp.sh.ltS hf
    exact ⟨((hp.weak hF).step hb).grown hg (fun e => hf.1 (Option.some.inj e)) hX, hf'⟩
  · by_cases e : i = k
    · subst e; rw [upd_same]; omega
    · rw [upd_other _ _ _ _ e]; exact h.lows i hi
theorem PlW.swapAside (h : PlW w gw g su p ov wv lo lu L W) (k : Nat) (hk : k < 2) {W1 : World} {y : Nat} (hb : Below W.heap.size W W1) (hy : W.heap.size ≤ y) (hs : Sh W1 y (p k).u) (hsu : su k = (p k).u) : PlW w gw (upd g k y) (upd su k (p k).u) p ov wv lo lu (L ++ [(g k, p k)]) (W1.setCell ⟨gw, k, none⟩ (sptr y)) := by
  have hp := h.cur k hk
  rw [hsu] at hp
  have h5 := h.swap k hk hb hy hs hp.len
  have hl0 := h.gl 0 (by decide)
  have hl1 := h.gl 1 (by decide)
  have hlk := h.gl k hk
  have h1 := h.step hb
  obtain ⟨cs, k1, hc⟩ := h1.blk
  obtain ⟨cs', kk⟩ := (h1.cur k hk).sh.blkS
  have hF : ∀ b, b < W.heap.size → b ≠ gw → (∀ i, i < 2 → i ≠ k → b ≠ g i) → some b ≠ ov.ownBlock → some b ≠ wv.ownBlock → Free gw (upd g k y) ov wv b := fun b hb h1 h2 h3 h4 => by
    refine ⟨h1, ?_, ?_, h3, h4⟩
    · by_cases e : 0 = k
      · subst e; rw [upd_same]; omega
      · rw [upd_other _ _ _ _ e]; exact h2 0 (by decide) e
    · by_cases e : 1 = k
      · subst e; rw [upd_same]; omega
      · rw [upd_other _ _ _ _ e]; exact h2 1 (by decide) e
  have hg : W1.grownBy (W1.setCell ⟨gw, k, none⟩ (sptr y)) (some gw) := grown_setCell (World.grownBy.refl _ _) k _
  refine ⟨h5.blk, h5.cur, h5.ne, h5.old, h5.was, fun x hx => ?_, h5.low, h5.lows, h5.bel⟩
  rcases List.mem_append.1 hx with hx | hx
  · exact h5.past x hx
  · obtain rfl := List.mem_singleton.1 hx
    refine ⟨⟨(hp.sh.stepS hb).grownS hg (fun e => h.gk k hk (Option.some.inj e).symm), hp.len, ?_⟩, ?_⟩
    · refine Sl.grown (row := some gw) ((hp.sl.weak (fun b hb hf => hF b hb hf.1 (fun i hi _ => hf.ne i hi) hf.2.2.2.1 hf.2.2.2.2)).step hb) hg fun b _ hb e => hb.1 (Option.some.inj e)
    · exact hF _ hlk (Ne.symm (h.gk k hk)) (fun i hi hne => Ne.symm (h.other k i hk hi hne)) (own_neS h1.old kk (by decide)) (own_neS h1.was kk (by decide))
/-- what was current is past -/
theorem PlW.putAside (h : PlW w gw g su p ov wv lo lu L W) {x : Nat × UndD} (hp : Pair W (Free gw g ov wv) x.1 x.2.u x.2) (hf : Free gw g ov wv x.1) : PlW w gw g su p ov wv lo lu (L ++ [x]) W :=
  ⟨h.blk, h.cur, h.ne, h.old, h.was, fun y hy => by
    rcases List.mem_append.1 hy with hy | hy
    · exact h.past y hy
    · obtain rfl := List.mem_singleton.1 hy
      exact ⟨hp, hf⟩, h.low, h.lows, h.bel⟩
theorem infoPS : (Try.prog.info? 38).map (fun i => (i.zero, i.size, i.bytes)) = some (some (.pointer none), 1, 8) := by kernel_rfl
theorem infoUD : (Try.prog.info? 77).map (fun i => (i.zero, i.size, i.bytes)) = some (some (Value.agg ((List.replicate 8 (0 : UInt32)).map U ++ [Value.int .i64 0, Value.slice none 0 0]).toArray), 10, 64) := by kernel_rfl
/-- one more behind those put aside: the sum -/
theorem PlW.appO (h : PlW w gw g su p ov wv lo lu L W) (x : Nat) (hn : lo.length ≤ 100) :
    ∃ v' W', (Builtin.append_ #[79, 79] 79 #[ov, .slice (some ⟨W.heap.size, 0, none⟩) 1 1]).run Try.prog (W.alloc (.cells #[sptr x] 38)) = .ok v' W' ∧ v'.oneCell' = true ∧
      W'.cell? ⟨gw, 22, none⟩ = some ov ∧ W'.frozen? ⟨gw, 22, none⟩ = false ∧ W.grownBy W' ov.ownBlock ∧ PlW w gw g su p v' wv (lo ++ [x]) lu L (W'.setCell ⟨gw, 22, none⟩ v') := by
  have hba : Below W.heap.size W (W.alloc (.cells #[sptr x] 38)) := (Below.refl _ _).alloc (Nat.le_refl _) _
  have h1 := h.step hba
  obtain ⟨v', W', hr, ho, hg, hv⟩ := append_slv (ty := 79) Try.underlying79 infoPS rfl (by decide) h1.old (SlV.lit (s := 1) (n := 1) W (fun _ => True) 38 [sptr x] rfl (by decide) trivial) (by simp [Value.oneCell', sptr]) (by unfold maxLen; omega) (by omega) h1.bel.size
  obtain ⟨cs, k1, hc⟩ := h1.blk
  have hgw := own_neS h1.old k1 (by decide)
  have k2 := k1.grown hg hgw
  have hv1 : v'.oneCell' = true := by
    rcases ho.2 with ⟨rfl, _⟩ | ⟨_, _, _, rfl, _⟩ <;> rfl
  have hf : ∀ b, b < W.heap.size → Free gw g ov wv b → Free gw g v' wv b := fun b hb h => by
    refine ⟨h.1, h.2.1, h.2.2.1, ?_, h.2.2.2.2⟩
    rcases hv with hv | ⟨j, hv, hj⟩
    · rw [hv]; exact h.2.2.2.1
    · rw [hv]; intro e; cases e; have := hba.size; omega
  have hg0 : W.grownBy W' ov.ownBlock := (grown_of_below hba ov.ownBlock).trans hg
  have hg2 : W'.grownBy (W'.setCell ⟨gw, 22, none⟩ v') (some gw) := grown_setCell (World.grownBy.refl _ _) 22 _
  have hlt : ∀ b, b < W.heap.size → b < W'.heap.size := fun b hb => Nat.lt_of_lt_of_le hb hg0.size
  have hsh : ∀ g' u, Sh W g' u → gw ≠ g' → Sh (W'.setCell ⟨gw, 22, none⟩ v') g' u := fun g' u hs hne => by
    obtain ⟨cs', kk⟩ := (hs.stepS hba).blkS
    exact ((hs.stepS hba).grownS hg (own_neS h1.old kk (by decide))).grownS hg2 (fun e => hne (Option.some.inj e).symm)
  have hsl : ∀ {A : Option Addr} {n c : Nat} {l : List UInt8}, Sl W (Free gw g ov wv) A n c l → Sl (W'.setCell ⟨gw, 22, none⟩ v') (Free gw g v' wv) A n c l := fun hs => by
    refine Sl.grown (row := some gw) ?_ hg2 fun b _ hb e => hb.1 (Option.some.inj e)
    exact ((hs.weak (Y := fun b => Free gw g v' wv b ∧ some b ≠ ov.ownBlock) fun b hb hf' => ⟨hf b hb hf', hf'.2.2.2.1⟩).grown hg0 fun b _ hb => hb.2).weak fun b _ hb => hb.1
  have hwo : wv.ownBlock = none ∨ wv.ownBlock ≠ ov.ownBlock := by
    cases hwb : wv.ownBlock with
    | none => exact .inl rfl
    | some j => exact .inr (own_neO h1.old h1.was (by decide) j hwb)
  refine ⟨v', W', hr, hv1, by rw [k2.cell]; exact hc.o, k2.frozen 22, hg0, ⟨⟨_, k2.set_ 22 v', hc.setO v'⟩, fun i hi => ⟨hsh _ _ (h.cur i hi).sh (h.gk i hi), (h.cur i hi).len, hsl (h.cur i hi).sl⟩, h.ne, ?_, ?_, fun x hx => ⟨⟨hsh _ _ (h.past x hx).1.sh (Ne.symm (h.past x hx).2.1), (h.past x hx).1.len, hsl (h.past x hx).1.sl⟩, hf _ (h.past x hx).1.sh.ltS (h.past x hx).2⟩, h.low, h.lows, ?_⟩⟩
  · have ho' := ho.kept hg2 (.inr (Ne.symm (own_neS ho k2 (by decide))))
    rw [List.length_append]
    unfold pastS at ho' ⊢
    rw [List.map_append]
    exact ho'
  · exact (h1.was.kept hg hwo).kept hg2 (.inr (Ne.symm (own_neS h1.was k1 (by decide))))
  · exact (h.bel.grown hg0 h.bel.size fun j hj => (h.old.lt j hj).1).grown hg2 (Nat.le_trans h.bel.size hg0.size) fun j hj => by cases hj; exact h.low
/-- one more behind those put aside: the document's -/
theorem PlW.appU (h : PlW w gw g su p ov wv lo lu L W) (x : UndD) (hn : lu.length ≤ 100) :
    ∃ v' W', (Builtin.append_ #[80, 80] 80 #[wv, .slice (some ⟨W.heap.size, 0, none⟩) 1 1]).run Try.prog (W.alloc (.cells x.cells.toArray 77)) = .ok v' W' ∧ v'.oneCell' = true ∧
      W'.cell? ⟨gw, 23, none⟩ = some wv ∧ W'.frozen? ⟨gw, 23, none⟩ = false ∧ W.grownBy W' wv.ownBlock ∧ PlW w gw g su p ov v' lo (lu ++ [x]) L (W'.setCell ⟨gw, 23, none⟩ v') := by
  have hba : Below W.heap.size W (W.alloc (.cells x.cells.toArray 77)) := (Below.refl _ _).alloc (Nat.le_refl _) _
  have h1 := h.step hba
  obtain ⟨v', W', hr, ho, hg, hv⟩ := append_slv (ty := 80) Try.underlying80 infoUD rfl (by decide) h1.was (SlV.lit (s := 10) (n := 1) W (fun _ => True) 77 x.cells x.len (by decide) trivial) x.one (by unfold maxLen; omega) (by omega) h1.bel.size
  obtain ⟨cs, k1, hc⟩ := h1.blk
  have hgw := own_neS h1.was k1 (by decide)
  have k2 := k1.grown hg hgw
  have hv1 : v'.oneCell' = true := by
    rcases ho.2 with ⟨rfl, _⟩ | ⟨_, _, _, rfl, _⟩ <;> rfl
  have hf : ∀ b, b < W.heap.size → Free gw g ov wv b → Free gw g ov v' b := fun b hb h => by
    refine ⟨h.1, h.2.1, h.2.2.1, h.2.2.2.1, ?_⟩
    rcases hv with hv | ⟨j, hv, hj⟩
    · rw [hv]; exact h.2.2.2.2
    · rw [hv]; intro e; cases e; have := hba.size; omega
  have hg0 : W.grownBy W' wv.ownBlock := (grown_of_below hba wv.ownBlock).trans hg
  have hg2 : W'.grownBy (W'.setCell ⟨gw, 23, none⟩ v') (some gw) := grown_setCell (World.grownBy.refl _ _) 23 _
  have hlt : ∀ b, b < W.heap.size → b < W'.heap.size := fun b hb => Nat.lt_of_lt_of_le hb hg0.size
  have hsh : ∀ g' u, Sh W g' u → gw ≠ g' → Sh (W'.setCell ⟨gw, 23, none⟩ v') g' u := fun g' u hs hne => by
    obtain ⟨cs', kk⟩ := (hs.stepS hba).blkS
    exact ((hs.stepS hba).grownS hg (own_neS h1.was kk (by decide))).grownS hg2 (fun e => hne (Option.some.inj e).symm)
  have hsl : ∀ {A : Option Addr} {n c : Nat} {l : List UInt8}, Sl W (Free gw g ov wv) A n c l → Sl (W'.setCell ⟨gw, 23, none⟩ v') (Free gw g ov v') A n c l := fun hs => by
    refine Sl.grown (row := some gw) ?_ hg2 fun b _ hb e => hb.1 (Option.some.inj e)
    exact ((hs.weak (Y := fun b => Free gw g ov v' b ∧ some b ≠ wv.ownBlock) fun b hb hf' => ⟨hf b hb hf', hf'.2.2.2.2⟩).grown hg0 fun b _ hb => hb.2).weak fun b _ hb => hb.1
  have hwo : ov.ownBlock = none ∨ ov.ownBlock ≠ wv.ownBlock := by
    cases hwb : ov.ownBlock with
    | none => exact .inl rfl
    | some j => exact .inr (own_neO h1.was h1.old (by decide) j hwb)
  refine ⟨v', W', hr, hv1, by rw [k2.cell]; exact hc.w, k2.frozen 23, hg0, ⟨⟨_, k2.set_ 23 v', hc.setW v'⟩, fun i hi => ⟨hsh _ _ (h.cur i hi).sh (h.gk i hi), (h.cur i hi).len, hsl (h.cur i hi).sl⟩, h.ne, ?_, ?_, fun x hx => ⟨⟨hsh _ _ (h.past x hx).1.sh (Ne.symm (h.past x hx).2.1), (h.past x hx).1.len, hsl (h.past x hx).1.sl⟩, hf _ (h.past x hx).1.sh.ltS (h.past x hx).2⟩, h.low, h.lows, ?_⟩⟩
  · exact (h1.old.kept hg hwo).kept hg2 (.inr (Ne.symm (own_neS h1.old k1 (by decide))))
  · have ho' := ho.kept hg2 (.inr (Ne.symm (own_neS ho k2 (by decide))))
    rw [List.length_append]
    unfold pastU at ho' ⊢
    rw [List.flatMap_append, List.flatMap_cons, List.flatMap_nil, List.append_nil]
    exact ho'
  · exact (h.bel.grown hg0 h.bel.size fun j hj => (h.was.lt j hj).1).grown hg2 (Nat.le_trans h.bel.size hg0.size) fun j hj => by cases hj; exact h.low
end
end Go.Proofs.Ytdkgndjomkbbjaa
/- (*sha.Sha).Copy. -/
namespace Go.Proofs.Ytdkgndjomkbbjaa
open Go.RowKit


set_option maxHeartbeats 1000000 in
set_option maxRecDepth 100000 in
theorem copy_any (g : Nat) (u : Und) (w : World) (h : Sh w g u) :
    Calls Try.prog 68 #[.pointer (some ⟨g, 0, none⟩)] w fun e w' => ∃ g', e = .returned (.pointer (some ⟨g', 0, none⟩)) ∧ w.heap.size ≤ g' ∧ Sh w' g' u ∧ Below w.heap.size w w' := by
  obtain ⟨bk, hs⟩ := h
  obtain ⟨cs, hcs⟩ : ∃ cs, (shaCells u.st.list bk u.len).toArray = cs := ⟨_, rfl⟩
  have hc74 : cs.size = 74 := by rw [← hcs]; exact hs.size
  have hone : ∀ v ∈ cs.toList, v.oneCell' = true := by
    rw [← hcs]
    intro v hv
    simp only [shaCells, List.mem_append, List.mem_map, List.mem_cons, List.not_mem_nil, or_false] at hv
    rcases hv with ⟨a, -, rfl⟩ | ⟨a, -, rfl⟩ | rfl | rfl <;> rfl
  have hk : Blk w g 41 cs := by rw [← hcs]; exact hs.blk
  obtain ⟨zs, hzs⟩ : ∃ zs : Array Value, zeroSha = zs := ⟨_, rfl⟩
  have hz74 : zs.size = 74 := by rw [← hzs]; exact zeroSha_size
  have kz : Blk (w.alloc (.cells zs 41)) w.heap.size 41 zs := Blk.new _ _ _
  have Hcs := Lib.hid hcs
  have Hc74 := Lib.hid hc74
  have Hone := Lib.hid hone
  have Hzs := Lib.hid hzs
  have Hz74 := Lib.hid hz74
  clear hcs hc74 hone hzs hz74
  go_enter Try.func68, Try.ntmps68
  go_wp2_with (first
    | (go_at_call 70; refine (none_any hs).mono ?_; rintro e w' ⟨rfl, rfl⟩)
    | ((with_reducible show wpList _ _ _ (⟨some 8, .load _ _, _, _, _, _⟩ :: _) _ _); refine wpList_load rfl 41 (.tmp 7) rfl g 0 rfl cs (run_load_blk (agg41 _) (size41 _) _ _ Hc74.out hk) ?_; simp only [Act.put])
    | ((with_reducible show wpList _ _ _ (⟨some 3, .alloc _, _, _, _, _⟩ :: _) _ _); refine wpList_run rfl (.pointer (some ⟨w.heap.size, 0, none⟩)) (w.alloc (.cells zs 41)) (by rw [← Hzs.out]; kernel_rfl) ?_; simp only [Act.put])
    | ((with_reducible show wpList _ _ _ (⟨none, .store _ _ _, _, _, _, _⟩ :: _) _ _); refine wpList_store_blk rfl 41 (.tmp 3) (.tmp 8) rfl 74 size41 w.heap.size cs rfl rfl Hc74.out Hone.out 41 _ kz Hz74.out ?_; simp only [Act.put]))
  go_ret
  refine ⟨w.heap.size, rfl, Nat.le_refl _, ⟨bk, ?_, hs.len, hs.ok, hs.pre, hs.lt⟩, below_setRow ((Below.refl _ _).alloc (Nat.le_refl _) _) (Nat.le_refl _) _⟩
  rw [Hcs.out]
  exact kz.setRow_ _
end Go.Proofs.Ytdkgndjomkbbjaa
