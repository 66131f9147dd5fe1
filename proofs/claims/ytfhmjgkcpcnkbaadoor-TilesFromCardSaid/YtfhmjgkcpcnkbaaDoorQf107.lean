/- A slice of bytes that is read: parts of it, behind steps. -/
import Derived.Test.YtfhmjgkcpcnkbaaDoorQf106
import Derived.Deep.DeepCutAuto
import Derived.Test.YtfhmjgkcpcnkbaaDoorQf101
import Derived.Deep.Slices
import Derived.DataReads
namespace Go.Proofs.YtfhmjgkcpcnkbaaDoor
open Go.RowKit

/-- what a call hands back: bytes in a row of its own -/
def Fresh (w w' : World) (v : Value) (l : List UInt8) : Prop := w'.ownsRow w.heap.size 5 1 v l.length (l.map B) ∧ Below w.heap.size w w'

theorem info23 : (Tryd.prog.info? 104).map (fun i => (i.zero, i.size, i.bytes)) = some (some (.slice none 0 0), 1, 24) := by kernel_rfl
theorem info5 : (Tryd.prog.info? 5).map (fun i => (i.zero, i.size, i.bytes)) = some (some (.int .u8 0), 1, 1) := by kernel_rfl

section
variable {w w' : World} {X Y : Nat → Prop} {A : Option Addr} {n c : Nat} {l : List UInt8}
theorem Sl.weak (h : Sl w X A n c l) (hX : ∀ b, b < w.heap.size → X b → Y b) : Sl w Y A n c l := ⟨h.bs.weak hX, h.len, h.room, h.none, h.max⟩
theorem Sl.all (h : Sl w X A n c l) : Sl w (fun _ => True) A n c l := h.weak fun _ _ _ => trivial
theorem Sl.below {N : Nat} (h : Sl w X A n c l) (hb : Below N w w') (hX : ∀ b, b < w.heap.size → X b → b < N) : Sl w' X A n c l := ⟨h.bs.below hb hX, h.len, h.room, h.none, h.max⟩
/-- behind a step that leaves all that was there -/
theorem Sl.step (h : Sl w X A n c l) (hb : Below w.heap.size w w') : Sl w' X A n c l := h.below hb fun _ hb _ => hb
theorem Sl.alloc (h : Sl w X A n c l) (o : Obj) : Sl (w.alloc o) X A n c l := ⟨h.bs.alloc o, h.len, h.room, h.none, h.max⟩
theorem Sl.drewN (h : Sl w X A n c l) (k : Nat) : Sl (w.drewN k) X A n c l := ⟨h.bs.drewN k, h.len, h.room, h.none, h.max⟩
theorem Sl.drew (h : Sl w X A n c l) : Sl w.drew X A n c l := ⟨h.bs.drew, h.len, h.room, h.none, h.max⟩
theorem Sl.grown {row : Option Nat} (h : Sl w X A n c l) (hg : w.grownBy w' row) (hX : ∀ b, b < w.heap.size → X b → some b ≠ row) : Sl w' X A n c l := ⟨h.bs.grown hg hX, h.len, h.room, h.none, h.max⟩
theorem Sl.setRow (g : Nat) (cs : Array Value) (h : Sl w (· ≠ g) A n c l) : Sl (w.setRow g cs) (· ≠ g) A n c l := ⟨h.bs.setRow_ cs, h.len, h.room, h.none, h.max⟩
theorem Sl.setCell (h : Sl w X A n c l) {p : Addr} (u : Value) (hX : ¬ X p.block) : Sl (w.setCell p u) X A n c l := ⟨h.bs.setCell u hX, h.len, h.room, h.none, h.max⟩
theorem Sl.drop (h : Sl w X A n c l) (k : Nat) (hk : k ≤ n) : Sl w X (if c = k then A else A.map (·.add (k * 1))) (n - k) (c - k) (l.drop k) := by
  refine ⟨?_, by rw [List.length_drop, h.len], by have := h.room; omega, fun hA => ?_, by have := h.max; omega⟩
  · have := h.bs.drop (c := c) (k := k) (s := 1) (by rw [List.length_map, h.len]; have := h.room; omega)
    rw [Nat.mul_one] at this ⊢
    rw [List.map_drop]
    exact this
  · by_cases hc : c = k
    · subst hc
      rw [if_pos rfl] at hA
      have := h.none hA
      omega
    · rw [if_neg hc] at hA
      cases A with
      | none => have := h.none rfl; omega
      | some a => cases hA
theorem Sl.take (h : Sl w X A n c l) (k : Nat) (hk : k ≤ n) : Sl w X A k c (l.take k) := by
  refine ⟨?_, by rw [List.length_take, h.len]; omega, by have := h.room; omega, fun hA => ?_, h.max⟩
  · rw [List.map_take]; exact h.bs.take
  · have := h.none hA; omega
theorem Sl.cells (h : Sl w X A n c l) (hn : 0 < n) : ∃ b o, A = some ⟨b, o, .none⟩ ∧ b < w.heap.size ∧ X b ∧ ∀ j, j < n → w.cell? ⟨b, o + j, .none⟩ = some (B (l.getD j 0)) := by
  obtain ⟨b, o, h1, h2, h3, h4⟩ := h.bs.at_ (by rw [List.length_map, h.len]; exact hn)
  refine ⟨b, o, h1, h2, h3, fun j hj => h4 j _ ?_⟩
  have hj' : j < l.length := by rw [h.len]; exact hj
  rw [List.getElem?_map, List.getElem?_eq_getElem hj', Option.map_some, List.getD_eq_getElem?_getD, List.getElem?_eq_getElem hj', Option.getD_some]
theorem Sl.nil : Sl w X .none 0 0 [] := ⟨Bs.nil, rfl, Nat.le_refl _, fun _ => ⟨rfl, rfl⟩, Nat.zero_le _⟩
/-- what 'append' has made is read -/
theorem owns_sl {base : Nat} {v : Value} (h : w.ownsRow base 5 1 v l.length (l.map B)) : ∃ A c, v = .slice A l.length c ∧ Sl w (base ≤ ·) A l.length c l := by
  rcases h.2 with ⟨hv, h0⟩ | ⟨g, cap, cur, hv, hg, hb, hnc, hcm, hcs, ht⟩
  · have := List.eq_nil_of_length_eq_zero h0
    subst this
    exact ⟨none, 0, hv, Sl.nil⟩
  · refine ⟨_, cap, hv, fun _ => ⟨g, 0, rfl, ?_, hg, fun j u hu => ?_⟩, rfl, hnc, by simp, hcm⟩
    · exact (show Blk w g _ cur from hb).lt
    · rw [Nat.zero_add, (show Blk w g _ cur from hb).cell, ← Array.getElem?_toList]
      rw [Nat.mul_one] at ht
      rw [← ht] at hu
      rw [List.getElem?_take] at hu
      split at hu
      · exact hu
      · cases hu
theorem Fresh.sl {v : Value} (h : Fresh w w' v l) : ∃ A c, v = .slice A l.length c ∧ Sl w' (w.heap.size ≤ ·) A l.length c l := owns_sl h.1
end
theorem Sl.v {w : World} {X : Nat → Prop} {A : Option Addr} {n c : Nat} {l : List UInt8} (h : Sl w X A n c l) : SlV w X A n c 1 (l.map B) := ⟨h.bs, by rw [List.length_map, h.len, Nat.mul_one], h.room, h.none, h.max⟩

/-- slices of bytes, in a slice -/
structure SlS (w : World) (A : Option Addr) (n c : Nat) (vs : List Value) (ls : List (List UInt8)) : Prop where
  out : SlV w (· < w.heap.size) A n c 1 vs
  len : ls.length = n
  ins : ∀ i (h : i < ls.length), ∃ Ai ci, vs[i]? = some (.slice Ai (ls[i]).length ci) ∧ Sl w (· < w.heap.size) Ai (ls[i]).length ci ls[i]

end Go.Proofs.YtfhmjgkcpcnkbaaDoor
/- A law's arguments that are slices, opened, with the bulk that they take. -/
namespace Go.Proofs.YtfhmjgkcpcnkbaaDoor
open Go.RowKit Go.WideShapes Go.ChangeShapes Go.ChangeAt Go.Deep

theorem flat_get {s : Nat} : ∀ (L : List (List Value)) (_ : ∀ cs ∈ L, cs.length = s) (j : Nat) (v : Value), L.flatten[j]? = some v → ∃ i r, j = i * s + r ∧ r < s ∧ ∃ h : i < L.length, (L[i])[r]? = some v
  | [], _, j, v, h => by simp at h
  | c :: L, hL, j, v, h => by
    have hc : c.length = s := hL c (by simp)
    rw [List.flatten_cons] at h
    by_cases hj : j < s
    · rw [List.getElem?_append_left (by omega)] at h
      exact ⟨0, j, by omega, hj, by simp, by simpa using h⟩
    · rw [List.getElem?_append_right (by omega), hc] at h
      obtain ⟨i, r, h1, h2, h3, h4⟩ := flat_get L (fun cs hcs => hL cs (by simp [hcs])) (j - s) v h
      exact ⟨i + 1, r, by rw [Nat.add_mul]; omega, h2, by simpa using h3, by simpa using h4⟩
theorem flat_len {s : Nat} : ∀ (L : List (List Value)) (_ : ∀ cs ∈ L, cs.length = s), L.flatten.length = L.length * s
  | [], _ => by simp
  | c :: L, h => by rw [List.flatten_cons, List.length_append, flat_len L (fun cs hcs => h cs (by simp [hcs])), h c (by simp), List.length_cons, Nat.add_mul]; omega

theorem bulk_one {H : Type} (d : DataW H) : 1 ≤ Rows.uptoBulk d := by
  cases d with
  | lit l => cases l <;> simp [Rows.uptoBulk]
  | nil => simp [Rows.uptoBulk]
  | ptr d => simp [Rows.uptoBulk]
  | slice elems spare => simp [Rows.uptoBulk]
  | agg parts => simp [Rows.uptoBulk]
  | iface t d => simp [Rows.uptoBulk]
  | map entries => simp [Rows.uptoBulk]
  | held h => simp [Rows.uptoBulk]
theorem bulk_sum {H α : Type} (sz : α → Nat) : ∀ (ds : List (DataW H)) (xs : List α), xs.length = ds.length → (∀ (i : Nat) (a : α) (d : DataW H), xs[i]? = some a → ds[i]? = some d → sz a + 1 ≤ Rows.uptoBulk d) → (xs.map sz).sum + xs.length ≤ Rows.uptoBulkAll ds
  | [], [], _, _ => by simp [Rows.uptoBulkAll]
  | [], _ :: _, h, _ => by simp at h
  | _ :: _, [], h, _ => by simp at h
  | d :: ds, a :: xs, h, hi => by
    have h1 := hi 0 a d rfl rfl
    have h2 := bulk_sum sz ds xs (by simpa using h) (fun (i : Nat) a d ha hd => hi (i + 1) a d (by simpa using ha) (by simpa using hd))
    simp only [Rows.uptoBulkAll, List.map_cons, List.sum_cons, List.length_cons]
    omega

section
variable {H : Type} {enc : TypeId × Value → H} {P : Program} {W : World} {base : Nat} {held : Bool}
theorem open_slR {α : Type} (R : α → List Value → Prop) (sz : α → Nat) {t e : TypeId} {s fuel : Nat} {cs : List Value} {x : DataW H × List MemPlace} (ht : P.underlying t = some (.slice e)) (hc : P.cellsOf e = s) (hs : 0 < s)
    (hdec : ∀ fuel cs y, DataW.trod enc P W 0 (fun _ => true) held fuel e cs = some y → cs.length = s → ∃ a, R a cs ∧ sz a + 1 ≤ Rows.uptoBulk y.1)
    (h : DataW.trod enc P W 0 (fun _ => true) held fuel t cs = some x) :
    ∃ (A : Option Addr) (n c : Nat) (L : List (List Value)) (xs : List α), cs = [Value.slice A n c] ∧ SlV W (· < W.heap.size) A n c s L.flatten ∧ L.length = n ∧ xs.length = n ∧ (∀ cs ∈ L, cs.length = s) ∧ (∀ (i : Nat) (a : α) (cs : List Value), xs[i]? = some a → L[i]? = some cs → R a cs) ∧ (xs.map sz).sum + n + 1 ≤ Rows.uptoBulk x.1 := by
  rcases open_slice ht h with ⟨rfl, rfl⟩ | ⟨a, n, c, m, f, D, Pl, rfl, _, hl, hm, hmm, rfl, hx⟩
  · exact ⟨none, 0, 0, [], [], rfl, SlV.empty, rfl, rfl, by simp, by simp, by simp [Rows.uptoBulk]⟩
  · simp only [if_true] at hmm
    subst hmm
    obtain ⟨CS, hCS⟩ := choose_lt (α := List Value) hx
    obtain ⟨X, hX⟩ := choose_lt (α := Option α) (p := fun i o => ∃ a, o = some a ∧ R a (CS i) ∧ sz a + 1 ≤ Rows.uptoBulk (D i)) (n := m) fun i hi => by
      obtain ⟨_, hlen, _⟩ := World.cells?_some (hCS i hi).1
      obtain ⟨a, h1, h2⟩ := hdec f (CS i) _ (hCS i hi).2 (by rw [hlen, hc])
      exact ⟨some a, a, rfl, h1, h2⟩
    obtain ⟨xs, hxl, hxs⟩ : ∃ xs : List α, xs.length = n ∧ ∀ i, i < n → ∃ a, xs[i]? = some a ∧ R a (CS i) ∧ sz a + 1 ≤ Rows.uptoBulk (D i) := by
      have : ∀ k, k ≤ n → ∃ xs : List α, xs.length = k ∧ ∀ i, i < k → ∃ a, xs[i]? = some a ∧ R a (CS i) ∧ sz a + 1 ≤ Rows.uptoBulk (D i) := by
        intro k
        induction k with
        | zero => exact fun _ => ⟨[], rfl, fun i hi => by omega⟩
        | succ k ih =>
          intro hk
          obtain ⟨xs, h1, h2⟩ := ih (by omega)
          obtain ⟨a, _, h3⟩ := hX k (by omega)
          refine ⟨xs ++ [a], by simp [h1], fun i hi => ?_⟩
          by_cases hik : i < k
          · obtain ⟨b, h4, h5⟩ := h2 i hik
            exact ⟨b, by rw [List.getElem?_append_left (by omega)]; exact h4, h5⟩
          · obtain rfl : i = k := by omega
            exact ⟨a, by rw [List.getElem?_append_right (by omega), h1, Nat.sub_self]; rfl, h3⟩
      exact this n (Nat.le_refl _)
    have hLs : ∀ cs ∈ (List.range n).map CS, cs.length = s := fun cs hcs => by
      obtain ⟨i, hi, rfl⟩ := List.mem_map.1 hcs
      obtain ⟨_, hlen, _⟩ := World.cells?_some (hCS i (by have := List.mem_range.1 hi; omega)).1
      rw [hlen, hc]
    have hcell : ∀ i r v, i < n → (CS i)[r]? = some v → W.cell? (a.add (i * s + r)) = some v := fun i r v hi hv => by
      obtain ⟨_, hlen, hg⟩ := World.cells?_some (hCS i (by omega)).1
      have hr : r < P.cellsOf e := by have := (List.getElem?_eq_some_iff.1 hv).1; omega
      have := hg r hr
      rw [hv, hc] at this
      rw [Addr.add_add] at this
      exact this
    refine ⟨some a, n, m, (List.range n).map CS, xs, rfl, ⟨fun hne => ?_, ?_, hl, by simp, hm⟩, by simp, hxl, hLs, fun i x cs hx' hcs => ?_, ?_⟩
    · have hpos : 0 < n := by
        rcases Nat.eq_zero_or_pos n with h0 | h0
        · subst h0; simp at hne
        · exact h0
      have h00 : ∃ v, (CS 0)[0]? = some v := by
        have := hLs (CS 0) (List.mem_map.2 ⟨0, by simpa using hpos, rfl⟩)
        exact ⟨(CS 0)[0], List.getElem?_eq_getElem (by omega)⟩
      obtain ⟨v0, hv0⟩ := h00
      have h0c := hcell 0 0 v0 hpos hv0
      obtain ⟨b, off, spot⟩ := a
      have hspot : spot = none := by simpa [Addr.add] using World.cell?_spot h0c
      subst hspot
      refine ⟨b, off, rfl, ?_, ?_, fun j v hv => ?_⟩
      · have := World.block_lt_of_cell? W _ h0c; rw [addr_add] at this; exact this
      · have := World.block_lt_of_cell? W _ h0c; rw [addr_add] at this; exact this
      · obtain ⟨i, r, rfl, _, hi, hv'⟩ := flat_get _ hLs j v hv
        have hi' : i < n := by simpa using hi
        have := hcell i r v hi' (by simpa using hv')
        rw [addr_add] at this
        exact this
    · rw [flat_len _ hLs]; simp
    · have hi : i < n := by have := (List.getElem?_eq_some_iff.1 hx').1; omega
      obtain ⟨b, h1, h2, _⟩ := hxs i hi
      rw [h1] at hx'
      cases hx'
      rw [List.getElem?_map, List.getElem?_range hi] at hcs
      cases hcs
      exact h2
    · have := bulk_sum sz ((List.range n).map D) xs (by simp [hxl]) fun i a d ha hd => by
        have hi : i < n := by have := (List.getElem?_eq_some_iff.1 ha).1; omega
        obtain ⟨b, h1, _, h2⟩ := hxs i hi
        rw [h1] at ha
        cases ha
        rw [List.getElem?_map, List.getElem?_range hi] at hd
        cases hd
        exact h2
      simp only [Rows.uptoBulk]
      omega
theorem map_of_each {α β : Type} (f : α → β) : ∀ (L : List β) (xs : List α), xs.length = L.length → (∀ (i : Nat) (a : α) (b : β), xs[i]? = some a → L[i]? = some b → b = f a) → L = xs.map f
  | [], [], _, _ => rfl
  | [], _ :: _, h, _ => by simp at h
  | _ :: _, [], h, _ => by simp at h
  | b :: L, a :: xs, h, hi => by
    rw [List.map_cons, hi 0 a b rfl rfl, ← map_of_each f L xs (by simpa using h) (fun i a b ha hb => hi (i + 1) a b (by simpa using ha) (by simpa using hb))]
theorem flatten_map_single {α β : Type} (f : α → β) (xs : List α) : (xs.map fun x => [f x]).flatten = xs.map f := by
  induction xs with
  | nil => rfl
  | cons x xs ih => rw [List.map_cons, List.flatten_cons, ih]; rfl
/-- bytes -/
theorem open_u8s {t e : TypeId} {fuel : Nat} {cs : List Value} {x : DataW H × List MemPlace} (ht : P.underlying t = some (.slice e)) (he : P.underlying e = some (.int .u8)) (hc : P.cellsOf e = 1)
    (h : DataW.trod enc P W 0 (fun _ => true) held fuel t cs = some x) : ∃ (A : Option Addr) (n c : Nat) (l : List UInt8), cs = [Value.slice A n c] ∧ Sl W (· < W.heap.size) A n c l ∧ n + 1 ≤ Rows.uptoBulk x.1 := by
  obtain ⟨A, n, c, L, xs, h1, h2, h3, h4, _, h6, h7⟩ := open_slR (fun (b : UInt8) cs => cs = [B b]) (fun _ => 0) ht hc (by decide) (fun fuel cs y hy _ => by
    obtain ⟨n, rfl, hy2, hwf⟩ := DataW.trod_int he hy
    have := bounds_u8 hwf
    exact ⟨UInt8.ofNat n.toNat, by simp [B, UInt8.toNat_ofNat']; omega, bulk_one _⟩) h
  have hL := map_of_each (fun b : UInt8 => [B b]) L xs (by omega) h6
  refine ⟨A, n, c, xs, h1, ⟨?_, h4, h2.room, h2.nil, h2.max⟩, by omega⟩
  have := h2.bs
  rw [hL, flatten_map_single] at this
  exact this
/-- slices of bytes -/
theorem open_u8ss {t e q : TypeId} {fuel : Nat} {cs : List Value} {x : DataW H × List MemPlace} (ht : P.underlying t = some (.slice e)) (he : P.underlying e = some (.slice q)) (hq : P.underlying q = some (.int .u8)) (ce : P.cellsOf e = 1) (cq : P.cellsOf q = 1)
    (h : DataW.trod enc P W 0 (fun _ => true) held fuel t cs = some x) : ∃ (A : Option Addr) (n c : Nat) (vs : List Value) (ls : List (List UInt8)), cs = [Value.slice A n c] ∧ SlS W A n c vs ls ∧ ls.flatten.length + n + 1 ≤ Rows.uptoBulk x.1 := by
  obtain ⟨A, n, c, L, xs, h1, h2, h3, h4, h5, h6, h7⟩ := open_slR (fun (l : List UInt8) cs => ∃ Ai ci, cs = [Value.slice Ai l.length ci] ∧ Sl W (· < W.heap.size) Ai l.length ci l) List.length ht ce (by decide) (fun fuel cs y hy _ => by
    obtain ⟨A, n, c, l, g1, g2, g3⟩ := open_u8s he hq cq hy
    have := g2.len
    subst this
    exact ⟨l, ⟨A, c, g1, g2⟩, g3⟩) h
  refine ⟨A, n, c, L.flatten, xs, h1, ⟨h2, h4, fun i hi => ?_⟩, by rw [List.length_flatten]; exact h7⟩
  have hiL : i < L.length := by omega
  obtain ⟨Ai, ci, g1, g2⟩ := h6 i xs[i] L[i] (List.getElem?_eq_getElem hi) (List.getElem?_eq_getElem hiL)
  refine ⟨Ai, ci, ?_, g2⟩
  have hL1 : ∀ (L : List (List Value)) (i : Nat) (v : Value), (∀ cs ∈ L, cs.length = 1) → L[i]? = some [v] → L.flatten[i]? = some v := by
    intro L
    induction L with
    | nil => intro i v _ h; simp at h
    | cons c L ih =>
      intro i v hl h
      obtain ⟨a, rfl⟩ := List.length_eq_one_iff.1 (hl c (by simp))
      cases i with
      | zero => simp at h ⊢; exact h
      | succ i => simp at h ⊢; exact ih i v (fun cs hcs => hl cs (by simp [hcs])) h
  exact hL1 L i _ h5 (by rw [List.getElem?_eq_getElem hiL, g1])
end
end Go.Proofs.YtfhmjgkcpcnkbaaDoor
/- A region that draws its order: what is left behind several orders, walked once. No program in sight. -/
namespace Go.Proofs.YtfhmjgkcpcnkbaaDoor
open Go

theorem wpAnyH_shared {T : Type} {P : Program} {ops : Array Oper} {Q : Exit → Act → World → Prop} {S : World → Prop} {f0 : Nat} {listed0 : Array Bool} {a : Act} {w : World} (f : Nat) (listed : Array Bool) (puts : T → List (Tmp × Value)) (ok : T → World → Prop)
    (htail : ∀ t W, ok t W → wpAnyH P .any ops Q S f listed ((puts t).foldl (fun a x => a.put (some x.1) x.2) a) W)
    (hhead : (∀ t W, ok t W → wpAnyH P .any ops Q S f listed ((puts t).foldl (fun a x => a.put (some x.1) x.2) a) W) → wpAnyH P .any ops Q S f0 listed0 a w) : wpAnyH P .any ops Q S f0 listed0 a w := hhead htail
/-- an operation that may make or write memory, whose run is known -/
theorem wpMix_run {P : Program} {ops : Array Oper} {Q : Exit → Act → World → Prop} {S : World → Prop} {R : Act → World → Prop} {o : Oper} {l : List (Oper × Bool)} {a : Act} {w : World} (hw : Region.wanted o (yielded ops a.tmps) = true) (v : Value) (w' : World)
    (hrun : (execOp a.eval o).run P w = .ok (.value v) w') (hS : S w') (h : wpMix P ops S Q R l (a.put o.dst v) w') : wpMix P ops S Q R ((o, false) :: l) a w := by
  refine ⟨?_⟩
  unfold wpMix0
  rw [if_pos hw]
  unfold Oper.wp
  rw [hrun]
  exact ⟨hS, h.out⟩
end Go.Proofs.YtfhmjgkcpcnkbaaDoor
/- notaryref03: words, eight: bytes in memory of their own. -/
namespace Go.Proofs.YtfhmjgkcpcnkbaaDoor
open Go.RowKit

theorem sl_lit (w : World) (l : List UInt8) (n : Nat) (hn : l.length = n) (hm : n ≤ maxLen) : Sl (w.alloc (.cells (l.map B).toArray 5)) (fun _ => True) (some ⟨w.heap.size, 0, none⟩) n n l :=
  ⟨Bs.new w _ _ _ trivial, hn, Nat.le_refl _, by simp, hm⟩

/-- what an append leaves: below the base nothing has turned -/
theorem below_append {a w w' : World} {b base : Nat} {v : Value} {e : TypeId} {n : Nat} {xs : List Value} (hb : Below b a w) (ho : w.ownsRow base e 1 v n xs) (hg : w.grownBy w' v.ownBlock) (hle : b ≤ base) (hbw : b ≤ w.heap.size) : Below b a w' :=
  hb.trans ⟨hg.os, hg.tape, hg.output, hg.size, fun k hk => hg.block k (by omega) (fun e => by have := (ho.lt k e.symm).1; omega)⟩
theorem blk_append {w w' : World} {base g : Nat} {v : Value} {e t : TypeId} {n : Nat} {xs : List Value} {cs : Array Value} (hb : Blk w g t cs) (ho : w.ownsRow base e 1 v n xs) (hg : w.grownBy w' v.ownBlock) (hlt : g < base) : Blk w' g t cs :=
  hb.grown hg (fun e => by have := (ho.lt g e.symm).1; omega)

theorem flat_take_succ (l : List UInt32) (k : Nat) (h : k < l.length) : (l.take (k + 1)).flatMap word4 = (l.take k).flatMap word4 ++ word4 (l.getD k 0) := by
  rw [List.take_succ_eq_append_getElem h, List.flatMap_append]
  simp [List.getD_eq_getElem?_getD, h]
theorem flat_take_len (l : List UInt32) (k : Nat) (h : k ≤ l.length) : ((l.take k).flatMap word4).length = 4 * k := by
  induction k with
  | zero => simp
  | succ k ih => rw [flat_take_succ l k (by omega), List.length_append, ih (by omega), length_word4]; omega

structure WdC (w : World) (st : List UInt32) (v : Value) (k : Nat) (W : World) : Prop where
  own : W.ownsRow (w.heap.size + 1) 5 1 v ((st.take k).flatMap word4).length (((st.take k).flatMap word4).map B)
  blk : Blk W w.heap.size 136 (st.map U).toArray
  bel : Below w.heap.size w W
  size : w.heap.size + 1 ≤ W.heap.size

set_option maxHeartbeats 1000000 in
set_option maxRecDepth 100000 in
theorem words_any (st : List UInt32) (w : World) (h8 : st.length = 8) :
    Calls Tryd.prog 96 #[.agg (st.map U).toArray] w fun e w' => ∃ v, e = .returned v ∧ Fresh w w' v (st.flatMap word4) := by
  have H8 := Lib.hid h8
  clear h8
  go_enter Tryd.func96, Tryd.ntmps96
  go_wp2_with fail
  go_loopw [3, 4] (fun v0 i wr => ∃ (v : Value) (k : Nat), v = v0 ∧ k ≤ 8 ∧ i = .int .i64 (k : Int) ∧ WdC w st v k wr) (fun _ i => fun _ => 8 - (intOf i).toNat)
  case atStart => exact ⟨_, 0, rfl, by omega, rfl, World.ownsRow_nil _ _ _ _, Blk.new _ _ _, (Below.refl _ _).alloc (Nat.le_refl _) _, by simp⟩
  case round =>
    obtain ⟨v, k, rfl, hk, rfl, hC⟩ := hrel
    by_cases hlt : k < 8
    · have hkl : k < st.length := by have := H8.out; omega
      obtain ⟨x, hx⟩ : ∃ x, st.getD k 0 = x := ⟨_, rfl⟩
      have cx : ∀ s : InC (fun W => Blk W w.heap.size 136 (st.map U).toArray), s.W.cell? ⟨w.heap.size, k, none⟩ = some (U x) := fun s => by rw [s.ok.cell, ← hx]; exact cellU st k hkl
      have hki : (k : Int) < 8 := by omega
      have hw4 : ((word4 x).map B).toArray = #[Value.int .u8 ((x.toNat : Int) / 16777216 % 256), Value.int .u8 ((x.toNat : Int) / 65536 % 256), Value.int .u8 ((x.toNat : Int) / 256 % 256), Value.int .u8 ((x.toNat : Int) % 256)] := by
        rw [byte24, byte16, byte8, byte0]; rfl
      have hdc : WdC w st v k wr.drew := ⟨hC.own, hC.blk.drew, hC.bel.drew, hC.size⟩
      have Hx := Lib.hid hx
      have Hw4 := Lib.hid hw4
      clear hx hC hw4
      go_wp2_with fail
      refine wp_region_mix (fun W => Blk W w.heap.size 136 (st.map U).toArray) [(0, true), (1, true), (2, true), (3, true), (4, true), (5, true), (6, true), (7, true), (8, true), (9, true), (10, true), (11, true), (12, true), (13, true), (14, true), (15, true), (16, true), (17, true), (18, true), (19, true), (20, false), (21, false), (22, true)] (by kernel_rfl) (by kernel_rfl) hdc.blk fun _ => ?_
      simp only [List.map_cons, List.map_nil, Array.getD_eq_getD_getElem?, List.getElem?_toArray, List.getElem?_cons_succ, List.getElem?_cons_zero, Option.getD_some]
      generalize wr.drew = W1 at hdc ⊢
      obtain ⟨v2, W2, hr2, ho2, hg2⟩ := append_sl (hdc.own.alloc (.cells ((word4 x).map B).toArray 5)) (sl_lit W1 (word4 x) 4 rfl (by decide)) (by rw [flat_take_len st k (by omega)]; omega) (by have := hdc.size; simp; omega)
      rw [Hw4.out] at hr2
      have Hr2 := Lib.hid hr2
      clear hr2
      iterate 20 (refine wpMix_s (fun K hK => ?_); go_simp; refine hK _ ?_; clear hK K)
      refine wpMix_c (fun K hK => ?_) hdc.blk
      go_simp
      refine hK _ _ ?_
      clear hK K
      refine ⟨hdc.blk.alloc _, ?_⟩
      have hs := hdc.size
      have ho1 := hdc.own.alloc (.cells ((word4 x).map B).toArray 5)
      have hb2 := blk_append (hdc.blk.alloc (.cells ((word4 x).map B).toArray 5)) ho1 hg2 (by omega)
      have hB2 := below_append (hdc.bel.alloc (by omega) (.cells ((word4 x).map B).toArray 5)) ho1 hg2 (by omega) (by simp; omega)
      have hs2 : w.heap.size + 1 ≤ W2.heap.size := by have := hg2.size; simp at this; omega
      refine wpMix_run (by kernel_rfl) v2 W2 (run_append_op (.tmp 9) (.tmp 29) 104 rfl _ _ rfl rfl Hr2.out) hb2 ?_
      simp only [Act.put]
      refine wpMix_s (fun K hK => ?_)
      go_simp
      refine hK _ ?_
      clear hK K
      refine wpMix_nil ?_
      intro _
      go_wp2
      go_roundw
      case rel =>
        refine ⟨_, k + 1, rfl, by omega, by go_num, ?_⟩
        refine ⟨?_, hb2, hB2, hs2⟩
        rw [flat_take_succ st k (by have := H8.out; omega), Hx.out]
        exact ho2
      case measure => simp [intOf]; omega
    · obtain rfl : k = 8 := by omega
      have ho := hC.own
      rw [List.take_of_length_le (by have := H8.out; omega)] at ho
      go_wp2_with fail
      go_ret
      exact ⟨_, rfl, owns_le ho (by omega), hC.bel⟩

end Go.Proofs.YtfhmjgkcpcnkbaaDoor
/- notaryref03.eight. -/
namespace Go.Proofs.YtfhmjgkcpcnkbaaDoor
open Go.RowKit

set_option maxHeartbeats 1000000 in
set_option maxRecDepth 100000 in
theorem eight_any (n : Nat) (w : World) (hn : n < 18446744073709551616) :
    Calls Tryd.prog 95 #[.int .u64 (n : Int)] w fun e w' => ∃ v, e = .returned v ∧ Fresh w w' v (num8 n) := by
  have hn' : (n : Int) < 18446744073709551616 := by omega
  clear hn
  go_enter Tryd.func95, Tryd.ntmps95
  go_wp2_with fail
  go_loopw [3, 4] (fun v0 i wr => ∃ (v : Value) (q : Nat), v = v0 ∧ q ≤ 8 ∧ i = .int .i64 (56 - 8 * (q : Int)) ∧ wr.ownsRow w.heap.size 5 1 v ((num8 n).take q).length (((num8 n).take q).map B) ∧ Below w.heap.size w wr) (fun _ i => fun _ => (intOf i + 8).toNat)
  case atStart => exact ⟨_, 0, rfl, by omega, rfl, World.ownsRow_nil _ _ _ _, Below.refl _ _⟩
  case round =>
    obtain ⟨v, q, rfl, hq, rfl, ho, hB⟩ := hrel
    by_cases hlq : q < 8
    · have e1 : (56 - 8 * (q : Int)).toNat = 56 - 8 * q := by omega
      have hs := hB.size
      have hnb := num_byte n q hlq
      have hsl : Sl (wr.alloc (.cells #[.int .u8 ((n : Int) / 2 ^ (56 - 8 * q) % (256 : Int))] 5)) (fun _ => True) (some ⟨wr.heap.size, 0, none⟩) 1 1 [UInt8.ofNat (n / 256 ^ (7 - q))] := by
        rw [hnb]; exact sl_lit wr [UInt8.ofNat (n / 256 ^ (7 - q))] 1 rfl (by decide)
      obtain ⟨v2, W2, hr2, ho2, hg2⟩ := append_sl (ho.alloc _) hsl (by rw [List.length_take, length_num8]; omega) (by simp; omega)
      rw [← take_num8 n q hlq] at ho2
      have hb2 := below_append (hB.alloc hs _) (ho.alloc _) hg2 (Nat.le_refl _) (by simp; omega)
      have Ho2 := Lib.hid ho2
      have Hb2 := Lib.hid hb2
      clear hsl ho hB hnb hg2 hs hn' ho2 hb2
      have Hr2 := Lib.hid hr2
      clear hr2
      go_wp2_with ((with_reducible show wpList _ _ _ (⟨some 15, .call _, _, _, _, _⟩ :: _) _ _); refine wpList_run rfl v2 W2 (run_append_op (.tmp 9) (.tmp 14) 104 rfl _ _ rfl rfl Hr2.out) ?_; simp only [Act.put])
      go_roundw
      case rel =>
        refine ⟨_, q + 1, rfl, by omega, ?_, Ho2.out, Hb2.out⟩
        refine congrArg _ ?_; omega
      case measure => simp [intOf]; omega
    · obtain rfl : q = 8 := by omega
      rw [List.take_of_length_le (by rw [length_num8]; omega)] at ho
      go_wp2_with fail
      go_ret
      exact ⟨_, rfl, ho, hB⟩
end Go.Proofs.YtfhmjgkcpcnkbaaDoor
