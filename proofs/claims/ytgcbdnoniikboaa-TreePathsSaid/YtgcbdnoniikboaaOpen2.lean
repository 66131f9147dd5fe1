/- A law's arguments that are slices, opened, with the bulk that they take. -/
import Derived.Test.YtgcbdnoniikboaaRow
import Derived.Test.YtgcbdnoniikboaaSl
import Derived.Deep.Slices
import Derived.DataReads
namespace Go.Proofs.Ytgcbdnoniikboaa
open Go.RowKit Go.WideShapes Go.ChangeShapes Go.ChangeAt Go.Deep

theorem flat_get {s : Nat} : ∀ (L : List (List Value)) (_ : ∀ cs ∈ L, cs.length = s) (j : Nat) (v : Value), L.flatten[j]? = some v → ∃ i r, j = i * s + r ∧ r < s ∧ ∃ h : i < L.length, (L[i])[r]? = some v
  | [], _, j, v, h => by simp at h
  | c :: L, hL, j, v, h => by
    have hc : c.length = s := hL c (by simp)
    rw [List.flatten_cons] at h
    by_cases hj : j < s
    · rw [List.getElem?_append_left (by omega)] at h
      exact ⟨0, j, by omega, hj, by simp, by simpa using h⟩
    · rw [List.getElem?_append_right (by omega), hc] at h
      obtain ⟨i, r, h1, h2, h3, h4⟩ := flat_get L (fun cs hcs => hL cs (by simp [hcs])) (j - s) v h
      exact ⟨i + 1, r, by rw [Nat.add_mul]; omega, h2, by simpa using h3, by simpa using h4⟩
theorem flat_len {s : Nat} : ∀ (L : List (List Value)) (_ : ∀ cs ∈ L, cs.length = s), L.flatten.length = L.length * s
  | [], _ => by simp
  | c :: L, h => by rw [List.flatten_cons, List.length_append, flat_len L (fun cs hcs => h cs (by simp [hcs])), h c (by simp), List.length_cons, Nat.add_mul]; omega

theorem bulk_one {H : Type} (d : DataW H) : 1 ≤ Rows.uptoBulk d := by
  cases d with
  | lit l => cases l <;> simp [Rows.uptoBulk]
  | nil => simp [Rows.uptoBulk]
  | ptr d => simp [Rows.uptoBulk]
  | slice elems spare => simp [Rows.uptoBulk]
  | agg parts => simp [Rows.uptoBulk]
  | iface t d => simp [Rows.uptoBulk]
  | map entries => simp [Rows.uptoBulk]
  | held h => simp [Rows.uptoBulk]
theorem bulk_sum {H α : Type} (sz : α → Nat) : ∀ (ds : List (DataW H)) (xs : List α), xs.length = ds.length → (∀ (i : Nat) (a : α) (d : DataW H), xs[i]? = some a → ds[i]? = some d → sz a + 1 ≤ Rows.uptoBulk d) → (xs.map sz).sum + xs.length ≤ Rows.uptoBulkAll ds
  | [], [], _, _ => by simp [Rows.uptoBulkAll]
  | [], _ :: _, h, _ => by simp at h
  | _ :: _, [], h, _ => by simp at h
  | d :: ds, a :: xs, h, hi => by
    have h1 := hi 0 a d rfl rfl
    have h2 := bulk_sum sz ds xs (by simpa using h) (fun (i : Nat) a d ha hd => hi (i + 1) a d (by simpa using ha) (by simpa using hd))
    simp only [Rows.uptoBulkAll, List.map_cons, List.sum_cons, List.length_cons]
    omega

section
variable {H : Type} {enc : TypeId × Value → H} {P : Program} {W : World} {base : Nat} {held : Bool}
theorem open_slR {α : Type} (R : α → List Value → Prop) (sz : α → Nat) {t e : TypeId} {s fuel : Nat} {cs : List Value} {x : DataW H × List MemPlace} (ht : P.underlying t = some (.slice e)) (hc : P.cellsOf e = s) (hs : 0 < s)
    (hdec : ∀ fuel cs y, DataW.trod enc P W 0 (fun _ => true) held fuel e cs = some y → cs.length = s → ∃ a, R a cs ∧ sz a + 1 ≤ Rows.uptoBulk y.1)
    (h : DataW.trod enc P W 0 (fun _ => true) held fuel t cs = some x) :
    ∃ (A : Option Addr) (n c : Nat) (L : List (List Value)) (xs : List α), cs = [Value.slice A n c] ∧ SlV W (· < W.heap.size) A n c s L.flatten ∧ L.length = n ∧ xs.length = n ∧ (∀ cs ∈ L, cs.length = s) ∧ (∀ (i : Nat) (a : α) (cs : List Value), xs[i]? = some a → L[i]? = some cs → R a cs) ∧ (xs.map sz).sum + n + 1 ≤ Rows.uptoBulk x.1 := by
  rcases open_slice ht h with ⟨rfl, rfl⟩ | ⟨a, n, c, m, f, D, Pl, rfl, _, hl, hm, hmm, rfl, hx⟩
  · exact ⟨none, 0, 0, [], [], rfl, SlV.empty, rfl, rfl, by simp, by simp, by simp [Rows.uptoBulk]⟩
  · simp only [if_true] at hmm
    subst hmm
    obtain ⟨CS, hCS⟩ := choose_lt (α := List Value) hx
    obtain ⟨X, hX⟩ := choose_lt (α := Option α) (p := fun i o => ∃ a, o = some a ∧ R a (CS i) ∧ sz a + 1 ≤ Rows.uptoBulk (D i)) (n := m) fun i hi => by
      obtain ⟨_, hlen, _⟩ := World.cells?_some (hCS i hi).1
      obtain ⟨a, h1, h2⟩ := hdec f (CS i) _ (hCS i hi).2 (by rw [hlen, hc])
      exact ⟨some a, a, rfl, h1, h2⟩
    obtain ⟨xs, hxl, hxs⟩ : ∃ xs : List α, xs.length = n ∧ ∀ i, i < n → ∃ a, xs[i]? = some a ∧ R a (CS i) ∧ sz a + 1 ≤ Rows.uptoBulk (D i) := by
      have : ∀ k, k ≤ n → ∃ xs : List α, xs.length = k ∧ ∀ i, i < k → ∃ a, xs[i]? = some a ∧ R a (CS i) ∧ sz a + 1 ≤ Rows.uptoBulk (D i) := by
        intro k
        induction k with
        | zero => exact fun _ => ⟨[], rfl, fun i hi => by omega⟩
        | succ k ih =>
          intro hk
          obtain ⟨xs, h1, h2⟩ := ih (by omega)
          obtain ⟨a, _, h3⟩ := hX k (by omega)
          refine ⟨xs ++ [a], by simp [h1], fun i hi => ?_⟩
          by_cases hik : i < k
          · obtain ⟨b, h4, h5⟩ := h2 i hik
            exact ⟨b, by rw [List.getElem?_append_left (by omega)]; exact h4, h5⟩
          · obtain rfl : i = k := by omega
            exact ⟨a, by rw [List.getElem?_append_right (by omega), h1, Nat.sub_self]; rfl, h3⟩
      exact this n (Nat.le_refl _)
    have hLs : ∀ cs ∈ (List.range n).map CS, cs.length = s := fun cs hcs => by
      obtain ⟨i, hi, rfl⟩ := List.mem_map.1 hcs
      obtain ⟨_, hlen, _⟩ := World.cells?_some (hCS i (by have := List.mem_range.1 hi; omega)).1
      rw [hlen, hc]
    have hcell : ∀ i r v, i < n → (CS i)[r]? = some v → W.cell? (a.add (i * s + r)) = some v := fun i r v hi hv => by
      obtain ⟨_, hlen, hg⟩ := World.cells?_some (hCS i (by omega)).1
      have hr : r < P.cellsOf e := by have := (List.getElem?_eq_some_iff.1 hv).1; omega
      have := hg r hr
      rw [hv, hc] at this
      rw [Addr.add_add] at this
      exact this
    refine ⟨some a, n, m, (List.range n).map CS, xs, rfl, ⟨fun hne => ?_, ?_, hl, by simp, hm⟩, by simp, hxl, hLs, fun i x cs hx' hcs => ?_, ?_⟩
    · have hpos : 0 < n := by
        rcases Nat.eq_zero_or_pos n with h0 | h0
        · subst h0; simp at hne
        · exact h0
      have h00 : ∃ v, (CS 0)[0]? = some v := by
        have := hLs (CS 0) (List.mem_map.2 ⟨0, by simpa using hpos, rfl⟩)
        exact ⟨(CS 0)[0], List.getElem?_eq_getElem (by omega)⟩
      obtain ⟨v0, hv0⟩ := h00
      have h0c := hcell 0 0 v0 hpos hv0
      obtain ⟨b, off, spot⟩ := a
      have hspot : spot = none := by simpa [Addr.add] using World.cell?_spot h0c
      subst hspot
      refine ⟨b, off, rfl, ?_, ?_, fun j v hv => ?_⟩
      · have := World.block_lt_of_cell? W _ h0c; rw [addr_add] at this; exact this
      · have := World.block_lt_of_cell? W _ h0c; rw [addr_add] at this; exact this
      · obtain ⟨i, r, rfl, _, hi, hv'⟩ := flat_get _ hLs j v hv
        have hi' : i < n := by simpa using hi
        have := hcell i r v hi' (by simpa using hv')
        rw [addr_add] at this
        exact this
    · rw [flat_len _ hLs]; simp
    · have hi : i < n := by have := (List.getElem?_eq_some_iff.1 hx').1; omega
      obtain ⟨b, h1, h2, _⟩ := hxs i hi
      rw [h1] at hx'
      cases hx'
      rw [List.getElem?_map, List.getElem?_range hi] at hcs
      cases hcs
      exact h2
    · have := bulk_sum sz ((List.range n).map D) xs (by simp [hxl]) fun i a d ha hd => by
        have hi : i < n := by have := (List.getElem?_eq_some_iff.1 ha).1; omega
        obtain ⟨b, h1, _, h2⟩ := hxs i hi
        rw [h1] at ha
        cases ha
        rw [List.getElem?_map, List.getElem?_range hi] at hd
        cases hd
        exact h2
      simp only [Rows.uptoBulk]
      omega
theorem map_of_each {α β : Type} (f : α → β) : ∀ (L : List β) (xs : List α), xs.length = L.length → (∀ (i : Nat) (a : α) (b : β), xs[i]? = some a → L[i]? = some b → b = f a) → L = xs.map f
  | [], [], _, _ => rfl
  | [], _ :: _, h, _ => by simp at h
  | _ :: _, [], h, _ => by simp at h
  | b :: L, a :: xs, h, hi => by
    rw [List.map_cons, hi 0 a b rfl rfl, ← map_of_each f L xs (by simpa using h) (fun i a b ha hb => hi (i + 1) a b (by simpa using ha) (by simpa using hb))]
theorem flatten_map_single {α β : Type} (f : α → β) (xs : List α) : (xs.map fun x => [f x]).flatten = xs.map f := by
  induction xs with
  | nil => rfl
  | cons x xs ih => rw [List.map_cons, List.flatten_cons, ih]; rfl
/-- bytes -/
theorem open_u8s {t e : TypeId} {fuel : Nat} {cs : List Value} {x : DataW H × List MemPlace} (ht : P.underlying t = some (.slice e)) (he : P.underlying e = some (.int .u8)) (hc : P.cellsOf e = 1)
    (h : DataW.trod enc P W 0 (fun _ => true) held fuel t cs = some x) : ∃ (A : Option Addr) (n c : Nat) (l : List UInt8), cs = [Value.slice A n c] ∧ Sl W (· < W.heap.size) A n c l ∧ n + 1 ≤ Rows.uptoBulk x.1 := by
  obtain ⟨A, n, c, L, xs, h1, h2, h3, h4, _, h6, h7⟩ := open_slR (fun (b : UInt8) cs => cs = [B b]) (fun _ => 0) ht hc (by decide) (fun fuel cs y hy _ => by
    obtain ⟨n, rfl, hy2, hwf⟩ := DataW.trod_int he hy
    have := bounds_u8 hwf
    exact ⟨UInt8.ofNat n.toNat, by simp [B, UInt8.toNat_ofNat']; omega, bulk_one _⟩) h
  have hL := map_of_each (fun b : UInt8 => [B b]) L xs (by omega) h6
  refine ⟨A, n, c, xs, h1, ⟨?_, h4, h2.room, h2.nil, h2.max⟩, by omega⟩
  have := h2.bs
  rw [hL, flatten_map_single] at this
  exact this
/-- slices of bytes -/
theorem open_u8ss {t e q : TypeId} {fuel : Nat} {cs : List Value} {x : DataW H × List MemPlace} (ht : P.underlying t = some (.slice e)) (he : P.underlying e = some (.slice q)) (hq : P.underlying q = some (.int .u8)) (ce : P.cellsOf e = 1) (cq : P.cellsOf q = 1)
    (h : DataW.trod enc P W 0 (fun _ => true) held fuel t cs = some x) : ∃ (A : Option Addr) (n c : Nat) (vs : List Value) (ls : List (List UInt8)), cs = [Value.slice A n c] ∧ SlS W A n c vs ls ∧ ls.flatten.length + n + 1 ≤ Rows.uptoBulk x.1 := by
  obtain ⟨A, n, c, L, xs, h1, h2, h3, h4, h5, h6, h7⟩ := open_slR (fun (l : List UInt8) cs => ∃ Ai ci, cs = [Value.slice Ai l.length ci] ∧ Sl W (· < W.heap.size) Ai l.length ci l) List.length ht ce (by decide) (fun fuel cs y hy _ => by
    obtain ⟨A, n, c, l, g1, g2, g3⟩ := open_u8s he hq cq hy
    have := g2.len
    subst this
    exact ⟨l, ⟨A, c, g1, g2⟩, g3⟩) h
  refine ⟨A, n, c, L.flatten, xs, h1, ⟨h2, h4, fun i hi => ?_⟩, by rw [List.length_flatten]; exact h7⟩
  have hiL : i < L.length := by omega
  obtain ⟨Ai, ci, g1, g2⟩ := h6 i xs[i] L[i] (List.getElem?_eq_getElem hi) (List.getElem?_eq_getElem hiL)
  refine ⟨Ai, ci, ?_, g2⟩
  have hL1 : ∀ (L : List (List Value)) (i : Nat) (v : Value), (∀ cs ∈ L, cs.length = 1) → L[i]? = some [v] → L.flatten[i]? = some v := by
    intro L
    induction L with
    | nil => intro i v _ h; simp at h
    | cons c L ih =>
      intro i v hl h
      obtain ⟨a, rfl⟩ := List.length_eq_one_iff.1 (hl c (by simp))
      cases i with
      | zero => simp at h ⊢; exact h
      | succ i => simp at h ⊢; exact ih i v (fun cs hcs => hl cs (by simp [hcs])) h
  exact hL1 L i _ h5 (by rw [List.getElem?_eq_getElem hiL, g1])
end
end Go.Proofs.Ytgcbdnoniikboaa
