/- A law's arguments that are hashes, opened. -/
import Derived.Test.YtgcbdnoniikboaaOpen2
import Derived.Test.YtgcbdnoniikboaaHs
namespace Go.Proofs.Ytgcbdnoniikboaa
open Go.RowKit Go.WideShapes Go.ChangeShapes Go.ChangeAt

section
variable {H : Type} {enc : TypeId × Value → H} {P : Program} {W : World} {base : Nat} {held : Bool}
/-- bytes in a row of their own -/
theorem open_bytesArr {t e : TypeId} {n fuel : Nat} {spare : Nat → Bool} {cs : List Value} {x : DataW H × List MemPlace} (ht : P.underlying t = some (.array n e)) (he : P.underlying e = some (.int .u8)) (hc : P.cellsOf e = 1) (hcs : cs.length = n)
    (h : DataW.trod enc P W 0 spare held fuel t cs = some x) : ∃ l : List UInt8, cs = l.map B ∧ l.length = n := by
  obtain ⟨xs, m, rfl, _, hl, hxl, hi⟩ := DataW.trod_array ht h
  obtain ⟨l, hl'⟩ := exists_map B cs (fun y hy => by
    obtain ⟨i, hin, hiy⟩ := List.getElem_of_mem hy
    have h1 := hi i (by omega)
    rw [hc, Nat.mul_one, List.getElem?_eq_getElem (by omega)] at h1
    obtain ⟨x, hx, _, hwf⟩ := DataW.trod_int he h1
    have h2 := congrArg (·[0]?) hx
    simp only [List.getElem?_cons_zero] at h2
    rw [List.getElem?_take_of_lt (by omega), List.getElem?_drop, Nat.add_zero, List.getElem?_eq_getElem hin] at h2
    rw [← hiy]
    have := bounds_u8 hwf
    exact ⟨UInt8.ofNat x.toNat, by rw [Option.some.inj h2]; simp [B, UInt8.toNat_ofNat']; omega⟩)
  exact ⟨l, hl', by rw [← hcs, hl', List.length_map]⟩
/-- two of them -/
theorem open_two {t e q : TypeId} {n : Nat} {v : Value} {d : DataW H} {p : List MemPlace} {spare : Nat → Bool} (ht : P.underlying t = some (.array 2 e)) (he : P.underlying e = some (.array n q)) (hq : P.underlying q = some (.int .u8)) (cq : P.cellsOf q = 1) (ce : P.cellsOf e = n) (hct : P.cellsOf t = 2 * n)
    (hok : Value.okWide P W .any base t v) (h : DataW.Trod enc P W 0 spare held t v d p) : ∃ x y : List UInt8, v = .agg ((x ++ y).map B).toArray ∧ x.length = n ∧ y.length = n := by
  simp only [Value.okWide, ht] at hok
  obtain ⟨cs, rfl, hsz, _⟩ := hok
  obtain ⟨fuel, h⟩ := h
  obtain ⟨xs, m, rfl, _, hl, hxl, hi⟩ := DataW.trod_array ht h
  have hsz' : cs.toList.length = 2 * n := by simpa [hct] using hsz
  have h0 := hi 0 (by omega)
  have h1 := hi 1 (by omega)
  simp only [ce, Nat.zero_mul, Nat.one_mul, List.drop_zero, Value.cells] at h0 h1
  rw [List.getElem?_eq_getElem (by omega)] at h0 h1
  obtain ⟨x, hx, hxl'⟩ := open_bytesArr he hq cq (by rw [List.length_take]; omega) h0
  obtain ⟨y, hy, hyl⟩ := open_bytesArr he hq cq (by rw [List.length_take, List.length_drop]; omega) h1
  refine ⟨x, y, ?_, hxl', hyl⟩
  have : cs.toList = (x ++ y).map B := by
    rw [List.map_append, ← hx, ← hy, List.take_of_length_le (l := cs.toList.drop n) (by rw [List.length_drop]; omega), List.take_append_drop]
  rw [← this]
/-- a slice of them -/
theorem open_hashes {t e q : TypeId} {fuel : Nat} {cs : List Value} {x : DataW H × List MemPlace} (ht : P.underlying t = some (.slice e)) (he : P.underlying e = some (.array 32 q)) (hq : P.underlying q = some (.int .u8)) (cq : P.cellsOf q = 1) (ce : P.cellsOf e = 32)
    (h : DataW.trod enc P W 0 (fun _ => true) held fuel t cs = some x) : ∃ (A : Option Addr) (n c : Nat) (hs : List (List UInt8)), cs = [Value.slice A n c] ∧ Hs W (· < W.heap.size) A n c hs ∧ n + 1 ≤ Rows.uptoBulk x.1 := by
  obtain ⟨A, n, c, L, xs, h1, h2, h3, h4, h5, h6, h7⟩ := open_slR (fun (l : List UInt8) cs => cs = l.map B ∧ l.length = 32) (fun _ => 0) ht ce (by decide) (fun fuel cs y hy hl => by
    obtain ⟨l, g1, g2⟩ := open_bytesArr he hq cq hl hy
    exact ⟨l, ⟨g1, g2⟩, bulk_one _⟩) h
  have hL : L = xs.map (·.map B) := by
    apply List.ext_getElem
    · simp [h3, h4]
    · intro i hi1 hi2
      simp only [List.length_map] at hi2
      rw [List.getElem_map]
      exact (h6 i xs[i] L[i] (List.getElem?_eq_getElem hi2) (List.getElem?_eq_getElem hi1)).1
  refine ⟨A, n, c, xs, h1, ⟨?_, h4, fun l hl => ?_⟩, by omega⟩
  · rw [hL] at h2
    unfold hcells
    rw [List.map_flatten]
    exact h2
  · obtain ⟨i, hi, rfl⟩ := List.getElem_of_mem hl
    exact (h6 i xs[i] (L[i]'(by omega)) (List.getElem?_eq_getElem hi) (List.getElem?_eq_getElem (by omega))).2
end
end Go.Proofs.Ytgcbdnoniikboaa
