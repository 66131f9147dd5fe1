/- A slice of bytes among a law's arguments, opened. -/
import Derived.Test.YtdkgndjomkbbjaaRow
import Derived.Test.YtdkgndjomkbbjaaLent
namespace Go.Proofs.Ytdkgndjomkbbjaa
open Go.RowKit Go.WideShapes Go.ChangeShapes Go.ChangeAt

section
variable {H : Type} {enc : TypeId × Value → H} {P : Program} {W : World} {base : Nat} {held : Bool}
theorem lt_of_cell {W : World} {p : Addr} {v : Value} (h : W.cell? p = some v) : p.block < W.heap.size := by
  rcases Nat.lt_or_ge p.block W.heap.size with h' | h'
  · exact h'
  · unfold World.cell? at h
    rw [Array.getElem?_eq_none h'] at h
    cases h
theorem sl_of_trod {t e : TypeId} {fuel : Nat} {A : Option Addr} {n c : Nat} {x : DataW H × List MemPlace} (ht : P.underlying t = some (.slice e)) (he : P.underlying e = some (.int .u8)) (hc : P.cellsOf e = 1)
    (hf : DataW.trod enc P W 0 (fun _ => true) held fuel t [.slice A n c] = some x) : ∃ l, Sl W (fun _ => True) A n c l := by
  rcases open_ints ht he hc hf with ⟨hcs, hx⟩ | ⟨a, len', cap', zs, hcs, _, hl, hm, hz, hx, hcell, hwz⟩
  · simp only [List.cons.injEq, and_true, Value.slice.injEq] at hcs
    obtain ⟨rfl, rfl, rfl⟩ := hcs
    exact ⟨[], Bs.nil, rfl, Nat.le_refl _, fun _ => ⟨rfl, rfl⟩, Nat.zero_le _⟩
  · simp only [List.cons.injEq, and_true, Value.slice.injEq] at hcs
    obtain ⟨rfl, rfl, rfl⟩ := hcs
    simp only [if_true] at hz
    obtain ⟨l, hlz⟩ := exists_map (fun x : UInt8 => (x.toNat : Int)) (zs.take n) (fun y hy => by
      have hw := bounds_u8 (hwz y (List.mem_of_mem_take hy))
      exact ⟨UInt8.ofNat y.toNat, by simp [UInt8.toNat_ofNat']; omega⟩)
    have hll : l.length = n := by
      have := congrArg List.length hlz
      rw [List.length_take, List.length_map] at this
      omega
    refine ⟨l, fun hne => ?_, hll, hl, by simp, hm⟩
    have hpos : 0 < l.length := by
      rcases Nat.eq_zero_or_pos l.length with h0 | h0
      · exact absurd (by rw [List.eq_nil_of_length_eq_zero h0]; rfl) hne
      · exact h0
    obtain ⟨b, off, rfl, hcells⟩ := ints_at hcell (by omega)
    refine ⟨b, off, rfl, lt_of_cell (hcells 0 (by omega)), trivial, fun j v hv => ?_⟩
    have hj : j < l.length := by
      have := (List.getElem?_eq_some_iff.1 hv).1
      simpa using this
    rw [hcells j (by omega)]
    have h1 := congrArg (·[j]?) hlz
    simp only [List.getElem?_map] at h1 hv
    rw [List.getElem?_take_of_lt (by omega), List.getElem?_eq_getElem (show j < zs.length by omega), List.getElem?_eq_getElem hj] at h1
    rw [List.getElem?_eq_getElem hj] at hv
    simp only [Option.map_some, Option.some.injEq] at h1 hv
    rw [← hv, List.getD_eq_getElem?_getD, List.getElem?_eq_getElem (show j < zs.length by omega), Option.getD_some, h1]
theorem open_bytes {t e : TypeId} {v : Value} {d : DataW H} {p : List MemPlace} (ht : P.underlying t = some (.slice e)) (he : P.underlying e = some (.int .u8)) (hc : P.cellsOf e = 1)
    (hok : Value.okWide P W .any base t v) (h : DataW.Trod enc P W 0 (fun _ => true) held t v d p) : ∃ A n c l, v = .slice A n c ∧ Sl W (fun _ => True) A n c l := by
  obtain ⟨A, n, c, rfl⟩ := okWide_slice ht hok
  obtain ⟨fuel, hf⟩ := h
  obtain ⟨l, hl⟩ := sl_of_trod ht he hc hf
  exact ⟨A, n, c, l, rfl, hl⟩
end
end Go.Proofs.Ytdkgndjomkbbjaa
