/- hash.pairs. -/
import Derived.Test.YtgcbdnoniikboaaQb110
namespace Go.Proofs.Ytgcbdnoniikboaa
open Go.RowKit

/-- the row over a row -/
def pairsL (hs : List (List UInt8)) : List (List UInt8) := (List.range (hs.length / 2)).map fun i => hNode (hs.getD (2 * i) []) (hs.getD (2 * i + 1) [])
theorem length_pairsL (hs : List (List UInt8)) : (pairsL hs).length = hs.length / 2 := by simp [pairsL]
theorem pairsL_all (hs : List (List UInt8)) : H32 (pairsL hs) := fun h hh => by
  obtain ⟨i, _, rfl⟩ := List.mem_map.1 hh
  exact length_hNode _ _
theorem pairsL_take (hs : List (List UInt8)) (k : Nat) (hk : k < hs.length / 2) : (pairsL hs).take (k + 1) = (pairsL hs).take k ++ [hNode (hs.getD (2 * k) []) (hs.getD (2 * k + 1) [])] := by
  rw [List.take_succ_eq_append_getElem (by rw [length_pairsL]; exact hk)]
  simp [pairsL]
/-- a row that is half full -/
def halfRow (ps : List (List UInt8)) (m : Nat) : Array Value := (hcells ps ++ (List.replicate ((m - ps.length) * 32) (0 : UInt8)).map B).toArray
theorem halfRow_size (ps : List (List UInt8)) (m : Nat) (h : H32 ps) (hm : ps.length ≤ m) : (halfRow ps m).size = m * 32 := by
  simp only [halfRow, List.size_toArray, List.length_append, hcells_len ps h, List.length_map, List.length_replicate]
  rw [← Nat.add_mul]; congr 1; omega
theorem halfRow_put (ps : List (List UInt8)) (m : Nat) (x : List UInt8) (h : H32 ps) (_hx : x.length = 32) (hm : ps.length < m) :
    ((halfRow ps m).toList.take (ps.length * 32) ++ (x.map B).toArray.toList ++ (halfRow ps m).toList.drop (ps.length * 32 + 32)).toArray = halfRow (ps ++ [x]) m := by
  have hl := hcells_len ps h
  simp only [halfRow]
  rw [← hl, List.take_left, List.drop_append, List.drop_eq_nil_of_le (by omega)]
  simp only [hcells_append, List.nil_append, List.length_append, List.length_singleton]
  rw [show (hcells ps).length + 32 - (hcells ps).length = 32 by omega, ← List.map_drop, List.drop_replicate]
  have e : (m - ps.length) * 32 - 32 = (m - (ps.length + 1)) * 32 := by omega
  rw [e]
  simp [hcells]

structure PrC (w : World) (A : Option Addr) (n c : Nat) (hs ps : List (List UInt8)) (W : World) : Prop where
  row : Blk W w.heap.size 34 (halfRow ps (n / 2))
  src : Hs W (· < w.heap.size) A n c hs
  bel : Below w.heap.size w W
theorem PrC.step {w W W' : World} {A : Option Addr} {n c : Nat} {hs ps : List (List UInt8)} (h : PrC w A n c hs ps W) (hb : Below W.heap.size W W') : PrC w A n c hs ps W' := ⟨h.row.below hb h.row.lt, h.src.step hb, h.bel.trans (hb.mono h.bel.size)⟩

end Go.Proofs.Ytgcbdnoniikboaa
