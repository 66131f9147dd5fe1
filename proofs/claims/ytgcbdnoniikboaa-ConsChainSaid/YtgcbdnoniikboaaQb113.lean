/- hash.Rows and the function that it hands back. -/
import Derived.Test.YtgcbdnoniikboaaQb111
import Derived.Test.YtgcbdnoniikboaaQb112
namespace Go.Proofs.Ytgcbdnoniikboaa
open Go Go.RowKit Go.Shelf
attribute [local go_sem] Oper.semAt_some

/-- the rows from a row up -/
def rowsF : Nat → List (List UInt8) → List (List (List UInt8))
  | 0, _ => []
  | f + 1, hs => if hs.length = 0 then [] else if hs.length < 2 then [hs] else hs :: rowsF f (pairsL hs)
def rowsL (hs : List (List UInt8)) : List (List (List UInt8)) := rowsF (hs.length + 1) hs
theorem rowsF_enough : ∀ (f g : Nat) (hs : List (List UInt8)), hs.length < f → hs.length < g → rowsF f hs = rowsF g hs
  | 0, _, _, h, _ => by omega
  | _, 0, _, _, h => by omega
  | f + 1, g + 1, hs, h1, h2 => by
    simp only [rowsF]
    split
    · rfl
    · split
      · rfl
      · rw [rowsF_enough f g (pairsL hs) (by rw [length_pairsL]; omega) (by rw [length_pairsL]; omega)]
theorem rowsL_nil : rowsL [] = [] := rfl
theorem rowsL_one (hs : List (List UInt8)) (h : hs.length = 1) : rowsL hs = [hs] := by
  unfold rowsL
  rw [h]
  simp [rowsF, h]
theorem rowsL_more (hs : List (List UInt8)) (h : 2 ≤ hs.length) : rowsL hs = hs :: rowsL (pairsL hs) := by
  unfold rowsL
  rw [rowsF, if_neg (by omega), if_neg (by omega), rowsF_enough hs.length ((pairsL hs).length + 1) (pairsL hs) (by rw [length_pairsL]; omega) (by omega)]

end Go.Proofs.Ytgcbdnoniikboaa
