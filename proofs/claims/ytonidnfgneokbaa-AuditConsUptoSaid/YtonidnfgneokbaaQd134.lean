/- Where two trees' roots lead to, out of a proof (plain). -/
import Derived.Test.YtonidnfgneokbaaQd131
import Derived.Test.YtonidnfgneokbaaQd133
namespace Go.Proofs.Ytonidnfgneokbaa
open Go

def bothE (H : Hf) (whole : Bool) (way : List Bool) (fi : List UInt8) (pf : List (List UInt8)) : List UInt8 := elderI H way (seedB whole way pf) (seedX whole way fi pf) way.length
def bothA (H : Hf) (whole : Bool) (way : List Bool) (fi : List UInt8) (pf : List (List UInt8)) : List UInt8 := atI H way (seedB whole way pf) (seedX whole way fi pf) way.length
theorem seedB_take (whole b : Bool) (way : List Bool) (pf : List (List UInt8)) : (seedB whole (b :: way) pf).take way.length = seedB (whole && !b) way (pf.take (cntW (whole && !b) way)) := by
  cases b with
  | true =>
    rw [Bool.not_true, Bool.and_false]
    unfold seedB cntW
    rw [ownW_true, ownW_part, if_pos rfl, if_pos rfl, if_pos rfl, List.drop_take, Nat.add_sub_cancel]
  | false =>
    rw [Bool.not_false, Bool.and_true]
    unfold seedB cntW
    rw [ownW_false]
    by_cases ho : ownW whole way = true
    · rw [if_pos ho, if_pos ho, if_pos ho, List.drop_take, Nat.add_sub_cancel]
    · rw [if_neg ho, if_neg ho, if_neg ho, Nat.add_zero]
theorem seedX_take (whole b : Bool) (way : List Bool) (fi : List UInt8) (pf : List (List UInt8)) : seedX whole (b :: way) fi pf = seedX (whole && !b) way fi (pf.take (cntW (whole && !b) way)) := by
  cases b with
  | true =>
    rw [Bool.not_true, Bool.and_false]
    unfold seedX cntW
    rw [ownW_true, ownW_part, if_pos rfl, if_pos rfl, if_pos rfl]
    rw [List.getD_eq_getElem?_getD, List.getD_eq_getElem?_getD, List.getElem?_take_of_lt (by omega)]
  | false =>
    rw [Bool.not_false, Bool.and_true]
    unfold seedX cntW
    rw [ownW_false]
    by_cases ho : ownW whole way = true
    · rw [if_pos ho, if_pos ho, if_pos ho]
      rw [List.getD_eq_getElem?_getD, List.getD_eq_getElem?_getD, List.getElem?_take_of_lt (by omega)]
    · rw [if_neg ho, if_neg ho]
theorem seedB_top (whole b : Bool) (way : List Bool) (pf : List (List UInt8)) : (seedB whole (b :: way) pf).getD way.length [] = pf.getD (cntW (whole && !b) way) [] := by
  cases b with
  | true =>
    rw [Bool.not_true, Bool.and_false]
    unfold seedB cntW
    rw [ownW_true, ownW_part, if_pos rfl, if_pos rfl, List.getD_eq_getElem?_getD, List.getD_eq_getElem?_getD, List.getElem?_drop, Nat.add_comm]
  | false =>
    rw [Bool.not_false, Bool.and_true]
    unfold seedB cntW
    rw [ownW_false]
    by_cases ho : ownW whole way = true
    · rw [if_pos ho, if_pos ho, List.getD_eq_getElem?_getD, List.getD_eq_getElem?_getD, List.getElem?_drop, Nat.add_comm]
    · rw [if_neg ho, if_neg ho, Nat.add_zero]
theorem bothE_left (H : Hf) (whole : Bool) (way : List Bool) (fi : List UInt8) (pf : List (List UInt8)) : bothE H whole (false :: way) fi pf = bothE H whole way fi (pf.take (cntW whole way)) := by
  have h1 := seedB_take whole false way pf
  have h2 := seedX_take whole false way fi pf
  rw [Bool.not_false, Bool.and_true] at h1 h2
  unfold bothE
  rw [List.length_cons, elderI_succ, List.length_cons, show way.length + 1 - 1 - way.length = 0 by omega, List.getD_cons_zero, if_neg (by simp), elderI_cons _ _ _ _ _ _ (Nat.le_refl _), h1, h2]
theorem bothE_right (H : Hf) (whole : Bool) (way : List Bool) (fi : List UInt8) (pf : List (List UInt8)) : bothE H whole (true :: way) fi pf = H (nodeD (pf.getD (cntW false way) [], bothE H false way fi (pf.take (cntW false way)))) := by
  have h1 := seedB_take whole true way pf
  have h2 := seedX_take whole true way fi pf
  have h3 := seedB_top whole true way pf
  rw [Bool.not_true, Bool.and_false] at h1 h2 h3
  unfold bothE
  rw [List.length_cons, elderI_succ, List.length_cons, show way.length + 1 - 1 - way.length = 0 by omega, List.getD_cons_zero, if_pos rfl, elderI_cons _ _ _ _ _ _ (Nat.le_refl _), h1, h2, h3]
theorem bothA_left (H : Hf) (whole : Bool) (way : List Bool) (fi : List UInt8) (pf : List (List UInt8)) : bothA H whole (false :: way) fi pf = H (nodeD (bothA H whole way fi (pf.take (cntW whole way)), pf.getD (cntW whole way) [])) := by
  have h1 := seedB_take whole false way pf
  have h2 := seedX_take whole false way fi pf
  have h3 := seedB_top whole false way pf
  rw [Bool.not_false, Bool.and_true] at h1 h2 h3
  unfold bothA
  rw [List.length_cons, atI_succ, prI_top, h1, h2, h3]
  rfl
theorem bothA_right (H : Hf) (whole : Bool) (way : List Bool) (fi : List UInt8) (pf : List (List UInt8)) : bothA H whole (true :: way) fi pf = H (nodeD (pf.getD (cntW false way) [], bothA H false way fi (pf.take (cntW false way)))) := by
  have h1 := seedB_take whole true way pf
  have h2 := seedX_take whole true way fi pf
  have h3 := seedB_top whole true way pf
  rw [Bool.not_true, Bool.and_false] at h1 h2 h3
  unfold bothA
  rw [List.length_cons, atI_succ, prI_top, h1, h2, h3]
  rfl
theorem bothE_end (H : Hf) (whole : Bool) (fi : List UInt8) (pf : List (List UInt8)) : bothE H whole [] fi pf = if whole = true then fi else pf.getD 0 [] := by
  cases whole <;> rfl
theorem bothA_end (H : Hf) (whole : Bool) (fi : List UInt8) (pf : List (List UInt8)) : bothA H whole [] fi pf = if whole = true then fi else pf.getD 0 [] := by
  cases whole <;> rfl
theorem length_bothE (H : Hf) (hH : ∀ l, (H l).length = 32) (whole : Bool) (way : List Bool) (fi : List UInt8) (pf : List (List UInt8)) (hf : fi.length = 32) (hp : ∀ x ∈ pf, x.length = 32) (h : pf.length = cntW whole way) : (bothE H whole way fi pf).length = 32 :=
  length_elderI H hH _ (seedX_len whole way fi pf hf hp h) _ _ _
theorem length_atW (H : Hf) (hH : ∀ l, (H l).length = 32) (a0 : List UInt8) (ha : a0.length = 32) (w : List Bool) (p : List (List UInt8)) (j : Nat) : (atI H w p a0 j).length = 32 := by cases j with | zero => exact ha | succ j => exact hH _
theorem length_bothA (H : Hf) (hH : ∀ l, (H l).length = 32) (whole : Bool) (way : List Bool) (fi : List UInt8) (pf : List (List UInt8)) (hf : fi.length = 32) (hp : ∀ x ∈ pf, x.length = 32) (h : pf.length = cntW whole way) : (bothA H whole way fi pf).length = 32 :=
  length_atW H hH _ (seedX_len whole way fi pf hf hp h) _ _ _
end Go.Proofs.Ytonidnfgneokbaa
