/- The top of a row twice as long. No program in sight. -/
import Derived.Test.YtdkgndjomkbbjaaHTop
namespace Go.Proofs.Ytdkgndjomkbbjaa
open Go Go.RowKit

theorem lastHead_cons (r : List (List UInt8)) (rows : List (List (List UInt8))) (h : rows ≠ []) : lastHead (r :: rows) = lastHead rows := by
  unfold lastHead
  rw [List.getLast?_cons_of_ne_nil h]
theorem rowsL_ne (hs : List (List UInt8)) (h : 0 < hs.length) : rowsL hs ≠ [] := by
  obtain ⟨t, ht⟩ := rowsL_len_pos h
  rw [ht]
  simp
theorem topL_more (hs : List (List UInt8)) (h : 2 ≤ hs.length) : topL hs = topL (pairsL hs) := by
  unfold topL
  rw [rowsL_more hs h, lastHead_cons _ _ (rowsL_ne _ (by rw [length_pairsL]; omega))]
theorem topL_one (x : List UInt8) : topL [x] = x := by
  unfold topL
  rw [rowsL_one _ rfl]
  rfl
theorem pairsL_get (hs : List (List UInt8)) (i : Nat) (h : i < (pairsL hs).length) : (pairsL hs)[i] = hNode (hs.getD (2 * i) []) (hs.getD (2 * i + 1) []) := by simp [pairsL]
theorem pairsL_append (l m : List (List UInt8)) (h : l.length % 2 = 0) : pairsL (l ++ m) = pairsL l ++ pairsL m := by
  apply List.ext_getElem
  · simp only [List.length_append, length_pairsL]; omega
  · intro i h1 h2
    rw [length_pairsL, List.length_append] at h1
    rw [pairsL_get]
    by_cases hi : i < l.length / 2
    · rw [List.getElem_append_left (by rw [length_pairsL]; exact hi), pairsL_get]
      simp only [List.getD_eq_getElem?_getD]
      rw [List.getElem?_append_left (by omega), List.getElem?_append_left (by omega)]
    · rw [List.getElem_append_right (by rw [length_pairsL]; omega), pairsL_get]
      simp only [List.getD_eq_getElem?_getD, length_pairsL]
      rw [List.getElem?_append_right (by omega), List.getElem?_append_right (by omega), show 2 * i - l.length = 2 * (i - l.length / 2) by omega, show 2 * i + 1 - l.length = 2 * (i - l.length / 2) + 1 by omega]
theorem and_even (m : Nat) (hm : 1 ≤ m) : (2 * m) &&& (2 * m - 1) = 2 * (m &&& (m - 1)) := by
  have h1 : ((2 * m) &&& (2 * m - 1)) / 2 = m &&& (m - 1) := by
    rw [Nat.and_div_two, show 2 * m / 2 = m by omega, show (2 * m - 1) / 2 = m - 1 by omega]
  have h2 : ((2 * m) &&& (2 * m - 1)) % 2 = 0 := by
    have := Nat.and_mod_two_pow (a := 2 * m) (b := 2 * m - 1) (n := 1)
    rw [show (2 : Nat) ^ 1 = 2 from rfl, show 2 * m % 2 = 0 by omega, Nat.zero_and] at this
    exact this
  omega
theorem pow2_half (n : Nat) (h : pow2 n = true) (h2 : 2 ≤ n) : n % 2 = 0 ∧ pow2 (n / 2) = true := by
  have hx : n &&& (n - 1) = 0 := by simpa [pow2, show n ≠ 0 by omega] using h
  by_cases he : n % 2 = 0
  · refine ⟨he, ?_⟩
    have e := and_even (n / 2) (by omega)
    rw [show 2 * (n / 2) = n by omega, hx] at e
    have e' : n / 2 &&& (n / 2 - 1) = 0 := by omega
    simp [pow2, e', show n / 2 ≠ 0 by omega]
  · have : (n &&& (n - 1)) / 2 = n / 2 := by rw [Nat.and_div_two, show (n - 1) / 2 = n / 2 by omega, Nat.and_self]
    rw [hx] at this
    omega
theorem pow2_double (n : Nat) : pow2 (n + n) = pow2 n := by
  by_cases h0 : n = 0
  · subst h0; rfl
  · have e := and_even n (by omega)
    rw [show 2 * n = n + n by omega] at e
    have e2 : ((n + n) &&& (n + n - 1) == 0) = (n &&& (n - 1) == 0) := by rw [e, Bool.eq_iff_iff]; simp; omega
    unfold pow2
    rw [e2]
    have h3 : (n + n != 0) = (n != 0) := by rw [Bool.eq_iff_iff]; simp
    rw [h3]
theorem topL_double : ∀ (k : Nat) (l : List (List UInt8)), l.length ≤ k → pow2 l.length = true → topL (l ++ l) = hNode (topL l) (topL l)
  | 0, l, h, hp => by
    rw [show l.length = 0 by omega] at hp
    simp [pow2] at hp
  | k + 1, l, h, hp => by
    by_cases h2 : 2 ≤ l.length
    · obtain ⟨g1, g2⟩ := pow2_half _ hp h2
      rw [topL_more (l ++ l) (by rw [List.length_append]; omega), topL_more l h2, pairsL_append l l g1]
      exact topL_double k (pairsL l) (by rw [length_pairsL]; omega) (by rw [length_pairsL]; exact g2)
    · have h1 : l.length = 1 := by
        have : l.length ≠ 0 := by intro e; rw [e] at hp; simp [pow2] at hp
        omega
      obtain ⟨x, rfl⟩ := List.length_eq_one_iff.1 h1
      rw [topL_one, topL_more _ (by simp)]
      have : pairsL ([x] ++ [x]) = [hNode x x] := by simp [pairsL]
      rw [this, topL_one]
end Go.Proofs.Ytdkgndjomkbbjaa
