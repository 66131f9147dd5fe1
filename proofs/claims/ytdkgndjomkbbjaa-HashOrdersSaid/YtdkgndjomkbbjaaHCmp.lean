/- The order of hashes and of their texts. No program in sight. -/
import Derived.Test.YtdkgndjomkbbjaaHDig
namespace Go.Proofs.Ytdkgndjomkbbjaa
open Go Go.RowKit

def cmpL : List UInt8 → List UInt8 → Int
  | [], [] => 0
  | [], _ :: _ => -1
  | _ :: _, [] => 1
  | a :: l1, b :: l2 => if a.toNat < b.toNat then -1 else if b.toNat < a.toNat then 1 else cmpL l1 l2
theorem cmpL_self : ∀ a : List UInt8, cmpL a a = 0
  | [] => rfl
  | a :: l1 => by simp [cmpL, cmpL_self l1]
theorem cmpL_neg : ∀ a b : List UInt8, cmpL b a = - cmpL a b
  | [], [] => rfl
  | [], _ :: _ => rfl
  | _ :: _, [] => rfl
  | a :: l1, b :: l2 => by
    have ih := cmpL_neg l1 l2
    unfold cmpL
    by_cases h1 : a.toNat < b.toNat
    · rw [if_neg (by omega), if_pos h1, if_pos h1]; rfl
    · by_cases h2 : b.toNat < a.toNat
      · rw [if_pos h2, if_neg h1, if_pos h2]
      · rw [if_neg h2, if_neg h1, if_neg h1, if_neg h2]; exact ih
theorem cmpL_eq : ∀ a b : List UInt8, cmpL a b = 0 → a = b
  | [], [], _ => rfl
  | [], _ :: _, h => by simp [cmpL] at h
  | _ :: _, [], h => by simp [cmpL] at h
  | a :: l1, b :: l2, h => by
    unfold cmpL at h
    by_cases h1 : a.toNat < b.toNat
    · rw [if_pos h1] at h; omega
    · by_cases h2 : b.toNat < a.toNat
      · rw [if_neg h1, if_pos h2] at h; omega
      · rw [if_neg h1, if_neg h2] at h
        have := cmpL_eq l1 l2 h
        have e : a = b := UInt8.toNat_inj.1 (by omega)
        rw [this, e]
theorem cmpL_cases : ∀ a b : List UInt8, cmpL a b = -1 ∨ cmpL a b = 0 ∨ cmpL a b = 1
  | [], [] => .inr (.inl rfl)
  | [], _ :: _ => .inl rfl
  | _ :: _, [] => .inr (.inr rfl)
  | a :: l1, b :: l2 => by
    unfold cmpL
    by_cases h1 : a.toNat < b.toNat
    · rw [if_pos h1]; exact .inl rfl
    · by_cases h2 : b.toNat < a.toNat
      · rw [if_neg h1, if_pos h2]; exact .inr (.inr rfl)
      · rw [if_neg h1, if_neg h2]; exact cmpL_cases l1 l2
theorem hex_lt (x y : Nat) (hx : x < 16) (hy : y < 16) : (hex x).toNat < (hex y).toNat ↔ x < y := by
  have : ∀ x, x < 16 → ∀ y, y < 16 → ((hex x).toNat < (hex y).toNat ↔ x < y) := by decide +kernel
  exact this x hx y hy
theorem cmpL_text : ∀ a b : List UInt8, cmpL (text a) (text b) = cmpL a b
  | [], [] => rfl
  | [], _ :: _ => rfl
  | _ :: _, [] => rfl
  | a :: l1, b :: l2 => by
    have ih := cmpL_text l1 l2
    have ha := u8_lt a
    have hb := u8_lt b
    have e : ∀ (c : UInt8) (l : List UInt8), text (c :: l) = hex (c.toNat / 16) :: hex (c.toNat % 16) :: text l := fun _ _ => rfl
    rw [e, e]
    have h1 := hex_lt (a.toNat / 16) (b.toNat / 16) (by omega) (by omega)
    have h2 := hex_lt (b.toNat / 16) (a.toNat / 16) (by omega) (by omega)
    have h3 := hex_lt (a.toNat % 16) (b.toNat % 16) (by omega) (by omega)
    have h4 := hex_lt (b.toNat % 16) (a.toNat % 16) (by omega) (by omega)
    simp only [cmpL, h1, h2, h3, h4, ih]
    by_cases g1 : a.toNat / 16 < b.toNat / 16
    · rw [if_pos g1, if_pos (by omega)]
    · by_cases g2 : b.toNat / 16 < a.toNat / 16
      · rw [if_neg g1, if_pos g2, if_neg (by omega), if_pos (by omega)]
      · rw [if_neg g1, if_neg g2]
        by_cases g3 : a.toNat % 16 < b.toNat % 16
        · rw [if_pos g3, if_pos (by omega)]
        · by_cases g4 : b.toNat % 16 < a.toNat % 16
          · rw [if_neg g3, if_pos g4, if_neg (by omega), if_pos (by omega)]
          · rw [if_neg g3, if_neg g4, if_neg (by omega), if_neg (by omega)]
/-- how far two go together -/
theorem cmpL_take (a b : List UInt8) : ∀ (i : Nat), i < a.length → i < b.length → (∀ j, j < i → a.getD j 0 = b.getD j 0) →
    ((a.getD i 0).toNat < (b.getD i 0).toNat → cmpL a b = -1) ∧ ((b.getD i 0).toNat < (a.getD i 0).toNat → cmpL a b = 1) := by
  induction a generalizing b with
  | nil => intro i h; simp at h
  | cons x l1 ih =>
    cases b with
    | nil => intro i _ h; simp at h
    | cons y l2 =>
      intro i h1 h2 h3
      cases i with
      | zero =>
        simp only [List.getD_cons_zero]
        exact ⟨fun h => by simp [cmpL, h], fun h => by simp only [cmpL]; rw [if_neg (by omega), if_pos h]⟩
      | succ i =>
        have h0 : x = y := by simpa using h3 0 (by omega)
        have := ih l2 i (by simpa using h1) (by simpa using h2) (fun j hj => by simpa using h3 (j + 1) (by omega))
        simp only [List.getD_cons_succ]
        subst h0
        simpa [cmpL] using this
theorem bytesLess_cmpL : ∀ a b : List UInt8, Op.bytesLess a b = (cmpL a b == -1)
  | [], [] => by simp [Op.bytesLess, cmpL]
  | [], _ :: _ => by simp [Op.bytesLess, cmpL]
  | _ :: _, [] => by simp [Op.bytesLess, cmpL]
  | a :: l1, b :: l2 => by
    have ih := bytesLess_cmpL l1 l2
    unfold cmpL Op.bytesLess
    by_cases h1 : a.toNat < b.toNat
    · have : a < b := UInt8.lt_iff_toNat_lt.2 h1
      simp [h1, this]
    · have n1 : ¬ a < b := fun h => h1 (UInt8.lt_iff_toNat_lt.1 h)
      by_cases h2 : b.toNat < a.toNat
      · have n2 : (a == b) = false := by
          rw [Bool.eq_false_iff]; intro h; have := eq_of_beq h; subst this; omega
        rw [if_neg h1, if_pos h2, n2]
        simp [n1]
      · have n2 : a = b := UInt8.toNat_inj.1 (by omega)
        subst n2
        rw [if_neg h1, if_neg h2, ih]
        simp
end Go.Proofs.Ytdkgndjomkbbjaa
