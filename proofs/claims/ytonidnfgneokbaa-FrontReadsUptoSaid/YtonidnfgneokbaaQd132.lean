/- Numbers as bytes, the highest first (plain). -/
import Derived.Test.YtonidnfgneokbaaQd110
namespace Go.Proofs.Ytonidnfgneokbaa
open Go

def beN : Nat → Nat → List UInt8
  | 0, _ => []
  | k + 1, x => UInt8.ofNat (x / 256 ^ k) :: beN k x
theorem length_beN : ∀ k x, (beN k x).length = k
  | 0, _ => rfl
  | k + 1, x => by rw [beN, List.length_cons, length_beN k x]
theorem beN_snoc : ∀ k x, beN (k + 1) x = beN k (x / 256) ++ [UInt8.ofNat x]
  | 0, x => by simp [beN]
  | k + 1, x => by
    conv => lhs; unfold beN
    rw [beN_snoc k x]
    conv => rhs; unfold beN
    rw [Nat.div_div_eq_div_mul, List.cons_append, show 256 * 256 ^ k = 256 ^ (k + 1) by rw [Nat.pow_succ, Nat.mul_comm]]
def numN (l : List UInt8) : Nat := l.foldl (fun a c => 256 * a + c.toNat) 0
theorem numN_nil : numN [] = 0 := rfl
theorem numN_snoc (l : List UInt8) (c : UInt8) : numN (l ++ [c]) = 256 * numN l + c.toNat := by
  unfold numN
  rw [List.foldl_append]
  rfl
theorem snoc_casesB (l : List UInt8) (n : Nat) (h : l.length = n + 1) : ∃ m c, l = m ++ [c] ∧ m.length = n := by
  rcases List.eq_nil_or_concat l with rfl | ⟨m, c, e⟩
  · cases h
  · rw [List.concat_eq_append] at e
    subst e
    exact ⟨m, c, rfl, by simpa using h⟩
theorem numN_lt : ∀ (n : Nat) (l : List UInt8), l.length = n → numN l < 256 ^ n
  | 0, l, h => by rw [List.length_eq_zero_iff.1 h]; decide
  | n + 1, l, h => by
    obtain ⟨m, c, rfl, hm⟩ := snoc_casesB l n h
    have h1 := numN_lt n m hm
    have h2 := c.toNat_lt
    rw [numN_snoc, Nat.pow_succ]
    omega
theorem numN_beN : ∀ k x, numN (beN k x) = x % 256 ^ k
  | 0, x => by rw [Nat.pow_zero, Nat.mod_one]; rfl
  | k + 1, x => by
    rw [beN_snoc, numN_snoc, numN_beN k (x / 256), Nat.pow_succ, Nat.mul_comm (256 ^ k) 256, Nat.mod_mul]
    have : (UInt8.ofNat x).toNat = x % 256 := by simp
    rw [this]
    omega
theorem beN_numN : ∀ (n : Nat) (l : List UInt8), l.length = n → beN n (numN l) = l
  | 0, l, h => by rw [List.length_eq_zero_iff.1 h]; rfl
  | n + 1, l, h => by
    obtain ⟨m, c, rfl, hm⟩ := snoc_casesB l n h
    have h2 := c.toNat_lt
    have e1 : (256 * numN m + c.toNat) / 256 = numN m := by omega
    have e2 : UInt8.ofNat (256 * numN m + c.toNat) = c := by
      apply UInt8.toNat_inj.1
      rw [UInt8.toNat_ofNat']
      omega
    rw [beN_snoc, numN_snoc, e1, e2, beN_numN n m hm]
end Go.Proofs.Ytonidnfgneokbaa
