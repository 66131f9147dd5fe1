/- A sum under way, in plain Lean. No program in sight. -/
import Derived.Test.YtgcbdnoniikboaaSpec
namespace Go.Proofs.Ytgcbdnoniikboaa

/-- the state behind q whole blocks of l -/
def S8.blocks (s : S8) (l : List UInt8) : Nat → S8
  | 0 => s
  | q + 1 => (S8.blocks s l q).block ((l.drop (64 * q)).take 64)

structure Und where
  st : S8
  len : Nat
  rest : List UInt8

/-- bytes are taken -/
def Und.take (u : Und) (b : List UInt8) : Und :=
  ⟨u.st.blocks (u.rest ++ b) ((u.rest ++ b).length / 64), u.len + b.length, (u.rest ++ b).drop (64 * ((u.rest ++ b).length / 64))⟩
def Und.new : Und := ⟨S8.of H256, 0, []⟩
/-- what every sum under way meets -/
def Und.ok (u : Und) : Prop := u.rest.length = u.len % 64

theorem S8.blocks_append (s : S8) (l m : List UInt8) (q : Nat) (h : 64 * q ≤ l.length) : s.blocks (l ++ m) q = s.blocks l q := by
  induction q with
  | zero => rfl
  | succ q ih =>
    simp only [S8.blocks]
    rw [ih (by omega)]
    congr 1
    rw [List.drop_append_of_le_length (by omega), List.take_append_of_le_length (by simp; omega)]
theorem S8.blocks_add (s : S8) (l : List UInt8) (p q : Nat) : s.blocks l (p + q) = (s.blocks l p).blocks (l.drop (64 * p)) q := by
  induction q with
  | zero => rfl
  | succ q ih =>
    rw [show p + (q + 1) = (p + q) + 1 by omega]
    simp only [S8.blocks]
    rw [ih, List.drop_drop, show 64 * p + 64 * q = 64 * (p + q) by omega]

theorem Und.take_take (u : Und) (a b : List UInt8) : (u.take a).take b = u.take (a ++ b) := by
  have hl : (u.rest ++ (a ++ b)) = (u.rest ++ a) ++ b := by simp
  unfold Und.take
  simp only
  rw [hl]
  generalize u.rest ++ a = l
  have e1 : l.drop (64 * (l.length / 64)) ++ b = (l ++ b).drop (64 * (l.length / 64)) := by rw [List.drop_append_of_le_length (by omega)]
  have e2 : ((l ++ b).drop (64 * (l.length / 64))).length / 64 = (l ++ b).length / 64 - l.length / 64 := by
    rw [List.length_drop, List.length_append]; omega
  have e3 : (l ++ b).length / 64 = l.length / 64 + ((l ++ b).length / 64 - l.length / 64) := by
    rw [List.length_append]; omega
  congr 1
  · rw [e1, e2]
    conv => rhs; rw [e3, S8.blocks_add, S8.blocks_append _ _ _ _ (by omega)]
  · simp; omega
  · rw [e1, e2, List.drop_drop]
    congr 1
    omega
theorem Und.take_ok (u : Und) (b : List UInt8) (h : u.ok) : (u.take b).ok := by
  unfold Und.ok Und.take at *
  simp only [List.length_drop, List.length_append]
  omega
theorem Und.take_nil (u : Und) (h : u.ok) : u.take [] = u := by
  unfold Und.ok at h
  unfold Und.take
  have e : (u.rest ++ []).length / 64 = 0 := by simp; omega
  rw [e]
  simp [S8.blocks]
theorem Und.take_short (u : Und) (b : List UInt8) (h : u.rest.length + b.length < 64) : u.take b = ⟨u.st, u.len + b.length, u.rest ++ b⟩ := by
  unfold Und.take
  have e : (u.rest ++ b).length / 64 = 0 := by simp; omega
  rw [e]
  simp [S8.blocks]
theorem Und.take_full (u : Und) (b : List UInt8) (h : u.rest.length + b.length = 64) : u.take b = ⟨u.st.block (u.rest ++ b), u.len + b.length, []⟩ := by
  unfold Und.take
  have e : (u.rest ++ b).length / 64 = 1 := by simp; omega
  have e2 : (u.rest ++ b).length = 64 := by simp; omega
  have e3 : (u.rest ++ b).take 64 = u.rest ++ b := List.take_of_length_le (by omega)
  have e4 : (u.rest ++ b).drop 64 = [] := List.drop_eq_nil_of_le (by omega)
  rw [e]
  simp only [S8.blocks, Nat.mul_zero, List.drop_zero, Nat.mul_one, e3, e4]
theorem Und.new_ok : Und.new.ok := rfl
theorem Und.take_len (u : Und) (b : List UInt8) : (u.take b).len = u.len + b.length := rfl

/-- a word's four bytes, the highest first -/
def word4 (w : UInt32) : List UInt8 := [(w >>> 24).toUInt8, (w >>> 16).toUInt8, (w >>> 8).toUInt8, w.toUInt8]
/-- a number's eight bytes, the highest first -/
def num8 (n : Nat) : List UInt8 := (List.range 8).map fun i => UInt8.ofNat (n / 256 ^ (7 - i))
def S8.bytes (s : S8) : List UInt8 := s.list.flatMap word4
def Und.pad (u : Und) : List UInt8 := 128 :: (List.replicate ((119 - u.rest.length) % 64) 0 ++ num8 (u.len * 8))
/-- the sum -/
def Und.sum (u : Und) : List UInt8 := (u.take u.pad).st.bytes
/-- the sum under way as bytes -/
def Und.bytes (u : Und) : List UInt8 := u.st.bytes ++ num8 u.len ++ u.rest
/-- SHA-256 -/
def sha256 (m : List UInt8) : List UInt8 := (Und.new.take m).sum

theorem length_word4 (w : UInt32) : (word4 w).length = 4 := rfl
theorem length_num8 (n : Nat) : (num8 n).length = 8 := by simp [num8]
theorem S8.length_bytes (s : S8) : s.bytes.length = 32 := rfl
theorem Und.length_sum (u : Und) : u.sum.length = 32 := S8.length_bytes _
theorem length_sha256 (m : List UInt8) : (sha256 m).length = 32 := Und.length_sum _
end Go.Proofs.Ytgcbdnoniikboaa
