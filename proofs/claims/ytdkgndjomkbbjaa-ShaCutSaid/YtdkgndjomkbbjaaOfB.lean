/- A sum under way out of its bytes, in plain Lean. -/
import Derived.Test.YtdkgndjomkbbjaaUnd
namespace Go.Proofs.Ytdkgndjomkbbjaa

def num10 (l : List UInt8) : Nat := (wordAt l 8).toNat * 4294967296 + (wordAt l 9).toNat
def Und.ofBytes (l : List UInt8) : Option Und :=
  if l.length < 40 then none
  else if 1152921504606846976 < num10 l ∨ l.length ≠ 40 + num10 l % 64 then none
  else some ⟨S8.of (firstW l 8), num10 l, l.drop 40⟩

theorem S8_of_first (l : List UInt8) : S8.of (firstW l 8) = ⟨wordAt l 0, wordAt l 1, wordAt l 2, wordAt l 3, wordAt l 4, wordAt l 5, wordAt l 6, wordAt l 7⟩ := rfl
theorem be4_word4 (x : UInt32) : be4 (x >>> 24).toUInt8 (x >>> 16).toUInt8 (x >>> 8).toUInt8 x.toUInt8 = x := by
  apply UInt32.toNat.inj
  have := u32_lt x
  rw [be4_toNat]
  simp [UInt32.toNat_shiftRight, Nat.shiftRight_eq_div_pow]
  omega
theorem wordAt_zero (x : UInt32) (l : List UInt8) : wordAt (word4 x ++ l) 0 = x := be4_word4 x
theorem wordAt_succ (x : UInt32) (l : List UInt8) (t : Nat) : wordAt (word4 x ++ l) (t + 1) = wordAt l t := by
  have h : ∀ j, (word4 x ++ l).getD (j + 4) 0 = l.getD j 0 := fun j => by
    rw [List.getD_eq_getElem?_getD, List.getElem?_append_right (by rw [length_word4]; omega), length_word4, Nat.add_sub_cancel, ← List.getD_eq_getElem?_getD]
  unfold wordAt
  rw [show 4 * (t + 1) = 4 * t + 4 by omega, show 4 * t + 4 + 1 = 4 * t + 1 + 4 by omega, show 4 * t + 4 + 2 = 4 * t + 2 + 4 by omega, show 4 * t + 4 + 3 = 4 * t + 3 + 4 by omega, h, h, h, h]
theorem num8_split (n : Nat) (h : n < 18446744073709551616) : num8 n = word4 (UInt32.ofNat (n / 4294967296)) ++ word4 (UInt32.ofNat n) := by
  simp only [num8, word4, List.range, List.range.loop, List.map_cons, List.map_nil, List.cons_append, List.nil_append, List.cons.injEq, and_true]
  refine ⟨?_, ?_, ?_, ?_, ?_, ?_, ?_, ?_⟩ <;> apply UInt8.toNat.inj <;> simp [UInt32.toNat_shiftRight, Nat.shiftRight_eq_div_pow] <;> omega
theorem ofBytes_bytes (u : Und) (hok : u.ok) (hl : u.len ≤ 1152921504606846976) : Und.ofBytes u.bytes = some u := by
  obtain ⟨⟨a, b, c, d, e, f, g, h⟩, n, r⟩ := u
  have hok' : r.length = n % 64 := hok
  have hl' : n ≤ 1152921504606846976 := hl
  obtain ⟨x, hx⟩ : ∃ x, UInt32.ofNat (n / 4294967296) = x := ⟨_, rfl⟩
  obtain ⟨y, hy⟩ : ∃ y, UInt32.ofNat n = y := ⟨_, rfl⟩
  have hbs : (Und.mk ⟨a, b, c, d, e, f, g, h⟩ n r).bytes = (word4 a ++ word4 b ++ word4 c ++ word4 d ++ word4 e ++ word4 f ++ word4 g ++ word4 h) ++ (word4 x ++ word4 y) ++ r := by
    unfold Und.bytes
    rw [num8_split n (by omega), hx, hy]
    rfl
  have hlen : (Und.mk ⟨a, b, c, d, e, f, g, h⟩ n r).bytes.length = 40 + r.length := by rw [hbs]; simp [length_word4]; omega
  have hn : num10 (Und.mk ⟨a, b, c, d, e, f, g, h⟩ n r).bytes = n := by
    rw [hbs]
    unfold num10
    simp only [List.append_assoc, wordAt_succ, wordAt_zero]
    rw [← hx, ← hy, UInt32.toNat_ofNat', UInt32.toNat_ofNat']
    omega
  have hst : S8.of (firstW (Und.mk ⟨a, b, c, d, e, f, g, h⟩ n r).bytes 8) = ⟨a, b, c, d, e, f, g, h⟩ := by
    rw [hbs, S8_of_first]
    simp only [List.append_assoc, wordAt_succ, wordAt_zero]
  have hpl : ((word4 a ++ word4 b ++ word4 c ++ word4 d ++ word4 e ++ word4 f ++ word4 g ++ word4 h) ++ (word4 x ++ word4 y)).length = 40 := by simp only [List.length_append, length_word4]
  have hdr : (Und.mk ⟨a, b, c, d, e, f, g, h⟩ n r).bytes.drop 40 = r := by
    rw [hbs]
    generalize ((word4 a ++ word4 b ++ word4 c ++ word4 d ++ word4 e ++ word4 f ++ word4 g ++ word4 h) ++ (word4 x ++ word4 y)) = p at hpl
    rw [← hpl, List.drop_left]
  unfold Und.ofBytes
  rw [if_neg (by rw [hlen]; omega), if_neg (by rw [hn, hlen]; omega), hn, hst, hdr]
theorem ofBytes_ok {l : List UInt8} {u : Und} (h : Und.ofBytes l = some u) : u.ok ∧ u.len ≤ 1152921504606846976 := by
  unfold Und.ofBytes at h
  split at h
  · cases h
  · split at h
    · cases h
    · cases h
      refine ⟨?_, by show num10 l ≤ _; omega⟩
      unfold Und.ok
      simp only [List.length_drop]
      omega
end Go.Proofs.Ytdkgndjomkbbjaa
