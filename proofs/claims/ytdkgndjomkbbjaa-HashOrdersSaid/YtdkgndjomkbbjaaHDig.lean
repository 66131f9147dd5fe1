/- Digits to the base 16, there and back. No program in sight. -/
import Derived.Test.YtdkgndjomkbbjaaHText
import Derived.Lib.BytesEntry
namespace Go.Proofs.Ytdkgndjomkbbjaa
open Go Go.RowKit

/-- a digit's worth; 16: it is none -/
def digV (c : UInt8) : Nat := if 48 ≤ c.toNat ∧ c.toNat ≤ 57 then c.toNat - 48 else if 97 ≤ c.toNat ∧ c.toNat ≤ 102 then c.toNat - 87 else 16
theorem digV_le (c : UInt8) : digV c ≤ 16 := by unfold digV; split <;> (try split) <;> omega
theorem digV_ascii (c : UInt8) (h : digV c < 16) : c.toNat < 128 := by
  unfold digV at h
  split at h
  · omega
  · split at h <;> omega
theorem all256 (p : UInt8 → Bool) (h : (List.range 256).all (fun n => p (UInt8.ofNat n)) = true) (c : UInt8) : p c = true := by
  have := List.all_eq_true.1 h c.toNat (List.mem_range.2 (u8_lt c))
  simpa using this
theorem hex_digV (c : UInt8) (h : digV c < 16) : hex (digV c) = c := by
  have := all256 (fun c => if digV c < 16 then hex (digV c) == c else true) (by decide +kernel) c
  simpa [h] using this
theorem digV_hex (x : Nat) (h : x < 16) : digV (hex x) = x := by
  have : ∀ x, x < 16 → digV (hex x) = x := by decide +kernel
  exact this x h
theorem index_digV (c : UInt8) : Lib.indexByte hexs c = if digV c < 16 then (digV c : Int) else -1 := by
  have := all256 (fun c => Lib.indexByte hexs c == if digV c < 16 then (digV c : Int) else -1) (by decide +kernel) c
  simpa using this

/-- how the byte b stands when q digits have come -/
def cv (s : List UInt8) (q b : Nat) : Nat := if 2 * b + 1 < q then 16 * digV (s.getD (2 * b) 0) + digV (s.getD (2 * b + 1) 0) else if 2 * b < q then digV (s.getD (2 * b) 0) else 0
def hq (s : List UInt8) (q : Nat) : List UInt8 := (List.range 32).map fun b => UInt8.ofNat (cv s q b)
theorem length_hq (s : List UInt8) (q : Nat) : (hq s q).length = 32 := by simp [hq]
theorem hq_zero (s : List UInt8) : hq s 0 = List.replicate 32 0 := by
  unfold hq cv
  simp
  decide
theorem hq_getD (s : List UInt8) (q b : Nat) (hb : b < 32) : (hq s q).getD b 0 = UInt8.ofNat (cv s q b) := by
  unfold hq
  rw [List.getD_eq_getElem?_getD, List.getElem?_map, List.getElem?_range hb]
  rfl
theorem hq_get (s : List UInt8) (q j : Nat) (h : j < (hq s q).length) : (hq s q)[j] = UInt8.ofNat (cv s q j) := by simp [hq]
theorem hq_set (s : List UInt8) (q q' b v : Nat) (_hb : b < 32) (h1 : ∀ j, j ≠ b → cv s q' j = cv s q j) (h2 : cv s q' b = v) : hq s q' = (hq s q).set b (UInt8.ofNat v) := by
  apply List.ext_getElem
  · simp [length_hq]
  · intro j hj1 hj2
    rw [List.getElem_set, hq_get]
    split
    · rename_i e; subst e; rw [h2]
    · rename_i e; rw [hq_get, h1 j (fun x => e x.symm)]
/-- a digit more -/
theorem hq_succ (s : List UInt8) (q : Nat) (hq' : q < 64) : hq s (q + 1) = (hq s q).set (q / 2) (UInt8.ofNat (16 * cv s q (q / 2) + digV (s.getD q 0))) := by
  refine hq_set s q (q + 1) (q / 2) _ (by omega) (fun j hj => ?_) ?_
  · unfold cv
    by_cases h1 : 2 * j + 1 < q
    · rw [if_pos h1, if_pos (by omega)]
    · rw [if_neg h1, if_neg (by omega)]
      by_cases h2 : 2 * j < q
      · omega
      · rw [if_neg h2, if_neg (by omega)]
  · unfold cv
    by_cases he : q % 2 = 0
    · have e : 2 * (q / 2) = q := by omega
      rw [e, if_neg (by omega), if_pos (by omega), if_neg (by omega), if_neg (by omega)]
      omega
    · have e : 2 * (q / 2) + 1 = q := by omega
      rw [e, if_pos (by omega), if_neg (by omega), if_pos (by omega)]
theorem cv_half (s : List UInt8) (q : Nat) (h : digV (s.getD (q - 1) 0) < 16) : cv s q (q / 2) < 16 := by
  unfold cv
  split
  · omega
  · split
    · rw [show 2 * (q / 2) = q - 1 by omega]; exact h
    · omega
/-- two digits more -/
theorem hq_two (s : List UInt8) (i : Nat) (hi : i < 32) : hq s (2 * (i + 1)) = (hq s (2 * i)).set i (UInt8.ofNat (16 * digV (s.getD (2 * i) 0) + digV (s.getD (2 * i + 1) 0))) := by
  refine hq_set s _ _ i _ hi (fun j hj => ?_) ?_
  · unfold cv
    by_cases h1 : 2 * j + 1 < 2 * i
    · rw [if_pos h1, if_pos (by omega)]
    · rw [if_neg h1, if_neg (by omega), if_neg (by omega), if_neg (by omega)]
  · unfold cv
    rw [if_pos (by omega)]

def goodText (s : List UInt8) : Prop := s.length = 64 ∧ ∀ j, j < 64 → digV (s.getD j 0) < 16
/-- the text of what was read -/
theorem text_hq (s : List UInt8) (h : goodText s) : text (hq s 64) = s := by
  obtain ⟨hl, hd⟩ := h
  have key : ∀ i, i ≤ 32 → text ((hq s 64).take i) = s.take (2 * i) := by
    intro i
    induction i with
    | zero => intro _; rfl
    | succ i ih =>
      intro hi
      rw [text_take _ i (by rw [length_hq]; omega), ih (by omega), hq_getD s 64 i (by omega)]
      have e : cv s 64 i = 16 * digV (s.getD (2 * i) 0) + digV (s.getD (2 * i + 1) 0) := by unfold cv; rw [if_pos (by omega)]
      have h0 := hd (2 * i) (by omega)
      have h1 := hd (2 * i + 1) (by omega)
      rw [e, UInt8.toNat_ofNat', Nat.mod_eq_of_lt (by omega), show (16 * digV (s.getD (2 * i) 0) + digV (s.getD (2 * i + 1) 0)) / 16 = digV (s.getD (2 * i) 0) by omega,
        show (16 * digV (s.getD (2 * i) 0) + digV (s.getD (2 * i + 1) 0)) % 16 = digV (s.getD (2 * i + 1) 0) by omega, hex_digV _ h0, hex_digV _ h1]
      rw [show 2 * (i + 1) = 2 * i + 1 + 1 by omega, List.take_succ_eq_append_getElem (show 2 * i + 1 < s.length by omega), List.take_succ_eq_append_getElem (show 2 * i < s.length by omega),
        List.getD_eq_getElem?_getD, List.getElem?_eq_getElem (show 2 * i < s.length by omega), List.getD_eq_getElem?_getD, List.getElem?_eq_getElem (show 2 * i + 1 < s.length by omega)]
      simp only [Option.getD_some, List.append_assoc, List.cons_append, List.nil_append]
  have := key 32 (Nat.le_refl _)
  rwa [List.take_of_length_le (by rw [length_hq]; exact Nat.le_refl _), List.take_of_length_le (by omega)] at this
/-- what is read of a text -/
theorem text_good (h : List UInt8) (hl : h.length = 32) : goodText (text h) ∧ hq (text h) 64 = h := by
  have hg : ∀ b, b < 32 → (text h).getD (2 * b) 0 = hex ((h.getD b 0).toNat / 16) ∧ (text h).getD (2 * b + 1) 0 = hex ((h.getD b 0).toNat % 16) := by
    intro b hb
    have e : text h = text (h.take (b + 1)) ++ text (h.drop (b + 1)) := by
      unfold text; rw [← List.flatMap_append, List.take_append_drop]
    have hl1 : (text (h.take b)).length = 2 * b := by rw [length_text, List.length_take]; omega
    rw [e, text_take h b (by omega)]
    constructor
    · rw [List.getD_eq_getElem?_getD, List.append_assoc, List.getElem?_append_right (by omega), hl1, Nat.sub_self]; rfl
    · rw [List.getD_eq_getElem?_getD, List.append_assoc, List.getElem?_append_right (by omega), hl1, show 2 * b + 1 - 2 * b = 1 by omega]; rfl
  refine ⟨⟨by rw [length_text, hl], fun j hj => ?_⟩, ?_⟩
  · have hlt := u8_lt (h.getD (j / 2) 0)
    by_cases he : j % 2 = 0
    · have := (hg (j / 2) (by omega)).1
      rw [show 2 * (j / 2) = j by omega] at this
      rw [this, digV_hex _ (by omega)]
      omega
    · have := (hg (j / 2) (by omega)).2
      rw [show 2 * (j / 2) + 1 = j by omega] at this
      rw [this, digV_hex _ (by omega)]
      omega
  · apply List.ext_getElem
    · rw [length_hq, hl]
    · intro b hb1 hb2
      have hb : b < 32 := by rw [length_hq] at hb1; exact hb1
      have hlt := u8_lt (h.getD b 0)
      have h1 : (hq (text h) 64).getD b 0 = h.getD b 0 := by
        rw [hq_getD _ _ _ hb]
        unfold cv
        rw [if_pos (by omega), (hg b hb).1, (hg b hb).2, digV_hex _ (by omega), digV_hex _ (by omega), show 16 * ((h.getD b 0).toNat / 16) + (h.getD b 0).toNat % 16 = (h.getD b 0).toNat by omega]
        simp
      rw [List.getD_eq_getElem?_getD, List.getElem?_eq_getElem hb1, List.getD_eq_getElem?_getD, List.getElem?_eq_getElem hb2] at h1
      exact h1
end Go.Proofs.Ytdkgndjomkbbjaa
