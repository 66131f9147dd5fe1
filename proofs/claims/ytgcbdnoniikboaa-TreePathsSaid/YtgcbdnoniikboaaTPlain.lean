/- The plain law of layer 9: splits, roots, whole stretches, paths, steps. No program in sight. -/
namespace Go.Proofs.Ytgcbdnoniikboaa

/-- where a list of n is split -/
def splitN (n : Nat) : Nat := if n < 2 then 0 else 2 ^ Nat.log2 (n - 1)
theorem splitN_small (n : Nat) (h : n < 2) : splitN n = 0 := if_pos h
theorem splitN_eq (n j : Nat) (h1 : 2 ^ j < n) (h2 : n ≤ 2 ^ (j + 1)) : splitN n = 2 ^ j := by
  have hp : 0 < 2 ^ j := Nat.two_pow_pos j
  have : (n - 1).log2 = j := (Nat.log2_eq_iff (by omega)).2 ⟨by omega, by omega⟩
  rw [splitN, if_neg (by omega), this]
theorem splitN_pow (n : Nat) (h : 2 ≤ n) : ∃ j, splitN n = 2 ^ j ∧ 2 ^ j < n ∧ n ≤ 2 ^ (j + 1) := by
  refine ⟨(n - 1).log2, by rw [splitN, if_neg (by omega)], ?_, ?_⟩
  · have := Nat.log2_self_le (n := n - 1) (by omega); omega
  · have := Nat.lt_log2_self (n := n - 1); omega
theorem splitN_lt (n : Nat) (h : 2 ≤ n) : splitN n < n := by obtain ⟨j, h1, h2, _⟩ := splitN_pow n h; omega
theorem splitN_pos (n : Nat) (h : 2 ≤ n) : 1 ≤ splitN n := by obtain ⟨j, h1, _, _⟩ := splitN_pow n h; have := Nat.two_pow_pos j; omega
theorem splitN_half (n : Nat) (h : 2 ≤ n) : n ≤ 2 * splitN n := by obtain ⟨j, h1, _, h3⟩ := splitN_pow n h; rw [Nat.pow_succ] at h3; omega
theorem splitN_le (n : Nat) : splitN n ≤ n := by
  by_cases h : 2 ≤ n
  · have := splitN_lt n h; omega
  · rw [splitN_small n (by omega)]; omega

/-- the root of a list, by whatever is told for none and for a node -/
def rootF (z : List UInt8) (node : List UInt8 → List UInt8 → List UInt8) : Nat → List (List UInt8) → List UInt8
  | 0, _ => z
  | f + 1, hs => if hs.length = 0 then z else if hs.length = 1 then hs.headD z else node (rootF z node f (hs.take (splitN hs.length))) (rootF z node f (hs.drop (splitN hs.length)))
theorem rootF_enough (z : List UInt8) (node : List UInt8 → List UInt8 → List UInt8) : ∀ (f g : Nat) (hs : List (List UInt8)), hs.length ≤ f → hs.length ≤ g → rootF z node f hs = rootF z node g hs
  | 0, 0, _, _, _ => rfl
  | 0, g + 1, hs, h, _ => by
    have : hs.length = 0 := by omega
    simp [rootF, this]
  | f + 1, 0, hs, _, h => by
    have : hs.length = 0 := by omega
    simp [rootF, this]
  | f + 1, g + 1, hs, h1, h2 => by
    simp only [rootF]
    split
    · rfl
    · split
      · rfl
      · have hl := splitN_lt hs.length (by omega)
        have hp := splitN_pos hs.length (by omega)
        rw [rootF_enough z node f g _ (by rw [List.length_take]; omega) (by rw [List.length_take]; omega), rootF_enough z node f g _ (by rw [List.length_drop]; omega) (by rw [List.length_drop]; omega)]

/-- a path's stretches -/
def pathF : Nat → Nat → Nat → Nat → List (Nat × Nat)
  | 0, _, _, _ => []
  | f + 1, i, a, b => if b - a < 2 then [] else if i < a + splitN (b - a) then pathF f i a (a + splitN (b - a)) ++ [(a + splitN (b - a), b)] else pathF f i (a + splitN (b - a)) b ++ [(a, a + splitN (b - a))]
theorem pathF_enough : ∀ (f g i a b : Nat), b - a ≤ f → b - a ≤ g → pathF f i a b = pathF g i a b
  | 0, 0, _, _, _, _, _ => rfl
  | 0, g + 1, i, a, b, h, _ => by simp [pathF, show b - a < 2 by omega]
  | f + 1, 0, i, a, b, _, h => by simp [pathF, show b - a < 2 by omega]
  | f + 1, g + 1, i, a, b, h1, h2 => by
    simp only [pathF]
    split
    · rfl
    · have hl := splitN_lt (b - a) (by omega)
      have hp := splitN_pos (b - a) (by omega)
      rw [pathF_enough f g i a (a + splitN (b - a)) (by omega) (by omega), pathF_enough f g i (a + splitN (b - a)) b (by omega) (by omega)]
def pathL (i a b : Nat) : List (Nat × Nat) := pathF (b - a) i a b
theorem pathL_small (i a b : Nat) (h : b - a < 2) : pathL i a b = [] := by
  unfold pathL
  rw [pathF_enough (b - a) (b - a + 1) i a b (Nat.le_refl _) (by omega)]
  simp [pathF, h]
theorem pathL_left (i a b : Nat) (h : 2 ≤ b - a) (hi : i < a + splitN (b - a)) : pathL i a b = pathL i a (a + splitN (b - a)) ++ [(a + splitN (b - a), b)] := by
  have hl := splitN_lt (b - a) h
  unfold pathL
  rw [pathF_enough (b - a) (b - a + 1) i a b (Nat.le_refl _) (by omega)]
  rw [pathF, if_neg (by omega), if_pos hi, pathF_enough (b - a) (a + splitN (b - a) - a) i a _ (by omega) (by omega)]
theorem pathL_right (i a b : Nat) (h : 2 ≤ b - a) (hi : ¬ i < a + splitN (b - a)) : pathL i a b = pathL i (a + splitN (b - a)) b ++ [(a, a + splitN (b - a))] := by
  have hp := splitN_pos (b - a) h
  unfold pathL
  rw [pathF_enough (b - a) (b - a + 1) i a b (Nat.le_refl _) (by omega)]
  rw [pathF, if_neg (by omega), if_neg hi, pathF_enough (b - a) (b - (a + splitN (b - a))) i _ b (by omega) (by omega)]

/-- steps: of m in the stretch from a of n -/
def stepsF : Nat → Nat → Nat → Nat → Bool → List (Nat × Nat)
  | 0, _, _, _, _ => []
  | f + 1, m, a, n, whole =>
    if m = n then (if whole then [] else [(a, a + n)])
    else if m ≤ splitN n then stepsF f m a (splitN n) whole ++ [(a + splitN n, a + n)] else stepsF f (m - splitN n) (a + splitN n) (n - splitN n) false ++ [(a, a + splitN n)]
theorem stepsF_enough : ∀ (f g m a n : Nat) (whole : Bool), 1 ≤ m → m ≤ n → n ≤ f → n ≤ g → stepsF f m a n whole = stepsF g m a n whole
  | 0, _, _, _, _, _, h1, h2, h3, _ => by omega
  | _ + 1, 0, _, _, _, _, h1, h2, _, h4 => by omega
  | f + 1, g + 1, m, a, n, whole, h1, h2, h3, h4 => by
    simp only [stepsF]
    split
    · rfl
    · have hl := splitN_lt n (by omega)
      have hp := splitN_pos n (by omega)
      split
      · rw [stepsF_enough f g m a (splitN n) whole h1 (by assumption) (by omega) (by omega)]
      · rw [stepsF_enough f g (m - splitN n) (a + splitN n) (n - splitN n) false (by omega) (by omega) (by omega) (by omega)]
def stepsL (m a n : Nat) (whole : Bool) : List (Nat × Nat) := stepsF n m a n whole
theorem stepsL_eq (m a : Nat) (whole : Bool) (h : 1 ≤ m) : stepsL m a m whole = if whole then [] else [(a, a + m)] := by
  unfold stepsL
  obtain ⟨k, rfl⟩ : ∃ k, m = k + 1 := ⟨m - 1, by omega⟩
  simp [stepsF]
theorem stepsL_left (m a n : Nat) (whole : Bool) (h : 1 ≤ m) (hn : m < n) (hk : m ≤ splitN n) : stepsL m a n whole = stepsL m a (splitN n) whole ++ [(a + splitN n, a + n)] := by
  have hl := splitN_lt n (by omega)
  unfold stepsL
  rw [stepsF_enough n (n + 1) m a n whole h (by omega) (Nat.le_refl _) (by omega), stepsF, if_neg (by omega), if_pos hk, stepsF_enough n (splitN n) m a _ whole h hk (by omega) (Nat.le_refl _)]
theorem stepsL_right (m a n : Nat) (whole : Bool) (h : 1 ≤ m) (hn : m < n) (hk : ¬ m ≤ splitN n) : stepsL m a n whole = stepsL (m - splitN n) (a + splitN n) (n - splitN n) false ++ [(a, a + splitN n)] := by
  have hp := splitN_pos n (by omega)
  unfold stepsL
  rw [stepsF_enough n (n + 1) m a n whole h (by omega) (Nat.le_refl _) (by omega), stepsF, if_neg (by omega), if_neg hk, stepsF_enough n (n - splitN n) (m - splitN n) _ _ false (by omega) (by omega) (by omega) (Nat.le_refl _)]

/-- the whole stretches from a on -/
def wholeF : Nat → Nat → Nat → List (Nat × Nat)
  | 0, _, _ => []
  | f + 1, a, n => if n = 0 then [] else (a, a + 2 ^ n.log2) :: wholeF f (a + 2 ^ n.log2) (n - 2 ^ n.log2)
theorem pow_log2_le (n : Nat) (h : n ≠ 0) : 2 ^ n.log2 ≤ n := Nat.log2_self_le h
theorem wholeF_enough : ∀ (f g a n : Nat), n ≤ f → n ≤ g → wholeF f a n = wholeF g a n
  | 0, 0, _, _, _, _ => rfl
  | 0, g + 1, a, n, h, _ => by simp [wholeF, show n = 0 by omega]
  | f + 1, 0, a, n, _, h => by simp [wholeF, show n = 0 by omega]
  | f + 1, g + 1, a, n, h1, h2 => by
    simp only [wholeF]
    split
    · rfl
    · have := Nat.two_pow_pos n.log2
      rw [wholeF_enough f g _ (n - 2 ^ n.log2) (by omega) (by omega)]
def wholeL (a n : Nat) : List (Nat × Nat) := wholeF n a n
theorem wholeL_zero (a : Nat) : wholeL a 0 = [] := rfl
theorem wholeL_more (a n : Nat) (h : n ≠ 0) : wholeL a n = (a, a + 2 ^ n.log2) :: wholeL (a + 2 ^ n.log2) (n - 2 ^ n.log2) := by
  have := Nat.two_pow_pos n.log2
  unfold wholeL
  rw [wholeF_enough n (n + 1) a n (Nat.le_refl _) (by omega), wholeF, if_neg h, wholeF_enough n (n - 2 ^ n.log2) _ _ (by omega) (Nat.le_refl _)]
end Go.Proofs.Ytgcbdnoniikboaa
