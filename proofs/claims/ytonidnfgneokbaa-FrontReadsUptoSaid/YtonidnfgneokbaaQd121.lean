/- What lets entries come, as the answers say it (plain). -/
import Derived.Test.YtonidnfgneokbaaQd111
import Derived.Shelf.Strconv.Itoa0
import Derived.Test.YtonidnfgneokbaaQd110
namespace Go.Proofs.Ytonidnfgneokbaa
open Go

def topF : Nat := 9223372036854775807
theorem length_dec : ∀ (ps : FrV), DecF ps → ∀ k, (∀ p ∈ ps, p.1 < k) → ps.length ≤ k
  | [], _, _, _ => Nat.zero_le _
  | p :: ps, hd, k, hk => by
    have hd' := List.pairwise_cons.1 hd
    have h1 := length_dec ps hd'.2 p.1 fun q hq => hd'.1 q hq
    have h2 := hk p List.mem_cons_self
    rw [List.length_cons]
    omega
theorem length_front (ps : FrV) (hd : DecF ps) (hs : szF ps ≤ 9223372036854775807) : ps.length ≤ 63 := length_dec ps hd 63 fun p hp => by have := F62_of_size ps hs p hp; omega
/-- leaves' hashes come -/
def leafE (ps : FrV) (hs : List (List UInt8)) : FrV × Int := if 9223372036854775807 < szF ps + hs.length then (ps, 4) else (leafF ps hs, 0)
/-- entries come -/
def appendE (ps : FrV) (es : List (List UInt8)) : FrV × Int := if es.any (fun x => decide (4096 < x.length)) = true then (ps, 3) else leafE ps (es.map hLeaf)
/-- a whole part comes -/
def growE (ps : FrV) (lv : Int) (h : List UInt8) : FrV × Int :=
  if lv < 0 ∨ 62 < lv then (ps, 2) else if szF ps % 2 ^ lv.toNat ≠ 0 then (ps, 201) else if 9223372036854775807 < szF ps + 2 ^ lv.toNat then (ps, 4) else (comeF ps (lv.toNat, h), 0)
structure FrOk (ps : FrV) : Prop where
  h32 : F32 ps
  dec : DecF ps
  top : szF ps ≤ 9223372036854775807
theorem FrOk.len {ps : FrV} (h : FrOk ps) : ps.length ≤ 63 := length_front ps h.dec h.top
theorem FrOk.h62 {ps : FrV} (h : FrOk ps) : F62 ps := F62_of_size ps h.top
theorem frOk_nil : FrOk [] := ⟨fun _ h => (by cases h), List.Pairwise.nil, by decide⟩
theorem FrOk.leafF {ps : FrV} (h : FrOk ps) (hs : List (List UInt8)) (h32 : ∀ x ∈ hs, x.length = 32) (ht : szF ps + hs.length ≤ 9223372036854775807) : FrOk (leafF ps hs) :=
  ⟨(leafF_ok hs ps h.h32 h.dec h32).1, (leafF_ok hs ps h.h32 h.dec h32).2, by rw [szF_leaf]; exact ht⟩
theorem FrOk.leafE {ps : FrV} (h : FrOk ps) (hs : List (List UInt8)) (h32 : ∀ x ∈ hs, x.length = 32) : FrOk (leafE ps hs).1 := by
  unfold Proofs.Ytonidnfgneokbaa.leafE
  split
  · exact h
  · exact h.leafF hs h32 (by omega)
theorem FrOk.appendE {ps : FrV} (h : FrOk ps) (es : List (List UInt8)) : FrOk (appendE ps es).1 := by
  unfold Proofs.Ytonidnfgneokbaa.appendE
  split
  · exact h
  · exact h.leafE _ fun x hx => by obtain ⟨e, _, rfl⟩ := List.mem_map.1 hx; exact length_hLeaf e
theorem FrOk.growE {ps : FrV} (h : FrOk ps) (lv : Int) (x : List UInt8) (hx : x.length = 32) : FrOk (growE ps lv x).1 := by
  unfold Proofs.Ytonidnfgneokbaa.growE
  split
  · exact h
  split
  · exact h
  rename_i h2
  split
  · exact h
  · exact ⟨F32_come ps _ h.h32 hx, DecF_come ps _ h.dec (dec_of_mod ps _ h.dec (by simpa using h2)), by rw [szF_come]; show szF ps + 2 ^ lv.toNat ≤ _; omega⟩
/-- the root, from the last part on -/
theorem rootG_snoc : ∀ (a : FrV) (q : FpV), rootG (a ++ [q]) = (a.reverse.map (·.2)).foldl (fun h x => hNode x h) q.2
  | [], q => rfl
  | p :: a, q => by
    have e : rootG (p :: a ++ [q]) = hNode p.2 (rootG (a ++ [q])) := by
      cases a with
      | nil => rfl
      | cons b r => rfl
    rw [e, rootG_snoc a q, List.reverse_cons, List.map_append, List.foldl_append]
    rfl
/-- the levels of a size's parts -/
def levelsF (n : Nat) : Nat → List Nat
  | 0 => []
  | k + 1 => if n.testBit k = true then k :: levelsF n k else levelsF n k
theorem levelsF_lt (n : Nat) : ∀ k, ∀ l ∈ levelsF n k, l < k
  | 0, l, h => by cases h
  | k + 1, l, h => by
    unfold levelsF at h
    split at h
    · rcases List.mem_cons.1 h with rfl | h
      · omega
      · have := levelsF_lt n k l h; omega
    · have := levelsF_lt n k l h; omega
theorem levelsF_dec (n : Nat) : ∀ k, (levelsF n k).Pairwise fun a b => b < a
  | 0 => List.Pairwise.nil
  | k + 1 => by
    unfold levelsF
    split
    · exact List.pairwise_cons.2 ⟨fun l h => levelsF_lt n k l h, levelsF_dec n k⟩
    · exact levelsF_dec n k
theorem levelsF_sum (n : Nat) : ∀ k, ((levelsF n k).map (2 ^ ·)).sum = n % 2 ^ k
  | 0 => by simp [levelsF, Nat.mod_one]
  | k + 1 => by
    have h := levelsF_sum n k
    have hm : n % 2 ^ (k + 1) = n % 2 ^ k + (if n.testBit k = true then 2 ^ k else 0) := by
      rw [Nat.mod_pow_succ, Nat.testBit_eq_decide_div_mod_eq]
      rcases Nat.mod_two_eq_zero_or_one (n / 2 ^ k) with h1 | h1 <;> rw [h1] <;> simp
    unfold levelsF
    split
    · rename_i hb
      rw [List.map_cons, List.sum_cons, h, hm, if_pos hb, Nat.add_comm]
    · rename_i hb
      rw [h, hm, if_neg hb, Nat.add_zero]
/-- a front of a size and parts -/
def fromE (size : Int) (hs : List (List UInt8)) : Option FrV × Int :=
  if size < 0 then (none, 2) else if (levelsF size.toNat 63).length ≠ hs.length then (none, 2) else (some ((levelsF size.toNat 63).zip hs), 0)
theorem fromE_ok (size : Int) (hs : List (List UInt8)) (h32 : ∀ x ∈ hs, x.length = 32) (ht : size ≤ 9223372036854775807) (ps : FrV) (h : (fromE size hs).1 = some ps) : FrOk ps ∧ (szF ps : Int) = size ∧ ps.map (·.2) = hs := by
  unfold fromE at h
  split at h
  · cases h
  rename_i h0
  split at h
  · cases h
  rename_i hl
  have hl := Decidable.not_not.1 hl
  cases h
  have hm1 : ((levelsF size.toNat 63).zip hs).map (·.1) = levelsF size.toNat 63 := by
    rw [List.map_fst_zip (by omega)]
  have hm2 : ((levelsF size.toNat 63).zip hs).map (·.2) = hs := by
    rw [List.map_snd_zip (by omega)]
  have hsz : szF ((levelsF size.toNat 63).zip hs) = size.toNat := by
    unfold szF
    rw [show (((levelsF size.toNat 63).zip hs).map fun p => 2 ^ p.1) = (((levelsF size.toNat 63).zip hs).map (·.1)).map (2 ^ ·) by rw [List.map_map]; rfl, hm1, levelsF_sum]
    exact Nat.mod_eq_of_lt (by omega)
  refine ⟨⟨fun p hp => ?_, ?_, by rw [hsz]; omega⟩, by rw [hsz]; omega, hm2⟩
  · have : p.2 ∈ ((levelsF size.toNat 63).zip hs).map (·.2) := List.mem_map.2 ⟨p, hp, rfl⟩
    rw [hm2] at this
    exact h32 _ this
  · have h1 := levelsF_dec size.toNat 63
    rw [← hm1] at h1
    exact List.pairwise_map.1 h1
end Go.Proofs.Ytonidnfgneokbaa
/- The plain law of layer 9: splits, roots, whole stretches, paths, steps. No program in sight. -/
namespace Go.Proofs.Ytonidnfgneokbaa

/-- where a list of n is split -/
def splitN (n : Nat) : Nat := if n < 2 then 0 else 2 ^ Nat.log2 (n - 1)
theorem splitN_small (n : Nat) (h : n < 2) : splitN n = 0 := if_pos h
theorem splitN_eq (n j : Nat) (h1 : 2 ^ j < n) (h2 : n ≤ 2 ^ (j + 1)) : splitN n = 2 ^ j := by
  have hp : 0 < 2 ^ j := Nat.two_pow_pos j
  have : (n - 1).log2 = j := (Nat.log2_eq_iff (by omega)).2 ⟨by omega, by omega⟩
  rw [splitN, if_neg (by omega), this]
theorem splitN_pow (n : Nat) (h : 2 ≤ n) : ∃ j, splitN n = 2 ^ j ∧ 2 ^ j < n ∧ n ≤ 2 ^ (j + 1) := by
  refine ⟨(n - 1).log2, by rw [splitN, if_neg (by omega)], ?_, ?_⟩
  · have := Nat.log2_self_le (n := n - 1) (by omega); omega
  · have := Nat.lt_log2_self (n := n - 1); omega
theorem splitN_lt (n : Nat) (h : 2 ≤ n) : splitN n < n := by obtain ⟨j, h1, h2, _⟩ := splitN_pow n h; omega
theorem splitN_pos (n : Nat) (h : 2 ≤ n) : 1 ≤ splitN n := by obtain ⟨j, h1, _, _⟩ := splitN_pow n h; have := Nat.two_pow_pos j; omega
theorem splitN_half (n : Nat) (h : 2 ≤ n) : n ≤ 2 * splitN n := by obtain ⟨j, h1, _, h3⟩ := splitN_pow n h; rw [Nat.pow_succ] at h3; omega
theorem splitN_le (n : Nat) : splitN n ≤ n := by
  by_cases h : 2 ≤ n
  · have := splitN_lt n h; omega
  · rw [splitN_small n (by omega)]; omega

/-- the root of a list, by whatever is told for none and for a node -/
def rootF (z : List UInt8) (node : List UInt8 → List UInt8 → List UInt8) : Nat → List (List UInt8) → List UInt8
  | 0, _ => z
  | f + 1, hs => if hs.length = 0 then z else if hs.length = 1 then hs.headD z else node (rootF z node f (hs.take (splitN hs.length))) (rootF z node f (hs.drop (splitN hs.length)))
theorem rootF_enough (z : List UInt8) (node : List UInt8 → List UInt8 → List UInt8) : ∀ (f g : Nat) (hs : List (List UInt8)), hs.length ≤ f → hs.length ≤ g → rootF z node f hs = rootF z node g hs
  | 0, 0, _, _, _ => rfl
  | 0, g + 1, hs, h, _ => by
    have : hs.length = 0 := by omega
    simp [rootF, this]
  | f + 1, 0, hs, _, h => by
    have : hs.length = 0 := by omega
    simp [rootF, this]
  | f + 1, g + 1, hs, h1, h2 => by
    simp only [rootF]
    split
    · rfl
    · split
      · rfl
      · have hl := splitN_lt hs.length (by omega)
        have hp := splitN_pos hs.length (by omega)
        rw [rootF_enough z node f g _ (by rw [List.length_take]; omega) (by rw [List.length_take]; omega), rootF_enough z node f g _ (by rw [List.length_drop]; omega) (by rw [List.length_drop]; omega)]

/-- a path's stretches -/
def pathF : Nat → Nat → Nat → Nat → List (Nat × Nat)
  | 0, _, _, _ => []
  | f + 1, i, a, b => if b - a < 2 then [] else if i < a + splitN (b - a) then pathF f i a (a + splitN (b - a)) ++ [(a + splitN (b - a), b)] else pathF f i (a + splitN (b - a)) b ++ [(a, a + splitN (b - a))]
theorem pathF_enough : ∀ (f g i a b : Nat), b - a ≤ f → b - a ≤ g → pathF f i a b = pathF g i a b
  | 0, 0, _, _, _, _, _ => rfl
  | 0, g + 1, i, a, b, h, _ => by simp [pathF, show b - a < 2 by omega]
  | f + 1, 0, i, a, b, _, h => by simp [pathF, show b - a < 2 by omega]
  | f + 1, g + 1, i, a, b, h1, h2 => by
    simp only [pathF]
    split
    · rfl
    · have hl := splitN_lt (b - a) (by omega)
      have hp := splitN_pos (b - a) (by omega)
      rw [pathF_enough f g i a (a + splitN (b - a)) (by omega) (by omega), pathF_enough f g i (a + splitN (b - a)) b (by omega) (by omega)]
def pathL (i a b : Nat) : List (Nat × Nat) := pathF (b - a) i a b
theorem pathL_small (i a b : Nat) (h : b - a < 2) : pathL i a b = [] := by
  unfold pathL
  rw [pathF_enough (b - a) (b - a + 1) i a b (Nat.le_refl _) (by omega)]
  simp [pathF, h]
theorem pathL_left (i a b : Nat) (h : 2 ≤ b - a) (hi : i < a + splitN (b - a)) : pathL i a b = pathL i a (a + splitN (b - a)) ++ [(a + splitN (b - a), b)] := by
  have hl := splitN_lt (b - a) h
  unfold pathL
  rw [pathF_enough (b - a) (b - a + 1) i a b (Nat.le_refl _) (by omega)]
  rw [pathF, if_neg (by omega), if_pos hi, pathF_enough (b - a) (a + splitN (b - a) - a) i a _ (by omega) (by omega)]
theorem pathL_right (i a b : Nat) (h : 2 ≤ b - a) (hi : ¬ i < a + splitN (b - a)) : pathL i a b = pathL i (a + splitN (b - a)) b ++ [(a, a + splitN (b - a))] := by
  have hp := splitN_pos (b - a) h
  unfold pathL
  rw [pathF_enough (b - a) (b - a + 1) i a b (Nat.le_refl _) (by omega)]
  rw [pathF, if_neg (by omega), if_neg hi, pathF_enough (b - a) (b - (a + splitN (b - a))) i _ b (by omega) (by omega)]

/-- steps: of m in the stretch from a of n -/
def stepsF : Nat → Nat → Nat → Nat → Bool → List (Nat × Nat)
  | 0, _, _, _, _ => []
  | f + 1, m, a, n, whole =>
    if m = n then (if whole then [] else [(a, a + n)])
    else if m ≤ splitN n then stepsF f m a (splitN n) whole ++ [(a + splitN n, a + n)] else stepsF f (m - splitN n) (a + splitN n) (n - splitN n) false ++ [(a, a + splitN n)]
theorem stepsF_enough : ∀ (f g m a n : Nat) (whole : Bool), 1 ≤ m → m ≤ n → n ≤ f → n ≤ g → stepsF f m a n whole = stepsF g m a n whole
  | 0, _, _, _, _, _, h1, h2, h3, _ => by omega
  | _ + 1, 0, _, _, _, _, h1, h2, _, h4 => by omega
  | f + 1, g + 1, m, a, n, whole, h1, h2, h3, h4 => by
    simp only [stepsF]
    split
    · rfl
    · have hl := splitN_lt n (by omega)
      have hp := splitN_pos n (by omega)
      split
      · rw [stepsF_enough f g m a (splitN n) whole h1 (by assumption) (by omega) (by omega)]
      · rw [stepsF_enough f g (m - splitN n) (a + splitN n) (n - splitN n) false (by omega) (by omega) (by omega) (by omega)]
def stepsL (m a n : Nat) (whole : Bool) : List (Nat × Nat) := stepsF n m a n whole
theorem stepsL_eq (m a : Nat) (whole : Bool) (h : 1 ≤ m) : stepsL m a m whole = if whole then [] else [(a, a + m)] := by
  unfold stepsL
  obtain ⟨k, rfl⟩ : ∃ k, m = k + 1 := ⟨m - 1, by omega⟩
  simp [stepsF]
theorem stepsL_left (m a n : Nat) (whole : Bool) (h : 1 ≤ m) (hn : m < n) (hk : m ≤ splitN n) : stepsL m a n whole = stepsL m a (splitN n) whole ++ [(a + splitN n, a + n)] := by
  have hl := splitN_lt n (by omega)
  unfold stepsL
  rw [stepsF_enough n (n + 1) m a n whole h (by omega) (Nat.le_refl _) (by omega), stepsF, if_neg (by omega), if_pos hk, stepsF_enough n (splitN n) m a _ whole h hk (by omega) (Nat.le_refl _)]
theorem stepsL_right (m a n : Nat) (whole : Bool) (h : 1 ≤ m) (hn : m < n) (hk : ¬ m ≤ splitN n) : stepsL m a n whole = stepsL (m - splitN n) (a + splitN n) (n - splitN n) false ++ [(a, a + splitN n)] := by
  have hp := splitN_pos n (by omega)
  unfold stepsL
  rw [stepsF_enough n (n + 1) m a n whole h (by omega) (Nat.le_refl _) (by omega), stepsF, if_neg (by omega), if_neg hk, stepsF_enough n (n - splitN n) (m - splitN n) _ _ false (by omega) (by omega) (by omega) (Nat.le_refl _)]

/-- the whole stretches from a on -/
def wholeF : Nat → Nat → Nat → List (Nat × Nat)
  | 0, _, _ => []
  | f + 1, a, n => if n = 0 then [] else (a, a + 2 ^ n.log2) :: wholeF f (a + 2 ^ n.log2) (n - 2 ^ n.log2)
theorem pow_log2_le (n : Nat) (h : n ≠ 0) : 2 ^ n.log2 ≤ n := Nat.log2_self_le h
theorem wholeF_enough : ∀ (f g a n : Nat), n ≤ f → n ≤ g → wholeF f a n = wholeF g a n
  | 0, 0, _, _, _, _ => rfl
  | 0, g + 1, a, n, h, _ => by simp [wholeF, show n = 0 by omega]
  | f + 1, 0, a, n, _, h => by simp [wholeF, show n = 0 by omega]
  | f + 1, g + 1, a, n, h1, h2 => by
    simp only [wholeF]
    split
    · rfl
    · have := Nat.two_pow_pos n.log2
      rw [wholeF_enough f g _ (n - 2 ^ n.log2) (by omega) (by omega)]
def wholeL (a n : Nat) : List (Nat × Nat) := wholeF n a n
theorem wholeL_zero (a : Nat) : wholeL a 0 = [] := rfl
theorem wholeL_more (a n : Nat) (h : n ≠ 0) : wholeL a n = (a, a + 2 ^ n.log2) :: wholeL (a + 2 ^ n.log2) (n - 2 ^ n.log2) := by
  have := Nat.two_pow_pos n.log2
  unfold wholeL
  rw [wholeF_enough n (n + 1) a n (Nat.le_refl _) (by omega), wholeF, if_neg h, wholeF_enough n (n - 2 ^ n.log2) _ _ (by omega) (Nat.le_refl _)]
end Go.Proofs.Ytonidnfgneokbaa
/- Trees over any hash; what a proof says, and where it lies (plain). -/
namespace Go.Proofs.Ytonidnfgneokbaa
open Go

abbrev Hf := List UInt8 → List UInt8
def leafD (e : List UInt8) : List UInt8 := 0 :: e
abbrev PairV := List UInt8 × List UInt8
def nodeD (p : PairV) : List UInt8 := 1 :: (p.1 ++ p.2)
theorem leafD_inj {e f : List UInt8} (h : leafD e = leafD f) : e = f := List.tail_eq_of_cons_eq h
theorem nodeD_inj {p q : PairV} (h1 : p.1.length = 32) (h2 : q.1.length = 32) (h : nodeD p = nodeD q) : p = q := by
  have h := List.tail_eq_of_cons_eq h
  obtain ⟨a, b⟩ := List.append_inj h (by rw [h1, h2])
  exact Prod.ext a b
theorem rootF_s (z : List UInt8) (node : List UInt8 → List UInt8 → List UInt8) (f : Nat) (hs : List (List UInt8)) : rootF z node (f + 1) hs = if hs.length = 0 then z else if hs.length = 1 then hs.headD z else node (rootF z node f (hs.take (splitN hs.length))) (rootF z node f (hs.drop (splitN hs.length))) := rfl
/-- the root of a list, by a hash -/
def rootA (H : Hf) (d : List (List UInt8)) : List UInt8 := rootF (H []) (fun x y => H (nodeD (x, y))) d.length (d.map fun e => H (leafD e))
theorem rootA_nil (H : Hf) : rootA H [] = H [] := rfl
theorem rootA_one (H : Hf) (d : List (List UInt8)) (h : d.length = 1) : rootA H d = H (leafD (d.getD 0 [])) := by
  obtain ⟨e, rfl⟩ := List.length_eq_one_iff.1 h
  rfl
theorem rootA_more (H : Hf) (d : List (List UInt8)) (h : 2 ≤ d.length) : rootA H d = H (nodeD (rootA H (d.take (splitN d.length)), rootA H (d.drop (splitN d.length)))) := by
  have hl := splitN_lt d.length h
  have hp := splitN_pos d.length h
  unfold rootA
  obtain ⟨f, hf⟩ : ∃ f, d.length = f + 1 := ⟨d.length - 1, by omega⟩
  rw [hf, rootF_s, List.length_map, if_neg (by omega), if_neg (by omega), ← List.map_take, ← List.map_drop]
  rw [hf] at hl hp
  rw [rootF_enough _ _ f (d.take (splitN d.length)).length ((d.take (splitN d.length)).map fun e => H (leafD e)) (by rw [List.length_map, List.length_take, hf]; omega) (by rw [List.length_map]; exact Nat.le_refl _),
    rootF_enough _ _ f (d.drop (splitN d.length)).length ((d.drop (splitN d.length)).map fun e => H (leafD e)) (by rw [List.length_map, List.length_drop, hf]; omega) (by rw [List.length_map]; exact Nat.le_refl _), hf]
theorem length_rootA (H : Hf) (hH : ∀ l, (H l).length = 32) (d : List (List UInt8)) : (rootA H d).length = 32 := by
  by_cases h0 : d.length = 0
  · rw [List.length_eq_zero_iff.1 h0, rootA_nil, hH]
  by_cases h1 : d.length = 1
  · rw [rootA_one H d h1, hH]
  · rw [rootA_more H d (by omega), hH]

/-- a way down: whether it goes to the right, at each node -/
def wayF (st rt : Nat → Nat → Bool) : Nat → Nat → Nat → List Bool
  | 0, _, _ => []
  | f + 1, s, n => if st s n = true then [] else if rt s (splitN n) = true then true :: wayF st rt f (s - splitN n) (n - splitN n) else false :: wayF st rt f s (splitN n)
theorem wayF_s (st rt : Nat → Nat → Bool) (f s n : Nat) : wayF st rt (f + 1) s n = if st s n = true then [] else if rt s (splitN n) = true then true :: wayF st rt f (s - splitN n) (n - splitN n) else false :: wayF st rt f s (splitN n) := rfl
def stI : Nat → Nat → Bool := fun _ n => n == 1
def rtI : Nat → Nat → Bool := fun s k => decide (k ≤ s)
def wayI (i n : Nat) : List Bool := wayF stI rtI n i n
theorem wayF_I : ∀ (f g i n : Nat), n ≤ f → n ≤ g → 1 ≤ n → i < n → wayF stI rtI f i n = wayF stI rtI g i n
  | 0, _, _, _, h, _, h1, _ => by omega
  | _, 0, _, _, _, h, h1, _ => by omega
  | f + 1, g + 1, i, n, h, h', h1, hi => by
    unfold wayF
    by_cases hn : stI i n = true
    · rw [if_pos hn, if_pos hn]
    · have hn2 : n ≠ 1 := fun e => hn (by rw [e]; rfl)
      have hl := splitN_lt n (by omega)
      have hp := splitN_pos n (by omega)
      rw [if_neg hn, if_neg hn]
      by_cases hr : rtI i (splitN n) = true
      · rw [if_pos hr, if_pos hr, wayF_I f g (i - splitN n) (n - splitN n) (by omega) (by omega) (by omega) (by omega)]
      · have : i < splitN n := by simpa [rtI] using hr
        rw [if_neg hr, if_neg hr, wayF_I f g i (splitN n) (by omega) (by omega) (by omega) (by omega)]
theorem wayI_one (i : Nat) : wayI i 1 = [] := rfl
theorem wayI_right (i n : Nat) (h : 2 ≤ n) (hi : i < n) (hk : splitN n ≤ i) : wayI i n = true :: wayI (i - splitN n) (n - splitN n) := by
  have hl := splitN_lt n h
  have hp := splitN_pos n h
  unfold wayI
  obtain ⟨f, hf⟩ : ∃ f, n = f + 1 := ⟨n - 1, by omega⟩
  conv => lhs; rw [show wayF stI rtI n i n = wayF stI rtI (f + 1) i n by rw [← hf]]
  rw [wayF_s, if_neg (by simp [stI]; omega), if_pos (by simp [rtI]; exact hk), wayF_I f (n - splitN n) _ _ (by omega) (by omega) (by omega) (by omega)]
theorem wayI_left (i n : Nat) (h : 2 ≤ n) (hk : i < splitN n) : wayI i n = false :: wayI i (splitN n) := by
  have hl := splitN_lt n h
  have hp := splitN_pos n h
  unfold wayI
  obtain ⟨f, hf⟩ : ∃ f, n = f + 1 := ⟨n - 1, by omega⟩
  conv => lhs; rw [show wayF stI rtI n i n = wayF stI rtI (f + 1) i n by rw [← hf]]
  rw [wayF_s, if_neg (by simp [stI]; omega), if_neg (by simp [rtI]; omega), wayF_I f (splitN n) _ _ (by omega) (by omega) (by omega) (by omega)]

def pairB (b : Bool) (x a : List UInt8) : PairV := if b then (x, a) else (a, x)
/-- what is put together, from the way's end up -/
def atI (H : Hf) (way : List Bool) (pf : List (List UInt8)) (a0 : List UInt8) : Nat → List UInt8
  | 0 => a0
  | i + 1 => H (nodeD (pairB (way.getD (way.length - 1 - i) false) (pf.getD i []) (atI H way pf a0 i)))
def prI (H : Hf) (way : List Bool) (pf : List (List UInt8)) (a0 : List UInt8) (i : Nat) : PairV := pairB (way.getD (way.length - 1 - i) false) (pf.getD i []) (atI H way pf a0 i)
theorem atI_succ (H : Hf) (way : List Bool) (pf : List (List UInt8)) (a0 : List UInt8) (i : Nat) : atI H way pf a0 (i + 1) = H (nodeD (prI H way pf a0 i)) := rfl
/-- what a proof says at each node on the way, from the root down -/
def saidL (H : Hf) (way : List Bool) (pf : List (List UInt8)) (a0 : List UInt8) : List PairV := (List.range way.length).map fun n => prI H way pf a0 (way.length - 1 - n)
theorem length_saidL (H : Hf) (way : List Bool) (pf : List (List UInt8)) (a0 : List UInt8) : (saidL H way pf a0).length = way.length := by simp [saidL]
theorem saidL_getD (H : Hf) (way : List Bool) (pf : List (List UInt8)) (a0 : List UInt8) (n : Nat) (d : PairV) (h : n < way.length) : (saidL H way pf a0).getD n d = prI H way pf a0 (way.length - 1 - n) := by
  unfold saidL
  rw [List.getD_eq_getElem?_getD, List.getElem?_map, List.getElem?_range h]
  rfl
theorem atI_cons (H : Hf) (b : Bool) (way : List Bool) (pf : List (List UInt8)) (a0 : List UInt8) : ∀ j, j ≤ way.length → atI H (b :: way) pf a0 j = atI H way (pf.take way.length) a0 j
  | 0, _ => rfl
  | j + 1, h => by
    unfold atI
    rw [atI_cons H b way pf a0 j (by omega), List.length_cons, show way.length + 1 - 1 - j = (way.length - 1 - j) + 1 by omega, List.getD_cons_succ]
    congr 3
    rw [List.getD_eq_getElem?_getD, List.getD_eq_getElem?_getD, List.getElem?_take_of_lt (by omega)]
theorem prI_cons (H : Hf) (b : Bool) (way : List Bool) (pf : List (List UInt8)) (a0 : List UInt8) (j : Nat) (h : j < way.length) : prI H (b :: way) pf a0 j = prI H way (pf.take way.length) a0 j := by
  unfold prI
  rw [atI_cons H b way pf a0 j (by omega), List.length_cons, show way.length + 1 - 1 - j = (way.length - 1 - j) + 1 by omega, List.getD_cons_succ]
  congr 1
  rw [List.getD_eq_getElem?_getD, List.getD_eq_getElem?_getD, List.getElem?_take_of_lt (by omega)]
theorem prI_top (H : Hf) (b : Bool) (way : List Bool) (pf : List (List UInt8)) (a0 : List UInt8) : prI H (b :: way) pf a0 way.length = pairB b (pf.getD way.length []) (atI H way (pf.take way.length) a0 way.length) := by
  unfold prI
  rw [atI_cons H b way pf a0 _ (Nat.le_refl _), List.length_cons, show way.length + 1 - 1 - way.length = 0 by omega]
  rfl
theorem saidL_cons (H : Hf) (b : Bool) (way : List Bool) (pf : List (List UInt8)) (a0 : List UInt8) : saidL H (b :: way) pf a0 = prI H (b :: way) pf a0 way.length :: saidL H way (pf.take way.length) a0 := by
  unfold saidL
  rw [List.length_cons, List.range_succ_eq_map, List.map_cons, List.map_map]
  congr 1
  apply List.map_congr_left
  intro n hn
  have hn := List.mem_range.1 hn
  show prI H (b :: way) pf a0 (way.length + 1 - 1 - (n + 1)) = _
  rw [show way.length + 1 - 1 - (n + 1) = way.length - 1 - n by omega]
  exact prI_cons H b way pf a0 _ (by omega)

/-- the first node, from the root down, where what is said is not what is hashed there -/
def lieF (H : Hf) : List Bool → List PairV → List (List UInt8) → Option (PairV × PairV) × List (List UInt8)
  | b :: way, p :: sd, d => if p = (rootA H (d.take (splitN d.length)), rootA H (d.drop (splitN d.length))) then lieF H way sd (if b = true then d.drop (splitN d.length) else d.take (splitN d.length))
    else (some (p, (rootA H (d.take (splitN d.length)), rootA H (d.drop (splitN d.length)))), d)
  | _, _, d => (none, d)
def bigD (d : List (List UInt8)) : Bool := decide (65536 < d.length) || d.any fun x => decide (4096 < x.length)
def noC : PairV := ([], [])
/-- the answer to a proof that an entry is in -/
def inclC (H : Hf) (d : List (List UInt8)) (i : Int) (e : List UInt8) (pf : List (List UInt8)) : PairV × Int :=
  if bigD d = true ∨ 4096 < e.length then (noC, 2) else if i < 0 ∨ (d.length : Int) ≤ i then (noC, 4)
  else if pf.length ≠ (wayI i.toNat d.length).length then (noC, 230)
  else if atI H (wayI i.toNat d.length) pf (H (leafD e)) pf.length ≠ rootA H d then (noC, 230)
  else match lieF H (wayI i.toNat d.length) (saidL H (wayI i.toNat d.length) pf (H (leafD e))) d with
    | (some (p, h), _) => ((nodeD p, nodeD h), 0)
    | (none, rest) => if e = rest.getD 0 [] then (noC, 231) else ((leafD e, leafD (rest.getD 0 [])), 0)
/-- is it a clash -/
def isC (H : Hf) (c : PairV) : Bool := !(c.1 == c.2) && H c.1 == H c.2
theorem isC_of (H : Hf) (c : PairV) (h1 : c.1 ≠ c.2) (h2 : H c.1 = H c.2) : isC H c = true := by
  unfold isC
  simp [h1, h2]
theorem lieF_end (H : Hf) : ∀ (way : List Bool) (sd : List PairV) (i : Nat) (d : List (List UInt8)), wayI i d.length = way → sd.length = way.length → i < d.length → (lieF H way sd d).1 = none → ∃ x, (lieF H way sd d).2 = [x]
  | [], sd, i, d, hw, _, hi, _ => by
    by_cases h1 : d.length = 1
    · obtain ⟨x, rfl⟩ := List.length_eq_one_iff.1 h1
      exact ⟨x, by cases sd <;> rfl⟩
    · exfalso
      by_cases hk : splitN d.length ≤ i
      · rw [wayI_right i d.length (by omega) hi hk] at hw; cases hw
      · rw [wayI_left i d.length (by omega) (by omega)] at hw; cases hw
  | b :: way, [], _, _, _, h, _, _ => by simp at h
  | b :: way, p :: sd, i, d, hw, h, hi, hn => by
    have hd : 2 ≤ d.length := by
      rcases Nat.lt_or_ge d.length 2 with h2 | h2
      · have : d.length = 1 := by omega
        rw [this] at hw
        cases hw
      · exact h2
    have hl := splitN_lt d.length hd
    unfold lieF at hn ⊢
    split at hn
    · rename_i hp
      rw [if_pos hp]
      by_cases hk : splitN d.length ≤ i
      · rw [wayI_right i d.length hd hi hk] at hw
        injection hw with h1 h2
        subst h1
        exact lieF_end H way sd (i - splitN d.length) _ (by rw [if_pos rfl, List.length_drop]; exact h2) (by simpa using h) (by rw [if_pos rfl, List.length_drop]; omega) hn
      · rw [wayI_left i d.length hd (by omega)] at hw
        injection hw with h1 h2
        subst h1
        have e : (d.take (splitN d.length)).length = splitN d.length := by rw [List.length_take]; omega
        exact lieF_end H way sd i _ (by rw [if_neg (by simp), e]; exact h2) (by simpa using h) (by rw [if_neg (by simp), e]; omega) hn
    · cases hn
/-- what is told is a clash: on the way down -/
theorem lieF_clash (H : Hf) (hH : ∀ l, (H l).length = 32) (a0 : List UInt8) (ha : a0.length = 32) : ∀ (way : List Bool) (pf : List (List UInt8)) (i : Nat) (d : List (List UInt8)), (∀ x ∈ pf, x.length = 32) → wayI i d.length = way → pf.length = way.length → i < d.length → atI H way pf a0 way.length = rootA H d →
    (∀ p h r, lieF H way (saidL H way pf a0) d = (some (p, h), r) → nodeD p ≠ nodeD h ∧ H (nodeD p) = H (nodeD h)) ∧ (∀ x, lieF H way (saidL H way pf a0) d = (none, [x]) → a0 = H (leafD x))
  | [], pf, i, d, _, hw, hl, hi, hr => by
    refine ⟨fun p h r e => (by cases e), fun x e => ?_⟩
    have : d = [x] := by cases e; rfl
    rw [this] at hr
    exact hr
  | b :: way, pf, i, d, hp, hw, hl, hi, hr => by
    have hd : 2 ≤ d.length := by
      rcases Nat.lt_or_ge d.length 2 with h2 | h2
      · have : d.length = 1 := by omega
        rw [this] at hw
        cases hw
      · exact h2
    have hlt := splitN_lt d.length hd
    have hat : ∀ w p j, (atI H w p a0 j).length = 32 := fun w p j => by cases j with | zero => exact ha | succ j => exact hH _
    have hx32 : (pf.getD way.length []).length = 32 := by
      rw [List.getD_eq_getElem?_getD, List.getElem?_eq_getElem (by rw [hl]; simp)]
      exact hp _ (List.getElem_mem _)
    rw [List.length_cons, atI_succ, rootA_more H d hd, prI_top] at hr
    rw [saidL_cons, prI_top]
    have hp1 : (pairB b (pf.getD way.length []) (atI H way (pf.take way.length) a0 way.length)).1.length = 32 := by
      unfold pairB
      split
      · exact hx32
      · exact hat _ _ _
    unfold lieF
    by_cases he : pairB b (pf.getD way.length []) (atI H way (pf.take way.length) a0 way.length) = (rootA H (d.take (splitN d.length)), rootA H (d.drop (splitN d.length)))
    · rw [if_pos he]
      have hp' : ∀ x ∈ pf.take way.length, x.length = 32 := fun x hx => hp x (List.mem_of_mem_take hx)
      have hl' : (pf.take way.length).length = way.length := by rw [List.length_take, hl]; simp
      by_cases hk : splitN d.length ≤ i
      · rw [wayI_right i d.length hd hi hk] at hw
        injection hw with h1 h2
        subst h1
        rw [if_pos rfl]
        have h3 : atI H way (pf.take way.length) a0 way.length = rootA H (d.drop (splitN d.length)) := congrArg Prod.snd he
        exact lieF_clash H hH a0 ha way (pf.take way.length) (i - splitN d.length) _ hp' (by rw [List.length_drop]; exact h2) hl' (by rw [List.length_drop]; omega) h3
      · rw [wayI_left i d.length hd (by omega)] at hw
        injection hw with h1 h2
        subst h1
        rw [if_neg (by simp)]
        have e : (d.take (splitN d.length)).length = splitN d.length := by rw [List.length_take]; omega
        have h3 : atI H way (pf.take way.length) a0 way.length = rootA H (d.take (splitN d.length)) := congrArg Prod.fst he
        exact lieF_clash H hH a0 ha way (pf.take way.length) i _ hp' (by rw [e]; exact h2) hl' (by rw [e]; omega) h3
    · rw [if_neg he]
      refine ⟨fun p h r e => ?_, fun x e => by cases e⟩
      cases e
      exact ⟨fun e => he (nodeD_inj hp1 (length_rootA H hH _) e), hr⟩
theorem inclC_is (H : Hf) (hH : ∀ l, (H l).length = 32) (d : List (List UInt8)) (i : Int) (e : List UInt8) (pf : List (List UInt8)) (hp : ∀ x ∈ pf, x.length = 32) (h : (inclC H d i e pf).2 = 0) : isC H (inclC H d i e pf).1 = true := by
  unfold inclC at h ⊢
  split at h
  · cases h
  rename_i h1
  rw [if_neg h1]
  split at h
  · cases h
  rename_i h2
  rw [if_neg h2]
  split at h
  · cases h
  rename_i h3
  rw [if_neg h3]
  split at h
  · cases h
  rename_i h4
  rw [if_neg h4]
  have hlen : pf.length = (wayI i.toNat d.length).length := by simpa using h3
  have hrt : atI H (wayI i.toNat d.length) pf (H (leafD e)) (wayI i.toNat d.length).length = rootA H d := by rw [← hlen]; simpa using h4
  have hi : i.toNat < d.length := by omega
  obtain ⟨c1, c2⟩ := lieF_clash H hH (H (leafD e)) (hH _) (wayI i.toNat d.length) pf i.toNat d hp rfl hlen hi hrt
  have hend := lieF_end H (wayI i.toNat d.length) (saidL H (wayI i.toNat d.length) pf (H (leafD e))) i.toNat d rfl (length_saidL _ _ _ _) hi
  obtain ⟨⟨o, r⟩, hq⟩ : ∃ q, lieF H (wayI i.toNat d.length) (saidL H (wayI i.toNat d.length) pf (H (leafD e))) d = q := ⟨_, rfl⟩
  rw [hq] at h c1 c2 hend ⊢
  cases o with
  | some q =>
    obtain ⟨p, k⟩ := q
    obtain ⟨g1, g2⟩ := c1 p k r rfl
    exact isC_of H _ g1 g2
  | none =>
    obtain ⟨x, hx⟩ := hend rfl
    have hx : r = [x] := hx
    subst hx
    dsimp only at h ⊢
    split at h
    · cases h
    rename_i h5
    rw [if_neg h5]
    exact isC_of H _ (fun e => h5 (leafD_inj e)) (c2 x rfl)
end Go.Proofs.Ytonidnfgneokbaa
/- math/bits.Len64, by the shelf's contract. -/
namespace Go.Proofs.Ytonidnfgneokbaa
open Go Go.RowKit Go.Shelf

theorem bitLenAux_log2 : ∀ (f x : Nat), 0 < x → x < 2 ^ f → Lib.bitLenAux f x = x.log2 + 1
  | 0, x, h0, h => by simp at h; omega
  | f + 1, x, h0, h => by
    rw [Lib.bitLenAux, if_neg (by omega)]
    by_cases h2 : 2 ≤ x
    · rw [bitLenAux_log2 f (x / 2) (by omega) (by rw [Nat.pow_succ] at h; omega), Nat.log2_def x, if_pos h2]; omega
    · obtain rfl : x = 1 := by omega
      have : ∀ f, Lib.bitLenAux f 0 = 0 := fun f => by cases f <;> simp [Lib.bitLenAux]
      rw [show 1 / 2 = 0 from rfl, this]; rfl
end Go.Proofs.Ytonidnfgneokbaa
/- tree.Split, notaryref09.Split. -/
namespace Go.Proofs.Ytonidnfgneokbaa
open Go Go.RowKit

theorem log2_lt63 (x : Nat) (h : x < 2 ^ 63) (h0 : 0 < x) : x.log2 < 63 := (Nat.log2_lt (by omega)).2 h

theorem pow63_lt (j k : Nat) (h : j < k) (hk : k ≤ 63) : 2 ^ j < 9223372036854775808 := by
  have : 2 ^ j < 2 ^ 63 := Nat.pow_lt_pow_right (by decide) (by omega)
  simpa using this
set_option maxHeartbeats 400000 in
theorem rsplit_any (n : Int) (w : World) (hn : n ≤ 9223372036854775807) :
    Calls Try.prog 77 #[.int .i64 n] w fun e w' => e = .returned (.int .i64 (splitN n.toNat : Int)) ∧ w = w' := by
  by_cases h2 : n < 2
  · rw [splitN_small _ (by omega)]
    go_enter Try.func77, Try.ntmps77
    go_wp2_with fail
    go_ret
    exact ⟨rfl, rfl⟩
  · obtain ⟨m, rfl⟩ : ∃ m : Nat, n = (m : Int) := ⟨n.toNat, by omega⟩
    rw [Int.toNat_natCast]
    obtain ⟨s, hs⟩ : ∃ s, splitN m = s := ⟨_, rfl⟩
    have hsl := splitN_lt m (by omega)
    have Hs := Lib.hid hs
    rw [hs] at hsl ⊢
    clear hs
    go_enter Try.func77, Try.ntmps77
    go_wp2_with fail
    go_loop [3] (fun v => ∃ j k : Nat, 1 ≤ k ∧ k < m ∧ k = 2 ^ j ∧ v = .int .i64 (k : Int)) (fun v => m - (intOf v).toNat)
    case atStart => exact ⟨0, 1, by omega, by omega, rfl, rfl⟩
    case round =>
      obtain ⟨j, k, hk1, hkm, hk, rfl⟩ := hrel
      by_cases hlt : k < m - k
      · have Hk := Lib.hid hk
        clear hk
        have hd : decide ((k : Int) < (m : Int) - (k : Int)) = true := by simp; omega
        go_wp2_with fail
        go_round
        case rel => exact ⟨j + 1, 2 * k, by omega, by omega, by rw [Nat.pow_succ, Hk.out]; omega, by go_num⟩
        case measure => simp [intOf]; omega
      · have hks : s = k := by rw [← Hs.out, splitN_eq m j (by omega) (by rw [Nat.pow_succ]; omega), hk]
        subst hks
        clear hk
        have hd : decide ((s : Int) < (m : Int) - (s : Int)) = false := by simp; omega
        go_wp2_with fail
        go_ret
        exact ⟨rfl, rfl⟩
end Go.Proofs.Ytonidnfgneokbaa
/- Strings that are held against each other; a byte of a row of one's own is written. -/
namespace Go.Proofs.Ytonidnfgneokbaa
open Go Go.RowKit

theorem run_neq_strM (l m : List UInt8) (W : World) : (binOp .neq 9 (.string (bstr l)) (.string (bstr m))).run Try.prog W = .ok (.bool (l != m)) W := by
  have : ∀ l : List UInt8, (bstr l).toList = l := fun l => by rw [ByteArray.toList_eq]; rfl
  rw [binOp_string_neq, Sem.run_pure, this, this]; rfl
theorem run_neqstrM_f {ρ : Operand → Value} {o : Oper} (x y : Operand) (ty : TypeId) (l : List UInt8) (ho : o.op = .binOp .neq 9 x y ty) (hx : ρ x = .string (bstr l)) (hy : ρ y = .string (bstr l)) (W : World) :
    (execOp ρ o).run Try.prog W = .ok (.value (.bool false)) W := by
  unfold execOp
  simp only [ho, hx, hy, eqGuard_at_string, Sem.run_bind, Sem.run_pure, run_neq_strM, Result.andThen_ok, bne_self_eq_false]
theorem run_str_op {ρ : Operand → Value} {o : Oper} {W : World} {X : Nat → Prop} {A : Option Addr} {n c : Nat} {l : List UInt8} (x : Operand) (ho : o.op = .convert 23 9 x) (hx : ρ x = .slice A n c) (h : Sl W X A n c l) :
    (execOp ρ o).run Try.prog W = .ok (.value (.string (bstr l))) W := by
  unfold execOp
  simp only [ho, hx, run_str h, Sem.run_bind, Sem.run_pure, Result.andThen_ok]
theorem owns_setB {W : World} {base g n c : Nat} {e : TypeId} {xs : List Value} (h : W.ownsRow base e 1 (.slice (some ⟨g, 0, none⟩) n c) n xs) (k : Nat) (hk : k < n) (u : Value) :
    (∃ v, W.cell? ⟨g, k, none⟩ = some v) ∧ W.frozen? ⟨g, k, none⟩ = false ∧ ∃ xs', (W.setCell ⟨g, k, none⟩ u).ownsRow base e 1 (.slice (some ⟨g, 0, none⟩) n c) n xs' := by
  rcases h.2 with ⟨hv, _⟩ | ⟨g', cap, cur, hv, hbg, hg, hnc, hcm, hcs, ht⟩
  · cases hv
  · cases hv
    have hB : Blk W g e cur := hg
    have hkc : k < cur.size := by omega
    refine ⟨⟨cur[k], by rw [hB.cell, Array.getElem?_eq_getElem hkc]⟩, hB.frozen k, (cur.setIfInBounds k u).toList.take (n * 1), ?_, .inr ⟨g, c, cur.setIfInBounds k u, rfl, hbg, hB.set_ k u, hnc, hcm, by simpa using hcs, rfl⟩⟩
    rw [List.length_take]
    simp
    omega
end Go.Proofs.Ytonidnfgneokbaa
