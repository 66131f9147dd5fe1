/- Proofs are taken (plain). -/
import Derived.Test.YtobcfgbkhgkelaaQe222
import Derived.Test.YtobcfgbkhgkelaaQe213
import Derived.Test.YtobcfgbkhgkelaaQe206
import Derived.Test.YtobcfgbkhgkelaaQe207
import Derived.Test.YtobcfgbkhgkelaaQe216
namespace Go.Proofs.Ytobcfgbkhgkelaa
open Go Go.RowKit

theorem stretch_split (hs : List (List UInt8)) (a n : Nat) (hn : 2 ≤ n) (h : a + n ≤ hs.length) : stretchL hs a (a + n) = hNode (stretchL hs a (a + splitN n)) (stretchL hs (a + splitN n) (a + n)) := by
  have hl := splitN_lt n hn
  unfold stretchL
  rw [show a + n - a = n by omega, show a + splitN n - a = splitN n by omega, show a + n - (a + splitN n) = n - splitN n by omega]
  have hlen : ((hs.drop a).take n).length = n := by rw [List.length_take, List.length_drop]; omega
  rw [rootL_more ((hs.drop a).take n) (by rw [hlen]; omega), hlen, List.take_take, Nat.min_eq_left (by omega), List.drop_take, List.drop_drop]
theorem rootsL_snoc (hs : List (List UInt8)) (l : List (Nat × Nat)) (x : Nat × Nat) : rootsL hs (l ++ [x]) = rootsL hs l ++ [stretchL hs x.1 x.2] := by simp [rootsL]
theorem last_snocH (l : List (List UInt8)) (x : List UInt8) : (l ++ [x]).getD ((l ++ [x]).length - 1) [] = x := by simp [List.getD_eq_getElem?_getD]
/-- the same split, for what lies behind it too -/
theorem splitN_same (m n : Nat) (h : splitN n < m) (hn : m ≤ n) (h2 : 2 ≤ n) : splitN m = splitN n := by
  obtain ⟨j, h3, h4, h5⟩ := splitN_pow n h2
  rw [h3] at h ⊢
  exact splitN_eq m j h (by omega)
theorem bothL_roots (hs : List (List UInt8)) (d : Nat) : ∀ (m a n : Nat) (whole : Bool) (x : List UInt8), n ≤ d → 1 ≤ m → m ≤ n → a + n ≤ hs.length → (whole = true → x = stretchL hs a (a + m)) →
    bothL m n whole x (rootsL hs (stepsL m a n whole)) = (stretchL hs a (a + m), stretchL hs a (a + n)) := by
  induction d with
  | zero => intro m a n whole x h h1 h2; omega
  | succ d ih =>
    intro m a n whole x h h1 h2 ha hx
    by_cases hmn : m = n
    · subst hmn
      rw [bothL_eq m whole x _ h1, stepsL_eq m a whole h1]
      cases whole with
      | true => rw [if_pos rfl, ← hx rfl]
      | false => rfl
    · have hl := splitN_lt n (by omega)
      have hps := splitN_pos n (by omega)
      by_cases hk : m ≤ splitN n
      · rw [bothL_left m n whole x _ h1 (by omega) hk, stepsL_left m a n whole h1 (by omega) hk, rootsL_snoc, List.dropLast_concat, last_snocH, ih m a (splitN n) whole x (by omega) h1 hk (by omega) hx, stretch_split hs a n (by omega) ha]
      · rw [bothL_right m n whole x _ h1 (by omega) hk, stepsL_right m a n whole h1 (by omega) hk, rootsL_snoc, List.dropLast_concat, last_snocH, ih (m - splitN n) (a + splitN n) (n - splitN n) false x (by omega) (by omega) (by omega) (by omega) (fun e => by cases e),
          stretch_split hs a n (by omega) ha, stretch_split hs a m (by omega) (by omega), splitN_same m n (by omega) h2 (by omega), show a + splitN n + (m - splitN n) = a + m by omega, show a + splitN n + (n - splitN n) = a + n by omega]
/-- the first hash is not looked at where the stretch is not whole -/
theorem bothL_false (d : Nat) : ∀ (m n : Nat) (x y : List UInt8) (p : List (List UInt8)), n ≤ d → 1 ≤ m → m ≤ n → bothL m n false x p = bothL m n false y p := by
  induction d with
  | zero => intro m n x y p h h1 h2; omega
  | succ d ih =>
    intro m n x y p h h1 h2
    by_cases hmn : m = n
    · subst hmn
      rw [bothL_eq m false x p h1, bothL_eq m false y p h1]
      rfl
    · have hl := splitN_lt n (by omega)
      have hps := splitN_pos n (by omega)
      by_cases hk : m ≤ splitN n
      · rw [bothL_left m n false x p h1 (by omega) hk, bothL_left m n false y p h1 (by omega) hk, ih m (splitN n) x y _ (by omega) h1 hk]
      · rw [bothL_right m n false x p h1 (by omega) hk, bothL_right m n false y p h1 (by omega) hk, ih (m - splitN n) (n - splitN n) x y _ (by omega) (by omega) (by omega)]
/-- nor where the smaller one is no power of two -/
theorem bothL_true (d : Nat) : ∀ (m n : Nat) (x y : List UInt8) (p : List (List UInt8)), n ≤ d → 1 ≤ m → m < n → (∀ j, m ≠ 2 ^ j) → bothL m n true x p = bothL m n true y p := by
  induction d with
  | zero => intro m n x y p h h1 h2; omega
  | succ d ih =>
    intro m n x y p h h1 h2 hp
    have hl := splitN_lt n (by omega)
    have hps := splitN_pos n (by omega)
    obtain ⟨j, h3, _, _⟩ := splitN_pow n (by omega)
    by_cases hk : m ≤ splitN n
    · have hne : m ≠ splitN n := by rw [h3]; exact hp j
      rw [bothL_left m n true x p h1 (by omega) hk, bothL_left m n true y p h1 (by omega) hk, ih m (splitN n) x y _ (by omega) h1 (by omega) hp]
    · rw [bothL_right m n true x p h1 (by omega) hk, bothL_right m n true y p h1 (by omega) hk, bothL_false d (m - splitN n) (n - splitN n) x y _ (by omega) (by omega) (by omega)]
theorem stepsA_nat (m n : Nat) (h1 : 1 ≤ m) (h2 : m ≤ n) : stepsA (m : Int) (n : Int) = (stepsL m 0 n true, 0) := by
  unfold stepsA
  rw [if_neg (by omega), if_neg (by omega), Int.toNat_natCast, Int.toNat_natCast]
theorem stepsA_none (n : Nat) : stepsA 0 (n : Int) = ([], 0) := by
  unfold stepsA
  rw [if_neg (by omega), if_pos rfl]
theorem stepsA_fine (m n : Nat) (h : m ≤ n) : (stepsA (m : Int) (n : Int)).2 = 0 := by
  rcases Nat.eq_zero_or_pos m with h0 | h0
  · subst h0; exact congrArg Prod.snd (stepsA_none n)
  · rw [stepsA_nat m n h0 h]
theorem stretch_all (hs : List (List UInt8)) : stretchL hs 0 hs.length = rootL hs := by unfold stretchL; simp
theorem stretch_head (hs : List (List UInt8)) (m : Nat) : stretchL hs 0 m = rootL (hs.take m) := by unfold stretchL; simp
/-- the two roots come out of the proof -/
theorem bothE_roots (hs : List (List UInt8)) (m : Nat) (h1 : 1 ≤ m) (h2 : m ≤ hs.length) : bothE (m : Int) (hs.length : Int) (rootL (hs.take m)) (rootsS hs (m : Int)) = ((rootL (hs.take m), rootL hs), 0) := by
  rw [bothE_ok _ _ _ _ (by omega) (by rw [length_rootsS]), Int.toNat_natCast, Int.toNat_natCast]
  unfold rootsS
  rw [stepsA_nat m hs.length h1 h2]
  have := bothL_roots hs hs.length m 0 hs.length true (rootL (hs.take m)) (Nat.le_refl _) h1 h2 (by omega) (fun _ => by rw [Nat.zero_add, stretch_head])
  simp only [Nat.zero_add, stretch_head, List.take_length] at this
  rw [this]
/-- the proof is taken -/
theorem checkE_taken (hs : List (List UInt8)) (m : Nat) (h2 : m ≤ hs.length) : checkE (m : Int) (hs.length : Int) (rootL (hs.take m)) (rootL hs) (rootsS hs (m : Int)) = 0 := by
  unfold checkE
  rw [if_neg (by omega)]
  rcases Nat.eq_zero_or_pos m with h0 | h0
  · subst h0
    rw [if_pos (by decide), if_neg]
    rintro (h | h | ⟨h, h'⟩)
    · exact h rfl
    · exact h (by unfold rootsS; rw [show ((0 : Nat) : Int) = 0 from rfl, stepsA_none]; rfl)
    · exact h' (by rw [show hs = [] from List.eq_nil_of_length_eq_zero (by omega)]; rfl)
  · rw [if_neg (by omega), bothE_roots hs m h0 h2]
    simp
/-- not with another second root -/
theorem checkE_second (hs : List (List UInt8)) (m : Nat) (h1 : 1 ≤ m) (h2 : m ≤ hs.length) (y : List UInt8) (hy : y ≠ rootL hs) : checkE (m : Int) (hs.length : Int) (rootL (hs.take m)) y (rootsS hs (m : Int)) = 220 := by
  unfold checkE
  rw [if_neg (by omega), if_neg (by omega), bothE_roots hs m h1 h2, if_pos (.inr (.inr fun e => hy e.symm))]
/-- not with more hashes, nor with fewer -/
theorem checkE_length (m n : Nat) (h1 : 1 ≤ m) (h2 : m ≤ n) (x y : List UInt8) (p : List (List UInt8)) (h : (stepsA (m : Int) (n : Int)).1.length ≠ p.length) : checkE (m : Int) (n : Int) x y p = 220 := by
  unfold checkE
  rw [if_neg (by omega), if_neg (by omega), bothE_size _ _ _ _ (by omega) h, if_pos (.inl (by decide))]
/-- nor, where the smaller list is no power of two, or not smaller, with another first root -/
theorem checkE_first (hs : List (List UInt8)) (m : Nat) (h1 : 1 ≤ m) (h2 : m ≤ hs.length) (x : List UInt8) (hx : x ≠ rootL (hs.take m)) (hp : m = hs.length ∨ ∀ j, m ≠ 2 ^ j) : checkE (m : Int) (hs.length : Int) x (rootL hs) (rootsS hs (m : Int)) = 220 := by
  unfold checkE
  rw [if_neg (by omega), if_neg (by omega)]
  rw [if_pos]
  have hb := bothE_roots hs m h1 h2
  rw [bothE_ok _ _ _ _ (by omega) (by rw [length_rootsS]), Int.toNat_natCast, Int.toNat_natCast] at hb ⊢
  dsimp only at hb ⊢
  by_cases he : m = hs.length
  · right; right
    rw [← he, bothL_eq m true _ _ h1, if_pos rfl]
    rw [he, List.take_length] at hx
    exact hx
  · right; left
    rw [bothL_true hs.length m hs.length x (rootL (hs.take m)) _ (Nat.le_refl _) h1 (by omega) (hp.resolve_left he), congrArg Prod.fst (congrArg Prod.fst hb)]
    exact fun e => hx e.symm
end Go.Proofs.Ytobcfgbkhgkelaa
/- Chains of proofs, and their check (plain). -/
namespace Go.Proofs.Ytobcfgbkhgkelaa
open Go Go.RowKit

/-- do the numbers rise, from 'last' on -/
def riseFrom (last : Int) : List Int → Bool
  | [] => true
  | x :: l => if x < last then false else riseFrom x l
def lastOf (last : Int) : List Int → Int
  | [] => last
  | x :: l => lastOf x l
/-- each number is none below the one ahead, and none above the bound -/
def okFrom (n last : Int) : List Int → Bool
  | [] => true
  | x :: l => if x < last ∨ n < x then false else okFrom n x l
theorem riseFrom_le : ∀ (l : List Int) (last : Int), riseFrom last l = true → last ≤ lastOf last l
  | [], _, _ => Int.le_refl _
  | x :: l, last, h => by
    unfold riseFrom at h
    split at h
    · cases h
    · have := riseFrom_le l x h
      show last ≤ lastOf x l
      omega
theorem okFrom_eq (n : Int) : ∀ (l : List Int) (last : Int), last ≤ n → okFrom n last l = (riseFrom last l && decide (lastOf last l ≤ n))
  | [], last, h => by simp [okFrom, riseFrom, lastOf, h]
  | x :: l, last, h => by
    unfold okFrom riseFrom
    by_cases h1 : x < last
    · rw [if_pos (.inl h1), if_pos h1]; rfl
    · rw [if_neg h1]
      by_cases h2 : n < x
      · rw [if_pos (.inr h2)]
        show false = (riseFrom x l && decide (lastOf x l ≤ n))
        cases hr : riseFrom x l with
        | false => rfl
        | true =>
          have := riseFrom_le l x hr
          symm
          rw [Bool.true_and, decide_eq_false_iff_not]
          omega
      · rw [if_neg (by omega)]
        exact okFrom_eq n l x (by omega)
/-- what is all right so far is so at each place -/
theorem okFrom_at (n : Int) : ∀ (l : List Int) (last : Int), 0 ≤ last → okFrom n last l = true → ∀ i, i < l.length → 0 ≤ l.getD i 0 ∧ l.getD i 0 ≤ n ∧ (∀ k, i = k + 1 → l.getD k 0 ≤ l.getD i 0) ∧ last ≤ l.getD i 0
  | [], _, _, _, i, hi => by simp at hi
  | x :: l, last, h0, h, i, hi => by
    unfold okFrom at h
    split at h
    · cases h
    · rename_i hx
      have hx1 : last ≤ x ∧ x ≤ n := by omega
      cases i with
      | zero => exact ⟨(by show 0 ≤ x; omega), hx1.2, (fun k e => absurd e (by omega)), hx1.1⟩
      | succ i =>
        obtain ⟨h1, h2, h3, h4⟩ := okFrom_at n l x (by omega) h i (by simpa using hi)
        refine ⟨h1, h2, fun k e => ?_, (by show last ≤ l.getD i 0; omega)⟩
        cases e
        cases i with
        | zero => exact h4
        | succ k => exact h3 k rfl

/-- the proofs from each size to the next -/
def chainK (hs : List (List UInt8)) (s : List Int) (k : Nat) : List (List (List UInt8)) := (List.range k).map fun i => rootsS (hs.take (s.getD (i + 1) 0).toNat) (s.getD i 0)
def chainA (hs : List (List UInt8)) (s : List Int) : List (List (List UInt8)) × Int := if okFrom hs.length 0 s = true then (chainK hs s (s.length - 1), 0) else ([], 4)
theorem length_chainK (hs : List (List UInt8)) (s : List Int) (k : Nat) : (chainK hs s k).length = k := by simp [chainK]
theorem chainK_succ (hs : List (List UInt8)) (s : List Int) (k : Nat) : chainK hs s (k + 1) = chainK hs s k ++ [rootsS (hs.take (s.getD (k + 1) 0).toNat) (s.getD k 0)] := by
  unfold chainK
  rw [List.range_succ, List.map_append]
  rfl
theorem chainK_at (hs : List (List UInt8)) (s : List Int) (k i : Nat) (h : i < k) : (chainK hs s k).getD i [] = rootsS (hs.take (s.getD (i + 1) 0).toNat) (s.getD i 0) := by
  unfold chainK
  rw [List.getD_eq_getElem?_getD, List.getElem?_map, List.getElem?_range h]
  rfl

abbrev PtV := Int × List UInt8
abbrev ptD : PtV := (0, [])
/-- from a place on, while what stands there is taken -/
def checksGo (f : Nat → Int) : Nat → Nat → Nat × Int
  | 0, i => (i, 0)
  | n + 1, i => if f i = 0 then checksGo f n (i + 1) else (i, f i)
def checksF (ps : List PtV) (prs : List (List (List UInt8))) (i : Nat) : Int := checkE (ps.getD i ptD).1 (ps.getD (i + 1) ptD).1 (ps.getD i ptD).2 (ps.getD (i + 1) ptD).2 (prs.getD i [])
def checksA (ps : List PtV) (prs : List (List (List UInt8))) : Nat × Int := if prs.length ≠ ps.length - 1 then (0, 2) else checksGo (checksF ps prs) prs.length 0
theorem checksGo_all (f : Nat → Int) : ∀ (n i : Nat), (∀ k, i ≤ k → k < i + n → f k = 0) → checksGo f n i = (i + n, 0)
  | 0, i, _ => rfl
  | n + 1, i, h => by
    unfold checksGo
    rw [if_pos (h i (Nat.le_refl _) (by omega)), checksGo_all f n (i + 1) fun k h1 h2 => h k (by omega) (by omega)]
    congr 1
    omega
/-- the points of the sizes -/
def pointAt (hs : List (List UInt8)) (z : List UInt8) (m : Int) : PtV := (m, if 0 ≤ m ∧ m ≤ (hs.length : Int) then rootL (hs.take m.toNat) else z)
/-- a chain of right proofs is taken -/
theorem checks_chain (hs : List (List UInt8)) (z : List UInt8) (s : List Int) (hok : okFrom hs.length 0 s = true) : checksA (s.map (pointAt hs z)) (chainK hs s (s.length - 1)) = (s.length - 1, 0) := by
  unfold checksA
  rw [if_neg (by rw [length_chainK, List.length_map]; simp), length_chainK, checksGo_all]
  · rw [Nat.zero_add]
  · intro k _ hk
    have hk1 : k + 1 < s.length := by omega
    obtain ⟨a1, a2, -, -⟩ := okFrom_at hs.length s 0 (Int.le_refl _) hok k (by omega)
    obtain ⟨b1, b2, b3, -⟩ := okFrom_at hs.length s 0 (Int.le_refl _) hok (k + 1) hk1
    have b3 := b3 k rfl
    have e : ∀ i, i < s.length → (s.map (pointAt hs z)).getD i ptD = pointAt hs z (s.getD i 0) := fun i hi => by
      rw [List.getD_eq_getElem?_getD, List.getElem?_map, List.getD_eq_getElem?_getD, List.getElem?_eq_getElem hi]
      rfl
    unfold checksF
    rw [e k (by omega), e (k + 1) hk1, chainK_at _ _ _ _ (by omega)]
    obtain ⟨x, hx⟩ := Int.eq_ofNat_of_zero_le a1
    obtain ⟨y, hy⟩ := Int.eq_ofNat_of_zero_le b1
    rw [hx] at a2 b3 ⊢
    rw [hy] at b2 b3 ⊢
    unfold pointAt
    rw [if_pos ⟨by omega, a2⟩, if_pos ⟨by omega, b2⟩]
    dsimp only
    rw [Int.toNat_natCast, Int.toNat_natCast]
    have hy2 : (hs.take y).length = y := by rw [List.length_take]; omega
    have hxy : (hs.take y).take x = hs.take x := by rw [List.take_take, Nat.min_eq_left (by omega)]
    have := checkE_taken (hs.take y) x (by omega)
    rw [hxy, hy2] at this
    exact this
end Go.Proofs.Ytobcfgbkhgkelaa
/- A drawn region in which several makers may come in any order: each is walked once. No program in sight. -/
namespace Go.Proofs.Ytobcfgbkhgkelaa
open Go Go.RowKit

/-- these have come up -/
def setAll (L : Array Bool) (sub : List Nat) : Array Bool := sub.foldr (fun k L => L.setIfInBounds k true) L
theorem size_setAll (L : Array Bool) : ∀ sub : List Nat, (setAll L sub).size = L.size
  | [] => rfl
  | k :: sub => by
    show ((setAll L sub).setIfInBounds k true).size = L.size
    rw [Array.size_setIfInBounds, size_setAll L sub]
theorem setAll_get (L : Array Bool) (i : Nat) (hi : i < L.size) : ∀ sub : List Nat, (setAll L sub)[i]? = some (L[i] || sub.contains i)
  | [] => by simp [setAll, hi]
  | k :: sub => by
    show ((setAll L sub).setIfInBounds k true)[i]? = _
    rw [Array.getElem?_setIfInBounds]
    by_cases hk : k = i
    · subst hk
      rw [if_pos rfl, if_pos (by rw [size_setAll]; exact hi)]
      simp
    · rw [if_neg hk, setAll_get L i hi sub]
      have : (i == k) = false := by simpa using fun e => hk e.symm
      rw [List.contains_cons, this, Bool.false_or]
theorem setAll_same (L : Array Bool) (s t : List Nat) (h : ∀ i, s.contains i = t.contains i) : setAll L s = setAll L t := by
  apply Array.ext
  · rw [size_setAll, size_setAll]
  · intro i h1 h2
    have hi : i < L.size := by rwa [size_setAll] at h1
    have e1 := setAll_get L i hi s
    have e2 := setAll_get L i hi t
    rw [h i] at e1
    have := e1.trans e2.symm
    rw [Array.getElem?_eq_getElem h1, Array.getElem?_eq_getElem h2] at this
    exact Option.some.inj this
def subsL : List Nat → List (List Nat)
  | [] => [[]]
  | k :: l => subsL l ++ (subsL l).map (k :: ·)
theorem filter_subs (p : Nat → Bool) : ∀ l : List Nat, l.filter p ∈ subsL l
  | [] => by simp [subsL]
  | k :: l => by
    have := filter_subs p l
    rw [List.filter_cons]
    unfold subsL
    split
    · exact List.mem_append.2 (.inr (List.mem_map.2 ⟨_, this, rfl⟩))
    · exact List.mem_append.2 (.inl this)
/-- what each of them waits for has come up, too -/
def closedP (ops : Array Oper) (L : Array Bool) (k : Nat) : Bool := (ops.getD k default).after.toList.all fun e => !Region.binds .any e || L.getD e.on false
theorem closedP_step (ops : Array Oper) (L : Array Bool) (j k : Nat) (h : closedP ops L k = true) : closedP ops (L.setIfInBounds j true) k = true := by
  unfold closedP at *
  rw [List.all_eq_true] at *
  intro e he
  have := h e he
  rw [Bool.or_eq_true] at this ⊢
  rcases this with h1 | h1
  · exact .inl h1
  · right
    rw [Array.getD_eq_getD_getElem?] at h1 ⊢
    rw [Array.getElem?_setIfInBounds]
    split
    · rename_i h2
      split
      · rfl
      · rename_i h3
        rw [← h2, Array.getElem?_eq_none (by omega)] at h1
        cases h1
    · exact h1
/-- in every state that some of them have left, some more of them may come up, and none else -/
def makersOk (ops : Array Oper) (L : Array Bool) (ks : List Nat) (need : Nat → List Nat) : Bool :=
  (subsL ks).all fun s => ks.all s.contains || !(s.all fun k => closedP ops (setAll L s) k) || (!(Region.ready .any ops (setAll L s)).isEmpty && (Region.ready .any ops (setAll L s)).all fun k => ks.contains k && (need k).all s.contains)

def upd (us : Nat → Value) (s : Nat) (v : Value) : Nat → Value := fun j => if j = s then v else us j
theorem upd_same (us : Nat → Value) (s : Nat) (v : Value) : upd us s v s = v := if_pos rfl
theorem upd_other (us : Nat → Value) (s j : Nat) (v : Value) (h : j ≠ s) : upd us s v j = us j := if_neg h
abbrev ptrB (g : Nat) : Value := .pointer (some ⟨g, 0, none⟩)
/-- how many are left -/
def leftN (ks sub : List Nat) : Nat := (ks.filter fun k => !sub.contains k).length
theorem leftN_cons (sub : List Nat) (k : Nat) (hk : sub.contains k = false) : ∀ ks : List Nat, ks.Nodup → k ∈ ks → leftN ks (k :: sub) + 1 = leftN ks sub
  | [], _, h => by cases h
  | x :: ks, hn, h => by
    obtain ⟨hx, hn⟩ := List.nodup_cons.1 hn
    unfold leftN
    by_cases hxk : x = k
    · subst hxk
      have hrest : (ks.filter fun y => !(x :: sub).contains y) = ks.filter fun y => !sub.contains y := by
        apply List.filter_congr
        intro y hy
        have : (y == x) = false := by simp; rintro rfl; exact hx hy
        rw [List.contains_cons, this, Bool.false_or]
      rw [List.filter_cons, List.filter_cons, if_neg (by simp), if_pos (by rw [hk]; rfl), hrest]
      rfl
    · have hm : k ∈ ks := by
        rcases List.mem_cons.1 h with e | e
        · exact absurd e.symm hxk
        · exact e
      have := leftN_cons sub k hk ks hn hm
      unfold leftN at this
      have hxe : (x == k) = false := by simpa using hxk
      have e1 : (k :: sub).contains x = sub.contains x := by rw [List.contains_cons, hxe, Bool.false_or]
      rw [List.filter_cons, List.filter_cons, e1]
      split
      · simp only [List.length_cons]; omega
      · exact this
theorem leftN_zero (ks sub : List Nat) (h : leftN ks sub = 0) : ks.all sub.contains = true := by
  rw [List.all_eq_true]
  intro k hk
  unfold leftN at h
  have := List.eq_nil_of_length_eq_zero h
  have := List.filter_eq_nil_iff.1 this k hk
  simpa using this

section
variable {P : Program} {ops : Array Oper} {Q : Exit → Act → World → Prop} {S : World → Prop}
theorem wpAnyH_makers0 (mk : (Nat → Value) → Act) (L : Array Bool) (ks : List Nat) (need : Nat → List Nat) (slot : Nat → Nat) (fact : Nat → Value → World → Prop) (f1 : Nat)
    (hok : makersOk ops L ks need = true) (hnd : ks.Nodup) (hslot : ∀ k ∈ ks, ∀ k' ∈ ks, slot k = slot k' → k = k')
    (hstep : ∀ k ∈ ks, ∀ v W W', fact k v W → Below W.heap.size W W' → fact k v W') (hlt : ∀ k ∈ ks, ∀ g W, fact k (ptrB g) W → g < W.heap.size)
    (hrun : ∀ k ∈ ks, ∀ us W, S W → (∀ k' ∈ need k, fact k' (us (slot k')) W) →
      wpMix P ops S Q (fun a W' => ∃ v, a = mk (upd us (slot k) v) ∧ fact k v W' ∧ Below W.heap.size W W' ∧ ∀ g, v = ptrB g → W.heap.size ≤ g) [(ops.getD k default, false)] (mk us) W)
    (htail : ∀ us W, S W → (∀ k ∈ ks, fact k (us (slot k)) W) → (∀ k ∈ ks, ∀ k' ∈ ks, k ≠ k' → ∀ g, us (slot k) = ptrB g → us (slot k') ≠ ptrB g) → wpAnyH P .any ops (NoPanic Q) S f1 (setAll L ks) (mk us) W) :
    ∀ (n : Nat) (sub : List Nat) (us : Nat → Value) (W : World), leftN ks sub = n → (∀ k ∈ sub, k ∈ ks) → (∀ k ∈ sub, closedP ops (setAll L sub) k = true) → S W → (∀ k ∈ sub, fact k (us (slot k)) W) → (∀ k ∈ sub, ∀ k' ∈ sub, k ≠ k' → ∀ g, us (slot k) = ptrB g → us (slot k') ≠ ptrB g) →
      wpAnyH P .any ops (NoPanic Q) S (n + f1) (setAll L sub) (mk us) W
  | 0, sub, us, W, hn, hsub, _, hS, hf, ha => by
    have hall := leftN_zero ks sub hn
    rw [List.all_eq_true] at hall
    have hm : ∀ k ∈ ks, k ∈ sub := fun k hk => by simpa using hall k hk
    rw [setAll_same L sub ks (fun i => by
      by_cases hi : i ∈ sub
      · rw [List.contains_iff_mem.2 hi, List.contains_iff_mem.2 (hsub i hi)]
      · have hi' : i ∉ ks := fun h => hi (hm i h)
        rw [Bool.eq_false_iff.2 (fun h => hi (List.contains_iff_mem.1 h)), Bool.eq_false_iff.2 (fun h => hi' (List.contains_iff_mem.1 h))]), Nat.zero_add]
    exact htail us W hS (fun k hk => hf k (hm k hk)) (fun k hk k' hk' => ha k (hm k hk) k' (hm k' hk'))
  | n + 1, sub, us, W, hn, hsub, hcl, hS, hf, ha => by
    have hok' := hok
    unfold makersOk at hok'
    rw [List.all_eq_true] at hok'
    have hc := hok' _ (filter_subs (fun k => sub.contains k) ks)
    have hse : ∀ i, (ks.filter fun k => sub.contains k).contains i = sub.contains i := fun i => by
      by_cases hi : i ∈ sub
      · rw [List.contains_iff_mem.2 hi, List.contains_iff_mem.2 (List.mem_filter.2 ⟨hsub i hi, List.contains_iff_mem.2 hi⟩)]
      · rw [Bool.eq_false_iff.2 (fun h => hi (List.contains_iff_mem.1 h)), Bool.eq_false_iff.2 (fun h => hi (List.contains_iff_mem.1 (List.mem_filter.1 (List.contains_iff_mem.1 h)).2))]
    rw [setAll_same L _ sub hse] at hc
    have hnall : ks.all (ks.filter fun k => sub.contains k).contains = false := by
      rw [Bool.eq_false_iff]
      intro h
      rw [List.all_eq_true] at h
      unfold leftN at hn
      have h0 : (ks.filter fun k => !sub.contains k) = [] := List.filter_eq_nil_iff.2 fun k hk => by
        have := h k hk
        rw [hse] at this
        simp [List.contains_iff_mem.1 this]
      rw [h0] at hn
      cases hn
    have hclf : ((ks.filter fun k => sub.contains k).all fun k => closedP ops (setAll L sub) k) = true := by
      rw [List.all_eq_true]
      exact fun k hk => hcl k (List.contains_iff_mem.1 (List.mem_filter.1 hk).2)
    rw [hnall, hclf, Bool.not_true, Bool.or_false, Bool.false_or, Bool.and_eq_true] at hc
    obtain ⟨hne, hrd⟩ := hc
    rw [List.all_eq_true] at hrd
    rw [show n + 1 + f1 = n + f1 + 1 by omega]
    refine ⟨fun h0 => (by rw [h0] at hne; cases hne), fun k hk => ?_⟩
    have hk' := hrd k hk
    rw [Bool.and_eq_true, List.contains_iff_mem] at hk'
    obtain ⟨hks, hnd'⟩ := hk'
    rw [List.all_eq_true] at hnd'
    obtain ⟨hun, ok, hoi, hed⟩ := mem_ready.1 hk
    have hget : ops.getD k default = ok := by simp [hoi]
    have hkn : sub.contains k = false := by
      by_cases hkL : k < L.size
      · have := setAll_get L k hkL sub
        rw [Array.getD_eq_getD_getElem?, this] at hun
        simp only [Option.getD_some, Bool.or_eq_false_iff] at hun
        exact hun.2
      · rw [Array.getD_eq_getD_getElem?, Array.getElem?_eq_none (by rw [size_setAll]; omega)] at hun
        cases hun
    have hr := (hrun k hks us W hS (fun k' hk'' => hf k' (by
      have := hnd' k' hk''
      rw [hse] at this
      exact List.contains_iff_mem.1 this))).out
    have key : ∀ v W', S W' → fact k v W' → Below W.heap.size W W' → (∀ g, v = ptrB g → W.heap.size ≤ g) → wpAnyH P .any ops (NoPanic Q) S (n + f1) (setAll L (k :: sub)) (mk (upd us (slot k) v)) W' := fun v W' hS' hv hb hg => by
      have hother : ∀ k' ∈ sub, upd us (slot k) v (slot k') = us (slot k') := fun k' hk'' => upd_other _ _ _ _ (fun e => by
        have := hslot k' (hsub k' hk'') k hks e
        subst this
        rw [List.contains_iff_mem.2 hk''] at hkn
        cases hkn)
      refine wpAnyH_makers0 mk L ks need slot fact f1 hok hnd hslot hstep hlt hrun htail n (k :: sub) _ W' (by have := leftN_cons sub k hkn ks hnd hks; omega) ?_ ?_ hS' ?_ ?_
      · intro k' hk''
        rcases List.mem_cons.1 hk'' with rfl | hk''
        · exact hks
        · exact hsub k' hk''
      · intro k' hk''
        refine closedP_step ops (setAll L sub) k k' ?_
        rcases List.mem_cons.1 hk'' with rfl | hk''
        · unfold closedP
          rw [hget, List.all_eq_true]
          intro e he
          by_cases hb : Region.binds .any e = true
          · rw [hed e (by simpa using he) hb]; simp
          · simp [hb]
        · exact hcl k' hk''
      · intro k' hk''
        rcases List.mem_cons.1 hk'' with rfl | hk''
        · rw [upd_same]; exact hv
        · rw [hother k' hk'']; exact hstep k' (hsub k' hk'') _ _ _ (hf k' hk'') hb
      · intro k1 m1 k2 m2 hne' g hp hq
        rcases List.mem_cons.1 m1 with e1 | h1
        · rw [e1, upd_same] at hp
          rcases List.mem_cons.1 m2 with e2 | h2
          · exact hne' (e1.trans e2.symm)
          · rw [hother k2 h2] at hq
            have := hf k2 h2
            rw [hq] at this
            have := hlt k2 (hsub k2 h2) _ _ this
            have := hg g hp
            omega
        · rw [hother k1 h1] at hp
          rcases List.mem_cons.1 m2 with e2 | h2
          · rw [e2, upd_same] at hq
            have := hf k1 h1
            rw [hp] at this
            have := hlt k1 (hsub k1 h1) _ _ this
            have := hg g hq
            omega
          · rw [hother k2 h2] at hq
            exact ha k1 h1 k2 h2 hne' g hp hq
    simp only [wpMix0, hget] at hr
    unfold wpOp
    simp only [hoi]
    show (if Region.wanted ok (yielded ops (mk us).tmps) = true then _ else _)
    by_cases hw : Region.wanted ok (yielded ops (mk us).tmps) = true
    · rw [if_pos hw] at hr ⊢
      refine .inl (Oper.wp_mono (fun a' w' hh => ?_) hr)
      obtain ⟨g1, v, rfl, h1, h2, h3⟩ := hh
      exact ⟨g1, key v w' g1 h1 h2 h3⟩
    · rw [if_neg hw] at hr ⊢
      obtain ⟨v, ha', h1, h2, h3⟩ := hr
      rw [ha']
      exact ⟨hS, key v W hS h1 h2 h3⟩
theorem wpAnyH_makers (mk : (Nat → Value) → Act) (ks : List Nat) (need : Nat → List Nat) (slot : Nat → Nat) (fact : Nat → Value → World → Prop) (f1 : Nat) {L : Array Bool} {us : Nat → Value} {W : World}
    (hok : makersOk ops L ks need = true) (hnd : ks.Nodup) (hslot : ∀ k ∈ ks, ∀ k' ∈ ks, slot k = slot k' → k = k')
    (hstep : ∀ k ∈ ks, ∀ v W W', fact k v W → Below W.heap.size W W' → fact k v W') (hlt : ∀ k ∈ ks, ∀ g W, fact k (ptrB g) W → g < W.heap.size) (hS : S W)
    (hrun : ∀ k ∈ ks, ∀ us W, S W → (∀ k' ∈ need k, fact k' (us (slot k')) W) →
      wpMix P ops S Q (fun a W' => ∃ v, a = mk (upd us (slot k) v) ∧ fact k v W' ∧ Below W.heap.size W W' ∧ ∀ g, v = ptrB g → W.heap.size ≤ g) [(ops.getD k default, false)] (mk us) W)
    (htail : ∀ us W, S W → (∀ k ∈ ks, fact k (us (slot k)) W) → (∀ k ∈ ks, ∀ k' ∈ ks, k ≠ k' → ∀ g, us (slot k) = ptrB g → us (slot k') ≠ ptrB g) → wpAnyH P .any ops (NoPanic Q) S f1 (setAll L ks) (mk us) W) :
    wpAnyH P .any ops (NoPanic Q) S (leftN ks [] + f1) L (mk us) W :=
  wpAnyH_makers0 mk L ks need slot fact f1 hok hnd hslot hstep hlt hrun htail _ [] us W rfl (fun k h => by cases h) (fun k h => by cases h) hS (fun k h => by cases h) (fun k h => by cases h)
end
/-- what is known of a value that has come up -/
structure Fc where
  ok : Value → World → Prop
  step : ∀ v W W', ok v W → Below W.heap.size W W' → ok v W'
  lt : ∀ g W, ok (ptrB g) W → g < W.heap.size
def Fc.val (x : Value) (hx : ∀ g, x ≠ ptrB g) : Fc := ⟨fun v _ => v = x, fun _ _ _ h _ => h, fun g _ h => absurd h.symm (hx g)⟩
def putAll (a : Act) (us : Nat → Value) : List Nat → Act
  | [] => a
  | s :: l => (putAll a us l).put (some s) (us s)
theorem wpAnyH_many {P : Program} {ops : Array Oper} {Q : Exit → Act → World → Prop} {S : World → Prop} (ks : List Nat) (need : Nat → List Nat) (slot : Nat → Nat) (fc : Nat → Fc) (slots : List Nat) (f1 : Nat) {L : Array Bool} {a : Act} {W : World} (us0 : Nat → Value)
    (hok : makersOk ops L ks need = true) (hnd : ks.Nodup) (hslot : ∀ k ∈ ks, ∀ k' ∈ ks, slot k = slot k' → k = k') (h0 : putAll a us0 slots = a) (hS : S W)
    (hrun : ∀ k ∈ ks, ∀ us W, S W → (∀ k' ∈ need k, (fc k').ok (us (slot k')) W) →
      wpMix P ops S Q (fun a' W' => ∃ v, a' = putAll a (upd us (slot k) v) slots ∧ (fc k).ok v W' ∧ Below W.heap.size W W' ∧ ∀ g, v = ptrB g → W.heap.size ≤ g) [(ops.getD k default, false)] (putAll a us slots) W)
    (htail : ∀ us W, S W → (∀ k ∈ ks, (fc k).ok (us (slot k)) W) → (∀ k ∈ ks, ∀ k' ∈ ks, k ≠ k' → ∀ g, us (slot k) = ptrB g → us (slot k') ≠ ptrB g) → wpAnyH P .any ops (NoPanic Q) S f1 (setAll L ks) (putAll a us slots) W) :
    wpAnyH P .any ops (NoPanic Q) S (leftN ks [] + f1) L a W := by
  have := wpAnyH_makers (P := P) (Q := Q) (S := S) (fun us => putAll a us slots) ks need slot (fun k => (fc k).ok) f1 (us := us0) hok hnd hslot (fun k _ => (fc k).step) (fun k _ => (fc k).lt) hS hrun htail
  rwa [h0] at this
end Go.Proofs.Ytobcfgbkhgkelaa
/- Points: in boxes, in slices. -/
namespace Go.Proofs.Ytobcfgbkhgkelaa
open Go Go.RowKit

theorem ptAgg : ∀ w : World, (isAgg 28).run Try.prog w = .ok true w := fun _ => by kernel_rfl
theorem ptSize : ∀ w : World, (sizeOf 28).run Try.prog w = .ok 33 w := fun _ => by kernel_rfl
/-- a point's cells -/
abbrev ptcell (p : PtV) : List Value := Value.int .i64 p.1 :: p.2.map B
theorem oneCell_pt (n : Int) (l : List UInt8) : ∀ v ∈ (Value.int .i64 n :: l.map B).toArray.toList, v.oneCell' = true := by
  intro v hv
  simp only [List.mem_cons, List.mem_map] at hv
  rcases hv with rfl | ⟨b, _, rfl⟩ <;> rfl
/-- a point, in its box -/
structure PB (W : World) (g : Nat) (n : Int) (root : List UInt8) : Prop where
  blk : Blk W g 28 (.int .i64 n :: root.map B).toArray
  rl : root.length = 32
section
variable {W W' : World} {g : Nat} {n : Int} {root : List UInt8}
theorem PB.step (h : PB W g n root) (hb : Below W.heap.size W W') : PB W' g n root := ⟨h.blk.step hb, h.rl⟩
theorem PB.far {g' : Nat} (h : PB W g n root) (hb : Below g' W W') (hg : g < g') : PB W' g n root := ⟨h.blk.below hb hg, h.rl⟩
theorem PB.lt (h : PB W g n root) : g < W.heap.size := h.blk.lt
theorem PB.size (h : PB W g n root) : W.cell? ⟨g, 0, none⟩ = some (.int .i64 n) := by rw [h.blk.cell]; rfl
theorem PB.hash (h : PB W g n root) : (Instr.loadAt 26 (.pointer (some ⟨g, 1, none⟩))).run Try.prog W = .ok (.agg (root.map B).toArray) W :=
  run_load_agg (agg26 _) (size26 _) g 1 (root.map B) (by simp [h.rl]) fun j u hu => by
    rw [h.blk.cell, List.getElem?_toArray, show 1 + j = j + 1 by omega, List.getElem?_cons_succ]
    exact hu
theorem PB.load (h : PB W g n root) : (Instr.loadAt 28 (.pointer (some ⟨g, 0, none⟩))).run Try.prog W = .ok (.agg (.int .i64 n :: root.map B).toArray) W :=
  run_load_blk (ptAgg _) (ptSize _) g _ (by simp [h.rl]) h.blk
theorem PB.other {g' : Nat} (h : PB W g' n root) (hne : g' ≠ g) (cs : Array Value) : PB (W.setRow g cs) g' n root := ⟨by
  have := setRow_other W g g' cs hne
  unfold Blk at *
  exact this.trans h.blk, h.rl⟩
end
set_option maxRecDepth 100000 in
theorem wpList_pnv {w : World} {ops : Array Oper} {rest : List Oper} {o1 o2 : Oper} {a : Act} {Q : Exit → Act → World → Prop} {n : Int} {l : List UInt8} (x y : Operand) (hg1 : o1.guard = none) (hg2 : o2.guard = none) (ho1 : o1.op = .alloc 28) (ho2 : o2.op = .store 28 x y)
    (hx : (a.put o1.dst (.pointer (some ⟨w.heap.size, 0, none⟩))).eval x = .pointer (some ⟨w.heap.size, 0, none⟩)) (hy : (a.put o1.dst (.pointer (some ⟨w.heap.size, 0, none⟩))).eval y = .agg (.int .i64 n :: l.map B).toArray) (hl : l.length = 32)
    (h : ∀ W, PB W w.heap.size n l → Below w.heap.size w W → wpList Try.prog ops Q rest ((a.put o1.dst (.pointer (some ⟨w.heap.size, 0, none⟩))).put o2.dst undef) W) : wpList Try.prog ops Q (o1 :: o2 :: rest) a w := by
  refine wpList_run hg1 (.pointer (some ⟨w.heap.size, 0, none⟩)) (w.alloc (.cells (.int .i64 0 :: (List.replicate 32 (0 : UInt8)).map B).toArray 28)) ?_ ?_
  · unfold execOp
    rw [ho1]
    rfl
  · refine wpList_store_blk hg2 28 x y ho2 33 ptSize w.heap.size (.int .i64 n :: l.map B).toArray hx hy (by simp [hl]) (oneCell_pt n l) 28 _ (Blk.new w 28 _) (by simp) ?_
    exact h _ ⟨(Blk.new w 28 _).setRow_ _, hl⟩ (below_setRow ((Below.refl _ _).alloc (Nat.le_refl _) _) (Nat.le_refl _) _)
section
variable {ops : Array Oper} {Q : Exit → Act → World → Prop} {S : World → Prop} {R : Act → World → Prop} {o : Oper} {l : List (Oper × Bool)} {a : Act} {w : World}
set_option maxRecDepth 100000 in
theorem wpMix_pnew (hg : o.guard = none) (ho : o.op = .alloc 28) (hS : ∀ W, Below w.heap.size w W → S W)
    (h : ∀ W, PB W w.heap.size 0 (List.replicate 32 0) → Below w.heap.size w W → wpMix Try.prog ops S Q R l (a.put o.dst (.pointer (some ⟨w.heap.size, 0, none⟩))) W) : wpMix Try.prog ops S Q R ((o, false) :: l) a w := by
  have hb : Below w.heap.size w (w.alloc (.cells (.int .i64 0 :: (List.replicate 32 (0 : UInt8)).map B).toArray 28)) := (Below.refl _ _).alloc (Nat.le_refl _) _
  refine wpMix_run (by simp [Region.wanted, hg]) (.pointer (some ⟨w.heap.size, 0, none⟩)) (w.alloc (.cells (.int .i64 0 :: (List.replicate 32 (0 : UInt8)).map B).toArray 28)) ?_ (hS _ hb) (h _ ⟨Blk.new w 28 _, rfl⟩ hb)
  unfold execOp
  rw [ho]
  rfl
theorem wpMix_pset {n n' : Int} {m m' : List UInt8} {g : Nat} (x y : Operand) (hg : o.guard = none) (ho : o.op = .store 28 x y) (k : PB w g n' m') (hx : a.eval x = .pointer (some ⟨g, 0, none⟩)) (hy : a.eval y = .agg (.int .i64 n :: m.map B).toArray) (hl : m.length = 32) (hS : ∀ W, Below g w W → S W)
    (h : ∀ W, PB W g n m → Below g w W → (∀ g' n' m', g' ≠ g → PB w g' n' m' → PB W g' n' m') → wpMix Try.prog ops S Q R l (a.put o.dst undef) W) : wpMix Try.prog ops S Q R ((o, false) :: l) a w := by
  have hb : Below g w (w.setRow g (.int .i64 n :: m.map B).toArray) := below_setRow (Below.refl _ _) (Nat.le_refl _) _
  exact wpMix_store_blk hg 28 x y ho 33 ptSize g (.int .i64 n :: m.map B).toArray hx hy (by simp [hl]) (oneCell_pt n m) 28 _ k.blk (by simp [k.rl]) (hS _ hb) (h _ ⟨k.blk.setRow_ _, hl⟩ hb fun g' n' m' hne hk => hk.other hne _)
end
/-- a point's variable that comes up among others -/
def Fc.pt (N : Nat) (n : Int) (l : List UInt8) : Fc := ⟨fun v W => ∃ g, v = ptrB g ∧ PB W g n l ∧ N ≤ g, fun _ _ _ ⟨g, h1, h2, h3⟩ hb => ⟨g, h1, h2.step hb, h3⟩, fun g W ⟨g', h1, h2, _⟩ => by cases h1; exact h2.lt⟩

/-- elements of s cells, side by side: one is found -/
theorem flat_at {s : Nat} : ∀ (L : List (List Value)) (_ : ∀ cs ∈ L, cs.length = s) (k j : Nat) (v : Value) (_ : k < L.length) (_ : (L.getD k [])[j]? = some v), L.flatten[k * s + j]? = some v
  | cs :: L, hL, 0, j, v, _, h => by
    have h : cs[j]? = some v := h
    rw [List.flatten_cons, Nat.zero_mul, Nat.zero_add, List.getElem?_append_left (List.getElem?_eq_some_iff.1 h).1]
    exact h
  | cs :: L, hL, k + 1, j, v, hk, h => by
    have hc := hL cs (by simp)
    have := flat_at L (fun x hx => hL x (by simp [hx])) k j v (by simpa using hk) h
    rw [List.flatten_cons, List.getElem?_append_right (by rw [hc, Nat.succ_mul]; omega), hc, show (k + 1) * s + j - s = k * s + j by rw [Nat.succ_mul]; omega]
    exact this
/-- points, side by side -/
def ptcells (ps : List PtV) : List Value := (ps.map ptcell).flatten
def P32 (ps : List PtV) : Prop := ∀ p ∈ ps, p.2.length = 32
structure Pts (w : World) (X : Nat → Prop) (A : Option Addr) (n c : Nat) (ps : List PtV) : Prop where
  sl : SlV w X A n c 33 (ptcells ps)
  len : ps.length = n
  all : P32 ps
theorem ptcells_append (a b : List PtV) : ptcells (a ++ b) = ptcells a ++ ptcells b := by simp [ptcells]
theorem P32.append {a b : List PtV} (h : P32 a) (k : P32 b) : P32 (a ++ b) := fun x hx => (List.mem_append.1 hx).elim (h x) (k x)
theorem P32.getD {ps : List PtV} (h : P32 ps) (k : Nat) (hk : k < ps.length) : (ps.getD k ptD).2.length = 32 := by
  rw [List.getD_eq_getElem?_getD, List.getElem?_eq_getElem hk]
  exact h _ (List.getElem_mem hk)
theorem P32.cell {ps : List PtV} (h : P32 ps) : ∀ cs ∈ ps.map ptcell, cs.length = 33 := fun cs hc => by
  obtain ⟨p, hp, rfl⟩ := List.mem_map.1 hc
  simp [h p hp]
theorem ptcells_len (ps : List PtV) (h : P32 ps) : (ptcells ps).length = ps.length * 33 := by
  unfold ptcells
  rw [flat_len _ h.cell, List.length_map]
theorem oneP (ps : List PtV) : ∀ v ∈ ptcells ps, v.oneCell' = true := fun v hv => by
  obtain ⟨cs, h1, h2⟩ := List.mem_flatten.1 hv
  obtain ⟨p, _, rfl⟩ := List.mem_map.1 h1
  exact oneCell_pt p.1 p.2 v h2
section
variable {w w' : World} {X Y : Nat → Prop} {A : Option Addr} {n c : Nat} {ps : List PtV}
theorem Pts.weak (h : Pts w X A n c ps) (hX : ∀ b, b < w.heap.size → X b → Y b) : Pts w Y A n c ps := ⟨h.sl.weak hX, h.len, h.all⟩
theorem Pts.step (h : Pts w X A n c ps) (hb : Below w.heap.size w w') : Pts w' X A n c ps := ⟨h.sl.step hb, h.len, h.all⟩
theorem Pts.empty : Pts w X none 0 0 [] := ⟨SlV.empty, rfl, fun _ h => absurd h (by simp)⟩
theorem Pts.of_owns {base : Nat} {v : Value} (h : w.ownsRow base 28 33 v n (ptcells ps)) (hn : ps.length = n) (ha : P32 ps) : ∃ A c, v = .slice A n c ∧ Pts w (fun b => base ≤ b ∧ some b = v.ownBlock) A n c ps := by
  obtain ⟨A, c, hv, hs⟩ := owns_slv h
  exact ⟨A, c, hv, hs, hn, ha⟩
/-- where they lie -/
theorem Pts.at_ (h : Pts w X A n c ps) (hn : 0 < n) : ∃ b o, A = some ⟨b, o, none⟩ ∧ b < w.heap.size ∧ X b := by
  obtain ⟨b, o, h1, h2, h3, -⟩ := h.sl.at_ hn (by decide)
  exact ⟨b, o, h1, h2, h3⟩
theorem Pts.cell (h : Pts w X A n c ps) {b o : Nat} (hA : A = some ⟨b, o, none⟩) (i : Nat) (hi : i < n) (j : Nat) (v : Value) (hv : (ptcell (ps.getD i ptD))[j]? = some v) : w.cell? ⟨b, o + i * 33 + j, none⟩ = some v := by
  obtain ⟨b', o', e, -, -, h4⟩ := h.sl.at_ (by omega) (by decide)
  rw [hA] at e
  cases e
  rw [Nat.add_assoc]
  refine h4 _ v (flat_at _ h.all.cell i j v (by rw [List.length_map, h.len]; exact hi) ?_)
  rw [List.getD_eq_getElem?_getD, List.getElem?_map, List.getElem?_eq_getElem (l := ps) (by rw [h.len]; exact hi)]
  rw [List.getD_eq_getElem?_getD, List.getElem?_eq_getElem (l := ps) (by rw [h.len]; exact hi)] at hv
  exact hv
theorem Pts.size (h : Pts w X A n c ps) {b o : Nat} (hA : A = some ⟨b, o, none⟩) (i : Nat) (hi : i < n) : w.cell? ⟨b, o + i * 33, none⟩ = some (.int .i64 (ps.getD i ptD).1) := h.cell hA i hi 0 _ rfl
theorem Pts.load (h : Pts w X A n c ps) {b o : Nat} (hA : A = some ⟨b, o, none⟩) (i : Nat) (hi : i < n) : (Instr.loadAt 28 (.pointer (some ⟨b, o + i * 33, none⟩))).run Try.prog w = .ok (.agg (.int .i64 (ps.getD i ptD).1 :: (ps.getD i ptD).2.map B).toArray) w :=
  run_load_agg (ptAgg _) (ptSize _) b (o + i * 33) (ptcell (ps.getD i ptD)) (by rw [List.length_cons, List.length_map, h.all.getD i (by rw [h.len]; exact hi)]) fun j u hu => h.cell hA i hi j u hu
theorem Pts.root (h : Pts w X A n c ps) {b o : Nat} (hA : A = some ⟨b, o, none⟩) (i : Nat) (hi : i < n) : (Instr.loadAt 26 (.pointer (some ⟨b, o + i * 33 + 1, none⟩))).run Try.prog w = .ok (.agg ((ps.getD i ptD).2.map B).toArray) w :=
  run_load_agg (agg26 _) (size26 _) b (o + i * 33 + 1) ((ps.getD i ptD).2.map B) (by rw [List.length_map, h.all.getD i (by rw [h.len]; exact hi)]) fun j u hu => by
    rw [show o + i * 33 + 1 + j = o + i * 33 + (j + 1) by omega]
    exact h.cell hA i hi (j + 1) u (by rw [List.getElem?_cons_succ]; exact hu)
end
theorem infoPt : (Try.prog.info? 28).map (fun i => (i.zero, i.size, i.bytes)) = some (some (.agg (.int .i64 0 :: (List.replicate 32 (0 : UInt8)).map B).toArray), 33, 40) := by kernel_rfl
/-- a literal of one element, whatever its type -/
theorem run_lit_one {P : Program} {t e : TypeId} {z x : Value} {size bytes : Nat} (hu : P.underlying t = some (.slice e)) (hinfo : (P.info? e).map (fun i => (i.zero, i.size, i.bytes)) = some (some z, size, bytes)) (hx : x.cells.size = size) (h0 : 0 < size) (h1 : size ≤ 1000) (W : World) :
    (Instr.buildSlice t 1 #[(0, x)]).run P W = .ok (.slice (some ⟨W.heap.size, 0, none⟩) 1 1) (W.alloc (.cells x.cells e)) := by
  obtain ⟨i, hi⟩ : ∃ i, P.info? e = some i := by
    cases h : P.info? e with
    | none => rw [h] at hinfo; cases hinfo
    | some i => exact ⟨i, rfl⟩
  rw [hi] at hinfo
  have hz : i.zero = some z := congrArg Prod.fst (Option.some.inj hinfo)
  have hs : i.size = size := congrArg (fun x => x.2.1) (Option.some.inj hinfo)
  refine run_buildSlice (P := P) W t e 1 _ x.cells i z hu hi hz (by rw [hs]; omega) (by rw [hs]; omega) ?_
  have hc : ∀ v ∈ [x], v.cells.size = size := fun v hv => by rw [List.mem_singleton.1 hv]; exact hx
  have hp : (#[(0, x)] : Array (Nat × Value)).toList = ([x].zipIdx 0).map fun x => (x.2, x.1) := rfl
  rw [hp, hs, Great.fill_whole h0 _ _ hc (by simp)]
  simp
theorem run_lit_one_op {P : Program} {ρ : Operand → Value} {o : Oper} {t e : TypeId} {z x : Value} {size bytes : Nat} (hu : P.underlying t = some (.slice e)) (hinfo : (P.info? e).map (fun i => (i.zero, i.size, i.bytes)) = some (some z, size, bytes)) (hx : x.cells.size = size) (h0 : 0 < size) (h1 : size ≤ 1000)
    (y : Operand) (ho : o.op = .buildSlice t 1 #[(0, y)]) (hy : ρ y = x) (W : World) : (execOp ρ o).run P W = .ok (.value (.slice (some ⟨W.heap.size, 0, none⟩) 1 1)) (W.alloc (.cells x.cells e)) := by
  unfold execOp
  have hm : (#[(0, y)] : Array (Nat × Operand)).map (fun (i, x) => (i, ρ x)) = #[(0, x)] := by simp [hy]
  simp only [ho, Sem.run_bind, Sem.run_pure, hm, run_lit_one hu hinfo hx h0 h1 W, Result.andThen_ok]
theorem PB.setRoot {W : World} {g : Nat} {n : Int} {z root : List UInt8} (k : PB W g n z) (hl : root.length = 32) : ∃ W', W.setRow g (((Value.int .i64 n :: z.map B).toArray).toList.take 1 ++ (root.map B).toArray.toList ++ ((Value.int .i64 n :: z.map B).toArray).toList.drop (1 + 32)).toArray = W' ∧ PB W' g n root ∧ Below g W W' := by
  refine ⟨_, rfl, ⟨?_, hl⟩, below_setRow (Below.refl _ _) (Nat.le_refl _) _⟩
  have e : (((Value.int .i64 n :: z.map B).toArray).toList.take 1 ++ (root.map B).toArray.toList ++ ((Value.int .i64 n :: z.map B).toArray).toList.drop (1 + 32)) = Value.int .i64 n :: root.map B := by
    have : (z.map B).drop 32 = [] := List.drop_of_length_le (by rw [List.length_map, k.rl]; exact Nat.le_refl _)
    simp [this]
  rw [e]
  exact k.blk.setRow_ _
end Go.Proofs.Ytobcfgbkhgkelaa
