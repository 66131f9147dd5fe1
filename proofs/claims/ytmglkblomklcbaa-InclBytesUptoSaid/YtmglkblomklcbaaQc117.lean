/- notarylaw09.TreeNumbers. -/
import Derived.Test.YtmglkblomklcbaaQc116
namespace Go.Proofs.Ytmglkblomklcbaa
open Go Go.RowKit

/-- the path of a number, or the refusal -/
def pathA (i n : Int) : List (Nat × Nat) × Int := if i < 0 ∨ n ≤ i then ([], 4) else (pathL i.toNat 0 n.toNat, 0)
def stepsA (m n : Int) : List (Nat × Nat) × Int := if m < 0 ∨ n < m then ([], 4) else if m = 0 then ([], 0) else (stepsL m.toNat 0 n.toNat true, 0)
theorem pathA_len (i n : Int) (hn : n ≤ 9223372036854775807) : (pathA i n).1.length ≤ 64 := by
  unfold pathA
  split
  · simp
  · have := pathL_len 63 i.toNat 0 n.toNat (by omega)
    simp only; omega
theorem stepsA_len (i n : Int) (hn : n ≤ 9223372036854775807) : (stepsA i n).1.length ≤ 64 := by
  unfold stepsA
  split
  · simp
  · split
    · simp
    · exact stepsL_len 63 i.toNat 0 n.toNat true (by omega) (by omega) (by omega)
theorem PtC.none_ {w w' : World} (h : Below w.heap.size w w') : PtC w [] (.slice none 0 0) w' := ⟨World.ownsRow_nil _ _ _ _, h⟩
theorem tpathA_any (i n : Int) (w : World) (hn : n ≤ 9223372036854775807) :
    Calls Try.prog 37 #[.int .i64 i, .int .i64 n] w fun e w' => ∃ v, e = .returned (.tuple #[v, .int .i64 (pathA i n).2]) ∧ PtC w (pathA i n).1 v w' := by
  unfold pathA
  by_cases h : i < 0 ∨ n ≤ i
  · rw [if_pos h]
    exact (tpath_bad i n w h).mono fun e w' ⟨he, hw⟩ => ⟨_, he, by subst hw; exact PtC.none_ (Below.refl _ _)⟩
  · rw [if_neg h]
    have := tpath_ok i.toNat n.toNat w (by omega) (by omega)
    rw [show ((i.toNat : Nat) : Int) = i by omega, show ((n.toNat : Nat) : Int) = n by omega] at this
    exact this.mono fun e w' ⟨v, he, h1, h2⟩ => ⟨v, he, h1, h2⟩
/-- what a call has told, between two marks of memory -/
structure IvR (W : World) (lo hi : Nat) (v : Value) (os : List (Nat × Nat)) : Prop where
  own : W.ownsRow lo 68 2 v os.length (rcells (natR os))
  lt : ∀ g, v.ownBlock = some g → g < hi
theorem IvR.of_pt {w W : World} {os : List (Nat × Nat)} {v : Value} (h : PtC w os v W) : IvR W w.heap.size W.heap.size v os := ⟨h.own, fun g hg => (h.own.lt g hg).2⟩
theorem IvR.step {W W' : World} {lo hi : Nat} {v : Value} {os : List (Nat × Nat)} (h : IvR W lo hi v os) (hb : Below W.heap.size W W') : IvR W' lo hi v os := ⟨owns_step h.own hb, h.lt⟩
theorem IvR.grown {W W' : World} {lo hi : Nat} {v : Value} {os : List (Nat × Nat)} {row : Option Nat} (h : IvR W lo hi v os) (hg : W.grownBy W' row) (hr : ∀ g, row = some g → g < lo ∨ hi ≤ g) : IvR W' lo hi v os := by
  refine ⟨h.own.kept hg ?_, h.lt⟩
  cases hv : v.ownBlock with
  | none => exact .inl rfl
  | some g =>
    refine .inr fun e => ?_
    have h1 := (h.own.lt g hv).1
    have h2 := h.lt g hv
    have := hr g e.symm
    omega
theorem IvR.rs {W : World} {lo hi : Nat} {v : Value} {os : List (Nat × Nat)} (h : IvR W lo hi v os) : ∃ A c, v = .slice A os.length c ∧ Rs W (fun _ => True) A os.length c (natR os) := by
  obtain ⟨A, c, hv, hs⟩ := Rs.of_owns h.own (natR_length os)
  exact ⟨A, c, hv, hs.weak fun _ _ _ => trivial⟩

end Go.Proofs.Ytmglkblomklcbaa
/- The roots of the stretches that show that one list goes on another (plain). -/
namespace Go.Proofs.Ytmglkblomklcbaa
open Go Go.RowKit

theorem stepsA_each (m : Int) (n : Nat) : ∀ x ∈ (stepsA m n).1, x.1 < x.2 ∧ x.2 ≤ n := by
  intro x hx
  unfold stepsA at hx
  split at hx
  · cases hx
  · rename_i h1
    split at hx
    · cases hx
    · rename_i h2
      have := (stepsL_ok n m.toNat 0 n true (Nat.le_refl _) (by omega) (by omega)).each x (by simpa using hx)
      omega
theorem stretchR_nat (hs : List (List UInt8)) (a b : Nat) (h1 : a < b) (h2 : b ≤ hs.length) : stretchR hs (a : Int) (b : Int) = (stretchL hs a b, 0) := by
  unfold stretchR
  rw [if_pos ⟨by omega, by omega, by omega⟩, Int.toNat_natCast, Int.toNat_natCast]
theorem steps_good (hs : List (List UInt8)) (m : Int) : goodL hs (natR (stepsA m hs.length).1) = natR (stepsA m hs.length).1 := by
  unfold goodL
  rw [List.filter_eq_self]
  intro y hy
  unfold natR at hy
  obtain ⟨x, hx, rfl⟩ := List.mem_map.1 hy
  obtain ⟨h1, h2⟩ := stepsA_each m hs.length x hx
  unfold okR
  rw [stretchR_nat hs x.1 x.2 h1 h2]
  rfl
def rootsS (hs : List (List UInt8)) (m : Int) : List (List UInt8) := rootsL hs (stepsA m hs.length).1
theorem length_natR (l : List (Nat × Nat)) : (natR l).length = l.length := by simp [natR]
theorem length_rootsS (hs : List (List UInt8)) (m : Int) : (rootsS hs m).length = (stepsA m hs.length).1.length := by simp [rootsS, rootsL]
theorem rootsS_all (hs : List (List UInt8)) (h : H32 hs) (m : Int) : H32 (rootsS hs m) := rootsL_all hs h _
theorem rootsS_at (hs : List (List UInt8)) (m : Int) (k : Nat) (h : k < (stepsA m hs.length).1.length) : (stretchR hs ((natR (stepsA m hs.length).1).getD k (0, 0)).1 ((natR (stepsA m hs.length).1).getD k (0, 0)).2).1 = (rootsS hs m).getD k [] := by
  obtain ⟨h1, h2⟩ := stepsA_each m hs.length _ (List.getElem_mem h)
  unfold natR rootsS rootsL
  rw [List.getD_eq_getElem?_getD, List.getElem?_map, List.getD_eq_getElem?_getD, List.getElem?_map, List.getElem?_eq_getElem h]
  simp only [Option.map_some, Option.getD_some]
  rw [stretchR_nat hs _ _ h1 h2]
theorem take_snocH (l : List (List UInt8)) (k : Nat) (h : k < l.length) : l.take (k + 1) = l.take k ++ [l.getD k []] := by
  rw [List.take_succ_eq_append_getElem h, List.getD_eq_getElem?_getD, List.getElem?_eq_getElem h]; rfl
theorem rootsS_bad (hs : List (List UInt8)) (m : Int) (h : (stepsA m hs.length).2 ≠ 0) : rootsS hs m = [] := by
  unfold rootsS stepsA at *
  split
  · rfl
  · rename_i h1
    rw [if_neg h1] at h
    split at h <;> exact absurd rfl h
theorem stepsA_e (m n : Int) : (stepsA m n).2 = 0 ∨ (stepsA m n).2 = 4 := by
  unfold stepsA
  split
  · exact .inr rfl
  · split <;> exact .inl rfl
end Go.Proofs.Ytmglkblomklcbaa
/- The way up from a leaf (plain). -/
namespace Go.Proofs.Ytmglkblomklcbaa
open Go Go.RowKit

abbrev StepV := (Nat × Nat) × List UInt8
def lastH (l : List StepV) : List UInt8 := (l.getLastD ((0, 0), [])).2
theorem lastH_snoc (l : List StepV) (x : StepV) : lastH (l ++ [x]) = x.2 := by simp [lastH]
/-- the way of the entry i of the stretch from a to b, by a proof -/
def upF : Nat → List UInt8 → Nat → Nat → Nat → List (List UInt8) → List StepV
  | 0, leaf, _, a, b, _ => [((a, b), leaf)]
  | f + 1, leaf, i, a, b, p =>
    if b - a < 2 then [((a, b), leaf)]
    else if i < a + splitN (b - a) then upF f leaf i a (a + splitN (b - a)) p.dropLast ++ [((a, b), hNode (lastH (upF f leaf i a (a + splitN (b - a)) p.dropLast)) (p.getD (p.length - 1) []))]
    else upF f leaf i (a + splitN (b - a)) b p.dropLast ++ [((a, b), hNode (p.getD (p.length - 1) []) (lastH (upF f leaf i (a + splitN (b - a)) b p.dropLast)))]
theorem upF_enough : ∀ (f g : Nat) (leaf : List UInt8) (i a b : Nat) (p : List (List UInt8)), b - a ≤ f → b - a ≤ g → upF f leaf i a b p = upF g leaf i a b p
  | 0, 0, _, _, _, _, _, _, _ => rfl
  | 0, g + 1, _, _, _, _, _, h, _ => by simp only [upF]; rw [if_pos (by omega)]
  | f + 1, 0, _, _, _, _, _, _, h => by simp only [upF]; rw [if_pos (by omega)]
  | f + 1, g + 1, leaf, i, a, b, p, h1, h2 => by
    simp only [upF]
    split
    · rfl
    · rename_i h3
      have hl := splitN_lt (b - a) (by omega)
      have hp := splitN_pos (b - a) (by omega)
      rw [upF_enough f g leaf i a (a + splitN (b - a)) _ (by omega) (by omega), upF_enough f g leaf i (a + splitN (b - a)) b _ (by omega) (by omega)]
def upL (leaf : List UInt8) (i a b : Nat) (p : List (List UInt8)) : List StepV := upF (b - a) leaf i a b p
theorem upL_small (leaf : List UInt8) (i a b : Nat) (p : List (List UInt8)) (h : b - a < 2) : upL leaf i a b p = [((a, b), leaf)] := by
  unfold upL
  rw [upF_enough (b - a) (b - a + 1) leaf i a b p (Nat.le_refl _) (by omega), upF, if_pos h]
theorem upL_left (leaf : List UInt8) (i a b : Nat) (p : List (List UInt8)) (h : 2 ≤ b - a) (hi : i < a + splitN (b - a)) : upL leaf i a b p = upL leaf i a (a + splitN (b - a)) p.dropLast ++ [((a, b), hNode (lastH (upL leaf i a (a + splitN (b - a)) p.dropLast)) (p.getD (p.length - 1) []))] := by
  have hl := splitN_lt (b - a) (by omega)
  unfold upL
  rw [upF_enough (b - a) (b - a + 1) leaf i a b p (Nat.le_refl _) (by omega), upF, if_neg (by omega), if_pos hi, upF_enough (b - a) (a + splitN (b - a) - a) leaf i a (a + splitN (b - a)) _ (by omega) (Nat.le_refl _)]
theorem upL_right (leaf : List UInt8) (i a b : Nat) (p : List (List UInt8)) (h : 2 ≤ b - a) (hi : ¬ i < a + splitN (b - a)) : upL leaf i a b p = upL leaf i (a + splitN (b - a)) b p.dropLast ++ [((a, b), hNode (p.getD (p.length - 1) []) (lastH (upL leaf i (a + splitN (b - a)) b p.dropLast)))] := by
  have hp := splitN_pos (b - a) (by omega)
  unfold upL
  rw [upF_enough (b - a) (b - a + 1) leaf i a b p (Nat.le_refl _) (by omega), upF, if_neg (by omega), if_neg hi, upF_enough (b - a) (b - (a + splitN (b - a))) leaf i (a + splitN (b - a)) b _ (by omega) (Nat.le_refl _)]
/-- as many steps as hashes, and one -/
theorem length_upL (leaf : List UInt8) (d : Nat) : ∀ (i a b : Nat) (p : List (List UInt8)), b - a ≤ d → a ≤ i → i < b → (upL leaf i a b p).length = (pathL i a b).length + 1 := by
  induction d with
  | zero => intro i a b p h h1 h2; omega
  | succ d ih =>
    intro i a b p h h1 h2
    by_cases hs : b - a < 2
    · rw [upL_small leaf i a b p hs, pathL_small i a b hs]; rfl
    · have hl := splitN_lt (b - a) (by omega)
      have hp := splitN_pos (b - a) (by omega)
      by_cases hi : i < a + splitN (b - a)
      · rw [upL_left leaf i a b p (by omega) hi, pathL_left i a b (by omega) hi, List.length_append, List.length_append, ih i a (a + splitN (b - a)) _ (by omega) h1 hi]; rfl
      · rw [upL_right leaf i a b p (by omega) hi, pathL_right i a b (by omega) hi, List.length_append, List.length_append, ih i (a + splitN (b - a)) b _ (by omega) (by omega) h2]; rfl
theorem upL_all (leaf : List UInt8) (hlf : leaf.length = 32) (d : Nat) : ∀ (i a b : Nat) (p : List (List UInt8)), b - a ≤ d → ∀ s ∈ upL leaf i a b p, s.2.length = 32 := by
  induction d with
  | zero => intro i a b p h s hs; rw [upL_small leaf i a b p (by omega)] at hs; rw [List.mem_singleton.1 hs]; exact hlf
  | succ d ih =>
    intro i a b p h s hs
    by_cases h2 : b - a < 2
    · rw [upL_small leaf i a b p h2] at hs; rw [List.mem_singleton.1 hs]; exact hlf
    · have hl := splitN_lt (b - a) (by omega)
      have hp := splitN_pos (b - a) (by omega)
      by_cases hi : i < a + splitN (b - a)
      · rw [upL_left leaf i a b p (by omega) hi] at hs
        rcases List.mem_append.1 hs with h1 | h1
        · exact ih i a (a + splitN (b - a)) _ (by omega) s h1
        · rw [List.mem_singleton.1 h1]; exact length_hNode _ _
      · rw [upL_right leaf i a b p (by omega) hi] at hs
        rcases List.mem_append.1 hs with h1 | h1
        · exact ih i (a + splitN (b - a)) b _ (by omega) s h1
        · rw [List.mem_singleton.1 h1]; exact length_hNode _ _
/-- the last step is the whole stretch -/
theorem upL_last (leaf : List UInt8) (i a b : Nat) (p : List (List UInt8)) : ∃ l x, upL leaf i a b p = l ++ [((a, b), x)] := by
  by_cases h2 : b - a < 2
  · exact ⟨[], leaf, upL_small leaf i a b p h2⟩
  · by_cases hi : i < a + splitN (b - a)
    · exact ⟨_, _, upL_left leaf i a b p (by omega) hi⟩
    · exact ⟨_, _, upL_right leaf i a b p (by omega) hi⟩
def rootsP (hs : List (List UInt8)) (i : Int) : List (List UInt8) := rootsL hs (pathA i hs.length).1
/-- what incl.way and the document's Up answer -/
def wayA (leaf : List UInt8) (i n : Int) (p : List (List UInt8)) : List StepV × Int :=
  if (pathA i n).2 ≠ 0 then ([], (pathA i n).2) else if (pathA i n).1.length ≠ p.length then ([], 210) else (upL leaf i.toNat 0 n.toNat p, 0)
/-- the root that a proof leads to -/
def fromA (leaf : List UInt8) (i n : Int) (p : List (List UInt8)) : List UInt8 × Int :=
  if (wayA leaf i n p).2 ≠ 0 then (List.replicate 32 0, (wayA leaf i n p).2) else (lastH (wayA leaf i n p).1, 0)
def takenA (leaf : List UInt8) (i n : Int) (root : List UInt8) (p : List (List UInt8)) : Int :=
  if (fromA leaf i n p).2 ≠ 0 then (fromA leaf i n p).2 else if (fromA leaf i n p).1 ≠ root then 210 else 0
/-- the proof leads to the root -/
theorem upL_roots (hs : List (List UInt8)) (d : Nat) : ∀ (i a b : Nat), b - a ≤ d → a ≤ i → i < b → b ≤ hs.length → ∀ s ∈ upL (hs.getD i []) i a b (rootsL hs (pathL i a b)), s.2 = stretchL hs s.1.1 s.1.2 ∧ a ≤ s.1.1 ∧ s.1.2 ≤ b := by
  induction d with
  | zero => intro i a b h h1 h2; omega
  | succ d ih =>
    intro i a b h h1 h2 hb s hs'
    by_cases h3 : b - a < 2
    · rw [upL_small _ i a b _ h3] at hs'
      rw [List.mem_singleton.1 hs']
      refine ⟨?_, Nat.le_refl _, Nat.le_refl _⟩
      show hs.getD i [] = stretchL hs a b
      unfold stretchL
      obtain rfl : a = i := by omega
      rw [show b - a = 1 by omega, List.drop_eq_getElem_cons (by omega), List.getD_eq_getElem?_getD, List.getElem?_eq_getElem (by omega)]
      rfl
    · have hl := splitN_lt (b - a) (by omega)
      have hp := splitN_pos (b - a) (by omega)
      have hsp : stretchL hs a b = hNode (stretchL hs a (a + splitN (b - a))) (stretchL hs (a + splitN (b - a)) b) := by
        unfold stretchL
        have hlen : ((hs.drop a).take (b - a)).length = b - a := by rw [List.length_take, List.length_drop]; omega
        rw [rootL_more ((hs.drop a).take (b - a)) (by rw [hlen]; omega), hlen, List.take_take, Nat.min_eq_left (by omega), List.drop_take, List.drop_drop, show a + splitN (b - a) - a = splitN (b - a) by omega, show b - (a + splitN (b - a)) = b - a - splitN (b - a) by omega]
      have snoc : ∀ (l : List (Nat × Nat)) (x : Nat × Nat), rootsL hs (l ++ [x]) = rootsL hs l ++ [stretchL hs x.1 x.2] := fun l x => by simp [rootsL]
      have lst : ∀ (l : List (List UInt8)) (x : List UInt8), (l ++ [x]).getD ((l ++ [x]).length - 1) [] = x := fun l x => by simp [List.getD_eq_getElem?_getD]
      have hlast : ∀ (i a b : Nat), b - a ≤ d → a ≤ i → i < b → b ≤ hs.length → lastH (upL (hs.getD i []) i a b (rootsL hs (pathL i a b))) = stretchL hs a b := fun i a b h1 h2 h3 h4 => by
        obtain ⟨l, x, e⟩ := upL_last (hs.getD i []) i a b (rootsL hs (pathL i a b))
        have := (ih i a b h1 h2 h3 h4 ((a, b), x) (by rw [e]; simp)).1
        rw [e, lastH_snoc]
        exact this
      by_cases hi : i < a + splitN (b - a)
      · rw [upL_left _ i a b _ (by omega) hi, pathL_left i a b (by omega) hi, snoc, List.dropLast_concat, lst, hlast i a (a + splitN (b - a)) (by omega) h1 hi (by omega)] at hs'
        rcases List.mem_append.1 hs' with h4 | h4
        · obtain ⟨e1, e2, e3⟩ := ih i a (a + splitN (b - a)) (by omega) h1 hi (by omega) s h4
          exact ⟨e1, e2, by omega⟩
        · rw [List.mem_singleton.1 h4]
          exact ⟨hsp.symm, Nat.le_refl _, Nat.le_refl _⟩
      · rw [upL_right _ i a b _ (by omega) hi, pathL_right i a b (by omega) hi, snoc, List.dropLast_concat, lst, hlast i (a + splitN (b - a)) b (by omega) (by omega) h2 hb] at hs'
        rcases List.mem_append.1 hs' with h4 | h4
        · obtain ⟨e1, e2, e3⟩ := ih i (a + splitN (b - a)) b (by omega) (by omega) h2 hb s h4
          exact ⟨e1, by omega, e3⟩
        · rw [List.mem_singleton.1 h4]
          exact ⟨hsp.symm, Nat.le_refl _, Nat.le_refl _⟩
end Go.Proofs.Ytmglkblomklcbaa
/- The roots of the stretches of an audit path (plain). -/
namespace Go.Proofs.Ytmglkblomklcbaa
open Go Go.RowKit

theorem pathA_each (m : Int) (n : Nat) : ∀ x ∈ (pathA m n).1, x.1 < x.2 ∧ x.2 ≤ n := by
  intro x hx
  unfold pathA at hx
  split at hx
  · cases hx
  · rename_i h1
    have := (pathL_ok n m.toNat 0 n (by omega) (by omega) (by omega)).each x (by simpa using hx)
    omega
theorem path_good (hs : List (List UInt8)) (m : Int) : goodL hs (natR (pathA m hs.length).1) = natR (pathA m hs.length).1 := by
  unfold goodL
  rw [List.filter_eq_self]
  intro y hy
  unfold natR at hy
  obtain ⟨x, hx, rfl⟩ := List.mem_map.1 hy
  obtain ⟨h1, h2⟩ := pathA_each m hs.length x hx
  unfold okR
  rw [stretchR_nat hs x.1 x.2 h1 h2]
  rfl
theorem length_rootsP (hs : List (List UInt8)) (m : Int) : (rootsP hs m).length = (pathA m hs.length).1.length := by simp [rootsP, rootsL]
theorem rootsP_all (hs : List (List UInt8)) (h : H32 hs) (m : Int) : H32 (rootsP hs m) := rootsL_all hs h _
theorem rootsP_at (hs : List (List UInt8)) (m : Int) (k : Nat) (h : k < (pathA m hs.length).1.length) : (stretchR hs ((natR (pathA m hs.length).1).getD k (0, 0)).1 ((natR (pathA m hs.length).1).getD k (0, 0)).2).1 = (rootsP hs m).getD k [] := by
  obtain ⟨h1, h2⟩ := pathA_each m hs.length _ (List.getElem_mem h)
  unfold natR rootsP rootsL
  rw [List.getD_eq_getElem?_getD, List.getElem?_map, List.getD_eq_getElem?_getD, List.getElem?_map, List.getElem?_eq_getElem h]
  simp only [Option.map_some, Option.getD_some]
  rw [stretchR_nat hs _ _ h1 h2]
theorem rootsP_bad (hs : List (List UInt8)) (m : Int) (h : (pathA m hs.length).2 ≠ 0) : rootsP hs m = [] := by
  unfold rootsP pathA at *
  split
  · rfl
  · rename_i h1
    rw [if_neg h1] at h
    exact absurd rfl h
theorem pathA_e (m n : Int) : (pathA m n).2 = 0 ∨ (pathA m n).2 = 4 := by
  unfold pathA
  split
  · exact .inr rfl
  · exact .inl rfl
end Go.Proofs.Ytmglkblomklcbaa
