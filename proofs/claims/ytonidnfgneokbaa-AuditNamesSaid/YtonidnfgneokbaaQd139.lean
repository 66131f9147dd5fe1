/- What paths and steps cover. No program in sight. -/
import Derived.Test.YtonidnfgneokbaaQd111
import Derived.Test.YtonidnfgneokbaaQd110
namespace Go.Proofs.Ytonidnfgneokbaa

def spanSum (l : List (Nat × Nat)) : Nat := (l.map fun x => x.2 - x.1).sum
theorem spanSum_append (l m : List (Nat × Nat)) : spanSum (l ++ m) = spanSum l + spanSum m := by simp [spanSum]
theorem spanSum_one (x : Nat × Nat) : spanSum [x] = x.2 - x.1 := by simp [spanSum]
def apartR (x y : Nat × Nat) : Prop := x.2 ≤ y.1 ∨ y.2 ≤ x.1

structure PathOk (i a b : Nat) (l : List (Nat × Nat)) : Prop where
  each : ∀ x ∈ l, a ≤ x.1 ∧ x.1 < x.2 ∧ x.2 ≤ b ∧ (x.2 ≤ i ∨ i < x.1)
  sum : spanSum l + 1 = b - a
  apart : l.Pairwise apartR
theorem pathL_ok (d : Nat) : ∀ i a b : Nat, b - a ≤ d → a ≤ i → i < b → PathOk i a b (pathL i a b) := by
  induction d with
  | zero => intro i a b h h1 h2; omega
  | succ d ih =>
    intro i a b h h1 h2
    by_cases hb : b - a < 2
    · rw [pathL_small i a b hb]
      exact ⟨by simp, by simp [spanSum]; omega, List.Pairwise.nil⟩
    · have hl := splitN_lt (b - a) (by omega)
      have hp := splitN_pos (b - a) (by omega)
      by_cases hi : i < a + splitN (b - a)
      · rw [pathL_left i a b (by omega) hi]
        have hr := ih i a (a + splitN (b - a)) (by omega) h1 hi
        refine ⟨fun x hx => ?_, ?_, ?_⟩
        · rcases List.mem_append.1 hx with hx | hx
          · obtain ⟨g1, g2, g3, g4⟩ := hr.each x hx
            exact ⟨g1, g2, by omega, g4⟩
          · rw [List.mem_singleton.1 hx]
            exact ⟨by show a ≤ a + _; omega, by show a + _ < b; omega, Nat.le_refl _, .inr hi⟩
        · rw [spanSum_append, spanSum_one]
          have := hr.sum
          show spanSum _ + (b - (a + splitN (b - a))) + 1 = b - a
          omega
        · refine List.pairwise_append.2 ⟨hr.apart, List.pairwise_singleton _ _, fun x hx y hy => ?_⟩
          rw [List.mem_singleton.1 hy]
          exact .inl (hr.each x hx).2.2.1
      · rw [pathL_right i a b (by omega) hi]
        have hr := ih i (a + splitN (b - a)) b (by omega) (by omega) h2
        refine ⟨fun x hx => ?_, ?_, ?_⟩
        · rcases List.mem_append.1 hx with hx | hx
          · obtain ⟨g1, g2, g3, g4⟩ := hr.each x hx
            exact ⟨by omega, g2, g3, g4⟩
          · rw [List.mem_singleton.1 hx]
            exact ⟨Nat.le_refl _, by show a < a + _; omega, by show a + _ ≤ b; omega, .inl (by show a + _ ≤ i; omega)⟩
        · rw [spanSum_append, spanSum_one]
          have := hr.sum
          show spanSum _ + (a + splitN (b - a) - a) + 1 = b - a
          omega
        · refine List.pairwise_append.2 ⟨hr.apart, List.pairwise_singleton _ _, fun x hx y hy => ?_⟩
          rw [List.mem_singleton.1 hy]
          exact .inr (hr.each x hx).1
theorem pathL_len (d : Nat) : ∀ i a b : Nat, b - a ≤ 2 ^ d → (pathL i a b).length ≤ d := by
  induction d with
  | zero => intro i a b h; rw [pathL_small i a b (by omega)]; simp
  | succ d ih =>
    intro i a b h
    by_cases hb : b - a < 2
    · rw [pathL_small i a b hb]; simp
    · obtain ⟨j, h1, h2, h3⟩ := splitN_pow (b - a) (by omega)
      have hj : j ≤ d := by
        have : 2 ^ j < 2 ^ (d + 1) := by omega
        have := (Nat.pow_lt_pow_iff_right (a := 2) (by decide)).1 this
        omega
      have hjd : 2 ^ j ≤ 2 ^ d := Nat.pow_le_pow_right (by decide) hj
      have e : 2 ^ (j + 1) = 2 * 2 ^ j := by rw [Nat.pow_succ]; omega
      by_cases hi : i < a + splitN (b - a)
      · rw [pathL_left i a b (by omega) hi, List.length_append]
        have := ih i a (a + splitN (b - a)) (by omega)
        simp; omega
      · rw [pathL_right i a b (by omega) hi, List.length_append]
        have := ih i (a + splitN (b - a)) b (by omega)
        simp; omega

/-- from a stretch up, each time one that is beside it -/
def upP : Nat × Nat → List (Nat × Nat) → Option (Nat × Nat)
  | p, [] => some p
  | p, x :: l => if x.2 = p.1 then upP (x.1, p.2) l else if x.1 = p.2 then upP (p.1, x.2) l else none
theorem upP_snoc (x : Nat × Nat) : ∀ (l : List (Nat × Nat)) (p q : Nat × Nat), upP p l = some q → upP p (l ++ [x]) = upP q [x]
  | [], p, q, h => by cases h; rfl
  | y :: l, p, q, h => by
    simp only [List.cons_append, upP] at h ⊢
    split at h
    · rename_i g; rw [if_pos g]; exact upP_snoc x l _ q h
    · rename_i g
      split at h
      · rename_i g'; rw [if_neg g, if_pos g']; exact upP_snoc x l _ q h
      · cases h
theorem pathL_up (d : Nat) : ∀ i a b : Nat, b - a ≤ d → a ≤ i → i < b → upP (i, i + 1) (pathL i a b) = some (a, b) := by
  induction d with
  | zero => intro i a b h h1 h2; omega
  | succ d ih =>
    intro i a b h h1 h2
    by_cases hb : b - a < 2
    · rw [pathL_small i a b hb]
      have e1 : i = a := by omega
      have e2 : i + 1 = b := by omega
      rw [upP, e2, e1]
    · have hl := splitN_lt (b - a) (by omega)
      have hp := splitN_pos (b - a) (by omega)
      by_cases hi : i < a + splitN (b - a)
      · rw [pathL_left i a b (by omega) hi, upP_snoc _ _ _ _ (ih i a _ (by omega) h1 hi)]
        simp only [upP]
        rw [if_neg (by omega)]
        simp
      · rw [pathL_right i a b (by omega) hi, upP_snoc _ _ _ _ (ih i _ b (by omega) (by omega) h2)]
        simp [upP]

/-- what lies within [0, m), what behind -/
def withinSum (m : Nat) (l : List (Nat × Nat)) : Nat := spanSum (l.filter fun x => decide (x.2 ≤ m))
def behindSum (m : Nat) (l : List (Nat × Nat)) : Nat := spanSum (l.filter fun x => !decide (x.2 ≤ m))
theorem withinSum_append (m : Nat) (l k : List (Nat × Nat)) : withinSum m (l ++ k) = withinSum m l + withinSum m k := by simp [withinSum, spanSum_append]
theorem behindSum_append (m : Nat) (l k : List (Nat × Nat)) : behindSum m (l ++ k) = behindSum m l + behindSum m k := by simp [behindSum, spanSum_append]
theorem withinSum_one (m : Nat) (x : Nat × Nat) : withinSum m [x] = if x.2 ≤ m then x.2 - x.1 else 0 := by
  by_cases h : x.2 ≤ m <;> simp [withinSum, spanSum, h]
theorem behindSum_one (m : Nat) (x : Nat × Nat) : behindSum m [x] = if x.2 ≤ m then 0 else x.2 - x.1 := by
  by_cases h : x.2 ≤ m <;> simp [behindSum, spanSum, h]

structure StepsOk (m a n : Nat) (whole : Bool) (l : List (Nat × Nat)) : Prop where
  each : ∀ x ∈ l, a ≤ x.1 ∧ x.1 < x.2 ∧ x.2 ≤ a + n ∧ (x.2 ≤ a + m ∨ a + m ≤ x.1)
  apart : l.Pairwise apartR
  behind : behindSum (a + m) l = n - m
  within : withinSum (a + m) l = m ∨ (withinSum (a + m) l = 0 ∧ whole = true ∧ (m = n ∨ ∃ j, m = 2 ^ j))
theorem stepsL_ok (d : Nat) : ∀ (m a n : Nat) (whole : Bool), n ≤ d → 1 ≤ m → m ≤ n → StepsOk m a n whole (stepsL m a n whole) := by
  induction d with
  | zero => intro m a n whole h h1 h2; omega
  | succ d ih =>
    intro m a n whole h h1 h2
    by_cases hmn : m = n
    · subst hmn
      rw [stepsL_eq m a whole h1]
      cases whole with
      | true => exact ⟨by simp, by simp, by simp [behindSum, spanSum], .inr ⟨by simp [withinSum, spanSum], rfl, .inl rfl⟩⟩
      | false =>
        refine ⟨?_, by simp, ?_, .inl ?_⟩
        · simp only [Bool.false_eq_true, if_false, List.mem_singleton]
          rintro x rfl
          exact ⟨Nat.le_refl _, by show a < a + m; omega, Nat.le_refl _, .inl (Nat.le_refl _)⟩
        · simp [behindSum_one]
        · simp [withinSum_one]
    · have hl := splitN_lt n (by omega)
      have hp := splitN_pos n (by omega)
      by_cases hk : m ≤ splitN n
      · rw [stepsL_left m a n whole h1 (by omega) hk]
        have hr := ih m a (splitN n) whole (by omega) h1 hk
        have hx2 : ¬ a + n ≤ a + m := by omega
        refine ⟨fun x hx => ?_, ?_, ?_, ?_⟩
        · rcases List.mem_append.1 hx with hx | hx
          · obtain ⟨g1, g2, g3, g4⟩ := hr.each x hx
            exact ⟨g1, g2, by omega, g4⟩
          · rw [List.mem_singleton.1 hx]
            exact ⟨by show a ≤ a + splitN n; omega, by show a + splitN n < a + n; omega, Nat.le_refl _, .inr (by show a + m ≤ a + splitN n; omega)⟩
        · refine List.pairwise_append.2 ⟨hr.apart, List.pairwise_singleton _ _, fun x hx y hy => ?_⟩
          rw [List.mem_singleton.1 hy]
          exact .inl (hr.each x hx).2.2.1
        · rw [behindSum_append, behindSum_one, hr.behind, if_neg hx2]
          show splitN n - m + (a + n - (a + splitN n)) = n - m
          omega
        · rw [withinSum_append, withinSum_one, if_neg hx2]
          rcases hr.within with g | ⟨g1, g2, g3⟩
          · exact .inl (by omega)
          · refine .inr ⟨by omega, g2, .inr ?_⟩
            rcases g3 with g3 | g3
            · obtain ⟨j, hj, _, _⟩ := splitN_pow n (by omega)
              exact ⟨j, by omega⟩
            · exact g3
      · rw [stepsL_right m a n whole h1 (by omega) hk]
        have hr := ih (m - splitN n) (a + splitN n) (n - splitN n) false (by omega) (by omega) (by omega)
        have e : a + splitN n + (m - splitN n) = a + m := by omega
        have hx2 : a + splitN n ≤ a + m := by omega
        have hbe := hr.behind
        have hwi := hr.within
        rw [e] at hbe hwi
        refine ⟨fun x hx => ?_, ?_, ?_, ?_⟩
        · rcases List.mem_append.1 hx with hx | hx
          · obtain ⟨g1, g2, g3, g4⟩ := hr.each x hx
            exact ⟨by omega, g2, by omega, by omega⟩
          · rw [List.mem_singleton.1 hx]
            exact ⟨Nat.le_refl _, by show a < a + splitN n; omega, by show a + splitN n ≤ a + n; omega, .inl hx2⟩
        · refine List.pairwise_append.2 ⟨hr.apart, List.pairwise_singleton _ _, fun x hx y hy => ?_⟩
          rw [List.mem_singleton.1 hy]
          exact .inr (hr.each x hx).1
        · rw [behindSum_append, behindSum_one, if_pos hx2]
          clear hwi hr ih
          omega
        · rw [withinSum_append, withinSum_one, if_pos hx2]
          refine .inl ?_
          rcases hwi with g | ⟨_, g2, _⟩
          · rw [g]; show m - splitN n + (a + splitN n - a) = m; omega
          · cases g2
theorem stepsL_len (d : Nat) : ∀ (m a n : Nat) (whole : Bool), 1 ≤ m → m ≤ n → n ≤ 2 ^ d → (stepsL m a n whole).length ≤ d + 1 := by
  induction d with
  | zero =>
    intro m a n whole h1 h2 h
    obtain rfl : m = n := by omega
    rw [stepsL_eq m a whole h1]
    cases whole <;> simp
  | succ d ih =>
    intro m a n whole h1 h2 h
    by_cases hmn : m = n
    · subst hmn
      rw [stepsL_eq m a whole h1]
      cases whole <;> simp
    · obtain ⟨j, g1, g2, g3⟩ := splitN_pow n (by omega)
      have hj : j ≤ d := by
        have : 2 ^ j < 2 ^ (d + 1) := by omega
        have := (Nat.pow_lt_pow_iff_right (a := 2) (by decide)).1 this
        omega
      have hjd : 2 ^ j ≤ 2 ^ d := Nat.pow_le_pow_right (by decide) hj
      have e : 2 ^ (j + 1) = 2 * 2 ^ j := by rw [Nat.pow_succ]; omega
      by_cases hk : m ≤ splitN n
      · rw [stepsL_left m a n whole h1 (by omega) hk, List.length_append]
        have := ih m a (splitN n) whole h1 hk (by omega)
        simp; omega
      · rw [stepsL_right m a n whole h1 (by omega) hk, List.length_append]
        have := ih (m - splitN n) (a + splitN n) (n - splitN n) false (by omega) (by omega) (by omega)
        simp; omega
end Go.Proofs.Ytonidnfgneokbaa
/- tree.Path. -/
namespace Go.Proofs.Ytonidnfgneokbaa
open Go Go.RowKit

theorem natR_append (a b : List (Nat × Nat)) : natR (a ++ b) = natR a ++ natR b := by simp [natR]
theorem natR_length (a : List (Nat × Nat)) : (natR a).length = a.length := by simp [natR]

end Go.Proofs.Ytonidnfgneokbaa
/- notaryref09.SameRanges, SameHashes: where two lists are alike. -/
namespace Go.Proofs.Ytonidnfgneokbaa
open Go Go.RowKit

structure SrC (w : World) (A A' : Option Addr) (n c c' : Nat) (l : List (Int × Int)) (W : World) : Prop where
  h1 : Rs W (fun _ => True) A n c l
  h2 : Rs W (fun _ => True) A' n c' l
  bel : Below w.heap.size w W
theorem SrC.drew {w W : World} {A A' : Option Addr} {n c c' : Nat} {l : List (Int × Int)} (h : SrC w A A' n c c' l W) : SrC w A A' n c c' l W.drew := ⟨h.h1.drew, h.h2.drew, h.bel.drew⟩

structure SmC (w : World) (A A' : Option Addr) (n c c' : Nat) (hs : List (List UInt8)) (W : World) : Prop where
  h1 : Hs W (fun _ => True) A n c hs
  h2 : Hs W (fun _ => True) A' n c' hs
  bel : Below w.heap.size w W
theorem SmC.drew {w W : World} {A A' : Option Addr} {n c c' : Nat} {hs : List (List UInt8)} (h : SmC w A A' n c c' hs W) : SmC w A A' n c c' hs W.drew := ⟨h.h1.drew, h.h2.drew, h.bel.drew⟩

end Go.Proofs.Ytonidnfgneokbaa
