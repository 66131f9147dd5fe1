/- What paths and steps cover. No program in sight. -/
import Derived.Test.YtgcbdnoniikboaaQb117
import Derived.Test.YtgcbdnoniikboaaQb116
import Derived.Test.YtgcbdnoniikboaaQb110
import Derived.Laws.EntriesVeiled
namespace Go.Proofs.Ytgcbdnoniikboaa

def spanSum (l : List (Nat × Nat)) : Nat := (l.map fun x => x.2 - x.1).sum
theorem spanSum_append (l m : List (Nat × Nat)) : spanSum (l ++ m) = spanSum l + spanSum m := by simp [spanSum]
theorem spanSum_one (x : Nat × Nat) : spanSum [x] = x.2 - x.1 := by simp [spanSum]
def apartR (x y : Nat × Nat) : Prop := x.2 ≤ y.1 ∨ y.2 ≤ x.1

structure PathOk (i a b : Nat) (l : List (Nat × Nat)) : Prop where
  each : ∀ x ∈ l, a ≤ x.1 ∧ x.1 < x.2 ∧ x.2 ≤ b ∧ (x.2 ≤ i ∨ i < x.1)
  sum : spanSum l + 1 = b - a
  apart : l.Pairwise apartR
theorem pathL_ok (d : Nat) : ∀ i a b : Nat, b - a ≤ d → a ≤ i → i < b → PathOk i a b (pathL i a b) := by
  induction d with
  | zero => intro i a b h h1 h2; omega
  | succ d ih =>
    intro i a b h h1 h2
    by_cases hb : b - a < 2
    · rw [pathL_small i a b hb]
      exact ⟨by simp, by simp [spanSum]; omega, List.Pairwise.nil⟩
    · have hl := splitN_lt (b - a) (by omega)
      have hp := splitN_pos (b - a) (by omega)
      by_cases hi : i < a + splitN (b - a)
      · rw [pathL_left i a b (by omega) hi]
        have hr := ih i a (a + splitN (b - a)) (by omega) h1 hi
        refine ⟨fun x hx => ?_, ?_, ?_⟩
        · rcases List.mem_append.1 hx with hx | hx
          · obtain ⟨g1, g2, g3, g4⟩ := hr.each x hx
            exact ⟨g1, g2, by omega, g4⟩
          · rw [List.mem_singleton.1 hx]
            exact ⟨by show a ≤ a + _; omega, by show a + _ < b; omega, Nat.le_refl _, .inr hi⟩
        · rw [spanSum_append, spanSum_one]
          have := hr.sum
          show spanSum _ + (b - (a + splitN (b - a))) + 1 = b - a
          omega
        · refine List.pairwise_append.2 ⟨hr.apart, List.pairwise_singleton _ _, fun x hx y hy => ?_⟩
          rw [List.mem_singleton.1 hy]
          exact .inl (hr.each x hx).2.2.1
      · rw [pathL_right i a b (by omega) hi]
        have hr := ih i (a + splitN (b - a)) b (by omega) (by omega) h2
        refine ⟨fun x hx => ?_, ?_, ?_⟩
        · rcases List.mem_append.1 hx with hx | hx
          · obtain ⟨g1, g2, g3, g4⟩ := hr.each x hx
            exact ⟨by omega, g2, g3, g4⟩
          · rw [List.mem_singleton.1 hx]
            exact ⟨Nat.le_refl _, by show a < a + _; omega, by show a + _ ≤ b; omega, .inl (by show a + _ ≤ i; omega)⟩
        · rw [spanSum_append, spanSum_one]
          have := hr.sum
          show spanSum _ + (a + splitN (b - a) - a) + 1 = b - a
          omega
        · refine List.pairwise_append.2 ⟨hr.apart, List.pairwise_singleton _ _, fun x hx y hy => ?_⟩
          rw [List.mem_singleton.1 hy]
          exact .inr (hr.each x hx).1
theorem pathL_len (d : Nat) : ∀ i a b : Nat, b - a ≤ 2 ^ d → (pathL i a b).length ≤ d := by
  induction d with
  | zero => intro i a b h; rw [pathL_small i a b (by omega)]; simp
  | succ d ih =>
    intro i a b h
    by_cases hb : b - a < 2
    · rw [pathL_small i a b hb]; simp
    · obtain ⟨j, h1, h2, h3⟩ := splitN_pow (b - a) (by omega)
      have hj : j ≤ d := by
        have : 2 ^ j < 2 ^ (d + 1) := by omega
        have := (Nat.pow_lt_pow_iff_right (a := 2) (by decide)).1 this
        omega
      have hjd : 2 ^ j ≤ 2 ^ d := Nat.pow_le_pow_right (by decide) hj
      have e : 2 ^ (j + 1) = 2 * 2 ^ j := by rw [Nat.pow_succ]; omega
      by_cases hi : i < a + splitN (b - a)
      · rw [pathL_left i a b (by omega) hi, List.length_append]
        have := ih i a (a + splitN (b - a)) (by omega)
        simp; omega
      · rw [pathL_right i a b (by omega) hi, List.length_append]
        have := ih i (a + splitN (b - a)) b (by omega)
        simp; omega

/-- from a stretch up, each time one that is beside it -/
def upP : Nat × Nat → List (Nat × Nat) → Option (Nat × Nat)
  | p, [] => some p
  | p, x :: l => if x.2 = p.1 then upP (x.1, p.2) l else if x.1 = p.2 then upP (p.1, x.2) l else none
theorem upP_snoc (x : Nat × Nat) : ∀ (l : List (Nat × Nat)) (p q : Nat × Nat), upP p l = some q → upP p (l ++ [x]) = upP q [x]
  | [], p, q, h => by cases h; rfl
  | y :: l, p, q, h => by
    simp only [List.cons_append, upP] at h ⊢
    split at h
    · rename_i g; rw [if_pos g]; exact upP_snoc x l _ q h
    · rename_i g
      split at h
      · rename_i g'; rw [if_neg g, if_pos g']; exact upP_snoc x l _ q h
      · cases h
theorem pathL_up (d : Nat) : ∀ i a b : Nat, b - a ≤ d → a ≤ i → i < b → upP (i, i + 1) (pathL i a b) = some (a, b) := by
  induction d with
  | zero => intro i a b h h1 h2; omega
  | succ d ih =>
    intro i a b h h1 h2
    by_cases hb : b - a < 2
    · rw [pathL_small i a b hb]
      have e1 : i = a := by omega
      have e2 : i + 1 = b := by omega
      rw [upP, e2, e1]
    · have hl := splitN_lt (b - a) (by omega)
      have hp := splitN_pos (b - a) (by omega)
      by_cases hi : i < a + splitN (b - a)
      · rw [pathL_left i a b (by omega) hi, upP_snoc _ _ _ _ (ih i a _ (by omega) h1 hi)]
        simp only [upP]
        rw [if_neg (by omega)]
        simp
      · rw [pathL_right i a b (by omega) hi, upP_snoc _ _ _ _ (ih i _ b (by omega) (by omega) h2)]
        simp [upP]

/-- what lies within [0, m), what behind -/
def withinSum (m : Nat) (l : List (Nat × Nat)) : Nat := spanSum (l.filter fun x => decide (x.2 ≤ m))
def behindSum (m : Nat) (l : List (Nat × Nat)) : Nat := spanSum (l.filter fun x => !decide (x.2 ≤ m))
theorem withinSum_append (m : Nat) (l k : List (Nat × Nat)) : withinSum m (l ++ k) = withinSum m l + withinSum m k := by simp [withinSum, spanSum_append]
theorem behindSum_append (m : Nat) (l k : List (Nat × Nat)) : behindSum m (l ++ k) = behindSum m l + behindSum m k := by simp [behindSum, spanSum_append]
theorem withinSum_one (m : Nat) (x : Nat × Nat) : withinSum m [x] = if x.2 ≤ m then x.2 - x.1 else 0 := by
  by_cases h : x.2 ≤ m <;> simp [withinSum, spanSum, h]
theorem behindSum_one (m : Nat) (x : Nat × Nat) : behindSum m [x] = if x.2 ≤ m then 0 else x.2 - x.1 := by
  by_cases h : x.2 ≤ m <;> simp [behindSum, spanSum, h]

structure StepsOk (m a n : Nat) (whole : Bool) (l : List (Nat × Nat)) : Prop where
  each : ∀ x ∈ l, a ≤ x.1 ∧ x.1 < x.2 ∧ x.2 ≤ a + n ∧ (x.2 ≤ a + m ∨ a + m ≤ x.1)
  apart : l.Pairwise apartR
  behind : behindSum (a + m) l = n - m
  within : withinSum (a + m) l = m ∨ (withinSum (a + m) l = 0 ∧ whole = true ∧ (m = n ∨ ∃ j, m = 2 ^ j))
theorem stepsL_ok (d : Nat) : ∀ (m a n : Nat) (whole : Bool), n ≤ d → 1 ≤ m → m ≤ n → StepsOk m a n whole (stepsL m a n whole) := by
  induction d with
  | zero => intro m a n whole h h1 h2; omega
  | succ d ih =>
    intro m a n whole h h1 h2
    by_cases hmn : m = n
    · subst hmn
      rw [stepsL_eq m a whole h1]
      cases whole with
      | true => exact ⟨by simp, by simp, by simp [behindSum, spanSum], .inr ⟨by simp [withinSum, spanSum], rfl, .inl rfl⟩⟩
      | false =>
        refine ⟨?_, by simp, ?_, .inl ?_⟩
        · simp only [Bool.false_eq_true, if_false, List.mem_singleton]
          rintro x rfl
          exact ⟨Nat.le_refl _, by show a < a + m; omega, Nat.le_refl _, .inl (Nat.le_refl _)⟩
        · simp [behindSum_one]
        · simp [withinSum_one]
    · have hl := splitN_lt n (by omega)
      have hp := splitN_pos n (by omega)
      by_cases hk : m ≤ splitN n
      · rw [stepsL_left m a n whole h1 (by omega) hk]
        have hr := ih m a (splitN n) whole (by omega) h1 hk
        have hx2 : ¬ a + n ≤ a + m := by omega
        refine ⟨fun x hx => ?_, ?_, ?_, ?_⟩
        · rcases List.mem_append.1 hx with hx | hx
          · obtain ⟨g1, g2, g3, g4⟩ := hr.each x hx
            exact ⟨g1, g2, by omega, g4⟩
          · rw [List.mem_singleton.1 hx]
            exact ⟨by show a ≤ a + splitN n; omega, by show a + splitN n < a + n; omega, Nat.le_refl _, .inr (by show a + m ≤ a + splitN n; omega)⟩
        · refine List.pairwise_append.2 ⟨hr.apart, List.pairwise_singleton _ _, fun x hx y hy => ?_⟩
          rw [List.mem_singleton.1 hy]
          exact .inl (hr.each x hx).2.2.1
        · rw [behindSum_append, behindSum_one, hr.behind, if_neg hx2]
          show splitN n - m + (a + n - (a + splitN n)) = n - m
          omega
        · rw [withinSum_append, withinSum_one, if_neg hx2]
          rcases hr.within with g | ⟨g1, g2, g3⟩
          · exact .inl (by omega)
          · refine .inr ⟨by omega, g2, .inr ?_⟩
            rcases g3 with g3 | g3
            · obtain ⟨j, hj, _, _⟩ := splitN_pow n (by omega)
              exact ⟨j, by omega⟩
            · exact g3
      · rw [stepsL_right m a n whole h1 (by omega) hk]
        have hr := ih (m - splitN n) (a + splitN n) (n - splitN n) false (by omega) (by omega) (by omega)
        have e : a + splitN n + (m - splitN n) = a + m := by omega
        have hx2 : a + splitN n ≤ a + m := by omega
        have hbe := hr.behind
        have hwi := hr.within
        rw [e] at hbe hwi
        refine ⟨fun x hx => ?_, ?_, ?_, ?_⟩
        · rcases List.mem_append.1 hx with hx | hx
          · obtain ⟨g1, g2, g3, g4⟩ := hr.each x hx
            exact ⟨by omega, g2, by omega, by omega⟩
          · rw [List.mem_singleton.1 hx]
            exact ⟨Nat.le_refl _, by show a < a + splitN n; omega, by show a + splitN n ≤ a + n; omega, .inl hx2⟩
        · refine List.pairwise_append.2 ⟨hr.apart, List.pairwise_singleton _ _, fun x hx y hy => ?_⟩
          rw [List.mem_singleton.1 hy]
          exact .inr (hr.each x hx).1
        · rw [behindSum_append, behindSum_one, if_pos hx2]
          clear hwi hr ih
          omega
        · rw [withinSum_append, withinSum_one, if_pos hx2]
          refine .inl ?_
          rcases hwi with g | ⟨_, g2, _⟩
          · rw [g]; show m - splitN n + (a + splitN n - a) = m; omega
          · cases g2
theorem stepsL_len (d : Nat) : ∀ (m a n : Nat) (whole : Bool), 1 ≤ m → m ≤ n → n ≤ 2 ^ d → (stepsL m a n whole).length ≤ d + 1 := by
  induction d with
  | zero =>
    intro m a n whole h1 h2 h
    obtain rfl : m = n := by omega
    rw [stepsL_eq m a whole h1]
    cases whole <;> simp
  | succ d ih =>
    intro m a n whole h1 h2 h
    by_cases hmn : m = n
    · subst hmn
      rw [stepsL_eq m a whole h1]
      cases whole <;> simp
    · obtain ⟨j, g1, g2, g3⟩ := splitN_pow n (by omega)
      have hj : j ≤ d := by
        have : 2 ^ j < 2 ^ (d + 1) := by omega
        have := (Nat.pow_lt_pow_iff_right (a := 2) (by decide)).1 this
        omega
      have hjd : 2 ^ j ≤ 2 ^ d := Nat.pow_le_pow_right (by decide) hj
      have e : 2 ^ (j + 1) = 2 * 2 ^ j := by rw [Nat.pow_succ]; omega
      by_cases hk : m ≤ splitN n
      · rw [stepsL_left m a n whole h1 (by omega) hk, List.length_append]
        have := ih m a (splitN n) whole h1 hk (by omega)
        simp; omega
      · rw [stepsL_right m a n whole h1 (by omega) hk, List.length_append]
        have := ih (m - splitN n) (a + splitN n) (n - splitN n) false (by omega) (by omega) (by omega)
        simp; omega
end Go.Proofs.Ytgcbdnoniikboaa
/- tree.Path. -/
namespace Go.Proofs.Ytgcbdnoniikboaa
open Go Go.RowKit

theorem natR_append (a b : List (Nat × Nat)) : natR (a ++ b) = natR a ++ natR b := by simp [natR]
theorem natR_length (a : List (Nat × Nat)) : (natR a).length = a.length := by simp [natR]

/-- where a number is no entry's -/
theorem tpath_bad (i n : Int) (w : World) (h : i < 0 ∨ n ≤ i) :
    Calls Try.prog 14 #[.int .i64 i, .int .i64 n] w fun e w' => e = .returned (.tuple #[.slice none 0 0, .int .i64 4]) ∧ w = w' := by
  by_cases h0 : i < 0
  · go_enter Try.func14, Try.ntmps14
    go_wp2_with fail
    go_ret2
    exact ⟨rfl, rfl⟩
  · have h1 : decide (n ≤ i) = true := by simp; omega
    have h0' : decide (i < 0) = false := by simp; omega
    go_enter Try.func14, Try.ntmps14
    go_wp2_with fail
    go_ret2
    exact ⟨rfl, rfl⟩

structure PtC (w : World) (os : List (Nat × Nat)) (v : Value) (W : World) : Prop where
  own : W.ownsRow w.heap.size 29 2 v os.length (rcells (natR os))
  bel : Below w.heap.size w W

set_option maxHeartbeats 2000000 in
set_option maxRecDepth 100000 in
theorem tpath_ok (i n : Nat) (w : World) (hi : i < n) (hn : n ≤ 9223372036854775807) :
    Calls Try.prog 14 #[.int .i64 (i : Int), .int .i64 (n : Int)] w fun e w' => ∃ v, e = .returned (.tuple #[v, .int .i64 0]) ∧ w'.ownsRow w.heap.size 29 2 v (pathL i 0 n).length (rcells (natR (pathL i 0 n))) ∧ Below w.heap.size w w' := by
  obtain ⟨p, hp⟩ : ∃ p, pathL i 0 n = p := ⟨_, rfl⟩
  have hpl : p.length ≤ 63 := by rw [← hp]; exact pathL_len 63 i 0 n (by omega)
  rw [hp]
  have Hp := Lib.hid hp
  clear hp
  have h0 : decide ((i : Int) < 0) = false := by simp
  have h1 : decide ((n : Int) ≤ (i : Int)) = false := by simp; omega
  have h1' : decide (n ≤ i) = false := by simp; omega
  go_enter Try.func14, Try.ntmps14
  go_wp2_with fail
  clear h0 h1 h1'
  go_loopw [6, 7, 8] (fun o f t wr => ∃ (a b : Nat) (v : Value) (os : List (Nat × Nat)), f = .int .i64 (a : Int) ∧ t = .int .i64 (b : Int) ∧ v = o ∧ a ≤ i ∧ i < b ∧ b ≤ n ∧ pathL i a b ++ os.reverse = p ∧ PtC w os v wr) (fun _ f t => fun _ => (intOf t - intOf f).toNat)
  case atStart => exact ⟨0, n, _, [], rfl, rfl, rfl, Nat.zero_le _, hi, Nat.le_refl _, by simpa using Hp.out, World.ownsRow_nil _ _ _ _, Below.refl _ _⟩
  case round =>
    obtain ⟨a, b, v, os, rfl, rfl, rfl, ha, hib, hbn, hpa, hC⟩ := hrel
    have hol : os.length ≤ 63 := by have := congrArg List.length hpa; rw [List.length_append, List.length_reverse] at this; omega
    by_cases hgt : 1 < b - a
    · have hd : decide ((1 : Int) < (b : Int) - (a : Int)) = true := by simp; omega
      have hsl := splitN_lt (b - a) (by omega)
      have hsp := splitN_pos (b - a) (by omega)
      have hpl' := pathL_left i a b (by omega)
      have hpr' := pathL_right i a b (by omega)
      have hspl := fun w => tsplit_any ((b : Int) - (a : Int)) w (by omega)
      rw [show ((b : Int) - (a : Int)).toNat = b - a by omega] at hspl
      obtain ⟨s, hs⟩ : ∃ s, splitN (b - a) = s := ⟨_, rfl⟩
      rw [hs] at hsl hsp hpl' hpr' hspl
      have Hpl := Lib.hid hpl'
      have Hpr := Lib.hid hpr'
      have Hspl := Lib.hid hspl
      have Hpa := Lib.hid hpa
      clear hs hpl' hpr' hspl hpa
      by_cases hlt : i < a + s
      · have hd2 : decide ((i : Int) < (a : Int) + (s : Int)) = true := by simp; omega
        obtain ⟨v', w', hr, ho, hg, -⟩ := append_r hC.own (((a + s : Nat) : Int), (b : Int)) (by omega) hC.bel.size
        rw [show natR os ++ [(((a + s : Nat) : Int), (b : Int))] = natR (os ++ [(a + s, b)]) by rw [natR_append]; rfl] at ho
        rw [show os.length + 1 = (os ++ [(a + s, b)]).length by simp] at ho
        rw [show ((a + s : Nat) : Int) = (a : Int) + (s : Int) by omega] at hr
        have hC2 : PtC w (os ++ [(a + s, b)]) v' w' := ⟨ho, hC.bel.grown hg hC.bel.size (fun k hk => (hC.own.lt k hk).1)⟩
        have Hr := Lib.hid hr
        clear hr ho hg hC
        go_wp2_with (first
          | (go_at_call 25; refine (Hspl.out _).mono ?_; rintro e w2 ⟨rfl, rfl⟩)
          | ((with_reducible show wpList _ _ _ (⟨some 36, .call _, _, _, _, _⟩ :: _) _ _); refine wpList_run rfl v' w' (run_append_op (.tmp 31) (.tmp 35) 22 rfl _ _ rfl rfl Hr.out) ?_; simp only [Act.put]))
        refine ⟨⟨a, a + s, v', os ++ [(a + s, b)], rfl, by go_num, rfl, ha, hlt, by omega, ?_, hC2⟩, ?_⟩
        · rw [← Hpa.out, Hpl.out hlt]; simp
        · simp [intOf]; omega
      · have hd2 : decide ((i : Int) < (a : Int) + (s : Int)) = false := by simp; omega
        obtain ⟨v', w', hr, ho, hg, -⟩ := append_r hC.own ((a : Int), ((a + s : Nat) : Int)) (by omega) hC.bel.size
        rw [show natR os ++ [((a : Int), ((a + s : Nat) : Int))] = natR (os ++ [(a, a + s)]) by rw [natR_append]; rfl] at ho
        rw [show os.length + 1 = (os ++ [(a, a + s)]).length by simp] at ho
        rw [show ((a + s : Nat) : Int) = (a : Int) + (s : Int) by omega] at hr
        have hC2 : PtC w (os ++ [(a, a + s)]) v' w' := ⟨ho, hC.bel.grown hg hC.bel.size (fun k hk => (hC.own.lt k hk).1)⟩
        have Hr := Lib.hid hr
        clear hr ho hg hC
        go_wp2_with (first
          | (go_at_call 25; refine (Hspl.out _).mono ?_; rintro e w2 ⟨rfl, rfl⟩)
          | ((with_reducible show wpList _ _ _ (⟨some 43, .call _, _, _, _, _⟩ :: _) _ _); refine wpList_run rfl v' w' (run_append_op (.tmp 38) (.tmp 42) 22 rfl _ _ rfl rfl Hr.out) ?_; simp only [Act.put]))
        refine ⟨⟨a + s, b, v', os ++ [(a, a + s)], by go_num, rfl, rfl, by omega, hib, hbn, ?_, hC2⟩, ?_⟩
        · rw [← Hpa.out, Hpr.out hlt]; simp
        · simp [intOf]; omega
    · have hd : decide ((1 : Int) < (b : Int) - (a : Int)) = false := by simp; omega
      have hos : os.reverse = p := by rw [← hpa, pathL_small i a b (by omega)]; rfl
      have hol2 : os.length = p.length := by rw [← hos, List.length_reverse]
      have hrev := rev_any (natR os) v os.length w.heap.size wr hC.own (natR_length os) (by omega)
      rw [show (natR os).reverse = natR p by rw [← hos]; simp [natR], hol2] at hrev
      have Hrev := Lib.hid hrev
      clear hos hpa hrev
      go_wp2_with fail
      refine Hrev.out.mono ?_
      rintro e w2 ⟨⟨r, rfl⟩, ho2, hg2⟩
      have hb2 := hC.bel.grown hg2 hC.bel.size (fun k hk => (hC.own.lt k hk).1)
      clear hol2
      go_wp2_with fail
      go_ret2
      exact ⟨_, rfl, ho2, hb2⟩
end Go.Proofs.Ytgcbdnoniikboaa
/- notaryref09.SameRanges, SameHashes: where two lists are alike. -/
namespace Go.Proofs.Ytgcbdnoniikboaa
open Go Go.RowKit

theorem underR : Try.prog.underlying 29 = some (.struct (Try.prog.fieldsOf 29)) := by kernel_rfl
theorem heldR : Try.prog.stoodInHeld 29 = false := by kernel_rfl
theorem guardR : Try.prog.eqGuardType Try.prog.depth 29 = false := by kernel_rfl
theorem run_neqR (a b c d : Int) (W : World) : (binOp .neq 29 (.agg #[.int .i64 a, .int .i64 b]) (.agg #[.int .i64 c, .int .i64 d])).run Try.prog W = .ok (.bool (!(a == c && b == d))) W := by
  have hf : (Try.prog.fieldsOf 29).toList = [{ name := "From", type := 2, offset := 0, embedded := false, tag := "", pkgPath := "", byteOffset := 0 }, { name := "To", type := 2, offset := 1, embedded := false, tag := "", pkgPath := "", byteOffset := 8 }] := by kernel_rfl
  rw [run_neq_struct, run_equalIn_agg W 9999 _ _ _ underR heldR, hf]
  simp [go_sem, part, Op.eqFields]
  by_cases h1 : a = c <;> by_cases h2 : b = d <;> simp [h1, h2]
theorem run_neqR_f {ρ : Operand → Value} {o : Oper} (x y : Operand) (ty : TypeId) (a b : Int) (ho : o.op = .binOp .neq 29 x y ty) (hx : ρ x = .agg #[.int .i64 a, .int .i64 b]) (hy : ρ y = .agg #[.int .i64 a, .int .i64 b]) (W : World) :
    (execOp ρ o).run Try.prog W = .ok (.value (.bool false)) W := by
  unfold execOp
  simp only [ho, hx, hy, run_eqGuard_agg W .neq 29 x y _ _ guardR, Sem.run_bind, Sem.run_pure, run_neqR, Result.andThen_ok]
  simp

structure SrC (w : World) (A A' : Option Addr) (n c c' : Nat) (l : List (Int × Int)) (W : World) : Prop where
  h1 : Rs W (fun _ => True) A n c l
  h2 : Rs W (fun _ => True) A' n c' l
  bel : Below w.heap.size w W
theorem SrC.drew {w W : World} {A A' : Option Addr} {n c c' : Nat} {l : List (Int × Int)} (h : SrC w A A' n c c' l W) : SrC w A A' n c c' l W.drew := ⟨h.h1.drew, h.h2.drew, h.bel.drew⟩

set_option maxHeartbeats 1000000 in
set_option maxRecDepth 100000 in
theorem samer_any (l : List (Int × Int)) (A A' : Option Addr) (n c c' : Nat) (w : World) (h1 : Rs w (fun _ => True) A n c l) (h2 : Rs w (fun _ => True) A' n c' l) (hn : n ≤ 4398046511104) :
    Calls Try.prog 27 #[.slice A n c, .slice A' n c'] w fun e w' => e = .returned (.bool true) ∧ Below w.heap.size w w' := by
  have hC0 : SrC w A A' n c c' l w := ⟨h1, h2, Below.refl _ _⟩
  clear h1 h2
  go_enter Try.func27, Try.ntmps27
  go_wp2_with fail
  go_loopw [5] (fun v wr => ∃ (q : Nat), q ≤ n ∧ v = .int .i64 q ∧ SrC w A A' n c c' l wr) (fun v _ => n - (intOf v).toNat)
  case atStart => exact ⟨0, by omega, rfl, hC0⟩
  case round =>
    clear hC0
    obtain ⟨q, hq, rfl, hC⟩ := hrel
    by_cases hlq : q < n
    · obtain ⟨b1, o1, hA1, -, -, -⟩ := hC.h1.at_ (by omega)
      obtain ⟨b2, o2, hA2, -, -, -⟩ := hC.h2.at_ (by omega)
      subst hA1 hA2
      obtain ⟨x, hx⟩ : ∃ x, l.getD q (0, 0) = x := ⟨_, rfl⟩
      have l1 : ∀ s : InC (SrC w (some ⟨b1, o1, none⟩) (some ⟨b2, o2, none⟩) n c c' l), (Instr.loadAt 29 (.pointer (some ⟨b1, o1 + q * 2, none⟩))).run Try.prog s.W = .ok (.agg #[.int .i64 x.1, .int .i64 x.2]) s.W := fun s => by
        rw [← hx]; exact s.ok.h1.load rfl q hlq
      have l2 : ∀ s : InC (SrC w (some ⟨b1, o1, none⟩) (some ⟨b2, o2, none⟩) n c c' l), (Instr.loadAt 29 (.pointer (some ⟨b2, o2 + q * 2, none⟩))).run Try.prog s.W = .ok (.agg #[.int .i64 x.1, .int .i64 x.2]) s.W := fun s => by
        rw [← hx]; exact s.ok.h2.load rfl q hlq
      have Hl1 := Lib.hid l1
      have Hl2 := Lib.hid l2
      clear hx l1 l2
      go_upto_region 6 with fail
      refine wp_region_mix (SrC w (some ⟨b1, o1, none⟩) (some ⟨b2, o2, none⟩) n c c' l) [(0, true), (1, true), (2, true), (3, true), (4, true), (5, true), (6, true), (7, true), (8, true)] (by kernel_rfl) (by kernel_rfl) hC.drew fun _ => ?_
      simp only [List.map_cons, List.map_nil, Array.getD_eq_getD_getElem?, List.getElem?_toArray, List.getElem?_cons_succ, List.getElem?_cons_zero, Option.getD_some]
      iterate 3 (refine wpMix_s (fun K hK => ?_); go_simp; refine hK _ ?_; clear hK K)
      refine wpMix_load (by kernel_rfl) 29 (.tmp 19) rfl b1 (o1 + q * 2) rfl #[.int .i64 x.1, .int .i64 x.2] Hl1.out ?_
      simp only [Act.put]
      iterate 3 (refine wpMix_s (fun K hK => ?_); go_simp; refine hK _ ?_; clear hK K)
      refine wpMix_load (by kernel_rfl) 29 (.tmp 23) rfl b2 (o2 + q * 2) rfl #[.int .i64 x.1, .int .i64 x.2] Hl2.out ?_
      simp only [Act.put]
      refine wpMix_v (by kernel_rfl) (.bool false) (fun s => run_neqR_f (.tmp 20) (.tmp 24) _ x.1 x.2 rfl rfl rfl s.W) ?_
      simp only [Act.put]
      refine wpMix_nil ?_
      intro hC1
      generalize wr.drew = W1 at hC1 ⊢
      go_wp2_with fail
      refine ⟨⟨q + 1, by omega, by go_num, hC1⟩, by simp [intOf]; omega⟩
    · have hqn : q = n := by omega
      subst hqn
      go_wp2_with fail
      go_ret
      exact ⟨rfl, hC.bel⟩

structure SmC (w : World) (A A' : Option Addr) (n c c' : Nat) (hs : List (List UInt8)) (W : World) : Prop where
  h1 : Hs W (fun _ => True) A n c hs
  h2 : Hs W (fun _ => True) A' n c' hs
  bel : Below w.heap.size w W
theorem SmC.drew {w W : World} {A A' : Option Addr} {n c c' : Nat} {hs : List (List UInt8)} (h : SmC w A A' n c c' hs W) : SmC w A A' n c c' hs W.drew := ⟨h.h1.drew, h.h2.drew, h.bel.drew⟩

set_option maxHeartbeats 1000000 in
set_option maxRecDepth 100000 in
theorem sameh_any (hs : List (List UInt8)) (A A' : Option Addr) (n c c' : Nat) (w : World) (h1 : Hs w (fun _ => True) A n c hs) (h2 : Hs w (fun _ => True) A' n c' hs) (hn : n ≤ 4398046511104) :
    Calls Try.prog 44 #[.slice A n c, .slice A' n c'] w fun e w' => e = .returned (.bool true) ∧ Below w.heap.size w w' := by
  have hlen := h1.len
  have hc1 := h1.sl.room
  have hc2 := h2.sl.room
  have hC0 : SmC w A A' n c c' hs w := ⟨h1, h2, Below.refl _ _⟩
  clear h1 h2
  have Hlen := Lib.hid hlen
  clear hlen
  go_enter Try.func44, Try.ntmps44
  go_wp2_with fail
  go_loopw [5] (fun v wr => ∃ (q : Nat), q ≤ n ∧ v = .int .i64 q ∧ SmC w A A' n c c' hs wr) (fun v _ => n - (intOf v).toNat)
  case atStart => exact ⟨0, by omega, rfl, hC0⟩
  case round =>
    clear hC0
    obtain ⟨q, hq, rfl, hC⟩ := hrel
    by_cases hlq : q < n
    · obtain ⟨b1, o1, hA1, -, -, -⟩ := hC.h1.at_ (by omega)
      obtain ⟨b2, o2, hA2, -, -, -⟩ := hC.h2.at_ (by omega)
      subst hA1 hA2
      obtain ⟨x, hx⟩ : ∃ x, hs.getD q [] = x := ⟨_, rfl⟩
      have hxl : x.length = 32 := by rw [← hx]; exact hC.h1.all.getD q (by rw [Hlen.out]; exact hlq)
      have l1 : ∀ s : InC (SmC w (some ⟨b1, o1, none⟩) (some ⟨b2, o2, none⟩) n c c' hs), (Instr.loadAt 34 (.pointer (some ⟨b1, o1 + q * 32, none⟩))).run Try.prog s.W = .ok (.agg (x.map B).toArray) s.W := fun s => by
        obtain ⟨b, o, hA, -, -, hld⟩ := s.ok.h1.at_ (by omega)
        cases hA
        rw [← hx]; exact hld q hlq
      have l2 : ∀ s : InC (SmC w (some ⟨b1, o1, none⟩) (some ⟨b2, o2, none⟩) n c c' hs), (Instr.loadAt 34 (.pointer (some ⟨b2, o2 + q * 32, none⟩))).run Try.prog s.W = .ok (.agg (x.map B).toArray) s.W := fun s => by
        obtain ⟨b, o, hA, -, -, hld⟩ := s.ok.h2.at_ (by omega)
        cases hA
        rw [← hx]; exact hld q hlq
      have Hx := Lib.hid hx
      have Hxl := Lib.hid hxl
      have Hl1 := Lib.hid l1
      have Hl2 := Lib.hid l2
      clear hx hxl l1 l2
      go_upto_region 6 with fail
      refine wp_region_mix (SmC w (some ⟨b1, o1, none⟩) (some ⟨b2, o2, none⟩) n c c' hs) [(0, true), (1, true), (2, true), (3, true), (4, true), (5, true), (6, true), (7, true), (8, true)] (by kernel_rfl) (by kernel_rfl) hC.drew fun _ => ?_
      simp only [List.map_cons, List.map_nil, Array.getD_eq_getD_getElem?, List.getElem?_toArray, List.getElem?_cons_succ, List.getElem?_cons_zero, Option.getD_some]
      iterate 3 (refine wpMix_s (fun K hK => ?_); go_simp; refine hK _ ?_; clear hK K)
      refine wpMix_load (by kernel_rfl) 34 (.tmp 19) rfl b1 (o1 + q * 32) rfl (x.map B).toArray Hl1.out ?_
      simp only [Act.put]
      iterate 3 (refine wpMix_s (fun K hK => ?_); go_simp; refine hK _ ?_; clear hK K)
      refine wpMix_load (by kernel_rfl) 34 (.tmp 23) rfl b2 (o2 + q * 32) rfl (x.map B).toArray Hl2.out ?_
      simp only [Act.put]
      refine wpMix_v (by kernel_rfl) (.bool false) (fun s => run_neq26_f (.tmp 20) (.tmp 24) _ x x rfl rfl rfl Hxl.out Hxl.out rfl s.W) ?_
      simp only [Act.put]
      refine wpMix_nil ?_
      intro hC1
      generalize wr.drew = W1 at hC1 ⊢
      go_wp2_with fail
      refine ⟨⟨q + 1, by omega, by go_num, hC1⟩, by simp [intOf]; omega⟩
    · have hqn : q = n := by omega
      subst hqn
      go_wp2_with fail
      go_ret
      exact ⟨rfl, hC.bel⟩
end Go.Proofs.Ytgcbdnoniikboaa
/- tree.Steps and the function within it. -/
namespace Go.Proofs.Ytgcbdnoniikboaa
open Go Go.RowKit

/-- what is known within Steps: the number, the function, what has been told -/
structure DnC (w : World) (M : Nat) (v : Value) (os : List (Nat × Nat)) (W : World) : Prop where
  bm : Blk W w.heap.size 2 #[.int .i64 (M : Int)]
  bo : Blk W (w.heap.size + 1) 22 #[v]
  bd : Blk W (w.heap.size + 1 + 1) 96 #[.func (.func 57) #[] #[.pointer (some ⟨w.heap.size, 0, none⟩), .pointer (some ⟨w.heap.size + 1, 0, none⟩), .pointer (some ⟨w.heap.size + 1 + 1, 0, none⟩)]]
  own : W.ownsRow (w.heap.size + 1 + 1 + 1) 29 2 v os.length (rcells (natR os))
  bel : Below w.heap.size w W
/-- one stretch more is told -/
theorem DnC.app {w W : World} {M : Nat} {v : Value} {os : List (Nat × Nat)} (h : DnC w M v os W) (x : Nat × Nat) (hl : os.length ≤ 1000) :
    ∃ A' m' c' w', (Builtin.append_ #[22, 22] 22 #[v, .slice (some ⟨W.heap.size, 0, none⟩) 1 1]).run Try.prog (W.alloc (.cells #[.int .i64 (x.1 : Int), .int .i64 (x.2 : Int)] 29)) = .ok (.slice A' m' c') w' ∧
      w'.cell? ⟨w.heap.size + 1, 0, none⟩ = some v ∧ w'.frozen? ⟨w.heap.size + 1, 0, none⟩ = false ∧ DnC w M (.slice A' m' c') (os ++ [x]) (w'.setCell ⟨w.heap.size + 1, 0, none⟩ (.slice A' m' c')) := by
  have hlt : w.heap.size + 1 + 1 < W.heap.size := h.bd.lt
  obtain ⟨v', w', hr, ho, hg, hf⟩ := append_r h.own ((x.1 : Int), (x.2 : Int)) (by omega) (by omega)
  rw [show natR os ++ [((x.1 : Int), (x.2 : Int))] = natR (os ++ [x]) by rw [natR_append]; rfl, show os.length + 1 = (os ++ [x]).length by simp] at ho
  have hne : ∀ g, g < w.heap.size + 1 + 1 + 1 → some g ≠ v.ownBlock := fun g hg e => by have := (h.own.lt g e.symm).1; omega
  have bo' := h.bo.grown hg (hne _ (by omega))
  have hne' : ∀ g, g < w.heap.size + 1 + 1 + 1 → some g ≠ v'.ownBlock := fun g hg e => by have := (ho.lt g e.symm).1; omega
  have bel' := h.bel.grown hg h.bel.size (fun k hk => by have := (h.own.lt k hk).1; omega)
  obtain ⟨A', c', rfl, -⟩ := owns_slv ho
  refine ⟨A', _, c', w', hr, by rw [bo'.cell]; rfl, bo'.frozen 0, ⟨(h.bm.grown hg (hne _ (by omega))).apart (by omega) _, bo'.set_ 0 _, (h.bd.grown hg (hne _ (by omega))).apart (by omega) _, ?_, bel'.setCell (by show w.heap.size ≤ w.heap.size + 1; omega) _⟩⟩
  exact ho.kept (grown_setCell (w := w') (w' := w') (g := w.heap.size + 1) ⟨rfl, rfl, rfl, Nat.le_refl _, fun _ _ _ => rfl⟩ 0 _) (.inr (hne' _ (by omega)).symm)

set_option maxHeartbeats 2000000 in
set_option maxRecDepth 100000 in
theorem down_any (w : World) (M : Nat) (d : Nat) : ∀ (a t : Nat) (whole : Bool) (v : Value) (os : List (Nat × Nat)) (W : World), t - a ≤ d → a < M → M ≤ t → t ≤ 9223372036854775807 → os.length + (stepsL (M - a) a (t - a) whole).length ≤ 1000 → DnC w M v os W →
    Calls Try.prog 57 #[.int .i64 (a : Int), .int .i64 (t : Int), .bool whole, .pointer (some ⟨w.heap.size, 0, none⟩), .pointer (some ⟨w.heap.size + 1, 0, none⟩), .pointer (some ⟨w.heap.size + 1 + 1, 0, none⟩)] W
      fun e W' => (∃ r, e = .returned r) ∧ ∃ v', DnC w M v' (os ++ stepsL (M - a) a (t - a) whole) W' := by
  induction d with
  | zero => intro a t whole v os W h h1 h2; omega
  | succ d ih =>
    intro a t whole v os W hd ha hM ht hl hC
    have c2 : W.cell? ⟨w.heap.size, 0, none⟩ = some (.int .i64 (M : Int)) := by rw [hC.bm.cell]; rfl
    have c3 : W.cell? ⟨w.heap.size + 1, 0, none⟩ = some v := by rw [hC.bo.cell]; rfl
    have c4 : W.cell? ⟨w.heap.size + 1 + 1, 0, none⟩ = some (.func (.func 57) #[] #[.pointer (some ⟨w.heap.size, 0, none⟩), .pointer (some ⟨w.heap.size + 1, 0, none⟩), .pointer (some ⟨w.heap.size + 1 + 1, 0, none⟩)]) := by rw [hC.bd.cell]; rfl
    have hspl := fun w => tsplit_any ((t : Int) - (a : Int)) w (by omega)
    rw [show ((t : Int) - (a : Int)).toNat = t - a by omega] at hspl
    have hta : a + (t - a) = t := by omega
    by_cases hMt : M = t
    · subst hMt
      have hsle := splitN_le (M - a)
      obtain ⟨s, hs⟩ : ∃ s, splitN (M - a) = s := ⟨_, rfl⟩
      rw [hs] at hspl hsle
      have Hspl := Lib.hid hspl
      clear hspl hs
      have hst := stepsL_eq (M - a) a whole (by omega)
      rw [hta] at hst
      have hst' := hst
      have hsp0 : s ≤ M - a := hsle
      have Hst := Lib.hid hst
      clear hst hta hst'
      cases whole with
      | true =>
        go_enter Try.func57, Try.ntmps57
        go_wp2_with (go_at_call 25; refine (Hspl.out _).mono ?_; rintro e w2 ⟨rfl, rfl⟩)
        go_end0
        exact ⟨⟨_, rfl⟩, v, by rw [Hst.out]; simpa using hC⟩
      | false =>
        obtain ⟨A', m', c', w', hr, g1, g2, hC'⟩ := hC.app (a, M) (by omega)
        have Hr := Lib.hid hr
        clear hr
        go_enter Try.func57, Try.ntmps57
        go_wp2_with (first
          | (go_at_call 25; refine (Hspl.out _).mono ?_; rintro e w2 ⟨rfl, rfl⟩)
          | ((with_reducible show wpList _ _ _ (⟨some 37, .call _, _, _, _, _⟩ :: _) _ _); refine wpList_run rfl _ w' (run_append_op (.tmp 32) (.tmp 36) 22 rfl _ _ rfl rfl Hr.out) ?_; simp only [Act.put]))
        go_end0
        exact ⟨⟨_, rfl⟩, _, by rw [Hst.out]; exact hC'⟩
    · have hsl := splitN_lt (t - a) (by omega)
      have hsp := splitN_pos (t - a) (by omega)
      have hleft := stepsL_left (M - a) a (t - a) whole (by omega) (by omega)
      have hright := stepsL_right (M - a) a (t - a) whole (by omega) (by omega)
      rw [hta] at hleft
      have hbe : ((M : Int) == (t : Int)) = false := by simp; omega
      obtain ⟨s, hs⟩ : ∃ s, splitN (t - a) = s := ⟨_, rfl⟩
      rw [hs] at hspl hsl hsp hleft hright
      have Hspl := Lib.hid hspl
      clear hspl hs hta hMt
      by_cases hk : M ≤ a + s
      · have hst := hleft (by omega)
        rw [hst, List.length_append, List.length_singleton] at hl
        have hih := ih a (a + s) whole v os W (by omega) ha hk (by omega) (by rw [show a + s - a = s by omega]; omega) hC
        rw [show a + s - a = s by omega, show ((a + s : Nat) : Int) = (a : Int) + (s : Int) by omega] at hih
        have hd2 : decide ((M : Int) ≤ (a : Int) + (s : Int)) = true := by simp; omega
        have Hst := Lib.hid hst
        have Hih := Lib.hid hih
        clear hst hih hleft hright ih hC
        go_enter Try.func57, Try.ntmps57
        go_wp2_with (go_at_call 25; refine (Hspl.out _).mono ?_; rintro e w2 ⟨rfl, rfl⟩)
        refine Hih.out.mono ?_
        rintro e W2 ⟨⟨r, rfl⟩, v2, hC2⟩
        obtain ⟨A', m', c', w', hr, g1, g2, hC'⟩ := hC2.app (a + s, t) (by rw [List.length_append]; omega)
        rw [show ((a + s : Nat) : Int) = (a : Int) + (s : Int) by omega] at hr
        have c5 : W2.cell? ⟨w.heap.size + 1, 0, none⟩ = some v2 := by rw [hC2.bo.cell]; rfl
        rw [List.append_assoc, ← Hst.out] at hC'
        have Hr := Lib.hid hr
        clear hr c2 c3 c4 Hih
        go_wp2_with ((with_reducible show wpList _ _ _ (⟨some 52, .call _, _, _, _, _⟩ :: _) _ _); refine wpList_run rfl _ w' (run_append_op (.tmp 47) (.tmp 51) 22 rfl _ _ rfl rfl Hr.out) ?_; simp only [Act.put])
        go_end0
        exact ⟨⟨_, rfl⟩, _, hC'⟩
      · have hst := hright (by omega)
        rw [hst, List.length_append, List.length_singleton] at hl
        have hih := ih (a + s) t false v os W (by omega) (by omega) hM ht (by rw [show M - (a + s) = M - a - s by omega, show t - (a + s) = t - a - s by omega]; omega) hC
        rw [show M - (a + s) = M - a - s by omega, show t - (a + s) = t - a - s by omega, show ((a + s : Nat) : Int) = (a : Int) + (s : Int) by omega] at hih
        have hd2 : decide ((M : Int) ≤ (a : Int) + (s : Int)) = false := by simp; omega
        have Hst := Lib.hid hst
        have Hih := Lib.hid hih
        clear hst hih hleft hright ih hC
        go_enter Try.func57, Try.ntmps57
        go_wp2_with (go_at_call 25; refine (Hspl.out _).mono ?_; rintro e w2 ⟨rfl, rfl⟩)
        refine Hih.out.mono ?_
        rintro e W2 ⟨⟨r, rfl⟩, v2, hC2⟩
        obtain ⟨A', m', c', w', hr, g1, g2, hC'⟩ := hC2.app (a, a + s) (by rw [List.length_append]; omega)
        rw [show ((a + s : Nat) : Int) = (a : Int) + (s : Int) by omega] at hr
        have c5 : W2.cell? ⟨w.heap.size + 1, 0, none⟩ = some v2 := by rw [hC2.bo.cell]; rfl
        rw [List.append_assoc, ← Hst.out] at hC'
        have Hr := Lib.hid hr
        clear hr c2 c3 c4 Hih
        go_wp2_with ((with_reducible show wpList _ _ _ (⟨some 25, .call _, _, _, _, _⟩ :: _) _ _); refine wpList_run rfl _ w' (run_append_op (.tmp 20) (.tmp 24) 22 rfl _ _ rfl rfl Hr.out) ?_; simp only [Act.put])
        go_end0
        exact ⟨⟨_, rfl⟩, _, hC'⟩
end Go.Proofs.Ytgcbdnoniikboaa
/- tree.Steps. -/
namespace Go.Proofs.Ytgcbdnoniikboaa
open Go Go.RowKit

theorem tsteps_bad (m n : Int) (w : World) (h : m < 0 ∨ n < m) :
    Calls Try.prog 17 #[.int .i64 m, .int .i64 n] w fun e w' => e = .returned (.tuple #[.slice none 0 0, .int .i64 4]) ∧ Below w.heap.size w w' := by
  have hb := (Below.refl w.heap.size w).alloc (Nat.le_refl _) (.cells #[.int .i64 m] 2)
  by_cases h0 : m < 0
  · have h0' : decide (m < 0) = true := by simp; exact h0
    go_enter Try.func17, Try.ntmps17
    go_wp2_with fail
    go_ret2
    exact ⟨rfl, hb⟩
  · have h1 : decide (n < m) = true := by simp; omega
    have h0' : decide (m < 0) = false := by simp; omega
    go_enter Try.func17, Try.ntmps17
    go_wp2_with fail
    go_ret2
    exact ⟨rfl, hb⟩
theorem tsteps_zero (n : Int) (w : World) (h : 0 ≤ n) :
    Calls Try.prog 17 #[.int .i64 0, .int .i64 n] w fun e w' => e = .returned (.tuple #[.slice none 0 0, .int .i64 0]) ∧ Below w.heap.size w w' := by
  have hb := (Below.refl w.heap.size w).alloc (Nat.le_refl _) (.cells #[.int .i64 0] 2)
  have h1 : decide (n < 0) = false := by simp; omega
  go_enter Try.func17, Try.ntmps17
  go_wp2_with fail
  go_ret2
  exact ⟨rfl, hb⟩
set_option maxHeartbeats 1000000 in
set_option maxRecDepth 100000 in
theorem tsteps_ok (m n : Nat) (w : World) (h1 : 1 ≤ m) (h2 : m ≤ n) (hn : n ≤ 9223372036854775807) :
    Calls Try.prog 17 #[.int .i64 (m : Int), .int .i64 (n : Int)] w fun e w' => ∃ v, e = .returned (.tuple #[v, .int .i64 0]) ∧ w'.ownsRow w.heap.size 29 2 v (stepsL m 0 n true).length (rcells (natR (stepsL m 0 n true))) ∧ Below w.heap.size w w' := by
  have hlen : (stepsL m 0 n true).length ≤ 64 := stepsL_len 63 m 0 n true h1 h2 (by omega)
  have key := fun W (h : DnC w m (.slice none 0 0) [] W) => down_any w m n 0 n true (.slice none 0 0) [] W (by omega) (by omega) h2 hn (by simp; omega) h
  simp only [Nat.sub_zero, List.nil_append] at key
  have h0 : decide ((m : Int) < 0) = false := by simp
  have h0' : decide ((n : Int) < (m : Int)) = false := by simp; omega
  have h0'' : decide (n < m) = false := by simp; omega
  have hz : ((m : Int) == 0) = false := by simp; omega
  have Key := Lib.hid key
  clear key
  go_enter Try.func17, Try.ntmps17
  go_wp2_with fail
  refine (Key.out _ ⟨(((Blk.new _ _ _).alloc _).alloc _), (Blk.new' _ _ _ _ (by simp)).alloc _, Blk.new' _ _ _ _ (by simp), World.ownsRow_nil _ _ _ _, (((Below.refl _ _).alloc (Nat.le_refl _) _).alloc (by simp) _).alloc (by simp; omega) _⟩).mono ?_
  rintro e W ⟨⟨r, rfl⟩, v, hC⟩
  have c6 : W.cell? ⟨w.heap.size + 1, 0, none⟩ = some v := by rw [hC.bo.cell]; rfl
  go_wp2_with fail
  go_ret2
  exact ⟨v, rfl, owns_le hC.own (by omega), hC.bel⟩
end Go.Proofs.Ytgcbdnoniikboaa
