/- tree.Path. -/
import Derived.Test.YtgcbdnoniikboaaQe11
import Derived.Test.YtgcbdnoniikboaaQe19
namespace Go.Proofs.Ytgcbdnoniikboaa
open Go Go.RowKit

theorem natR_append (a b : List (Nat × Nat)) : natR (a ++ b) = natR a ++ natR b := by simp [natR]
theorem natR_length (a : List (Nat × Nat)) : (natR a).length = a.length := by simp [natR]

/-- where a number is no entry's -/
theorem tpath_bad (i n : Int) (w : World) (h : i < 0 ∨ n ≤ i) :
    Calls Try.prog 14 #[.int .i64 i, .int .i64 n] w fun e w' => e = .returned (.tuple #[.slice none 0 0, .int .i64 4]) ∧ w = w' := by
  by_cases h0 : i < 0
  · go_enter Try.func14, Try.ntmps14
    go_wp2_with fail
    go_ret2
    exact ⟨rfl, rfl⟩
  · have h1 : decide (n ≤ i) = true := by simp; omega
    have h0' : decide (i < 0) = false := by simp; omega
    go_enter Try.func14, Try.ntmps14
    go_wp2_with fail
    go_ret2
    exact ⟨rfl, rfl⟩

structure PtC (w : World) (os : List (Nat × Nat)) (v : Value) (W : World) : Prop where
  own : W.ownsRow w.heap.size 29 2 v os.length (rcells (natR os))
  bel : Below w.heap.size w W

set_option maxHeartbeats 2000000 in
set_option maxRecDepth 100000 in
theorem tpath_ok (i n : Nat) (w : World) (hi : i < n) (hn : n ≤ 9223372036854775807) :
    Calls Try.prog 14 #[.int .i64 (i : Int), .int .i64 (n : Int)] w fun e w' => ∃ v, e = .returned (.tuple #[v, .int .i64 0]) ∧ w'.ownsRow w.heap.size 29 2 v (pathL i 0 n).length (rcells (natR (pathL i 0 n))) ∧ Below w.heap.size w w' := by
  obtain ⟨p, hp⟩ : ∃ p, pathL i 0 n = p := ⟨_, rfl⟩
  have hpl : p.length ≤ 63 := by rw [← hp]; exact pathL_len 63 i 0 n (by omega)
  rw [hp]
  have Hp := Lib.hid hp
  clear hp
  have h0 : decide ((i : Int) < 0) = false := by simp
  have h1 : decide ((n : Int) ≤ (i : Int)) = false := by simp; omega
  have h1' : decide (n ≤ i) = false := by simp; omega
  go_enter Try.func14, Try.ntmps14
  go_wp2_with fail
  clear h0 h1 h1'
  go_loopw [6, 7, 8] (fun o f t wr => ∃ (a b : Nat) (v : Value) (os : List (Nat × Nat)), f = .int .i64 (a : Int) ∧ t = .int .i64 (b : Int) ∧ v = o ∧ a ≤ i ∧ i < b ∧ b ≤ n ∧ pathL i a b ++ os.reverse = p ∧ PtC w os v wr) (fun _ f t => fun _ => (intOf t - intOf f).toNat)
  case atStart => exact ⟨0, n, _, [], rfl, rfl, rfl, Nat.zero_le _, hi, Nat.le_refl _, by simpa using Hp.out, World.ownsRow_nil _ _ _ _, Below.refl _ _⟩
  case round =>
    obtain ⟨a, b, v, os, rfl, rfl, rfl, ha, hib, hbn, hpa, hC⟩ := hrel
    have hol : os.length ≤ 63 := by have := congrArg List.length hpa; rw [List.length_append, List.length_reverse] at this; omega
    by_cases hgt : 1 < b - a
    · have hd : decide ((1 : Int) < (b : Int) - (a : Int)) = true := by simp; omega
      have hsl := splitN_lt (b - a) (by omega)
      have hsp := splitN_pos (b - a) (by omega)
      have hpl' := pathL_left i a b (by omega)
      have hpr' := pathL_right i a b (by omega)
      have hspl := fun w => tsplit_any ((b : Int) - (a : Int)) w (by omega)
      rw [show ((b : Int) - (a : Int)).toNat = b - a by omega] at hspl
      obtain ⟨s, hs⟩ : ∃ s, splitN (b - a) = s := ⟨_, rfl⟩
      rw [hs] at hsl hsp hpl' hpr' hspl
      have Hpl := Lib.hid hpl'
      have Hpr := Lib.hid hpr'
      have Hspl := Lib.hid hspl
      have Hpa := Lib.hid hpa
      clear hs hpl' hpr' hspl hpa
      by_cases hlt : i < a + s
      · have hd2 : decide ((i : Int) < (a : Int) + (s : Int)) = true := by simp; omega
        obtain ⟨v', w', hr, ho, hg, -⟩ := append_r hC.own (((a + s : Nat) : Int), (b : Int)) (by omega) hC.bel.size
        rw [show natR os ++ [(((a + s : Nat) : Int), (b : Int))] = natR (os ++ [(a + s, b)]) by rw [natR_append]; rfl] at ho
        rw [show os.length + 1 = (os ++ [(a + s, b)]).length by simp] at ho
        rw [show ((a + s : Nat) : Int) = (a : Int) + (s : Int) by omega] at hr
        have hC2 : PtC w (os ++ [(a + s, b)]) v' w' := ⟨ho, hC.bel.grown hg hC.bel.size (fun k hk => (hC.own.lt k hk).1)⟩
        have Hr := Lib.hid hr
        clear hr ho hg hC
        go_wp2_with (first
          | (go_at_call 25; refine (Hspl.out _).mono ?_; rintro e w2 ⟨rfl, rfl⟩)
          | ((with_reducible show wpList _ _ _ (⟨some 36, .call _, _, _, _, _⟩ :: _) _ _); refine wpList_run rfl v' w' (run_append_op (.tmp 31) (.tmp 35) 22 rfl _ _ rfl rfl Hr.out) ?_; simp only [Act.put]))
        refine ⟨⟨a, a + s, v', os ++ [(a + s, b)], rfl, by go_num, rfl, ha, hlt, by omega, ?_, hC2⟩, ?_⟩
        · rw [← Hpa.out, Hpl.out hlt]; simp
        · simp [intOf]; omega
      · have hd2 : decide ((i : Int) < (a : Int) + (s : Int)) = false := by simp; omega
        obtain ⟨v', w', hr, ho, hg, -⟩ := append_r hC.own ((a : Int), ((a + s : Nat) : Int)) (by omega) hC.bel.size
        rw [show natR os ++ [((a : Int), ((a + s : Nat) : Int))] = natR (os ++ [(a, a + s)]) by rw [natR_append]; rfl] at ho
        rw [show os.length + 1 = (os ++ [(a, a + s)]).length by simp] at ho
        rw [show ((a + s : Nat) : Int) = (a : Int) + (s : Int) by omega] at hr
        have hC2 : PtC w (os ++ [(a, a + s)]) v' w' := ⟨ho, hC.bel.grown hg hC.bel.size (fun k hk => (hC.own.lt k hk).1)⟩
        have Hr := Lib.hid hr
        clear hr ho hg hC
        go_wp2_with (first
          | (go_at_call 25; refine (Hspl.out _).mono ?_; rintro e w2 ⟨rfl, rfl⟩)
          | ((with_reducible show wpList _ _ _ (⟨some 43, .call _, _, _, _, _⟩ :: _) _ _); refine wpList_run rfl v' w' (run_append_op (.tmp 38) (.tmp 42) 22 rfl _ _ rfl rfl Hr.out) ?_; simp only [Act.put]))
        refine ⟨⟨a + s, b, v', os ++ [(a, a + s)], by go_num, rfl, rfl, by omega, hib, hbn, ?_, hC2⟩, ?_⟩
        · rw [← Hpa.out, Hpr.out hlt]; simp
        · simp [intOf]; omega
    · have hd : decide ((1 : Int) < (b : Int) - (a : Int)) = false := by simp; omega
      have hos : os.reverse = p := by rw [← hpa, pathL_small i a b (by omega)]; rfl
      have hol2 : os.length = p.length := by rw [← hos, List.length_reverse]
      have hrev := rev_any (natR os) v os.length w.heap.size wr hC.own (natR_length os) (by omega)
      rw [show (natR os).reverse = natR p by rw [← hos]; simp [natR], hol2] at hrev
      have Hrev := Lib.hid hrev
      clear hos hpa hrev
      go_wp2_with fail
      refine Hrev.out.mono ?_
      rintro e w2 ⟨⟨r, rfl⟩, ho2, hg2⟩
      have hb2 := hC.bel.grown hg2 hC.bel.size (fun k hk => (hC.own.lt k hk).1)
      clear hol2
      go_wp2_with fail
      go_ret2
      exact ⟨_, rfl, ho2, hb2⟩
end Go.Proofs.Ytgcbdnoniikboaa
/- tree.Whole, notaryref09.Whole. -/
namespace Go.Proofs.Ytgcbdnoniikboaa
open Go Go.RowKit

theorem bit_one (n i : Nat) (h : n / 2 ^ i % 2 = 1) : n % 2 ^ (i + 1) = 2 ^ i + n % 2 ^ i := by
  rw [Nat.mod_pow_succ, h, Nat.mul_one, Nat.add_comm]
theorem bit_zero (n i : Nat) (h : n / 2 ^ i % 2 = 0) : n % 2 ^ (i + 1) = n % 2 ^ i := by
  rw [Nat.mod_pow_succ, h, Nat.mul_zero, Nat.add_zero]
theorem wholeL_bit (a n i : Nat) (h : n / 2 ^ i % 2 = 1) : wholeL a (n % 2 ^ (i + 1)) = (a, a + 2 ^ i) :: wholeL (a + 2 ^ i) (n % 2 ^ i) := by
  have hp := Nat.two_pow_pos i
  have hlt : n % 2 ^ i < 2 ^ i := Nat.mod_lt _ hp
  rw [bit_one n i h]
  have hlog : (2 ^ i + n % 2 ^ i).log2 = i := (Nat.log2_eq_iff (by omega)).2 ⟨by omega, by rw [Nat.pow_succ]; omega⟩
  rw [wholeL_more a _ (by omega), hlog, Nat.add_sub_cancel_left]

theorem i64_and_one (a : Nat) (ha : a < 9223372036854775808) : bits .and .i64 (a : Int) 1 = ((a % 2 : Nat) : Int) := by
  have e : a &&& 1 = a % 2 := Nat.and_one_is_mod a
  show IntKind.i64.wrap ((BitVec.ofInt 64 (a : Int) &&& BitVec.ofInt 64 ((1 : Nat) : Int)).toNat : Int) = _
  rw [BitVec.toNat_and, ofInt_u64 a (by omega), ofInt_u64 1 (by omega), e, IntKind.wrap_i64]
  omega
theorem wholeL_len (d : Nat) : ∀ a n : Nat, n < 2 ^ d → (wholeL a n).length ≤ d + 1 := by
  induction d with
  | zero => intro a n h; rw [show n = 0 by omega, wholeL_zero]; simp
  | succ d ih =>
    intro a n h
    by_cases hn : n = 0
    · subst hn; rw [wholeL_zero]; simp
    · rw [wholeL_more a n hn, List.length_cons]
      have h1 := Nat.log2_self_le hn
      have h2 := Nat.lt_log2_self (n := n)
      have hl : n.log2 ≤ d := by
        have : n.log2 < d + 1 := (Nat.log2_lt hn).2 h
        omega
      have h3 : 2 ^ n.log2 ≤ 2 ^ d := Nat.pow_le_pow_right (by decide) hl
      rw [Nat.pow_succ] at h2
      have := ih (a + 2 ^ n.log2) (n - 2 ^ n.log2) (by omega)
      omega

set_option maxHeartbeats 1000000 in
set_option maxRecDepth 100000 in
theorem twhole_any (n : Int) (w : World) (hn : n ≤ 9223372036854775807) :
    Calls Try.prog 21 #[.int .i64 n] w fun e w' => ∃ v, e = .returned v ∧ w'.ownsRow w.heap.size 29 2 v (wholeL 0 n.toNat).length (rcells (natR (wholeL 0 n.toNat))) ∧ Below w.heap.size w w' := by
  by_cases h0 : n ≤ 0
  · rw [show n.toNat = 0 by omega, wholeL_zero]
    have hd : decide (0 < n) = false := by simp; omega
    go_enter Try.func21, Try.ntmps21
    go_wp2_with fail
    go_loopw [3, 5] (fun o i wr => o = .slice none 0 0 ∧ i = .int .i64 62 ∧ w = wr) (fun _ _ _ => 0)
    case atStart => exact ⟨rfl, rfl, rfl⟩
    case round =>
      obtain ⟨rfl, rfl, rfl⟩ := hrel
      go_wp2_with fail
      go_ret
      exact ⟨_, rfl, World.ownsRow_nil _ _ _ _, Below.refl _ _⟩
  · obtain ⟨m, rfl⟩ : ∃ m : Nat, n = (m : Int) := ⟨n.toNat, by omega⟩
    rw [Int.toNat_natCast]
    have hd : decide (0 < (m : Int)) = true := by simp; omega
    have hd' : decide (0 < m) = true := by simp; omega
    obtain ⟨p, hp⟩ : ∃ p, wholeL 0 m = p := ⟨_, rfl⟩
    rw [hp]
    have Hp := Lib.hid hp
    clear hp
    go_enter Try.func21, Try.ntmps21
    go_wp2_with fail
    go_loopw [3, 4, 5] (fun o t i wr => ∃ (j a : Nat) (v : Value) (os : List (Nat × Nat)), j ≤ 63 ∧ i = .int .i64 ((j : Int) - 1) ∧ t = .int .i64 (a : Int) ∧ v = o ∧ a + m % 2 ^ j = m ∧ os.length + j ≤ 63 ∧ os ++ wholeL a (m % 2 ^ j) = p ∧ PtC w os v wr) (fun _ _ i => fun _ => (intOf i + 1).toNat)
    case atStart => exact ⟨63, 0, _, [], Nat.le_refl _, rfl, rfl, rfl, by rw [Nat.mod_eq_of_lt (by omega)]; omega, Nat.le_refl _, by rw [Nat.mod_eq_of_lt (by omega)]; exact Hp.out, World.ownsRow_nil _ _ _ _, Below.refl _ _⟩
    case round =>
      obtain ⟨j, a, v, os, hj, rfl, rfl, rfl, ha, hol, hos, hC⟩ := hrel
      by_cases hj0 : j = 0
      · subst hj0
        have hos' : os = p := by rw [← hos, Nat.pow_zero, Nat.mod_one, wholeL_zero, List.append_nil]
        subst hos'
        clear hos ha
        have ho := hC.own
        have hb := hC.bel
        go_wp2_with fail
        go_ret
        exact ⟨_, rfl, ho, hb⟩
      · obtain ⟨i, rfl⟩ : ∃ i, j = i + 1 := ⟨j - 1, by omega⟩
        have hi62 : i ≤ 62 := by omega
        have hpl := pow63_lt i 63 (by omega) (Nat.le_refl _)
        have ei : (((i + 1 : Nat) : Int) - 1) = (i : Int) := by omega
        rw [ei]
        have hi0 : (0 : Int) ≤ (i : Int) := by omega
        clear ei
        have hk2 : (2 : Int) ^ i = ((2 ^ i : Nat) : Int) := by simp
        have hba : bits .and .i64 ((m : Int) / ((2 ^ i : Nat) : Int)) 1 = ((m / 2 ^ i % 2 : Nat) : Int) := by
          rw [← Int.natCast_ediv]
          exact i64_and_one (m / 2 ^ i) (Nat.lt_of_le_of_lt (Nat.div_le_self _ _) (by omega))
        have hal : a + m % 2 ^ i ≤ m := by
          have := Nat.mod_pow_succ (b := 2) (x := m) (k := i)
          have h2 : m % 2 ^ i ≤ m % 2 ^ (i + 1) := by rw [this]; exact Nat.le_add_right _ _
          omega
        rcases Nat.mod_two_eq_zero_or_one (m / 2 ^ i) with hb | hb
        · have hz := bit_zero m i hb
          rw [hz] at ha hos
          rw [hb] at hba
          obtain ⟨k, hk⟩ : ∃ k, 2 ^ i = k := ⟨_, rfl⟩
          rw [hk] at hba hk2 hpl
          have Ha := Lib.hid ha
          have Hos := Lib.hid hos
          clear ha hos hb hz hj0 hk hal
          go_wp2_with fail
          refine ⟨⟨i, a, v, os, by omega, by go_num, rfl, rfl, Ha.out, by omega, Hos.out, hC⟩, by simp [intOf]⟩
        · have hz := wholeL_bit a m i hb
          have hz2 := bit_one m i hb
          rw [hz] at hos
          rw [hz2] at ha
          rw [hb] at hba
          obtain ⟨r, hr⟩ : ∃ r, m % 2 ^ i = r := ⟨_, rfl⟩
          obtain ⟨k, hk⟩ : ∃ k, 2 ^ i = k := ⟨_, rfl⟩
          rw [hr, hk] at ha
          rw [hk] at hos hba hk2 hpl
          obtain ⟨v', w', hr', ho, hg, -⟩ := append_r hC.own ((a : Int), ((a + k : Nat) : Int)) (by omega) hC.bel.size
          rw [show natR os ++ [((a : Int), ((a + k : Nat) : Int))] = natR (os ++ [(a, a + k)]) by rw [natR_append]; rfl, show os.length + 1 = (os ++ [(a, a + k)]).length by simp] at ho
          rw [show ((a + k : Nat) : Int) = (a : Int) + (k : Int) by omega] at hr'
          have hC2 : PtC w (os ++ [(a, a + k)]) v' w' := ⟨ho, hC.bel.grown hg hC.bel.size (fun k hk => (hC.own.lt k hk).1)⟩
          have hakm : a + k ≤ m := by omega
          have Ha := Lib.hid ha
          have Hos := Lib.hid hos
          have Hr := Lib.hid hr
          have Hk := Lib.hid hk
          have Hr' := Lib.hid hr'
          clear ha hos hb hz hz2 hj0 hk hr hr' ho hg hC hal
          go_wp2_with ((with_reducible show wpList _ _ _ (⟨some 27, .call _, _, _, _, _⟩ :: _) _ _); refine wpList_run rfl v' w' (run_append_op (.tmp 19) (.tmp 26) 22 rfl _ _ rfl rfl Hr'.out) ?_; simp only [Act.put])
          refine ⟨⟨i, a + k, v', os ++ [(a, a + k)], by omega, by go_num, by go_num, rfl, by rw [Hr.out]; have := Ha.out; omega, by rw [List.length_append]; simp; omega, by rw [List.append_assoc, ← Hos.out, Hk.out]; rfl, hC2⟩, by simp [intOf]⟩

/-- the greatest power of two that is not above n -/
theorem log2_of_pow (n j : Nat) (h1 : 2 ^ j ≤ n) (h2 : n < 2 ^ (j + 1)) : n.log2 = j := (Nat.log2_eq_iff (by have := Nat.two_pow_pos j; omega)).2 ⟨h1, h2⟩

set_option maxHeartbeats 1000000 in
set_option maxRecDepth 100000 in
theorem rwhole_any (n : Int) (w : World) (hn : n ≤ 9223372036854775807) :
    Calls Try.prog 22 #[.int .i64 n] w fun e w' => ∃ v, e = .returned v ∧ w'.ownsRow w.heap.size 29 2 v (wholeL 0 n.toNat).length (rcells (natR (wholeL 0 n.toNat))) ∧ Below w.heap.size w w' := by
  by_cases h0 : n ≤ 0
  · rw [show n.toNat = 0 by omega, wholeL_zero]
    have hd : decide (0 < n) = false := by simp; omega
    go_enter Try.func22, Try.ntmps22
    go_wp2_with fail
    go_loopw [3, 4] (fun o i wr => o = .slice none 0 0 ∧ i = .int .i64 0 ∧ w = wr) (fun _ _ _ => 0)
    case atStart => exact ⟨rfl, rfl, rfl⟩
    case round =>
      obtain ⟨rfl, rfl, rfl⟩ := hrel
      go_wp2_with fail
      go_ret
      exact ⟨_, rfl, World.ownsRow_nil _ _ _ _, Below.refl _ _⟩
  · obtain ⟨m, rfl⟩ : ∃ m : Nat, n = (m : Int) := ⟨n.toNat, by omega⟩
    rw [Int.toNat_natCast]
    obtain ⟨p, hp⟩ : ∃ p, wholeL 0 m = p := ⟨_, rfl⟩
    have hpl : p.length ≤ 64 := by rw [← hp]; exact wholeL_len 63 0 m (by omega)
    rw [hp]
    have Hp := Lib.hid hp
    clear hp
    go_enter Try.func22, Try.ntmps22
    go_wp2_with fail
    go_loopw [3, 4] (fun o t wr => ∃ (a : Nat) (v : Value) (os : List (Nat × Nat)), t = .int .i64 (a : Int) ∧ v = o ∧ a ≤ m ∧ os ++ wholeL a (m - a) = p ∧ PtC w os v wr) (fun _ t => fun _ => m - (intOf t).toNat)
    case atStart => exact ⟨0, _, [], rfl, rfl, Nat.zero_le _, by simpa using Hp.out, World.ownsRow_nil _ _ _ _, Below.refl _ _⟩
    case round =>
      obtain ⟨a, v, os, rfl, rfl, ha, hos, hC⟩ := hrel
      have hol : os.length ≤ 64 := by have := congrArg List.length hos; rw [List.length_append] at this; omega
      obtain ⟨wo, hwo⟩ : ∃ wo : World, wo = wr := ⟨_, rfl⟩
      subst hwo
      by_cases hlt : a < m
      · have hmore := wholeL_more a (m - a) (by omega)
        rw [hmore] at hos
        have Hos := Lib.hid hos
        clear hos hmore
        go_wp2_with fail
        go_loop [5] (fun v => ∃ j k : Nat, 1 ≤ k ∧ k ≤ m - a ∧ k = 2 ^ j ∧ v = .int .i64 (k : Int)) (fun v => m - (intOf v).toNat)
        case atStart => exact ⟨0, 1, by omega, by omega, rfl, rfl⟩
        case round =>
          obtain ⟨j, k, hk1, hkm, hk, rfl⟩ := hrel
          by_cases hk2 : k ≤ m - a - k
          · have Hk := Lib.hid hk
            clear hk
            have hd : decide ((k : Int) ≤ (m : Int) - (a : Int) - (k : Int)) = true := by simp; omega
            go_wp2_with fail
            go_round
            case rel => exact ⟨j + 1, 2 * k, by omega, by omega, by rw [Nat.pow_succ, Hk.out]; omega, by go_num⟩
            case measure => simp [intOf]; omega
          · have hlog : (m - a).log2 = j := log2_of_pow _ _ (by omega) (by rw [Nat.pow_succ]; omega)
            have hos := Hos.out
            rw [hlog, ← hk] at hos
            have hd : decide ((k : Int) ≤ (m : Int) - (a : Int) - (k : Int)) = false := by simp; omega
            obtain ⟨v', w', hr', ho, hg, -⟩ := append_r hC.own ((a : Int), ((a + k : Nat) : Int)) (by omega) hC.bel.size
            rw [show natR os ++ [((a : Int), ((a + k : Nat) : Int))] = natR (os ++ [(a, a + k)]) by rw [natR_append]; rfl, show os.length + 1 = (os ++ [(a, a + k)]).length by simp] at ho
            rw [show ((a + k : Nat) : Int) = (a : Int) + (k : Int) by omega] at hr'
            have hC2 : PtC w (os ++ [(a, a + k)]) v' w' := ⟨ho, hC.bel.grown hg hC.bel.size (fun k hk => (hC.own.lt k hk).1)⟩
            have hakm : a + k ≤ m := by omega
            have Hos2 := Lib.hid hos
            have Hr' := Lib.hid hr'
            clear hos hk hlog hr' ho hg hC Hos
            go_wp2_with ((with_reducible show wpList _ _ _ (⟨some 25, .call _, _, _, _, _⟩ :: _) _ _); refine wpList_run rfl v' w' (run_append_op (.tmp 18) (.tmp 24) 22 rfl _ _ rfl rfl Hr'.out) ?_; simp only [Act.put])
            refine ⟨⟨a + k, v', os ++ [(a, a + k)], by go_num, rfl, hakm, by rw [List.append_assoc, ← Hos2.out, show m - (a + k) = m - a - k by omega]; rfl, hC2⟩, by simp [intOf]; omega⟩
      · have hos' : os = p := by rw [← hos, show m - a = 0 by omega, wholeL_zero, List.append_nil]
        subst hos'
        have ho := hC.own
        have hb := hC.bel
        clear hos hC
        go_wp2_with fail
        go_ret
        exact ⟨_, rfl, ho, hb⟩
end Go.Proofs.Ytgcbdnoniikboaa
