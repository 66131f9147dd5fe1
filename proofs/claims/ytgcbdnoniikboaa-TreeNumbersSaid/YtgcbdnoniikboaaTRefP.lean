/- notaryref09.path, Path, steps, Steps. -/
import Derived.Test.YtgcbdnoniikboaaTPath
namespace Go.Proofs.Ytgcbdnoniikboaa
open Go Go.RowKit

/-- one stretch more, behind what a call has told -/
theorem PtC.app {w W : World} {os : List (Nat × Nat)} {v : Value} (h : PtC w os v W) (x : Nat × Nat) (hl : os.length ≤ 1000) :
    ∃ v' w', (Builtin.append_ #[22, 22] 22 #[v, .slice (some ⟨W.heap.size, 0, none⟩) 1 1]).run Try.prog (W.alloc (.cells #[.int .i64 (x.1 : Int), .int .i64 (x.2 : Int)] 29)) = .ok v' w' ∧ PtC w (os ++ [x]) v' w' := by
  obtain ⟨v', w', hr, ho, hg, -⟩ := append_r h.own ((x.1 : Int), (x.2 : Int)) (by omega) h.bel.size
  rw [show natR os ++ [((x.1 : Int), (x.2 : Int))] = natR (os ++ [x]) by rw [natR_append]; rfl, show os.length + 1 = (os ++ [x]).length by simp] at ho
  exact ⟨v', w', hr, ho, h.bel.grown hg h.bel.size (fun k hk => (h.own.lt k hk).1)⟩

set_option maxHeartbeats 1000000 in
set_option maxRecDepth 100000 in
theorem rpath_rec (d : Nat) : ∀ (i a b : Nat) (w : World), b - a ≤ d → a ≤ b → b ≤ 9223372036854775807 →
    Calls Try.prog 60 #[.int .i64 (i : Int), .int .i64 (a : Int), .int .i64 (b : Int)] w fun e w' => ∃ v, e = .returned v ∧ PtC w (pathL i a b) v w' := by
  induction d using Nat.strongRecOn with
  | ind d ih =>
  intro i a b w hd hab hb
  have hpl : (pathL i a b).length ≤ 63 := pathL_len 63 i a b (by omega)
  by_cases h2 : b - a < 2
  · rw [pathL_small i a b h2]
    have hd : decide ((b : Int) - (a : Int) < 2) = true := by simp; omega
    clear ih
    go_enter Try.func60, Try.ntmps60
    go_wp2_with fail
    go_ret
    exact ⟨_, rfl, World.ownsRow_nil _ _ _ _, Below.refl _ _⟩
  · have hdd : decide ((b : Int) - (a : Int) < 2) = false := by simp; omega
    have hsl := splitN_lt (b - a) (by omega)
    have hsp := splitN_pos (b - a) (by omega)
    have hle := pathL_left i a b (by omega)
    have hri := pathL_right i a b (by omega)
    have hspl := fun w => rsplit_any ((b : Int) - (a : Int)) w (by omega)
    rw [show ((b : Int) - (a : Int)).toNat = b - a by omega] at hspl
    obtain ⟨s, hs⟩ : ∃ s, splitN (b - a) = s := ⟨_, rfl⟩
    rw [hs] at hspl hsl hsp hle hri
    have Hspl := Lib.hid hspl
    clear hspl hs
    by_cases hi : i < a + s
    · have hd3 : decide ((i : Int) < (a : Int) + (s : Int)) = true := by simp; omega
      have hp := hle hi
      rw [hp, List.length_append, List.length_singleton] at hpl
      rw [hp]
      have hih := ih (a + s - a) (by omega) i a (a + s) w (Nat.le_refl _) (by omega) (by omega)
      rw [show ((a + s : Nat) : Int) = (a : Int) + (s : Int) by omega] at hih
      have Hih := Lib.hid hih
      clear hih ih hle hri hp
      go_enter Try.func60, Try.ntmps60
      go_wp2_with (go_at_call 26; refine (Hspl.out _).mono ?_; rintro e w1 ⟨rfl, rfl⟩)
      refine Hih.out.mono ?_
      rintro e w2 ⟨v, rfl, hC⟩
      obtain ⟨v', w', hr, hC'⟩ := hC.app (a + s, b) (by omega)
      rw [show ((a + s : Nat) : Int) = (a : Int) + (s : Int) by omega] at hr
      have Hr := Lib.hid hr
      clear hr hC
      go_wp2_with ((with_reducible show wpList _ _ _ (⟨some 29, .call _, _, _, _, _⟩ :: _) _ _); refine wpList_run rfl v' w' (run_append_op (.tmp 24) (.tmp 28) 22 rfl _ _ rfl rfl Hr.out) ?_; simp only [Act.put])
      go_ret
      exact ⟨_, rfl, hC'⟩
    · have hd3 : decide ((i : Int) < (a : Int) + (s : Int)) = false := by simp; omega
      have hp := hri hi
      rw [hp, List.length_append, List.length_singleton] at hpl
      rw [hp]
      have hih := ih (b - (a + s)) (by omega) i (a + s) b w (Nat.le_refl _) (by omega) hb
      rw [show ((a + s : Nat) : Int) = (a : Int) + (s : Int) by omega] at hih
      have Hih := Lib.hid hih
      clear hih ih hle hri hp
      go_enter Try.func60, Try.ntmps60
      go_wp2_with (go_at_call 26; refine (Hspl.out _).mono ?_; rintro e w1 ⟨rfl, rfl⟩)
      refine Hih.out.mono ?_
      rintro e w2 ⟨v, rfl, hC⟩
      obtain ⟨v', w', hr, hC'⟩ := hC.app (a, a + s) (by omega)
      rw [show ((a + s : Nat) : Int) = (a : Int) + (s : Int) by omega] at hr
      have Hr := Lib.hid hr
      clear hr hC
      go_wp2_with ((with_reducible show wpList _ _ _ (⟨some 38, .call _, _, _, _, _⟩ :: _) _ _); refine wpList_run rfl v' w' (run_append_op (.tmp 33) (.tmp 37) 22 rfl _ _ rfl rfl Hr.out) ?_; simp only [Act.put])
      go_ret
      exact ⟨_, rfl, hC'⟩

theorem rpath_bad (i n : Int) (w : World) (h : i < 0 ∨ n ≤ i) :
    Calls Try.prog 23 #[.int .i64 i, .int .i64 n] w fun e w' => e = .returned (.tuple #[.slice none 0 0, .int .i64 4]) ∧ w = w' := by
  by_cases h0 : i < 0
  · have h0' : decide (i < 0) = true := by simp; exact h0
    go_enter Try.func23, Try.ntmps23
    go_wp2_with fail
    go_ret2
    exact ⟨rfl, rfl⟩
  · have h1 : decide (n ≤ i) = true := by simp; omega
    have h0' : decide (i < 0) = false := by simp; omega
    go_enter Try.func23, Try.ntmps23
    go_wp2_with fail
    go_ret2
    exact ⟨rfl, rfl⟩
theorem rpath_ok (i n : Nat) (w : World) (hi : i < n) (hn : n ≤ 9223372036854775807) :
    Calls Try.prog 23 #[.int .i64 (i : Int), .int .i64 (n : Int)] w fun e w' => ∃ v, e = .returned (.tuple #[v, .int .i64 0]) ∧ PtC w (pathL i 0 n) v w' := by
  have hp := rpath_rec n i 0 n w (Nat.le_refl _) (Nat.zero_le _) hn
  have h0 : decide ((i : Int) < 0) = false := by simp
  have h1 : decide ((n : Int) ≤ (i : Int)) = false := by simp; omega
  have h1' : decide (n ≤ i) = false := by simp; omega
  have Hp := Lib.hid hp
  clear hp
  go_enter Try.func23, Try.ntmps23
  go_wp2_with fail
  refine Hp.out.mono ?_
  rintro e w2 ⟨v, rfl, hC⟩
  go_wp2_with fail
  go_ret2
  exact ⟨v, rfl, hC⟩

set_option maxHeartbeats 1000000 in
set_option maxRecDepth 100000 in
theorem rsteps_rec (d : Nat) : ∀ (m a n : Nat) (whole : Bool) (w : World), n ≤ d → 1 ≤ m → m ≤ n → a + n ≤ 9223372036854775807 →
    Calls Try.prog 61 #[.int .i64 (m : Int), .int .i64 (a : Int), .int .i64 (n : Int), .bool whole] w fun e w' => ∃ v, e = .returned v ∧ PtC w (stepsL m a n whole) v w' := by
  induction d using Nat.strongRecOn with
  | ind d ih =>
  intro m a n whole w hd h1 h2 hb
  have hsl' : (stepsL m a n whole).length ≤ 64 := stepsL_len 63 m a n whole h1 h2 (by omega)
  by_cases hmn : m = n
  · subst hmn
    rw [stepsL_eq m a whole h1]
    clear ih hsl'
    have hbe : ((m : Int) == (m : Int)) = true := by simp
    cases whole with
    | true =>
      go_enter Try.func61, Try.ntmps61
      go_wp2_with fail
      go_ret
      exact ⟨_, rfl, World.ownsRow_nil _ _ _ _, Below.refl _ _⟩
    | false =>
      have ho : (w.alloc (.cells #[.int .i64 (a : Int), .int .i64 ((a : Int) + (m : Int))] 29)).ownsRow w.heap.size 29 2 (.slice (some ⟨w.heap.size, 0, none⟩) 1 1) 1 (rcells (natR [(a, a + m)])) := by
        have := World.ownsRow_lit (base := w.heap.size) (e := 29) (size := 2) w #[.int .i64 (a : Int), .int .i64 ((a : Int) + (m : Int))] 1 (Nat.le_refl _) (by decide) rfl
        rw [show rcells (natR [(a, a + m)]) = [.int .i64 (a : Int), .int .i64 ((a : Int) + (m : Int))] by show [Value.int .i64 (a : Int), .int .i64 ((a + m : Nat) : Int)] = _; rw [show ((a + m : Nat) : Int) = (a : Int) + (m : Int) by omega]]
        exact this
      have hb := (Below.refl w.heap.size w).alloc (Nat.le_refl _) (.cells #[.int .i64 (a : Int), .int .i64 ((a : Int) + (m : Int))] 29)
      go_enter Try.func61, Try.ntmps61
      go_wp2_with fail
      go_ret
      exact ⟨_, rfl, ho, hb⟩
  · have hbe : ((m : Int) == (n : Int)) = false := by simp; omega
    have hsl := splitN_lt n (by omega)
    have hsp := splitN_pos n (by omega)
    have hle := stepsL_left m a n whole h1 (by omega)
    have hri := stepsL_right m a n whole h1 (by omega)
    have hspl := fun w => rsplit_any (n : Int) w (by omega)
    rw [Int.toNat_natCast] at hspl
    obtain ⟨s, hs⟩ : ∃ s, splitN n = s := ⟨_, rfl⟩
    rw [hs] at hspl hsl hsp hle hri
    have Hspl := Lib.hid hspl
    clear hspl hs hmn
    by_cases hk : m ≤ s
    · have hd3 : decide ((m : Int) ≤ (s : Int)) = true := by simp; omega
      have hd3' : decide (m ≤ s) = true := by simp; omega
      have hp := hle hk
      rw [hp, List.length_append, List.length_singleton] at hsl'
      rw [hp]
      have hih := ih s (by omega) m a s whole w (Nat.le_refl _) h1 hk (by omega)
      have Hih := Lib.hid hih
      clear hih ih hle hri hp
      go_enter Try.func61, Try.ntmps61
      go_wp2_with (go_at_call 26; refine (Hspl.out _).mono ?_; rintro e w1 ⟨rfl, rfl⟩)
      refine Hih.out.mono ?_
      rintro e w2 ⟨v, rfl, hC⟩
      obtain ⟨v', w', hr, hC'⟩ := hC.app (a + s, a + n) (by omega)
      rw [show ((a + s : Nat) : Int) = (a : Int) + (s : Int) by omega, show ((a + n : Nat) : Int) = (a : Int) + (n : Int) by omega] at hr
      have Hr := Lib.hid hr
      clear hr hC
      go_wp2_with ((with_reducible show wpList _ _ _ (⟨some 38, .call _, _, _, _, _⟩ :: _) _ _); refine wpList_run rfl v' w' (run_append_op (.tmp 29) (.tmp 37) 22 rfl _ _ rfl rfl Hr.out) ?_; simp only [Act.put])
      go_ret
      exact ⟨_, rfl, hC'⟩
    · have hd3 : decide ((m : Int) ≤ (s : Int)) = false := by simp; omega
      have hd3' : decide (m ≤ s) = false := by simp; omega
      have hp := hri hk
      rw [hp, List.length_append, List.length_singleton] at hsl'
      rw [hp]
      have hih := ih (n - s) (by omega) (m - s) (a + s) (n - s) false w (Nat.le_refl _) (by omega) (by omega) (by omega)
      rw [show ((a + s : Nat) : Int) = (a : Int) + (s : Int) by omega, show ((m - s : Nat) : Int) = (m : Int) - (s : Int) by omega, show ((n - s : Nat) : Int) = (n : Int) - (s : Int) by omega] at hih
      have Hih := Lib.hid hih
      clear hih ih hle hri hp
      go_enter Try.func61, Try.ntmps61
      go_wp2_with (go_at_call 26; refine (Hspl.out _).mono ?_; rintro e w1 ⟨rfl, rfl⟩)
      refine Hih.out.mono ?_
      rintro e w2 ⟨v, rfl, hC⟩
      obtain ⟨v', w', hr, hC'⟩ := hC.app (a, a + s) (by omega)
      rw [show ((a + s : Nat) : Int) = (a : Int) + (s : Int) by omega] at hr
      have Hr := Lib.hid hr
      clear hr hC
      go_wp2_with ((with_reducible show wpList _ _ _ (⟨some 55, .call _, _, _, _, _⟩ :: _) _ _); refine wpList_run rfl v' w' (run_append_op (.tmp 48) (.tmp 54) 22 rfl _ _ rfl rfl Hr.out) ?_; simp only [Act.put])
      go_ret
      exact ⟨_, rfl, hC'⟩

theorem rsteps_bad (m n : Int) (w : World) (h : m < 0 ∨ n < m) :
    Calls Try.prog 24 #[.int .i64 m, .int .i64 n] w fun e w' => e = .returned (.tuple #[.slice none 0 0, .int .i64 4]) ∧ w = w' := by
  by_cases h0 : m < 0
  · have h0' : decide (m < 0) = true := by simp; exact h0
    go_enter Try.func24, Try.ntmps24
    go_wp2_with fail
    go_ret2
    exact ⟨rfl, rfl⟩
  · have h1 : decide (n < m) = true := by simp; omega
    have h0' : decide (m < 0) = false := by simp; omega
    go_enter Try.func24, Try.ntmps24
    go_wp2_with fail
    go_ret2
    exact ⟨rfl, rfl⟩
theorem rsteps_zero (n : Int) (w : World) (h : 0 ≤ n) :
    Calls Try.prog 24 #[.int .i64 0, .int .i64 n] w fun e w' => e = .returned (.tuple #[.slice none 0 0, .int .i64 0]) ∧ w = w' := by
  have h1 : decide (n < 0) = false := by simp; omega
  go_enter Try.func24, Try.ntmps24
  go_wp2_with fail
  go_ret2
  exact ⟨rfl, rfl⟩
theorem rsteps_ok (m n : Nat) (w : World) (h1 : 1 ≤ m) (h2 : m ≤ n) (hn : n ≤ 9223372036854775807) :
    Calls Try.prog 24 #[.int .i64 (m : Int), .int .i64 (n : Int)] w fun e w' => ∃ v, e = .returned (.tuple #[v, .int .i64 0]) ∧ PtC w (stepsL m 0 n true) v w' := by
  have hp := rsteps_rec n m 0 n true w (Nat.le_refl _) h1 h2 (by omega)
  have h0 : decide ((m : Int) < 0) = false := by simp
  have h3 : decide ((n : Int) < (m : Int)) = false := by simp; omega
  have h3' : decide (n < m) = false := by simp; omega
  have hz : ((m : Int) == 0) = false := by simp; omega
  have Hp := Lib.hid hp
  clear hp
  go_enter Try.func24, Try.ntmps24
  go_wp2_with fail
  refine Hp.out.mono ?_
  rintro e w2 ⟨v, rfl, hC⟩
  go_wp2_with fail
  go_ret2
  exact ⟨v, rfl, hC⟩
end Go.Proofs.Ytgcbdnoniikboaa
