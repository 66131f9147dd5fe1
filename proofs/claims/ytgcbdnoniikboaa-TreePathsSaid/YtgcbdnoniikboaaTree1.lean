/- tree.Split, notaryref09.Split. -/
import Derived.Test.YtgcbdnoniikboaaBits
import Derived.Test.YtgcbdnoniikboaaTPlain
namespace Go.Proofs.Ytgcbdnoniikboaa
open Go Go.RowKit

theorem log2_lt63 (x : Nat) (h : x < 2 ^ 63) (h0 : 0 < x) : x.log2 < 63 := (Nat.log2_lt (by omega)).2 h

theorem pow63_lt (j k : Nat) (h : j < k) (hk : k ≤ 63) : 2 ^ j < 9223372036854775808 := by
  have : 2 ^ j < 2 ^ 63 := Nat.pow_lt_pow_right (by decide) (by omega)
  simpa using this
set_option maxHeartbeats 400000 in
theorem tsplit_any (n : Int) (w : World) (hn : n ≤ 9223372036854775807) :
    Calls Try.prog 25 #[.int .i64 n] w fun e w' => e = .returned (.int .i64 (splitN n.toNat : Int)) ∧ w = w' := by
  by_cases h2 : n < 2
  · rw [splitN_small _ (by omega)]
    go_enter Try.func25, Try.ntmps25
    go_wp2_with fail
    go_ret
    exact ⟨rfl, rfl⟩
  · obtain ⟨m, rfl⟩ : ∃ m : Nat, n = (m : Int) := ⟨n.toNat, by omega⟩
    obtain ⟨j, hj⟩ : ∃ j, (m - 1).log2 = j := ⟨_, rfl⟩
    have hj63 : j < 63 := by rw [← hj]; exact log2_lt63 _ (by omega) (by omega)
    have hs : splitN m = 2 ^ j := by rw [splitN, if_neg (by omega), hj]
    have hl := fun w => len64_any (m - 1) w (by omega) (by omega)
    rw [hj] at hl
    rw [show (((m - 1 : Nat)) : Int) = (m : Int) - 1 by omega] at hl
    rw [Int.toNat_natCast, hs]
    have hw1 : IntKind.i64.wrap ((m : Int) - 1) = (m : Int) - 1 := by rw [IntKind.wrap_i64]; omega
    have hw2 : IntKind.u64.wrap ((m : Int) - 1) = (m : Int) - 1 := by rw [IntKind.wrap_u64]; omega
    have Hl := Lib.hid hl
    have Hs := Lib.hid hs
    have Hj := Lib.hid hj
    clear hl hs hj
    go_enter Try.func25, Try.ntmps25
    go_wp2_with (go_at_call 62; refine (Hl.out _).mono ?_; rintro e w' ⟨rfl, rfl⟩)
    go_ret
    have hp := pow63_lt j 63 hj63 (Nat.le_refl _)
    have e : ((2 ^ j : Nat) : Int) = (2 : Int) ^ j := by simp
    refine ⟨?_, rfl⟩
    show Ending.returned (.int .i64 (wrap64 ((2 : Int) ^ j))) = _
    rw [← e]
    generalize 2 ^ j = k at hp ⊢
    rw [IntWalk.wrap64_in _ (by omega)]

set_option maxHeartbeats 400000 in
theorem rsplit_any (n : Int) (w : World) (hn : n ≤ 9223372036854775807) :
    Calls Try.prog 26 #[.int .i64 n] w fun e w' => e = .returned (.int .i64 (splitN n.toNat : Int)) ∧ w = w' := by
  by_cases h2 : n < 2
  · rw [splitN_small _ (by omega)]
    go_enter Try.func26, Try.ntmps26
    go_wp2_with fail
    go_ret
    exact ⟨rfl, rfl⟩
  · obtain ⟨m, rfl⟩ : ∃ m : Nat, n = (m : Int) := ⟨n.toNat, by omega⟩
    rw [Int.toNat_natCast]
    obtain ⟨s, hs⟩ : ∃ s, splitN m = s := ⟨_, rfl⟩
    have hsl := splitN_lt m (by omega)
    have Hs := Lib.hid hs
    rw [hs] at hsl ⊢
    clear hs
    go_enter Try.func26, Try.ntmps26
    go_wp2_with fail
    go_loop [3] (fun v => ∃ j k : Nat, 1 ≤ k ∧ k < m ∧ k = 2 ^ j ∧ v = .int .i64 (k : Int)) (fun v => m - (intOf v).toNat)
    case atStart => exact ⟨0, 1, by omega, by omega, rfl, rfl⟩
    case round =>
      obtain ⟨j, k, hk1, hkm, hk, rfl⟩ := hrel
      by_cases hlt : k < m - k
      · have Hk := Lib.hid hk
        clear hk
        have hd : decide ((k : Int) < (m : Int) - (k : Int)) = true := by simp; omega
        go_wp2_with fail
        go_round
        case rel => exact ⟨j + 1, 2 * k, by omega, by omega, by rw [Nat.pow_succ, Hk.out]; omega, by go_num⟩
        case measure => simp [intOf]; omega
      · have hks : s = k := by rw [← Hs.out, splitN_eq m j (by omega) (by rw [Nat.pow_succ]; omega), hk]
        subst hks
        clear hk
        have hd : decide ((s : Int) < (m : Int) - (s : Int)) = false := by simp; omega
        go_wp2_with fail
        go_ret
        exact ⟨rfl, rfl⟩
end Go.Proofs.Ytgcbdnoniikboaa
