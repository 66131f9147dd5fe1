/- notaryref10: Size, come. -/
import Derived.Test.YtonidnfgneokbaaQd142
import Derived.Test.YtonidnfgneokbaaQd126
import Derived.Test.YtonidnfgneokbaaQd130
namespace Go.Proofs.Ytonidnfgneokbaa
open Go Go.RowKit Go.Shelf
attribute [local go_sem] Oper.semAt_some

set_option maxHeartbeats 4000000 in
set_option maxRecDepth 100000 in
theorem rfsize_nil (w : World) : Calls Try.prog 125 #[.pointer none] w fun e w' => e = .returned (.int .i64 0) ∧ w' = w := by
  go_enter Try.func125, Try.ntmps125
  go_wp2_with fail
  go_loopw [3, 4] (fun v3 v4 wr => v3 = .int .i64 0 ∧ v4 = .int .i64 0 ∧ wr = w) (fun _ _ _ => 0)
  case atStart => exact ⟨rfl, rfl, rfl⟩
  case round =>
    obtain ⟨rfl, rfl, rfl⟩ := hrel
    go_wp2_with fail
    go_ret
    exact ⟨rfl, rfl⟩
set_option maxHeartbeats 4000000 in
set_option maxRecDepth 100000 in
theorem rfsize_any (g : Nat) (ps : FrV) (w : World) (h : FrP w g ps) (ht : szF ps ≤ 9223372036854775807) : Calls Try.prog 125 #[fptr g] w fun e w' => e = .returned (.int .i64 (szF ps : Int)) ∧ w' = w := by
  obtain ⟨A, n, c, hk, hP⟩ := h.ex
  have hlen : ps.length = n := by rw [← hP.len, length_fpq]
  have hroom := hP.sl.room
  have hmx := hP.sl.max
  unfold maxLen at hmx
  obtain ⟨res, hres⟩ : ∃ r, szF ps = r := ⟨_, rfl⟩
  rw [hres]
  have Hres := Lib.hid hres
  have Hlen := Lib.hid hlen
  have Ht := Lib.hid ht
  have c12 : w.cell? ⟨g, 0, none⟩ = some (.slice A n c) := by rw [hk.cell]; rfl
  clear hres hlen ht h hk
  go_enter Try.func125, Try.ntmps125
  go_wp2_with fail
  go_loopw [3, 4] (fun v3 v4 wr => ∃ k : Nat, k ≤ n ∧ v4 = .int .i64 (k : Int) ∧ v3 = .int .i64 (szF (ps.take k) : Int) ∧ wr = w) (fun _ v4 _ => n - (intOf v4).toNat)
  case atStart => exact ⟨0, Nat.zero_le _, rfl, by rw [List.take_zero]; rfl, rfl⟩
  case round =>
    obtain ⟨k, hk, rfl, rfl, rfl⟩ := hrel
    by_cases hkn : k < n
    · have hd : decide ((k : Int) < (n : Int)) = true := by simp; omega
      have hwk : IntKind.i64.wrap ((k : Int) + 1) = (k : Int) + 1 := IntWalk.i64_in _ (by omega)
      obtain ⟨b, o, rfl, -, -⟩ := hP.at_ (by omega)
      have c26 := hP.num rfl k hkn
      rw [fpq_getD ps k (by rw [Hlen.out]; exact hkn)] at c26
      have hst := szF_take ps k (by rw [Hlen.out]; exact hkn)
      have hle := szF_take_le ps (k + 1)
      have htp := Ht.out
      replace c26 : wr.cell? ⟨b, o + k * 33, none⟩ = some (.int .i64 ((2 ^ (ps.getD k (0, [])).1 : Nat) : Int)) := c26
      obtain ⟨pw, hpw⟩ : ∃ p, 2 ^ (ps.getD k (0, [])).1 = p := ⟨_, rfl⟩
      obtain ⟨a, ha⟩ : ∃ a, szF (ps.take k) = a := ⟨_, rfl⟩
      obtain ⟨a', ha'⟩ : ∃ a, szF (ps.take (k + 1)) = a := ⟨_, rfl⟩
      rw [hpw] at c26 hst
      rw [ha, ha'] at hst
      rw [ha'] at hle
      have hws : IntKind.i64.wrap ((a : Int) + (pw : Int)) = (a' : Int) := by rw [IntWalk.i64_in _ (by omega)]; omega
      rw [ha]
      have Ha := Lib.hid ha'
      clear hpw ha ha' hst hle htp
      go_wp2_with fail
      go_roundw
      case rel => exact ⟨k + 1, by omega, by go_num, by rw [Ha.out], by first | rfl | trivial⟩
      case measure => simp [intOf] <;> omega
    · obtain rfl : k = n := by omega
      have hd : decide ((k : Int) < (k : Int)) = false := by simp
      rw [List.take_of_length_le (by rw [Hlen.out]; exact Nat.le_refl _), Hres.out]
      go_wp2_with fail
      go_ret
      exact ⟨rfl, rfl⟩
end Go.Proofs.Ytonidnfgneokbaa
