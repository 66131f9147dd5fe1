/- tree.Steps. -/
import Derived.Test.YtgcbdnoniikboaaTSteps
import Derived.Laws.EntriesVeiled
namespace Go.Proofs.Ytgcbdnoniikboaa
open Go Go.RowKit

theorem tsteps_bad (m n : Int) (w : World) (h : m < 0 ∨ n < m) :
    Calls Try.prog 17 #[.int .i64 m, .int .i64 n] w fun e w' => e = .returned (.tuple #[.slice none 0 0, .int .i64 4]) ∧ Below w.heap.size w w' := by
  have hb := (Below.refl w.heap.size w).alloc (Nat.le_refl _) (.cells #[.int .i64 m] 2)
  by_cases h0 : m < 0
  · have h0' : decide (m < 0) = true := by simp; exact h0
    go_enter Try.func17, Try.ntmps17
    go_wp2_with fail
    go_ret2
    exact ⟨rfl, hb⟩
  · have h1 : decide (n < m) = true := by simp; omega
    have h0' : decide (m < 0) = false := by simp; omega
    go_enter Try.func17, Try.ntmps17
    go_wp2_with fail
    go_ret2
    exact ⟨rfl, hb⟩
theorem tsteps_zero (n : Int) (w : World) (h : 0 ≤ n) :
    Calls Try.prog 17 #[.int .i64 0, .int .i64 n] w fun e w' => e = .returned (.tuple #[.slice none 0 0, .int .i64 0]) ∧ Below w.heap.size w w' := by
  have hb := (Below.refl w.heap.size w).alloc (Nat.le_refl _) (.cells #[.int .i64 0] 2)
  have h1 : decide (n < 0) = false := by simp; omega
  go_enter Try.func17, Try.ntmps17
  go_wp2_with fail
  go_ret2
  exact ⟨rfl, hb⟩
set_option maxHeartbeats 1000000 in
set_option maxRecDepth 100000 in
theorem tsteps_ok (m n : Nat) (w : World) (h1 : 1 ≤ m) (h2 : m ≤ n) (hn : n ≤ 9223372036854775807) :
    Calls Try.prog 17 #[.int .i64 (m : Int), .int .i64 (n : Int)] w fun e w' => ∃ v, e = .returned (.tuple #[v, .int .i64 0]) ∧ w'.ownsRow w.heap.size 29 2 v (stepsL m 0 n true).length (rcells (natR (stepsL m 0 n true))) ∧ Below w.heap.size w w' := by
  have hlen : (stepsL m 0 n true).length ≤ 64 := stepsL_len 63 m 0 n true h1 h2 (by omega)
  have key := fun W (h : DnC w m (.slice none 0 0) [] W) => down_any w m n 0 n true (.slice none 0 0) [] W (by omega) (by omega) h2 hn (by simp; omega) h
  simp only [Nat.sub_zero, List.nil_append] at key
  have h0 : decide ((m : Int) < 0) = false := by simp
  have h0' : decide ((n : Int) < (m : Int)) = false := by simp; omega
  have h0'' : decide (n < m) = false := by simp; omega
  have hz : ((m : Int) == 0) = false := by simp; omega
  have Key := Lib.hid key
  clear key
  go_enter Try.func17, Try.ntmps17
  go_wp2_with fail
  refine (Key.out _ ⟨(((Blk.new _ _ _).alloc _).alloc _), (Blk.new' _ _ _ _ (by simp)).alloc _, Blk.new' _ _ _ _ (by simp), World.ownsRow_nil _ _ _ _, (((Below.refl _ _).alloc (Nat.le_refl _) _).alloc (by simp) _).alloc (by simp; omega) _⟩).mono ?_
  rintro e W ⟨⟨r, rfl⟩, v, hC⟩
  have c6 : W.cell? ⟨w.heap.size + 1, 0, none⟩ = some v := by rw [hC.bo.cell]; rfl
  go_wp2_with fail
  go_ret2
  exact ⟨v, rfl, owns_le hC.own (by omega), hC.bel⟩
end Go.Proofs.Ytgcbdnoniikboaa
