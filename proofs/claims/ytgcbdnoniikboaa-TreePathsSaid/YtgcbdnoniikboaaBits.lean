/- math/bits.Len64, by the shelf's contract. -/
import Derived.Shelf.Strconv.Itoa0
import Derived.Test.YtgcbdnoniikboaaHash1
namespace Go.Proofs.Ytgcbdnoniikboaa
open Go Go.RowKit Go.Shelf

def len64_ren : Go.Shelf.Ren := ⟨fun | 129 => 62 | n => n, fun | 53 => 102 | 3 => 3 | 4 => 4 | 46 => 103 | 5 => 5 | 9 => 9 | n => n, fun | n => n⟩
theorem len64_lays : Go.Proofs.Lays.n129 Try.prog len64_ren := {
  mixed := by kernel_rfl
  f129 := Try.func62.trans (congrArg some (by kernel_rfl))
  t3 := Try.underlying3
  a3 := Try.isAgg3
  z3 := Try.sizeOf3
  v3 := Try.zeroValue3
  t4 := Try.underlying4
  a4 := Try.isAgg4
  z4 := Try.sizeOf4
  v4 := Try.zeroValue4
  t5 := Try.underlying5
  a5 := Try.isAgg5
  z5 := Try.sizeOf5
  v5 := Try.zeroValue5
  t9 := Try.underlying9
  a9 := Try.isAgg9
  z9 := Try.sizeOf9
  v9 := Try.zeroValue9
  t46 := Try.underlying103
  a46 := Try.isAgg103
  z46 := Try.sizeOf103
  v46 := Try.zeroValue103
  t53 := Try.underlying102
  a53 := Try.isAgg102
  z53 := Try.sizeOf102
  v53 := Try.zeroValue102 }
theorem bitLenAux_log2 : ∀ (f x : Nat), 0 < x → x < 2 ^ f → Lib.bitLenAux f x = x.log2 + 1
  | 0, x, h0, h => by simp at h; omega
  | f + 1, x, h0, h => by
    rw [Lib.bitLenAux, if_neg (by omega)]
    by_cases h2 : 2 ≤ x
    · rw [bitLenAux_log2 f (x / 2) (by omega) (by rw [Nat.pow_succ] at h; omega), Nat.log2_def x, if_pos h2]; omega
    · obtain rfl : x = 1 := by omega
      have : ∀ f, Lib.bitLenAux f 0 = 0 := fun f => by cases f <;> simp [Lib.bitLenAux]
      rw [show 1 / 2 = 0 from rfl, this]; rfl
theorem len64_any (x : Nat) (w : World) (h0 : 0 < x) (h1 : x < 2 ^ 64) :
    Calls Try.prog 62 #[.int .u64 (x : Int)] w fun e w' => e = .returned (.int .i64 ((x.log2 : Nat) + 1 : Int)) ∧ w = w' := by
  refine (Any.bits_Len64 len64_lays (x : Int) w (by omega) (by omega)).mono fun e w' ⟨he, hw⟩ => ⟨?_, hw.symm⟩
  rw [he, Int.toNat_natCast, Lib.bitLen, bitLenAux_log2 64 x h0 h1]
  simp
end Go.Proofs.Ytgcbdnoniikboaa
