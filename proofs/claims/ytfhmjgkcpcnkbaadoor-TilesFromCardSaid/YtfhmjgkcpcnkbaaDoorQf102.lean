/- Walks of small pure functions of layer 3. -/
import Derived.Test.YtfhmjgkcpcnkbaaDoorProg
import Derived.Test.YtfhmjgkcpcnkbaaDoorQf101
namespace Go.Proofs.YtfhmjgkcpcnkbaaDoor
open Go.RowKit

theorem neg_mask (n : Nat) (h1 : 1 ≤ n) (h2 : n ≤ 31) : bits .and .u64 (IntKind.u64.wrap (-(n : Int))) 31 = ((32 - n : Nat) : Int) := by
  have e : IntKind.u64.wrap (-(n : Int)) = ((18446744073709551616 - n : Nat) : Int) := by
    rw [IntKind.wrap_u64]; omega
  rw [e, show (31 : Int) = ((31 : Nat) : Int) from rfl, u64_and_nat _ _ (by omega) (by omega), nat_mask5]
  congr 1; omega

set_option maxHeartbeats 400000 in
theorem rotl_any (x : UInt32) (n : Nat) (w : World) (h1 : 1 ≤ n) (h2 : n ≤ 31) :
    Calls Tryd.prog 108 #[U x, .int .i64 (-(n : Int))] w fun e w' => e = .returned (U (rotr x n)) ∧ w = w' := by
  have hx := u32_lt x
  have hm := neg_mask n h1 h2
  go_enter Tryd.func108, Tryd.ntmps108
  go_wp2
  go_ret
  refine ⟨ret_int ?_, rfl⟩
  rw [shl32 x (32 - n) (by omega), show 32 - (32 - n) = n by omega, shr32 x n (by omega), bor32, UInt32.or_comm]
  rfl

set_option maxHeartbeats 400000 in
theorem rot_any (x : UInt32) (n : Nat) (w : World) (h1 : 1 ≤ n) (h2 : n ≤ 31) :
    Calls Tryd.prog 106 #[U x, .int .i64 (n : Int)] w fun e w' => e = .returned (U (rotr x n)) ∧ w = w' := by
  go_enter Tryd.func106, Tryd.ntmps106
  go_wp2_with (go_at_call 108; refine (rotl_any _ _ _ h1 h2).mono ?_; rintro e w' ⟨rfl, rfl⟩)
  go_ret
  exact ⟨rfl, rfl⟩

theorem rot_still (x : UInt32) (k : Int) (n : Nat) (hk : k = n) (h1 : 1 ≤ n) (h2 : n ≤ 31) (w : World) :
    Calls Tryd.prog 106 #[U x, .int .i64 k] w fun e w' => e = .returned (U (rotr x n)) ∧ w' = w := by
  subst hk
  exact (rot_any x n w h1 h2).mono fun e w' h => ⟨h.1, h.2.symm⟩

theorem or_byte (x : Nat) (b : UInt8) (h : x < 16777216) : bits .or .u32 ((x : Int) * 256 % 4294967296) ((b.toNat : Int) % 4294967296) = ((x * 256 + b.toNat : Nat) : Int) := by
  have hb := u8_lt b
  rw [show (x : Int) * 256 % 4294967296 = ((x * 256 : Nat) : Int) by omega, show (b.toNat : Int) % 4294967296 = (b.toNat : Int) by omega, u32_or_nat _ _ (by omega) (by omega),
    nat_join 8 (x * 256) b.toNat (by omega) (by omega)]
theorem or_zero (b : UInt8) : bits .or .u32 0 ((b.toNat : Int) % 4294967296) = (b.toNat : Int) := by
  have := or_byte 0 b (by omega)
  simpa using this
set_option maxHeartbeats 400000 in
theorem word_any (b0 b1 b2 b3 : UInt8) (g o n c : Nat) (w : World) (hn : 4 ≤ n) (hc : n ≤ c)
    (h0 : w.cell? ⟨g, o, none⟩ = some (B b0)) (h1 : w.cell? ⟨g, o + 1, none⟩ = some (B b1)) (h2 : w.cell? ⟨g, o + 2, none⟩ = some (B b2)) (h3 : w.cell? ⟨g, o + 3, none⟩ = some (B b3)) :
    Calls Tryd.prog 105 #[.slice (some ⟨g, o, none⟩) n c] w fun e w' => e = .returned (U (be4 b0 b1 b2 b3)) ∧ w = w' := by
  go_enter Tryd.func105, Tryd.ntmps105
  go_wp2
  go_rounds 5
  go_ret
  refine ⟨ret_int ?_, rfl⟩
  have e0 := u8_lt b0
  have e1 := u8_lt b1
  have e2 := u8_lt b2
  rw [be4_toNat, or_zero, or_byte _ _ (by omega), or_byte _ _ (by omega), or_byte _ _ (by omega)]
theorem size101 : ∀ w : World, (sizeOf 161).run Tryd.prog w = .ok 64 w := fun _ => by kernel_rfl
theorem size33 : ∀ w : World, (sizeOf 136).run Tryd.prog w = .ok 8 w := fun _ => by kernel_rfl
theorem agg101 : ∀ w : World, (isAgg 161).run Tryd.prog w = .ok true w := fun _ => by kernel_rfl
theorem agg33 : ∀ w : World, (isAgg 136).run Tryd.prog w = .ok true w := fun _ => by kernel_rfl

set_option maxHeartbeats 1000000 in
set_option maxRecDepth 100000 in
theorem table_any (w : World) :
    Calls Tryd.prog 107 #[] w fun e w' => e = .returned (.agg (K256.map U).toArray) ∧ Below w.heap.size w w' := by
  go_enter Tryd.func107, Tryd.ntmps107
  go_wp2_with (first
    | (refine wpList_run0 (o := ⟨some 1, .build _ _, _, _, _, _⟩) rfl (.agg (K256.map U).toArray) (by kernel_rfl) ?_)
    | (refine wpList_store_blk rfl 161 (.tmp 0) (.tmp 1) rfl 64 size101 w.heap.size (K256.map U).toArray rfl (by kernel_rfl) (by simp [length_K256]) (oneCell_U _) 161 _ (Blk.new _ _ _) (by rfl) ?_))
  refine bodyPost_ret (results_cell_row rfl _ _ w.heap.size 161 (K256.map U).toArray (0, 0) _ rfl ((Blk.new _ _ _).setRow_ _) Tryd.underlying161 rfl (by kernel_rfl)) rfl ⟨rfl, ?_⟩
  exact below_setRow ((Below.refl _ _).alloc (Nat.le_refl _) _) (Nat.le_refl _) _
end Go.Proofs.YtfhmjgkcpcnkbaaDoor
