/- notaryref03.eight. -/
import Derived.Test.YtgcbdnoniikboaaRef1
namespace Go.Proofs.Ytgcbdnoniikboaa
open Go.RowKit

set_option maxHeartbeats 1000000 in
set_option maxRecDepth 100000 in
theorem eight_any (n : Nat) (w : World) (hn : n < 18446744073709551616) :
    Calls Try.prog 87 #[.int .u64 (n : Int)] w fun e w' => ∃ v, e = .returned v ∧ Fresh w w' v (num8 n) := by
  have hn' : (n : Int) < 18446744073709551616 := by omega
  clear hn
  go_enter Try.func87, Try.ntmps87
  go_wp2_with fail
  go_loopw [3, 4] (fun v0 i wr => ∃ (v : Value) (q : Nat), v = v0 ∧ q ≤ 8 ∧ i = .int .i64 (56 - 8 * (q : Int)) ∧ wr.ownsRow w.heap.size 5 1 v ((num8 n).take q).length (((num8 n).take q).map B) ∧ Below w.heap.size w wr) (fun _ i => fun _ => (intOf i + 8).toNat)
  case atStart => exact ⟨_, 0, rfl, by omega, rfl, World.ownsRow_nil _ _ _ _, Below.refl _ _⟩
  case round =>
    obtain ⟨v, q, rfl, hq, rfl, ho, hB⟩ := hrel
    by_cases hlq : q < 8
    · have e1 : (56 - 8 * (q : Int)).toNat = 56 - 8 * q := by omega
      have hs := hB.size
      have hnb := num_byte n q hlq
      have hsl : Sl (wr.alloc (.cells #[.int .u8 ((n : Int) / 2 ^ (56 - 8 * q) % (256 : Int))] 5)) (fun _ => True) (some ⟨wr.heap.size, 0, none⟩) 1 1 [UInt8.ofNat (n / 256 ^ (7 - q))] := by
        rw [hnb]; exact sl_lit wr [UInt8.ofNat (n / 256 ^ (7 - q))] 1 rfl (by decide)
      obtain ⟨v2, W2, hr2, ho2, hg2⟩ := append_sl (ho.alloc _) hsl (by rw [List.length_take, length_num8]; omega) (by simp; omega)
      rw [← take_num8 n q hlq] at ho2
      have hb2 := below_append (hB.alloc hs _) (ho.alloc _) hg2 (Nat.le_refl _) (by simp; omega)
      have Ho2 := Lib.hid ho2
      have Hb2 := Lib.hid hb2
      clear hsl ho hB hnb hg2 hs hn' ho2 hb2
      have Hr2 := Lib.hid hr2
      clear hr2
      go_wp2_with ((with_reducible show wpList _ _ _ (⟨some 15, .call _, _, _, _, _⟩ :: _) _ _); refine wpList_run rfl v2 W2 (run_append_op (.tmp 9) (.tmp 14) 32 rfl _ _ rfl rfl Hr2.out) ?_; simp only [Act.put])
      go_roundw
      case rel =>
        refine ⟨_, q + 1, rfl, by omega, ?_, Ho2.out, Hb2.out⟩
        refine congrArg _ ?_; omega
      case measure => simp [intOf]; omega
    · obtain rfl : q = 8 := by omega
      rw [List.take_of_length_le (by rw [length_num8]; omega)] at ho
      go_wp2_with fail
      go_ret
      exact ⟨_, rfl, ho, hB⟩
end Go.Proofs.Ytgcbdnoniikboaa
