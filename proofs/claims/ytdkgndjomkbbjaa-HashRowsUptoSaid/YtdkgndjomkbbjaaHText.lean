/- hash.Text. -/
import Derived.Test.YtdkgndjomkbbjaaHash1
import Derived.Test.YtdkgndjomkbbjaaLent
import Derived.Test.YtdkgndjomkbbjaaSl
import Derived.Test.YtdkgndjomkbbjaaRef2
import Derived.Test.YtdkgndjomkbbjaaRef5
namespace Go.Proofs.Ytdkgndjomkbbjaa
open Go.RowKit

/-- digits to the base 16 -/
def hexs : List UInt8 := [48, 49, 50, 51, 52, 53, 54, 55, 56, 57, 97, 98, 99, 100, 101, 102]
def hex (x : Nat) : UInt8 := hexs.getD x 0
def text (h : List UInt8) : List UInt8 := h.flatMap fun c => [hex (c.toNat / 16), hex (c.toNat % 16)]
theorem length_text (h : List UInt8) : (text h).length = 2 * h.length := by
  unfold text
  induction h with
  | nil => rfl
  | cons c h ih => simp only [List.flatMap_cons, List.length_append, ih, List.length_cons, List.length_nil]; omega
theorem text_take (h : List UInt8) (q : Nat) (hq : q < h.length) : text (h.take (q + 1)) = text (h.take q) ++ [hex ((h.getD q 0).toNat / 16), hex ((h.getD q 0).toNat % 16)] := by
  rw [List.take_succ_eq_append_getElem hq, List.getD_eq_getElem?_getD, List.getElem?_eq_getElem hq]
  unfold text
  rw [List.flatMap_append]
  simp

theorem run_hex (x : Nat) (hx : x < 16) (W : World) : (Instr.index 9 (.string { data := #[48, 49, 50, 51, 52, 53, 54, 55, 56, 57, 97, 98, 99, 100, 101, 102] }) (.int .u8 (x : Int))).run Try.prog W = .ok (B (hex x)) W := by
  have : x = 0 ∨ x = 1 ∨ x = 2 ∨ x = 3 ∨ x = 4 ∨ x = 5 ∨ x = 6 ∨ x = 7 ∨ x = 8 ∨ x = 9 ∨ x = 10 ∨ x = 11 ∨ x = 12 ∨ x = 13 ∨ x = 14 ∨ x = 15 := by omega
  rcases this with rfl | rfl | rfl | rfl | rfl | rfl | rfl | rfl | rfl | rfl | rfl | rfl | rfl | rfl | rfl | rfl <;> (show _ = _; kernel_rfl)
theorem u8_and15 (c : UInt8) : bits .and .u8 (c.toNat : Int) 15 = ((c.toNat % 16 : Nat) : Int) := by
  have hc := u8_lt c
  have := u8_and_nat c.toNat 15 (by omega) (by omega)
  rw [show ((15 : Nat) : Int) = 15 from rfl] at this
  rw [this, show (15 : Nat) = 2 ^ 4 - 1 from rfl, Nat.and_two_pow_sub_one_eq_mod]

set_option maxHeartbeats 1000000 in
set_option maxRecDepth 100000 in
theorem htext_any (h : List UInt8) (w : World) (hl : h.length = 32) :
    Calls Try.prog 56 #[.agg (h.map B).toArray] w fun e w' => e = .returned (.string (bstr (text h))) ∧ Below w.heap.size w w' := by
  obtain ⟨hv, hhv⟩ : ∃ hv, (h.map B).toArray = hv := ⟨_, rfl⟩
  rw [hhv]
  have hvl : hv.size = 32 := by rw [← hhv]; simp [hl]
  have k1 := Blk.new w 26 hv
  have b1 := (Below.refl w.heap.size w).alloc (Nat.le_refl _) (.cells hv 26)
  obtain ⟨w1, hw1⟩ : ∃ w1, w.alloc (.cells hv 26) = w1 := ⟨_, rfl⟩
  rw [hw1] at k1 b1
  have hld := run_load_blk (P := Try.prog) (agg26 _) (size26 _) w.heap.size hv hvl k1
  have Hld := Lib.hid hld
  have Hhv := Lib.hid hhv
  have Hw1 := Lib.hid hw1
  clear hld hhv hw1 hvl
  go_enter Try.func56, Try.ntmps56
  go_wp2_with (first
    | ((with_reducible show wpList _ _ _ (⟨some 1, .box _ _, _, _, _, _⟩ :: _) _ _); refine wpList_run rfl (.pointer (some ⟨w.heap.size, 0, none⟩)) w1 (by rw [← Hw1.out]; rfl) ?_; simp only [Act.put])
    | ((with_reducible show wpList _ _ _ (⟨some 6, .load _ _, _, _, _, _⟩ :: _) _ _); refine wpList_load rfl 26 (.tmp 1) rfl w.heap.size 0 rfl hv Hld.out ?_; simp only [Act.put]))
  go_loopw [3, 7] (fun v i wr => ∃ (q : Nat), q ≤ 32 ∧ i = .int .i64 q ∧ wr.ownsRow w.heap.size 5 1 v (text (h.take q)).length ((text (h.take q)).map B) ∧ Below w.heap.size w wr) (fun _ i _ => 32 - (intOf i).toNat)
  case atStart => exact ⟨0, by omega, rfl, World.ownsRow_nil _ _ _ _, b1⟩
  case round =>
    clear k1 b1 Hld
    obtain ⟨q, hq, rfl, ho, hB⟩ := hrel
    by_cases hlq : q < 32
    · obtain ⟨c, hc⟩ : ∃ c, h.getD q 0 = c := ⟨_, rfl⟩
      have hcl := u8_lt c
      have hix := fun W => run_index_agg (P := Try.prog) Try.underlying26 size25e agg25e hv q (B c) hlq (by rw [← Hhv.out, ← hc]; exact cellB h q (by omega)) W
      have hx1 := fun W => run_hex (c.toNat / 16) (by omega) W
      have hx2 := fun W => run_hex (c.toNat % 16) (by omega) W
      have ha := u8_and15 c
      have htk := text_take h q (by omega)
      rw [hc] at htk
      obtain ⟨d1, hd1⟩ : ∃ d, hex (c.toNat / 16) = d := ⟨_, rfl⟩
      obtain ⟨d2, hd2⟩ : ∃ d, hex (c.toNat % 16) = d := ⟨_, rfl⟩
      rw [hd1] at hx1 htk
      rw [hd2] at hx2 htk
      obtain ⟨T, hT⟩ : ∃ T, text (h.take q) = T := ⟨_, rfl⟩
      obtain ⟨T', hT'⟩ : ∃ T', text (h.take (q + 1)) = T' := ⟨_, rfl⟩
      have hTl : T.length = 2 * q := by rw [← hT, length_text, List.length_take]; omega
      rw [hT] at htk ho
      rw [hT'] at htk
      have Hd1 := Lib.hid hd1
      have Hd2 := Lib.hid hd2
      have HT := Lib.hid hT
      have HT' := Lib.hid hT'
      have HTl := Lib.hid hTl
      have Htk := Lib.hid htk
      have Hc := Lib.hid hc
      clear hd1 hd2 hT hT' hTl htk hc
      have e16 : ((c.toNat / 16 : Nat) : Int) = (c.toNat : Int) / 16 := by omega
      have m16 : ((c.toNat % 16 : Nat) : Int) = (c.toNat : Int) % 16 := by omega
      rw [e16] at hx1
      rw [m16] at hx2 ha
      clear e16 m16
      go_upto_region 5 with fail
      refine wp_region_mix (fun _ => True) [(0, true), (1, true), (2, true), (3, true), (4, true), (5, true), (6, true), (7, false), (8, false), (9, true)] (by kernel_rfl) (by kernel_rfl) trivial fun _ => ?_
      simp only [List.map_cons, List.map_nil, Array.getD_eq_getD_getElem?, List.getElem?_toArray, List.getElem?_cons_succ, List.getElem?_cons_zero, Option.getD_some]
      replace ho := owns_step ho (Below.refl _ _).drew
      replace hB := hB.drew
      generalize wr.drew = W0 at ho hB ⊢
      iterate 7 (refine wpMix_s (fun K hK => ?_); go_simp; refine hK _ ?_; clear hK K)
      refine wpMix_c (fun K hK => ?_) trivial
      go_simp
      refine hK _ _ ?_
      clear hK K
      refine ⟨trivial, ?_⟩
      have hb0 : Below W0.heap.size W0 (W0.alloc (.cells #[.int .u8 (d1.toNat : Int), .int .u8 (d2.toNat : Int)] 5)) := (Below.refl _ _).alloc (Nat.le_refl _) _
      have hs0 : Sl (W0.alloc (.cells #[.int .u8 (d1.toNat : Int), .int .u8 (d2.toNat : Int)] 5)) (fun _ => True) (some ⟨W0.heap.size, 0, none⟩) 2 2 [d1, d2] := ⟨Bs.new W0 (fun _ => True) 5 ([d1, d2].map B) trivial, rfl, Nat.le_refl _, (by simp), by decide⟩
      obtain ⟨v9, w2, hr9, ho9, hg9⟩ := append_sl (owns_step ho hb0) hs0 (by rw [HTl.out]; omega) (Nat.le_trans hB.size hb0.size)
      rw [← Htk.out] at ho9
      have hB2 := (hB.trans (hb0.mono hB.size)).grown hg9 (Nat.le_trans hB.size hb0.size) (fun k hk => (ho.lt k hk).1)
      have Hr9 := Lib.hid hr9
      clear hr9 hs0 hb0 hg9 ho hB
      refine wpMix_run (by kernel_rfl) _ w2 (run_append_op (.tmp 10) (.tmp 17) 23 rfl _ _ rfl rfl Hr9.out) trivial ?_
      simp only [Act.put]
      refine wpMix_s (fun K hK => ?_)
      go_simp
      refine hK _ ?_
      clear hK K
      refine wpMix_nil ?_
      intro _
      go_wp2_with fail
      go_roundw
      case rel => exact ⟨q + 1, by omega, by go_num, by rw [HT'.out]; exact ho9, hB2⟩
      case measure => simp [intOf]; omega
    · obtain rfl : q = 32 := by omega
      rw [List.take_of_length_le (by omega)] at ho
      obtain ⟨A, c, rfl, hs⟩ := owns_sl ho
      have hst := run_str hs
      obtain ⟨T, hT⟩ : ∃ T, bstr (text h) = T := ⟨_, rfl⟩
      rw [hT] at hst
      have Hst := Lib.hid hst
      have HT := Lib.hid hT
      clear hst hT
      go_wp2_with ((with_reducible show wpList _ _ _ (⟨some 21, .convert _ _ _, _, _, _, _⟩ :: _) _ _); refine wpList_run0 rfl (.string T) (run_conv_op _ _ (.tmp 20) rfl _ rfl Hst.out) ?_; simp only [Act.put])
      go_ret
      exact ⟨by rw [HT.out]; rfl, hB⟩
end Go.Proofs.Ytdkgndjomkbbjaa
