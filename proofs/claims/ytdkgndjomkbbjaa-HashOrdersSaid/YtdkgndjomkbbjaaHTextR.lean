/- notaryref08.Text. -/
import Derived.Test.YtdkgndjomkbbjaaHCompareR
namespace Go.Proofs.Ytdkgndjomkbbjaa
open Go Go.RowKit

theorem run_hexslice (x : Nat) (hx : x < 16) (W : World) : (Instr.sliceAt 9 (.string { data := #[48, 49, 50, 51, 52, 53, 54, 55, 56, 57, 97, 98, 99, 100, 101, 102] }) (some (.int .u8 (x : Int))) (some (.int .u8 ((x : Int) + 1))) none).run Try.prog W = .ok (.string (bstr [hex x])) W := by
  have : x = 0 ∨ x = 1 ∨ x = 2 ∨ x = 3 ∨ x = 4 ∨ x = 5 ∨ x = 6 ∨ x = 7 ∨ x = 8 ∨ x = 9 ∨ x = 10 ∨ x = 11 ∨ x = 12 ∨ x = 13 ∨ x = 14 ∨ x = 15 := by omega
  rcases this with rfl | rfl | rfl | rfl | rfl | rfl | rfl | rfl | rfl | rfl | rfl | rfl | rfl | rfl | rfl | rfl <;> (show _ = _; kernel_rfl)
theorem run_hexslice_op {ρ : Operand → Value} {o : Oper} (x : Nat) (hx : x < 16) (y lo hi : Operand) (ho : o.op = .slice 9 y (some lo) (some hi) none) (hy : ρ y = .string { data := #[48, 49, 50, 51, 52, 53, 54, 55, 56, 57, 97, 98, 99, 100, 101, 102] }) (hlo : ρ lo = .int .u8 (x : Int)) (hhi : ρ hi = .int .u8 ((x : Int) + 1)) (W : World) :
    (execOp ρ o).run Try.prog W = .ok (.value (.string (bstr [hex x]))) W := by
  unfold execOp
  simp only [ho, hy, hlo, hhi, Option.map_some, Option.map_none, Sem.run_bind, Sem.run_pure, run_hexslice x hx, Result.andThen_ok]
theorem run_addstr_op {ρ : Operand → Value} {o : Oper} (x y : Operand) (ty : TypeId) (l m : List UInt8) (ho : o.op = .binOp .add 9 x y ty) (hx : ρ x = .string (bstr l)) (hy : ρ y = .string (bstr m)) (hl : l.length + m.length ≤ 1000) (W : World) :
    (execOp ρ o).run Try.prog W = .ok (.value (.string (bstr (l ++ m)))) W := by
  have e : (bstr l ++ bstr m) = bstr (l ++ m) := by
    apply ByteArray.ext
    simp [bstr]
  have hno : ¬ ((((bstr l).size + (bstr m).size : Nat) : Int) > IntKind.i64.max) := by
    rw [bstr_size, bstr_size, show IntKind.i64.max = 9223372036854775807 by decide]
    omega
  unfold execOp
  simp only [ho, hx, hy, eqGuard_at_string, binOp_string_add, Op.stringOp, e, if_neg hno, Sem.run_bind, Sem.run_pure, Result.andThen_ok]

structure TrC (w : World) (av : Array Value) (W : World) : Prop where
  k1 : Blk W w.heap.size 26 av
  bel : Below w.heap.size w W
theorem TrC.drew {w W : World} {av : Array Value} (h : TrC w av W) : TrC w av W.drew := ⟨h.k1.drew, h.bel.drew⟩

set_option maxHeartbeats 1000000 in
set_option maxRecDepth 100000 in
theorem rtext_any (h : List UInt8) (w : World) (hl : h.length = 32) :
    Calls Try.prog 59 #[.agg (h.map B).toArray] w fun e w' => e = .returned (.string (bstr (text h))) ∧ Below w.heap.size w w' := by
  obtain ⟨av, hav⟩ : ∃ av, (h.map B).toArray = av := ⟨_, rfl⟩
  rw [hav]
  obtain ⟨w1, hw1⟩ : ∃ w1, w.alloc (.cells av 26) = w1 := ⟨_, rfl⟩
  have hC1 : TrC w av w1 := ⟨by rw [← hw1]; exact Blk.new _ _ _, by rw [← hw1]; exact (Below.refl _ _).alloc (Nat.le_refl _) _⟩
  have Hav := Lib.hid hav
  have Hw1 := Lib.hid hw1
  clear hav hw1
  go_enter Try.func59, Try.ntmps59
  go_wp2_with ((with_reducible show wpList _ _ _ (⟨some 1, .box _ _, _, _, _, _⟩ :: _) _ _); refine wpList_run rfl (.pointer (some ⟨w.heap.size, 0, none⟩)) w1 (by rw [← Hw1.out]; rfl) ?_; simp only [Act.put])
  go_loopw [3, 4] (fun v i wr => ∃ (q : Nat), q ≤ 32 ∧ i = .int .i64 q ∧ v = .string (bstr (text (h.take q))) ∧ TrC w av wr) (fun _ i _ => 32 - (intOf i).toNat)
  case atStart => exact ⟨0, by omega, rfl, rfl, hC1⟩
  case round =>
    clear hC1
    obtain ⟨q, hq, rfl, rfl, hC⟩ := hrel
    by_cases hlq : q < 32
    · obtain ⟨c, hc⟩ : ∃ c, h.getD q 0 = c := ⟨_, rfl⟩
      have hcl := u8_lt c
      have cx : ∀ s : InC (TrC w av), s.W.cell? ⟨w.heap.size, q, none⟩ = some (B c) := fun s => by rw [s.ok.k1.cell, ← Hav.out, cellB h q (by omega), hc]
      have htk := text_take h q (by omega)
      rw [hc] at htk
      obtain ⟨T, hT⟩ : ∃ T, text (h.take q) = T := ⟨_, rfl⟩
      have hTl : T.length = 2 * q := by rw [← hT, length_text, List.length_take]; omega
      rw [hT] at htk ⊢
      have Htk := Lib.hid htk
      have HTl := Lib.hid hTl
      have Hc := Lib.hid hc
      clear htk hTl hc hT
      obtain ⟨x, hx⟩ : ∃ x, c.toNat / 16 = x := ⟨_, rfl⟩
      obtain ⟨y, hy⟩ : ∃ y, c.toNat % 16 = y := ⟨_, rfl⟩
      have hx16 : x < 16 := by omega
      have hy16 : y < 16 := by omega
      have e1 : IntKind.u8.wrap (x : Int) = (x : Int) := by rw [IntKind.wrap_u8]; omega
      have e2 : IntKind.u8.wrap ((x : Int) + 1) = (x : Int) + 1 := by rw [IntKind.wrap_u8]; omega
      have e3 : (c.toNat : Int) % 16 = (y : Int) := by omega
      have e4 : IntKind.u8.wrap (y : Int) = (y : Int) := by rw [IntKind.wrap_u8]; omega
      have e5 : IntKind.u8.wrap ((y : Int) + 1) = (y : Int) + 1 := by rw [IntKind.wrap_u8]; omega
      have e6 : (c.toNat : Int).tmod 16 = (y : Int) := by rw [Int.tmod_eq_emod_of_nonneg (by omega)]; omega
      have e7 : (c.toNat : Int).tdiv 16 = (x : Int) := by rw [Int.tdiv_eq_ediv_of_nonneg (by omega)]; omega
      have Hx := Lib.hid hx
      have Hy := Lib.hid hy
      clear hx hy
      go_upto_region 5 with fail
      refine wp_region_mix (TrC w av) [(0, true), (1, true), (2, true), (3, true), (4, true), (5, true), (6, true), (7, true), (8, true), (9, true), (10, true), (11, true), (12, true), (13, true), (14, true), (15, true), (16, true), (17, true), (18, true), (19, true), (20, true), (21, true), (22, true), (23, true)] (by kernel_rfl) (by kernel_rfl) hC.drew fun _ => ?_
      simp only [List.map_cons, List.map_nil, Array.getD_eq_getD_getElem?, List.getElem?_toArray, List.getElem?_cons_succ, List.getElem?_cons_zero, Option.getD_some]
      iterate 10 (refine wpMix_s (fun K hK => ?_); go_simp; refine hK _ ?_; clear hK K)
      refine wpMix_v (by kernel_rfl) (.string (bstr [hex x])) (fun s => run_hexslice_op x hx16 _ (.tmp 13) (.tmp 18) rfl rfl rfl rfl s.W) ?_
      simp only [Act.put]
      refine wpMix_v (by kernel_rfl) (.string (bstr (T ++ [hex x]))) (fun s => run_addstr_op (.tmp 9) (.tmp 19) _ T [hex x] rfl rfl rfl (by have := HTl.out; simp; omega) s.W) ?_
      simp only [Act.put]
      iterate 9 (refine wpMix_s (fun K hK => ?_); go_simp; refine hK _ ?_; clear hK K)
      refine wpMix_v (by kernel_rfl) (.string (bstr [hex y])) (fun s => run_hexslice_op y hy16 _ (.tmp 24) (.tmp 29) rfl rfl rfl rfl s.W) ?_
      simp only [Act.put]
      refine wpMix_v (by kernel_rfl) (.string (bstr (T ++ [hex x] ++ [hex y]))) (fun s => run_addstr_op (.tmp 20) (.tmp 30) _ (T ++ [hex x]) [hex y] rfl rfl rfl (by have := HTl.out; simp; omega) s.W) ?_
      simp only [Act.put]
      (refine wpMix_s (fun K hK => ?_); go_simp; refine hK _ ?_; clear hK K)
      refine wpMix_nil ?_
      intro hC1
      generalize wr.drew = W1 at hC1 ⊢
      have hfin : T ++ [hex x, hex y] = text (h.take (q + 1)) := by rw [Htk.out, Hx.out, Hy.out]
      rw [hfin]
      have Hfin := Lib.hid hfin
      clear hfin
      go_wp2_with fail
      go_roundw
      case rel => exact ⟨q + 1, by omega, by go_num, rfl, hC1⟩
      case measure => simp [intOf]; omega
    · obtain rfl : q = 32 := by omega
      rw [List.take_of_length_le (by omega)]
      go_wp2_with fail
      go_ret
      exact ⟨rfl, hC.bel⟩
end Go.Proofs.Ytdkgndjomkbbjaa
