/- notarylaw08.HashTexts. -/
import Derived.Test.YtdkgndjomkbbjaaHParseR
import Derived.Test.YtdkgndjomkbbjaaHWorks
import Derived.Test.YtdkgndjomkbbjaaNil
namespace Go.Proofs.Ytdkgndjomkbbjaa
open Go Go.RowKit

theorem run_load_op {P : Program} {ρ : Operand → Value} {o : Oper} {w : World} {v p : Value} (ty : TypeId) (x : Operand) (ho : o.op = .load ty x) (hx : ρ x = p) (h : (Instr.loadAt ty p).run P w = .ok v w) : (execOp ρ o).run P w = .ok (.value v) w := by
  unfold execOp
  simp only [ho, hx, Sem.run_bind, Sem.run_pure, h, Result.andThen_ok]
/-- what is known in HashTexts -/
structure HtC (w : World) (g1 g2 : Nat) (cs1 cs2 : Array Value) (W : World) : Prop where
  k1 : Blk W g1 26 cs1
  k2 : Blk W g2 26 cs2
  bel : Below w.heap.size w W
theorem HtC.step {w W W' : World} {g1 g2 : Nat} {cs1 cs2 : Array Value} (h : HtC w g1 g2 cs1 cs2 W) (hb : Below W.heap.size W W') : HtC w g1 g2 cs1 cs2 W' :=
  ⟨h.k1.below hb h.k1.lt, h.k2.below hb h.k2.lt, h.bel.trans (hb.mono h.bel.size)⟩

set_option maxHeartbeats 2000000 in
set_option maxRecDepth 100000 in
theorem htexts_any (s : List UInt8) (w : World) (hs : s.length ≤ 9223372036854775807) :
    Calls Try.prog 12 #[.string (bstr s)] w fun e w' => e = .returned (.bool true) ∧ Below w.heap.size w w' := by
  obtain ⟨r, code, hr, hrl, hp, hq, hor⟩ : ∃ (r : List UInt8) (code : Int), r = r ∧ r.length = 32 ∧ (∀ w, Calls Try.prog 54 #[.string (bstr s)] w fun e w' => e = .returned (.tuple #[.agg (r.map B).toArray, .int .i64 code]) ∧ Below w.heap.size w w') ∧
      (∀ w, Calls Try.prog 55 #[.string (bstr s)] w fun e w' => e = .returned (.tuple #[.agg (r.map B).toArray, .int .i64 code]) ∧ Below w.heap.size w w') ∧ ((code = 0 ∧ text r = s) ∨ code = 180) := by
    by_cases hg : goodText s
    · refine ⟨hq s 64, 0, rfl, length_hq _ _, fun w => (parse_any s w hs).mono ?_, fun w => (rparse_any s w hs).mono ?_, .inl ⟨rfl, text_hq s hg⟩⟩ <;>
      · rintro e w' ⟨hb, ⟨-, rfl⟩ | ⟨h, -⟩⟩
        · exact ⟨rfl, hb⟩
        · exact absurd hg h
    · refine ⟨List.replicate 32 0, 180, rfl, rfl, fun w => (parse_any s w hs).mono ?_, fun w => (rparse_any s w hs).mono ?_, .inr rfl⟩ <;>
      · rintro e w' ⟨hb, ⟨h, -⟩ | ⟨-, rfl⟩⟩
        · exact absurd h hg
        · exact ⟨rfl, hb⟩
  clear hr
  obtain ⟨zs, hzs⟩ : ∃ zs, zeroHash = zs := ⟨_, rfl⟩
  have hzl : zs.size = 32 := by rw [← hzs]; rfl
  have hrs : (r.map B).toArray.size = 32 := by simp [hrl]
  obtain ⟨rs, hrr⟩ : ∃ rs, (r.map B).toArray = rs := ⟨_, rfl⟩
  have ho1 : ∀ v ∈ rs.toList, v.oneCell' = true := by rw [← hrr]; exact oneCell_B _
  rw [hrr] at hp hq hrs
  have Hzs := Lib.hid hzs
  have Hzl := Lib.hid hzl
  have Hrl := Lib.hid hrl
  have Hrr := Lib.hid hrr
  have Hrs := Lib.hid hrs
  have Ho1 := Lib.hid ho1
  have Hp := Lib.hid hp
  have Hq := Lib.hid hq
  clear hzs hzl hrl hrr hrs ho1 hp hq
  go_enter Try.func12, Try.ntmps12
  go_wp2_with fail
  refine (Hp.out w).mono ?_
  rintro e w1 ⟨rfl, b1⟩
  obtain ⟨w2, hw2⟩ : ∃ w2, w1.alloc (.cells zs 26) = w2 := ⟨_, rfl⟩
  have k1 : Blk w2 w1.heap.size 26 zs := by rw [← hw2]; exact Blk.new _ _ _
  have b2 : Below w1.heap.size w1 w2 := by rw [← hw2]; exact (Below.refl _ _).alloc (Nat.le_refl _) _
  have Hw2 := Lib.hid hw2
  clear hw2
  go_wp2_with (first
    | ((with_reducible show wpList _ _ _ (⟨some 3, .alloc _, _, _, _, _⟩ :: _) _ _); refine wpList_run rfl (.pointer (some ⟨w1.heap.size, 0, none⟩)) w2 (by rw [← Hw2.out, ← Hzs.out]; rfl) ?_; simp only [Act.put])
    | ((with_reducible show wpList _ _ _ (⟨none, .store _ (.tmp 3) _, _, _, _, _⟩ :: _) _ _); refine wpList_store_blk rfl 26 (.tmp 3) (.tmp 10) rfl 32 size26 w1.heap.size rs rfl rfl Hrs.out Ho1.out 26 _ k1 Hzl.out ?_; simp only [Act.put]))
  have k3 := k1.setRow_ rs
  have b3 := b1.trans ((below_setRow b2 (Nat.le_refl _) rs).mono b1.size)
  generalize w2.setRow w1.heap.size rs = w3 at k3 b3 ⊢
  refine (Hq.out w3).mono ?_
  rintro e w4 ⟨rfl, b4⟩
  obtain ⟨w5, hw5⟩ : ∃ w5, w4.alloc (.cells zs 26) = w5 := ⟨_, rfl⟩
  have k5 : Blk w5 w4.heap.size 26 zs := by rw [← hw5]; exact Blk.new _ _ _
  have b5 : Below w4.heap.size w4 w5 := by rw [← hw5]; exact (Below.refl _ _).alloc (Nat.le_refl _) _
  have b6 := below_setRow b5 (Nat.le_refl _) rs
  have hC6 : HtC w w1.heap.size w4.heap.size rs rs (w5.setRow w4.heap.size rs) := ⟨(k3.below b4 k3.lt).below b6 (Nat.lt_of_lt_of_le k3.lt b4.size), k5.setRow_ rs, (b3.trans (b4.mono b3.size)).trans (b6.mono (Nat.le_trans b3.size b4.size))⟩
  have hl1 := run_load_blk (P := Try.prog) (agg26 _) (size26 _) w1.heap.size rs Hrs.out hC6.k1
  have hl2 := run_load_blk (P := Try.prog) (agg26 _) (size26 _) w4.heap.size rs Hrs.out hC6.k2
  obtain ⟨w6, hw6⟩ : ∃ w6, w5.setRow w4.heap.size rs = w6 := ⟨_, rfl⟩
  rw [hw6] at hC6 hl1 hl2
  have Hw5 := Lib.hid hw5
  have Hw6 := Lib.hid hw6
  have Hl1 := Lib.hid hl1
  have Hl2 := Lib.hid hl2
  clear hw5 hw6 hl1 hl2 b1 k1 b2 k3 b3 b4 b5 b6
  have hnum := num_any code w6
  rcases hor with ⟨rfl, ht⟩ | rfl
  · have Ht := Lib.hid ht
    clear ht
    have htx := htext_any r w6 Hrl.out
    rw [Hrr.out, Ht.out] at htx
    have Htx := Lib.hid htx
    clear htx
    go_wp2_with (first
      | ((with_reducible show wpList _ _ _ (⟨some 5, .alloc _, _, _, _, _⟩ :: _) _ _); refine wpList_run rfl (.pointer (some ⟨w4.heap.size, 0, none⟩)) w5 (by rw [← Hw5.out, ← Hzs.out]; rfl) ?_; simp only [Act.put])
      | ((with_reducible show wpList _ _ _ (⟨none, .store _ (.tmp 5) _, _, _, _, _⟩ :: _) _ _); refine wpList_store_blk rfl 26 (.tmp 5) (.tmp 15) rfl 32 size26 w4.heap.size rs rfl rfl Hrs.out Ho1.out 26 _ k5 Hzl.out ?_; rw [Hw6.out]; simp only [Act.put])
      | ((with_reducible show wpList _ _ _ (⟨some 17, .load _ _, _, _, _, _⟩ :: _) _ _); refine wpList_load rfl 26 (.tmp 3) rfl w1.heap.size 0 rfl rs Hl1.out ?_; simp only [Act.put])
      | ((with_reducible show wpList _ _ _ (⟨some 18, .load _ _, _, _, _, _⟩ :: _) _ _); refine wpList_load rfl 26 (.tmp 5) rfl w4.heap.size 0 rfl rs Hl2.out ?_; simp only [Act.put])
      | ((with_reducible show wpList _ _ _ (⟨some 19, .binOp _ _ _ _ _, _, _, _, _⟩ :: _) _ _); refine wpList_runG (by kernel_rfl) (.bool true) _ (run_eql26_t (.tmp 17) (.tmp 18) _ r r rfl (by rw [Hrr.out]; rfl) (by rw [Hrr.out]; rfl) Hrl.out Hrl.out rfl _) ?_; simp only [Act.put])
      | (go_at_call 44; refine hnum.mono ?_; rintro e w7 ⟨rfl, rfl⟩)
      | ((with_reducible show wpList _ _ _ (⟨some 30, .load _ _, _, _, _, _⟩ :: _) _ _); refine wpList_runG (by kernel_rfl) (.agg rs) _ (run_load_op 26 (.tmp 3) rfl rfl Hl1.out) ?_; simp only [Act.put])
      | (go_at_call 56; refine Htx.out.mono ?_; rintro e w8 ⟨rfl, b8⟩)
      | ((with_reducible show wpList _ _ _ (⟨some 33, .binOp _ _ _ _ _, _, _, _, _⟩ :: _) _ _); refine wpList_runG (by kernel_rfl) (.bool true) _ (run_eqstr_t (.tmp 31) (.tmp 32) _ s s rfl rfl rfl rfl _) ?_; simp only [Act.put])
      | (go_at_call 29; refine (works_any _).mono ?_; rintro e w9 ⟨rfl, b9⟩))
    go_ret
    have b69 := b8.trans (b9.mono b8.size)
    exact ⟨rfl, hC6.bel.trans (b69.mono hC6.bel.size)⟩
  · have h180 : ((180 : Int) == 0) = false := rfl
    go_wp2_with (first
      | ((with_reducible show wpList _ _ _ (⟨some 5, .alloc _, _, _, _, _⟩ :: _) _ _); refine wpList_run rfl (.pointer (some ⟨w4.heap.size, 0, none⟩)) w5 (by rw [← Hw5.out, ← Hzs.out]; rfl) ?_; simp only [Act.put])
      | ((with_reducible show wpList _ _ _ (⟨none, .store _ (.tmp 5) _, _, _, _, _⟩ :: _) _ _); refine wpList_store_blk rfl 26 (.tmp 5) (.tmp 15) rfl 32 size26 w4.heap.size rs rfl rfl Hrs.out Ho1.out 26 _ k5 Hzl.out ?_; rw [Hw6.out]; simp only [Act.put])
      | ((with_reducible show wpList _ _ _ (⟨some 17, .load _ _, _, _, _, _⟩ :: _) _ _); refine wpList_load rfl 26 (.tmp 3) rfl w1.heap.size 0 rfl rs Hl1.out ?_; simp only [Act.put])
      | ((with_reducible show wpList _ _ _ (⟨some 18, .load _ _, _, _, _, _⟩ :: _) _ _); refine wpList_load rfl 26 (.tmp 5) rfl w4.heap.size 0 rfl rs Hl2.out ?_; simp only [Act.put])
      | ((with_reducible show wpList _ _ _ (⟨some 19, .binOp _ _ _ _ _, _, _, _, _⟩ :: _) _ _); refine wpList_runG (by kernel_rfl) (.bool true) _ (run_eql26_t (.tmp 17) (.tmp 18) _ r r rfl (by rw [Hrr.out]; rfl) (by rw [Hrr.out]; rfl) Hrl.out Hrl.out rfl _) ?_; simp only [Act.put])
      | (go_at_call 44; refine hnum.mono ?_; rintro e w7 ⟨rfl, rfl⟩)
      | (go_at_call 29; refine (works_any _).mono ?_; rintro e w9 ⟨rfl, b9⟩))
    go_ret
    exact ⟨rfl, hC6.bel.trans (b9.mono hC6.bel.size)⟩
end Go.Proofs.Ytdkgndjomkbbjaa
