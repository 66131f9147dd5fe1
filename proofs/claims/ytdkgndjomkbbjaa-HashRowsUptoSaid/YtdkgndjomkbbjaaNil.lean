/- A sum that is not there, a zero one. -/
import Derived.Test.YtdkgndjomkbbjaaKnown
namespace Go.Proofs.Ytdkgndjomkbbjaa
open Go.RowKit

theorem wpList_runG {P : Program} {w : World} {ops : Array Oper} {rest : List Oper} {o : Oper} {a : Act} {Q : Exit → Act → World → Prop} (hw : Region.wanted o (yielded ops a.tmps) = true) (v : Value) (w' : World) (hrun : (execOp a.eval o).run P w = .ok (.value v) w')
    (h : wpList P ops Q rest (a.put o.dst v) w') : wpList P ops Q (o :: rest) a w :=
  wpList_step fun K hK => by
    rw [if_pos hw]
    unfold Oper.wp
    rw [hrun]
    exact hK _ _ h

def NilSha (w : World) (v : Value) : Prop := v = .pointer none ∨ ∃ g, v = .pointer (some ⟨g, 0, none⟩) ∧ w.cell? ⟨g, 73, none⟩ = some (.bool false)

theorem NilSha.below {w w' : World} {v : Value} (h : NilSha w v) (hb : Below w.heap.size w w') (hlt : ∀ g, v = .pointer (some ⟨g, 0, none⟩) → g < w.heap.size) : NilSha w' v := by
  rcases h with h | ⟨g, h1, h2⟩
  · exact .inl h
  · exact .inr ⟨g, h1, by rw [hb.cell (p := ⟨g, 73, none⟩) (hlt g h1)]; exact h2⟩

theorem none_nil {w : World} {v : Value} (h : NilSha w v) :
    Calls Try.prog 70 #[v] w fun e w' => e = .returned (.bool true) ∧ w = w' := by
  rcases h with rfl | ⟨g, rfl, h⟩
  · go_enter Try.func70, Try.ntmps70
    go_wp2
    go_ret
    exact ⟨rfl, rfl⟩
  · go_enter Try.func70, Try.ntmps70
    go_wp2
    go_ret
    exact ⟨rfl, rfl⟩

theorem write_nil {w : World} {v x : Value} (h : NilSha w v) :
    Calls Try.prog 23 #[v, x] w fun e w' => e = .returned (.int .i64 1) ∧ w = w' := by
  go_enter Try.func23, Try.ntmps23
  go_wp2_with (go_at_call 70; refine (none_nil h).mono ?_; rintro e w' ⟨rfl, rfl⟩)
  go_ret
  exact ⟨rfl, rfl⟩
theorem len_nil {w : World} {v : Value} (h : NilSha w v) :
    Calls Try.prog 27 #[v] w fun e w' => e = .returned (.int .i64 0) ∧ w = w' := by
  go_enter Try.func27, Try.ntmps27
  go_wp2_with (go_at_call 70; refine (none_nil h).mono ?_; rintro e w' ⟨rfl, rfl⟩)
  go_ret
  exact ⟨rfl, rfl⟩
theorem bytes_nil {w : World} {v : Value} (h : NilSha w v) :
    Calls Try.prog 25 #[v] w fun e w' => e = .returned (.slice none 0 0) ∧ w = w' := by
  go_enter Try.func25, Try.ntmps25
  go_wp2_with (go_at_call 70; refine (none_nil h).mono ?_; rintro e w' ⟨rfl, rfl⟩)
  go_ret
  exact ⟨rfl, rfl⟩
theorem copy_nil {w : World} {v : Value} (h : NilSha w v) :
    Calls Try.prog 68 #[v] w fun e w' => e = .returned (.pointer none) ∧ w = w' := by
  go_enter Try.func68, Try.ntmps68
  go_wp2_with (go_at_call 70; refine (none_nil h).mono ?_; rintro e w' ⟨rfl, rfl⟩)
  go_ret
  exact ⟨rfl, rfl⟩
set_option maxRecDepth 100000 in
theorem sum_nil {w : World} {v : Value} (h : NilSha w v) (hlt : ∀ g, v = .pointer (some ⟨g, 0, none⟩) → g < w.heap.size) :
    Calls Try.prog 26 #[v] w fun e w' => e = .returned (.agg zeroHash) ∧ Below w.heap.size w w' := by
  obtain ⟨zs, hzs⟩ : ∃ zs, zeroHash = zs := ⟨_, rfl⟩
  have hzl : zs.size = 32 := by rw [← hzs]; rfl
  have hz1 : ∀ v ∈ zs.toList, v.oneCell' = true := by rw [← hzs]; exact oneCell_B _
  rw [hzs]
  have Hzs := Lib.hid hzs
  clear hzs
  go_enter Try.func26, Try.ntmps26
  go_wp2_with (first
    | ((with_reducible show wpList _ _ _ (⟨some 2, .alloc _, _, _, _, _⟩ :: _) _ _); refine wpList_run rfl (.pointer (some ⟨w.heap.size, 0, none⟩)) (w.alloc (.cells zs 26)) (by rw [← Hzs.out]; rfl) ?_; refine wpList_world (fun W => Blk W w.heap.size 26 zs ∧ Below w.heap.size w W) ⟨Blk.new _ _ _, (Below.refl _ _).alloc (Nat.le_refl _) _⟩ ?_; rintro w1 ⟨b1, hB1⟩; have l1 := b1.lt)
    | ((with_reducible show wpList _ _ _ (⟨some 3, .alloc _, _, _, _, _⟩ :: _) _ _); refine wpList_run rfl (.pointer (some ⟨w1.heap.size, 0, none⟩)) (w1.alloc (.cells zs 26)) (by rw [← Hzs.out]; rfl) ?_; refine wpList_world (fun W => Blk W w.heap.size 26 zs ∧ Blk W w1.heap.size 26 zs ∧ Below w.heap.size w W ∧ NilSha W v) ⟨b1.alloc _, Blk.new _ _ _, hB1.alloc hB1.size _, (h.below hB1 hlt).below ((Below.refl _ _).alloc (Nat.le_refl _) _) (fun g hg => Nat.lt_of_lt_of_le (hlt g hg) hB1.size)⟩ ?_; clear b1; rintro w2 ⟨b2, c2, hB2, hn2⟩)
    | (go_at_call 70; refine (none_nil hn2).mono ?_; rintro e w' ⟨rfl, rfl⟩)
    | ((with_reducible show wpList _ _ _ (⟨some 11, .load _ _, _, _, _, _⟩ :: _) _ _); refine wpList_load rfl 26 (.tmp 3) rfl w1.heap.size 0 rfl zs (run_load_blk (agg26 _) (size26 _) _ _ hzl c2) ?_)
    | ((with_reducible show wpList _ _ _ (⟨none, .store _ _ _, _, _, _, _⟩ :: _) _ _); refine wpList_store_blk rfl 26 (.tmp 2) (.tmp 11) rfl 32 size26 w.heap.size zs rfl rfl hzl hz1 26 _ b2 hzl ?_; simp only [Act.put]))
  refine bodyPost_ret (results_cell_row rfl _ _ w.heap.size 26 zs (0, 0) _ rfl (b2.setRow_ _) Try.underlying26 rfl (by rw [hzl]; exact info26)) rfl ⟨rfl, ?_⟩
  exact below_setRow hB2 (Nat.le_refl _) _

set_option maxHeartbeats 400000 in
set_option maxRecDepth 100000 in
theorem nothing_nil {w : World} {v x : Value} (h : NilSha w v) (hlt : ∀ g, v = .pointer (some ⟨g, 0, none⟩) → g < w.heap.size) :
    Calls Try.prog 21 #[v, x] w fun e w' => e = .returned (.bool true) ∧ Below w.heap.size w w' := by
  obtain ⟨zs, hzs⟩ : ∃ zs, zeroHash = zs := ⟨_, rfl⟩
  have hEq : ∀ {ρ : Operand → Value} {o : Oper} (x y : Operand) (ty : TypeId) (_ : o.op = .binOp .eql 26 x y ty) (_ : ρ x = .agg zs) (_ : ρ y = .agg zs) (W : World), (execOp ρ o).run Try.prog W = .ok (.value (.bool true)) W := fun x y ty ho hx hy W => by
    rw [← hzs] at hx hy
    have := run_eql26 x y ty (List.replicate 32 0) (List.replicate 32 0) ho hx hy rfl rfl W
    rwa [BEq.rfl] at this
  have hsum := sum_nil h hlt
  rw [hzs] at hsum
  have Hzs := Lib.hid hzs
  clear hzs
  go_enter Try.func21, Try.ntmps21
  go_wp2_with (first
    | (go_at_call 23; refine (write_nil h).mono ?_; rintro e w' ⟨rfl, rfl⟩)
    | (go_at_call 27; refine (len_nil h).mono ?_; rintro e w' ⟨rfl, rfl⟩)
    | (go_at_call 26; refine hsum.mono ?_; rintro e w1 ⟨rfl, hb⟩; have hn := h.below hb hlt)
    | ((with_reducible show wpList _ _ _ (⟨some 17, .build _ _, _, _, _, _⟩ :: _) _ _); refine wpList_runG (by kernel_rfl) (.agg zs) w1 (by rw [← Hzs.out]; kernel_rfl) ?_; simp only [Act.put])
    | ((with_reducible show wpList _ _ _ (⟨some 18, .binOp _ _ _ _ _, _, _, _, _⟩ :: _) _ _); refine wpList_runG (by kernel_rfl) (.bool true) w1 (hEq (.tmp 16) (.tmp 17) 26 rfl rfl rfl w1) ?_; simp only [Act.put])
    | (go_at_call 25; refine (bytes_nil hn).mono ?_; rintro e w' ⟨rfl, rfl⟩)
    | (go_at_call 68; refine (copy_nil hn).mono ?_; rintro e w' ⟨rfl, rfl⟩))
  go_ret
  exact ⟨rfl, hb⟩
end Go.Proofs.Ytdkgndjomkbbjaa
