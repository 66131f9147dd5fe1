/- slices.Clone of hashes and of stretches; slices.Values of stretches. -/
import Derived.Test.YtgcbdnoniikboaaQb116
import Derived.Test.YtgcbdnoniikboaaQb122
import Derived.Test.YtgcbdnoniikboaaQb123
import Derived.Lib.LazyBuf
namespace Go.Proofs.Ytgcbdnoniikboaa
open Go Go.RowKit Go.Shelf
attribute [local go_sem] Oper.semAt_some

set_option maxHeartbeats 1000000 in
set_option maxRecDepth 100000 in
theorem cloneh_any (l : List (List UInt8)) (A : Option Addr) (n c : Nat) (w : World) (h : Hs w (fun _ => True) A n c l) (hn : n ≤ 1099511627776) :
    Calls Try.prog 66 #[.slice A n c] w fun e w' => ∃ A' c', e = .returned (.slice A' n c') ∧ Hs w' (w.heap.size ≤ ·) A' n c' l ∧ Below w.heap.size w w' := by
  cases A with
  | none =>
    obtain ⟨rfl, rfl⟩ := h.sl.nil rfl
    obtain rfl : l = [] := List.eq_nil_of_length_eq_zero h.len
    have hE : Hs w (w.heap.size ≤ ·) none 0 0 [] := ⟨SlV.empty, rfl, by intro x hx; cases hx⟩
    clear h
    have hnil := fun w => run_eql_slice_nil (P := Try.prog) w 37 34 none 0 0 Try.underlying37
    go_enter Try.func66, Try.ntmps66
    go_wp2_with fail
    go_ret
    exact ⟨none, 0, rfl, hE, Below.refl _ _⟩
  | some a =>
    have hroom := h.sl.room
    have hmx := h.sl.max
    unfold maxLen at hmx
    have hb1 : Below w.heap.size w (w.alloc (.cells #[] 34)) := (Below.refl _ _).alloc (Nat.le_refl _) _
    have ho0 : (w.alloc (.cells #[] 34)).ownsRow w.heap.size 34 32 (.slice (some ⟨w.heap.size, 0, none⟩) 0 0) 0 [] :=
      World.ownsRow_lit (base := w.heap.size) (e := 34) (size := 32) w #[] 0 (Nat.le_refl _) (by unfold maxLen; decide) (by simp)
    obtain ⟨v1, w1, hr1, ho1, hg1, -⟩ := append_slv (ty := 37) Try.underlying37 info26z (by simp [Value.cells]) (by decide) ho0 (h.step hb1).sl (oneB _) (by unfold maxLen; omega) (by omega) hb1.size
    rw [List.nil_append, Nat.zero_add] at ho1
    have hb2 := hb1.grown hg1 hb1.size (fun k hk => by cases hk; exact Nat.le_refl _)
    obtain ⟨A', c', rfl, h1⟩ := Hs.of_owns ho1 h.len h.all
    have h2 : Hs w1 (w.heap.size ≤ ·) A' n c' l := h1.weak fun _ _ hx => hx.1
    have Hr1 := Lib.hid hr1
    have hnil := fun w => run_eql_slice_nil (P := Try.prog) w 37 34 (some a) n c Try.underlying37
    clear hr1 ho0 ho1 hg1 hb1 h h1
    go_enter Try.func66, Try.ntmps66
    go_wp2_with ((with_reducible show wpList _ _ _ (⟨some 7, .call _, _, _, _, _⟩ :: _) _ _); refine wpList_run rfl (.slice A' n c') w1 (run_append_op (.tmp 5) (.tmp 6) 37 rfl _ _ rfl rfl Hr1.out) ?_; simp only [Act.put])
    go_ret
    exact ⟨A', c', rfl, h2, hb2⟩

set_option maxHeartbeats 1000000 in
set_option maxRecDepth 100000 in
theorem cloner_any (l : List (Int × Int)) (A : Option Addr) (n c : Nat) (w : World) (h : Rs w (fun _ => True) A n c l) (hn : n ≤ 1099511627776) :
    Calls Try.prog 67 #[.slice A n c] w fun e w' => ∃ A' c', e = .returned (.slice A' n c') ∧ Rs w' (w.heap.size ≤ ·) A' n c' l ∧ Below w.heap.size w w' := by
  cases A with
  | none =>
    obtain ⟨rfl, rfl⟩ := h.sl.nil rfl
    obtain rfl : l = [] := List.eq_nil_of_length_eq_zero h.len
    have hE : Rs w (w.heap.size ≤ ·) none 0 0 [] := Rs.empty
    clear h
    have hnil := fun w => run_eql_slice_nil (P := Try.prog) w 22 29 none 0 0 Try.underlying22
    go_enter Try.func67, Try.ntmps67
    go_wp2_with fail
    go_ret
    exact ⟨none, 0, rfl, hE, Below.refl _ _⟩
  | some a =>
    have hroom := h.sl.room
    have hmx := h.sl.max
    unfold maxLen at hmx
    have hb1 : Below w.heap.size w (w.alloc (.cells #[] 29)) := (Below.refl _ _).alloc (Nat.le_refl _) _
    have ho0 : (w.alloc (.cells #[] 29)).ownsRow w.heap.size 29 2 (.slice (some ⟨w.heap.size, 0, none⟩) 0 0) 0 [] :=
      World.ownsRow_lit (base := w.heap.size) (e := 29) (size := 2) w #[] 0 (Nat.le_refl _) (by unfold maxLen; decide) (by simp)
    obtain ⟨v1, w1, hr1, ho1, hg1, -⟩ := append_slv (ty := 22) Try.underlying22 infoR (by simp [Value.cells]) (by decide) ho0 (h.step hb1).sl (oneR _) (by unfold maxLen; omega) (by omega) hb1.size
    rw [List.nil_append, Nat.zero_add] at ho1
    have hb2 := hb1.grown hg1 hb1.size (fun k hk => by cases hk; exact Nat.le_refl _)
    obtain ⟨A', c', rfl, h1⟩ := Rs.of_owns ho1 h.len
    have h2 : Rs w1 (w.heap.size ≤ ·) A' n c' l := h1.weak fun _ _ hx => hx.1
    have Hr1 := Lib.hid hr1
    have hnil := fun w => run_eql_slice_nil (P := Try.prog) w 22 29 (some a) n c Try.underlying22
    clear hr1 ho0 ho1 hg1 hb1 h h1
    go_enter Try.func67, Try.ntmps67
    go_wp2_with ((with_reducible show wpList _ _ _ (⟨some 7, .call _, _, _, _, _⟩ :: _) _ _); refine wpList_run rfl (.slice A' n c') w1 (run_append_op (.tmp 5) (.tmp 6) 22 rfl _ _ rfl rfl Hr1.out) ?_; simp only [Act.put])
    go_ret
    exact ⟨A', c', rfl, h2, hb2⟩

theorem valuesr_any (A : Option Addr) (n c : Nat) (w : World) :
    Calls Try.prog 69 #[.slice A n c] w fun e w' => e = .returned (.func (.func 77) #[] #[.pointer (some ⟨w.heap.size, 0, none⟩)]) ∧ Blk w' w.heap.size 22 #[.slice A n c] ∧ Below w.heap.size w w' := by
  go_enter Try.func69, Try.ntmps69
  go_wp2_with fail
  go_ret
  exact ⟨rfl, Blk.new _ _ _, (Below.refl _ _).alloc (Nat.le_refl _) _⟩

theorem load_R {W : World} {g : Nat} {a b : Int} (h : Blk W g 29 #[.int .i64 a, .int .i64 b]) : (Instr.loadAt 29 (.pointer (some ⟨g, 0, none⟩))).run Try.prog W = .ok (.agg #[.int .i64 a, .int .i64 b]) W :=
  run_load_blk (aggR _) (sizeR _) _ _ rfl h
set_option maxRecDepth 100000 in
theorem wpList_rvar {w : World} {ops : Array Oper} {rest : List Oper} {o1 o2 : Oper} {a : Act} {Q : Exit → Act → World → Prop} (l : Int × Int) (x y : Operand) (hg1 : o1.guard = none) (hg2 : o2.guard = none) (ho1 : o1.op = .alloc 29) (ho2 : o2.op = .store 29 x y)
    (hx : (a.put o1.dst (.pointer (some ⟨w.heap.size, 0, none⟩))).eval x = .pointer (some ⟨w.heap.size, 0, none⟩)) (hy : (a.put o1.dst (.pointer (some ⟨w.heap.size, 0, none⟩))).eval y = .agg #[.int .i64 l.1, .int .i64 l.2])
    (h : ∀ W, Blk W w.heap.size 29 #[.int .i64 l.1, .int .i64 l.2] → Below w.heap.size w W → wpList Try.prog ops Q rest ((a.put o1.dst (.pointer (some ⟨w.heap.size, 0, none⟩))).put o2.dst undef) W) : wpList Try.prog ops Q (o1 :: o2 :: rest) a w := by
  refine wpList_run hg1 (.pointer (some ⟨w.heap.size, 0, none⟩)) (w.alloc (.cells #[.int .i64 0, .int .i64 0] 29)) ?_ ?_
  · unfold execOp
    rw [ho1]
    rfl
  · refine wpList_store_blk hg2 29 x y ho2 2 sizeR w.heap.size #[.int .i64 l.1, .int .i64 l.2] hx hy rfl (by intro v hv; simp at hv; rcases hv with rfl | rfl <;> rfl) 29 _ (Blk.new w 29 #[.int .i64 0, .int .i64 0]) rfl ?_
    exact h _ ((Blk.new w 29 #[.int .i64 0, .int .i64 0]).setRow_ _) (below_setRow ((Below.refl _ _).alloc (Nat.le_refl _) _) (Nat.le_refl _) _)

def rval (x : Int × Int) : Value := .agg #[.int .i64 x.1, .int .i64 x.2]
set_option maxRecDepth 100000 in
set_option maxHeartbeats 2000000 in
theorem values1_seq (l : List (Int × Int)) (A : Option Addr) (n c g : Nat) (U : Nat → Prop) (w : World) (hbox : Blk w g 22 #[.slice A n c]) (h : Rs w (fun b => ¬ U b) A n c l) (_hU : ¬ U g) (hn : n ≤ 1099511627776) :
    SeqU Try.prog 77 #[.pointer (some ⟨g, 0, none⟩)] n U (fun _ k vs _ => vs = #[rval (l.getD k (0, 0))]) w := by
  intro ly J Jx W hW hJ hJx hY h0
  have hbox' := hbox.below hW hbox.lt
  have h' := h.step hW
  have hmx := h.sl.max
  have hroom := h.sl.room
  unfold maxLen at hmx
  have hgl : g < W.heap.size := hbox'.lt
  have hcell : W.cell? ⟨g, 0, none⟩ = some (.slice A n c) := by rw [hbox'.cell]; rfl
  have hst : J W.heap.size 0 W := h0 _ (Nat.le_refl _)
  have Hst := Lib.hid hst
  have HJ := Lib.hid hJ
  have HY := Lib.hid hY
  have Hbox := Lib.hid hbox'
  clear hbox hJx hJ hY hbox' h hW h0 hst
  refine callsIn_of_wp Try.func77 rfl trivial ?_ rfl
  simp only [Try.ntmps77, List.size_toArray, List.length_cons, List.length_nil, Nat.reduceAdd, Nat.reduceSub, Array.replicate_succ, Array.replicate_zero, List.push_toArray, List.append_toArray, List.nil_append, List.cons_append]
  gi_wp2
  gi_loopw [7] (fun i wr => ∃ k : Nat, k ≤ n ∧ i = .int .i64 k ∧ W.heap.size ≤ wr.heap.size ∧ J W.heap.size k wr ∧ Rs wr (fun b => b < W.heap.size ∧ ¬ U b) A n c l)
    (fun i _ => n - (intOf i).toNat)
  case atStart => exact ⟨0, Nat.zero_le _, rfl, Nat.le_refl _, Hst.out, h'.weak fun b hb hx => ⟨hb, hx⟩⟩
  case round =>
    clear Hst h' hcell
    obtain ⟨k, hk, rfl, hsz, hJs, hs⟩ := hrel
    by_cases hlt : k < n
    · obtain ⟨b, o, rfl, -, -, -⟩ := hs.at_ (by omega)
      have hld := hs.load rfl k hlt
      obtain ⟨⟨x1, x2⟩, hx⟩ : ∃ x, l.getD k (0, 0) = x := ⟨_, rfl⟩
      rw [hx] at hld
      have Hx := Lib.hid hx
      clear hx
      gi_wp2_with (first
        | ((with_reducible show wpListIn _ _ _ _ _ (⟨some 10, .load _ _, _, _, _, _⟩ :: _) _ _); refine wpListIn_of1 openW rfl ?_; refine wpList_cell 29 (.tmp 9) b (o + k * 2) (.agg #[.int .i64 x1, .int .i64 x2]) (by kernel_rfl) rfl rfl hld ?_; refine thenN_nil ?_; simp only [Act.put])
        | ((with_reducible show wpListIn _ _ _ _ _ (⟨some 4, .alloc _, _, _, _, _⟩ :: _) _ _); refine wpListIn_of2 openW rfl ?_; refine wpList_rvar (x1, x2) (.tmp 4) (.tmp 10) rfl rfl rfl rfl rfl rfl ?_; intro W2 k4 hb2; refine thenN_nil ?_; simp only [Act.put])
        | ((with_reducible show wpListIn _ _ _ _ _ (⟨some 12, .load _ _, _, _, _, _⟩ :: _) _ _); refine wpListIn_of1 openW rfl ?_; refine wpList_cell 29 (.tmp 4) wr.heap.size 0 (.agg #[.int .i64 x1, .int .i64 x2]) (by kernel_rfl) rfl rfl (load_R k4) ?_; refine thenN_nil ?_; simp only [Act.put]; have hJ2 := HJ.out W.heap.size k wr W2 none hJs (grown_of_below hb2 none) (fun r e => by cases e); obtain ⟨fn, tmps, assign, body, hy, hR⟩ := HY.out W.heap.size k #[.agg #[.int .i64 x1, .int .i64 x2]] W2 (Nat.le_refl _) (Nat.le_trans hsz hb2.size) hlt hJ2 (by rw [Hx.out]; rfl); clear hJ2 hJs hld))
      refine hR.mono ?_
      have hs2 := hs.step hb2
      have hsz2 := hb2.size
      clear hR hy k4 hb2 hs
      rintro e w4 (⟨rfl, hj4, hk4⟩ | ⟨rfl, hjx4, hk4⟩)
      · have hs4 : Rs w4 (fun b => b < W.heap.size ∧ ¬ U b) (some ⟨b, o, none⟩) n c l := ⟨hk4.slv hs2.sl fun b _ hb => hb, hs2.len⟩
        have hsz4 := hk4.size
        clear hk4 hs2
        gi_wp2
        exact ⟨⟨k + 1, by omega, by go_num, by omega, hj4, hs4⟩, by simp [intOf]; omega⟩
      · gi_wp2
        refine bodyPost_ret (by exact results_none rfl _ _ _) rfl ?_
        exact ⟨⟨_, rfl⟩, _, Nat.le_refl _, .inr ⟨k, hlt, hjx4⟩⟩
    · obtain rfl : k = n := by omega
      gi_wp2
      go_end0
      exact ⟨⟨_, rfl⟩, _, Nat.le_refl _, .inl hJs⟩
end Go.Proofs.Ytgcbdnoniikboaa
