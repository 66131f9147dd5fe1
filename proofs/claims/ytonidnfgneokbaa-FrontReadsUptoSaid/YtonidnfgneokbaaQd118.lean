/- (*Front).All, and the function that it hands out. -/
import Derived.Test.YtonidnfgneokbaaQd116
import Derived.Test.YtonidnfgneokbaaQd117
namespace Go.Proofs.Ytonidnfgneokbaa
open Go Go.RowKit Go.Shelf
attribute [local go_sem] Oper.semAt_some

theorem pow_i64 (l : Nat) (hl : l ≤ 62) : IntKind.i64.wrap ((2 : Int) ^ l) = (2 : Int) ^ l := by
  have h : ((2 : Int) ^ l) = ((2 ^ l : Nat) : Int) := by simp
  have h2 : 2 ^ l ≤ 2 ^ 62 := Nat.pow_le_pow_right (by decide) hl
  obtain ⟨m, hm⟩ : ∃ m, 2 ^ l = m := ⟨_, rfl⟩
  rw [hm] at h h2
  rw [h, IntWalk.i64_in _ (by omega)]
theorem run_shl1_op {ρ : Operand → Value} {o : Oper} (x : Operand) (ty : TypeId) (l : Nat) (hl : l ≤ 62) (ho : o.op = .binOp .shl 2 (.const (.int .i64 1)) x ty) (hc : ρ (.const (.int .i64 1)) = .int .i64 1) (hx : ρ x = .int .i64 (l : Int)) (W : World) : (execOp ρ o).run Try.prog W = .ok (.value (.int .i64 ((2 : Int) ^ l))) W := by
  unfold execOp
  simp only [ho, hx, hc]
  go_simp
  exact pow_i64 l hl
theorem run_move_opF {P : Program} {ρ : Operand → Value} {o : Oper} (x : Operand) (ho : o.op = .move x) (v : Value) (hx : ρ x = v) (W : World) : (execOp ρ o).run P W = .ok (.value v) W := by
  unfold execOp
  simp only [ho, hx, Sem.run_pure]
theorem run_field_op {P : Program} {ρ : Operand → Value} {o : Oper} (T : TypeId) (x : Operand) (k : Nat) (ho : o.op = .fieldAddr T x k) (g off j : Nat) (hx : ρ x = .pointer (some ⟨g, off, none⟩)) (W : World) (h : (Instr.fieldAt T (.pointer (some ⟨g, off, none⟩)) k).run P W = .ok (.pointer (some ⟨g, j, none⟩)) W) : (execOp ρ o).run P W = .ok (.value (.pointer (some ⟨g, j, none⟩))) W := by
  unfold execOp
  simp only [ho, hx, Sem.run_bind, h, Result.andThen_ok, Sem.run_pure]
set_option maxRecDepth 100000 in
theorem wpList_fpvar {w : World} {ops : Array Oper} {rest : List Oper} {o1 o2 : Oper} {a : Act} {Q : Exit → Act → World → Prop} {n : Int} {l : List UInt8} (x y : Operand) (hg1 : o1.guard = none) (hg2 : o2.guard = none) (ho1 : o1.op = .alloc 156) (ho2 : o2.op = .store 156 x y)
    (hx : (a.put o1.dst (.pointer (some ⟨w.heap.size, 0, none⟩))).eval x = .pointer (some ⟨w.heap.size, 0, none⟩)) (hy : (a.put o1.dst (.pointer (some ⟨w.heap.size, 0, none⟩))).eval y = .agg (.int .i64 n :: l.map B).toArray) (hl : l.length = 32)
    (h : ∀ W, PcB W w.heap.size 156 n l → Below w.heap.size w W → wpList Try.prog ops Q rest ((a.put o1.dst (.pointer (some ⟨w.heap.size, 0, none⟩))).put o2.dst undef) W) : wpList Try.prog ops Q (o1 :: o2 :: rest) a w := by
  refine wpList_run hg1 (.pointer (some ⟨w.heap.size, 0, none⟩)) (w.alloc (.cells (.int .i64 0 :: (List.replicate 32 (0 : UInt8)).map B).toArray 156)) ?_ ?_
  · unfold execOp
    rw [ho1]
    rfl
  · refine wpList_store_blk hg2 156 x y ho2 33 sizeFp w.heap.size (.int .i64 n :: l.map B).toArray hx hy (by simp [hl]) (oneCell_pc n l) 156 _ (Blk.new w 156 _) (by simp) ?_
    exact h _ ⟨(Blk.new w 156 _).setRow_ _, hl⟩ (below_setRow ((Below.refl _ _).alloc (Nat.le_refl _) _) (Nat.le_refl _) _)
theorem KeepU.pcs {B n₁ : Nat} {U : Nat → Prop} {W W' : World} {X : Nat → Prop} {A : Option Addr} {n c : Nat} {q : List PcV} (h : KeepU B n₁ U W W') (hs : Pcs W X A n c q) (hm : ∀ b, b < W.heap.size → X b → b < n₁ ∧ ¬ U b) : Pcs W' X A n c q := ⟨h.slv hs.sl hm, hs.len, hs.all⟩

set_option maxHeartbeats 1000000 in
set_option maxRecDepth 100000 in
theorem fall_any (f : Value) (w : World) (hf : f.oneCell' = true) : Calls Try.prog 50 #[f] w fun e w' => e = .returned (.func (.func 118) #[] #[.pointer (some ⟨w.heap.size, 0, none⟩)]) ∧ Blk w' w.heap.size 61 #[f] ∧ Below w.heap.size w w' := by
  obtain ⟨w0, hw0⟩ : ∃ w0, w.alloc (.cells #[f] 61) = w0 := ⟨_, rfl⟩
  have hb0 : Below w.heap.size w w0 := by rw [← hw0]; exact (Below.refl _ _).alloc (Nat.le_refl _) _
  have k : Blk w0 w.heap.size 61 #[f] := by rw [← hw0]; exact Blk.new _ _ _
  have hc : f.cells = #[f] := by cases f <;> first | rfl | cases hf
  have Hw0 := Lib.hid hw0
  clear hw0
  go_enter Try.func50, Try.ntmps50
  go_wp2_with (rw [Hw0.out])
  go_ret
  exact ⟨rfl, k, hb0⟩
/-- a round is handed how many entries, and their root -/
def PartY (ps : FrV) (k : Nat) (vs : Array Value) : Prop := vs = #[.int .i64 ((2 : Int) ^ (ps.getD k (0, [])).1), .agg ((ps.getD k (0, [])).2.map B).toArray]

set_option maxRecDepth 100000 in
set_option maxHeartbeats 2000000 in
theorem fall1_seq (ps : FrV) (g bx : Nat) (U : Nat → Prop) (w : World) (hbox : Blk w bx 61 #[.pointer (some ⟨g, 0, none⟩)]) (h : FrO w g ps) (h62 : F62 ps) (hU : ∀ b, U b → b < w.heap.size) (hn : ps.length ≤ 1000) :
    SeqU Try.prog 118 #[.pointer (some ⟨bx, 0, none⟩)] ps.length U (fun _ k vs _ => PartY ps k vs) w := by
  intro ly J Jx W hW hJ hJx hY h0
  have hbox' := hbox.below hW hbox.lt
  replace h := h.step hW
  obtain ⟨A, n, c, hk, hP⟩ := h.ex
  have hlen : ps.length = n := by rw [← hP.len, length_fpc]
  have h32 := h.all
  have c1 : W.cell? ⟨bx, 0, none⟩ = some (.pointer (some ⟨g, 0, none⟩)) := by rw [hbox'.cell]; rfl
  have c2 : W.cell? ⟨g, 0, none⟩ = some (.slice A n c) := by rw [hk.cell]; rfl
  have hcl := clonep_any (fpc ps) A n c W hP (by omega)
  have hst := h0
  have hUW : ∀ b, U b → b < W.heap.size := fun b hb => Nat.lt_of_lt_of_le (hU b hb) hW.size
  have Hst := Lib.hid hst
  have HJ := Lib.hid hJ
  have HY := Lib.hid hY
  have Hcl := Lib.hid hcl
  have H32 := Lib.hid h32
  have H62 := Lib.hid h62
  clear hbox hJx hJ hY h hW h0 hst hk hP hcl h32 h62 hbox' hU
  subst hlen
  refine callsIn_of_wp Try.func118 rfl trivial ?_ rfl
  simp only [Try.ntmps118, List.size_toArray, List.length_cons, List.length_nil, Nat.reduceAdd, Nat.reduceSub, Array.replicate_succ, Array.replicate_zero, List.push_toArray, List.append_toArray, List.nil_append, List.cons_append]
  gi_wp2_with ((with_reducible show wpListIn _ _ _ _ _ (⟨some 11, .call _, _, _, _, _⟩ :: _) _ _); fail)
  refine ⟨trivial, callsIn_any openW (Hcl.out.mono ?_)⟩
  rintro e W1 ⟨v, rfl, ho, hb1⟩
  obtain ⟨A1, c1', rfl, hs⟩ := Pcs.of_owns ho (length_fpc ps) (fpc_32 _ H32.out)
  have hJ1 := HJ.out W1.heap.size 0 W W1 none (Hst.out _ hb1.size) (grown_of_below hb1 none) (fun r e => by cases e)
  have hs1 : Pcs W1 (fun b => W.heap.size ≤ b ∧ b < W1.heap.size) A1 ps.length c1' (fpc ps) := hs.weak fun b hb hx => ⟨hx.1, hb⟩
  have hz1 := hb1.size
  have hroom := hs1.sl.room
  have hmx := hs1.sl.max
  unfold maxLen at hmx
  clear ho hs c1 c2 hb1 Hcl Hst
  gi_wp2
  gi_loopw [4, 13] (fun _ i wr => ∃ k : Nat, k ≤ ps.length ∧ i = .int .i64 k ∧ W1.heap.size ≤ wr.heap.size ∧ J W1.heap.size k wr ∧ Pcs wr (fun b => W.heap.size ≤ b ∧ b < W1.heap.size) A1 ps.length c1' (fpc ps))
    (fun _ i _ => ps.length - (intOf i).toNat)
  case atStart => exact ⟨0, Nat.zero_le _, rfl, Nat.le_refl _, hJ1, hs1⟩
  case round =>
    clear hJ1 hs1
    obtain ⟨k, hk, rfl, hsz, hJs, hs⟩ := hrel
    by_cases hlt : k < ps.length
    · have hd : decide ((k : Int) < (ps.length : Int)) = true := by simp; omega
      obtain ⟨b, o, rfl, hbw, -⟩ := hs.at_ (by omega)
      have hld := hs.load aggFp sizeFp rfl k hlt
      rw [fpc_getD] at hld
      have h32k : (ps.getD k (0, [])).2.length = 32 := by
        rw [List.getD_eq_getElem?_getD, List.getElem?_eq_getElem hlt]
        exact H32.out _ (List.getElem_mem hlt)
      have h62k : (ps.getD k (0, [])).1 ≤ 62 := by
        rw [List.getD_eq_getElem?_getD, List.getElem?_eq_getElem hlt]
        exact H62.out _ (List.getElem_mem hlt)
      obtain ⟨⟨lv, x⟩, hx⟩ : ∃ x, ps.getD k (0, []) = x := ⟨_, rfl⟩
      rw [hx] at hld h32k h62k
      have hwk : IntKind.i64.wrap ((k : Int) + 1) = (k : Int) + 1 := IntWalk.i64_in _ (by omega)
      have Hx := Lib.hid hx
      have H32k := Lib.hid h32k
      clear hx h32k
      gi_wp2_with (first
        | ((with_reducible show wpListIn _ _ _ _ _ (⟨some 16, .load _ _, _, _, _, _⟩ :: _) _ _); refine wpListIn_of1 openW rfl ?_; refine wpList_cell 156 (.tmp 15) b (o + k * 33) (.agg (.int .i64 (lv : Int) :: x.map B).toArray) (by kernel_rfl) rfl rfl hld ?_; refine thenN_nil ?_; simp only [Act.put])
        | ((with_reducible show wpListIn _ _ _ _ _ (⟨some 4, .alloc _, _, _, _, _⟩ :: _) _ _); refine wpListIn_of2 openW rfl ?_; refine wpList_fpvar (.tmp 4) (.tmp 16) rfl rfl rfl rfl rfl rfl H32k.out ?_; intro W2 k4 hb2; refine thenN_nil ?_; simp only [Act.put]))
      have k4d : PcB W2.drew wr.heap.size 156 (lv : Int) x := ⟨k4.blk, k4.len⟩
      refine wpIn_region_looksP openW [0, 1, 2, 3, 4, 5] (fun k => if k = 2 then [1] else if k = 3 then [2] else if k = 5 then [4] else []) (fun k => k + 17) [17, 18, 19, 20, 21, 22]
        (fun k => if k = 0 then .func (.yield ly) #[] #[] else if k = 1 then .pointer (some ⟨wr.heap.size, 0, none⟩) else if k = 2 then .int .i64 (lv : Int) else if k = 3 then .int .i64 ((2 : Int) ^ lv) else if k = 4 then .pointer (some ⟨wr.heap.size, 1, none⟩) else .agg (x.map B).toArray) 2 (by kernel_rfl) (by kernel_rfl) (by kernel_rfl) (by decide) (by decide) rfl (by kernel_rfl) ?_ ?_
      · refine List.forall_mem_cons.2 ⟨fun us hn => ⟨_, rfl, by kernel_rfl, by kernel_rfl, run_move_opF (.tmp 0) rfl _ rfl _, by kernel_rfl⟩, List.forall_mem_cons.2 ⟨fun us hn => ⟨_, rfl, by kernel_rfl, by kernel_rfl, run_field_op 156 (.tmp 4) 0 rfl wr.heap.size 0 0 rfl _ (by kernel_rfl), by kernel_rfl⟩, List.forall_mem_cons.2 ⟨fun us hn => ⟨_, rfl, by kernel_rfl, by kernel_rfl, run_load_op 3 (.tmp 18) rfl wr.heap.size 0 (hn 1 (by simp)) _ (run_load_scalar (by kernel_rfl) k4d.num), by kernel_rfl⟩, List.forall_mem_cons.2 ⟨fun us hn => ⟨_, rfl, by kernel_rfl, by kernel_rfl, run_shl1_op (.tmp 19) _ lv h62k rfl rfl (hn 2 (by simp)) _, by kernel_rfl⟩, List.forall_mem_cons.2 ⟨fun us hn => ⟨_, rfl, by kernel_rfl, by kernel_rfl, run_field_op 156 (.tmp 4) 1 rfl wr.heap.size 0 1 rfl _ (by kernel_rfl), by kernel_rfl⟩, List.forall_mem_cons.2 ⟨fun us hn => ⟨_, rfl, by kernel_rfl, by kernel_rfl, run_load_op 25 (.tmp 21) rfl wr.heap.size 1 (hn 4 (by simp)) _ k4d.hash, by kernel_rfl⟩, fun _ h => by cases h⟩⟩⟩⟩⟩⟩
      intro us hu
      have e17 : us 17 = .func (.yield ly) #[] #[] := hu 0 (by simp)
      have e20 : us 20 = .int .i64 ((2 : Int) ^ lv) := hu 3 (by simp)
      have e22 : us 22 = .agg (x.map B).toArray := hu 5 (by simp)
      simp only [putAll, Act.put, List.setIfInBounds_toArray, List.set_cons_succ, List.set_cons_zero, List.length_cons, List.length_nil, List.drop_succ_cons, List.drop_zero]
      rw [e17, e20, e22]
      clear e17 e20 e22 hu k4 k4d
      have hJ2 := (HJ.out W1.heap.size k wr W2 none hJs (grown_of_below hb2 none) (fun r e => by cases e))
      have hJd := HJ.out W1.heap.size k W2 W2.drew none hJ2 (grown_of_below (Below.refl _ _).drew none) (fun r e => by cases e)
      obtain ⟨fn, tmps, assign, body, hy, hR⟩ := HY.out W1.heap.size k #[.int .i64 ((2 : Int) ^ lv), .agg (x.map B).toArray] W2.drew hz1 (Nat.le_trans hsz hb2.size) hlt hJd (by unfold PartY; rw [Hx.out])
      have hs2 := (hs.step hb2).step (Below.refl W2.heap.size W2).drew
      have hsz2 : W1.heap.size ≤ W2.drew.heap.size := Nat.le_trans hsz hb2.size
      generalize W2.drew = W3 at hy hR hs2 hsz2 ⊢
      clear hJ2 hJd hJs hb2 hs hld
      gi_wp2
      refine hR.mono ?_
      clear hR hy
      rintro e w4 (⟨rfl, hj4, hk4⟩ | ⟨rfl, hjx4, hk4⟩)
      · have hs4 := hk4.pcs hs2 fun b _ hb => ⟨hb.2, fun hu => by have := hUW b hu; omega⟩
        have hsz4 := hk4.size
        clear hk4 hs2
        gi_wp2
        exact ⟨⟨k + 1, by omega, by go_num, by omega, hj4, hs4⟩, by simp [intOf]; omega⟩
      · gi_wp2
        refine bodyPost_ret (by exact results_none rfl _ _ _) rfl ?_
        exact ⟨⟨_, rfl⟩, _, hz1, .inr ⟨k, hlt, hjx4⟩⟩
    · obtain rfl : k = ps.length := by omega
      have hd : decide ((ps.length : Int) < (ps.length : Int)) = false := by simp
      gi_wp2
      go_end0
      exact ⟨⟨_, rfl⟩, _, by omega, .inl hJs⟩
end Go.Proofs.Ytonidnfgneokbaa
