/- notarylaw24.known: two entries are flushed, published, read. -/
import Derived.Test.YtobcfgbkhgkelaaQe227
import Derived.Test.YtobcfgbkhgkelaaQe213
import Derived.Test.YtobcfgbkhgkelaaQe224
import Derived.Test.YtobcfgbkhgkelaaQe215
import Derived.Test.YtobcfgbkhgkelaaQe225
import Derived.Test.YtobcfgbkhgkelaaQe216
import Derived.Test.YtobcfgbkhgkelaaQe210
namespace Go.Proofs.Ytobcfgbkhgkelaa
open Go Go.RowKit
attribute [local go_sem] Oper.semAt_some

def kn0 : MoV := MoV.new 2 2
def kn1 : MoV := { MoV.new 2 2 with queue := [[97]] }
def kn2 : MoV := { MoV.new 2 2 with queue := [[97], [98]] }
def kn3 : MoV := { MoV.new 2 2 with ents := [[97], [98]] }
def kn4 : MoV := kn3.publish
theorem kn_s1 : kn0.submit [97] = (0, kn1) := by simp [MoV.submit, kn0, kn1, MoV.new]
theorem kn_s2 : kn1.submit [98] = (0, kn2) := by simp [MoV.submit, kn1, kn2, MoV.new]
theorem kn_s3 : kn2.submit [99] = (5, kn2) := by simp [MoV.submit, kn2, MoV.new]
theorem kn_fl : kn2.flush = kn3 := rfl
theorem kn_al (root : List UInt8) (hr : kn3.nowR = root) : kn4.allows [[97], [98]] true 2 root = true := by
  have h1 : kn4.lastS = 2 := rfl
  have h2 : kn4.lastR = root := hr
  have h3 : kn4.ents = [[97], [98]] := rfl
  have h4 : kn4.begun = [] := rfl
  have h5 : kn4.has = true := rfl
  unfold MoV.allows
  rw [h1, h2, h3, h4, h5]
  simp [ptEq_self]
theorem conv_opM {ρ : Operand → Value} {o : Oper} {W W' : World} {v x' : Value} (t u : TypeId) (x : Operand) (ho : o.op = .convert t u x) (hx : ρ x = x') (h : (convert t u x').run Try.prog W = .ok v W') : (execOp ρ o).run Try.prog W = .ok (.value v) W' := by
  unfold execOp
  simp only [ho, hx, Sem.run_bind, Sem.run_pure, h, Result.andThen_ok]
theorem litB (w : World) (x : UInt8) : ∃ w2, (convert 22 22 (.slice (some ⟨w.heap.size, 0, none⟩) 1 1)).run Try.prog (w.alloc (.cells #[B x] 5)) = .ok (.slice (some ⟨w.heap.size, 0, none⟩) 1 1) w2 ∧ Sl w2 (w.heap.size ≤ ·) (some ⟨w.heap.size, 0, none⟩) 1 1 [x] ∧ Below w.heap.size w w2 := by
  obtain ⟨w2, h1, h2, h3⟩ := conv_new w #[B x] [x] 1 rfl rfl
  exact ⟨w2, h1, ⟨h2, rfl, Nat.le_refl _, (fun e => by cases e), by decide⟩, h3⟩
theorem small_any (w : World) : Calls Try.prog 23 #[] w fun e w' => e = .returned (.agg #[.int .i64 2, .int .i64 2]) ∧ Below w.heap.size w w' := by
  have k1 := Blk.new w 37 #[.int .i64 0, .int .i64 0]
  go_enter Try.func23, Try.ntmps23
  go_wp2_with (first
    | ((with_reducible show wpList _ _ _ (⟨some 0, .alloc _, _, _, _, _⟩ :: _) _ _); refine wpList_run rfl (.pointer (some ⟨w.heap.size, 0, none⟩)) (w.alloc (.cells #[.int .i64 0, .int .i64 0] 37)) (by kernel_rfl) ?_; simp only [Act.put])
    | ((with_reducible show wpList _ _ _ (⟨some 1, .build _ _, _, _, _, _⟩ :: _) _ _); refine wpList_run0 rfl (.agg #[.int .i64 2, .int .i64 2]) (by kernel_rfl) ?_; simp only [Act.put])
    | ((with_reducible show wpList _ _ _ (⟨none, .store _ _ _, _, _, _, _⟩ :: _) _ _); refine wpList_store_blk rfl 37 (.tmp 0) (.tmp 1) rfl 2 sizeCf w.heap.size #[.int .i64 2, .int .i64 2] rfl rfl rfl (by intro v hv; simp at hv; rcases hv with rfl | rfl <;> rfl) 37 _ k1 rfl ?_; simp only [Act.put]))
  exact bodyPost_ret (results_cell_row rfl _ _ w.heap.size 37 #[.int .i64 2, .int .i64 2] (0, 0) _ rfl (k1.setRow_ _) Try.underlying37 rfl (by kernel_rfl)) rfl ⟨rfl, below_setRow ((Below.refl _ _).alloc (Nat.le_refl _) _) (Nat.le_refl _) _⟩
theorem MdS.below {Z : Nat → Prop} {lo g N : Nat} {R : MdR} {m m' : MoV} {W W' : World} (h : MdS Z lo g R m' W W') (hM : Md Z lo g R m W) (hN : N ≤ lo) : Below N W W' :=
  h.kb.below (fun b hb => by have := (hM.lt b hb).1; omega) (by have := hM.size; omega)
/-- a thing found, in the law's words -/
def fcOf (E : Option Addr) (n c : Nat) (fs : Int) (fr : List UInt8) : Array Value := (Value.slice E n c :: .int .i64 0 :: .slice none 0 0 :: .int .i64 0 :: .bool true :: .int .i64 fs :: fr.map B).toArray
theorem builtFc (E : Option Addr) (n c : Nat) (fs : Int) (fr : List UInt8) (h : fr.length = 32) : Try.prog.built 30 [(0, .slice E n c), (4, .bool true), (5, .agg (.int .i64 fs :: fr.map B).toArray)] = some (fcOf E n c fs fr) := by
  obtain ⟨a0, a1, a2, a3, a4, a5, a6, a7, a8, a9, a10, a11, a12, a13, a14, a15, a16, a17, a18, a19, a20, a21, a22, a23, a24, a25, a26, a27, a28, a29, a30, a31, rfl⟩ := explode32 fr h
  kernel_rfl
theorem Fnd.of (E : Option Addr) (n c : Nat) (fs : Int) (fr : List UInt8) (h : fr.length = 32) : Fnd (fcOf E n c fs fr) E n c true fs fr := by
  refine ⟨by simp [fcOf, h], rfl, rfl, fun j v hv => ?_, h⟩
  unfold fcOf
  rw [List.getElem?_toArray, show 5 + j = j + 5 by omega]
  exact hv
theorem build_opM {ρ : Operand → Value} {o : Oper} {W : World} {cs : Array Value} {x' y' z' : Value} (T : TypeId) (x y z : Operand) (i j k : Nat) (ho : o.op = .build T #[(i, x), (j, y), (k, z)]) (hx : ρ x = x') (hy : ρ y = y') (hz : ρ z = z') (h : Try.prog.built T [(i, x'), (j, y'), (k, z')] = some cs) : (execOp ρ o).run Try.prog W = .ok (.value (.agg cs)) W := by
  have hm : (#[(i, x), (j, y), (k, z)] : Array (Nat × Operand)).map (fun (i, x) => (i, ρ x)) = #[(i, x'), (j, y'), (k, z')] := by simp [hx, hy, hz]
  unfold execOp
  simp only [ho, Sem.run_bind, Sem.run_pure, hm, run_build W T _ cs h, Result.andThen_ok]
theorem litS_run (g1 g2 : Nat) (W : World) : (Instr.buildSlice 23 2 #[(0, .slice (some ⟨g1, 0, none⟩) 1 1), (1, .slice (some ⟨g2, 0, none⟩) 1 1)]).run Try.prog W = .ok (.slice (some ⟨W.heap.size, 0, none⟩) 2 2) (W.alloc (.cells #[.slice (some ⟨g1, 0, none⟩) 1 1, .slice (some ⟨g2, 0, none⟩) 1 1] 22)) := by
  kernel_rfl
theorem litS_op {ρ : Operand → Value} {o : Oper} (g1 g2 : Nat) (x y : Operand) (ho : o.op = .buildSlice 23 2 #[(0, x), (1, y)]) (hx : ρ x = .slice (some ⟨g1, 0, none⟩) 1 1) (hy : ρ y = .slice (some ⟨g2, 0, none⟩) 1 1) (W : World) : (execOp ρ o).run Try.prog W = .ok (.value (.slice (some ⟨W.heap.size, 0, none⟩) 2 2)) (W.alloc (.cells #[.slice (some ⟨g1, 0, none⟩) 1 1, .slice (some ⟨g2, 0, none⟩) 1 1] 22)) := by
  unfold execOp
  have hm : (#[(0, x), (1, y)] : Array (Nat × Operand)).map (fun (i, x) => (i, ρ x)) = #[(0, .slice (some ⟨g1, 0, none⟩) 1 1), (1, .slice (some ⟨g2, 0, none⟩) 1 1)] := by simp [hx, hy]
  simp only [ho, Sem.run_bind, Sem.run_pure, hm, litS_run g1 g2 W, Result.andThen_ok]
theorem strM_op {ρ : Operand → Value} {o : Oper} {W : World} {X : Nat → Prop} {A : Option Addr} {n c : Nat} {l : List UInt8} (x : Operand) (ho : o.op = .convert 22 9 x) (hx : ρ x = .slice A n c) (h : Sl W X A n c l) :
    (execOp ρ o).run Try.prog W = .ok (.value (.string (bstr l))) W := conv_opM _ _ x ho hx (run_str h)
theorem es_lit2M (W : World) (A1 A2 : Option Addr) (n1 k1 n2 k2 : Nat) (l1 l2 : List UInt8) (h1 : Sl W (fun _ => True) A1 n1 k1 l1) (h2 : Sl W (fun _ => True) A2 n2 k2 l2) :
    Es (W.alloc (.cells #[.slice A1 n1 k1, .slice A2 n2 k2] 22)) (fun _ => True) (some ⟨W.heap.size, 0, none⟩) 2 2 [l1, l2] := by
  refine ⟨⟨[.slice A1 n1 k1, .slice A2 n2 k2], SlV.lit (s := 1) W (fun _ => True) 22 _ rfl (by decide) trivial, fun i hi => ?_⟩, rfl⟩
  match i, hi with
  | 0, _ => have e := h1.len; subst e; exact ⟨A1, k1, rfl, h1.alloc _⟩
  | 1, _ => have e := h2.len; subst e; exact ⟨A2, k2, rfl, h2.alloc _⟩
theorem load_opM {P : Program} {ρ : Operand → Value} {o : Oper} {w : World} {v p : Value} (ty : TypeId) (x : Operand) (ho : o.op = .load ty x) (hx : ρ x = p) (h : (Instr.loadAt ty p).run P w = .ok v w) : (execOp ρ o).run P w = .ok (.value v) w := by
  unfold execOp
  simp only [ho, hx, Sem.run_bind, Sem.run_pure, h, Result.andThen_ok]
set_option maxHeartbeats 16000000 in
set_option maxRecDepth 100000 in
theorem known24_any (w : World) :
    Calls Try.prog 8 #[] w fun e w' => e = .returned (.bool true) ∧ Below w.heap.size w w' := by
  obtain ⟨Z, hZ⟩ : ∃ Z : Nat → Prop, ∀ b, ¬ Z b := ⟨fun _ => False, fun _ h => h⟩
  obtain ⟨root, hroot⟩ : ∃ x, kn3.nowR = x := ⟨_, rfl⟩
  have hr32 : root.length = 32 := by rw [← hroot]; exact length_rootL _ (H32.lvs _)
  have hal := kn_al root hroot
  have Hroot := Lib.hid hroot
  have Hal := Lib.hid hal
  clear hroot hal
  go_enter Try.func8, Try.ntmps8
  refine Code.wp_mono (fun _ _ _ h => BP.out h) ?_
  go_wp2_with fail
  refine (small_any w).mono ?_
  rintro e w1 ⟨rfl, B1⟩
  go_wp2_with fail
  refine (mnew_any Z 2 2 w1 (fun b hb => (hZ b hb).elim) (by decide)).mono ?_
  rintro e w2 ⟨g, R, rfl, h2, hb2⟩
  have B2 := B1.trans (hb2.mono B1.size)
  obtain ⟨lo, hlo⟩ : ∃ x, w1.heap.size = x := ⟨_, rfl⟩
  have hwl : w.heap.size ≤ lo := by rw [← hlo]; exact B1.size
  rw [hlo] at h2
  have h2 : Md Z lo g R kn0 w2 := h2
  clear hlo hb2 B1
  obtain ⟨w3, hc3, hs3, hb3⟩ := litB w2 97
  have h3 := h2.step hb3
  have B3 := B2.trans (hb3.mono B2.size)
  have Hc3 := Lib.hid hc3
  clear hc3 h2 hb3 B2
  go_wp2_with (first
    | ((with_reducible show wpList _ _ _ (⟨some 23, .buildSlice _ _ _, _, _, _, _⟩ :: _) _ _); refine wpList_runG (by kernel_rfl) (.slice (some ⟨w2.heap.size, 0, none⟩) 1 1) (w2.alloc (.cells #[B 97] 5)) (by kernel_rfl) ?_; simp only [Act.put])
    | ((with_reducible show wpList _ _ _ (⟨some 24, .convert _ _ _, _, _, _, _⟩ :: _) _ _); refine wpList_runG (by kernel_rfl) _ w3 (conv_opM 22 22 (.tmp 23) rfl rfl Hc3.out) ?_; simp only [Act.put]))
  refine (msubmit_any Z lo g R kn0 w3 h3 _ 1 1 [97] hs3.all (by decide) (by decide)).mono ?_
  rintro e w4 ⟨rfl, hS4⟩
  rw [kn_s1] at hS4 ⊢
  have B4 := B3.trans ((hS4.below h3 hwl).mono (Nat.le_refl _))
  obtain ⟨R4, h4, -⟩ := hS4.ex
  clear hS4 h3 B3 hs3
  obtain ⟨w5, hc5, hs5, hb5⟩ := litB w4 98
  have h5 := h4.step hb5
  have B5 := B4.trans (hb5.mono B4.size)
  have Hc5 := Lib.hid hc5
  clear hc5 h4 hb5 B4
  go_wp2_with (first
    | ((with_reducible show wpList _ _ _ (⟨some 30, .buildSlice _ _ _, _, _, _, _⟩ :: _) _ _); refine wpList_runG (by kernel_rfl) (.slice (some ⟨w4.heap.size, 0, none⟩) 1 1) (w4.alloc (.cells #[B 98] 5)) (by kernel_rfl) ?_; simp only [Act.put])
    | ((with_reducible show wpList _ _ _ (⟨some 31, .convert _ _ _, _, _, _, _⟩ :: _) _ _); refine wpList_runG (by kernel_rfl) _ w5 (conv_opM 22 22 (.tmp 30) rfl rfl Hc5.out) ?_; simp only [Act.put]))
  refine (msubmit_any Z lo g R4 kn1 w5 h5 _ 1 1 [98] hs5.all (by decide) (by decide)).mono ?_
  rintro e w6 ⟨rfl, hS6⟩
  rw [kn_s2] at hS6 ⊢
  have B6 := B5.trans ((hS6.below h5 hwl).mono (Nat.le_refl _))
  obtain ⟨R6, h6, -⟩ := hS6.ex
  clear hS6 h5 B5 hs5
  obtain ⟨w7, hc7, hs7, hb7⟩ := litB w6 99
  have h7 := h6.step hb7
  have B7 := B6.trans (hb7.mono B6.size)
  have Hc7 := Lib.hid hc7
  clear hc7 h6 hb7 B6
  go_wp2_with (first
    | ((with_reducible show wpList _ _ _ (⟨some 37, .buildSlice _ _ _, _, _, _, _⟩ :: _) _ _); refine wpList_runG (by kernel_rfl) (.slice (some ⟨w6.heap.size, 0, none⟩) 1 1) (w6.alloc (.cells #[B 99] 5)) (by kernel_rfl) ?_; simp only [Act.put])
    | ((with_reducible show wpList _ _ _ (⟨some 38, .convert _ _ _, _, _, _, _⟩ :: _) _ _); refine wpList_runG (by kernel_rfl) _ w7 (conv_opM 22 22 (.tmp 37) rfl rfl Hc7.out) ?_; simp only [Act.put]))
  refine (msubmit_any Z lo g R6 kn2 w7 h7 _ 1 1 [99] hs7.all (by decide) (by decide)).mono ?_
  rintro e w8 ⟨rfl, hS8⟩
  rw [kn_s3] at hS8 ⊢
  have B8 := B7.trans ((hS8.below h7 hwl).mono (Nat.le_refl _))
  obtain ⟨R8, h8, -⟩ := hS8.ex
  clear hS8 h7 B7 hs7
  go_wp2_with fail
  refine (mflush_any Z lo g R8 kn2 w8 h8 rfl (by decide)).mono ?_
  rintro e w9 ⟨rfl, hS9⟩
  rw [kn_fl] at hS9
  have hl1 : ((kn2.ents.length : Nat) : Int) = 0 := rfl
  have hl2 : ((kn2.queue.length : Nat) : Int) = 2 := rfl
  rw [hl1, hl2]
  clear hl1 hl2
  have B9 := B8.trans ((hS9.below h8 hwl).mono (Nat.le_refl _))
  obtain ⟨R9, h9, -⟩ := hS9.ex
  clear hS9 h8 B8
  go_wp2_with fail
  refine (mpublish_any Z lo g R9 kn3 w9 h9 rfl).mono ?_
  rintro e w10 ⟨rfl, hS10⟩
  rw [Hroot.out]
  have B10 := B9.trans ((hS10.below h9 hwl).mono (Nat.le_refl _))
  obtain ⟨R10, h10, -⟩ := hS10.ex
  have h10 : Md Z lo g R10 kn4 w10 := h10
  clear hS10 h9 B9
  go_wp2_with ((with_reducible show wpList _ _ _ (⟨some 6, .alloc _, _, _, _, _⟩ :: _) _ _); refine wpList_pnv (n := 2) (l := root) (.tmp 6) (.tmp 51) rfl rfl rfl rfl rfl rfl hr32 ?_; intro w11 p11 hb11; simp only [Act.put])
  have h11 := h10.step hb11
  have B11 := B10.trans (hb11.mono B10.size)
  refine (mread_any Z lo g R10 kn4 w11 h11 1 (by decide)).mono ?_
  rintro e w12 ⟨A12, c12, rfl, hs12, hb12⟩
  have h12 := h11.step hb12
  have p12 := p11.step hb12
  have B12 := B11.trans (hb12.mono B11.size)
  have hg1 : kn4.ents.getD 1 [] = [98] := rfl
  rw [hg1] at hs12 ⊢
  have hr12 := hs12.room
  have hm12 := hs12.max
  unfold maxLen at hm12
  have c60 := p12.size
  clear h10 h11 B10 B11 hb11 hb12 p11
  obtain ⟨w13, hc13, hs13, hb13⟩ := litB w12 97
  obtain ⟨w14, hc14, hs14, hb14⟩ := litB w13 98
  have hs13' := hs13.step hb14
  have hs12' := (hs12.step hb13).step hb14
  have h14 := (h12.step hb13).step hb14
  have p14 := (p12.step hb13).step hb14
  have B14 := (B12.trans (hb13.mono B12.size)).trans (hb14.mono (Nat.le_trans B12.size hb13.size))
  have Hc13 := Lib.hid hc13
  have Hc14 := Lib.hid hc14
  have hst : ∀ (ρ : Operand → Value) (o : Oper) (x : Operand), o.op = .convert 22 9 x → ρ x = .slice A12 1 c12 → (execOp ρ o).run Try.prog w12 = .ok (.value (.string ⟨#[98]⟩)) w12 := fun _ _ x ho hx => strM_op x ho hx hs12
  have Hst := Lib.hid hst
  have Hs13' := Lib.hid hs13'
  have Hs14 := Lib.hid hs14
  have H14 := Lib.hid h14
  have P14 := Lib.hid p14
  obtain ⟨w15, hw15⟩ : ∃ x, w14.alloc (.cells #[.slice (some ⟨w12.heap.size, 0, none⟩) 1 1, .slice (some ⟨w13.heap.size, 0, none⟩) 1 1] 22) = x := ⟨_, rfl⟩
  have hld : (Instr.loadAt 28 (.pointer (some ⟨w10.heap.size, 0, none⟩))).run Try.prog w15 = .ok (.agg (.int .i64 2 :: root.map B).toArray) w15 := by
    rw [← hw15]
    exact (p14.step ((Below.refl _ _).alloc (Nat.le_refl _) _)).load
  have Hld := Lib.hid hld
  have Hw15 := Lib.hid hw15
  clear hld hst hc13 hc14 hs12 hs12' hs13 hs13' hs14 h14 p14 p12 hg1 h12 hw15 hb13 hb14
  go_wp2_with (first
    | ((with_reducible show wpList _ _ _ (⟨some 79, .convert _ _ _, _, _, _, _⟩ :: _) _ _); refine wpList_runG (by kernel_rfl) (.string ⟨#[98]⟩) _ (Hst.out _ _ (.tmp 78) rfl rfl) ?_; simp only [Act.put, List.setIfInBounds_toArray, List.set_cons_succ, List.set_cons_zero])
    | ((with_reducible show wpList _ _ _ (⟨some 80, .binOp _ _ _ _ _, _, _, _, _⟩ :: _) _ _); refine wpList_runG (by kernel_rfl) (.bool true) _ (by kernel_rfl) ?_; simp only [Act.put, List.setIfInBounds_toArray, List.set_cons_succ, List.set_cons_zero])
    | ((with_reducible show wpList _ _ _ (⟨some 88, .buildSlice _ _ _, _, _, _, _⟩ :: _) _ _); refine wpList_runG (by kernel_rfl) (.slice (some ⟨w12.heap.size, 0, none⟩) 1 1) (w12.alloc (.cells #[B 97] 5)) (by kernel_rfl) ?_; simp only [Act.put, List.setIfInBounds_toArray, List.set_cons_succ, List.set_cons_zero])
    | ((with_reducible show wpList _ _ _ (⟨some 89, .convert _ _ _, _, _, _, _⟩ :: _) _ _); refine wpList_runG (by kernel_rfl) _ w13 (conv_opM 22 22 (.tmp 88) rfl rfl Hc13.out) ?_; simp only [Act.put, List.setIfInBounds_toArray, List.set_cons_succ, List.set_cons_zero])
    | ((with_reducible show wpList _ _ _ (⟨some 90, .buildSlice _ _ _, _, _, _, _⟩ :: _) _ _); refine wpList_runG (by kernel_rfl) (.slice (some ⟨w13.heap.size, 0, none⟩) 1 1) (w13.alloc (.cells #[B 98] 5)) (by kernel_rfl) ?_; simp only [Act.put, List.setIfInBounds_toArray, List.set_cons_succ, List.set_cons_zero])
    | ((with_reducible show wpList _ _ _ (⟨some 91, .convert _ _ _, _, _, _, _⟩ :: _) _ _); refine wpList_runG (by kernel_rfl) _ w14 (conv_opM 22 22 (.tmp 90) rfl rfl Hc14.out) ?_; simp only [Act.put, List.setIfInBounds_toArray, List.set_cons_succ, List.set_cons_zero])
    | ((with_reducible show wpList _ _ _ (⟨some 92, .buildSlice _ _ _, _, _, _, _⟩ :: _) _ _); refine wpList_runG (by kernel_rfl) (.slice (some ⟨w14.heap.size, 0, none⟩) 2 2) (w14.alloc (.cells #[.slice (some ⟨w12.heap.size, 0, none⟩) 1 1, .slice (some ⟨w13.heap.size, 0, none⟩) 1 1] 22)) (by kernel_rfl) ?_; rw [Hw15.out]; simp only [Act.put, List.setIfInBounds_toArray, List.set_cons_succ, List.set_cons_zero])
    | ((with_reducible show wpList _ _ _ (⟨some 93, .load _ _, _, _, _, _⟩ :: _) _ _); refine wpList_runG (by kernel_rfl) _ _ (load_opM (p := .pointer (some ⟨w10.heap.size, 0, none⟩)) 28 (.tmp 6) rfl rfl Hld.out) ?_; simp only [Act.put, List.setIfInBounds_toArray, List.set_cons_succ, List.set_cons_zero])
    | ((with_reducible show wpList _ _ _ (⟨some 94, .build _ _, _, _, _, _⟩ :: _) _ _); refine wpList_runG (by kernel_rfl) _ _ (build_opM 30 (.tmp 92) (.const (.bool true)) (.tmp 93) 0 4 5 rfl rfl rfl rfl (builtFc (some ⟨w14.heap.size, 0, none⟩) 2 2 2 root hr32)) ?_; simp only [Act.put, List.setIfInBounds_toArray, List.set_cons_succ, List.set_cons_zero]))
  have h15 : Md Z lo g R10 kn4 w15 := by rw [← Hw15.out]; exact H14.out.step ((Below.refl _ _).alloc (Nat.le_refl _) _)
  have he15 : Es w15 (fun _ => True) (some ⟨w14.heap.size, 0, none⟩) 2 2 [[97], [98]] := by rw [← Hw15.out]; exact es_lit2M w14 _ _ 1 1 1 1 [97] [98] Hs13'.out.all Hs14.out.all
  have B15 : Below w.heap.size w w15 := by rw [← Hw15.out]; exact B14.alloc B14.size _
  refine (mallows_any Z lo g R10 kn4 w15 h15 _ (some ⟨w14.heap.size, 0, none⟩) 2 2 [[97], [98]] true 2 root (Fnd.of _ 2 2 2 root hr32) he15 (by decide)).mono ?_
  rintro e w16 ⟨rfl, b16⟩
  rw [Hal.out]
  have B16 := B15.trans (b16.mono B15.size)
  clear h15 he15 B15 b16 B14
  go_wp2_with fail
  refine ⟨?_⟩
  refine bodyPost_ret (results_tmp rfl _ _ _) rfl ?_
  exact ⟨rfl, B16⟩
end Go.Proofs.Ytobcfgbkhgkelaa
/- A model that is not there: Publish, Last, Root, Job, Allows, All. -/
namespace Go.Proofs.Ytobcfgbkhgkelaa
open Go Go.RowKit
attribute [local go_sem] Oper.semAt_some

/-- no hash -/
def zh : List UInt8 := List.replicate 32 0
def zptC : Array Value := (.int .i64 0 :: zh.map B).toArray
def zhC : Array Value := (zh.map B).toArray
theorem zh32 : zh.length = 32 := rfl
theorem zptC_size : zptC.size = 33 := rfl
theorem zhC_size : zhC.size = 32 := rfl
theorem built0_pt : Try.prog.built 28 [] = some zptC := by kernel_rfl
theorem built0_h : Try.prog.built 26 [] = some zhC := by kernel_rfl
theorem built0_cf : Try.prog.built 37 [] = some #[.int .i64 0, .int .i64 0] := by kernel_rfl
theorem build0_op {ρ : Operand → Value} {o : Oper} {T : TypeId} {cs : Array Value} (ho : o.op = .build T #[]) (h : Try.prog.built T [] = some cs) (W : World) : (execOp ρ o).run Try.prog W = .ok (.value (.agg cs)) W :=
  run_build_op ho (by simpa using h) W
set_option maxRecDepth 100000 in
theorem one_zpt : ∀ v ∈ zptC.toList, v.oneCell' = true := oneCell_pt _ _
theorem one_zh : ∀ v ∈ zhC.toList, v.oneCell' = true := oneCell_B _
set_option maxRecDepth 100000 in
theorem tuple_h {fn : Func} {p u : Tmp} (h : fn.results = #[.cell p 26, .tmp u]) (tmps : Array Value) (W : World) (g : Nat)
    (hp : tmps.getD p undef = .pointer (some ⟨g, 0, none⟩)) (k : Blk W g 26 zhC) :
    (results fn tmps).run Try.prog W = .ok (.tuple #[.agg zhC, tmps.getD u undef]) W := by
  rw [results_cell_tmp h, hp]
  show ((loadVar 26 ⟨g, 0, none⟩).run Try.prog W).andThen (fun v w₂ => Result.ok (Value.tuple #[v, tmps.getD u undef]) w₂) = _
  rw [run_loadVar_row W g 26 26 zhC (0, 0) _ k Try.underlying26 rfl (by kernel_rfl)]
  rfl
section
variable {W : World} {v : Value}
set_option maxHeartbeats 4000000 in
set_option maxRecDepth 100000 in
theorem mpublish_no (h : NoM W v) : Calls Try.prog 14 #[v] W fun e w' => e = .returned (.tuple #[.agg zptC, .int .i64 1]) ∧ Below W.heap.size W w' := by
  obtain ⟨w1, hw1⟩ : ∃ x, W.alloc (.cells zptC 28) = x := ⟨_, rfl⟩
  have k1 : Blk w1 W.heap.size 28 zptC := by rw [← hw1]; exact Blk.new _ _ _
  have B1 : Below W.heap.size W w1 := by rw [← hw1]; exact (Below.refl _ _).alloc (Nat.le_refl _) _
  have hmay := mmay_no (h.step B1)
  have B2 := below_setRow B1 (Nat.le_refl W.heap.size) zptC
  have p2 : PB (w1.setRow W.heap.size zptC) W.heap.size 0 zh := ⟨k1.setRow_ _, zh32⟩
  have Hw1 := Lib.hid hw1
  clear hw1 h
  go_enter Try.func14, Try.ntmps14
  go_wp2_with (first
    | ((with_reducible show wpList _ _ _ (⟨some 2, .alloc _, _, _, _, _⟩ :: _) _ _); refine wpList_run rfl (.pointer (some ⟨W.heap.size, 0, none⟩)) w1 (by rw [← Hw1.out]; kernel_rfl) ?_; simp only [Act.put])
    | (go_at_call 40; refine hmay.mono ?_; rintro e w' ⟨rfl, hw⟩; obtain rfl := hw.symm)
    | ((with_reducible show wpList _ _ _ (⟨some 9, .build _ _, _, _, _, _⟩ :: _) _ _); refine wpList_run rfl _ _ (build0_op rfl built0_pt _) ?_; simp only [Act.put])
    | ((with_reducible show wpList _ _ _ (⟨none, .store _ (.tmp 2) _, _, _, _, _⟩ :: _) _ _); refine wpList_store_blk rfl 28 (.tmp 2) (.tmp 9) rfl 33 ptSize W.heap.size zptC rfl rfl zptC_size one_zpt 28 _ k1 (by decide) ?_; simp only [Act.put]))
  exact bodyPost_ret (tuple_pt rfl _ _ W.heap.size 0 zh rfl p2) rfl ⟨rfl, B2⟩
set_option maxHeartbeats 4000000 in
set_option maxRecDepth 100000 in
theorem mlast_no (h : NoM W v) : Calls Try.prog 30 #[v] W fun e w' => e = .returned (.tuple #[.agg zptC, .bool false]) ∧ Below W.heap.size W w' := by
  obtain ⟨w1, hw1⟩ : ∃ x, W.alloc (.cells zptC 28) = x := ⟨_, rfl⟩
  have k1 : Blk w1 W.heap.size 28 zptC := by rw [← hw1]; exact Blk.new _ _ _
  have B1 : Below W.heap.size W w1 := by rw [← hw1]; exact (Below.refl _ _).alloc (Nat.le_refl _) _
  have hn := mnone_no (h.step B1)
  have B2 := below_setRow B1 (Nat.le_refl W.heap.size) zptC
  have p2 : PB (w1.setRow W.heap.size zptC) W.heap.size 0 zh := ⟨k1.setRow_ _, zh32⟩
  have Hw1 := Lib.hid hw1
  clear hw1 h
  go_enter Try.func30, Try.ntmps30
  go_wp2_with (first
    | ((with_reducible show wpList _ _ _ (⟨some 2, .alloc _, _, _, _, _⟩ :: _) _ _); refine wpList_run rfl (.pointer (some ⟨W.heap.size, 0, none⟩)) w1 (by rw [← Hw1.out]; kernel_rfl) ?_; simp only [Act.put])
    | (go_at_call 43; refine hn.mono ?_; rintro e w' ⟨rfl, hw⟩; obtain rfl := hw.symm)
    | ((with_reducible show wpList _ _ _ (⟨some 6, .build _ _, _, _, _, _⟩ :: _) _ _); refine wpList_run rfl _ _ (build0_op rfl built0_pt _) ?_; simp only [Act.put])
    | ((with_reducible show wpList _ _ _ (⟨none, .store _ (.tmp 2) _, _, _, _, _⟩ :: _) _ _); refine wpList_store_blk rfl 28 (.tmp 2) (.tmp 6) rfl 33 ptSize W.heap.size zptC rfl rfl zptC_size one_zpt 28 _ k1 (by decide) ?_; simp only [Act.put]))
  exact bodyPost_ret (tuple_pt rfl _ _ W.heap.size 0 zh rfl p2) rfl ⟨rfl, B2⟩
set_option maxHeartbeats 4000000 in
set_option maxRecDepth 100000 in
theorem mroot_no {n : Int} (h : NoM W v) : Calls Try.prog 12 #[v, .int .i64 n] W fun e w' => e = .returned (.tuple #[.agg zhC, .int .i64 1]) ∧ Below W.heap.size W w' := by
  obtain ⟨w1, hw1⟩ : ∃ x, W.alloc (.cells zhC 26) = x := ⟨_, rfl⟩
  have k1 : Blk w1 W.heap.size 26 zhC := by rw [← hw1]; exact Blk.new _ _ _
  have B1 : Below W.heap.size W w1 := by rw [← hw1]; exact (Below.refl _ _).alloc (Nat.le_refl _) _
  have hn := mbegins_no (n := n) (h.step B1)
  have B2 := below_setRow B1 (Nat.le_refl W.heap.size) zhC
  have k2 := k1.setRow_ zhC
  have Hw1 := Lib.hid hw1
  clear hw1 h
  go_enter Try.func12, Try.ntmps12
  go_wp2_with (first
    | ((with_reducible show wpList _ _ _ (⟨some 4, .alloc _, _, _, _, _⟩ :: _) _ _); refine wpList_run rfl (.pointer (some ⟨W.heap.size, 0, none⟩)) w1 (by rw [← Hw1.out]; kernel_rfl) ?_; simp only [Act.put])
    | (go_at_call 42; refine hn.mono ?_; rintro e w' ⟨rfl, hw⟩; obtain rfl := hw.symm)
    | ((with_reducible show wpList _ _ _ (⟨some 12, .build _ _, _, _, _, _⟩ :: _) _ _); refine wpList_run rfl _ _ (build0_op rfl built0_h _) ?_; simp only [Act.put])
    | ((with_reducible show wpList _ _ _ (⟨none, .store _ (.tmp 4) _, _, _, _, _⟩ :: _) _ _); refine wpList_store_blk rfl 26 (.tmp 4) (.tmp 12) rfl 32 size26 W.heap.size zhC rfl rfl zhC_size one_zh 26 _ k1 (by decide) ?_; simp only [Act.put]))
  exact bodyPost_ret (tuple_h rfl _ _ W.heap.size rfl k2) rfl ⟨rfl, B2⟩
set_option maxHeartbeats 4000000 in
set_option maxRecDepth 100000 in
theorem mjob_no (h : NoM W v) : Calls Try.prog 36 #[v] W fun e w' => e = .returned (.agg #[.int .i64 0, .int .i64 0]) ∧ Below W.heap.size W w' := by
  obtain ⟨w1, hw1⟩ : ∃ x, W.alloc (.cells #[.int .i64 0, .int .i64 0] 37) = x := ⟨_, rfl⟩
  have k1 : Blk w1 W.heap.size 37 #[.int .i64 0, .int .i64 0] := by rw [← hw1]; exact Blk.new _ _ _
  have B1 : Below W.heap.size W w1 := by rw [← hw1]; exact (Below.refl _ _).alloc (Nat.le_refl _) _
  have hn := mnone_no (h.step B1)
  have B2 := below_setRow B1 (Nat.le_refl W.heap.size) #[.int .i64 0, .int .i64 0]
  have k2 := k1.setRow_ #[.int .i64 0, .int .i64 0]
  have Hw1 := Lib.hid hw1
  clear hw1 h
  go_enter Try.func36, Try.ntmps36
  go_wp2_with (first
    | ((with_reducible show wpList _ _ _ (⟨some 2, .alloc _, _, _, _, _⟩ :: _) _ _); refine wpList_run rfl (.pointer (some ⟨W.heap.size, 0, none⟩)) w1 (by rw [← Hw1.out]; kernel_rfl) ?_; simp only [Act.put])
    | (go_at_call 43; refine hn.mono ?_; rintro e w' ⟨rfl, hw⟩; obtain rfl := hw.symm)
    | ((with_reducible show wpList _ _ _ (⟨some 5, .build _ _, _, _, _, _⟩ :: _) _ _); refine wpList_run rfl _ _ (build0_op rfl built0_cf _) ?_; simp only [Act.put])
    | ((with_reducible show wpList _ _ _ (⟨none, .store _ (.tmp 2) _, _, _, _, _⟩ :: _) _ _); refine wpList_store_blk rfl 37 (.tmp 2) (.tmp 5) rfl 2 sizeCf W.heap.size #[.int .i64 0, .int .i64 0] rfl rfl rfl (by intro v hv; simp at hv; rcases hv with rfl | rfl <;> rfl) 37 _ k1 rfl ?_; simp only [Act.put]))
  exact bodyPost_ret (results_cell_row rfl _ _ W.heap.size 37 #[.int .i64 0, .int .i64 0] (0, 0) _ rfl k2 Try.underlying37 rfl (by kernel_rfl)) rfl ⟨rfl, B2⟩
set_option maxHeartbeats 4000000 in
set_option maxRecDepth 100000 in
theorem mallows_no (h : NoM W v) (fc : Array Value) : Calls Try.prog 21 #[v, .agg fc] W fun e w' => e = .returned (.bool false) ∧ Below W.heap.size W w' := by
  obtain ⟨w1, hw1⟩ : ∃ x, W.alloc (.cells fc 30) = x := ⟨_, rfl⟩
  have B1 : Below W.heap.size W w1 := by rw [← hw1]; exact (Below.refl _ _).alloc (Nat.le_refl _) _
  obtain ⟨bx, hbx⟩ : ∃ x, W.heap.size = x := ⟨_, rfl⟩
  have h1 := h.step B1
  have hno : ∀ W', Below w1.heap.size w1 W' → Calls Try.prog 43 #[v] W' fun e w' => e = .returned (.bool true) ∧ w' = W' := fun W' hb => mnone_no (h1.step hb)
  have hend : ∀ W', Below w1.heap.size w1 W' → Below bx W W' := fun W' hb => by rw [← hbx]; exact B1.trans (hb.mono B1.size)
  have Hno := Lib.hid hno
  have Hw1 := Lib.hid hw1
  clear hw1 hno h1 h
  have hS : Below w1.heap.size w1 w1.drew := (Below.refl _ _).drew
  rw [hbx]
  go_enter Try.func21, Try.ntmps21
  go_upto_region 1 with ((with_reducible show wpList _ _ _ (⟨some 3, .box _ _, _, _, _, _⟩ :: _) _ _); refine wpList_run rfl (.pointer (some ⟨W.heap.size, 0, none⟩)) w1 (by rw [← Hw1.out]; rfl) ?_; rw [hbx]; simp only [Act.put])
  refine wp_region_mix (fun W' => Below w1.heap.size w1 W') [(0, true), (1, false), (2, true), (3, true), (4, true), (5, true), (6, true), (7, true), (8, true), (9, true), (10, true), (11, true), (12, true), (13, true)] (by kernel_rfl) (by kernel_rfl) hS fun _ => ?_
  simp only [List.map_cons, List.map_nil, Array.getD_eq_getD_getElem?, List.getElem?_toArray, List.getElem?_cons_succ, List.getElem?_cons_zero, Option.getD_some]
  generalize w1.drew = W0 at hS ⊢
  refine wpMix_s (fun K hK => ?_)
  go_simp
  refine hK _ ?_
  clear hK K
  refine wpMix_c (fun K hK => ?_) hS
  go_simp
  refine (Hno.out W0 hS).mono ?_
  rintro e W0e ⟨rfl, hww⟩
  obtain rfl := hww.symm
  refine hK _ _ ?_
  clear hK K
  refine ⟨hS, ?_⟩
  refine wpMix_s (fun K hK => ?_)
  go_simp
  refine hK _ ?_
  clear hK K
  refine wpMix_s (fun K hK => ?_)
  go_simp
  refine hK _ ?_
  clear hK K
  refine wpMix_s (fun K hK => ?_)
  go_simp
  refine hK _ ?_
  clear hK K
  refine wpMix_s (fun K hK => ?_)
  go_simp
  refine hK _ ?_
  clear hK K
  refine wpMix_s (fun K hK => ?_)
  go_simp
  refine hK _ ?_
  clear hK K
  refine wpMix_s (fun K hK => ?_)
  go_simp
  refine hK _ ?_
  clear hK K
  refine wpMix_s (fun K hK => ?_)
  go_simp
  refine hK _ ?_
  clear hK K
  refine wpMix_s (fun K hK => ?_)
  go_simp
  refine hK _ ?_
  clear hK K
  refine wpMix_s (fun K hK => ?_)
  go_simp
  refine hK _ ?_
  clear hK K
  refine wpMix_s (fun K hK => ?_)
  go_simp
  refine hK _ ?_
  clear hK K
  refine wpMix_s (fun K hK => ?_)
  go_simp
  refine hK _ ?_
  clear hK K
  refine wpMix_s (fun K hK => ?_)
  go_simp
  refine hK _ ?_
  clear hK K
  refine wpMix_nil ?_
  intro _
  go_wp2_with fail
  go_ret
  exact ⟨rfl, hend _ hS⟩
set_option maxHeartbeats 4000000 in
set_option maxRecDepth 100000 in
/-- All, of a model that is not there: an iterator over nothing -/
theorem mall_no {n : Int} (h : NoM W v) : Calls Try.prog 33 #[v, .int .i64 n] W fun e w' => ∃ g g', e = .returned (.func (.func 65) #[] #[.pointer (some ⟨g, 0, none⟩), .pointer (some ⟨g', 0, none⟩)]) ∧ Blk w' g 23 #[.slice none 0 0] ∧ W.heap.size ≤ g ∧ Below W.heap.size W w' := by
  obtain ⟨w3, hw3⟩ : ∃ x, ((W.alloc (.cells #[.int .i64 (max n 0)] 2)).alloc (.cells #[.slice none 0 0] 23)) = x := ⟨_, rfl⟩
  have B3 : Below W.heap.size W w3 := by rw [← hw3]; exact ((Below.refl _ _).alloc (Nat.le_refl _) _).alloc (by simp) _
  have k3 : Blk w3 W.heap.size 2 #[.int .i64 (max n 0)] := by rw [← hw3]; exact (Blk.new _ _ _).alloc _
  have k5 : Blk w3 (W.heap.size + 1) 23 #[.slice none 0 0] := by rw [← hw3]; exact Blk.new' _ _ _ _ (by simp)
  have h3 := h.step B3
  have c3 : ∀ s : InC (fun W' => Below w3.heap.size w3 W'), s.W.cell? ⟨W.heap.size, 0, none⟩ = some (.int .i64 (max n 0)) := fun s => by rw [(k3.step s.ok).cell]; rfl
  have hsz : ∀ W', Below w3.heap.size w3 W' → Calls Try.prog 13 #[v] W' fun e w' => e = .returned (.int .i64 0) ∧ w' = W' := fun W' hb => msize_no (h3.step hb)
  have hd : decide (max n 0 < (0 : Int)) = false := by simp; omega
  have hend : ∀ W', Below w3.heap.size w3 W' → Blk W' (W.heap.size + 1) 23 #[.slice none 0 0] ∧ Below W.heap.size W W' := fun W' hb => ⟨k5.step hb, B3.trans (hb.mono B3.size)⟩
  have Hsz := Lib.hid hsz
  have Hw3 := Lib.hid hw3
  clear hsz hw3 h h3 k3 k5
  have hS : Below w3.heap.size w3 w3.drew := (Below.refl _ _).drew
  go_enter Try.func33, Try.ntmps33
  go_upto_region 3 with fail
  rw [Hw3.out]
  refine wp_region_mix (fun W => Below w3.heap.size w3 W) [(0, true), (1, true), (2, false), (3, true)] (by kernel_rfl) (by kernel_rfl) hS fun _ => ?_
  simp only [List.map_cons, List.map_nil, Array.getD_eq_getD_getElem?, List.getElem?_toArray, List.getElem?_cons_succ, List.getElem?_cons_zero, Option.getD_some]
  generalize w3.drew = Z0 at hS ⊢
  refine wpMix_s (fun K hK => ?_)
  go_simp
  refine hK _ ?_
  clear hK K
  refine wpMix_s (fun K hK => ?_)
  go_simp
  refine hK _ ?_
  clear hK K
  refine wpMix_c (fun K hK => ?_) hS
  go_simp
  refine (Hsz.out Z0 hS).mono ?_
  rintro e Z0e ⟨rfl, hww⟩
  obtain rfl := hww.symm
  refine hK _ _ ?_
  clear hK K
  refine ⟨hS, ?_⟩
  refine wpMix_s (fun K hK => ?_)
  go_simp
  refine hK _ ?_
  clear hK K
  refine wpMix_nil ?_
  intro _
  clear c3
  go_wp2_with fail
  go_ret
  exact ⟨_, ⟨_, rfl⟩, (hend _ hS).1, Nat.le_succ _, (hend _ hS).2⟩
end
set_option maxRecDepth 100000 in
set_option maxHeartbeats 2000000 in
/-- it has no round -/
theorem all0_seq (g1 g2 : Nat) (U : Nat → Prop) (w : World) (hb : Blk w g1 23 #[.slice none 0 0]) :
    SeqU Try.prog 65 #[.pointer (some ⟨g1, 0, none⟩), .pointer (some ⟨g2, 0, none⟩)] 0 U (fun _ _ _ _ => False) w := by
  intro ly J Jx W hW hJ hJx hY h0
  have hc : W.cell? ⟨g1, 0, none⟩ = some (.slice none 0 0) := by rw [(hb.below hW hb.lt).cell]; rfl
  have hst := h0 _ (Nat.le_refl _)
  have Hst := Lib.hid hst
  clear hW hJ hJx hY h0 hst hb
  refine callsIn_of_wp Try.func65 rfl trivial ?_ rfl
  simp only [Try.ntmps65, List.size_toArray, List.length_cons, List.length_nil, Nat.reduceAdd, Nat.reduceSub, Array.replicate_succ, Array.replicate_zero, List.push_toArray, List.append_toArray, List.nil_append, List.cons_append]
  gi_wp2
  gi_loopw [8] (fun i wr => i = .int .i64 0 ∧ wr = W) (fun _ _ => 0)
  case atStart => exact ⟨rfl, rfl⟩
  case round =>
    obtain ⟨rfl, rfl⟩ := hrel
    gi_wp2
    go_end0
    exact ⟨⟨_, rfl⟩, _, Nat.le_refl _, .inl Hst.out⟩
end Go.Proofs.Ytobcfgbkhgkelaa
/- notarylaw24.nothing: a model that is not there answers nothing. -/
namespace Go.Proofs.Ytobcfgbkhgkelaa
open Go Go.RowKit Go.Shelf
attribute [local go_sem] Oper.semAt_some

theorem fdAgg : ∀ w : World, (isAgg 30).run Try.prog w = .ok true w := fun _ => by kernel_rfl
theorem fdSize : ∀ w : World, (sizeOf 30).run Try.prog w = .ok 38 w := fun _ => by kernel_rfl
theorem neqPt_f {ρ : Operand → Value} {o : Oper} (a b : Operand) (ty : TypeId) (ho : o.op = .binOp .neq 28 a b ty) (ha : ρ a = .agg (Value.int .i64 0 :: zh.map B).toArray) (hb : ρ b = .agg zptC) (W : World) : (execOp ρ o).run Try.prog W = .ok (.value (.bool false)) W := by
  have := neqPt_op a b ty 0 0 zh zh ho ha hb zh32 zh32 W
  rwa [ptEq_self] at this
theorem neqH_f {ρ : Operand → Value} {o : Oper} (a b : Operand) (ty : TypeId) (ho : o.op = .binOp .neq 26 a b ty) (ha : ρ a = .agg (zh.map B).toArray) (hb : ρ b = .agg zhC) (W : World) : (execOp ρ o).run Try.prog W = .ok (.value (.bool false)) W :=
  run_neq26_f a b ty zh zh ho ha hb zh32 zh32 rfl W
theorem loadN_op {P : Program} {ρ : Operand → Value} {o : Oper} {w : World} {v : Value} (ty : TypeId) (x : Operand) (g : Nat) (ho : o.op = .load ty x) (hx : ρ x = .pointer (some ⟨g, 0, none⟩)) (h : (Instr.loadAt ty (.pointer (some ⟨g, 0, none⟩))).run P w = .ok v w) : (execOp ρ o).run P w = .ok (.value v) w := by
  unfold execOp
  simp only [ho, hx, Sem.run_bind, Sem.run_pure, h, Result.andThen_ok]
theorem resB {fn : Func} {p : Tmp} (h : fn.results = #[.cell p 4]) (tmps : Array Value) (w : World) (g : Nat) (b : Bool) (hp : tmps.getD p undef = .pointer (some ⟨g, 0, none⟩)) (hg : Blk w g 4 #[.bool b]) :
    (results fn tmps).run Try.prog w = .ok (.bool b) w := by
  have hp' : tmps[p]?.getD undef = .pointer (some ⟨g, 0, none⟩) := by simpa using hp
  have hc : w.cell? ⟨g, 0, none⟩ = some (.bool b) := by rw [hg.cell]; rfl
  have hagg : ∀ w : World, (isAgg 4).run Try.prog w = .ok false w := fun _ => by kernel_rfl
  simp [results, h, hp', asAddr, loadVar, hagg, hc, go_sem]
/-- what is known in 'nothing' -/
structure NtC (w : World) (v : Value) (fc : Array Value) (W : World) : Prop where
  no : NoM W v
  b7 : Blk W w.heap.size 30 fc
  b8 : Blk W (w.heap.size + 1) 4 #[.bool false]
  bel : Below w.heap.size w W
section
variable {w W W' : World} {v : Value} {fc : Array Value} {g : Nat}
theorem NtC.step (h : NtC w v fc W) (hb : Below W.heap.size W W') : NtC w v fc W' := ⟨h.no.step hb, h.b7.step hb, h.b8.step hb, h.bel.trans (hb.mono h.bel.size)⟩
theorem NoM.grown {row : Option Nat} {N : Nat} (h : NoM W v) (hlt : ∀ g, v = .pointer (some ⟨g, 0, none⟩) → g < N) (hg : W.grownBy W' row) (hr : ∀ r, row = some r → N ≤ r) : NoM W' v := by
  rcases h with h | ⟨g, cs, h1, h2, h3⟩
  · exact .inl h
  · exact .inr ⟨g, cs, h1, h2.grown hg (fun e => by have := hr g e.symm; have := hlt g h1; omega), h3⟩
/-- and behind the boxes of a range: g is a hash of its own -/
structure NtI (w : World) (v : Value) (fc : Array Value) (g : Nat) (W : World) : Prop where
  c : NtC w v fc W
  b18 : HV W g zh
  lt : ∀ b, v = .pointer (some ⟨b, 0, none⟩) → b < w.heap.size
theorem NtI.own_ {N : Nat} (hN : w.heap.size + 1 < N) (hg : g < N) : OwnFrom N (fun (_ : Nat) W => NtI w v fc g W) := fun _ _ _ row h hw hr =>
  have hne : ∀ b, b < N → some b ≠ row := fun b hb e => by have := (hr b e.symm).1; omega
  ⟨⟨h.c.no.grown h.lt hw (fun r e => by have := (hr r e).1; omega), h.c.b7.grown hw (hne _ (by omega)), h.c.b8.grown hw (hne _ (by omega)), h.c.bel.grown hw h.c.bel.size (fun r e => by have := (hr r e).1; omega)⟩,
   ⟨h.b18.blk.grown hw (hne _ hg), h.b18.len⟩, h.lt⟩
end
set_option maxHeartbeats 16000000 in
set_option maxRecDepth 100000 in
theorem nothing_any (w : World) (v : Value) (h : NoM w v) (A : Option Addr) (n c : Nat) (k : Int) (fc : Array Value) (hfc : fc.size = 38) :
    Calls Try.prog 7 #[v, .slice A n c, .int .i64 k, .agg fc] w fun e w' => e = .returned (.bool true) ∧ Below w.heap.size w w' := by
  have hlt : ∀ b, v = .pointer (some ⟨b, 0, none⟩) → b < w.heap.size := by
    intro b e
    rcases h with h | ⟨g, cs, h1, h2, -⟩
    · rw [h] at e; cases e
    · rw [h1] at e; cases e; exact h2.lt
  obtain ⟨w2, hw2⟩ : ∃ x, (w.alloc (.cells fc 30)).alloc (.cells #[.bool false] 4) = x := ⟨_, rfl⟩
  have B2 : Below w.heap.size w w2 := by rw [← hw2]; exact ((Below.refl _ _).alloc (Nat.le_refl _) _).alloc (by simp) _
  have C2 : NtC w v fc w2 := ⟨h.step B2, by rw [← hw2]; exact (Blk.new _ _ _).alloc _, by rw [← hw2]; exact Blk.new' _ _ _ _ (by simp), B2⟩
  have hz2 : w2.heap.size = w.heap.size + 2 := by rw [← hw2]; simp
  have Hw2 := Lib.hid hw2
  clear hw2 B2 h
  refine (callsIn_wide (n := 5)).1 ?_
  refine callsIn_of_wp_marks Try.func7 rfl trivial ?_ rfl
  simp only [Try.ntmps7, List.size_toArray, List.length_cons, List.length_nil, Nat.reduceAdd, Nat.reduceSub, Array.replicate_succ, Array.replicate_zero, List.push_toArray, List.append_toArray, List.nil_append, List.cons_append]
  refine wpIn_wide.2 ?_
  go_wp2_with ((with_reducible show wpList _ _ _ (⟨some 7, .box _ _, _, _, _, _⟩ :: _) _ _); refine wpList_run rfl (.pointer (some ⟨w.heap.size, 0, none⟩)) (w.alloc (.cells fc 30)) (by rfl) ?_; simp only [Act.put])
  rw [Hw2.out]
  refine (mflush_no C2.no).mono ?_
  rintro e w' ⟨rfl, hw⟩
  obtain rfl := hw.symm
  go_wp2_with fail
  refine (mpublish_no C2.no).mono ?_
  rintro e w3 ⟨rfl, b3⟩
  have C3 := C2.step b3
  have hz3 := b3.size
  clear C2 b3
  go_wp2_with (first
    | ((with_reducible show wpList _ _ _ (⟨some 12, .alloc _, _, _, _, _⟩ :: _) _ _); refine wpList_pnv (n := 0) (l := zh) (.tmp 12) (.tmp 36) rfl rfl rfl rfl rfl rfl zh32 ?_; intro w4 p4 b4; simp only [Act.put]))
  have C4 := C3.step b4
  refine (mread_no C4.no).mono ?_
  rintro e w' ⟨rfl, hw⟩
  obtain rfl := hw.symm
  clear C3
  go_wp2_with fail
  refine (mlast_no C4.no).mono ?_
  rintro e w5 ⟨rfl, b5⟩
  have C5 := C4.step b5
  have p5 := p4.step b5
  have hz4 := b4.size
  have hz5 := b5.size
  clear C4 p4 b5 b4
  go_wp2_with ((with_reducible show wpList _ _ _ (⟨some 16, .alloc _, _, _, _, _⟩ :: _) _ _); refine wpList_pnv (n := 0) (l := zh) (.tmp 16) (.tmp 47) rfl rfl rfl rfl rfl rfl zh32 ?_; intro w6 p6 b6; simp only [Act.put])
  have C6 := C5.step b6
  have q6 := p5.step b6
  clear C5 p5
  refine (msubmit_no C6.no).mono ?_
  rintro e w' ⟨rfl, hw⟩
  obtain rfl := hw.symm
  go_wp2_with (first
    | (go_at_call 31; refine (msettle_no C6.no).mono ?_; rintro e w' ⟨rfl, hw⟩; obtain rfl := hw.symm)
    | ((with_reducible show wpList _ _ _ (⟨some 71, .load _ _, _, _, _, _⟩ :: _) _ _); refine wpList_runG (by kernel_rfl) _ _ (loadN_op 28 (.tmp 12) w3.heap.size rfl rfl q6.load) ?_; simp only [Act.put])
    | ((with_reducible show wpList _ _ _ (⟨some 72, .build _ _, _, _, _, _⟩ :: _) _ _); refine wpList_runG (by kernel_rfl) _ _ (build0_op rfl built0_pt _) ?_; simp only [Act.put])
    | ((with_reducible show wpList _ _ _ (⟨some 73, .binOp _ _ _ _ _, _, _, _, _⟩ :: _) _ _); refine wpList_runG (by kernel_rfl) (.bool false) _ (neqPt_f (.tmp 71) (.tmp 72) _ rfl rfl rfl _) ?_; simp only [Act.put])
    | ((with_reducible show wpList _ _ _ (⟨some 89, .load _ _, _, _, _, _⟩ :: _) _ _); refine wpList_runG (by kernel_rfl) _ _ (loadN_op 28 (.tmp 16) w5.heap.size rfl rfl p6.load) ?_; simp only [Act.put])
    | ((with_reducible show wpList _ _ _ (⟨some 90, .build _ _, _, _, _, _⟩ :: _) _ _); refine wpList_runG (by kernel_rfl) _ _ (build0_op rfl built0_pt _) ?_; simp only [Act.put])
    | ((with_reducible show wpList _ _ _ (⟨some 91, .binOp _ _ _ _ _, _, _, _, _⟩ :: _) _ _); refine wpList_runG (by kernel_rfl) (.bool false) _ (neqPt_f (.tmp 89) (.tmp 90) _ rfl rfl rfl _) ?_; simp only [Act.put]))
  have hz6 := b6.size
  clear p6 q6 b6
  refine (mroot_no C6.no).mono ?_
  rintro e w7 ⟨rfl, b7⟩
  have C7 := C6.step b7
  have hz7 := b7.size
  clear C6 b7
  go_wp2_with ((with_reducible show wpList _ _ _ (⟨some 18, .alloc _, _, _, _, _⟩ :: _) _ _); refine wpList_hvar (l := zh) (.tmp 18) (.tmp 100) rfl rfl rfl rfl rfl rfl zh32 ?_; intro w8 p8 b8; simp only [Act.put])
  have C8 := C7.step b8
  refine (mfront_no C8.no).mono ?_
  rintro e w' ⟨rfl, hw⟩
  obtain rfl := hw.symm
  have hz8 := b8.size
  clear C7 b8
  go_wp2_with (first
    | (go_at_call 28; refine (mincl_no C8.no).mono ?_; rintro e w' ⟨rfl, hw⟩; obtain rfl := hw.symm)
    | (go_at_call 25; refine (mcons_no C8.no).mono ?_; rintro e w' ⟨rfl, hw⟩; obtain rfl := hw.symm))
  refine (mall_no C8.no).mono ?_
  rintro e w9 ⟨ga, ga', rfl, ka, hga, b9⟩
  have C9 := C8.step b9
  have p9 : HV w9 w7.heap.size zh := p8.step b9
  have hz9 := b9.size
  have hg9 := ka.lt
  have hl8 := p8.lt
  clear C8 p8 b9
  have hI : NtI w v fc w7.heap.size w9 := ⟨C9, p9, hlt⟩
  have HI := Lib.hid hI
  clear C9 p9 hI
  go_wp2_with ((with_reducible show wpList _ _ _ (⟨some 126, .binOp _ _ _ _ _, _, _, _, _⟩ :: _) _ _); refine wpList_runG (by kernel_rfl) (.bool false) w9 (by kernel_rfl) ?_; simp only [Act.put])
  refine wp_range_U (gf := 65) (lb := #[.pointer (some ⟨ga, 0, none⟩), .pointer (some ⟨ga', 0, none⟩)]) rfl (enters_of Try.func65 (by kernel_rfl) rfl)
    (all0_seq ga ga' (fun _ => False) w9 ka) (fun n₁ k vs W h => h.elim)
    (fun _ _ => NtI w v fc w7.heap.size) (fun _ _ _ _ => False) (fun _ => NtI.own_ (by omega) (by omega)) (fun _ _ _ _ _ _ h _ _ => h) (fun _ _ => HI.out) ?round ?done ?stop
  case round => exact fun _ _ _ _ _ _ _ _ _ _ hy => hy.elim
  case stop => exact fun _ _ _ _ _ _ _ _ h => h.elim
  case done =>
    clear HI ka
    intro D n₁ X hD hDn hI hK
    have p18 := hI.b18
    go_wp2_with (first
    | ((with_reducible show wpList _ _ _ (⟨some 130, .load _ _, _, _, _, _⟩ :: _) _ _); refine wpList_runG (by kernel_rfl) _ _ (loadN_op 26 (.tmp 18) w7.heap.size rfl rfl p18.load) ?_; simp only [Act.put])
    | ((with_reducible show wpList _ _ _ (⟨some 131, .build _ _, _, _, _, _⟩ :: _) _ _); refine wpList_runG (by kernel_rfl) _ _ (build0_op rfl built0_h _) ?_; simp only [Act.put])
    | ((with_reducible show wpList _ _ _ (⟨some 132, .binOp _ _ _ _ _, _, _, _, _⟩ :: _) _ _); refine wpList_runG (by kernel_rfl) (.bool false) _ (neqH_f (.tmp 130) (.tmp 131) _ rfl rfl rfl _) ?_; simp only [Act.put])
    | (go_at_call 34; refine (mfail_no hI.c.no).mono ?_; rintro e w' ⟨rfl, hw⟩; obtain rfl := hw.symm)
    | (go_at_call 13; refine (msize_no hI.c.no).mono ?_; rintro e w' ⟨rfl, hw⟩; obtain rfl := hw.symm)
    | (go_at_call 35; refine (mwait_no hI.c.no).mono ?_; rintro e w' ⟨rfl, hw⟩; obtain rfl := hw.symm))
    clear p18
    refine (mjob_no hI.c.no).mono ?_
    rintro e x1 ⟨rfl, b1⟩
    have c1 := hI.c.step b1
    have k1 := ((MarksOk.nil w.heap.size X).cons (show w.heap.size ≤ D by omega) hK (by simp)).step b1
    clear hI hK b1
    have hld : (Instr.loadAt 30 (.pointer (some ⟨w.heap.size, 0, none⟩))).run Try.prog x1 = .ok (.agg fc.toList.toArray) x1 :=
      run_load_agg (fdAgg _) (fdSize _) w.heap.size 0 fc.toList (by simpa using hfc) fun j u hu => by
        rw [c1.b7.cell, Nat.zero_add, ← Array.getElem?_toList]; exact hu
    have Hld := Lib.hid hld
    clear hld
    go_wp2_with (first
    | ((with_reducible show wpList _ _ _ (⟨some 176, .build _ _, _, _, _, _⟩ :: _) _ _); refine wpList_runG (by kernel_rfl) _ _ (build0_op rfl built0_cf _) ?_; simp only [Act.put])
    | ((with_reducible show wpList _ _ _ (⟨some 177, .binOp _ _ _ _ _, _, _, _, _⟩ :: _) _ _); refine wpList_runG (by kernel_rfl) (.bool true) x1 (by kernel_rfl) ?_; simp only [Act.put])
    | (go_at_call 37; refine (monly_no c1.no).mono ?_; rintro e w' ⟨rfl, hw⟩; obtain rfl := hw.symm)
    | ((with_reducible show wpList _ _ _ (⟨some 186, .load _ _, _, _, _, _⟩ :: _) _ _); refine wpList_runG (by kernel_rfl) (.agg fc) _ (loadN_op 30 (.tmp 7) w.heap.size rfl rfl Hld.out) ?_; simp only [Act.put]))
    refine (mallows_no c1.no fc).mono ?_
    rintro e x2 ⟨rfl, b2⟩
    have c2 := c1.step b2
    have k2 := k1.step b2
    clear c1 k1 b2 Hld
    have d8 : x2.cell? ⟨w.heap.size + 1, 0, none⟩ = some (.bool false) := by rw [c2.b8.cell]; rfl
    have f8 := c2.b8.frozen 0
    have hM := k2.cell c2.b8 (.bool true)
    have hB := c2.b8.set_ 0 (.bool true)
    have hL := c2.bel.setCell (p := ⟨w.heap.size + 1, 0, none⟩) (Nat.le_succ _) (.bool true)
    have hcp := mcopy_no c2.no
    have HM := Lib.hid hM
    have HB := Lib.hid hB
    have HL := Lib.hid hL
    clear c2 k2 hM hB hL
    go_wp2_with (go_at_call 38; refine (hcp).mono ?_; rintro e w' ⟨rfl, hw⟩; obtain rfl := hw.symm)
    exact leaves_marks (N := w.heap.size) [D] _ HM.out fun w' ht => ⟨_, resB rfl _ _ (w.heap.size + 1) true rfl (ht.blk _ _ _ HB.out), rfl, HL.out.trans ht.bel⟩
end Go.Proofs.Ytobcfgbkhgkelaa
