/- notarylaw24.known: two entries are flushed, published, read. -/
import Derived.Test.YtobcfgbkhgkelaaQe127
import Derived.Test.YtobcfgbkhgkelaaQe113
import Derived.Test.YtobcfgbkhgkelaaQe120
import Derived.Test.YtobcfgbkhgkelaaQe124
import Derived.Test.YtobcfgbkhgkelaaQe118
import Derived.Test.YtobcfgbkhgkelaaQe121
import Derived.Test.YtobcfgbkhgkelaaQe122
import Derived.Test.YtobcfgbkhgkelaaQe116
import Derived.Test.YtobcfgbkhgkelaaQe112
namespace Go.Proofs.Ytobcfgbkhgkelaa
open Go Go.RowKit
attribute [local go_sem] Oper.semAt_some

def kn0 : MoV := MoV.new 2 2
def kn1 : MoV := { MoV.new 2 2 with queue := [[97]] }
def kn2 : MoV := { MoV.new 2 2 with queue := [[97], [98]] }
def kn3 : MoV := { MoV.new 2 2 with ents := [[97], [98]] }
def kn4 : MoV := kn3.publish
theorem kn_s1 : kn0.submit [97] = (0, kn1) := by simp [MoV.submit, kn0, kn1, MoV.new]
theorem kn_s2 : kn1.submit [98] = (0, kn2) := by simp [MoV.submit, kn1, kn2, MoV.new]
theorem kn_s3 : kn2.submit [99] = (5, kn2) := by simp [MoV.submit, kn2, MoV.new]
theorem kn_fl : kn2.flush = kn3 := rfl
theorem kn_al (root : List UInt8) (hr : kn3.nowR = root) : kn4.allows [[97], [98]] true 2 root = true := by
  have h1 : kn4.lastS = 2 := rfl
  have h2 : kn4.lastR = root := hr
  have h3 : kn4.ents = [[97], [98]] := rfl
  have h4 : kn4.begun = [] := rfl
  have h5 : kn4.has = true := rfl
  unfold MoV.allows
  rw [h1, h2, h3, h4, h5]
  simp [ptEq_self]
theorem conv_opM {ρ : Operand → Value} {o : Oper} {W W' : World} {v x' : Value} (t u : TypeId) (x : Operand) (ho : o.op = .convert t u x) (hx : ρ x = x') (h : (convert t u x').run Try.prog W = .ok v W') : (execOp ρ o).run Try.prog W = .ok (.value v) W' := by
  unfold execOp
  simp only [ho, hx, Sem.run_bind, Sem.run_pure, h, Result.andThen_ok]
theorem litB (w : World) (x : UInt8) : ∃ w2, (convert 22 22 (.slice (some ⟨w.heap.size, 0, none⟩) 1 1)).run Try.prog (w.alloc (.cells #[B x] 5)) = .ok (.slice (some ⟨w.heap.size, 0, none⟩) 1 1) w2 ∧ Sl w2 (w.heap.size ≤ ·) (some ⟨w.heap.size, 0, none⟩) 1 1 [x] ∧ Below w.heap.size w w2 := by
  obtain ⟨w2, h1, h2, h3⟩ := conv_new w #[B x] [x] 1 rfl rfl
  exact ⟨w2, h1, ⟨h2, rfl, Nat.le_refl _, (fun e => by cases e), by decide⟩, h3⟩
theorem small_any (w : World) : Calls Try.prog 23 #[] w fun e w' => e = .returned (.agg #[.int .i64 2, .int .i64 2]) ∧ Below w.heap.size w w' := by
  have k1 := Blk.new w 37 #[.int .i64 0, .int .i64 0]
  go_enter Try.func23, Try.ntmps23
  go_wp2_with (first
    | ((with_reducible show wpList _ _ _ (⟨some 0, .alloc _, _, _, _, _⟩ :: _) _ _); refine wpList_run rfl (.pointer (some ⟨w.heap.size, 0, none⟩)) (w.alloc (.cells #[.int .i64 0, .int .i64 0] 37)) (by kernel_rfl) ?_; simp only [Act.put])
    | ((with_reducible show wpList _ _ _ (⟨some 1, .build _ _, _, _, _, _⟩ :: _) _ _); refine wpList_run0 rfl (.agg #[.int .i64 2, .int .i64 2]) (by kernel_rfl) ?_; simp only [Act.put])
    | ((with_reducible show wpList _ _ _ (⟨none, .store _ _ _, _, _, _, _⟩ :: _) _ _); refine wpList_store_blk rfl 37 (.tmp 0) (.tmp 1) rfl 2 sizeCf w.heap.size #[.int .i64 2, .int .i64 2] rfl rfl rfl (by intro v hv; simp at hv; rcases hv with rfl | rfl <;> rfl) 37 _ k1 rfl ?_; simp only [Act.put]))
  exact bodyPost_ret (results_cell_row rfl _ _ w.heap.size 37 #[.int .i64 2, .int .i64 2] (0, 0) _ rfl (k1.setRow_ _) Try.underlying37 rfl (by kernel_rfl)) rfl ⟨rfl, below_setRow ((Below.refl _ _).alloc (Nat.le_refl _) _) (Nat.le_refl _) _⟩
theorem MdS.below {lo g N : Nat} {R : MdR} {m m' : MoV} {W W' : World} (h : MdS lo g R m' W W') (hM : Md lo g R m W) (hN : N ≤ lo) : Below N W W' :=
  h.kb.below (fun b hb => by have := (hM.lt b hb).1; omega) (by have := hM.size; omega)
/-- a thing found, in the law's words -/
def fcOf (E : Option Addr) (n c : Nat) (fs : Int) (fr : List UInt8) : Array Value := (Value.slice E n c :: .int .i64 0 :: .slice none 0 0 :: .int .i64 0 :: .bool true :: .int .i64 fs :: fr.map B).toArray
theorem builtFc (E : Option Addr) (n c : Nat) (fs : Int) (fr : List UInt8) (h : fr.length = 32) : Try.prog.built 30 [(0, .slice E n c), (4, .bool true), (5, .agg (.int .i64 fs :: fr.map B).toArray)] = some (fcOf E n c fs fr) := by
  obtain ⟨a0, a1, a2, a3, a4, a5, a6, a7, a8, a9, a10, a11, a12, a13, a14, a15, a16, a17, a18, a19, a20, a21, a22, a23, a24, a25, a26, a27, a28, a29, a30, a31, rfl⟩ := explode32 fr h
  kernel_rfl
theorem Fnd.of (E : Option Addr) (n c : Nat) (fs : Int) (fr : List UInt8) (h : fr.length = 32) : Fnd (fcOf E n c fs fr) E n c true fs fr := by
  refine ⟨by simp [fcOf, h], rfl, rfl, fun j v hv => ?_, h⟩
  unfold fcOf
  rw [List.getElem?_toArray, show 5 + j = j + 5 by omega]
  exact hv
theorem build_opM {ρ : Operand → Value} {o : Oper} {W : World} {cs : Array Value} {x' y' z' : Value} (T : TypeId) (x y z : Operand) (i j k : Nat) (ho : o.op = .build T #[(i, x), (j, y), (k, z)]) (hx : ρ x = x') (hy : ρ y = y') (hz : ρ z = z') (h : Try.prog.built T [(i, x'), (j, y'), (k, z')] = some cs) : (execOp ρ o).run Try.prog W = .ok (.value (.agg cs)) W := by
  have hm : (#[(i, x), (j, y), (k, z)] : Array (Nat × Operand)).map (fun (i, x) => (i, ρ x)) = #[(i, x'), (j, y'), (k, z')] := by simp [hx, hy, hz]
  unfold execOp
  simp only [ho, Sem.run_bind, Sem.run_pure, hm, run_build W T _ cs h, Result.andThen_ok]
theorem litS_run (g1 g2 : Nat) (W : World) : (Instr.buildSlice 23 2 #[(0, .slice (some ⟨g1, 0, none⟩) 1 1), (1, .slice (some ⟨g2, 0, none⟩) 1 1)]).run Try.prog W = .ok (.slice (some ⟨W.heap.size, 0, none⟩) 2 2) (W.alloc (.cells #[.slice (some ⟨g1, 0, none⟩) 1 1, .slice (some ⟨g2, 0, none⟩) 1 1] 22)) := by
  kernel_rfl
theorem litS_op {ρ : Operand → Value} {o : Oper} (g1 g2 : Nat) (x y : Operand) (ho : o.op = .buildSlice 23 2 #[(0, x), (1, y)]) (hx : ρ x = .slice (some ⟨g1, 0, none⟩) 1 1) (hy : ρ y = .slice (some ⟨g2, 0, none⟩) 1 1) (W : World) : (execOp ρ o).run Try.prog W = .ok (.value (.slice (some ⟨W.heap.size, 0, none⟩) 2 2)) (W.alloc (.cells #[.slice (some ⟨g1, 0, none⟩) 1 1, .slice (some ⟨g2, 0, none⟩) 1 1] 22)) := by
  unfold execOp
  have hm : (#[(0, x), (1, y)] : Array (Nat × Operand)).map (fun (i, x) => (i, ρ x)) = #[(0, .slice (some ⟨g1, 0, none⟩) 1 1), (1, .slice (some ⟨g2, 0, none⟩) 1 1)] := by simp [hx, hy]
  simp only [ho, Sem.run_bind, Sem.run_pure, hm, litS_run g1 g2 W, Result.andThen_ok]
theorem strM_op {ρ : Operand → Value} {o : Oper} {W : World} {X : Nat → Prop} {A : Option Addr} {n c : Nat} {l : List UInt8} (x : Operand) (ho : o.op = .convert 22 9 x) (hx : ρ x = .slice A n c) (h : Sl W X A n c l) :
    (execOp ρ o).run Try.prog W = .ok (.value (.string (bstr l))) W := conv_opM _ _ x ho hx (run_str h)
theorem es_lit2M (W : World) (A1 A2 : Option Addr) (n1 k1 n2 k2 : Nat) (l1 l2 : List UInt8) (h1 : Sl W (fun _ => True) A1 n1 k1 l1) (h2 : Sl W (fun _ => True) A2 n2 k2 l2) :
    Es (W.alloc (.cells #[.slice A1 n1 k1, .slice A2 n2 k2] 22)) (fun _ => True) (some ⟨W.heap.size, 0, none⟩) 2 2 [l1, l2] := by
  refine ⟨⟨[.slice A1 n1 k1, .slice A2 n2 k2], SlV.lit (s := 1) W (fun _ => True) 22 _ rfl (by decide) trivial, fun i hi => ?_⟩, rfl⟩
  match i, hi with
  | 0, _ => have e := h1.len; subst e; exact ⟨A1, k1, rfl, h1.alloc _⟩
  | 1, _ => have e := h2.len; subst e; exact ⟨A2, k2, rfl, h2.alloc _⟩
theorem load_opM {P : Program} {ρ : Operand → Value} {o : Oper} {w : World} {v p : Value} (ty : TypeId) (x : Operand) (ho : o.op = .load ty x) (hx : ρ x = p) (h : (Instr.loadAt ty p).run P w = .ok v w) : (execOp ρ o).run P w = .ok (.value v) w := by
  unfold execOp
  simp only [ho, hx, Sem.run_bind, Sem.run_pure, h, Result.andThen_ok]
set_option maxHeartbeats 16000000 in
set_option maxRecDepth 100000 in
theorem known24_any (w : World) :
    Calls Try.prog 8 #[] w fun e w' => e = .returned (.bool true) ∧ Below w.heap.size w w' := by
  obtain ⟨root, hroot⟩ : ∃ x, kn3.nowR = x := ⟨_, rfl⟩
  have hr32 : root.length = 32 := by rw [← hroot]; exact length_rootL _ (H32.lvs _)
  have hal := kn_al root hroot
  have Hroot := Lib.hid hroot
  have Hal := Lib.hid hal
  clear hroot hal
  go_enter Try.func8, Try.ntmps8
  refine Code.wp_mono (fun _ _ _ h => BP.out h) ?_
  go_wp2_with fail
  refine (small_any w).mono ?_
  rintro e w1 ⟨rfl, B1⟩
  go_wp2_with fail
  refine (mnew_any 2 2 w1 (by decide)).mono ?_
  rintro e w2 ⟨g, R, rfl, h2, hb2⟩
  have B2 := B1.trans (hb2.mono B1.size)
  obtain ⟨lo, hlo⟩ : ∃ x, w1.heap.size = x := ⟨_, rfl⟩
  have hwl : w.heap.size ≤ lo := by rw [← hlo]; exact B1.size
  rw [hlo] at h2
  have h2 : Md lo g R kn0 w2 := h2
  clear hlo hb2 B1
  obtain ⟨w3, hc3, hs3, hb3⟩ := litB w2 97
  have h3 := h2.step hb3
  have B3 := B2.trans (hb3.mono B2.size)
  have Hc3 := Lib.hid hc3
  clear hc3 h2 hb3 B2
  go_wp2_with (first
    | ((with_reducible show wpList _ _ _ (⟨some 23, .buildSlice _ _ _, _, _, _, _⟩ :: _) _ _); refine wpList_runG (by kernel_rfl) (.slice (some ⟨w2.heap.size, 0, none⟩) 1 1) (w2.alloc (.cells #[B 97] 5)) (by kernel_rfl) ?_; simp only [Act.put])
    | ((with_reducible show wpList _ _ _ (⟨some 24, .convert _ _ _, _, _, _, _⟩ :: _) _ _); refine wpList_runG (by kernel_rfl) _ w3 (conv_opM 22 22 (.tmp 23) rfl rfl Hc3.out) ?_; simp only [Act.put]))
  refine (msubmit_any lo g R kn0 w3 h3 _ 1 1 [97] hs3.all (by decide) (by decide)).mono ?_
  rintro e w4 ⟨rfl, hS4⟩
  rw [kn_s1] at hS4 ⊢
  have B4 := B3.trans ((hS4.below h3 hwl).mono (Nat.le_refl _))
  obtain ⟨R4, h4, -⟩ := hS4.ex
  clear hS4 h3 B3 hs3
  obtain ⟨w5, hc5, hs5, hb5⟩ := litB w4 98
  have h5 := h4.step hb5
  have B5 := B4.trans (hb5.mono B4.size)
  have Hc5 := Lib.hid hc5
  clear hc5 h4 hb5 B4
  go_wp2_with (first
    | ((with_reducible show wpList _ _ _ (⟨some 30, .buildSlice _ _ _, _, _, _, _⟩ :: _) _ _); refine wpList_runG (by kernel_rfl) (.slice (some ⟨w4.heap.size, 0, none⟩) 1 1) (w4.alloc (.cells #[B 98] 5)) (by kernel_rfl) ?_; simp only [Act.put])
    | ((with_reducible show wpList _ _ _ (⟨some 31, .convert _ _ _, _, _, _, _⟩ :: _) _ _); refine wpList_runG (by kernel_rfl) _ w5 (conv_opM 22 22 (.tmp 30) rfl rfl Hc5.out) ?_; simp only [Act.put]))
  refine (msubmit_any lo g R4 kn1 w5 h5 _ 1 1 [98] hs5.all (by decide) (by decide)).mono ?_
  rintro e w6 ⟨rfl, hS6⟩
  rw [kn_s2] at hS6 ⊢
  have B6 := B5.trans ((hS6.below h5 hwl).mono (Nat.le_refl _))
  obtain ⟨R6, h6, -⟩ := hS6.ex
  clear hS6 h5 B5 hs5
  obtain ⟨w7, hc7, hs7, hb7⟩ := litB w6 99
  have h7 := h6.step hb7
  have B7 := B6.trans (hb7.mono B6.size)
  have Hc7 := Lib.hid hc7
  clear hc7 h6 hb7 B6
  go_wp2_with (first
    | ((with_reducible show wpList _ _ _ (⟨some 37, .buildSlice _ _ _, _, _, _, _⟩ :: _) _ _); refine wpList_runG (by kernel_rfl) (.slice (some ⟨w6.heap.size, 0, none⟩) 1 1) (w6.alloc (.cells #[B 99] 5)) (by kernel_rfl) ?_; simp only [Act.put])
    | ((with_reducible show wpList _ _ _ (⟨some 38, .convert _ _ _, _, _, _, _⟩ :: _) _ _); refine wpList_runG (by kernel_rfl) _ w7 (conv_opM 22 22 (.tmp 37) rfl rfl Hc7.out) ?_; simp only [Act.put]))
  refine (msubmit_any lo g R6 kn2 w7 h7 _ 1 1 [99] hs7.all (by decide) (by decide)).mono ?_
  rintro e w8 ⟨rfl, hS8⟩
  rw [kn_s3] at hS8 ⊢
  have B8 := B7.trans ((hS8.below h7 hwl).mono (Nat.le_refl _))
  obtain ⟨R8, h8, -⟩ := hS8.ex
  clear hS8 h7 B7 hs7
  go_wp2_with fail
  refine (mflush_any lo g R8 kn2 w8 h8 rfl (by decide)).mono ?_
  rintro e w9 ⟨rfl, hS9⟩
  rw [kn_fl] at hS9
  have hl1 : ((kn2.ents.length : Nat) : Int) = 0 := rfl
  have hl2 : ((kn2.queue.length : Nat) : Int) = 2 := rfl
  rw [hl1, hl2]
  clear hl1 hl2
  have B9 := B8.trans ((hS9.below h8 hwl).mono (Nat.le_refl _))
  obtain ⟨R9, h9, -⟩ := hS9.ex
  clear hS9 h8 B8
  go_wp2_with fail
  refine (mpublish_any lo g R9 kn3 w9 h9 rfl).mono ?_
  rintro e w10 ⟨rfl, hS10⟩
  rw [Hroot.out]
  have B10 := B9.trans ((hS10.below h9 hwl).mono (Nat.le_refl _))
  obtain ⟨R10, h10, -⟩ := hS10.ex
  have h10 : Md lo g R10 kn4 w10 := h10
  clear hS10 h9 B9
  go_wp2_with ((with_reducible show wpList _ _ _ (⟨some 6, .alloc _, _, _, _, _⟩ :: _) _ _); refine wpList_pnv (n := 2) (l := root) (.tmp 6) (.tmp 51) rfl rfl rfl rfl rfl rfl hr32 ?_; intro w11 p11 hb11; simp only [Act.put])
  have h11 := h10.step hb11
  have B11 := B10.trans (hb11.mono B10.size)
  refine (mread_any lo g R10 kn4 w11 h11 1 (by decide)).mono ?_
  rintro e w12 ⟨A12, c12, rfl, hs12, hb12⟩
  have h12 := h11.step hb12
  have p12 := p11.step hb12
  have B12 := B11.trans (hb12.mono B11.size)
  have hg1 : kn4.ents.getD 1 [] = [98] := rfl
  rw [hg1] at hs12 ⊢
  have hr12 := hs12.room
  have hm12 := hs12.max
  unfold maxLen at hm12
  have c60 := p12.size
  clear h10 h11 B10 B11 hb11 hb12 p11
  obtain ⟨w13, hc13, hs13, hb13⟩ := litB w12 97
  obtain ⟨w14, hc14, hs14, hb14⟩ := litB w13 98
  have hs13' := hs13.step hb14
  have hs12' := (hs12.step hb13).step hb14
  have h14 := (h12.step hb13).step hb14
  have p14 := (p12.step hb13).step hb14
  have B14 := (B12.trans (hb13.mono B12.size)).trans (hb14.mono (Nat.le_trans B12.size hb13.size))
  have Hc13 := Lib.hid hc13
  have Hc14 := Lib.hid hc14
  have hst : ∀ (ρ : Operand → Value) (o : Oper) (x : Operand), o.op = .convert 22 9 x → ρ x = .slice A12 1 c12 → (execOp ρ o).run Try.prog w12 = .ok (.value (.string ⟨#[98]⟩)) w12 := fun _ _ x ho hx => strM_op x ho hx hs12
  have Hst := Lib.hid hst
  have Hs13' := Lib.hid hs13'
  have Hs14 := Lib.hid hs14
  have H14 := Lib.hid h14
  have P14 := Lib.hid p14
  obtain ⟨w15, hw15⟩ : ∃ x, w14.alloc (.cells #[.slice (some ⟨w12.heap.size, 0, none⟩) 1 1, .slice (some ⟨w13.heap.size, 0, none⟩) 1 1] 22) = x := ⟨_, rfl⟩
  have hld : (Instr.loadAt 28 (.pointer (some ⟨w10.heap.size, 0, none⟩))).run Try.prog w15 = .ok (.agg (.int .i64 2 :: root.map B).toArray) w15 := by
    rw [← hw15]
    exact (p14.step ((Below.refl _ _).alloc (Nat.le_refl _) _)).load
  have Hld := Lib.hid hld
  have Hw15 := Lib.hid hw15
  clear hld hst hc13 hc14 hs12 hs12' hs13 hs13' hs14 h14 p14 p12 hg1 h12 hw15 hb13 hb14
  go_wp2_with (first
    | ((with_reducible show wpList _ _ _ (⟨some 79, .convert _ _ _, _, _, _, _⟩ :: _) _ _); refine wpList_runG (by kernel_rfl) (.string ⟨#[98]⟩) _ (Hst.out _ _ (.tmp 78) rfl rfl) ?_; simp only [Act.put, List.setIfInBounds_toArray, List.set_cons_succ, List.set_cons_zero])
    | ((with_reducible show wpList _ _ _ (⟨some 80, .binOp _ _ _ _ _, _, _, _, _⟩ :: _) _ _); refine wpList_runG (by kernel_rfl) (.bool true) _ (by kernel_rfl) ?_; simp only [Act.put, List.setIfInBounds_toArray, List.set_cons_succ, List.set_cons_zero])
    | ((with_reducible show wpList _ _ _ (⟨some 88, .buildSlice _ _ _, _, _, _, _⟩ :: _) _ _); refine wpList_runG (by kernel_rfl) (.slice (some ⟨w12.heap.size, 0, none⟩) 1 1) (w12.alloc (.cells #[B 97] 5)) (by kernel_rfl) ?_; simp only [Act.put, List.setIfInBounds_toArray, List.set_cons_succ, List.set_cons_zero])
    | ((with_reducible show wpList _ _ _ (⟨some 89, .convert _ _ _, _, _, _, _⟩ :: _) _ _); refine wpList_runG (by kernel_rfl) _ w13 (conv_opM 22 22 (.tmp 88) rfl rfl Hc13.out) ?_; simp only [Act.put, List.setIfInBounds_toArray, List.set_cons_succ, List.set_cons_zero])
    | ((with_reducible show wpList _ _ _ (⟨some 90, .buildSlice _ _ _, _, _, _, _⟩ :: _) _ _); refine wpList_runG (by kernel_rfl) (.slice (some ⟨w13.heap.size, 0, none⟩) 1 1) (w13.alloc (.cells #[B 98] 5)) (by kernel_rfl) ?_; simp only [Act.put, List.setIfInBounds_toArray, List.set_cons_succ, List.set_cons_zero])
    | ((with_reducible show wpList _ _ _ (⟨some 91, .convert _ _ _, _, _, _, _⟩ :: _) _ _); refine wpList_runG (by kernel_rfl) _ w14 (conv_opM 22 22 (.tmp 90) rfl rfl Hc14.out) ?_; simp only [Act.put, List.setIfInBounds_toArray, List.set_cons_succ, List.set_cons_zero])
    | ((with_reducible show wpList _ _ _ (⟨some 92, .buildSlice _ _ _, _, _, _, _⟩ :: _) _ _); refine wpList_runG (by kernel_rfl) (.slice (some ⟨w14.heap.size, 0, none⟩) 2 2) (w14.alloc (.cells #[.slice (some ⟨w12.heap.size, 0, none⟩) 1 1, .slice (some ⟨w13.heap.size, 0, none⟩) 1 1] 22)) (by kernel_rfl) ?_; rw [Hw15.out]; simp only [Act.put, List.setIfInBounds_toArray, List.set_cons_succ, List.set_cons_zero])
    | ((with_reducible show wpList _ _ _ (⟨some 93, .load _ _, _, _, _, _⟩ :: _) _ _); refine wpList_runG (by kernel_rfl) _ _ (load_opM (p := .pointer (some ⟨w10.heap.size, 0, none⟩)) 28 (.tmp 6) rfl rfl Hld.out) ?_; simp only [Act.put, List.setIfInBounds_toArray, List.set_cons_succ, List.set_cons_zero])
    | ((with_reducible show wpList _ _ _ (⟨some 94, .build _ _, _, _, _, _⟩ :: _) _ _); refine wpList_runG (by kernel_rfl) _ _ (build_opM 30 (.tmp 92) (.const (.bool true)) (.tmp 93) 0 4 5 rfl rfl rfl rfl (builtFc (some ⟨w14.heap.size, 0, none⟩) 2 2 2 root hr32)) ?_; simp only [Act.put, List.setIfInBounds_toArray, List.set_cons_succ, List.set_cons_zero]))
  have h15 : Md lo g R10 kn4 w15 := by rw [← Hw15.out]; exact H14.out.step ((Below.refl _ _).alloc (Nat.le_refl _) _)
  have he15 : Es w15 (fun _ => True) (some ⟨w14.heap.size, 0, none⟩) 2 2 [[97], [98]] := by rw [← Hw15.out]; exact es_lit2M w14 _ _ 1 1 1 1 [97] [98] Hs13'.out.all Hs14.out.all
  have B15 : Below w.heap.size w w15 := by rw [← Hw15.out]; exact B14.alloc B14.size _
  refine (mallows_any lo g R10 kn4 w15 h15 _ (some ⟨w14.heap.size, 0, none⟩) 2 2 [[97], [98]] true 2 root (Fnd.of _ 2 2 2 root hr32) he15 (by decide)).mono ?_
  rintro e w16 ⟨rfl, b16⟩
  rw [Hal.out]
  have B16 := B15.trans (b16.mono B15.size)
  clear h15 he15 B15 b16 B14
  go_wp2_with fail
  refine ⟨?_⟩
  refine bodyPost_ret (results_tmp rfl _ _ _) rfl ?_
  exact ⟨rfl, B16⟩
end Go.Proofs.Ytobcfgbkhgkelaa
/- The roots of the stretches of an audit path (plain). -/
namespace Go.Proofs.Ytobcfgbkhgkelaa
open Go Go.RowKit

theorem pathA_each (m : Int) (n : Nat) : ∀ x ∈ (pathA m n).1, x.1 < x.2 ∧ x.2 ≤ n := by
  intro x hx
  unfold pathA at hx
  split at hx
  · cases hx
  · rename_i h1
    have := (pathL_ok n m.toNat 0 n (by omega) (by omega) (by omega)).each x (by simpa using hx)
    omega
theorem path_good (hs : List (List UInt8)) (m : Int) : goodL hs (natR (pathA m hs.length).1) = natR (pathA m hs.length).1 := by
  unfold goodL
  rw [List.filter_eq_self]
  intro y hy
  unfold natR at hy
  obtain ⟨x, hx, rfl⟩ := List.mem_map.1 hy
  obtain ⟨h1, h2⟩ := pathA_each m hs.length x hx
  unfold okR
  rw [stretchR_nat hs x.1 x.2 h1 h2]
  rfl
theorem length_rootsP (hs : List (List UInt8)) (m : Int) : (rootsP hs m).length = (pathA m hs.length).1.length := by simp [rootsP, rootsL]
theorem rootsP_all (hs : List (List UInt8)) (h : H32 hs) (m : Int) : H32 (rootsP hs m) := rootsL_all hs h _
theorem rootsP_at (hs : List (List UInt8)) (m : Int) (k : Nat) (h : k < (pathA m hs.length).1.length) : (stretchR hs ((natR (pathA m hs.length).1).getD k (0, 0)).1 ((natR (pathA m hs.length).1).getD k (0, 0)).2).1 = (rootsP hs m).getD k [] := by
  obtain ⟨h1, h2⟩ := pathA_each m hs.length _ (List.getElem_mem h)
  unfold natR rootsP rootsL
  rw [List.getD_eq_getElem?_getD, List.getElem?_map, List.getD_eq_getElem?_getD, List.getElem?_map, List.getElem?_eq_getElem h]
  simp only [Option.map_some, Option.getD_some]
  rw [stretchR_nat hs _ _ h1 h2]
theorem rootsP_bad (hs : List (List UInt8)) (m : Int) (h : (pathA m hs.length).2 ≠ 0) : rootsP hs m = [] := by
  unfold rootsP pathA at *
  split
  · rfl
  · rename_i h1
    rw [if_neg h1] at h
    exact absurd rfl h
theorem pathA_e (m n : Int) : (pathA m n).2 = 0 ∨ (pathA m n).2 = 4 := by
  unfold pathA
  split
  · exact .inr rfl
  · exact .inl rfl
end Go.Proofs.Ytobcfgbkhgkelaa
/- incl.Prove. -/
namespace Go.Proofs.Ytobcfgbkhgkelaa
open Go Go.RowKit Go.Shelf
attribute [local go_sem] Oper.semAt_some

set_option maxHeartbeats 4000000 in
set_option maxRecDepth 100000 in
theorem iprove_any (hs : List (List UInt8)) (A : Option Addr) (n c : Nat) (w : World) (m : Int) (h : Hs w (fun _ => True) A n c hs) (hn : n ≤ 1099511627776) :
    Calls Try.prog 59 #[.slice A n c, .int .i64 m] w fun e w' => ∃ v, e = .returned (.tuple #[v, .int .i64 (pathA m hs.length).2]) ∧ w'.ownsRow w.heap.size 26 32 v (rootsP hs m).length (hcells (rootsP hs m)) ∧ Below w.heap.size w w' := by
  have hlen := h.len
  have h32 := h.all
  have hroom := h.sl.room
  have hmx := h.sl.max
  unfold maxLen at hmx
  have hst := tpathA_any m (n : Int) w (by omega)
  obtain ⟨⟨ls, e0⟩, hse⟩ : ∃ s, pathA m (n : Int) = s := ⟨_, rfl⟩
  rw [hse] at hst
  dsimp only at hst
  have hlm : ls.length ≤ 64 := by have := pathA_len m (n : Int) (by omega); rw [hse] at this; exact this
  have Hlen := Lib.hid hlen
  have H32h := Lib.hid h32
  have Hst := Lib.hid hst
  rw [hlen, hse]
  dsimp only
  by_cases he0 : e0 = 0
  · subst he0
    have hgood := path_good hs m
    have hlr := length_rootsP hs m
    have hat := rootsP_at hs m
    rw [hlen, hse] at hgood hlr hat
    dsimp only at hgood hlr hat
    obtain ⟨rs, hrs⟩ : ∃ rs, rootsP hs m = rs := ⟨_, rfl⟩
    have hr32 : H32 rs := by rw [← hrs]; exact rootsP_all hs h32 m
    rw [hrs] at hlr hat ⊢
    have Hgood := Lib.hid hgood
    have Hlr := Lib.hid hlr
    have Hat := Lib.hid hat
    have Hr32 := Lib.hid hr32
    have Hse := Lib.hid hse
    clear hlen h32 hst hgood hlr hat hr32 hrs hse
    refine (callsIn_wide (n := 5)).1 ?_
    refine callsIn_of_wp_marks Try.func59 rfl trivial ?_ rfl
    simp only [Try.ntmps59, List.size_toArray, List.length_cons, List.length_nil, Nat.reduceAdd, Nat.reduceSub, Array.replicate_succ, Array.replicate_zero, List.push_toArray, List.append_toArray, List.nil_append, List.cons_append]
    refine wpIn_wide.2 ?_
    go_wp2_with fail
    refine Hst.out.mono ?_
    rintro e w1 ⟨vs, rfl, hP⟩
    obtain ⟨As, cs, rfl, hrs1⟩ := Rs.of_owns hP.own (length_natR ls)
    have hb1 := hP.bel
    have hroom1 := hrs1.sl.room
    have hmx1 := hrs1.sl.max
    unfold maxLen at hmx1
    have h1 := h.step hb1
    have k8 : Blk (w1.alloc (.cells #[.slice none 0 0] 33)) w1.heap.size 33 #[.slice none 0 0] := Blk.new _ _ _
    have hb8 : Below w.heap.size w (w1.alloc (.cells #[.slice none 0 0] 33)) := hb1.alloc hb1.size _
    have hb18 : Below w1.heap.size w1 (w1.alloc (.cells #[.slice none 0 0] 33)) := (Below.refl _ _).alloc (Nat.le_refl _) _
    have h2 := h1.step hb18
    have hrs2 := hrs1.step hb18
    have hs12 := hb1.size
    clear h hP h1 hrs1 hb18 hb1
    have hsz2 : (w1.alloc (.cells #[.slice none 0 0] 33)).heap.size = w1.heap.size + 1 := by simp
    go_wp2_with fail
    generalize w1.alloc (.cells #[.slice none 0 0] 33) = W2 at *
    generalize w1.heap.size = g8 at *
    refine (each_any hs (natR ls) A n c As ls.length cs W2 h2 (hrs2.weak fun _ _ _ => trivial) (by omega) (by omega)).mono ?_
    rintro e W3 ⟨A2, c2, Ar2, cr2, rfl, e1, e2, eh, er, hb3⟩
    have hI0 : ∀ n₁, CpI w g8 n₁ [] W3 := fun n₁ => ⟨⟨_, k8.step hb3, World.ownsRow_nil _ _ _ _⟩, hb8.trans (hb3.mono hb8.size)⟩
    have hsz3 := hb3.size
    have hG := e1.lt
    clear h2 hrs2 k8 hb8 hb3
    rw [hsz2] at e1 e2 eh er hsz3 hG
    go_wp2_with fail
    refine wp_range_U (gf := 94) (lb := #[.pointer (some ⟨g8 + 1 + 1, 0, none⟩), .pointer (some ⟨g8 + 1, 0, none⟩)]) rfl (enters_of Try.func94 (by kernel_rfl) rfl)
      (each1_seq hs (natR ls) A2 n c2 Ar2 ls.length cr2 (g8 + 1 + 1) (g8 + 1) (· = g8) W3 e1 e2 (eh.weak fun b _ hb e => by have hb : g8 + 1 + 1 < b := hb; have e : b = g8 := e; omega) (er.weak fun b _ hb e => by have hb : g8 + 1 + 1 < b := hb; have e : b = g8 := e; omega) (by intro e; omega) (fun b hb => by have hb : b = g8 := hb; omega) (by omega) (by omega))
      (fun n₁ k vs W h => by rw [show vs = _ from h]; rfl)
      (fun n₁ k => CpI w g8 n₁ (rs.take k)) (fun _ _ _ _ => False) (fun n₁ => CpI.own_ (fun k => rs.take k) (by omega)) (fun _ _ _ _ _ _ h _ _ => h.elim) (fun n₁ _ => by simpa using hI0 n₁) ?round ?done ?stop
    case round =>
      clear hI0 e1 e2 eh er
      intro li n₁ k vs X hl hln hnX hk hI hy
      subst hy
      rw [Hgood.out, length_natR] at hk
      rw [Hgood.out, Hat.out k hk]
      have htk := take_snocH rs k (by rw [Hlr.out]; exact hk)
      have hzl := Hr32.out.getD k (by rw [Hlr.out]; exact hk)
      have hlen : (rs.take k).length ≤ 64 := by rw [List.length_take, Hlr.out]; omega
      generalize rs.getD k [] = z at hzl htk ⊢
      generalize (natR ls).getD k (0, 0) = x
      obtain ⟨x1, x2⟩ := x
      dsimp only [rval]
      have Htk := Lib.hid htk
      have Hzl := Lib.hid hzl
      clear htk hzl
      refine wpIn_region_lit ?_
      go_simp
      refine wpListIn_of2 (openR li) rfl ?_
      refine wpList_hvar (.tmp 10) (.tmp 25) rfl rfl rfl rfl rfl rfl Hzl.out ?_
      intro X1 k10 hb10
      refine thenN_nil ?_
      simp only [Act.put]
      gi_wp2
      refine ⟨KeepU.below hb10, ?_⟩
      intro X2 hturn
      have hI2 := hturn.own (CpI.own_ (w := w) (g8 := g8) (n₁ := n₁) (fun k => rs.take k) (show w.heap.size ≤ W3.heap.size by omega)) (hI.step hb10)
      have k10' : HV X2 X.heap.size z := ⟨hturn.blk k10.blk, Hzl.out⟩
      have hnX2 : n₁ ≤ X2.heap.size := by rw [hturn.size]; exact Nat.le_trans hnX hb10.size
      clear hI k10 hb10 hturn hnX
      generalize X.heap.size = g10 at k10' ⊢
      obtain ⟨⟨v, k8, hov⟩, hbel⟩ := hI2
      generalize hq : rs.take k = q at *
      obtain ⟨v', W9, hr9, hv9, hg9, -⟩ := append_hR hov z Hzl.out (by omega) hnX2
      obtain ⟨gv, cv, rfl⟩ := owns_some hv9 (by simp)
      have hge9 : ∀ r, v.ownBlock = some r → n₁ ≤ r := fun r e => (hov.lt r e).1
      have k89 : Blk W9 g8 33 #[v] := k8.grown hg9 (fun e => by have := hge9 _ e.symm; omega)
      have c8 : X2.cell? ⟨g8, 0, none⟩ = some v := by rw [k8.cell]; rfl
      have c89 : W9.cell? ⟨g8, 0, none⟩ = some v := by rw [k89.cell]; rfl
      have f89 := k89.frozen 0
      have Hr9 := Lib.hid hr9
      clear hr9
      gi_wp2_with (first
        | ((with_reducible show wpListIn _ _ _ _ _ (⟨some 27, .load _ _, _, _, _, _⟩ :: _) _ _); refine wpListIn_of1 (openR li) rfl ?_; refine wpList_hload (.tmp 10) (by kernel_rfl) rfl k10' rfl ?_; refine thenN_nil ?_; simp only [Act.put])
        | ((with_reducible show wpListIn _ _ _ _ _ (⟨some 28, .buildSlice _ _ _, _, _, _, _⟩ :: _) _ _); refine wpListIn_of1 (openR li) rfl ?_; refine wpList_run rfl _ _ (run_litH_op z Hzl.out (.tmp 27) rfl rfl _) ?_; refine thenN_nil ?_; simp only [Act.put])
        | ((with_reducible show wpListIn _ _ _ _ _ (⟨some 29, .call _, _, _, _, _⟩ :: _) _ _); refine wpListIn_of1 (openR li) rfl ?_; refine wpList_run rfl _ W9 (run_append_op (.tmp 26) (.tmp 28) 33 rfl _ _ rfl rfl Hr9.out) ?_; refine thenN_nil ?_; simp only [Act.put]))
      have hl : (q ++ [z]).length = q.length + 1 := by simp
      rw [hl] at hv9
      have hgn := (hv9.lt gv rfl).1
      refine ⟨(KeepU.grown hg9 (fun r e => ⟨.inl (hge9 r e), owns_cells hov e⟩)).trans (KeepU.setCell (U := (· = g8)) k89 (.inr rfl) 0 _), ⟨_, k89.set_ 0 _, ?_⟩, (hbel.grown hg9 hbel.size (fun r e => by have := hge9 r e; omega)).setCell (by show w.heap.size ≤ g8; omega) _⟩
      rw [Htk.out, hl]
      exact hv9.kept (grownBy_setCell' W9 g8 _) (.inr (fun e => by have e : gv = g8 := Option.some.inj e; omega))
    case done =>
      clear hI0 e1 e2 eh er
      intro D n₁ X hD hDn hI hK
      rw [Hgood.out, length_natR, List.take_of_length_le (by rw [Hlr.out]; exact Nat.le_refl _)] at hI
      obtain ⟨⟨v, k8, hov⟩, hbel⟩ := hI
      have c8 : X.cell? ⟨g8, 0, none⟩ = some v := by rw [k8.cell]; rfl
      go_wp2_with fail
      refine leaves_marks (N := w.heap.size) [D] _ ((MarksOk.nil _ _).cons (by omega) hK (by simp)) fun w' ht => ⟨_, results_tmp2 rfl _ _ _, v, rfl, ?_, hbel.trans ht.bel⟩
      refine owns_le (b := n₁) ?_ (by omega)
      rcases hov.2 with ⟨rfl, h0⟩ | ⟨g, cap, cur, rfl, hb, hc, r1, r2, r3, r4⟩
      · exact ⟨hov.1, .inl ⟨rfl, h0⟩⟩
      · exact ⟨hov.1, .inr ⟨g, cap, cur, rfl, hb, ht.blk _ _ _ hc, r1, r2, r3, r4⟩⟩
    case stop =>
      rintro D n₁ cd k X hD hDn hk h hK
      exact h.elim
  · have hb0 : rootsP hs m = [] := rootsP_bad hs m (by rw [hlen, hse]; exact he0)
    rw [hb0]
    have hne : (e0 != 0) = true := by simpa using he0
    clear hlen h32 hst hse he0 hb0
    refine (callsIn_wide (n := 5)).1 ?_
    refine callsIn_of_wp_marks Try.func59 rfl trivial ?_ rfl
    simp only [Try.ntmps59, List.size_toArray, List.length_cons, List.length_nil, Nat.reduceAdd, Nat.reduceSub, Array.replicate_succ, Array.replicate_zero, List.push_toArray, List.append_toArray, List.nil_append, List.cons_append]
    refine wpIn_wide.2 ?_
    go_wp2_with fail
    refine Hst.out.mono ?_
    rintro e w1 ⟨vs, rfl, hP⟩
    obtain ⟨As, cs, rfl, -⟩ := Rs.of_owns hP.own (length_natR ls)
    have hb1 := hP.bel
    clear hP
    go_wp2_with fail
    refine leaves_marks (N := w.heap.size) [] _ (MarksOk.nil _ _) fun w' ht => ⟨_, results_tmp2 rfl _ _ _, _, rfl, World.ownsRow_nil _ _ _ _, hb1.trans ht.bel⟩
end Go.Proofs.Ytobcfgbkhgkelaa
/- model: begins, Root, Cons, Incl: of a beginning that is there. -/
namespace Go.Proofs.Ytobcfgbkhgkelaa
open Go Go.RowKit Go.Shelf
attribute [local go_sem] Oper.semAt_some

theorem sliceHM : Try.prog.underlying 33 = some (.slice (Try.prog.elem 33)) := by kernel_rfl
theorem sizeHM : ∀ w : World, (sizeOf (Try.prog.elem 33)).run Try.prog w = .ok 32 w := fun _ => by kernel_rfl
theorem run_slice_hiH {ρ : Operand → Value} {o : Oper} (x y : Operand) (ho : o.op = .slice 33 x none (some y) none) (A : Option Addr) (n c k : Nat) (hx : ρ x = .slice A n c) (hy : ρ y = .int .i64 (k : Int)) (hk : k ≤ c) (W : World) :
    (execOp ρ o).run Try.prog W = .ok (.value (.slice A k c)) W := by
  unfold execOp
  simp only [ho, hx, hy, Option.map_some, Option.map_none, run_slice_high sliceHM sizeHM A n c k hk W, Sem.run_bind, Sem.run_pure, Result.andThen_ok]
set_option maxRecDepth 100000 in
theorem tuple_hv {fn : Func} {p u : Tmp} (h : fn.results = #[.cell p 26, .tmp u]) (tmps : Array Value) (W : World) (g : Nat) (l : List UInt8)
    (hp : tmps.getD p undef = .pointer (some ⟨g, 0, none⟩)) (k : HV W g l) :
    (results fn tmps).run Try.prog W = .ok (.tuple #[.agg (l.map B).toArray, tmps.getD u undef]) W := by
  rw [results_cell_tmp h, hp]
  show ((loadVar 26 ⟨g, 0, none⟩).run Try.prog W).andThen (fun v w₂ => Result.ok (Value.tuple #[v, tmps.getD u undef]) w₂) = _
  rw [run_loadVar_row W g 26 26 (l.map B).toArray (0, 0) _ k.blk Try.underlying26 rfl (by rw [show (l.map B).toArray.size = 32 by simp [k.len]]; kernel_rfl)]
  rfl
section
variable {W : World} {lo g : Nat} {R : MdR} {m : MoV}
theorem mbegins_ok (h : Md lo g R m W) (n : Nat) (hn : n ≤ m.ents.length) : Calls Try.prog 42 #[.pointer (some ⟨g, 0, none⟩), .int .i64 (n : Int)] W fun e w' => e = .returned (.int .i64 0) ∧ w' = W := by
  have hno := mnone_any h
  have hsz := msize_any h
  have d1 : decide ((n : Int) < 0) = false := by simp
  have d2 : decide ((m.ents.length : Int) < (n : Int)) = false := by simp; omega
  have d3 : decide (m.ents.length < n) = false := by simp; omega
  obtain ⟨N, hN⟩ : ∃ x, m.ents.length = x := ⟨_, rfl⟩
  rw [hN] at hsz d2 d3
  clear h hN hn
  go_enter Try.func42, Try.ntmps42
  go_wp2_with (first
    | (go_at_call 43; refine (hno).mono ?_; rintro e w' ⟨rfl, hw⟩; obtain rfl := hw.symm)
    | (go_at_call 13; refine (hsz).mono ?_; rintro e w' ⟨rfl, hw⟩; obtain rfl := hw.symm))
  go_ret
  exact ⟨rfl, rfl⟩
set_option maxHeartbeats 4000000 in
set_option maxRecDepth 100000 in
theorem mroot_ok (h : Md lo g R m W) (n : Nat) (hn : n ≤ m.ents.length) : Calls Try.prog 12 #[.pointer (some ⟨g, 0, none⟩), .int .i64 (n : Int)] W fun e w' => e = .returned (.tuple #[.agg ((rootL ((lvs m.ents).take n)).map B).toArray, .int .i64 0]) ∧ Below W.heap.size W w' := by
  obtain ⟨root, hroot⟩ : ∃ x, rootL ((lvs m.ents).take n) = x := ⟨_, rfl⟩
  have hr32 : root.length = 32 := by rw [← hroot]; exact length_rootL _ ((H32.lvs _).take n)
  obtain ⟨w1, hw1⟩ : ∃ x, W.alloc (.cells (zeroHash) 26) = x := ⟨_, rfl⟩
  have k1 : Blk w1 W.heap.size 26 zeroHash := by rw [← hw1]; exact Blk.new _ _ _
  have B1 : Below W.heap.size W w1 := by rw [← hw1]; exact (Below.refl _ _).alloc (Nat.le_refl _) _
  have h1 := h.step B1
  have hbe := mbegins_ok h1 n hn
  obtain ⟨A, c, hre, hrs⟩ := h1.roots
  have hr := hrs.sl.room
  have hmx := hrs.sl.max
  unfold maxLen at hmx
  obtain ⟨b, o, rfl, hbl, -, hld⟩ := hrs.at_ (by omega)
  have hget : (headsL (lvs m.ents) m.ents.length).getD n [] = root := by rw [headsL_getD _ _ _ hn]; exact hroot
  have hlr := hld n (by omega)
  rw [hget] at hlr
  have c2 : w1.cell? ⟨g, 2, none⟩ = some (.slice (some ⟨b, o, none⟩) (m.ents.length + 1) c) := (h1.cell 2 (by decide)).trans (congrArg some hre)
  obtain ⟨N, hN⟩ : ∃ x, m.ents.length = x := ⟨_, rfl⟩
  rw [hN] at c2 hr hn
  have hlt : n < N + 1 := by omega
  have hnn : (n : Int) < (N : Int) + 1 := by omega
  rw [hroot]
  have Hw1 := Lib.hid hw1
  have Hlr := Lib.hid hlr
  clear hw1 hlr hget hroot hrs hre hld h1 h hN hbl
  go_enter Try.func12, Try.ntmps12
  go_wp2_with (first
    | ((with_reducible show wpList _ _ _ (⟨some 4, .alloc _, _, _, _, _⟩ :: _) _ _); refine wpList_run rfl (.pointer (some ⟨W.heap.size, 0, none⟩)) w1 (by rw [← Hw1.out]; kernel_rfl) ?_; simp only [Act.put])
    | (go_at_call 42; refine (hbe).mono ?_; rintro e w' ⟨rfl, hw⟩; obtain rfl := hw.symm)
    | ((with_reducible show wpList _ _ _ (⟨some 21, .load _ _, _, _, _, _⟩ :: _) _ _); refine wpList_load rfl 26 (.tmp 20) rfl b (o + n * 32) rfl _ Hlr.out ?_; simp only [Act.put])
    | ((with_reducible show wpList _ _ _ (⟨none, .store _ (.tmp 4) _, _, _, _, _⟩ :: _) _ _); refine wpList_hset (l := root) (l' := List.replicate 32 0) (.tmp 4) (.tmp 21) rfl rfl ⟨k1, rfl⟩ rfl rfl hr32 ?_; intro w9 k9 b9 hw9; clear hw9; simp only [Act.put]))
  exact bodyPost_ret (tuple_hv rfl _ _ W.heap.size root rfl k9) rfl ⟨rfl, B1.trans (b9.mono (Nat.le_refl _))⟩
set_option maxHeartbeats 4000000 in
set_option maxRecDepth 100000 in
theorem mcons_ok (h : Md lo g R m W) (k n : Nat) (hn : n ≤ m.ents.length) (_hk : k ≤ n) (hN : m.ents.length ≤ 1000000000) : Calls Try.prog 25 #[.pointer (some ⟨g, 0, none⟩), .int .i64 (k : Int), .int .i64 (n : Int)] W fun e w' =>
    ∃ v, e = .returned (.tuple #[v, .int .i64 (stepsA (k : Int) (n : Int)).2]) ∧ w'.ownsRow W.heap.size 26 32 v (rootsS ((lvs m.ents).take n) (k : Int)).length (hcells (rootsS ((lvs m.ents).take n) (k : Int))) ∧ Below W.heap.size W w' := by
  have hbe := mbegins_ok h n hn
  obtain ⟨A, c, hve, hes⟩ := Hs.of_owns h.hashes (lvs_length _) (H32.lvs _)
  have hr := hes.sl.room
  have hmx := hes.sl.max
  unfold maxLen at hmx
  have c1 : W.cell? ⟨g, 1, none⟩ = some (.slice A m.ents.length c) := (h.cell 1 (by decide)).trans (congrArg some hve)
  have ht := (hes.take n hn).weak (Y := fun _ => True) fun _ _ _ => trivial
  have hcp := cprove_any _ A n c W (k : Int) ht (by omega)
  have hln : ((lvs m.ents).take n).length = n := by rw [List.length_take, lvs_length]; omega
  rw [hln] at hcp
  have Hcp := Lib.hid hcp
  obtain ⟨N, hN'⟩ : ∃ x, m.ents.length = x := ⟨_, rfl⟩
  have hnc : n ≤ c := by omega
  rw [hN'] at c1 hr
  clear hcp ht hes hve h hN' hln
  go_enter Try.func25, Try.ntmps25
  go_wp2_with (first
    | (go_at_call 42; refine (hbe).mono ?_; rintro e w' ⟨rfl, hw⟩; obtain rfl := hw.symm)
    | ((with_reducible show wpList _ _ _ (⟨some 21, .slice _ _ _ _ _, _, _, _, _⟩ :: _) _ _); refine wpList_run rfl (.slice A n c) W (run_slice_hiH (.tmp 19) (.tmp 20) rfl A N c n rfl rfl hnc W) ?_; simp only [Act.put]))
  refine Hcp.out.mono ?_
  rintro e w1 ⟨v, rfl, ho, hb⟩
  go_wp2_with fail
  go_ret2
  exact ⟨v, rfl, ho, hb⟩
set_option maxHeartbeats 4000000 in
set_option maxRecDepth 100000 in
theorem mincl_ok (h : Md lo g R m W) (k n : Nat) (hn : n ≤ m.ents.length) (_hk : k ≤ n) (hN : m.ents.length ≤ 1000000000) : Calls Try.prog 28 #[.pointer (some ⟨g, 0, none⟩), .int .i64 (k : Int), .int .i64 (n : Int)] W fun e w' =>
    ∃ v, e = .returned (.tuple #[v, .int .i64 (pathA (k : Int) (n : Int)).2]) ∧ w'.ownsRow W.heap.size 26 32 v (rootsP ((lvs m.ents).take n) (k : Int)).length (hcells (rootsP ((lvs m.ents).take n) (k : Int))) ∧ Below W.heap.size W w' := by
  have hbe := mbegins_ok h n hn
  obtain ⟨A, c, hve, hes⟩ := Hs.of_owns h.hashes (lvs_length _) (H32.lvs _)
  have hr := hes.sl.room
  have hmx := hes.sl.max
  unfold maxLen at hmx
  have c1 : W.cell? ⟨g, 1, none⟩ = some (.slice A m.ents.length c) := (h.cell 1 (by decide)).trans (congrArg some hve)
  have ht := (hes.take n hn).weak (Y := fun _ => True) fun _ _ _ => trivial
  have hcp := iprove_any _ A n c W (k : Int) ht (by omega)
  have hln : ((lvs m.ents).take n).length = n := by rw [List.length_take, lvs_length]; omega
  rw [hln] at hcp
  have Hcp := Lib.hid hcp
  obtain ⟨N, hN'⟩ : ∃ x, m.ents.length = x := ⟨_, rfl⟩
  have hnc : n ≤ c := by omega
  rw [hN'] at c1 hr
  clear hcp ht hes hve h hN' hln
  go_enter Try.func28, Try.ntmps28
  go_wp2_with (first
    | (go_at_call 42; refine (hbe).mono ?_; rintro e w' ⟨rfl, hw⟩; obtain rfl := hw.symm)
    | ((with_reducible show wpList _ _ _ (⟨some 21, .slice _ _ _ _ _, _, _, _, _⟩ :: _) _ _); refine wpList_run rfl (.slice A n c) W (run_slice_hiH (.tmp 19) (.tmp 20) rfl A N c n rfl rfl hnc W) ?_; simp only [Act.put]))
  refine Hcp.out.mono ?_
  rintro e w1 ⟨v, rfl, ho, hb⟩
  go_wp2_with fail
  go_ret2
  exact ⟨v, rfl, ho, hb⟩
end
end Go.Proofs.Ytobcfgbkhgkelaa
/- model.From, of a thing found without a point. -/
namespace Go.Proofs.Ytobcfgbkhgkelaa
open Go Go.RowKit Go.Shelf
attribute [local go_sem] Oper.semAt_some

set_option maxHeartbeats 16000000 in
set_option maxRecDepth 100000 in
theorem mfrom_ok (seg q : Int) (fc : Array Value) (E : Option Addr) (n c : Nat) (fe : List (List UInt8)) (fs : Int) (fr : List UInt8) (W : World) (hj : jobOk seg q = true) (hf : Fnd fc E n c false fs fr) (he : Es W (fun _ => True) E n c fe) (hn : n ≤ 100000) (hl : ∀ x ∈ fe, x.length ≤ 4096) :
    Calls Try.prog 17 #[.agg #[.int .i64 seg, .int .i64 q], .agg fc] W fun e w' => ∃ lo g R, e = .returned (.tuple #[.pointer (some ⟨g, 0, none⟩), .int .i64 0]) ∧ W.heap.size ≤ lo ∧ Md lo g R ((MoV.new seg q).put fe) w' ∧ Below W.heap.size W w' := by
  obtain ⟨w1, hw1⟩ : ∃ x, W.alloc (.cells #[.int .i64 seg, .int .i64 q] 37) = x := ⟨_, rfl⟩
  have B1 : Below W.heap.size W w1 := by rw [← hw1]; exact (Below.refl _ _).alloc (Nat.le_refl _) _
  have k1 : Blk w1 W.heap.size 37 #[.int .i64 seg, .int .i64 q] := by rw [← hw1]; exact Blk.new _ _ _
  obtain ⟨w2, hw2⟩ : ∃ x, w1.alloc (.cells fc 30) = x := ⟨_, rfl⟩
  have b2 : Below w1.heap.size w1 w2 := by rw [← hw2]; exact (Below.refl _ _).alloc (Nat.le_refl _) _
  have B2 := B1.trans (b2.mono B1.size)
  have k2 : Blk w2 w1.heap.size 30 fc := by rw [← hw2]; exact Blk.new _ _ _
  have hld : (Instr.loadAt 37 (.pointer (some ⟨W.heap.size, 0, none⟩))).run Try.prog w2 = .ok (.agg #[.int .i64 seg, .int .i64 q]) w2 :=
    run_load_agg (aggCf _) (sizeCf _) W.heap.size 0 [.int .i64 seg, .int .i64 q] rfl fun j u hu => by
      rw [(k1.step b2).cell, Nat.zero_add, List.getElem?_toArray]; exact hu
  obtain ⟨gf, hgf⟩ : ∃ x, w1.heap.size = x := ⟨_, rfl⟩
  have hWs := B2.size
  have hWg : W.heap.size ≤ gf := by rw [← hgf]; exact B1.size
  rw [hgf] at k2
  have he2 := (he.weak (Y := (· < W.heap.size)) fun b hb _ => hb).step (hb := B2.mono (Nat.le_refl _))
  have hlen := he.len
  have hroom := he.room
  have hmx := he.max
  unfold maxLen at hmx
  have Hw1 := Lib.hid hw1
  have Hw2 := Lib.hid hw2
  have Hld := Lib.hid hld
  clear hw1 hw2 hld k1 b2 B1 he
  go_enter Try.func17, Try.ntmps17
  go_wp2_with (first
    | ((with_reducible show wpList _ _ _ (⟨some 2, .box _ _, _, _, _, _⟩ :: _) _ _); refine wpList_run rfl (.pointer (some ⟨W.heap.size, 0, none⟩)) w1 (by rw [← Hw1.out]; rfl) ?_; simp only [Act.put])
    | ((with_reducible show wpList _ _ _ (⟨some 3, .box _ _, _, _, _, _⟩ :: _) _ _); refine wpList_run rfl (.pointer (some ⟨w1.heap.size, 0, none⟩)) w2 (by rw [← Hw2.out]; rfl) ?_; rw [hgf]; simp only [Act.put])
    | ((with_reducible show wpList _ _ _ (⟨some 11, .load _ _, _, _, _, _⟩ :: _) _ _); refine wpList_load rfl 37 (.tmp 2) rfl W.heap.size 0 rfl _ Hld.out ?_; simp only [Act.put]))
  refine (mnew_any seg q w2 hj).mono ?_
  rintro e w3 ⟨g, R, rfl, h3, b3⟩
  have k3 := k2.step b3
  have he3 := he2.step b3
  have B3 := B2.trans (b3.mono hWs)
  have hlo : gf < w2.heap.size := k2.lt
  obtain ⟨lo, hloe⟩ : ∃ x, w2.heap.size = x := ⟨_, rfl⟩
  rw [hloe] at h3 hlo hWs
  have f0 : w3.cell? ⟨gf, 0, none⟩ = some (.slice E n c) := by rw [k3.cell]; exact hf.c0
  have Hb3 := Lib.hid b3
  have Hld3 := Lib.hid hloe
  clear k2 he2 B2 b3 hloe Hld
  go_wp2_with fail
  go_loopw [21] (fun v wr => ∃ k : Nat, k ≤ n ∧ v = .int .i64 k ∧ wr = w3) (fun v _ => n - (intOf v).toNat)
  case atStart => exact ⟨0, Nat.zero_le _, rfl, rfl⟩
  case round =>
    obtain ⟨k, hk, rfl, hw⟩ := hrel
    obtain rfl := hw.symm
    by_cases hlt : k < n
    · obtain ⟨b, o, rfl, -, -, hat⟩ := he3.at_ (by omega)
      obtain ⟨Ak, ck, ce, hsk⟩ := hat k hlt
      have hbig : (fe.getD k []).length ≤ 4096 := hl _ (by rw [List.getD_eq_getElem?_getD, List.getElem?_eq_getElem (by omega)]; exact List.getElem_mem (by omega))
      have hrk := hsk.room
      have hmk := hsk.max
      unfold maxLen at hmk
      obtain ⟨ln, hln⟩ : ∃ x, (fe.getD k []).length = x := ⟨_, rfl⟩
      rw [hln] at ce hbig hrk
      have d1 : decide ((4096 : Int) < (ln : Int)) = false := by simp; omega
      have d2 : decide (4096 < ln) = false := by simp; omega
      clear hat hsk hln h3 he3 k3 f0
      go_wp2_with fail
      exact ⟨⟨k + 1, by omega, by go_num, trivial⟩, by simp [intOf]; omega⟩
    · obtain rfl : k = n := by omega
      have hz3 : Below w3.heap.size w3 w3.drew := (Below.refl _ _).drew
      have hT : True := trivial
      go_upto_region 10 with fail
      refine wp_region_mix (fun _ => True) [(0, true), (1, true), (2, true), (3, true), (4, false), (5, false)] (by kernel_rfl) (by kernel_rfl) hT fun _ => ?_
      simp only [List.map_cons, List.map_nil, Array.getD_eq_getD_getElem?, List.getElem?_toArray, List.getElem?_cons_succ, List.getElem?_cons_zero, Option.getD_some]
      generalize w3.drew = Z0 at hz3 ⊢
      refine wpMix_s (fun K hK => ?_)
      go_simp
      refine hK _ ?_
      clear hK K
      refine wpMix_s (fun K hK => ?_)
      go_simp
      refine hK _ ?_
      clear hK K
      refine wpMix_s (fun K hK => ?_)
      go_simp
      refine hK _ ?_
      clear hK K
      refine wpMix_s (fun K hK => ?_)
      go_simp
      refine hK _ ?_
      clear hK K
      have h4 := h3.step hz3
      have k4 := k3.step hz3
      have he4 := he3.step hz3
      have f0z : Z0.cell? ⟨gf, 0, none⟩ = some (.slice E k c) := by rw [k4.cell]; exact hf.c0
      refine wpMix_c (fun K hK => ?_) hT
      go_simp
      refine hK _ _ ?_
      clear hK K
      refine ⟨hT, ?_⟩
      refine wpMix_c (fun K hK => ?_) hT
      go_simp
      have hput_lo : ∀ b, PutW g R b → lo ≤ b := fun b hm => (h4.lt b hm.mdW).1
      have hput := mput_any lo g R (MoV.new seg q) E k c fe Z0 (h4.mp (he4.weak fun b _ hx hm => by have := hput_lo b hm; omega)) h4.lastL h4.ptL (h4.fresh rfl) (by rw [hlen]; show 0 + k ≤ _; omega) (fun x hx => by have := hl x hx; omega) h4.bigq
      refine hput.mono ?_
      rintro e W4 ⟨rfl, R', hD, hK9, -, -, -⟩
      refine hK _ _ ?_
      clear hK K
      refine ⟨hT, ?_⟩
      refine wpMix_nil ?_
      intro _
      have c36 : W4.cell? ⟨gf, 4, none⟩ = some (.bool false) := by
        rw [(hK9.blk k4 (fun hm => by have := hput_lo gf hm; omega)).cell]; exact hf.c4
      clear k4 f0 f0z he3
      go_wp2_with fail
      go_ret2
      exact ⟨lo, g, rfl, hWs, ⟨R', hD⟩, (B3.trans (hz3.mono B3.size)).trans (hK9.below (fun b hm => Nat.le_trans hWs (hput_lo b hm)) (Nat.le_trans B3.size hz3.size))⟩
end Go.Proofs.Ytobcfgbkhgkelaa
/- notaryref12.both. -/
namespace Go.Proofs.Ytobcfgbkhgkelaa
open Go Go.RowKit

theorem results_cells2 {fn : Func} {p q : Tmp} {ty : TypeId} (h : fn.results = #[.cell p ty, .cell q ty]) (tmps : Array Value) (P : Program) (w : World) :
    (results fn tmps).run P w =
      ((asAddr (tmps.getD p undef)).run P w).andThen fun a w₁ => ((loadVar ty a).run P w₁).andThen fun v w₂ => ((asAddr (tmps.getD q undef)).run P w₂).andThen fun b w₃ => ((loadVar ty b).run P w₃).andThen fun u w₄ => .ok (.tuple #[v, u]) w₄ := by
  simp only [results, h]
  simp [Sem.run_bind, Result.andThen]
theorem tuple_cells2 {fn : Func} {p q : Tmp} (h : fn.results = #[.cell p 26, .cell q 26]) (tmps : Array Value) (w : World) (g g' : Nat) (x y : List UInt8)
    (hp : tmps.getD p undef = .pointer (some ⟨g, 0, none⟩)) (hq : tmps.getD q undef = .pointer (some ⟨g', 0, none⟩)) (hx : HV w g x) (hy : HV w g' y) :
    (results fn tmps).run Try.prog w = .ok (.tuple #[.agg (x.map B).toArray, .agg (y.map B).toArray]) w := by
  have l1 := run_loadVar_row (P := Try.prog) w g _ 26 _ (0, 0) _ hx.blk Try.underlying26 rfl (by rw [show (x.map B).toArray.size = 32 by simp [hx.len]]; exact info26)
  have l2 := run_loadVar_row (P := Try.prog) w g' _ 26 _ (0, 0) _ hy.blk Try.underlying26 rfl (by rw [show (y.map B).toArray.size = 32 by simp [hy.len]]; exact info26)
  rw [results_cells2 h, hp, hq]
  simp only [asAddr, Sem.run_pure, Result.andThen_ok, l1, l2]

end Go.Proofs.Ytobcfgbkhgkelaa
