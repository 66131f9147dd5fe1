/- notarylaw13.known. -/
import Derived.Test.YtonidnfgneokbaaQd133
import Derived.Test.YtonidnfgneokbaaQd110
import Derived.Test.YtonidnfgneokbaaQd105
namespace Go.Proofs.Ytonidnfgneokbaa
open Go Go.RowKit Go.Shelf
attribute [local go_sem] Oper.semAt_some

theorem Es.lit2 (W : World) (A1 A2 : Option Addr) (n1 k1 n2 k2 : Nat) (l1 l2 : List UInt8) (h1 : Sl W (fun _ => True) A1 n1 k1 l1) (h2 : Sl W (fun _ => True) A2 n2 k2 l2) :
    Es (W.alloc (.cells #[.slice A1 n1 k1, .slice A2 n2 k2] 23)) (fun _ => True) (some ⟨W.heap.size, 0, none⟩) 2 2 [l1, l2] := by
  refine ⟨⟨[.slice A1 n1 k1, .slice A2 n2 k2], SlV.lit (s := 1) W (fun _ => True) 23 _ rfl (by decide) trivial, fun i hi => ?_⟩, rfl⟩
  match i, hi with
  | 0, _ => have e := h1.len; subst e; exact ⟨A1, k1, rfl, h1.alloc _⟩
  | 1, _ => have e := h2.len; subst e; exact ⟨A2, k2, rfl, h2.alloc _⟩
theorem Es.lit1 (W : World) (A1 : Option Addr) (n1 k1 : Nat) (l1 : List UInt8) (h1 : Sl W (fun _ => True) A1 n1 k1 l1) :
    Es (W.alloc (.cells #[.slice A1 n1 k1] 23)) (fun _ => True) (some ⟨W.heap.size, 0, none⟩) 1 1 [l1] := by
  refine ⟨⟨[.slice A1 n1 k1], SlV.lit (s := 1) W (fun _ => True) 23 _ rfl (by decide) trivial, fun i hi => ?_⟩, rfl⟩
  match i, hi with
  | 0, _ => have e := h1.len; subst e; exact ⟨A1, k1, rfl, h1.alloc _⟩
theorem Es.nilE (W : World) : Es W (fun _ => True) none 0 0 [] := ⟨⟨[], ⟨Bs.nil, rfl, Nat.le_refl _, fun _ => ⟨rfl, rfl⟩, Nat.zero_le _⟩, fun i hi => by cases hi⟩, rfl⟩
theorem Hs.nilH (W : World) : Hs W (fun _ => True) none 0 0 [] := ⟨⟨Bs.nil, rfl, Nat.le_refl _, fun _ => ⟨rfl, rfl⟩, Nat.zero_le _⟩, rfl, fun _ h => by cases h⟩
theorem run_neqnil2 (W : World) : (binOp .neq 56 .nilFunc .nilFunc).run Try.prog W = .ok (.bool false) W := by
  have hu : Try.prog.underlying 56 = some (.func #[23] #[25] false) := by kernel_rfl
  have heq : (Op.equalIn (9999 + 1) 56 .nilFunc .nilFunc).run Try.prog W = .ok true W := by
    generalize 9999 = D
    simp only [Op.equalIn, Sem.run_bind, run_underlying hu, Result.andThen_ok, Sem.run_pure]
  have e : (binOp .neq 56 .nilFunc .nilFunc).run Try.prog W = ((Op.equalIn 10000 56 .nilFunc .nilFunc).run Try.prog W).andThen fun b w' => .ok (.bool (!b)) w' := by
    simp only [binOp, Op.equal, Op.maxDepth, Sem.run_bind, Sem.run_pure]
  rw [e, show (10000 : Nat) = 9999 + 1 from rfl, heq]
  rfl
theorem run_neqnil2_op {ρ : Operand → Value} {o : Oper} (x y : Operand) (ty : TypeId) (ho : o.op = .binOp .neq 56 x y ty) (hx : ρ x = .nilFunc) (hy : ρ y = .nilFunc) (W : World) : (execOp ρ o).run Try.prog W = .ok (.value (.bool false)) W := by
  have hg : eqGuard .neq 56 x y .nilFunc .nilFunc = pure () := rfl
  unfold execOp
  simp only [ho, hx, hy, hg, Sem.run_bind, Sem.run_pure, run_neqnil2, Result.andThen_ok]
set_option maxHeartbeats 4000000 in
set_option maxRecDepth 100000 in
theorem aisnil_any (A A' : Option Addr) (n c n' c' : Nat) (w : World) :
    Calls Try.prog 70 #[.nilFunc, .agg #[.slice A n c, .slice A' n' c']] w fun e w' => e = .returned (.bool false) ∧ Below w.heap.size w w' := by
  obtain ⟨w0, hw0⟩ : ∃ w0, w.alloc (.cells #[.slice A n c, .slice A' n' c'] 34) = w0 := ⟨_, rfl⟩
  have hb0 : Below w.heap.size w w0 := by rw [← hw0]; exact (Below.refl _ _).alloc (Nat.le_refl _) _
  have Hw0 := Lib.hid hw0
  clear hw0
  go_enter Try.func70, Try.ntmps70
  go_wp2_with (rw [Hw0.out])
  have hS : Below w0.heap.size w0 w0.drew := (Below.refl _ _).drew
  refine wp_region_mix (fun W => Below w0.heap.size w0 W) [(0, true), (1, true), (2, true), (3, true), (4, true), (5, true), (6, true), (7, false), (8, true), (9, true), (10, true), (11, true), (12, true), (13, true), (15, true), (16, true), (17, true), (14, false), (18, false), (19, true), (20, true), (21, true)] (by kernel_rfl) (by kernel_rfl) hS fun _ => ?_
  simp only [List.map_cons, List.map_nil, Array.getD_eq_getD_getElem?, List.getElem?_toArray, List.getElem?_cons_succ, List.getElem?_cons_zero, Option.getD_some]
  generalize w0.drew = u0 at hS ⊢
  refine wpMix_s (fun K hK => ?_)
  go_simp
  refine hK _ ?_
  clear hK K
  refine wpMix_v (by kernel_rfl) (.bool false) (fun s => run_neqnil2_op (.tmp 5) (.const .nilFunc) _ rfl rfl rfl s.W) ?_
  simp only [Act.put]
  refine wpMix_s (fun K hK => ?_)
  go_simp
  refine hK _ ?_
  clear hK K
  refine wpMix_s (fun K hK => ?_)
  go_simp
  refine hK _ ?_
  clear hK K
  refine wpMix_s (fun K hK => ?_)
  go_simp
  refine hK _ ?_
  clear hK K
  refine wpMix_s (fun K hK => ?_)
  go_simp
  refine hK _ ?_
  clear hK K
  refine wpMix_s (fun K hK => ?_)
  go_simp
  refine hK _ ?_
  clear hK K
  refine wpMix_c (fun K hK => ?_) hS
  go_simp
  refine hK _ _ ?_
  clear hK K
  refine ⟨hS, ?_⟩
  refine wpMix_s (fun K hK => ?_)
  go_simp
  refine hK _ ?_
  clear hK K
  refine wpMix_s (fun K hK => ?_)
  go_simp
  refine hK _ ?_
  clear hK K
  refine wpMix_s (fun K hK => ?_)
  go_simp
  refine hK _ ?_
  clear hK K
  refine wpMix_s (fun K hK => ?_)
  go_simp
  refine hK _ ?_
  clear hK K
  refine wpMix_s (fun K hK => ?_)
  go_simp
  refine hK _ ?_
  clear hK K
  refine wpMix_s (fun K hK => ?_)
  go_simp
  refine hK _ ?_
  clear hK K
  refine wpMix_s (fun K hK => ?_)
  go_simp
  refine hK _ ?_
  clear hK K
  refine wpMix_s (fun K hK => ?_)
  go_simp
  refine hK _ ?_
  clear hK K
  refine wpMix_s (fun K hK => ?_)
  go_simp
  refine hK _ ?_
  clear hK K
  refine wpMix_c (fun K hK => ?_) hS
  go_simp
  refine hK _ _ ?_
  clear hK K
  refine ⟨hS, ?_⟩
  refine wpMix_c (fun K hK => ?_) hS
  go_simp
  refine hK _ _ ?_
  clear hK K
  refine ⟨hS, ?_⟩
  refine wpMix_s (fun K hK => ?_)
  go_simp
  refine hK _ ?_
  clear hK K
  refine wpMix_s (fun K hK => ?_)
  go_simp
  refine hK _ ?_
  clear hK K
  refine wpMix_s (fun K hK => ?_)
  go_simp
  refine hK _ ?_
  clear hK K
  refine wpMix_nil ?_
  intro _
  go_wp2_with fail
  go_ret
  exact ⟨rfl, hb0.trans (hS.mono hb0.size)⟩

theorem wpList_clvar {w : World} {ops : Array Oper} {rest : List Oper} {o1 o2 : Oper} {a : Act} {Q : Exit → Act → World → Prop} {x1 y1 : Value} (x y : Operand) (hg1 : o1.guard = none) (hg2 : o2.guard = none) (ho1 : o1.op = .alloc 34) (ho2 : o2.op = .store 34 x y)
    (hx : (a.put o1.dst (.pointer (some ⟨w.heap.size, 0, none⟩))).eval x = .pointer (some ⟨w.heap.size, 0, none⟩)) (hy : (a.put o1.dst (.pointer (some ⟨w.heap.size, 0, none⟩))).eval y = .agg #[x1, y1]) (h1 : x1.oneCell' = true) (h2 : y1.oneCell' = true)
    (hh : ∀ W, Blk W w.heap.size 34 #[x1, y1] → Below w.heap.size w W → wpList Try.prog ops Q rest ((a.put o1.dst (.pointer (some ⟨w.heap.size, 0, none⟩))).put o2.dst undef) W) : wpList Try.prog ops Q (o1 :: o2 :: rest) a w :=
  wpList_clnew hg1 ho1 fun _ k1 hb1 => wpList_clset x y hg2 ho2 k1 hx hy h1 h2 fun _ k2 hb2 _ => hh _ k2 (hb1.trans hb2)

def zero32 : List UInt8 := List.replicate 32 0
theorem known13_1 : inclC (hashK 3) [[97], [97]] 0 [120] [zero32] = (([0, 120], [0, 97]), 0) := by decide +kernel
theorem known13_2 : inclC (hashK 3) [[97], [97]] 2 [97] [] = (noC, 4) := by decide +kernel
theorem known13_3 : inclC (hashK 0) [[97]] 0 [97] [] = (noC, 231) := by decide +kernel
theorem known13_4 : inclC (hashK 0) [[97]] 0 [120] [] = (noC, 230) := by decide +kernel
theorem known13_5 : isC (hashK 3) ([0, 120], [0, 97]) = true := by decide +kernel
theorem known13_6 : isC (hashK 0) ([0, 120], [0, 97]) = false := by decide +kernel

set_option maxHeartbeats 16000000 in
set_option maxRecDepth 100000 in
theorem known13_any (w : World) : Calls Try.prog 14 #[] w fun e w' => e = .returned (.bool true) ∧ Below w.heap.size w w' := by
  obtain ⟨wa, hca, hba, hBa⟩ := conv_new w #[.int .u8 97] [97] 1 rfl rfl
  obtain ⟨wx, hcx, hbx, hBx⟩ := conv_new wa #[.int .u8 120] [120] 1 rfl rfl
  obtain ⟨ga, hga⟩ : ∃ g, w.heap.size = g := ⟨_, rfl⟩
  obtain ⟨gx, hgx⟩ : ∃ g, wa.heap.size = g := ⟨_, rfl⟩
  have sa : Sl wx (fun _ => True) (some ⟨ga, 0, none⟩) 1 1 [97] := by
    have h : Sl wa (fun _ => True) (some ⟨ga, 0, none⟩) 1 1 [97] := by rw [← hga]; exact ⟨hba.weak fun _ _ _ => trivial, rfl, Nat.le_refl _, by simp, by decide⟩
    exact h.step hBx
  have sx : Sl wx (fun _ => True) (some ⟨gx, 0, none⟩) 1 1 [120] := by rw [← hgx]; exact ⟨hbx.weak fun _ _ _ => trivial, rfl, Nat.le_refl _, by simp, by decide⟩
  have hb := hBa.trans (hBx.mono hBa.size)
  have hz32 : H32 [zero32] := fun x hx => by rw [List.mem_singleton.1 hx]; rfl
  rw [hga] at hca
  rw [hgx] at hcx
  have Hca := Lib.hid hca
  have Hcx := Lib.hid hcx
  have Hga := Lib.hid hga
  have Hgx := Lib.hid hgx
  clear hba hbx hBa hBx hca hcx hga hgx
  go_enter Try.func14, Try.ntmps14
  go_wp2_with (first
    | ((with_reducible show wpList _ _ _ (⟨some 12, .convert _ _ _, _, _, _, _⟩ :: _) _ _); rw [Hga.out]; refine wpList_run rfl _ wa (run_conv_op 23 23 (.tmp 11) rfl _ rfl Hca.out) ?_; simp only [Act.put])
    | ((with_reducible show wpList _ _ _ (⟨some 14, .convert _ _ _, _, _, _, _⟩ :: _) _ _); rw [Hgx.out]; refine wpList_run rfl _ wx (run_conv_op 23 23 (.tmp 13) rfl _ rfl Hcx.out) ?_; simp only [Act.put])
    | ((with_reducible show wpList _ _ _ (⟨some 18, .buildSlice _ _ _, _, _, _, _⟩ :: _) _ _); refine wpList_run rfl (.slice (some ⟨wx.heap.size, 0, none⟩) 2 2) (wx.alloc (.cells #[.slice (some ⟨ga, 0, none⟩) 1 1, .slice (some ⟨ga, 0, none⟩) 1 1] 23)) (by kernel_rfl) ?_; have hE := Es.lit2 wx _ _ 1 1 1 1 [97] [97] sa sa; have hbb : Below wx.heap.size wx (wx.alloc (.cells #[.slice (some ⟨ga, 0, none⟩) 1 1, .slice (some ⟨ga, 0, none⟩) 1 1] 23)) := (Below.refl _ _).alloc (Nat.le_refl _) _; generalize wx.alloc (.cells #[.slice (some ⟨ga, 0, none⟩) 1 1, .slice (some ⟨ga, 0, none⟩) 1 1] 23) = w1 at hE hbb ⊢; replace sa := sa.step hbb; replace sx := sx.step hbb; replace hb := hb.trans (hbb.mono hb.size); clear hbb; simp only [Act.put])
    | ((with_reducible show wpList _ _ _ (⟨some 20, .build _ _, _, _, _, _⟩ :: _) _ _); refine wpList_run0 rfl (.agg (zero32.map B).toArray) (by kernel_rfl) ?_; simp only [Act.put])
    | ((with_reducible show wpList _ _ _ (⟨some 21, .buildSlice _ _ _, _, _, _, _⟩ :: _) _ _); refine wpList_run rfl _ _ (run_lit_op [zero32] hz32 (by decide) (by decide) 1 _ rfl (by kernel_rfl) rfl _) ?_; have hH := Hs.lit w1 [zero32] hz32 (by decide) 1 rfl; have hbb : Below w1.heap.size w1 (w1.alloc (.cells (hcells [zero32]).toArray 25)) := (Below.refl _ _).alloc (Nat.le_refl _) _; generalize w1.alloc (.cells (hcells [zero32]).toArray 25) = w2 at hH hbb ⊢; replace hE := hE.step hbb; replace sa := sa.step hbb; replace sx := sx.step hbb; replace hb := hb.trans (hbb.mono hb.size); clear hbb; simp only [Act.put]))
  have hq := aincl_any none13_fn [[97], [97]] _ _ _ 0 [120] _ 1 1 [zero32] _ _ _ _ hE sx hH
  rw [known13_1] at hq
  refine hq.mono ?_
  clear hq hE
  rintro e w3 ⟨v, rfl, ⟨a8, a9, rfl, ho8, ho9⟩, hbb⟩
  obtain ⟨A8, c8, rfl, s8⟩ := owns_sl ho8
  obtain ⟨A9, c9, rfl, s9⟩ := owns_sl ho9
  clear ho8 ho9
  have sc1 : Sl w3 (fun _ => True) A8 2 c8 [0, 120] := s8.all
  have sc2 : Sl w3 (fun _ => True) A9 2 c9 [0, 97] := s9.all
  clear s8 s9
  replace sa := sa.step hbb
  replace sx := sx.step hbb
  replace hb := hb.trans (hbb.mono hb.size)
  clear hbb
  go_wp2_with (first
    | ((with_reducible show wpList _ _ _ (⟨some 3, .alloc _, _, _, _, _⟩ :: _) _ _); refine wpList_clvar (.tmp 3) (.tmp 23) rfl rfl rfl rfl rfl rfl rfl rfl ?_; intro w3a k3 hbb; replace sc1 := sc1.step hbb; replace sc2 := sc2.step hbb; replace sa := sa.step hbb; replace sx := sx.step hbb; replace hb := hb.trans (hbb.mono hb.size); clear hbb; simp only [Act.put])
    | ((with_reducible show wpList _ _ _ (⟨some 28, .buildSlice _ _ _, _, _, _, _⟩ :: _) _ _); refine wpList_run rfl (.slice (some ⟨w3a.heap.size, 0, none⟩) 2 2) (w3a.alloc (.cells #[.slice (some ⟨ga, 0, none⟩) 1 1, .slice (some ⟨ga, 0, none⟩) 1 1] 23)) (by kernel_rfl) ?_; have hE := Es.lit2 w3a _ _ 1 1 1 1 [97] [97] sa sa; have hbb : Below w3a.heap.size w3a (w3a.alloc (.cells #[.slice (some ⟨ga, 0, none⟩) 1 1, .slice (some ⟨ga, 0, none⟩) 1 1] 23)) := (Below.refl _ _).alloc (Nat.le_refl _) _; generalize (w3a.alloc (.cells #[.slice (some ⟨ga, 0, none⟩) 1 1, .slice (some ⟨ga, 0, none⟩) 1 1] 23)) = w3al at hE hbb ⊢; replace sa := sa.step hbb; replace sx := sx.step hbb; replace k3 := k3.step hbb; replace sc1 := sc1.step hbb; replace sc2 := sc2.step hbb; replace hb := hb.trans (hbb.mono hb.size); clear hbb; simp only [Act.put]))
  have hq := aincl_any none13_fn [[97], [97]] _ _ _ 2 [97] _ 1 1 [] _ _ _ _ hE sa (Hs.nilH _)
  rw [known13_2] at hq
  refine hq.mono ?_
  clear hq hE
  rintro e w4 ⟨v, rfl, ⟨a8, a9, rfl, ho8, ho9⟩, hbb⟩
  obtain ⟨A_, c_, rfl, s8⟩ := owns_sl ho8
  obtain ⟨B_, d_, rfl, s9⟩ := owns_sl ho9
  clear ho8 ho9
  clear s8 s9
  replace sa := sa.step hbb
  replace sx := sx.step hbb
  replace k3 := k3.step hbb
  replace sc1 := sc1.step hbb
  replace sc2 := sc2.step hbb
  replace hb := hb.trans (hbb.mono hb.size)
  clear hbb
  go_wp2_with (first
    | ((with_reducible show wpList _ _ _ (⟨some 5, .alloc _, _, _, _, _⟩ :: _) _ _); refine wpList_clvar (.tmp 5) (.tmp 31) rfl rfl rfl rfl rfl rfl rfl rfl ?_; intro w5a k5 hbb; replace sa := sa.step hbb; replace sx := sx.step hbb; replace k3 := k3.step hbb; replace sc1 := sc1.step hbb; replace sc2 := sc2.step hbb; replace hb := hb.trans (hbb.mono hb.size); clear hbb; simp only [Act.put])
    | ((with_reducible show wpList _ _ _ (⟨some 35, .buildSlice _ _ _, _, _, _, _⟩ :: _) _ _); refine wpList_run rfl (.slice (some ⟨w5a.heap.size, 0, none⟩) 1 1) (w5a.alloc (.cells #[.slice (some ⟨ga, 0, none⟩) 1 1] 23)) (by kernel_rfl) ?_; have hE := Es.lit1 w5a _ 1 1 [97] sa; have hbb : Below w5a.heap.size w5a (w5a.alloc (.cells #[.slice (some ⟨ga, 0, none⟩) 1 1] 23)) := (Below.refl _ _).alloc (Nat.le_refl _) _; generalize (w5a.alloc (.cells #[.slice (some ⟨ga, 0, none⟩) 1 1] 23)) = w5al at hE hbb ⊢; replace sa := sa.step hbb; replace sx := sx.step hbb; replace k3 := k3.step hbb; replace k5 := k5.step hbb; replace sc1 := sc1.step hbb; replace sc2 := sc2.step hbb; replace hb := hb.trans (hbb.mono hb.size); clear hbb; simp only [Act.put]))
  have hq := aincl_any strong13_fn [[97]] _ _ _ 0 [97] _ 1 1 [] _ _ _ _ hE sa (Hs.nilH _)
  rw [known13_3] at hq
  refine hq.mono ?_
  clear hq hE
  rintro e w6 ⟨v, rfl, ⟨a8, a9, rfl, ho8, ho9⟩, hbb⟩
  obtain ⟨A_, c_, rfl, s8⟩ := owns_sl ho8
  obtain ⟨B_, d_, rfl, s9⟩ := owns_sl ho9
  clear ho8 ho9
  clear s8 s9
  replace sa := sa.step hbb
  replace sx := sx.step hbb
  replace k3 := k3.step hbb
  replace k5 := k5.step hbb
  replace sc1 := sc1.step hbb
  replace sc2 := sc2.step hbb
  replace hb := hb.trans (hbb.mono hb.size)
  clear hbb
  go_wp2_with (first
    | ((with_reducible show wpList _ _ _ (⟨some 7, .alloc _, _, _, _, _⟩ :: _) _ _); refine wpList_clvar (.tmp 7) (.tmp 38) rfl rfl rfl rfl rfl rfl rfl rfl ?_; intro w7a k7 hbb; replace sa := sa.step hbb; replace sx := sx.step hbb; replace k3 := k3.step hbb; replace k5 := k5.step hbb; replace sc1 := sc1.step hbb; replace sc2 := sc2.step hbb; replace hb := hb.trans (hbb.mono hb.size); clear hbb; simp only [Act.put])
    | ((with_reducible show wpList _ _ _ (⟨some 42, .buildSlice _ _ _, _, _, _, _⟩ :: _) _ _); refine wpList_run rfl (.slice (some ⟨w7a.heap.size, 0, none⟩) 1 1) (w7a.alloc (.cells #[.slice (some ⟨ga, 0, none⟩) 1 1] 23)) (by kernel_rfl) ?_; have hE := Es.lit1 w7a _ 1 1 [97] sa; have hbb : Below w7a.heap.size w7a (w7a.alloc (.cells #[.slice (some ⟨ga, 0, none⟩) 1 1] 23)) := (Below.refl _ _).alloc (Nat.le_refl _) _; generalize (w7a.alloc (.cells #[.slice (some ⟨ga, 0, none⟩) 1 1] 23)) = w7al at hE hbb ⊢; replace sa := sa.step hbb; replace sx := sx.step hbb; replace k3 := k3.step hbb; replace k5 := k5.step hbb; replace k7 := k7.step hbb; replace sc1 := sc1.step hbb; replace sc2 := sc2.step hbb; replace hb := hb.trans (hbb.mono hb.size); clear hbb; simp only [Act.put]))
  have hq := aincl_any strong13_fn [[97]] _ _ _ 0 [120] _ 1 1 [] _ _ _ _ hE sx (Hs.nilH _)
  rw [known13_4] at hq
  refine hq.mono ?_
  clear hq hE
  rintro e w8 ⟨v, rfl, ⟨a8, a9, rfl, ho8, ho9⟩, hbb⟩
  obtain ⟨A_, c_, rfl, s8⟩ := owns_sl ho8
  obtain ⟨B_, d_, rfl, s9⟩ := owns_sl ho9
  clear ho8 ho9
  clear s8 s9
  replace sa := sa.step hbb
  replace sx := sx.step hbb
  replace k3 := k3.step hbb
  replace k5 := k5.step hbb
  replace k7 := k7.step hbb
  replace sc1 := sc1.step hbb
  replace sc2 := sc2.step hbb
  replace hb := hb.trans (hbb.mono hb.size)
  clear hbb
  have st1 := fun W (h : Below w8.heap.size w8 W) => run_str (sc1.step h)
  have st2 := fun W (h : Below w8.heap.size w8 W) => run_str (sc2.step h)
  have g1 : ((bstr [0, 120]).toList == [0, 120]) = true := by rw [ByteArray.toList_eq]; rfl
  have g2 : ((bstr [0, 97]).toList == [0, 97]) = true := by rw [ByteArray.toList_eq]; rfl
  go_wp2_with (first
    | ((with_reducible show wpList _ _ _ (⟨some 9, .alloc _, _, _, _, _⟩ :: _) _ _); refine wpList_clvar (.tmp 9) (.tmp 45) rfl rfl rfl rfl rfl rfl rfl rfl ?_; intro w9a k9 hbb; replace sa := sa.step hbb; replace sx := sx.step hbb; replace k3 := k3.step hbb; replace k5 := k5.step hbb; replace k7 := k7.step hbb; replace sc1 := sc1.step hbb; replace sc2 := sc2.step hbb; replace hb := hb.trans (hbb.mono hb.size); clear hbb; have e1 : w9a.cell? ⟨w3.heap.size, 0, none⟩ = some (.slice A8 2 c8) := (by rw [k3.cell]; rfl); have e2 : w9a.cell? ⟨w3.heap.size, 1, none⟩ = some (.slice A9 2 c9) := (by rw [k3.cell]; rfl); replace st1 := run_str sc1; replace st2 := run_str sc2; simp only [Act.put])
    | (go_at_call 19; refine (num13_any _ _).mono ?_; rintro e w9 ⟨rfl, hww⟩; obtain rfl := hww.symm)
    | ((with_reducible show wpList _ _ _ (⟨some 78, .load _ _, _, _, _, _⟩ :: _) _ _); refine wpList_runG (by kernel_rfl) (.agg #[.slice A8 2 c8, .slice A9 2 c9]) _ (run_load_op 34 (.tmp 3) rfl _ 0 rfl _ (cl_load k3)) ?_; simp only [Act.put])
    | ((with_reducible show wpList _ _ _ (⟨some 82, .load _ _, _, _, _, _⟩ :: _) _ _); refine wpList_runG (by kernel_rfl) (.agg #[.slice A8 2 c8, .slice A9 2 c9]) _ (run_load_op 34 (.tmp 3) rfl _ 0 rfl _ (cl_load k3)) ?_; simp only [Act.put])
    | ((with_reducible show wpList _ _ _ (⟨some 87, .load _ _, _, _, _, _⟩ :: _) _ _); refine wpList_runG (by kernel_rfl) (.agg #[.slice A8 2 c8, .slice A9 2 c9]) _ (run_load_op 34 (.tmp 3) rfl _ 0 rfl _ (cl_load k3)) ?_; simp only [Act.put]))
  have hi := ais_any none13_fn [0, 120] [0, 97] A8 A9 2 c8 2 c9 w9a sc1 sc2 (by decide) (by decide)
  rw [known13_5] at hi
  refine hi.mono ?_
  clear hi st1 st2 e1 e2
  rintro e w10 ⟨rfl, hbb⟩
  replace sa := sa.step hbb
  replace sx := sx.step hbb
  replace k3 := k3.step hbb
  replace k5 := k5.step hbb
  replace k7 := k7.step hbb
  replace k9 := k9.step hbb
  replace sc1 := sc1.step hbb
  replace sc2 := sc2.step hbb
  replace hb := hb.trans (hbb.mono hb.size)
  clear hbb
  go_wp2_with (first
    | ((with_reducible show wpList _ _ _ (⟨some 78, .load _ _, _, _, _, _⟩ :: _) _ _); refine wpList_runG (by kernel_rfl) (.agg #[.slice A8 2 c8, .slice A9 2 c9]) _ (run_load_op 34 (.tmp 3) rfl _ 0 rfl _ (cl_load k3)) ?_; simp only [Act.put])
    | ((with_reducible show wpList _ _ _ (⟨some 82, .load _ _, _, _, _, _⟩ :: _) _ _); refine wpList_runG (by kernel_rfl) (.agg #[.slice A8 2 c8, .slice A9 2 c9]) _ (run_load_op 34 (.tmp 3) rfl _ 0 rfl _ (cl_load k3)) ?_; simp only [Act.put])
    | ((with_reducible show wpList _ _ _ (⟨some 87, .load _ _, _, _, _, _⟩ :: _) _ _); refine wpList_runG (by kernel_rfl) (.agg #[.slice A8 2 c8, .slice A9 2 c9]) _ (run_load_op 34 (.tmp 3) rfl _ 0 rfl _ (cl_load k3)) ?_; simp only [Act.put]))
  have hi := ais_any strong13_fn [0, 120] [0, 97] A8 A9 2 c8 2 c9 w10 sc1 sc2 (by decide) (by decide)
  rw [known13_6] at hi
  refine hi.mono ?_
  clear hi
  rintro e w11 ⟨rfl, hbb⟩
  replace sa := sa.step hbb
  replace sx := sx.step hbb
  replace k3 := k3.step hbb
  replace k5 := k5.step hbb
  replace k7 := k7.step hbb
  replace k9 := k9.step hbb
  replace sc1 := sc1.step hbb
  replace sc2 := sc2.step hbb
  replace hb := hb.trans (hbb.mono hb.size)
  clear hbb
  go_wp2_with (first
    | ((with_reducible show wpList _ _ _ (⟨some 78, .load _ _, _, _, _, _⟩ :: _) _ _); refine wpList_runG (by kernel_rfl) (.agg #[.slice A8 2 c8, .slice A9 2 c9]) _ (run_load_op 34 (.tmp 3) rfl _ 0 rfl _ (cl_load k3)) ?_; simp only [Act.put])
    | ((with_reducible show wpList _ _ _ (⟨some 82, .load _ _, _, _, _, _⟩ :: _) _ _); refine wpList_runG (by kernel_rfl) (.agg #[.slice A8 2 c8, .slice A9 2 c9]) _ (run_load_op 34 (.tmp 3) rfl _ 0 rfl _ (cl_load k3)) ?_; simp only [Act.put])
    | ((with_reducible show wpList _ _ _ (⟨some 87, .load _ _, _, _, _, _⟩ :: _) _ _); refine wpList_runG (by kernel_rfl) (.agg #[.slice A8 2 c8, .slice A9 2 c9]) _ (run_load_op 34 (.tmp 3) rfl _ 0 rfl _ (cl_load k3)) ?_; simp only [Act.put]))
  refine (aisnil_any _ _ _ _ _ _ _).mono ?_
  rintro e w12 ⟨rfl, hbb⟩
  replace sa := sa.step hbb
  replace sx := sx.step hbb
  replace k3 := k3.step hbb
  replace k5 := k5.step hbb
  replace k7 := k7.step hbb
  replace k9 := k9.step hbb
  replace sc1 := sc1.step hbb
  replace sc2 := sc2.step hbb
  replace hb := hb.trans (hbb.mono hb.size)
  clear hbb
  go_wp2_with fail
  go_ret
  exact ⟨rfl, hb⟩
end Go.Proofs.Ytonidnfgneokbaa
