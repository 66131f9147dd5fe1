/- Is it a clash; two clashes; which hash. -/
import Derived.Test.YtonidnfgneokbaaQd130
import Derived.Test.YtonidnfgneokbaaQd121
namespace Go.Proofs.Ytonidnfgneokbaa
open Go Go.RowKit Go.Shelf
attribute [local go_sem] Oper.semAt_some

theorem run_neqs_op {ρ : Operand → Value} {o : Oper} (x y : Operand) (ty : TypeId) (l m : List UInt8) (ho : o.op = .binOp .neq 9 x y ty) (hx : ρ x = .string (bstr l)) (hy : ρ y = .string (bstr m)) (W : World) :
    (execOp ρ o).run Try.prog W = .ok (.value (.bool (l != m))) W := by
  have h : (binOp .neq 9 (.string (bstr l)) (.string (bstr m))).run Try.prog W = .ok (.bool (l != m)) W := by
    have : ∀ l : List UInt8, (bstr l).toList = l := fun l => by rw [ByteArray.toList_eq]; rfl
    rw [binOp_string_neq, Sem.run_pure, this, this]; rfl
  unfold execOp
  simp only [ho, hx, hy, eqGuard_at_string, Sem.run_bind, Sem.run_pure, h, Result.andThen_ok]
theorem run_eqls_op {ρ : Operand → Value} {o : Oper} (x y : Operand) (ty : TypeId) (l m : List UInt8) (ho : o.op = .binOp .eql 9 x y ty) (hx : ρ x = .string (bstr l)) (hy : ρ y = .string (bstr m)) (W : World) :
    (execOp ρ o).run Try.prog W = .ok (.value (.bool (l == m))) W := by
  unfold execOp
  simp only [ho, hx, hy, eqGuard_at_string, Sem.run_bind, Sem.run_pure, run_eql_str, Result.andThen_ok]
set_option maxHeartbeats 4000000 in
set_option maxRecDepth 100000 in
theorem ais_any {f : Nat} {H : Hf} (hF : HFn f H) (l m : List UInt8) (A A' : Option Addr) (n c n' c' : Nat) (w : World) (h1 : Sl w (fun _ => True) A n c l) (h2 : Sl w (fun _ => True) A' n' c' m) (hn : n ≤ 1099511627776) (hn' : n' ≤ 1099511627776) :
    Calls Try.prog 70 #[hval f, .agg #[.slice A n c, .slice A' n' c']] w fun e w' => e = .returned (.bool (isC H (l, m))) ∧ Below w.heap.size w w' := by
  have hroom1 := h1.room
  have hmx1 := h1.max
  unfold maxLen at hmx1
  have hroom2 := h2.room
  have hmx2 := h2.max
  unfold maxLen at hmx2
  have hl1 := h1.len
  have hl2 := h2.len
  obtain ⟨w0, hw0⟩ : ∃ w0, w.alloc (.cells #[.slice A n c, .slice A' n' c'] 34) = w0 := ⟨_, rfl⟩
  have hb0 : Below w.heap.size w w0 := by rw [← hw0]; exact (Below.refl _ _).alloc (Nat.le_refl _) _
  have k0 : Blk w0 w.heap.size 34 #[.slice A n c, .slice A' n' c'] := by rw [← hw0]; exact Blk.new _ _ _
  have h1' := fun W (hb : Below w.heap.size w W) => (h1.step hb).all
  have h2' := fun W (hb : Below w.heap.size w W) => (h2.step hb).all
  have e1 : ∀ s : InC (fun W => Below w0.heap.size w0 W), s.W.cell? ⟨w.heap.size, 0, none⟩ = some (.slice A n c) := fun s => by rw [(k0.step s.ok).cell]; rfl
  have e2 : ∀ s : InC (fun W => Below w0.heap.size w0 W), s.W.cell? ⟨w.heap.size, 1, none⟩ = some (.slice A' n' c') := fun s => by rw [(k0.step s.ok).cell]; rfl
  have H1 := Lib.hid h1'
  have H2 := Lib.hid h2'
  have Hw0 := Lib.hid hw0
  have Hl1 := Lib.hid hl1
  have Hl2 := Lib.hid hl2
  clear h1 h2 h1' h2' hw0 hl1 hl2
  have hx1 := fun W (hb : Below w.heap.size w W) => hF.call l A n c W (H1.out W hb) hn
  have hx2 := fun W (hb : Below w.heap.size w W) => hF.call m A' n' c' W (H2.out W hb) hn'
  have hL1 := hF.len l
  have hL2 := hF.len m
  obtain ⟨x1, hX1⟩ : ∃ x, H l = x := ⟨_, rfl⟩
  obtain ⟨x2, hX2⟩ : ∃ x, H m = x := ⟨_, rfl⟩
  obtain ⟨res, hres⟩ : ∃ r, isC H (l, m) = r := ⟨_, rfl⟩
  rw [hres]
  have hres' : (!(l == m) && x1 == x2) = res := by rw [← hres, ← hX1, ← hX2]; rfl
  rw [hX1] at hx1 hL1
  rw [hX2] at hx2 hL2
  have Hres := Lib.hid hres'
  have Hx1 := Lib.hid hx1
  have Hx2 := Lib.hid hx2
  have HL1 := Lib.hid hL1
  have HL2 := Lib.hid hL2
  have henter := hF.enter
  clear hres hres' hx1 hx2 hL1 hL2 hX1 hX2
  go_enter Try.func70, Try.ntmps70
  go_wp2_with (rw [Hw0.out])
  by_cases he : l = m
  · have hr := Hres.out
    rw [show (l == m) = true by simpa using he, Bool.not_true, Bool.false_and] at hr
    subst hr
    have hq := fun W (hb : Below w.heap.size w W) => bequal_any l m A A' n c n' c' W (H1.out W hb) (H2.out W hb)
    rw [show (l == m) = true by simpa using he] at hq
    have Hq := Lib.hid hq
    clear hq he
    have hS : Below w0.heap.size w0 w0.drew := (Below.refl _ _).drew
    refine wp_region_mix (fun W => Below w0.heap.size w0 W) [(0, true), (1, true), (2, true), (3, true), (4, true), (5, true), (6, true), (7, false), (8, true), (9, true), (10, true), (11, true), (12, true), (13, true), (15, true), (16, true), (17, true), (14, false), (18, false), (19, true), (20, true), (21, true)] (by kernel_rfl) (by kernel_rfl) hS fun _ => ?_
    simp only [List.map_cons, List.map_nil, Array.getD_eq_getD_getElem?, List.getElem?_toArray, List.getElem?_cons_succ, List.getElem?_cons_zero, Option.getD_some]
    generalize w0.drew = u0 at hS ⊢
    refine wpMix_s (fun K hK => ?_)
    go_simp
    refine hK _ ?_
    clear hK K
    refine wpMix_v (by kernel_rfl) (.bool true) (fun s => run_neqnil_op (.tmp 5) (.const .nilFunc) _ rfl rfl rfl s.W) ?_
    simp only [Act.put]
    refine wpMix_s (fun K hK => ?_)
    go_simp
    refine hK _ ?_
    clear hK K
    refine wpMix_s (fun K hK => ?_)
    go_simp
    refine hK _ ?_
    clear hK K
    refine wpMix_s (fun K hK => ?_)
    go_simp
    refine hK _ ?_
    clear hK K
    refine wpMix_s (fun K hK => ?_)
    go_simp
    refine hK _ ?_
    clear hK K
    refine wpMix_s (fun K hK => ?_)
    go_simp
    refine hK _ ?_
    clear hK K
    refine wpMix_c (fun K hK => ?_) hS
    go_simp
    refine (Hq.out u0 (hb0.trans (hS.mono hb0.size))).mono ?_
    rintro e u0e ⟨rfl, hww⟩
    obtain rfl := hww.symm
    refine hK _ _ ?_
    clear hK K
    refine ⟨hS, ?_⟩
    refine wpMix_s (fun K hK => ?_)
    go_simp
    refine hK _ ?_
    clear hK K
    refine wpMix_s (fun K hK => ?_)
    go_simp
    refine hK _ ?_
    clear hK K
    refine wpMix_s (fun K hK => ?_)
    go_simp
    refine hK _ ?_
    clear hK K
    refine wpMix_s (fun K hK => ?_)
    go_simp
    refine hK _ ?_
    clear hK K
    refine wpMix_s (fun K hK => ?_)
    go_simp
    refine hK _ ?_
    clear hK K
    refine wpMix_s (fun K hK => ?_)
    go_simp
    refine hK _ ?_
    clear hK K
    refine wpMix_s (fun K hK => ?_)
    go_simp
    refine hK _ ?_
    clear hK K
    refine wpMix_s (fun K hK => ?_)
    go_simp
    refine hK _ ?_
    clear hK K
    refine wpMix_s (fun K hK => ?_)
    go_simp
    refine hK _ ?_
    clear hK K
    refine wpMix_c (fun K hK => ?_) hS
    go_simp
    refine hK _ _ ?_
    clear hK K
    refine ⟨hS, ?_⟩
    refine wpMix_c (fun K hK => ?_) hS
    go_simp
    refine hK _ _ ?_
    clear hK K
    refine ⟨hS, ?_⟩
    refine wpMix_s (fun K hK => ?_)
    go_simp
    refine hK _ ?_
    clear hK K
    refine wpMix_s (fun K hK => ?_)
    go_simp
    refine hK _ ?_
    clear hK K
    refine wpMix_s (fun K hK => ?_)
    go_simp
    refine hK _ ?_
    clear hK K
    refine wpMix_nil ?_
    intro _
    go_wp2_with fail
    go_ret
    exact ⟨rfl, hb0.trans (hS.mono hb0.size)⟩
  · have hr := Hres.out
    rw [show (l == m) = false by simpa using he, Bool.not_false, Bool.true_and] at hr
    have hq := fun W (hb : Below w.heap.size w W) => bequal_any l m A A' n c n' c' W (H1.out W hb) (H2.out W hb)
    rw [show (l == m) = false by simpa using he] at hq
    have hqq := fun (ρ : Operand → Value) (o : Oper) (a b : Operand) (ty : TypeId) (ho : o.op = .binOp .eql 25 a b ty) (hx : ρ a = .agg (x1.map B).toArray) (hy : ρ b = .agg (x2.map B).toArray) (W : World) => run_eql26 (o := o) (ρ := ρ) a b ty x1 x2 ho hx hy HL1.out HL2.out W
    rw [hr] at hqq
    have Hqq := Lib.hid hqq
    clear hqq
    have Hq := Lib.hid hq
    clear hq he hr
    have hS : Below w0.heap.size w0 w0.drew := (Below.refl _ _).drew
    refine wp_region_mix (fun W => Below w0.heap.size w0 W) [(0, true), (1, true), (2, true), (3, true), (4, true), (5, true), (6, true), (7, false), (8, true), (9, true), (10, true), (11, true), (12, true), (13, true), (15, true), (16, true), (17, true), (14, false), (18, false), (19, true), (20, true), (21, true)] (by kernel_rfl) (by kernel_rfl) hS fun _ => ?_
    simp only [List.map_cons, List.map_nil, Array.getD_eq_getD_getElem?, List.getElem?_toArray, List.getElem?_cons_succ, List.getElem?_cons_zero, Option.getD_some]
    generalize w0.drew = u0 at hS ⊢
    refine wpMix_s (fun K hK => ?_)
    go_simp
    refine hK _ ?_
    clear hK K
    refine wpMix_v (by kernel_rfl) (.bool true) (fun s => run_neqnil_op (.tmp 5) (.const .nilFunc) _ rfl rfl rfl s.W) ?_
    simp only [Act.put]
    refine wpMix_s (fun K hK => ?_)
    go_simp
    refine hK _ ?_
    clear hK K
    refine wpMix_s (fun K hK => ?_)
    go_simp
    refine hK _ ?_
    clear hK K
    refine wpMix_s (fun K hK => ?_)
    go_simp
    refine hK _ ?_
    clear hK K
    refine wpMix_s (fun K hK => ?_)
    go_simp
    refine hK _ ?_
    clear hK K
    refine wpMix_s (fun K hK => ?_)
    go_simp
    refine hK _ ?_
    clear hK K
    refine wpMix_c (fun K hK => ?_) hS
    go_simp
    refine (Hq.out u0 (hb0.trans (hS.mono hb0.size))).mono ?_
    rintro e u0e ⟨rfl, hww⟩
    obtain rfl := hww.symm
    refine hK _ _ ?_
    clear hK K
    refine ⟨hS, ?_⟩
    refine wpMix_s (fun K hK => ?_)
    go_simp
    refine hK _ ?_
    clear hK K
    refine wpMix_s (fun K hK => ?_)
    go_simp
    refine hK _ ?_
    clear hK K
    refine wpMix_s (fun K hK => ?_)
    go_simp
    refine hK _ ?_
    clear hK K
    refine wpMix_s (fun K hK => ?_)
    go_simp
    refine hK _ ?_
    clear hK K
    refine wpMix_s (fun K hK => ?_)
    go_simp
    refine hK _ ?_
    clear hK K
    refine wpMix_s (fun K hK => ?_)
    go_simp
    refine hK _ ?_
    clear hK K
    refine wpMix_s (fun K hK => ?_)
    go_simp
    refine hK _ ?_
    clear hK K
    refine wpMix_s (fun K hK => ?_)
    go_simp
    refine hK _ ?_
    clear hK K
    refine wpMix_s (fun K hK => ?_)
    go_simp
    refine hK _ ?_
    clear hK K
    refine wpMix_c (fun K hK => ?_) hS
    go_simp
    refine (Hx1.out u0 (hb0.trans (hS.mono hb0.size))).mono ?_
    rintro e u0_1 ⟨rfl, hb'⟩
    refine hK _ _ ?_
    clear hK K
    replace hS := hS.trans (hb'.mono hS.size)
    refine ⟨hS, ?_⟩
    clear hb'
    refine wpMix_c (fun K hK => ?_) hS
    go_simp
    refine (Hx2.out u0_1 (hb0.trans (hS.mono hb0.size))).mono ?_
    rintro e u0_2 ⟨rfl, hb'⟩
    refine hK _ _ ?_
    clear hK K
    replace hS := hS.trans (hb'.mono hS.size)
    refine ⟨hS, ?_⟩
    clear hb'
    refine wpMix_v (by kernel_rfl) (.bool res) (fun s => Hqq.out _ _ (.tmp 19) (.tmp 23) _ rfl rfl rfl s.W) ?_
    simp only [Act.put]
    refine wpMix_s (fun K hK => ?_)
    go_simp
    refine hK _ ?_
    clear hK K
    refine wpMix_s (fun K hK => ?_)
    go_simp
    refine hK _ ?_
    clear hK K
    refine wpMix_nil ?_
    intro _
    go_wp2_with fail
    go_ret
    exact ⟨rfl, hb0.trans (hS.mono hb0.size)⟩

set_option maxHeartbeats 4000000 in
set_option maxRecDepth 100000 in
theorem ris_any (kd : Int) (l m : List UInt8) (A A' : Option Addr) (n c n' c' : Nat) (w : World) (h1 : Sl w (fun _ => True) A n c l) (h2 : Sl w (fun _ => True) A' n' c' m) (hn : n ≤ 1099511627776) (hn' : n' ≤ 1099511627776) :
    Calls Try.prog 25 #[.int .i64 kd, .agg #[.slice A n c, .slice A' n' c']] w fun e w' => e = .returned (.bool (isC (hashK kd) (l, m))) ∧ Below w.heap.size w w' := by
  have hroom1 := h1.room
  have hmx1 := h1.max
  unfold maxLen at hmx1
  have hroom2 := h2.room
  have hmx2 := h2.max
  unfold maxLen at hmx2
  have hl1 := h1.len
  have hl2 := h2.len
  obtain ⟨w0, hw0⟩ : ∃ w0, w.alloc (.cells #[.slice A n c, .slice A' n' c'] 34) = w0 := ⟨_, rfl⟩
  have hb0 : Below w.heap.size w w0 := by rw [← hw0]; exact (Below.refl _ _).alloc (Nat.le_refl _) _
  have k0 : Blk w0 w.heap.size 34 #[.slice A n c, .slice A' n' c'] := by rw [← hw0]; exact Blk.new _ _ _
  have h1' := fun W (hb : Below w.heap.size w W) => (h1.step hb).all
  have h2' := fun W (hb : Below w.heap.size w W) => (h2.step hb).all
  have e1 : ∀ s : InC (fun W => Below w0.heap.size w0 W), s.W.cell? ⟨w.heap.size, 0, none⟩ = some (.slice A n c) := fun s => by rw [(k0.step s.ok).cell]; rfl
  have e2 : ∀ s : InC (fun W => Below w0.heap.size w0 W), s.W.cell? ⟨w.heap.size, 1, none⟩ = some (.slice A' n' c') := fun s => by rw [(k0.step s.ok).cell]; rfl
  have H1 := Lib.hid h1'
  have H2 := Lib.hid h2'
  have Hw0 := Lib.hid hw0
  have Hl1 := Lib.hid hl1
  have Hl2 := Lib.hid hl2
  clear h1 h2 h1' h2' hw0 hl1 hl2
  have hx1 := fun W (hb : Below w.heap.size w W) => rhash13_any kd l A n c W (H1.out W hb) hn
  have hx2 := fun W (hb : Below w.heap.size w W) => rhash13_any kd m A' n' c' W (H2.out W hb) hn'
  have hL1 := length_hashK kd l
  have hL2 := length_hashK kd m
  obtain ⟨x1, hX1⟩ : ∃ x, hashK kd l = x := ⟨_, rfl⟩
  obtain ⟨x2, hX2⟩ : ∃ x, hashK kd m = x := ⟨_, rfl⟩
  obtain ⟨res, hres⟩ : ∃ r, isC (hashK kd) (l, m) = r := ⟨_, rfl⟩
  rw [hres]
  have hres' : (!(l == m) && x1 == x2) = res := by rw [← hres, ← hX1, ← hX2]; rfl
  rw [hX1] at hx1 hL1
  rw [hX2] at hx2 hL2
  have Hres := Lib.hid hres'
  have Hx1 := Lib.hid hx1
  have Hx2 := Lib.hid hx2
  have HL1 := Lib.hid hL1
  have HL2 := Lib.hid hL2
  have e3 : ∀ s : InC (fun W => Below w0.heap.size w0 W), (convert 23 9 (.slice A n c)).run Try.prog s.W = .ok (.string (bstr l)) s.W := fun s => run_str (H1.out s.W (hb0.trans (s.ok.mono hb0.size)))
  have e4 : ∀ s : InC (fun W => Below w0.heap.size w0 W), (convert 23 9 (.slice A' n' c')).run Try.prog s.W = .ok (.string (bstr m)) s.W := fun s => run_str (H2.out s.W (hb0.trans (s.ok.mono hb0.size)))
  clear hres hres' hx1 hx2 hL1 hL2 hX1 hX2
  go_enter Try.func25, Try.ntmps25
  go_wp2_with (rw [Hw0.out])
  by_cases he : l = m
  · have hr := Hres.out
    rw [show (l == m) = true by simpa using he, Bool.not_true, Bool.false_and] at hr
    subst hr
    subst he
    have hne := fun (ρ : Operand → Value) (o : Oper) (x y : Operand) (ty : TypeId) (ho : o.op = .binOp .neq 9 x y ty) (hx : ρ x = .string (bstr l)) (hy : ρ y = .string (bstr l)) (W : World) => run_neqs_op (o := o) (ρ := ρ) x y ty l l ho hx hy W
    rw [show (l != l) = false by simp] at hne
    have hS : Below w0.heap.size w0 w0.drew := (Below.refl _ _).drew
    refine wp_region_mix (fun W => Below w0.heap.size w0 W) [(0, true), (1, true), (2, true), (3, true), (4, true), (5, true), (6, true), (7, true), (8, true), (9, true), (10, true), (12, true), (13, true), (14, true), (11, false), (15, false), (16, true), (17, true), (18, true)] (by kernel_rfl) (by kernel_rfl) hS fun _ => ?_
    simp only [List.map_cons, List.map_nil, Array.getD_eq_getD_getElem?, List.getElem?_toArray, List.getElem?_cons_succ, List.getElem?_cons_zero, Option.getD_some]
    generalize w0.drew = u0 at hS ⊢
    refine wpMix_s (fun K hK => ?_)
    go_simp
    refine hK _ ?_
    clear hK K
    refine wpMix_s (fun K hK => ?_)
    go_simp
    refine hK _ ?_
    clear hK K
    refine wpMix_s (fun K hK => ?_)
    go_simp
    refine hK _ ?_
    clear hK K
    refine wpMix_s (fun K hK => ?_)
    go_simp
    refine hK _ ?_
    clear hK K
    refine wpMix_s (fun K hK => ?_)
    go_simp
    refine hK _ ?_
    clear hK K
    refine wpMix_s (fun K hK => ?_)
    go_simp
    refine hK _ ?_
    clear hK K
    refine wpMix_v (by kernel_rfl) (.bool false) (fun s => hne _ _ (.tmp 7) (.tmp 10) _ rfl rfl rfl s.W) ?_
    simp only [Act.put]
    refine wpMix_s (fun K hK => ?_)
    go_simp
    refine hK _ ?_
    clear hK K
    refine wpMix_s (fun K hK => ?_)
    go_simp
    refine hK _ ?_
    clear hK K
    refine wpMix_s (fun K hK => ?_)
    go_simp
    refine hK _ ?_
    clear hK K
    refine wpMix_s (fun K hK => ?_)
    go_simp
    refine hK _ ?_
    clear hK K
    refine wpMix_s (fun K hK => ?_)
    go_simp
    refine hK _ ?_
    clear hK K
    refine wpMix_s (fun K hK => ?_)
    go_simp
    refine hK _ ?_
    clear hK K
    refine wpMix_s (fun K hK => ?_)
    go_simp
    refine hK _ ?_
    clear hK K
    refine wpMix_c (fun K hK => ?_) hS
    go_simp
    refine hK _ _ ?_
    clear hK K
    refine ⟨hS, ?_⟩
    refine wpMix_c (fun K hK => ?_) hS
    go_simp
    refine hK _ _ ?_
    clear hK K
    refine ⟨hS, ?_⟩
    refine wpMix_s (fun K hK => ?_)
    go_simp
    refine hK _ ?_
    clear hK K
    refine wpMix_s (fun K hK => ?_)
    go_simp
    refine hK _ ?_
    clear hK K
    refine wpMix_s (fun K hK => ?_)
    go_simp
    refine hK _ ?_
    clear hK K
    refine wpMix_nil ?_
    intro _
    go_wp2_with fail
    go_ret
    exact ⟨rfl, hb0.trans (hS.mono hb0.size)⟩
  · have hr := Hres.out
    rw [show (l == m) = false by simpa using he, Bool.not_false, Bool.true_and] at hr
    have hne := fun (ρ : Operand → Value) (o : Oper) (x y : Operand) (ty : TypeId) (ho : o.op = .binOp .neq 9 x y ty) (hx : ρ x = .string (bstr l)) (hy : ρ y = .string (bstr m)) (W : World) => run_neqs_op (o := o) (ρ := ρ) x y ty l m ho hx hy W
    rw [show (l != m) = true by simpa using he] at hne
    have hqq := fun (ρ : Operand → Value) (o : Oper) (a b : Operand) (ty : TypeId) (ho : o.op = .binOp .eql 25 a b ty) (hx : ρ a = .agg (x1.map B).toArray) (hy : ρ b = .agg (x2.map B).toArray) (W : World) => run_eql26 (o := o) (ρ := ρ) a b ty x1 x2 ho hx hy HL1.out HL2.out W
    rw [hr] at hqq
    have Hqq := Lib.hid hqq
    clear hqq
    clear he hr
    have hS : Below w0.heap.size w0 w0.drew := (Below.refl _ _).drew
    refine wp_region_mix (fun W => Below w0.heap.size w0 W) [(0, true), (1, true), (2, true), (3, true), (4, true), (5, true), (6, true), (7, true), (8, true), (9, true), (10, true), (12, true), (13, true), (14, true), (11, false), (15, false), (16, true), (17, true), (18, true)] (by kernel_rfl) (by kernel_rfl) hS fun _ => ?_
    simp only [List.map_cons, List.map_nil, Array.getD_eq_getD_getElem?, List.getElem?_toArray, List.getElem?_cons_succ, List.getElem?_cons_zero, Option.getD_some]
    generalize w0.drew = u0 at hS ⊢
    refine wpMix_s (fun K hK => ?_)
    go_simp
    refine hK _ ?_
    clear hK K
    refine wpMix_s (fun K hK => ?_)
    go_simp
    refine hK _ ?_
    clear hK K
    refine wpMix_s (fun K hK => ?_)
    go_simp
    refine hK _ ?_
    clear hK K
    refine wpMix_s (fun K hK => ?_)
    go_simp
    refine hK _ ?_
    clear hK K
    refine wpMix_s (fun K hK => ?_)
    go_simp
    refine hK _ ?_
    clear hK K
    refine wpMix_s (fun K hK => ?_)
    go_simp
    refine hK _ ?_
    clear hK K
    refine wpMix_v (by kernel_rfl) (.bool true) (fun s => hne _ _ (.tmp 7) (.tmp 10) _ rfl rfl rfl s.W) ?_
    simp only [Act.put]
    refine wpMix_s (fun K hK => ?_)
    go_simp
    refine hK _ ?_
    clear hK K
    refine wpMix_s (fun K hK => ?_)
    go_simp
    refine hK _ ?_
    clear hK K
    refine wpMix_s (fun K hK => ?_)
    go_simp
    refine hK _ ?_
    clear hK K
    refine wpMix_s (fun K hK => ?_)
    go_simp
    refine hK _ ?_
    clear hK K
    refine wpMix_s (fun K hK => ?_)
    go_simp
    refine hK _ ?_
    clear hK K
    refine wpMix_s (fun K hK => ?_)
    go_simp
    refine hK _ ?_
    clear hK K
    refine wpMix_s (fun K hK => ?_)
    go_simp
    refine hK _ ?_
    clear hK K
    refine wpMix_c (fun K hK => ?_) hS
    go_simp
    refine (Hx1.out u0 (hb0.trans (hS.mono hb0.size))).mono ?_
    rintro e u0_1 ⟨rfl, hb'⟩
    refine hK _ _ ?_
    clear hK K
    replace hS := hS.trans (hb'.mono hS.size)
    refine ⟨hS, ?_⟩
    clear hb'
    refine wpMix_c (fun K hK => ?_) hS
    go_simp
    refine (Hx2.out u0_1 (hb0.trans (hS.mono hb0.size))).mono ?_
    rintro e u0_2 ⟨rfl, hb'⟩
    refine hK _ _ ?_
    clear hK K
    replace hS := hS.trans (hb'.mono hS.size)
    refine ⟨hS, ?_⟩
    clear hb'
    refine wpMix_v (by kernel_rfl) (.bool res) (fun s => Hqq.out _ _ (.tmp 16) (.tmp 20) _ rfl rfl rfl s.W) ?_
    simp only [Act.put]
    refine wpMix_s (fun K hK => ?_)
    go_simp
    refine hK _ ?_
    clear hK K
    refine wpMix_s (fun K hK => ?_)
    go_simp
    refine hK _ ?_
    clear hK K
    refine wpMix_nil ?_
    intro _
    go_wp2_with fail
    go_ret
    exact ⟨rfl, hb0.trans (hS.mono hb0.size)⟩
end Go.Proofs.Ytonidnfgneokbaa
