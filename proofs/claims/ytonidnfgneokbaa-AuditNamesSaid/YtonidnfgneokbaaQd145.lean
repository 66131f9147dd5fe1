/- notarylaw13.AuditNames. -/
import Derived.Test.YtonidnfgneokbaaQd134
import Derived.Test.YtonidnfgneokbaaQd143
import Derived.Test.YtonidnfgneokbaaQd144
namespace Go.Proofs.Ytonidnfgneokbaa
open Go Go.RowKit Go.Shelf
attribute [local go_sem] Oper.semAt_some

theorem run_eqnil2 (W : World) : (binOp .eql 56 .nilFunc .nilFunc).run Try.prog W = .ok (.bool true) W := by
  have hu : Try.prog.underlying 56 = some (.func #[23] #[25] false) := by kernel_rfl
  have heq : (Op.equalIn (9999 + 1) 56 .nilFunc .nilFunc).run Try.prog W = .ok true W := by
    generalize 9999 = D
    simp only [Op.equalIn, Sem.run_bind, run_underlying hu, Result.andThen_ok, Sem.run_pure]
  have e : (binOp .eql 56 .nilFunc .nilFunc).run Try.prog W = ((Op.equalIn 10000 56 .nilFunc .nilFunc).run Try.prog W).andThen fun b w' => .ok (.bool b) w' := by
    simp only [binOp, Op.equal, Op.maxDepth, Sem.run_bind, Sem.run_pure]
  rw [e, show (10000 : Nat) = 9999 + 1 from rfl, heq]
  rfl
theorem run_eqnil2_op {ρ : Operand → Value} {o : Oper} (x y : Operand) (ty : TypeId) (ho : o.op = .binOp .eql 56 x y ty) (hx : ρ x = .nilFunc) (hy : ρ y = .nilFunc) (W : World) : (execOp ρ o).run Try.prog W = .ok (.value (.bool true)) W := by
  have hg : eqGuard .eql 56 x y .nilFunc .nilFunc = pure () := rfl
  unfold execOp
  simp only [ho, hx, hy, hg, Sem.run_bind, Sem.run_pure, run_eqnil2, Result.andThen_ok]
theorem run_make_bss (w : World) (m : Nat) (hm : m ≤ 4398046511104) :
    (Instr.makeSlice 22 (.int .i64 (m : Int)) (.int .i64 (m : Int))).run Try.prog w = .ok (.slice (some ⟨w.heap.size, 0, none⟩) m m) (w.alloc (.cells (List.replicate m (Value.slice none 0 0)).toArray 23)) := by
  obtain ⟨i, hi⟩ : ∃ i, Try.prog.info? 23 = some i := Option.isSome_iff_exists.1 (by kernel_rfl)
  have hz : i.zero = some (.slice none 0 0) := by
    have : (Try.prog.info? 23).bind (·.zero) = some (.slice none 0 0) := by kernel_rfl
    rw [hi] at this; exact this
  have hs : i.size = 1 := by
    have : (Try.prog.info? 23).map (·.size) = some 1 := by kernel_rfl
    rw [hi] at this; exact Option.some.inj this
  have hby : i.bytes = 24 := by
    have : (Try.prog.info? 23).map (·.bytes) = some 24 := by kernel_rfl
    rw [hi] at this; exact Option.some.inj this
  have := run_make (P := Try.prog) w 22 23 i _ Try.underlying22 hi hz .i64 .i64 m m (by omega) (by omega) (by rw [hby]; omega) (by omega)
  rw [this, hs, Nat.mul_one, Int.toNat_natCast]
  have hm : madeCells (Value.slice none 0 0).cells m = (List.replicate m (Value.slice none 0 0)).toArray := by
    apply Array.ext'
    rw [show (Value.slice none 0 0).cells = #[Value.slice none 0 0] from rfl, toList_madeCells_one]
  rw [hm]
theorem Es.zeros (W : World) (m : Nat) (hm : m ≤ 4398046511104) : Es (W.alloc (.cells (List.replicate m (Value.slice none 0 0)).toArray 23)) (fun _ => True) (some ⟨W.heap.size, 0, none⟩) m m (List.replicate m []) := by
  refine ⟨⟨List.replicate m (Value.slice none 0 0), SlV.lit (s := 1) W (fun _ => True) 23 _ (by simp) (by unfold maxLen; omega) trivial, fun i hi => ?_⟩, by simp⟩
  rw [List.length_replicate] at hi
  rw [List.getElem_replicate]
  exact ⟨none, 0, by rw [List.getElem?_replicate, if_pos hi]; rfl, ⟨Bs.nil, rfl, Nat.le_refl _, fun _ => ⟨rfl, rfl⟩, Nat.zero_le _⟩⟩

set_option maxHeartbeats 4000000 in
set_option maxRecDepth 100000 in
theorem inclnil_any (A A' Ap : Option Addr) (n c n' c' np cp : Nat) (i : Int) (w : World) :
    Calls Try.prog 31 #[.nilFunc, .slice A n c, .int .i64 i, .slice A' n' c', .slice Ap np cp] w fun e w' => e = .returned (.tuple #[.agg #[.slice none 0 0, .slice none 0 0], .int .i64 1]) ∧ Below w.heap.size w w' := by
  obtain ⟨w0, hw0⟩ : ∃ w0, w.alloc (.cells #[.int .i64 i] 2) = w0 := ⟨_, rfl⟩
  have hb0 : Below w.heap.size w w0 := by rw [← hw0]; exact (Below.refl _ _).alloc (Nat.le_refl _) _
  have Hw0 := Lib.hid hw0
  clear hw0
  go_enter Try.func31, Try.ntmps31
  refine Code.wp_mono (fun _ _ _ h => BP.out h) ?_
  go_wp2_with (first
    | ((with_reducible show wpList _ _ _ (⟨some 10, .alloc _, _, _, _, _⟩ :: _) _ _); rw [Hw0.out]; refine wpList_clnew rfl rfl ?_; intro w1 k10 hb1; have hb2 := hb0.trans (hb1.mono hb0.size); have hz0 := hb0.size; simp only [Act.put])
    | ((with_reducible show wpList _ _ _ (⟨some 24, .binOp _ _ _ _ _, _, _, _, _⟩ :: _) _ _); refine wpList_run0 rfl (.bool true) (run_eqnil2_op (.tmp 23) (.const .nilFunc) _ rfl rfl rfl _) ?_; simp only [Act.put])
    | ((with_reducible show wpList _ _ _ (⟨some 25, .build _ _, _, _, _, _⟩ :: _) _ _); refine wpList_run0 rfl (.agg #[.slice none 0 0, .slice none 0 0]) (by kernel_rfl) ?_; simp only [Act.put])
    | ((with_reducible show wpList _ _ _ (⟨none, .store _ (.tmp 10) (.tmp 25), _, _, _, _⟩ :: _) _ _); refine wpList_clset (.tmp 10) (.tmp 25) rfl rfl k10 rfl rfl rfl rfl ?_; intro W3 k10s hb3 hW3; clear hW3; have hbE := hb2.trans (hb3.mono hz0); simp only [Act.put]))
  exact ⟨bodyPost_ret (ret_clash2 rfl rfl k10s) rfl ⟨rfl, hbE⟩⟩
set_option maxHeartbeats 4000000 in
set_option maxRecDepth 100000 in
theorem consnil_any (A Ap : Option Addr) (n c np cp : Nat) (i : Int) (fi : List UInt8) (w : World) :
    Calls Try.prog 32 #[.nilFunc, .slice A n c, .int .i64 i, .agg (fi.map B).toArray, .slice Ap np cp] w fun e w' => e = .returned (.tuple #[.agg #[.slice none 0 0, .slice none 0 0], .int .i64 1]) ∧ Below w.heap.size w w' := by
  obtain ⟨w0, hw0⟩ : ∃ w0, w.alloc (.cells (fi.map B).toArray 25) = w0 := ⟨_, rfl⟩
  have hb0 : Below w.heap.size w w0 := by rw [← hw0]; exact (Below.refl _ _).alloc (Nat.le_refl _) _
  have Hw0 := Lib.hid hw0
  clear hw0
  go_enter Try.func32, Try.ntmps32
  refine Code.wp_mono (fun _ _ _ h => BP.out h) ?_
  go_wp2_with (first
    | ((with_reducible show wpList _ _ _ (⟨some 10, .alloc _, _, _, _, _⟩ :: _) _ _); rw [Hw0.out]; refine wpList_clnew rfl rfl ?_; intro w1 k10 hb1; have hb2 := hb0.trans (hb1.mono hb0.size); have hz0 := hb0.size; simp only [Act.put])
    | ((with_reducible show wpList _ _ _ (⟨some 27, .binOp _ _ _ _ _, _, _, _, _⟩ :: _) _ _); refine wpList_run0 rfl (.bool true) (run_eqnil2_op (.tmp 26) (.const .nilFunc) _ rfl rfl rfl _) ?_; simp only [Act.put])
    | ((with_reducible show wpList _ _ _ (⟨some 28, .build _ _, _, _, _, _⟩ :: _) _ _); refine wpList_run0 rfl (.agg #[.slice none 0 0, .slice none 0 0]) (by kernel_rfl) ?_; simp only [Act.put])
    | ((with_reducible show wpList _ _ _ (⟨none, .store _ (.tmp 10) (.tmp 28), _, _, _, _⟩ :: _) _ _); refine wpList_clset (.tmp 10) (.tmp 28) rfl rfl k10 rfl rfl rfl rfl ?_; intro W3 k10s hb3 hW3; clear hW3; have hbE := hb2.trans (hb3.mono hz0); simp only [Act.put]))
  exact ⟨bodyPost_ret (ret_clash2 rfl rfl k10s) rfl ⟨rfl, hbE⟩⟩
set_option maxHeartbeats 4000000 in
set_option maxRecDepth 100000 in
theorem listsnil_any (A A' : Option Addr) (n c n' c' : Nat) (w : World) :
    Calls Try.prog 33 #[.nilFunc, .slice A n c, .slice A' n' c'] w fun e w' => e = .returned (.tuple #[.agg #[.slice none 0 0, .slice none 0 0], .int .i64 1]) ∧ Below w.heap.size w w' := by
  have hz0 := Nat.le_refl w.heap.size
  go_enter Try.func33, Try.ntmps33
  refine Code.wp_mono (fun _ _ _ h => BP.out h) ?_
  go_wp2_with (first
    | ((with_reducible show wpList _ _ _ (⟨some 6, .alloc _, _, _, _, _⟩ :: _) _ _); refine wpList_clnew rfl rfl ?_; intro w1 k10 hb2; simp only [Act.put])
    | ((with_reducible show wpList _ _ _ (⟨some 12, .binOp _ _ _ _ _, _, _, _, _⟩ :: _) _ _); refine wpList_run0 rfl (.bool true) (run_eqnil2_op (.tmp 11) (.const .nilFunc) _ rfl rfl rfl _) ?_; simp only [Act.put])
    | ((with_reducible show wpList _ _ _ (⟨some 13, .build _ _, _, _, _, _⟩ :: _) _ _); refine wpList_run0 rfl (.agg #[.slice none 0 0, .slice none 0 0]) (by kernel_rfl) ?_; simp only [Act.put])
    | ((with_reducible show wpList _ _ _ (⟨none, .store _ (.tmp 6) (.tmp 13), _, _, _, _⟩ :: _) _ _); refine wpList_clset (.tmp 6) (.tmp 13) rfl rfl k10 rfl rfl rfl rfl ?_; intro W3 k10s hb3 hW3; clear hW3; have hbE := hb2.trans (hb3.mono hz0); simp only [Act.put]))
  exact ⟨bodyPost_ret (ret_clash2 rfl rfl k10s) rfl ⟨rfl, hbE⟩⟩

set_option maxHeartbeats 16000000 in
set_option maxRecDepth 100000 in
theorem auditnames_any (w : World) : Calls Try.prog 6 #[] w fun e w' => e = .returned (.bool true) ∧ Below w.heap.size w w' := by
  obtain ⟨z, hz⟩ : ∃ z, List.replicate 4097 (0 : UInt8) = z := ⟨_, rfl⟩
  have hzl : z.length = 4097 := by rw [← hz]; exact List.length_replicate
  have hmk := fun W => run_make_u8 W 4097 4097 (Nat.le_refl _) (by decide)
  rw [hz] at hmk
  obtain ⟨y, hy⟩ : ∃ y, List.replicate 65537 ([] : List UInt8) = y := ⟨_, rfl⟩
  have hyl : y.length = 65537 := by rw [← hy]; exact List.length_replicate
  have hmy := fun W => run_make_bss W 65537 (by decide)
  have hye := fun W => Es.zeros W 65537 (by decide)
  rw [hy] at hye
  obtain ⟨ys, hys⟩ : ∃ ys, (List.replicate 65537 (Value.slice none 0 0)).toArray = ys := ⟨_, rfl⟩
  rw [hys] at hmy hye
  have hI := inclC_2 (hashK 3) [[1]] 0 z [] (.inr (by rw [hzl]; decide))
  have hL1 := listsC_2 (hashK 3) [z] [[1]] (.inl (by unfold bigD; simp [hzl]))
  have hL2 := listsC_2 (hashK 3) y [] (.inl (by unfold bigD; simp [hyl]))
  obtain ⟨c0, hc0⟩ : ∃ c : PairV, noC = c := ⟨_, rfl⟩
  rw [hc0] at hI hL1 hL2
  have Hmk := Lib.hid hmk
  have Hzl := Lib.hid hzl
  have Hmy := Lib.hid hmy
  have Hye := Lib.hid hye
  have HI := Lib.hid hI
  have HL1 := Lib.hid hL1
  have HL2 := Lib.hid hL2
  clear hz hzl hmk hy hyl hmy hye hys hI hL1 hL2 hc0
  go_enter Try.func6, Try.ntmps6
  go_wp2_with (first
    | ((with_reducible show wpList _ _ _ (⟨some 14, .buildSlice _ _ _, _, _, _, _⟩ :: _) _ _); refine wpList_run rfl (.slice (some ⟨w.heap.size, 0, none⟩) 1 1) (w.alloc (.cells #[.int .u8 1] 5)) (by kernel_rfl) ?_; have s1 : Sl (w.alloc (.cells #[.int .u8 1] 5)) (fun _ => True) (some ⟨w.heap.size, 0, none⟩) 1 1 [1] := ⟨Bs.new w (fun _ => True) 5 ([(1 : UInt8)].map B) trivial, rfl, Nat.le_refl _, by simp, by decide⟩; have hb : Below w.heap.size w (w.alloc (.cells #[.int .u8 1] 5)) := (Below.refl _ _).alloc (Nat.le_refl _) _; generalize w.alloc (.cells #[.int .u8 1] 5) = w1 at s1 hb ⊢; simp only [Act.put])
    | ((with_reducible show wpList _ _ _ (⟨some 15, .buildSlice _ _ _, _, _, _, _⟩ :: _) _ _); refine wpList_run rfl (.slice (some ⟨w1.heap.size, 0, none⟩) 1 1) (w1.alloc (.cells #[.slice (some ⟨w.heap.size, 0, none⟩) 1 1] 23)) (by kernel_rfl) ?_; have hE := Es.lit1 w1 _ 1 1 [1] s1; have hbb : Below w1.heap.size w1 (w1.alloc (.cells #[.slice (some ⟨w.heap.size, 0, none⟩) 1 1] 23)) := (Below.refl _ _).alloc (Nat.le_refl _) _; have c19 : (w1.alloc (.cells #[.slice (some ⟨w.heap.size, 0, none⟩) 1 1] 23)).cell? ⟨w1.heap.size, 0, none⟩ = some (.slice (some ⟨w.heap.size, 0, none⟩) 1 1) := (by rw [(Blk.new w1 23 #[.slice (some ⟨w.heap.size, 0, none⟩) 1 1]).cell]; rfl); generalize w1.alloc (.cells #[.slice (some ⟨w.heap.size, 0, none⟩) 1 1] 23) = w2 at hE hbb c19 ⊢; replace hb := hb.trans (hbb.mono hb.size); clear hbb; simp only [Act.put]))
  obtain ⟨ga, hga⟩ : ∃ g, w1.heap.size = g := ⟨_, rfl⟩
  rw [hga] at hE c19 ⊢
  clear hga s1
  refine (inclnil_any _ _ _ _ _ _ _ _ _ _ _).mono ?_
  rintro e w3 ⟨rfl, hbb⟩
  replace hE := hE.step hbb
  replace hb := hb.trans (hbb.mono hb.size)
  clear hbb c19
  go_wp2_with (first
    | ((with_reducible show wpList _ _ _ (⟨some 2, .alloc _, _, _, _, _⟩ :: _) _ _); refine wpList_clvar (.tmp 2) (.tmp 22) rfl rfl rfl rfl rfl rfl rfl rfl ?_; intro wB2 _ hbb; replace hE := hE.step hbb; replace hb := hb.trans (hbb.mono hb.size); clear hbb; simp only [Act.put])
    | ((with_reducible show wpList _ _ _ (⟨some 26, .build _ _, _, _, _, _⟩ :: _) _ _); refine wpList_run0 rfl (.agg (zero32.map B).toArray) (by kernel_rfl) ?_; simp only [Act.put]))
  refine (consnil_any _ _ _ _ _ _ _ zero32 _).mono ?_
  rintro e w4 ⟨rfl, hbb⟩
  replace hE := hE.step hbb
  replace hb := hb.trans (hbb.mono hb.size)
  clear hbb
  go_wp2_with (first
    | ((with_reducible show wpList _ _ _ (⟨some 4, .alloc _, _, _, _, _⟩ :: _) _ _); refine wpList_clvar (.tmp 4) (.tmp 28) rfl rfl rfl rfl rfl rfl rfl rfl ?_; intro wB4 _ hbb; replace hE := hE.step hbb; replace hb := hb.trans (hbb.mono hb.size); clear hbb; simp only [Act.put]))
  refine (listsnil_any _ _ _ _ _ _ _).mono ?_
  rintro e w5 ⟨rfl, hbb⟩
  replace hE := hE.step hbb
  replace hb := hb.trans (hbb.mono hb.size)
  clear hbb
  go_wp2_with (first
    | ((with_reducible show wpList _ _ _ (⟨some 6, .alloc _, _, _, _, _⟩ :: _) _ _); refine wpList_clvar (.tmp 6) (.tmp 34) rfl rfl rfl rfl rfl rfl rfl rfl ?_; intro wB6 _ hbb; replace hE := hE.step hbb; replace hb := hb.trans (hbb.mono hb.size); clear hbb; simp only [Act.put])
    | ((with_reducible show wpList _ _ _ (⟨some 38, .makeSlice _ _ _, _, _, _, _⟩ :: _) _ _); refine wpList_run rfl (.slice (some ⟨wB6.heap.size, 0, none⟩) 4097 4097) (wB6.alloc (.cells (z.map B).toArray 5)) (run_make13_op (.const (.int .i64 4097)) (.const (.int .i64 4097)) rfl _ _ rfl rfl (Hmk.out wB6)) ?_; have sz : Sl (wB6.alloc (.cells (z.map B).toArray 5)) (fun _ => True) (some ⟨wB6.heap.size, 0, none⟩) 4097 4097 z := ⟨Bs.new wB6 (fun _ => True) 5 (z.map B) trivial, Hzl.out, Nat.le_refl _, by simp, by decide⟩; have hbb : Below wB6.heap.size wB6 (wB6.alloc (.cells (z.map B).toArray 5)) := (Below.refl _ _).alloc (Nat.le_refl _) _; generalize wB6.alloc (.cells (z.map B).toArray 5) = wM at sz hbb ⊢; replace hE := hE.step hbb; replace hb := hb.trans (hbb.mono hb.size); clear hbb; simp only [Act.put]))
  have hq := aincl_any none13_fn [[1]] _ _ _ 0 z _ 4097 4097 [] _ _ _ _ hE sz (Hs.nilH _)
  rw [HI.out] at hq
  refine hq.mono ?_
  clear hq sz
  rintro e w6 ⟨v, rfl, ⟨a8, a9, rfl, ho8, ho9⟩, hbb⟩
  have o8 := owns_oneCell ho8
  have o9 := owns_oneCell ho9
  clear ho8 ho9
  replace hE := hE.step hbb
  replace hb := hb.trans (hbb.mono hb.size)
  clear hbb
  go_wp2_with (first
    | ((with_reducible show wpList _ _ _ (⟨some 8, .alloc _, _, _, _, _⟩ :: _) _ _); refine wpList_clvar (.tmp 8) (.tmp 40) rfl rfl rfl rfl rfl rfl o8 o9 ?_; intro wB8 _ hbb; replace hE := hE.step hbb; replace hb := hb.trans (hbb.mono hb.size); clear hbb; simp only [Act.put])
    | ((with_reducible show wpList _ _ _ (⟨some 43, .makeSlice _ _ _, _, _, _, _⟩ :: _) _ _); refine wpList_run rfl (.slice (some ⟨wB8.heap.size, 0, none⟩) 4097 4097) (wB8.alloc (.cells (z.map B).toArray 5)) (run_make13_op (.const (.int .i64 4097)) (.const (.int .i64 4097)) rfl _ _ rfl rfl (Hmk.out wB8)) ?_; have sz : Sl (wB8.alloc (.cells (z.map B).toArray 5)) (fun _ => True) (some ⟨wB8.heap.size, 0, none⟩) 4097 4097 z := ⟨Bs.new wB8 (fun _ => True) 5 (z.map B) trivial, Hzl.out, Nat.le_refl _, by simp, by decide⟩; have hbb : Below wB8.heap.size wB8 (wB8.alloc (.cells (z.map B).toArray 5)) := (Below.refl _ _).alloc (Nat.le_refl _) _; generalize wB8.alloc (.cells (z.map B).toArray 5) = wM at sz hbb ⊢; replace hE := hE.step hbb; replace hb := hb.trans (hbb.mono hb.size); clear hbb; generalize wB8.heap.size = gm at sz ⊢; simp only [Act.put])
    | ((with_reducible show wpList _ _ _ (⟨some 44, .buildSlice _ _ _, _, _, _, _⟩ :: _) _ _); refine wpList_run rfl (.slice (some ⟨wM.heap.size, 0, none⟩) 1 1) (wM.alloc (.cells #[.slice (some ⟨gm, 0, none⟩) 4097 4097] 23)) (by kernel_rfl) ?_; have hZ := Es.lit1 wM _ 4097 4097 z sz; have hbb : Below wM.heap.size wM (wM.alloc (.cells #[.slice (some ⟨gm, 0, none⟩) 4097 4097] 23)) := (Below.refl _ _).alloc (Nat.le_refl _) _; generalize wM.alloc (.cells #[.slice (some ⟨gm, 0, none⟩) 4097 4097] 23) = wL at hZ hbb ⊢; replace hE := hE.step hbb; replace hb := hb.trans (hbb.mono hb.size); clear hbb; simp only [Act.put]))
  have hq := alists_any none13_fn [z] [[1]] _ _ _ _ _ _ _ hZ hE
  rw [HL1.out] at hq
  refine hq.mono ?_
  clear hq sz hZ o8 o9
  rintro e w7 ⟨v, rfl, ⟨a8, a9, rfl, ho8, ho9⟩, hbb⟩
  have o8 := owns_oneCell ho8
  have o9 := owns_oneCell ho9
  clear ho8 ho9 hE
  replace hb := hb.trans (hbb.mono hb.size)
  clear hbb
  go_wp2_with (first
    | ((with_reducible show wpList _ _ _ (⟨some 10, .alloc _, _, _, _, _⟩ :: _) _ _); refine wpList_clvar (.tmp 10) (.tmp 47) rfl rfl rfl rfl rfl rfl o8 o9 ?_; intro wB _ hbb; replace hb := hb.trans (hbb.mono hb.size); clear hbb; simp only [Act.put])
    | ((with_reducible show wpList _ _ _ (⟨some 50, .makeSlice _ _ _, _, _, _, _⟩ :: _) _ _); refine wpList_run rfl (.slice (some ⟨wB.heap.size, 0, none⟩) 65537 65537) (wB.alloc (.cells ys 23)) (run_make13_op (.const (.int .i64 65537)) (.const (.int .i64 65537)) rfl _ _ rfl rfl (Hmy.out wB)) ?_; have hY := Hye.out wB; have hbb : Below wB.heap.size wB (wB.alloc (.cells ys 23)) := (Below.refl _ _).alloc (Nat.le_refl _) _; generalize wB.alloc (.cells ys 23) = wY at hY hbb ⊢; replace hb := hb.trans (hbb.mono hb.size); clear hbb; simp only [Act.put]))
  have hq := alists_any none13_fn y [] _ _ _ _ _ _ _ hY (Es.nilE _)
  rw [HL2.out] at hq
  refine hq.mono ?_
  clear hq hY o8 o9
  rintro e w8 ⟨v, rfl, ⟨a8, a9, rfl, ho8, ho9⟩, hbb⟩
  have o8 := owns_oneCell ho8
  have o9 := owns_oneCell ho9
  clear ho8 ho9
  replace hb := hb.trans (hbb.mono hb.size)
  clear hbb
  go_wp2_with (first
    | ((with_reducible show wpList _ _ _ (⟨some 12, .alloc _, _, _, _, _⟩ :: _) _ _); refine wpList_clvar (.tmp 12) (.tmp 52) rfl rfl rfl rfl rfl rfl o8 o9 ?_; intro wC _ hbb; replace hb := hb.trans (hbb.mono hb.size); clear hbb; simp only [Act.put])
    | (go_at_call 19; refine (num13_any _ _).mono ?_; rintro e w14 ⟨rfl, hww⟩; obtain rfl : wC = w14 := by first | exact hww | exact hww.symm)
    | (go_at_call 14; refine (known13_any _).mono ?_; rintro e w15 ⟨rfl, hb15⟩))
  go_ret
  exact ⟨rfl, hb.trans (hb15.mono hb.size)⟩
end Go.Proofs.Ytonidnfgneokbaa
