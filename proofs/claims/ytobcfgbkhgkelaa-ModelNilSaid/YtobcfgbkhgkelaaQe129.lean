/- notarylaw24.ModelNil. -/
import Derived.Test.YtobcfgbkhgkelaaQe128
namespace Go.Proofs.Ytobcfgbkhgkelaa
open Go Go.RowKit Go.Shelf
attribute [local go_sem] Oper.semAt_some

/-- a model that was never made -/
noncomputable def zmd : Array Value := (Try.prog.built 39 []).getD #[]
theorem built0_md : Try.prog.built 39 [] = some zmd := by kernel_rfl
theorem zmd76 : zmd[76]? = some (.bool false) := by kernel_rfl
set_option maxHeartbeats 16000000 in
set_option maxRecDepth 100000 in
theorem modelNil_any (w : World) (A : Option Addr) (n c : Nat) (k : Int) (fc : Array Value) (hfc : fc.size = 38) :
    Calls Try.prog 3 #[.slice A n c, .int .i64 k, .agg fc] w fun e w' => e = .returned (.bool true) ∧ Below w.heap.size w w' := by
  obtain ⟨w1, hw1⟩ : ∃ x, w.alloc (.cells fc 30) = x := ⟨_, rfl⟩
  have B1 : Below w.heap.size w w1 := by rw [← hw1]; exact (Below.refl _ _).alloc (Nat.le_refl _) _
  have k1 : Blk w1 w.heap.size 30 fc := by rw [← hw1]; exact Blk.new _ _ _
  have hld : ∀ W, Below w1.heap.size w1 W → (Instr.loadAt 30 (.pointer (some ⟨w.heap.size, 0, none⟩))).run Try.prog W = .ok (.agg fc) W := fun W hb =>
    run_load_agg (fdAgg _) (fdSize _) w.heap.size 0 fc.toList (by simpa using hfc) fun j u hu => by
      rw [(k1.step hb).cell, Nat.zero_add, ← Array.getElem?_toList]; exact hu
  have ld1 := hld w1 (Below.refl _ _)
  have Hw1 := Lib.hid hw1
  have Ld1 := Lib.hid ld1
  have Hld := Lib.hid hld
  clear hw1 ld1 hld k1
  go_enter Try.func3, Try.ntmps3
  go_wp2_with (first
    | ((with_reducible show wpList _ _ _ (⟨some 5, .box _ _, _, _, _, _⟩ :: _) _ _); refine wpList_run rfl (.pointer (some ⟨w.heap.size, 0, none⟩)) w1 (by rw [← Hw1.out]; rfl) ?_; simp only [Act.put, List.setIfInBounds_toArray, List.set_cons_succ, List.set_cons_zero])
    | ((with_reducible show wpList _ _ _ (⟨some 11, .load _ _, _, _, _, _⟩ :: _) _ _); refine wpList_runG (by kernel_rfl) _ _ (loadN_op 30 (.tmp 5) w.heap.size rfl rfl Ld1.out) ?_; simp only [Act.put, List.setIfInBounds_toArray, List.set_cons_succ, List.set_cons_zero]))
  refine (nothing_any w1 (.pointer none) (.inl rfl) A n c k fc hfc).mono ?_
  rintro e w2 ⟨rfl, b2⟩
  obtain ⟨w3, hw3⟩ : ∃ x, w2.alloc (.cells zmd 39) = x := ⟨_, rfl⟩
  have b3 : Below w2.heap.size w2 w3 := by rw [← hw3]; exact (Below.refl _ _).alloc (Nat.le_refl _) _
  have b23 := b2.trans (b3.mono b2.size)
  have hno : NoM w3 (.pointer (some ⟨w2.heap.size, 0, none⟩)) := .inr ⟨_, zmd, rfl, by rw [← hw3]; exact Blk.new _ _ _, zmd76⟩
  have ld3 := Hld.out w3 b23
  have Hw3 := Lib.hid hw3
  have Ld3 := Lib.hid ld3
  have B3 := B1.trans (b23.mono B1.size)
  clear hw3 ld3 b2 b3 b23 Hld B1
  go_wp2_with (first
    | ((with_reducible show wpList _ _ _ (⟨some 14, .build _ _, _, _, _, _⟩ :: _) _ _); refine wpList_runG (by kernel_rfl) _ _ (build0_op rfl built0_md _) ?_; simp only [Act.put, List.setIfInBounds_toArray, List.set_cons_succ, List.set_cons_zero])
    | ((with_reducible show wpList _ _ _ (⟨some 15, .box _ _, _, _, _, _⟩ :: _) _ _); refine wpList_runG (by kernel_rfl) (.pointer (some ⟨w2.heap.size, 0, none⟩)) w3 (by rw [← Hw3.out]; rfl) ?_; simp only [Act.put, List.setIfInBounds_toArray, List.set_cons_succ, List.set_cons_zero])
    | ((with_reducible show wpList _ _ _ (⟨some 18, .load _ _, _, _, _, _⟩ :: _) _ _); refine wpList_runG (by kernel_rfl) _ _ (loadN_op 30 (.tmp 5) w.heap.size rfl rfl Ld3.out) ?_; simp only [Act.put, List.setIfInBounds_toArray, List.set_cons_succ, List.set_cons_zero]))
  refine (nothing_any w3 _ hno A n c k fc hfc).mono ?_
  rintro e w4 ⟨rfl, b4⟩
  have B4 := B3.trans (b4.mono B3.size)
  clear hno B3 b4
  go_wp2_with fail
  refine (known24_any w4).mono ?_
  rintro e w5 ⟨rfl, b5⟩
  have B5 := B4.trans (b5.mono B4.size)
  clear B4 b5
  go_wp2_with fail
  go_ret
  exact ⟨rfl, B5⟩
theorem open_found0 {P : Program} {W : World} {base : Nat} {t : TypeId} {fs : Array Field} {v : Value} (ht : P.underlying t = some (.struct fs)) (hct : P.cellsOf t = 38) (hok : Value.okWide P W .any base t v) : ∃ fc, v = .agg fc ∧ fc.size = 38 := by
  simp only [Value.okWide, ht] at hok
  obtain ⟨cs, rfl, hsz, _⟩ := hok
  exact ⟨cs, rfl, hsz.trans hct⟩
end Go.Proofs.Ytobcfgbkhgkelaa
