/- notarylaw08.row, left. -/
import Derived.Test.YtdkgndjomkbbjaaHSame
import Derived.Test.YtdkgndjomkbbjaaSpoil
import Derived.Test.YtdkgndjomkbbjaaNil
namespace Go.Proofs.Ytdkgndjomkbbjaa
open Go Go.RowKit

theorem sizeH : ∀ w : World, (sizeOf (Try.prog.elem 57)).run Try.prog w = .ok 32 w := fun _ => by kernel_rfl
theorem sliceH : Try.prog.underlying 57 = some (.slice (Try.prog.elem 57)) := by kernel_rfl
theorem run_load_op {P : Program} {ρ : Operand → Value} {o : Oper} {w : World} (ty : TypeId) (x : Operand) (ho : o.op = .load ty x) (g off : Nat) (hx : ρ x = .pointer (some ⟨g, off, none⟩)) (v : Value) (h : (Instr.loadAt ty (.pointer (some ⟨g, off, none⟩))).run P w = .ok v w) :
    (execOp ρ o).run P w = .ok (.value v) w := by
  unfold execOp
  simp only [ho, hx, Sem.run_bind, Sem.run_pure, h, Result.andThen_ok]
/-- a row's part that is shown -/
theorem owns_fewer {w : World} {base g n m c s : Nat} {e : TypeId} {xs : List Value} (h : w.ownsRow base e s (.slice (some ⟨g, 0, none⟩) m c) m xs) (hn : n ≤ m) :
    w.ownsRow base e s (.slice (some ⟨g, 0, none⟩) n c) n (xs.take (n * s)) := by
  have hl := h.1
  have hns : n * s ≤ m * s := Nat.mul_le_mul_right _ hn
  refine ⟨by rw [List.length_take, hl]; omega, ?_⟩
  rcases h.2 with ⟨hv, _⟩ | ⟨g', cap, cur, hv', hbg, hg, hnc, hcm, hcs, ht⟩
  · cases hv
  · cases hv'
    exact .inr ⟨g, c, cur, rfl, hbg, hg, by omega, hcm, hcs, by rw [← ht, List.take_take, Nat.min_eq_left hns]⟩
theorem Hs.fewer {W : World} {X : Nat → Prop} {A : Option Addr} {n m c : Nat} {hs ms : List (List UInt8)} (h : Hs W X A m c (hs ++ ms)) (hn : hs.length = n) : Hs W X A n c hs := by
  subst hn
  have := h.take hs.length (by rw [← h.len, List.length_append]; omega)
  rwa [List.take_left] at this

set_option maxHeartbeats 400000 in
set_option maxRecDepth 100000 in
theorem row_any (hs : List (List UInt8)) (A : Option Addr) (n c : Nat) (w : World) (h : Hs w (fun _ => True) A n c hs) (hn : n ≤ 1099511627776) :
    Calls Try.prog 39 #[.slice A n c] w fun e w' => ∃ g c', e = .returned (.slice (some ⟨g, 0, none⟩) n c') ∧ w'.ownsRow w.heap.size 26 32 (.slice (some ⟨g, 0, none⟩) (n + 1) c') (n + 1) (hcells (hs ++ [oneHash 165])) ∧ Below w.heap.size w w' := by
  obtain ⟨x, hx⟩ : ∃ x, oneHash 165 = x := ⟨_, rfl⟩
  have hxl : x.length = 32 := by rw [← hx]; exact length_oneHash _
  rw [hx]
  obtain ⟨w0, hw0⟩ : ∃ w0, w.alloc (.cells #[] 26) = w0 := ⟨_, rfl⟩
  have b0 : Below w.heap.size w w0 := by rw [← hw0]; exact (Below.refl _ _).alloc (Nat.le_refl _) _
  have o0 : w0.ownsRow w.heap.size 26 32 (.slice (some ⟨w.heap.size, 0, none⟩) 0 0) 0 [] := by
    rw [← hw0]; exact World.ownsRow_lit (base := w.heap.size) (e := 26) (size := 32) w #[] 0 (Nat.le_refl _) (by decide) rfl
  obtain ⟨v1, w1, hr1, ho1, hg1, -⟩ := append_slv (ty := 57) Try.underlying57 info26z (by simp [Value.cells]) (by decide) o0 (h.step b0).sl (oneB _) (by unfold maxLen; omega) (by omega) b0.size
  rw [Nat.zero_add, List.nil_append] at ho1
  have b1 := b0.grown hg1 b0.size (fun k hk => (o0.lt k hk).1)
  have h32 : H32 [x] := by intro h hh; rw [List.mem_singleton.1 hh]; exact hxl
  have bA : Below w1.heap.size w1 (w1.alloc (.cells (hcells [x]).toArray 26)) := (Below.refl _ _).alloc (Nat.le_refl _) _
  have ho2 := owns_step ho1 bA
  have b2 := b1.trans (bA.mono b1.size)
  obtain ⟨v3, w3, hr3, ho3, hg3, -⟩ := append_slv (ty := 57) Try.underlying57 info26z (by simp [Value.cells]) (by decide) ho2 (Hs.lit w1 [x] h32 (by simp) 1 rfl).sl (oneB _) (by unfold maxLen; omega) (by omega) b2.size
  rw [← hcells_append] at ho3
  have b3 := b2.grown hg3 b2.size (fun k hk => (ho2.lt k hk).1)
  obtain ⟨g, c3, rfl, hc3, hcm⟩ : ∃ g c3, v3 = .slice (some ⟨g, 0, none⟩) (n + 1) c3 ∧ n + 1 ≤ c3 ∧ c3 ≤ maxLen := by
    rcases ho3.2 with ⟨_, h0⟩ | ⟨g, cap, cur, hv, _, _, h1, h2, _⟩
    · omega
    · exact ⟨g, cap, hv, h1, h2⟩
  unfold maxLen at hcm
  have sl1 := fun W => run_slice_high (P := Try.prog) sliceH sizeH (some ⟨g, 0, none⟩) (n + 1) c3 n (by omega) W
  have Hw0 := Lib.hid hw0
  have Hr1 := Lib.hid hr1
  have Hr3 := Lib.hid hr3
  have Hx := Lib.hid hx
  clear hw0 hr1 hr3 hx hg1 hg3 ho1 ho2 o0 b0 b1 b2 bA h
  go_enter Try.func39, Try.ntmps39
  go_wp2_with (first
    | ((with_reducible show wpList _ _ _ (⟨some 5, .call _, _, _, _, _⟩ :: _) _ _); rw [Hw0.out]; refine wpList_run rfl v1 w1 (run_append_op (.tmp 3) (.tmp 4) 57 rfl _ _ rfl rfl Hr1.out) ?_; simp only [Act.put])
    | ((with_reducible show wpList _ _ _ (⟨some 6, .build _ _, _, _, _, _⟩ :: _) _ _); refine wpList_run0 rfl (.agg (x.map B).toArray) (by rw [← Hx.out]; kernel_rfl) ?_; simp only [Act.put])
    | ((with_reducible show wpList _ _ _ (⟨some 7, .buildSlice _ _ _, _, _, _, _⟩ :: _) _ _); refine wpList_run rfl _ _ (run_lit_op [x] h32 (by simp) (by simp) 1 _ rfl (by simp [Act.eval]) rfl _) ?_; simp only [Act.put])
    | ((with_reducible show wpList _ _ _ (⟨some 8, .call _, _, _, _, _⟩ :: _) _ _); refine wpList_run rfl _ w3 (run_append_op (.tmp 5) (.tmp 7) 57 rfl _ _ rfl rfl Hr3.out) ?_; simp only [Act.put]))
  go_ret
  exact ⟨g, c3, rfl, ho3, b3⟩

set_option maxHeartbeats 400000 in
set_option maxRecDepth 100000 in
theorem left_any (hs : List (List UInt8)) (g : Nat) (A : Option Addr) (n c' c : Nat) (w : World) (h : Hs w (fun _ => True) (some ⟨g, 0, none⟩) (n + 1) c' (hs ++ [oneHash 165])) (h2 : Hs w (fun _ => True) A n c hs) (hn : n ≤ 1099511627776) :
    Calls Try.prog 45 #[.slice (some ⟨g, 0, none⟩) n c', .slice A n c] w fun e w' => e = .returned (.bool true) ∧ Below w.heap.size w w' := by
  have hsame := same_any hs (some ⟨g, 0, none⟩) A n c' c w (h.fewer h2.len) h2 (by omega)
  have hroom := h.sl.room
  have hmax := h.sl.max
  unfold maxLen at hmax
  have sl1 := fun W => run_slice_high (P := Try.prog) sliceH sizeH (some ⟨g, 0, none⟩) n c' (n + 1) (by omega) W
  have en : ((n + 1 : Nat) : Int) = (n : Int) + 1 := by omega
  rw [en] at sl1
  clear en
  obtain ⟨x, hx⟩ : ∃ x, oneHash 165 = x := ⟨_, rfl⟩
  have hxl : x.length = 32 := by rw [← hx]; exact length_oneHash _
  rw [hx] at h
  have hld : ∀ W, Below w.heap.size w W → (Instr.loadAt 26 (.pointer (some ⟨g, n * 32, none⟩))).run Try.prog W = .ok (.agg (x.map B).toArray) W := fun W hW => by
    obtain ⟨b, o, hA, -, -, hat⟩ := (h.step hW).at_ (by omega)
    cases hA
    have := hat n (by omega)
    rw [Nat.zero_add, List.getD_eq_getElem?_getD, List.getElem?_append_right (by rw [h2.len]; exact Nat.le_refl _), h2.len, Nat.sub_self] at this
    exact this
  have Hx := Lib.hid hx
  have Hxl := Lib.hid hxl
  have Hld := Lib.hid hld
  have Hsame := Lib.hid hsame
  clear hx hxl hld hsame h h2
  go_enter Try.func45, Try.ntmps45
  go_wp2_with fail
  refine Hsame.out.mono ?_
  rintro e w2 ⟨rfl, hb2⟩
  go_wp2_with (first
    | ((with_reducible show wpList _ _ _ (⟨some 17, .load _ _, _, _, _, _⟩ :: _) _ _); refine wpList_runG (by kernel_rfl) (.agg (x.map B).toArray) w2 (run_load_op 26 (.tmp 16) rfl g (n * 32) rfl _ (Hld.out w2 hb2)) ?_; simp only [Act.put])
    | ((with_reducible show wpList _ _ _ (⟨some 18, .build _ _, _, _, _, _⟩ :: _) _ _); refine wpList_runG (by kernel_rfl) (.agg (x.map B).toArray) w2 (by rw [← Hx.out]; kernel_rfl) ?_; simp only [Act.put])
    | ((with_reducible show wpList _ _ _ (⟨some 19, .binOp _ _ _ _ _, _, _, _, _⟩ :: _) _ _); refine wpList_runG (by kernel_rfl) (.bool true) w2 (run_eql26_t (.tmp 17) (.tmp 18) _ x x rfl rfl rfl Hxl.out Hxl.out rfl _) ?_; simp only [Act.put]))
  go_ret
  exact ⟨rfl, hb2⟩
end Go.Proofs.Ytdkgndjomkbbjaa
