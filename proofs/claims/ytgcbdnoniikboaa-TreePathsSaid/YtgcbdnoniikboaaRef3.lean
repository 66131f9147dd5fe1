/- notaryref03: First, New, Take. -/
import Derived.Test.YtgcbdnoniikboaaRef2
import Derived.Test.YtgcbdnoniikboaaRefBlock
namespace Go.Proofs.Ytgcbdnoniikboaa
open Go.RowKit

/-- the document's sum under way, as a value: its ten cells -/
def undCells (st : List UInt32) (n : Nat) (r : Value) : List Value := st.map U ++ [.int .i64 (n : Int), r]
def undV (u : Und) (r : Value) : Value := .agg (undCells u.st.list u.len r).toArray

theorem size77 : ∀ w : World, (sizeOf 117).run Try.prog w = .ok 10 w := fun _ => by kernel_rfl
theorem agg77 : ∀ w : World, (isAgg 117).run Try.prog w = .ok true w := fun _ => by kernel_rfl
theorem info77 : (Try.prog.info? 117).map (·.size) = some 10 := by kernel_rfl
theorem info33 : (Try.prog.info? 115).map (·.size) = some 8 := by kernel_rfl

theorem undCells_len {st : List UInt32} (n : Nat) (r : Value) (h : st.length = 8) : (undCells st n r).length = 10 := by simp [undCells, h]
theorem undCells_one {st : List UInt32} {n : Nat} {A : Option Addr} {a b : Nat} : ∀ v ∈ (undCells st n (.slice A a b)).toArray.toList, v.oneCell' = true := by
  intro v hv
  simp only [undCells, List.mem_append, List.mem_map, List.mem_cons, List.not_mem_nil, or_false] at hv
  rcases hv with ⟨_, _, rfl⟩ | rfl | rfl <;> rfl
theorem undCells_8 {st : List UInt32} {n : Nat} {r : Value} (h : st.length = 8) : (undCells st n r)[8]? = some (.int .i64 (n : Int)) := by
  unfold undCells; rw [List.getElem?_append_right (by simp [h])]; simp [h]
theorem undCells_9 {st : List UInt32} {n : Nat} {r : Value} (h : st.length = 8) : (undCells st n r)[9]? = some r := by
  unfold undCells; rw [List.getElem?_append_right (by simp [h])]; simp [h]
theorem undCells_set8 {st : List UInt32} {n m : Nat} {r : Value} (h : st.length = 8) : (undCells st n r).toArray.setIfInBounds 8 (.int .i64 (m : Int)) = (undCells st m r).toArray := by
  simp only [List.setIfInBounds_toArray, undCells]
  rw [List.set_append_right _ _ (by simp [h])]; simp [h]
theorem undCells_set9 {st : List UInt32} {n : Nat} {r r' : Value} (h : st.length = 8) : (undCells st n r).toArray.setIfInBounds 9 r' = (undCells st n r').toArray := by
  simp only [List.setIfInBounds_toArray, undCells]
  rw [List.set_append_right _ _ (by simp [h])]; simp [h]
theorem undCells_st {st st' : List UInt32} {n : Nat} {r : Value} (h : st.length = 8) : ((undCells st n r).toArray.toList.take 0 ++ (st'.map U).toArray.toList ++ (undCells st n r).toArray.toList.drop (0 + 8)) = undCells st' n r := by
  simp only [undCells]
  rw [List.drop_append]
  simp [h]
theorem undCells_get {st : List UInt32} {n : Nat} {r : Value} (_h : st.length = 8) (j : Nat) (v : Value) (hv : (st.map U)[j]? = some v) : (undCells st n r).toArray[j]? = some v := by
  have hj : j < (st.map U).length := (List.getElem?_eq_some_iff.1 hv).1
  rw [List.getElem?_toArray, undCells, List.getElem?_append_left hj]
  exact hv

set_option maxHeartbeats 1000000 in
set_option maxRecDepth 100000 in
theorem rfirst_any (w : World) :
    Calls Try.prog 85 #[] w fun e w' => e = .returned (.agg (H256.map U).toArray) ∧ Below w.heap.size w w' := by
  go_enter Try.func85, Try.ntmps85
  go_wp2_with (first
    | (refine wpList_run0 (o := ⟨some 1, .build _ _, _, _, _, _⟩) rfl (.agg (H256.map U).toArray) (by kernel_rfl) ?_)
    | (refine wpList_store_blk rfl 115 (.tmp 0) (.tmp 1) rfl 8 size33 w.heap.size (H256.map U).toArray rfl (by kernel_rfl) (by rfl) (oneCell_U _) 115 _ (Blk.new _ _ _) (by rfl) ?_))
  refine bodyPost_ret (results_cell_row rfl _ _ w.heap.size 115 (H256.map U).toArray (0, 0) _ rfl ((Blk.new _ _ _).setRow_ _) Try.underlying115 rfl (by kernel_rfl)) rfl ⟨rfl, ?_⟩
  exact below_setRow ((Below.refl _ _).alloc (Nat.le_refl _) _) (Nat.le_refl _) _

set_option maxHeartbeats 1000000 in
set_option maxRecDepth 100000 in
theorem rnew_any (w : World) :
    Calls Try.prog 79 #[] w fun e w' => e = .returned (undV Und.new (.slice none 0 0)) ∧ Below w.heap.size w w' := by
  obtain ⟨cs, hcs⟩ : ∃ cs, (undCells Und.new.st.list Und.new.len (.slice none 0 0)).toArray = cs := ⟨_, rfl⟩
  obtain ⟨fs, hfs⟩ : ∃ fs, (H256.map U).toArray = fs := ⟨_, rfl⟩
  have hone : ∀ v ∈ cs.toList, v.oneCell' = true := by rw [← hcs]; exact undCells_one
  have hsz : cs.size = 10 := by rw [← hcs]; rfl
  have hb : ∀ w : World, (Instr.build 117 #[(0, .agg fs)]).run Try.prog w = .ok (.agg cs) w := fun _ => by rw [← hcs, ← hfs]; kernel_rfl
  have hf := fun w => rfirst_any w
  rw [hfs] at hf
  have Hfs := Lib.hid hfs
  have Hcs := Lib.hid hcs
  have Hone := Lib.hid hone
  have Hb := Lib.hid hb
  have Hf := Lib.hid hf
  clear hcs hfs hone hb hf
  unfold undV
  rw [Hcs.out]
  go_enter Try.func79, Try.ntmps79
  go_wp2_with (first
    | (go_at_call 85; refine (Hf.out _).mono ?_; rintro e w1 ⟨rfl, hb1⟩; have k1 := (Blk.new w _ _).below hb1 (by simp); have hB := ((Below.refl _ _).alloc (Nat.le_refl _) _).trans (hb1.mono (by simp)))
    | (refine wpList_run0 (o := ⟨some 2, .build _ _, _, _, _, _⟩) rfl (.agg cs) (by rw [← Hcs.out, ← Hfs.out]; kernel_rfl) ?_)
    | (refine wpList_store_blk rfl 117 (.tmp 0) (.tmp 2) rfl 10 size77 w.heap.size cs rfl rfl hsz Hone.out 117 _ k1 (by rfl) ?_))
  refine bodyPost_ret (results_cell_row rfl _ _ w.heap.size 117 cs (0, 0) _ rfl (k1.setRow_ _) Try.underlying117 rfl (by rw [hsz]; exact info77)) rfl ⟨rfl, ?_⟩
  exact below_setRow hB (Nat.le_refl _) _
end Go.Proofs.Ytgcbdnoniikboaa
