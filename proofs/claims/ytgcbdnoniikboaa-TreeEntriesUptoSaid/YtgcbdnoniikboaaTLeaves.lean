/- hash.Leaves, notaryref09.Leaves. -/
import Derived.Test.YtgcbdnoniikboaaHLit
import Derived.Test.YtgcbdnoniikboaaHash2
namespace Go.Proofs.Ytgcbdnoniikboaa
open Go Go.RowKit

def leavesL (ls : List (List UInt8)) : List (List UInt8) := ls.map hLeaf
theorem leavesL_all (ls : List (List UInt8)) : H32 (leavesL ls) := fun h hh => by
  obtain ⟨l, _, rfl⟩ := List.mem_map.1 hh
  exact length_hLeaf l

set_option maxHeartbeats 1000000 in
set_option maxRecDepth 100000 in
theorem hleaves_any (ls : List (List UInt8)) (A : Option Addr) (n c : Nat) (w : World) (vs : List Value) (h : SlS w A n c vs ls) (hm : n + ls.flatten.length ≤ 1073741824) :
    Calls Try.prog 58 #[.slice A n c] w fun e w' => ∃ v, e = .returned v ∧ w'.ownsRow w.heap.size 34 32 v n (hcells (leavesL ls)) ∧ Below w.heap.size w w' := by
  have Hh := Lib.hid h
  have hroom := h.out.room
  have hmax := h.out.max
  unfold maxLen at hmax
  clear h
  go_enter Try.func58, Try.ntmps58
  go_wp2_with fail
  go_loopw [3, 8] (fun v i wr => ∃ k : Nat, k ≤ n ∧ i = .int .i64 k ∧ wr.ownsRow w.heap.size 34 32 v k (hcells (leavesL (ls.take k))) ∧ Below w.heap.size w wr) (fun _ i _ => n - (intOf i).toNat)
  case atStart => exact ⟨0, by omega, rfl, World.ownsRow_nil _ _ _ _, Below.refl _ _⟩
  case round =>
    obtain ⟨k, hk, rfl, ho, hB⟩ := hrel
    by_cases hlt : k < n
    · have hkl : k < ls.length := by rw [Hh.out.len]; exact hlt
      obtain ⟨Ai, ci, hv, hs⟩ := Hh.out.ins k hkl
      obtain ⟨b0, o0, hA, hb0, _, hcell⟩ := Hh.out.out.at_ (by omega) (by decide)
      subst hA
      have hce : wr.cell? ⟨b0, o0 + k, none⟩ = some (.slice Ai (ls[k]).length ci) := by
        rw [hB.cell (p := ⟨b0, o0 + k, none⟩) hb0]; exact hcell k _ hv
      have hs2 := (hs.below hB (fun _ _ h => h)).all
      have hfl3 := flatten_take_le ls (k + 1)
      rw [flatten_take_succ ls k hkl, List.length_append] at hfl3
      have hleaf := hleaf_any (ls[k]) Ai (ls[k]).length ci wr hs2 (by omega)
      obtain ⟨x, hx⟩ : ∃ x, hLeaf (ls[k]) = x := ⟨_, rfl⟩
      have hxl : x.length = 32 := by rw [← hx]; exact length_hLeaf _
      rw [hx] at hleaf
      have hsn : hcells (leavesL (ls.take (k + 1))) = hcells (leavesL (ls.take k)) ++ hcells [x] := by
        rw [List.take_succ_eq_append_getElem hkl, leavesL, List.map_append, hcells_append, ← hx]; rfl
      have Hx := Lib.hid hx
      have Hxl := Lib.hid hxl
      have Hsn := Lib.hid hsn
      clear hx hxl hsn hv hs hs2
      generalize (ls[k]).length = m at *
      go_wp2_with fail
      refine hleaf.mono ?_
      rintro e w2 ⟨rfl, hb2⟩
      have h32 : H32 [x] := by intro h hh; rw [List.mem_singleton.1 hh]; exact Hxl.out
      have hbA : Below w2.heap.size w2 (w2.alloc (.cells (hcells [x]).toArray 34)) := (Below.refl _ _).alloc (Nat.le_refl _) _
      have hB2 := (hB.trans (hb2.mono hB.size)).trans (hbA.mono (Nat.le_trans hB.size hb2.size))
      have ho2 := owns_step (owns_step ho hb2) hbA
      obtain ⟨v3, w3, hr3, ho3, hg3, -⟩ := append_slv (ty := 37) Try.underlying37 info26z (by simp [Value.cells]) (by decide) ho2 (Hs.lit w2 [x] h32 (by simp) 1 rfl).sl (oneB _) (by unfold maxLen; omega) (by omega) hB2.size
      rw [← Hsn.out] at ho3
      have hB3 := hB2.grown hg3 hB2.size (fun k hk => (ho2.lt k hk).1)
      have Hr3 := Lib.hid hr3
      clear hr3 hg3
      go_wp2_with (first
        | ((with_reducible show wpList _ _ _ (⟨some 15, .buildSlice _ _ _, _, _, _, _⟩ :: _) _ _); refine wpList_run rfl _ _ (run_lit_op [x] h32 (by simp) (by simp) 1 _ rfl (by simp [Act.eval]) rfl _) ?_; simp only [Act.put])
        | ((with_reducible show wpList _ _ _ (⟨some 16, .call _, _, _, _, _⟩ :: _) _ _); refine wpList_run rfl v3 w3 (run_append_op (.tmp 12) (.tmp 15) 37 rfl _ _ rfl rfl Hr3.out) ?_; simp only [Act.put]))
      go_roundw
      case rel => exact ⟨k + 1, by omega, by go_num, ho3, hB3⟩
      case measure => simp [intOf]; omega
    · have hkn : k = n := by omega
      subst hkn
      rw [List.take_of_length_le (by rw [Hh.out.len]; exact Nat.le_refl _)] at ho
      go_wp2_with fail
      go_ret
      exact ⟨_, rfl, ho, hB⟩
set_option maxHeartbeats 1000000 in
set_option maxRecDepth 100000 in
theorem rleaves_any (ls : List (List UInt8)) (A : Option Addr) (n c : Nat) (w : World) (vs : List Value) (h : SlS w A n c vs ls) (hm : n + ls.flatten.length ≤ 1073741824) :
    Calls Try.prog 20 #[.slice A n c] w fun e w' => ∃ v, e = .returned v ∧ w'.ownsRow w.heap.size 34 32 v n (hcells (leavesL ls)) ∧ Below w.heap.size w w' := by
  have Hh := Lib.hid h
  have hroom := h.out.room
  have hmax := h.out.max
  unfold maxLen at hmax
  clear h
  go_enter Try.func20, Try.ntmps20
  go_wp2_with fail
  go_loopw [3, 4] (fun v i wr => ∃ k : Nat, k ≤ n ∧ i = .int .i64 k ∧ wr.ownsRow w.heap.size 34 32 v k (hcells (leavesL (ls.take k))) ∧ Below w.heap.size w wr) (fun _ i _ => n - (intOf i).toNat)
  case atStart => exact ⟨0, by omega, rfl, World.ownsRow_nil _ _ _ _, Below.refl _ _⟩
  case round =>
    obtain ⟨k, hk, rfl, ho, hB⟩ := hrel
    by_cases hlt : k < n
    · have hkl : k < ls.length := by rw [Hh.out.len]; exact hlt
      obtain ⟨Ai, ci, hv, hs⟩ := Hh.out.ins k hkl
      obtain ⟨b0, o0, hA, hb0, _, hcell⟩ := Hh.out.out.at_ (by omega) (by decide)
      subst hA
      have hce : wr.cell? ⟨b0, o0 + k, none⟩ = some (.slice Ai (ls[k]).length ci) := by
        rw [hB.cell (p := ⟨b0, o0 + k, none⟩) hb0]; exact hcell k _ hv
      have hs2 := (hs.below hB (fun _ _ h => h)).all
      have hfl3 := flatten_take_le ls (k + 1)
      rw [flatten_take_succ ls k hkl, List.length_append] at hfl3
      have hleaf := hrleaf_any (ls[k]) Ai (ls[k]).length ci wr hs2 (by omega)
      obtain ⟨x, hx⟩ : ∃ x, hLeaf (ls[k]) = x := ⟨_, rfl⟩
      have hxl : x.length = 32 := by rw [← hx]; exact length_hLeaf _
      rw [hx] at hleaf
      have hsn : hcells (leavesL (ls.take (k + 1))) = hcells (leavesL (ls.take k)) ++ hcells [x] := by
        rw [List.take_succ_eq_append_getElem hkl, leavesL, List.map_append, hcells_append, ← hx]; rfl
      have Hx := Lib.hid hx
      have Hxl := Lib.hid hxl
      have Hsn := Lib.hid hsn
      clear hx hxl hsn hv hs hs2
      generalize (ls[k]).length = m at *
      go_wp2_with fail
      refine hleaf.mono ?_
      rintro e w2 ⟨rfl, hb2⟩
      have h32 : H32 [x] := by intro h hh; rw [List.mem_singleton.1 hh]; exact Hxl.out
      have hbA : Below w2.heap.size w2 (w2.alloc (.cells (hcells [x]).toArray 34)) := (Below.refl _ _).alloc (Nat.le_refl _) _
      have hB2 := (hB.trans (hb2.mono hB.size)).trans (hbA.mono (Nat.le_trans hB.size hb2.size))
      have ho2 := owns_step (owns_step ho hb2) hbA
      obtain ⟨v3, w3, hr3, ho3, hg3, -⟩ := append_slv (ty := 37) Try.underlying37 info26z (by simp [Value.cells]) (by decide) ho2 (Hs.lit w2 [x] h32 (by simp) 1 rfl).sl (oneB _) (by unfold maxLen; omega) (by omega) hB2.size
      rw [← Hsn.out] at ho3
      have hB3 := hB2.grown hg3 hB2.size (fun k hk => (ho2.lt k hk).1)
      have Hr3 := Lib.hid hr3
      clear hr3 hg3
      go_wp2_with (first
        | ((with_reducible show wpList _ _ _ (⟨some 17, .buildSlice _ _ _, _, _, _, _⟩ :: _) _ _); refine wpList_run rfl _ _ (run_lit_op [x] h32 (by simp) (by simp) 1 _ rfl (by simp [Act.eval]) rfl _) ?_; simp only [Act.put])
        | ((with_reducible show wpList _ _ _ (⟨some 18, .call _, _, _, _, _⟩ :: _) _ _); refine wpList_run rfl v3 w3 (run_append_op (.tmp 11) (.tmp 17) 37 rfl _ _ rfl rfl Hr3.out) ?_; simp only [Act.put]))
      go_roundw
      case rel => exact ⟨k + 1, by omega, by go_num, ho3, hB3⟩
      case measure => simp [intOf]; omega
    · have hkn : k = n := by omega
      subst hkn
      rw [List.take_of_length_le (by rw [Hh.out.len]; exact Nat.le_refl _)] at ho
      go_wp2_with fail
      go_ret
      exact ⟨_, rfl, ho, hB⟩
end Go.Proofs.Ytgcbdnoniikboaa
