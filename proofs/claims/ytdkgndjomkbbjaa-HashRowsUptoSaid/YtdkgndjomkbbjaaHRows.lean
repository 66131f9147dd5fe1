/- hash.Rows and the function that it hands back. -/
import Derived.Test.YtdkgndjomkbbjaaHash3
import Derived.Test.YtdkgndjomkbbjaaRangeY
namespace Go.Proofs.Ytdkgndjomkbbjaa
open Go Go.RowKit Go.Shelf
attribute [local go_sem] Oper.semAt_some

/-- the rows from a row up -/
def rowsF : Nat → List (List UInt8) → List (List (List UInt8))
  | 0, _ => []
  | f + 1, hs => if hs.length = 0 then [] else if hs.length < 2 then [hs] else hs :: rowsF f (pairsL hs)
def rowsL (hs : List (List UInt8)) : List (List (List UInt8)) := rowsF (hs.length + 1) hs
theorem rowsF_enough : ∀ (f g : Nat) (hs : List (List UInt8)), hs.length < f → hs.length < g → rowsF f hs = rowsF g hs
  | 0, _, _, h, _ => by omega
  | _, 0, _, _, h => by omega
  | f + 1, g + 1, hs, h1, h2 => by
    simp only [rowsF]
    split
    · rfl
    · split
      · rfl
      · rw [rowsF_enough f g (pairsL hs) (by rw [length_pairsL]; omega) (by rw [length_pairsL]; omega)]
theorem rowsL_nil : rowsL [] = [] := rfl
theorem rowsL_one (hs : List (List UInt8)) (h : hs.length = 1) : rowsL hs = [hs] := by
  unfold rowsL
  rw [h]
  simp [rowsF, h]
theorem rowsL_more (hs : List (List UInt8)) (h : 2 ≤ hs.length) : rowsL hs = hs :: rowsL (pairsL hs) := by
  unfold rowsL
  rw [rowsF, if_neg (by omega), if_neg (by omega), rowsF_enough hs.length ((pairsL hs).length + 1) (pairsL hs) (by rw [length_pairsL]; omega) (by omega)]

set_option maxHeartbeats 1000000 in
set_option maxRecDepth 100000 in
theorem rows_any (hs : List (List UInt8)) (A : Option Addr) (n c : Nat) (w : World) (h : Hs w (fun _ => True) A n c hs) (hn : n ≤ 4398046511104) :
    Calls Try.prog 42 #[.slice A n c] w fun e w' => e = .returned (.func (.func 73) #[] #[.pointer (some ⟨w.heap.size, 0, none⟩)]) ∧ Below w.heap.size w w' ∧ ∃ A' c', Blk w' w.heap.size 57 #[.slice A' n c'] ∧ Hs w' (w.heap.size ≤ ·) A' n c' hs := by
  obtain ⟨W1, hW1⟩ : ∃ W1, (w.alloc (.cells #[.slice A n c] 57)).alloc (.cells #[] 26) = W1 := ⟨_, rfl⟩
  have k1 : Blk W1 w.heap.size 57 #[.slice A n c] := by rw [← hW1]; exact (Blk.new _ _ _).alloc _
  have B1 : Below w.heap.size w W1 := by rw [← hW1]; exact ((Below.refl _ _).alloc (Nat.le_refl _) _).alloc (by simp) _
  have s1 : Hs W1 (fun _ => True) A n c hs := by rw [← hW1]; exact (h.alloc _).alloc _
  have o1 : W1.ownsRow (w.heap.size + 1) 26 32 (.slice (some ⟨w.heap.size + 1, 0, none⟩) 0 0) 0 [] := by
    rw [← hW1]
    have := World.ownsRow_lit (base := w.heap.size + 1) (e := 26) (size := 32) (w.alloc (.cells #[.slice A n c] 57)) #[] 0 (by simp) (by decide) rfl
    rw [World.size_alloc] at this
    exact this
  obtain ⟨v2, w2, hr2, ho2, hg2, -⟩ := append_slv (ty := 57) Try.underlying57 info26z (by simp [Value.cells]) (by decide) o1 s1.sl (oneB _) (by have := s1.sl.room; have := s1.sl.max; omega) (by omega) (by rw [← hW1]; simp)
  rw [Nat.zero_add, List.nil_append] at ho2
  obtain ⟨A2, c2, rfl, hs2⟩ := owns_slv ho2
  have hrow : ∀ k, (Value.slice (some ⟨w.heap.size + 1, 0, none⟩) 0 0).ownBlock = some k → w.heap.size + 1 ≤ k := fun k hk => by cases hk; exact Nat.le_refl _
  have k2 := k1.grown hg2 (by simp [Value.ownBlock])
  have B2 := B1.grown hg2 B1.size fun k hk => by have := hrow k hk; omega
  have c2' : w2.cell? ⟨w.heap.size, 0, none⟩ = some (.slice A n c) := by rw [k2.cell]; rfl
  have f2 := k2.frozen 0
  have c1 : W1.cell? ⟨w.heap.size, 0, none⟩ = some (.slice A n c) := by rw [k1.cell]; rfl
  have k3 := k2.set_ 0 (.slice A2 n c2)
  have B3 := B2.setCell (p := ⟨w.heap.size, 0, none⟩) (Nat.le_refl _) (.slice A2 n c2)
  have s3 := (hs2.weak (Y := fun b => w.heap.size < b) fun b _ hx => by have := hx.1; omega).setCell (p := ⟨w.heap.size, 0, none⟩) (.slice A2 n c2) (by simp)
  have Hr2 := Lib.hid hr2
  have HW1 := Lib.hid hW1
  clear hr2 ho2 hg2 hs2 o1 s1 k1 B1 hW1 B2
  go_enter Try.func42, Try.ntmps42
  go_wp2_with (first
    | ((with_reducible show wpList _ _ _ (⟨some 4, .load _ _, _, _, _, _⟩ :: _) _ _); rw [HW1.out]; refine wpList_run0 rfl (.slice A n c) (by unfold execOp; simp [go_sem, c1]) ?_; simp only [Act.put])
    | ((with_reducible show wpList _ _ _ (⟨some 5, .call _, _, _, _, _⟩ :: _) _ _); refine wpList_run rfl _ w2 (run_append_op (.tmp 3) (.tmp 4) 57 rfl _ _ rfl rfl Hr2.out) ?_; simp only [Act.put]))
  go_ret
  exact ⟨rfl, B3, A2, c2, k3, s3.weak fun b _ hx => by have : w.heap.size < b := hx; omega, h.len, h.all⟩
end Go.Proofs.Ytdkgndjomkbbjaa
