/- The fold of the whole stretches' roots; tree.Stretch. -/
import Derived.Test.YtonidnfgneokbaaQd126
import Derived.Test.YtonidnfgneokbaaQd110
namespace Go.Proofs.Ytonidnfgneokbaa
open Go Go.RowKit

/-- the root of the stretch from a to b -/
def stretchL (hs : List (List UInt8)) (a b : Nat) : List UInt8 := rootL ((hs.drop a).take (b - a))
theorem length_stretchL (hs : List (List UInt8)) (a b : Nat) (h : H32 hs) : (stretchL hs a b).length = 32 := length_rootL _ ((h.drop a).take _)
def foldR : List (List UInt8) → List UInt8
  | [] => hEmpty
  | [x] => x
  | x :: y :: t => hNode x (foldR (y :: t))
theorem foldR_cons (x : List UInt8) (l : List (List UInt8)) (h : l ≠ []) : foldR (x :: l) = hNode x (foldR l) := by
  cases l with
  | nil => exact absurd rfl h
  | cons y t => rfl
theorem length_foldR (x : List UInt8) (l : List (List UInt8)) (h : H32 (x :: l)) : (foldR (x :: l)).length = 32 := by
  cases l with
  | nil => exact h x (by simp)
  | cons y t => exact length_hNode _ _
def rootsL (hs : List (List UInt8)) (l : List (Nat × Nat)) : List (List UInt8) := l.map fun s => stretchL hs s.1 s.2
theorem rootsL_all (hs : List (List UInt8)) (h : H32 hs) (l : List (Nat × Nat)) : H32 (rootsL hs l) := fun x hx => by
  obtain ⟨s, _, rfl⟩ := List.mem_map.1 hx
  exact length_stretchL hs _ _ h
theorem wholeL_ne (a n : Nat) (h : n ≠ 0) : wholeL a n ≠ [] := by rw [wholeL_more a n h]; simp
theorem foldR_whole (d : Nat) : ∀ (n a : Nat) (hs : List (List UInt8)), n ≤ d → n ≠ 0 → a + n ≤ hs.length → foldR (rootsL hs (wholeL a n)) = rootL ((hs.drop a).take n) := by
  induction d with
  | zero => intro n a hs h h0; omega
  | succ d ih =>
    intro n a hs h h0 hl
    have hp := Nat.two_pow_pos n.log2
    have h1 := Nat.log2_self_le h0
    have h2 := Nat.lt_log2_self (n := n)
    have hsp := splitN_eq n n.log2
    rw [Nat.pow_succ] at h2 hsp
    rw [wholeL_more a n h0, rootsL, List.map_cons]
    generalize 2 ^ n.log2 = p at *
    by_cases hnp : n = p
    · subst hnp
      rw [Nat.sub_self, wholeL_zero]
      show stretchL hs a (a + n) = _
      rw [stretchL, Nat.add_sub_cancel_left]
    · have hs2 := hsp (by omega) (by omega)
      have hne : (wholeL (a + p) (n - p)).map (fun s => stretchL hs s.1 s.2) ≠ [] := by
        have := wholeL_ne (a + p) (n - p) (by omega)
        simpa using this
      have hi := ih (n - p) (a + p) hs (by omega) (by omega) (by omega)
      rw [rootsL] at hi
      have hlen : ((hs.drop a).take n).length = n := by rw [List.length_take, List.length_drop]; omega
      rw [foldR_cons _ _ hne, hi, rootL_more ((hs.drop a).take n) (by rw [hlen]; omega), hlen, hs2, List.take_take, Nat.min_eq_left (by omega), List.drop_take, List.drop_drop]
      show hNode (stretchL hs a (a + p)) _ = _
      rw [stretchL, Nat.add_sub_cancel_left]
theorem foldR_roots (hs : List (List UInt8)) (h : hs ≠ []) : foldR (rootsL hs (wholeL 0 hs.length)) = rootL hs := by
  have := foldR_whole hs.length hs.length 0 hs (Nat.le_refl _) (by simpa using h) (by omega)
  rw [this, List.drop_zero, List.take_length]
/-- from the back -/
theorem foldR_drop (l : List (List UInt8)) (i : Nat) (h : i + 1 < l.length) : foldR (l.drop i) = hNode (l.getD i []) (foldR (l.drop (i + 1))) := by
  rw [List.drop_eq_getElem_cons (by omega), foldR_cons _ _ (by intro e; have := congrArg List.length e; rw [List.length_drop, List.length_nil] at this; omega), List.getD_eq_getElem?_getD, List.getElem?_eq_getElem (by omega)]
  rfl
theorem foldR_last (l : List (List UInt8)) (n : Nat) (h : l.length = n + 1) : foldR (l.drop n) = l.getD n [] := by
  rw [List.drop_eq_getElem_cons (by omega), List.drop_of_length_le (by omega), List.getD_eq_getElem?_getD, List.getElem?_eq_getElem (by omega)]
  rfl

theorem tuple_cellT {fn : Func} {p u : Tmp} {ty t : TypeId} {P : Program} (h : fn.results = #[.cell p ty, .tmp u]) (tmps : Array Value) (w : World) (g : Nat) (cs : Array Value) (N : Nat) (el : TypeId)
    (hp : tmps.getD p undef = .pointer (some ⟨g, 0, none⟩)) (hg : Blk w g t cs) (hu : P.underlying ty = some (.array N el)) (hi : (P.info? ty).map (·.size) = some cs.size) :
    (results fn tmps).run P w = .ok (.tuple #[.agg cs, tmps.getD u undef]) w := by
  rw [results_cell_tmp h, hp]
  show ((loadVar ty ⟨g, 0, none⟩).run P w).andThen (fun v w₂ => Result.ok (Value.tuple #[v, tmps.getD u undef]) w₂) = _
  rw [run_loadVar_row w g t ty cs (0, 0) _ hg hu rfl hi]
  rfl
/-- 's[a:b]' -/
theorem run_slice_op_both {ρ : Operand → Value} {o : Oper} (x y z : Operand) (ho : o.op = .slice 26 x (some y) (some z) none) (A : Option Addr) (n c a b : Nat) (hx : ρ x = .slice A n c) (hy : ρ y = .int .i64 (a : Int)) (hz : ρ z = .int .i64 (b : Int)) (hab : a ≤ b) (hb : b ≤ c) (W : World) :
    (execOp ρ o).run Try.prog W = .ok (.value (.slice (if c = a then A else A.map (·.add (a * 32))) (b - a) (c - a))) W := by
  unfold execOp
  simp only [ho, hx, hy, hz, Option.map_some, Option.map_none]
  simp only [run_sliceAt_slice W 26 _ _ _ _ sliceHs, run_slice_lh W 26 A n c sliceHs .i64 .i64 (a : Int) (b : Int) (by omega) (by omega) (by omega), sizeHs, Sem.run_bind, Sem.run_pure, Result.andThen_ok, sliced, Int.toNat_natCast]

end Go.Proofs.Ytonidnfgneokbaa
