/- The way up from a leaf (plain). -/
import Derived.Test.YtfhmjgkcpcnkbaaDoorQf127
import Derived.Test.YtfhmjgkcpcnkbaaDoorQf124
import Derived.Test.YtfhmjgkcpcnkbaaDoorQf114
import Derived.Test.YtfhmjgkcpcnkbaaDoorQf116
import Derived.Test.YtfhmjgkcpcnkbaaDoorQf117
import Derived.Lib.LazyBuf
import Derived.Test.YtfhmjgkcpcnkbaaDoorQf118
namespace Go.Proofs.YtfhmjgkcpcnkbaaDoor
open Go Go.RowKit

abbrev StepV := (Nat × Nat) × List UInt8
def lastH (l : List StepV) : List UInt8 := (l.getLastD ((0, 0), [])).2
theorem lastH_snoc (l : List StepV) (x : StepV) : lastH (l ++ [x]) = x.2 := by simp [lastH]
/-- the way of the entry i of the stretch from a to b, by a proof -/
def upF : Nat → List UInt8 → Nat → Nat → Nat → List (List UInt8) → List StepV
  | 0, leaf, _, a, b, _ => [((a, b), leaf)]
  | f + 1, leaf, i, a, b, p =>
    if b - a < 2 then [((a, b), leaf)]
    else if i < a + splitN (b - a) then upF f leaf i a (a + splitN (b - a)) p.dropLast ++ [((a, b), hNode (lastH (upF f leaf i a (a + splitN (b - a)) p.dropLast)) (p.getD (p.length - 1) []))]
    else upF f leaf i (a + splitN (b - a)) b p.dropLast ++ [((a, b), hNode (p.getD (p.length - 1) []) (lastH (upF f leaf i (a + splitN (b - a)) b p.dropLast)))]
theorem upF_enough : ∀ (f g : Nat) (leaf : List UInt8) (i a b : Nat) (p : List (List UInt8)), b - a ≤ f → b - a ≤ g → upF f leaf i a b p = upF g leaf i a b p
  | 0, 0, _, _, _, _, _, _, _ => rfl
  | 0, g + 1, _, _, _, _, _, h, _ => by simp only [upF]; rw [if_pos (by omega)]
  | f + 1, 0, _, _, _, _, _, _, h => by simp only [upF]; rw [if_pos (by omega)]
  | f + 1, g + 1, leaf, i, a, b, p, h1, h2 => by
    simp only [upF]
    split
    · rfl
    · rename_i h3
      have hl := splitN_lt (b - a) (by omega)
      have hp := splitN_pos (b - a) (by omega)
      rw [upF_enough f g leaf i a (a + splitN (b - a)) _ (by omega) (by omega), upF_enough f g leaf i (a + splitN (b - a)) b _ (by omega) (by omega)]
def upL (leaf : List UInt8) (i a b : Nat) (p : List (List UInt8)) : List StepV := upF (b - a) leaf i a b p
theorem upL_small (leaf : List UInt8) (i a b : Nat) (p : List (List UInt8)) (h : b - a < 2) : upL leaf i a b p = [((a, b), leaf)] := by
  unfold upL
  rw [upF_enough (b - a) (b - a + 1) leaf i a b p (Nat.le_refl _) (by omega), upF, if_pos h]
theorem upL_left (leaf : List UInt8) (i a b : Nat) (p : List (List UInt8)) (h : 2 ≤ b - a) (hi : i < a + splitN (b - a)) : upL leaf i a b p = upL leaf i a (a + splitN (b - a)) p.dropLast ++ [((a, b), hNode (lastH (upL leaf i a (a + splitN (b - a)) p.dropLast)) (p.getD (p.length - 1) []))] := by
  have hl := splitN_lt (b - a) (by omega)
  unfold upL
  rw [upF_enough (b - a) (b - a + 1) leaf i a b p (Nat.le_refl _) (by omega), upF, if_neg (by omega), if_pos hi, upF_enough (b - a) (a + splitN (b - a) - a) leaf i a (a + splitN (b - a)) _ (by omega) (Nat.le_refl _)]
theorem upL_right (leaf : List UInt8) (i a b : Nat) (p : List (List UInt8)) (h : 2 ≤ b - a) (hi : ¬ i < a + splitN (b - a)) : upL leaf i a b p = upL leaf i (a + splitN (b - a)) b p.dropLast ++ [((a, b), hNode (p.getD (p.length - 1) []) (lastH (upL leaf i (a + splitN (b - a)) b p.dropLast)))] := by
  have hp := splitN_pos (b - a) (by omega)
  unfold upL
  rw [upF_enough (b - a) (b - a + 1) leaf i a b p (Nat.le_refl _) (by omega), upF, if_neg (by omega), if_neg hi, upF_enough (b - a) (b - (a + splitN (b - a))) leaf i (a + splitN (b - a)) b _ (by omega) (Nat.le_refl _)]
/-- as many steps as hashes, and one -/
theorem length_upL (leaf : List UInt8) (d : Nat) : ∀ (i a b : Nat) (p : List (List UInt8)), b - a ≤ d → a ≤ i → i < b → (upL leaf i a b p).length = (pathL i a b).length + 1 := by
  induction d with
  | zero => intro i a b p h h1 h2; omega
  | succ d ih =>
    intro i a b p h h1 h2
    by_cases hs : b - a < 2
    · rw [upL_small leaf i a b p hs, pathL_small i a b hs]; rfl
    · have hl := splitN_lt (b - a) (by omega)
      have hp := splitN_pos (b - a) (by omega)
      by_cases hi : i < a + splitN (b - a)
      · rw [upL_left leaf i a b p (by omega) hi, pathL_left i a b (by omega) hi, List.length_append, List.length_append, ih i a (a + splitN (b - a)) _ (by omega) h1 hi]; rfl
      · rw [upL_right leaf i a b p (by omega) hi, pathL_right i a b (by omega) hi, List.length_append, List.length_append, ih i (a + splitN (b - a)) b _ (by omega) (by omega) h2]; rfl
theorem upL_all (leaf : List UInt8) (hlf : leaf.length = 32) (d : Nat) : ∀ (i a b : Nat) (p : List (List UInt8)), b - a ≤ d → ∀ s ∈ upL leaf i a b p, s.2.length = 32 := by
  induction d with
  | zero => intro i a b p h s hs; rw [upL_small leaf i a b p (by omega)] at hs; rw [List.mem_singleton.1 hs]; exact hlf
  | succ d ih =>
    intro i a b p h s hs
    by_cases h2 : b - a < 2
    · rw [upL_small leaf i a b p h2] at hs; rw [List.mem_singleton.1 hs]; exact hlf
    · have hl := splitN_lt (b - a) (by omega)
      have hp := splitN_pos (b - a) (by omega)
      by_cases hi : i < a + splitN (b - a)
      · rw [upL_left leaf i a b p (by omega) hi] at hs
        rcases List.mem_append.1 hs with h1 | h1
        · exact ih i a (a + splitN (b - a)) _ (by omega) s h1
        · rw [List.mem_singleton.1 h1]; exact length_hNode _ _
      · rw [upL_right leaf i a b p (by omega) hi] at hs
        rcases List.mem_append.1 hs with h1 | h1
        · exact ih i (a + splitN (b - a)) b _ (by omega) s h1
        · rw [List.mem_singleton.1 h1]; exact length_hNode _ _
/-- the last step is the whole stretch -/
theorem upL_last (leaf : List UInt8) (i a b : Nat) (p : List (List UInt8)) : ∃ l x, upL leaf i a b p = l ++ [((a, b), x)] := by
  by_cases h2 : b - a < 2
  · exact ⟨[], leaf, upL_small leaf i a b p h2⟩
  · by_cases hi : i < a + splitN (b - a)
    · exact ⟨_, _, upL_left leaf i a b p (by omega) hi⟩
    · exact ⟨_, _, upL_right leaf i a b p (by omega) hi⟩
def rootsP (hs : List (List UInt8)) (i : Int) : List (List UInt8) := rootsL hs (pathA i hs.length).1
/-- what incl.way and the document's Up answer -/
def wayA (leaf : List UInt8) (i n : Int) (p : List (List UInt8)) : List StepV × Int :=
  if (pathA i n).2 ≠ 0 then ([], (pathA i n).2) else if (pathA i n).1.length ≠ p.length then ([], 210) else (upL leaf i.toNat 0 n.toNat p, 0)
/-- the root that a proof leads to -/
def fromA (leaf : List UInt8) (i n : Int) (p : List (List UInt8)) : List UInt8 × Int :=
  if (wayA leaf i n p).2 ≠ 0 then (List.replicate 32 0, (wayA leaf i n p).2) else (lastH (wayA leaf i n p).1, 0)
def takenA (leaf : List UInt8) (i n : Int) (root : List UInt8) (p : List (List UInt8)) : Int :=
  if (fromA leaf i n p).2 ≠ 0 then (fromA leaf i n p).2 else if (fromA leaf i n p).1 ≠ root then 210 else 0
/-- the proof leads to the root -/
theorem upL_roots (hs : List (List UInt8)) (d : Nat) : ∀ (i a b : Nat), b - a ≤ d → a ≤ i → i < b → b ≤ hs.length → ∀ s ∈ upL (hs.getD i []) i a b (rootsL hs (pathL i a b)), s.2 = stretchL hs s.1.1 s.1.2 ∧ a ≤ s.1.1 ∧ s.1.2 ≤ b := by
  induction d with
  | zero => intro i a b h h1 h2; omega
  | succ d ih =>
    intro i a b h h1 h2 hb s hs'
    by_cases h3 : b - a < 2
    · rw [upL_small _ i a b _ h3] at hs'
      rw [List.mem_singleton.1 hs']
      refine ⟨?_, Nat.le_refl _, Nat.le_refl _⟩
      show hs.getD i [] = stretchL hs a b
      unfold stretchL
      obtain rfl : a = i := by omega
      rw [show b - a = 1 by omega, List.drop_eq_getElem_cons (by omega), List.getD_eq_getElem?_getD, List.getElem?_eq_getElem (by omega)]
      rfl
    · have hl := splitN_lt (b - a) (by omega)
      have hp := splitN_pos (b - a) (by omega)
      have hsp : stretchL hs a b = hNode (stretchL hs a (a + splitN (b - a))) (stretchL hs (a + splitN (b - a)) b) := by
        unfold stretchL
        have hlen : ((hs.drop a).take (b - a)).length = b - a := by rw [List.length_take, List.length_drop]; omega
        rw [rootL_more ((hs.drop a).take (b - a)) (by rw [hlen]; omega), hlen, List.take_take, Nat.min_eq_left (by omega), List.drop_take, List.drop_drop, show a + splitN (b - a) - a = splitN (b - a) by omega, show b - (a + splitN (b - a)) = b - a - splitN (b - a) by omega]
      have snoc : ∀ (l : List (Nat × Nat)) (x : Nat × Nat), rootsL hs (l ++ [x]) = rootsL hs l ++ [stretchL hs x.1 x.2] := fun l x => by simp [rootsL]
      have lst : ∀ (l : List (List UInt8)) (x : List UInt8), (l ++ [x]).getD ((l ++ [x]).length - 1) [] = x := fun l x => by simp [List.getD_eq_getElem?_getD]
      have hlast : ∀ (i a b : Nat), b - a ≤ d → a ≤ i → i < b → b ≤ hs.length → lastH (upL (hs.getD i []) i a b (rootsL hs (pathL i a b))) = stretchL hs a b := fun i a b h1 h2 h3 h4 => by
        obtain ⟨l, x, e⟩ := upL_last (hs.getD i []) i a b (rootsL hs (pathL i a b))
        have := (ih i a b h1 h2 h3 h4 ((a, b), x) (by rw [e]; simp)).1
        rw [e, lastH_snoc]
        exact this
      by_cases hi : i < a + splitN (b - a)
      · rw [upL_left _ i a b _ (by omega) hi, pathL_left i a b (by omega) hi, snoc, List.dropLast_concat, lst, hlast i a (a + splitN (b - a)) (by omega) h1 hi (by omega)] at hs'
        rcases List.mem_append.1 hs' with h4 | h4
        · obtain ⟨e1, e2, e3⟩ := ih i a (a + splitN (b - a)) (by omega) h1 hi (by omega) s h4
          exact ⟨e1, e2, by omega⟩
        · rw [List.mem_singleton.1 h4]
          exact ⟨hsp.symm, Nat.le_refl _, Nat.le_refl _⟩
      · rw [upL_right _ i a b _ (by omega) hi, pathL_right i a b (by omega) hi, snoc, List.dropLast_concat, lst, hlast i (a + splitN (b - a)) b (by omega) (by omega) h2 hb] at hs'
        rcases List.mem_append.1 hs' with h4 | h4
        · obtain ⟨e1, e2, e3⟩ := ih i (a + splitN (b - a)) b (by omega) (by omega) h2 hb s h4
          exact ⟨e1, by omega, e3⟩
        · rw [List.mem_singleton.1 h4]
          exact ⟨hsp.symm, Nat.le_refl _, Nat.le_refl _⟩
end Go.Proofs.YtfhmjgkcpcnkbaaDoor
/- The roots of the stretches of an audit path (plain). -/
namespace Go.Proofs.YtfhmjgkcpcnkbaaDoor
open Go Go.RowKit

theorem pathA_each (m : Int) (n : Nat) : ∀ x ∈ (pathA m n).1, x.1 < x.2 ∧ x.2 ≤ n := by
  intro x hx
  unfold pathA at hx
  split at hx
  · cases hx
  · rename_i h1
    have := (pathL_ok n m.toNat 0 n (by omega) (by omega) (by omega)).each x (by simpa using hx)
    omega
theorem path_good (hs : List (List UInt8)) (m : Int) : goodL hs (natR (pathA m hs.length).1) = natR (pathA m hs.length).1 := by
  unfold goodL
  rw [List.filter_eq_self]
  intro y hy
  unfold natR at hy
  obtain ⟨x, hx, rfl⟩ := List.mem_map.1 hy
  obtain ⟨h1, h2⟩ := pathA_each m hs.length x hx
  unfold okR
  rw [stretchR_nat hs x.1 x.2 h1 h2]
  rfl
theorem length_rootsP (hs : List (List UInt8)) (m : Int) : (rootsP hs m).length = (pathA m hs.length).1.length := by simp [rootsP, rootsL]
theorem rootsP_all (hs : List (List UInt8)) (h : H32 hs) (m : Int) : H32 (rootsP hs m) := rootsL_all hs h _
theorem rootsP_at (hs : List (List UInt8)) (m : Int) (k : Nat) (h : k < (pathA m hs.length).1.length) : (stretchR hs ((natR (pathA m hs.length).1).getD k (0, 0)).1 ((natR (pathA m hs.length).1).getD k (0, 0)).2).1 = (rootsP hs m).getD k [] := by
  obtain ⟨h1, h2⟩ := pathA_each m hs.length _ (List.getElem_mem h)
  unfold natR rootsP rootsL
  rw [List.getD_eq_getElem?_getD, List.getElem?_map, List.getD_eq_getElem?_getD, List.getElem?_map, List.getElem?_eq_getElem h]
  simp only [Option.map_some, Option.getD_some]
  rw [stretchR_nat hs _ _ h1 h2]
theorem rootsP_bad (hs : List (List UInt8)) (m : Int) (h : (pathA m hs.length).2 ≠ 0) : rootsP hs m = [] := by
  unfold rootsP pathA at *
  split
  · rfl
  · rename_i h1
    rw [if_neg h1] at h
    exact absurd rfl h
theorem pathA_e (m n : Int) : (pathA m n).2 = 0 ∨ (pathA m n).2 = 4 := by
  unfold pathA
  split
  · exact .inr rfl
  · exact .inl rfl
end Go.Proofs.YtfhmjgkcpcnkbaaDoor
/- slices.Clone of hashes and of stretches; slices.Values of stretches. -/
namespace Go.Proofs.YtfhmjgkcpcnkbaaDoor
open Go Go.RowKit Go.Shelf
attribute [local go_sem] Oper.semAt_some

set_option maxHeartbeats 1000000 in
set_option maxRecDepth 100000 in
theorem cloneh_any (l : List (List UInt8)) (A : Option Addr) (n c : Nat) (w : World) (h : Hs w (fun _ => True) A n c l) (hn : n ≤ 1099511627776) :
    Calls Tryd.prog 73 #[.slice A n c] w fun e w' => ∃ A' c', e = .returned (.slice A' n c') ∧ Hs w' (w.heap.size ≤ ·) A' n c' l ∧ Below w.heap.size w w' := by
  cases A with
  | none =>
    obtain ⟨rfl, rfl⟩ := h.sl.nil rfl
    obtain rfl : l = [] := List.eq_nil_of_length_eq_zero h.len
    have hE : Hs w (w.heap.size ≤ ·) none 0 0 [] := ⟨SlV.empty, rfl, by intro x hx; cases hx⟩
    clear h
    have hnil := fun w => run_eql_slice_nil (P := Tryd.prog) w 36 48 none 0 0 Tryd.underlying36
    go_enter Tryd.func73, Tryd.ntmps73
    go_wp2_with fail
    go_ret
    exact ⟨none, 0, rfl, hE, Below.refl _ _⟩
  | some a =>
    have hroom := h.sl.room
    have hmx := h.sl.max
    unfold maxLen at hmx
    have hb1 : Below w.heap.size w (w.alloc (.cells #[] 48)) := (Below.refl _ _).alloc (Nat.le_refl _) _
    have ho0 : (w.alloc (.cells #[] 48)).ownsRow w.heap.size 48 32 (.slice (some ⟨w.heap.size, 0, none⟩) 0 0) 0 [] :=
      World.ownsRow_lit (base := w.heap.size) (e := 48) (size := 32) w #[] 0 (Nat.le_refl _) (by unfold maxLen; decide) (by simp)
    obtain ⟨v1, w1, hr1, ho1, hg1, -⟩ := append_slv (ty := 36) Tryd.underlying36 info26z (by simp [Value.cells]) (by decide) ho0 (h.step hb1).sl (oneB _) (by unfold maxLen; omega) (by omega) hb1.size
    rw [List.nil_append, Nat.zero_add] at ho1
    have hb2 := hb1.grown hg1 hb1.size (fun k hk => by cases hk; exact Nat.le_refl _)
    obtain ⟨A', c', rfl, h1⟩ := Hs.of_owns ho1 h.len h.all
    have h2 : Hs w1 (w.heap.size ≤ ·) A' n c' l := h1.weak fun _ _ hx => hx.1
    have Hr1 := Lib.hid hr1
    have hnil := fun w => run_eql_slice_nil (P := Tryd.prog) w 36 48 (some a) n c Tryd.underlying36
    clear hr1 ho0 ho1 hg1 hb1 h h1
    go_enter Tryd.func73, Tryd.ntmps73
    go_wp2_with ((with_reducible show wpList _ _ _ (⟨some 7, .call _, _, _, _, _⟩ :: _) _ _); refine wpList_run rfl (.slice A' n c') w1 (run_append_op (.tmp 5) (.tmp 6) 36 rfl _ _ rfl rfl Hr1.out) ?_; simp only [Act.put])
    go_ret
    exact ⟨A', c', rfl, h2, hb2⟩

set_option maxHeartbeats 1000000 in
set_option maxRecDepth 100000 in
theorem cloner_any (l : List (Int × Int)) (A : Option Addr) (n c : Nat) (w : World) (h : Rs w (fun _ => True) A n c l) (hn : n ≤ 1099511627776) :
    Calls Tryd.prog 74 #[.slice A n c] w fun e w' => ∃ A' c', e = .returned (.slice A' n c') ∧ Rs w' (w.heap.size ≤ ·) A' n c' l ∧ Below w.heap.size w w' := by
  cases A with
  | none =>
    obtain ⟨rfl, rfl⟩ := h.sl.nil rfl
    obtain rfl : l = [] := List.eq_nil_of_length_eq_zero h.len
    have hE : Rs w (w.heap.size ≤ ·) none 0 0 [] := Rs.empty
    clear h
    have hnil := fun w => run_eql_slice_nil (P := Tryd.prog) w 107 96 none 0 0 Tryd.underlying107
    go_enter Tryd.func74, Tryd.ntmps74
    go_wp2_with fail
    go_ret
    exact ⟨none, 0, rfl, hE, Below.refl _ _⟩
  | some a =>
    have hroom := h.sl.room
    have hmx := h.sl.max
    unfold maxLen at hmx
    have hb1 : Below w.heap.size w (w.alloc (.cells #[] 96)) := (Below.refl _ _).alloc (Nat.le_refl _) _
    have ho0 : (w.alloc (.cells #[] 96)).ownsRow w.heap.size 96 2 (.slice (some ⟨w.heap.size, 0, none⟩) 0 0) 0 [] :=
      World.ownsRow_lit (base := w.heap.size) (e := 96) (size := 2) w #[] 0 (Nat.le_refl _) (by unfold maxLen; decide) (by simp)
    obtain ⟨v1, w1, hr1, ho1, hg1, -⟩ := append_slv (ty := 107) Tryd.underlying107 infoR (by simp [Value.cells]) (by decide) ho0 (h.step hb1).sl (oneR _) (by unfold maxLen; omega) (by omega) hb1.size
    rw [List.nil_append, Nat.zero_add] at ho1
    have hb2 := hb1.grown hg1 hb1.size (fun k hk => by cases hk; exact Nat.le_refl _)
    obtain ⟨A', c', rfl, h1⟩ := Rs.of_owns ho1 h.len
    have h2 : Rs w1 (w.heap.size ≤ ·) A' n c' l := h1.weak fun _ _ hx => hx.1
    have Hr1 := Lib.hid hr1
    have hnil := fun w => run_eql_slice_nil (P := Tryd.prog) w 107 96 (some a) n c Tryd.underlying107
    clear hr1 ho0 ho1 hg1 hb1 h h1
    go_enter Tryd.func74, Tryd.ntmps74
    go_wp2_with ((with_reducible show wpList _ _ _ (⟨some 7, .call _, _, _, _, _⟩ :: _) _ _); refine wpList_run rfl (.slice A' n c') w1 (run_append_op (.tmp 5) (.tmp 6) 107 rfl _ _ rfl rfl Hr1.out) ?_; simp only [Act.put])
    go_ret
    exact ⟨A', c', rfl, h2, hb2⟩

theorem valuesr_any (A : Option Addr) (n c : Nat) (w : World) :
    Calls Tryd.prog 76 #[.slice A n c] w fun e w' => e = .returned (.func (.func 89) #[] #[.pointer (some ⟨w.heap.size, 0, none⟩)]) ∧ Blk w' w.heap.size 107 #[.slice A n c] ∧ Below w.heap.size w w' := by
  go_enter Tryd.func76, Tryd.ntmps76
  go_wp2_with fail
  go_ret
  exact ⟨rfl, Blk.new _ _ _, (Below.refl _ _).alloc (Nat.le_refl _) _⟩

theorem load_R {W : World} {g : Nat} {a b : Int} (h : Blk W g 96 #[.int .i64 a, .int .i64 b]) : (Instr.loadAt 96 (.pointer (some ⟨g, 0, none⟩))).run Tryd.prog W = .ok (.agg #[.int .i64 a, .int .i64 b]) W :=
  run_load_blk (aggR _) (sizeR _) _ _ rfl h
set_option maxRecDepth 100000 in
theorem wpList_rvar {w : World} {ops : Array Oper} {rest : List Oper} {o1 o2 : Oper} {a : Act} {Q : Exit → Act → World → Prop} (l : Int × Int) (x y : Operand) (hg1 : o1.guard = none) (hg2 : o2.guard = none) (ho1 : o1.op = .alloc 96) (ho2 : o2.op = .store 96 x y)
    (hx : (a.put o1.dst (.pointer (some ⟨w.heap.size, 0, none⟩))).eval x = .pointer (some ⟨w.heap.size, 0, none⟩)) (hy : (a.put o1.dst (.pointer (some ⟨w.heap.size, 0, none⟩))).eval y = .agg #[.int .i64 l.1, .int .i64 l.2])
    (h : ∀ W, Blk W w.heap.size 96 #[.int .i64 l.1, .int .i64 l.2] → Below w.heap.size w W → wpList Tryd.prog ops Q rest ((a.put o1.dst (.pointer (some ⟨w.heap.size, 0, none⟩))).put o2.dst undef) W) : wpList Tryd.prog ops Q (o1 :: o2 :: rest) a w := by
  refine wpList_run hg1 (.pointer (some ⟨w.heap.size, 0, none⟩)) (w.alloc (.cells #[.int .i64 0, .int .i64 0] 96)) ?_ ?_
  · unfold execOp
    rw [ho1]
    rfl
  · refine wpList_store_blk hg2 96 x y ho2 2 sizeR w.heap.size #[.int .i64 l.1, .int .i64 l.2] hx hy rfl (by intro v hv; simp at hv; rcases hv with rfl | rfl <;> rfl) 96 _ (Blk.new w 96 #[.int .i64 0, .int .i64 0]) rfl ?_
    exact h _ ((Blk.new w 96 #[.int .i64 0, .int .i64 0]).setRow_ _) (below_setRow ((Below.refl _ _).alloc (Nat.le_refl _) _) (Nat.le_refl _) _)

def rval (x : Int × Int) : Value := .agg #[.int .i64 x.1, .int .i64 x.2]
set_option maxRecDepth 100000 in
set_option maxHeartbeats 2000000 in
theorem values1_seq (l : List (Int × Int)) (A : Option Addr) (n c g : Nat) (U : Nat → Prop) (w : World) (hbox : Blk w g 107 #[.slice A n c]) (h : Rs w (fun b => ¬ U b) A n c l) (_hU : ¬ U g) (hn : n ≤ 1099511627776) :
    SeqU Tryd.prog 89 #[.pointer (some ⟨g, 0, none⟩)] n U (fun _ k vs _ => vs = #[rval (l.getD k (0, 0))]) w := by
  intro ly J Jx W hW hJ hJx hY h0
  have hbox' := hbox.below hW hbox.lt
  have h' := h.step hW
  have hmx := h.sl.max
  have hroom := h.sl.room
  unfold maxLen at hmx
  have hgl : g < W.heap.size := hbox'.lt
  have hcell : W.cell? ⟨g, 0, none⟩ = some (.slice A n c) := by rw [hbox'.cell]; rfl
  have hst : J W.heap.size 0 W := h0 _ (Nat.le_refl _)
  have Hst := Lib.hid hst
  have HJ := Lib.hid hJ
  have HY := Lib.hid hY
  have Hbox := Lib.hid hbox'
  clear hbox hJx hJ hY hbox' h hW h0 hst
  refine callsIn_of_wp Tryd.func89 rfl trivial ?_ rfl
  simp only [Tryd.ntmps89, List.size_toArray, List.length_cons, List.length_nil, Nat.reduceAdd, Nat.reduceSub, Array.replicate_succ, Array.replicate_zero, List.push_toArray, List.append_toArray, List.nil_append, List.cons_append]
  gi_wp2
  gi_loopw [7] (fun i wr => ∃ k : Nat, k ≤ n ∧ i = .int .i64 k ∧ W.heap.size ≤ wr.heap.size ∧ J W.heap.size k wr ∧ Rs wr (fun b => b < W.heap.size ∧ ¬ U b) A n c l)
    (fun i _ => n - (intOf i).toNat)
  case atStart => exact ⟨0, Nat.zero_le _, rfl, Nat.le_refl _, Hst.out, h'.weak fun b hb hx => ⟨hb, hx⟩⟩
  case round =>
    clear Hst h' hcell
    obtain ⟨k, hk, rfl, hsz, hJs, hs⟩ := hrel
    by_cases hlt : k < n
    · obtain ⟨b, o, rfl, -, -, -⟩ := hs.at_ (by omega)
      have hld := hs.load rfl k hlt
      obtain ⟨⟨x1, x2⟩, hx⟩ : ∃ x, l.getD k (0, 0) = x := ⟨_, rfl⟩
      rw [hx] at hld
      have Hx := Lib.hid hx
      clear hx
      gi_wp2_with (first
        | ((with_reducible show wpListIn _ _ _ _ _ (⟨some 10, .load _ _, _, _, _, _⟩ :: _) _ _); refine wpListIn_of1 openW rfl ?_; refine wpList_cell 96 (.tmp 9) b (o + k * 2) (.agg #[.int .i64 x1, .int .i64 x2]) (by kernel_rfl) rfl rfl hld ?_; refine thenN_nil ?_; simp only [Act.put])
        | ((with_reducible show wpListIn _ _ _ _ _ (⟨some 4, .alloc _, _, _, _, _⟩ :: _) _ _); refine wpListIn_of2 openW rfl ?_; refine wpList_rvar (x1, x2) (.tmp 4) (.tmp 10) rfl rfl rfl rfl rfl rfl ?_; intro W2 k4 hb2; refine thenN_nil ?_; simp only [Act.put])
        | ((with_reducible show wpListIn _ _ _ _ _ (⟨some 12, .load _ _, _, _, _, _⟩ :: _) _ _); refine wpListIn_of1 openW rfl ?_; refine wpList_cell 96 (.tmp 4) wr.heap.size 0 (.agg #[.int .i64 x1, .int .i64 x2]) (by kernel_rfl) rfl rfl (load_R k4) ?_; refine thenN_nil ?_; simp only [Act.put]; have hJ2 := HJ.out W.heap.size k wr W2 none hJs (grown_of_below hb2 none) (fun r e => by cases e); obtain ⟨fn, tmps, assign, body, hy, hR⟩ := HY.out W.heap.size k #[.agg #[.int .i64 x1, .int .i64 x2]] W2 (Nat.le_refl _) (Nat.le_trans hsz hb2.size) hlt hJ2 (by rw [Hx.out]; rfl); clear hJ2 hJs hld))
      refine hR.mono ?_
      have hs2 := hs.step hb2
      have hsz2 := hb2.size
      clear hR hy k4 hb2 hs
      rintro e w4 (⟨rfl, hj4, hk4⟩ | ⟨rfl, hjx4, hk4⟩)
      · have hs4 : Rs w4 (fun b => b < W.heap.size ∧ ¬ U b) (some ⟨b, o, none⟩) n c l := ⟨hk4.slv hs2.sl fun b _ hb => hb, hs2.len⟩
        have hsz4 := hk4.size
        clear hk4 hs2
        gi_wp2
        exact ⟨⟨k + 1, by omega, by go_num, by omega, hj4, hs4⟩, by simp [intOf]; omega⟩
      · gi_wp2
        refine bodyPost_ret (by exact results_none rfl _ _ _) rfl ?_
        exact ⟨⟨_, rfl⟩, _, Nat.le_refl _, .inr ⟨k, hlt, hjx4⟩⟩
    · obtain rfl : k = n := by omega
      gi_wp2
      go_end0
      exact ⟨⟨_, rfl⟩, _, Nat.le_refl _, .inl hJs⟩
end Go.Proofs.YtfhmjgkcpcnkbaaDoor
/- tree.Each, and the function that it hands out. -/
namespace Go.Proofs.YtfhmjgkcpcnkbaaDoor
open Go Go.RowKit Go.Shelf
attribute [local go_sem] Oper.semAt_some

/-- what Each's function knows between two rounds -/
structure EaI (W0 : World) (U : Nat → Prop) (J : Nat → Nat → World → Prop) (hs : List (List UInt8)) (l : List (Int × Int)) (A : Option Addr) (n c g2 ly : Nat) (n₁ k : Nat) (W : World) : Prop where
  j : J n₁ (cntL hs l k) W
  b3 : Blk W W0.heap.size 126 #[.func (.yield ly) #[] #[]]
  b2 : Blk W g2 36 #[.slice A n c]
  h : Hs W (fun b => b < W0.heap.size ∧ ¬ U b) A n c hs
theorem EaI.own {W0 : World} {U : Nat → Prop} {J : Nat → Nat → World → Prop} {hs : List (List UInt8)} {l : List (Int × Int)} {A : Option Addr} {n c g2 ly B : Nat} (hJ : ∀ n₁, OwnFrom W0.heap.size (J n₁)) (hB : W0.heap.size < B) (hg2 : g2 < W0.heap.size) (n₁ : Nat) :
    OwnFrom B (EaI W0 U J hs l A n c g2 ly n₁) := fun _ X Y row h hg hr =>
  have hne : ∀ g, g < B → some g ≠ row := fun g hg e => by have := (hr g e.symm).1; omega
  ⟨hJ n₁ _ X Y row h.j hg (fun r e => ⟨by have := (hr r e).1; omega, (hr r e).2⟩), h.b3.grown hg (hne _ hB), h.b2.grown hg (hne _ (by omega)), h.h.grown hg fun b _ hx => hne b (by have := hx.1; omega)⟩
theorem KeepU.up {B B' n₁ : Nat} {U : Nat → Prop} {W W' : World} (h : KeepU B n₁ U W W') (hB : B ≤ B') : KeepU B' n₁ U W W' := ⟨⟨h.f.size, fun k o hk ho hc => h.f.same k o (Nat.le_trans hB hk) ho hc⟩, h.os, h.tape, h.output, h.cells⟩
theorem keepsFrom_up {B B' : Nat} {W W' : World} (h : KeepsFrom B W W') (hB : B ≤ B') : KeepsFrom B' W W' := ⟨h.size, fun k o hk ho hc => h.same k o (Nat.le_trans hB hk) ho hc⟩
theorem EaI.step {W0 : World} {U : Nat → Prop} {J : Nat → Nat → World → Prop} {hs : List (List UInt8)} {l : List (Int × Int)} {A : Option Addr} {n c g2 ly n₁ k : Nat} {W W' : World} (h : EaI W0 U J hs l A n c g2 ly n₁ k W) (hJ : ∀ n₁, OwnFrom W0.heap.size (J n₁)) (hb : Below W.heap.size W W') : EaI W0 U J hs l A n c g2 ly n₁ k W' :=
  ⟨hJ n₁ _ W W' none h.j (grown_of_below hb none) (fun r e => by cases e), h.b3.step hb, h.b2.step hb, h.h.step hb⟩

def goodY (hs : List (List UInt8)) (l : List (Int × Int)) (k : Nat) (vs : Array Value) : Prop := vs = #[rval ((goodL hs l).getD k (0, 0)), .agg ((stretchR hs ((goodL hs l).getD k (0, 0)).1 ((goodL hs l).getD k (0, 0)).2).1.map B).toArray]
set_option maxRecDepth 100000 in
set_option maxHeartbeats 4000000 in
theorem each1_seq (hs : List (List UInt8)) (l : List (Int × Int)) (A : Option Addr) (n c : Nat) (Ar : Option Addr) (nr cr g1 g2 : Nat) (U : Nat → Prop) (w : World) (hb1 : Blk w g1 107 #[.slice Ar nr cr]) (hb2 : Blk w g2 36 #[.slice A n c])
    (h : Hs w (fun b => ¬ U b) A n c hs) (hr : Rs w (fun b => ¬ U b) Ar nr cr l) (hU2 : ¬ U g2) (hUlt : ∀ b, U b → b < w.heap.size) (hn : n ≤ 1099511627776) (hnr : nr ≤ 1099511627776) :
    SeqU Tryd.prog 75 #[.pointer (some ⟨g1, 0, none⟩), .pointer (some ⟨g2, 0, none⟩)] (goodL hs l).length U (fun _ k vs _ => goodY hs l k vs) w := by
  intro ly J Jx W hW hJ hJx hY h0
  have hb1' := hb1.below hW hb1.lt
  have hb2' := hb2.below hW hb2.lt
  have hg2 : g2 < W.heap.size := hb2'.lt
  have h' := h.step hW
  have hr' := hr.step hW
  have hUW : ∀ b, U b → b < W.heap.size := fun b hb => Nat.lt_of_lt_of_le (hUlt b hb) hW.size
  have hlen := hr.len
  have hroom := h.sl.room
  have hmx := h.sl.max
  unfold maxLen at hmx
  have h32 := h.all
  obtain ⟨W1, hW1⟩ : ∃ W1, W.alloc (.cells #[.func (.yield ly) #[] #[]] 126) = W1 := ⟨_, rfl⟩
  have hbW : Below W.heap.size W W1 := by rw [← hW1]; exact (Below.refl _ _).alloc (Nat.le_refl _) _
  have hsz1 : W1.heap.size = W.heap.size + 1 := by rw [← hW1]; simp
  have b3 : Blk W1 W.heap.size 126 #[.func (.yield ly) #[] #[]] := by rw [← hW1]; exact Blk.new _ _ _
  have c1 : W1.cell? ⟨g1, 0, none⟩ = some (.slice Ar nr cr) := by rw [(hb1'.below hbW hb1'.lt).cell]; rfl
  have hI1 : ∀ n₁, W.heap.size ≤ n₁ → EaI W U J hs l A n c g2 ly n₁ 0 W1 := fun n₁ hn => ⟨hJ n₁ _ W W1 none (h0 n₁ hn) (grown_of_below hbW none) (fun r e => by cases e), b3, hb2'.step hbW, (h'.weak fun b hb hx => ⟨hb, hx⟩).step hbW⟩
  have hr1 := hr'.step hbW
  have Hr1 := Lib.hid hr1
  have HW1 := Lib.hid hW1
  have HI1 := Lib.hid hI1
  have HJ := Lib.hid hJ
  have HJx := Lib.hid hJx
  have HY := Lib.hid hY
  have Hlen := Lib.hid hlen
  have H32h := Lib.hid h32
  clear hW1 hI1 hr1 hb1 hb2 hb1' hb2' h h' hr hr' h0 hW hJ hJx hY hlen h32 b3 hbW
  refine callsIn_of_wp_marks Tryd.func75 rfl trivial ?_ rfl
  simp only [Tryd.ntmps75, List.size_toArray, List.length_cons, List.length_nil, Nat.reduceAdd, Nat.reduceSub, Array.replicate_succ, Array.replicate_zero, List.push_toArray, List.append_toArray, List.nil_append, List.cons_append]
  gi_wp2_with ((with_reducible show wpListIn _ _ _ _ _ (⟨some 7, .load _ _, _, _, _, _⟩ :: _) _ _); rw [HW1.out])
  refine ⟨trivial, (callsIn_wide.2 (valuesr_any Ar nr cr W1)).mono ?_⟩
  rintro e W2 ⟨rfl, hbv, hb2⟩
  have hr2 := Hr1.out.step hb2
  have hI2 := fun n₁ hn => (HI1.out n₁ hn).step HJ.out hb2
  have HI2 := Lib.hid hI2
  have hsz2 := hb2.size
  clear hI2 c1 HI1 Hr1 hb2
  gi_wp2
  rw [hsz1] at hbv
  refine wpIn_wide.2 ?_
  refine wp_range_U (gf := 89) (lb := #[.pointer (some ⟨W.heap.size + 1, 0, none⟩)]) rfl (enters_of Tryd.func89 (by kernel_rfl) rfl) (values1_seq l Ar nr cr (W.heap.size + 1) U W2 hbv hr2 (fun h => by have := hUW _ h; omega) hnr) (fun _ _ _ _ h => by rw [h]; rfl)
    (EaI W U J hs l A n c g2 ly) (fun n₁ cd _ Wk => cd = .ret ∧ ∃ q, q < (goodL hs l).length ∧ Jx n₁ (q + 1) Wk)
    (EaI.own HJ.out (by omega) hg2) (fun n₁ cd _ X Y row h hg hr => ⟨h.1, let ⟨q, hq, hj⟩ := h.2; ⟨q, hq, HJx.out n₁ _ X Y row hj hg (fun r e => ⟨by have := (hr r e).1; omega, (hr r e).2⟩)⟩⟩) (fun n₁ hn => HI2.out n₁ (by omega)) ?round ?done ?stop
  case round =>
    clear HI2 hr2 hbv HW1
    intro li n₁ k vs X hl hln hnX hk hI hy
    subst hy
    obtain ⟨⟨x1, x2⟩, hx⟩ : ∃ x, l.getD k (0, 0) = x := ⟨_, rfl⟩
    rw [hx]
    dsimp only [rval]
    have Hx := Lib.hid hx
    clear hx
    gi_wp2
    have hb1 : Below X.heap.size X (X.alloc (.cells #[.int .i64 x1, .int .i64 x2] 96)) := (Below.refl _ _).alloc (Nat.le_refl _) _
    have k4 := Blk.new X 96 #[.int .i64 x1, .int .i64 x2]
    refine ⟨KeepU.below hb1, ?_⟩
    intro X2 hturn
    have hI2 := hturn.own (EaI.own HJ.out (show W.heap.size < W2.heap.size by omega) hg2 n₁) (hI.step HJ.out hb1)
    replace k4 := hturn.blk k4
    have hX2 : n₁ ≤ X2.heap.size := by rw [hturn.size]; exact Nat.le_trans hnX hb1.size
    generalize X.heap.size = g4 at k4
    clear hI hb1 hturn hnX
    have c2 : X2.cell? ⟨g2, 0, none⟩ = some (.slice A n c) := by rw [hI2.b2.cell]; rfl
    obtain ⟨⟨z, zo⟩, hz⟩ : ∃ z, stretchR hs x1 x2 = z := ⟨_, rfl⟩
    have hzl : z.length = 32 := by have := length_stretchR hs x1 x2 H32h.out; rw [hz] at this; exact this
    have hst := tstretch_any hs A n c X2 x1 x2 (hI2.h.weak fun _ _ _ => trivial) (by omega)
    rw [hz] at hst
    have Hz := Lib.hid hz
    have Hzl := Lib.hid hzl
    have Hst := Lib.hid hst
    clear hz hzl hst
    gi_wp2_with ((with_reducible show wpListIn _ _ _ _ _ (⟨some 12, .load _ _, _, _, _, _⟩ :: _) _ _); refine wpListIn_of1 (openR li) rfl ?_; refine wpList_cell 96 (.tmp 4) g4 0 (.agg #[.int .i64 x1, .int .i64 x2]) (by kernel_rfl) rfl rfl (load_R k4) ?_; refine thenN_nil ?_; simp only [Act.put])
    refine ⟨trivial, (CallsIn.inRound li (callsIn_wide.2 Hst.out)).mono ?_⟩
    rintro e X3 ⟨rfl, hb3⟩
    have hI3 := hI2.step HJ.out hb3
    replace k4 := k4.step hb3
    have hK3 : KeepU W2.heap.size n₁ U X2 X3 := KeepU.below hb3
    have hX3 := hb3.size
    clear c2 hI2 hb3 Hst
    by_cases ho : zo = 0
    · have hz0 : (zo == 0) = true := by rw [ho]; rfl
      obtain ⟨hcl, hca⟩ := goodL_at hs l k (by rw [Hlen.out]; exact hk) (by rw [Hx.out, Hz.out]; exact ho)
      have hcs := cntL_ok hs l k (by rw [Hlen.out]; exact hk) (by rw [Hx.out, Hz.out]; exact ho)
      rw [Hx.out] at hca
      have Hcl := Lib.hid hcl
      have Hca := Lib.hid hca
      have Hcs := Lib.hid hcs
      clear ho hcl hca hcs
      gi_wp2_with (first
        | ((with_reducible show wpListIn _ _ _ _ _ (⟨some 5, .alloc _, _, _, _, _⟩ :: _) _ _); refine wpListIn_of2 (openR li) rfl ?_; refine wpList_hvar (.tmp 5) (.tmp 14) rfl rfl rfl rfl rfl rfl Hzl.out ?_; intro X4 k5 hb4; refine thenN_nil ?_; simp only [Act.put]; have c3 : X4.cell? ⟨W.heap.size, 0, none⟩ = some (.func (.yield ly) #[] #[]) := (by rw [(hI3.b3.step hb4).cell]; rfl))
        | ((with_reducible show wpListIn _ _ _ _ _ (⟨some 20, .load _ _, _, _, _, _⟩ :: _) _ _); refine wpListIn_of1 (openR li) rfl ?_; refine wpList_cell 96 (.tmp 4) g4 0 (.agg #[.int .i64 x1, .int .i64 x2]) (by kernel_rfl) rfl rfl (load_R (k4.step hb4)) ?_; refine thenN_nil ?_; simp only [Act.put])
        | ((with_reducible show wpListIn _ _ _ _ _ (⟨some 21, .load _ _, _, _, _, _⟩ :: _) _ _); refine wpListIn_of1 (openR li) rfl ?_; refine wpList_hload (.tmp 5) (by kernel_rfl) rfl k5 rfl ?_; refine thenN_nil ?_; simp only [Act.put]; obtain ⟨fn, tmps, assign, body, hy, hR⟩ := HY.out n₁ (cntL hs l k) #[.agg #[.int .i64 x1, .int .i64 x2], .agg (z.map B).toArray] X4 (by omega) (by have := hb4.size; omega) Hcl.out (hI3.step HJ.out hb4).j (by unfold goodY; rw [Hca.out]; dsimp only [rval]; rw [Hz.out])))
      refine (show RoundIn (Fence.wide.inRound li) 2 _ ly fn tmps assign body X4 _ from roundIn_any hR).mono ?_
      have hI4 := hI3.step HJ.out hb4
      have hK4 : KeepU W2.heap.size n₁ U X3 X4 := KeepU.below hb4
      have hX4 := hb4.size
      have hn₁ : W.heap.size < n₁ := by omega
      have hnU : ¬ U W.heap.size := fun h => by have := hUW _ h; omega
      clear hR hy k4 k5 c3 hb4 hI3
      rintro e X5 (⟨rfl, hj5, hk5⟩ | ⟨rfl, hjx5, hk5⟩)
      · have hI5 : EaI W U J hs l A n c g2 ly n₁ (k + 1) X5 := ⟨by rw [Hcs.out]; exact hj5, hk5.blk hI4.b3 hn₁ hnU, hk5.blk hI4.b2 (by omega) hU2, ⟨hk5.slv hI4.h.sl (fun b _ hb => ⟨by have := hb.1; omega, hb.2⟩), hI4.h.len, hI4.h.all⟩⟩
        have hK5 := (hK3.trans hK4).trans (hk5.up (by omega))
        gi_wp2
        exact ⟨hK5, hI5⟩
      · have hK5 := (hK3.trans hK4).f.trans (keepsFrom_up hk5 (show W.heap.size ≤ W2.heap.size by omega))
        gi_wp2
        exact ⟨hK5, rfl, _, Hcl.out, hjx5⟩
    · have hz0 : (zo == 0) = false := by simp [ho]
      have hcs := cntL_bad hs l k (by rw [Hlen.out]; exact hk) (by rw [Hx.out, Hz.out]; exact ho)
      have Hcs := Lib.hid hcs
      clear ho hcs
      gi_wp2_with ((with_reducible show wpListIn _ _ _ _ _ (⟨some 5, .alloc _, _, _, _, _⟩ :: _) _ _); refine wpListIn_of2 (openR li) rfl ?_; refine wpList_hvar (.tmp 5) (.tmp 14) rfl rfl rfl rfl rfl rfl Hzl.out ?_; intro X4 k5 hb4; refine thenN_nil ?_; simp only [Act.put])
      refine ⟨fun f h => (by cases h), ?_⟩
      have hI4 := hI3.step HJ.out hb4
      have hK4 : KeepU W2.heap.size n₁ U X3 X4 := KeepU.below hb4
      clear k4 k5 hb4 hI3
      gi_wp2
      refine ⟨hK3.trans hK4, ?_⟩
      exact ⟨by rw [Hcs.out]; exact hI4.j, hI4.b3, hI4.b2, hI4.h⟩
  case done =>
    intro D n₁ X hD hDn hI hK
    have hj := hI.j
    rw [← Hlen.out, cntL_all] at hj
    have hj' := (HJ.out n₁).putObj (.deferred none) hj (show W.heap.size ≤ D by omega) hK rfl
    clear hI hj
    refine ⟨by simp, .inl ⟨_, _, rfl, run_takeDeferred hK, ?_⟩⟩
    refine ⟨_, results_none rfl _ _ _, ⟨_, rfl⟩, n₁, by omega, .inl hj'⟩
  case stop =>
    rintro D n₁ cd k X hD hDn hk ⟨rfl, q, hq, hj⟩ hK
    have hj' := (HJx.out n₁).putObj (.deferred none) hj (show W.heap.size ≤ D by omega) hK rfl
    clear hj
    go_wp2_with fail
    refine ⟨by simp, .inl ⟨_, _, rfl, run_takeDeferred hK, ?_⟩⟩
    refine ⟨_, results_none rfl _ _ _, ⟨_, rfl⟩, n₁, by omega, .inr ⟨q, hq, hj'⟩⟩
end Go.Proofs.YtfhmjgkcpcnkbaaDoor
/- tree.Each. -/
namespace Go.Proofs.YtfhmjgkcpcnkbaaDoor
open Go Go.RowKit

set_option maxHeartbeats 2000000 in
set_option maxRecDepth 100000 in
theorem each_any (hs : List (List UInt8)) (l : List (Int × Int)) (A : Option Addr) (n c : Nat) (Ar : Option Addr) (nr cr : Nat) (w : World) (h : Hs w (fun _ => True) A n c hs) (hr : Rs w (fun _ => True) Ar nr cr l) (hn : n ≤ 1099511627776) (hnr : nr ≤ 1099511627776) :
    Calls Tryd.prog 55 #[.slice A n c, .slice Ar nr cr] w fun e w' => ∃ (A' : Option Addr) (c' : Nat) (Ar' : Option Addr) (cr' : Nat), e = .returned (.func (.func 75) #[] #[.pointer (some ⟨w.heap.size + 1, 0, none⟩), .pointer (some ⟨w.heap.size, 0, none⟩)]) ∧
      Blk w' (w.heap.size + 1) 107 #[.slice Ar' nr cr'] ∧ Blk w' w.heap.size 36 #[.slice A' n c'] ∧ Hs w' (w.heap.size + 1 < ·) A' n c' hs ∧ Rs w' (w.heap.size + 1 < ·) Ar' nr cr' l ∧ Below w.heap.size w w' := by
  obtain ⟨w2, hw2⟩ : ∃ w2, (w.alloc (.cells #[.slice A n c] 36)).alloc (.cells #[.slice Ar nr cr] 107) = w2 := ⟨_, rfl⟩
  have hb2 : Below w.heap.size w w2 := by rw [← hw2]; exact ((Below.refl _ _).alloc (Nat.le_refl _) _).alloc (by simp) _
  have hsz : w2.heap.size = w.heap.size + 1 + 1 := by rw [← hw2]; simp
  have k2 : Blk w2 w.heap.size 36 #[.slice A n c] := by rw [← hw2]; exact (Blk.new _ _ _).alloc _
  have k3 : Blk w2 (w.heap.size + 1) 107 #[.slice Ar nr cr] := by rw [← hw2]; exact Blk.new' _ _ _ _ (by simp)
  have h2 := h.step hb2
  have hr2 := hr.step hb2
  have Hw2 := Lib.hid hw2
  clear hw2 h hr
  go_enter Tryd.func55, Tryd.ntmps55
  go_wp2_with fail
  rw [Hw2.out]
  have hh0 : Hs w2.drew (fun _ => True) A n c hs := h2.drew
  have hr0 : Rs w2.drew (fun _ => True) Ar nr cr l := hr2.drew
  have hsz0 : w2.drew.heap.size = w.heap.size + 1 + 1 := hsz
  have c2 : ∀ s : InC (fun W => Below w2.heap.size w2 W), s.W.cell? ⟨w.heap.size, 0, none⟩ = some (.slice A n c) := fun s => by rw [(k2.below s.ok (show w.heap.size < w2.heap.size by omega)).cell]; rfl
  have c3 : ∀ s : InC (fun W => Below w2.heap.size w2 W), s.W.cell? ⟨w.heap.size + 1, 0, none⟩ = some (.slice Ar nr cr) := fun s => by rw [(k3.below s.ok (show w.heap.size + 1 < w2.heap.size by omega)).cell]; rfl
  replace k2 : Blk w2.drew w.heap.size 36 #[.slice A n c] := k2
  replace k3 : Blk w2.drew (w.heap.size + 1) 107 #[.slice Ar nr cr] := k3
  clear h2 hr2
  have hS : Below w2.heap.size w2 w2.drew := (Below.refl _ _).drew
  refine wp_region_mix_tail (fun W => Below w2.heap.size w2 W) 4 [(0, true), (2, true), (1, false), (3, false)] (by kernel_rfl) (by kernel_rfl) hS fun _ => ?_
  simp only [List.map_cons, List.map_nil, Array.getD_eq_getD_getElem?, List.getElem?_toArray, List.getElem?_cons_succ, List.getElem?_cons_zero, Option.getD_some]
  generalize w2.drew = W0 at hS hh0 hr0 hsz0 k2 k3 ⊢
  refine wpMix_s (fun K hK => ?_)
  go_simp
  refine hK _ ?_
  clear hK K
  refine wpMix_s (fun K hK => ?_)
  go_simp
  refine hK _ ?_
  clear hK K
  refine wpMix_c (fun K hK => ?_) hS
  go_simp
  refine (cloneh_any hs A n c W0 hh0 hn).mono ?_
  rintro e W0_1 ⟨A1, c1, rfl, hh1, hb'⟩
  refine hK _ _ ?_
  clear hK K
  replace hS := hS.trans (hb'.mono hS.size)
  refine ⟨hS, ?_⟩
  have h3 := hr0.step hb'
  replace k2 := k2.step hb'
  replace k3 := k3.step hb'
  have hsW := hb'.size
  clear hb' hh0 hr0
  refine wpMix_c (fun K hK => ?_) hS
  go_simp
  refine (cloner_any l Ar nr cr W0_1 h3 hnr).mono ?_
  rintro e W0_2 ⟨A2, c2, rfl, hr1, hb'⟩
  refine hK _ _ ?_
  clear hK K
  replace hS := hS.trans (hb'.mono hS.size)
  refine ⟨hS, ?_⟩
  replace hh1 := hh1.step hb'
  replace k2 := k2.step hb'
  replace k3 := k3.step hb'
  have hsW2 := hb'.size
  clear hb' h3
  have d2 : W0_2.cell? ⟨w.heap.size, 0, none⟩ = some (.slice A n c) := by rw [k2.cell]; rfl
  have d3 : W0_2.cell? ⟨w.heap.size + 1, 0, none⟩ = some (.slice Ar nr cr) := by rw [k3.cell]; rfl
  have f2 := k2.frozen 0
  have f3 := k3.frozen 0
  refine wpMix_nil ?_
  intro _
  simp only [List.drop_succ_cons, List.drop_zero]
  generalize W0_2 = W9 at *
  go_wp2_with fail
  refine np_normal ?_
  have m2 : Blk ((W9.setCell ⟨w.heap.size, 0, none⟩ (.slice A1 n c1)).setCell ⟨w.heap.size + 1, 0, none⟩ (.slice A2 nr c2)) w.heap.size 36 #[.slice A1 n c1] := (k2.set_ 0 _).apart (by simp) _
  have m3 : Blk ((W9.setCell ⟨w.heap.size, 0, none⟩ (.slice A1 n c1)).setCell ⟨w.heap.size + 1, 0, none⟩ (.slice A2 nr c2)) (w.heap.size + 1) 107 #[.slice A2 nr c2] := (k3.apart (by simp) _).set_ 0 _
  have mh : Hs ((W9.setCell ⟨w.heap.size, 0, none⟩ (.slice A1 n c1)).setCell ⟨w.heap.size + 1, 0, none⟩ (.slice A2 nr c2)) (w.heap.size + 1 < ·) A1 n c1 hs :=
    ((hh1.weak (Y := (w.heap.size + 1 < ·)) fun b _ hb => by omega).grown (grownBy_setCell' W9 _ _) fun b _ hx e => by cases e; omega).grown (grownBy_setCell' _ _ _) fun b _ hx e => by cases e; omega
  have mr : Rs ((W9.setCell ⟨w.heap.size, 0, none⟩ (.slice A1 n c1)).setCell ⟨w.heap.size + 1, 0, none⟩ (.slice A2 nr c2)) (w.heap.size + 1 < ·) A2 nr c2 l :=
    ((hr1.weak (Y := (w.heap.size + 1 < ·)) fun b _ hb => by omega).grown (grownBy_setCell' W9 _ _) fun b _ hx e => by cases e; omega).grown (grownBy_setCell' _ _ _) fun b _ hx e => by cases e; omega
  have mb : Below w.heap.size w ((W9.setCell ⟨w.heap.size, 0, none⟩ (.slice A1 n c1)).setCell ⟨w.heap.size + 1, 0, none⟩ (.slice A2 nr c2)) := ((hb2.trans (hS.mono hb2.size)).setCell (by simp) _).setCell (by simp) _
  generalize (W9.setCell ⟨w.heap.size, 0, none⟩ (.slice A1 n c1)).setCell ⟨w.heap.size + 1, 0, none⟩ (.slice A2 nr c2) = W10 at *
  clear k2 k3 d2 d3 f2 f3 hh1 hr1 hS
  go_wp2_with fail
  go_ret
  exact ⟨_, _, _, _, rfl, m3, m2, mh, mr, mb⟩
end Go.Proofs.YtfhmjgkcpcnkbaaDoor
/- The plain law of tree.Roots: the whole stretches of one entry more. -/
namespace Go.Proofs.YtfhmjgkcpcnkbaaDoor
open Go Go.RowKit

theorem pow_split (d : Nat) : ∀ (m t a : Nat), m ≤ d → wholeL a (2 * m * 2 ^ t + 2 ^ t) = wholeL a (2 * m * 2 ^ t) ++ [(a + 2 * m * 2 ^ t, a + 2 * m * 2 ^ t + 2 ^ t)] := by
  induction d with
  | zero =>
    intro m t a h
    obtain rfl : m = 0 := by omega
    have hp := Nat.two_pow_pos t
    rw [show 2 * 0 * 2 ^ t = 0 by simp, Nat.zero_add, wholeL_zero, wholeL_more a _ (by omega), Nat.log2_two_pow, Nat.sub_self, wholeL_zero]
    rfl
  | succ d ih =>
    intro m t a h
    by_cases hm : m = 0
    · subst hm
      exact ih 0 t a (by omega)
    · have hp := Nat.two_pow_pos t
      have hpos : 2 * m * 2 ^ t ≠ 0 := Nat.mul_ne_zero (by omega) (by omega)
      obtain ⟨j, hj⟩ : ∃ j, (2 * m).log2 = j := ⟨_, rfl⟩
      have h2m : 2 * m ≠ 0 := by omega
      have j1 : 2 ^ j ≤ 2 * m := by rw [← hj]; exact Nat.log2_self_le h2m
      have j2 : 2 * m < 2 ^ (j + 1) := by rw [← hj]; exact Nat.lt_log2_self
      obtain ⟨i, rfl⟩ : ∃ i, j = i + 1 := by
        refine ⟨j - 1, ?_⟩
        rcases Nat.eq_zero_or_pos j with h0 | h0
        · subst h0; rw [show 2 ^ (0 + 1) = 2 from rfl] at j2; omega
        · omega
      have j3 : 2 * m + 2 ≤ 2 ^ (i + 1 + 1) := by rw [Nat.pow_succ] at j2 ⊢; omega
      have l1 : (2 * m * 2 ^ t).log2 = i + 1 + t := (Nat.log2_eq_iff hpos).2 ⟨by rw [Nat.pow_add]; exact Nat.mul_le_mul_right _ j1, by
        rw [show i + 1 + t + 1 = (i + 1 + 1) + t by omega, Nat.pow_add]; exact Nat.mul_lt_mul_of_pos_right j2 hp⟩
      have l2 : (2 * m * 2 ^ t + 2 ^ t).log2 = i + 1 + t := (Nat.log2_eq_iff (by omega)).2 ⟨Nat.le_trans (by rw [Nat.pow_add]; exact Nat.mul_le_mul_right _ j1) (Nat.le_add_right _ _), by
        rw [show i + 1 + t + 1 = (i + 1 + 1) + t by omega, Nat.pow_add]
        have := Nat.mul_le_mul_right (2 ^ t) j3
        rw [Nat.add_mul] at this
        omega⟩
      rw [wholeL_more a (2 * m * 2 ^ t + 2 ^ t) (by omega), wholeL_more a (2 * m * 2 ^ t) hpos, l1, l2]
      have hi2 : 2 ^ (i + 1 + t) = 2 * 2 ^ i * 2 ^ t := by rw [Nat.pow_add, Nat.pow_succ]; rw [Nat.mul_comm (2 ^ i) 2]
      have him : 2 ^ i ≤ m := by rw [Nat.pow_succ] at j1; omega
      have hsub : 2 * m * 2 ^ t - 2 ^ (i + 1 + t) = 2 * (m - 2 ^ i) * 2 ^ t := by
        rw [hi2, ← Nat.sub_mul, ← Nat.mul_sub]
      have hle : 2 ^ (i + 1 + t) ≤ 2 * m * 2 ^ t := by rw [hi2]; exact Nat.mul_le_mul_right _ (Nat.mul_le_mul_left _ him)
      have hi := ih (m - 2 ^ i) t (a + 2 ^ (i + 1 + t)) (by have := Nat.two_pow_pos i; omega)
      rw [Nat.sub_add_comm hle, hsub, hi, List.cons_append, ← hsub]
      congr 3
      rw [Prod.mk.injEq]
      constructor <;> omega
theorem whole_low (k t : Nat) (h : k % 2 = 0) : wholeL 0 (k * 2 ^ t + 2 ^ t) = wholeL 0 (k * 2 ^ t) ++ [(k * 2 ^ t, k * 2 ^ t + 2 ^ t)] := by
  have := pow_split (k / 2) (k / 2) t 0 (Nat.le_refl _)
  rw [show 2 * (k / 2) = k by omega, Nat.zero_add] at this
  exact this
/-- two stretches of a power's length, side by side -/
theorem stretch_join (hs : List (List UInt8)) (a t : Nat) (h : a + 2 ^ t + 2 ^ t ≤ hs.length) : stretchL hs a (a + 2 ^ t + 2 ^ t) = hNode (stretchL hs a (a + 2 ^ t)) (stretchL hs (a + 2 ^ t) (a + 2 ^ t + 2 ^ t)) := by
  have hp := Nat.two_pow_pos t
  have hs2 := splitN_eq (2 ^ t + 2 ^ t) t (by omega) (by rw [Nat.pow_succ]; omega)
  generalize 2 ^ t = p at *
  unfold stretchL
  rw [show a + p + p - a = p + p by omega, show a + p - a = p by omega, show a + p + p - (a + p) = p by omega]
  have hlen : ((hs.drop a).take (p + p)).length = p + p := by rw [List.length_take, List.length_drop]; omega
  rw [rootL_more ((hs.drop a).take (p + p)) (by rw [hlen]; omega), hlen, hs2, List.take_take, Nat.min_eq_left (by omega), List.drop_take, List.drop_drop, show p + p - p = p by omega]
theorem stretch_one (hs : List (List UInt8)) (i : Nat) (h : i < hs.length) : stretchL hs i (i + 1) = hs.getD i [] := by
  unfold stretchL
  rw [show i + 1 - i = 1 by omega, List.drop_eq_getElem_cons h, List.getD_eq_getElem?_getD, List.getElem?_eq_getElem h]
  rfl
/-- the roots of all heads -/
def headsL (hs : List (List UInt8)) (k : Nat) : List (List UInt8) := (List.range (k + 1)).map fun i => rootL (hs.take i)
theorem headsL_zero (hs : List (List UInt8)) : headsL hs 0 = [hEmpty] := rfl
theorem headsL_succ (hs : List (List UInt8)) (k : Nat) : headsL hs (k + 1) = headsL hs k ++ [rootL (hs.take (k + 1))] := by
  unfold headsL
  rw [List.range_succ, List.map_append]; rfl
theorem length_headsL (hs : List (List UInt8)) (k : Nat) : (headsL hs k).length = k + 1 := by simp [headsL]
theorem headsL_all (hs : List (List UInt8)) (h : H32 hs) (k : Nat) : H32 (headsL hs k) := fun x hx => by
  obtain ⟨i, _, rfl⟩ := List.mem_map.1 hx
  exact length_rootL _ (h.take i)
theorem headsL_getD (hs : List (List UInt8)) (k i : Nat) (h : i ≤ k) : (headsL hs k).getD i [] = rootL (hs.take i) := by
  rw [headsL, List.getD_eq_getElem?_getD, List.getElem?_map, List.getElem?_range (by omega)]; rfl
theorem foldR_head (hs : List (List UInt8)) (k : Nat) (h : k < hs.length) : foldR (rootsL hs (wholeL 0 (k + 1))) = rootL (hs.take (k + 1)) := by
  rw [foldR_whole (k + 1) (k + 1) 0 hs (Nat.le_refl _) (by omega) (by omega), List.drop_zero]
end Go.Proofs.YtfhmjgkcpcnkbaaDoor
