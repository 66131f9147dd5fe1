/- The way up from a leaf (plain). -/
import Derived.Test.YtobcfgbkhgkelaaQe220
import Derived.Test.YtobcfgbkhgkelaaQe212
import Derived.Test.YtobcfgbkhgkelaaQe216
import Derived.Laws.Tables
import Derived.Test.YtobcfgbkhgkelaaQe222
import Derived.Test.YtobcfgbkhgkelaaQe223
import Derived.Lib.AppendZeros
namespace Go.Proofs.Ytobcfgbkhgkelaa
open Go Go.RowKit

abbrev StepV := (Nat × Nat) × List UInt8
def lastH (l : List StepV) : List UInt8 := (l.getLastD ((0, 0), [])).2
theorem lastH_snoc (l : List StepV) (x : StepV) : lastH (l ++ [x]) = x.2 := by simp [lastH]
/-- the way of the entry i of the stretch from a to b, by a proof -/
def upF : Nat → List UInt8 → Nat → Nat → Nat → List (List UInt8) → List StepV
  | 0, leaf, _, a, b, _ => [((a, b), leaf)]
  | f + 1, leaf, i, a, b, p =>
    if b - a < 2 then [((a, b), leaf)]
    else if i < a + splitN (b - a) then upF f leaf i a (a + splitN (b - a)) p.dropLast ++ [((a, b), hNode (lastH (upF f leaf i a (a + splitN (b - a)) p.dropLast)) (p.getD (p.length - 1) []))]
    else upF f leaf i (a + splitN (b - a)) b p.dropLast ++ [((a, b), hNode (p.getD (p.length - 1) []) (lastH (upF f leaf i (a + splitN (b - a)) b p.dropLast)))]
theorem upF_enough : ∀ (f g : Nat) (leaf : List UInt8) (i a b : Nat) (p : List (List UInt8)), b - a ≤ f → b - a ≤ g → upF f leaf i a b p = upF g leaf i a b p
  | 0, 0, _, _, _, _, _, _, _ => rfl
  | 0, g + 1, _, _, _, _, _, h, _ => by simp only [upF]; rw [if_pos (by omega)]
  | f + 1, 0, _, _, _, _, _, _, h => by simp only [upF]; rw [if_pos (by omega)]
  | f + 1, g + 1, leaf, i, a, b, p, h1, h2 => by
    simp only [upF]
    split
    · rfl
    · rename_i h3
      have hl := splitN_lt (b - a) (by omega)
      have hp := splitN_pos (b - a) (by omega)
      rw [upF_enough f g leaf i a (a + splitN (b - a)) _ (by omega) (by omega), upF_enough f g leaf i (a + splitN (b - a)) b _ (by omega) (by omega)]
def upL (leaf : List UInt8) (i a b : Nat) (p : List (List UInt8)) : List StepV := upF (b - a) leaf i a b p
theorem upL_small (leaf : List UInt8) (i a b : Nat) (p : List (List UInt8)) (h : b - a < 2) : upL leaf i a b p = [((a, b), leaf)] := by
  unfold upL
  rw [upF_enough (b - a) (b - a + 1) leaf i a b p (Nat.le_refl _) (by omega), upF, if_pos h]
theorem upL_left (leaf : List UInt8) (i a b : Nat) (p : List (List UInt8)) (h : 2 ≤ b - a) (hi : i < a + splitN (b - a)) : upL leaf i a b p = upL leaf i a (a + splitN (b - a)) p.dropLast ++ [((a, b), hNode (lastH (upL leaf i a (a + splitN (b - a)) p.dropLast)) (p.getD (p.length - 1) []))] := by
  have hl := splitN_lt (b - a) (by omega)
  unfold upL
  rw [upF_enough (b - a) (b - a + 1) leaf i a b p (Nat.le_refl _) (by omega), upF, if_neg (by omega), if_pos hi, upF_enough (b - a) (a + splitN (b - a) - a) leaf i a (a + splitN (b - a)) _ (by omega) (Nat.le_refl _)]
theorem upL_right (leaf : List UInt8) (i a b : Nat) (p : List (List UInt8)) (h : 2 ≤ b - a) (hi : ¬ i < a + splitN (b - a)) : upL leaf i a b p = upL leaf i (a + splitN (b - a)) b p.dropLast ++ [((a, b), hNode (p.getD (p.length - 1) []) (lastH (upL leaf i (a + splitN (b - a)) b p.dropLast)))] := by
  have hp := splitN_pos (b - a) (by omega)
  unfold upL
  rw [upF_enough (b - a) (b - a + 1) leaf i a b p (Nat.le_refl _) (by omega), upF, if_neg (by omega), if_neg hi, upF_enough (b - a) (b - (a + splitN (b - a))) leaf i (a + splitN (b - a)) b _ (by omega) (Nat.le_refl _)]
/-- as many steps as hashes, and one -/
theorem length_upL (leaf : List UInt8) (d : Nat) : ∀ (i a b : Nat) (p : List (List UInt8)), b - a ≤ d → a ≤ i → i < b → (upL leaf i a b p).length = (pathL i a b).length + 1 := by
  induction d with
  | zero => intro i a b p h h1 h2; omega
  | succ d ih =>
    intro i a b p h h1 h2
    by_cases hs : b - a < 2
    · rw [upL_small leaf i a b p hs, pathL_small i a b hs]; rfl
    · have hl := splitN_lt (b - a) (by omega)
      have hp := splitN_pos (b - a) (by omega)
      by_cases hi : i < a + splitN (b - a)
      · rw [upL_left leaf i a b p (by omega) hi, pathL_left i a b (by omega) hi, List.length_append, List.length_append, ih i a (a + splitN (b - a)) _ (by omega) h1 hi]; rfl
      · rw [upL_right leaf i a b p (by omega) hi, pathL_right i a b (by omega) hi, List.length_append, List.length_append, ih i (a + splitN (b - a)) b _ (by omega) (by omega) h2]; rfl
theorem upL_all (leaf : List UInt8) (hlf : leaf.length = 32) (d : Nat) : ∀ (i a b : Nat) (p : List (List UInt8)), b - a ≤ d → ∀ s ∈ upL leaf i a b p, s.2.length = 32 := by
  induction d with
  | zero => intro i a b p h s hs; rw [upL_small leaf i a b p (by omega)] at hs; rw [List.mem_singleton.1 hs]; exact hlf
  | succ d ih =>
    intro i a b p h s hs
    by_cases h2 : b - a < 2
    · rw [upL_small leaf i a b p h2] at hs; rw [List.mem_singleton.1 hs]; exact hlf
    · have hl := splitN_lt (b - a) (by omega)
      have hp := splitN_pos (b - a) (by omega)
      by_cases hi : i < a + splitN (b - a)
      · rw [upL_left leaf i a b p (by omega) hi] at hs
        rcases List.mem_append.1 hs with h1 | h1
        · exact ih i a (a + splitN (b - a)) _ (by omega) s h1
        · rw [List.mem_singleton.1 h1]; exact length_hNode _ _
      · rw [upL_right leaf i a b p (by omega) hi] at hs
        rcases List.mem_append.1 hs with h1 | h1
        · exact ih i (a + splitN (b - a)) b _ (by omega) s h1
        · rw [List.mem_singleton.1 h1]; exact length_hNode _ _
/-- the last step is the whole stretch -/
theorem upL_last (leaf : List UInt8) (i a b : Nat) (p : List (List UInt8)) : ∃ l x, upL leaf i a b p = l ++ [((a, b), x)] := by
  by_cases h2 : b - a < 2
  · exact ⟨[], leaf, upL_small leaf i a b p h2⟩
  · by_cases hi : i < a + splitN (b - a)
    · exact ⟨_, _, upL_left leaf i a b p (by omega) hi⟩
    · exact ⟨_, _, upL_right leaf i a b p (by omega) hi⟩
def rootsP (hs : List (List UInt8)) (i : Int) : List (List UInt8) := rootsL hs (pathA i hs.length).1
/-- what incl.way and the document's Up answer -/
def wayA (leaf : List UInt8) (i n : Int) (p : List (List UInt8)) : List StepV × Int :=
  if (pathA i n).2 ≠ 0 then ([], (pathA i n).2) else if (pathA i n).1.length ≠ p.length then ([], 210) else (upL leaf i.toNat 0 n.toNat p, 0)
/-- the root that a proof leads to -/
def fromA (leaf : List UInt8) (i n : Int) (p : List (List UInt8)) : List UInt8 × Int :=
  if (wayA leaf i n p).2 ≠ 0 then (List.replicate 32 0, (wayA leaf i n p).2) else (lastH (wayA leaf i n p).1, 0)
def takenA (leaf : List UInt8) (i n : Int) (root : List UInt8) (p : List (List UInt8)) : Int :=
  if (fromA leaf i n p).2 ≠ 0 then (fromA leaf i n p).2 else if (fromA leaf i n p).1 ≠ root then 210 else 0
/-- the proof leads to the root -/
theorem upL_roots (hs : List (List UInt8)) (d : Nat) : ∀ (i a b : Nat), b - a ≤ d → a ≤ i → i < b → b ≤ hs.length → ∀ s ∈ upL (hs.getD i []) i a b (rootsL hs (pathL i a b)), s.2 = stretchL hs s.1.1 s.1.2 ∧ a ≤ s.1.1 ∧ s.1.2 ≤ b := by
  induction d with
  | zero => intro i a b h h1 h2; omega
  | succ d ih =>
    intro i a b h h1 h2 hb s hs'
    by_cases h3 : b - a < 2
    · rw [upL_small _ i a b _ h3] at hs'
      rw [List.mem_singleton.1 hs']
      refine ⟨?_, Nat.le_refl _, Nat.le_refl _⟩
      show hs.getD i [] = stretchL hs a b
      unfold stretchL
      obtain rfl : a = i := by omega
      rw [show b - a = 1 by omega, List.drop_eq_getElem_cons (by omega), List.getD_eq_getElem?_getD, List.getElem?_eq_getElem (by omega)]
      rfl
    · have hl := splitN_lt (b - a) (by omega)
      have hp := splitN_pos (b - a) (by omega)
      have hsp : stretchL hs a b = hNode (stretchL hs a (a + splitN (b - a))) (stretchL hs (a + splitN (b - a)) b) := by
        unfold stretchL
        have hlen : ((hs.drop a).take (b - a)).length = b - a := by rw [List.length_take, List.length_drop]; omega
        rw [rootL_more ((hs.drop a).take (b - a)) (by rw [hlen]; omega), hlen, List.take_take, Nat.min_eq_left (by omega), List.drop_take, List.drop_drop, show a + splitN (b - a) - a = splitN (b - a) by omega, show b - (a + splitN (b - a)) = b - a - splitN (b - a) by omega]
      have snoc : ∀ (l : List (Nat × Nat)) (x : Nat × Nat), rootsL hs (l ++ [x]) = rootsL hs l ++ [stretchL hs x.1 x.2] := fun l x => by simp [rootsL]
      have lst : ∀ (l : List (List UInt8)) (x : List UInt8), (l ++ [x]).getD ((l ++ [x]).length - 1) [] = x := fun l x => by simp [List.getD_eq_getElem?_getD]
      have hlast : ∀ (i a b : Nat), b - a ≤ d → a ≤ i → i < b → b ≤ hs.length → lastH (upL (hs.getD i []) i a b (rootsL hs (pathL i a b))) = stretchL hs a b := fun i a b h1 h2 h3 h4 => by
        obtain ⟨l, x, e⟩ := upL_last (hs.getD i []) i a b (rootsL hs (pathL i a b))
        have := (ih i a b h1 h2 h3 h4 ((a, b), x) (by rw [e]; simp)).1
        rw [e, lastH_snoc]
        exact this
      by_cases hi : i < a + splitN (b - a)
      · rw [upL_left _ i a b _ (by omega) hi, pathL_left i a b (by omega) hi, snoc, List.dropLast_concat, lst, hlast i a (a + splitN (b - a)) (by omega) h1 hi (by omega)] at hs'
        rcases List.mem_append.1 hs' with h4 | h4
        · obtain ⟨e1, e2, e3⟩ := ih i a (a + splitN (b - a)) (by omega) h1 hi (by omega) s h4
          exact ⟨e1, e2, by omega⟩
        · rw [List.mem_singleton.1 h4]
          exact ⟨hsp.symm, Nat.le_refl _, Nat.le_refl _⟩
      · rw [upL_right _ i a b _ (by omega) hi, pathL_right i a b (by omega) hi, snoc, List.dropLast_concat, lst, hlast i (a + splitN (b - a)) b (by omega) (by omega) h2 hb] at hs'
        rcases List.mem_append.1 hs' with h4 | h4
        · obtain ⟨e1, e2, e3⟩ := ih i (a + splitN (b - a)) b (by omega) (by omega) h2 hb s h4
          exact ⟨e1, by omega, e3⟩
        · rw [List.mem_singleton.1 h4]
          exact ⟨hsp.symm, Nat.le_refl _, Nat.le_refl _⟩
end Go.Proofs.Ytobcfgbkhgkelaa
/- A range with a hash, as a value, a variable, in a slice. -/
namespace Go.Proofs.Ytobcfgbkhgkelaa
open Go Go.RowKit

def scell (s : StepV) : List Value := [.int .i64 (s.1.1 : Int), .int .i64 (s.1.2 : Int)] ++ s.2.map B
def scells (l : List StepV) : List Value := l.flatMap scell
def S32 (l : List StepV) : Prop := ∀ s ∈ l, s.2.length = 32
theorem length_scell (s : StepV) (h : s.2.length = 32) : (scell s).length = 34 := by simp [scell, h]
theorem scells_nil : scells [] = [] := rfl
theorem scells_one (s : StepV) : scells [s] = scell s := by simp [scells]
theorem scells_append (a b : List StepV) : scells (a ++ b) = scells a ++ scells b := by simp [scells]
theorem S32.append {a b : List StepV} (h : S32 a) (k : S32 b) : S32 (a ++ b) := fun x hx => (List.mem_append.1 hx).elim (h x) (k x)
theorem S32.one {s : StepV} (h : s.2.length = 32) : S32 [s] := fun x hx => by rw [List.mem_singleton.1 hx]; exact h
theorem scells_len : ∀ l : List StepV, S32 l → (scells l).length = l.length * 34
  | [], _ => rfl
  | s :: l, h => by
    have h1 := scells_len l (fun x hx => h x (by simp [hx]))
    have h2 := length_scell s (h s (by simp))
    simp only [scells, List.flatMap_cons, List.length_append, List.length_cons] at *
    omega
theorem oneS (l : List StepV) : ∀ v ∈ scells l, v.oneCell' = true := by
  intro v hv
  obtain ⟨s, _, hv⟩ := List.mem_flatMap.1 hv
  simp only [scell, List.mem_append, List.mem_cons, List.not_mem_nil, or_false] at hv
  rcases hv with (rfl | rfl) | hv
  · rfl
  · rfl
  · obtain ⟨b, _, rfl⟩ := List.mem_map.1 hv
    rfl
theorem oneSc (s : StepV) : ∀ v ∈ (scell s).toArray.toList, v.oneCell' = true := by
  have := oneS [s]
  rw [scells_one] at this
  simpa using this
theorem scells_at (l : List StepV) (h : S32 l) (k : Nat) (hk : k < l.length) (j : Nat) (v : Value) (hv : (scell (l.getD k ((0, 0), [])))[j]? = some v) : (scells l)[k * 34 + j]? = some v := by
  have e : l = l.take k ++ l.getD k ((0, 0), []) :: l.drop (k + 1) := by
    rw [List.getD_eq_getElem?_getD, List.getElem?_eq_getElem hk, Option.getD_some, ← List.drop_eq_getElem_cons hk, List.take_append_drop]
  have hl : (scells (l.take k)).length = k * 34 := by rw [scells_len _ (fun x hx => h x (List.mem_of_mem_take hx)), List.length_take, Nat.min_eq_left (Nat.le_of_lt hk)]
  generalize l.getD k ((0, 0), []) = s at e hv
  rw [e, scells_append, List.getElem?_append_right (by omega), hl, Nat.add_sub_cancel_left, scells, List.flatMap_cons, List.getElem?_append_left (List.getElem?_eq_some_iff.1 hv).1]
  exact hv
theorem explode32 (l : List UInt8) (h : l.length = 32) : ∃ a0 a1 a2 a3 a4 a5 a6 a7 a8 a9 a10 a11 a12 a13 a14 a15 a16 a17 a18 a19 a20 a21 a22 a23 a24 a25 a26 a27 a28 a29 a30 a31 : UInt8, l = [a0, a1, a2, a3, a4, a5, a6, a7, a8, a9, a10, a11, a12, a13, a14, a15, a16, a17, a18, a19, a20, a21, a22, a23, a24, a25, a26, a27, a28, a29, a30, a31] := by
  match l, h with
  | [a0, a1, a2, a3, a4, a5, a6, a7, a8, a9, a10, a11, a12, a13, a14, a15, a16, a17, a18, a19, a20, a21, a22, a23, a24, a25, a26, a27, a28, a29, a30, a31], _ => exact ⟨_, _, _, _, _, _, _, _, _, _, _, _, _, _, _, _, _, _, _, _, _, _, _, _, _, _, _, _, _, _, _, _, rfl⟩

/-- a type of such pairs, the type of its slices -/
structure StepT (T S : TypeId) : Prop where
  agg : ∀ w : World, (isAgg T).run Try.prog w = .ok true w
  size : ∀ w : World, (sizeOf T).run Try.prog w = .ok 34 w
  info : (Try.prog.info? T).map (fun i => (i.zero, i.size, i.bytes)) = some (some (.agg (scell ((0, 0), List.replicate 32 0)).toArray), 34, 48)
  slice : Try.prog.underlying S = some (.slice T)
  elem : Try.prog.elem S = T
  made : ∀ (a b : Nat) (l : List UInt8), l.length = 32 → Try.prog.built T [(0, .agg #[.int .i64 (a : Int), .int .i64 (b : Int)]), (1, .agg (l.map B).toArray)] = some (scell ((a, b), l)).toArray
theorem stepT1 : StepT 131 127 := ⟨fun _ => by kernel_rfl, fun _ => by kernel_rfl, by kernel_rfl, by kernel_rfl, by kernel_rfl, fun a b l h => by
  obtain ⟨a0, a1, a2, a3, a4, a5, a6, a7, a8, a9, a10, a11, a12, a13, a14, a15, a16, a17, a18, a19, a20, a21, a22, a23, a24, a25, a26, a27, a28, a29, a30, a31, rfl⟩ := explode32 l h
  kernel_rfl⟩
theorem run_build_op {ρ : Operand → Value} {o : Oper} {T : TypeId} {ps : Array (Nat × Operand)} {cs : Array Value} (ho : o.op = .build T ps) (h : Try.prog.built T ((ps.map fun (i, x) => (i, ρ x)).toList) = some cs) (W : World) : (execOp ρ o).run Try.prog W = .ok (.value (.agg cs)) W := by
  unfold execOp
  simp only [ho, Sem.run_bind, Sem.run_pure, run_build W T _ cs h, Result.andThen_ok]
theorem run_build_st {T S : TypeId} (hT : StepT T S) {ρ : Operand → Value} {o : Oper} (x y : Operand) (a b : Nat) (l : List UInt8) (hl : l.length = 32) (ho : o.op = .build T #[(0, x), (1, y)]) (hx : ρ x = .agg #[.int .i64 (a : Int), .int .i64 (b : Int)]) (hy : ρ y = .agg (l.map B).toArray) (W : World) :
    (execOp ρ o).run Try.prog W = .ok (.value (.agg (scell ((a, b), l)).toArray)) W :=
  run_build_op ho (by
    have e : (#[(0, x), (1, y)].map fun (i, x) => (i, ρ x)).toList = [(0, .agg #[.int .i64 (a : Int), .int .i64 (b : Int)]), (1, .agg (l.map B).toArray)] := by simp [hx, hy]
    rw [e]
    exact hT.made a b l hl) W

/-- a variable that holds such a pair -/
structure SV (T : TypeId) (w : World) (g : Nat) (s : StepV) : Prop where
  blk : Blk w g T (scell s).toArray
  len : s.2.length = 32
section
variable {T S : TypeId} {w W : World} {g : Nat} {s : StepV}
theorem SV.step (h : SV T w g s) (hb : Below w.heap.size w W) : SV T W g s := ⟨h.blk.step hb, h.len⟩
theorem SV.lt (h : SV T w g s) : g < w.heap.size := h.blk.lt
theorem SV.drew (h : SV T w g s) : SV T w.drew g s := ⟨h.blk, h.len⟩
theorem SV.far {n : Nat} (h : SV T w g s) (hb : Below n w W) (hn : g < n) : SV T W g s := ⟨h.blk.below hb hn, h.len⟩
theorem SV.grown {row : Option Nat} (h : SV T w g s) (hg : w.grownBy W row) (hr : some g ≠ row) : SV T W g s := ⟨h.blk.grown hg hr, h.len⟩
theorem SV.load (hT : StepT T S) (h : SV T w g s) : (Instr.loadAt T (.pointer (some ⟨g, 0, none⟩))).run Try.prog w = .ok (.agg (scell s).toArray) w :=
  run_load_blk (hT.agg _) (hT.size _) g _ (by simp [length_scell s h.len]) h.blk
theorem SV.hash (h : SV T w g s) : (Instr.loadAt 26 (.pointer (some ⟨g, 2, none⟩))).run Try.prog w = .ok (.agg (s.2.map B).toArray) w :=
  run_load_agg (agg26 _) (size26 _) g 2 (s.2.map B) (by simp [h.len]) fun j u hu => by
    rw [h.blk.cell, List.getElem?_toArray]
    show ([Value.int .i64 (s.1.1 : Int), .int .i64 (s.1.2 : Int)] ++ s.2.map B)[2 + j]? = some u
    rw [List.getElem?_append_right (by simp)]
    simpa using hu
theorem SV.range (h : SV T w g s) : (Instr.loadAt 121 (.pointer (some ⟨g, 0, none⟩))).run Try.prog w = .ok (.agg #[.int .i64 (s.1.1 : Int), .int .i64 (s.1.2 : Int)]) w :=
  run_load_agg (aggR _) (sizeR _) g 0 [.int .i64 (s.1.1 : Int), .int .i64 (s.1.2 : Int)] rfl fun j u hu => by
    rw [h.blk.cell, List.getElem?_toArray, Nat.zero_add]
    show ([Value.int .i64 (s.1.1 : Int), .int .i64 (s.1.2 : Int)] ++ s.2.map B)[j]? = some u
    rw [List.getElem?_append_left (List.getElem?_eq_some_iff.1 hu).1]
    exact hu
end
section
variable {T S : TypeId} {w : World} {ops : Array Oper} {rest : List Oper} {o o1 o2 : Oper} {a : Act} {Q : Exit → Act → World → Prop} {s : StepV}
theorem run_alloc_st (hT : StepT T S) {ρ : Operand → Value} (ho : o.op = .alloc T) (w : World) : (execOp ρ o).run Try.prog w = .ok (.value (.pointer (some ⟨w.heap.size, 0, none⟩))) (w.alloc (.cells (scell ((0, 0), List.replicate 32 0)).toArray T)) := by
  obtain ⟨i, hi, hii⟩ := Option.map_eq_some_iff.1 hT.info
  simp only [Prod.mk.injEq] at hii
  unfold execOp
  rw [ho]
  simp [Instr.alloc, Sem.run_bind, zeroValue, typeInfo, hi, hii.1, newVar, newRow, Value.cells]
theorem wpList_snew (hT : StepT T S) (hg : o.guard = none) (ho : o.op = .alloc T) (h : ∀ W, SV T W w.heap.size ((0, 0), List.replicate 32 0) → Below w.heap.size w W → wpList Try.prog ops Q rest (a.put o.dst (.pointer (some ⟨w.heap.size, 0, none⟩))) W) : wpList Try.prog ops Q (o :: rest) a w :=
  wpList_run hg _ _ (run_alloc_st hT ho w) (h _ ⟨Blk.new w T _, rfl⟩ ((Below.refl _ _).alloc (Nat.le_refl _) _))
/-- such a variable is written over -/
theorem wpList_sset (hT : StepT T S) {g : Nat} {s' : StepV} (x y : Operand) (hg : o.guard = none) (ho : o.op = .store T x y) (k : SV T w g s') (hx : a.eval x = .pointer (some ⟨g, 0, none⟩)) (hy : a.eval y = .agg (scell s).toArray) (hl : s.2.length = 32)
    (h : ∀ W, SV T W g s → w.grownBy W (some g) → wpList Try.prog ops Q rest (a.put o.dst undef) W) : wpList Try.prog ops Q (o :: rest) a w :=
  wpList_store_blk hg T x y ho 34 hT.size g (scell s).toArray hx hy (by simp [length_scell s hl]) (oneSc s) T _ k.blk (by simp [length_scell s' k.len]) (h _ ⟨k.blk.setRow_ _, hl⟩ ⟨rfl, rfl, rfl, by simp, fun i _ hne => setRow_other w g i _ (fun e => hne (by rw [e]))⟩)
/-- a new one, written at once -/
theorem wpList_svar (hT : StepT T S) (x y : Operand) (hg1 : o1.guard = none) (hg2 : o2.guard = none) (ho1 : o1.op = .alloc T) (ho2 : o2.op = .store T x y)
    (hx : (a.put o1.dst (.pointer (some ⟨w.heap.size, 0, none⟩))).eval x = .pointer (some ⟨w.heap.size, 0, none⟩)) (hy : (a.put o1.dst (.pointer (some ⟨w.heap.size, 0, none⟩))).eval y = .agg (scell s).toArray) (hl : s.2.length = 32)
    (h : ∀ W, SV T W w.heap.size s → Below w.heap.size w W → wpList Try.prog ops Q rest ((a.put o1.dst (.pointer (some ⟨w.heap.size, 0, none⟩))).put o2.dst undef) W) : wpList Try.prog ops Q (o1 :: o2 :: rest) a w :=
  wpList_snew hT hg1 ho1 fun W k hb => wpList_sset hT x y hg2 ho2 k hx hy hl fun W' k' hg => h W' k' (hb.grown hg hb.size fun r e => by cases e; exact Nat.le_refl _)
/-- its hash is written over -/
theorem wpList_shash {g : Nat} {l : List UInt8} (x y : Operand) (hg : o.guard = none) (ho : o.op = .store 26 x y) (k : SV T w g s) (hx : a.eval x = .pointer (some ⟨g, 2, none⟩)) (hy : a.eval y = .agg (l.map B).toArray) (hl : l.length = 32)
    (h : ∀ W, SV T W g (s.1, l) → w.grownBy W (some g) → wpList Try.prog ops Q rest (a.put o.dst undef) W) : wpList Try.prog ops Q (o :: rest) a w := by
  refine wpList_store_agg hg 26 x y ho 32 size26 g 2 (l.map B).toArray hx hy (by simp [hl]) (oneCell_B _) T _ k.blk (by simp [length_scell s k.len]) ?_
  refine h _ ⟨?_, hl⟩ ⟨rfl, rfl, rfl, by simp, fun i _ hne => setRow_other w g i _ (fun e => hne (by rw [e]))⟩
  have e : (((scell s).toArray.toList.take 2 ++ (l.map B).toArray.toList ++ (scell s).toArray.toList.drop (2 + 32)).toArray) = (scell (s.1, l)).toArray := by
    have h1 : (scell s).drop 34 = [] := List.drop_eq_nil_of_le (by rw [length_scell s k.len]; exact Nat.le_refl _)
    show (((scell s).take 2 ++ l.map B ++ (scell s).drop 34).toArray) = _
    rw [h1]
    simp [scell]
  rw [e]
  exact k.blk.setRow_ _
end
/-- one more behind a row of one's own -/
theorem append_st {T S : TypeId} (hT : StepT T S) {w : World} {base n : Nat} {v : Value} {q : List StepV} (hown : w.ownsRow base T 34 v n (scells q)) (s : StepV) (hs : s.2.length = 32) (hn : n ≤ 1000000) (hbase : base ≤ w.heap.size) :
    ∃ v' w', (Builtin.append_ #[S, S] S #[v, .slice (some ⟨w.heap.size, 0, none⟩) 1 1]).run Try.prog (w.alloc (.cells (scell s).toArray T)) = .ok v' w' ∧ w'.ownsRow base T 34 v' (n + 1) (scells (q ++ [s])) ∧ w.grownBy w' v.ownBlock ∧ (v'.ownBlock = v.ownBlock ∨ ∃ k, v'.ownBlock = some k ∧ w.heap.size ≤ k) := by
  have hb : Below w.heap.size w (w.alloc (.cells (scell s).toArray T)) := (Below.refl _ _).alloc (Nat.le_refl _) _
  have hz : (Value.agg (scell ((0, 0), List.replicate 32 0)).toArray).cells.size = 34 := rfl
  obtain ⟨v', w', h1, h2, h3, h4⟩ := append_slv (P := Try.prog) (ty := S) hT.slice hT.info hz (by decide) (owns_step hown hb) (SlV.lit w (fun _ => True) T (scell s) (n := 1) (s := 34) (by rw [length_scell s hs]) (by unfold maxLen; omega) trivial) (by have := oneSc s; simpa using this) (by unfold maxLen; omega) (by omega) (Nat.le_trans hbase hb.size)
  refine ⟨v', w', h1, by rw [scells_append, scells_one]; exact h2, ⟨h3.os, h3.tape, h3.output, Nat.le_trans hb.size h3.size, fun k hk hne => (h3.block k (Nat.lt_of_lt_of_le hk hb.size) hne).trans (hb.block k hk)⟩, ?_⟩
  rcases h4 with h4 | ⟨k, h4, h5⟩
  · exact .inl h4
  · exact .inr ⟨k, h4, Nat.le_trans hb.size h5⟩
/-- a literal of one -/
theorem run_litS_op {T S : TypeId} (hT : StepT T S) {ρ : Operand → Value} {o : Oper} (s : StepV) (hs : s.2.length = 32) (y : Operand) (ho : o.op = .buildSlice S 1 #[(0, y)]) (hy : ρ y = .agg (scell s).toArray) (W : World) :
    (execOp ρ o).run Try.prog W = .ok (.value (.slice (some ⟨W.heap.size, 0, none⟩) 1 1)) (W.alloc (.cells (scell s).toArray T)) := by
  obtain ⟨i, hi, hii⟩ := Option.map_eq_some_iff.1 hT.info
  simp only [Prod.mk.injEq] at hii
  obtain ⟨hz, hsz, -⟩ := hii
  have := run_buildSlice (P := Try.prog) W S T 1 #[(0, .agg (scell s).toArray)] (scell s).toArray i _ hT.slice hi hz (by rw [hsz]; omega) (by rw [hsz]; omega) (by
    have hw := Great.fill_whole (s := 34) (by decide) [Value.agg (scell s).toArray] ((Array.range (1 * 34)).map ((Value.agg (scell ((0, 0), List.replicate 32 0)).toArray).cells[· % (Value.agg (scell ((0, 0), List.replicate 32 0)).toArray).cells.size]!)) (by intro v hv; rw [List.mem_singleton.1 hv]; simp [Value.cells, length_scell s hs]) (by simp)
    rw [hsz]
    exact hw.trans (by simp [Value.cells]))
  unfold execOp
  simp only [ho, Sem.run_bind, Sem.run_pure, show (#[(0, y)].map fun (x : Nat × Operand) => (x.1, ρ x.2)) = #[(0, .agg (scell s).toArray)] by simp [hy], this, Result.andThen_ok]
end Go.Proofs.Ytobcfgbkhgkelaa
/- model: now, Publish, Read. -/
namespace Go.Proofs.Ytobcfgbkhgkelaa
open Go Go.RowKit
attribute [local go_sem] Oper.semAt_some

theorem builtPtM (n : Int) (l : List UInt8) (h : l.length = 32) : Try.prog.built 28 [(0, .int .i64 n), (1, .agg (l.map B).toArray)] = some (.int .i64 n :: l.map B).toArray := by
  obtain ⟨a0, a1, a2, a3, a4, a5, a6, a7, a8, a9, a10, a11, a12, a13, a14, a15, a16, a17, a18, a19, a20, a21, a22, a23, a24, a25, a26, a27, a28, a29, a30, a31, rfl⟩ := explode32 l h
  kernel_rfl
theorem run_build_ptM {ρ : Operand → Value} {o : Oper} (x y : Operand) (n : Int) (l : List UInt8) (hl : l.length = 32) (ho : o.op = .build 28 #[(0, x), (1, y)]) (hx : ρ x = .int .i64 n) (hy : ρ y = .agg (l.map B).toArray) (W : World) :
    (execOp ρ o).run Try.prog W = .ok (.value (.agg (.int .i64 n :: l.map B).toArray)) W :=
  run_build_op ho (by
    have e : (#[(0, x), (1, y)].map fun (i, x) => (i, ρ x)).toList = [(0, .int .i64 n), (1, .agg (l.map B).toArray)] := by simp [hx, hy]
    rw [e]
    exact builtPtM n l hl) W
set_option maxRecDepth 100000 in
theorem ret_pt {fn : Func} {p : Tmp} {tmps : Array Value} {W : World} {g : Nat} {n : Int} {l : List UInt8} (h : fn.results = #[.cell p 28]) (hp : tmps.getD p undef = .pointer (some ⟨g, 0, none⟩)) (k : PB W g n l) : (results fn tmps).run Try.prog W = .ok (.agg (.int .i64 n :: l.map B).toArray) W :=
  results_cell_row h tmps W g 28 (Value.int .i64 n :: l.map B).toArray (0, 0) _ hp k.blk Try.underlying28 rfl (by rw [show (Value.int .i64 n :: l.map B).toArray.size = 33 by simp [k.rl]]; kernel_rfl)
set_option maxRecDepth 100000 in
theorem tuple_pt {fn : Func} {p u : Tmp} (h : fn.results = #[.cell p 28, .tmp u]) (tmps : Array Value) (W : World) (g : Nat) (n : Int) (l : List UInt8)
    (hp : tmps.getD p undef = .pointer (some ⟨g, 0, none⟩)) (k : PB W g n l) :
    (results fn tmps).run Try.prog W = .ok (.tuple #[.agg (.int .i64 n :: l.map B).toArray, tmps.getD u undef]) W := by
  rw [results_cell_tmp h, hp]
  show ((loadVar 28 ⟨g, 0, none⟩).run Try.prog W).andThen (fun v w₂ => Result.ok (Value.tuple #[v, tmps.getD u undef]) w₂) = _
  rw [run_loadVar_row W g 28 28 (Value.int .i64 n :: l.map B).toArray (0, 0) _ k.blk Try.underlying28 rfl (by rw [show (Value.int .i64 n :: l.map B).toArray.size = 33 by simp [k.rl]]; kernel_rfl)]
  rfl
/-- the last point is written over -/
theorem md_last {R : MdR} {m : MoV} (s : Int) (r : List UInt8) (hr : r.length = 32) : ((mdArr R m).toList.take 6 ++ (.int .i64 s :: r.map B) ++ (mdArr R m).toList.drop (6 + 33)).toArray = mdArr R { m with lastS := s, lastR := r } := by
  have hl : (mdArr R m).toList.length = 77 := by simpa using md_size R m
  have hp : (Value.int .i64 s :: r.map B).length = 33 := by simp [hr]
  refine md_ext (by simp [hr, md_size]) fun i hi => ?_
  rw [List.getElem?_toArray]
  by_cases h1 : i < 6
  · rw [List.append_assoc, List.getElem?_append_left (by rw [List.length_take]; omega), List.getElem?_take_of_lt h1, Array.getElem?_toList, md_at _ _ _ hi]
    rcases (by omega : i = 0 ∨ i = 1 ∨ i = 2 ∨ i = 3 ∨ i = 4 ∨ i = 5) with rfl | rfl | rfl | rfl | rfl | rfl <;> rfl
  · by_cases h2 : i < 39
    · rw [List.append_assoc, List.getElem?_append_right (by rw [List.length_take]; omega), List.length_take, List.getElem?_append_left (by rw [hp]; omega)]
      by_cases h3 : i = 6
      · subst h3; simp [hl]; rfl
      · obtain ⟨j, rfl⟩ : ∃ j, i = j + 7 := ⟨i - 7, by omega⟩
        rw [show j + 7 - min 6 (mdArr R m).toList.length = j + 1 by omega, List.getElem?_cons_succ, List.getElem?_map, List.getElem?_eq_getElem (by omega)]
        have e : mcell R { m with lastS := s, lastR := r } (j + 7) = B (r.getD (j + 7 - 7) 0) := by
          unfold mcell
          simp only [show j + 7 ≠ 0 by omega, show j + 7 ≠ 1 by omega, show j + 7 ≠ 2 by omega, show j + 7 ≠ 3 by omega, show j + 7 ≠ 4 by omega, show j + 7 ≠ 5 by omega, show j + 7 ≠ 6 by omega, show j + 7 < 39 by omega, if_false, if_true]
        rw [e, Nat.add_sub_cancel, List.getD_eq_getElem?_getD, List.getElem?_eq_getElem (by omega)]
        rfl
    · rw [List.getElem?_append_right (by rw [List.length_append, List.length_take, hp]; omega), List.getElem?_drop, List.length_append, List.length_take, hp, show 6 + 33 + (i - (min 6 (mdArr R m).toList.length + 33)) = i by omega, Array.getElem?_toList, md_at _ _ _ hi]
      unfold mcell
      simp only [show i ≠ 0 by omega, show i ≠ 1 by omega, show i ≠ 2 by omega, show i ≠ 3 by omega, show i ≠ 4 by omega, show i ≠ 5 by omega, show i ≠ 6 by omega, h2, if_false]
set_option maxHeartbeats 4000000 in
set_option maxRecDepth 100000 in
theorem mnow_any (Z : Nat → Prop) (lo g : Nat) (R : MdR) (m : MoV) (W : World) (h : Md Z lo g R m W) :
    Calls Try.prog 44 #[.pointer (some ⟨g, 0, none⟩)] W fun e w' => e = .returned (.agg (.int .i64 (m.ents.length : Int) :: m.nowR.map B).toArray) ∧ Below W.heap.size W w' := by
  obtain ⟨A, c, hre, hrs⟩ := h.roots
  have hr := hrs.sl.room
  have hmx := hrs.sl.max
  unfold maxLen at hmx
  obtain ⟨b, o, rfl, hbl, -, hld⟩ := hrs.at_ (by omega)
  obtain ⟨root, hroot⟩ : ∃ x, m.nowR = x := ⟨_, rfl⟩
  have hr32 : root.length = 32 := by rw [← hroot]; exact length_rootL _ (H32.lvs _)
  have hget : (headsL (lvs m.ents) m.ents.length).getD m.ents.length [] = root := by
    rw [headsL_getD _ _ _ (Nat.le_refl _), List.take_of_length_le (by rw [lvs_length]; exact Nat.le_refl _)]
    exact hroot
  obtain ⟨w1, hw1⟩ : ∃ x, W.alloc (.cells (.int .i64 0 :: (List.replicate 32 0).map B).toArray 28) = x := ⟨_, rfl⟩
  have p1 : PB w1 W.heap.size 0 (List.replicate 32 0) := by rw [← hw1]; exact ⟨Blk.new _ _ _, by simp⟩
  have B1 : Below W.heap.size W w1 := by rw [← hw1]; exact (Below.refl _ _).alloc (Nat.le_refl _) _
  have hS0 : Below W.heap.size W w1.drew := B1.drew
  have p2 : ∀ W', Below w1.drew.heap.size w1.drew W' → PB W' W.heap.size 0 (List.replicate 32 0) := fun W' hb => (p1.step ((Below.refl _ _).drew)).step hb
  obtain ⟨n, hke⟩ : ∃ x, m.ents.length = x := ⟨_, rfl⟩
  have hsz := fun W' (hb : Below W.heap.size W W') => msize_any (h.step hb)
  have c2 : ∀ s : InC (fun W' => Below W.heap.size W W'), s.W.cell? ⟨g, 2, none⟩ = some (.slice (some ⟨b, o, none⟩) (n + 1) c) := fun s => by rw [← hke]; exact ((h.step s.ok).cell 2 (by decide)).trans (congrArg some hre)
  have hlr : ∀ s : InC (fun W' => Below W.heap.size W W'), (Instr.loadAt 26 (.pointer (some ⟨b, o + n * 32, none⟩))).run Try.prog s.W = .ok (.agg (root.map B).toArray) s.W := fun s => by
    obtain ⟨b', o', e', -, -, hld'⟩ := (hrs.step s.ok).at_ (by omega)
    cases e'
    have := hld' m.ents.length (by omega)
    rw [hget, hke] at this
    exact this
  rw [hke] at hsz hr ⊢
  have hw : IntKind.i64.wrap (n : Int) = (n : Int) := IntWalk.i64_in _ (by omega)
  have hwn : (n : Int) < (n : Int) + 1 := by omega
  have hnn : n < n + 1 := Nat.lt_succ_self n
  rw [hroot]
  have Hsz := Lib.hid hsz
  have Hp2 := Lib.hid p2
  have Hw1 := Lib.hid hw1
  clear hre hrs hld hroot hget hw1 p2 hsz hke h
  go_enter Try.func44, Try.ntmps44
  go_upto_region 1 with ((with_reducible show wpList _ _ _ (⟨some 2, .alloc _, _, _, _, _⟩ :: _) _ _); refine wpList_run rfl (.pointer (some ⟨W.heap.size, 0, none⟩)) w1 (by rw [← Hw1.out]; kernel_rfl) ?_; simp only [Act.put])
  have hS := hS0
  clear hS0
  refine wp_region_mix (fun W' => Below W.heap.size W W') [(0, true), (2, true), (3, true), (4, true), (5, true), (6, true), (7, true), (8, true), (9, true), (10, true), (11, true), (12, true), (13, true), (14, true), (15, true), (1, false), (16, true), (17, false)] (by kernel_rfl) (by kernel_rfl) hS fun _ => ?_
  simp only [List.map_cons, List.map_nil, Array.getD_eq_getD_getElem?, List.getElem?_toArray, List.getElem?_cons_succ, List.getElem?_cons_zero, Option.getD_some]
  generalize w1.drew = W0 at hS Hp2 ⊢
  refine wpMix_s (fun K hK => ?_)
  go_simp
  refine hK _ ?_
  clear hK K
  refine wpMix_s (fun K hK => ?_)
  go_simp
  refine hK _ ?_
  clear hK K
  refine wpMix_s (fun K hK => ?_)
  go_simp
  refine hK _ ?_
  clear hK K
  refine wpMix_s (fun K hK => ?_)
  go_simp
  refine hK _ ?_
  clear hK K
  refine wpMix_s (fun K hK => ?_)
  go_simp
  refine hK _ ?_
  clear hK K
  refine wpMix_s (fun K hK => ?_)
  go_simp
  refine hK _ ?_
  clear hK K
  refine wpMix_s (fun K hK => ?_)
  go_simp
  refine hK _ ?_
  clear hK K
  refine wpMix_s (fun K hK => ?_)
  go_simp
  refine hK _ ?_
  clear hK K
  refine wpMix_s (fun K hK => ?_)
  go_simp
  refine hK _ ?_
  clear hK K
  refine wpMix_s (fun K hK => ?_)
  go_simp
  refine hK _ ?_
  clear hK K
  refine wpMix_s (fun K hK => ?_)
  go_simp
  refine hK _ ?_
  clear hK K
  refine wpMix_s (fun K hK => ?_)
  go_simp
  refine hK _ ?_
  clear hK K
  refine wpMix_s (fun K hK => ?_)
  go_simp
  refine hK _ ?_
  clear hK K
  refine wpMix_s (fun K hK => ?_)
  go_simp
  refine hK _ ?_
  clear hK K
  refine wpMix_load (by kernel_rfl) 26 (.tmp 17) rfl (b) (o + n * 32) rfl (root.map B).toArray (hlr) ?_
  simp only [Act.put, List.setIfInBounds_toArray, List.set_cons_succ, List.set_cons_zero]
  refine wpMix_c (fun K hK => ?_) hS
  go_simp
  refine (Hsz.out W0 hS).mono ?_
  rintro e W0e ⟨rfl, hww⟩
  obtain rfl := hww.symm
  refine hK _ _ ?_
  clear hK K
  refine ⟨hS, ?_⟩
  refine wpMix_v (by kernel_rfl) (.agg (.int .i64 (n : Int) :: root.map B).toArray) (fun s => run_build_ptM (.tmp 4) (.tmp 18) _ root hr32 rfl rfl rfl s.W) ?_
  simp only [Act.put, List.setIfInBounds_toArray, List.set_cons_succ, List.set_cons_zero]
  refine wpMix_pset (.tmp 2) (.tmp 19) rfl rfl (Hp2.out _ (Below.refl _ _)) rfl rfl hr32 (fun W9 hb => hS.trans (hb.mono (Nat.le_refl _))) ?_
  rintro W9 pF hb9 -
  simp only [Act.put]
  replace hS := hS.trans (hb9.mono (Nat.le_refl _))
  refine wpMix_nil ?_
  intro _
  go_wp2_with fail
  exact bodyPost_ret (ret_pt rfl rfl pF) rfl ⟨rfl, hS⟩
end Go.Proofs.Ytobcfgbkhgkelaa
/- model: Publish, Read. -/
namespace Go.Proofs.Ytobcfgbkhgkelaa
open Go Go.RowKit
attribute [local go_sem] Oper.semAt_some

/-- only the model's own cells turn -/
theorem Md.turn {W W' : World} {Z : Nat → Prop} {lo g : Nat} {R : MdR} {m m' : MoV} (h : Md Z lo g R m W) (hg : KB (fun b => b = g) W W') (hb : Blk W' g 39 (mdArr R m')) (e1 : m'.ents = m.ents) (e2 : m'.queue = m.queue) (e3 : m'.begun = m.begun) (e4 : m'.only = false → m.only = false) (l1 : m'.lastR.length = 32) (l2 : m'.ptR.length = 32) : Md Z lo g R m' W' := by
  obtain ⟨Ar, cr, hre, hrs⟩ := h.roots
  obtain ⟨Ab, cb, hbe, hbs⟩ := h.begun
  refine ⟨hb, l1, l2, ?_, ?_, ⟨Ar, cr, ?_, ?_⟩, ?_, ⟨Ab, cb, ?_, ?_⟩, h.eq, ?_, h.low, ?_, ?_, fun b hz => Nat.lt_of_lt_of_le (h.zlt b hz) hg.size, h.zno⟩
  · rw [e1]; exact h.ents.kb hg (fun b hv e => by subst e; exact own_ty h.ents.ex.choose_spec.1 h.blk (by decide) hv) (fun b _ hx e => hx (.inl (.inl e)))
  · rw [e1]; exact hg.own h.hashes fun b hv e => by subst e; exact own_ty h.hashes h.blk (by decide) hv
  · rw [e1]; exact hre
  · rw [e1]; exact hrs.kb hg fun b _ hx e => hx (.inl (.inl e))
  · rw [e2]; exact h.queue.kb hg (fun b hv e => by subst e; exact own_ty h.queue.ex.choose_spec.1 h.blk (by decide) hv) (fun b _ hx e => hx (.inl (.inl e)))
  · rw [e3]; exact hbe
  · rw [e3]; exact hbs.kb hg fun b _ hx e => hx (.inl e)
  · intro ho; rw [e3]; exact h.fresh (e4 ho)
  · rw [e1]; exact h.big
  · rw [e2]; exact h.bigq
theorem sizeBl : ∀ w : World, (sizeOf 4).run Try.prog w = .ok 1 w := fun _ => by kernel_rfl
theorem md_loadLast {W : World} {g : Nat} {R : MdR} {m : MoV} (h : Blk W g 39 (mdArr R m)) (hl : m.lastR.length = 32) : (Instr.loadAt 28 (.pointer (some ⟨g, 6, none⟩))).run Try.prog W = .ok (.agg (.int .i64 m.lastS :: m.lastR.map B).toArray) W :=
  run_load_agg (ptAgg _) (ptSize _) g 6 (.int .i64 m.lastS :: m.lastR.map B) (by simp [hl]) fun j u hu => by
    have hj : j < 33 := by have := (List.getElem?_eq_some_iff.1 hu).1; simp [hl] at this; omega
    rw [h.cell, md_at _ _ _ (by omega)]
    by_cases h0 : j = 0
    · subst h0
      rw [List.getElem?_cons_zero] at hu
      exact hu
    · obtain ⟨i, rfl⟩ : ∃ i, j = i + 1 := ⟨j - 1, by omega⟩
      rw [List.getElem?_cons_succ, List.getElem?_map, List.getElem?_eq_getElem (by omega)] at hu
      rw [← hu]
      unfold mcell
      simp only [show 6 + (i + 1) ≠ 0 by omega, show 6 + (i + 1) ≠ 1 by omega, show 6 + (i + 1) ≠ 2 by omega, show 6 + (i + 1) ≠ 3 by omega, show 6 + (i + 1) ≠ 4 by omega, show 6 + (i + 1) ≠ 5 by omega, show 6 + (i + 1) ≠ 6 by omega, show 6 + (i + 1) < 39 by omega, if_false, if_true]
      rw [show 6 + (i + 1) - 7 = i by omega, List.getD_eq_getElem?_getD, List.getElem?_eq_getElem (by omega)]
      rfl
set_option maxHeartbeats 4000000 in
set_option maxRecDepth 100000 in
theorem mpublish_any (Z : Nat → Prop) (lo g : Nat) (R : MdR) (m : MoV) (W : World) (h : Md Z lo g R m W) (ho : m.only = false) :
    Calls Try.prog 14 #[.pointer (some ⟨g, 0, none⟩)] W fun e w' => e = .returned (.tuple #[.agg (.int .i64 (m.ents.length : Int) :: m.nowR.map B).toArray, .int .i64 0]) ∧ MdS Z lo g R m.publish W w' := by
  obtain ⟨root, hroot⟩ : ∃ x, m.nowR = x := ⟨_, rfl⟩
  have hr32 : root.length = 32 := by rw [← hroot]; exact length_rootL _ (H32.lvs _)
  obtain ⟨w1, hw1⟩ : ∃ x, W.alloc (.cells (.int .i64 0 :: (List.replicate 32 0).map B).toArray 28) = x := ⟨_, rfl⟩
  have p1 : PB w1 W.heap.size 0 (List.replicate 32 0) := by rw [← hw1]; exact ⟨Blk.new _ _ _, by simp⟩
  have B1 : Below W.heap.size W w1 := by rw [← hw1]; exact (Below.refl _ _).alloc (Nat.le_refl _) _
  have h1 := h.step B1
  have hmay := mmay_any h1
  rw [ho] at hmay
  have hnow := mnow_any Z lo g R m w1 h1
  rw [hroot] at hnow ⊢
  have hgl := h.blk.lt
  obtain ⟨n, hke⟩ : ∃ x, m.ents.length = x := ⟨_, rfl⟩
  rw [hke] at hnow ⊢
  obtain ⟨pc, hpc⟩ : ∃ x, (Value.int .i64 (n : Int) :: root.map B).toArray = x := ⟨_, rfl⟩
  have hpc33 : pc.size = 33 := by rw [← hpc]; simp [hr32]
  have hpc1 : ∀ v ∈ pc.toList, v.oneCell' = true := by rw [← hpc]; exact oneCell_pt _ _
  rw [hpc] at hnow ⊢
  have hpub : m.publish = { m with lastS := (n : Int), lastR := root, has := true } := by rw [← hke, ← hroot]; rfl
  have Hpub := Lib.hid hpub
  have Hnow := Lib.hid hnow
  have Hw1 := Lib.hid hw1
  have Hpc := Lib.hid hpc
  have Hpc1 := Lib.hid hpc1
  have Hho := Lib.hid ho
  clear hnow hw1 hpc hpc1 hroot hke hpub ho
  go_enter Try.func14, Try.ntmps14
  go_wp2_with (first
    | ((with_reducible show wpList _ _ _ (⟨some 2, .alloc _, _, _, _, _⟩ :: _) _ _); refine wpList_run rfl (.pointer (some ⟨W.heap.size, 0, none⟩)) w1 (by rw [← Hw1.out]; kernel_rfl) ?_; simp only [Act.put])
    | (go_at_call 40; refine hmay.mono ?_; rintro e w' ⟨rfl, hw⟩; obtain rfl := hw.symm))
  refine Hnow.out.mono ?_
  rintro e w2 ⟨rfl, hb2⟩
  have h2 := h1.step hb2
  have p2 := p1.step hb2
  have B2 := B1.trans (hb2.mono B1.size)
  obtain ⟨w3, hw3⟩ : ∃ x, w2.setRow g ((mdArr R m).toList.take 6 ++ pc.toList ++ (mdArr R m).toList.drop (6 + 33)).toArray = x := ⟨_, rfl⟩
  have hg3 : w2.grownBy w3 (some g) := by rw [← hw3]; exact grown_setRow (World.grownBy.refl _ _) _
  have k3 : Blk w3 g 39 (mdArr R { m with lastS := (n : Int), lastR := root }) := by
    rw [← hw3, ← md_last (n : Int) root hr32, ← Hpc.out]
    exact h2.blk.setRow_ _
  have c39 : w3.cell? ⟨g, 39, none⟩ = some (.bool m.has) := by rw [k3.cell, md_at _ _ 39 (by decide)]; rfl
  have f39 := k3.frozen 39
  have k4 : Blk (w3.setCell ⟨g, 39, none⟩ (.bool true)) g 39 (mdArr R m.publish) := by
    rw [Hpub.out, ← md_set (R := R) (R' := R) (m := { m with lastS := (n : Int), lastR := root }) (m' := { m with lastS := (n : Int), lastR := root, has := true }) 39 (by decide) (.bool true) rfl fun i hi hne => by simp only [mcell, hne, if_false]]
    exact k3.set_ 39 _
  have hg4 : w2.grownBy (w3.setCell ⟨g, 39, none⟩ (.bool true)) (some g) := grown_setCell hg3 39 _
  obtain ⟨w4, hw4⟩ : ∃ x, w3.setCell ⟨g, 39, none⟩ (.bool true) = x := ⟨_, rfl⟩
  rw [hw4] at k4 hg4
  have hld : (Instr.loadAt 28 (.pointer (some ⟨g, 6, none⟩))).run Try.prog w4 = .ok (.agg pc) w4 := by
    have := md_loadLast k4 (by rw [Hpub.out]; exact hr32)
    rw [Hpub.out] at this
    rw [← Hpc.out]
    exact this
  have p4 : PB w4 W.heap.size 0 (List.replicate 32 0) := ⟨p2.blk.grown hg4 (fun e => by have e := Option.some.inj e; omega), p2.rl⟩
  have hK4 : KB (fun b => b = g) W w4 := (KB.of_below B2).trans (KB.of_grown hg4 fun r e => (Option.some.inj e).symm)
  have hz4 : W.heap.size ≤ w4.heap.size := Nat.le_trans B2.size hg4.size
  have hk2 := h2.blk
  have p5 : PB (w4.setRow W.heap.size pc) W.heap.size (n : Int) root := ⟨by rw [Hpc.out]; exact p4.blk.setRow_ _, hr32⟩
  have hb5 : Below W.heap.size w4 (w4.setRow W.heap.size pc) := below_setRow (Below.refl _ _) (Nat.le_refl _) _
  have hKs : KB (fun b => b = W.heap.size) w4 (w4.setRow W.heap.size pc) := KB.of_grown (grown_setRow (World.grownBy.refl _ (some W.heap.size)) pc) fun r e => (Option.some.inj e).symm
  have hK5 : KB (fun b => b = g) W (w4.setRow W.heap.size pc) := hK4.then hKs fun b hb e => by omega
  have h5 : Md Z lo g R m.publish (w4.setRow W.heap.size pc) := h.turn hK5 (hKs.blk k4 (by omega)) rfl rfl rfl (fun h => h) (by rw [Hpub.out]; exact hr32) h.ptL
  have Hw3 := Lib.hid hw3
  have Hw4 := Lib.hid hw4
  have H5 := Lib.hid h5
  have HK5 := Lib.hid hK5
  have hp4 := p4.blk
  clear hw3 hw4 h5 hK5 hKs hK4 hg3 hg4 k3 k4 h2 p2 p1 h1 hmay hb5 p4 h
  go_wp2_with (first
    | ((with_reducible show wpList _ _ _ (⟨none, .store _ (.tmp 16) _, _, _, _, _⟩ :: _) _ _); refine wpList_store_agg rfl 28 (.tmp 16) (.tmp 14) rfl 33 ptSize g 6 pc rfl rfl hpc33 Hpc1.out 39 (mdArr R m) hk2 (by rw [md_size]; decide) ?_; rw [Hw3.out]; simp only [Act.put])
    | ((with_reducible show wpList _ _ _ [⟨none, .store _ (.tmp 18) _, _, _, _, _⟩] _ _); refine wpList_put1i rfl 4 (.tmp 18) (.const (.bool true)) rfl sizeBl ⟨g, 39, none⟩ (.bool true) rfl rfl rfl _ c39 f39 ?_; rw [Hw4.out]; simp only [Act.put])
    | ((with_reducible show wpList _ _ _ (⟨some 22, .load _ _, _, _, _, _⟩ :: _) _ _); refine wpList_load rfl 28 (.tmp 21) rfl g 6 rfl pc hld ?_; simp only [Act.put])
    | ((with_reducible show wpList _ _ _ (⟨none, .store _ (.tmp 2) _, _, _, _, _⟩ :: _) _ _); refine wpList_store_blk rfl 28 (.tmp 2) (.tmp 22) rfl 33 ptSize W.heap.size pc rfl rfl hpc33 Hpc1.out 28 _ hp4 (by simp) ?_; simp only [Act.put]))
  refine bodyPost_ret (tuple_pt rfl _ _ W.heap.size (n : Int) root rfl p5) rfl ⟨by rw [← Hpc.out]; rfl, ⟨R, H5.out, fun b hb => .inl hb⟩, HK5.out.mono fun b e => .inl e⟩
end Go.Proofs.Ytobcfgbkhgkelaa
/- slices.Grow, slices.Concat; what is hashed at a node. -/
namespace Go.Proofs.Ytobcfgbkhgkelaa
open Go Go.RowKit Go.Shelf
attribute [local go_sem] Oper.semAt_some

theorem run_append2_op {P : Program} {ρ : Operand → Value} {o : Oper} {w w' : World} {v : Value} (x y : Operand) (t u : TypeId) (ho : o.op = .call { callee := .builtin .append, args := #[x, y], argTypes := #[t, u] }) (vx vy : Value) (hx : ρ x = vx) (hy : ρ y = vy)
    (h : (Builtin.append_ #[t, u] o.type #[vx, vy]).run P w = .ok v w') : (execOp ρ o).run P w = .ok (.value v) w' := by
  unfold execOp
  simp only [ho, resolve, invoke, builtin, Sem.run_bind, Sem.run_pure, Result.andThen_ok, List.map_toArray, List.map_cons, List.map_nil, hx, hy, h]
theorem sizeB8 : ∀ w : World, (sizeOf (Try.prog.elem 22)).run Try.prog w = .ok 1 w := fun _ => by kernel_rfl
theorem sliceB8 : Try.prog.underlying 22 = some (.slice (Try.prog.elem 22)) := by kernel_rfl
theorem run_slice_hi8 {ρ : Operand → Value} {o : Oper} (x y : Operand) (ho : o.op = .slice 22 x none (some y) none) (A : Option Addr) (n c k : Nat) (hx : ρ x = .slice A n c) (hy : ρ y = .int .i64 (k : Int)) (hk : k ≤ c) (W : World) :
    (execOp ρ o).run Try.prog W = .ok (.value (.slice A k c)) W := by
  unfold execOp
  simp only [ho, hx, hy, Option.map_some, Option.map_none, run_slice_high sliceB8 sizeB8 A n c k hk W, Sem.run_bind, Sem.run_pure, Result.andThen_ok]

theorem flatB_succ (ls : List (List UInt8)) (k : Nat) (h : k < ls.length) : (ls.take (k + 1)).flatten = (ls.take k).flatten ++ ls.getD k [] := by
  rw [List.take_add_one, List.getElem?_eq_getElem h, List.flatten_append, List.getD_eq_getElem?_getD, List.getElem?_eq_getElem h]
  simp
theorem flatB_le (ls : List (List UInt8)) (k : Nat) : (ls.take k).flatten.length ≤ ls.flatten.length := by
  conv => rhs; rw [← List.take_append_drop k ls, List.flatten_append, List.length_append]
  omega
end Go.Proofs.Ytobcfgbkhgkelaa
