/- A range with a hash, as a value, a variable, in a slice. -/
import Derived.Test.YtmglkblomklcbaaQc113
import Derived.Test.YtmglkblomklcbaaQc116
import Derived.Laws.Tables
import Derived.Test.YtmglkblomklcbaaQc112
import Derived.Test.YtmglkblomklcbaaQc111
namespace Go.Proofs.Ytmglkblomklcbaa
open Go Go.RowKit

def scell (s : StepV) : List Value := [.int .i64 (s.1.1 : Int), .int .i64 (s.1.2 : Int)] ++ s.2.map B
def scells (l : List StepV) : List Value := l.flatMap scell
def S32 (l : List StepV) : Prop := ∀ s ∈ l, s.2.length = 32
theorem length_scell (s : StepV) (h : s.2.length = 32) : (scell s).length = 34 := by simp [scell, h]
theorem scells_nil : scells [] = [] := rfl
theorem scells_one (s : StepV) : scells [s] = scell s := by simp [scells]
theorem scells_append (a b : List StepV) : scells (a ++ b) = scells a ++ scells b := by simp [scells]
theorem S32.append {a b : List StepV} (h : S32 a) (k : S32 b) : S32 (a ++ b) := fun x hx => (List.mem_append.1 hx).elim (h x) (k x)
theorem S32.one {s : StepV} (h : s.2.length = 32) : S32 [s] := fun x hx => by rw [List.mem_singleton.1 hx]; exact h
theorem scells_len : ∀ l : List StepV, S32 l → (scells l).length = l.length * 34
  | [], _ => rfl
  | s :: l, h => by
    have h1 := scells_len l (fun x hx => h x (by simp [hx]))
    have h2 := length_scell s (h s (by simp))
    simp only [scells, List.flatMap_cons, List.length_append, List.length_cons] at *
    omega
theorem oneS (l : List StepV) : ∀ v ∈ scells l, v.oneCell' = true := by
  intro v hv
  obtain ⟨s, _, hv⟩ := List.mem_flatMap.1 hv
  simp only [scell, List.mem_append, List.mem_cons, List.not_mem_nil, or_false] at hv
  rcases hv with (rfl | rfl) | hv
  · rfl
  · rfl
  · obtain ⟨b, _, rfl⟩ := List.mem_map.1 hv
    rfl
theorem oneSc (s : StepV) : ∀ v ∈ (scell s).toArray.toList, v.oneCell' = true := by
  have := oneS [s]
  rw [scells_one] at this
  simpa using this
theorem scells_at (l : List StepV) (h : S32 l) (k : Nat) (hk : k < l.length) (j : Nat) (v : Value) (hv : (scell (l.getD k ((0, 0), [])))[j]? = some v) : (scells l)[k * 34 + j]? = some v := by
  have e : l = l.take k ++ l.getD k ((0, 0), []) :: l.drop (k + 1) := by
    rw [List.getD_eq_getElem?_getD, List.getElem?_eq_getElem hk, Option.getD_some, ← List.drop_eq_getElem_cons hk, List.take_append_drop]
  have hl : (scells (l.take k)).length = k * 34 := by rw [scells_len _ (fun x hx => h x (List.mem_of_mem_take hx)), List.length_take, Nat.min_eq_left (Nat.le_of_lt hk)]
  generalize l.getD k ((0, 0), []) = s at e hv
  rw [e, scells_append, List.getElem?_append_right (by omega), hl, Nat.add_sub_cancel_left, scells, List.flatMap_cons, List.getElem?_append_left (List.getElem?_eq_some_iff.1 hv).1]
  exact hv
theorem explode32 (l : List UInt8) (h : l.length = 32) : ∃ a0 a1 a2 a3 a4 a5 a6 a7 a8 a9 a10 a11 a12 a13 a14 a15 a16 a17 a18 a19 a20 a21 a22 a23 a24 a25 a26 a27 a28 a29 a30 a31 : UInt8, l = [a0, a1, a2, a3, a4, a5, a6, a7, a8, a9, a10, a11, a12, a13, a14, a15, a16, a17, a18, a19, a20, a21, a22, a23, a24, a25, a26, a27, a28, a29, a30, a31] := by
  match l, h with
  | [a0, a1, a2, a3, a4, a5, a6, a7, a8, a9, a10, a11, a12, a13, a14, a15, a16, a17, a18, a19, a20, a21, a22, a23, a24, a25, a26, a27, a28, a29, a30, a31], _ => exact ⟨_, _, _, _, _, _, _, _, _, _, _, _, _, _, _, _, _, _, _, _, _, _, _, _, _, _, _, _, _, _, _, _, rfl⟩

/-- a type of such pairs, the type of its slices -/
structure StepT (T S : TypeId) : Prop where
  agg : ∀ w : World, (isAgg T).run Try.prog w = .ok true w
  size : ∀ w : World, (sizeOf T).run Try.prog w = .ok 34 w
  info : (Try.prog.info? T).map (fun i => (i.zero, i.size, i.bytes)) = some (some (.agg (scell ((0, 0), List.replicate 32 0)).toArray), 34, 48)
  slice : Try.prog.underlying S = some (.slice T)
  elem : Try.prog.elem S = T
  made : ∀ (a b : Nat) (l : List UInt8), l.length = 32 → Try.prog.built T [(0, .agg #[.int .i64 (a : Int), .int .i64 (b : Int)]), (1, .agg (l.map B).toArray)] = some (scell ((a, b), l)).toArray
theorem stepT1 : StepT 90 86 := ⟨fun _ => by kernel_rfl, fun _ => by kernel_rfl, by kernel_rfl, by kernel_rfl, by kernel_rfl, fun a b l h => by
  obtain ⟨a0, a1, a2, a3, a4, a5, a6, a7, a8, a9, a10, a11, a12, a13, a14, a15, a16, a17, a18, a19, a20, a21, a22, a23, a24, a25, a26, a27, a28, a29, a30, a31, rfl⟩ := explode32 l h
  kernel_rfl⟩
theorem stepT2 : StepT 92 54 := ⟨fun _ => by kernel_rfl, fun _ => by kernel_rfl, by kernel_rfl, by kernel_rfl, by kernel_rfl, fun a b l h => by
  obtain ⟨a0, a1, a2, a3, a4, a5, a6, a7, a8, a9, a10, a11, a12, a13, a14, a15, a16, a17, a18, a19, a20, a21, a22, a23, a24, a25, a26, a27, a28, a29, a30, a31, rfl⟩ := explode32 l h
  kernel_rfl⟩

theorem run_build_op {ρ : Operand → Value} {o : Oper} {T : TypeId} {ps : Array (Nat × Operand)} {cs : Array Value} (ho : o.op = .build T ps) (h : Try.prog.built T ((ps.map fun (i, x) => (i, ρ x)).toList) = some cs) (W : World) : (execOp ρ o).run Try.prog W = .ok (.value (.agg cs)) W := by
  unfold execOp
  simp only [ho, Sem.run_bind, Sem.run_pure, run_build W T _ cs h, Result.andThen_ok]
theorem run_build_st {T S : TypeId} (hT : StepT T S) {ρ : Operand → Value} {o : Oper} (x y : Operand) (a b : Nat) (l : List UInt8) (hl : l.length = 32) (ho : o.op = .build T #[(0, x), (1, y)]) (hx : ρ x = .agg #[.int .i64 (a : Int), .int .i64 (b : Int)]) (hy : ρ y = .agg (l.map B).toArray) (W : World) :
    (execOp ρ o).run Try.prog W = .ok (.value (.agg (scell ((a, b), l)).toArray)) W :=
  run_build_op ho (by
    have e : (#[(0, x), (1, y)].map fun (i, x) => (i, ρ x)).toList = [(0, .agg #[.int .i64 (a : Int), .int .i64 (b : Int)]), (1, .agg (l.map B).toArray)] := by simp [hx, hy]
    rw [e]
    exact hT.made a b l hl) W

/-- a variable that holds such a pair -/
structure SV (T : TypeId) (w : World) (g : Nat) (s : StepV) : Prop where
  blk : Blk w g T (scell s).toArray
  len : s.2.length = 32
section
variable {T S : TypeId} {w W : World} {g : Nat} {s : StepV}
theorem SV.step (h : SV T w g s) (hb : Below w.heap.size w W) : SV T W g s := ⟨h.blk.step hb, h.len⟩
theorem SV.lt (h : SV T w g s) : g < w.heap.size := h.blk.lt
theorem SV.drew (h : SV T w g s) : SV T w.drew g s := ⟨h.blk, h.len⟩
theorem SV.far {n : Nat} (h : SV T w g s) (hb : Below n w W) (hn : g < n) : SV T W g s := ⟨h.blk.below hb hn, h.len⟩
theorem SV.grown {row : Option Nat} (h : SV T w g s) (hg : w.grownBy W row) (hr : some g ≠ row) : SV T W g s := ⟨h.blk.grown hg hr, h.len⟩
theorem SV.load (hT : StepT T S) (h : SV T w g s) : (Instr.loadAt T (.pointer (some ⟨g, 0, none⟩))).run Try.prog w = .ok (.agg (scell s).toArray) w :=
  run_load_blk (hT.agg _) (hT.size _) g _ (by simp [length_scell s h.len]) h.blk
theorem SV.hash (h : SV T w g s) : (Instr.loadAt 45 (.pointer (some ⟨g, 2, none⟩))).run Try.prog w = .ok (.agg (s.2.map B).toArray) w :=
  run_load_agg (agg26 _) (size26 _) g 2 (s.2.map B) (by simp [h.len]) fun j u hu => by
    rw [h.blk.cell, List.getElem?_toArray]
    show ([Value.int .i64 (s.1.1 : Int), .int .i64 (s.1.2 : Int)] ++ s.2.map B)[2 + j]? = some u
    rw [List.getElem?_append_right (by simp)]
    simpa using hu
theorem SV.range (h : SV T w g s) : (Instr.loadAt 68 (.pointer (some ⟨g, 0, none⟩))).run Try.prog w = .ok (.agg #[.int .i64 (s.1.1 : Int), .int .i64 (s.1.2 : Int)]) w :=
  run_load_agg (aggR _) (sizeR _) g 0 [.int .i64 (s.1.1 : Int), .int .i64 (s.1.2 : Int)] rfl fun j u hu => by
    rw [h.blk.cell, List.getElem?_toArray, Nat.zero_add]
    show ([Value.int .i64 (s.1.1 : Int), .int .i64 (s.1.2 : Int)] ++ s.2.map B)[j]? = some u
    rw [List.getElem?_append_left (List.getElem?_eq_some_iff.1 hu).1]
    exact hu
end
section
variable {T S : TypeId} {w : World} {ops : Array Oper} {rest : List Oper} {o o1 o2 : Oper} {a : Act} {Q : Exit → Act → World → Prop} {s : StepV}
theorem run_alloc_st (hT : StepT T S) {ρ : Operand → Value} (ho : o.op = .alloc T) (w : World) : (execOp ρ o).run Try.prog w = .ok (.value (.pointer (some ⟨w.heap.size, 0, none⟩))) (w.alloc (.cells (scell ((0, 0), List.replicate 32 0)).toArray T)) := by
  obtain ⟨i, hi, hii⟩ := Option.map_eq_some_iff.1 hT.info
  simp only [Prod.mk.injEq] at hii
  unfold execOp
  rw [ho]
  simp [Instr.alloc, Sem.run_bind, zeroValue, typeInfo, hi, hii.1, newVar, newRow, Value.cells]
theorem wpList_snew (hT : StepT T S) (hg : o.guard = none) (ho : o.op = .alloc T) (h : ∀ W, SV T W w.heap.size ((0, 0), List.replicate 32 0) → Below w.heap.size w W → wpList Try.prog ops Q rest (a.put o.dst (.pointer (some ⟨w.heap.size, 0, none⟩))) W) : wpList Try.prog ops Q (o :: rest) a w :=
  wpList_run hg _ _ (run_alloc_st hT ho w) (h _ ⟨Blk.new w T _, rfl⟩ ((Below.refl _ _).alloc (Nat.le_refl _) _))
/-- such a variable is written over -/
theorem wpList_sset (hT : StepT T S) {g : Nat} {s' : StepV} (x y : Operand) (hg : o.guard = none) (ho : o.op = .store T x y) (k : SV T w g s') (hx : a.eval x = .pointer (some ⟨g, 0, none⟩)) (hy : a.eval y = .agg (scell s).toArray) (hl : s.2.length = 32)
    (h : ∀ W, SV T W g s → w.grownBy W (some g) → wpList Try.prog ops Q rest (a.put o.dst undef) W) : wpList Try.prog ops Q (o :: rest) a w :=
  wpList_store_blk hg T x y ho 34 hT.size g (scell s).toArray hx hy (by simp [length_scell s hl]) (oneSc s) T _ k.blk (by simp [length_scell s' k.len]) (h _ ⟨k.blk.setRow_ _, hl⟩ ⟨rfl, rfl, rfl, by simp, fun i _ hne => setRow_other w g i _ (fun e => hne (by rw [e]))⟩)
/-- a new one, written at once -/
theorem wpList_svar (hT : StepT T S) (x y : Operand) (hg1 : o1.guard = none) (hg2 : o2.guard = none) (ho1 : o1.op = .alloc T) (ho2 : o2.op = .store T x y)
    (hx : (a.put o1.dst (.pointer (some ⟨w.heap.size, 0, none⟩))).eval x = .pointer (some ⟨w.heap.size, 0, none⟩)) (hy : (a.put o1.dst (.pointer (some ⟨w.heap.size, 0, none⟩))).eval y = .agg (scell s).toArray) (hl : s.2.length = 32)
    (h : ∀ W, SV T W w.heap.size s → Below w.heap.size w W → wpList Try.prog ops Q rest ((a.put o1.dst (.pointer (some ⟨w.heap.size, 0, none⟩))).put o2.dst undef) W) : wpList Try.prog ops Q (o1 :: o2 :: rest) a w :=
  wpList_snew hT hg1 ho1 fun W k hb => wpList_sset hT x y hg2 ho2 k hx hy hl fun W' k' hg => h W' k' (hb.grown hg hb.size fun r e => by cases e; exact Nat.le_refl _)
/-- its hash is written over -/
theorem wpList_shash {g : Nat} {l : List UInt8} (x y : Operand) (hg : o.guard = none) (ho : o.op = .store 45 x y) (k : SV T w g s) (hx : a.eval x = .pointer (some ⟨g, 2, none⟩)) (hy : a.eval y = .agg (l.map B).toArray) (hl : l.length = 32)
    (h : ∀ W, SV T W g (s.1, l) → w.grownBy W (some g) → wpList Try.prog ops Q rest (a.put o.dst undef) W) : wpList Try.prog ops Q (o :: rest) a w := by
  refine wpList_store_agg hg 45 x y ho 32 size26 g 2 (l.map B).toArray hx hy (by simp [hl]) (oneCell_B _) T _ k.blk (by simp [length_scell s k.len]) ?_
  refine h _ ⟨?_, hl⟩ ⟨rfl, rfl, rfl, by simp, fun i _ hne => setRow_other w g i _ (fun e => hne (by rw [e]))⟩
  have e : (((scell s).toArray.toList.take 2 ++ (l.map B).toArray.toList ++ (scell s).toArray.toList.drop (2 + 32)).toArray) = (scell (s.1, l)).toArray := by
    have h1 : (scell s).drop 34 = [] := List.drop_eq_nil_of_le (by rw [length_scell s k.len]; exact Nat.le_refl _)
    show (((scell s).take 2 ++ l.map B ++ (scell s).drop 34).toArray) = _
    rw [h1]
    simp [scell]
  rw [e]
  exact k.blk.setRow_ _
end
/-- one more behind a row of one's own -/
theorem append_st {T S : TypeId} (hT : StepT T S) {w : World} {base n : Nat} {v : Value} {q : List StepV} (hown : w.ownsRow base T 34 v n (scells q)) (s : StepV) (hs : s.2.length = 32) (hn : n ≤ 1000000) (hbase : base ≤ w.heap.size) :
    ∃ v' w', (Builtin.append_ #[S, S] S #[v, .slice (some ⟨w.heap.size, 0, none⟩) 1 1]).run Try.prog (w.alloc (.cells (scell s).toArray T)) = .ok v' w' ∧ w'.ownsRow base T 34 v' (n + 1) (scells (q ++ [s])) ∧ w.grownBy w' v.ownBlock ∧ (v'.ownBlock = v.ownBlock ∨ ∃ k, v'.ownBlock = some k ∧ w.heap.size ≤ k) := by
  have hb : Below w.heap.size w (w.alloc (.cells (scell s).toArray T)) := (Below.refl _ _).alloc (Nat.le_refl _) _
  have hz : (Value.agg (scell ((0, 0), List.replicate 32 0)).toArray).cells.size = 34 := rfl
  obtain ⟨v', w', h1, h2, h3, h4⟩ := append_slv (P := Try.prog) (ty := S) hT.slice hT.info hz (by decide) (owns_step hown hb) (SlV.lit w (fun _ => True) T (scell s) (n := 1) (s := 34) (by rw [length_scell s hs]) (by unfold maxLen; omega) trivial) (by have := oneSc s; simpa using this) (by unfold maxLen; omega) (by omega) (Nat.le_trans hbase hb.size)
  refine ⟨v', w', h1, by rw [scells_append, scells_one]; exact h2, ⟨h3.os, h3.tape, h3.output, Nat.le_trans hb.size h3.size, fun k hk hne => (h3.block k (Nat.lt_of_lt_of_le hk hb.size) hne).trans (hb.block k hk)⟩, ?_⟩
  rcases h4 with h4 | ⟨k, h4, h5⟩
  · exact .inl h4
  · exact .inr ⟨k, h4, Nat.le_trans hb.size h5⟩
/-- a literal of one -/
theorem run_litS_op {T S : TypeId} (hT : StepT T S) {ρ : Operand → Value} {o : Oper} (s : StepV) (hs : s.2.length = 32) (y : Operand) (ho : o.op = .buildSlice S 1 #[(0, y)]) (hy : ρ y = .agg (scell s).toArray) (W : World) :
    (execOp ρ o).run Try.prog W = .ok (.value (.slice (some ⟨W.heap.size, 0, none⟩) 1 1)) (W.alloc (.cells (scell s).toArray T)) := by
  obtain ⟨i, hi, hii⟩ := Option.map_eq_some_iff.1 hT.info
  simp only [Prod.mk.injEq] at hii
  obtain ⟨hz, hsz, -⟩ := hii
  have := run_buildSlice (P := Try.prog) W S T 1 #[(0, .agg (scell s).toArray)] (scell s).toArray i _ hT.slice hi hz (by rw [hsz]; omega) (by rw [hsz]; omega) (by
    have hw := Great.fill_whole (s := 34) (by decide) [Value.agg (scell s).toArray] ((Array.range (1 * 34)).map ((Value.agg (scell ((0, 0), List.replicate 32 0)).toArray).cells[· % (Value.agg (scell ((0, 0), List.replicate 32 0)).toArray).cells.size]!)) (by intro v hv; rw [List.mem_singleton.1 hv]; simp [Value.cells, length_scell s hs]) (by simp)
    rw [hsz]
    exact hw.trans (by simp [Value.cells]))
  unfold execOp
  simp only [ho, Sem.run_bind, Sem.run_pure, show (#[(0, y)].map fun (x : Nat × Operand) => (x.1, ρ x.2)) = #[(0, .agg (scell s).toArray)] by simp [hy], this, Result.andThen_ok]
end Go.Proofs.Ytmglkblomklcbaa
/- The plain law of tree.Roots: the whole stretches of one entry more. -/
namespace Go.Proofs.Ytmglkblomklcbaa
open Go Go.RowKit

theorem pow_split (d : Nat) : ∀ (m t a : Nat), m ≤ d → wholeL a (2 * m * 2 ^ t + 2 ^ t) = wholeL a (2 * m * 2 ^ t) ++ [(a + 2 * m * 2 ^ t, a + 2 * m * 2 ^ t + 2 ^ t)] := by
  induction d with
  | zero =>
    intro m t a h
    obtain rfl : m = 0 := by omega
    have hp := Nat.two_pow_pos t
    rw [show 2 * 0 * 2 ^ t = 0 by simp, Nat.zero_add, wholeL_zero, wholeL_more a _ (by omega), Nat.log2_two_pow, Nat.sub_self, wholeL_zero]
    rfl
  | succ d ih =>
    intro m t a h
    by_cases hm : m = 0
    · subst hm
      exact ih 0 t a (by omega)
    · have hp := Nat.two_pow_pos t
      have hpos : 2 * m * 2 ^ t ≠ 0 := Nat.mul_ne_zero (by omega) (by omega)
      obtain ⟨j, hj⟩ : ∃ j, (2 * m).log2 = j := ⟨_, rfl⟩
      have h2m : 2 * m ≠ 0 := by omega
      have j1 : 2 ^ j ≤ 2 * m := by rw [← hj]; exact Nat.log2_self_le h2m
      have j2 : 2 * m < 2 ^ (j + 1) := by rw [← hj]; exact Nat.lt_log2_self
      obtain ⟨i, rfl⟩ : ∃ i, j = i + 1 := by
        refine ⟨j - 1, ?_⟩
        rcases Nat.eq_zero_or_pos j with h0 | h0
        · subst h0; rw [show 2 ^ (0 + 1) = 2 from rfl] at j2; omega
        · omega
      have j3 : 2 * m + 2 ≤ 2 ^ (i + 1 + 1) := by rw [Nat.pow_succ] at j2 ⊢; omega
      have l1 : (2 * m * 2 ^ t).log2 = i + 1 + t := (Nat.log2_eq_iff hpos).2 ⟨by rw [Nat.pow_add]; exact Nat.mul_le_mul_right _ j1, by
        rw [show i + 1 + t + 1 = (i + 1 + 1) + t by omega, Nat.pow_add]; exact Nat.mul_lt_mul_of_pos_right j2 hp⟩
      have l2 : (2 * m * 2 ^ t + 2 ^ t).log2 = i + 1 + t := (Nat.log2_eq_iff (by omega)).2 ⟨Nat.le_trans (by rw [Nat.pow_add]; exact Nat.mul_le_mul_right _ j1) (Nat.le_add_right _ _), by
        rw [show i + 1 + t + 1 = (i + 1 + 1) + t by omega, Nat.pow_add]
        have := Nat.mul_le_mul_right (2 ^ t) j3
        rw [Nat.add_mul] at this
        omega⟩
      rw [wholeL_more a (2 * m * 2 ^ t + 2 ^ t) (by omega), wholeL_more a (2 * m * 2 ^ t) hpos, l1, l2]
      have hi2 : 2 ^ (i + 1 + t) = 2 * 2 ^ i * 2 ^ t := by rw [Nat.pow_add, Nat.pow_succ]; rw [Nat.mul_comm (2 ^ i) 2]
      have him : 2 ^ i ≤ m := by rw [Nat.pow_succ] at j1; omega
      have hsub : 2 * m * 2 ^ t - 2 ^ (i + 1 + t) = 2 * (m - 2 ^ i) * 2 ^ t := by
        rw [hi2, ← Nat.sub_mul, ← Nat.mul_sub]
      have hle : 2 ^ (i + 1 + t) ≤ 2 * m * 2 ^ t := by rw [hi2]; exact Nat.mul_le_mul_right _ (Nat.mul_le_mul_left _ him)
      have hi := ih (m - 2 ^ i) t (a + 2 ^ (i + 1 + t)) (by have := Nat.two_pow_pos i; omega)
      rw [Nat.sub_add_comm hle, hsub, hi, List.cons_append, ← hsub]
      congr 3
      rw [Prod.mk.injEq]
      constructor <;> omega
theorem whole_low (k t : Nat) (h : k % 2 = 0) : wholeL 0 (k * 2 ^ t + 2 ^ t) = wholeL 0 (k * 2 ^ t) ++ [(k * 2 ^ t, k * 2 ^ t + 2 ^ t)] := by
  have := pow_split (k / 2) (k / 2) t 0 (Nat.le_refl _)
  rw [show 2 * (k / 2) = k by omega, Nat.zero_add] at this
  exact this
/-- two stretches of a power's length, side by side -/
theorem stretch_join (hs : List (List UInt8)) (a t : Nat) (h : a + 2 ^ t + 2 ^ t ≤ hs.length) : stretchL hs a (a + 2 ^ t + 2 ^ t) = hNode (stretchL hs a (a + 2 ^ t)) (stretchL hs (a + 2 ^ t) (a + 2 ^ t + 2 ^ t)) := by
  have hp := Nat.two_pow_pos t
  have hs2 := splitN_eq (2 ^ t + 2 ^ t) t (by omega) (by rw [Nat.pow_succ]; omega)
  generalize 2 ^ t = p at *
  unfold stretchL
  rw [show a + p + p - a = p + p by omega, show a + p - a = p by omega, show a + p + p - (a + p) = p by omega]
  have hlen : ((hs.drop a).take (p + p)).length = p + p := by rw [List.length_take, List.length_drop]; omega
  rw [rootL_more ((hs.drop a).take (p + p)) (by rw [hlen]; omega), hlen, hs2, List.take_take, Nat.min_eq_left (by omega), List.drop_take, List.drop_drop, show p + p - p = p by omega]
theorem stretch_one (hs : List (List UInt8)) (i : Nat) (h : i < hs.length) : stretchL hs i (i + 1) = hs.getD i [] := by
  unfold stretchL
  rw [show i + 1 - i = 1 by omega, List.drop_eq_getElem_cons h, List.getD_eq_getElem?_getD, List.getElem?_eq_getElem h]
  rfl
/-- the roots of all heads -/
def headsL (hs : List (List UInt8)) (k : Nat) : List (List UInt8) := (List.range (k + 1)).map fun i => rootL (hs.take i)
theorem headsL_zero (hs : List (List UInt8)) : headsL hs 0 = [hEmpty] := rfl
theorem headsL_succ (hs : List (List UInt8)) (k : Nat) : headsL hs (k + 1) = headsL hs k ++ [rootL (hs.take (k + 1))] := by
  unfold headsL
  rw [List.range_succ, List.map_append]; rfl
theorem length_headsL (hs : List (List UInt8)) (k : Nat) : (headsL hs k).length = k + 1 := by simp [headsL]
theorem headsL_all (hs : List (List UInt8)) (h : H32 hs) (k : Nat) : H32 (headsL hs k) := fun x hx => by
  obtain ⟨i, _, rfl⟩ := List.mem_map.1 hx
  exact length_rootL _ (h.take i)
theorem headsL_getD (hs : List (List UInt8)) (k i : Nat) (h : i ≤ k) : (headsL hs k).getD i [] = rootL (hs.take i) := by
  rw [headsL, List.getD_eq_getElem?_getD, List.getElem?_map, List.getElem?_range (by omega)]; rfl
theorem foldR_head (hs : List (List UInt8)) (k : Nat) (h : k < hs.length) : foldR (rootsL hs (wholeL 0 (k + 1))) = rootL (hs.take (k + 1)) := by
  rw [foldR_whole (k + 1) (k + 1) 0 hs (Nat.le_refl _) (by omega) (by omega), List.drop_zero]
end Go.Proofs.Ytmglkblomklcbaa
/- tree.Roots. -/
namespace Go.Proofs.Ytmglkblomklcbaa
open Go Go.RowKit

theorem owns_some {w : World} {base n s : Nat} {e : TypeId} {v : Value} {xs : List Value} (h : w.ownsRow base e s v n xs) (hn : 0 < n) : ∃ g c, v = .slice (some ⟨g, 0, none⟩) n c := by
  rcases h.2 with ⟨hv, h0⟩ | ⟨g', cap, cur, hv', _⟩
  · omega
  · exact ⟨g', cap, hv'⟩
theorem owns_fewerT {w : World} {base g n m c s : Nat} {e : TypeId} {xs : List Value} (h : w.ownsRow base e s (.slice (some ⟨g, 0, none⟩) m c) m xs) (hn : n ≤ m) :
    w.ownsRow base e s (.slice (some ⟨g, 0, none⟩) n c) n (xs.take (n * s)) := by
  have hl := h.1
  have hns : n * s ≤ m * s := Nat.mul_le_mul_right _ hn
  refine ⟨by rw [List.length_take, hl]; omega, ?_⟩
  rcases h.2 with ⟨hv, _⟩ | ⟨g', cap, cur, hv', hbg, hg, hnc, hcm, hcs, ht⟩
  · cases hv
  · cases hv'
    exact .inr ⟨g, c, cur, rfl, hbg, hg, by omega, hcm, hcs, by rw [← ht, List.take_take, Nat.min_eq_left hns]⟩
/-- one hash more -/
theorem append_hR {w : World} {base : Nat} {v : Value} {l : List (List UInt8)} (h : w.ownsRow base 45 32 v l.length (hcells l)) (x : List UInt8) (hx : x.length = 32) (hn : l.length ≤ 1000000000) (hb : base ≤ w.heap.size) :
    ∃ v' w', (Builtin.append_ #[22, 22] 22 #[v, .slice (some ⟨w.heap.size, 0, none⟩) 1 1]).run Try.prog (w.alloc (.cells (hcells [x]).toArray 45)) = .ok v' w' ∧
      w'.ownsRow base 45 32 v' (l ++ [x]).length (hcells (l ++ [x])) ∧ w.grownBy w' v.ownBlock ∧ (v'.ownBlock = v.ownBlock ∨ ∃ k, v'.ownBlock = some k ∧ w.heap.size ≤ k) := by
  have h32 : H32 [x] := by intro h hh; rw [List.mem_singleton.1 hh]; exact hx
  have hbA : Below w.heap.size w (w.alloc (.cells (hcells [x]).toArray 45)) := (Below.refl _ _).alloc (Nat.le_refl _) _
  obtain ⟨v', w', hr, ho, hg, hf⟩ := append_slv (ty := 22) Try.underlying22 info26z (by simp [Value.cells]) (by decide) (owns_step h hbA) (Hs.lit w [x] h32 (by simp) 1 rfl).sl (oneB _) (by unfold maxLen; omega) (by omega) (Nat.le_trans hb hbA.size)
  rw [← hcells_append] at ho
  refine ⟨v', w', hr, by rw [List.length_append]; exact ho, ⟨hg.os, hg.tape, hg.output, Nat.le_trans hbA.size hg.size, fun k hk hne => ?_⟩, ?_⟩
  · rw [hg.block k (Nat.lt_of_lt_of_le hk hbA.size) hne, hbA.block k hk]
  · rcases hf with hf | ⟨k, hf, hk⟩
    · exact .inl hf
    · exact .inr ⟨k, hf, by have := hbA.size; omega⟩

/-- between two rounds of the carry -/
def CarryP (hs : List (List UInt8)) (i k t : Nat) (ss : List (List UInt8)) (x : List UInt8) : Prop := k * 2 ^ t + 2 ^ t = i + 1 ∧ ss = rootsL hs (wholeL 0 (k * 2 ^ t)) ∧ x = stretchL hs (k * 2 ^ t) (k * 2 ^ t + 2 ^ t)
theorem CarryP.start (hs : List (List UInt8)) (i : Nat) (h : i < hs.length) : CarryP hs i i 0 (rootsL hs (wholeL 0 i)) (hs.getD i []) := by
  refine ⟨by rw [Nat.pow_zero, Nat.mul_one], by rw [Nat.pow_zero, Nat.mul_one], ?_⟩
  rw [Nat.pow_zero, Nat.mul_one, stretch_one hs i h]
theorem CarryP.next {hs : List (List UInt8)} {i k t : Nat} {ss : List (List UInt8)} {x : List UInt8} (h : CarryP hs i k t ss x) (hk : k % 2 = 1) (hi : i < hs.length) : ∃ ss' y, ss = ss' ++ [y] ∧ CarryP hs i (k / 2) (t + 1) ss' (hNode y x) := by
  obtain ⟨h1, h2, h3⟩ := h
  have hl := whole_low (k - 1) t (by omega)
  have e0 : k * 2 ^ t = (k - 1) * 2 ^ t + 2 ^ t := by
    conv => lhs; rw [show k = (k - 1) + 1 by omega, Nat.add_mul, Nat.one_mul]
  have e1 : k / 2 * 2 ^ (t + 1) = (k - 1) * 2 ^ t := by
    rw [Nat.pow_succ, Nat.mul_comm (2 ^ t) 2, ← Nat.mul_assoc, show k / 2 * 2 = k - 1 by omega]
  have e2 : 2 ^ (t + 1) = 2 ^ t + 2 ^ t := by rw [Nat.pow_succ]; omega
  rw [e0] at h1 h2 h3
  rw [hl, rootsL, List.map_append] at h2
  refine ⟨_, _, h2, ?_⟩
  unfold CarryP
  rw [e1, e2]
  refine ⟨by omega, rfl, ?_⟩
  rw [h3, ← Nat.add_assoc]
  exact (stretch_join hs ((k - 1) * 2 ^ t) t (by omega)).symm
theorem CarryP.done {hs : List (List UInt8)} {i k t : Nat} {ss : List (List UInt8)} {x : List UInt8} (h : CarryP hs i k t ss x) (hk : k % 2 = 0) : ss ++ [x] = rootsL hs (wholeL 0 (i + 1)) := by
  obtain ⟨h1, h2, h3⟩ := h
  have hl := whole_low k t hk
  rw [h1] at hl h3
  rw [hl, rootsL, List.map_append, h2, h3]
  rfl
theorem CarryP.len {hs : List (List UInt8)} {i k t : Nat} {ss : List (List UInt8)} {x : List UInt8} (h : CarryP hs i k t ss x) (h32 : H32 hs) : x.length = 32 := by rw [h.2.2]; exact length_stretchL hs _ _ h32
theorem CarryP.all {hs : List (List UInt8)} {i k t : Nat} {ss : List (List UInt8)} {x : List UInt8} (h : CarryP hs i k t ss x) (h32 : H32 hs) : H32 ss := by rw [h.2.1]; exact rootsL_all hs h32 _

structure RtC (w : World) (A : Option Addr) (n c : Nat) (hs : List (List UInt8)) (ov : Value) (os : List (List UInt8)) (sv : Value) (ss : List (List UInt8)) (W : World) : Prop where
  src : Hs W (fun b => b < w.heap.size) A n c hs
  out : W.ownsRow w.heap.size 45 32 ov os.length (hcells os)
  st : W.ownsRow w.heap.size 45 32 sv ss.length (hcells ss)
  ne : ∀ b, sv.ownBlock = some b → ov.ownBlock = some b → False
  bel : Below w.heap.size w W
section
variable {w : World} {A : Option Addr} {n c : Nat} {hs : List (List UInt8)} {ov sv : Value} {os ss : List (List UInt8)} {W W' : World}
theorem RtC.step (h : RtC w A n c hs ov os sv ss W) (hb : Below W.heap.size W W') : RtC w A n c hs ov os sv ss W' :=
  ⟨h.src.step hb, owns_step h.out hb, owns_step h.st hb, h.ne, h.bel.trans (hb.mono h.bel.size)⟩
theorem RtC.drew (h : RtC w A n c hs ov os sv ss W) : RtC w A n c hs ov os sv ss W.drew := h.step (Below.refl _ _).drew
theorem RtC.appSt (h : RtC w A n c hs ov os sv ss W) {v' : Value} {x : List UInt8} (hg : W.grownBy W' sv.ownBlock) (hf : v'.ownBlock = sv.ownBlock ∨ ∃ k, v'.ownBlock = some k ∧ W.heap.size ≤ k)
    (ho : W'.ownsRow w.heap.size 45 32 v' (ss ++ [x]).length (hcells (ss ++ [x]))) : RtC w A n c hs ov os v' (ss ++ [x]) W' := by
  refine ⟨h.src.grown hg ?_, h.out.kept hg ?_, ho, ?_, h.bel.grown hg h.bel.size fun k hk => (h.st.lt k hk).1⟩
  · intro b _ hx e; have := (h.st.lt _ e.symm).1; omega
  · cases e : ov.ownBlock with
    | none => exact .inl rfl
    | some b => exact .inr fun e2 => h.ne b e2.symm e
  · intro b h1 h2
    rcases hf with hf | ⟨k, hf, hk⟩
    · exact h.ne b (hf ▸ h1) h2
    · rw [hf] at h1; cases h1; have := (h.out.lt _ h2).2; omega
theorem RtC.appOut (h : RtC w A n c hs ov os sv ss W) {v' : Value} {x : List UInt8} (hg : W.grownBy W' ov.ownBlock) (hf : v'.ownBlock = ov.ownBlock ∨ ∃ k, v'.ownBlock = some k ∧ W.heap.size ≤ k)
    (ho : W'.ownsRow w.heap.size 45 32 v' (os ++ [x]).length (hcells (os ++ [x]))) : RtC w A n c hs v' (os ++ [x]) sv ss W' := by
  refine ⟨h.src.grown hg ?_, ho, h.st.kept hg ?_, ?_, h.bel.grown hg h.bel.size fun k hk => (h.out.lt k hk).1⟩
  · intro b _ hx e; have := (h.out.lt _ e.symm).1; omega
  · cases e : sv.ownBlock with
    | none => exact .inl rfl
    | some b => exact .inr fun e2 => h.ne b e e2.symm
  · intro b h1 h2
    rcases hf with hf | ⟨k, hf, hk⟩
    · exact h.ne b h1 (hf ▸ h2)
    · rw [hf] at h2; cases h2; have := (h.st.lt _ h1).2; omega
theorem RtC.setRow (h : RtC w A n c hs ov os sv ss W) {g : Nat} (cs : Array Value) (hg : w.heap.size ≤ g) (h1 : sv.ownBlock ≠ some g) (h2 : ov.ownBlock ≠ some g) : RtC w A n c hs ov os sv ss (W.setRow g cs) := by
  have hgr : W.grownBy (W.setRow g cs) (some g) := grown_setRow ⟨rfl, rfl, rfl, Nat.le_refl _, fun _ _ _ => rfl⟩ cs
  exact ⟨h.src.setRow g cs (by omega), h.out.kept hgr (.inr h2), h.st.kept hgr (.inr h1), h.ne, below_setRow h.bel hg _⟩
/-- the last of the stack goes -/
theorem RtC.pop {g p c' : Nat} {y : List UInt8} (h : RtC w A n c hs ov os (.slice (some ⟨g, 0, none⟩) (p + 1) c') (ss ++ [y]) W) (hl : ss.length = p) (h32 : H32 (ss ++ [y])) : RtC w A n c hs ov os (.slice (some ⟨g, 0, none⟩) p c') ss W := by
  refine ⟨h.src, h.out, ?_, fun b h1 h2 => h.ne b h1 h2, h.bel⟩
  have h1 := h.st
  rw [show (ss ++ [y]).length = p + 1 by rw [List.length_append, hl]; rfl] at h1
  have h2 := owns_fewerT (n := p) h1 (by omega)
  rw [hcells_take _ h32 p (by rw [List.length_append, hl]; simp), show (ss ++ [y]).take p = ss by rw [← hl]; simp] at h2
  rw [hl]
  exact h2
end

end Go.Proofs.Ytmglkblomklcbaa
/- Slices of steps. -/
namespace Go.Proofs.Ytmglkblomklcbaa
open Go Go.RowKit

structure St (w : World) (X : Nat → Prop) (A : Option Addr) (n c : Nat) (q : List StepV) : Prop where
  sl : SlV w X A n c 34 (scells q)
  len : q.length = n
  all : S32 q
section
variable {w w' : World} {X Y : Nat → Prop} {A : Option Addr} {n c : Nat} {q : List StepV}
theorem St.weak (h : St w X A n c q) (hX : ∀ b, b < w.heap.size → X b → Y b) : St w Y A n c q := ⟨h.sl.weak hX, h.len, h.all⟩
theorem St.step (h : St w X A n c q) (hb : Below w.heap.size w w') : St w' X A n c q := ⟨h.sl.step hb, h.len, h.all⟩
theorem St.drew (h : St w X A n c q) : St w.drew X A n c q := ⟨h.sl.drew, h.len, h.all⟩
theorem St.below {N : Nat} (h : St w X A n c q) (hb : Below N w w') (hX : ∀ b, b < w.heap.size → X b → b < N) : St w' X A n c q := ⟨h.sl.below hb hX, h.len, h.all⟩
theorem St.of_owns {base : Nat} {T : TypeId} {v : Value} (h : w.ownsRow base T 34 v n (scells q)) (hn : q.length = n) (ha : S32 q) : ∃ A c, v = .slice A n c ∧ St w (fun b => base ≤ b ∧ some b = v.ownBlock) A n c q := by
  obtain ⟨A, c, hv, hs⟩ := owns_slv h
  exact ⟨A, c, hv, hs, hn, ha⟩
theorem St.at_ (h : St w X A n c q) (hn : 0 < n) : ∃ b o, A = some ⟨b, o, none⟩ ∧ b < w.heap.size ∧ X b ∧ ∀ i, i < n →
    (Instr.loadAt 45 (.pointer (some ⟨b, o + i * 34 + 2, none⟩))).run Try.prog w = .ok (.agg ((q.getD i ((0, 0), [])).2.map B).toArray) w ∧
    (Instr.loadAt 68 (.pointer (some ⟨b, o + i * 34, none⟩))).run Try.prog w = .ok (.agg #[.int .i64 ((q.getD i ((0, 0), [])).1.1 : Int), .int .i64 ((q.getD i ((0, 0), [])).1.2 : Int)]) w ∧
    ∀ T S, StepT T S → (Instr.loadAt T (.pointer (some ⟨b, o + i * 34, none⟩))).run Try.prog w = .ok (.agg (scell (q.getD i ((0, 0), []))).toArray) w := by
  obtain ⟨b, o, h1, h2, h3, h4⟩ := h.sl.at_ hn (by decide)
  refine ⟨b, o, h1, h2, h3, fun i hi => ?_⟩
  have hi' : i < q.length := by rw [h.len]; exact hi
  have hl : (q.getD i ((0, 0), [])).2.length = 32 := by
    rw [List.getD_eq_getElem?_getD, List.getElem?_eq_getElem hi']
    exact h.all _ (List.getElem_mem hi')
  have hat := fun j v hv => scells_at q h.all i hi' j v hv
  generalize q.getD i ((0, 0), []) = s at hl hat ⊢
  refine ⟨run_load_agg (agg26 _) (size26 _) b (o + i * 34 + 2) (s.2.map B) (by simp [hl]) fun j u hu => ?_,
    run_load_agg (aggR _) (sizeR _) b (o + i * 34) [.int .i64 (s.1.1 : Int), .int .i64 (s.1.2 : Int)] rfl fun j u hu => ?_, fun T S hT => ?_⟩
  · rw [show o + i * 34 + 2 + j = o + (i * 34 + (2 + j)) by omega]
    refine h4 _ u (hat (2 + j) u ?_)
    show ([Value.int .i64 (s.1.1 : Int), .int .i64 (s.1.2 : Int)] ++ s.2.map B)[2 + j]? = some u
    rw [List.getElem?_append_right (by simp)]
    simpa using hu
  · rw [Nat.add_assoc]
    refine h4 _ u (hat j u ?_)
    show ([Value.int .i64 (s.1.1 : Int), .int .i64 (s.1.2 : Int)] ++ s.2.map B)[j]? = some u
    rw [List.getElem?_append_left (List.getElem?_eq_some_iff.1 hu).1]
    exact hu
  · exact run_load_agg (hT.agg _) (hT.size _) b (o + i * 34) (scell s) (length_scell s hl) fun j u hu => by
      rw [Nat.add_assoc]
      exact h4 _ u (hat j u hu)
end
theorem lastH_at (q : List StepV) (n : Nat) (h : q.length = n + 1) : (q.getD n ((0, 0), [])).2 = lastH q := by
  unfold lastH
  rw [List.getLastD_eq_getLast?, List.getLast?_eq_getElem?, List.getD_eq_getElem?_getD, h, Nat.add_sub_cancel]
end Go.Proofs.Ytmglkblomklcbaa
