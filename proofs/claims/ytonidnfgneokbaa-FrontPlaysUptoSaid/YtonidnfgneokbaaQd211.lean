/- Literals of hashes; what is compared. No function of the program. -/
import Derived.Test.YtonidnfgneokbaaQd210
import Derived.Test.YtonidnfgneokbaaQd205
import Derived.Great.BuildSlice
import Derived.Test.YtonidnfgneokbaaQd201
namespace Go.Proofs.Ytonidnfgneokbaa
open Go Go.RowKit

theorem lit_cells : ∀ hs : List (List UInt8), ((hs.map fun h => Value.agg (h.map B).toArray).flatMap fun v => v.cells.toList) = hcells hs
  | [] => rfl
  | h :: hs => by
    rw [List.map_cons, List.flatMap_cons, lit_cells hs, hcells, hcells, List.flatten_cons, List.map_append]
    rfl
/-- a literal of hashes -/
theorem run_lit_hash (hs : List (List UInt8)) (h32 : H32 hs) (h0 : 0 < hs.length) (hm : hs.length ≤ 1000) (parts : Array (Nat × Value)) (hp : parts.toList = ((hs.map fun h => Value.agg (h.map B).toArray).zipIdx 0).map fun x => (x.2, x.1)) (n : Nat) (hn : n = hs.length) (W : World) :
    (Instr.buildSlice 26 n parts).run Try.prog W = .ok (.slice (some ⟨W.heap.size, 0, none⟩) n n) (W.alloc (.cells (hcells hs).toArray 25)) := by
  subst hn
  obtain ⟨i, hi⟩ : ∃ i, Try.prog.info? 25 = some i := Option.isSome_iff_exists.1 (by kernel_rfl)
  have hz : i.zero = some (.agg ((List.replicate 32 (0 : UInt8)).map B).toArray) := by
    have : (Try.prog.info? 25).bind (·.zero) = some (.agg ((List.replicate 32 (0 : UInt8)).map B).toArray) := by kernel_rfl
    rw [hi] at this; exact this
  have hs' : i.size = 32 := by
    have : (Try.prog.info? 25).map (·.size) = some 32 := by kernel_rfl
    rw [hi] at this; exact Option.some.inj this
  have hc : ∀ v ∈ (hs.map fun h => Value.agg (h.map B).toArray), v.cells.size = 32 := by
    intro v hv
    obtain ⟨h, hh, rfl⟩ := List.mem_map.1 hv
    simp [Value.cells, h32 h hh]
  have := run_buildSlice (P := Try.prog) W 26 25 hs.length parts (hcells hs).toArray i _ Try.underlying26 hi hz (by rw [hs']; omega) (by rw [hs']; omega) (by
    rw [hp, hs', Great.fill_whole (by decide) _ _ hc (by simp)]
    rw [lit_cells])
  exact this
theorem run_lit_op {ρ : Operand → Value} {o : Oper} (hs : List (List UInt8)) (h32 : H32 hs) (h0 : 0 < hs.length) (hm : hs.length ≤ 1000) (n : Nat) (ps : Array (Nat × Operand)) (ho : o.op = .buildSlice 26 n ps) (hp : (ps.map fun (i, x) => (i, ρ x)).toList = ((hs.map fun h => Value.agg (h.map B).toArray).zipIdx 0).map fun x => (x.2, x.1)) (hn : n = hs.length) (W : World) :
    (execOp ρ o).run Try.prog W = .ok (.value (.slice (some ⟨W.heap.size, 0, none⟩) n n)) (W.alloc (.cells (hcells hs).toArray 25)) := by
  unfold execOp
  simp only [ho, Sem.run_bind, Sem.run_pure, run_lit_hash hs h32 h0 hm _ hp n hn W, Result.andThen_ok]
theorem run_eqstr_op {ρ : Operand → Value} {o : Oper} (x y : Operand) (ty : TypeId) (l m : List UInt8) (ho : o.op = .binOp .eql 9 x y ty) (hx : ρ x = .string (bstr l)) (hy : ρ y = .string (bstr m)) (W : World) :
    (execOp ρ o).run Try.prog W = .ok (.value (.bool (l == m))) W := by
  unfold execOp
  simp only [ho, hx, hy, eqGuard_at_string, Sem.run_bind, Sem.run_pure, run_eql_str, Result.andThen_ok]
theorem run_eqstr_t {ρ : Operand → Value} {o : Oper} (x y : Operand) (ty : TypeId) (l m : List UInt8) (ho : o.op = .binOp .eql 9 x y ty) (hx : ρ x = .string (bstr l)) (hy : ρ y = .string (bstr m)) (h : l = m) (W : World) :
    (execOp ρ o).run Try.prog W = .ok (.value (.bool true)) W := by
  rw [run_eqstr_op x y ty l m ho hx hy W, h, BEq.rfl]
theorem run_eql26_t {ρ : Operand → Value} {o : Oper} (x y : Operand) (ty : TypeId) (xs ys : List UInt8) (ho : o.op = .binOp .eql 25 x y ty) (hx : ρ x = .agg (xs.map B).toArray) (hy : ρ y = .agg (ys.map B).toArray) (lx : xs.length = 32) (ly : ys.length = 32) (h : xs = ys) (W : World) :
    (execOp ρ o).run Try.prog W = .ok (.value (.bool true)) W := by
  rw [run_eql26 x y ty xs ys ho hx hy lx ly W, h, BEq.rfl]
theorem run_neq26_t {ρ : Operand → Value} {o : Oper} (x y : Operand) (ty : TypeId) (xs ys : List UInt8) (ho : o.op = .binOp .neq 25 x y ty) (hx : ρ x = .agg (xs.map B).toArray) (hy : ρ y = .agg (ys.map B).toArray) (lx : xs.length = 32) (ly : ys.length = 32) (h : xs ≠ ys) (W : World) :
    (execOp ρ o).run Try.prog W = .ok (.value (.bool true)) W := by
  rw [run_neq26 x y ty xs ys ho hx hy lx ly W, show (xs != ys) = true by simpa using h]
theorem run_neq26_f {ρ : Operand → Value} {o : Oper} (x y : Operand) (ty : TypeId) (xs ys : List UInt8) (ho : o.op = .binOp .neq 25 x y ty) (hx : ρ x = .agg (xs.map B).toArray) (hy : ρ y = .agg (ys.map B).toArray) (lx : xs.length = 32) (ly : ys.length = 32) (h : xs = ys) (W : World) :
    (execOp ρ o).run Try.prog W = .ok (.value (.bool false)) W := by
  rw [run_neq26 x y ty xs ys ho hx hy lx ly W, show (xs != ys) = false by simpa using h]
theorem Hs.lit (W : World) (hs : List (List UInt8)) (h32 : H32 hs) (hm : hs.length ≤ 1000) (n : Nat) (hn : n = hs.length) : Hs (W.alloc (.cells (hcells hs).toArray 25)) (fun _ => True) (some ⟨W.heap.size, 0, none⟩) n n hs :=
  ⟨SlV.lit W _ _ _ (by rw [hcells_len _ h32, hn]) (by unfold maxLen; omega) trivial, hn.symm, h32⟩
end Go.Proofs.Ytonidnfgneokbaa
/- A row of one's own, written over. -/
namespace Go.Proofs.Ytonidnfgneokbaa
open Go Go.RowKit

theorem put_take {α : Type} (cur vs : List α) (a s m : Nat) (hv : vs.length = s) (hm : a + s ≤ m) (hc : a + s ≤ cur.length) :
    (cur.take a ++ vs ++ cur.drop (a + s)).take m = (cur.take m).take a ++ vs ++ (cur.take m).drop (a + s) := by
  have h1 : (cur.take a ++ vs).length = a + s := by rw [List.length_append, List.length_take, hv]; omega
  rw [List.take_append, h1, List.take_of_length_le (by rw [h1]; exact hm), List.take_take, Nat.min_eq_left (by omega), List.drop_take]
/-- one element is written over -/
theorem owns_put {w : World} {base g n c s : Nat} {e : TypeId} {xs : List Value} (h : w.ownsRow base e s (.slice (some ⟨g, 0, none⟩) n c) n xs) (k : Nat) (hk : k < n) (vs : List Value) (hv : vs.length = s) :
    ∃ cur : Array Value, Blk w g e cur ∧ k * s + s ≤ cur.size ∧ base ≤ g ∧
      (w.setRow g (cur.toList.take (k * s) ++ vs ++ cur.toList.drop (k * s + s)).toArray).ownsRow base e s (.slice (some ⟨g, 0, none⟩) n c) n (xs.take (k * s) ++ vs ++ xs.drop (k * s + s)) := by
  have hl := h.1
  rcases h.2 with ⟨hv, _⟩ | ⟨g', cap, cur, hv', hbg, hg, hnc, hcm, hcs, ht⟩
  · cases hv
  · cases hv'
    have hks : k * s + s ≤ n * s := by rw [← Nat.succ_mul]; exact Nat.mul_le_mul_right _ hk
    have hns : n * s ≤ c * s := Nat.mul_le_mul_right _ hnc
    have hsz : k * s + s ≤ cur.size := by omega
    refine ⟨cur, hg, hsz, hbg, ?_, .inr ⟨g, c, _, rfl, hbg, Blk.setRow_ hg _, hnc, hcm, ?_, ?_⟩⟩
    · simp only [List.length_append, List.length_take, List.length_drop, hv, hl]; omega
    · simp only [List.size_toArray, List.length_append, List.length_take, List.length_drop, hv, Array.length_toList, hcs]; omega
    · rw [put_take cur.toList vs (k * s) s (n * s) hv hks (by simpa using hsz), ht]
theorem Hs.of_owns {w : World} {base n : Nat} {v : Value} {hs : List (List UInt8)} (h : w.ownsRow base 25 32 v n (hcells hs)) (hn : hs.length = n) (ha : H32 hs) :
    ∃ A c, v = .slice A n c ∧ Hs w (fun b => base ≤ b ∧ some b = v.ownBlock) A n c hs := by
  obtain ⟨A, c, hv, hs⟩ := owns_slv h
  exact ⟨A, c, hv, hs, hn, ha⟩
/-- the hash of one byte and nothing more -/
def oneHash (b : UInt8) : List UInt8 := b :: List.replicate 31 0
theorem length_oneHash (b : UInt8) : (oneHash b).length = 32 := by simp [oneHash]
end Go.Proofs.Ytonidnfgneokbaa
/- Slices of stretches. -/
namespace Go.Proofs.Ytonidnfgneokbaa
open Go Go.RowKit

def rcell (x : Int × Int) : List Value := [.int .i64 x.1, .int .i64 x.2]
/-- stretches, side by side -/
def rcells (l : List (Int × Int)) : List Value := l.flatMap rcell
def natR (l : List (Nat × Nat)) : List (Int × Int) := l.map fun x => ((x.1 : Int), (x.2 : Int))
structure Rs (w : World) (X : Nat → Prop) (A : Option Addr) (n c : Nat) (l : List (Int × Int)) : Prop where
  sl : SlV w X A n c 2 (rcells l)
  len : l.length = n
theorem rcells_nil : rcells [] = [] := rfl
theorem rcells_one (x : Int × Int) : rcells [x] = [.int .i64 x.1, .int .i64 x.2] := rfl
theorem rcells_append (a b : List (Int × Int)) : rcells (a ++ b) = rcells a ++ rcells b := by simp [rcells]
theorem rcells_len : ∀ l : List (Int × Int), (rcells l).length = l.length * 2
  | [] => rfl
  | x :: l => by
    have := rcells_len l
    simp only [rcells, List.flatMap_cons, List.length_append, List.length_cons, rcell, List.length_nil] at *
    omega
theorem rcells_take : ∀ (l : List (Int × Int)) (k : Nat), (rcells l).take (k * 2) = rcells (l.take k)
  | [], k => by simp [rcells]
  | x :: l, 0 => by simp [rcells]
  | x :: l, k + 1 => by
    have := rcells_take l k
    rw [show (k + 1) * 2 = k * 2 + 1 + 1 by omega]
    simp only [rcells, List.flatMap_cons, rcell, List.cons_append, List.nil_append, List.take_succ_cons] at *
    rw [this]
theorem rcells_drop : ∀ (l : List (Int × Int)) (k : Nat), (rcells l).drop (k * 2) = rcells (l.drop k)
  | [], k => by simp [rcells]
  | x :: l, 0 => by simp [rcells]
  | x :: l, k + 1 => by
    have := rcells_drop l k
    rw [show (k + 1) * 2 = k * 2 + 1 + 1 by omega]
    simp only [rcells, List.flatMap_cons, rcell, List.cons_append, List.nil_append, List.drop_succ_cons] at *
    exact this
theorem rcells_get (l : List (Int × Int)) (k : Nat) (hk : k < l.length) : (rcells l)[k * 2]? = some (.int .i64 (l.getD k (0, 0)).1) ∧ (rcells l)[k * 2 + 1]? = some (.int .i64 (l.getD k (0, 0)).2) := by
  have h1 : ∀ j, (rcells l)[k * 2 + j]? = (rcells (l.drop k))[j]? := fun j => by rw [← rcells_drop, List.getElem?_drop]
  have h2 := h1 0
  have h3 := h1 1
  rw [Nat.add_zero] at h2
  rw [h2, h3, List.drop_eq_getElem_cons hk, List.getD_eq_getElem?_getD, List.getElem?_eq_getElem hk]
  exact ⟨rfl, rfl⟩
theorem rcells_set (l : List (Int × Int)) (k : Nat) (x : Int × Int) (hk : k < l.length) : (rcells l).take (k * 2) ++ rcell x ++ (rcells l).drop (k * 2 + 2) = rcells (l.set k x) := by
  rw [rcells_take, show k * 2 + 2 = (k + 1) * 2 by omega, rcells_drop, List.set_eq_take_append_cons_drop, if_pos hk, rcells_append]
  simp [rcells]
section
variable {w w' : World} {X Y : Nat → Prop} {A : Option Addr} {n c : Nat} {l : List (Int × Int)}
theorem Rs.weak (h : Rs w X A n c l) (hX : ∀ b, b < w.heap.size → X b → Y b) : Rs w Y A n c l := ⟨h.sl.weak hX, h.len⟩
theorem Rs.step (h : Rs w X A n c l) (hb : Below w.heap.size w w') : Rs w' X A n c l := ⟨h.sl.step hb, h.len⟩
theorem Rs.alloc (h : Rs w X A n c l) (o : Obj) : Rs (w.alloc o) X A n c l := ⟨h.sl.alloc o, h.len⟩
theorem Rs.drew (h : Rs w X A n c l) : Rs w.drew X A n c l := ⟨h.sl.drew, h.len⟩
theorem Rs.drewN (h : Rs w X A n c l) (k : Nat) : Rs (w.drewN k) X A n c l := ⟨h.sl.drewN k, h.len⟩
theorem Rs.grown {row : Option Nat} (h : Rs w X A n c l) (hg : w.grownBy w' row) (hX : ∀ b, b < w.heap.size → X b → some b ≠ row) : Rs w' X A n c l := ⟨h.sl.grown hg hX, h.len⟩
theorem Rs.setRow (h : Rs w X A n c l) (g : Nat) (cs : Array Value) (hX : ¬ X g) : Rs (w.setRow g cs) X A n c l :=
  ⟨h.sl.keep (by simp) fun p _ hx => World.cell?_of_block (setRow_other w g p.block cs (fun e => hX (e ▸ hx))), h.len⟩
theorem Rs.empty : Rs w X none 0 0 [] := ⟨SlV.empty, rfl⟩
theorem Rs.take (h : Rs w X A n c l) (k : Nat) (hk : k ≤ n) : Rs w X A k c (l.take k) := ⟨by have := h.sl.take k hk; rwa [rcells_take] at this, by rw [List.length_take, h.len]; omega⟩
theorem Rs.drop (h : Rs w X A n c l) (k : Nat) (hk : k ≤ n) : Rs w X (if c = k then A else A.map (·.add (k * 2))) (n - k) (c - k) (l.drop k) := ⟨by have := h.sl.drop k hk; rwa [rcells_drop] at this, by rw [List.length_drop, h.len]⟩
/-- where they lie; one is read, whole or by its parts -/
theorem Rs.at_ (h : Rs w X A n c l) (hn : 0 < n) : ∃ b o, A = some ⟨b, o, none⟩ ∧ b < w.heap.size ∧ X b ∧ ∀ i, i < n → w.cell? ⟨b, o + i * 2, none⟩ = some (.int .i64 (l.getD i (0, 0)).1) ∧ w.cell? ⟨b, o + i * 2 + 1, none⟩ = some (.int .i64 (l.getD i (0, 0)).2) := by
  obtain ⟨b, o, h1, h2, h3, h4⟩ := h.sl.at_ hn (by decide)
  refine ⟨b, o, h1, h2, h3, fun i hi => ?_⟩
  obtain ⟨g1, g2⟩ := rcells_get l i (by rw [h.len]; exact hi)
  exact ⟨h4 _ _ g1, by rw [Nat.add_assoc]; exact h4 _ _ g2⟩
end
theorem oneR (l : List (Int × Int)) : ∀ v ∈ rcells l, v.oneCell' = true := by
  intro v hv
  simp only [rcells, List.mem_flatMap, rcell] at hv
  obtain ⟨x, _, hv⟩ := hv
  simp only [List.mem_cons, List.not_mem_nil, or_false] at hv
  rcases hv with rfl | rfl <;> rfl
end Go.Proofs.Ytonidnfgneokbaa
/- slices.Reverse, of stretches. -/
namespace Go.Proofs.Ytonidnfgneokbaa
open Go Go.RowKit

theorem wpMix_store_agg {P : Program} {ops : Array Oper} {Q : Exit → Act → World → Prop} {S : World → Prop} {R : Act → World → Prop} {o : Oper} {l : List (Oper × Bool)} {a : Act} {w : World} (hgd : o.guard = none) (ty : TypeId) (x y : Operand) (ho : o.op = .store ty x y)
    (n : Nat) (hsz : ∀ w : World, (sizeOf ty).run P w = .ok n w) (g off : Nat) (vs : Array Value) (hx : a.eval x = .pointer (some ⟨g, off, none⟩)) (hy : a.eval y = .agg vs) (hv : vs.size = n) (h1 : ∀ v ∈ vs.toList, v.oneCell' = true)
    (t : TypeId) (cur : Array Value) (hg : Blk w g t cur) (hc : off + n ≤ cur.size) (hS : S (w.setRow g (cur.toList.take off ++ vs.toList ++ cur.toList.drop (off + n)).toArray))
    (h : wpMix P ops S Q R l (a.put o.dst undef) (w.setRow g (cur.toList.take off ++ vs.toList ++ cur.toList.drop (off + n)).toArray)) : wpMix P ops S Q R ((o, false) :: l) a w := by
  refine ⟨?_⟩
  unfold wpMix0
  rw [if_pos (by simp [Region.wanted, hgd])]
  unfold Oper.wp execOp
  simp only [ho, hx, hy, run_store_agg (P := P) (hsz w) g off vs cur hv h1 hg hc, Sem.run_bind, Sem.run_pure, Result.andThen_ok, Oper.upon]
  exact ⟨hS, h.out⟩
theorem run_load_op {P : Program} {ρ : Operand → Value} {o : Oper} {w : World} (ty : TypeId) (x : Operand) (ho : o.op = .load ty x) (g off : Nat) (hx : ρ x = .pointer (some ⟨g, off, none⟩)) (v : Value) (h : (Instr.loadAt ty (.pointer (some ⟨g, off, none⟩))).run P w = .ok v w) :
    (execOp ρ o).run P w = .ok (.value v) w := by
  unfold execOp
  simp only [ho, hx, Sem.run_bind, Sem.run_pure, h, Result.andThen_ok]

/-- k at either end have changed places -/
def revK (os : List (Int × Int)) (k : Nat) : List (Int × Int) := (List.range os.length).map fun p => os.getD (if p < k ∨ os.length ≤ p + k then os.length - 1 - p else p) (0, 0)
theorem length_revK (os : List (Int × Int)) (k : Nat) : (revK os k).length = os.length := by simp [revK]
theorem revK_zero (os : List (Int × Int)) : revK os 0 = os := by
  apply List.ext_getElem
  · simp [revK]
  · intro i h1 h2
    simp only [revK, List.getElem_map, List.getElem_range]
    rw [if_neg (by omega), List.getD_eq_getElem?_getD, List.getElem?_eq_getElem h2]; rfl
theorem revK_getD (os : List (Int × Int)) (k p : Nat) (h : p < os.length) : (revK os k).getD p (0, 0) = os.getD (if p < k ∨ os.length ≤ p + k then os.length - 1 - p else p) (0, 0) := by
  rw [List.getD_eq_getElem?_getD, List.getElem?_eq_getElem (by rw [length_revK]; exact h)]
  simp [revK]
theorem revK_step (os : List (Int × Int)) (k j : Nat) (h : k < j) (hj : j + k + 1 = os.length) :
    ((revK os k).set k ((revK os k).getD j (0, 0))).set j ((revK os k).getD k (0, 0)) = revK os (k + 1) := by
  rw [revK_getD os k j (by omega), revK_getD os k k (by omega), if_neg (by omega), if_neg (by omega)]
  apply List.ext_getElem
  · simp [revK]
  · intro i h1 h2
    have hi : i < os.length := by rw [length_revK] at h2; exact h2
    rw [List.getElem_set, List.getElem_set]
    simp only [revK, List.getElem_map, List.getElem_range]
    by_cases e1 : j = i
    · rw [if_pos e1, if_pos (by omega)]; congr 1; omega
    · rw [if_neg e1]
      by_cases e2 : k = i
      · rw [if_pos e2, if_pos (by omega)]; congr 1; omega
      · rw [if_neg e2]
        by_cases e3 : i < k ∨ os.length ≤ i + k
        · rw [if_pos e3, if_pos (by omega)]
        · rw [if_neg e3, if_neg (by omega)]
theorem revK_end (os : List (Int × Int)) (k : Nat) (h : os.length ≤ 2 * k + 1) : revK os k = os.reverse := by
  apply List.ext_getElem
  · simp [revK]
  · intro i h1 h2
    have hi : i < os.length := by rw [length_revK] at h1; exact h1
    simp only [revK, List.getElem_map, List.getElem_range, List.getElem_reverse]
    by_cases e : i < k ∨ os.length ≤ i + k
    · rw [if_pos e, List.getD_eq_getElem?_getD, List.getElem?_eq_getElem (by omega)]; rfl
    · rw [if_neg e, List.getD_eq_getElem?_getD, List.getElem?_eq_getElem (by omega)]
      have : os.length - 1 - i = i := by omega
      simp [this]

end Go.Proofs.Ytonidnfgneokbaa
/- An operation with a guard whose run is known. No program in sight. -/
namespace Go.Proofs.Ytonidnfgneokbaa
open Go Go.RowKit

theorem wpList_runG {P : Program} {w : World} {ops : Array Oper} {rest : List Oper} {o : Oper} {a : Act} {Q : Exit → Act → World → Prop} (hw : Region.wanted o (yielded ops a.tmps) = true) (v : Value) (w' : World) (hrun : (execOp a.eval o).run P w = .ok (.value v) w')
    (h : wpList P ops Q rest (a.put o.dst v) w') : wpList P ops Q (o :: rest) a w :=
  wpList_step fun K hK => by
    rw [if_pos hw]
    unfold Oper.wp
    rw [hrun]
    exact hK _ _ h
end Go.Proofs.Ytonidnfgneokbaa
/- Variables that hold a hash: one step for each, by what is known of their block. -/
namespace Go.Proofs.Ytonidnfgneokbaa
open Go Go.RowKit

/-- a block holds this hash -/
structure HV (w : World) (g : Nat) (l : List UInt8) : Prop where
  blk : Blk w g 25 (l.map B).toArray
  len : l.length = 32
theorem HV.step {w W : World} {g : Nat} {l : List UInt8} (h : HV w g l) (hb : Below w.heap.size w W) : HV W g l := ⟨h.blk.below hb h.blk.lt, h.len⟩
theorem HV.lt {w : World} {g : Nat} {l : List UInt8} (h : HV w g l) : g < w.heap.size := h.blk.lt
theorem HV.drew {w : World} {g : Nat} {l : List UInt8} (h : HV w g l) : HV w.drew g l := ⟨h.blk, h.len⟩
theorem HV.load {w : World} {g : Nat} {l : List UInt8} (h : HV w g l) : (Instr.loadAt 25 (.pointer (some ⟨g, 0, none⟩))).run Try.prog w = .ok (.agg (l.map B).toArray) w :=
  run_load_blk (agg26 _) (size26 _) g _ (by simp [h.len]) h.blk
theorem HV.far {w W : World} {g g' : Nat} {l : List UInt8} (h : HV w g l) (hb : Below g' w W) (hg : g < g') : HV W g l := ⟨h.blk.below hb hg, h.len⟩
theorem Blk.step {w W : World} {g : Nat} {t : TypeId} {cs : Array Value} (h : Blk w g t cs) (hb : Below w.heap.size w W) : Blk W g t cs := h.below hb h.lt

section
variable {w : World} {ops : Array Oper} {rest : List Oper} {o o1 o2 o3 : Oper} {a : Act} {Q : Exit → Act → World → Prop}
set_option maxRecDepth 100000 in
/-- a new variable, written at once -/
theorem wpList_hvar {l : List UInt8} (x y : Operand) (hg1 : o1.guard = none) (hg2 : o2.guard = none) (ho1 : o1.op = .alloc 25) (ho2 : o2.op = .store 25 x y)
    (hx : (a.put o1.dst (.pointer (some ⟨w.heap.size, 0, none⟩))).eval x = .pointer (some ⟨w.heap.size, 0, none⟩)) (hy : (a.put o1.dst (.pointer (some ⟨w.heap.size, 0, none⟩))).eval y = .agg (l.map B).toArray) (hl : l.length = 32)
    (h : ∀ W, HV W w.heap.size l → Below w.heap.size w W → wpList Try.prog ops Q rest ((a.put o1.dst (.pointer (some ⟨w.heap.size, 0, none⟩))).put o2.dst undef) W) : wpList Try.prog ops Q (o1 :: o2 :: rest) a w := by
  have hz : zeroHash.size = 32 := rfl
  refine wpList_run hg1 (.pointer (some ⟨w.heap.size, 0, none⟩)) (w.alloc (.cells zeroHash 25)) ?_ ?_
  · unfold execOp
    rw [ho1]
    rfl
  · refine wpList_store_blk hg2 25 x y ho2 32 size26 w.heap.size (l.map B).toArray hx hy (by simp [hl]) (oneCell_B _) 25 _ (Blk.new w 25 zeroHash) hz ?_
    exact h _ ⟨(Blk.new w 25 zeroHash).setRow_ _, hl⟩ (below_setRow ((Below.refl _ _).alloc (Nat.le_refl _) _) (Nat.le_refl _) _)
set_option maxRecDepth 100000 in
/-- a new variable, nought -/
theorem wpList_hnew (hg1 : o1.guard = none) (ho1 : o1.op = .alloc 25)
    (h : ∀ W, HV W w.heap.size (List.replicate 32 0) → Below w.heap.size w W → wpList Try.prog ops Q rest (a.put o1.dst (.pointer (some ⟨w.heap.size, 0, none⟩))) W) : wpList Try.prog ops Q (o1 :: rest) a w := by
  refine wpList_run hg1 (.pointer (some ⟨w.heap.size, 0, none⟩)) (w.alloc (.cells zeroHash 25)) ?_ (h _ ⟨Blk.new w 25 zeroHash, rfl⟩ ((Below.refl _ _).alloc (Nat.le_refl _) _))
  unfold execOp
  rw [ho1]
  rfl
/-- a variable is written over: all below it stays -/
theorem wpList_hset {l l' : List UInt8} {g : Nat} (x y : Operand) (hg2 : o.guard = none) (ho2 : o.op = .store 25 x y) (k : HV w g l')
    (hx : a.eval x = .pointer (some ⟨g, 0, none⟩)) (hy : a.eval y = .agg (l.map B).toArray) (hl : l.length = 32)
    (h : ∀ W, HV W g l → Below g w W → W = w.setRow g (l.map B).toArray → wpList Try.prog ops Q rest (a.put o.dst undef) W) : wpList Try.prog ops Q (o :: rest) a w :=
  wpList_store_blk hg2 25 x y ho2 32 size26 g (l.map B).toArray hx hy (by simp [hl]) (oneCell_B _) 25 _ k.blk (by simp [k.len])
    (h _ ⟨k.blk.setRow_ _, hl⟩ (below_setRow (Below.refl _ _) (Nat.le_refl _) _) rfl)
theorem wpList_hload {l : List UInt8} {g : Nat} (x : Operand) (hw : Region.wanted o (yielded ops a.tmps) = true) (ho : o.op = .load 25 x) (k : HV w g l) (hx : a.eval x = .pointer (some ⟨g, 0, none⟩))
    (h : wpList Try.prog ops Q rest (a.put o.dst (.agg (l.map B).toArray)) w) : wpList Try.prog ops Q (o :: rest) a w :=
  wpList_runG hw (.agg (l.map B).toArray) w (run_load_op 25 x ho g 0 hx _ k.load) h
/-- a scalar, by its cell -/
theorem wpList_cell {P : Program} (ty : TypeId) (x : Operand) (g off : Nat) (v : Value) (hw : Region.wanted o (yielded ops a.tmps) = true) (ho : o.op = .load ty x) (hx : a.eval x = .pointer (some ⟨g, off, none⟩))
    (hrun : (Instr.loadAt ty (.pointer (some ⟨g, off, none⟩))).run P w = .ok v w) (h : wpList P ops Q rest (a.put o.dst v) w) : wpList P ops Q (o :: rest) a w :=
  wpList_runG hw v w (run_load_op ty x ho g off hx _ hrun) h
end
theorem run_load_scalar {P : Program} {W : World} {ty : TypeId} {g o : Nat} {v : Value} (hagg : (isAgg ty).run P W = .ok false W) (h : W.cell? ⟨g, o, none⟩ = some v) : (Instr.loadAt ty (.pointer (some ⟨g, o, none⟩))).run P W = .ok v W := by
  simp [Instr.loadAt, Instr.sureAddr, loadVar, Sem.run_bind, hagg, Go.load, Sem.run, h]
theorem notagg64 : ∀ w : World, (isAgg 2).run Try.prog w = .ok false w := fun _ => by kernel_rfl
/-- hashes: one is put in the place of another -/
theorem hcells_set : ∀ (l : List (List UInt8)), H32 l → ∀ (k : Nat) (x : List UInt8), k < l.length → (hcells l).take (k * 32) ++ x.map B ++ (hcells l).drop (k * 32 + 32) = hcells (l.set k x) := by
  intro l h k x hk
  rw [hcells_take l h k (by omega), show k * 32 + 32 = (k + 1) * 32 by omega, hcells_drop l h (k + 1) (by omega), List.set_eq_take_append_cons_drop, if_pos hk, hcells_append]
  simp [hcells]
theorem H32.set {l : List (List UInt8)} (h : H32 l) (k : Nat) {x : List UInt8} (hx : x.length = 32) : H32 (l.set k x) := fun y hy => by
  rcases List.mem_or_eq_of_mem_set hy with h1 | rfl
  · exact h y h1
  · exact hx
theorem Hs.get {w : World} {X : Nat → Prop} {A : Option Addr} {n c : Nat} {hs : List (List UInt8)} (h : Hs w X A n c hs) {b o : Nat} (hA : A = some ⟨b, o, none⟩) (i : Nat) (hi : i < n) :
    (Instr.loadAt 25 (.pointer (some ⟨b, o + i * 32, none⟩))).run Try.prog w = .ok (.agg ((hs.getD i []).map B).toArray) w := by
  obtain ⟨b', o', hA', -, -, hat⟩ := h.at_ (by omega)
  rw [hA] at hA'
  cases hA'
  exact hat i hi
end Go.Proofs.Ytonidnfgneokbaa
