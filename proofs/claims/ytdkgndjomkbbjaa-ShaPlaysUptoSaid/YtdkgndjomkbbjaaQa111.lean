/- Slices of hashes. -/
import Derived.Test.YtdkgndjomkbbjaaQa110
import Derived.Laws.MakeOwn
import Derived.Test.YtdkgndjomkbbjaaQa105
import Derived.Great.BuildSlice
import Derived.Test.YtdkgndjomkbbjaaQa109
namespace Go.Proofs.Ytdkgndjomkbbjaa
open Go.RowKit

/-- hashes, side by side -/
def hcells (hs : List (List UInt8)) : List Value := hs.flatten.map B
def H32 (hs : List (List UInt8)) : Prop := ∀ h ∈ hs, h.length = 32
structure Hs (w : World) (X : Nat → Prop) (A : Option Addr) (n c : Nat) (hs : List (List UInt8)) : Prop where
  sl : SlV w X A n c 32 (hcells hs)
  len : hs.length = n
  all : H32 hs

theorem hcells_nil : hcells [] = [] := rfl
theorem hcells_append (a b : List (List UInt8)) : hcells (a ++ b) = hcells a ++ hcells b := by simp [hcells]
theorem hcells_len : ∀ (hs : List (List UInt8)), H32 hs → (hcells hs).length = hs.length * 32
  | [], _ => rfl
  | h :: hs, ha => by
    have h1 := hcells_len hs (fun x hx => ha x (by simp [hx]))
    have h2 := ha h (by simp)
    simp only [hcells, List.flatten_cons, List.map_append, List.length_append, List.length_map, List.length_cons] at *
    omega
theorem H32.take {hs : List (List UInt8)} (h : H32 hs) (k : Nat) : H32 (hs.take k) := fun x hx => h x (List.mem_of_mem_take hx)
theorem H32.drop {hs : List (List UInt8)} (h : H32 hs) (k : Nat) : H32 (hs.drop k) := fun x hx => h x (List.mem_of_mem_drop hx)
theorem H32.append {a b : List (List UInt8)} (h : H32 a) (k : H32 b) : H32 (a ++ b) := fun x hx => (List.mem_append.1 hx).elim (h x) (k x)
theorem H32.getD {hs : List (List UInt8)} (h : H32 hs) (k : Nat) (hk : k < hs.length) : (hs.getD k []).length = 32 := by
  rw [List.getD_eq_getElem?_getD, List.getElem?_eq_getElem hk]
  exact h _ (List.getElem_mem hk)
theorem hcells_take (hs : List (List UInt8)) (h : H32 hs) (k : Nat) (hk : k ≤ hs.length) : (hcells hs).take (k * 32) = hcells (hs.take k) := by
  have e : hcells hs = hcells (hs.take k) ++ hcells (hs.drop k) := by rw [← hcells_append, List.take_append_drop]
  have hl : (hcells (hs.take k)).length = k * 32 := by rw [hcells_len _ (h.take k), List.length_take, Nat.min_eq_left hk]
  rw [e, List.take_left' hl]
theorem hcells_drop (hs : List (List UInt8)) (h : H32 hs) (k : Nat) (hk : k ≤ hs.length) : (hcells hs).drop (k * 32) = hcells (hs.drop k) := by
  have e : hcells hs = hcells (hs.take k) ++ hcells (hs.drop k) := by rw [← hcells_append, List.take_append_drop]
  have hl : (hcells (hs.take k)).length = k * 32 := by rw [hcells_len _ (h.take k), List.length_take, Nat.min_eq_left hk]
  rw [e, List.drop_left' hl]
theorem hcells_get (hs : List (List UInt8)) (h : H32 hs) (k : Nat) (hk : k < hs.length) (j : Nat) (v : Value) (hv : ((hs.getD k []).map B)[j]? = some v) : (hcells hs)[k * 32 + j]? = some v := by
  have hj : j < 32 := by have := (List.getElem?_eq_some_iff.1 hv).1; rw [List.length_map, h.getD k hk] at this; exact this
  rw [← List.getElem?_drop, hcells_drop hs h k (by omega), List.drop_eq_getElem_cons hk, hcells, List.flatten_cons, List.map_append, List.getElem?_append_left (by rw [List.length_map, h _ (List.getElem_mem hk)]; exact hj)]
  rw [List.getD_eq_getElem?_getD, List.getElem?_eq_getElem hk] at hv
  exact hv

section
variable {w w' : World} {X Y : Nat → Prop} {A : Option Addr} {n c : Nat} {hs : List (List UInt8)}
theorem Hs.weak (h : Hs w X A n c hs) (hX : ∀ b, b < w.heap.size → X b → Y b) : Hs w Y A n c hs := ⟨h.sl.weak hX, h.len, h.all⟩
theorem Hs.step (h : Hs w X A n c hs) (hb : Below w.heap.size w w') : Hs w' X A n c hs := ⟨h.sl.step hb, h.len, h.all⟩
theorem Hs.below {N : Nat} (h : Hs w X A n c hs) (hb : Below N w w') (hX : ∀ b, b < w.heap.size → X b → b < N) : Hs w' X A n c hs := ⟨h.sl.below hb hX, h.len, h.all⟩
theorem Hs.alloc (h : Hs w X A n c hs) (o : Obj) : Hs (w.alloc o) X A n c hs := ⟨h.sl.alloc o, h.len, h.all⟩
theorem Hs.drew (h : Hs w X A n c hs) : Hs w.drew X A n c hs := ⟨h.sl.drew, h.len, h.all⟩
theorem Hs.grown {row : Option Nat} (h : Hs w X A n c hs) (hg : w.grownBy w' row) (hX : ∀ b, b < w.heap.size → X b → some b ≠ row) : Hs w' X A n c hs := ⟨h.sl.grown hg hX, h.len, h.all⟩
theorem Hs.setRow (h : Hs w X A n c hs) (g : Nat) (cs : Array Value) (hX : ¬ X g) : Hs (w.setRow g cs) X A n c hs :=
  ⟨h.sl.keep (by simp) fun p _ hx => World.cell?_of_block (setRow_other w g p.block cs (fun e => hX (e ▸ hx))), h.len, h.all⟩
theorem Hs.drop (h : Hs w X A n c hs) (k : Nat) (hk : k ≤ n) : Hs w X (if c = k then A else A.map (·.add (k * 32))) (n - k) (c - k) (hs.drop k) :=
  ⟨by have := h.sl.drop k hk; rwa [hcells_drop hs h.all k (by rw [h.len]; exact hk)] at this, by rw [List.length_drop, h.len], h.all.drop k⟩
theorem Hs.take (h : Hs w X A n c hs) (k : Nat) (hk : k ≤ n) : Hs w X A k c (hs.take k) :=
  ⟨by have := h.sl.take k hk; rwa [hcells_take hs h.all k (by rw [h.len]; exact hk)] at this, by rw [List.length_take, h.len]; omega, h.all.take k⟩
theorem Hs.empty : Hs w X none 0 0 [] := ⟨SlV.empty, rfl, fun _ h => absurd h (by simp)⟩
/-- where they lie; one is read -/
theorem Hs.at_ (h : Hs w X A n c hs) (hn : 0 < n) : ∃ b o, A = some ⟨b, o, none⟩ ∧ b < w.heap.size ∧ X b ∧ ∀ i, i < n → (Instr.loadAt 26 (.pointer (some ⟨b, o + i * 32, none⟩))).run Try.prog w = .ok (.agg ((hs.getD i []).map B).toArray) w := by
  obtain ⟨b, o, h1, h2, h3, h4⟩ := h.sl.at_ hn (by decide)
  refine ⟨b, o, h1, h2, h3, fun i hi => run_load_agg (agg26 _) (size26 _) b (o + i * 32) _ (by rw [List.length_map, h.all.getD i (by rw [h.len]; exact hi)]) fun j u hu => ?_⟩
  rw [Nat.add_assoc]
  exact h4 _ u (hcells_get hs h.all i (by rw [h.len]; exact hi) j u hu)
end

theorem run_make_hash (w : World) (m : Nat) (hm : m ≤ 4398046511104) :
    (Instr.makeSlice 57 (.int .i64 (m : Int)) (.int .i64 (m : Int))).run Try.prog w = .ok (.slice (some ⟨w.heap.size, 0, none⟩) m m) (w.alloc (.cells ((List.replicate (m * 32) (0 : UInt8)).map B).toArray 26)) := by
  obtain ⟨i, hi⟩ : ∃ i, Try.prog.info? 26 = some i := Option.isSome_iff_exists.1 (by kernel_rfl)
  have hz : i.zero = some (.agg ((List.replicate 32 (0 : UInt8)).map B).toArray) := by
    have : (Try.prog.info? 26).bind (·.zero) = some (.agg ((List.replicate 32 (0 : UInt8)).map B).toArray) := by kernel_rfl
    rw [hi] at this; exact this
  have hs : i.size = 32 := by
    have : (Try.prog.info? 26).map (·.size) = some 32 := by kernel_rfl
    rw [hi] at this; exact Option.some.inj this
  have hby : i.bytes = 32 := by
    have : (Try.prog.info? 26).map (·.bytes) = some 32 := by kernel_rfl
    rw [hi] at this; exact Option.some.inj this
  have := run_make (P := Try.prog) w 57 26 i _ Try.underlying57 hi hz .i64 .i64 m m (by omega) (by omega) (by rw [hby]; omega) (by omega)
  rw [this, hs, Int.toNat_natCast]
  have hm : madeCells (Value.agg ((List.replicate 32 (0 : UInt8)).map B).toArray).cells (m * 32) = ((List.replicate (m * 32) (0 : UInt8)).map B).toArray := by
    apply Array.ext
    · simp [madeCells]
    · intro k h1 h2
      have hz : ∀ q, q < 32 → (((List.replicate 32 (0 : UInt8)).map B).toArray)[q]! = B 0 := fun q hq => by
        rw [getElem!_pos _ _ (by simp only [List.size_toArray, List.length_map, List.length_replicate]; exact hq), List.getElem_toArray, List.getElem_map, List.getElem_replicate]
      simp only [madeCells, Array.getElem_map, Array.getElem_range, List.getElem_toArray, List.getElem_map, List.getElem_replicate]
      exact hz _ (by rw [show (Value.agg ((List.replicate 32 (0 : UInt8)).map B).toArray).cells = ((List.replicate 32 (0 : UInt8)).map B).toArray from rfl]; simp; omega)
  rw [hm]

theorem size57 : ∀ w : World, (sizeOf (Try.prog.elem 57)).run Try.prog w = .ok 32 w := fun _ => by kernel_rfl
theorem sliceT57 : Try.prog.underlying 57 = some (.slice (Try.prog.elem 57)) := by kernel_rfl
theorem info26z : (Try.prog.info? 26).map (fun i => (i.zero, i.size, i.bytes)) = some (some (.agg ((List.replicate 32 (0 : UInt8)).map B).toArray), 32, 32) := by kernel_rfl
end Go.Proofs.Ytdkgndjomkbbjaa
/- Literals of hashes; what is compared. No function of the program. -/
namespace Go.Proofs.Ytdkgndjomkbbjaa
open Go Go.RowKit

theorem lit_cells : ∀ hs : List (List UInt8), ((hs.map fun h => Value.agg (h.map B).toArray).flatMap fun v => v.cells.toList) = hcells hs
  | [] => rfl
  | h :: hs => by
    rw [List.map_cons, List.flatMap_cons, lit_cells hs, hcells, hcells, List.flatten_cons, List.map_append]
    rfl
/-- a literal of hashes -/
theorem run_lit_hash (hs : List (List UInt8)) (h32 : H32 hs) (h0 : 0 < hs.length) (hm : hs.length ≤ 1000) (parts : Array (Nat × Value)) (hp : parts.toList = ((hs.map fun h => Value.agg (h.map B).toArray).zipIdx 0).map fun x => (x.2, x.1)) (n : Nat) (hn : n = hs.length) (W : World) :
    (Instr.buildSlice 57 n parts).run Try.prog W = .ok (.slice (some ⟨W.heap.size, 0, none⟩) n n) (W.alloc (.cells (hcells hs).toArray 26)) := by
  subst hn
  obtain ⟨i, hi⟩ : ∃ i, Try.prog.info? 26 = some i := Option.isSome_iff_exists.1 (by kernel_rfl)
  have hz : i.zero = some (.agg ((List.replicate 32 (0 : UInt8)).map B).toArray) := by
    have : (Try.prog.info? 26).bind (·.zero) = some (.agg ((List.replicate 32 (0 : UInt8)).map B).toArray) := by kernel_rfl
    rw [hi] at this; exact this
  have hs' : i.size = 32 := by
    have : (Try.prog.info? 26).map (·.size) = some 32 := by kernel_rfl
    rw [hi] at this; exact Option.some.inj this
  have hc : ∀ v ∈ (hs.map fun h => Value.agg (h.map B).toArray), v.cells.size = 32 := by
    intro v hv
    obtain ⟨h, hh, rfl⟩ := List.mem_map.1 hv
    simp [Value.cells, h32 h hh]
  have := run_buildSlice (P := Try.prog) W 57 26 hs.length parts (hcells hs).toArray i _ Try.underlying57 hi hz (by rw [hs']; omega) (by rw [hs']; omega) (by
    rw [hp, hs', Great.fill_whole (by decide) _ _ hc (by simp)]
    rw [lit_cells])
  exact this
theorem run_lit_op {ρ : Operand → Value} {o : Oper} (hs : List (List UInt8)) (h32 : H32 hs) (h0 : 0 < hs.length) (hm : hs.length ≤ 1000) (n : Nat) (ps : Array (Nat × Operand)) (ho : o.op = .buildSlice 57 n ps) (hp : (ps.map fun (i, x) => (i, ρ x)).toList = ((hs.map fun h => Value.agg (h.map B).toArray).zipIdx 0).map fun x => (x.2, x.1)) (hn : n = hs.length) (W : World) :
    (execOp ρ o).run Try.prog W = .ok (.value (.slice (some ⟨W.heap.size, 0, none⟩) n n)) (W.alloc (.cells (hcells hs).toArray 26)) := by
  unfold execOp
  simp only [ho, Sem.run_bind, Sem.run_pure, run_lit_hash hs h32 h0 hm _ hp n hn W, Result.andThen_ok]
theorem run_eqstr_op {ρ : Operand → Value} {o : Oper} (x y : Operand) (ty : TypeId) (l m : List UInt8) (ho : o.op = .binOp .eql 9 x y ty) (hx : ρ x = .string (bstr l)) (hy : ρ y = .string (bstr m)) (W : World) :
    (execOp ρ o).run Try.prog W = .ok (.value (.bool (l == m))) W := by
  unfold execOp
  simp only [ho, hx, hy, eqGuard_at_string, Sem.run_bind, Sem.run_pure, run_eql_str, Result.andThen_ok]
theorem run_eqstr_t {ρ : Operand → Value} {o : Oper} (x y : Operand) (ty : TypeId) (l m : List UInt8) (ho : o.op = .binOp .eql 9 x y ty) (hx : ρ x = .string (bstr l)) (hy : ρ y = .string (bstr m)) (h : l = m) (W : World) :
    (execOp ρ o).run Try.prog W = .ok (.value (.bool true)) W := by
  rw [run_eqstr_op x y ty l m ho hx hy W, h, BEq.rfl]
theorem run_eql26_t {ρ : Operand → Value} {o : Oper} (x y : Operand) (ty : TypeId) (xs ys : List UInt8) (ho : o.op = .binOp .eql 26 x y ty) (hx : ρ x = .agg (xs.map B).toArray) (hy : ρ y = .agg (ys.map B).toArray) (lx : xs.length = 32) (ly : ys.length = 32) (h : xs = ys) (W : World) :
    (execOp ρ o).run Try.prog W = .ok (.value (.bool true)) W := by
  rw [run_eql26 x y ty xs ys ho hx hy lx ly W, h, BEq.rfl]
theorem run_neq26_t {ρ : Operand → Value} {o : Oper} (x y : Operand) (ty : TypeId) (xs ys : List UInt8) (ho : o.op = .binOp .neq 26 x y ty) (hx : ρ x = .agg (xs.map B).toArray) (hy : ρ y = .agg (ys.map B).toArray) (lx : xs.length = 32) (ly : ys.length = 32) (h : xs ≠ ys) (W : World) :
    (execOp ρ o).run Try.prog W = .ok (.value (.bool true)) W := by
  rw [run_neq26 x y ty xs ys ho hx hy lx ly W, show (xs != ys) = true by simpa using h]
theorem run_neq26_f {ρ : Operand → Value} {o : Oper} (x y : Operand) (ty : TypeId) (xs ys : List UInt8) (ho : o.op = .binOp .neq 26 x y ty) (hx : ρ x = .agg (xs.map B).toArray) (hy : ρ y = .agg (ys.map B).toArray) (lx : xs.length = 32) (ly : ys.length = 32) (h : xs = ys) (W : World) :
    (execOp ρ o).run Try.prog W = .ok (.value (.bool false)) W := by
  rw [run_neq26 x y ty xs ys ho hx hy lx ly W, show (xs != ys) = false by simpa using h]
theorem Hs.lit (W : World) (hs : List (List UInt8)) (h32 : H32 hs) (hm : hs.length ≤ 1000) (n : Nat) (hn : n = hs.length) : Hs (W.alloc (.cells (hcells hs).toArray 26)) (fun _ => True) (some ⟨W.heap.size, 0, none⟩) n n hs :=
  ⟨SlV.lit W _ _ _ (by rw [hcells_len _ h32, hn]) (by unfold maxLen; omega) trivial, hn.symm, h32⟩
end Go.Proofs.Ytdkgndjomkbbjaa
/- notarylaw03.told: what a sum under way tells of itself is the document's. -/
namespace Go.Proofs.Ytdkgndjomkbbjaa
open Go.RowKit

theorem neq_strS (l m : List UInt8) (W : World) : (binOp .neq 9 (.string (bstr l)) (.string (bstr m))).run Try.prog W = .ok (.bool (l != m)) W := by
  have : ∀ l : List UInt8, (bstr l).toList = l := fun l => by rw [ByteArray.toList_eq]; rfl
  rw [binOp_string_neq, Sem.run_pure, this, this]; rfl
theorem strS_op {ρ : Operand → Value} {o : Oper} {W : World} {X : Nat → Prop} {A : Option Addr} {n c : Nat} {l : List UInt8} (x : Operand) (ho : o.op = .convert 23 9 x) (hx : ρ x = .slice A n c) (h : Sl W X A n c l) :
    (execOp ρ o).run Try.prog W = .ok (.value (.string (bstr l))) W := by
  unfold execOp
  simp only [ho, hx]
  rw [Sem.run_bind, run_str h]
  rfl
theorem neqS_op {ρ : Operand → Value} {o : Oper} (x y : Operand) (ty : TypeId) (l m : List UInt8) (ho : o.op = .binOp .neq 9 x y ty) (hx : ρ x = .string (bstr l)) (hy : ρ y = .string (bstr m)) (h : l = m) (W : World) :
    (execOp ρ o).run Try.prog W = .ok (.value (.bool false)) W := by
  subst h
  unfold execOp
  simp only [ho, hx, hy, eqGuard_at_string, Sem.run_bind, Sem.run_pure, neq_strS, Result.andThen_ok, bne_self_eq_false]
theorem eqlS_op {ρ : Operand → Value} {o : Oper} (x y : Operand) (ty : TypeId) (l m : List UInt8) (ho : o.op = .binOp .eql 9 x y ty) (hx : ρ x = .string (bstr l)) (hy : ρ y = .string (bstr m)) (h : l = m) (W : World) :
    (execOp ρ o).run Try.prog W = .ok (.value (.bool true)) W := by
  subst h
  unfold execOp
  simp only [ho, hx, hy, eqGuard_at_string, Sem.run_bind, Sem.run_pure, run_eql_str, Result.andThen_ok, beq_self_eq_true]
theorem len2_any {w : World} {g : Nat} {u : Und} (h : Sh w g u) :
    Calls Try.prog 27 #[.pointer (some ⟨g, 0, none⟩)] w fun e w' => e = .returned (.int .i64 (u.len : Int)) ∧ w' = w := (len_any h.choose_spec).mono fun _ _ h => ⟨h.1, h.2.symm⟩
set_option maxHeartbeats 4000000 in
set_option maxRecDepth 100000 in
theorem told_any (g : Nat) (u : Und) (A : Option Addr) (n c : Nat) (w : World) (h : Sh w g u) (hl : u.len ≤ 1152921504606846976) (hr : Sl w (fun _ => True) A n c u.rest) :
    Calls Try.prog 50 #[.pointer (some ⟨g, 0, none⟩), undV u (.slice A n c)] w fun e w' => e = .returned (.bool true) ∧ Below w.heap.size w w' := by
  have hok : u.ok := h.choose_spec.ok
  have hn64 : n < 64 := by have := hr.len; unfold Und.ok at hok; omega
  have hub : u.bytes.length = 40 + n := by rw [← hr.len]; simp [Und.bytes, S8.length_bytes, length_num8]; omega
  have hgl : g < w.heap.size := h.choose_spec.blk.lt
  obtain ⟨cs, hcs⟩ : ∃ cs, (undCells u.st.list u.len (.slice A n c)).toArray = cs := ⟨_, rfl⟩
  have hc8 : cs[8]? = some (.int .i64 (u.len : Int)) := by rw [← hcs, List.getElem?_toArray]; exact undCells_8 rfl
  have hc10 : cs.size = 10 := by rw [← hcs]; exact undCells_len _ _ rfl
  have hb := rbytes_any u A n c
  have he := rend_any u A n c
  unfold undV at hb he ⊢
  rw [hcs] at hb he ⊢
  obtain ⟨ub, hub'⟩ : ∃ x, u.bytes = x := ⟨_, rfl⟩
  obtain ⟨us, hus⟩ : ∃ x, u.sum = x := ⟨_, rfl⟩
  have hul : us.length = 32 := by rw [← hus]; exact Und.length_sum u
  have hbs := fun W (h : Sh W g u) => bytes_any g u W h
  have hsm := fun W (h : Sh W g u) => sum_any g u W h hl
  rw [hub'] at hb hub
  rw [hus] at he
  simp only [hub'] at hbs
  simp only [hus] at hsm
  have Hcs := Lib.hid hcs
  have Hh := Lib.hid h
  have Hc8 := Lib.hid hc8
  have Hc10 := Lib.hid hc10
  have Hb := Lib.hid hb
  have He := Lib.hid he
  have Hbs := Lib.hid hbs
  have Hsm := Lib.hid hsm
  have Hub := Lib.hid hub
  have Hul := Lib.hid hul
  clear hcs hc8 hc10 hb he hbs hsm hub' hus hub hul
  go_enter Try.func50, Try.ntmps50
  go_wp2_with fail
  obtain ⟨w1, hw1⟩ : ∃ x, w.alloc (.cells cs 77) = x := ⟨_, rfl⟩
  have k1 : Blk w1 w.heap.size 77 cs := by rw [← hw1]; exact Blk.new _ _ _
  have B1 : Below w.heap.size w w1 := by rw [← hw1]; exact (Below.refl _ _).alloc (Nat.le_refl _) _
  rw [hw1]
  clear hw1
  refine (Hbs.out w1 ((h.below B1 hgl))).mono ?_
  rintro e w2 ⟨v1, rfl, hF1⟩
  have B2 : Below w.heap.size w w2 := B1.trans (hF1.2.mono B1.size)
  go_wp2_with fail
  refine (Hbs.out w2 ((h.below B2 hgl))).mono ?_
  rintro e w3 ⟨v2, rfl, hF2⟩
  have B3 : Below w.heap.size w w3 := B2.trans (hF2.2.mono B2.size)
  have k3 : Blk w3 w.heap.size 77 cs := (k1.below hF1.2 k1.lt).below hF2.2 (Nat.lt_of_lt_of_le k1.lt hF1.2.size)
  go_wp2_with (first
    | ((with_reducible show wpList _ _ _ (⟨some 14, .load _ _, _, _, _, _⟩ :: _) _ _); refine wpList_load rfl 77 (.tmp 3) rfl w.heap.size 0 rfl cs (run_load_blk (agg77 _) (size77 _) _ _ Hc10.out k3) ?_; simp only [Act.put]))
  refine (Hb.out w3 (hr.below B3 fun b hb _ => hb) (by omega) (by omega)).mono ?_
  rintro e w4 ⟨v3, rfl, hF3⟩
  have B4 : Below w.heap.size w w4 := B3.trans (hF3.2.mono B3.size)
  have k4 := k3.below hF3.2 k3.lt
  obtain ⟨A1, c1, rfl, hs1⟩ := hF1.sl
  obtain ⟨A2, c2, rfl, hs2⟩ := hF2.sl
  obtain ⟨A3, c3, rfl, hs3⟩ := hF3.sl
  have hm1 := hs1.max
  have hr1 := hs1.room
  have hm2 := hs2.max
  have hr2 := hs2.room
  have hm3 := hs3.max
  have hr3 := hs3.room
  unfold maxLen at hm1 hm2 hm3
  rw [Hub.out] at hr1 hr2 hr3
  have o2 : OwnAny w2 w1.heap.size (.slice A1 (40 + n) c1) (40 + n) := ⟨_, by have := hF1.1; rw [Hub.out] at this; exact this⟩
  have o4 := (o2.step hF2.2).step hF3.2
  have hw12 := hF1.2.size
  have hw23 := hF2.2.size
  have hw34 := hF3.2.size
  have hA1 : ∀ k, (Value.slice A1 (40 + n) c1).ownBlock = some k → w1.heap.size ≤ k ∧ k < w2.heap.size := fun k hk => by
    have h1 := hF1.1.lt k (by rw [Hub.out]; exact hk)
    exact h1
  have s14 := (hs1.step hF2.2).step hF3.2
  have s24 : Sl w4 (fun b => some b ≠ (Value.slice A1 (40 + n) c1).ownBlock) A2 ub.length c2 ub := (hs2.step hF3.2).weak fun b _ hb e => by
    have := (hA1 b e.symm).2; omega
  have s34 : Sl w4 (fun b => some b ≠ (Value.slice A1 (40 + n) c1).ownBlock) A3 ub.length c3 ub := hs3.weak fun b _ hb e => by
    have := (hA1 b e.symm).2; omega
  rw [Hub.out] at s14 s24 s34
  have h4 := h.below B4 hgl
  have hr4 := hr.below B4 fun b hb _ => hb
  have hz1 := B1.size
  have hS : Below w4.heap.size w4 w4.drew := (Below.refl _ _).drew
  have c8 : ∀ s : InC (fun W => Below w4.heap.size w4 W), s.W.cell? ⟨w.heap.size, 8, none⟩ = some (.int .i64 (u.len : Int)) := fun s => by rw [(k4.below s.ok k4.lt).cell]; exact Hc8.out
  have ld : ∀ s : InC (fun W => Below w4.heap.size w4 W), (Instr.loadAt 77 (.pointer (some ⟨w.heap.size, 0, none⟩))).run Try.prog s.W = .ok (.agg cs) s.W := fun s => run_load_blk (agg77 _) (size77 _) _ _ Hc10.out (k4.below s.ok k4.lt)
  have hxx : ((u.len : Int) != (u.len : Int)) = false := by simp
  rw [Hub.out]
  clear hs1 hs2 hs3 hF1 hF2 hF3 k1 k3 B2 B3 B1 h hr o2
  go_wp2_with fail
  refine wp_region_mix (fun W => Below w4.heap.size w4 W) [(0, true), (1, true), (2, true), (3, true), (4, true), (5, true), (6, true), (8, true), (9, true), (7, false), (10, true), (11, true), (12, true), (13, true), (15, true), (14, false), (16, false), (17, true), (18, true), (19, true), (20, true), (22, true), (21, false), (23, false), (24, true), (25, true)] (by kernel_rfl) (by kernel_rfl) hS fun _ => ?_
  simp only [List.map_cons, List.map_nil, Array.getD_eq_getD_getElem?, List.getElem?_toArray, List.getElem?_cons_succ, List.getElem?_cons_zero, Option.getD_some]
  generalize w4.drew = W0 at hS ⊢
  refine wpMix_s (fun K hK => ?_)
  go_simp
  refine hK _ ?_
  clear hK K
  refine wpMix_v (by kernel_rfl) (.string (bstr ub)) (fun s => strS_op (.tmp 16) rfl rfl (s14.step s.ok)) ?_
  simp only [Act.put]
  refine wpMix_s (fun K hK => ?_)
  go_simp
  refine hK _ ?_
  clear hK K
  refine wpMix_v (by kernel_rfl) (.string (bstr ub)) (fun s => strS_op (.tmp 18) rfl rfl (s34.step s.ok)) ?_
  simp only [Act.put]
  refine wpMix_v (by kernel_rfl) (.bool false) (fun s => neqS_op (.tmp 17) (.tmp 19) _ ub ub rfl rfl rfl rfl s.W) ?_
  simp only [Act.put]
  refine wpMix_s (fun K hK => ?_)
  go_simp
  refine hK _ ?_
  clear hK K
  refine wpMix_s (fun K hK => ?_)
  go_simp
  refine hK _ ?_
  clear hK K
  refine wpMix_s (fun K hK => ?_)
  go_simp
  refine hK _ ?_
  clear hK K
  refine wpMix_s (fun K hK => ?_)
  go_simp
  refine hK _ ?_
  clear hK K
  refine wpMix_c (fun K hK => ?_) hS
  go_simp
  refine (len2_any (h4.below hS (Nat.lt_of_lt_of_le hgl B4.size))).mono ?_
  rintro e W0e ⟨rfl, hww⟩
  obtain rfl := hww.symm
  refine hK _ _ ?_
  clear hK K
  refine ⟨hS, ?_⟩
  refine wpMix_s (fun K hK => ?_)
  go_simp
  refine hK _ ?_
  clear hK K
  refine wpMix_s (fun K hK => ?_)
  go_simp
  refine hK _ ?_
  clear hK K
  refine wpMix_s (fun K hK => ?_)
  go_simp
  refine hK _ ?_
  clear hK K
  refine wpMix_s (fun K hK => ?_)
  go_simp
  refine hK _ ?_
  clear hK K
  refine wpMix_load (by kernel_rfl) 77 (.tmp 3) rfl (w.heap.size) (0) rfl cs (ld) ?_
  simp only [Act.put]
  refine wpMix_c (fun K hK => ?_) hS
  go_simp
  refine (Hsm.out W0 (h4.below hS (Nat.lt_of_lt_of_le hgl B4.size))).mono ?_
  rintro e W0_1 ⟨rfl, hb'⟩
  refine hK _ _ ?_
  clear hK K
  replace hS := hS.trans (hb'.mono hS.size)
  refine ⟨hS, ?_⟩
  clear hb'
  refine wpMix_c (fun K hK => ?_) hS
  go_simp
  refine (He.out W0_1 (hr4.step hS) hok hl).mono ?_
  rintro e W0_2 ⟨rfl, hb'⟩
  refine hK _ _ ?_
  clear hK K
  replace hS := hS.trans (hb'.mono hS.size)
  refine ⟨hS, ?_⟩
  clear hb'
  refine wpMix_v (by kernel_rfl) (.bool false) (fun s => run_neq26_f (.tmp 30) (.tmp 32) _ us us rfl rfl rfl Hul.out Hul.out rfl s.W) ?_
  simp only [Act.put]
  refine wpMix_s (fun K hK => ?_)
  go_simp
  refine hK _ ?_
  clear hK K
  refine wpMix_s (fun K hK => ?_)
  go_simp
  refine hK _ ?_
  clear hK K
  refine wpMix_s (fun K hK => ?_)
  go_simp
  refine hK _ ?_
  clear hK K
  refine wpMix_load (by kernel_rfl) 77 (.tmp 3) rfl (w.heap.size) (0) rfl cs (ld) ?_
  simp only [Act.put]
  refine wpMix_c (fun K hK => ?_) hS
  go_simp
  refine (Hsm.out W0_2 (h4.below hS (Nat.lt_of_lt_of_le hgl B4.size))).mono ?_
  rintro e W0_3 ⟨rfl, hb'⟩
  refine hK _ _ ?_
  clear hK K
  replace hS := hS.trans (hb'.mono hS.size)
  refine ⟨hS, ?_⟩
  clear hb'
  refine wpMix_c (fun K hK => ?_) hS
  go_simp
  refine (He.out W0_3 (hr4.step hS) hok hl).mono ?_
  rintro e W0_4 ⟨rfl, hb'⟩
  refine hK _ _ ?_
  clear hK K
  replace hS := hS.trans (hb'.mono hS.size)
  refine ⟨hS, ?_⟩
  clear hb'
  refine wpMix_v (by kernel_rfl) (.bool false) (fun s => run_neq26_f (.tmp 37) (.tmp 39) _ us us rfl rfl rfl Hul.out Hul.out rfl s.W) ?_
  simp only [Act.put]
  refine wpMix_s (fun K hK => ?_)
  go_simp
  refine hK _ ?_
  clear hK K
  refine wpMix_nil ?_
  intro _
  have B5 : Below w.heap.size w W0_4 := B4.trans (hS.mono B4.size)
  replace h4 := h4.below hS (Nat.lt_of_lt_of_le hgl B4.size)
  replace s24 := s24.step hS
  replace s34 := s34.step hS
  replace o4 := o4.step hS
  have hz5 := hS.size
  have hz4 := B4.size
  obtain ⟨w5, hw5⟩ : ∃ x, W0_4 = x := ⟨_, rfl⟩
  rw [hw5] at B5 h4 s24 s34 o4 hz5 ⊢
  clear hw5 hS c8 ld k4 hr4 s14 B4 hxx
  go_wp2_with fail
  go_loopw [8] (fun i wr => ∃ k : Nat, k ≤ 40 + n ∧ i = .int .i64 k ∧ w5.grownBy wr (Value.slice A1 (40 + n) c1).ownBlock ∧ OwnAny wr w1.heap.size (.slice A1 (40 + n) c1) (40 + n)) (fun i _ => 40 + n - (intOf i).toNat)
  case atStart => exact ⟨0, Nat.zero_le _, rfl, World.grownBy.refl _ _, o4⟩
  case round =>
    clear o4
    obtain ⟨k, hk, rfl, hgr, o1⟩ := hrel
    by_cases hlt : k < 40 + n
    · have hd : decide ((k : Int) < (40 : Int) + (n : Int)) = true := by simp; omega
      obtain ⟨gb, cb, e, hbg, hgl2, -, -, hcell⟩ := o1.at_ (by omega)
      cases e
      obtain ⟨⟨u0, hu⟩, hf⟩ := hcell k hlt
      clear hcell
      go_wp2_with fail
      go_roundw
      case rel => exact ⟨k + 1, by omega, by go_num, grown_setCell hgr k _, o1.setCell _ _ _⟩
      case measure => simp [intOf]; omega
    · have hd : decide ((k : Int) < (40 : Int) + (n : Int)) = false := by simp; omega
      go_wp2_with fail
      clear hd hk hlt
      go_loopw [5, 9] (fun vb j wr => ∃ m : Nat, m ≤ 30 ∧ j = .int .i64 m ∧ w5.grownBy wr (Value.slice A1 (40 + n) c1).ownBlock ∧ OwnAny wr w1.heap.size vb (40 + n + m) ∧ (vb.ownBlock = (Value.slice A1 (40 + n) c1).ownBlock ∨ ∃ k, vb.ownBlock = some k ∧ w5.heap.size ≤ k)) (fun _ j _ => 30 - (intOf j).toNat)
      case atStart => exact ⟨0, by omega, rfl, hgr, o1, .inl rfl⟩
      case round =>
        clear o1 hgr
        obtain ⟨m, hm, rfl, hgr, o1, hvb⟩ := hrel
        by_cases hlt : m < 30
        · have hd : decide ((m : Int) < 30) = true := by simp; omega
          obtain ⟨v', W', hr', ho', hg', hv'⟩ := o1.app hgr hvb 99 (by omega) (by have := hgr.size; omega)
          have Hr' := Lib.hid hr'
          clear hr'
          go_wp2_with (first
            | ((with_reducible show wpList _ _ _ (⟨some 56, .buildSlice _ _ _, _, _, _, _⟩ :: _) _ _); refine wpList_run rfl (.slice (some ⟨wr.heap.size, 0, none⟩) 1 1) (wr.alloc (.cells #[B 99] 5)) (by kernel_rfl) ?_; simp only [Act.put])
            | ((with_reducible show wpList _ _ _ (⟨some 57, .call _, _, _, _, _⟩ :: _) _ _); refine wpList_run rfl v' W' (run_append_op (.tmp 55) (.tmp 56) 23 rfl _ _ rfl rfl Hr'.out) ?_; simp only [Act.put]))
          go_roundw
          case rel => exact ⟨m + 1, by omega, by go_num, hg', by rw [← Nat.add_assoc]; exact ho', hv'⟩
          case measure => simp [intOf]; omega
        · have hd : decide ((m : Int) < 30) = false := by simp; omega
          have s26 := s24.grown hgr fun b _ hb => hb
          have s36 := s34.grown hgr fun b _ hb => hb
          have B6 : Below w.heap.size w wr := B5.grown hgr B5.size fun k hk => by have := (hA1 k hk).1; omega
          have h6 : Sh wr g u := (Hh.out).below B6 hgl
          have hS : Below wr.heap.size wr wr.drew := (Below.refl _ _).drew
          clear o1 hvb hgr s24 s34 hlt
          go_wp2_with fail
          refine wp_region_mix (fun W => Below wr.heap.size wr W) [(0, true), (1, true), (2, true), (3, true), (4, true), (5, true), (6, true), (9, true), (10, true), (7, false), (8, false), (11, true), (12, true), (13, true)] (by kernel_rfl) (by kernel_rfl) hS fun _ => ?_
          simp only [List.map_cons, List.map_nil, Array.getD_eq_getD_getElem?, List.getElem?_toArray, List.getElem?_cons_succ, List.getElem?_cons_zero, Option.getD_some]
          generalize wr.drew = u0 at hS ⊢
          refine wpMix_s (fun K hK => ?_)
          go_simp
          refine hK _ ?_
          clear hK K
          refine wpMix_v (by kernel_rfl) (.string (bstr ub)) (fun s => strS_op (.tmp 58) rfl rfl (s26.step s.ok)) ?_
          simp only [Act.put]
          refine wpMix_s (fun K hK => ?_)
          go_simp
          refine hK _ ?_
          clear hK K
          refine wpMix_v (by kernel_rfl) (.string (bstr ub)) (fun s => strS_op (.tmp 60) rfl rfl (s36.step s.ok)) ?_
          simp only [Act.put]
          refine wpMix_v (by kernel_rfl) (.bool true) (fun s => eqlS_op (.tmp 59) (.tmp 61) _ ub ub rfl rfl rfl rfl s.W) ?_
          simp only [Act.put]
          refine wpMix_s (fun K hK => ?_)
          go_simp
          refine hK _ ?_
          clear hK K
          refine wpMix_s (fun K hK => ?_)
          go_simp
          refine hK _ ?_
          clear hK K
          refine wpMix_s (fun K hK => ?_)
          go_simp
          refine hK _ ?_
          clear hK K
          refine wpMix_v (by kernel_rfl) (.string (bstr ub)) (fun s => strS_op (.tmp 67) rfl rfl (s36.step s.ok)) ?_
          simp only [Act.put]
          refine wpMix_c (fun K hK => ?_) hS
          go_simp
          refine (Hbs.out _ (h6.below hS (Nat.lt_of_lt_of_le hgl B6.size))).mono ?_
          rintro e W9 ⟨v9, rfl, hF9⟩
          obtain ⟨A9, c9, rfl, hs9⟩ := hF9.sl
          rw [Hub.out] at hs9 ⊢
          refine hK _ _ ?_
          clear hK K
          replace hS := hS.trans (hF9.2.mono hS.size)
          refine ⟨hS, ?_⟩
          refine wpMix_run (by kernel_rfl) (.string (bstr ub)) W9 (strS_op (.tmp 65) rfl rfl hs9) hS ?_
          simp only [Act.put]
          refine wpMix_v (by kernel_rfl) (.bool true) (fun s => eqlS_op (.tmp 66) (.tmp 68) _ ub ub rfl rfl rfl rfl s.W) ?_
          simp only [Act.put]
          refine wpMix_s (fun K hK => ?_)
          go_simp
          refine hK _ ?_
          clear hK K
          refine wpMix_s (fun K hK => ?_)
          go_simp
          refine hK _ ?_
          clear hK K
          refine wpMix_nil ?_
          intro _
          go_wp2_with fail
          go_ret
          exact ⟨rfl, B6.trans (hS.mono B6.size)⟩
end Go.Proofs.Ytdkgndjomkbbjaa
/- What notaryref03.Of reckons, in plain Lean. -/
namespace Go.Proofs.Ytdkgndjomkbbjaa

/-- the word number t behind i bytes -/
def pw (l : List UInt8) (i t : Nat) : UInt32 := (((l.take i).drop (4 * t)).take 4).foldl (fun a b => a * 256 + b.toUInt32) 0
def stW (l : List UInt8) (i : Nat) : List UInt32 := (List.range 8).map (pw l i)
def nN (l : List UInt8) (i : Nat) : Nat := ((l.take i).drop 32).foldl (fun a b => a * 256 + b.toNat) 0
theorem length_stW (l : List UInt8) (i : Nat) : (stW l i).length = 8 := rfl
theorem stW_zero (l : List UInt8) : stW l 0 = List.replicate 8 0 := by simp [stW, pw, List.range, List.range.loop]
theorem take_succ_getD (l : List UInt8) (i : Nat) (h : i < l.length) : l.take (i + 1) = l.take i ++ [l.getD i 0] := by
  rw [List.take_add_one, List.getElem?_eq_getElem h, List.getD_eq_getElem?_getD, List.getElem?_eq_getElem h]; rfl
theorem pw_same (l : List UInt8) (i : Nat) (h : i < l.length) : pw l (i + 1) (i / 4) = pw l i (i / 4) * 256 + (l.getD i 0).toUInt32 := by
  unfold pw
  have hl : ((l.take i).drop (4 * (i / 4))).length = i % 4 := by rw [List.length_drop, List.length_take]; omega
  rw [take_succ_getD l i h, List.drop_append_of_le_length (by rw [List.length_take]; omega), List.take_append, hl, List.foldl_append]
  rw [List.take_of_length_le (by rw [hl]; omega : _ ≤ 4), show 4 - i % 4 = (3 - i % 4) + 1 by omega, List.take_succ_cons, List.take_nil]
  rfl
theorem pw_other (l : List UInt8) (i t : Nat) (h : i < l.length) (ht : t ≠ i / 4) : pw l (i + 1) t = pw l i t := by
  unfold pw
  rw [take_succ_getD l i h]
  congr 1
  by_cases hlt : t < i / 4
  · rw [List.drop_append_of_le_length (by rw [List.length_take]; omega), List.take_append_of_le_length (by rw [List.length_drop, List.length_take]; omega)]
  · rw [List.drop_eq_nil_of_le (by rw [List.length_append, List.length_take]; simp; omega), List.drop_eq_nil_of_le (by rw [List.length_take]; omega)]
theorem stW_step (l : List UInt8) (i : Nat) (h : i < l.length) (hi : i < 32) : (stW l i).set (i / 4) ((stW l i).getD (i / 4) 0 * 256 + (l.getD i 0).toUInt32) = stW l (i + 1) := by
  have h8 : i / 4 < 8 := by omega
  have hg : ∀ k (hk : k < 8), (stW l i).getD k 0 = pw l i k := fun k hk => by
    rw [List.getD_eq_getElem?_getD]; simp [stW, hk]
  have e : (stW l i).getD (i / 4) 0 * 256 + (l.getD i 0).toUInt32 = pw l (i + 1) (i / 4) := by rw [hg _ h8]; exact (pw_same l i h).symm
  rw [e]
  apply List.ext_getElem
  · simp [stW]
  · intro t h1 h2
    rw [List.getElem_set]
    by_cases hti : i / 4 = t
    · rw [if_pos hti, hti]; simp [stW]
    · rw [if_neg hti]
      simp only [stW, List.getElem_map, List.getElem_range]
      exact (pw_other l i t h (fun e => hti e.symm)).symm
theorem toNat_step (a : UInt32) (b : UInt8) : (a * 256 + b.toUInt32).toNat = (a.toNat * 256 + b.toNat) % 4294967296 := by
  rw [UInt32.toNat_add, UInt32.toNat_mul, UInt8.toNat_toUInt32, show (256 : UInt32).toNat = 256 by decide]
  omega
theorem take4 (l : List UInt8) (k : Nat) (h : k + 4 ≤ l.length) : (l.drop k).take 4 = [l.getD k 0, l.getD (k + 1) 0, l.getD (k + 2) 0, l.getD (k + 3) 0] := by
  apply List.ext_getElem
  · simp; omega
  · intro j h1 h2
    simp at h2
    rw [List.getElem_take, List.getElem_drop]
    have : ∀ m (hm : m < l.length), l.getD m 0 = l[m] := fun m hm => by rw [List.getD_eq_getElem?_getD, List.getElem?_eq_getElem hm]; rfl
    rw [this k (by omega), this (k + 1) (by omega), this (k + 2) (by omega), this (k + 3) (by omega)]
    match j, h2 with
    | 0, _ => rfl
    | 1, _ => rfl
    | 2, _ => rfl
    | 3, _ => rfl
theorem stW_end (l : List UInt8) (h : 32 ≤ l.length) : stW l 32 = firstW l 8 := by
  unfold stW firstW
  apply List.map_congr_left
  intro t ht
  have ht8 : t < 8 := List.mem_range.1 ht
  unfold pw wordAt be4
  rw [List.drop_take, List.take_take, show min 4 (32 - 4 * t) = 4 by omega, take4 l (4 * t) (by omega)]
  apply UInt32.toNat.inj
  simp only [List.foldl_cons, List.foldl_nil]
  rw [toNat_step, toNat_step, toNat_step, toNat_step, UInt32.toNat_ofNat']
  have h0 : ∀ x : UInt8, x.toNat < 256 := fun x => x.toNat_lt
  have := h0 (l.getD (4 * t) 0); have := h0 (l.getD (4 * t + 1) 0); have := h0 (l.getD (4 * t + 2) 0); have := h0 (l.getD (4 * t + 3) 0)
  simp
  omega
theorem nN_start (l : List UInt8) : nN l 32 = 0 := by unfold nN; rw [List.drop_eq_nil_of_le (by rw [List.length_take]; omega)]; rfl
theorem nN_step (l : List UInt8) (i : Nat) (h : i < l.length) (hi : 32 ≤ i) : nN l (i + 1) = nN l i * 256 + (l.getD i 0).toNat := by
  unfold nN
  rw [take_succ_getD l i h, List.drop_append_of_le_length (by rw [List.length_take]; omega), List.foldl_append]
  rfl
theorem nN_end (l : List UInt8) (h : 40 ≤ l.length) : nN l 40 = num10 l := by
  have h32 := nN_start l
  have s := fun i (hi : 32 ≤ i) (hj : i < 40) => nN_step l i (by omega) hi
  rw [s 39 (by omega) (by omega), s 38 (by omega) (by omega), s 37 (by omega) (by omega), s 36 (by omega) (by omega), s 35 (by omega) (by omega), s 34 (by omega) (by omega), s 33 (by omega) (by omega), s 32 (by omega) (by omega), h32]
  unfold num10 wordAt
  rw [be4_toNat, be4_toNat]
  simp only [Nat.reduceMul, Nat.reduceAdd]
  omega
theorem nN_bound (l : List UInt8) (i : Nat) (h : 32 ≤ i) (hi : i ≤ 40) : nN l i < 256 ^ (i - 32) := by
  have key : ∀ (m : List UInt8) (a : Nat), m.foldl (fun a b => a * 256 + b.toNat) a < (a + 1) * 256 ^ m.length := by
    intro m
    induction m with
    | nil => intro a; show a < (a + 1) * 1; omega
    | cons x m ih =>
      intro a
      have hx := x.toNat_lt
      refine Nat.lt_of_lt_of_le (ih (a * 256 + x.toNat)) ?_
      rw [List.length_cons, Nat.pow_succ, Nat.mul_comm (256 ^ m.length), ← Nat.mul_assoc]
      exact Nat.mul_le_mul_right _ (by omega)
  refine Nat.lt_of_lt_of_le (key _ 0) ?_
  rw [Nat.zero_add, Nat.one_mul]
  refine Nat.pow_le_pow_right (by decide) ?_
  rw [List.length_drop, List.length_take]; omega
end Go.Proofs.Ytdkgndjomkbbjaa
