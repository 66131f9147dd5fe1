/- hash.Top. -/
import Derived.Test.YtgcbdnoniikboaaQb114
namespace Go.Proofs.Ytgcbdnoniikboaa
open Go Go.RowKit Go.Shelf
attribute [local go_sem] Oper.semAt_some

/-- a power of two -/
def pow2 (n : Nat) : Bool := n != 0 && n &&& (n - 1) == 0
/-- the topmost of rows' first hash -/
def lastHead (rows : List (List (List UInt8))) : List UInt8 := (rows.getLast?.getD []).getD 0 (List.replicate 32 0)
def topL (hs : List (List UInt8)) : List UInt8 := lastHead (rowsL hs)
def topR (hs : List (List UInt8)) : List UInt8 × Int := if pow2 hs.length then (topL hs, 0) else (List.replicate 32 0, 2)
theorem lastHead_nil : lastHead [] = List.replicate 32 0 := rfl
theorem lastHead_snoc (pre : List (List (List UInt8))) (l : List (List UInt8)) : lastHead (pre ++ [l]) = l.getD 0 (List.replicate 32 0) := by simp [lastHead]

theorem i64_and_nat (a b : Nat) (ha : a < 9223372036854775808) (hb : b < 9223372036854775808) : bits .and .i64 (a : Int) (b : Int) = ((a &&& b : Nat) : Int) := by
  have h1 : a &&& b < 9223372036854775808 := Nat.lt_of_le_of_lt Nat.and_le_left ha
  show IntKind.i64.wrap ((BitVec.ofInt 64 (a : Int) &&& BitVec.ofInt 64 (b : Int)).toNat : Int) = _
  rw [BitVec.toNat_and, ofInt_u64 a (by omega), ofInt_u64 b (by omega), IntKind.wrap_i64]
  omega
theorem wpListIn_store_blk {F : Fence} {n : Nat} {P : Program} {w : World} {ops : Array Oper} {rest : List Oper} {o : Oper} {a : Act} {Q : Exit → Act → World → Prop} (hgd : o.guard = none) (hF : ∀ f, F.fn f) (ty : TypeId) (x y : Operand) (ho : o.op = .store ty x y)
    (N : Nat) (hsz : ∀ w : World, (sizeOf ty).run P w = .ok N w) (g : Nat) (vs : Array Value) (hx : a.eval x = .pointer (some ⟨g, 0, none⟩)) (hy : a.eval y = .agg vs) (hv : vs.size = N) (h1 : ∀ v ∈ vs.toList, v.oneCell' = true)
    (t : TypeId) (cur : Array Value) (hg : Blk w g t cur) (hc : cur.size = N) (h : wpListIn F n P ops Q rest (a.put o.dst undef) (w.setRow g vs)) : wpListIn F n P ops Q (o :: rest) a w :=
  wpListIn_plain hgd fun _ hK => by
    unfold Oper.wpIn
    rw [Oper.semAt_eq _ _ _ (by rw [ho]; intro c hc; cases hc)]
    unfold execOp
    simp only [ho, hx, hy, run_store_blk (P := P) (hsz w) g vs cur hv h1 hg hc, Sem.run_bind, Sem.run_pure, Result.andThen_ok]
    exact ⟨fun f _ => hF f, hK _ _ h⟩

theorem tuple_cell {fn : Func} {p u : Tmp} {ty t : TypeId} {P : Program} (h : fn.results = #[.cell p ty, .tmp u]) (tmps : Array Value) (w : World) (g : Nat) (cs : Array Value) (N : Nat) (el : TypeId)
    (hp : tmps.getD p undef = .pointer (some ⟨g, 0, none⟩)) (hg : Blk w g t cs) (hu : P.underlying ty = some (.array N el)) (hi : (P.info? ty).map (·.size) = some cs.size) :
    (results fn tmps).run P w = .ok (.tuple #[.agg cs, tmps.getD u undef]) w := by
  rw [results_cell_tmp h, hp]
  show ((loadVar ty ⟨g, 0, none⟩).run P w).andThen (fun v w₂ => Result.ok (Value.tuple #[v, tmps.getD u undef]) w₂) = _
  rw [run_loadVar_row w g t ty cs (0, 0) _ hg hu rfl hi]
  rfl

theorem KeepC.setRow {M : Nat → Prop} (W : World) (g : Nat) (cs : Array Value) (hg : M g) : KeepC M W (W.setRow g cs) :=
  ⟨by simp, by simp, by simp, by simp, fun k o hk _ hm => by rw [setRow_other W g k cs (fun e => hm (e ▸ hg))]; exact hk⟩
theorem grownBy_setRow' (W : World) (g : Nat) (cs : Array Value) : W.grownBy (W.setRow g cs) (some g) := grown_setRow ⟨rfl, rfl, rfl, Nat.le_refl _, fun _ _ _ => rfl⟩ cs
theorem rowY_own (B : Nat) (hs : List (List UInt8)) (pre : List RowX) (x : RowX) : OwnFrom B (fun (_ : Unit) W => RowY B hs pre x W) := by
  rintro s W W' row ⟨h1, h2, h3, h4, g, c, cur, h5, h6, h7, h8⟩ hg hr
  exact ⟨h1, h2, h3, h4, g, c, cur, h5, h6, h7.grown hg (fun e => by obtain ⟨-, o, ho, hc⟩ := hr g e.symm; rw [show W.heap[g]? = _ from h7] at ho; cases ho; cases hc), h8⟩
theorem blk_own {β : Type} (B g : Nat) (t : TypeId) (f : β → Array Value) : OwnFrom B (fun (s : β) W => Blk W g t (f s)) := by
  intro s W W' row h hg hr
  exact h.grown hg (fun e => by obtain ⟨-, o, ho, hc⟩ := hr g e.symm; rw [show W.heap[g]? = _ from h] at ho; cases ho; cases hc)
theorem false_own {β : Type} (B : Nat) : OwnFrom B (fun (_ : β) (_ : World) => False) := fun _ _ _ _ h _ _ => h
theorem length_lastHead (rows : List (List (List UInt8))) (h : ∀ l ∈ rows, H32 l) : (lastHead rows).length = 32 := by
  unfold lastHead
  rw [List.getD_eq_getElem?_getD]
  cases e : (rows.getLast?.getD [])[0]? with
  | none => simp
  | some x =>
    obtain ⟨l, hl⟩ : ∃ l, rows.getLast? = some l := by
      cases e2 : rows.getLast? with
      | none => rw [e2] at e; simp at e
      | some l => exact ⟨l, rfl⟩
    rw [hl] at e
    exact h l (List.mem_of_getLast? hl) x (List.mem_of_getElem? e)

end Go.Proofs.Ytgcbdnoniikboaa
