/- hash.Rows' function. -/
import Derived.Test.YtgcbdnoniikboaaQb113
namespace Go.Proofs.Ytgcbdnoniikboaa
open Go Go.RowKit Go.Shelf
attribute [local go_sem] Oper.semAt_some

theorem wpListIn_run {F : Fence} {n : Nat} {P : Program} {w : World} {ops : Array Oper} {rest : List Oper} {o : Oper} {a : Act} {Q : Exit → Act → World → Prop} (hgd : o.guard = none) (hd : ∀ c, o.op ≠ .defer c) (hF : ∀ f, F.fn f) (v : Value) (w' : World)
    (hrun : (execOp a.eval o).run P w = .ok (.value v) w') (h : wpListIn F n P ops Q rest (a.put o.dst v) w') : wpListIn F n P ops Q (o :: rest) a w :=
  wpListIn_plain hgd fun _ hK => by
    unfold Oper.wpIn
    rw [Oper.semAt_eq _ _ _ hd, hrun]
    exact ⟨fun f _ => hF f, hK _ _ h⟩
section
variable {F : Fence} {n : Nat} {P : Program} {b : Frame} {a : Act} {k : List Item} {cs : List Frame} {w : World} {Q : Exit → Act → World → Prop}
theorem stepR_scope {c : Code} : step P (lone (b.atR a (.code (.scope c) :: k)) cs w) = .next (lone (b.atR a (.code c :: .inScope c :: k)) cs w) :=
  step_lone_go (by simp [stepG, stepG.exec, Frame.atR])
theorem stepR_inScope {c : Code} : step P (lone (b.atR a (.inScope c :: k)) cs w) = .next (lone (b.atR a k) cs w) :=
  step_lone_go (by simp [stepG, stepG.exec, Frame.atR])
theorem wpIn_scope_straight {c : Code} (h : c.wpIn F n P (Exit.noGoto Q) a w) : (Code.scope c).wpIn F n P Q a w := by
  intro b k cs hro hb hr
  have h0 : (lone (b.atR a (.code (.scope c) :: k)) cs w).fenced P F := fenced_calm hb hr rfl
  obtain ⟨e, a₁, w₁, hq, harr⟩ := h b (.inScope c :: k) cs hro hb hr
  cases e with
  | normal => exact ⟨.normal, a₁, w₁, hq, .head h0 stepR_scope (StepsIn.trans harr (.one (fenced_calm hb hr rfl) stepR_inScope))⟩
  | exit id =>
    have hx : exitTo id (.inScope c :: k) = exitTo id k := by simp [exitTo]
    exact ⟨.exit id, a₁, w₁, hq, fun k' hk => .head h0 stepR_scope (harr.1 k' (by rw [hx]; exact hk)),
      fun hr' hk => let ⟨k₁, h1, h2⟩ := harr.2 hr' (by rw [hx]; exact hk); ⟨k₁, h1, .head h0 stepR_scope h2⟩⟩
  | goto l => exact hq.elim
  | ret => exact ⟨_, a₁, w₁, hq, fun hr' => let ⟨t, h1⟩ := harr.1 hr'; ⟨t, .head h0 stepR_scope h1⟩, fun hr' => let ⟨k₁, h1⟩ := harr.2 hr'; ⟨k₁, .head h0 stepR_scope h1⟩⟩
  | panic ch => obtain ⟨t, h1⟩ := harr; exact ⟨_, a₁, w₁, hq, t, .head h0 stepR_scope h1⟩
  | outgrown => exact ⟨_, a₁, w₁, hq, harr.imp id (Outgrown.of_steps (StepsIn.steps (.one h0 stepR_scope)))⟩
end
theorem ng_normal {Q : Exit → Act → World → Prop} {a : Act} {w : World} (h : Q .normal a w) : Exit.noGoto Q .normal a w := h
theorem wide_fn : ∀ f, Fence.wide.fn f := fun _ => trivial

/-- what the function tells of a round: its number, the row's slice, the row -/
abbrev RowX := Nat × Value × List (List UInt8)
def rowEnc (x : RowX) : Array Value := #[.int .i64 (x.1 : Int), x.2.1]
def RowY (B : Nat) (hs : List (List UInt8)) (pre : List RowX) (x : RowX) (W : World) : Prop :=
  x.1 = pre.length ∧ (rowsL hs)[pre.length]? = some x.2.2 ∧ H32 x.2.2 ∧ 0 < x.2.2.length ∧ ∃ g c cur, x.2.1 = .slice (some ⟨g, 0, none⟩) x.2.2.length c ∧ B ≤ g ∧ Blk W g 34 cur ∧ x.2.2.length ≤ c ∧ c ≤ maxLen ∧ cur.size = c * 32 ∧ cur.toList.take (x.2.2.length * 32) = hcells x.2.2
/-- what a round may write over: what lay ahead of the loop, the row that it is told -/
def RowM (B : Nat) (x : RowX) (k : Nat) : Prop := k < B ∨ ∃ n c, x.2.1 = .slice (some ⟨k, 0, none⟩) n c

/-- between two rounds: so many rows have come; the next one lies here -/
structure R1C (B : Nat) (A : Option Addr) (n c : Nat) (cur : List (List UInt8)) (W : World) : Prop where
  src : Hs W (B ≤ ·) A n c cur
  big : B ≤ W.heap.size

theorem rowsL_len_pos {hs : List (List UInt8)} (h : 0 < hs.length) : ∃ t, rowsL hs = hs :: t := by
  rcases Nat.lt_or_ge hs.length 2 with h1 | h1
  · exact ⟨[], rowsL_one hs (by omega)⟩
  · exact ⟨_, rowsL_more hs h1⟩

end Go.Proofs.Ytgcbdnoniikboaa
