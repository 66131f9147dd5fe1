/- cons.Prove. -/
import Derived.Test.YtmglkblomklcbaaQc113
import Derived.Test.YtmglkblomklcbaaQc119
import Derived.Test.YtmglkblomklcbaaQc120
namespace Go.Proofs.Ytmglkblomklcbaa
open Go Go.RowKit Go.Shelf
attribute [local go_sem] Oper.semAt_some

/-- between two rounds: what has come so far, in its box -/
structure CpI (w : World) (g8 n₁ : Nat) (q : List (List UInt8)) (W : World) : Prop where
  own : ∃ v, Blk W g8 22 #[v] ∧ W.ownsRow n₁ 45 32 v q.length (hcells q)
  bel : Below w.heap.size w W
theorem CpI.step {w W W' : World} {g8 n₁ : Nat} {q : List (List UInt8)} (h : CpI w g8 n₁ q W) (hb : Below W.heap.size W W') : CpI w g8 n₁ q W' :=
  ⟨let ⟨v, h1, h2⟩ := h.own; ⟨v, h1.step hb, owns_step h2 hb⟩, h.bel.trans (hb.mono h.bel.size)⟩
theorem CpI.grown {w W W' : World} {g8 n₁ : Nat} {q : List (List UInt8)} {row : Option Nat} (h : CpI w g8 n₁ q W) (hg : W.grownBy W' row) (hr : ∀ r, row = some r → w.heap.size ≤ r ∧ ∃ o, W.heap[r]? = some o ∧ o.isCells = false) : CpI w g8 n₁ q W' :=
  ⟨let ⟨v, h1, h2⟩ := h.own
   ⟨v, h1.grown hg (fun e => by
      obtain ⟨_, o, ho, hc⟩ := hr g8 e.symm
      rw [show W.heap[g8]? = _ from h1] at ho; cases ho; cases hc), h2.kept hg (by
      rcases h2.2 with ⟨rfl, _⟩ | ⟨g, cap, cur, rfl, _, hb, _⟩
      · exact .inl rfl
      · refine .inr fun e => ?_
        obtain ⟨_, o, ho, hc⟩ := hr g e.symm
        rw [show W.heap[g]? = _ from hb] at ho; cases ho; cases hc)⟩, h.bel.grown hg h.bel.size fun k e => (hr k e).1⟩
theorem CpI.own_ {w : World} {g8 n₁ B : Nat} (f : Nat → List (List UInt8)) (hB : w.heap.size ≤ B) : OwnFrom B (fun k W => CpI w g8 n₁ (f k) W) := fun _ _ _ _ h hg hr => h.grown hg fun r e => ⟨Nat.le_trans hB (hr r e).1, (hr r e).2⟩
theorem owns_cells {W : World} {base n s r : Nat} {e : TypeId} {v : Value} {xs : List Value} (h : W.ownsRow base e s v n xs) (hv : v.ownBlock = some r) : ∃ o, W.heap[r]? = some o ∧ o.isCells = true := by
  rcases h.2 with ⟨rfl, _⟩ | ⟨g, cap, cur, rfl, _, hb, _⟩
  · cases hv
  · cases hv
    exact ⟨_, hb, rfl⟩
theorem run_litH_op {ρ : Operand → Value} {o : Oper} (x : List UInt8) (hx : x.length = 32) (y : Operand) (ho : o.op = .buildSlice 22 1 #[(0, y)]) (hy : ρ y = .agg (x.map B).toArray) (W : World) :
    (execOp ρ o).run Try.prog W = .ok (.value (.slice (some ⟨W.heap.size, 0, none⟩) 1 1)) (W.alloc (.cells (hcells [x]).toArray 45)) :=
  run_lit_op [x] (fun h hh => by rw [List.mem_singleton.1 hh]; exact hx) (by simp) (by simp) 1 _ ho (by simp [hy]) rfl W

end Go.Proofs.Ytmglkblomklcbaa
