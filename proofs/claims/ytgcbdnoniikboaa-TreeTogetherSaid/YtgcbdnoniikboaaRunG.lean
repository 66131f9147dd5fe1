/- An operation with a guard whose run is known. No program in sight. -/
import Derived.Test.YtgcbdnoniikboaaMem
namespace Go.Proofs.Ytgcbdnoniikboaa
open Go Go.RowKit

theorem wpList_runG {P : Program} {w : World} {ops : Array Oper} {rest : List Oper} {o : Oper} {a : Act} {Q : Exit → Act → World → Prop} (hw : Region.wanted o (yielded ops a.tmps) = true) (v : Value) (w' : World) (hrun : (execOp a.eval o).run P w = .ok (.value v) w')
    (h : wpList P ops Q rest (a.put o.dst v) w') : wpList P ops Q (o :: rest) a w :=
  wpList_step fun K hK => by
    rw [if_pos hw]
    unfold Oper.wp
    rw [hrun]
    exact hK _ _ h
end Go.Proofs.Ytgcbdnoniikboaa
