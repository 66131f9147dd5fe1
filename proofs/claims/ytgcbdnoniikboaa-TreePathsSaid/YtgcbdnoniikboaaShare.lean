/- A region that draws its order: what is left behind several orders, walked once. No program in sight. -/
import Derived.Test.YtgcbdnoniikboaaMix
namespace Go.Proofs.Ytgcbdnoniikboaa
open Go

theorem wpAnyH_shared {T : Type} {P : Program} {ops : Array Oper} {Q : Exit → Act → World → Prop} {S : World → Prop} {f0 : Nat} {listed0 : Array Bool} {a : Act} {w : World} (f : Nat) (listed : Array Bool) (puts : T → List (Tmp × Value)) (ok : T → World → Prop)
    (htail : ∀ t W, ok t W → wpAnyH P .any ops Q S f listed ((puts t).foldl (fun a x => a.put (some x.1) x.2) a) W)
    (hhead : (∀ t W, ok t W → wpAnyH P .any ops Q S f listed ((puts t).foldl (fun a x => a.put (some x.1) x.2) a) W) → wpAnyH P .any ops Q S f0 listed0 a w) : wpAnyH P .any ops Q S f0 listed0 a w := hhead htail
/-- an operation that may make or write memory, whose run is known -/
theorem wpMix_run {P : Program} {ops : Array Oper} {Q : Exit → Act → World → Prop} {S : World → Prop} {R : Act → World → Prop} {o : Oper} {l : List (Oper × Bool)} {a : Act} {w : World} (hw : Region.wanted o (yielded ops a.tmps) = true) (v : Value) (w' : World)
    (hrun : (execOp a.eval o).run P w = .ok (.value v) w') (hS : S w') (h : wpMix P ops S Q R l (a.put o.dst v) w') : wpMix P ops S Q R ((o, false) :: l) a w := by
  refine ⟨?_⟩
  unfold wpMix0
  rw [if_pos hw]
  unfold Oper.wp
  rw [hrun]
  exact ⟨hS, h.out⟩
end Go.Proofs.Ytgcbdnoniikboaa
