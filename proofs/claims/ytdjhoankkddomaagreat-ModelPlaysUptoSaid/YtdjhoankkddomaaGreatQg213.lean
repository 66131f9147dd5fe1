import Derived.RangeFuncNested
import Derived.RangeFuncBound
import Derived.RangeFuncCalls
import Derived.RangeFuncLeaves
import Derived.Shelf.Abstract
import Derived.Shelf.RegionOpen
import Derived.WalkKit
import Derived.OwnWalkIn
import Derived.TacticsInMore
import Derived.LoopNIn
import Derived.LoopIn
import Derived.Test.YtdjhoankkddomaaGreatQg205
namespace Go.Proofs.YtdjhoankkddomaaGreat
open Go Go.RowKit
structure KeepC (M:Nat→Prop) (W W':World):Prop where
 os:W'.os=W.os
 tape:W'.tape=W.tape
 output:W'.output=W.output
 size:W.heap.size≤W'.heap.size
 cells:∀ k o,W.heap[k]?=some o→o.isCells=true→¬ M k→W'.heap[k]?=some o
theorem KeepC.putObj {M:Nat→Prop} {W:World} {r:Nat} {o:Obj} (o':Obj) (h:W.heap[r]?=some o) (hc:o.isCells=false):KeepC M W (W.putObj r o') :=
 ⟨rfl,rfl,rfl,by simp,fun k o'' hk ho _=>by
  by_cases e:k=r
  ·subst e;rw [h] at hk;cases hk;rw [hc] at ho;cases ho
  ·exact (World.putObj_heap_other e).trans hk⟩
theorem KeepC.blk {M:Nat→Prop} {W W':World} {g:Nat} {t:TypeId} {cs:Array Value} (h:KeepC M W W') (hb:Blk W g t cs) (hm:¬ M g):Blk W' g t cs:=h.cells g _ hb rfl hm
theorem KeepC.cell {M:Nat→Prop} {W W':World} {p:Addr} {v:Value} (h:KeepC M W W') (hc:W.cell? p=some v) (hm:¬ M p.block):W'.cell? p=some v:=by
 unfold World.cell? at hc ⊢
 cases ho:W.heap[p.block]? with
 | none=>rw [ho] at hc;cases hc
 | some o =>
  rw [ho] at hc
  have hcells:o.isCells=true:=by cases o <;> first|rfl|(simp at hc)
  rw [h.cells _ _ ho hcells hm]
  exact hc
theorem KeepC.slv {M:Nat→Prop} {W W':World} {X:Nat→Prop} {A:Option Addr} {n c s:Nat} {l:List Value} (h:KeepC M W W') (hs:SlV W X A n c s l) (hm:∀ b,b<W.heap.size→X b→¬ M b):SlV W' X A n c s l :=
 ⟨fun hl=>by
  obtain ⟨b,o,h1,h2,h3,h4⟩:=hs.bs hl
  exact ⟨b,o,h1,Nat.lt_of_lt_of_le h2 h.size,h3,fun j v hv=>h.cell (h4 j v hv) (hm b h2 h3)⟩,hs.len,hs.room,hs.nil,hs.max⟩
end Go.Proofs.YtdjhoankkddomaaGreat
