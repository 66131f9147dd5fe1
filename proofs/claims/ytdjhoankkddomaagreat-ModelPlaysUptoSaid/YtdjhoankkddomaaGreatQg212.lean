import Derived.Test.YtdjhoankkddomaaGreatQg210
import Derived.Test.YtdjhoankkddomaaGreatQg209
import Derived.Test.YtdjhoankkddomaaGreatQg211
namespace Go.Proofs.YtdjhoankkddomaaGreat
open Go Go.RowKit
structure HV (w:World) (g:Nat) (l:List UInt8):Prop where
 blk:Blk w g 53 (l.map B).toArray
 len:l.length=32
theorem HV.step {w W:World} {g:Nat} {l:List UInt8} (h:HV w g l) (hb:Below w.heap.size w W):HV W g l:=⟨h.blk.below hb h.blk.lt,h.len⟩
theorem HV.load {w:World} {g:Nat} {l:List UInt8} (h:HV w g l):(Instr.loadAt 53 (.pointer (some ⟨g,0,none⟩))).run Tryz.prog w = .ok (.agg (l.map B).toArray) w :=
 run_load_blk (agg26 _) (size26 _) g _ (by simp [h.len]) h.blk
theorem Blk.step {w W:World} {g:Nat} {t:TypeId} {cs:Array Value} (h:Blk w g t cs) (hb:Below w.heap.size w W):Blk W g t cs:=h.below hb h.lt
section
variable {w:World} {ops:Array Oper} {rest:List Oper} {o o1 o2 o3:Oper} {a:Act} {Q:Exit→Act→World→Prop}
set_option maxRecDepth 100000 in
theorem wpList_hvar {l:List UInt8} (x y:Operand) (hg1:o1.guard=none) (hg2:o2.guard=none) (ho1:o1.op = .alloc 53) (ho2:o2.op = .store 53 x y)
  (hx:(a.put o1.dst (.pointer (some ⟨w.heap.size,0,none⟩))).eval x = .pointer (some ⟨w.heap.size,0,none⟩)) (hy:(a.put o1.dst (.pointer (some ⟨w.heap.size,0,none⟩))).eval y = .agg (l.map B).toArray) (hl:l.length=32)
  (h:∀ W,HV W w.heap.size l→Below w.heap.size w W→wpList Tryz.prog ops Q rest ((a.put o1.dst (.pointer (some ⟨w.heap.size,0,none⟩))).put o2.dst undef) W):wpList Tryz.prog ops Q (o1::o2::rest) a w:=by
 have hz:zeroHash.size=32:=rfl
 refine wpList_run hg1 (.pointer (some ⟨w.heap.size,0,none⟩)) (w.alloc (.cells zeroHash 53)) ?_ ?_
 ·unfold execOp
  rw [ho1]
  rfl
 ·refine wpList_store_blk hg2 53 x y ho2 32 size26 w.heap.size (l.map B).toArray hx hy (by simp [hl]) (oneCell_B _) 53 _ (Blk.new w 53 zeroHash) hz ?_
  exact h _ ⟨(Blk.new w 53 zeroHash).setRow_ _,hl⟩ (below_setRow ((Below.refl _ _).alloc (Nat.le_refl _) _) (Nat.le_refl _) _)
theorem wpList_hset {l l':List UInt8} {g:Nat} (x y:Operand) (hg2:o.guard=none) (ho2:o.op = .store 53 x y) (k:HV w g l')
  (hx:a.eval x = .pointer (some ⟨g,0,none⟩)) (hy:a.eval y = .agg (l.map B).toArray) (hl:l.length=32)
  (h:∀ W,HV W g l→Below g w W→W=w.setRow g (l.map B).toArray→wpList Tryz.prog ops Q rest (a.put o.dst undef) W):wpList Tryz.prog ops Q (o::rest) a w :=
 wpList_store_blk hg2 53 x y ho2 32 size26 g (l.map B).toArray hx hy (by simp [hl]) (oneCell_B _) 53 _ k.blk (by simp [k.len])
  (h _ ⟨k.blk.setRow_ _,hl⟩ (below_setRow (Below.refl _ _) (Nat.le_refl _) _) rfl)
theorem wpList_hload {l:List UInt8} {g:Nat} (x:Operand) (hw:Region.wanted o (yielded ops a.tmps)=true) (ho:o.op = .load 53 x) (k:HV w g l) (hx:a.eval x = .pointer (some ⟨g,0,none⟩))
  (h:wpList Tryz.prog ops Q rest (a.put o.dst (.agg (l.map B).toArray)) w):wpList Tryz.prog ops Q (o::rest) a w :=
 wpList_runG hw (.agg (l.map B).toArray) w (run_load_op 53 x ho g 0 hx _ k.load) h
theorem wpList_cell {P:Program} (ty:TypeId) (x:Operand) (g off:Nat) (v:Value) (hw:Region.wanted o (yielded ops a.tmps)=true) (ho:o.op = .load ty x) (hx:a.eval x = .pointer (some ⟨g,off,none⟩))
  (hrun:(Instr.loadAt ty (.pointer (some ⟨g,off,none⟩))).run P w = .ok v w) (h:wpList P ops Q rest (a.put o.dst v) w):wpList P ops Q (o::rest) a w :=
 wpList_runG hw v w (run_load_op ty x ho g off hx _ hrun) h
end
theorem run_load_scalar {P:Program} {W:World} {ty:TypeId} {g o:Nat} {v:Value} (hagg:(isAgg ty).run P W = .ok false W) (h:W.cell? ⟨g,o,none⟩=some v):(Instr.loadAt ty (.pointer (some ⟨g,o,none⟩))).run P W = .ok v W:=by
 simp [Instr.loadAt,Instr.sureAddr,loadVar,Sem.run_bind,hagg,Go.load,Sem.run,h]
theorem Hs.get {w:World} {X:Nat→Prop} {A:Option Addr} {n c:Nat} {hs:List (List UInt8)} (h:Hs w X A n c hs) {b o:Nat} (hA:A=some ⟨b,o,none⟩) (i:Nat) (hi:i<n) :
  (Instr.loadAt 53 (.pointer (some ⟨b,o+i*32,none⟩))).run Tryz.prog w = .ok (.agg ((hs.getD i []).map B).toArray) w:=by
 obtain ⟨b',o',hA',-,-,hat⟩:=h.at_ (by omega)
 rw [hA] at hA'
 cases hA'
 exact hat i hi
end Go.Proofs.YtdjhoankkddomaaGreat
