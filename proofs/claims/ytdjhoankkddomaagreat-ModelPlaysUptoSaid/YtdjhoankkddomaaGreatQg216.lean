import Derived.Test.YtdjhoankkddomaaGreatQg215
import Derived.Test.YtdjhoankkddomaaGreatQg210
import Derived.Test.YtdjhoankkddomaaGreatQg212
import Derived.Test.YtdjhoankkddomaaGreatQg214
import Derived.Lib.LazyBuf
namespace Go.Proofs.YtdjhoankkddomaaGreat
open Go Go.RowKit
attribute [local go_sem] Oper.semAt_some
section
variable {W:World} {Z:Nat→Prop} {lo g:Nat} {R:MdR} {m:MoV}
theorem mnone_any (h:Md Z lo g R m W):Calls Tryz.prog 51 #[.pointer (some ⟨g,0,none⟩)] W fun e w'=>e = .returned (.bool false)∧w'=W:=by
 have c76:W.cell? ⟨g,76,none⟩=some (.bool true):=h.cell 76 (by decide)
 clear h
 go_enter Tryz.func51,Tryz.ntmps51
 go_wp2_with fail
 go_ret
 exact ⟨rfl,rfl⟩
theorem mmay_any (h:Md Z lo g R m W):Calls Tryz.prog 49 #[.pointer (some ⟨g,0,none⟩)] W fun e w'=>e = .returned (.int .i64 (if m.only then 10 else 0))∧w'=W:=by
 have c75:W.cell? ⟨g,75,none⟩=some (.bool m.only):=h.cell 75 (by decide)
 have hn:=mnone_any h
 clear h
 cases ho:m.only with
 | true =>
  rw [ho] at c75
  clear ho
  go_enter Tryz.func49,Tryz.ntmps49
  go_wp2_with (go_at_call 51;refine hn.mono ?_;rintro e w' ⟨rfl,hw⟩;obtain rfl:=hw.symm)
  go_ret
  exact ⟨rfl,rfl⟩
 | false =>
  rw [ho] at c75
  clear ho
  go_enter Tryz.func49,Tryz.ntmps49
  go_wp2_with (go_at_call 51;refine hn.mono ?_;rintro e w' ⟨rfl,hw⟩;obtain rfl:=hw.symm)
  go_ret
  exact ⟨rfl,rfl⟩
theorem msize_any (h:Md Z lo g R m W):Calls Tryz.prog 32 #[.pointer (some ⟨g,0,none⟩)] W fun e w'=>e = .returned (.int .i64 (m.ents.length:Int))∧w'=W:=by
 obtain ⟨A,c,hv,he⟩:=h.ents.es
 have hr:=he.room
 have hm:=he.max
 unfold maxLen at hm
 have c0:W.cell? ⟨g,0,none⟩=some R.e:=h.cell 0 (by decide)
 rw [hv] at c0
 have hn:=mnone_any h
 clear h he hv
 go_enter Tryz.func32,Tryz.ntmps32
 go_wp2_with (go_at_call 51;refine hn.mono ?_;rintro e w' ⟨rfl,hw⟩;obtain rfl:=hw.symm)
 go_ret
 exact ⟨rfl,rfl⟩
end
end Go.Proofs.YtdjhoankkddomaaGreat
namespace Go.Proofs.YtdjhoankkddomaaGreat
open Go Go.RowKit Go.Shelf
attribute [local go_sem] Oper.semAt_some
set_option maxHeartbeats 1000000 in
set_option maxRecDepth 100000 in
theorem cloneh_any (l:List (List UInt8)) (A:Option Addr) (n c:Nat) (w:World) (h:Hs w (fun _=>True) A n c l) (hn:n≤1099511627776) :
  Calls Tryz.prog 61 #[.slice A n c] w fun e w'=>∃ A' c',e = .returned (.slice A' n c')∧Hs w' (w.heap.size ≤ ·) A' n c' l∧Below w.heap.size w w':=by
 cases A with
 | none =>
  obtain ⟨rfl,rfl⟩:=h.sl.nil rfl
  obtain rfl:l=[]:=List.eq_nil_of_length_eq_zero h.len
  have hE:Hs w (w.heap.size ≤ ·) none 0 0 []:=⟨SlV.empty,rfl,by intro x hx;cases hx⟩
  clear h
  have hnil:=fun w=>run_eql_slice_nil (P:=Tryz.prog) w 49 53 none 0 0 Tryz.underlying49
  go_enter Tryz.func61,Tryz.ntmps61
  go_wp2_with fail
  go_ret
  exact ⟨none,0,rfl,hE,Below.refl _ _⟩
 | some a =>
  have hroom:=h.sl.room
  have hmx:=h.sl.max
  unfold maxLen at hmx
  have hb1:Below w.heap.size w (w.alloc (.cells #[] 53)):=(Below.refl _ _).alloc (Nat.le_refl _) _
  have ho0:(w.alloc (.cells #[] 53)).ownsRow w.heap.size 53 32 (.slice (some ⟨w.heap.size,0,none⟩) 0 0) 0 [] :=
   World.ownsRow_lit (base:=w.heap.size) (e:=53) (size:=32) w #[] 0 (Nat.le_refl _) (by unfold maxLen;decide) (by simp)
  obtain ⟨v1,w1,hr1,ho1,hg1,-⟩:=append_slv (ty:=49) Tryz.underlying49 info26z (by simp [Value.cells]) (by decide) ho0 (h.step hb1).sl (oneB _) (by unfold maxLen;omega) (by omega) hb1.size
  rw [List.nil_append,Nat.zero_add] at ho1
  have hb2:=hb1.grown hg1 hb1.size (fun k hk=>by cases hk;exact Nat.le_refl _)
  obtain ⟨A',c',rfl,h1⟩:=Hs.of_owns ho1 h.len h.all
  have h2:Hs w1 (w.heap.size ≤ ·) A' n c' l:=h1.weak fun _ _ hx=>hx.1
  have Hr1:=Lib.hid hr1
  have hnil:=fun w=>run_eql_slice_nil (P:=Tryz.prog) w 49 53 (some a) n c Tryz.underlying49
  clear hr1 ho0 ho1 hg1 hb1 h h1
  go_enter Tryz.func61,Tryz.ntmps61
  go_wp2_with ((with_reducible show wpList _ _ _ (⟨some 7,.call _,_,_,_,_⟩::_) _ _);refine wpList_run rfl (.slice A' n c') w1 (run_append_op (.tmp 5) (.tmp 6) 49 rfl _ _ rfl rfl Hr1.out) ?_;simp only [Act.put])
  go_ret
  exact ⟨A',c',rfl,h2,hb2⟩
set_option maxHeartbeats 1000000 in
set_option maxRecDepth 100000 in
theorem cloner_any (l:List (Int × Int)) (A:Option Addr) (n c:Nat) (w:World) (h:Rs w (fun _=>True) A n c l) (hn:n≤1099511627776) :
  Calls Tryz.prog 110 #[.slice A n c] w fun e w'=>∃ A' c',e = .returned (.slice A' n c')∧Rs w' (w.heap.size ≤ ·) A' n c' l∧Below w.heap.size w w':=by
 cases A with
 | none =>
  obtain ⟨rfl,rfl⟩:=h.sl.nil rfl
  obtain rfl:l=[]:=List.eq_nil_of_length_eq_zero h.len
  have hE:Rs w (w.heap.size ≤ ·) none 0 0 []:=Rs.empty
  clear h
  have hnil:=fun w=>run_eql_slice_nil (P:=Tryz.prog) w 157 164 none 0 0 Tryz.underlying157
  go_enter Tryz.func110,Tryz.ntmps110
  go_wp2_with fail
  go_ret
  exact ⟨none,0,rfl,hE,Below.refl _ _⟩
 | some a =>
  have hroom:=h.sl.room
  have hmx:=h.sl.max
  unfold maxLen at hmx
  have hb1:Below w.heap.size w (w.alloc (.cells #[] 164)):=(Below.refl _ _).alloc (Nat.le_refl _) _
  have ho0:(w.alloc (.cells #[] 164)).ownsRow w.heap.size 164 2 (.slice (some ⟨w.heap.size,0,none⟩) 0 0) 0 [] :=
   World.ownsRow_lit (base:=w.heap.size) (e:=164) (size:=2) w #[] 0 (Nat.le_refl _) (by unfold maxLen;decide) (by simp)
  obtain ⟨v1,w1,hr1,ho1,hg1,-⟩:=append_slv (ty:=157) Tryz.underlying157 infoR (by simp [Value.cells]) (by decide) ho0 (h.step hb1).sl (oneR _) (by unfold maxLen;omega) (by omega) hb1.size
  rw [List.nil_append,Nat.zero_add] at ho1
  have hb2:=hb1.grown hg1 hb1.size (fun k hk=>by cases hk;exact Nat.le_refl _)
  obtain ⟨A',c',rfl,h1⟩:=Rs.of_owns ho1 h.len
  have h2:Rs w1 (w.heap.size ≤ ·) A' n c' l:=h1.weak fun _ _ hx=>hx.1
  have Hr1:=Lib.hid hr1
  have hnil:=fun w=>run_eql_slice_nil (P:=Tryz.prog) w 157 164 (some a) n c Tryz.underlying157
  clear hr1 ho0 ho1 hg1 hb1 h h1
  go_enter Tryz.func110,Tryz.ntmps110
  go_wp2_with ((with_reducible show wpList _ _ _ (⟨some 7,.call _,_,_,_,_⟩::_) _ _);refine wpList_run rfl (.slice A' n c') w1 (run_append_op (.tmp 5) (.tmp 6) 157 rfl _ _ rfl rfl Hr1.out) ?_;simp only [Act.put])
  go_ret
  exact ⟨A',c',rfl,h2,hb2⟩
theorem valuesr_any (A:Option Addr) (n c:Nat) (w:World) :
  Calls Tryz.prog 112 #[.slice A n c] w fun e w'=>e = .returned (.func (.func 123) #[] #[.pointer (some ⟨w.heap.size,0,none⟩)])∧Blk w' w.heap.size 157 #[.slice A n c]∧Below w.heap.size w w':=by
 go_enter Tryz.func112,Tryz.ntmps112
 go_wp2_with fail
 go_ret
 exact ⟨rfl,Blk.new _ _ _,(Below.refl _ _).alloc (Nat.le_refl _) _⟩
theorem load_R {W:World} {g:Nat} {a b:Int} (h:Blk W g 164 #[.int .i64 a,.int .i64 b]):(Instr.loadAt 164 (.pointer (some ⟨g,0,none⟩))).run Tryz.prog W = .ok (.agg #[.int .i64 a,.int .i64 b]) W :=
 run_load_blk (aggR _) (sizeR _) _ _ rfl h
set_option maxRecDepth 100000 in
theorem wpList_rvar {w:World} {ops:Array Oper} {rest:List Oper} {o1 o2:Oper} {a:Act} {Q:Exit→Act→World→Prop} (l:Int × Int) (x y:Operand) (hg1:o1.guard=none) (hg2:o2.guard=none) (ho1:o1.op = .alloc 164) (ho2:o2.op = .store 164 x y)
  (hx:(a.put o1.dst (.pointer (some ⟨w.heap.size,0,none⟩))).eval x = .pointer (some ⟨w.heap.size,0,none⟩)) (hy:(a.put o1.dst (.pointer (some ⟨w.heap.size,0,none⟩))).eval y = .agg #[.int .i64 l.1,.int .i64 l.2])
  (h:∀ W,Blk W w.heap.size 164 #[.int .i64 l.1,.int .i64 l.2]→Below w.heap.size w W→wpList Tryz.prog ops Q rest ((a.put o1.dst (.pointer (some ⟨w.heap.size,0,none⟩))).put o2.dst undef) W):wpList Tryz.prog ops Q (o1::o2::rest) a w:=by
 refine wpList_run hg1 (.pointer (some ⟨w.heap.size,0,none⟩)) (w.alloc (.cells #[.int .i64 0,.int .i64 0] 164)) ?_ ?_
 ·unfold execOp
  rw [ho1]
  rfl
 ·refine wpList_store_blk hg2 164 x y ho2 2 sizeR w.heap.size #[.int .i64 l.1,.int .i64 l.2] hx hy rfl (by intro v hv;simp at hv;rcases hv with rfl|rfl <;> rfl) 164 _ (Blk.new w 164 #[.int .i64 0,.int .i64 0]) rfl ?_
  exact h _ ((Blk.new w 164 #[.int .i64 0,.int .i64 0]).setRow_ _) (below_setRow ((Below.refl _ _).alloc (Nat.le_refl _) _) (Nat.le_refl _) _)
def rval (x:Int × Int):Value := .agg #[.int .i64 x.1,.int .i64 x.2]
set_option maxRecDepth 100000 in
set_option maxHeartbeats 2000000 in
theorem values1_seq (l:List (Int × Int)) (A:Option Addr) (n c g:Nat) (U:Nat→Prop) (w:World) (hbox:Blk w g 157 #[.slice A n c]) (h:Rs w (fun b=>¬ U b) A n c l) (_hU:¬ U g) (hn:n≤1099511627776) :
  SeqU Tryz.prog 123 #[.pointer (some ⟨g,0,none⟩)] n U (fun _ k vs _=>vs=#[rval (l.getD k (0,0))]) w:=by
 intro ly J Jx W hW hJ hJx hY h0
 have hbox':=hbox.below hW hbox.lt
 have h':=h.step hW
 have hmx:=h.sl.max
 have hroom:=h.sl.room
 unfold maxLen at hmx
 have hgl:g<W.heap.size:=hbox'.lt
 have hcell:W.cell? ⟨g,0,none⟩=some (.slice A n c):=by rw [hbox'.cell];rfl
 have hst:J W.heap.size 0 W:=h0 _ (Nat.le_refl _)
 have Hst:=Lib.hid hst
 have HJ:=Lib.hid hJ
 have HY:=Lib.hid hY
 have Hbox:=Lib.hid hbox'
 clear hbox hJx hJ hY hbox' h hW h0 hst
 refine callsIn_of_wp Tryz.func123 rfl trivial ?_ rfl
 simp only [Tryz.ntmps123,List.size_toArray,List.length_cons,List.length_nil,Nat.reduceAdd,Nat.reduceSub,Array.replicate_succ,Array.replicate_zero,List.push_toArray,List.append_toArray,List.nil_append,List.cons_append]
 gi_wp2
 gi_loopw [7] (fun i wr=>∃ k:Nat,k≤n∧i = .int .i64 k∧W.heap.size≤wr.heap.size∧J W.heap.size k wr∧Rs wr (fun b=>b<W.heap.size∧¬ U b) A n c l)
  (fun i _=>n - (intOf i).toNat)
 case atStart=>exact ⟨0,Nat.zero_le _,rfl,Nat.le_refl _,Hst.out,h'.weak fun b hb hx=>⟨hb,hx⟩⟩
 case round =>
  clear Hst h' hcell
  obtain ⟨k,hk,rfl,hsz,hJs,hs⟩:=hrel
  by_cases hlt:k<n
  ·obtain ⟨b,o,rfl,-,-,-⟩:=hs.at_ (by omega)
   have hld:=hs.load rfl k hlt
   obtain ⟨⟨x1,x2⟩,hx⟩:∃ x,l.getD k (0,0)=x:=⟨_,rfl⟩
   rw [hx] at hld
   have Hx:=Lib.hid hx
   clear hx
   gi_wp2_with (first
    | ((with_reducible show wpListIn _ _ _ _ _ (⟨some 10,.load _ _,_,_,_,_⟩::_) _ _);refine wpListIn_of1 openW rfl ?_;refine wpList_cell 164 (.tmp 9) b (o+k*2) (.agg #[.int .i64 x1,.int .i64 x2]) (by kernel_rfl) rfl rfl hld ?_;refine thenN_nil ?_;simp only [Act.put])
    | ((with_reducible show wpListIn _ _ _ _ _ (⟨some 4,.alloc _,_,_,_,_⟩::_) _ _);refine wpListIn_of2 openW rfl ?_;refine wpList_rvar (x1,x2) (.tmp 4) (.tmp 10) rfl rfl rfl rfl rfl rfl ?_;intro W2 k4 hb2;refine thenN_nil ?_;simp only [Act.put])
    | ((with_reducible show wpListIn _ _ _ _ _ (⟨some 12,.load _ _,_,_,_,_⟩::_) _ _);refine wpListIn_of1 openW rfl ?_;refine wpList_cell 164 (.tmp 4) wr.heap.size 0 (.agg #[.int .i64 x1,.int .i64 x2]) (by kernel_rfl) rfl rfl (load_R k4) ?_;refine thenN_nil ?_;simp only [Act.put];have hJ2:=HJ.out W.heap.size k wr W2 none hJs (grown_of_below hb2 none) (fun r e=>by cases e);obtain ⟨fn,tmps,assign,body,hy,hR⟩:=HY.out W.heap.size k #[.agg #[.int .i64 x1,.int .i64 x2]] W2 (Nat.le_refl _) (Nat.le_trans hsz hb2.size) hlt hJ2 (by rw [Hx.out];rfl);clear hJ2 hJs hld))
   refine hR.mono ?_
   have hs2:=hs.step hb2
   have hsz2:=hb2.size
   clear hR hy k4 hb2 hs
   rintro e w4 (⟨rfl,hj4,hk4⟩|⟨rfl,hjx4,hk4⟩)
   ·have hs4:Rs w4 (fun b=>b<W.heap.size∧¬ U b) (some ⟨b,o,none⟩) n c l:=⟨hk4.slv hs2.sl fun b _ hb=>hb,hs2.len⟩
    have hsz4:=hk4.size
    clear hk4 hs2
    gi_wp2
    exact ⟨⟨k+1,by omega,by go_num,by omega,hj4,hs4⟩,by simp [intOf];omega⟩
   ·gi_wp2
    refine bodyPost_ret (by exact results_none rfl _ _ _) rfl ?_
    exact ⟨⟨_,rfl⟩,_,Nat.le_refl _,.inr ⟨k,hlt,hjx4⟩⟩
  ·obtain rfl:k=n:=by omega
   gi_wp2
   go_end0
   exact ⟨⟨_,rfl⟩,_,Nat.le_refl _,.inl hJs⟩
end Go.Proofs.YtdjhoankkddomaaGreat
namespace Go.Proofs.YtdjhoankkddomaaGreat
open Go Go.RowKit
attribute [local go_sem] Oper.semAt_some
set_option maxHeartbeats 1000000 in
set_option maxRecDepth 100000 in
theorem bclone_any (l:List UInt8) (A:Option Addr) (n c:Nat) (w:World) (h:Sl w (fun _=>True) A n c l) (hn:n≤1099511627776) :
  Calls Tryz.prog 46 #[.slice A n c] w fun e w'=>∃ A' c',e = .returned (.slice A' l.length c')∧Sl w' (w.heap.size ≤ ·) A' l.length c' l∧Below w.heap.size w w':=by
 cases A with
 | none =>
  obtain ⟨rfl,rfl⟩:=h.none rfl
  obtain rfl:l=[]:=List.eq_nil_of_length_eq_zero h.len
  clear h
  have hnil:=fun w=>run_eql_slice_nil (P:=Tryz.prog) w 41 5 none 0 0 Tryz.underlying41
  go_enter Tryz.func46,Tryz.ntmps46
  go_wp2_with fail
  go_ret
  exact ⟨none,0,rfl,Sl.nil,Below.refl _ _⟩
 | some a =>
  have hroom:=h.room
  have hmx:=h.max
  unfold maxLen at hmx
  have hb1:Below w.heap.size w (w.alloc (.cells #[] 5)):=(Below.refl _ _).alloc (Nat.le_refl _) _
  have ho0:(w.alloc (.cells #[] 5)).ownsRow w.heap.size 5 1 (.slice (some ⟨w.heap.size,0,none⟩) 0 0) ([]:List UInt8).length (([]:List UInt8).map B) :=
   World.ownsRow_lit (base:=w.heap.size) (e:=5) (size:=1) w #[] 0 (Nat.le_refl _) (by unfold maxLen;decide) (by simp)
  obtain ⟨v1,w1,hr1,ho1,hg1⟩:=append_sl ho0 (h.step hb1) (by simp;omega) hb1.size
  rw [List.nil_append] at ho1
  have hb2:=hb1.grown hg1 hb1.size (fun k hk=>by cases hk;exact Nat.le_refl _)
  obtain ⟨A',c',rfl,hs1⟩:=owns_sl ho1
  have Hr1:=Lib.hid hr1
  have hnil:=fun w=>run_eql_slice_nil (P:=Tryz.prog) w 41 5 (some a) n c Tryz.underlying41
  clear hr1 ho0 hg1 hb1 h
  go_enter Tryz.func46,Tryz.ntmps46
  go_wp2_with ((with_reducible show wpList _ _ _ (⟨some 7,.call _,_,_,_,_⟩::_) _ _);refine wpList_run rfl _ w1 (run_append_op (.tmp 5) (.tmp 6) 41 rfl _ _ rfl rfl Hr1.out) ?_;simp only [Act.put])
  go_ret
  exact ⟨A',c',rfl,hs1,hb2⟩
def PutW (g:Nat) (R:MdR) (b:Nat):Prop:=b=g∨R.e.ownBlock=some b∨R.h.ownBlock=some b
theorem PutW.mdW {g:Nat} {R:MdR} {b:Nat} (h:PutW g R b):MdW g R b:=by
 rcases h with h|h|h
 ·exact .inl h
 ·exact .inr (.inl h)
 ·exact .inr (.inr (.inl h))
theorem own_ty {W:World} {base n s:Nat} {e t:TypeId} {v:Value} {xs:List Value} {cs:Array Value} {g:Nat} (h:W.ownsRow base e s v n xs) (hb:Blk W g t cs) (hne:e≠t):v.ownBlock≠some g:=by
 intro hv
 rcases h.2 with ⟨rfl,_⟩|⟨g',cap,cur,rfl,_,hg,_⟩
 ·cases hv
 ·have:g'=g:=by simpa [Value.ownBlock] using hv
  subst this
  rw [show W.heap[g']?=some (.cells cs t (0,0)) from hb] at hg
  cases hg
  exact hne rfl
theorem own_ty2 {W:World} {base base' n s n' s':Nat} {e t:TypeId} {v v':Value} {xs xs':List Value} (h:W.ownsRow base e s v n xs) (h':W.ownsRow base' t s' v' n' xs') (hne:e≠t) (k:Nat) (hk:v'.ownBlock=some k):v.ownBlock≠some k:=by
 rcases h'.2 with ⟨rfl,_⟩|⟨g',cap,cur,rfl,_,hg,_⟩
 ·cases hk
 ·cases hk
  exact own_ty h (show Blk W _ t cur from hg) hne
structure Mp (Z:Nat→Prop) (w:World) (lo g:Nat) (R0:MdR) (m:MoV) (A:Option Addr) (n c:Nat) (ls:List (List UInt8)) (k j:Nat) (R:MdR) (W:World):Prop where
 blk:Blk W g 57 (mdArr R m)
 ents:EsO W lo R.e (m.ents++ls.take k) fun b=>¬ MdN Z g R b
 hashes:W.ownsRow lo 53 32 R.h (m.ents.length+j) (hcells (lvs (m.ents++ls.take j)))
 queue:EsO W lo R.q m.queue fun b=>¬ MdN Z g R b
 src:Es W (fun b=>¬ PutW g R b) A n c ls
 rr:R.r=R0.r
 rq:R.q=R0.q
 rb:R.b=R0.b
 eq:∀ b,R.e.ownBlock=some b→R.q.ownBlock≠some b
 kb:KB (PutW g R0) w W
 new:∀ b,PutW g R b→PutW g R0 b∨w.heap.size≤b
 low:lo≤g
 zlt:∀ b,Z b→b<W.heap.size
 zno:∀ b,MdW g R b→¬ Z b
section
variable {w W W':World} {Z:Nat→Prop} {lo g:Nat} {R0 R:MdR} {m:MoV} {A:Option Addr} {n c:Nat} {ls:List (List UInt8)} {k j:Nat}
theorem Mp.step (h:Mp Z w lo g R0 m A n c ls k j R W) (hb:Below W.heap.size W W'):Mp Z w lo g R0 m A n c ls k j R W' :=
 ⟨h.blk.below hb h.blk.lt,h.ents.step hb,owns_step h.hashes hb,h.queue.step hb,h.src.step hb,h.rr,h.rq,h.rb,h.eq,h.kb.trans (KB.of_below hb),h.new,h.low,fun b hz=>Nat.lt_of_lt_of_le (h.zlt b hz) hb.size,h.zno⟩
theorem Mp.lt (h:Mp Z w lo g R0 m A n c ls k j R W) (b:Nat) (hb:MdW g R b):lo≤b∧b<W.heap.size:=by
 rcases hb with rfl|hb|hb|hb
 ·exact ⟨h.low,h.blk.lt⟩
 ·exact h.ents.lt b hb
 ·exact h.hashes.lt b hb
 ·exact h.queue.lt b hb
theorem Mp.ltN (h:Mp Z w lo g R0 m A n c ls k j R W) (b:Nat) (hb:MdN Z g R b):b<W.heap.size:=hb.elim (fun h'=>(h.lt b h').2) (h.zlt b)
theorem Mp.appE (h:Mp Z w lo g R0 m A n c ls k j R W) (hn:m.ents.length+ls.length≤1000000) (hk:k<ls.length) (A':Option Addr) (c':Nat) (hl:Sl W (fun b=>¬ MdN Z g R b) A' (ls[k]).length c' ls[k]) :
  ∃ v' W',(Builtin.append_ #[48,48] 48 #[R.e,.slice (some ⟨W.heap.size,0,none⟩) 1 1]).run Tryz.prog (W.alloc (.cells #[.slice A' (ls[k]).length c'] 41)) = .ok v' W'∧v'.oneCell'=true ∧
   W'.cell? ⟨g,0,none⟩=some R.e∧W'.frozen? ⟨g,0,none⟩=false∧Blk W' g 57 (mdArr R m)∧Mp Z w lo g R0 m A n c ls (k+1) j { R with e:=v' } (W'.setCell ⟨g,0,none⟩ v')∧∀ (A:Option Addr) (n c:Nat) (l:List UInt8),Sl W (fun b=>¬ PutW g R b) A n c l→Sl (W'.setCell ⟨g,0,none⟩ v') (fun b=>¬ PutW g { R with e:=v' } b) A n c l:=by
 have hlo:lo≤W.heap.size:=by have:=h.low;have:=h.blk.lt;omega
 obtain ⟨v',W',hr,hE,hg,hv⟩:=(h.ents.weak (Y:=fun b=>¬ MdN Z g R b∧b<W.heap.size) fun b hb hx=>⟨hx,hb⟩).app hlo (by rw [List.length_append,List.length_take];omega) ls[k] A' c' (hl.weak fun b hb hx=>⟨hx,hb⟩) (fun b _ hx e=>hx.1 (.inl (.inr (.inl e.symm))))
 have hge:R.e.ownBlock≠some g:=own_ty h.ents.ex.choose_spec.1 h.blk (by decide)
 have k1:Blk W' g 57 (mdArr R m):=h.blk.grown hg (fun e=>hge e.symm)
 have hgs:KB (fun b=>b=g) W' (W'.setCell ⟨g,0,none⟩ v'):=KB.of_grown (grown_setCell (World.grownBy.refl _ (some g)) 0 v') fun r e=>(Option.some.inj e).symm
 have hk1:KB (fun b=>R.e.ownBlock=some b∨b=g) W (W'.setCell ⟨g,0,none⟩ v'):=(KB.of_grown hg fun r e => .inl e).trans (hgs.mono fun b hb => .inr hb)
 have hMd:∀ b,b<W.heap.size→MdW g { R with e:=v' } b→MdW g R b:=fun b hb hm=>by
  rcases hm with hm|hm|hm
  ·exact .inl hm
  ·rcases hv with hv|⟨i,hv,hi⟩
   ·exact .inr (.inl (by rw [← hv];exact hm))
   ·have hm:v'.ownBlock=some b:=hm
    rw [hv] at hm
    cases hm
    omega
  ·exact .inr (.inr hm)
 have hMN:∀ b,b<W.heap.size→MdN Z g { R with e:=v' } b→MdN Z g R b:=fun b hb hm=>hm.imp (hMd b hb) id
 have hZ:∀ b,MdW g { R with e:=v' } b→¬ Z b:=fun b hm hz=>h.zno b (hMd b (h.zlt b hz) hm) hz
 have hsz1:=hk1.size
 have hPut:∀ b,b<W.heap.size→PutW g { R with e:=v' } b→PutW g R b:=fun b hb hm=>by
  rcases hm with hm|hm|hm
  ·exact .inl hm
  ·rcases hv with hv|⟨i,hv,hi⟩
   ·exact .inr (.inl (by rw [← hv];exact hm))
   ·have hm:v'.ownBlock=some b:=hm
    rw [hv] at hm
    cases hm
    omega
  ·exact .inr (.inr hm)
 have hvo:=hE.ex.choose_spec.1
 have htk:m.ents++ls.take k++[ls[k]]=m.ents++ls.take (k+1):=by rw [List.append_assoc,List.take_succ_eq_append_getElem hk]
 refine ⟨v',W',hr,hE.one,by rw [k1.cell,md_at _ _ 0 (by decide)];rfl,k1.frozen 0,k1,⟨?_,?_,?_,?_,?_,h.rr,h.rq,h.rb,?_,?_,?_,h.low,fun b hz=>Nat.lt_of_lt_of_le (h.zlt b hz) hsz1,hZ⟩,fun A n c l hs=>?_⟩
 ·rw [← md_set (R:=R) (R':={ R with e:=v' }) (m:=m) (m':=m) 0 (by decide) v' rfl fun i hi hne=>by simp [mcell,hne]]
  exact k1.set_ 0 v'
 ·rw [← htk]
  refine (hE.kb hgs (fun b hb e=>?_) (fun b _ hx e=>hx.1 (.inl (.inl e)))).weak fun b _ hx hm=>hx.1 (hMN b hx.2 hm)
  subst e
  exact own_ty hvo k1 (by decide) hb
 ·refine hk1.own h.hashes fun b hb hm=>?_
  rcases hm with hm|rfl
  ·exact own_ty2 h.ents.ex.choose_spec.1 h.hashes (by decide) b hb hm
  ·exact own_ty h.hashes h.blk (by decide) hb
 ·refine ((h.queue.weak (Y:=fun b=>¬ MdN Z g R b∧b<W.heap.size) fun b hb hx=>⟨hx,hb⟩).kb hk1 (fun b hb hm=>?_) (fun b _ hx hm=>?_)).weak fun b _ hx hm=>hx.1 (hMN b hx.2 hm)
  ·rcases hm with hm|rfl
   ·exact h.eq b hm hb
   ·exact own_ty h.queue.ex.choose_spec.1 h.blk (by decide) hb
  ·rcases hm with hm|rfl
   ·exact hx.1 (.inl (.inr (.inl hm)))
   ·exact hx.1 (.inl (.inl rfl))
 ·refine ((h.src.weak (Y:=fun b=>¬ PutW g R b∧b<W.heap.size) fun b hb hx=>⟨hx,hb⟩).kb hk1 (fun b _ hx hm=>?_)).weak fun b _ hx hm=>hx.1 (hPut b hx.2 hm)
  rcases hm with hm|rfl
  ·exact hx.1 (.inr (.inl hm))
  ·exact hx.1 (.inl rfl)
 ·intro b hb
  rcases hv with hv|⟨i,hv,hi⟩
  ·exact h.eq b (by rw [← hv];exact hb)
  ·have hb:v'.ownBlock=some b:=hb
   rw [hv] at hb
   cases hb
   intro e
   have:=(h.queue.lt _ e).2
   omega
 ·refine h.kb.then hk1 fun b hb hm=>?_
  have hsz:=h.kb.size
  rcases hm with hm|rfl
  ·rcases h.new b (.inr (.inl hm)) with h1|h1
   ·exact h1
   ·omega
  ·exact .inl rfl
 ·intro b hm
  by_cases hb:b<W.heap.size
  ·exact h.new b (hPut b hb hm)
  ·exact .inr (by have:=h.kb.size;omega)
 ·refine (hk1.slb (hs.weak (Y:=fun b=>¬ PutW g R b∧b<W.heap.size) fun b hb hx=>⟨hx,hb⟩) fun b _ hx hm=>?_).weak fun b _ hx hm=>hx.1 (hPut b hx.2 hm)
  rcases hm with hm|rfl
  ·exact hx.1 (.inr (.inl hm))
  ·exact hx.1 (.inl rfl)
theorem Mp.appH (h:Mp Z w lo g R0 m A n c ls k j R W) (hn:m.ents.length+ls.length≤1000000) (hj:j<ls.length) :
  ∃ v' W',(Builtin.append_ #[49,49] 49 #[R.h,.slice (some ⟨W.heap.size,0,none⟩) 1 1]).run Tryz.prog (W.alloc (.cells ((hLeaf ls[j]).map B).toArray 53)) = .ok v' W'∧v'.oneCell'=true ∧
   W'.cell? ⟨g,1,none⟩=some R.h∧W'.frozen? ⟨g,1,none⟩=false∧Blk W' g 57 (mdArr R m)∧Mp Z w lo g R0 m A n c ls k (j+1) { R with h:=v' } (W'.setCell ⟨g,1,none⟩ v'):=by
 have hlo:lo≤W.heap.size:=by have:=h.low;have:=h.blk.lt;omega
 have hlf:=length_hLeaf ls[j]
 have hba:Below W.heap.size W (W.alloc (.cells ((hLeaf ls[j]).map B).toArray 53)):=(Below.refl _ _).alloc (Nat.le_refl _) _
 obtain ⟨v',W',hr,ho,hg',hv'⟩:=append_slv (ty:=49) Tryz.underlying49 info26z (by simp [Value.cells]) (by decide) (owns_step h.hashes hba) (SlV.lit (s:=32) (n:=1) W (fun _=>True) 53 ((hLeaf ls[j]).map B) (by simp [hlf]) (by decide) trivial) (by intro u hu;obtain ⟨x,_,rfl⟩:=List.mem_map.1 hu;rfl) (by unfold maxLen;omega) (by omega) (Nat.le_trans hlo hba.size)
 have hg:W.grownBy W' R.h.ownBlock:=(grown_of_below hba R.h.ownBlock).trans hg'
 have hv:v'.ownBlock=R.h.ownBlock∨∃ k,v'.ownBlock=some k∧W.heap.size≤k:=by
  rcases hv' with hv|⟨k,hv,hk⟩
  ·exact .inl hv
  ·exact .inr ⟨k,hv,Nat.le_trans hba.size hk⟩
 have hge:R.h.ownBlock≠some g:=own_ty h.hashes h.blk (by decide)
 have k1:Blk W' g 57 (mdArr R m):=h.blk.grown hg (fun e=>hge e.symm)
 have hgs:KB (fun b=>b=g) W' (W'.setCell ⟨g,1,none⟩ v'):=KB.of_grown (grown_setCell (World.grownBy.refl _ (some g)) 1 v') fun r e=>(Option.some.inj e).symm
 have hk1:KB (fun b=>R.h.ownBlock=some b∨b=g) W (W'.setCell ⟨g,1,none⟩ v'):=(KB.of_grown hg fun r e => .inl e).trans (hgs.mono fun b hb => .inr hb)
 have hMd:∀ b,b<W.heap.size→MdW g { R with h:=v' } b→MdW g R b:=fun b hb hm=>by
  rcases hm with hm|hm|hm|hm
  ·exact .inl hm
  ·exact .inr (.inl hm)
  ·rcases hv with hv|⟨i,hv,hi⟩
   ·exact .inr (.inr (.inl (by rw [← hv];exact hm)))
   ·have hm:v'.ownBlock=some b:=hm
    rw [hv] at hm
    cases hm
    omega
  ·exact .inr (.inr (.inr hm))
 have hMN:∀ b,b<W.heap.size→MdN Z g { R with h:=v' } b→MdN Z g R b:=fun b hb hm=>hm.imp (hMd b hb) id
 have hZ:∀ b,MdW g { R with h:=v' } b→¬ Z b:=fun b hm hz=>h.zno b (hMd b (h.zlt b hz) hm) hz
 have hsz1:=hk1.size
 have hPut:∀ b,b<W.heap.size→PutW g { R with h:=v' } b→PutW g R b:=fun b hb hm=>by
  rcases hm with hm|hm|hm
  ·exact .inl hm
  ·exact .inr (.inl hm)
  ·rcases hv with hv|⟨i,hv,hi⟩
   ·exact .inr (.inr (by rw [← hv];exact hm))
   ·have hm:v'.ownBlock=some b:=hm
    rw [hv] at hm
    cases hm
    omega
 have htk:lvs (m.ents++ls.take j)++[hLeaf ls[j]]=lvs (m.ents++ls.take (j+1)):=by rw [List.take_succ_eq_append_getElem hj,← List.append_assoc,lvs_append (m.ents++ls.take j)];rfl
 have hv1:v'.oneCell'=true:=by
  rcases ho.2 with ⟨rfl,_⟩|⟨_,_,_,rfl,_⟩ <;> rfl
 refine ⟨v',W',hr,hv1,by rw [k1.cell,md_at _ _ 1 (by decide)];rfl,k1.frozen 1,k1,⟨?_,?_,?_,?_,?_,h.rr,h.rq,h.rb,h.eq,?_,?_,h.low,fun b hz=>Nat.lt_of_lt_of_le (h.zlt b hz) hsz1,hZ⟩⟩
 ·rw [← md_set (R:=R) (R':={ R with h:=v' }) (m:=m) (m':=m) 1 (by decide) v' rfl fun i hi hne=>by simp [mcell,hne]]
  exact k1.set_ 1 v'
 ·refine ((h.ents.weak (Y:=fun b=>¬ MdN Z g R b∧b<W.heap.size) fun b hb hx=>⟨hx,hb⟩).kb hk1 (fun b hb hm=>?_) (fun b _ hx hm=>?_)).weak fun b _ hx hm=>hx.1 (hMN b hx.2 hm)
  ·rcases hm with hm|rfl
   ·exact own_ty2 h.ents.ex.choose_spec.1 h.hashes (by decide) b hm hb
   ·exact own_ty h.ents.ex.choose_spec.1 h.blk (by decide) hb
  ·rcases hm with hm|rfl
   ·exact hx.1 (.inl (.inr (.inr (.inl hm))))
   ·exact hx.1 (.inl (.inl rfl))
 ·rw [← htk,hcells_append,← Nat.add_assoc]
  have e:hcells [hLeaf ls[j]]=(hLeaf ls[j]).map B:=by simp [hcells]
  rw [e]
  refine hgs.own ho fun b hb e=>?_
  subst e
  exact own_ty ho k1 (by decide) hb
 ·refine ((h.queue.weak (Y:=fun b=>¬ MdN Z g R b∧b<W.heap.size) fun b hb hx=>⟨hx,hb⟩).kb hk1 (fun b hb hm=>?_) (fun b _ hx hm=>?_)).weak fun b _ hx hm=>hx.1 (hMN b hx.2 hm)
  ·rcases hm with hm|rfl
   ·exact own_ty2 h.queue.ex.choose_spec.1 h.hashes (by decide) b hm hb
   ·exact own_ty h.queue.ex.choose_spec.1 h.blk (by decide) hb
  ·rcases hm with hm|rfl
   ·exact hx.1 (.inl (.inr (.inr (.inl hm))))
   ·exact hx.1 (.inl (.inl rfl))
 ·refine ((h.src.weak (Y:=fun b=>¬ PutW g R b∧b<W.heap.size) fun b hb hx=>⟨hx,hb⟩).kb hk1 (fun b _ hx hm=>?_)).weak fun b _ hx hm=>hx.1 (hPut b hx.2 hm)
  rcases hm with hm|rfl
  ·exact hx.1 (.inr (.inr hm))
  ·exact hx.1 (.inl rfl)
 ·refine h.kb.then hk1 fun b hb hm=>?_
  have hsz:=h.kb.size
  rcases hm with hm|rfl
  ·rcases h.new b (.inr (.inr hm)) with h1|h1
   ·exact h1
   ·omega
  ·exact .inl rfl
 ·intro b hm
  by_cases hb:b<W.heap.size
  ·exact h.new b (hPut b hb hm)
  ·exact .inr (by have:=h.kb.size;omega)
end
end Go.Proofs.YtdjhoankkddomaaGreat
namespace Go.Proofs.YtdjhoankkddomaaGreat
def spanSum (l:List (Nat × Nat)):Nat:=(l.map fun x=>x.2 - x.1).sum
theorem spanSum_append (l m:List (Nat × Nat)):spanSum (l++m)=spanSum l+spanSum m:=by simp [spanSum]
theorem spanSum_one (x:Nat × Nat):spanSum [x]=x.2 - x.1:=by simp [spanSum]
def apartR (x y:Nat × Nat):Prop:=x.2≤y.1∨y.2≤x.1
structure PathOk (i a b:Nat) (l:List (Nat × Nat)):Prop where
 each:∀ x ∈ l,a≤x.1∧x.1<x.2∧x.2≤b∧(x.2≤i∨i<x.1)
 sum:spanSum l+1=b - a
 apart:l.Pairwise apartR
theorem pathL_ok (d:Nat):∀ i a b:Nat,b - a≤d→a≤i→i<b→PathOk i a b (pathL i a b):=by
 induction d with
 | zero=>intro i a b h h1 h2;omega
 | succ d ih =>
  intro i a b h h1 h2
  by_cases hb:b - a<2
  ·rw [pathL_small i a b hb]
   exact ⟨by simp,by simp [spanSum];omega,List.Pairwise.nil⟩
  ·have hl:=splitN_lt (b - a) (by omega)
   have hp:=splitN_pos (b - a) (by omega)
   by_cases hi:i<a+splitN (b - a)
   ·rw [pathL_left i a b (by omega) hi]
    have hr:=ih i a (a+splitN (b - a)) (by omega) h1 hi
    refine ⟨fun x hx=>?_,?_,?_⟩
    ·rcases List.mem_append.1 hx with hx|hx
     ·obtain ⟨g1,g2,g3,g4⟩:=hr.each x hx
      exact ⟨g1,g2,by omega,g4⟩
     ·rw [List.mem_singleton.1 hx]
      exact ⟨by show a≤a+_;omega,by show a+_<b;omega,Nat.le_refl _,.inr hi⟩
    ·rw [spanSum_append,spanSum_one]
     have:=hr.sum
     show spanSum _+(b - (a+splitN (b - a)))+1=b - a
     omega
    ·refine List.pairwise_append.2 ⟨hr.apart,List.pairwise_singleton _ _,fun x hx y hy=>?_⟩
     rw [List.mem_singleton.1 hy]
     exact .inl (hr.each x hx).2.2.1
   ·rw [pathL_right i a b (by omega) hi]
    have hr:=ih i (a+splitN (b - a)) b (by omega) (by omega) h2
    refine ⟨fun x hx=>?_,?_,?_⟩
    ·rcases List.mem_append.1 hx with hx|hx
     ·obtain ⟨g1,g2,g3,g4⟩:=hr.each x hx
      exact ⟨by omega,g2,g3,g4⟩
     ·rw [List.mem_singleton.1 hx]
      exact ⟨Nat.le_refl _,by show a<a+_;omega,by show a+_≤b;omega,.inl (by show a+_≤i;omega)⟩
    ·rw [spanSum_append,spanSum_one]
     have:=hr.sum
     show spanSum _+(a+splitN (b - a) - a)+1=b - a
     omega
    ·refine List.pairwise_append.2 ⟨hr.apart,List.pairwise_singleton _ _,fun x hx y hy=>?_⟩
     rw [List.mem_singleton.1 hy]
     exact .inr (hr.each x hx).1
theorem pathL_len (d:Nat):∀ i a b:Nat,b - a≤2 ^ d→(pathL i a b).length≤d:=by
 induction d with
 | zero=>intro i a b h;rw [pathL_small i a b (by omega)];simp
 | succ d ih =>
  intro i a b h
  by_cases hb:b - a<2
  ·rw [pathL_small i a b hb];simp
  ·obtain ⟨j,h1,h2,h3⟩:=splitN_pow (b - a) (by omega)
   have hj:j≤d:=by
    have:2 ^ j<2 ^ (d+1):=by omega
    have:=(Nat.pow_lt_pow_iff_right (a:=2) (by decide)).1 this
    omega
   have hjd:2 ^ j≤2 ^ d:=Nat.pow_le_pow_right (by decide) hj
   have e:2 ^ (j+1)=2*2 ^ j:=by rw [Nat.pow_succ];omega
   by_cases hi:i<a+splitN (b - a)
   ·rw [pathL_left i a b (by omega) hi,List.length_append]
    have:=ih i a (a+splitN (b - a)) (by omega)
    simp;omega
   ·rw [pathL_right i a b (by omega) hi,List.length_append]
    have:=ih i (a+splitN (b - a)) b (by omega)
    simp;omega
def withinSum (m:Nat) (l:List (Nat × Nat)):Nat:=spanSum (l.filter fun x=>decide (x.2≤m))
def behindSum (m:Nat) (l:List (Nat × Nat)):Nat:=spanSum (l.filter fun x => !decide (x.2≤m))
theorem withinSum_append (m:Nat) (l k:List (Nat × Nat)):withinSum m (l++k)=withinSum m l+withinSum m k:=by simp [withinSum,spanSum_append]
theorem behindSum_append (m:Nat) (l k:List (Nat × Nat)):behindSum m (l++k)=behindSum m l+behindSum m k:=by simp [behindSum,spanSum_append]
theorem withinSum_one (m:Nat) (x:Nat × Nat):withinSum m [x]=if x.2≤m then x.2 - x.1 else 0:=by
 by_cases h:x.2≤m <;> simp [withinSum,spanSum,h]
theorem behindSum_one (m:Nat) (x:Nat × Nat):behindSum m [x]=if x.2≤m then 0 else x.2 - x.1:=by
 by_cases h:x.2≤m <;> simp [behindSum,spanSum,h]
structure StepsOk (m a n:Nat) (whole:Bool) (l:List (Nat × Nat)):Prop where
 each:∀ x ∈ l,a≤x.1∧x.1<x.2∧x.2≤a+n∧(x.2≤a+m∨a+m≤x.1)
 apart:l.Pairwise apartR
 behind:behindSum (a+m) l=n - m
 within:withinSum (a+m) l=m∨(withinSum (a+m) l=0∧whole=true∧(m=n∨∃ j,m=2 ^ j))
theorem stepsL_ok (d:Nat):∀ (m a n:Nat) (whole:Bool),n≤d→1≤m→m≤n→StepsOk m a n whole (stepsL m a n whole):=by
 induction d with
 | zero=>intro m a n whole h h1 h2;omega
 | succ d ih =>
  intro m a n whole h h1 h2
  by_cases hmn:m=n
  ·subst hmn
   rw [stepsL_eq m a whole h1]
   cases whole with
   | true=>exact ⟨by simp,by simp,by simp [behindSum,spanSum],.inr ⟨by simp [withinSum,spanSum],rfl,.inl rfl⟩⟩
   | false =>
    refine ⟨?_,by simp,?_,.inl ?_⟩
    ·simp only [Bool.false_eq_true,if_false,List.mem_singleton]
     rintro x rfl
     exact ⟨Nat.le_refl _,by show a<a+m;omega,Nat.le_refl _,.inl (Nat.le_refl _)⟩
    ·simp [behindSum_one]
    ·simp [withinSum_one]
  ·have hl:=splitN_lt n (by omega)
   have hp:=splitN_pos n (by omega)
   by_cases hk:m≤splitN n
   ·rw [stepsL_left m a n whole h1 (by omega) hk]
    have hr:=ih m a (splitN n) whole (by omega) h1 hk
    have hx2:¬ a+n≤a+m:=by omega
    refine ⟨fun x hx=>?_,?_,?_,?_⟩
    ·rcases List.mem_append.1 hx with hx|hx
     ·obtain ⟨g1,g2,g3,g4⟩:=hr.each x hx
      exact ⟨g1,g2,by omega,g4⟩
     ·rw [List.mem_singleton.1 hx]
      exact ⟨by show a≤a+splitN n;omega,by show a+splitN n<a+n;omega,Nat.le_refl _,.inr (by show a+m≤a+splitN n;omega)⟩
    ·refine List.pairwise_append.2 ⟨hr.apart,List.pairwise_singleton _ _,fun x hx y hy=>?_⟩
     rw [List.mem_singleton.1 hy]
     exact .inl (hr.each x hx).2.2.1
    ·rw [behindSum_append,behindSum_one,hr.behind,if_neg hx2]
     show splitN n - m+(a+n - (a+splitN n))=n - m
     omega
    ·rw [withinSum_append,withinSum_one,if_neg hx2]
     rcases hr.within with g|⟨g1,g2,g3⟩
     ·exact .inl (by omega)
     ·refine .inr ⟨by omega,g2,.inr ?_⟩
      rcases g3 with g3|g3
      ·obtain ⟨j,hj,_,_⟩:=splitN_pow n (by omega)
       exact ⟨j,by omega⟩
      ·exact g3
   ·rw [stepsL_right m a n whole h1 (by omega) hk]
    have hr:=ih (m - splitN n) (a+splitN n) (n - splitN n) false (by omega) (by omega) (by omega)
    have e:a+splitN n+(m - splitN n)=a+m:=by omega
    have hx2:a+splitN n≤a+m:=by omega
    have hbe:=hr.behind
    have hwi:=hr.within
    rw [e] at hbe hwi
    refine ⟨fun x hx=>?_,?_,?_,?_⟩
    ·rcases List.mem_append.1 hx with hx|hx
     ·obtain ⟨g1,g2,g3,g4⟩:=hr.each x hx
      exact ⟨by omega,g2,by omega,by omega⟩
     ·rw [List.mem_singleton.1 hx]
      exact ⟨Nat.le_refl _,by show a<a+splitN n;omega,by show a+splitN n≤a+n;omega,.inl hx2⟩
    ·refine List.pairwise_append.2 ⟨hr.apart,List.pairwise_singleton _ _,fun x hx y hy=>?_⟩
     rw [List.mem_singleton.1 hy]
     exact .inr (hr.each x hx).1
    ·rw [behindSum_append,behindSum_one,if_pos hx2]
     clear hwi hr ih
     omega
    ·rw [withinSum_append,withinSum_one,if_pos hx2]
     refine .inl ?_
     rcases hwi with g|⟨_,g2,_⟩
     ·rw [g];show m - splitN n+(a+splitN n - a)=m;omega
     ·cases g2
theorem stepsL_len (d:Nat):∀ (m a n:Nat) (whole:Bool),1≤m→m≤n→n≤2 ^ d→(stepsL m a n whole).length≤d+1:=by
 induction d with
 | zero =>
  intro m a n whole h1 h2 h
  obtain rfl:m=n:=by omega
  rw [stepsL_eq m a whole h1]
  cases whole <;> simp
 | succ d ih =>
  intro m a n whole h1 h2 h
  by_cases hmn:m=n
  ·subst hmn
   rw [stepsL_eq m a whole h1]
   cases whole <;> simp
  ·obtain ⟨j,g1,g2,g3⟩:=splitN_pow n (by omega)
   have hj:j≤d:=by
    have:2 ^ j<2 ^ (d+1):=by omega
    have:=(Nat.pow_lt_pow_iff_right (a:=2) (by decide)).1 this
    omega
   have hjd:2 ^ j≤2 ^ d:=Nat.pow_le_pow_right (by decide) hj
   have e:2 ^ (j+1)=2*2 ^ j:=by rw [Nat.pow_succ];omega
   by_cases hk:m≤splitN n
   ·rw [stepsL_left m a n whole h1 (by omega) hk,List.length_append]
    have:=ih m a (splitN n) whole h1 hk (by omega)
    simp;omega
   ·rw [stepsL_right m a n whole h1 (by omega) hk,List.length_append]
    have:=ih (m - splitN n) (a+splitN n) (n - splitN n) false (by omega) (by omega) (by omega)
    simp;omega
end Go.Proofs.YtdjhoankkddomaaGreat
namespace Go.Proofs.YtdjhoankkddomaaGreat
open Go Go.RowKit
theorem natR_append (a b:List (Nat × Nat)):natR (a++b)=natR a++natR b:=by simp [natR]
theorem natR_length (a:List (Nat × Nat)):(natR a).length=a.length:=by simp [natR]
theorem tpath_bad (i n:Int) (w:World) (h:i<0∨n≤i) :
  Calls Tryz.prog 95 #[.int .i64 i,.int .i64 n] w fun e w'=>e = .returned (.tuple #[.slice none 0 0,.int .i64 4])∧w=w':=by
 by_cases h0:i<0
 ·go_enter Tryz.func95,Tryz.ntmps95
  go_wp2_with fail
  go_ret2
  exact ⟨rfl,rfl⟩
 ·have h1:decide (n≤i)=true:=by simp;omega
  have h0':decide (i<0)=false:=by simp;omega
  go_enter Tryz.func95,Tryz.ntmps95
  go_wp2_with fail
  go_ret2
  exact ⟨rfl,rfl⟩
structure PtC (w:World) (os:List (Nat × Nat)) (v:Value) (W:World):Prop where
 own:W.ownsRow w.heap.size 164 2 v os.length (rcells (natR os))
 bel:Below w.heap.size w W
set_option maxHeartbeats 2000000 in
set_option maxRecDepth 100000 in
theorem tpath_ok (i n:Nat) (w:World) (hi:i<n) (hn:n≤9223372036854775807) :
  Calls Tryz.prog 95 #[.int .i64 (i:Int),.int .i64 (n:Int)] w fun e w'=>∃ v,e = .returned (.tuple #[v,.int .i64 0])∧w'.ownsRow w.heap.size 164 2 v (pathL i 0 n).length (rcells (natR (pathL i 0 n)))∧Below w.heap.size w w':=by
 obtain ⟨p,hp⟩:∃ p,pathL i 0 n=p:=⟨_,rfl⟩
 have hpl:p.length≤63:=by rw [← hp];exact pathL_len 63 i 0 n (by omega)
 rw [hp]
 have Hp:=Lib.hid hp
 clear hp
 have h0:decide ((i:Int)<0)=false:=by simp
 have h1:decide ((n:Int)≤(i:Int))=false:=by simp;omega
 have h1':decide (n≤i)=false:=by simp;omega
 go_enter Tryz.func95,Tryz.ntmps95
 go_wp2_with fail
 clear h0 h1 h1'
 go_loopw [6,7,8] (fun o f t wr=>∃ (a b:Nat) (v:Value) (os:List (Nat × Nat)),f = .int .i64 (a:Int)∧t = .int .i64 (b:Int)∧v=o∧a≤i∧i<b∧b≤n∧pathL i a b++os.reverse=p∧PtC w os v wr) (fun _ f t=>fun _=>(intOf t - intOf f).toNat)
 case atStart=>exact ⟨0,n,_,[],rfl,rfl,rfl,Nat.zero_le _,hi,Nat.le_refl _,by simpa using Hp.out,World.ownsRow_nil _ _ _ _,Below.refl _ _⟩
 case round =>
  obtain ⟨a,b,v,os,rfl,rfl,rfl,ha,hib,hbn,hpa,hC⟩:=hrel
  have hol:os.length≤63:=by have:=congrArg List.length hpa;rw [List.length_append,List.length_reverse] at this;omega
  by_cases hgt:1<b - a
  ·have hd:decide ((1:Int)<(b:Int) - (a:Int))=true:=by simp;omega
   have hsl:=splitN_lt (b - a) (by omega)
   have hsp:=splitN_pos (b - a) (by omega)
   have hpl':=pathL_left i a b (by omega)
   have hpr':=pathL_right i a b (by omega)
   have hspl:=fun w=>tsplit_any ((b:Int) - (a:Int)) w (by omega)
   rw [show ((b:Int) - (a:Int)).toNat=b - a by omega] at hspl
   obtain ⟨s,hs⟩:∃ s,splitN (b - a)=s:=⟨_,rfl⟩
   rw [hs] at hsl hsp hpl' hpr' hspl
   have Hpl:=Lib.hid hpl'
   have Hpr:=Lib.hid hpr'
   have Hspl:=Lib.hid hspl
   have Hpa:=Lib.hid hpa
   clear hs hpl' hpr' hspl hpa
   by_cases hlt:i<a+s
   ·have hd2:decide ((i:Int)<(a:Int)+(s:Int))=true:=by simp;omega
    obtain ⟨v',w',hr,ho,hg,-⟩:=append_r hC.own (((a+s:Nat):Int),(b:Int)) (by omega) hC.bel.size
    rw [show natR os++[(((a+s:Nat):Int),(b:Int))]=natR (os++[(a+s,b)]) by rw [natR_append];rfl] at ho
    rw [show os.length+1=(os++[(a+s,b)]).length by simp] at ho
    rw [show ((a+s:Nat):Int)=(a:Int)+(s:Int) by omega] at hr
    have hC2:PtC w (os++[(a+s,b)]) v' w':=⟨ho,hC.bel.grown hg hC.bel.size (fun k hk=>(hC.own.lt k hk).1)⟩
    have Hr:=Lib.hid hr
    clear hr ho hg hC
    go_wp2_with (first
     | (go_at_call 108;refine (Hspl.out _).mono ?_;rintro e w2 ⟨rfl,rfl⟩)
     | ((with_reducible show wpList _ _ _ (⟨some 36,.call _,_,_,_,_⟩::_) _ _);refine wpList_run rfl v' w' (run_append_op (.tmp 31) (.tmp 35) 157 rfl _ _ rfl rfl Hr.out) ?_;simp only [Act.put]))
    refine ⟨⟨a,a+s,v',os++[(a+s,b)],rfl,by go_num,rfl,ha,hlt,by omega,?_,hC2⟩,?_⟩
    ·rw [← Hpa.out,Hpl.out hlt];simp
    ·simp [intOf];omega
   ·have hd2:decide ((i:Int)<(a:Int)+(s:Int))=false:=by simp;omega
    obtain ⟨v',w',hr,ho,hg,-⟩:=append_r hC.own ((a:Int),((a+s:Nat):Int)) (by omega) hC.bel.size
    rw [show natR os++[((a:Int),((a+s:Nat):Int))]=natR (os++[(a,a+s)]) by rw [natR_append];rfl] at ho
    rw [show os.length+1=(os++[(a,a+s)]).length by simp] at ho
    rw [show ((a+s:Nat):Int)=(a:Int)+(s:Int) by omega] at hr
    have hC2:PtC w (os++[(a,a+s)]) v' w':=⟨ho,hC.bel.grown hg hC.bel.size (fun k hk=>(hC.own.lt k hk).1)⟩
    have Hr:=Lib.hid hr
    clear hr ho hg hC
    go_wp2_with (first
     | (go_at_call 108;refine (Hspl.out _).mono ?_;rintro e w2 ⟨rfl,rfl⟩)
     | ((with_reducible show wpList _ _ _ (⟨some 43,.call _,_,_,_,_⟩::_) _ _);refine wpList_run rfl v' w' (run_append_op (.tmp 38) (.tmp 42) 157 rfl _ _ rfl rfl Hr.out) ?_;simp only [Act.put]))
    refine ⟨⟨a+s,b,v',os++[(a,a+s)],by go_num,rfl,rfl,by omega,hib,hbn,?_,hC2⟩,?_⟩
    ·rw [← Hpa.out,Hpr.out hlt];simp
    ·simp [intOf];omega
  ·have hd:decide ((1:Int)<(b:Int) - (a:Int))=false:=by simp;omega
   have hos:os.reverse=p:=by rw [← hpa,pathL_small i a b (by omega)];rfl
   have hol2:os.length=p.length:=by rw [← hos,List.length_reverse]
   have hrev:=rev_any (natR os) v os.length w.heap.size wr hC.own (natR_length os) (by omega)
   rw [show (natR os).reverse=natR p by rw [← hos];simp [natR],hol2] at hrev
   have Hrev:=Lib.hid hrev
   clear hos hpa hrev
   go_wp2_with fail
   refine Hrev.out.mono ?_
   rintro e w2 ⟨⟨r,rfl⟩,ho2,hg2⟩
   have hb2:=hC.bel.grown hg2 hC.bel.size (fun k hk=>(hC.own.lt k hk).1)
   clear hol2
   go_wp2_with fail
   go_ret2
   exact ⟨_,rfl,ho2,hb2⟩
end Go.Proofs.YtdjhoankkddomaaGreat
