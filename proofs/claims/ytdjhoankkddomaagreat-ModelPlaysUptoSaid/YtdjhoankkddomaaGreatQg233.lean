import Derived.Test.YtdjhoankkddomaaGreatQg231
import Derived.Test.YtdjhoankkddomaaGreatQg220
import Derived.Test.YtdjhoankkddomaaGreatQg215
namespace Go.Proofs.YtdjhoankkddomaaGreat
open Go Go.RowKit Go.Shelf
attribute [local go_sem] Oper.semAt_some
def MoV.failE (m:MoV) (c:Int):Int:=if m.only then 10 else if c<1∨3<c then 2 else 0
def MoV.failM (m:MoV) (c:Int):MoV:=if m.only then m else if c=1 then m.lose else if c=2 then { m with only:=true } else if c=3 then { m with ptS:=(m.ents.length:Int),ptR:=m.nowR,pointing:=true,only:=true } else m
section
variable {W:World} {Z:Nat→Prop} {g:Nat} {R:XdR} {m:MoV}
set_option maxHeartbeats 4000000 in
set_option maxRecDepth 100000 in
theorem xpublish_only (h:Xd Z g R m W) (ho:m.only=true) :
  Calls Tryz.prog 22 #[.pointer (some ⟨g,0,none⟩)] W fun e w'=>e = .returned (.tuple #[.agg (.int .i64 0::zero32.map B).toArray,.int .i64 10])∧Below W.heap.size W w':=by
 obtain ⟨w1,hw1⟩:∃ x,W.alloc (.cells (.int .i64 0::(List.replicate 32 0).map B).toArray 55)=x:=⟨_,rfl⟩
 have p1:PB w1 W.heap.size 0 (List.replicate 32 0):=by rw [← hw1];exact ⟨Blk.new _ _ _,by simp⟩
 have B1:Below W.heap.size W w1:=by rw [← hw1];exact (Below.refl _ _).alloc (Nat.le_refl _) _
 have hmay:=xmay_any (h.step B1)
 rw [ho] at hmay
 obtain ⟨pc,hpc⟩:∃ x,(Value.int .i64 0::zero32.map B).toArray=x:=⟨_,rfl⟩
 have hpc33:pc.size=33:=by rw [← hpc];rfl
 have hpc1:∀ v ∈ pc.toList,v.oneCell'=true:=by rw [← hpc];exact oneCell_pt _ _
 have p5:PB (w1.setRow W.heap.size pc) W.heap.size 0 zero32:=⟨by rw [hpc];exact p1.blk.setRow_ _,rfl⟩
 have B5:Below W.heap.size W (w1.setRow W.heap.size pc):=below_setRow B1 (Nat.le_refl _) _
 have k1:=p1.blk
 have Hpc:=Lib.hid hpc
 have Hpc1:=Lib.hid hpc1
 have Hw1:=Lib.hid hw1
 rw [hpc]
 clear hw1 h hpc hpc1 ho p1
 go_enter Tryz.func22,Tryz.ntmps22
 go_wp2_with (first
  | ((with_reducible show wpList _ _ _ (⟨some 2,.alloc _,_,_,_,_⟩::_) _ _);refine wpList_run rfl (.pointer (some ⟨W.heap.size,0,none⟩)) w1 (by rw [← Hw1.out];kernel_rfl) ?_;simp only [Act.put,List.setIfInBounds_toArray,List.set_cons_succ,List.set_cons_zero])
  | (go_at_call 21;refine hmay.mono ?_;rintro e w' ⟨rfl,hw⟩;obtain rfl:=hw.symm)
  | ((with_reducible show wpList _ _ _ (⟨some 9,.build _ _,_,_,_,_⟩::_) _ _);refine wpList_run0 rfl (.agg pc) (by rw [← Hpc.out];kernel_rfl) ?_;simp only [Act.put,List.setIfInBounds_toArray,List.set_cons_succ,List.set_cons_zero])
  | ((with_reducible show wpList _ _ _ (⟨none,.store _ (.tmp 2) _,_,_,_,_⟩::_) _ _);refine wpList_store_blk rfl 55 (.tmp 2) (.tmp 9) rfl 33 ptSize W.heap.size pc rfl rfl hpc33 Hpc1.out 55 _ k1 (by simp) ?_;simp only [Act.put]))
 refine bodyPost_ret (tuple_pt rfl _ _ W.heap.size 0 zero32 rfl p5) rfl ⟨by rw [← Hpc.out];rfl,B5⟩
set_option maxHeartbeats 4000000 in
set_option maxRecDepth 100000 in
theorem xpublish_any (h:Xd Z g R m W) (ho:m.only=false) (hs:∀ x ∈ m.ents,x.length≤4096) (hN:m.ents.length≤100000) :
  Calls Tryz.prog 22 #[.pointer (some ⟨g,0,none⟩)] W fun e w'=>e = .returned (.tuple #[.agg (.int .i64 (m.ents.length:Int)::m.nowR.map B).toArray,.int .i64 0])∧XdS Z g m.publish W w':=by
 obtain ⟨root,hroot⟩:∃ x,m.nowR=x:=⟨_,rfl⟩
 have hr32:root.length=32:=by rw [← hroot];exact length_rootL _ (H32.lvs _)
 obtain ⟨w1,hw1⟩:∃ x,W.alloc (.cells (.int .i64 0::(List.replicate 32 0).map B).toArray 55)=x:=⟨_,rfl⟩
 have p1:PB w1 W.heap.size 0 (List.replicate 32 0):=by rw [← hw1];exact ⟨Blk.new _ _ _,by simp⟩
 have B1:Below W.heap.size W w1:=by rw [← hw1];exact (Below.refl _ _).alloc (Nat.le_refl _) _
 have h1:=h.step B1
 have hmay:=xmay_any h1
 rw [ho] at hmay
 have hnow:=xnow_any h1 hs hN
 rw [hroot] at hnow ⊢
 have hgl:=h.blk.lt
 obtain ⟨n,hke⟩:∃ x,m.ents.length=x:=⟨_,rfl⟩
 rw [hke] at hnow ⊢
 obtain ⟨pc,hpc⟩:∃ x,(Value.int .i64 (n:Int)::root.map B).toArray=x:=⟨_,rfl⟩
 have hpc33:pc.size=33:=by rw [← hpc];simp [hr32]
 have hpc1:∀ v ∈ pc.toList,v.oneCell'=true:=by rw [← hpc];exact oneCell_pt _ _
 rw [hpc] at hnow ⊢
 have hpub:m.publish={ m with has:=true,lastS:=(n:Int),lastR:=root }:=by rw [← hke,← hroot];rfl
 have Hpub:=Lib.hid hpub
 have Hnow:=Lib.hid hnow
 have Hw1:=Lib.hid hw1
 have Hpc:=Lib.hid hpc
 have Hpc1:=Lib.hid hpc1
 clear hnow hw1 hpc hpc1 hroot hke hpub ho hs hN
 go_enter Tryz.func22,Tryz.ntmps22
 go_wp2_with (first
  | ((with_reducible show wpList _ _ _ (⟨some 2,.alloc _,_,_,_,_⟩::_) _ _);refine wpList_run rfl (.pointer (some ⟨W.heap.size,0,none⟩)) w1 (by rw [← Hw1.out];kernel_rfl) ?_;simp only [Act.put,List.setIfInBounds_toArray,List.set_cons_succ,List.set_cons_zero])
  | (go_at_call 21;refine hmay.mono ?_;rintro e w' ⟨rfl,hw⟩;obtain rfl:=hw.symm))
 refine Hnow.out.mono ?_
 rintro e w2 ⟨rfl,hb2⟩
 have h2:=h1.step hb2
 have p2:=p1.step hb2
 have B2:=B1.trans (hb2.mono B1.size)
 have c4:=h2.blk.cellX 4 (by decide)
 have f4:=h2.blk.frozen 4
 obtain ⟨w3,hw3⟩:∃ x,w2.setCell ⟨g,4,none⟩ (.bool true)=x:=⟨_,rfl⟩
 have k3:Blk w3 g 60 (xdArr R { m with has:=true }):=by
  rw [← hw3]
  exact h2.blk.setX 4 (by decide) _ rfl fun i hi hne=>by simp only [xcell,hne,if_false]
 have hK3:KB (fun b=>b=g) W w3:=by rw [← hw3];exact kb_cell (M:=fun b=>b=g) (KB.of_below B2) rfl 4 _
 have hg3:w2.grownBy w3 (some g):=by rw [← hw3];exact grown_setCell (World.grownBy.refl _ _) 4 _
 obtain ⟨w4,hw4⟩:∃ x,w3.setRow g ((xdArr R { m with has:=true }).toList.take 5++pc.toList++(xdArr R { m with has:=true }).toList.drop (5+33)).toArray=x:=⟨_,rfl⟩
 have hg4:w2.grownBy w4 (some g):=by rw [← hw4];exact grown_setRow hg3 _
 have k4:Blk w4 g 60 (xdArr R m.publish):=by
  rw [← hw4,Hpub.out]
  have:=k3.setRow_ ((xdArr R { m with has:=true }).toList.take 5++pc.toList++(xdArr R { m with has:=true }).toList.drop (5+33)).toArray
  rw [← Hpc.out] at this ⊢
  rw [List.toList_toArray,xd_last (n:Int) root hr32] at this ⊢
  exact this
 have hK4:KB (fun b=>b=g) W w4:=(KB.of_below B2).trans (KB.of_grown hg4 fun r e=>(Option.some.inj e).symm)
 have h4:Xd Z g R m.publish w4:=h.turn hK4 k4 rfl rfl rfl (by rw [Hpub.out];exact hr32) h.ptL
 have hld:(Instr.loadAt 55 (.pointer (some ⟨g,5,none⟩))).run Tryz.prog w4 = .ok (.agg pc) w4:=by
  have:=h4.loadLast
  rw [Hpub.out] at this
  rw [← Hpc.out]
  exact this
 have p4:PB w4 W.heap.size 0 (List.replicate 32 0):=⟨p2.blk.grown hg4 (fun e=>by have e:=Option.some.inj e;omega),p2.rl⟩
 have p5:PB (w4.setRow W.heap.size pc) W.heap.size (n:Int) root:=⟨by rw [Hpc.out];exact p4.blk.setRow_ _,hr32⟩
 have hKs:KB (fun b=>b=W.heap.size) w4 (w4.setRow W.heap.size pc):=KB.of_grown (grown_setRow (World.grownBy.refl _ (some W.heap.size)) pc) fun r e=>(Option.some.inj e).symm
 have hK5:KB (fun b=>b=g) W (w4.setRow W.heap.size pc):=hK4.then hKs fun b hb e=>by omega
 have h5:Xd Z g R m.publish (w4.setRow W.heap.size pc):=h.turn hK5 (hKs.blk k4 (by omega)) rfl rfl rfl (by rw [Hpub.out];exact hr32) h.ptL
 have Hw3:=Lib.hid hw3
 have Hw4:=Lib.hid hw4
 have H5:=Lib.hid h5
 have HK5:=Lib.hid hK5
 have hp4:=p4.blk
 clear hw3 hw4 h5 hK5 hKs hK4 hg3 hg4 k4 h4 h2 p2 p1 h1 hmay hK3 p4 h B1 B2 hb2
 go_wp2_with (first
  | ((with_reducible show wpList _ _ _ (⟨none,.store _ (.tmp 16) _,_,_,_,_⟩::_) _ _);refine wpList_put1i rfl 4 (.tmp 16) (.const (.bool true)) rfl sizeBl ⟨g,4,none⟩ (.bool true) rfl rfl rfl _ c4 f4 ?_;rw [Hw3.out];simp only [Act.put])
  | ((with_reducible show wpList _ _ _ [⟨none,.store _ (.tmp 18) _,_,_,_,_⟩] _ _);refine wpList_store_agg rfl 55 (.tmp 18) (.tmp 14) rfl 33 ptSize g 5 pc rfl rfl hpc33 Hpc1.out 60 (xdArr R { m with has:=true }) k3 (by rw [xd_size];decide) ?_;rw [Hw4.out];simp only [Act.put])
  | ((with_reducible show wpList _ _ _ (⟨some 22,.load _ _,_,_,_,_⟩::_) _ _);refine wpList_load rfl 55 (.tmp 21) rfl g 5 rfl pc hld ?_;simp only [Act.put,List.setIfInBounds_toArray,List.set_cons_succ,List.set_cons_zero])
  | ((with_reducible show wpList _ _ _ (⟨none,.store _ (.tmp 2) _,_,_,_,_⟩::_) _ _);refine wpList_store_blk rfl 55 (.tmp 2) (.tmp 22) rfl 33 ptSize W.heap.size pc rfl rfl hpc33 Hpc1.out 55 _ hp4 (by simp) ?_;simp only [Act.put]))
 refine bodyPost_ret (tuple_pt rfl _ _ W.heap.size (n:Int) root rfl p5) rfl ⟨by rw [← Hpc.out];rfl,⟨R,H5.out⟩,HK5.out⟩
set_option maxHeartbeats 4000000 in
set_option maxRecDepth 100000 in
theorem xfail_any (h:Xd Z g R m W) (c:Int) (hs:∀ x ∈ m.ents,x.length≤4096) (hN:m.ents.length≤100000) :
  Calls Tryz.prog 24 #[.pointer (some ⟨g,0,none⟩),.int .i64 c] W fun e w'=>e = .returned (.int .i64 (m.failE c))∧XdS Z g (m.failM c) W w':=by
 have hmay:=xmay_any h
 by_cases ho:m.only=true
 ·have e1:m.failE c=10:=by unfold MoV.failE;rw [if_pos ho]
  have e2:m.failM c=m:=by unfold MoV.failM;rw [if_pos ho]
  rw [e1,e2]
  rw [ho] at hmay
  have HS:=Lib.hid (XdS.same h)
  clear h ho e1 e2
  go_enter Tryz.func24,Tryz.ntmps24
  go_wp2_with (go_at_call 21;refine hmay.mono ?_;rintro e w' ⟨rfl,hw⟩;obtain rfl:=hw.symm)
  go_ret
  exact ⟨rfl,HS.out⟩
 have ho:m.only=false:=by simpa using ho
 rw [ho] at hmay
 by_cases hc:c<1∨3<c
 ·have e1:m.failE c=2:=by unfold MoV.failE;rw [if_neg (by rw [ho];decide),if_pos hc]
  have e2:m.failM c=m:=by unfold MoV.failM;rw [if_neg (by rw [ho];decide),if_neg (by omega),if_neg (by omega),if_neg (by omega)]
  rw [e1,e2]
  have HS:=Lib.hid (XdS.same h)
  clear h ho e1 e2 hs hN
  by_cases h1:c<1
  ·have d1:decide (c<1)=true:=by simpa using h1
   clear hc
   go_enter Tryz.func24,Tryz.ntmps24
   go_wp2_with (go_at_call 21;refine hmay.mono ?_;rintro e w' ⟨rfl,hw⟩;obtain rfl:=hw.symm)
   go_ret
   exact ⟨rfl,HS.out⟩
  ·have d1:decide (c<1)=false:=by simpa using h1
   have h2:3<c:=by omega
   have d2:decide (3<c)=true:=by simpa using h2
   clear hc
   go_enter Tryz.func24,Tryz.ntmps24
   go_wp2_with (go_at_call 21;refine hmay.mono ?_;rintro e w' ⟨rfl,hw⟩;obtain rfl:=hw.symm)
   go_ret
   exact ⟨rfl,HS.out⟩
 have e1:m.failE c=0:=by unfold MoV.failE;rw [if_neg (by rw [ho];decide),if_neg hc]
 rw [e1]
 clear e1
 have hc3:c=1∨c=2∨c=3:=by omega
 clear hc
 have c73:=h.cell 73 (by decide)
 rcases hc3 with rfl|rfl|rfl
 ·have e2:m.failM 1=m.lose:=by unfold MoV.failM;rw [if_neg (by rw [ho];decide),if_pos rfl]
  rw [e2]
  obtain ⟨Aq,cq,hRq,hqe⟩:=h.queue
  have c3:W.cell? ⟨g,3,none⟩=some (.slice Aq m.queue.length cq):=(h.cell 3 (by decide)).trans (congrArg some hRq)
  have hrq:=hqe.room
  have hmq:=hqe.max
  unfold maxLen at hmq
  by_cases h0:m.queue=[]
  ·have hl:m.lose=m:=by unfold MoV.lose;rw [if_pos h0]
   rw [hl]
   rw [h0] at c3
   have c3:W.cell? ⟨g,3,none⟩=some (.slice Aq 0 cq):=c3
   have HS:=Lib.hid (XdS.same h)
   clear h ho e2 hs hN hl h0 hRq hqe c73 hrq
   go_enter Tryz.func24,Tryz.ntmps24
   go_wp2_with (go_at_call 21;refine hmay.mono ?_;rintro e w' ⟨rfl,hw⟩;obtain rfl:=hw.symm)
   go_ret
   exact ⟨rfl,HS.out⟩
  ·have hl:m.lose={ m with begun:=m.queue,only:=true }:=by unfold MoV.lose;rw [if_neg h0]
   rw [hl]
   have hn0:0<m.queue.length:=List.length_pos_iff.2 h0
   have c38:=h.cell 38 (by decide)
   have f38:=h.blk.frozen 38
   obtain ⟨w1,hw1⟩:∃ x,W.setCell ⟨g,38,none⟩ R.q=x:=⟨_,rfl⟩
   have k1:Blk w1 g 60 (xdArr { R with b:=R.q } { m with begun:=m.queue }):=by
    rw [← hw1]
    exact h.blk.setX 38 (by decide) _ rfl fun i hi hne=>by simp only [xcell,hne,if_false]
   have d73:=k1.cellX 73 (by decide)
   have f73:=k1.frozen 73
   have k2:Blk (w1.setCell ⟨g,73,none⟩ (.bool true)) g 60 (xdArr { R with b:=R.q } { m with begun:=m.queue,only:=true }) :=
    k1.setX 73 (by decide) _ rfl fun i hi hne=>by
     have hi73:i<73:=by omega
     simp only [xcell,hi73,if_true]
   have hK:KB (fun b=>b=g) W (w1.setCell ⟨g,73,none⟩ (.bool true)):=by rw [← hw1];exact kb_cell (M:=fun b=>b=g) (kb_cell (M:=fun b=>b=g) (KB.refl _ _) rfl 38 _) rfl 73 _
   have hF:XdS Z g { m with begun:=m.queue,only:=true } W (w1.setCell ⟨g,73,none⟩ (.bool true)):=by
    obtain ⟨A5,c5,e5,q5⟩:=h.ents
    have hq':=hqe.kb hK fun b _ hx e=>hx (.inl e)
    exact ⟨⟨{ R with b:=R.q },k2,h.lastL,h.ptL,⟨A5,c5,e5,q5.kb hK fun b _ hx e=>hx (.inl e)⟩,⟨Aq,cq,hRq,hq'⟩,⟨Aq,cq,hRq,hq'⟩,fun b hz=>Nat.lt_of_lt_of_le (h.zlt b hz) hK.size,h.zno⟩,hK⟩
   have hw1':W.setCell ⟨g,38,none⟩ (.slice Aq m.queue.length cq)=w1:=by rw [← hRq];exact hw1
   obtain ⟨k,hk⟩:∃ x,m.queue.length=x:=⟨_,rfl⟩
   rw [hk] at c3 hrq hw1' hn0
   have dk:decide ((k:Int)=0)=false:=by simp;omega
   have dk2:((k:Int)==0)=false:=by simpa using dk
   have HF:=Lib.hid hF
   have Hw1:=Lib.hid hw1'
   clear h ho e2 hs hN hl h0 hRq hqe hk hw1 hw1' hF hK k1 k2 c73
   go_enter Tryz.func24,Tryz.ntmps24
   go_wp2_with (first
    | (go_at_call 21;refine hmay.mono ?_;rintro e w' ⟨rfl,hw⟩;obtain rfl:=hw.symm)
    | ((with_reducible show wpList _ _ _ [⟨none,.store _ (.tmp 35) _,_,_,_,_⟩] _ _);refine wpList_put1i rfl 48 (.tmp 35) (.tmp 33) rfl sizeEs ⟨g,38,none⟩ (.slice Aq k cq) rfl rfl rfl _ c38 f38 ?_;rw [Hw1.out];simp only [Act.put])
    | ((with_reducible show wpList _ _ _ [⟨none,.store _ (.tmp 48) _,_,_,_,_⟩] _ _);refine wpList_put1i rfl 4 (.tmp 48) (.const (.bool true)) rfl sizeBl ⟨g,73,none⟩ (.bool true) rfl rfl rfl _ d73 f73 ?_;simp only [Act.put]))
   go_ret
   exact ⟨rfl,HF.out⟩
 ·have e2:m.failM 2={ m with only:=true }:=by unfold MoV.failM;rw [if_neg (by rw [ho];decide),if_neg (by decide),if_pos rfl]
  rw [e2]
  have f73:=h.blk.frozen 73
  have k2:Blk (W.setCell ⟨g,73,none⟩ (.bool true)) g 60 (xdArr R { m with only:=true }) :=
   h.blk.setX 73 (by decide) _ rfl fun i hi hne=>by
    have hi73:i<73:=by omega
    simp only [xcell,hi73,if_true]
  have hK:KB (fun b=>b=g) W (W.setCell ⟨g,73,none⟩ (.bool true)):=kb_cell (M:=fun b=>b=g) (KB.refl _ _) rfl 73 _
  have hF:XdS Z g { m with only:=true } W (W.setCell ⟨g,73,none⟩ (.bool true)):=⟨⟨R,h.turn hK k2 rfl rfl rfl h.lastL h.ptL⟩,hK⟩
  have HF:=Lib.hid hF
  have d73:=c73
  clear h ho e2 hs hN hF hK k2 c73
  go_enter Tryz.func24,Tryz.ntmps24
  go_wp2_with (first
   | (go_at_call 21;refine hmay.mono ?_;rintro e w' ⟨rfl,hw⟩;obtain rfl:=hw.symm)
   | ((with_reducible show wpList _ _ _ [⟨none,.store _ (.tmp 48) _,_,_,_,_⟩] _ _);refine wpList_put1i rfl 4 (.tmp 48) (.const (.bool true)) rfl sizeBl ⟨g,73,none⟩ (.bool true) rfl rfl rfl _ d73 f73 ?_;simp only [Act.put]))
  go_ret
  exact ⟨rfl,HF.out⟩
 ·have e2:m.failM 3={ m with pointing:=true,ptS:=(m.ents.length:Int),ptR:=m.nowR,only:=true }:=by unfold MoV.failM;rw [if_neg (by rw [ho];decide),if_neg (by decide),if_neg (by decide),if_pos rfl]
  rw [e2]
  have hnow:=xnow_any h hs hN
  obtain ⟨root,hroot⟩:∃ x,m.nowR=x:=⟨_,rfl⟩
  have hr32:root.length=32:=by rw [← hroot];exact length_rootL _ (H32.lvs _)
  obtain ⟨n,hke⟩:∃ x,m.ents.length=x:=⟨_,rfl⟩
  rw [hroot,hke] at hnow ⊢
  obtain ⟨pc,hpc⟩:∃ x,(Value.int .i64 (n:Int)::root.map B).toArray=x:=⟨_,rfl⟩
  have hpc33:pc.size=33:=by rw [← hpc];simp [hr32]
  have hpc1:∀ v ∈ pc.toList,v.oneCell'=true:=by rw [← hpc];exact oneCell_pt _ _
  rw [hpc] at hnow
  have Hnow:=Lib.hid hnow
  have Hpc:=Lib.hid hpc
  have Hpc1:=Lib.hid hpc1
  clear hnow hpc hpc1 hroot hke ho hs hN e2 c73
  go_enter Tryz.func24,Tryz.ntmps24
  go_wp2_with (go_at_call 21;refine hmay.mono ?_;rintro e w' ⟨rfl,hw⟩;obtain rfl:=hw.symm)
  refine Hnow.out.mono ?_
  rintro e w2 ⟨rfl,hb2⟩
  have h2:=h.step hb2
  have c39:=h2.blk.cellX 39 (by decide)
  have f39:=h2.blk.frozen 39
  obtain ⟨w3,hw3⟩:∃ x,w2.setCell ⟨g,39,none⟩ (.bool true)=x:=⟨_,rfl⟩
  have k3:Blk w3 g 60 (xdArr R { m with pointing:=true }):=by
   rw [← hw3]
   exact h2.blk.setX 39 (by decide) _ rfl fun i hi hne=>by simp only [xcell,hne,if_false]
  have hK3:KB (fun b=>b=g) W w3:=by rw [← hw3];exact kb_cell (M:=fun b=>b=g) (KB.of_below hb2) rfl 39 _
  obtain ⟨w4,hw4⟩:∃ x,w3.setRow g ((xdArr R { m with pointing:=true }).toList.take 40++pc.toList++(xdArr R { m with pointing:=true }).toList.drop (40+33)).toArray=x:=⟨_,rfl⟩
  have k4:Blk w4 g 60 (xdArr R { m with pointing:=true,ptS:=(n:Int),ptR:=root }):=by
   rw [← hw4]
   have:=k3.setRow_ ((xdArr R { m with pointing:=true }).toList.take 40++pc.toList++(xdArr R { m with pointing:=true }).toList.drop (40+33)).toArray
   rw [← Hpc.out] at this ⊢
   rw [List.toList_toArray,xd_pt (n:Int) root hr32] at this ⊢
   exact this
  have hK4:KB (fun b=>b=g) W w4:=by rw [← hw4];exact hK3.trans (KB.of_grown (grown_setRow (World.grownBy.refl _ (some g)) _) fun r e=>(Option.some.inj e).symm)
  have d73:=k4.cellX 73 (by decide)
  have f73:=k4.frozen 73
  have k5:Blk (w4.setCell ⟨g,73,none⟩ (.bool true)) g 60 (xdArr R { m with pointing:=true,ptS:=(n:Int),ptR:=root,only:=true }) :=
   k4.setX 73 (by decide) _ rfl fun i hi hne=>by
    have hi73:i<73:=by omega
    simp only [xcell,hi73,if_true]
  have hK5:KB (fun b=>b=g) W (w4.setCell ⟨g,73,none⟩ (.bool true)):=kb_cell (M:=fun b=>b=g) hK4 rfl 73 _
  have hF:XdS Z g { m with pointing:=true,ptS:=(n:Int),ptR:=root,only:=true } W (w4.setCell ⟨g,73,none⟩ (.bool true)):=⟨⟨R,h.turn hK5 k5 rfl rfl rfl h.lastL hr32⟩,hK5⟩
  have HF:=Lib.hid hF
  have Hw3:=Lib.hid hw3
  have Hw4:=Lib.hid hw4
  clear hF hK5 k5 k4 hK4 hK3 hw3 hw4 h2 hb2 h hmay Hnow
  go_wp2_with (first
   | ((with_reducible show wpList _ _ _ (⟨none,.store _ (.tmp 43) _,_,_,_,_⟩::_) _ _);refine wpList_put1i rfl 4 (.tmp 43) (.const (.bool true)) rfl sizeBl ⟨g,39,none⟩ (.bool true) rfl rfl rfl _ c39 f39 ?_;rw [Hw3.out];simp only [Act.put])
   | ((with_reducible show wpList _ _ _ [⟨none,.store _ (.tmp 45) _,_,_,_,_⟩] _ _);refine wpList_store_agg rfl 55 (.tmp 45) (.tmp 41) rfl 33 ptSize g 40 pc rfl rfl hpc33 Hpc1.out 60 (xdArr R { m with pointing:=true }) k3 (by rw [xd_size];decide) ?_;rw [Hw4.out];simp only [Act.put])
   | ((with_reducible show wpList _ _ _ [⟨none,.store _ (.tmp 48) _,_,_,_,_⟩] _ _);refine wpList_put1i rfl 4 (.tmp 48) (.const (.bool true)) rfl sizeBl ⟨g,73,none⟩ (.bool true) rfl rfl rfl _ d73 f73 ?_;simp only [Act.put]))
  go_ret
  exact ⟨rfl,HF.out⟩
def zx74:Array Value:=#[.int .i64 0,.int .i64 0,.slice none 0 0,.slice none 0 0,.bool false,.int .i64 0,.int .u8 0,.int .u8 0,.int .u8 0,.int .u8 0,.int .u8 0,.int .u8 0,.int .u8 0,.int .u8 0,.int .u8 0,.int .u8 0,.int .u8 0,.int .u8 0,.int .u8 0,.int .u8 0,.int .u8 0,.int .u8 0,.int .u8 0,.int .u8 0,.int .u8 0,.int .u8 0,.int .u8 0,.int .u8 0,.int .u8 0,.int .u8 0,.int .u8 0,.int .u8 0,.int .u8 0,.int .u8 0,.int .u8 0,.int .u8 0,.int .u8 0,.int .u8 0,.slice none 0 0,.bool false,.int .i64 0,.int .u8 0,.int .u8 0,.int .u8 0,.int .u8 0,.int .u8 0,.int .u8 0,.int .u8 0,.int .u8 0,.int .u8 0,.int .u8 0,.int .u8 0,.int .u8 0,.int .u8 0,.int .u8 0,.int .u8 0,.int .u8 0,.int .u8 0,.int .u8 0,.int .u8 0,.int .u8 0,.int .u8 0,.int .u8 0,.int .u8 0,.int .u8 0,.int .u8 0,.int .u8 0,.int .u8 0,.int .u8 0,.int .u8 0,.int .u8 0,.int .u8 0,.int .u8 0,.bool false]
theorem sizeXd:∀ w:World,(sizeOf 60).run Tryz.prog w = .ok 74 w:=fun _=>by kernel_rfl
theorem aggXd:∀ w:World,(isAgg 60).run Tryz.prog w = .ok true w:=fun _=>by kernel_rfl
theorem one_ite {c:Prop} [Decidable c] {a b:Value} (ha:a.oneCell'=true) (hb:b.oneCell'=true):(if c then a else b).oneCell'=true:=by split <;> assumption
theorem oneXd (h:Xd Z g R m W):∀ v ∈ (xdArr R m).toList,v.oneCell'=true:=by
 intro v hv
 have hv:v ∈ (List.range 74).map (xcell R m):=hv
 obtain ⟨i,-,rfl⟩:=List.mem_map.1 hv
 obtain ⟨A1,c1,e1,-⟩:=h.ents
 obtain ⟨A2,c2,e2,-⟩:=h.queue
 obtain ⟨A3,c3,e3,-⟩:=h.begun
 have f1:R.e.oneCell'=true:=by rw [e1];rfl
 have f2:R.q.oneCell'=true:=by rw [e2];rfl
 have f3:R.b.oneCell'=true:=by rw [e3];rfl
 exact one_ite rfl (one_ite rfl (one_ite f1 (one_ite f2 (one_ite rfl (one_ite rfl (one_ite rfl (one_ite f3 (one_ite rfl (one_ite rfl (one_ite rfl rfl))))))))))
set_option maxHeartbeats 4000000 in
set_option maxRecDepth 100000 in
theorem xcopy_any (h : Xd Z g R m W) (Z' : Nat → Prop) (hZ' : ∀ b, Z' b → b = g ∨ Z b) :
    Calls Tryz.prog 27 #[.pointer (some ⟨g, 0, none⟩)] W fun e w' => ∃ g', e = .returned (.pointer (some ⟨g', 0, none⟩)) ∧ W.heap.size ≤ g' ∧ Xd Z' g' R m w' ∧ Below W.heap.size W w' := by
  obtain ⟨cx, hcx⟩ : ∃ x, xdArr R m = x := ⟨_, rfl⟩
  have hsz : cx.size = 74 := by rw [← hcx]; exact xd_size _ _
  have h1 : ∀ v ∈ cx.toList, v.oneCell' = true := by rw [← hcx]; exact oneXd h
  have hb := h.blk
  rw [hcx] at hb
  have hld : (Instr.loadAt 60 (.pointer (some ⟨g, 0, none⟩))).run Tryz.prog W = .ok (.agg cx) W := run_load_blk (aggXd _) (sizeXd _) _ _ hsz hb
  have hzl : ∀ b, Z' b → b < W.heap.size := fun b hz => (hZ' b hz).elim (fun e => e ▸ h.blk.lt) (h.zlt b)
  obtain ⟨w2, hw2⟩ : ∃ x, (W.alloc (.cells zx74 60)).setRow W.heap.size cx = x := ⟨_, rfl⟩
  have B2 : Below W.heap.size W w2 := by rw [← hw2]; exact below_setRow ((Below.refl _ _).alloc (Nat.le_refl _) _) (Nat.le_refl _) _
  have k2 : Blk w2 W.heap.size 60 cx := by rw [← hw2]; exact (Blk.new _ _ _).setRow_ _
  have hF : Xd Z' W.heap.size R m w2 := by
    obtain ⟨A1, c1, e1, q1⟩ := h.ents
    obtain ⟨A2, c2, e2, q2⟩ := h.queue
    obtain ⟨A3, c3, e3, q3⟩ := h.begun
    have hE : ∀ {A : Option Addr} {n c : Nat} {ls : List (List UInt8)}, Es W (fun b => ¬ (b = g ∨ Z b)) A n c ls → Es w2 (fun b => ¬ (b = W.heap.size ∨ Z' b)) A n c ls := fun hq =>
      ((hq.weak (Y := fun b => ¬ (b = g ∨ Z b) ∧ b < W.heap.size) fun b hl hx => ⟨hx, hl⟩).step B2).weak fun b _ hx e => by
        rcases e with rfl | e
        · exact absurd hx.2 (Nat.lt_irrefl _)
        · exact hx.1 (hZ' b e)
    exact ⟨by rw [hcx]; exact k2, h.lastL, h.ptL, ⟨A1, c1, e1, hE q1⟩, ⟨A2, c2, e2, hE q2⟩, ⟨A3, c3, e3, hE q3⟩, fun b hz => Nat.lt_of_lt_of_le (hzl b hz) B2.size, fun hz => absurd (hzl _ hz) (Nat.lt_irrefl _)⟩
  have Hld := Lib.hid hld
  have Hw2 := Lib.hid hw2
  have HF := Lib.hid hF
  have H1 := Lib.hid h1
  clear hcx hb hld hw2 hF h1 h hZ' hzl k2
  go_enter Tryz.func27, Tryz.ntmps27
  go_wp2_with (first
    | ((with_reducible show wpList _ _ _ (⟨some 8, .load _ _, _, _, _, _⟩ :: _) _ _); refine wpList_load rfl 60 (.tmp 7) rfl g 0 rfl cx Hld.out ?_; simp only [Act.put, List.setIfInBounds_toArray, List.set_cons_succ, List.set_cons_zero])
    | ((with_reducible show wpList _ _ _ (⟨some 3, .alloc _, _, _, _, _⟩ :: _) _ _); refine wpList_run rfl (.pointer (some ⟨W.heap.size, 0, none⟩)) (W.alloc (.cells zx74 60)) (by kernel_rfl) ?_; simp only [Act.put, List.setIfInBounds_toArray, List.set_cons_succ, List.set_cons_zero])
    | ((with_reducible show wpList _ _ _ [⟨none, .store _ (.tmp 3) _, _, _, _, _⟩] _ _); refine wpList_store_blk rfl 60 (.tmp 3) (.tmp 8) rfl 74 sizeXd W.heap.size cx rfl rfl hsz H1.out 60 _ (Blk.new W _ _) rfl ?_; rw [Hw2.out]; simp only [Act.put]))
  go_ret
  exact ⟨_, rfl, Nat.le_refl _, HF.out, B2⟩
end
end Go.Proofs.YtdjhoankkddomaaGreat
namespace Go.Proofs.YtdjhoankkddomaaGreat
open Go Go.RowKit
theorem wpAnyIn_tail {F:Fence} {n:Nat} {P:Program} {Q:Exit→Act→World→Prop} {l:List Oper}:∀ (d j:Nat) (listed:Array Bool) (a:Act) (w:World),j+d=l.length→tailOk l.toArray d j listed=true →
  wpListIn F n P l.toArray Q (l.drop j) a w→wpAnyIn F n P .any l.toArray Q d listed a w
 | 0,j,listed,a,w,hl,hB,h=>by
  rw [List.drop_eq_nil_of_le (by omega)] at h
  exact ⟨by simpa [tailOk] using hB,h⟩
 | d+1,j,listed,a,w,hl,hB,h=>by
  simp only [tailOk,Bool.and_eq_true,beq_iff_eq] at hB
  obtain ⟨hr,hB⟩:=hB
  have ho:l.toArray[j]?=some (l[j]'(by omega)):=by simp [List.getElem?_eq_getElem (show j<l.length by omega)]
  rw [List.drop_eq_getElem_cons (show j<l.length by omega)] at h
  refine ⟨fun h0=>(by rw [h0] at hr;cases hr),fun i hi=>?_⟩
  rw [hr] at hi
  obtain rfl:i=j:=by simpa using hi
  unfold wpListIn at h
  unfold wpOpIn
  simp only [ho]
  split
  ·rename_i hw
   rw [if_pos hw] at h
   exact Oper.wpIn_mono (fun a'' w'' hq=>wpAnyIn_tail d (i+1) _ _ _ (by omega) hB hq) h
  ·rename_i hw
   rw [if_neg hw] at h
   exact ⟨h.1,wpAnyIn_tail d (i+1) _ _ _ (by omega) hB h.2⟩
theorem wpOpIn_look {F:Fence} (hF:Fence.Open F) {n:Nat} {P:Program} {ops:Array Oper} {Q:Exit→Act→World→Prop} {i:Nat} {o:Oper} {a:Act} {w:World} {K:Act→World→Prop} {v:Value} (ho:ops[i]?=some o) (hw:Region.wanted o (yielded ops a.tmps)=true) (hd:noDefer [o]=true)
  (hr:(execOp a.eval o).run P w = .ok (.value v) w) (h:K (a.put o.dst v) w):wpOpIn F n P ops Q i K a w:=by
 unfold wpOpIn
 rw [ho]
 dsimp only
 rw [if_pos hw]
 refine Oper.wpIn_of_wp hF (noDefer_op hd o (List.mem_singleton.2 rfl)) ?_
 unfold Oper.wp
 rw [hr]
 exact h
theorem wpAnyIn_looks0 {F:Fence} {n:Nat} {P:Program} {ops:Array Oper} {Q:Exit→Act→World→Prop} {w:World} (mk:(Nat→Value)→Act) (L:Array Bool) (ks:List Nat) (need:Nat→List Nat) (slot:Nat→Nat) (val:Nat→Value) (f1:Nat)
  (hok:makersOk ops L ks need=true) (hnd:ks.Nodup) (hslot:∀ k ∈ ks,∀ k' ∈ ks,slot k=slot k'→k=k')
  (hrun:∀ k ∈ ks,∀ us,(∀ k' ∈ need k,us (slot k')=val k')→∀ K:Act→World→Prop,K (mk (upd us (slot k) (val k))) w→wpOpIn F n P ops Q k K (mk us) w)
  (htail:∀ us,(∀ k ∈ ks,us (slot k)=val k)→wpAnyIn F n P .any ops Q f1 (setAll L ks) (mk us) w) :
  ∀ (m:Nat) (sub:List Nat) (us:Nat→Value),leftN ks sub=m→(∀ k ∈ sub,k ∈ ks)→(∀ k ∈ sub,closedP ops (setAll L sub) k=true)→(∀ k ∈ sub,us (slot k)=val k)→wpAnyIn F n P .any ops Q (m+f1) (setAll L sub) (mk us) w
 | 0,sub,us,hn,hsub,_,hf=>by
  have hall:=leftN_zero ks sub hn
  rw [List.all_eq_true] at hall
  have hm:∀ k ∈ ks,k ∈ sub:=fun k hk=>by simpa using hall k hk
  rw [setAll_same L sub ks (fun i=>by
   by_cases hi:i ∈ sub
   ·rw [List.contains_iff_mem.2 hi,List.contains_iff_mem.2 (hsub i hi)]
   ·have hi':i ∉ ks:=fun h=>hi (hm i h)
    rw [Bool.eq_false_iff.2 (fun h=>hi (List.contains_iff_mem.1 h)),Bool.eq_false_iff.2 (fun h=>hi' (List.contains_iff_mem.1 h))]),Nat.zero_add]
  exact htail us fun k hk=>hf k (hm k hk)
 | m+1,sub,us,hn,hsub,hcl,hf=>by
  have hok':=hok
  unfold makersOk at hok'
  rw [List.all_eq_true] at hok'
  have hc:=hok' _ (filter_subs (fun k=>sub.contains k) ks)
  have hse:∀ i,(ks.filter fun k=>sub.contains k).contains i=sub.contains i:=fun i=>by
   by_cases hi:i ∈ sub
   ·rw [List.contains_iff_mem.2 hi,List.contains_iff_mem.2 (List.mem_filter.2 ⟨hsub i hi,List.contains_iff_mem.2 hi⟩)]
   ·rw [Bool.eq_false_iff.2 (fun h=>hi (List.contains_iff_mem.1 h)),Bool.eq_false_iff.2 (fun h=>hi (List.contains_iff_mem.1 (List.mem_filter.1 (List.contains_iff_mem.1 h)).2))]
  rw [setAll_same L _ sub hse] at hc
  have hnall:ks.all (ks.filter fun k=>sub.contains k).contains=false:=by
   rw [Bool.eq_false_iff]
   intro h
   rw [List.all_eq_true] at h
   unfold leftN at hn
   have h0:(ks.filter fun k => !sub.contains k)=[]:=List.filter_eq_nil_iff.2 fun k hk=>by
    have:=h k hk
    rw [hse] at this
    simp [List.contains_iff_mem.1 this]
   rw [h0] at hn
   cases hn
  have hclf:((ks.filter fun k=>sub.contains k).all fun k=>closedP ops (setAll L sub) k)=true:=by
   rw [List.all_eq_true]
   exact fun k hk=>hcl k (List.contains_iff_mem.1 (List.mem_filter.1 hk).2)
  rw [hnall,hclf,Bool.not_true,Bool.or_false,Bool.false_or,Bool.and_eq_true] at hc
  obtain ⟨hne,hrd⟩:=hc
  rw [List.all_eq_true] at hrd
  rw [show m+1+f1=m+f1+1 by omega]
  refine ⟨fun h0=>(by rw [h0] at hne;cases hne),fun k hk=>?_⟩
  have hk':=hrd k hk
  rw [Bool.and_eq_true,List.contains_iff_mem] at hk'
  obtain ⟨hks,hnd'⟩:=hk'
  rw [List.all_eq_true] at hnd'
  obtain ⟨hun,ok,hoi,hed⟩:=mem_ready.1 hk
  have hget:ops.getD k default=ok:=by simp [hoi]
  have hkn:sub.contains k=false:=by
   by_cases hkL:k<L.size
   ·have:=setAll_get L k hkL sub
    rw [Array.getD_eq_getD_getElem?,this] at hun
    simp only [Option.getD_some,Bool.or_eq_false_iff] at hun
    exact hun.2
   ·rw [Array.getD_eq_getD_getElem?,Array.getElem?_eq_none (by rw [size_setAll];omega)] at hun
    cases hun
  have hr:=hrun k hks us (fun k' hk''=>hf k' (by
   have:=hnd' k' hk''
   rw [hse] at this
   exact List.contains_iff_mem.1 this))
  refine hr _ ?_
  have hother:∀ k' ∈ sub,upd us (slot k) (val k) (slot k')=us (slot k'):=fun k' hk''=>upd_other _ _ _ _ (fun e=>by
   have:=hslot k' (hsub k' hk'') k hks e
   subst this
   rw [List.contains_iff_mem.2 hk''] at hkn
   cases hkn)
  refine wpAnyIn_looks0 mk L ks need slot val f1 hok hnd hslot hrun htail m (k::sub) _ (by have:=leftN_cons sub k hkn ks hnd hks;omega) ?_ ?_ ?_
  ·intro k' hk''
   rcases List.mem_cons.1 hk'' with rfl|hk''
   ·exact hks
   ·exact hsub k' hk''
  ·intro k' hk''
   refine closedP_step ops (setAll L sub) k k' ?_
   rcases List.mem_cons.1 hk'' with rfl|hk''
   ·unfold closedP
    rw [hget,List.all_eq_true]
    intro e he
    by_cases hb:Region.binds .any e=true
    ·rw [hed e (by simpa using he) hb];simp
    ·simp [hb]
   ·exact hcl k' hk''
  ·intro k' hk''
   rcases List.mem_cons.1 hk'' with rfl|hk''
   ·exact upd_same _ _ _
   ·rw [hother k' hk''];exact hf k' hk''
theorem wpIn_region_looks {F:Fence} (hF:Fence.Open F) {m:Nat} {P:Program} {id:Nat} {Q:Exit→Act→World→Prop} {a:Act} {w:World} {l:List Oper} (mk:(Nat→Value)→Act) (ks:List Nat) (need:Nat→List Nat) (slot:Nat→Nat) (val:Nat→Value) (us0:Nat→Value) (f1:Nat)
  (hm:P.follows .mixedOrders=true) (hmk:mk us0=a) (hok:makersOk l.toArray (Array.replicate l.length false) ks need=true) (hnd:ks.Nodup) (hslot:∀ k ∈ ks,∀ k' ∈ ks,slot k=slot k'→k=k')
  (hf:ks.length+f1=l.length) (ht:tailOk l.toArray f1 ks.length (setAll (Array.replicate l.length false) ks)=true)
  (hrun:∀ k ∈ ks,∀ us,(∀ k' ∈ need k,us (slot k')=val k')→∃ o,l.toArray[k]?=some o∧Region.wanted o (yielded l.toArray (mk us).tmps)=true∧noDefer [o]=true∧(execOp (mk us).eval o).run P w.drew = .ok (.value (val k)) w.drew∧(mk us).put o.dst (val k)=mk (upd us (slot k) (val k)))
  (htail:∀ us,(∀ k ∈ ks,us (slot k)=val k)→wpListIn F m P l.toArray Q (l.drop ks.length) (mk us) w.drew):(Code.region id l.toArray true).wpIn F m P Q a w:=by
 refine wpIn_region_any hm ?_
 have hleft:leftN ks []=ks.length:=by
  unfold leftN
  simp
 have h:=wpAnyIn_looks0 (F:=F) (n:=m) (P:=P) (ops:=l.toArray) (Q:=Q) (w:=w.drew) mk (Array.replicate l.length false) ks need slot val f1 hok hnd hslot
  (fun k hk us hu K hK=>by
   obtain ⟨o,h1,h2,h3,h4,h5⟩:=hrun k hk us hu
   refine wpOpIn_look hF h1 h2 h3 h4 ?_
   rw [h5]
   exact hK)
  (fun us hu=>wpAnyIn_tail f1 ks.length _ _ _ hf ht (htail us hu)) ks.length [] us0 hleft (fun _ h=>by cases h) (fun _ h=>by cases h) (fun _ h=>by cases h)
 rw [hf,hmk] at h
 have hs:setAll (Array.replicate l.length false) []=Array.replicate l.length false:=rfl
 rw [hs] at h
 simpa using h
theorem wpIn_region_looksP {F:Fence} (hF:Fence.Open F) {m:Nat} {P:Program} {id:Nat} {Q:Exit→Act→World→Prop} {a:Act} {w:World} {l:List Oper} (ks:List Nat) (need:Nat→List Nat) (slot:Nat→Nat) (slots:List Nat) (val:Nat→Value) (f1:Nat)
  (hm:P.follows .mixedOrders=true) (hmk:putAll a (fun j=>a.tmps.getD j undef) slots=a) (hok:makersOk l.toArray (Array.replicate l.length false) ks need=true) (hnd:ks.Nodup) (hslot:∀ k ∈ ks,∀ k' ∈ ks,slot k=slot k'→k=k')
  (hf:ks.length+f1=l.length) (ht:tailOk l.toArray f1 ks.length (setAll (Array.replicate l.length false) ks)=true)
  (hrun:∀ k ∈ ks,∀ us,(∀ k' ∈ need k,us (slot k')=val k')→∃ o,l.toArray[k]?=some o∧Region.wanted o (yielded l.toArray (putAll a us slots).tmps)=true∧noDefer [o]=true∧(execOp (putAll a us slots).eval o).run P w.drew = .ok (.value (val k)) w.drew∧(putAll a us slots).put o.dst (val k)=putAll a (upd us (slot k) (val k)) slots)
  (htail:∀ us,(∀ k ∈ ks,us (slot k)=val k)→wpListIn F m P l.toArray Q (l.drop ks.length) (putAll a us slots) w.drew):(Code.region id l.toArray true).wpIn F m P Q a w :=
 wpIn_region_looks hF (fun us=>putAll a us slots) ks need slot val (fun j=>a.tmps.getD j undef) f1 hm hmk hok hnd hslot hf ht hrun htail
end Go.Proofs.YtdjhoankkddomaaGreat
