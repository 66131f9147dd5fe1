import Derived.Test.YtdjhoankkddomaaGreatQg233
import Derived.Test.YtdjhoankkddomaaGreatQg225
import Derived.Test.YtdjhoankkddomaaGreatQg234
namespace Go.Proofs.YtdjhoankkddomaaGreat
open Go Go.RowKit Go.Shelf
attribute [local go_sem] Oper.semAt_some
theorem Blk.cellM {W:World} {g:Nat} {R:MdR} {m:MoV} (h:Blk W g 57 (mdArr R m)) (k:Nat) (hk:k<77):W.cell? ⟨g,k,none⟩=some (mcell R m k):=by rw [h.cell,md_at _ _ k hk]
theorem Blk.setM {W:World} {g:Nat} {R R':MdR} {m m':MoV} (h:Blk W g 57 (mdArr R m)) (k:Nat) (hk:k<77) (v:Value) (hv:mcell R' m' k=v) (ho:∀ i,i<77→i≠k→mcell R' m' i=mcell R m i):Blk (W.setCell ⟨g,k,none⟩ v) g 57 (mdArr R' m'):=by
 rw [← md_set k hk v hv ho]
 exact h.set_ k v
theorem md_pt {R:MdR} {m:MoV} (s:Int) (r:List UInt8) (hr:r.length=32):((mdArr R m).toList.take 41++(.int .i64 s::r.map B)++(mdArr R m).toList.drop (41+33)).toArray=mdArr R { m with ptS:=s,ptR:=r }:=by
 have hp:(mdArr R m).toList.length=77:=by rw [Array.length_toList,md_size]
 have hl:(Value.int .i64 s::r.map B).length=33:=by simp [hr]
 refine md_ext (by rw [List.size_toArray,List.length_append,List.length_append,List.length_take,List.length_drop,hp,hl];decide) fun i hi=>?_
 rw [List.getElem?_toArray]
 by_cases h1:i<41
 ·rw [List.getElem?_append_left (by rw [List.length_append,List.length_take,hp];omega),List.getElem?_append_left (by rw [List.length_take,hp];omega),List.getElem?_take,if_pos h1,Array.getElem?_toList,md_at _ _ _ hi]
  unfold mcell
  simp only [show ¬ i=41 by omega,if_false,show i<74 by omega,if_true]
  by_cases h39:i<39
  ·simp only [h39,if_true]
  ·simp only [h39,if_false]
   by_cases h40:i=39
   ·subst h40;rfl
   ·have:i=40:=by omega
    subst this;rfl
 ·by_cases h2:i<74
  ·rw [List.getElem?_append_left (by rw [List.length_append,List.length_take,hp,hl];omega),List.getElem?_append_right (by rw [List.length_take,hp];omega),List.length_take,hp,show min 41 77=41 by decide]
   obtain ⟨j,rfl⟩:∃ j,i=41+j:=⟨i - 41,by omega⟩
   rw [Nat.add_sub_cancel_left]
   cases j with
   | zero=>rfl
   | succ j =>
    rw [List.getElem?_cons_succ,List.getElem?_map,List.getElem?_eq_getElem (by omega:j<r.length)]
    have e:mcell R { m with ptS:=s,ptR:=r } (41+(j+1))=B (r.getD (41+(j+1) - 42) 0):=by
     unfold mcell
     simp only [show ¬ 41+(j+1)=0 by omega,show ¬ 41+(j+1)=1 by omega,show ¬ 41+(j+1)=2 by omega,show ¬ 41+(j+1)=3 by omega,show ¬ 41+(j+1)=4 by omega,show ¬ 41+(j+1)=5 by omega,show ¬ 41+(j+1)=6 by omega,show ¬ 41+(j+1)<39 by omega,show ¬ 41+(j+1)=39 by omega,show ¬ 41+(j+1)=40 by omega,show ¬ 41+(j+1)=41 by omega,show 41+(j+1)<74 by omega,if_false,if_true]
    rw [e,show 41+(j+1) - 42=j by omega,List.getD_eq_getElem?_getD,List.getElem?_eq_getElem (by omega)]
    rfl
  ·rw [List.getElem?_append_right (by rw [List.length_append,List.length_take,hp,hl];omega),List.getElem?_drop,List.length_append,List.length_take,hp,hl,Array.getElem?_toList,show min 41 77=41 by decide,show 41+33+(i - (41+33))=i by omega,md_at _ _ _ hi]
   unfold mcell
   simp only [show ¬ i=0 by omega,show ¬ i=1 by omega,show ¬ i=2 by omega,show ¬ i=3 by omega,show ¬ i=4 by omega,show ¬ i=5 by omega,show ¬ i=6 by omega,show ¬ i<39 by omega,show ¬ i=39 by omega,show ¬ i=40 by omega,show ¬ i=41 by omega,show ¬ i<74 by omega,if_false]
set_option maxHeartbeats 4000000 in
set_option maxRecDepth 100000 in
theorem mflush2_any (Z:Nat→Prop) (lo g:Nat) (R:MdR) (m:MoV) (W:World) (h:Md Z lo g R m W) :
  Calls Tryz.prog 56 #[.pointer (some ⟨g,0,none⟩)] W fun e w'=>e = .returned (.tuple #[])∧∃ R',Md Z lo g R' m.lose w'∧KB (fun b=>b=g) W w'∧∀ b,MdW g R' b→MdW g R b:=by
 obtain ⟨Aq,cq,hqe,hqs⟩:=h.queueEs
 have hrq:=hqs.room
 have hmq:=hqs.max
 unfold maxLen at hmq
 have c5:W.cell? ⟨g,5,none⟩=some (.slice Aq m.queue.length cq):=(h.cell 5 (by decide)).trans (congrArg some hqe)
 obtain ⟨n,hnq⟩:∃ x,m.queue.length=x:=⟨_,rfl⟩
 rw [hnq] at c5 hrq hqe
 by_cases h0:m.queue=[]
 ·have hn0:n=0:=by rw [← hnq,h0];rfl
  subst hn0
  have hl:m.lose=m:=by unfold MoV.lose;rw [if_pos h0]
  rw [hl]
  have Hh:=Lib.hid h
  clear h hl h0 hnq hqe hqs
  go_enter Tryz.func56,Tryz.ntmps56
  go_wp2_with fail
  go_end0
  exact ⟨rfl,R,Hh.out,KB.refl _ _,fun _ h=>h⟩
 ·have hn0:0<n:=by rw [← hnq];exact List.length_pos_iff.2 h0
  have hd:decide ((0:Int)<(n:Int))=true:=by simp;omega
  have hl:m.lose={ m with begun:=m.queue,only:=true }:=by unfold MoV.lose;rw [if_neg h0]
  rw [hl]
  have c40:W.cell? ⟨g,40,none⟩=some R.b:=h.cell 40 (by decide)
  have f40:=h.blk.frozen 40
  obtain ⟨w1,hw1⟩:∃ x,W.setCell ⟨g,40,none⟩ R.q=x:=⟨_,rfl⟩
  have k1:Blk w1 g 57 (mdArr R.lose { m with begun:=m.queue }):=by
   rw [← hw1,← md_set (R:=R) (R':=R.lose) (m:=m) (m':={ m with begun:=m.queue }) 40 (by decide) R.q rfl fun i hi hne=>by simp only [mcell,hne,if_false];rfl]
   exact h.blk.set_ 40 _
  have hg1:W.grownBy w1 (some g):=by rw [← hw1];exact grown_setCell (World.grownBy.refl _ _) 40 _
  have c75:w1.cell? ⟨g,75,none⟩=some (.bool m.only):=by rw [k1.cell,md_at _ _ 75 (by decide)];rfl
  have f75:=k1.frozen 75
  have k2:Blk (w1.setCell ⟨g,75,none⟩ (.bool true)) g 57 (mdArr R.lose { m with begun:=m.queue,only:=true }):=by
   rw [← md_set (R:=R.lose) (R':=R.lose) (m:={ m with begun:=m.queue }) (m':={ m with begun:=m.queue,only:=true }) 75 (by decide) (.bool true) rfl fun i hi hne=>by simp only [mcell,hne,if_false]]
   exact k1.set_ 75 _
  have hg2:W.grownBy (w1.setCell ⟨g,75,none⟩ (.bool true)) (some g):=grown_setCell hg1 75 _
  have hK:KB (fun b=>b=g) W (w1.setCell ⟨g,75,none⟩ (.bool true)):=KB.of_grown hg2 fun r e=>(Option.some.inj e).symm
  have hF:=h.lose hK k2
  rw [hqe] at hw1
  have Hw1:=Lib.hid hw1
  have HF:=Lib.hid hF
  have HK:=Lib.hid hK
  clear h hw1 hF hK hg1 hg2 k1 k2 hl hqe hqs
  go_enter Tryz.func56,Tryz.ntmps56
  go_wp2_with ((with_reducible show wpList _ _ _ [⟨none,.store _ (.tmp 17) _,_,_,_,_⟩] _ _);rw [Hw1.out];refine wpList_put1i rfl 4 (.tmp 17) (.const (.bool true)) rfl sizeBl ⟨g,75,none⟩ (.bool true) rfl rfl rfl _ c75 f75 ?_;simp only [Act.put])
  go_end0
  exact ⟨rfl,R.lose,HF.out,HK.out,fun _ h=>h⟩
set_option maxHeartbeats 4000000 in
set_option maxRecDepth 100000 in
theorem mfail12_any (Z:Nat→Prop) (lo g:Nat) (R:MdR) (m:MoV) (W:World) (h:Md Z lo g R m W) (ho:m.only=false) :
  Calls Tryz.prog 23 #[.pointer (some ⟨g,0,none⟩),.int .i64 1] W fun e w'=>e = .returned (.int .i64 0)∧∃ R',Md Z lo g R' m.lose w'∧KB (fun b=>b=g) W w'∧∀ b,MdW g R' b→MdW g R b:=by
 have hmay:=mmay_any h
 rw [ho] at hmay
 obtain ⟨w2,hw2⟩:∃ x,(W.alloc (.cells #[.nilFunc,.nilFunc,.nilFunc,.nilFunc] 113)).setRow W.heap.size failT=x:=⟨_,rfl⟩
 have B2:Below W.heap.size W w2:=by rw [← hw2];exact below_setRow ((Below.refl _ _).alloc (Nat.le_refl _) _) (Nat.le_refl _) _
 have k2:Blk w2 W.heap.size 113 failT:=by rw [← hw2];exact (Blk.new _ _ _).setRow_ _
 have c1:w2.cell? ⟨W.heap.size,1,none⟩=some (.func (.func 56) #[] #[]):=by rw [k2.cell];rfl
 have hfl:=mflush2_any Z lo g R m w2 (h.step B2)
 have Hw2:=Lib.hid hw2
 have Hfl:=Lib.hid hfl
 clear h ho hw2 k2 hfl
 go_enter Tryz.func23,Tryz.ntmps23
 go_wp2_with (first
  | (go_at_call 49;refine hmay.mono ?_;rintro e w' ⟨rfl,hw⟩;obtain rfl:=hw.symm)
  | ((with_reducible show wpList _ _ _ (⟨some 12,.build _ _,_,_,_,_⟩::_) _ _);refine wpList_run rfl _ _ (build_failT rfl rfl rfl rfl W) ?_;simp only [Act.put])
  | ((with_reducible show wpList _ _ _ [⟨none,.store _ (.tmp 6) _,_,_,_,_⟩] _ _);refine wpList_store_blk rfl 113 (.tmp 6) (.tmp 12) rfl 4 sizeFT W.heap.size failT rfl rfl rfl oneFT 113 _ (Blk.new W _ _) rfl ?_;rw [Hw2.out];simp only [Act.put]))
 refine Hfl.out.mono ?_
 rintro e w3 ⟨rfl,R',hD,hK,hww⟩
 clear Hfl c1
 go_wp2_with fail
 go_ret
 exact ⟨rfl,R',hD,(KB.of_below B2).trans hK,hww⟩
set_option maxHeartbeats 4000000 in
set_option maxRecDepth 100000 in
theorem mpublish_only (Z:Nat→Prop) (lo g:Nat) (R:MdR) (m:MoV) (W:World) (h:Md Z lo g R m W) (ho:m.only=true) :
  Calls Tryz.prog 15 #[.pointer (some ⟨g,0,none⟩)] W fun e w'=>e = .returned (.tuple #[.agg (.int .i64 0::zero32.map B).toArray,.int .i64 10])∧Below W.heap.size W w':=by
 obtain ⟨w1,hw1⟩:∃ x,W.alloc (.cells (.int .i64 0::(List.replicate 32 0).map B).toArray 55)=x:=⟨_,rfl⟩
 have p1:PB w1 W.heap.size 0 (List.replicate 32 0):=by rw [← hw1];exact ⟨Blk.new _ _ _,by simp⟩
 have B1:Below W.heap.size W w1:=by rw [← hw1];exact (Below.refl _ _).alloc (Nat.le_refl _) _
 have hmay:=mmay_any (h.step B1)
 rw [ho] at hmay
 obtain ⟨pc,hpc⟩:∃ x,(Value.int .i64 0::zero32.map B).toArray=x:=⟨_,rfl⟩
 have hpc33:pc.size=33:=by rw [← hpc];rfl
 have hpc1:∀ v ∈ pc.toList,v.oneCell'=true:=by rw [← hpc];exact oneCell_pt _ _
 have p5:PB (w1.setRow W.heap.size pc) W.heap.size 0 zero32:=⟨by rw [hpc];exact p1.blk.setRow_ _,rfl⟩
 have B5:Below W.heap.size W (w1.setRow W.heap.size pc):=below_setRow B1 (Nat.le_refl _) _
 have k1:=p1.blk
 have Hpc:=Lib.hid hpc
 have Hpc1:=Lib.hid hpc1
 have Hw1:=Lib.hid hw1
 rw [hpc]
 clear hw1 h hpc hpc1 ho p1
 go_enter Tryz.func15,Tryz.ntmps15
 go_wp2_with (first
  | ((with_reducible show wpList _ _ _ (⟨some 2,.alloc _,_,_,_,_⟩::_) _ _);refine wpList_run rfl (.pointer (some ⟨W.heap.size,0,none⟩)) w1 (by rw [← Hw1.out];kernel_rfl) ?_;simp only [Act.put,List.setIfInBounds_toArray,List.set_cons_succ,List.set_cons_zero])
  | (go_at_call 49;refine hmay.mono ?_;rintro e w' ⟨rfl,hw⟩;obtain rfl:=hw.symm)
  | ((with_reducible show wpList _ _ _ (⟨some 9,.build _ _,_,_,_,_⟩::_) _ _);refine wpList_run0 rfl (.agg pc) (by rw [← Hpc.out];kernel_rfl) ?_;simp only [Act.put,List.setIfInBounds_toArray,List.set_cons_succ,List.set_cons_zero])
  | ((with_reducible show wpList _ _ _ (⟨none,.store _ (.tmp 2) _,_,_,_,_⟩::_) _ _);refine wpList_store_blk rfl 55 (.tmp 2) (.tmp 9) rfl 33 ptSize W.heap.size pc rfl rfl hpc33 Hpc1.out 55 _ k1 (by simp) ?_;simp only [Act.put]))
 refine bodyPost_ret (tuple_pt rfl _ _ W.heap.size 0 zero32 rfl p5) rfl ⟨by rw [← Hpc.out];rfl,B5⟩
theorem settling_any (Z:Nat→Prop) (lo g:Nat) (R:MdR) (m:MoV) (W:World) (h:Md Z lo g R m W) :
  Calls Tryz.prog 57 #[.pointer (some ⟨g,0,none⟩)] W fun e w'=>e = .returned (.tuple #[])∧Md Z lo g R { m with only:=true } w'∧KB (fun b=>b=g) W w':=by
 have c75:=h.blk.cellM 75 (by decide)
 have f75:=h.blk.frozen 75
 have k2:Blk (W.setCell ⟨g,75,none⟩ (.bool true)) g 57 (mdArr R { m with only:=true }):=h.blk.setM 75 (by decide) _ rfl fun i hi hne=>by simp only [mcell,hne,if_false]
 have hK:KB (fun b=>b=g) W (W.setCell ⟨g,75,none⟩ (.bool true)):=kb_cell (M:=fun b=>b=g) (KB.refl _ _) rfl 75 _
 have hF:Md Z lo g R { m with only:=true } (W.setCell ⟨g,75,none⟩ (.bool true)):=h.turn hK k2 rfl rfl rfl (fun e=>by cases e) h.lastL h.ptL
 have HF:=Lib.hid hF
 have HK:=Lib.hid hK
 clear h k2 hK hF
 go_enter Tryz.func57,Tryz.ntmps57
 go_wp2_with ((with_reducible show wpList _ _ _ [⟨none,.store _ (.tmp 4) _,_,_,_,_⟩] _ _);refine wpList_put1i rfl 4 (.tmp 4) (.const (.bool true)) rfl sizeBl ⟨g,75,none⟩ (.bool true) rfl rfl rfl _ c75 f75 ?_;simp only [Act.put])
 go_end0
 exact ⟨rfl,HF.out,HK.out⟩
set_option maxHeartbeats 4000000 in
set_option maxRecDepth 100000 in
theorem publishing_any (Z:Nat→Prop) (lo g:Nat) (R:MdR) (m:MoV) (W:World) (h:Md Z lo g R m W) :
  Calls Tryz.prog 58 #[.pointer (some ⟨g,0,none⟩)] W fun e w'=>e = .returned (.tuple #[])∧Md Z lo g R { m with pointing:=true,ptS:=(m.ents.length:Int),ptR:=m.nowR,only:=true } w'∧KB (fun b=>b=g) W w':=by
 have hnow:=mnow_any Z lo g R m W h
 obtain ⟨root,hroot⟩:∃ x,m.nowR=x:=⟨_,rfl⟩
 have hr32:root.length=32:=by rw [← hroot];exact length_rootL _ (H32.lvs _)
 obtain ⟨n,hke⟩:∃ x,m.ents.length=x:=⟨_,rfl⟩
 rw [hroot,hke] at hnow ⊢
 obtain ⟨pc,hpc⟩:∃ x,(Value.int .i64 (n:Int)::root.map B).toArray=x:=⟨_,rfl⟩
 have hpc33:pc.size=33:=by rw [← hpc];simp [hr32]
 have hpc1:∀ v ∈ pc.toList,v.oneCell'=true:=by rw [← hpc];exact oneCell_pt _ _
 rw [hpc] at hnow
 have Hnow:=Lib.hid hnow
 have Hpc:=Lib.hid hpc
 have Hpc1:=Lib.hid hpc1
 clear hnow hpc hpc1 hroot hke
 go_enter Tryz.func58,Tryz.ntmps58
 go_wp2_with fail
 refine Hnow.out.mono ?_
 rintro e w2 ⟨rfl,hb2⟩
 have h2:=h.step hb2
 have k2:=h2.blk
 obtain ⟨w3,hw3⟩:∃ x,w2.setRow g ((mdArr R m).toList.take 41++pc.toList++(mdArr R m).toList.drop (41+33)).toArray=x:=⟨_,rfl⟩
 have k3:Blk w3 g 57 (mdArr R { m with ptS:=(n:Int),ptR:=root }):=by
  rw [← hw3]
  have:=h2.blk.setRow_ ((mdArr R m).toList.take 41++pc.toList++(mdArr R m).toList.drop (41+33)).toArray
  rw [← Hpc.out] at this ⊢
  rw [List.toList_toArray,md_pt (n:Int) root hr32] at this ⊢
  exact this
 have hK3:KB (fun b=>b=g) W w3:=by rw [← hw3];exact (KB.of_below hb2).trans (KB.of_grown (grown_setRow (World.grownBy.refl _ (some g)) _) fun r e=>(Option.some.inj e).symm)
 have c74:=k3.cellM 74 (by decide)
 have f74:=k3.frozen 74
 obtain ⟨w4,hw4⟩:∃ x,w3.setCell ⟨g,74,none⟩ (.bool true)=x:=⟨_,rfl⟩
 have k4:Blk w4 g 57 (mdArr R { m with pointing:=true,ptS:=(n:Int),ptR:=root }):=by
  rw [← hw4]
  exact k3.setM 74 (by decide) _ rfl fun i hi hne=>by simp only [mcell,hne,if_false]
 have hK4:KB (fun b=>b=g) W w4:=by rw [← hw4];exact kb_cell (M:=fun b=>b=g) hK3 rfl 74 _
 have c75:=k4.cellM 75 (by decide)
 have f75:=k4.frozen 75
 have k5:Blk (w4.setCell ⟨g,75,none⟩ (.bool true)) g 57 (mdArr R { m with pointing:=true,ptS:=(n:Int),ptR:=root,only:=true }) :=
  k4.setM 75 (by decide) _ rfl fun i hi hne=>by simp only [mcell,hne,if_false]
 have hK5:KB (fun b=>b=g) W (w4.setCell ⟨g,75,none⟩ (.bool true)):=kb_cell (M:=fun b=>b=g) hK4 rfl 75 _
 have hF:Md Z lo g R { m with pointing:=true,ptS:=(n:Int),ptR:=root,only:=true } (w4.setCell ⟨g,75,none⟩ (.bool true)):=h.turn hK5 k5 rfl rfl rfl (fun e=>by cases e) h.lastL hr32
 have HF:=Lib.hid hF
 have HK:=Lib.hid hK5
 have Hw3:=Lib.hid hw3
 have Hw4:=Lib.hid hw4
 clear hF hK5 k5 k4 hK4 k3 hK3 hw3 hw4 h2 hb2 h Hnow
 go_wp2_with (first
  | ((with_reducible show wpList _ _ _ (⟨none,.store _ (.tmp 8) _,_,_,_,_⟩::_) _ _);refine wpList_store_agg rfl 55 (.tmp 8) (.tmp 6) rfl 33 ptSize g 41 pc rfl rfl hpc33 Hpc1.out 57 (mdArr R m) k2 (by rw [md_size];decide) ?_;rw [Hw3.out];simp only [Act.put])
  | ((with_reducible show wpList _ _ _ (⟨none,.store _ (.tmp 10) _,_,_,_,_⟩::_) _ _);refine wpList_put1i rfl 4 (.tmp 10) (.const (.bool true)) rfl sizeBl ⟨g,74,none⟩ (.bool true) rfl rfl rfl _ c74 f74 ?_;rw [Hw4.out];simp only [Act.put])
  | ((with_reducible show wpList _ _ _ [⟨none,.store _ (.tmp 12) _,_,_,_,_⟩] _ _);refine wpList_put1i rfl 4 (.tmp 12) (.const (.bool true)) rfl sizeBl ⟨g,75,none⟩ (.bool true) rfl rfl rfl _ c75 f75 ?_;simp only [Act.put]))
 go_end0
 exact ⟨rfl,HF.out,HK.out⟩
set_option maxHeartbeats 4000000 in
set_option maxRecDepth 100000 in
theorem mfail2_any (Z:Nat→Prop) (lo g:Nat) (R:MdR) (m:MoV) (W:World) (h:Md Z lo g R m W) (ho:m.only=false) :
  Calls Tryz.prog 23 #[.pointer (some ⟨g,0,none⟩),.int .i64 2] W fun e w'=>e = .returned (.int .i64 0)∧Md Z lo g R { m with only:=true } w'∧KB (fun b=>b=g) W w':=by
 have hmay:=mmay_any h
 rw [ho] at hmay
 obtain ⟨w2,hw2⟩:∃ x,(W.alloc (.cells #[.nilFunc,.nilFunc,.nilFunc,.nilFunc] 113)).setRow W.heap.size failT=x:=⟨_,rfl⟩
 have B2:Below W.heap.size W w2:=by rw [← hw2];exact below_setRow ((Below.refl _ _).alloc (Nat.le_refl _) _) (Nat.le_refl _) _
 have k2:Blk w2 W.heap.size 113 failT:=by rw [← hw2];exact (Blk.new _ _ _).setRow_ _
 have c1:w2.cell? ⟨W.heap.size,2,none⟩=some (.func (.func 57) #[] #[]):=by rw [k2.cell];rfl
 have hfl:=settling_any Z lo g R m w2 (h.step B2)
 have Hw2:=Lib.hid hw2
 have Hfl:=Lib.hid hfl
 clear h ho hw2 k2 hfl
 go_enter Tryz.func23,Tryz.ntmps23
 go_wp2_with (first
  | (go_at_call 49;refine hmay.mono ?_;rintro e w' ⟨rfl,hw⟩;obtain rfl:=hw.symm)
  | ((with_reducible show wpList _ _ _ (⟨some 12,.build _ _,_,_,_,_⟩::_) _ _);refine wpList_run rfl _ _ (build_failT rfl rfl rfl rfl W) ?_;simp only [Act.put])
  | ((with_reducible show wpList _ _ _ [⟨none,.store _ (.tmp 6) _,_,_,_,_⟩] _ _);refine wpList_store_blk rfl 113 (.tmp 6) (.tmp 12) rfl 4 sizeFT W.heap.size failT rfl rfl rfl oneFT 113 _ (Blk.new W _ _) rfl ?_;rw [Hw2.out];simp only [Act.put]))
 refine Hfl.out.mono ?_
 rintro e w3 ⟨rfl,hD,hK⟩
 clear Hfl c1
 go_wp2_with fail
 go_ret
 exact ⟨rfl,hD,(KB.of_below B2).trans hK⟩
set_option maxHeartbeats 4000000 in
set_option maxRecDepth 100000 in
theorem mfail3_any (Z:Nat→Prop) (lo g:Nat) (R:MdR) (m:MoV) (W:World) (h:Md Z lo g R m W) (ho:m.only=false) :
  Calls Tryz.prog 23 #[.pointer (some ⟨g,0,none⟩),.int .i64 3] W fun e w'=>e = .returned (.int .i64 0)∧Md Z lo g R { m with pointing:=true,ptS:=(m.ents.length:Int),ptR:=m.nowR,only:=true } w'∧KB (fun b=>b=g) W w':=by
 have hmay:=mmay_any h
 rw [ho] at hmay
 obtain ⟨w2,hw2⟩:∃ x,(W.alloc (.cells #[.nilFunc,.nilFunc,.nilFunc,.nilFunc] 113)).setRow W.heap.size failT=x:=⟨_,rfl⟩
 have B2:Below W.heap.size W w2:=by rw [← hw2];exact below_setRow ((Below.refl _ _).alloc (Nat.le_refl _) _) (Nat.le_refl _) _
 have k2:Blk w2 W.heap.size 113 failT:=by rw [← hw2];exact (Blk.new _ _ _).setRow_ _
 have c1:w2.cell? ⟨W.heap.size,3,none⟩=some (.func (.func 58) #[] #[]):=by rw [k2.cell];rfl
 have hfl:=publishing_any Z lo g R m w2 (h.step B2)
 have Hw2:=Lib.hid hw2
 have Hfl:=Lib.hid hfl
 clear h ho hw2 k2 hfl
 go_enter Tryz.func23,Tryz.ntmps23
 go_wp2_with (first
  | (go_at_call 49;refine hmay.mono ?_;rintro e w' ⟨rfl,hw⟩;obtain rfl:=hw.symm)
  | ((with_reducible show wpList _ _ _ (⟨some 12,.build _ _,_,_,_,_⟩::_) _ _);refine wpList_run rfl _ _ (build_failT rfl rfl rfl rfl W) ?_;simp only [Act.put])
  | ((with_reducible show wpList _ _ _ [⟨none,.store _ (.tmp 6) _,_,_,_,_⟩] _ _);refine wpList_store_blk rfl 113 (.tmp 6) (.tmp 12) rfl 4 sizeFT W.heap.size failT rfl rfl rfl oneFT 113 _ (Blk.new W _ _) rfl ?_;rw [Hw2.out];simp only [Act.put]))
 refine Hfl.out.mono ?_
 rintro e w3 ⟨rfl,hD,hK⟩
 clear Hfl c1
 go_wp2_with fail
 go_ret
 exact ⟨rfl,hD,(KB.of_below B2).trans hK⟩
set_option maxHeartbeats 4000000 in
set_option maxRecDepth 100000 in
theorem mfail_any (Z:Nat→Prop) (lo g:Nat) (R:MdR) (m:MoV) (W:World) (h:Md Z lo g R m W) (c:Int) :
  Calls Tryz.prog 23 #[.pointer (some ⟨g,0,none⟩),.int .i64 c] W fun e w'=>e = .returned (.int .i64 (m.failE c))∧MdS Z lo g R (m.failM c) W w':=by
 have hmay:=mmay_any h
 by_cases ho:m.only=true
 ·have e1:m.failE c=10:=by unfold MoV.failE;rw [if_pos ho]
  have e2:m.failM c=m:=by unfold MoV.failM;rw [if_pos ho]
  rw [e1,e2]
  rw [ho] at hmay
  have HS:=Lib.hid h
  clear h ho e1 e2
  go_enter Tryz.func23,Tryz.ntmps23
  go_wp2_with (go_at_call 49;refine hmay.mono ?_;rintro e w' ⟨rfl,hw⟩;obtain rfl:=hw.symm)
  go_ret
  exact ⟨rfl,⟨R,HS.out,fun _ h => .inl h⟩,KB.refl _ _⟩
 have ho:m.only=false:=by simpa using ho
 rw [ho] at hmay
 by_cases hc:c<1∨3<c
 ·have e1:m.failE c=2:=by unfold MoV.failE;rw [if_neg (by rw [ho];decide),if_pos hc]
  have e2:m.failM c=m:=by unfold MoV.failM;rw [if_neg (by rw [ho];decide),if_neg (by omega),if_neg (by omega),if_neg (by omega)]
  rw [e1,e2]
  obtain ⟨w2,hw2⟩:∃ x,(W.alloc (.cells #[.nilFunc,.nilFunc,.nilFunc,.nilFunc] 113)).setRow W.heap.size failT=x:=⟨_,rfl⟩
  have B2:Below W.heap.size W w2:=by rw [← hw2];exact below_setRow ((Below.refl _ _).alloc (Nat.le_refl _) _) (Nat.le_refl _) _
  have Hw2:=Lib.hid hw2
  have HS:=Lib.hid h
  clear h ho e1 e2 hw2
  by_cases h1:c<1
  ·have d1:decide (c<1)=true:=by simpa using h1
   clear hc
   go_enter Tryz.func23,Tryz.ntmps23
   go_wp2_with (first
    | (go_at_call 49;refine hmay.mono ?_;rintro e w' ⟨rfl,hw⟩;obtain rfl:=hw.symm)
    | ((with_reducible show wpList _ _ _ (⟨some 12,.build _ _,_,_,_,_⟩::_) _ _);refine wpList_run rfl _ _ (build_failT rfl rfl rfl rfl W) ?_;simp only [Act.put])
    | ((with_reducible show wpList _ _ _ [⟨none,.store _ (.tmp 6) _,_,_,_,_⟩] _ _);refine wpList_store_blk rfl 113 (.tmp 6) (.tmp 12) rfl 4 sizeFT W.heap.size failT rfl rfl rfl oneFT 113 _ (Blk.new W _ _) rfl ?_;rw [Hw2.out];simp only [Act.put]))
   go_ret
   exact ⟨rfl,⟨R,HS.out.step B2,fun _ h => .inl h⟩,KB.of_below B2⟩
  ·have d1:decide (c<1)=false:=by simpa using h1
   have h2:3<c:=by omega
   have d2:decide (3<c)=true:=by simpa using h2
   clear hc
   go_enter Tryz.func23,Tryz.ntmps23
   go_wp2_with (first
    | (go_at_call 49;refine hmay.mono ?_;rintro e w' ⟨rfl,hw⟩;obtain rfl:=hw.symm)
    | ((with_reducible show wpList _ _ _ (⟨some 12,.build _ _,_,_,_,_⟩::_) _ _);refine wpList_run rfl _ _ (build_failT rfl rfl rfl rfl W) ?_;simp only [Act.put])
    | ((with_reducible show wpList _ _ _ [⟨none,.store _ (.tmp 6) _,_,_,_,_⟩] _ _);refine wpList_store_blk rfl 113 (.tmp 6) (.tmp 12) rfl 4 sizeFT W.heap.size failT rfl rfl rfl oneFT 113 _ (Blk.new W _ _) rfl ?_;rw [Hw2.out];simp only [Act.put]))
   go_ret
   exact ⟨rfl,⟨R,HS.out.step B2,fun _ h => .inl h⟩,KB.of_below B2⟩
 have e1:m.failE c=0:=by unfold MoV.failE;rw [if_neg (by rw [ho];decide),if_neg hc]
 rw [e1]
 have hc3:c=1∨c=2∨c=3:=by omega
 rcases hc3 with rfl|rfl|rfl
 ·have e2:m.failM 1=m.lose:=by unfold MoV.failM;rw [if_neg (by rw [ho];decide),if_pos rfl]
  rw [e2]
  refine (mfail12_any Z lo g R m W h ho).mono ?_
  rintro e w' ⟨rfl,R',h1,h2,h3⟩
  exact ⟨rfl,⟨R',h1,fun b hb => .inl (h3 b hb)⟩,h2.mono fun b e => .inl e⟩
 ·have e2:m.failM 2={ m with only:=true }:=by unfold MoV.failM;rw [if_neg (by rw [ho];decide),if_neg (by decide),if_pos rfl]
  rw [e2]
  refine (mfail2_any Z lo g R m W h ho).mono ?_
  rintro e w' ⟨rfl,h1,h2⟩
  exact ⟨rfl,⟨R,h1,fun b hb => .inl hb⟩,h2.mono fun b e => .inl e⟩
 ·have e2:m.failM 3={ m with pointing:=true,ptS:=(m.ents.length:Int),ptR:=m.nowR,only:=true }:=by unfold MoV.failM;rw [if_neg (by rw [ho];decide),if_neg (by decide),if_neg (by decide),if_pos rfl]
  rw [e2]
  refine (mfail3_any Z lo g R m W h ho).mono ?_
  rintro e w' ⟨rfl,h1,h2⟩
  exact ⟨rfl,⟨R,h1,fun b hb => .inl hb⟩,h2.mono fun b e => .inl e⟩
end Go.Proofs.YtdjhoankkddomaaGreat
