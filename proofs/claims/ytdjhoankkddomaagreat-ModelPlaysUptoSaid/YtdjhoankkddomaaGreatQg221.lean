import Derived.Test.YtdjhoankkddomaaGreatQg220
import Derived.Test.YtdjhoankkddomaaGreatQg215
import Derived.Lib.AppendZeros
import Derived.Test.YtdjhoankkddomaaGreatQg204
import Derived.Test.YtdjhoankkddomaaGreatQg210
import Derived.Test.YtdjhoankkddomaaGreatQg211
import Derived.Test.YtdjhoankkddomaaGreatQg205
namespace Go.Proofs.YtdjhoankkddomaaGreat
open Go Go.RowKit
attribute [local go_sem] Oper.semAt_some
theorem builtPtM (n:Int) (l:List UInt8) (h:l.length=32):Tryz.prog.built 55 [(0,.int .i64 n),(1,.agg (l.map B).toArray)]=some (.int .i64 n::l.map B).toArray:=by
 obtain ⟨a0,a1,a2,a3,a4,a5,a6,a7,a8,a9,a10,a11,a12,a13,a14,a15,a16,a17,a18,a19,a20,a21,a22,a23,a24,a25,a26,a27,a28,a29,a30,a31,rfl⟩:=explode32 l h
 kernel_rfl
theorem run_build_ptM {ρ:Operand→Value} {o:Oper} (x y:Operand) (n:Int) (l:List UInt8) (hl:l.length=32) (ho:o.op = .build 55 #[(0,x),(1,y)]) (hx:ρ x = .int .i64 n) (hy:ρ y = .agg (l.map B).toArray) (W:World) :
  (execOp ρ o).run Tryz.prog W = .ok (.value (.agg (.int .i64 n::l.map B).toArray)) W :=
 run_build_op ho (by
  have e:(#[(0,x),(1,y)].map fun (i,x)=>(i,ρ x)).toList=[(0,.int .i64 n),(1,.agg (l.map B).toArray)]:=by simp [hx,hy]
  rw [e]
  exact builtPtM n l hl) W
set_option maxRecDepth 100000 in
theorem ret_pt {fn:Func} {p:Tmp} {tmps:Array Value} {W:World} {g:Nat} {n:Int} {l:List UInt8} (h:fn.results=#[.cell p 55]) (hp:tmps.getD p undef = .pointer (some ⟨g,0,none⟩)) (k:PB W g n l):(results fn tmps).run Tryz.prog W = .ok (.agg (.int .i64 n::l.map B).toArray) W :=
 results_cell_row h tmps W g 55 (Value.int .i64 n::l.map B).toArray (0,0) _ hp k.blk Tryz.underlying55 rfl (by rw [show (Value.int .i64 n::l.map B).toArray.size=33 by simp [k.rl]];kernel_rfl)
set_option maxRecDepth 100000 in
theorem tuple_pt {fn:Func} {p u:Tmp} (h:fn.results=#[.cell p 55,.tmp u]) (tmps:Array Value) (W:World) (g:Nat) (n:Int) (l:List UInt8)
  (hp:tmps.getD p undef = .pointer (some ⟨g,0,none⟩)) (k:PB W g n l) :
  (results fn tmps).run Tryz.prog W = .ok (.tuple #[.agg (.int .i64 n::l.map B).toArray,tmps.getD u undef]) W:=by
 rw [results_cell_tmp h,hp]
 show ((loadVar 55 ⟨g,0,none⟩).run Tryz.prog W).andThen (fun v w₂=>Result.ok (Value.tuple #[v,tmps.getD u undef]) w₂)=_
 rw [run_loadVar_row W g 55 55 (Value.int .i64 n::l.map B).toArray (0,0) _ k.blk Tryz.underlying55 rfl (by rw [show (Value.int .i64 n::l.map B).toArray.size=33 by simp [k.rl]];kernel_rfl)]
 rfl
theorem md_last {R:MdR} {m:MoV} (s:Int) (r:List UInt8) (hr:r.length=32):((mdArr R m).toList.take 6++(.int .i64 s::r.map B)++(mdArr R m).toList.drop (6+33)).toArray=mdArr R { m with lastS:=s,lastR:=r }:=by
 have hl:(mdArr R m).toList.length=77:=by simpa using md_size R m
 have hp:(Value.int .i64 s::r.map B).length=33:=by simp [hr]
 refine md_ext (by simp [hr,md_size]) fun i hi=>?_
 rw [List.getElem?_toArray]
 by_cases h1:i<6
 ·rw [List.append_assoc,List.getElem?_append_left (by rw [List.length_take];omega),List.getElem?_take_of_lt h1,Array.getElem?_toList,md_at _ _ _ hi]
  rcases (by omega:i=0∨i=1∨i=2∨i=3∨i=4∨i=5) with rfl|rfl|rfl|rfl|rfl|rfl <;> rfl
 ·by_cases h2:i<39
  ·rw [List.append_assoc,List.getElem?_append_right (by rw [List.length_take];omega),List.length_take,List.getElem?_append_left (by rw [hp];omega)]
   by_cases h3:i=6
   ·subst h3;simp [hl];rfl
   ·obtain ⟨j,rfl⟩:∃ j,i=j+7:=⟨i - 7,by omega⟩
    rw [show j+7 - min 6 (mdArr R m).toList.length=j+1 by omega,List.getElem?_cons_succ,List.getElem?_map,List.getElem?_eq_getElem (by omega)]
    have e:mcell R { m with lastS:=s,lastR:=r } (j+7)=B (r.getD (j+7 - 7) 0):=by
     unfold mcell
     simp only [show j+7≠0 by omega,show j+7≠1 by omega,show j+7≠2 by omega,show j+7≠3 by omega,show j+7≠4 by omega,show j+7≠5 by omega,show j+7≠6 by omega,show j+7<39 by omega,if_false,if_true]
    rw [e,Nat.add_sub_cancel,List.getD_eq_getElem?_getD,List.getElem?_eq_getElem (by omega)]
    rfl
  ·rw [List.getElem?_append_right (by rw [List.length_append,List.length_take,hp];omega),List.getElem?_drop,List.length_append,List.length_take,hp,show 6+33+(i - (min 6 (mdArr R m).toList.length+33))=i by omega,Array.getElem?_toList,md_at _ _ _ hi]
   unfold mcell
   simp only [show i≠0 by omega,show i≠1 by omega,show i≠2 by omega,show i≠3 by omega,show i≠4 by omega,show i≠5 by omega,show i≠6 by omega,h2,if_false]
set_option maxHeartbeats 4000000 in
set_option maxRecDepth 100000 in
theorem mnow_any (Z:Nat→Prop) (lo g:Nat) (R:MdR) (m:MoV) (W:World) (h:Md Z lo g R m W) :
  Calls Tryz.prog 50 #[.pointer (some ⟨g,0,none⟩)] W fun e w'=>e = .returned (.agg (.int .i64 (m.ents.length:Int)::m.nowR.map B).toArray)∧Below W.heap.size W w':=by
 obtain ⟨A,c,hre,hrs⟩:=h.roots
 have hr:=hrs.sl.room
 have hmx:=hrs.sl.max
 unfold maxLen at hmx
 obtain ⟨b,o,rfl,hbl,-,hld⟩:=hrs.at_ (by omega)
 obtain ⟨root,hroot⟩:∃ x,m.nowR=x:=⟨_,rfl⟩
 have hr32:root.length=32:=by rw [← hroot];exact length_rootL _ (H32.lvs _)
 have hget:(headsL (lvs m.ents) m.ents.length).getD m.ents.length []=root:=by
  rw [headsL_getD _ _ _ (Nat.le_refl _),List.take_of_length_le (by rw [lvs_length];exact Nat.le_refl _)]
  exact hroot
 obtain ⟨w1,hw1⟩:∃ x,W.alloc (.cells (.int .i64 0::(List.replicate 32 0).map B).toArray 55)=x:=⟨_,rfl⟩
 have p1:PB w1 W.heap.size 0 (List.replicate 32 0):=by rw [← hw1];exact ⟨Blk.new _ _ _,by simp⟩
 have B1:Below W.heap.size W w1:=by rw [← hw1];exact (Below.refl _ _).alloc (Nat.le_refl _) _
 have hS0:Below W.heap.size W w1.drew:=B1.drew
 have p2:∀ W',Below w1.drew.heap.size w1.drew W'→PB W' W.heap.size 0 (List.replicate 32 0):=fun W' hb=>(p1.step ((Below.refl _ _).drew)).step hb
 obtain ⟨n,hke⟩:∃ x,m.ents.length=x:=⟨_,rfl⟩
 have hsz:=fun W' (hb:Below W.heap.size W W')=>msize_any (h.step hb)
 have c2:∀ s:InC (fun W'=>Below W.heap.size W W'),s.W.cell? ⟨g,2,none⟩=some (.slice (some ⟨b,o,none⟩) (n+1) c):=fun s=>by rw [← hke];exact ((h.step s.ok).cell 2 (by decide)).trans (congrArg some hre)
 have hlr:∀ s:InC (fun W'=>Below W.heap.size W W'),(Instr.loadAt 53 (.pointer (some ⟨b,o+n*32,none⟩))).run Tryz.prog s.W = .ok (.agg (root.map B).toArray) s.W:=fun s=>by
  obtain ⟨b',o',e',-,-,hld'⟩:=(hrs.step s.ok).at_ (by omega)
  cases e'
  have:=hld' m.ents.length (by omega)
  rw [hget,hke] at this
  exact this
 rw [hke] at hsz hr ⊢
 have hw:IntKind.i64.wrap (n:Int)=(n:Int):=IntWalk.i64_in _ (by omega)
 have hwn:(n:Int)<(n:Int)+1:=by omega
 have hnn:n<n+1:=Nat.lt_succ_self n
 rw [hroot]
 have Hsz:=Lib.hid hsz
 have Hp2:=Lib.hid p2
 have Hw1:=Lib.hid hw1
 clear hre hrs hld hroot hget hw1 p2 hsz hke h
 go_enter Tryz.func50,Tryz.ntmps50
 go_upto_region 1 with ((with_reducible show wpList _ _ _ (⟨some 2,.alloc _,_,_,_,_⟩::_) _ _);refine wpList_run rfl (.pointer (some ⟨W.heap.size,0,none⟩)) w1 (by rw [← Hw1.out];kernel_rfl) ?_;simp only [Act.put])
 have hS:=hS0
 clear hS0
 refine wp_region_mix (fun W'=>Below W.heap.size W W') [(0,true),(2,true),(3,true),(4,true),(5,true),(6,true),(7,true),(8,true),(9,true),(10,true),(11,true),(12,true),(13,true),(14,true),(15,true),(1,false),(16,true),(17,false)] (by kernel_rfl) (by kernel_rfl) hS fun _=>?_
 simp only [List.map_cons,List.map_nil,Array.getD_eq_getD_getElem?,List.getElem?_toArray,List.getElem?_cons_succ,List.getElem?_cons_zero,Option.getD_some]
 generalize w1.drew=W0 at hS Hp2 ⊢
 iterate 14 (refine wpMix_s (fun K hK=>?_);go_simp;refine hK _ ?_;clear hK K)
 refine wpMix_load (by kernel_rfl) 53 (.tmp 17) rfl (b) (o+n*32) rfl (root.map B).toArray (hlr) ?_
 simp only [Act.put,List.setIfInBounds_toArray,List.set_cons_succ,List.set_cons_zero]
 refine wpMix_c (fun K hK=>?_) hS
 go_simp
 refine (Hsz.out W0 hS).mono ?_
 rintro e W0e ⟨rfl,hww⟩
 obtain rfl:=hww.symm
 refine hK _ _ ?_
 clear hK K
 refine ⟨hS,?_⟩
 refine wpMix_v (by kernel_rfl) (.agg (.int .i64 (n:Int)::root.map B).toArray) (fun s=>run_build_ptM (.tmp 4) (.tmp 18) _ root hr32 rfl rfl rfl s.W) ?_
 simp only [Act.put,List.setIfInBounds_toArray,List.set_cons_succ,List.set_cons_zero]
 refine wpMix_pset (.tmp 2) (.tmp 19) rfl rfl (Hp2.out _ (Below.refl _ _)) rfl rfl hr32 (fun W9 hb=>hS.trans (hb.mono (Nat.le_refl _))) ?_
 rintro W9 pF hb9 -
 simp only [Act.put]
 replace hS:=hS.trans (hb9.mono (Nat.le_refl _))
 refine wpMix_nil ?_
 intro _
 go_wp2_with fail
 exact bodyPost_ret (ret_pt rfl rfl pF) rfl ⟨rfl,hS⟩
end Go.Proofs.YtdjhoankkddomaaGreat
namespace Go.Proofs.YtdjhoankkddomaaGreat
open Go Go.RowKit
attribute [local go_sem] Oper.semAt_some
theorem Md.turn {W W':World} {Z:Nat→Prop} {lo g:Nat} {R:MdR} {m m':MoV} (h:Md Z lo g R m W) (hg:KB (fun b=>b=g) W W') (hb:Blk W' g 57 (mdArr R m')) (e1:m'.ents=m.ents) (e2:m'.queue=m.queue) (e3:m'.begun=m.begun) (e4:m'.only=false→m.only=false) (l1:m'.lastR.length=32) (l2:m'.ptR.length=32):Md Z lo g R m' W':=by
 obtain ⟨Ar,cr,hre,hrs⟩:=h.roots
 obtain ⟨Ab,cb,hbe,hbs⟩:=h.begun
 refine ⟨hb,l1,l2,?_,?_,⟨Ar,cr,?_,?_⟩,?_,⟨Ab,cb,?_,?_⟩,h.eq,?_,h.low,?_,?_,fun b hz=>Nat.lt_of_lt_of_le (h.zlt b hz) hg.size,h.zno⟩
 ·rw [e1];exact h.ents.kb hg (fun b hv e=>by subst e;exact own_ty h.ents.ex.choose_spec.1 h.blk (by decide) hv) (fun b _ hx e=>hx (.inl (.inl e)))
 ·rw [e1];exact hg.own h.hashes fun b hv e=>by subst e;exact own_ty h.hashes h.blk (by decide) hv
 ·rw [e1];exact hre
 ·rw [e1];exact hrs.kb hg fun b _ hx e=>hx (.inl (.inl e))
 ·rw [e2];exact h.queue.kb hg (fun b hv e=>by subst e;exact own_ty h.queue.ex.choose_spec.1 h.blk (by decide) hv) (fun b _ hx e=>hx (.inl (.inl e)))
 ·rw [e3];exact hbe
 ·rw [e3];exact hbs.kb hg (fun b _ hx e=>hx (.inl e)) (fun b _ hx e=>hx (.inl (.inl e)))
 ·intro ho;rw [e3];exact h.fresh (e4 ho)
 ·rw [e1];exact h.big
 ·rw [e2];exact h.bigq
theorem sizeBl:∀ w:World,(sizeOf 4).run Tryz.prog w = .ok 1 w:=fun _=>by kernel_rfl
theorem md_loadLast {W:World} {g:Nat} {R:MdR} {m:MoV} (h:Blk W g 57 (mdArr R m)) (hl:m.lastR.length=32):(Instr.loadAt 55 (.pointer (some ⟨g,6,none⟩))).run Tryz.prog W = .ok (.agg (.int .i64 m.lastS::m.lastR.map B).toArray) W :=
 run_load_agg (ptAgg _) (ptSize _) g 6 (.int .i64 m.lastS::m.lastR.map B) (by simp [hl]) fun j u hu=>by
  have hj:j<33:=by have:=(List.getElem?_eq_some_iff.1 hu).1;simp [hl] at this;omega
  rw [h.cell,md_at _ _ _ (by omega)]
  by_cases h0:j=0
  ·subst h0
   rw [List.getElem?_cons_zero] at hu
   exact hu
  ·obtain ⟨i,rfl⟩:∃ i,j=i+1:=⟨j - 1,by omega⟩
   rw [List.getElem?_cons_succ,List.getElem?_map,List.getElem?_eq_getElem (by omega)] at hu
   rw [← hu]
   unfold mcell
   simp only [show 6+(i+1)≠0 by omega,show 6+(i+1)≠1 by omega,show 6+(i+1)≠2 by omega,show 6+(i+1)≠3 by omega,show 6+(i+1)≠4 by omega,show 6+(i+1)≠5 by omega,show 6+(i+1)≠6 by omega,show 6+(i+1)<39 by omega,if_false,if_true]
   rw [show 6+(i+1) - 7=i by omega,List.getD_eq_getElem?_getD,List.getElem?_eq_getElem (by omega)]
   rfl
set_option maxHeartbeats 4000000 in
set_option maxRecDepth 100000 in
theorem mpublish_any (Z:Nat→Prop) (lo g:Nat) (R:MdR) (m:MoV) (W:World) (h:Md Z lo g R m W) (ho:m.only=false) :
  Calls Tryz.prog 15 #[.pointer (some ⟨g,0,none⟩)] W fun e w'=>e = .returned (.tuple #[.agg (.int .i64 (m.ents.length:Int)::m.nowR.map B).toArray,.int .i64 0])∧MdS Z lo g R m.publish W w':=by
 obtain ⟨root,hroot⟩:∃ x,m.nowR=x:=⟨_,rfl⟩
 have hr32:root.length=32:=by rw [← hroot];exact length_rootL _ (H32.lvs _)
 obtain ⟨w1,hw1⟩:∃ x,W.alloc (.cells (.int .i64 0::(List.replicate 32 0).map B).toArray 55)=x:=⟨_,rfl⟩
 have p1:PB w1 W.heap.size 0 (List.replicate 32 0):=by rw [← hw1];exact ⟨Blk.new _ _ _,by simp⟩
 have B1:Below W.heap.size W w1:=by rw [← hw1];exact (Below.refl _ _).alloc (Nat.le_refl _) _
 have h1:=h.step B1
 have hmay:=mmay_any h1
 rw [ho] at hmay
 have hnow:=mnow_any Z lo g R m w1 h1
 rw [hroot] at hnow ⊢
 have hgl:=h.blk.lt
 obtain ⟨n,hke⟩:∃ x,m.ents.length=x:=⟨_,rfl⟩
 rw [hke] at hnow ⊢
 obtain ⟨pc,hpc⟩:∃ x,(Value.int .i64 (n:Int)::root.map B).toArray=x:=⟨_,rfl⟩
 have hpc33:pc.size=33:=by rw [← hpc];simp [hr32]
 have hpc1:∀ v ∈ pc.toList,v.oneCell'=true:=by rw [← hpc];exact oneCell_pt _ _
 rw [hpc] at hnow ⊢
 have hpub:m.publish={ m with lastS:=(n:Int),lastR:=root,has:=true }:=by rw [← hke,← hroot];rfl
 have Hpub:=Lib.hid hpub
 have Hnow:=Lib.hid hnow
 have Hw1:=Lib.hid hw1
 have Hpc:=Lib.hid hpc
 have Hpc1:=Lib.hid hpc1
 have Hho:=Lib.hid ho
 clear hnow hw1 hpc hpc1 hroot hke hpub ho
 go_enter Tryz.func15,Tryz.ntmps15
 go_wp2_with (first
  | ((with_reducible show wpList _ _ _ (⟨some 2,.alloc _,_,_,_,_⟩::_) _ _);refine wpList_run rfl (.pointer (some ⟨W.heap.size,0,none⟩)) w1 (by rw [← Hw1.out];kernel_rfl) ?_;simp only [Act.put])
  | (go_at_call 49;refine hmay.mono ?_;rintro e w' ⟨rfl,hw⟩;obtain rfl:=hw.symm))
 refine Hnow.out.mono ?_
 rintro e w2 ⟨rfl,hb2⟩
 have h2:=h1.step hb2
 have p2:=p1.step hb2
 have B2:=B1.trans (hb2.mono B1.size)
 obtain ⟨w3,hw3⟩:∃ x,w2.setRow g ((mdArr R m).toList.take 6++pc.toList++(mdArr R m).toList.drop (6+33)).toArray=x:=⟨_,rfl⟩
 have hg3:w2.grownBy w3 (some g):=by rw [← hw3];exact grown_setRow (World.grownBy.refl _ _) _
 have k3:Blk w3 g 57 (mdArr R { m with lastS:=(n:Int),lastR:=root }):=by
  rw [← hw3,← md_last (n:Int) root hr32,← Hpc.out]
  exact h2.blk.setRow_ _
 have c39:w3.cell? ⟨g,39,none⟩=some (.bool m.has):=by rw [k3.cell,md_at _ _ 39 (by decide)];rfl
 have f39:=k3.frozen 39
 have k4:Blk (w3.setCell ⟨g,39,none⟩ (.bool true)) g 57 (mdArr R m.publish):=by
  rw [Hpub.out,← md_set (R:=R) (R':=R) (m:={ m with lastS:=(n:Int),lastR:=root }) (m':={ m with lastS:=(n:Int),lastR:=root,has:=true }) 39 (by decide) (.bool true) rfl fun i hi hne=>by simp only [mcell,hne,if_false]]
  exact k3.set_ 39 _
 have hg4:w2.grownBy (w3.setCell ⟨g,39,none⟩ (.bool true)) (some g):=grown_setCell hg3 39 _
 obtain ⟨w4,hw4⟩:∃ x,w3.setCell ⟨g,39,none⟩ (.bool true)=x:=⟨_,rfl⟩
 rw [hw4] at k4 hg4
 have hld:(Instr.loadAt 55 (.pointer (some ⟨g,6,none⟩))).run Tryz.prog w4 = .ok (.agg pc) w4:=by
  have:=md_loadLast k4 (by rw [Hpub.out];exact hr32)
  rw [Hpub.out] at this
  rw [← Hpc.out]
  exact this
 have p4:PB w4 W.heap.size 0 (List.replicate 32 0):=⟨p2.blk.grown hg4 (fun e=>by have e:=Option.some.inj e;omega),p2.rl⟩
 have hK4:KB (fun b=>b=g) W w4:=(KB.of_below B2).trans (KB.of_grown hg4 fun r e=>(Option.some.inj e).symm)
 have hz4:W.heap.size≤w4.heap.size:=Nat.le_trans B2.size hg4.size
 have hk2:=h2.blk
 have p5:PB (w4.setRow W.heap.size pc) W.heap.size (n:Int) root:=⟨by rw [Hpc.out];exact p4.blk.setRow_ _,hr32⟩
 have hb5:Below W.heap.size w4 (w4.setRow W.heap.size pc):=below_setRow (Below.refl _ _) (Nat.le_refl _) _
 have hKs:KB (fun b=>b=W.heap.size) w4 (w4.setRow W.heap.size pc):=KB.of_grown (grown_setRow (World.grownBy.refl _ (some W.heap.size)) pc) fun r e=>(Option.some.inj e).symm
 have hK5:KB (fun b=>b=g) W (w4.setRow W.heap.size pc):=hK4.then hKs fun b hb e=>by omega
 have h5:Md Z lo g R m.publish (w4.setRow W.heap.size pc):=h.turn hK5 (hKs.blk k4 (by omega)) rfl rfl rfl (fun h=>h) (by rw [Hpub.out];exact hr32) h.ptL
 have Hw3:=Lib.hid hw3
 have Hw4:=Lib.hid hw4
 have H5:=Lib.hid h5
 have HK5:=Lib.hid hK5
 have hp4:=p4.blk
 clear hw3 hw4 h5 hK5 hKs hK4 hg3 hg4 k3 k4 h2 p2 p1 h1 hmay hb5 p4 h
 go_wp2_with (first
  | ((with_reducible show wpList _ _ _ (⟨none,.store _ (.tmp 16) _,_,_,_,_⟩::_) _ _);refine wpList_store_agg rfl 55 (.tmp 16) (.tmp 14) rfl 33 ptSize g 6 pc rfl rfl hpc33 Hpc1.out 57 (mdArr R m) hk2 (by rw [md_size];decide) ?_;rw [Hw3.out];simp only [Act.put])
  | ((with_reducible show wpList _ _ _ [⟨none,.store _ (.tmp 18) _,_,_,_,_⟩] _ _);refine wpList_put1i rfl 4 (.tmp 18) (.const (.bool true)) rfl sizeBl ⟨g,39,none⟩ (.bool true) rfl rfl rfl _ c39 f39 ?_;rw [Hw4.out];simp only [Act.put])
  | ((with_reducible show wpList _ _ _ (⟨some 22,.load _ _,_,_,_,_⟩::_) _ _);refine wpList_load rfl 55 (.tmp 21) rfl g 6 rfl pc hld ?_;simp only [Act.put])
  | ((with_reducible show wpList _ _ _ (⟨none,.store _ (.tmp 2) _,_,_,_,_⟩::_) _ _);refine wpList_store_blk rfl 55 (.tmp 2) (.tmp 22) rfl 33 ptSize W.heap.size pc rfl rfl hpc33 Hpc1.out 55 _ hp4 (by simp) ?_;simp only [Act.put]))
 refine bodyPost_ret (tuple_pt rfl _ _ W.heap.size (n:Int) root rfl p5) rfl ⟨by rw [← Hpc.out];rfl,⟨R,H5.out,fun b hb => .inl hb⟩,HK5.out.mono fun b e => .inl e⟩
end Go.Proofs.YtdjhoankkddomaaGreat
namespace Go.Proofs.YtdjhoankkddomaaGreat
open Go Go.RowKit Go.Shelf
attribute [local go_sem] Oper.semAt_some
theorem run_append2_op {P:Program} {ρ:Operand→Value} {o:Oper} {w w':World} {v:Value} (x y:Operand) (t u:TypeId) (ho:o.op = .call { callee := .builtin .append,args:=#[x,y],argTypes:=#[t,u] }) (vx vy:Value) (hx:ρ x=vx) (hy:ρ y=vy)
  (h:(Builtin.append_ #[t,u] o.type #[vx,vy]).run P w = .ok v w'):(execOp ρ o).run P w = .ok (.value v) w':=by
 unfold execOp
 simp only [ho,resolve,invoke,builtin,Sem.run_bind,Sem.run_pure,Result.andThen_ok,List.map_toArray,List.map_cons,List.map_nil,hx,hy,h]
theorem sizeB8:∀ w:World,(sizeOf (Tryz.prog.elem 41)).run Tryz.prog w = .ok 1 w:=fun _=>by kernel_rfl
theorem sliceB8:Tryz.prog.underlying 41=some (.slice (Tryz.prog.elem 41)):=by kernel_rfl
theorem run_slice_hi8 {ρ:Operand→Value} {o:Oper} (x y:Operand) (ho:o.op = .slice 41 x none (some y) none) (A:Option Addr) (n c k:Nat) (hx:ρ x = .slice A n c) (hy:ρ y = .int .i64 (k:Int)) (hk:k≤c) (W:World) :
  (execOp ρ o).run Tryz.prog W = .ok (.value (.slice A k c)) W:=by
 unfold execOp
 simp only [ho,hx,hy,Option.map_some,Option.map_none,run_slice_high sliceB8 sizeB8 A n c k hk W,Sem.run_bind,Sem.run_pure,Result.andThen_ok]
end Go.Proofs.YtdjhoankkddomaaGreat
namespace Go.Proofs.YtdjhoankkddomaaGreat
open Go Go.RowKit
attribute [local go_sem] Oper.semAt_some
set_option maxRecDepth 100000 in
theorem mread_out (Z:Nat→Prop) (lo g:Nat) (R:MdR) (m:MoV) (W:World) (h:Md Z lo g R m W) (n:Int) (hn:n<0∨(m.ents.length:Int)≤n) :
  Calls Tryz.prog 16 #[.pointer (some ⟨g,0,none⟩),.int .i64 n] W fun e w'=>e = .returned (.tuple #[.slice none 0 0,.int .i64 4])∧w'=W:=by
 have hno:=mnone_any h
 have hsz:=msize_any h
 clear h
 by_cases h0:n<0
 ·have d1:decide (n<0)=true:=by simpa using h0
  go_enter Tryz.func16,Tryz.ntmps16
  go_wp2_with (first
   | (go_at_call 51;refine hno.mono ?_;rintro e w' ⟨rfl,hw⟩;obtain rfl:=hw.symm)
   | (go_at_call 32;refine hsz.mono ?_;rintro e w' ⟨rfl,hw⟩;obtain rfl:=hw.symm))
  go_ret2
  exact ⟨rfl,rfl⟩
 ·have d1:decide (n<0)=false:=by simpa using h0
  have h1:(m.ents.length:Int)≤n:=by omega
  have d2:decide ((m.ents.length:Int)≤n)=true:=by simpa using h1
  go_enter Tryz.func16,Tryz.ntmps16
  go_wp2_with (first
   | (go_at_call 51;refine hno.mono ?_;rintro e w' ⟨rfl,hw⟩;obtain rfl:=hw.symm)
   | (go_at_call 32;refine hsz.mono ?_;rintro e w' ⟨rfl,hw⟩;obtain rfl:=hw.symm))
  go_ret2
  exact ⟨rfl,rfl⟩
set_option maxRecDepth 100000 in
theorem mread_any (Z:Nat→Prop) (lo g:Nat) (R:MdR) (m:MoV) (W:World) (h:Md Z lo g R m W) (k:Nat) (hk:k<m.ents.length) :
  Calls Tryz.prog 16 #[.pointer (some ⟨g,0,none⟩),.int .i64 (k:Int)] W fun e w'=>∃ A' c',e = .returned (.tuple #[.slice A' (m.ents.getD k []).length c',.int .i64 0])∧Sl w' (W.heap.size ≤ ·) A' (m.ents.getD k []).length c' (m.ents.getD k [])∧Below W.heap.size W w':=by
 have hno:=mnone_any h
 have hsz:=msize_any h
 obtain ⟨A,c,hve,hes⟩:=h.ents.es
 have hr:=hes.room
 have hm:=hes.max
 unfold maxLen at hm
 obtain ⟨b,o,rfl,-,-,hat⟩:=hes.at_ (by omega)
 obtain ⟨Ak,ck,ce,hsk⟩:=hat k hk
 have hbig:(m.ents.getD k []).length≤1099511627776:=h.big _ (by rw [List.getD_eq_getElem?_getD,List.getElem?_eq_getElem hk];exact List.getElem_mem hk)
 obtain ⟨l,hl⟩:∃ x,m.ents.getD k []=x:=⟨_,rfl⟩
 rw [hl] at ce hsk hbig ⊢
 obtain ⟨N,hN⟩:∃ x,m.ents.length=x:=⟨_,rfl⟩
 rw [hN] at hve hk hr hsz
 have c0:W.cell? ⟨g,0,none⟩=some (.slice (some ⟨b,o,none⟩) N c):=(h.cell 0 (by decide)).trans (congrArg some hve)
 have d1:decide ((k:Int)<0)=false:=by simp
 have d2:decide ((N:Int)≤(k:Int))=false:=by simp;omega
 have hcl:=bclone_any l Ak l.length ck W hsk hbig
 have Hcl:=Lib.hid hcl
 have hrk:=hsk.room
 have hmk:=hsk.max
 unfold maxLen at hmk
 clear h hve hes hat hl hN hcl hsk
 go_enter Tryz.func16,Tryz.ntmps16
 go_wp2_with (first
  | (go_at_call 51;refine hno.mono ?_;rintro e w' ⟨rfl,hw⟩;obtain rfl:=hw.symm)
  | (go_at_call 32;refine hsz.mono ?_;rintro e w' ⟨rfl,hw⟩;obtain rfl:=hw.symm)
  | (go_at_call 46;refine Hcl.out.mono ?_;rintro e w9 ⟨A',c',rfl,hs9,hb9⟩))
 go_ret2
 exact ⟨A',c',rfl,hs9,hb9⟩
set_option maxHeartbeats 1000000 in
set_option maxRecDepth 100000 in
theorem growE_any (m:Nat) (w:World) (hm:m≤1000000000) :
  Calls Tryz.prog 80 #[.slice none 0 0,.int .i64 (m:Int)] w fun e w'=>∃ v,e = .returned v∧w'.ownsRow w.heap.size 41 1 v 0 []∧Below w.heap.size w w':=by
 have hd:decide ((m:Int)<0)=false:=by simp
 have hw:IntKind.i64.wrap (m:Int)=(m:Int):=IntWalk.i64_in _ (by omega)
 by_cases h0:m=0
 ·subst h0
  go_enter Tryz.func80,Tryz.ntmps80
  go_wp2_with fail
  go_ret
  exact ⟨_,rfl,World.ownsRow_nil _ _ _ _,Below.refl _ _⟩
 ·have hd1:decide ((0:Int)<(m:Int))=true:=by simp;omega
  have hd2:0<m:=by omega
  obtain ⟨i,hi⟩:∃ i,Tryz.prog.info? 41=some i:=Option.isSome_iff_exists.1 (by kernel_rfl)
  have hz:i.zero=some (.slice none 0 0):=by
   have:(Tryz.prog.info? 41).bind (·.zero)=some (.slice none 0 0):=by kernel_rfl
   rw [hi] at this;exact this
  have hs:i.size=1:=by
   have:(Tryz.prog.info? 41).map (·.size)=some 1:=by kernel_rfl
   rw [hi] at this;exact Option.some.inj this
  have hby:i.bytes=24:=by
   have:(Tryz.prog.info? 41).map (·.bytes)=some 24:=by kernel_rfl
   rw [hi] at this;exact Option.some.inj this
  have hr:=Lib.run_append_nil_zeros (P:=Tryz.prog) w 48 3 48 41 i _ .i64 .i64 Tryz.underlying48 Tryz.underlying3 hi hz m hd2 (by omega) (by omega) (by rw [hby];omega)
  obtain ⟨cap,hcap⟩:∃ cap,grownCap w m 0 41=cap:=⟨_,rfl⟩
  have hcm:cap≤maxLen:=by rw [← hcap];exact grownCap_le_maxLen w m 0 _ (by unfold maxLen;omega)
  have hcg:m≤cap:=by rw [← hcap];exact grownCap_ge w m 0 _
  rw [hcap] at hr
  obtain ⟨Z,hZ⟩:∃ Z,Builtin.zeroCells (Value.slice none 0 0).cells m++Builtin.zeroCells (Value.slice none 0 0).cells (cap - m)=Z:=⟨_,rfl⟩
  have hZs:Z.size=cap:=by rw [← hZ];simp [size_zeroCells,Value.cells];omega
  rw [hZ] at hr
  have hmk:=World.ownsRow_made (base:=w.heap.size) (e:=41) (size:=1) w.drew Z cap (Nat.le_refl _) hcm (by omega)
  have hb:Below w.heap.size w (w.drew.alloc (.cells Z 41)):=(Below.refl _ _).drew.alloc (Nat.le_refl _) _
  obtain ⟨w1,hw1⟩:∃ w1,w.drew.alloc (.cells Z 41)=w1:=⟨_,rfl⟩
  rw [hw1] at hr hmk hb
  unfold maxLen at hcm
  have Hr:=Lib.hid hr
  have Hcap:=Lib.hid hcap
  have hcap0:0≤cap:=Nat.zero_le _
  clear hr hz hs hby hi hcap hZ hZs hw1
  go_enter Tryz.func80,Tryz.ntmps80
  go_wp2_with (first
   | ((with_reducible show wpList _ _ _ (⟨some 20,.slice _ _ _ _ _,_,_,_,_⟩::_) _ _);refine wpList_run0 rfl (.slice none 0 0) (run_slice_hiB (.tmp 17) (.tmp 19) rfl none 0 0 0 rfl rfl (by omega) _) ?_;simp only [Act.put])
   | ((with_reducible show wpList _ _ _ (⟨some 22,.call _,_,_,_,_⟩::_) _ _);refine wpList_run rfl (.slice (some ⟨w.heap.size,0,none⟩) m cap) w1 (run_append2_op (.tmp 20) (.tmp 21) 48 3 rfl _ _ rfl rfl Hr.out) ?_;simp only [Act.put])
   | ((with_reducible show wpList _ _ _ (⟨some 25,.slice _ _ _ _ _,_,_,_,_⟩::_) _ _);refine wpList_run0 rfl (.slice (some ⟨w.heap.size,0,none⟩) 0 cap) (run_slice_hiB (.tmp 22) (.tmp 24) rfl (some ⟨w.heap.size,0,none⟩) m cap 0 rfl rfl (by omega) _) ?_;simp only [Act.put]))
  go_ret
  exact ⟨_,rfl,hmk,hb⟩
def two3 (a b c:Nat) (k:Nat):Nat:=if k=0 then a else if k=1 then b else c
theorem infoSl:(Tryz.prog.info? 41).map (fun i=>(i.zero,i.size,i.bytes))=some (some (.slice none 0 0),1,24):=by kernel_rfl
theorem Es.one {W:World} {X:Nat→Prop} {A:Option Addr} {n c:Nat} {ls:List (List UInt8)} {vs:List Value} (hl:ls.length=n) (hs:SlV W X A n c 1 vs) (h:∀ i (h:i<ls.length),∃ Ai ci,vs[i]?=some (.slice Ai (ls[i]).length ci)∧Sl W X Ai (ls[i]).length ci ls[i]):∀ u ∈ vs,u.oneCell'=true:=by
 intro u hu
 obtain ⟨i,hi,rfl⟩:=List.getElem_of_mem hu
 have hn:=hs.len
 obtain ⟨Ai,ci,h1,_⟩:=h i (by omega)
 rw [List.getElem?_eq_getElem hi] at h1
 rw [Option.some.inj h1]
 rfl
set_option maxHeartbeats 4000000 in
set_option maxRecDepth 100000 in
theorem concat2_any (la lb:List (List UInt8)) (Aa Ab:Option Addr) (na nb ca cb g2:Nat) (w:World) (k2:Blk w g2 48 #[.slice Aa na ca,.slice Ab nb cb]) (ha:Es w (fun _=>True) Aa na ca la) (hb:Es w (fun _=>True) Ab nb cb lb) (hn:na+nb≤1000000000) :
  Calls Tryz.prog 52 #[.slice (some ⟨g2,0,none⟩) 2 2] w fun e w'=>∃ A c,e = .returned (.slice A (na+nb) c)∧Es w' (fun _=>True) A (na+nb) c (la++lb)∧Below w.heap.size w w':=by
 obtain ⟨va,hsa,hea⟩:=ha.ex
 obtain ⟨vb,hsb,heb⟩:=hb.ex
 have hla:=ha.len
 have hlb:=hb.len
 have h1a:=Es.one hla hsa hea
 have h1b:=Es.one hlb hsb heb
 have hra:=ha.room
 have hma:=ha.max
 have hrb:=hb.room
 have hmb:=hb.max
 unfold maxLen at hma hmb
 have c0:w.cell? ⟨g2,0,none⟩=some (.slice Aa na ca):=by rw [k2.cell];rfl
 have c1:w.cell? ⟨g2,1,none⟩=some (.slice Ab nb cb):=by rw [k2.cell];rfl
 have Hea:=Lib.hid hea
 have Heb:=Lib.hid heb
 have Hla:=Lib.hid hla
 have Hlb:=Lib.hid hlb
 clear hea heb hla hlb ha hb
 go_enter Tryz.func52,Tryz.ntmps52
 go_wp2_with fail
 go_loopw [3,5,11] (fun v3 _ v11 wr=>∃ k:Nat,k≤2∧v11 = .int .i64 (k:Int)∧v3 = .int .i64 ((two3 0 na (na+nb) k:Nat):Int)∧wr=w) (fun _ _ v11 _=>2 - (intOf v11).toNat)
 case atStart=>exact ⟨0,by omega,rfl,rfl,rfl⟩
 case round =>
  obtain ⟨k,hk,rfl,rfl,hww⟩:=hrel
  obtain rfl:w=wr:=hww.symm
  by_cases h0:k=0
  ·subst h0
   have hws:IntKind.i64.wrap ((0:Int)+(na:Int))=(na:Int):=by rw [IntWalk.i64_in _ (by omega)];omega
   have hws':IntKind.i64.wrap ((na:Int))=(na:Int):=by rw [IntWalk.i64_in _ (by omega)]
   have hneg:decide ((na:Int)<0)=false:=by simp
   simp only [show two3 0 na (na+nb) 0=0 from rfl]
   go_wp2_with fail
   go_roundw
   case rel=>exact ⟨1,by omega,by rfl,by rfl,by first|rfl|trivial⟩
   case measure=>simp [intOf]
  ·by_cases h1:k=1
   ·subst h1
    have hws:IntKind.i64.wrap ((na:Int)+(nb:Int))=(na:Int)+(nb:Int):=IntWalk.i64_in _ (by omega)
    have hneg:decide ((na:Int)+(nb:Int)<0)=false:=by simp;omega
    have hneg2:¬ ((na:Int)+(nb:Int)<0):=by omega
    simp only [show two3 0 na (na+nb) 1=na from rfl]
    go_wp2_with fail
    go_roundw
    case rel=>exact ⟨2,by omega,by rfl,by rfl,by first|rfl|trivial⟩
    case measure=>simp [intOf]
   ·have hk2:k=2:=by omega
    obtain ⟨T,hT⟩:∃ x,two3 0 na (na+nb) k=x:=⟨_,rfl⟩
    have hTe:T=na+nb:=by rw [← hT,hk2];rfl
    rw [hT]
    have hkd:¬ k<2:=by omega
    have hgr:=growE_any T w (by omega)
    have Hgr:=Lib.hid hgr
    have HTe:=Lib.hid hTe
    clear hgr hT hk2 h0 h1 hTe
    go_wp2_with fail
    refine Hgr.out.mono ?_
    rintro e w1 ⟨v1,rfl,ho1,hb1⟩
    go_wp2_with fail
    go_loopw [6,8,27] (fun v6 _ v27 W=>∃ (j:Nat) (v:Value),j≤2∧v27 = .int .i64 (j:Int)∧v=v6∧W.ownsRow w.heap.size 41 1 v (two3 0 na (na+nb) j) (if j=0 then [] else if j=1 then va else va++vb)∧Below w.heap.size w W) (fun _ _ v27 _=>2 - (intOf v27).toNat)
    case atStart=>exact ⟨0,_,by omega,rfl,rfl,ho1,hb1⟩
    case round =>
     clear ho1 hb1
     obtain ⟨j,v,hj,rfl,rfl,ho,hB⟩:=hrel
     have c0':wr.cell? ⟨g2,0,none⟩=some (.slice Aa na ca):=by rw [(k2.below hB k2.lt).cell];rfl
     have c1':wr.cell? ⟨g2,1,none⟩=some (.slice Ab nb cb):=by rw [(k2.below hB k2.lt).cell];rfl
     by_cases h0:j=0
     ·subst h0
      obtain ⟨v3,w3,hr3,ho3,hg3,-⟩:=append_slv (ty:=48) Tryz.underlying48 infoSl rfl (by decide) ho (hsa.step hB) h1a (by show 0+na≤_;unfold maxLen;omega) (by show (0+na)*24≤_;omega) hB.size
      have hB3:=hB.grown hg3 hB.size fun k hk=>(ho.lt k hk).1
      have Hr3:=Lib.hid hr3
      have Ho3:=Lib.hid ho3
      clear hr3 ho3 ho hg3
      go_wp2_with ((with_reducible show wpList _ _ _ (⟨some 33,.call _,_,_,_,_⟩::_) _ _);refine wpList_run rfl v3 w3 (run_append_op (.tmp 31) (.tmp 32) 48 rfl _ _ rfl rfl Hr3.out) ?_;simp only [Act.put])
      go_roundw
      case rel=>exact ⟨1,v3,by omega,by rfl,rfl,by have:=Ho3.out;simpa [two3] using this,hB3⟩
      case measure=>simp [intOf]
     ·by_cases h1:j=1
      ·subst h1
       obtain ⟨v3,w3,hr3,ho3,hg3,-⟩:=append_slv (ty:=48) Tryz.underlying48 infoSl rfl (by decide) ho (hsb.step hB) h1b (by show na+nb≤_;unfold maxLen;omega) (by show (na+nb)*24≤_;omega) hB.size
       have hB3:=hB.grown hg3 hB.size fun k hk=>(ho.lt k hk).1
       have Hr3:=Lib.hid hr3
       have Ho3:=Lib.hid ho3
       clear hr3 ho3 ho hg3
       go_wp2_with ((with_reducible show wpList _ _ _ (⟨some 33,.call _,_,_,_,_⟩::_) _ _);refine wpList_run rfl v3 w3 (run_append_op (.tmp 31) (.tmp 32) 48 rfl _ _ rfl rfl Hr3.out) ?_;simp only [Act.put])
       go_roundw
       case rel=>exact ⟨2,v3,by omega,by rfl,rfl,by have:=Ho3.out;simpa [two3] using this,hB3⟩
       case measure=>simp [intOf]
      ·have hj2:j=2:=by omega
       have hjd:¬ j<2:=by omega
       have ho2:wr.ownsRow w.heap.size 41 1 v (na+nb) (va++vb):=by rw [hj2] at ho;exact ho
       obtain ⟨A9,c9,rfl,hs9⟩:=owns_slv ho2
       have hE:Es wr (fun _=>True) A9 (na+nb) c9 (la++lb):=by
        refine ⟨⟨va++vb,hs9.all,fun i hi=>?_⟩,by rw [List.length_append,Hla.out,Hlb.out]⟩
        have hva:va.length=la.length:=by have:=hsa.len;rw [Hla.out];omega
        by_cases hil:i<la.length
        ·obtain ⟨Ai,ci,e1,e2⟩:=Hea.out i hil
         rw [List.getElem_append_left hil]
         exact ⟨Ai,ci,by rw [List.getElem?_append_left (by omega)];exact e1,e2.step hB⟩
        ·obtain ⟨q,rfl⟩:∃ q,i=la.length+q:=⟨i - la.length,by omega⟩
         have hq:q<lb.length:=by rw [List.length_append] at hi;omega
         obtain ⟨Ai,ci,e1,e2⟩:=Heb.out q hq
         have hge:(la++lb)[la.length+q]=lb[q]:=by rw [List.getElem_append_right (by omega)];congr 1;omega
         rw [hge]
         exact ⟨Ai,ci,by rw [List.getElem?_append_right (by omega),show la.length+q - va.length=q by omega];exact e1,e2.step hB⟩
       have HE:=Lib.hid hE
       clear hs9 ho2 ho hE hj2 h0 h1
       go_wp2_with fail
       go_ret
       exact ⟨A9,c9,rfl,HE.out,hB⟩
end Go.Proofs.YtdjhoankkddomaaGreat
namespace Go.Proofs.YtdjhoankkddomaaGreat
open Go Go.RowKit
theorem eqHashP (d:Nat) (xs ys:List UInt8) (hx:xs.length=32) (hy:ys.length=32) (W:World):(Op.equalIn (d+2) 53 (.agg (xs.map B).toArray) (.agg (ys.map B).toArray)).run Tryz.prog W = .ok (xs==ys) W :=
 run_equalIn_ints (P:=Tryz.prog) (fun x:UInt8=>(x.toNat:Int)) eqB (t:=53) (e:=5) (N:=32) Tryz.underlying53 (by kernel_rfl) size25e agg25e d xs ys hx hy W
theorem part_numP (n:Int) (x:List UInt8) (W:World):(part 2 (Value.int .i64 n::x.map B).toArray 0).run Tryz.prog W = .ok (.int .i64 n) W:=by
 simp [part]
theorem part_hshP (n:Int) (x:List UInt8) (hx:x.length=32) (W:World):(part 53 (Value.int .i64 n::x.map B).toArray 1).run Tryz.prog W = .ok (.agg (x.map B).toArray) W:=by
 have e2:(Value.int .i64 n::x.map B).toArray.extract 1 (1+32)=(x.map B).toArray:=by
  apply Array.ext_getElem?
  intro i
  simp only [Array.getElem?_extract,List.getElem?_toArray,List.size_toArray,List.length_cons,List.length_map,hx]
  by_cases h:i<32
  ·rw [if_pos (by omega),show 1+i=i+1 by omega,List.getElem?_cons_succ]
  ·rw [if_neg (by omega),List.getElem?_eq_none (by rw [List.length_map,hx];omega)]
 simp only [part,Sem.run_bind,agg26,size26,Result.andThen_ok,if_true,Sem.run_pure]
 rw [e2]
theorem underPt:Tryz.prog.underlying 55=some (.struct (Tryz.prog.fieldsOf 55)):=by kernel_rfl
theorem heldPt:Tryz.prog.stoodInHeld 55=false:=by kernel_rfl
theorem guardPt:Tryz.prog.eqGuardType Tryz.prog.depth 55=false:=by kernel_rfl
def ptEq (n1:Int) (x1:List UInt8) (n2:Int) (x2:List UInt8):Bool:=(n1==n2)&&(x1==x2)
theorem equalIn_pt (n1 n2:Int) (x1 x2:List UInt8) (h1:x1.length=32) (h2:x2.length=32) (W:World):(Op.equalIn 10000 55 (.agg (Value.int .i64 n1::x1.map B).toArray) (.agg (Value.int .i64 n2::x2.map B).toArray)).run Tryz.prog W = .ok (ptEq n1 x1 n2 x2) W:=by
 have hf:(Tryz.prog.fieldsOf 55).toList=[{ name := "Size",type:=2,offset:=0,embedded:=false,tag := "",pkgPath := "",byteOffset:=0 },{ name := "Root",type:=53,offset:=1,embedded:=false,tag := "",pkgPath := "",byteOffset:=8 }]:=by kernel_rfl
 have e1:=fun W=>part_numP n1 x1 W
 have e2:=fun W=>part_numP n2 x2 W
 have e3:=fun W=>part_hshP n1 x1 h1 W
 have e4:=fun W=>part_hshP n2 x2 h2 W
 have e5:=fun W=>eqHashP 9997 x1 x2 h1 h2 W
 have e6:∀ W,(Op.equalIn 9999 2 (.int .i64 n1) (.int .i64 n2)).run Tryz.prog W = .ok (n1==n2) W:=fun W=>run_equalIn_int W 9998 _ _ _ _ _ Tryz.underlying2
 rw [show (10000:Nat)=9999+1 from rfl,run_equalIn_agg W 9999 _ _ _ underPt heldPt,hf]
 generalize (Value.int .i64 n1::x1.map B).toArray=U at e1 e3 ⊢
 generalize (Value.int .i64 n2::x2.map B).toArray=V at e2 e4 ⊢
 generalize hD:9999=D at *
 have e5:∀ W,(Op.equalIn D 53 (.agg (x1.map B).toArray) (.agg (x2.map B).toArray)).run Tryz.prog W = .ok (x1==x2) W:=by rw [← hD];exact e5
 unfold ptEq
 cases hb:(n1==n2)
 ·simp [Op.eqFields,e1,e2,e6,hb]
 ·cases hc:(x1==x2) <;> simp [Op.eqFields,e1,e2,e3,e4,e6,e5,hb,hc]
theorem eqlPt_op {ρ:Operand→Value} {o:Oper} (a b:Operand) (ty:TypeId) (n1 n2:Int) (x1 x2:List UInt8) (ho:o.op = .binOp .eql 55 a b ty) (ha:ρ a = .agg (Value.int .i64 n1::x1.map B).toArray) (hb:ρ b = .agg (Value.int .i64 n2::x2.map B).toArray) (h1:x1.length=32) (h2:x2.length=32) (W:World) :
  (execOp ρ o).run Tryz.prog W = .ok (.value (.bool (ptEq n1 x1 n2 x2))) W:=by
 unfold execOp
 simp only [ho,ha,hb,Sem.run_bind,Sem.run_pure,run_eqGuard_agg _ _ _ _ _ _ _ guardPt,run_eql_struct,equalIn_pt n1 n2 x1 x2 h1 h2 W,Result.andThen_ok]
theorem neqPt_op {ρ:Operand→Value} {o:Oper} (a b:Operand) (ty:TypeId) (n1 n2:Int) (x1 x2:List UInt8) (ho:o.op = .binOp .neq 55 a b ty) (ha:ρ a = .agg (Value.int .i64 n1::x1.map B).toArray) (hb:ρ b = .agg (Value.int .i64 n2::x2.map B).toArray) (h1:x1.length=32) (h2:x2.length=32) (W:World) :
  (execOp ρ o).run Tryz.prog W = .ok (.value (.bool (!ptEq n1 x1 n2 x2))) W:=by
 unfold execOp
 simp only [ho,ha,hb,Sem.run_bind,Sem.run_pure,run_eqGuard_agg _ _ _ _ _ _ _ guardPt,run_neq_struct,equalIn_pt n1 n2 x1 x2 h1 h2 W,Result.andThen_ok]
theorem ptEq_self (n:Int) (x:List UInt8):ptEq n x n x=true:=by simp [ptEq]
end Go.Proofs.YtdjhoankkddomaaGreat
namespace Go.Proofs.YtdjhoankkddomaaGreat
open Go Go.RowKit Go.Shelf
attribute [local go_sem] Oper.semAt_some
theorem slice_allO (g o:Nat) (W:World):(Instr.sliceAt 53 (.pointer (some ⟨g,o,none⟩)) none none none).run Tryz.prog W = .ok (.slice (some ⟨g,o,none⟩) 32 32) W:=by
 rw [run_sliceAt_array_all W _ _ arrT26,size26e,arrN26]
 simp [slicedAt,Result.andThen,Addr.add]
theorem run_slice_allO {ρ:Operand→Value} {o:Oper} (x:Operand) (ho:o.op = .slice 53 x none none none) (g off:Nat) (hx:ρ x = .pointer (some ⟨g,off,none⟩)) (W:World):(execOp ρ o).run Tryz.prog W = .ok (.value (.slice (some ⟨g,off,none⟩) 32 32)) W:=by
 unfold execOp
 simp only [ho,hx,Option.map_none,slice_allO,Sem.run_bind,Sem.run_pure,Result.andThen_ok]
theorem Sl.of_blk {W:World} {g o:Nat} {t:TypeId} {C:Array Value} (h:Blk W g t C) (l:List UInt8) (n:Nat) (hn:l.length=n) (hm:n≤maxLen) (hc:∀ j v,(l.map B)[j]?=some v→C[o+j]?=some v):Sl W (fun _=>True) (some ⟨g,o,.none⟩) n n l :=
 ⟨fun _=>⟨g,o,rfl,h.lt,trivial,fun j v hv=>by rw [h.cell];exact hc j v hv⟩,hn,Nat.le_refl _,(fun e=>by cases e),hm⟩
theorem Sl.of_hv {W:World} {g:Nat} {l:List UInt8} (h:HV W g l):Sl W (fun _=>True) (some ⟨g,0,.none⟩) 32 32 l :=
 Sl.of_blk h.blk l 32 h.len (by decide) fun j v hv=>by rw [Nat.zero_add,List.getElem?_toArray];exact hv
end Go.Proofs.YtdjhoankkddomaaGreat
namespace Go.Proofs.YtdjhoankkddomaaGreat
open Go Go.RowKit Go.Shelf
attribute [local go_sem] Oper.semAt_some
end Go.Proofs.YtdjhoankkddomaaGreat
namespace Go.Proofs.YtdjhoankkddomaaGreat
open Go Go.RowKit Go.Shelf
attribute [local go_sem] Oper.semAt_some
end Go.Proofs.YtdjhoankkddomaaGreat
namespace Go.Proofs.YtdjhoankkddomaaGreat
open Go Go.RowKit Go.Shelf
attribute [local go_sem] Oper.semAt_some
end Go.Proofs.YtdjhoankkddomaaGreat
namespace Go.Proofs.YtdjhoankkddomaaGreat
open Go Go.RowKit Go.Shelf
attribute [local go_sem] Oper.semAt_some
end Go.Proofs.YtdjhoankkddomaaGreat
namespace Go.Proofs.YtdjhoankkddomaaGreat
open Go Go.RowKit Go.Shelf
attribute [local go_sem] Oper.semAt_some
end Go.Proofs.YtdjhoankkddomaaGreat
namespace Go.Proofs.YtdjhoankkddomaaGreat
open Go Go.RowKit Go.Shelf
attribute [local go_sem] Oper.semAt_some
end Go.Proofs.YtdjhoankkddomaaGreat
namespace Go.Proofs.YtdjhoankkddomaaGreat
open Go Go.RowKit Go.Shelf
attribute [local go_sem] Oper.semAt_some
section
variable {w w':World} {X Y:Nat→Prop} {A:Option Addr} {n c:Nat} {qs:List PairV}
end
section
variable {w:World} {ops:Array Oper} {rest:List Oper} {o:Oper} {a:Act} {Q:Exit→Act→World→Prop}
end
section
variable {w W W':World} {f:Nat} {H:Hf} {way:List Bool} {pf:List (List UInt8)} {a0 x:List UInt8} {L go i:Nat}
end
end Go.Proofs.YtdjhoankkddomaaGreat
namespace Go.Proofs.YtdjhoankkddomaaGreat
open Go Go.RowKit
end Go.Proofs.YtdjhoankkddomaaGreat
namespace Go.Proofs.YtdjhoankkddomaaGreat
open Go Go.RowKit Go.Shelf
section
variable {ops:Array Oper} {Q:Exit→Act→World→Prop} {S:World→Prop} {R:Act→World→Prop} {o:Oper} {l:List (Oper × Bool)} {a:Act} {w:World}
end
end Go.Proofs.YtdjhoankkddomaaGreat
namespace Go.Proofs.YtdjhoankkddomaaGreat
open Go Go.RowKit Go.Shelf
attribute [local go_sem] Oper.semAt_some
section
variable {w:World} {ops:Array Oper} {rest:List Oper} {o:Oper} {a:Act} {Q:Exit→Act→World→Prop}
end
end Go.Proofs.YtdjhoankkddomaaGreat
