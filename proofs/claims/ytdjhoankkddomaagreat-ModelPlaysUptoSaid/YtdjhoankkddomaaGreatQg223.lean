import Derived.Test.YtdjhoankkddomaaGreatQg221
import Derived.Test.YtdjhoankkddomaaGreatQg222
namespace Go.Proofs.YtdjhoankkddomaaGreat
open Go Go.RowKit
attribute [local go_sem] Oper.semAt_some
def MoV.allows (m:MoV) (fe:List (List UInt8)) (fh:Bool) (fs:Int) (fr:List UInt8):Bool :=
 if fe.length<m.ents.length then false
 else if (m.ents++m.begun).length<fe.length then false
 else if fe≠(m.ents++m.begun).take fe.length then false
 else if fh==m.has&&(!fh||ptEq fs fr m.lastS m.lastR) then true
 else fh&&m.pointing&&ptEq fs fr m.ptS m.ptR
structure Fnd (fc:Array Value) (E:Option Addr) (n c:Nat) (fh:Bool) (fs:Int) (fr:List UInt8):Prop where
 size:fc.size=38
 c0:fc[0]?=some (.slice E n c)
 c4:fc[4]?=some (.bool fh)
 pt:∀ j v,(Value.int .i64 fs::fr.map B)[j]?=some v→fc[5+j]?=some v
 len:fr.length=32
theorem md_loadPt {W:World} {g:Nat} {R:MdR} {m:MoV} (h:Blk W g 57 (mdArr R m)) (hl:m.ptR.length=32):(Instr.loadAt 55 (.pointer (some ⟨g,41,none⟩))).run Tryz.prog W = .ok (.agg (.int .i64 m.ptS::m.ptR.map B).toArray) W :=
 run_load_agg (ptAgg _) (ptSize _) g 41 (.int .i64 m.ptS::m.ptR.map B) (by simp [hl]) fun j u hu=>by
  have hj:j<33:=by have:=(List.getElem?_eq_some_iff.1 hu).1;simp [hl] at this;omega
  rw [h.cell,md_at _ _ _ (by omega)]
  by_cases h0:j=0
  ·subst h0
   rw [List.getElem?_cons_zero] at hu
   exact hu
  ·obtain ⟨i,rfl⟩:∃ i,j=i+1:=⟨j - 1,by omega⟩
   rw [List.getElem?_cons_succ,List.getElem?_map,List.getElem?_eq_getElem (by omega)] at hu
   rw [← hu]
   unfold mcell
   simp only [show 41+(i+1)≠0 by omega,show 41+(i+1)≠1 by omega,show 41+(i+1)≠2 by omega,show 41+(i+1)≠3 by omega,show 41+(i+1)≠4 by omega,show 41+(i+1)≠5 by omega,show 41+(i+1)≠6 by omega,show ¬ 41+(i+1)<39 by omega,show 41+(i+1)≠39 by omega,show 41+(i+1)≠40 by omega,show 41+(i+1)≠41 by omega,show 41+(i+1)<74 by omega,if_false,if_true]
   rw [show 41+(i+1) - 42=i by omega,List.getD_eq_getElem?_getD,List.getElem?_eq_getElem (by omega)]
   rfl
theorem Fnd.load {W:World} {g:Nat} {fc:Array Value} {E:Option Addr} {n c:Nat} {fh:Bool} {fs:Int} {fr:List UInt8} (hf:Fnd fc E n c fh fs fr) (h:Blk W g 72 fc):(Instr.loadAt 55 (.pointer (some ⟨g,5,none⟩))).run Tryz.prog W = .ok (.agg (.int .i64 fs::fr.map B).toArray) W :=
 run_load_agg (ptAgg _) (ptSize _) g 5 (.int .i64 fs::fr.map B) (by simp [hf.len]) fun j u hu=>by
  rw [h.cell]
  exact hf.pt j u hu
theorem lit2_run (x y:Value) (hx:∃ A n c,x = .slice A n c) (hy:∃ A n c,y = .slice A n c) (W:World):(Instr.buildSlice 137 2 #[(0,x),(1,y)]).run Tryz.prog W = .ok (.slice (some ⟨W.heap.size,0,none⟩) 2 2) (W.alloc (.cells #[x,y] 48)):=by
 obtain ⟨A,n,c,rfl⟩:=hx
 obtain ⟨A',n',c',rfl⟩:=hy
 kernel_rfl
theorem lit2_op {ρ:Operand→Value} {o:Oper} {W W':World} {v x' y':Value} (x y:Operand) (ho:o.op = .buildSlice 137 2 #[(0,x),(1,y)]) (hx:ρ x=x') (hy:ρ y=y') (h:(Instr.buildSlice 137 2 #[(0,x'),(1,y')]).run Tryz.prog W = .ok v W'):(execOp ρ o).run Tryz.prog W = .ok (.value v) W':=by
 unfold execOp
 have hm:(#[(0,x),(1,y)]:Array (Nat × Operand)).map (fun (i,x)=>(i,ρ x))=#[(0,x'),(1,y')]:=by simp [hx,hy]
 simp only [ho,Sem.run_bind,Sem.run_pure,hm,h,Result.andThen_ok]
theorem Es.takeT {w:World} {X:Nat→Prop} {A:Option Addr} {n c:Nat} {ls:List (List UInt8)} (h:Es w X A n c ls) (k:Nat) (hk:k≤n):Es w X A k c (ls.take k):=h.take k hk
set_option maxHeartbeats 16000000 in
set_option maxRecDepth 100000 in
theorem mallows_any (Z:Nat→Prop) (lo g:Nat) (R:MdR) (m:MoV) (W:World) (h:Md Z lo g R m W) (fc:Array Value) (E:Option Addr) (n c:Nat) (fe:List (List UInt8)) (fh:Bool) (fs:Int) (fr:List UInt8) (hf:Fnd fc E n c fh fs fr) (he:Es W (fun _=>True) E n c fe) (hb:m.ents.length+m.begun.length≤1000000000) :
  Calls Tryz.prog 17 #[.pointer (some ⟨g,0,none⟩),.agg fc] W fun e w'=>e = .returned (.bool (m.allows fe fh fs fr))∧Below W.heap.size W w':=by
 obtain ⟨w1,hw1⟩:∃ x,W.alloc (.cells fc 72)=x:=⟨_,rfl⟩
 have kx:Blk w1 W.heap.size 72 fc:=by rw [← hw1];exact Blk.new _ _ _
 have B1:Below W.heap.size W w1:=by rw [← hw1];exact (Below.refl _ _).alloc (Nat.le_refl _) _
 have h1:=h.step B1
 have he1:=he.step B1
 obtain ⟨bx,hbx⟩:∃ x,W.heap.size=x:=⟨_,rfl⟩
 rw [hbx] at kx
 have hlen:=he.len
 have hroom:=he.room
 have hmx:=he.max
 unfold maxLen at hmx
 obtain ⟨Ae,ce,hee,hes⟩:=h.ents.es
 have hre:=hes.room
 have hme:=hes.max
 unfold maxLen at hme
 obtain ⟨Ab,cb,hbe,hbs2⟩:=h.begun
 have hbs:=hbs2.all
 have hrb:=hbs.room
 have hmb:=hbs.max
 unfold maxLen at hmb
 obtain ⟨ne,hne⟩:∃ x,m.ents.length=x:=⟨_,rfl⟩
 obtain ⟨nb,hnb⟩:∃ x,m.begun.length=x:=⟨_,rfl⟩
 rw [hne] at hee hes hre hb
 rw [hnb] at hbe hbs hrb hb
 have cF0:∀ W',Below w1.heap.size w1 W'→W'.cell? ⟨bx,0,none⟩=some (.slice E n c):=fun W' hb=>by rw [(kx.below hb kx.lt).cell];exact hf.c0
 have cF4:∀ W',Below w1.heap.size w1 W'→W'.cell? ⟨bx,4,none⟩=some (.bool fh):=fun W' hb=>by rw [(kx.below hb kx.lt).cell];exact hf.c4
 have lF:∀ W',Below w1.heap.size w1 W'→(Instr.loadAt 55 (.pointer (some ⟨bx,5,none⟩))).run Tryz.prog W' = .ok (.agg (.int .i64 fs::fr.map B).toArray) W':=fun W' hb=>hf.load (kx.below hb kx.lt)
 have cE:∀ W',Below w1.heap.size w1 W'→W'.cell? ⟨g,0,none⟩=some (.slice Ae ne ce):=fun W' hb=>((h1.step hb).cell 0 (by decide)).trans (congrArg some hee)
 have cB:∀ W',Below w1.heap.size w1 W'→W'.cell? ⟨g,40,none⟩=some (.slice Ab nb cb):=fun W' hb=>((h1.step hb).cell 40 (by decide)).trans (congrArg some hbe)
 have cH:∀ W',Below w1.heap.size w1 W'→W'.cell? ⟨g,39,none⟩=some (.bool m.has):=fun W' hb=>(h1.step hb).cell 39 (by decide)
 have cP:∀ W',Below w1.heap.size w1 W'→W'.cell? ⟨g,74,none⟩=some (.bool m.pointing):=fun W' hb=>(h1.step hb).cell 74 (by decide)
 have lL:∀ W',Below w1.heap.size w1 W'→(Instr.loadAt 55 (.pointer (some ⟨g,6,none⟩))).run Tryz.prog W' = .ok (.agg (.int .i64 m.lastS::m.lastR.map B).toArray) W':=fun W' hb=>md_loadLast (h1.step hb).blk h.lastL
 have lP:∀ W',Below w1.heap.size w1 W'→(Instr.loadAt 55 (.pointer (some ⟨g,41,none⟩))).run Tryz.prog W' = .ok (.agg (.int .i64 m.ptS::m.ptR.map B).toArray) W':=fun W' hb=>md_loadPt (h1.step hb).blk h.ptL
 have hno:∀ W',Below w1.heap.size w1 W'→Calls Tryz.prog 51 #[.pointer (some ⟨g,0,none⟩)] W' fun e w'=>e = .returned (.bool false)∧w'=W':=fun W' hb=>mnone_any (h1.step hb)
 have lastL:=h.lastL
 have ptL:=h.ptL
 have frL:=hf.len
 obtain ⟨fh,hfh⟩:∃ x,fh=x:=⟨_,rfl⟩
 rw [hfh] at cF4 ⊢
 obtain ⟨hs,hhs⟩:∃ x,m.has=x:=⟨_,rfl⟩
 rw [hhs] at cH
 obtain ⟨po,hpo⟩:∃ x,m.pointing=x:=⟨_,rfl⟩
 rw [hpo] at cP
 obtain ⟨ls,hls⟩:∃ x,m.lastS=x:=⟨_,rfl⟩
 obtain ⟨lr,hlr⟩:∃ x,m.lastR=x:=⟨_,rfl⟩
 rw [hls,hlr] at lL
 rw [hlr] at lastL
 obtain ⟨ps,hps⟩:∃ x,m.ptS=x:=⟨_,rfl⟩
 obtain ⟨pr,hpr⟩:∃ x,m.ptR=x:=⟨_,rfl⟩
 rw [hps,hpr] at lP
 rw [hpr] at ptL
 have hres:m.allows fe fh fs fr=(if n<ne then false else if ne+nb<n then false else if fe≠(m.ents++m.begun).take n then false else if fh==hs&&(!fh||ptEq fs fr ls lr) then true else fh&&po&&ptEq fs fr ps pr):=by
  unfold MoV.allows
  rw [List.length_append,hlen,hne,hnb,hhs,hpo,hls,hlr,hps,hpr]
 rw [hres]
 have hE1:Es w1 (fun _=>True) Ae ne ce m.ents:=hes.step B1
 have hEb:Es w1 (fun _=>True) Ab nb cb m.begun:=(hbs.weak fun _ _ _=>trivial).step B1
 have hend:∀ W',Below w1.heap.size w1 W'→Below bx W W':=fun W' hb=>by rw [← hbx];exact B1.trans (hb.mono B1.size)
 have CF0:=Lib.hid cF0
 have CF4:=Lib.hid cF4
 have LF:=Lib.hid lF
 have CE:=Lib.hid cE
 have CB:=Lib.hid cB
 have CH:=Lib.hid cH
 have CP:=Lib.hid cP
 have LL:=Lib.hid lL
 have LP:=Lib.hid lP
 have Hno:=Lib.hid hno
 have Hw1:=Lib.hid hw1
 have HE1:=Lib.hid hE1
 have HEb:=Lib.hid hEb
 have He1:=Lib.hid he1
 clear cF0 cF4 lF cE cB cH cP lL lP hno hw1 hE1 hEb he1 kx h1 hee hes hbe hbs hne hnb hres hhs hpo hls hlr hps hpr hfh he h hf hlen
 have dE:∀ s:InC (fun W'=>Below w1.heap.size w1 W'),s.W.cell? ⟨bx,0,none⟩=some (.slice E n c):=fun s=>CF0.out _ s.ok
 have dA:∀ s:InC (fun W'=>Below w1.heap.size w1 W'),s.W.cell? ⟨g,0,none⟩=some (.slice Ae ne ce):=fun s=>CE.out _ s.ok
 have hS:Below w1.heap.size w1 w1.drew:=(Below.refl _ _).drew
 by_cases hlt:n<ne
 ·have d1:decide ((n:Int)<(ne:Int))=true:=by simp;omega
  rw [if_pos hlt]
  go_enter Tryz.func17,Tryz.ntmps17
  go_upto_region 1 with ((with_reducible show wpList _ _ _ (⟨some 3,.box _ _,_,_,_,_⟩::_) _ _);refine wpList_run rfl (.pointer (some ⟨W.heap.size,0,none⟩)) w1 (by rw [← Hw1.out];rfl) ?_;rw [hbx];simp only [Act.put])
  refine wp_region_mix (fun W'=>Below w1.heap.size w1 W') [(0,true),(1,false),(2,true),(3,true),(4,true),(5,true),(6,true),(7,true),(8,true),(9,true),(10,true),(11,true),(12,true),(13,true)] (by kernel_rfl) (by kernel_rfl) hS fun _=>?_
  simp only [List.map_cons,List.map_nil,Array.getD_eq_getD_getElem?,List.getElem?_toArray,List.getElem?_cons_succ,List.getElem?_cons_zero,Option.getD_some]
  generalize w1.drew=W0 at hS ⊢
  (refine wpMix_s (fun K hK=>?_);go_simp;refine hK _ ?_;clear hK K)
  refine wpMix_c (fun K hK=>?_) hS
  go_simp
  refine (Hno.out W0 hS).mono ?_
  rintro e W0e ⟨rfl,hww⟩
  obtain rfl:=hww.symm
  refine hK _ _ ?_
  clear hK K
  refine ⟨hS,?_⟩
  iterate 12 (refine wpMix_s (fun K hK=>?_);go_simp;refine hK _ ?_;clear hK K)
  refine wpMix_nil ?_
  intro _
  clear dE dA
  go_wp2_with fail
  go_ret
  exact ⟨rfl,hend _ hS⟩
 ·have d1:decide ((n:Int)<(ne:Int))=false:=by simp;omega
  rw [if_neg hlt]
  by_cases hgt:ne+nb<n
  ·have d2:decide (((ne:Int)+(nb:Int))<(n:Int))=true:=by simp;omega
   rw [if_pos hgt]
   go_enter Tryz.func17,Tryz.ntmps17
   go_upto_region 1 with ((with_reducible show wpList _ _ _ (⟨some 3,.box _ _,_,_,_,_⟩::_) _ _);refine wpList_run rfl (.pointer (some ⟨W.heap.size,0,none⟩)) w1 (by rw [← Hw1.out];rfl) ?_;rw [hbx];simp only [Act.put])
   refine wp_region_mix (fun W'=>Below w1.heap.size w1 W') [(0,true),(1,false),(2,true),(3,true),(4,true),(5,true),(6,true),(7,true),(8,true),(9,true),(10,true),(11,true),(12,true),(13,true)] (by kernel_rfl) (by kernel_rfl) hS fun _=>?_
   simp only [List.map_cons,List.map_nil,Array.getD_eq_getD_getElem?,List.getElem?_toArray,List.getElem?_cons_succ,List.getElem?_cons_zero,Option.getD_some]
   generalize w1.drew=W0 at hS ⊢
   (refine wpMix_s (fun K hK=>?_);go_simp;refine hK _ ?_;clear hK K)
   refine wpMix_c (fun K hK=>?_) hS
   go_simp
   refine (Hno.out W0 hS).mono ?_
   rintro e W0e ⟨rfl,hww⟩
   obtain rfl:=hww.symm
   refine hK _ _ ?_
   clear hK K
   refine ⟨hS,?_⟩
   iterate 12 (refine wpMix_s (fun K hK=>?_);go_simp;refine hK _ ?_;clear hK K)
   refine wpMix_nil ?_
   intro _
   clear dE dA
   obtain ⟨w2,hw2⟩:∃ x,W0=x:=⟨_,rfl⟩
   rw [hw2] at hS ⊢
   clear hw2
   replace hS:=hS.drew
   have dA:∀ s:InC (fun W'=>Below w1.heap.size w1 W'),s.W.cell? ⟨g,0,none⟩=some (.slice Ae ne ce):=fun s=>CE.out _ s.ok
   have dB:∀ s:InC (fun W'=>Below w1.heap.size w1 W'),s.W.cell? ⟨g,40,none⟩=some (.slice Ab nb cb):=fun s=>CB.out _ s.ok
   go_upto_region 3 with fail
   refine wp_region_mix (fun W'=>Below w1.heap.size w1 W') [(0,true),(1,true),(2,true),(3,true),(4,true),(5,true),(6,true),(7,true),(8,true),(9,false),(10,false),(11,true)] (by kernel_rfl) (by kernel_rfl) hS fun _=>?_
   simp only [List.map_cons,List.map_nil,Array.getD_eq_getD_getElem?,List.getElem?_toArray,List.getElem?_cons_succ,List.getElem?_cons_zero,Option.getD_some]
   generalize w2.drew=Z0 at hS ⊢
   iterate 9 (refine wpMix_s (fun K hK=>?_);go_simp;refine hK _ ?_;clear hK K)
   refine wpMix_run (by kernel_rfl) (.slice (some ⟨Z0.heap.size,0,none⟩) 2 2) (Z0.alloc (.cells #[.slice Ae ne ce,.slice Ab nb cb] 48)) (lit2_op (.tmp 24) (.tmp 28) rfl rfl rfl (lit2_run _ _ ⟨_,_,_,rfl⟩ ⟨_,_,_,rfl⟩ Z0)) (hS.alloc hS.size _) ?_
   simp only [Act.put,List.setIfInBounds_toArray,List.set_cons_succ,List.set_cons_zero]
   have hSa:=hS.alloc hS.size (.cells #[.slice Ae ne ce,.slice Ab nb cb] 48)
   refine wpMix_c (fun K hK=>?_) hSa
   go_simp
   refine (concat2_any m.ents m.begun Ae Ab ne nb ce cb Z0.heap.size _ (Blk.new _ _ _) (HE1.out.step hSa) (HEb.out.step hSa) hb).mono ?_
   rintro e Z1 ⟨A5,c5,rfl,hC,hb9⟩
   refine hK _ _ ?_
   clear hK K
   replace hS:=hSa.trans (hb9.mono hSa.size)
   refine ⟨hS,?_⟩
   clear hSa hb9
   (refine wpMix_s (fun K hK=>?_);go_simp;refine hK _ ?_;clear hK K)
   refine wpMix_nil ?_
   intro _
   clear dA dB
   obtain ⟨w3,hw3⟩:∃ x,Z1=x:=⟨_,rfl⟩
   rw [hw3] at hS hC ⊢
   clear hw3
   have hm5:=hC.max
   have hr5:=hC.room
   unfold maxLen at hm5
   have hC:=hC.step ((Below.refl _ _).drew)
   replace hS:=hS.drew
   have dE:∀ s:InC (fun W'=>Below w1.heap.size w1 W'),s.W.cell? ⟨bx,0,none⟩=some (.slice E n c):=fun s=>CF0.out _ s.ok
   go_upto_region 4 with fail
   refine wp_region_mix (fun W'=>Below w1.heap.size w1 W') [(0,true),(1,true),(2,true),(3,true),(4,true),(5,true),(6,true),(7,true),(8,true),(9,true),(10,true),(11,true),(12,true),(13,true),(14,false),(15,true),(16,true)] (by kernel_rfl) (by kernel_rfl) hS fun _=>?_
   simp only [List.map_cons,List.map_nil,Array.getD_eq_getD_getElem?,List.getElem?_toArray,List.getElem?_cons_succ,List.getElem?_cons_zero,Option.getD_some]
   generalize w3.drew=Y0 at hS hC ⊢
   iterate 14 (refine wpMix_s (fun K hK=>?_);go_simp;refine hK _ ?_;clear hK K)
   refine wpMix_c (fun K hK=>?_) hS
   go_simp
   refine hK _ _ ?_
   clear hK K
   refine ⟨hS,?_⟩
   iterate 2 (refine wpMix_s (fun K hK=>?_);go_simp;refine hK _ ?_;clear hK K)
   refine wpMix_nil ?_
   intro _
   go_wp2_with fail
   go_ret
   exact ⟨rfl,hend _ hS⟩
  ·have d2:decide (((ne:Int)+(nb:Int))<(n:Int))=false:=by simp;omega
   rw [if_neg hgt]
   by_cases hq:fe=(m.ents++m.begun).take n
   ·rw [if_neg (fun e=>e hq)]
    have dq:decide (fe=(m.ents++m.begun).take n)=true:=by simpa using hq
    have Hdq:=Lib.hid dq
    clear dq hq
    obtain ⟨b1,hb1⟩:∃ x,ptEq fs fr ls lr=x:=⟨_,rfl⟩
    obtain ⟨b2,hb2⟩:∃ x,ptEq fs fr ps pr=x:=⟨_,rfl⟩
    rw [hb1,hb2]
    obtain ⟨ans,hans⟩:∃ x,(if fh==hs&&(!fh||b1) then true else fh&&po&&b2)=x:=⟨_,rfl⟩
    rw [hans]
    have Hb1:=Lib.hid hb1
    have Hb2:=Lib.hid hb2
    have Hans:=Lib.hid hans
    clear hb1 hb2 hans
    go_enter Tryz.func17,Tryz.ntmps17
    go_upto_region 1 with ((with_reducible show wpList _ _ _ (⟨some 3,.box _ _,_,_,_,_⟩::_) _ _);refine wpList_run rfl (.pointer (some ⟨W.heap.size,0,none⟩)) w1 (by rw [← Hw1.out];rfl) ?_;rw [hbx];simp only [Act.put])
    refine wp_region_mix (fun W'=>Below w1.heap.size w1 W') [(0,true),(1,false),(2,true),(3,true),(4,true),(5,true),(6,true),(7,true),(8,true),(9,true),(10,true),(11,true),(12,true),(13,true)] (by kernel_rfl) (by kernel_rfl) hS fun _=>?_
    simp only [List.map_cons,List.map_nil,Array.getD_eq_getD_getElem?,List.getElem?_toArray,List.getElem?_cons_succ,List.getElem?_cons_zero,Option.getD_some]
    generalize w1.drew=W0 at hS ⊢
    (refine wpMix_s (fun K hK=>?_);go_simp;refine hK _ ?_;clear hK K)
    refine wpMix_c (fun K hK=>?_) hS
    go_simp
    refine (Hno.out W0 hS).mono ?_
    rintro e W0e ⟨rfl,hww⟩
    obtain rfl:=hww.symm
    refine hK _ _ ?_
    clear hK K
    refine ⟨hS,?_⟩
    iterate 12 (refine wpMix_s (fun K hK=>?_);go_simp;refine hK _ ?_;clear hK K)
    refine wpMix_nil ?_
    intro _
    clear dE dA
    obtain ⟨w2,hw2⟩:∃ x,W0=x:=⟨_,rfl⟩
    rw [hw2] at hS ⊢
    clear hw2
    replace hS:=hS.drew
    have dA:∀ s:InC (fun W'=>Below w1.heap.size w1 W'),s.W.cell? ⟨g,0,none⟩=some (.slice Ae ne ce):=fun s=>CE.out _ s.ok
    have dB:∀ s:InC (fun W'=>Below w1.heap.size w1 W'),s.W.cell? ⟨g,40,none⟩=some (.slice Ab nb cb):=fun s=>CB.out _ s.ok
    go_upto_region 3 with fail
    refine wp_region_mix (fun W'=>Below w1.heap.size w1 W') [(0,true),(1,true),(2,true),(3,true),(4,true),(5,true),(6,true),(7,true),(8,true),(9,false),(10,false),(11,true)] (by kernel_rfl) (by kernel_rfl) hS fun _=>?_
    simp only [List.map_cons,List.map_nil,Array.getD_eq_getD_getElem?,List.getElem?_toArray,List.getElem?_cons_succ,List.getElem?_cons_zero,Option.getD_some]
    generalize w2.drew=Z0 at hS ⊢
    iterate 9 (refine wpMix_s (fun K hK=>?_);go_simp;refine hK _ ?_;clear hK K)
    refine wpMix_run (by kernel_rfl) (.slice (some ⟨Z0.heap.size,0,none⟩) 2 2) (Z0.alloc (.cells #[.slice Ae ne ce,.slice Ab nb cb] 48)) (lit2_op (.tmp 24) (.tmp 28) rfl rfl rfl (lit2_run _ _ ⟨_,_,_,rfl⟩ ⟨_,_,_,rfl⟩ Z0)) (hS.alloc hS.size _) ?_
    simp only [Act.put,List.setIfInBounds_toArray,List.set_cons_succ,List.set_cons_zero]
    have hSa:=hS.alloc hS.size (.cells #[.slice Ae ne ce,.slice Ab nb cb] 48)
    refine wpMix_c (fun K hK=>?_) hSa
    go_simp
    refine (concat2_any m.ents m.begun Ae Ab ne nb ce cb Z0.heap.size _ (Blk.new _ _ _) (HE1.out.step hSa) (HEb.out.step hSa) hb).mono ?_
    rintro e Z1 ⟨A5,c5,rfl,hC,hb9⟩
    refine hK _ _ ?_
    clear hK K
    replace hS:=hSa.trans (hb9.mono hSa.size)
    refine ⟨hS,?_⟩
    clear hSa hb9
    (refine wpMix_s (fun K hK=>?_);go_simp;refine hK _ ?_;clear hK K)
    refine wpMix_nil ?_
    intro _
    clear dA dB
    obtain ⟨w3,hw3⟩:∃ x,Z1=x:=⟨_,rfl⟩
    rw [hw3] at hS hC ⊢
    clear hw3
    have hm5:=hC.max
    have hr5:=hC.room
    unfold maxLen at hm5
    have hC:=hC.step ((Below.refl _ _).drew)
    replace hS:=hS.drew
    have dE:∀ s:InC (fun W'=>Below w1.heap.size w1 W'),s.W.cell? ⟨bx,0,none⟩=some (.slice E n c):=fun s=>CF0.out _ s.ok
    go_upto_region 4 with fail
    refine wp_region_mix (fun W'=>Below w1.heap.size w1 W') [(0,true),(1,true),(2,true),(3,true),(4,true),(5,true),(6,true),(7,true),(8,true),(9,true),(10,true),(11,true),(12,true),(13,true),(14,false),(15,true),(16,true)] (by kernel_rfl) (by kernel_rfl) hS fun _=>?_
    simp only [List.map_cons,List.map_nil,Array.getD_eq_getD_getElem?,List.getElem?_toArray,List.getElem?_cons_succ,List.getElem?_cons_zero,Option.getD_some]
    generalize w3.drew=Y0 at hS hC ⊢
    iterate 13 (refine wpMix_s (fun K hK=>?_);go_simp;refine hK _ ?_;clear hK K)
    refine wpMix_v (by kernel_rfl) (.slice A5 n c5) (fun s=>run_slice_hiB (.tmp 40) (.tmp 43) rfl A5 (ne+nb) c5 n rfl rfl (by omega) s.W) ?_
    simp only [Act.put,List.setIfInBounds_toArray,List.set_cons_succ,List.set_cons_zero]
    refine wpMix_c (fun K hK=>?_) hS
    go_simp
    refine (equalfn_any fe ((m.ents++m.begun).take n) E A5 n c n c5 Y0 (He1.out.step hS) (hC.takeT n (by omega))).mono ?_
    rintro e Y1 ⟨rfl,hww⟩
    obtain rfl:=hww.symm
    rw [Hdq.out]
    refine hK _ _ ?_
    clear hK K
    refine ⟨hS,?_⟩
    iterate 2 (refine wpMix_s (fun K hK=>?_);go_simp;refine hK _ ?_;clear hK K)
    refine wpMix_nil ?_
    intro _
    clear dE hC
    obtain ⟨w4,hw4⟩:∃ x,Y0=x:=⟨_,rfl⟩
    rw [hw4] at hS ⊢
    clear hw4
    go_upto_region 6 with fail
    have dL:∀ s:InC (fun W'=>Below w1.heap.size w1 W'),(Instr.loadAt 55 (.pointer (some ⟨bx,5,none⟩))).run Tryz.prog s.W = .ok (.agg (.int .i64 fs::fr.map B).toArray) s.W:=fun s=>LF.out _ s.ok
    have dL2:∀ s:InC (fun W'=>Below w1.heap.size w1 W'),(Instr.loadAt 55 (.pointer (some ⟨g,6,none⟩))).run Tryz.prog s.W = .ok (.agg (.int .i64 ls::lr.map B).toArray) s.W:=fun s=>LL.out _ s.ok
    have dL3:∀ s:InC (fun W'=>Below w1.heap.size w1 W'),(Instr.loadAt 55 (.pointer (some ⟨g,41,none⟩))).run Tryz.prog s.W = .ok (.agg (.int .i64 ps::pr.map B).toArray) s.W:=fun s=>LP.out _ s.ok
    replace hS:=hS.drew
    cases fh with
    | false =>
     have dF:∀ s:InC (fun W'=>Below w1.heap.size w1 W'),s.W.cell? ⟨bx,4,none⟩=some (.bool false):=fun s=>CF4.out _ s.ok
     cases hs with
     | false =>
      have dH:∀ s:InC (fun W'=>Below w1.heap.size w1 W'),s.W.cell? ⟨g,39,none⟩=some (.bool false):=fun s=>CH.out _ s.ok
      refine wp_region_mix (fun W'=>Below w1.heap.size w1 W') [(0,true),(1,true),(2,true),(3,true),(4,true),(5,true),(6,true),(7,true),(8,true),(9,true),(10,true),(11,true),(12,true),(13,true),(14,true),(15,true),(16,true),(17,true),(18,true),(19,true),(20,true)] (by kernel_rfl) (by kernel_rfl) hS fun _=>?_
      simp only [List.map_cons,List.map_nil,Array.getD_eq_getD_getElem?,List.getElem?_toArray,List.getElem?_cons_succ,List.getElem?_cons_zero,Option.getD_some]
      generalize w4.drew=V0 at hS ⊢
      iterate 21 (refine wpMix_s (fun K hK=>?_);go_simp;refine hK _ ?_;clear hK K)
      refine wpMix_nil ?_
      intro _
      clear dF dH dL dL2 dL3
      go_wp2_with fail
      go_ret
      exact ⟨by rw [← Hans.out];rfl,hend _ hS⟩
     | true =>
      have dH:∀ s:InC (fun W'=>Below w1.heap.size w1 W'),s.W.cell? ⟨g,39,none⟩=some (.bool true):=fun s=>CH.out _ s.ok
      refine wp_region_mix (fun W'=>Below w1.heap.size w1 W') [(0,true),(1,true),(2,true),(3,true),(4,true),(5,true),(6,true),(7,true),(8,true),(9,true),(10,true),(11,true),(12,true),(13,true),(14,true),(15,true),(16,true),(17,true),(18,true),(19,true),(20,true)] (by kernel_rfl) (by kernel_rfl) hS fun _=>?_
      simp only [List.map_cons,List.map_nil,Array.getD_eq_getD_getElem?,List.getElem?_toArray,List.getElem?_cons_succ,List.getElem?_cons_zero,Option.getD_some]
      generalize w4.drew=V0 at hS ⊢
      iterate 21 (refine wpMix_s (fun K hK=>?_);go_simp;refine hK _ ?_;clear hK K)
      refine wpMix_nil ?_
      intro _
      obtain ⟨w5,hw5⟩:∃ x,V0=x:=⟨_,rfl⟩
      rw [hw5] at hS ⊢
      clear hw5
      replace hS:=hS.drew
      go_upto_region 8 with fail
      refine wp_region_mix (fun W'=>Below w1.heap.size w1 W') [(0,true),(1,true),(2,true),(3,true),(4,true),(5,true),(6,true),(7,true),(8,true),(9,true),(10,true),(11,true),(12,true),(13,true),(14,true),(15,true),(16,true),(17,true)] (by kernel_rfl) (by kernel_rfl) hS fun _=>?_
      simp only [List.map_cons,List.map_nil,Array.getD_eq_getD_getElem?,List.getElem?_toArray,List.getElem?_cons_succ,List.getElem?_cons_zero,Option.getD_some]
      generalize w5.drew=U0 at hS ⊢
      iterate 18 (refine wpMix_s (fun K hK=>?_);go_simp;refine hK _ ?_;clear hK K)
      refine wpMix_nil ?_
      intro _
      clear dF dH dL dL2 dL3
      go_wp2_with fail
      go_ret
      exact ⟨by rw [← Hans.out];rfl,hend _ hS⟩
    | true =>
     have dF:∀ s:InC (fun W'=>Below w1.heap.size w1 W'),s.W.cell? ⟨bx,4,none⟩=some (.bool true):=fun s=>CF4.out _ s.ok
     cases hs with
     | false =>
      have dH:∀ s:InC (fun W'=>Below w1.heap.size w1 W'),s.W.cell? ⟨g,39,none⟩=some (.bool false):=fun s=>CH.out _ s.ok
      refine wp_region_mix (fun W'=>Below w1.heap.size w1 W') [(0,true),(1,true),(2,true),(3,true),(4,true),(5,true),(6,true),(7,true),(8,true),(9,true),(10,true),(11,true),(12,true),(13,true),(14,true),(15,true),(16,true),(17,true),(18,true),(19,true),(20,true)] (by kernel_rfl) (by kernel_rfl) hS fun _=>?_
      simp only [List.map_cons,List.map_nil,Array.getD_eq_getD_getElem?,List.getElem?_toArray,List.getElem?_cons_succ,List.getElem?_cons_zero,Option.getD_some]
      generalize w4.drew=V0 at hS ⊢
      iterate 21 (refine wpMix_s (fun K hK=>?_);go_simp;refine hK _ ?_;clear hK K)
      refine wpMix_nil ?_
      intro _
      cases po with
      | false =>
       have dP:∀ s:InC (fun W'=>Below w1.heap.size w1 W'),s.W.cell? ⟨g,74,none⟩=some (.bool false):=fun s=>CP.out _ s.ok
       obtain ⟨w5,hw5⟩:∃ x,V0=x:=⟨_,rfl⟩
       rw [hw5] at hS ⊢
       clear hw5
       replace hS:=hS.drew
       go_upto_region 8 with fail
       refine wp_region_mix (fun W'=>Below w1.heap.size w1 W') [(0,true),(1,true),(2,true),(3,true),(4,true),(5,true),(6,true),(7,true),(8,true),(9,true),(10,true),(11,true),(12,true),(13,true),(14,true),(15,true),(16,true),(17,true)] (by kernel_rfl) (by kernel_rfl) hS fun _=>?_
       simp only [List.map_cons,List.map_nil,Array.getD_eq_getD_getElem?,List.getElem?_toArray,List.getElem?_cons_succ,List.getElem?_cons_zero,Option.getD_some]
       generalize w5.drew=U0 at hS ⊢
       iterate 18 (refine wpMix_s (fun K hK=>?_);go_simp;refine hK _ ?_;clear hK K)
       refine wpMix_nil ?_
       intro _
       clear dF dH dL dL2 dL3 dP
       go_wp2_with fail
       go_ret
       exact ⟨by rw [← Hans.out];rfl,hend _ hS⟩
      | true =>
       have dP:∀ s:InC (fun W'=>Below w1.heap.size w1 W'),s.W.cell? ⟨g,74,none⟩=some (.bool true):=fun s=>CP.out _ s.ok
       obtain ⟨w5,hw5⟩:∃ x,V0=x:=⟨_,rfl⟩
       rw [hw5] at hS ⊢
       clear hw5
       replace hS:=hS.drew
       go_upto_region 8 with fail
       refine wp_region_mix (fun W'=>Below w1.heap.size w1 W') [(0,true),(1,true),(2,true),(3,true),(4,true),(5,true),(6,true),(7,true),(8,true),(9,true),(10,true),(11,true),(12,true),(13,true),(14,true),(15,true),(16,true),(17,true)] (by kernel_rfl) (by kernel_rfl) hS fun _=>?_
       simp only [List.map_cons,List.map_nil,Array.getD_eq_getD_getElem?,List.getElem?_toArray,List.getElem?_cons_succ,List.getElem?_cons_zero,Option.getD_some]
       generalize w5.drew=U0 at hS ⊢
       iterate 10 (refine wpMix_s (fun K hK=>?_);go_simp;refine hK _ ?_;clear hK K)
       refine wpMix_load (by kernel_rfl) 55 (.tmp 78) rfl (bx) (5) rfl (.int .i64 fs::fr.map B).toArray (dL) ?_
       simp only [Act.put,List.setIfInBounds_toArray,List.set_cons_succ,List.set_cons_zero]
       iterate 3 (refine wpMix_s (fun K hK=>?_);go_simp;refine hK _ ?_;clear hK K)
       refine wpMix_load (by kernel_rfl) 55 (.tmp 82) rfl (g) (41) rfl (.int .i64 ps::pr.map B).toArray (dL3) ?_
       simp only [Act.put,List.setIfInBounds_toArray,List.set_cons_succ,List.set_cons_zero]
       refine wpMix_v (by kernel_rfl) (.bool b2) (fun s=>(Hb2.out ▸ eqlPt_op (.tmp 79) (.tmp 83) _ fs ps fr pr rfl rfl rfl frL ptL s.W)) ?_
       simp only [Act.put,List.setIfInBounds_toArray,List.set_cons_succ,List.set_cons_zero]
       iterate 2 (refine wpMix_s (fun K hK=>?_);go_simp;refine hK _ ?_;clear hK K)
       refine wpMix_nil ?_
       intro _
       clear dF dH dL dL2 dL3 dP
       go_wp2_with fail
       go_ret
       exact ⟨by rw [← Hans.out];cases b2 <;> rfl,hend _ hS⟩
     | true =>
      have dH:∀ s:InC (fun W'=>Below w1.heap.size w1 W'),s.W.cell? ⟨g,39,none⟩=some (.bool true):=fun s=>CH.out _ s.ok
      refine wp_region_mix (fun W'=>Below w1.heap.size w1 W') [(0,true),(1,true),(2,true),(3,true),(4,true),(5,true),(6,true),(7,true),(8,true),(9,true),(10,true),(11,true),(12,true),(13,true),(14,true),(15,true),(16,true),(17,true),(18,true),(19,true),(20,true)] (by kernel_rfl) (by kernel_rfl) hS fun _=>?_
      simp only [List.map_cons,List.map_nil,Array.getD_eq_getD_getElem?,List.getElem?_toArray,List.getElem?_cons_succ,List.getElem?_cons_zero,Option.getD_some]
      generalize w4.drew=V0 at hS ⊢
      iterate 13 (refine wpMix_s (fun K hK=>?_);go_simp;refine hK _ ?_;clear hK K)
      refine wpMix_load (by kernel_rfl) 55 (.tmp 60) rfl (bx) (5) rfl (.int .i64 fs::fr.map B).toArray (dL) ?_
      simp only [Act.put,List.setIfInBounds_toArray,List.set_cons_succ,List.set_cons_zero]
      iterate 3 (refine wpMix_s (fun K hK=>?_);go_simp;refine hK _ ?_;clear hK K)
      refine wpMix_load (by kernel_rfl) 55 (.tmp 64) rfl (g) (6) rfl (.int .i64 ls::lr.map B).toArray (dL2) ?_
      simp only [Act.put,List.setIfInBounds_toArray,List.set_cons_succ,List.set_cons_zero]
      refine wpMix_v (by kernel_rfl) (.bool b1) (fun s=>(Hb1.out ▸ eqlPt_op (.tmp 61) (.tmp 65) _ fs ls fr lr rfl rfl rfl frL lastL s.W)) ?_
      simp only [Act.put,List.setIfInBounds_toArray,List.set_cons_succ,List.set_cons_zero]
      iterate 2 (refine wpMix_s (fun K hK=>?_);go_simp;refine hK _ ?_;clear hK K)
      refine wpMix_nil ?_
      intro _
      cases b1 with
      | true =>
       clear dF dH dL dL2 dL3
       go_wp2_with fail
       go_ret
       exact ⟨by rw [← Hans.out];rfl,hend _ hS⟩
      | false =>
       cases po with
       | false =>
        have dP:∀ s:InC (fun W'=>Below w1.heap.size w1 W'),s.W.cell? ⟨g,74,none⟩=some (.bool false):=fun s=>CP.out _ s.ok
        obtain ⟨w5,hw5⟩:∃ x,V0=x:=⟨_,rfl⟩
        rw [hw5] at hS ⊢
        clear hw5
        replace hS:=hS.drew
        go_upto_region 8 with fail
        refine wp_region_mix (fun W'=>Below w1.heap.size w1 W') [(0,true),(1,true),(2,true),(3,true),(4,true),(5,true),(6,true),(7,true),(8,true),(9,true),(10,true),(11,true),(12,true),(13,true),(14,true),(15,true),(16,true),(17,true)] (by kernel_rfl) (by kernel_rfl) hS fun _=>?_
        simp only [List.map_cons,List.map_nil,Array.getD_eq_getD_getElem?,List.getElem?_toArray,List.getElem?_cons_succ,List.getElem?_cons_zero,Option.getD_some]
        generalize w5.drew=U0 at hS ⊢
        iterate 18 (refine wpMix_s (fun K hK=>?_);go_simp;refine hK _ ?_;clear hK K)
        refine wpMix_nil ?_
        intro _
        clear dF dH dL dL2 dL3 dP
        go_wp2_with fail
        go_ret
        exact ⟨by rw [← Hans.out];rfl,hend _ hS⟩
       | true =>
        have dP:∀ s:InC (fun W'=>Below w1.heap.size w1 W'),s.W.cell? ⟨g,74,none⟩=some (.bool true):=fun s=>CP.out _ s.ok
        obtain ⟨w5,hw5⟩:∃ x,V0=x:=⟨_,rfl⟩
        rw [hw5] at hS ⊢
        clear hw5
        replace hS:=hS.drew
        go_upto_region 8 with fail
        refine wp_region_mix (fun W'=>Below w1.heap.size w1 W') [(0,true),(1,true),(2,true),(3,true),(4,true),(5,true),(6,true),(7,true),(8,true),(9,true),(10,true),(11,true),(12,true),(13,true),(14,true),(15,true),(16,true),(17,true)] (by kernel_rfl) (by kernel_rfl) hS fun _=>?_
        simp only [List.map_cons,List.map_nil,Array.getD_eq_getD_getElem?,List.getElem?_toArray,List.getElem?_cons_succ,List.getElem?_cons_zero,Option.getD_some]
        generalize w5.drew=U0 at hS ⊢
        iterate 10 (refine wpMix_s (fun K hK=>?_);go_simp;refine hK _ ?_;clear hK K)
        refine wpMix_load (by kernel_rfl) 55 (.tmp 78) rfl (bx) (5) rfl (.int .i64 fs::fr.map B).toArray (dL) ?_
        simp only [Act.put,List.setIfInBounds_toArray,List.set_cons_succ,List.set_cons_zero]
        iterate 3 (refine wpMix_s (fun K hK=>?_);go_simp;refine hK _ ?_;clear hK K)
        refine wpMix_load (by kernel_rfl) 55 (.tmp 82) rfl (g) (41) rfl (.int .i64 ps::pr.map B).toArray (dL3) ?_
        simp only [Act.put,List.setIfInBounds_toArray,List.set_cons_succ,List.set_cons_zero]
        refine wpMix_v (by kernel_rfl) (.bool b2) (fun s=>(Hb2.out ▸ eqlPt_op (.tmp 79) (.tmp 83) _ fs ps fr pr rfl rfl rfl frL ptL s.W)) ?_
        simp only [Act.put,List.setIfInBounds_toArray,List.set_cons_succ,List.set_cons_zero]
        iterate 2 (refine wpMix_s (fun K hK=>?_);go_simp;refine hK _ ?_;clear hK K)
        refine wpMix_nil ?_
        intro _
        clear dF dH dL dL2 dL3 dP
        go_wp2_with fail
        go_ret
        exact ⟨by rw [← Hans.out];cases b2 <;> rfl,hend _ hS⟩
   ·rw [if_pos hq]
    have dq:decide (fe=(m.ents++m.begun).take n)=false:=by simpa using hq
    have Hdq:=Lib.hid dq
    clear dq hq
    go_enter Tryz.func17,Tryz.ntmps17
    go_upto_region 1 with ((with_reducible show wpList _ _ _ (⟨some 3,.box _ _,_,_,_,_⟩::_) _ _);refine wpList_run rfl (.pointer (some ⟨W.heap.size,0,none⟩)) w1 (by rw [← Hw1.out];rfl) ?_;rw [hbx];simp only [Act.put])
    refine wp_region_mix (fun W'=>Below w1.heap.size w1 W') [(0,true),(1,false),(2,true),(3,true),(4,true),(5,true),(6,true),(7,true),(8,true),(9,true),(10,true),(11,true),(12,true),(13,true)] (by kernel_rfl) (by kernel_rfl) hS fun _=>?_
    simp only [List.map_cons,List.map_nil,Array.getD_eq_getD_getElem?,List.getElem?_toArray,List.getElem?_cons_succ,List.getElem?_cons_zero,Option.getD_some]
    generalize w1.drew=W0 at hS ⊢
    (refine wpMix_s (fun K hK=>?_);go_simp;refine hK _ ?_;clear hK K)
    refine wpMix_c (fun K hK=>?_) hS
    go_simp
    refine (Hno.out W0 hS).mono ?_
    rintro e W0e ⟨rfl,hww⟩
    obtain rfl:=hww.symm
    refine hK _ _ ?_
    clear hK K
    refine ⟨hS,?_⟩
    iterate 12 (refine wpMix_s (fun K hK=>?_);go_simp;refine hK _ ?_;clear hK K)
    refine wpMix_nil ?_
    intro _
    clear dE dA
    obtain ⟨w2,hw2⟩:∃ x,W0=x:=⟨_,rfl⟩
    rw [hw2] at hS ⊢
    clear hw2
    replace hS:=hS.drew
    have dA:∀ s:InC (fun W'=>Below w1.heap.size w1 W'),s.W.cell? ⟨g,0,none⟩=some (.slice Ae ne ce):=fun s=>CE.out _ s.ok
    have dB:∀ s:InC (fun W'=>Below w1.heap.size w1 W'),s.W.cell? ⟨g,40,none⟩=some (.slice Ab nb cb):=fun s=>CB.out _ s.ok
    go_upto_region 3 with fail
    refine wp_region_mix (fun W'=>Below w1.heap.size w1 W') [(0,true),(1,true),(2,true),(3,true),(4,true),(5,true),(6,true),(7,true),(8,true),(9,false),(10,false),(11,true)] (by kernel_rfl) (by kernel_rfl) hS fun _=>?_
    simp only [List.map_cons,List.map_nil,Array.getD_eq_getD_getElem?,List.getElem?_toArray,List.getElem?_cons_succ,List.getElem?_cons_zero,Option.getD_some]
    generalize w2.drew=Z0 at hS ⊢
    iterate 9 (refine wpMix_s (fun K hK=>?_);go_simp;refine hK _ ?_;clear hK K)
    refine wpMix_run (by kernel_rfl) (.slice (some ⟨Z0.heap.size,0,none⟩) 2 2) (Z0.alloc (.cells #[.slice Ae ne ce,.slice Ab nb cb] 48)) (lit2_op (.tmp 24) (.tmp 28) rfl rfl rfl (lit2_run _ _ ⟨_,_,_,rfl⟩ ⟨_,_,_,rfl⟩ Z0)) (hS.alloc hS.size _) ?_
    simp only [Act.put,List.setIfInBounds_toArray,List.set_cons_succ,List.set_cons_zero]
    have hSa:=hS.alloc hS.size (.cells #[.slice Ae ne ce,.slice Ab nb cb] 48)
    refine wpMix_c (fun K hK=>?_) hSa
    go_simp
    refine (concat2_any m.ents m.begun Ae Ab ne nb ce cb Z0.heap.size _ (Blk.new _ _ _) (HE1.out.step hSa) (HEb.out.step hSa) hb).mono ?_
    rintro e Z1 ⟨A5,c5,rfl,hC,hb9⟩
    refine hK _ _ ?_
    clear hK K
    replace hS:=hSa.trans (hb9.mono hSa.size)
    refine ⟨hS,?_⟩
    clear hSa hb9
    (refine wpMix_s (fun K hK=>?_);go_simp;refine hK _ ?_;clear hK K)
    refine wpMix_nil ?_
    intro _
    clear dA dB
    obtain ⟨w3,hw3⟩:∃ x,Z1=x:=⟨_,rfl⟩
    rw [hw3] at hS hC ⊢
    clear hw3
    have hm5:=hC.max
    have hr5:=hC.room
    unfold maxLen at hm5
    have hC:=hC.step ((Below.refl _ _).drew)
    replace hS:=hS.drew
    have dE:∀ s:InC (fun W'=>Below w1.heap.size w1 W'),s.W.cell? ⟨bx,0,none⟩=some (.slice E n c):=fun s=>CF0.out _ s.ok
    go_upto_region 4 with fail
    refine wp_region_mix (fun W'=>Below w1.heap.size w1 W') [(0,true),(1,true),(2,true),(3,true),(4,true),(5,true),(6,true),(7,true),(8,true),(9,true),(10,true),(11,true),(12,true),(13,true),(14,false),(15,true),(16,true)] (by kernel_rfl) (by kernel_rfl) hS fun _=>?_
    simp only [List.map_cons,List.map_nil,Array.getD_eq_getD_getElem?,List.getElem?_toArray,List.getElem?_cons_succ,List.getElem?_cons_zero,Option.getD_some]
    generalize w3.drew=Y0 at hS hC ⊢
    iterate 13 (refine wpMix_s (fun K hK=>?_);go_simp;refine hK _ ?_;clear hK K)
    refine wpMix_v (by kernel_rfl) (.slice A5 n c5) (fun s=>run_slice_hiB (.tmp 40) (.tmp 43) rfl A5 (ne+nb) c5 n rfl rfl (by omega) s.W) ?_
    simp only [Act.put,List.setIfInBounds_toArray,List.set_cons_succ,List.set_cons_zero]
    refine wpMix_c (fun K hK=>?_) hS
    go_simp
    refine (equalfn_any fe ((m.ents++m.begun).take n) E A5 n c n c5 Y0 (He1.out.step hS) (hC.takeT n (by omega))).mono ?_
    rintro e Y1 ⟨rfl,hww⟩
    obtain rfl:=hww.symm
    rw [Hdq.out]
    refine hK _ _ ?_
    clear hK K
    refine ⟨hS,?_⟩
    iterate 2 (refine wpMix_s (fun K hK=>?_);go_simp;refine hK _ ?_;clear hK K)
    refine wpMix_nil ?_
    intro _
    go_wp2_with fail
    go_ret
    exact ⟨rfl,hend _ hS⟩
end Go.Proofs.YtdjhoankkddomaaGreat
