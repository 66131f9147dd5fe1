import Derived.Test.YtdjhoankkddomaaGreatQg248
import Derived.Test.YtdjhoankkddomaaGreatQg209
namespace Go.Proofs.YtdjhoankkddomaaGreat
open Go Go.RowKit Go.Shelf
attribute [local go_sem] Oper.semAt_some
theorem sou_add {V:Nat→Prop} {nm nx N:Nat} {M:Nat→MP} {X:Nat→XP} {U:Nat→Prop} {g:Nat} {R:MdR} {m:MoV} (hM:∀ b,MdW g R b→N≤b) (hu:∀ b,SoU V nm M nx X b→U b∨N≤b) (b:Nat) (hb:SoU V (nm+1) (setF M nm ⟨g,R,m⟩) nx X b):U b∨N≤b:=by
 rcases hb with hb|⟨i,hi,hb⟩|hb
 ·exact hu b (.inl hb)
 ·by_cases e:i=nm
  ·subst e;rw [setF_eq] at hb;exact .inr (hM b hb)
  ·rw [setF_ne _ _ e] at hb;exact hu b (.inr (.inl ⟨i,by omega,hb⟩))
 ·exact hu b (.inr (.inr hb))
set_option maxHeartbeats 16000000 in
set_option maxRecDepth 100000 in
theorem step9_any {w W:World} {gw n:Nat} {S:WS} (h:WdJ w gw (fun _=>False) S W) (hq:EqB n S) (hnp:S.np≤12) (hn:n≤1000) (so sa sb:Int) (sA:Option Addr) (sn sc:Nat) (sl:List UInt8) (hsl:Sl w (·<w.heap.size) sA sn sc sl) :
  Calls Tryz.prog 7 #[mpt gw,.agg #[.int .i64 9,.int .i64 so,.int .i64 sa,.int .i64 sb,.slice sA sn sc]] W fun e w'=>e = .returned (.bool true)∧StepQ w gw (n+1) w':=by
 obtain ⟨w1,hw1⟩:∃ x,W.alloc (.cells #[.int .i64 9,.int .i64 so,.int .i64 sa,.int .i64 sb,.slice sA sn sc] 43)=x:=⟨_,rfl⟩
 have B1:Below W.heap.size W w1:=by rw [← hw1];exact (Below.refl _ _).alloc (Nat.le_refl _) _
 have k1:Blk w1 W.heap.size 43 #[.int .i64 9,.int .i64 so,.int .i64 sa,.int .i64 sb,.slice sA sn sc]:=by rw [← hw1];exact Blk.new _ _ _
 have c1:w1.cell? ⟨W.heap.size,1,none⟩=some (.int .i64 so):=by rw [k1.cell];rfl
 obtain ⟨k,hkx,hk2⟩:=rem_two so
 have hkn:k<S.np:=Nat.lt_of_lt_of_le hk2 h.two
 have dk1:decide ((k:Int)<2)=true:=by simp;omega
 have dk2:(k:Int)<2:=by omega
 have hS:Below W.heap.size W w1.drew:=B1.drew
 have cM:∀ s:InC (fun W'=>Below W.heap.size W W'),s.W.cell? ⟨gw,k,none⟩=some (mpt (S.gm k)):=fun s=>(h.step s.ok).cm k hk2
 have cX:∀ s:InC (fun W'=>Below W.heap.size W W'),s.W.cell? ⟨gw,2+k,none⟩=some (mpt (S.gx k)):=fun s=>(h.step s.ok).cx k hk2
 have ks:Blk w1.drew W.heap.size 43 #[.int .i64 9,.int .i64 so,.int .i64 sa,.int .i64 sb,.slice sA sn sc]:=k1.step (Below.refl w1.heap.size w1).drew
 have Hw1:=Lib.hid hw1
 have Hkx:=Lib.hid hkx
 have Hh:=Lib.hid h
 clear hw1 h k1 B1 hkx
 go_enter Tryz.func7,Tryz.ntmps7
 go_upto_region 2 with (rw [Hw1.out])
 rw [Hkx.out]
 refine wp_region_mix (fun W'=>Below W.heap.size W W') [(0,true),(1,true),(2,true),(3,true),(4,true),(5,true),(6,true),(7,true),(8,true),(9,true),(10,true),(11,true),(12,true),(13,true)] (by kernel_rfl) (by kernel_rfl) hS fun _=>?_
 simp only [List.map_cons,List.map_nil,Array.getD_eq_getD_getElem?,List.getElem?_toArray,List.getElem?_cons_succ,List.getElem?_cons_zero,Option.getD_some]
 generalize w1.drew=W0 at hS ks ⊢
 iterate 14 (refine wpMix_s (fun K hK=>?_);go_simp;refine hK _ ?_;clear hK K)
 refine wpMix_nil ?_
 intro _
 have h:=Hh.out.step hS
 have cs0:W0.cell? ⟨W.heap.size,0,none⟩=some (.int .i64 9):=by rw [ks.cell];rfl
 have hgs:∀ b,SoU (WV gw S.ov S.wv fun _=>False) S.nm S.M S.nx S.X b→b<W.heap.size:=Hh.out.soup.ult
 clear Hh cM cX Hw1 Hkx c1
 obtain ⟨hmx,hbd⟩:=hq k hkn
 have hMd:=h.md k hkn
 have hXd:=h.xd k hkn
 obtain ⟨mo,hmo⟩:∃ x,(S.M (S.pr k).1).m=x:=⟨_,rfl⟩
 have hxm:(S.X (S.pr k).2).m=mo:=hmx.symm.trans hmo
 rw [hxm] at hXd
 rw [hmo] at hMd hbd
 have HXm:=Lib.hid hxm
 have HInj:=Lib.hid h.inj
 have HMo:=Lib.hid hmo
 clear hmo hmx hxm
 have he:=hbd.eb
 have HInb:=Lib.hid h.inb
 have Hq:=Lib.hid hq
 have ht2:=h.two
 have hsl0:=h.sl hsl
 have hgx:SoU (WV gw S.ov S.wv fun _=>False) S.nm S.M S.nx S.X (S.gx k) := .inr (.inr ⟨_,(h.inb k hkn).2,rfl⟩)
 have hf:=found_any hXd ⟨9,so,sa,sb,sA,sn,sc,sl⟩ (hsl0.weak fun b _ hx=>⟨fun e=>hx.1 (e.elim (fun e=>e ▸ hgx) fun e=>e.1),hx.2⟩) (by omega)
 have hfl:=fdE_len mo ⟨9,so,sa,sb,sA,sn,sc,sl⟩
 have hrl:(fdR mo sb).length=32:=by
  unfold fdR
  split
  ·exact hXd.ptL
  ·exact hXd.lastL
 have hjb:∀ V,Below W0.heap.size W0 V→(Instr.loadAt 23 (.pointer (some ⟨S.gx k,0,none⟩))).run Tryz.prog V = .ok (.agg #[.int .i64 mo.seg,.int .i64 mo.cap]) V:=fun V hb=>(hXd.step hb).loadJob
 have hld:=st_load (s:=⟨9,so,sa,sb,sA,sn,sc,sl⟩) ks
 obtain ⟨fe,hfe⟩:∃ x,fdE mo ⟨9,so,sa,sb,sA,sn,sc,sl⟩=x:=⟨_,rfl⟩
 obtain ⟨fh,hfh⟩:∃ x,fdH mo sb=x:=⟨_,rfl⟩
 obtain ⟨fs,hfs⟩:∃ x,fdS mo sb=x:=⟨_,rfl⟩
 obtain ⟨fr,hfr⟩:∃ x,fdR mo sb=x:=⟨_,rfl⟩
 obtain ⟨sg,hsg⟩:∃ x,mo.seg=x:=⟨_,rfl⟩
 obtain ⟨cp,hcp⟩:∃ x,mo.cap=x:=⟨_,rfl⟩
 simp only at hf
 rw [hfe,hfh,hfs,hfr] at hf
 rw [hfe] at hfl
 rw [hfr] at hrl
 rw [hsg,hcp] at hjb
 have hfl2:fe.length≤n+1:=by omega
 have Hf:=Lib.hid hf
 have Hjb:=Lib.hid hjb
 have hone:∀ b,¬ (b=S.gx k∨SoU (WV gw S.ov S.wv fun _=>False) S.nm S.M S.nx S.X b∧b≠(S.X (S.pr k).2).g)→¬ SoU (WV gw S.ov S.wv fun _=>False) S.nm S.M S.nx S.X b:=fun b hn hu=>hn ((Classical.em (b=S.gx k)).imp id fun e=>⟨hu,e⟩)
 have Hone:=Lib.hid hone
 clear hfe hfh hfs hfr hMd hXd hf hsl hsl0 hgx hfl hsg hcp hjb hone he hq
 go_wp2_with (first
  | ((with_reducible show wpList _ _ _ (⟨some 235,.load _ _,_,_,_,_⟩::_) _ _);refine wpList_load rfl 43 (.tmp 3) rfl W.heap.size 0 rfl _ hld ?_;simp only [Act.put,List.setIfInBounds_toArray,List.set_cons_succ,List.set_cons_zero]))
 refine Hf.out.mono ?_
 rintro e w3 ⟨v,rfl,hes,b3⟩
 obtain ⟨Av,cv,hve,hEs⟩:=hes.es
 subst hve
 obtain ⟨vs0,hrow,hin⟩:=hes.ex
 have hEi:EsI w3 (fun b=>¬ SoU (WV gw S.ov S.wv fun _=>False) S.nm S.M S.nx S.X b∧b<W0.heap.size) Av fe.length cv fe:=by
  obtain ⟨A',c',e',hi'⟩:=hes.i
  injection e' with e1 e2 e3
  subst e1
  subst e3
  exact hi'.weak fun b _ hx=>⟨Hone.out b hx.1,hx.2⟩
 have hrl3:∀ b,(Value.slice Av fe.length cv).ownBlock=some b→W0.heap.size≤b∧b<w3.heap.size:=fun b e=>hrow.lt b e
 rw [fcV_slice]
 have hF:=Fnd.ofP Av fe.length cv fh fs fr hrl
 have ho1:=one_fcP Av fe.length cv fh fs fr
 have hsz:=fcP_size Av fe.length cv fh fs fr hrl
 obtain ⟨fc,hfc⟩:∃ x,fcP Av fe.length cv fh fs fr=x:=⟨_,rfl⟩
 rw [hfc] at hF ho1 hsz ⊢
 have hmr:=hEs.max
 have hrm:=hEs.room
 unfold maxLen at hmr
 have Hin:=Lib.hid hin
 clear hes Hf hfc hld Hone hin
 go_wp2_with (first
  | ((with_reducible show wpList _ _ _ (⟨some 22,.alloc _,_,_,_,_⟩::_) _ _);refine wpList_varA (T:=72) (zs:=zf38) (cs:=fc) 38 (.tmp 22) (.tmp 236) rfl rfl (by kernel_rfl) sizeFd rfl rfl rfl hsz rfl ho1 ?_;intro w4 k22 b4;simp only [Act.put,List.setIfInBounds_toArray,List.set_cons_succ,List.set_cons_zero]))
 have B4:=b3.trans (b4.mono b3.size)
 obtain ⟨V0,hV0⟩:∃ x,(fun b=>(Value.slice Av fe.length cv).ownBlock=some b)=x:=⟨_,rfl⟩
 have hV0i:∀ b,V0 b↔(Value.slice Av fe.length cv).ownBlock=some b:=fun b=>by rw [← hV0]
 have h4:WdJ w gw V0 S w4:=h.kbV (KB.of_below B4) (fun b e => .inr (hrl3 b ((hV0i b).1 e)).1) (fun b e=>by have:=(hrl3 b ((hV0i b).1 e)).2;have:=k22.lt;omega)
 have hE4:=hEs.step b4
 have hEi4:=hEi.step b4
 have hrow4:=owns_step hrow b4
 have hF0:fc[0]?=some (.slice Av fe.length cv):=hF.c0
 have hT:Below w4.heap.size w4 w4.drew:=(Below.refl _ _).drew
 have hld4:∀ s:InC (fun W'=>Below w4.heap.size w4 W'),(Instr.loadAt 72 (.pointer (some ⟨w3.heap.size,0,none⟩))).run Tryz.prog s.W = .ok (.agg fc) s.W:=fun s=>fd_load7 (k22.step s.ok) hsz
 have hjb4:∀ s:InC (fun W'=>Below w4.heap.size w4 W'),(Instr.loadAt 23 (.pointer (some ⟨S.gx k,0,none⟩))).run Tryz.prog s.W = .ok (.agg #[.int .i64 sg,.int .i64 cp]) s.W:=fun s=>Hjb.out _ (B4.trans (s.ok.mono B4.size))
 have hul:∀ b,SoU (WV gw S.ov S.wv V0) S.nm S.M S.nx S.X b→SoU (WV gw S.ov S.wv fun _=>False) S.nm S.M S.nx S.X b∨W0.heap.size≤b:=fun b hb=>by
  rcases hb with (hb|hb|hb|hb)|hb
  ·exact .inl (.inl (.inl hb))
  ·exact .inl (.inl (.inr (.inl hb)))
  ·exact .inl (.inl (.inr (.inr (.inl hb))))
  ·exact .inr (hrl3 b ((hV0i b).1 hb)).1
  ·exact .inl (.inr hb)
 have ca:=fun V (hb:Below w4.heap.size w4 V)=>mfrom_any (SoU (WV gw S.ov S.wv V0) S.nm S.M S.nx S.X) sg cp fc Av fe.length cv fe fh fs fr V (fun b hz=>Nat.lt_of_lt_of_le (h4.soup.ult b hz) hb.size) hF (hE4.step hb) (by omega)
 have cb:=fun V (hb:Below w4.heap.size w4 V) (Z:Nat→Prop) (hZ:∀ b,Z b→b<V.heap.size) (hZ2:∀ b,Z b→SoU (WV gw S.ov S.wv fun _=>False) S.nm S.M S.nx S.X b∨W0.heap.size≤b)=>rfrom24_any Z sg cp fc Av fe.length cv fe fh fs fr V hZ hF ((hEi4.step hb).weak fun b _ hx hz=>(hZ2 b hz).elim hx.1 fun e=>by have:=hx.2;omega) (by omega)
 have hgv:∀ b,(Value.slice Av fe.length cv).ownBlock=some b→b≠w3.heap.size:=fun b e e'=>by have:=(hrl3 b e).2;omega
 have Hfl:=Lib.hid (show ∀ x,x=fe→x.length≤n+1 from fun x e=>by rw [e];exact hfl2)
 have HE:=Lib.hid hE4
 have CA:=Lib.hid ca
 have CB:=Lib.hid cb
 have Hul:=Lib.hid hul
 have HF:=Lib.hid hF
 have HV0:=Lib.hid hV0i
 have HB4:=Lib.hid B4
 have HJ4:=Lib.hid h4
 have K22:=Lib.hid k22
 obtain ⟨N,hN⟩:∃ x,fe.length=x:=⟨_,rfl⟩
 rw [hN] at hrow4 hF0 hgv hrm HV0 hrl3
 have HN:=Lib.hid hN
 clear hN hF ho1 b3 hEs b4 hEi hE4 hEi4 ca cb hul hV0 hV0i hrow Hin Hjb B4 h4 h ks k22
 go_wp2_with fail
 obtain ⟨tr,htr⟩:∃ x,fromM sg cp fe fh fs fr=x:=⟨_,rfl⟩
 have Htr:=Lib.hid htr
 clear htr
 cases tr with
 | false =>
  refine wp_region_mix (fun W'=>Below w4.heap.size w4 W') [(0,true),(1,true),(2,true),(3,true),(4,true),(5,false),(6,true),(7,true),(8,true),(9,true),(10,true)] (by kernel_rfl) (by kernel_rfl) hT fun _=>?_
  simp only [List.map_cons,List.map_nil,Array.getD_eq_getD_getElem?,List.getElem?_toArray,List.getElem?_cons_succ,List.getElem?_cons_zero,Option.getD_some]
  generalize w4.drew=Wg at hT ⊢
  iterate 3 (refine wpMix_s (fun K hK=>?_);go_simp;refine hK _ ?_;clear hK K)
  refine wpMix_load (by kernel_rfl) 23 (.tmp 240) rfl (S.gx k) (0) rfl #[.int .i64 sg,.int .i64 cp] (hjb4) ?_
  simp only [Act.put,List.setIfInBounds_toArray,List.set_cons_succ,List.set_cons_zero]
  refine wpMix_load (by kernel_rfl) 72 (.tmp 22) rfl (w3.heap.size) (0) rfl fc (hld4) ?_
  simp only [Act.put,List.setIfInBounds_toArray,List.set_cons_succ,List.set_cons_zero]
  refine wpMix_c (fun K hK=>?_) hT
  go_simp
  refine (CA.out Wg hT).mono ?_
  rintro e Wgy hans
  unfold FromAns at hans
  rw [Htr.out] at hans
  obtain ⟨rfl,b5⟩:=hans
  refine hK _ _ ?_
  clear hK K
  replace hT:=hT.trans (b5.mono hT.size)
  refine ⟨hT,?_⟩
  clear b5
  iterate 5 (refine wpMix_s (fun K hK=>?_);go_simp;refine hK _ ?_;clear hK K)
  refine wpMix_nil ?_
  intro _
  have hB5:=hT
  have hld5:∀ s:InC (fun W'=>Below w4.heap.size w4 W'),(Instr.loadAt 72 (.pointer (some ⟨w3.heap.size,0,none⟩))).run Tryz.prog s.W = .ok (.agg fc) s.W:=hld4
  have hT2:Below w4.heap.size w4 Wgy.drew:=hT.trans ((Below.refl Wgy.heap.size Wgy).drew.mono hT.size)
  go_wp2_with fail
  refine wp_region_mix (fun W'=>Below w4.heap.size w4 W') [(0,true),(1,true),(2,true),(3,true),(4,true),(5,false),(6,true),(7,true),(8,true),(9,true),(10,true)] (by kernel_rfl) (by kernel_rfl) hT2 fun _=>?_
  simp only [List.map_cons,List.map_nil,Array.getD_eq_getD_getElem?,List.getElem?_toArray,List.getElem?_cons_succ,List.getElem?_cons_zero,Option.getD_some]
  generalize Wgy.drew=Wh at hT2 ⊢
  iterate 3 (refine wpMix_s (fun K hK=>?_);go_simp;refine hK _ ?_;clear hK K)
  refine wpMix_load (by kernel_rfl) 23 (.tmp 249) rfl (S.gx k) (0) rfl #[.int .i64 sg,.int .i64 cp] (hjb4) ?_
  simp only [Act.put,List.setIfInBounds_toArray,List.set_cons_succ,List.set_cons_zero]
  refine wpMix_load (by kernel_rfl) 72 (.tmp 22) rfl (w3.heap.size) (0) rfl fc (hld5) ?_
  simp only [Act.put,List.setIfInBounds_toArray,List.set_cons_succ,List.set_cons_zero]
  refine wpMix_c (fun K hK=>?_) hT2
  go_simp
  refine (CB.out Wh hT2 (fun _=>False) (fun b e=>e.elim) (fun b e=>e.elim)).mono ?_
  rintro e Whz hans
  unfold RFromAns at hans
  rw [Htr.out] at hans
  obtain ⟨rfl,b5⟩:=hans
  refine hK _ _ ?_
  clear hK K
  replace hT2:=hT2.trans (b5.mono hT2.size)
  refine ⟨hT2,?_⟩
  clear b5
  iterate 5 (refine wpMix_s (fun K hK=>?_);go_simp;refine hK _ ?_;clear hK K)
  refine wpMix_nil ?_
  intro _
  have h6:=HJ4.out.step hT2
  have k6:=K22.out.step hT2
  have r6:=owns_step hrow4 hT2
  obtain ⟨w6,hw6⟩:∃ x,Whz=x:=⟨_,rfl⟩
  rw [hw6] at h6 k6 r6 ⊢
  have H6:=Lib.hid h6
  have K6:=Lib.hid k6
  have R6:=Lib.hid r6
  clear hw6 h6 k6 r6 hT2 hld5 hB5 hld4 hjb4 hrow4 HJ4 K22
  go_wp2_with fail
  go_loopw [27] (fun v27 wr=>∃ (i:Nat) (xs:List Value),i≤N∧v27 = .int .i64 (i:Int)∧WdJ w gw V0 S wr∧Blk wr w3.heap.size 72 fc∧wr.ownsRow W0.heap.size 41 1 (.slice Av N cv) N xs) (fun v27 _=>N - (intOf v27).toNat)
  case atStart=>exact ⟨0,_,Nat.zero_le _,rfl,H6.out,K6.out,R6.out⟩
  case round =>
   obtain ⟨i,xs,hi,rfl,hI,hB,hR⟩:=hrel
   have cf0:wr.cell? ⟨w3.heap.size,0,none⟩=some (.slice Av N cv):=by rw [hB.cell];exact hF0
   by_cases hin:i<N
   ·have hd:decide ((i:Int)<(N:Int))=true:=by simp;omega
    have hd2:decide (i<N)=true:=by simp;omega
    have hwi:IntKind.i64.wrap ((i:Int)+1)=(i:Int)+1:=IntWalk.i64_in _ (by omega)
    obtain ⟨gq,cq,eq,-⟩:=owns_some7 hR (by omega)
    injection eq with eq1 eq2 eq3
    subst eq1
    subst eq3
    clear eq2
    obtain ⟨⟨u,hcu⟩,hfu,hlq,hR2⟩:=owns_setv7 hR i hin (.slice none 0 0)
    have hkk:KB V0 wr (wr.setCell ⟨gq,i,none⟩ (.slice none 0 0)):=kb_cell (KB.refl _ _) ((HV0.out gq).2 rfl) i _
    have hI2:=hI.kbV (V1:=V0) hkk (fun b e => .inl e) (fun b e=>Nat.lt_of_lt_of_le (hI.soup.vlt b (.inr (.inr (.inr e)))) hkk.size)
    have hB2:=hkk.blk hB fun e=>hgv _ ((HV0.out _).1 e) rfl
    have HI2:=Lib.hid hI2
    have HB2:=Lib.hid hB2
    have HR2:=Lib.hid hR2
    clear hI2 hB2 hR2 hkk hI hB hR
    go_wp2_with fail
    go_roundw
    case rel=>exact ⟨i+1,_,by omega,by go_num,HI2.out,HB2.out,HR2.out⟩
    case measure=>simp [intOf];omega
   ·obtain rfl:i=N:=by omega
    have hd:decide ((i:Int)<(i:Int))=false:=by simp
    have HI3:=Lib.hid (hI.kbV (V1:=fun _=>False) (KB.refl _ _) (fun b e=>e.elim) (fun b e=>e.elim))
    clear hI hB hR
    go_wp2_with fail
    go_ret
    exact ⟨rfl,S,HI3.out,Hq.out.up (Nat.le_succ _),hnp⟩
 | true =>
  have hK4:=HJ4.out.k
  have HK4:=Lib.hid hK4
  clear hK4
  refine wp_region_mix (fun W'=>Below w4.heap.size w4 W') [(0,true),(1,true),(2,true),(3,true),(4,true),(5,false),(6,true),(7,true),(8,true),(9,true),(10,true)] (by kernel_rfl) (by kernel_rfl) hT fun _=>?_
  simp only [List.map_cons,List.map_nil,Array.getD_eq_getD_getElem?,List.getElem?_toArray,List.getElem?_cons_succ,List.getElem?_cons_zero,Option.getD_some]
  generalize w4.drew=Wg at hT ⊢
  have hT4s:=hT.size
  iterate 3 (refine wpMix_s (fun K hK=>?_);go_simp;refine hK _ ?_;clear hK K)
  refine wpMix_load (by kernel_rfl) 23 (.tmp 240) rfl (S.gx k) (0) rfl #[.int .i64 sg,.int .i64 cp] (hjb4) ?_
  simp only [Act.put,List.setIfInBounds_toArray,List.set_cons_succ,List.set_cons_zero]
  refine wpMix_load (by kernel_rfl) 72 (.tmp 22) rfl (w3.heap.size) (0) rfl fc (hld4) ?_
  simp only [Act.put,List.setIfInBounds_toArray,List.set_cons_succ,List.set_cons_zero]
  refine wpMix_c (fun K hK=>?_) hT
  go_simp
  refine (CA.out Wg hT).mono ?_
  rintro e Wgy hans
  unfold FromAns at hans
  rw [Htr.out,if_pos rfl] at hans
  obtain ⟨lo5,gy,Ry,rfl,hlo5,hMy,b5⟩:=hans
  refine hK _ _ ?_
  clear hK K
  have hK5:=(HK4.out.step hT).addM gy Ry _ _ b5 hMy hlo5 (fun b hb=>hb)
  replace hT:=hT.trans (b5.mono hT.size)
  refine ⟨hT,?_⟩
  have HK5:=Lib.hid hK5
  have b5s:=b5.size
  have hlo6:W0.heap.size≤lo5:=Nat.le_trans HB4.out.size (Nat.le_trans hT4s hlo5)
  have hMw:=fun b (hb:MdW gy Ry b)=>Nat.le_trans hlo6 (hMy.lt b hb).1
  have HMw:=Lib.hid hMw
  clear b5 hK5 hMy hlo5 hMw hlo6 b5s
  iterate 5 (refine wpMix_s (fun K hK=>?_);go_simp;refine hK _ ?_;clear hK K)
  refine wpMix_nil ?_
  intro _
  obtain ⟨w5,hw5⟩:∃ x,Wgy=x:=⟨_,rfl⟩
  have hK5:=HK5.out
  rw [hw5] at hK5 hT ⊢
  have hT5:=hT
  have hld5:∀ s:InC (fun W'=>Below w5.heap.size w5 W'),(Instr.loadAt 72 (.pointer (some ⟨w3.heap.size,0,none⟩))).run Tryz.prog s.W = .ok (.agg fc) s.W:=fun s=>hld4 ⟨_,hT5.trans (s.ok.mono hT5.size)⟩
  have hjb5:∀ s:InC (fun W'=>Below w5.heap.size w5 W'),(Instr.loadAt 23 (.pointer (some ⟨S.gx k,0,none⟩))).run Tryz.prog s.W = .ok (.agg #[.int .i64 sg,.int .i64 cp]) s.W:=fun s=>hjb4 ⟨_,hT5.trans (s.ok.mono hT5.size)⟩
  have hD5:Below w5.heap.size w5 w5.drew:=(Below.refl _ _).drew
  clear HK5 hw5 hT
  go_wp2_with fail
  refine wp_region_mix (fun W'=>Below w5.heap.size w5 W') [(0,true),(1,true),(2,true),(3,true),(4,true),(5,false),(6,true),(7,true),(8,true),(9,true),(10,true)] (by kernel_rfl) (by kernel_rfl) hD5 fun _=>?_
  simp only [List.map_cons,List.map_nil,Array.getD_eq_getD_getElem?,List.getElem?_toArray,List.getElem?_cons_succ,List.getElem?_cons_zero,Option.getD_some]
  generalize w5.drew=Wh at hD5 ⊢
  iterate 3 (refine wpMix_s (fun K hK=>?_);go_simp;refine hK _ ?_;clear hK K)
  refine wpMix_load (by kernel_rfl) 23 (.tmp 249) rfl (S.gx k) (0) rfl #[.int .i64 sg,.int .i64 cp] (hjb5) ?_
  simp only [Act.put,List.setIfInBounds_toArray,List.set_cons_succ,List.set_cons_zero]
  refine wpMix_load (by kernel_rfl) 72 (.tmp 22) rfl (w3.heap.size) (0) rfl fc (hld5) ?_
  simp only [Act.put,List.setIfInBounds_toArray,List.set_cons_succ,List.set_cons_zero]
  refine wpMix_c (fun K hK=>?_) hD5
  go_simp
  refine (CB.out Wh (hT5.trans (hD5.mono hT5.size)) (SoU (WV gw S.ov S.wv V0) (S.nm+1) (setF S.M S.nm ⟨gy,Ry,MoV.found sg cp fe fh fs fr⟩) S.nx S.X) (fun b hz=>Nat.lt_of_lt_of_le (hK5.soup.ult b hz) hD5.size) (fun b hz=>sou_add HMw.out Hul.out b hz)).mono ?_
  rintro e Whz hans
  unfold RFromAns at hans
  rw [Htr.out,if_pos rfl] at hans
  obtain ⟨gz,Rz,rfl,hgz,hXz,b6⟩:=hans
  refine hK _ _ ?_
  clear hK K
  have hK6:=(hK5.step hD5).addX gz Rz _ _ b6 hXz hgz (fun b hb=>hb)
  replace hD5:=hD5.trans (b6.mono hD5.size)
  refine ⟨hD5,?_⟩
  have HK6:=Lib.hid hK6
  clear b6 hK6 hXz hgz hK5
  iterate 5 (refine wpMix_s (fun K hK=>?_);go_simp;refine hK _ ?_;clear hK K)
  refine wpMix_nil ?_
  intro _
  obtain ⟨w6,hw6⟩:∃ x,Whz=x:=⟨_,rfl⟩
  have hK6:=HK6.out
  have hB46:=hT5.trans (hD5.mono hT5.size)
  have k6:=K22.out.step hB46
  have r6:=owns_step hrow4 hB46
  rw [hw6] at hK6 k6 r6 ⊢
  have H6:=Lib.hid hK6
  have K6:=Lib.hid k6
  have R6:=Lib.hid r6
  obtain ⟨no,hno⟩:∃ x,S.np - 2=x:=⟨_,rfl⟩
  have hnp2:S.np=no+2:=by omega
  rw [hno] at H6
  clear hw6 hK6 k6 r6 hld5 hjb5 hld4 hjb4 hrow4 HJ4 K22 HK6 hT5 hD5 hB46
  have hbdf:Bd (n+1) (MoV.found sg cp fe fh fs fr):=Bd.found sg cp fh fs fr (by
   have h1:=Htr.out
   simp only [fromM,Bool.and_eq_true] at h1
   exact (allShort_iff fe).1 h1.1.2) (Hfl.out fe rfl)
  have Hbdf:=Lib.hid hbdf
  clear hbdf
  go_wp2_with fail
  go_loopw [27] (fun v27 wr=>∃ (i:Nat) (xs:List Value),i≤N∧v27 = .int .i64 (i:Int)∧WdK w gw V0 (S.nm+1) (setF S.M S.nm ⟨gy,Ry,MoV.found sg cp fe fh fs fr⟩) (S.nx+1) (setF S.X S.nx ⟨gz,Rz,MoV.found sg cp fe fh fs fr⟩) (fun i=>(S.pr i).1) (fun i=>(S.pr i).2) no (fun i=>(S.pr (i+2)).1) no (fun i=>(S.pr (i+2)).2) S.ov S.wv wr∧Blk wr w3.heap.size 72 fc∧wr.ownsRow W0.heap.size 41 1 (.slice Av N cv) N xs) (fun v27 _=>N - (intOf v27).toNat)
  case atStart=>exact ⟨0,_,Nat.zero_le _,rfl,H6.out,K6.out,R6.out⟩
  case round =>
   obtain ⟨i,xs,hi,rfl,hI,hB,hR⟩:=hrel
   have cf0:wr.cell? ⟨w3.heap.size,0,none⟩=some (.slice Av N cv):=by rw [hB.cell];exact hF0
   by_cases hin:i<N
   ·have hd:decide ((i:Int)<(N:Int))=true:=by simp;omega
    have hd2:decide (i<N)=true:=by simp;omega
    have hwi:IntKind.i64.wrap ((i:Int)+1)=(i:Int)+1:=IntWalk.i64_in _ (by omega)
    obtain ⟨gq,cq,eq,-⟩:=owns_some7 hR (by omega)
    injection eq with eq1 eq2 eq3
    subst eq1
    subst eq3
    clear eq2
    obtain ⟨⟨u,hcu⟩,hfu,hlq,hR2⟩:=owns_setv7 hR i hin (.slice none 0 0)
    have hkk:KB V0 wr (wr.setCell ⟨gq,i,none⟩ (.slice none 0 0)):=kb_cell (KB.refl _ _) ((HV0.out gq).2 rfl) i _
    have hI2:=hI.kbV (V1:=V0) hkk (fun b e => .inl e) (fun b e=>Nat.lt_of_lt_of_le (hI.soup.vlt b (.inr (.inr (.inr e)))) hkk.size)
    have hB2:=hkk.blk hB fun e=>hgv _ ((HV0.out _).1 e) rfl
    have HI2:=Lib.hid hI2
    have HB2:=Lib.hid hB2
    have HR2:=Lib.hid hR2
    clear hI2 hB2 hR2 hkk hI hB hR
    go_wp2_with fail
    go_roundw
    case rel=>exact ⟨i+1,_,by omega,by go_num,HI2.out,HB2.out,HR2.out⟩
    case measure=>simp [intOf];omega
   ·obtain rfl:i=N:=by omega
    have hd:decide ((i:Int)<(i:Int))=false:=by simp
    have hI3:=hI.kbV (V1:=fun _=>False) (KB.refl _ _) (fun b e=>e.elim) (fun b e=>e.elim)
    have hId:=hI3.step (Below.refl wr.heap.size wr).drew
    obtain ⟨x7,y7,h7⟩:=hId.setCm k hk2 S.nm (Nat.lt_succ_self _)
    simp only [setF_eq] at h7
    obtain ⟨w7,hw7⟩:∃ x,wr.drew.setCell ⟨gw,k,none⟩ (mpt gy)=x:=⟨_,rfl⟩
    rw [hw7] at h7
    obtain ⟨x8,y8,h8⟩:=h7.setCx k hk2 S.nx (Nat.lt_succ_self _)
    simp only [setF_eq] at h8
    have hT8:KB (fun b=>b=gw) wr wr.drew:=KB.of_below (Below.refl _ _).drew
    have hT9:KB (fun b=>b=gw) wr w7:=by rw [← hw7];exact kb_cell (M:=fun b=>b=gw) hT8 rfl k _
    have hT10:KB (fun b=>b=gw) wr (w7.setCell ⟨gw,2+k,none⟩ (mpt gz)):=kb_cell (M:=fun b=>b=gw) hT9 rfl (2+k) _
    have H8:=Lib.hid h8
    have Hw7:=Lib.hid hw7
    clear hI hB hR hI3 hId h7 h8 hw7
    go_wp2_with fail
    refine wp_region_mix (fun W'=>KB (fun b=>b=gw) wr W') [(0,true),(1,true),(2,true),(3,true),(4,true),(5,true),(6,true),(7,true),(8,true),(10,true),(11,true),(9,false),(12,true),(13,false)] (by kernel_rfl) (by kernel_rfl) hT8 fun _=>?_
    simp only [List.map_cons,List.map_nil,Array.getD_eq_getD_getElem?,List.getElem?_toArray,List.getElem?_cons_succ,List.getElem?_cons_zero,Option.getD_some]
    iterate 11 (refine wpMix_s (fun K hK=>?_);go_simp;refine hK _ ?_;clear hK K)
    refine wpMix_put1 (by kernel_rfl) 26 (.tmp 286) (.tmp 282) rfl sizePtrM ⟨gw,k,none⟩ (mpt gy) rfl rfl rfl _ x7 y7 (by rw [Hw7.out];exact hT9) ?_
    simp only [Act.put]
    rw [Hw7.out]
    (refine wpMix_s (fun K hK=>?_);go_simp;refine hK _ ?_;clear hK K)
    refine wpMix_put1 (by kernel_rfl) 28 (.tmp 289) (.tmp 283) rfl sizePtrX ⟨gw,2+k,none⟩ (mpt gz) rfl rfl rfl _ x8 y8 hT10 ?_
    simp only [Act.put]
    refine wpMix_nil ?_
    intro _
    go_wp2_with fail
    go_ret
    exact ⟨rfl,WdK.jC H8.out hnp2 hk2 HInb.out HInj.out Hq.out (Nat.le_succ _) Hbdf.out hnp⟩
end Go.Proofs.YtdjhoankkddomaaGreat
namespace Go.Proofs.YtdjhoankkddomaaGreat
open Go Go.RowKit Go.Shelf
theorem step_any {w W:World} {gw n:Nat} (h:StepQ w gw n W) (hn:n≤1000) (s:PStep) (hl:Sl w (·<w.heap.size) s.A s.n s.c s.l) (hb:s.l.length≤1073741824) (ha:s.a≤9223372036854775807) :
  Calls Tryz.prog 7 #[mpt gw,.agg s.cells] W fun e w'=>e = .returned (.bool true)∧StepQ w gw (n+1) w':=by
 obtain ⟨S,hJ,hq,hnp⟩:=h
 obtain ⟨kd,on,a,b,A,m,c,l⟩:=s
 by_cases h0:kd<1∨9<kd
 ·exact step0_any hJ hq hnp hn kd on a b A m c h0
 ·have hk:kd=1∨kd=2∨kd=3∨kd=4∨kd=5∨kd=6∨kd=7∨kd=8∨kd=9:=by omega
  rcases hk with rfl|rfl|rfl|rfl|rfl|rfl|rfl|rfl|rfl
  ·exact step1_any hJ hq hnp hn on a b A m c l hl hb
  ·exact step2_any hJ hq hnp hn on a b A m c
  ·exact step3_any hJ hq hnp hn on a b A m c
  ·exact step4_any hJ hq hnp hn on a b A m c
  ·exact step5_any hJ hq hnp hn on a b A m c
  ·exact step6_any hJ hq hnp hn on a b A m c ha
  ·exact step7_any hJ hq hnp hn on a b A m c l hl
  ·exact step8_any hJ hq hnp hn on a b A m c
  ·exact step9_any hJ hq hnp hn on a b A m c l hl
structure PScr (W:World) (A:Option Addr) (n c:Nat) (ss:List PStep):Prop where
 at_:∀ i (h:i<ss.length),∃ b o,A=some ⟨b,o,none⟩∧b<W.heap.size∧∀ j v,(ss[i]).cells[j]?=some v→W.cell? ⟨b,o+i*5+j,none⟩=some v
 ins:∀ s ∈ ss,Sl W (·<W.heap.size) s.A s.n s.c s.l∧s.l.length≤1073741824∧s.a≤9223372036854775807
 len:ss.length=n
 room:n≤c
 max:c≤maxLen
theorem PScr.load {w W:World} {A:Option Addr} {n c:Nat} {ss:List PStep} (h:PScr w A n c ss) (hb:Below w.heap.size w W) (i:Nat) (hi:i<ss.length) {b o:Nat} (hA:A=some ⟨b,o,none⟩) :
  (Instr.loadAt 43 (.pointer (some ⟨b,o+i*5,none⟩))).run Tryz.prog W = .ok (.agg (ss[i]).cells) W:=by
 obtain ⟨b',o',e,hlt,hc⟩:=h.at_ i hi
 rw [hA] at e
 cases e
 have:=run_load_agg (P:=Tryz.prog) (aggSt W) (sizeSt W) b (o+i*5) (ss[i]).cells.toList rfl fun j u hu=>by
  rw [hb.cell (p:=⟨b,o+i*5+j,none⟩) hlt]
  exact hc j u (by rw [← Array.getElem?_toList];exact hu)
 exact this
def icells (k:Nat) (M:Nat→MP) (X:Nat→XP):Array Value :=
 wcells (if 0<k then mpt (M 0).g else .pointer none) (if 1<k then mpt (M 1).g else .pointer none) (if 0<k then mpt (X 0).g else .pointer none) (if 1<k then mpt (X 1).g else .pointer none) (.slice none 0 0) (.slice none 0 0)
structure InI (w:World) (gc gw:Nat) (sg cp:Int) (k:Nat) (W:World):Prop where
 cf:Blk W gc 23 #[.int .i64 sg,.int .i64 cp]
 ex:∃ M X,Soup w.heap.size (fun b=>b=gw) k M k X W∧Blk W gw 33 (icells k M X)∧∀ i,i<k→(M i).m=MoV.new sg cp∧(X i).m=MoV.new sg cp
 bel:Below w.heap.size w W
 lo:w.heap.size≤gw
 ne:gc≠gw
 glt:gc<W.heap.size
theorem InI.step {w W W':World} {gc gw:Nat} {sg cp:Int} {k:Nat} (h:InI w gc gw sg cp k W) (hb:Below W.heap.size W W'):InI w gc gw sg cp k W' :=
 let ⟨M,X,h1,h2,h3⟩:=h.ex
 ⟨h.cf.step hb,⟨M,X,h1.step hb,h2.step hb,h3⟩,h.bel.trans (hb.mono h.bel.size),h.lo,h.ne,Nat.lt_of_lt_of_le h.glt hb.size⟩
theorem Xd.ofNew {W:World} {g:Nat} {sg cp:Int} (Z:Nat→Prop) (hk:Blk W g 60 (xdArr X0 (MoV.new sg cp))) (hZ:∀ b,Z b→b<g):Xd Z g X0 (MoV.new sg cp) W :=
 have hE:Es W (fun b=>¬ (b=g∨Z b)) none 0 0 []:=⟨⟨[],SlV.empty,fun i hi=>absurd hi (by simp)⟩,rfl⟩
 ⟨hk,rfl,rfl,⟨none,0,rfl,hE⟩,⟨none,0,rfl,hE⟩,⟨none,0,rfl,hE⟩,fun b hz=>Nat.lt_trans (hZ b hz) hk.lt,fun hz=>absurd (hZ g hz) (Nat.lt_irrefl _)⟩
theorem Bd.new (sg cp:Int):Bd 0 (MoV.new sg cp):=⟨fun x hx=>(by cases hx),fun x hx=>(by cases hx),fun x hx=>(by cases hx),Nat.le_refl _,Nat.le_refl _⟩
theorem InI.add {w W W1 W2:World} {gc gw:Nat} {sg cp:Int} {k:Nat} (h:InI w gc gw sg cp k W) (hk:k<2) {M:Nat→MP} {X:Nat→XP} (hs:Soup w.heap.size (fun b=>b=gw) k M k X W) (hb:Blk W gw 33 (icells k M X)) (hn:∀ i,i<k→(M i).m=MoV.new sg cp∧(X i).m=MoV.new sg cp)
  {g g' lo:Nat} {R:MdR} (b1:Below W.heap.size W W1) (hm:Md (SoU (fun b=>b=gw) k M k X) lo g R (MoV.new sg cp) W1) (hlo:W.heap.size≤lo) (b2:Below W1.heap.size W1 W2) (hg':W1.heap.size≤g') (hx:Blk W2 g' 60 (xdArr X0 (MoV.new sg cp))) :
  W2.cell? ⟨gw,k,none⟩=some (.pointer none)∧W2.frozen? ⟨gw,k,none⟩=false∧(W2.setCell ⟨gw,k,none⟩ (mpt g)).cell? ⟨gw,2+k,none⟩=some (.pointer none)∧(W2.setCell ⟨gw,k,none⟩ (mpt g)).frozen? ⟨gw,2+k,none⟩=false∧InI w gc gw sg cp (k+1) ((W2.setCell ⟨gw,k,none⟩ (mpt g)).setCell ⟨gw,2+k,none⟩ (mpt g')):=by
 have s1:=hs.addM g R (MoV.new sg cp) _ b1 (hm.lower (Nat.le_trans h.bel.size hlo)) (fun b hw=>Nat.le_trans hlo (hm.lt b hw).1) (fun b hz=>hz)
 have s2:=s1.addX g' X0 (MoV.new sg cp) (SoU (fun b=>b=gw) (k+1) (setF M k ⟨g,R,MoV.new sg cp⟩) k X) b2 (Xd.ofNew _ hx fun b hz=>Nat.lt_of_lt_of_le (s1.ult b hz) hg') hg' (Nat.le_trans (Nat.le_trans h.bel.size b1.size) hg') (fun b hz=>hz)
 have B2:=b1.trans (b2.mono b1.size)
 have hI2:=h.step B2
 have k2:=hb.step B2
 have k3:=k2.set_ k (mpt g)
 have k4:=k3.set_ (2+k) (mpt g')
 have hK:KB (fun b=>b=gw) W2 ((W2.setCell ⟨gw,k,none⟩ (mpt g)).setCell ⟨gw,2+k,none⟩ (mpt g')):=kb_cell (M:=fun b=>b=gw) (kb_cell (M:=fun b=>b=gw) (KB.refl _ _) rfl k _) rfl (2+k) _
 refine ⟨?_,k2.frozen k,?_,k3.frozen (2+k),⟨hK.blk hI2.cf h.ne,⟨_,_,s2.kbV hK (fun b e => .inl e) (fun b e=>by rw [e];exact Nat.lt_of_lt_of_le k2.lt hK.size),?_,fun i hi=>?_⟩,hI2.bel.trans (hK.below (fun b e=>e ▸ h.lo) hI2.bel.size),h.lo,h.ne,Nat.lt_of_lt_of_le hI2.glt hK.size⟩⟩
 ·rw [k2.cell]
  rcases (by omega:k=0∨k=1) with rfl|rfl <;> rfl
 ·rw [k3.cell]
  rcases (by omega:k=0∨k=1) with rfl|rfl <;> rfl
 ·rcases (by omega:k=0∨k=1) with rfl|rfl <;> exact k4
 ·by_cases e:i=k
  ·subst e;rw [setF_eq,setF_eq];exact ⟨rfl,rfl⟩
  ·rw [setF_ne _ _ e,setF_ne _ _ e];exact hn i (by omega)
theorem InI.q {w W:World} {gc gw:Nat} {sg cp:Int} (h:InI w gc gw sg cp 2 W):StepQ w gw 0 W:=by
 obtain ⟨M,X,h1,h2,h3⟩:=h.ex
 refine ⟨⟨2,M,2,X,fun i=>(i,i),2,.slice none 0 0,.slice none 0 0⟩,⟨h1.kbV (KB.refl _ _) (fun b hb=>?_) (fun b hb=>?_),h2,World.ownsRow_nil _ _ _ _,World.ownsRow_nil _ _ _ _,h.lo,fun b e=>e.elim,Nat.le_refl _,fun i hi=>⟨hi,hi⟩,fun i j _ _ hij=>⟨hij,hij⟩,h.bel⟩,fun i hi=>?_,by show 2≤12;decide⟩
 ·rcases hb with hb|hb|hb|hb
  ·exact .inl hb
  ·cases hb
  ·cases hb
  ·exact hb.elim
 ·rcases hb with hb|hb|hb|hb
  ·rw [hb];exact h2.lt
  ·cases hb
  ·cases hb
  ·exact hb.elim
 ·have hi:i<2:=hi
  obtain ⟨e1,e2⟩:=h3 i hi
  exact ⟨e1.trans e2.symm,by show Bd 0 (M i).m;rw [e1];exact Bd.new sg cp⟩
structure FiI (w:World) (gw k:Nat) (W:World):Prop where
 ex:∃ nm M nx X cm cx no po px ov wv,WdK w gw (fun _=>False) nm M nx X cm cx no po no px ov wv W∧(∀ i,i<2→(M (cm i)).m=(X (cx i)).m∧Bd 150 (M (cm i)).m)∧(∀ i,i<no→(M (po i)).m=(X (px i)).m∧Bd 150 (M (po i)).m)∧no≤10+k
theorem StepQ.fi {w W:World} {gw n:Nat} (h:StepQ w gw n W) (hn:n≤150):FiI w gw 0 W:=by
 obtain ⟨S,hJ,hq,hnp⟩:=h
 have ht:=hJ.two
 exact ⟨_,_,_,_,_,_,_,_,_,_,_,hJ.k,fun i hi=>⟨(hq i (by omega)).1,(hq i (by omega)).2.up hn⟩,fun i hi=>⟨(hq (i+2) (by omega)).1,(hq (i+2) (by omega)).2.up hn⟩,by omega⟩
end Go.Proofs.YtdjhoankkddomaaGreat
namespace Go.Proofs.YtdjhoankkddomaaGreat
open Go Go.RowKit Go.WideShapes Go.ChangeShapes Go.ChangeAt
section
variable {H:Type} {enc:TypeId × Value→H} {P:Program} {W:World} {base:Nat} {held:Bool}
theorem five_of {α:Type} {xs:List α} (h:xs.length=5):∃ a b c d e,xs=[a,b,c,d,e]:=by
 match xs,h with
 | [a,b,c,d,e],_=>exact ⟨a,b,c,d,e,rfl⟩
theorem wf_i64G {z:Int} (h:(Lit.int .i64 z).wf=true) : -9223372036854775808≤z∧z≤9223372036854775807:=by
 simpa [Lit.wf,IntKind.min,IntKind.max,IntKind.signed,IntKind.bits] using h
theorem open_pstepf {t eq_:TypeId} {f0 f1 f2 f3 f4:Field} {fuel:Nat} {cs:List Value} {x:DataW H × List MemPlace} (ht:P.underlying t=some (.struct #[f0,f1,f2,f3,f4])) (o0:f0.offset=0) (o1:f1.offset=1) (o2:f2.offset=2) (o3:f3.offset=3) (o4:f4.offset=4)
  (u0:P.underlying f0.type=some (.int .i64)) (u1:P.underlying f1.type=some (.int .i64)) (u2:P.underlying f2.type=some (.int .i64)) (u3:P.underlying f3.type=some (.int .i64)) (u4:P.underlying f4.type=some (.slice eq_)) (ueq:P.underlying eq_=some (.int .u8))
  (c0:P.cellsOf f0.type=1) (c1:P.cellsOf f1.type=1) (c2:P.cellsOf f2.type=1) (c3:P.cellsOf f3.type=1) (c4:P.cellsOf f4.type=1) (ceq:P.cellsOf eq_=1) (hct:P.cellsOf t=5)
  (h:DataW.trod enc P W 0 (fun _=>true) held fuel t cs=some x) :
  ∃ s:PStep,(cs=s.cells.toList∧Sl W (·<W.heap.size) s.A s.n s.c s.l∧s.a≤9223372036854775807)∧s.n+1≤Rows.uptoBulk x.1:=by
 obtain ⟨xs,k,_,hx,hl,hlen,hf⟩:=DataW.trod_struct ht h
 obtain ⟨y0,y1,y2,y3,y4,rfl⟩:=five_of (show xs.length=5 from hlen)
 have g0:_=some y0:=hf 0 f0 rfl
 have g1:_=some y1:=hf 1 f1 rfl
 have g2:_=some y2:=hf 2 f2 rfl
 have g3:_=some y3:=hf 3 f3 rfl
 have g4:_=some y4:=hf 4 f4 rfl
 rw [o0,c0] at g0
 rw [o1,c1] at g1
 rw [o2,c2] at g2
 rw [o3,c3] at g3
 rw [o4,c4] at g4
 rw [hct] at hl
 obtain ⟨a0,e0,_⟩:=open_intf u0 g0
 obtain ⟨a1,e1,_⟩:=open_intf u1 g1
 obtain ⟨a2,e2,w2⟩:=open_intf u2 g2
 obtain ⟨a3,e3,_⟩:=open_intf u3 g3
 obtain ⟨A4,n4,c4',l4,e4,s4,b4⟩:=open_u8s u4 ueq ceq g4
 refine ⟨⟨a0,a1,a2,a3,A4,n4,c4',l4⟩,⟨?_,s4,(wf_i64G w2).2⟩,?_⟩
 ·match cs,hl with
  | [x0,x1,x2,x3,x4],_ =>
   simp only [List.drop_succ_cons,List.drop_zero,List.take_succ_cons,List.take_zero,List.cons.injEq,and_true] at e0 e1 e2 e3 e4
   rw [e0,e1,e2,e3,e4]
   rfl
 ·rw [hx]
  simp only [List.map_cons,List.map_nil,Rows.uptoBulk,Rows.uptoBulkAll]
  omega
theorem flat5_at:∀ (L:List (List Value)) (_:∀ cs ∈ L,cs.length=5) (k j:Nat) (cs:List Value) (v:Value) (_:L[k]?=some cs) (_:cs[j]?=some v),L.flatten[k*5+j]?=some v
 | [],_,k,_,_,_,h,_=>by simp at h
 | c::L,hl,0,j,cs,v,h,hv=>by
  simp only [List.getElem?_cons_zero,Option.some.injEq] at h
  subst h
  rw [List.flatten_cons,Nat.zero_mul,Nat.zero_add,List.getElem?_append_left (by rcases List.getElem?_eq_some_iff.1 hv with ⟨h,_⟩;exact h)]
  exact hv
 | c::L,hl,k+1,j,cs,v,h,hv=>by
  have hc:=hl c (by simp)
  rw [List.flatten_cons,List.getElem?_append_right (by omega),hc,show (k+1)*5+j - 5=k*5+j by omega]
  exact flat5_at L (fun x hx=>hl x (by simp [hx])) k j cs v (by simpa using h) hv
theorem sum_mem_leG {α:Type} (f:α→Nat):∀ (l:List α) (x:α),x ∈ l→f x≤(l.map f).sum
 | [],_,h=>by cases h
 | y::l,x,h=>by
  rw [List.map_cons,List.sum_cons]
  rcases List.mem_cons.1 h with rfl|h
  ·omega
  ·have:=sum_mem_leG f l x h
   omega
theorem open_psteps {t e eq_:TypeId} {f0 f1 f2 f3 f4:Field} {fuel:Nat} {cs:List Value} {x:DataW H × List MemPlace} (hte:P.underlying t=some (.slice e)) (ht:P.underlying e=some (.struct #[f0,f1,f2,f3,f4])) (o0:f0.offset=0) (o1:f1.offset=1) (o2:f2.offset=2) (o3:f3.offset=3) (o4:f4.offset=4)
  (u0:P.underlying f0.type=some (.int .i64)) (u1:P.underlying f1.type=some (.int .i64)) (u2:P.underlying f2.type=some (.int .i64)) (u3:P.underlying f3.type=some (.int .i64)) (u4:P.underlying f4.type=some (.slice eq_)) (ueq:P.underlying eq_=some (.int .u8))
  (c0:P.cellsOf f0.type=1) (c1:P.cellsOf f1.type=1) (c2:P.cellsOf f2.type=1) (c3:P.cellsOf f3.type=1) (c4:P.cellsOf f4.type=1) (ceq:P.cellsOf eq_=1) (hct:P.cellsOf e=5)
  (h:DataW.trod enc P W 0 (fun _=>true) held fuel t cs=some x) (hb:Rows.uptoBulk x.1≤2097152) :
  ∃ (A:Option Addr) (n c:Nat) (ss:List PStep),cs=[Value.slice A n c]∧PScr W A n c ss:=by
 obtain ⟨A,n,c,L,xs,h1,h2,h3,h4,h5,h6,h7⟩:=open_slR (fun (s:PStep) cs=>cs=s.cells.toList∧Sl W (·<W.heap.size) s.A s.n s.c s.l∧s.a≤9223372036854775807) (fun s=>s.n) hte hct (by decide) (fun fuel cs y hy _=>open_pstepf ht o0 o1 o2 o3 o4 u0 u1 u2 u3 u4 ueq c0 c1 c2 c3 c4 ceq hct hy) h
 refine ⟨A,n,c,xs,h1,⟨fun i hi=>?_,fun s hs=>?_,h4,h2.room,h2.max⟩⟩
 ·have hiL:i<L.length:=by omega
  obtain ⟨g1,_,_⟩:=h6 i xs[i] L[i] (List.getElem?_eq_getElem hi) (List.getElem?_eq_getElem hiL)
  have hne:L.flatten≠[]:=fun e=>by
   have:=h2.len
   rw [e] at this
   simp at this
   omega
  obtain ⟨b,o,e1,e2,_,e4⟩:=h2.bs hne
  refine ⟨b,o,e1,e2,fun j v hv=>?_⟩
  rw [Nat.add_assoc]
  refine e4 _ v (flat5_at L h5 i j (xs[i]).cells.toList v (by rw [List.getElem?_eq_getElem hiL,g1]) ?_)
  rw [Array.getElem?_toList]
  exact hv
 ·obtain ⟨i,hi,rfl⟩:=List.getElem_of_mem hs
  have hiL:i<L.length:=by omega
  obtain ⟨_,g2,g3⟩:=h6 i xs[i] L[i] (List.getElem?_eq_getElem hi) (List.getElem?_eq_getElem hiL)
  have hsz:=sum_mem_leG (fun s:PStep=>s.n) xs xs[i] hs
  exact ⟨g2,by have:=g2.len;omega,g3⟩
end
end Go.Proofs.YtdjhoankkddomaaGreat
