import Derived.Test.YtdjhoankkddomaaGreatQg239
import Derived.Test.YtdjhoankkddomaaGreatQg244
import Derived.Test.YtdjhoankkddomaaGreatQg246
namespace Go.Proofs.YtdjhoankkddomaaGreat
open Go Go.RowKit Go.Shelf
attribute [local go_sem] Oper.semAt_some
theorem fd_load7 {W:World} {g:Nat} {fc:Array Value} (h:Blk W g 72 fc) (hs:fc.size=38):(Instr.loadAt 72 (.pointer (some ⟨g,0,none⟩))).run Tryz.prog W = .ok (.agg fc) W:=run_load_blk (aggFd _) (sizeFd _) _ _ hs h
theorem sizeSt:∀ w:World,(sizeOf 43).run Tryz.prog w = .ok 5 w:=fun _=>by kernel_rfl
theorem aggSt:∀ w:World,(isAgg 43).run Tryz.prog w = .ok true w:=fun _=>by kernel_rfl
theorem st_load {W:World} {g:Nat} {s:PStep} (h:Blk W g 43 s.cells):(Instr.loadAt 43 (.pointer (some ⟨g,0,none⟩))).run Tryz.prog W = .ok (.agg s.cells) W:=run_load_blk (aggSt _) (sizeSt _) _ _ rfl h
theorem WdJ.sl {w W:World} {gw:Nat} {V0:Nat→Prop} {S:WS} (h:WdJ w gw V0 S W) {A:Option Addr} {n c:Nat} {l:List UInt8} (hl:Sl w (·<w.heap.size) A n c l):Sl W (fun b=>¬ SoU (WV gw S.ov S.wv V0) S.nm S.M S.nx S.X b∧b<W.heap.size) A n c l :=
 (hl.step h.bel).weak fun b hb hx=>⟨fun e=>by have:=h.uge b e;omega,hb⟩
set_option maxHeartbeats 16000000 in
set_option maxRecDepth 100000 in
theorem step6_any {w W:World} {gw n:Nat} {S:WS} (h:WdJ w gw (fun _=>False) S W) (hq:EqB n S) (hnp:S.np≤12) (hn:n≤1000) (so sa sb:Int) (sA:Option Addr) (sn sc:Nat) (hsa:sa≤9223372036854775807) :
  Calls Tryz.prog 7 #[mpt gw,.agg #[.int .i64 6,.int .i64 so,.int .i64 sa,.int .i64 sb,.slice sA sn sc]] W fun e w'=>e = .returned (.bool true)∧StepQ w gw (n+1) w':=by
 obtain ⟨w1,hw1⟩:∃ x,W.alloc (.cells #[.int .i64 6,.int .i64 so,.int .i64 sa,.int .i64 sb,.slice sA sn sc] 43)=x:=⟨_,rfl⟩
 have B1:Below W.heap.size W w1:=by rw [← hw1];exact (Below.refl _ _).alloc (Nat.le_refl _) _
 have k1:Blk w1 W.heap.size 43 #[.int .i64 6,.int .i64 so,.int .i64 sa,.int .i64 sb,.slice sA sn sc]:=by rw [← hw1];exact Blk.new _ _ _
 have c1:w1.cell? ⟨W.heap.size,1,none⟩=some (.int .i64 so):=by rw [k1.cell];rfl
 obtain ⟨k,hkx,hk2⟩:=rem_two so
 have hkn:k<S.np:=Nat.lt_of_lt_of_le hk2 h.two
 have dk1:decide ((k:Int)<2)=true:=by simp;omega
 have dk2:(k:Int)<2:=by omega
 have hS:Below W.heap.size W w1.drew:=B1.drew
 have cM:∀ s:InC (fun W'=>Below W.heap.size W W'),s.W.cell? ⟨gw,k,none⟩=some (mpt (S.gm k)):=fun s=>(h.step s.ok).cm k hk2
 have cX:∀ s:InC (fun W'=>Below W.heap.size W W'),s.W.cell? ⟨gw,2+k,none⟩=some (mpt (S.gx k)):=fun s=>(h.step s.ok).cx k hk2
 have ks:Blk w1.drew W.heap.size 43 #[.int .i64 6,.int .i64 so,.int .i64 sa,.int .i64 sb,.slice sA sn sc]:=k1.step (Below.refl w1.heap.size w1).drew
 have Hw1:=Lib.hid hw1
 have Hkx:=Lib.hid hkx
 have Hh:=Lib.hid h
 clear hw1 h k1 B1 hkx
 go_enter Tryz.func7,Tryz.ntmps7
 go_upto_region 2 with (rw [Hw1.out])
 rw [Hkx.out]
 refine wp_region_mix (fun W'=>Below W.heap.size W W') [(0,true),(1,true),(2,true),(3,true),(4,true),(5,true),(6,true),(7,true),(8,true),(9,true),(10,true),(11,true),(12,true),(13,true)] (by kernel_rfl) (by kernel_rfl) hS fun _=>?_
 simp only [List.map_cons,List.map_nil,Array.getD_eq_getD_getElem?,List.getElem?_toArray,List.getElem?_cons_succ,List.getElem?_cons_zero,Option.getD_some]
 generalize w1.drew=W0 at hS ks ⊢
 iterate 14 (refine wpMix_s (fun K hK=>?_);go_simp;refine hK _ ?_;clear hK K)
 refine wpMix_nil ?_
 intro _
 have h:=Hh.out.step hS
 have cs0:W0.cell? ⟨W.heap.size,0,none⟩=some (.int .i64 6):=by rw [ks.cell];rfl
 have hgs:∀ b,SoU (WV gw S.ov S.wv fun _=>False) S.nm S.M S.nx S.X b→b<W.heap.size:=Hh.out.soup.ult
 clear Hh cM cX Hw1 Hkx c1
 obtain ⟨hmx,hbd⟩:=hq k hkn
 have hMd:=h.md k hkn
 have hXd:=h.xd k hkn
 obtain ⟨mo,hmo⟩:∃ x,(S.M (S.pr k).1).m=x:=⟨_,rfl⟩
 have hxm:(S.X (S.pr k).2).m=mo:=hmx.symm.trans hmo
 rw [hxm] at hXd
 rw [hmo] at hMd hbd
 have HXm:=Lib.hid hxm
 have HInj:=Lib.hid h.inj
 have HMo:=Lib.hid hmo
 clear hmo hmx hxm
 have he:=hbd.eq
 have ha:=asks_any _ _ _ _ _ W0 hMd _ _ _ hXd sa sb hbd.e (by omega)
 have ht:=fun V (hb:Below W0.heap.size W0 V)=>told_any _ _ _ _ _ V (hMd.step hb) _ _ _ (hXd.step hb) sa (by omega) hsa
 have es2:∀ V,Below W0.heap.size W0 V→V.cell? ⟨W.heap.size,2,none⟩=some (.int .i64 sa):=fun V hb=>by rw [(ks.step hb).cell];rfl
 have es20:=es2 W0 (Below.refl _ _)
 have es3:W0.cell? ⟨W.heap.size,3,none⟩=some (.int .i64 sb):=by rw [ks.cell];rfl
 have Ht:=Lib.hid ht
 have Es2:=Lib.hid es2
 clear hMd hXd ht es2
 go_wp2_with fail
 refine ha.mono ?_
 rintro e w3 ⟨rfl,b3⟩
 have es2:=Es2.out w3 b3
 have ht:=Ht.out w3 b3
 clear ha Ht Es2 es20
 go_wp2_with fail
 refine ht.mono ?_
 rintro e w4 ⟨rfl,b4⟩
 clear ht
 go_wp2_with fail
 go_ret
 exact ⟨rfl,S,(h.step b3).step b4,hq.up (Nat.le_succ _),hnp⟩
set_option maxHeartbeats 16000000 in
set_option maxRecDepth 100000 in
theorem step7_any {w W:World} {gw n:Nat} {S:WS} (h:WdJ w gw (fun _=>False) S W) (hq:EqB n S) (hnp:S.np≤12) (hn:n≤1000) (so sa sb:Int) (sA:Option Addr) (sn sc:Nat) (sl:List UInt8) (hsl:Sl w (·<w.heap.size) sA sn sc sl) :
  Calls Tryz.prog 7 #[mpt gw,.agg #[.int .i64 7,.int .i64 so,.int .i64 sa,.int .i64 sb,.slice sA sn sc]] W fun e w'=>e = .returned (.bool true)∧StepQ w gw (n+1) w':=by
 obtain ⟨w1,hw1⟩:∃ x,W.alloc (.cells #[.int .i64 7,.int .i64 so,.int .i64 sa,.int .i64 sb,.slice sA sn sc] 43)=x:=⟨_,rfl⟩
 have B1:Below W.heap.size W w1:=by rw [← hw1];exact (Below.refl _ _).alloc (Nat.le_refl _) _
 have k1:Blk w1 W.heap.size 43 #[.int .i64 7,.int .i64 so,.int .i64 sa,.int .i64 sb,.slice sA sn sc]:=by rw [← hw1];exact Blk.new _ _ _
 have c1:w1.cell? ⟨W.heap.size,1,none⟩=some (.int .i64 so):=by rw [k1.cell];rfl
 obtain ⟨k,hkx,hk2⟩:=rem_two so
 have hkn:k<S.np:=Nat.lt_of_lt_of_le hk2 h.two
 have dk1:decide ((k:Int)<2)=true:=by simp;omega
 have dk2:(k:Int)<2:=by omega
 have hS:Below W.heap.size W w1.drew:=B1.drew
 have cM:∀ s:InC (fun W'=>Below W.heap.size W W'),s.W.cell? ⟨gw,k,none⟩=some (mpt (S.gm k)):=fun s=>(h.step s.ok).cm k hk2
 have cX:∀ s:InC (fun W'=>Below W.heap.size W W'),s.W.cell? ⟨gw,2+k,none⟩=some (mpt (S.gx k)):=fun s=>(h.step s.ok).cx k hk2
 have ks:Blk w1.drew W.heap.size 43 #[.int .i64 7,.int .i64 so,.int .i64 sa,.int .i64 sb,.slice sA sn sc]:=k1.step (Below.refl w1.heap.size w1).drew
 have Hw1:=Lib.hid hw1
 have Hkx:=Lib.hid hkx
 have Hh:=Lib.hid h
 clear hw1 h k1 B1 hkx
 go_enter Tryz.func7,Tryz.ntmps7
 go_upto_region 2 with (rw [Hw1.out])
 rw [Hkx.out]
 refine wp_region_mix (fun W'=>Below W.heap.size W W') [(0,true),(1,true),(2,true),(3,true),(4,true),(5,true),(6,true),(7,true),(8,true),(9,true),(10,true),(11,true),(12,true),(13,true)] (by kernel_rfl) (by kernel_rfl) hS fun _=>?_
 simp only [List.map_cons,List.map_nil,Array.getD_eq_getD_getElem?,List.getElem?_toArray,List.getElem?_cons_succ,List.getElem?_cons_zero,Option.getD_some]
 generalize w1.drew=W0 at hS ks ⊢
 iterate 14 (refine wpMix_s (fun K hK=>?_);go_simp;refine hK _ ?_;clear hK K)
 refine wpMix_nil ?_
 intro _
 have h:=Hh.out.step hS
 have cs0:W0.cell? ⟨W.heap.size,0,none⟩=some (.int .i64 7):=by rw [ks.cell];rfl
 have hgs:∀ b,SoU (WV gw S.ov S.wv fun _=>False) S.nm S.M S.nx S.X b→b<W.heap.size:=Hh.out.soup.ult
 clear Hh cM cX Hw1 Hkx c1
 obtain ⟨hmx,hbd⟩:=hq k hkn
 have hMd:=h.md k hkn
 have hXd:=h.xd k hkn
 obtain ⟨mo,hmo⟩:∃ x,(S.M (S.pr k).1).m=x:=⟨_,rfl⟩
 have hxm:(S.X (S.pr k).2).m=mo:=hmx.symm.trans hmo
 rw [hxm] at hXd
 rw [hmo] at hMd hbd
 have HXm:=Lib.hid hxm
 have HInj:=Lib.hid h.inj
 have HMo:=Lib.hid hmo
 clear hmo hmx hxm
 have he:=hbd.eb
 have hsl0:=h.sl hsl
 have hgx:SoU (WV gw S.ov S.wv fun _=>False) S.nm S.M S.nx S.X (S.gx k) := .inr (.inr ⟨_,(h.inb k hkn).2,rfl⟩)
 have hf:=found_any hXd ⟨7,so,sa,sb,sA,sn,sc,sl⟩ (hsl0.weak fun b _ hx=>⟨fun e=>hx.1 (e.elim (fun e=>e ▸ hgx) fun e=>e.1),hx.2⟩) (by omega)
 have hfl:=fdE_len mo ⟨7,so,sa,sb,sA,sn,sc,sl⟩
 have hrl:(fdR mo sb).length=32:=by
  unfold fdR
  split
  ·exact hXd.ptL
  ·exact hXd.lastL
 have ca:=fun V (hb:Below W0.heap.size W0 V) fc E nn cc fh fs fr (hF:Fnd fc E nn cc fh fs fr) fe (hE:Es V (fun _=>True) E nn cc fe)=>mallows_any _ _ _ _ _ V (hMd.step hb) fc E nn cc fe fh fs fr hF hE (by omega)
 have cb:=fun V (hb:Below W0.heap.size W0 V) fc E nn cc fh fs fr (hF:Fnd fc E nn cc fh fs fr) fe (hE:Es V (fun _=>True) E nn cc fe)=>xallows_any _ _ _ _ V (hXd.step hb) fc E nn cc fe fh fs fr hF hE (by omega)
 have hld:=st_load (s:=⟨7,so,sa,sb,sA,sn,sc,sl⟩) ks
 obtain ⟨fe,hfe⟩:∃ x,fdE mo ⟨7,so,sa,sb,sA,sn,sc,sl⟩=x:=⟨_,rfl⟩
 obtain ⟨fh,hfh⟩:∃ x,fdH mo sb=x:=⟨_,rfl⟩
 obtain ⟨fs,hfs⟩:∃ x,fdS mo sb=x:=⟨_,rfl⟩
 obtain ⟨fr,hfr⟩:∃ x,fdR mo sb=x:=⟨_,rfl⟩
 simp only at hf
 rw [hfe,hfh,hfs,hfr] at hf
 rw [hfr] at hrl
 have CA:=Lib.hid ca
 have CB:=Lib.hid cb
 have Hf:=Lib.hid hf
 clear hfe hfh hfs hfr hMd hXd hf ca cb hsl hsl0 hgx hfl
 go_wp2_with (first
  | ((with_reducible show wpList _ _ _ (⟨some 180,.load _ _,_,_,_,_⟩::_) _ _);refine wpList_load rfl 43 (.tmp 3) rfl W.heap.size 0 rfl _ hld ?_;simp only [Act.put,List.setIfInBounds_toArray,List.set_cons_succ,List.set_cons_zero]))
 refine Hf.out.mono ?_
 rintro e w3 ⟨v,rfl,hes,b3⟩
 obtain ⟨Av,cv,rfl,hEs⟩:=hes.es
 rw [fcV_slice]
 have hF:=Fnd.ofP Av fe.length cv fh fs fr hrl
 have ho1:=one_fcP Av fe.length cv fh fs fr
 have hsz:=fcP_size Av fe.length cv fh fs fr hrl
 obtain ⟨fc,hfc⟩:∃ x,fcP Av fe.length cv fh fs fr=x:=⟨_,rfl⟩
 rw [hfc] at hF ho1 hsz ⊢
 clear hes Hf hfc hld
 go_wp2_with (first
  | ((with_reducible show wpList _ _ _ (⟨some 21,.alloc _,_,_,_,_⟩::_) _ _);refine wpList_varA (T:=72) (zs:=zf38) (cs:=fc) 38 (.tmp 21) (.tmp 181) rfl rfl (by kernel_rfl) sizeFd rfl rfl rfl hsz rfl ho1 ?_;intro w4 k21 b4;simp only [Act.put,List.setIfInBounds_toArray,List.set_cons_succ,List.set_cons_zero]))
 have B4:=b3.trans (b4.mono b3.size)
 have hE4:=hEs.step b4
 have hS:Below W0.heap.size W0 w4.drew:=B4.drew
 have k21d:Blk w4.drew w3.heap.size 72 fc:=k21.step (Below.refl w4.heap.size w4).drew
 have hg3:w3.heap.size<w4.drew.heap.size:=k21d.lt
 have hT:Below w4.heap.size w4 w4.drew:=(Below.refl _ _).drew
 have hld:∀ s:InC (fun W'=>Below w4.heap.size w4 W'),(Instr.loadAt 72 (.pointer (some ⟨w3.heap.size,0,none⟩))).run Tryz.prog s.W = .ok (.agg fc) s.W:=fun s=>fd_load7 (k21.step s.ok) hsz
 have HB4:=Lib.hid B4
 have HE4:=Lib.hid hE4
 have HF:=Lib.hid hF
 obtain ⟨al,hal⟩:∃ x,mo.allows fe fh fs fr=x:=⟨_,rfl⟩
 have Hal:=Lib.hid hal
 have Hal2:(al==al)=true:=by cases al <;> rfl
 clear B4 hE4 hS k21d hg3 hF ho1 hal b3 hEs b4 k21
 go_wp2_with fail
 refine wp_region_mix (fun W'=>Below w4.heap.size w4 W') [(0,true),(1,true),(3,true),(4,true),(2,false),(5,false),(6,true),(7,true)] (by kernel_rfl) (by kernel_rfl) hT fun _=>?_
 simp only [List.map_cons,List.map_nil,Array.getD_eq_getD_getElem?,List.getElem?_toArray,List.getElem?_cons_succ,List.getElem?_cons_zero,Option.getD_some]
 generalize w4.drew=Wd at hT ⊢
 (refine wpMix_s (fun K hK=>?_);go_simp;refine hK _ ?_;clear hK K)
 refine wpMix_load (by kernel_rfl) 72 (.tmp 21) rfl (w3.heap.size) (0) rfl fc (hld) ?_
 simp only [Act.put,List.setIfInBounds_toArray,List.set_cons_succ,List.set_cons_zero]
 (refine wpMix_s (fun K hK=>?_);go_simp;refine hK _ ?_;clear hK K)
 refine wpMix_load (by kernel_rfl) 72 (.tmp 21) rfl (w3.heap.size) (0) rfl fc (hld) ?_
 simp only [Act.put,List.setIfInBounds_toArray,List.set_cons_succ,List.set_cons_zero]
 refine wpMix_c (fun K hK=>?_) hT
 go_simp
 refine (CA.out Wd (HB4.out.trans (hT.mono HB4.out.size)) fc Av fe.length cv fh fs fr HF.out fe (HE4.out.step hT)).mono ?_
 rintro e Wd_1 ⟨rfl,hb'⟩
 refine hK _ _ ?_
 clear hK K
 replace hT:=hT.trans (hb'.mono hT.size)
 refine ⟨hT,?_⟩
 rw [Hal.out]
 clear hb'
 refine wpMix_c (fun K hK=>?_) hT
 go_simp
 refine (CB.out Wd_1 (HB4.out.trans (hT.mono HB4.out.size)) fc Av fe.length cv fh fs fr HF.out fe (HE4.out.step hT)).mono ?_
 rintro e Wd_2 ⟨rfl,hb'⟩
 refine hK _ _ ?_
 clear hK K
 replace hT:=hT.trans (hb'.mono hT.size)
 refine ⟨hT,?_⟩
 rw [Hal.out]
 clear hb'
 iterate 2 (refine wpMix_s (fun K hK=>?_);go_simp;refine hK _ ?_;clear hK K)
 refine wpMix_nil ?_
 intro _
 go_wp2_with fail
 go_ret
 exact ⟨rfl,S,h.step (HB4.out.trans (hT.mono HB4.out.size)),hq.up (Nat.le_succ _),hnp⟩
end Go.Proofs.YtdjhoankkddomaaGreat
namespace Go.Proofs.YtdjhoankkddomaaGreat
open Go Go.RowKit Go.Shelf
attribute [local go_sem] Oper.semAt_some
theorem sl_lit1 (W:World) (x:UInt8):Sl (W.alloc (.cells #[B x] 5)) (fun _=>True) (some ⟨W.heap.size,0,none⟩) 1 1 [x]:=sl_lit W [x] 1 rfl (by decide)
set_option maxHeartbeats 16000000 in
set_option maxRecDepth 100000 in
theorem step1_any {w W:World} {gw n:Nat} {S:WS} (h:WdJ w gw (fun _=>False) S W) (hq:EqB n S) (hnp:S.np≤12) (hn:n≤1000) (so sa sb:Int) (sA:Option Addr) (sn sc:Nat) (sl:List UInt8) (hsl:Sl w (·<w.heap.size) sA sn sc sl) (hsb:sl.length≤1073741824) :
  Calls Tryz.prog 7 #[mpt gw,.agg #[.int .i64 1,.int .i64 so,.int .i64 sa,.int .i64 sb,.slice sA sn sc]] W fun e w'=>e = .returned (.bool true)∧StepQ w gw (n+1) w':=by
 have hsn:=hsl.len
 subst hsn
 have hsb0:=hsb
 clear hsb
 obtain ⟨w1,hw1⟩:∃ x,W.alloc (.cells #[.int .i64 1,.int .i64 so,.int .i64 sa,.int .i64 sb,.slice sA sl.length sc] 43)=x:=⟨_,rfl⟩
 have B1:Below W.heap.size W w1:=by rw [← hw1];exact (Below.refl _ _).alloc (Nat.le_refl _) _
 have k1:Blk w1 W.heap.size 43 #[.int .i64 1,.int .i64 so,.int .i64 sa,.int .i64 sb,.slice sA sl.length sc]:=by rw [← hw1];exact Blk.new _ _ _
 have c1:w1.cell? ⟨W.heap.size,1,none⟩=some (.int .i64 so):=by rw [k1.cell];rfl
 obtain ⟨k,hkx,hk2⟩:=rem_two so
 have hkn:k<S.np:=Nat.lt_of_lt_of_le hk2 h.two
 have dk1:decide ((k:Int)<2)=true:=by simp;omega
 have dk2:(k:Int)<2:=by omega
 have hS:Below W.heap.size W w1.drew:=B1.drew
 have cM:∀ s:InC (fun W'=>Below W.heap.size W W'),s.W.cell? ⟨gw,k,none⟩=some (mpt (S.gm k)):=fun s=>(h.step s.ok).cm k hk2
 have cX:∀ s:InC (fun W'=>Below W.heap.size W W'),s.W.cell? ⟨gw,2+k,none⟩=some (mpt (S.gx k)):=fun s=>(h.step s.ok).cx k hk2
 have ks:Blk w1.drew W.heap.size 43 #[.int .i64 1,.int .i64 so,.int .i64 sa,.int .i64 sb,.slice sA sl.length sc]:=k1.step (Below.refl w1.heap.size w1).drew
 have Hw1:=Lib.hid hw1
 have Hkx:=Lib.hid hkx
 have Hh:=Lib.hid h
 clear hw1 h k1 B1 hkx
 go_enter Tryz.func7,Tryz.ntmps7
 go_upto_region 2 with (rw [Hw1.out])
 rw [Hkx.out]
 refine wp_region_mix (fun W'=>Below W.heap.size W W') [(0,true),(1,true),(2,true),(3,true),(4,true),(5,true),(6,true),(7,true),(8,true),(9,true),(10,true),(11,true),(12,true),(13,true)] (by kernel_rfl) (by kernel_rfl) hS fun _=>?_
 simp only [List.map_cons,List.map_nil,Array.getD_eq_getD_getElem?,List.getElem?_toArray,List.getElem?_cons_succ,List.getElem?_cons_zero,Option.getD_some]
 generalize w1.drew=W0 at hS ks ⊢
 iterate 14 (refine wpMix_s (fun K hK=>?_);go_simp;refine hK _ ?_;clear hK K)
 refine wpMix_nil ?_
 intro _
 have h:=Hh.out.step hS
 have cs0:W0.cell? ⟨W.heap.size,0,none⟩=some (.int .i64 1):=by rw [ks.cell];rfl
 have hgs:∀ b,SoU (WV gw S.ov S.wv fun _=>False) S.nm S.M S.nx S.X b→b<W.heap.size:=Hh.out.soup.ult
 clear Hh cM cX Hw1 Hkx c1
 obtain ⟨hmx,hbd⟩:=hq k hkn
 have hMd:=h.md k hkn
 have hXd:=h.xd k hkn
 obtain ⟨mo,hmo⟩:∃ x,(S.M (S.pr k).1).m=x:=⟨_,rfl⟩
 have hxm:(S.X (S.pr k).2).m=mo:=hmx.symm.trans hmo
 rw [hxm] at hXd
 rw [hmo] at hMd hbd
 have HXm:=Lib.hid hxm
 have HInj:=Lib.hid h.inj
 have HKS:=Lib.hid ks.lt
 have HMo:=Lib.hid hmo
 clear hmo hmx hxm
 have he:=hbd.eq
 have hsr:=hsl.room
 have hsm:=hsl.max
 unfold maxLen at hsm
 have hsl0:=h.sl hsl
 have E4:∀ s:InC (fun W'=>Below W0.heap.size W0 W'),s.W.cell? ⟨W.heap.size,4,none⟩=some (.slice sA sl.length sc):=fun s=>by rw [(ks.step s.ok).cell];rfl
 have Hsl:=Lib.hid hsl0
 clear hMd hXd hsl0
 go_upto_region 5 with fail
 refine wp_share_us (fun us a' W'=>∃ (gb cb:Nat),a'={ tmps:=#[.pointer (some ⟨gw,0,none⟩),us 1,us 2,.pointer (some ⟨W.heap.size,0,none⟩),us 4,.int .i64 (k:Int),.pointer (some ⟨S.gm k,0,none⟩),.pointer (some ⟨S.gx k,0,none⟩),.slice (some ⟨gb,0,none⟩) sl.length cb,us 9,us 10,us 11,us 12,us 13,us 14,us 15,us 16,us 17,us 18,us 19,us 20,us 21,us 22,us 23,us 24,us 25,us 26,us 27,us 28,us 29,us 30,us 31,us 32,us 33,us 34,us 35,us 36,us 37,us 38,us 39,us 40,us 41,us 42,us 43,us 44,us 45,us 46,us 47,us 48,us 49,us 50,us 51,us 52,us 53,us 54,us 55,us 56,us 57,us 58,us 59,us 60,us 61,us 62,us 63,us 64,us 65,us 66,us 67,us 68,us 69,us 70,us 71,us 72,us 73,us 74,us 75,us 76,us 77,us 78,us 79,us 80,us 81,us 82,us 83,us 84,us 85,us 86,us 87,us 88,us 89,us 90,us 91,us 92,us 93,us 94,us 95,us 96,us 97,us 98,us 99,us 100,us 101,us 102,us 103,us 104,us 105,us 106,us 107,us 108,us 109,us 110,us 111,us 112,us 113,us 114,us 115,us 116,us 117,us 118,us 119,us 120,us 121,us 122,us 123,us 124,us 125,us 126,us 127,us 128,us 129,us 130,us 131,us 132,us 133,us 134,us 135,us 136,us 137,us 138,us 139,us 140,us 141,us 142,us 143,us 144,us 145,us 146,us 147,us 148,us 149,us 150,us 151,us 152,us 153,us 154,us 155,us 156,us 157,us 158,us 159,us 160,us 161,us 162,us 163,us 164,us 165,us 166,us 167,us 168,us 169,us 170,us 171,us 172,us 173,us 174,us 175,us 176,us 177,us 178,us 179,us 180,us 181,us 182,us 183,us 184,us 185,us 186,us 187,us 188,us 189,us 190,us 191,us 192,us 193,us 194,us 195,us 196,us 197,us 198,us 199,us 200,us 201,us 202,us 203,us 204,us 205,us 206,us 207,us 208,us 209,us 210,us 211,us 212,us 213,us 214,us 215,us 216,us 217,us 218,us 219,us 220,us 221,us 222,us 223,us 224,us 225,us 226,us 227,us 228,us 229,us 230,us 231,us 232,us 233,us 234,us 235,us 236,us 237,us 238,us 239,us 240,us 241,us 242,us 243,us 244,us 245,us 246,us 247,us 248,us 249,us 250,us 251,us 252,us 253,us 254,us 255,us 256,us 257,us 258,us 259,us 260,us 261,us 262,us 263,us 264,us 265,us 266,us 267,us 268,us 269,us 270,us 271,us 272,us 273,us 274,us 275,us 276,us 277,us 278,us 279,us 280,us 281,us 282,us 283,us 284,us 285,us 286,us 287,us 288,us 289],defers:=[] }∧Below W0.heap.size W0 W'∧W'.ownsRow W0.heap.size 5 1 (.slice (some ⟨gb,0,none⟩) (sl.length+1) cb) (sl.length+1) ((sl++[165]).map B)) ?_ ?_
 ·have hS5:Below (W0.heap.size) W0 W0.drew:=(Below.refl _ _).drew
  refine wp_region_begin (fun W=>Below (W0.heap.size) W0 W) (by kernel_rfl) hS5 fun _=>?_
  generalize W0.drew=Wf at hS5  ⊢
  refine wpAnyH_pre (f:=5) (by kernel_rfl) #[true,true,false,false,false,true,true,true,false,false] [(0,true),(1,true),(5,true),(6,true),(7,true)] _ _ _ (by kernel_rfl) hS5 ?_
  simp only [List.map_cons,List.map_nil,Array.getD_eq_getD_getElem?,List.getElem?_toArray,List.getElem?_cons_succ,List.getElem?_cons_zero,Option.getD_some]
  iterate 5 (refine wpMix_s (fun K hK=>?_);go_simp;refine hK _ ?_;clear hK K)
  refine wpMix_nil ?_
  intro _
  refine wpAnyH_fork (f:=4) (i:=2) (j:=3) (by kernel_rfl) hS5 ?_ ?_
  ·simp only [Array.getD_eq_getD_getElem?,List.getElem?_toArray,List.getElem?_cons_succ,List.getElem?_cons_zero,Option.getD_some]
   obtain ⟨v1,Wfa,hr1,hf1⟩:=cl_by (Hsl.out.step hS5) (by omega)
   have ba:=hf1.2
   have hf1:=hf1.1
   have hbs:=hS5.size
   refine wpMix_run (by kernel_rfl) v1 Wfa (run_append_op (.const (.slice none 0 0)) (.tmp 50) 41 rfl _ _ rfl rfl hr1) (hS5.trans (ba.mono hbs)) ?_
   simp only [Act.put,List.setIfInBounds_toArray,List.set_cons_succ,List.set_cons_zero]
   replace hS5:=hS5.trans (ba.mono hbs)
   replace hf1:=owns_le hf1 hbs
   try (replace lit:=lit.step ba)
   clear hbs ba
   refine wpMix_nil ?_
   intro _
   show wpAnyH _ _ _ _ _ _ #[true,true,true,false,false,true,true,true,false,false] _ _
   refine wpAnyH_pre (f:=0) (by kernel_rfl) #[true,true,true,true,true,true,true,true,true,true] [(3,false),(4,false),(8,true),(9,true)] _ _ _ (by kernel_rfl) hS5 ?_
   simp only [List.map_cons,List.map_nil,Array.getD_eq_getD_getElem?,List.getElem?_toArray,List.getElem?_cons_succ,List.getElem?_cons_zero,Option.getD_some]
   obtain ⟨Wfab,hwb⟩:∃ x,Wfa.alloc (.cells #[.int .u8 165] 5)=x:=⟨_,rfl⟩
   have bb:Below Wfa.heap.size Wfa Wfab:=by rw [← hwb];exact (Below.refl _ _).alloc (Nat.le_refl _) _
   have lit:Sl Wfab (fun _=>True) (some ⟨Wfa.heap.size,0,none⟩) 1 1 [165]:=by rw [← hwb];exact sl_lit1 Wfa 165
   have hbs:=hS5.size
   refine wpMix_run (by kernel_rfl) (.slice (some ⟨Wfa.heap.size,0,none⟩) 1 1) Wfab (by rw [← hwb];kernel_rfl) (hS5.trans (bb.mono hbs)) ?_
   simp only [Act.put,List.setIfInBounds_toArray,List.set_cons_succ,List.set_cons_zero]
   replace hS5:=hS5.trans (bb.mono hbs)
   try (replace hf1:=owns_step hf1 bb)
   clear hbs bb hwb
   obtain ⟨v2,Wfabc,hr2,ho2,hg2⟩:=append_sl (xs:=sl) hf1 lit (by omega) hS5.size
   have hbs:=hS5.size
   have bc:Below W0.heap.size Wfab Wfabc:=grown_to_below hg2 (fun b e=>(hf1.lt b e).1) hbs
   refine wpMix_run (by kernel_rfl) v2 Wfabc (run_append_op (.tmp 51) (.tmp 52) 41 rfl _ _ rfl rfl hr2) (hS5.trans bc) ?_
   simp only [Act.put,List.setIfInBounds_toArray,List.set_cons_succ,List.set_cons_zero]
   replace hS5:=hS5.trans bc
   rw [List.length_append] at ho2
   obtain ⟨gb,cb,rfl,-⟩:=owns_some7 ho2 (by simp)
   have hcb:sl.length≤cb:=by
    obtain ⟨A9,c9,e9,hs9⟩:=owns_slv ho2
    injection e9 with e91 e92 e93
    subst e93
    have:=hs9.room
    simp only [List.length_cons,List.length_nil] at this
    omega
   clear hbs bc
   refine wpMix_v (by kernel_rfl) (.slice (some ⟨gb,0,none⟩) sl.length cb) (fun s=>run_slice_hi8 (.tmp 53) (.tmp 56) rfl (some ⟨gb,0,none⟩) _ cb sl.length rfl rfl hcb s.W) ?_
   simp only [Act.put,List.setIfInBounds_toArray,List.set_cons_succ,List.set_cons_zero]
   (refine wpMix_s (fun K hK=>?_);go_simp;refine hK _ ?_;clear hK K)
   refine wpMix_nil ?_
   intro _
   refine wpAnyH_end (by kernel_rfl) ?_
   refine ⟨gb,cb,?_,hS5,ho2⟩
   kernel_rfl
  ·simp only [Array.getD_eq_getD_getElem?,List.getElem?_toArray,List.getElem?_cons_succ,List.getElem?_cons_zero,Option.getD_some]
   obtain ⟨Wfb,hwb⟩:∃ x,Wf.alloc (.cells #[.int .u8 165] 5)=x:=⟨_,rfl⟩
   have bb:Below Wf.heap.size Wf Wfb:=by rw [← hwb];exact (Below.refl _ _).alloc (Nat.le_refl _) _
   have lit:Sl Wfb (fun _=>True) (some ⟨Wf.heap.size,0,none⟩) 1 1 [165]:=by rw [← hwb];exact sl_lit1 Wf 165
   have hbs:=hS5.size
   refine wpMix_run (by kernel_rfl) (.slice (some ⟨Wf.heap.size,0,none⟩) 1 1) Wfb (by rw [← hwb];kernel_rfl) (hS5.trans (bb.mono hbs)) ?_
   simp only [Act.put,List.setIfInBounds_toArray,List.set_cons_succ,List.set_cons_zero]
   replace hS5:=hS5.trans (bb.mono hbs)
   try (replace hf1:=owns_step hf1 bb)
   clear hbs bb hwb
   refine wpMix_nil ?_
   intro _
   show wpAnyH _ _ _ _ _ _ #[true,true,false,true,false,true,true,true,false,false] _ _
   refine wpAnyH_pre (f:=0) (by kernel_rfl) #[true,true,true,true,true,true,true,true,true,true] [(2,false),(4,false),(8,true),(9,true)] _ _ _ (by kernel_rfl) hS5 ?_
   simp only [List.map_cons,List.map_nil,Array.getD_eq_getD_getElem?,List.getElem?_toArray,List.getElem?_cons_succ,List.getElem?_cons_zero,Option.getD_some]
   obtain ⟨v1,Wfba,hr1,hf1⟩:=cl_by (Hsl.out.step hS5) (by omega)
   have ba:=hf1.2
   have hf1:=hf1.1
   have hbs:=hS5.size
   refine wpMix_run (by kernel_rfl) v1 Wfba (run_append_op (.const (.slice none 0 0)) (.tmp 50) 41 rfl _ _ rfl rfl hr1) (hS5.trans (ba.mono hbs)) ?_
   simp only [Act.put,List.setIfInBounds_toArray,List.set_cons_succ,List.set_cons_zero]
   replace hS5:=hS5.trans (ba.mono hbs)
   replace hf1:=owns_le hf1 hbs
   try (replace lit:=lit.step ba)
   clear hbs ba
   obtain ⟨v2,Wfbac,hr2,ho2,hg2⟩:=append_sl (xs:=sl) hf1 lit (by omega) hS5.size
   have hbs:=hS5.size
   have bc:Below W0.heap.size Wfba Wfbac:=grown_to_below hg2 (fun b e=>(hf1.lt b e).1) hbs
   refine wpMix_run (by kernel_rfl) v2 Wfbac (run_append_op (.tmp 51) (.tmp 52) 41 rfl _ _ rfl rfl hr2) (hS5.trans bc) ?_
   simp only [Act.put,List.setIfInBounds_toArray,List.set_cons_succ,List.set_cons_zero]
   replace hS5:=hS5.trans bc
   rw [List.length_append] at ho2
   obtain ⟨gb,cb,rfl,-⟩:=owns_some7 ho2 (by simp)
   have hcb:sl.length≤cb:=by
    obtain ⟨A9,c9,e9,hs9⟩:=owns_slv ho2
    injection e9 with e91 e92 e93
    subst e93
    have:=hs9.room
    simp only [List.length_cons,List.length_nil] at this
    omega
   clear hbs bc
   refine wpMix_v (by kernel_rfl) (.slice (some ⟨gb,0,none⟩) sl.length cb) (fun s=>run_slice_hi8 (.tmp 53) (.tmp 56) rfl (some ⟨gb,0,none⟩) _ cb sl.length rfl rfl hcb s.W) ?_
   simp only [Act.put,List.setIfInBounds_toArray,List.set_cons_succ,List.set_cons_zero]
   (refine wpMix_s (fun K hK=>?_);go_simp;refine hK _ ?_;clear hK K)
   refine wpMix_nil ?_
   intro _
   refine wpAnyH_end (by kernel_rfl) ?_
   refine ⟨gb,cb,?_,hS5,ho2⟩
   kernel_rfl
 ·rintro us a' w2 ⟨gb,cb,rfl,b2,ho⟩
  have hgb:=ho.lt gb rfl
  obtain ⟨A9,c9,e9,hs9⟩:=owns_sl (l:=sl++[165]) (by rw [List.length_append];exact ho)
  have hgbe:(Value.slice (some ⟨gb,0,none⟩) (sl.length+1) cb).ownBlock=some gb:=rfl
  rw [List.length_append] at e9 hs9
  injection e9 with e91 e92 e93
  subst e91
  subst e93
  clear e92
  have hrb:=hs9.room
  have hmb:=hs9.max
  unfold maxLen at hmb
  simp only [List.length_cons,List.length_nil,Nat.zero_add] at hrb hs9
  have h:=h.kbV (V1:=fun b=>b=gb) (KB.of_below b2) (fun b e => .inr (by rw [e];exact hgb.1)) (fun b e=>by rw [e];exact hgb.2)
  have hMd:=h.md k hkn
  rw [HMo.out] at hMd
  have hXd0:Xd _ (S.gx k) _ (S.X (S.pr k).2).m w2:=h.xd k hkn
  rw [HXm.out] at hXd0
  have hsb:Sl w2 (fun _=>True) (some ⟨gb,0,none⟩) sl.length cb sl:=by
   have:=(hs9.take sl.length (by omega)).weak (Y:=fun _=>True) fun _ _ _=>trivial
   rw [List.take_left] at this
   exact this
  have hm:=msubmit_any _ _ _ _ _ w2 hMd (some ⟨gb,0,none⟩) sl.length cb sl hsb (by omega) (by omega)
  obtain ⟨er,her⟩:∃ x,(mo.submit sl).1=x:=⟨_,rfl⟩
  rw [her] at hm
  have Her:=Lib.hid her
  clear hMd hXd0 her hsb hs9
  have hsl2:=Hsl.out.step b2
  have ks2:=ks.step b2
  clear ks E4 Hsl
  go_wp2_with fail
  refine hm.mono ?_
  rintro e w3 ⟨rfl,hMS⟩
  have hn3:=h.soup.mv _ (h.inb k hkn).1
  have ho3:=hMS.kb.own ho fun b e e'=>hn3 b e' (.inr (.inr (.inr (Option.some.inj e).symm)))
  have hul:∀ b,SoU (WV gw S.ov S.wv fun b=>b=gb) S.nm S.M S.nx S.X b→b<W.heap.size∨b=gb:=fun b hb=>by
   rcases hb with (hb|hb|hb|hb)|hb
   ·exact .inl (hgs b (.inl (.inl hb)))
   ·exact .inl (hgs b (.inl (.inr (.inl hb))))
   ·exact .inl (hgs b (.inl (.inr (.inr (.inl hb)))))
   ·exact .inr hb
   ·exact .inl (hgs b (.inr hb))
  have hgW:W.heap.size<gb:=by
   have:=ks2.lt
   have:=hgb.1
   have:=hS.size
   have:=HKS.out
   omega
  have ks3:=hMS.kb.blk ks2 fun e=>by
   have:=hul _ (.inr (.inl ⟨_,(h.inb k hkn).1,e⟩))
   omega
  have hsl3:=hMS.kb.slb (X:=fun b=>¬ SoU (WV gw S.ov S.wv fun _=>False) S.nm S.M S.nx S.X b∧b<W0.heap.size) (hsl2.weak fun b hb hx=>hx) fun b hb hx e=>hx.1 (.inr (.inl ⟨_,(h.inb k hkn).1,e⟩))
  obtain ⟨R1,h3⟩:=h.callM k hkn hMS
  have hXd:Xd _ (S.gx k) _ (S.X (S.pr k).2).m w3:=h3.xd k hkn
  rw [HXm.out] at hXd
  have hx:=xsubmit_any hXd sA sl.length sc sl (hsl3.weak fun _ _ _=>trivial) (by omega)
  rw [Her.out] at hx
  have es4:w3.cell? ⟨W.heap.size,4,none⟩=some (.slice sA sl.length sc):=by rw [ks3.cell];rfl
  clear hm hMS ho hsl2 ks2 hXd hn3
  go_wp2_with fail
  refine hx.mono ?_
  rintro e w4 ⟨rfl,hXS⟩
  have hn4:=h3.soup.xv _ (h3.inb k hkn).2
  have ho4:=hXS.kb.own ho3 fun b e e'=>hn4 (.inr (.inr (.inr (e'.symm.trans (Option.some.inj e).symm))))
  have ks4:=hXS.kb.blk ks3 fun e=>by
   have:=hul _ (.inr (.inr ⟨_,(h.inb k hkn).2,e⟩))
   omega
  have hsl4:=hXS.kb.slb hsl3 fun b hb hx e=>hx.1 (.inr (.inr ⟨_,(h.inb k hkn).2,e⟩))
  obtain ⟨R2,h4⟩:=h3.callX k hkn hXS
  have es44:w4.cell? ⟨W.heap.size,4,none⟩=some (.slice sA sl.length sc):=by rw [ks4.cell];rfl
  obtain ⟨A9,c9,e9,hs9⟩:=owns_sl (l:=sl++[165]) (by rw [List.length_append];exact ho4)
  rw [List.length_append] at e9 hs9
  injection e9 with e91 e92 e93
  subst e91
  subst e93
  clear e92
  simp only [List.length_cons,List.length_nil,Nat.zero_add] at hs9
  have hsb:Sl w4 (fun _=>True) (some ⟨gb,0,none⟩) sl.length cb sl:=by
   have:=(hs9.take sl.length (by omega)).weak (Y:=fun _=>True) fun _ _ _=>trivial
   rw [List.take_left] at this
   exact this
  have hmk:w4.cell? ⟨gb,sl.length,none⟩=some (.int .u8 165):=by
   obtain ⟨b',o',e',-,-,hc⟩:=hs9.cells (by omega)
   cases e'
   have:=hc sl.length (by omega)
   rw [Nat.zero_add] at this
   rw [this,List.getD_eq_getElem?_getD,List.getElem?_append_right (Nat.le_refl _),Nat.sub_self]
   rfl
  have hOa:OwnAny w4 W0.heap.size (.slice (some ⟨gb,0,none⟩) sl.length cb) sl.length:=⟨_,owns_few7 ho4 (Nat.le_succ _)⟩
  have hsls:Sl w4 (fun _=>True) sA sl.length sc sl:=hsl4.weak fun _ _ _=>trivial
  have hwn:IntKind.i64.wrap ((sl.length:Int)+1)=((sl.length+1:Nat):Int):=by rw [IntWalk.i64_in _ (by omega)];omega
  have Hsb:=Lib.hid hsb
  have Hsls:=Lib.hid hsls
  obtain ⟨N,hN⟩:∃ x,sl.length=x:=⟨_,rfl⟩
  have dN1:decide ((N:Int)<((N+1:Nat):Int))=true:=by simp;omega
  have dN2:(N:Int)<((N+1:Nat):Int):=by omega
  have dN3:decide (N<N+1)=true:=by simp
  have dN4:N<N+1:=Nat.lt_succ_self N
  rw [hN] at es44 hmk hOa hwn hrb Hsb Hsls hsr hsb0
  rw [hN]
  clear hx hXS h3 ho3 ho4 ks3 ks4 hsl3 hsl4 hs9 hsb hsls hn4 es4
  go_wp2_with (first
   | ((with_reducible show wpList _ _ _ (⟨some 69,.convert _ _ _,_,_,_,_⟩::_) _ _);refine wpList_runG (by kernel_rfl) (.string (bstr sl)) _ (strM_op (.tmp 68) rfl rfl Hsb.out) ?_;simp only [Act.put,List.setIfInBounds_toArray,List.set_cons_succ,List.set_cons_zero])
   | ((with_reducible show wpList _ _ _ (⟨some 72,.convert _ _ _,_,_,_,_⟩::_) _ _);refine wpList_runG (by kernel_rfl) (.string (bstr sl)) _ (strM_op (.tmp 71) rfl rfl Hsls.out) ?_;simp only [Act.put,List.setIfInBounds_toArray,List.set_cons_succ,List.set_cons_zero])
   | ((with_reducible show wpList _ _ _ (⟨some 73,.binOp _ _ _ _ _,_,_,_,_⟩::_) _ _);refine wpList_runG (by kernel_rfl) (.bool false) _ (run_neqstr_fG (.tmp 69) (.tmp 72) _ sl rfl rfl rfl _) ?_;simp only [Act.put,List.setIfInBounds_toArray,List.set_cons_succ,List.set_cons_zero])
   | ((with_reducible show wpList _ _ _ (⟨some 80,.slice _ _ _ _ _,_,_,_,_⟩::_) _ _);refine wpList_runG (by kernel_rfl) (.slice (some ⟨gb,0,none⟩) (N+1) cb) _ (run_slice_hi8 (.tmp 76) (.tmp 79) rfl (some ⟨gb,0,none⟩) N cb (N+1) rfl rfl hrb _) ?_;simp only [Act.put,List.setIfInBounds_toArray,List.set_cons_succ,List.set_cons_zero]))
  have hi4:WdJ w gw (fun b=>b=gb) ((S.putM (S.pr k).1 R1 (mo.submit sl).2).putX (S.pr k).2 R2 (mo.submit sl).2) w4:=h4
  obtain ⟨S4,hS4⟩:∃ x,(S.putM (S.pr k).1 R1 (mo.submit sl).2).putX (S.pr k).2 R2 (mo.submit sl).2=x:=⟨_,rfl⟩
  have hE4:EqB (n+1) S4:=by rw [← hS4];exact hq.put (Nat.le_succ _) HInj.out k hkn _ _ _ (hbd.submit sl)
  have hnp4:S4.np≤12:=by rw [← hS4];exact hnp
  rw [hS4] at hi4
  have HE4:=Lib.hid hE4
  clear h4 hS4 h hul hE4
  go_loopw [10] (fun v10 wr=>∃ i:Nat,i≤N∧v10 = .int .i64 (i:Int)∧WdJ w gw (fun b=>b=gb) S4 wr∧OwnAny wr W0.heap.size (.slice (some ⟨gb,0,none⟩) N cb) N) (fun v10 _=>N - (intOf v10).toNat)
  case atStart=>exact ⟨0,Nat.zero_le _,rfl,hi4,hOa⟩
  case round =>
   clear hi4 hOa
   obtain ⟨i,hi,rfl,hI,hO⟩:=hrel
   by_cases hin:i<N
   ·have hd:decide ((i:Int)<(N:Int))=true:=by simp;omega
    have hd2:decide (i<N)=true:=by simp;omega
    have hwi:IntKind.i64.wrap ((i:Int)+1)=(i:Int)+1:=IntWalk.i64_in _ (by omega)
    obtain ⟨ge,ce,hve,hge,hgl,-,-,hcf⟩:=hO.at_ (by omega)
    injection hve with e1 e2 e3
    injection e1 with e1
    injection e1 with e1
    subst e1
    subst e3
    clear e2
    obtain ⟨⟨u,hcu⟩,hfu⟩:=hcf i hin
    have hO2:=hO.setCell gb i (.int .u8 90)
    have hI2:=hI.kbV (V1:=fun b=>b=gb) (kb_cell (M:=fun b=>b=gb) (KB.refl _ _) rfl i (.int .u8 90)) (fun b e => .inl e) (fun b e=>by rw [e];exact Nat.lt_of_lt_of_le hgl (kb_cell (M:=fun b=>b=gb) (KB.refl _ _) rfl i (.int .u8 90)).size)
    have HO2:=Lib.hid hO2
    have HI2:=Lib.hid hI2
    clear hcf hO2 hI2 hO hI
    go_wp2_with fail
    go_roundw
    case rel=>exact ⟨i+1,by omega,by go_num,HI2.out,HO2.out⟩
    case measure=>simp [intOf];omega
   ·obtain rfl:i=N:=by omega
    have hd:decide ((i:Int)<(i:Int))=false:=by simp
    have hI3:=hI.kbV (V1:=fun _=>False) (KB.refl _ _) (fun b e=>e.elim) (fun b e=>e.elim)
    have HI3:=Lib.hid hI3
    clear hO hI hI3
    go_wp2_with fail
    go_ret
    exact ⟨rfl,S4,HI3.out,HE4.out,hnp4⟩
end Go.Proofs.YtdjhoankkddomaaGreat
