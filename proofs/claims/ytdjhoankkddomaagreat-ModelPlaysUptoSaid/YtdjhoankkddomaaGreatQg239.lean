import Derived.Test.YtdjhoankkddomaaGreatQg237
import Derived.Test.YtdjhoankkddomaaGreatQg238
import Derived.Test.YtdjhoankkddomaaGreatQg224
import Derived.Test.YtdjhoankkddomaaGreatQg209
import Derived.Test.YtdjhoankkddomaaGreatQg215
import Derived.Lib.LazyBuf
namespace Go.Proofs.YtdjhoankkddomaaGreat
open Go Go.RowKit Go.Shelf
attribute [local go_sem] Oper.semAt_some
def MoV.pubN (m:MoV):Int:=if m.only then 0 else (m.ents.length:Int)
def MoV.pubR (m:MoV):List UInt8:=if m.only then zero32 else m.nowR
def MoV.pubE (m:MoV):Int:=if m.only then 10 else 0
def MoV.pubM (m:MoV):MoV:=if m.only then m else m.publish
theorem MoV.pubR_len (m:MoV):m.pubR.length=32:=by
 unfold MoV.pubR
 split
 ·rfl
 ·exact length_rootL _ (H32.lvs _)
theorem Bd.pubM {n:Nat} {m:MoV} (h:Bd n m):Bd n m.pubM:=by
 unfold MoV.pubM
 split
 ·exact h
 ·exact h.publish
theorem mpublish_u {Z:Nat→Prop} {lo g:Nat} {R:MdR} {m:MoV} {W:World} (h:Md Z lo g R m W) :
  Calls Tryz.prog 15 #[.pointer (some ⟨g,0,none⟩)] W fun e w'=>e = .returned (.tuple #[.agg (.int .i64 m.pubN::m.pubR.map B).toArray,.int .i64 m.pubE])∧MdS Z lo g R m.pubM W w':=by
 unfold MoV.pubN MoV.pubR MoV.pubE MoV.pubM
 by_cases ho:m.only=true
 ·rw [if_pos ho,if_pos ho,if_pos ho,if_pos ho]
  refine (mpublish_only Z lo g R m W h ho).mono ?_
  rintro e w' ⟨rfl,hb⟩
  exact ⟨rfl,⟨R,h.step hb,fun _ h => .inl h⟩,KB.of_below hb⟩
 ·rw [if_neg ho,if_neg ho,if_neg ho,if_neg ho]
  exact mpublish_any Z lo g R m W h (by simpa using ho)
theorem xpublish_u {Z:Nat→Prop} {g:Nat} {R:XdR} {m:MoV} {W:World} (h:Xd Z g R m W) (hs:∀ x ∈ m.ents,x.length≤4096) (hN:m.ents.length≤100000) :
  Calls Tryz.prog 22 #[.pointer (some ⟨g,0,none⟩)] W fun e w'=>e = .returned (.tuple #[.agg (.int .i64 m.pubN::m.pubR.map B).toArray,.int .i64 m.pubE])∧XdS Z g m.pubM W w':=by
 unfold MoV.pubN MoV.pubR MoV.pubE MoV.pubM
 by_cases ho:m.only=true
 ·rw [if_pos ho,if_pos ho,if_pos ho,if_pos ho]
  refine (xpublish_only h ho).mono ?_
  rintro e w' ⟨rfl,hb⟩
  exact ⟨rfl,⟨R,h.step hb⟩,KB.of_below hb⟩
 ·rw [if_neg ho,if_neg ho,if_neg ho,if_neg ho]
  exact xpublish_any h (by simpa using ho) hs hN
set_option maxHeartbeats 16000000 in
set_option maxRecDepth 100000 in
theorem step4_any {w W:World} {gw n:Nat} {S:WS} (h:WdJ w gw (fun _=>False) S W) (hq:EqB n S) (hnp:S.np≤12) (hn:n≤1000) (so sa sb:Int) (sA:Option Addr) (sn sc:Nat) :
  Calls Tryz.prog 7 #[mpt gw,.agg #[.int .i64 4,.int .i64 so,.int .i64 sa,.int .i64 sb,.slice sA sn sc]] W fun e w'=>e = .returned (.bool true)∧StepQ w gw (n+1) w':=by
 obtain ⟨w1,hw1⟩:∃ x,W.alloc (.cells #[.int .i64 4,.int .i64 so,.int .i64 sa,.int .i64 sb,.slice sA sn sc] 43)=x:=⟨_,rfl⟩
 have B1:Below W.heap.size W w1:=by rw [← hw1];exact (Below.refl _ _).alloc (Nat.le_refl _) _
 have k1:Blk w1 W.heap.size 43 #[.int .i64 4,.int .i64 so,.int .i64 sa,.int .i64 sb,.slice sA sn sc]:=by rw [← hw1];exact Blk.new _ _ _
 have c1:w1.cell? ⟨W.heap.size,1,none⟩=some (.int .i64 so):=by rw [k1.cell];rfl
 obtain ⟨k,hkx,hk2⟩:=rem_two so
 have hkn:k<S.np:=Nat.lt_of_lt_of_le hk2 h.two
 have dk1:decide ((k:Int)<2)=true:=by simp;omega
 have dk2:(k:Int)<2:=by omega
 have hS:Below W.heap.size W w1.drew:=B1.drew
 have cM:∀ s:InC (fun W'=>Below W.heap.size W W'),s.W.cell? ⟨gw,k,none⟩=some (mpt (S.gm k)):=fun s=>(h.step s.ok).cm k hk2
 have cX:∀ s:InC (fun W'=>Below W.heap.size W W'),s.W.cell? ⟨gw,2+k,none⟩=some (mpt (S.gx k)):=fun s=>(h.step s.ok).cx k hk2
 have ks:Blk w1.drew W.heap.size 43 #[.int .i64 4,.int .i64 so,.int .i64 sa,.int .i64 sb,.slice sA sn sc]:=k1.step (Below.refl w1.heap.size w1).drew
 have Hw1:=Lib.hid hw1
 have Hkx:=Lib.hid hkx
 have Hh:=Lib.hid h
 clear hw1 h k1 B1 hkx
 go_enter Tryz.func7,Tryz.ntmps7
 go_upto_region 2 with (rw [Hw1.out])
 rw [Hkx.out]
 refine wp_region_mix (fun W'=>Below W.heap.size W W') [(0,true),(1,true),(2,true),(3,true),(4,true),(5,true),(6,true),(7,true),(8,true),(9,true),(10,true),(11,true),(12,true),(13,true)] (by kernel_rfl) (by kernel_rfl) hS fun _=>?_
 simp only [List.map_cons,List.map_nil,Array.getD_eq_getD_getElem?,List.getElem?_toArray,List.getElem?_cons_succ,List.getElem?_cons_zero,Option.getD_some]
 generalize w1.drew=W0 at hS ks ⊢
 iterate 14 (refine wpMix_s (fun K hK=>?_);go_simp;refine hK _ ?_;clear hK K)
 refine wpMix_nil ?_
 intro _
 have h:=Hh.out.step hS
 have cs0:W0.cell? ⟨W.heap.size,0,none⟩=some (.int .i64 4):=by rw [ks.cell];rfl
 have hgs:∀ b,SoU (WV gw S.ov S.wv fun _=>False) S.nm S.M S.nx S.X b→b<W.heap.size:=Hh.out.soup.ult
 clear Hh cM cX Hw1 Hkx c1
 obtain ⟨hmx,hbd⟩:=hq k hkn
 have hMd:=h.md k hkn
 have hXd:=h.xd k hkn
 obtain ⟨mo,hmo⟩:∃ x,(S.M (S.pr k).1).m=x:=⟨_,rfl⟩
 have hxm:(S.X (S.pr k).2).m=mo:=hmx.symm.trans hmo
 rw [hxm] at hXd
 rw [hmo] at hMd hbd
 have HXm:=Lib.hid hxm
 have HInj:=Lib.hid h.inj
 have HMo:=Lib.hid hmo
 clear hmo hmx hxm
 have he:=hbd.eq
 have hl:=mo.pubR_len
 have hm:=mpublish_u hMd
 obtain ⟨N,hN⟩:∃ x,mo.pubN=x:=⟨_,rfl⟩
 obtain ⟨r,hr⟩:∃ x,mo.pubR=x:=⟨_,rfl⟩
 obtain ⟨er,her⟩:∃ x,mo.pubE=x:=⟨_,rfl⟩
 rw [hN,hr,her] at hm
 rw [hr] at hl
 have HN:=Lib.hid hN
 have Hr:=Lib.hid hr
 have Her:=Lib.hid her
 clear hMd hXd hN hr her
 go_wp2_with fail
 refine hm.mono ?_
 rintro e w3 ⟨rfl,hMS⟩
 obtain ⟨R1,h3⟩:=h.callM k hkn hMS
 have hXd:Xd _ (S.gx k) _ (S.X (S.pr k).2).m w3:=h3.xd k hkn
 rw [HXm.out] at hXd
 clear hMS hm
 go_wp2_with (first
  | ((with_reducible show wpList _ _ _ (⟨some 17,.alloc _,_,_,_,_⟩::_) _ _);refine wpList_pnv (n:=N) (l:=r) (.tmp 17) (.tmp 135) rfl rfl rfl rfl rfl rfl hl ?_;intro w4 p17 b4;simp only [Act.put,List.setIfInBounds_toArray,List.set_cons_succ,List.set_cons_zero]))
 have hx3:=h3.soup.ult (S.gx k) (.inr (.inr ⟨_,(h3.inb k hkn).2,rfl⟩))
 have hne17:w3.heap.size≠S.gx k:=Nat.ne_of_gt hx3
 have h5:=h3.step b4
 have hx:=xpublish_u (hXd.step b4) hbd.e (by omega)
 rw [HN.out,Hr.out,Her.out] at hx
 clear hXd h3 b4
 refine hx.mono ?_
 rintro e w5 ⟨rfl,hXS⟩
 obtain ⟨R2,h4⟩:=h5.callX k hkn hXS
 have p17':PB w5 w3.heap.size N r:=⟨hXS.kb.blk p17.blk hne17,p17.rl⟩
 clear hx hXS h5 p17
 go_wp2_with (first
  | ((with_reducible show wpList _ _ _ (⟨some 19,.alloc _,_,_,_,_⟩::_) _ _);refine wpList_pnv (n:=N) (l:=r) (.tmp 19) (.tmp 140) rfl rfl rfl rfl rfl rfl hl ?_;intro w6 p19 b6;have p176:=p17'.step b6;simp only [Act.put,List.setIfInBounds_toArray,List.set_cons_succ,List.set_cons_zero])
  | ((with_reducible show wpList _ _ _ (⟨some 142,.load _ _,_,_,_,_⟩::_) _ _);refine wpList_load rfl 55 (.tmp 17) rfl w3.heap.size 0 rfl (.int .i64 N::r.map B).toArray p176.load ?_;simp only [Act.put,List.setIfInBounds_toArray,List.set_cons_succ,List.set_cons_zero])
  | ((with_reducible show wpList _ _ _ (⟨some 143,.load _ _,_,_,_,_⟩::_) _ _);refine wpList_load rfl 55 (.tmp 19) rfl w5.heap.size 0 rfl (.int .i64 N::r.map B).toArray p19.load ?_;simp only [Act.put,List.setIfInBounds_toArray,List.set_cons_succ,List.set_cons_zero])
  | ((with_reducible show wpList _ _ _ (⟨some 144,.binOp _ _ _ _ _,_,_,_,_⟩::_) _ _);refine wpList_runG (by kernel_rfl) (.bool true) _ (eqlPt_val (.tmp 142) (.tmp 143) _ N N r r true rfl rfl rfl hl hl (ptEq_self N r) _) ?_;simp only [Act.put,List.setIfInBounds_toArray,List.set_cons_succ,List.set_cons_zero]))
 go_ret
 exact ⟨rfl,_,h4.step b6,hq.put (Nat.le_succ _) HInj.out k hkn _ _ _ (hbd.pubM.up (Nat.le_succ _)),hnp⟩
set_option maxHeartbeats 16000000 in
set_option maxRecDepth 100000 in
theorem step5_any {w W:World} {gw n:Nat} {S:WS} (h:WdJ w gw (fun _=>False) S W) (hq:EqB n S) (hnp:S.np≤12) (hn:n≤1000) (so sa sb:Int) (sA:Option Addr) (sn sc:Nat) :
  Calls Tryz.prog 7 #[mpt gw,.agg #[.int .i64 5,.int .i64 so,.int .i64 sa,.int .i64 sb,.slice sA sn sc]] W fun e w'=>e = .returned (.bool true)∧StepQ w gw (n+1) w':=by
 obtain ⟨w1,hw1⟩:∃ x,W.alloc (.cells #[.int .i64 5,.int .i64 so,.int .i64 sa,.int .i64 sb,.slice sA sn sc] 43)=x:=⟨_,rfl⟩
 have B1:Below W.heap.size W w1:=by rw [← hw1];exact (Below.refl _ _).alloc (Nat.le_refl _) _
 have k1:Blk w1 W.heap.size 43 #[.int .i64 5,.int .i64 so,.int .i64 sa,.int .i64 sb,.slice sA sn sc]:=by rw [← hw1];exact Blk.new _ _ _
 have c1:w1.cell? ⟨W.heap.size,1,none⟩=some (.int .i64 so):=by rw [k1.cell];rfl
 obtain ⟨k,hkx,hk2⟩:=rem_two so
 have hkn:k<S.np:=Nat.lt_of_lt_of_le hk2 h.two
 have dk1:decide ((k:Int)<2)=true:=by simp;omega
 have dk2:(k:Int)<2:=by omega
 have hS:Below W.heap.size W w1.drew:=B1.drew
 have cM:∀ s:InC (fun W'=>Below W.heap.size W W'),s.W.cell? ⟨gw,k,none⟩=some (mpt (S.gm k)):=fun s=>(h.step s.ok).cm k hk2
 have cX:∀ s:InC (fun W'=>Below W.heap.size W W'),s.W.cell? ⟨gw,2+k,none⟩=some (mpt (S.gx k)):=fun s=>(h.step s.ok).cx k hk2
 have ks:Blk w1.drew W.heap.size 43 #[.int .i64 5,.int .i64 so,.int .i64 sa,.int .i64 sb,.slice sA sn sc]:=k1.step (Below.refl w1.heap.size w1).drew
 have Hw1:=Lib.hid hw1
 have Hkx:=Lib.hid hkx
 have Hh:=Lib.hid h
 clear hw1 h k1 B1 hkx
 go_enter Tryz.func7,Tryz.ntmps7
 go_upto_region 2 with (rw [Hw1.out])
 rw [Hkx.out]
 refine wp_region_mix (fun W'=>Below W.heap.size W W') [(0,true),(1,true),(2,true),(3,true),(4,true),(5,true),(6,true),(7,true),(8,true),(9,true),(10,true),(11,true),(12,true),(13,true)] (by kernel_rfl) (by kernel_rfl) hS fun _=>?_
 simp only [List.map_cons,List.map_nil,Array.getD_eq_getD_getElem?,List.getElem?_toArray,List.getElem?_cons_succ,List.getElem?_cons_zero,Option.getD_some]
 generalize w1.drew=W0 at hS ks ⊢
 iterate 14 (refine wpMix_s (fun K hK=>?_);go_simp;refine hK _ ?_;clear hK K)
 refine wpMix_nil ?_
 intro _
 have h:=Hh.out.step hS
 have cs0:W0.cell? ⟨W.heap.size,0,none⟩=some (.int .i64 5):=by rw [ks.cell];rfl
 have hgs:∀ b,SoU (WV gw S.ov S.wv fun _=>False) S.nm S.M S.nx S.X b→b<W.heap.size:=Hh.out.soup.ult
 clear Hh cM cX Hw1 Hkx c1
 obtain ⟨hmx,hbd⟩:=hq k hkn
 have hMd:=h.md k hkn
 have hXd:=h.xd k hkn
 obtain ⟨mo,hmo⟩:∃ x,(S.M (S.pr k).1).m=x:=⟨_,rfl⟩
 have hxm:(S.X (S.pr k).2).m=mo:=hmx.symm.trans hmo
 rw [hxm] at hXd
 rw [hmo] at hMd hbd
 have HXm:=Lib.hid hxm
 have HInj:=Lib.hid h.inj
 have HMo:=Lib.hid hmo
 clear hmo hmx hxm
 have he:=hbd.eq
 have cf:=fun V (hb:Below W0.heap.size W0 V)=>mfail_any _ _ _ _ _ V (hMd.step hb) sa
 have hD:Below W0.heap.size W0 W0.drew:=(Below.refl _ _).drew
 have hbdm:=hbd.failM sa
 obtain ⟨er,her⟩:∃ x,mo.failE sa=x:=⟨_,rfl⟩
 rw [her] at cf
 have Her:=Lib.hid her
 have CF:=Lib.hid cf
 have hT:KB (fun b=>MdW (S.gm k) (S.M (S.pr k).1).R b∨b=S.gx k) W0 W0.drew:=KB.of_below hD
 have E2:∀ s:InC (fun W'=>KB (fun b=>MdW (S.gm k) (S.M (S.pr k).1).R b∨b=S.gx k) W0 W'),s.W.cell? ⟨W.heap.size,2,none⟩=some (.int .i64 sa):=fun s=>by
  rw [(s.ok.blk ks fun e=>by
   have:=hgs W.heap.size (e.elim (fun e => .inr (.inl ⟨_,(h.inb k hkn).1,e⟩)) fun e => .inr (.inr ⟨_,(h.inb k hkn).2,e⟩))
   omega).cell]
  rfl
 have HH:=Lib.hid h
 clear hMd hXd cf her h
 go_wp2_with fail
 refine wp_region_mix (fun W'=>KB (fun b=>MdW (S.gm k) (S.M (S.pr k).1).R b∨b=S.gx k) W0 W') [(0,true),(1,true),(2,true),(4,true),(5,true),(6,true),(3,false),(7,false),(8,true),(9,true)] (by kernel_rfl) (by kernel_rfl) hT fun _=>?_
 simp only [List.map_cons,List.map_nil,Array.getD_eq_getD_getElem?,List.getElem?_toArray,List.getElem?_cons_succ,List.getElem?_cons_zero,Option.getD_some]
 generalize W0.drew=Wd at hT hD ⊢
 iterate 6 (refine wpMix_s (fun K hK=>?_);go_simp;refine hK _ ?_;clear hK K)
 refine wpMix_c (fun K hK=>?_) hT
 go_simp
 refine (CF.out Wd hD).mono ?_
 rintro e Wda ⟨rfl,hMS⟩
 refine hK _ _ ?_
 clear hK K
 obtain ⟨R1,h3⟩:=(HH.out.step hD).callM k hkn hMS
 replace hT:=hT.trans (hMS.kb.mono fun b hb => .inl hb)
 refine ⟨hT,?_⟩
 have hXd:Xd _ (S.gx k) _ (S.X (S.pr k).2).m Wda:=h3.xd k hkn
 rw [HXm.out] at hXd
 have cx:=xfail_any hXd sa hbd.e (by omega)
 rw [Her.out] at cx
 have CX:=Lib.hid cx
 clear cx hXd hMS
 refine wpMix_c (fun K hK=>?_) hT
 go_simp
 refine CX.out.mono ?_
 rintro e Wdab ⟨rfl,hXS⟩
 refine hK _ _ ?_
 clear hK K
 obtain ⟨R2,h4⟩:=h3.callX k hkn hXS
 replace hT:=hT.trans (hXS.kb.mono fun b hb => .inr hb)
 refine ⟨hT,?_⟩
 clear h3 hXS CX
 iterate 2 (refine wpMix_s (fun K hK=>?_);go_simp;refine hK _ ?_;clear hK K)
 refine wpMix_nil ?_
 intro _
 go_wp2_with fail
 go_ret
 exact ⟨rfl,_,h4,hq.put (Nat.le_succ _) HInj.out k hkn _ _ _ (hbdm.up (Nat.le_succ _)),hnp⟩
end Go.Proofs.YtdjhoankkddomaaGreat
namespace Go.Proofs.YtdjhoankkddomaaGreat
open Go Go.RowKit Go.Shelf
attribute [local go_sem] Oper.semAt_some
section
variable {W:World} {Z:Nat→Prop} {lo g:Nat} {R:MdR} {m:MoV}
theorem mbegins_out (h:Md Z lo g R m W) (n:Int) (hn:n<0∨(m.ents.length:Int)<n):Calls Tryz.prog 65 #[.pointer (some ⟨g,0,none⟩),.int .i64 n] W fun e w'=>e = .returned (.int .i64 4)∧w'=W:=by
 have hno:=mnone_any h
 have hsz:=msize_any h
 clear h
 by_cases h0:n<0
 ·have d1:decide (n<0)=true:=by simpa using h0
  go_enter Tryz.func65,Tryz.ntmps65
  go_wp2_with (first
   | (go_at_call 51;refine hno.mono ?_;rintro e w' ⟨rfl,hw⟩;obtain rfl:=hw.symm)
   | (go_at_call 32;refine hsz.mono ?_;rintro e w' ⟨rfl,hw⟩;obtain rfl:=hw.symm))
  go_ret
  exact ⟨rfl,rfl⟩
 ·have d1:decide (n<0)=false:=by simpa using h0
  have h1:(m.ents.length:Int)<n:=by omega
  have d2:decide ((m.ents.length:Int)<n)=true:=by simpa using h1
  go_enter Tryz.func65,Tryz.ntmps65
  go_wp2_with (first
   | (go_at_call 51;refine hno.mono ?_;rintro e w' ⟨rfl,hw⟩;obtain rfl:=hw.symm)
   | (go_at_call 32;refine hsz.mono ?_;rintro e w' ⟨rfl,hw⟩;obtain rfl:=hw.symm))
  go_ret
  exact ⟨rfl,rfl⟩
set_option maxHeartbeats 4000000 in
set_option maxRecDepth 100000 in
theorem mroot_out (h:Md Z lo g R m W) (n:Int) (hn:n<0∨(m.ents.length:Int)<n):Calls Tryz.prog 37 #[.pointer (some ⟨g,0,none⟩),.int .i64 n] W fun e w'=>e = .returned (.tuple #[.agg (zero32.map B).toArray,.int .i64 4])∧Below W.heap.size W w':=by
 obtain ⟨w1,hw1⟩:∃ x,W.alloc (.cells (zeroHash) 53)=x:=⟨_,rfl⟩
 have k1:Blk w1 W.heap.size 53 zeroHash:=by rw [← hw1];exact Blk.new _ _ _
 have B1:Below W.heap.size W w1:=by rw [← hw1];exact (Below.refl _ _).alloc (Nat.le_refl _) _
 have hbe:=mbegins_out (h.step B1) n hn
 have Hw1:=Lib.hid hw1
 clear hw1 h hn
 go_enter Tryz.func37,Tryz.ntmps37
 go_wp2_with (first
  | ((with_reducible show wpList _ _ _ (⟨some 4,.alloc _,_,_,_,_⟩::_) _ _);refine wpList_run rfl (.pointer (some ⟨W.heap.size,0,none⟩)) w1 (by rw [← Hw1.out];kernel_rfl) ?_;simp only [Act.put])
  | (go_at_call 65;refine (hbe).mono ?_;rintro e w' ⟨rfl,hw⟩;obtain rfl:=hw.symm)
  | ((with_reducible show wpList _ _ _ (⟨some 12,.build _ _,_,_,_,_⟩::_) _ _);refine wpList_run rfl (.agg (zero32.map B).toArray) w1 (by kernel_rfl) ?_;simp only [Act.put])
  | ((with_reducible show wpList _ _ _ (⟨none,.store _ (.tmp 4) _,_,_,_,_⟩::_) _ _);refine wpList_hset (l:=zero32) (l':=List.replicate 32 0) (.tmp 4) (.tmp 12) rfl rfl ⟨k1,rfl⟩ rfl rfl rfl ?_;intro w9 k9 b9 hw9;clear hw9;simp only [Act.put]))
 exact bodyPost_ret (tuple_hv rfl _ _ W.heap.size zero32 rfl k9) rfl ⟨rfl,B1.trans (b9.mono (Nat.le_refl _))⟩
set_option maxRecDepth 100000 in
theorem mcons_out (h:Md Z lo g R m W) (k n:Int) (hn:n<0∨(m.ents.length:Int)<n):Calls Tryz.prog 43 #[.pointer (some ⟨g,0,none⟩),.int .i64 k,.int .i64 n] W fun e w'=>e = .returned (.tuple #[.slice none 0 0,.int .i64 4])∧w'=W:=by
 have hbe:=mbegins_out h n hn
 clear h hn
 go_enter Tryz.func43,Tryz.ntmps43
 go_wp2_with (go_at_call 65;refine (hbe).mono ?_;rintro e w' ⟨rfl,hw⟩;obtain rfl:=hw.symm)
 go_ret2
 exact ⟨rfl,rfl⟩
set_option maxRecDepth 100000 in
theorem mincl_out (h:Md Z lo g R m W) (k n:Int) (hn:n<0∨(m.ents.length:Int)<n):Calls Tryz.prog 41 #[.pointer (some ⟨g,0,none⟩),.int .i64 k,.int .i64 n] W fun e w'=>e = .returned (.tuple #[.slice none 0 0,.int .i64 4])∧w'=W:=by
 have hbe:=mbegins_out h n hn
 clear h hn
 go_enter Tryz.func41,Tryz.ntmps41
 go_wp2_with (go_at_call 65;refine (hbe).mono ?_;rintro e w' ⟨rfl,hw⟩;obtain rfl:=hw.symm)
 go_ret2
 exact ⟨rfl,rfl⟩
set_option maxHeartbeats 4000000 in
set_option maxRecDepth 100000 in
theorem mcons_in (h:Md Z lo g R m W) (k:Int) (n:Nat) (hn:n≤m.ents.length) (hN:m.ents.length≤1000000000):Calls Tryz.prog 43 #[.pointer (some ⟨g,0,none⟩),.int .i64 k,.int .i64 (n:Int)] W fun e w' =>
  ∃ v,e = .returned (.tuple #[v,.int .i64 (stepsA k (n:Int)).2])∧w'.ownsRow W.heap.size 53 32 v (rootsS ((lvs m.ents).take n) k).length (hcells (rootsS ((lvs m.ents).take n) k))∧Below W.heap.size W w':=by
 have hbe:=mbegins_ok h n hn
 obtain ⟨A,c,hve,hes⟩:=Hs.of_owns h.hashes (lvs_length _) (H32.lvs _)
 have hr:=hes.sl.room
 have hmx:=hes.sl.max
 unfold maxLen at hmx
 have c1:W.cell? ⟨g,1,none⟩=some (.slice A m.ents.length c):=(h.cell 1 (by decide)).trans (congrArg some hve)
 have ht:=(hes.take n hn).weak (Y:=fun _=>True) fun _ _ _=>trivial
 have hcp:=cprove_any _ A n c W k ht (by omega)
 have hln:((lvs m.ents).take n).length=n:=by rw [List.length_take,lvs_length];omega
 rw [hln] at hcp
 have Hcp:=Lib.hid hcp
 obtain ⟨N,hN'⟩:∃ x,m.ents.length=x:=⟨_,rfl⟩
 have hnc:n≤c:=by omega
 rw [hN'] at c1 hr
 clear hcp ht hes hve h hN' hln
 go_enter Tryz.func43,Tryz.ntmps43
 go_wp2_with (first
  | (go_at_call 65;refine (hbe).mono ?_;rintro e w' ⟨rfl,hw⟩;obtain rfl:=hw.symm)
  | ((with_reducible show wpList _ _ _ (⟨some 21,.slice _ _ _ _ _,_,_,_,_⟩::_) _ _);refine wpList_run rfl (.slice A n c) W (run_slice_hiH (.tmp 19) (.tmp 20) rfl A N c n rfl rfl hnc W) ?_;simp only [Act.put]))
 refine Hcp.out.mono ?_
 rintro e w1 ⟨v,rfl,ho,hb⟩
 go_wp2_with fail
 go_ret2
 exact ⟨v,rfl,ho,hb⟩
set_option maxHeartbeats 4000000 in
set_option maxRecDepth 100000 in
theorem mincl_in (h:Md Z lo g R m W) (k:Int) (n:Nat) (hn:n≤m.ents.length) (hN:m.ents.length≤1000000000):Calls Tryz.prog 41 #[.pointer (some ⟨g,0,none⟩),.int .i64 k,.int .i64 (n:Int)] W fun e w' =>
  ∃ v,e = .returned (.tuple #[v,.int .i64 (pathA k (n:Int)).2])∧w'.ownsRow W.heap.size 53 32 v (rootsP ((lvs m.ents).take n) k).length (hcells (rootsP ((lvs m.ents).take n) k))∧Below W.heap.size W w':=by
 have hbe:=mbegins_ok h n hn
 obtain ⟨A,c,hve,hes⟩:=Hs.of_owns h.hashes (lvs_length _) (H32.lvs _)
 have hr:=hes.sl.room
 have hmx:=hes.sl.max
 unfold maxLen at hmx
 have c1:W.cell? ⟨g,1,none⟩=some (.slice A m.ents.length c):=(h.cell 1 (by decide)).trans (congrArg some hve)
 have ht:=(hes.take n hn).weak (Y:=fun _=>True) fun _ _ _=>trivial
 have hcp:=iprove_any _ A n c W k ht (by omega)
 have hln:((lvs m.ents).take n).length=n:=by rw [List.length_take,lvs_length];omega
 rw [hln] at hcp
 have Hcp:=Lib.hid hcp
 obtain ⟨N,hN'⟩:∃ x,m.ents.length=x:=⟨_,rfl⟩
 have hnc:n≤c:=by omega
 rw [hN'] at c1 hr
 clear hcp ht hes hve h hN' hln
 go_enter Tryz.func41,Tryz.ntmps41
 go_wp2_with (first
  | (go_at_call 65;refine (hbe).mono ?_;rintro e w' ⟨rfl,hw⟩;obtain rfl:=hw.symm)
  | ((with_reducible show wpList _ _ _ (⟨some 21,.slice _ _ _ _ _,_,_,_,_⟩::_) _ _);refine wpList_run rfl (.slice A n c) W (run_slice_hiH (.tmp 19) (.tmp 20) rfl A N c n rfl rfl hnc W) ?_;simp only [Act.put]))
 refine Hcp.out.mono ?_
 rintro e w1 ⟨v,rfl,ho,hb⟩
 go_wp2_with fail
 go_ret2
 exact ⟨v,rfl,ho,hb⟩
end
end Go.Proofs.YtdjhoankkddomaaGreat
namespace Go.Proofs.YtdjhoankkddomaaGreat
open Go
abbrev FrV:=List (Nat × List UInt8)
abbrev FpV:=Nat × List UInt8
def comeR:FrV→FpV→FrV
 | [],p=>[p]
 | q::r,p=>if q.1=p.1 then comeR r (p.1+1,hNode q.2 p.2) else p::q::r
def comeF (ps:FrV) (p:FpV):FrV:=(comeR ps.reverse p).reverse
theorem comeF_nil (p:FpV):comeF [] p=[p]:=rfl
theorem comeF_step (l:FrV) (q p:FpV) (h:q.1=p.1):comeF (l++[q]) p=comeF l (p.1+1,hNode q.2 p.2):=by
 unfold comeF
 rw [List.reverse_append,List.reverse_singleton,List.singleton_append]
 conv=>lhs;unfold comeR
 rw [if_pos h]
theorem comeF_stop (l:FrV) (q p:FpV) (h:q.1≠p.1):comeF (l++[q]) p=l++[q]++[p]:=by
 unfold comeF
 rw [List.reverse_append,List.reverse_singleton,List.singleton_append]
 unfold comeR
 rw [if_neg h]
 simp
def szF (ps:FrV):Nat:=(ps.map fun p=>2 ^ p.1).sum
theorem szF_nil:szF []=0:=rfl
theorem szF_append (a b:FrV):szF (a++b)=szF a+szF b:=by unfold szF;rw [List.map_append,List.sum_append]
theorem szF_one (p:FpV):szF [p]=2 ^ p.1:=by simp [szF]
def DecF (ps:FrV):Prop:=ps.Pairwise fun a b=>b.1<a.1
def F32 (ps:FrV):Prop:=∀ p ∈ ps,p.2.length=32
def F62 (ps:FrV):Prop:=∀ p ∈ ps,p.1≤62
theorem snoc_cases (ps:FrV):ps=[]∨∃ l q,ps=l++[q]:=by
 rcases List.eq_nil_or_concat ps with h|⟨l,q,h⟩
 ·exact .inl h
 ·exact .inr ⟨l,q,by rw [h,List.concat_eq_append]⟩
theorem come_size:∀ (n:Nat) (ps:FrV),ps.length=n→∀ p:FpV,szF (comeF ps p)=szF ps+2 ^ p.1
 | 0,ps,h,p=>by
  rw [List.length_eq_zero_iff.1 h,comeF_nil,szF_one,szF_nil,Nat.zero_add]
 | n+1,ps,h,p=>by
  rcases snoc_cases ps with rfl|⟨l,q,rfl⟩
  ·cases h
  ·by_cases hq:q.1=p.1
   ·rw [comeF_step l q p hq,come_size n l (by simpa using h),szF_append,szF_one,hq,Nat.pow_succ]
    omega
   ·rw [comeF_stop l q p hq,szF_append,szF_one]
theorem szF_come (ps:FrV) (p:FpV):szF (comeF ps p)=szF ps+2 ^ p.1:=come_size _ ps rfl p
theorem come_mem:∀ (n:Nat) (ps:FrV),ps.length=n→∀ p:FpV,F32 ps→p.2.length=32→F32 (comeF ps p)
 | 0,ps,h,p,_,h2=>by
  rw [List.length_eq_zero_iff.1 h,comeF_nil]
  intro x hx
  rw [List.mem_singleton.1 hx];exact h2
 | n+1,ps,h,p,h1,h2=>by
  rcases snoc_cases ps with rfl|⟨l,q,rfl⟩
  ·cases h
  ·by_cases hq:q.1=p.1
   ·rw [comeF_step l q p hq]
    exact come_mem n l (by simpa using h) _ (fun x hx=>h1 x (List.mem_append_left _ hx)) (length_hNode _ _)
   ·rw [comeF_stop l q p hq]
    intro x hx
    rcases List.mem_append.1 hx with hx|hx
    ·exact h1 x hx
    ·rw [List.mem_singleton.1 hx];exact h2
theorem F32_come (ps:FrV) (p:FpV) (h:F32 ps) (hp:p.2.length=32):F32 (comeF ps p):=come_mem _ ps rfl p h hp
theorem come_dec:∀ (n:Nat) (ps:FrV),ps.length=n→∀ p:FpV,DecF ps→(∀ q ∈ ps,p.1≤q.1)→DecF (comeF ps p)
 | 0,ps,h,p,_,_=>by
  rw [List.length_eq_zero_iff.1 h,comeF_nil]
  exact List.pairwise_singleton _ _
 | n+1,ps,h,p,hd,hq=>by
  rcases snoc_cases ps with rfl|⟨l,q,rfl⟩
  ·cases h
  ·have hd':=List.pairwise_append.1 hd
   by_cases hqp:q.1=p.1
   ·rw [comeF_step l q p hqp]
    refine come_dec n l (by simpa using h) _ hd'.1 fun x hx=>?_
    have h3:q.1<x.1:=hd'.2.2 x hx q (List.mem_singleton.2 rfl)
    show p.1+1≤x.1
    omega
   ·rw [comeF_stop l q p hqp]
    refine List.pairwise_append.2 ⟨hd,List.pairwise_singleton _ _,fun x hx y hy=>?_⟩
    rw [List.mem_singleton.1 hy]
    have h1:=hq q (List.mem_append_right _ (List.mem_singleton.2 rfl))
    rcases List.mem_append.1 hx with hx|hx
    ·have h3:q.1<x.1:=hd'.2.2 x hx q (List.mem_singleton.2 rfl)
     omega
    ·rw [List.mem_singleton.1 hx];omega
theorem DecF_come (ps:FrV) (p:FpV) (h:DecF ps) (hp:∀ q ∈ ps,p.1≤q.1):DecF (comeF ps p):=come_dec _ ps rfl p h hp
theorem pow_le_szF (ps:FrV) (p:FpV) (h:p ∈ ps):2 ^ p.1≤szF ps:=by
 obtain ⟨a,b,rfl⟩:=List.append_of_mem h
 rw [show a++p::b=a++([p]++b) by simp,szF_append,szF_append,szF_one]
 omega
theorem F62_of_size (ps:FrV) (h:szF ps≤9223372036854775807):F62 ps:=fun p hp=>by
 have h1:=pow_le_szF ps p hp
 rcases Nat.lt_or_ge 62 p.1 with h2|h2
 ·have h3:2 ^ 63≤2 ^ p.1:=Nat.pow_le_pow_right (by decide) h2
  omega
 ·exact h2
theorem szF_mod:∀ (ps:FrV) (k:Nat),(∀ p ∈ ps,k≤p.1)→szF ps % 2 ^ k=0
 | [],k,_=>by rw [szF_nil];exact Nat.zero_mod _
 | p::ps,k,h=>by
  have h1:=szF_mod ps k fun q hq=>h q (List.mem_cons_of_mem _ hq)
  have h2:=h p List.mem_cons_self
  rw [show p::ps=[p]++ps from rfl,szF_append,szF_one]
  have h3:2 ^ p.1 % 2 ^ k=0:=by
   obtain ⟨d,hd⟩:∃ d,p.1=k+d:=⟨p.1 - k,by omega⟩
   rw [hd,Nat.pow_add]
   exact Nat.mul_mod_right _ _
  rw [Nat.add_mod,h1,h3]
  simp
def leafF:FrV→List (List UInt8)→FrV
 | ps,[]=>ps
 | ps,h::hs=>leafF (comeF ps (0,h)) hs
theorem szF_leaf:∀ (hs:List (List UInt8)) (ps:FrV),szF (leafF ps hs)=szF ps+hs.length
 | [],_=>rfl
 | h::hs,ps=>by
  show szF (leafF (comeF ps (0,h)) hs)=_
  rw [szF_leaf hs,szF_come,List.length_cons]
  show szF ps+2 ^ 0+hs.length=_
  omega
theorem leafF_ok:∀ (hs:List (List UInt8)) (ps:FrV),F32 ps→DecF ps→(∀ h ∈ hs,h.length=32)→F32 (leafF ps hs)∧DecF (leafF ps hs)
 | [],_,h1,h2,_=>⟨h1,h2⟩
 | h::hs,ps,h1,h2,h3=>leafF_ok hs _ (F32_come ps _ h1 (h3 h List.mem_cons_self)) (DecF_come ps _ h2 fun _ _=>Nat.zero_le _) fun x hx=>h3 x (List.mem_cons_of_mem _ hx)
theorem leafF_snoc (ps:FrV) (hs:List (List UInt8)) (h:List UInt8):leafF ps (hs++[h])=comeF (leafF ps hs) (0,h):=by
 induction hs generalizing ps with
 | nil=>rfl
 | cons x hs ih=>exact ih _
end Go.Proofs.YtdjhoankkddomaaGreat
namespace Go.Proofs.YtdjhoankkddomaaGreat
open Go Go.RowKit Go.Shelf
attribute [local go_sem] Oper.semAt_some
abbrev PcV:=Int × List UInt8
def pcD:PcV:=(0,[])
abbrev pccell (p:PcV):List Value:=Value.int .i64 p.1::p.2.map B
theorem oneCell_pc (n:Int) (l:List UInt8):∀ v ∈ (Value.int .i64 n::l.map B).toArray.toList,v.oneCell'=true:=by
 intro v hv
 simp only [List.mem_cons,List.mem_map] at hv
 rcases hv with rfl|⟨b,_,rfl⟩ <;> rfl
theorem flat_atC {s:Nat}:∀ (L:List (List Value)) (_:∀ cs ∈ L,cs.length=s) (k j:Nat) (v:Value) (_:k<L.length) (_:(L.getD k [])[j]?=some v),L.flatten[k*s+j]?=some v
 | cs::L,hL,0,j,v,_,h=>by
  have h:cs[j]?=some v:=h
  rw [List.flatten_cons,Nat.zero_mul,Nat.zero_add,List.getElem?_append_left (List.getElem?_eq_some_iff.1 h).1]
  exact h
 | cs::L,hL,k+1,j,v,hk,h=>by
  have hc:=hL cs (by simp)
  have:=flat_atC L (fun x hx=>hL x (by simp [hx])) k j v (by simpa using hk) h
  rw [List.flatten_cons,List.getElem?_append_right (by rw [hc,Nat.succ_mul];omega),hc,show (k+1)*s+j - s=k*s+j by rw [Nat.succ_mul];omega]
  exact this
theorem flat_lenC {s:Nat}:∀ (L:List (List Value)),(∀ cs ∈ L,cs.length=s)→L.flatten.length=L.length*s
 | [],_=>by simp
 | cs::L,h=>by
  rw [List.flatten_cons,List.length_append,h cs (by simp),flat_lenC L (fun x hx=>h x (by simp [hx])),List.length_cons,Nat.succ_mul]
  omega
def pccells (ps:List PcV):List Value:=(ps.map pccell).flatten
def Pc32 (ps:List PcV):Prop:=∀ p ∈ ps,p.2.length=32
structure Pcs (w:World) (X:Nat→Prop) (A:Option Addr) (n c:Nat) (ps:List PcV):Prop where
 sl:SlV w X A n c 33 (pccells ps)
 len:ps.length=n
 all:Pc32 ps
theorem pccells_append (a b:List PcV):pccells (a++b)=pccells a++pccells b:=by simp [pccells]
theorem Pc32.getD {ps:List PcV} (h:Pc32 ps) (k:Nat) (hk:k<ps.length):(ps.getD k pcD).2.length=32:=by
 rw [List.getD_eq_getElem?_getD,List.getElem?_eq_getElem hk]
 exact h _ (List.getElem_mem hk)
theorem Pc32.cell {ps:List PcV} (h:Pc32 ps):∀ cs ∈ ps.map pccell,cs.length=33:=fun cs hc=>by
 obtain ⟨p,hp,rfl⟩:=List.mem_map.1 hc
 simp [h p hp]
theorem pccells_len (ps:List PcV) (h:Pc32 ps):(pccells ps).length=ps.length*33:=by
 unfold pccells
 rw [flat_lenC _ h.cell,List.length_map]
theorem onePc (ps:List PcV):∀ v ∈ pccells ps,v.oneCell'=true:=fun v hv=>by
 obtain ⟨cs,h1,h2⟩:=List.mem_flatten.1 hv
 obtain ⟨p,_,rfl⟩:=List.mem_map.1 h1
 exact oneCell_pc p.1 p.2 v h2
section
variable {w w':World} {X Y:Nat→Prop} {A:Option Addr} {n c:Nat} {ps:List PcV}
theorem Pcs.weak (h:Pcs w X A n c ps) (hX:∀ b,b<w.heap.size→X b→Y b):Pcs w Y A n c ps:=⟨h.sl.weak hX,h.len,h.all⟩
theorem Pcs.every (h:Pcs w X A n c ps):Pcs w (fun _=>True) A n c ps:=h.weak fun _ _ _=>trivial
theorem Pcs.step (h:Pcs w X A n c ps) (hb:Below w.heap.size w w'):Pcs w' X A n c ps:=⟨h.sl.step hb,h.len,h.all⟩
theorem Pcs.grown {row:Option Nat} (h:Pcs w X A n c ps) (hg:w.grownBy w' row) (hX:∀ b,b<w.heap.size→X b→some b≠row):Pcs w' X A n c ps:=⟨h.sl.grown hg hX,h.len,h.all⟩
theorem Pcs.empty:Pcs w X none 0 0 []:=⟨SlV.empty,rfl,fun _ h=>absurd h (by simp)⟩
theorem Pcs.of_owns {T:TypeId} {base:Nat} {v:Value} (h:w.ownsRow base T 33 v n (pccells ps)) (hn:ps.length=n) (ha:Pc32 ps):∃ A c,v = .slice A n c∧Pcs w (fun b=>base≤b∧some b=v.ownBlock) A n c ps:=by
 obtain ⟨A,c,hv,hs⟩:=owns_slv h
 exact ⟨A,c,hv,hs,hn,ha⟩
theorem Pcs.at_ (h:Pcs w X A n c ps) (hn:0<n):∃ b o,A=some ⟨b,o,none⟩∧b<w.heap.size∧X b:=by
 obtain ⟨b,o,h1,h2,h3,-⟩:=h.sl.at_ hn (by decide)
 exact ⟨b,o,h1,h2,h3⟩
theorem Pcs.cell (h:Pcs w X A n c ps) {b o:Nat} (hA:A=some ⟨b,o,none⟩) (i:Nat) (hi:i<n) (j:Nat) (v:Value) (hv:(pccell (ps.getD i pcD))[j]?=some v):w.cell? ⟨b,o+i*33+j,none⟩=some v:=by
 obtain ⟨b',o',e,-,-,h4⟩:=h.sl.at_ (by omega) (by decide)
 rw [hA] at e
 cases e
 rw [Nat.add_assoc]
 refine h4 _ v (flat_atC _ h.all.cell i j v (by rw [List.length_map,h.len];exact hi) ?_)
 rw [List.getD_eq_getElem?_getD,List.getElem?_map,List.getElem?_eq_getElem (l:=ps) (by rw [h.len];exact hi)]
 rw [List.getD_eq_getElem?_getD,List.getElem?_eq_getElem (l:=ps) (by rw [h.len];exact hi)] at hv
 exact hv
theorem Pcs.num (h:Pcs w X A n c ps) {b o:Nat} (hA:A=some ⟨b,o,none⟩) (i:Nat) (hi:i<n):w.cell? ⟨b,o+i*33,none⟩=some (.int .i64 (ps.getD i pcD).1):=h.cell hA i hi 0 _ rfl
theorem Pcs.hash (h:Pcs w X A n c ps) {b o:Nat} (hA:A=some ⟨b,o,none⟩) (i:Nat) (hi:i<n):(Instr.loadAt 53 (.pointer (some ⟨b,o+i*33+1,none⟩))).run Tryz.prog w = .ok (.agg ((ps.getD i pcD).2.map B).toArray) w :=
 run_load_agg (agg26 _) (size26 _) b (o+i*33+1) ((ps.getD i pcD).2.map B) (by rw [List.length_map,h.all.getD i (by rw [h.len];exact hi)]) fun j u hu=>by
  rw [show o+i*33+1+j=o+i*33+(j+1) by omega]
  exact h.cell hA i hi (j+1) u (by rw [List.getElem?_cons_succ];exact hu)
theorem Pcs.load {T:TypeId} (hT:∀ w:World,(isAgg T).run Tryz.prog w = .ok true w) (hs:∀ w:World,(sizeOf T).run Tryz.prog w = .ok 33 w) (h:Pcs w X A n c ps) {b o:Nat} (hA:A=some ⟨b,o,none⟩) (i:Nat) (hi:i<n) :
  (Instr.loadAt T (.pointer (some ⟨b,o+i*33,none⟩))).run Tryz.prog w = .ok (.agg (.int .i64 (ps.getD i pcD).1::(ps.getD i pcD).2.map B).toArray) w :=
 run_load_agg (hT _) (hs _) b (o+i*33) (pccell (ps.getD i pcD)) (by rw [List.length_cons,List.length_map,h.all.getD i (by rw [h.len];exact hi)]) fun j u hu=>h.cell hA i hi j u hu
end
theorem aggFp:∀ w:World,(isAgg 145).run Tryz.prog w = .ok true w:=fun _=>by kernel_rfl
theorem sizeFp:∀ w:World,(sizeOf 145).run Tryz.prog w = .ok 33 w:=fun _=>by kernel_rfl
theorem infoFp:(Tryz.prog.info? 145).map (fun i=>(i.zero,i.size,i.bytes))=some (some (.agg (.int .i64 0::(List.replicate 32 (0:UInt8)).map B).toArray),33,40):=by kernel_rfl
def fpc (ps:FrV):List PcV:=ps.map fun p=>((p.1:Int),p.2)
theorem fpc_append (a b:FrV):fpc (a++b)=fpc a++fpc b:=by simp [fpc]
theorem length_fpc (ps:FrV):(fpc ps).length=ps.length:=by simp [fpc]
theorem fpc_32 (ps:FrV) (h:F32 ps):Pc32 (fpc ps):=fun p hp=>by
 obtain ⟨q,hq,rfl⟩:=List.mem_map.1 hp
 exact h q hq
theorem fpc_getD (ps:FrV) (i:Nat):(fpc ps).getD i pcD=(((ps.getD i (0,[])).1:Int),(ps.getD i (0,[])).2):=by
 unfold fpc
 rw [List.getD_eq_getElem?_getD,List.getElem?_map,List.getD_eq_getElem?_getD]
 cases ps[i]? <;> rfl
structure FrO (W:World) (g:Nat) (ps:FrV):Prop where
 ex:∃ A n c,Blk W g 142 #[.slice A n c]∧Pcs W (fun _=>True) A n c (fpc ps)
theorem FrO.step {W W':World} {g:Nat} {ps:FrV} (h:FrO W g ps) (hb:Below W.heap.size W W'):FrO W' g ps:=let ⟨A,n,c,h1,h2⟩:=h.ex;⟨A,n,c,h1.step hb,h2.step hb⟩
theorem FrO.all {W:World} {g:Nat} {ps:FrV} (h:FrO W g ps):F32 ps:=fun p hp=>by
 obtain ⟨A,n,c,h1,h2⟩:=h.ex
 exact h2.all _ (List.mem_map.2 ⟨p,hp,rfl⟩)
set_option maxHeartbeats 1000000 in
set_option maxRecDepth 100000 in
theorem fnew_any (w:World):Calls Tryz.prog 68 #[] w fun e w'=>e = .returned (.pointer (some ⟨w.heap.size,0,none⟩))∧FrO w' w.heap.size []∧Below w.heap.size w w':=by
 have k:FrO (w.alloc (.cells #[.slice none 0 0] 142)) w.heap.size []:=⟨none,0,0,Blk.new _ _ _,Pcs.empty⟩
 have hb:Below w.heap.size w (w.alloc (.cells #[.slice none 0 0] 142)):=(Below.refl _ _).alloc (Nat.le_refl _) _
 go_enter Tryz.func68,Tryz.ntmps68
 go_wp2_with fail
 go_ret
 exact ⟨rfl,k,hb⟩
set_option maxHeartbeats 1000000 in
set_option maxRecDepth 100000 in
theorem clonep_any (l:List PcV) (A:Option Addr) (n c:Nat) (w:World) (h:Pcs w (fun _=>True) A n c l) (hn:n≤1099511627776) :
  Calls Tryz.prog 103 #[.slice A n c] w fun e w'=>∃ v,e = .returned v∧w'.ownsRow w.heap.size 145 33 v n (pccells l)∧Below w.heap.size w w':=by
 cases A with
 | none =>
  obtain ⟨rfl,rfl⟩:=h.sl.nil rfl
  obtain rfl:l=[]:=List.eq_nil_of_length_eq_zero h.len
  clear h
  have hnil:=fun w=>run_eql_slice_nil (P:=Tryz.prog) w 140 145 none 0 0 Tryz.underlying140
  go_enter Tryz.func103,Tryz.ntmps103
  go_wp2_with fail
  go_ret
  exact ⟨_,rfl,World.ownsRow_nil _ _ _ _,Below.refl _ _⟩
 | some a =>
  have hroom:=h.sl.room
  have hmx:=h.sl.max
  unfold maxLen at hmx
  have hb1:Below w.heap.size w (w.alloc (.cells #[] 145)):=(Below.refl _ _).alloc (Nat.le_refl _) _
  have ho0:(w.alloc (.cells #[] 145)).ownsRow w.heap.size 145 33 (.slice (some ⟨w.heap.size,0,none⟩) 0 0) 0 [] :=
   World.ownsRow_lit (base:=w.heap.size) (e:=145) (size:=33) w #[] 0 (Nat.le_refl _) (by unfold maxLen;decide) (by simp)
  obtain ⟨v1,w1,hr1,ho1,hg1,-⟩:=append_slv (ty:=140) Tryz.underlying140 infoFp (by simp [Value.cells]) (by decide) ho0 (h.step hb1).sl (onePc _) (by unfold maxLen;omega) (by omega) hb1.size
  rw [List.nil_append,Nat.zero_add] at ho1
  have hb2:=hb1.grown hg1 hb1.size (fun k hk=>by cases hk;exact Nat.le_refl _)
  have Hr1:=Lib.hid hr1
  have hnil:=fun w=>run_eql_slice_nil (P:=Tryz.prog) w 140 145 (some a) n c Tryz.underlying140
  clear hr1 ho0 hg1 hb1 h
  go_enter Tryz.func103,Tryz.ntmps103
  go_wp2_with ((with_reducible show wpList _ _ _ (⟨some 7,.call _,_,_,_,_⟩::_) _ _);refine wpList_run rfl v1 w1 (run_append_op (.tmp 5) (.tmp 6) 140 rfl _ _ rfl rfl Hr1.out) ?_;simp only [Act.put])
  go_ret
  exact ⟨_,rfl,ho1,hb2⟩
end Go.Proofs.YtdjhoankkddomaaGreat
