import Derived.Test.YtdjhoankkddomaaGreatQg236
namespace Go.Proofs.YtdjhoankkddomaaGreat
open Go Go.RowKit Go.Shelf
attribute [local go_sem] Oper.semAt_some
theorem rem_two (so:Int):∃ k:Nat,(wrap64 (so.tmod 2+2)).tmod 2=(k:Int)∧k<2:=by
 have h1:=Int.lt_tmod_of_pos so (show (0:Int)<2 by omega)
 have h2:=Int.tmod_lt_of_pos so (show (0:Int)<2 by omega)
 have h3:wrap64 (so.tmod 2+2)=so.tmod 2+2:=IntWalk.wrap64_in _ (by omega)
 rw [h3]
 exact rem_natL so 2 (by decide)
set_option maxHeartbeats 16000000 in
set_option maxRecDepth 100000 in
theorem step2_any {w W:World} {gw n:Nat} {S:WS} (h:WdJ w gw (fun _=>False) S W) (hq:EqB n S) (hnp:S.np≤12) (hn:n≤1000) (so sa sb:Int) (sA:Option Addr) (sn sc:Nat) :
  Calls Tryz.prog 7 #[mpt gw,.agg #[.int .i64 2,.int .i64 so,.int .i64 sa,.int .i64 sb,.slice sA sn sc]] W fun e w'=>e = .returned (.bool true)∧StepQ w gw (n+1) w':=by
 obtain ⟨w1,hw1⟩:∃ x,W.alloc (.cells #[.int .i64 2,.int .i64 so,.int .i64 sa,.int .i64 sb,.slice sA sn sc] 43)=x:=⟨_,rfl⟩
 have B1:Below W.heap.size W w1:=by rw [← hw1];exact (Below.refl _ _).alloc (Nat.le_refl _) _
 have k1:Blk w1 W.heap.size 43 #[.int .i64 2,.int .i64 so,.int .i64 sa,.int .i64 sb,.slice sA sn sc]:=by rw [← hw1];exact Blk.new _ _ _
 have c1:w1.cell? ⟨W.heap.size,1,none⟩=some (.int .i64 so):=by rw [k1.cell];rfl
 obtain ⟨k,hkx,hk2⟩:=rem_two so
 have hkn:k<S.np:=Nat.lt_of_lt_of_le hk2 h.two
 have dk1:decide ((k:Int)<2)=true:=by simp;omega
 have dk2:(k:Int)<2:=by omega
 have hS:Below W.heap.size W w1.drew:=B1.drew
 have cM:∀ s:InC (fun W'=>Below W.heap.size W W'),s.W.cell? ⟨gw,k,none⟩=some (mpt (S.gm k)):=fun s=>(h.step s.ok).cm k hk2
 have cX:∀ s:InC (fun W'=>Below W.heap.size W W'),s.W.cell? ⟨gw,2+k,none⟩=some (mpt (S.gx k)):=fun s=>(h.step s.ok).cx k hk2
 have ks:Blk w1.drew W.heap.size 43 #[.int .i64 2,.int .i64 so,.int .i64 sa,.int .i64 sb,.slice sA sn sc]:=k1.step (Below.refl w1.heap.size w1).drew
 have Hw1:=Lib.hid hw1
 have Hkx:=Lib.hid hkx
 have Hh:=Lib.hid h
 clear hw1 h k1 B1 hkx
 go_enter Tryz.func7,Tryz.ntmps7
 go_upto_region 2 with (rw [Hw1.out])
 rw [Hkx.out]
 refine wp_region_mix (fun W'=>Below W.heap.size W W') [(0,true),(1,true),(2,true),(3,true),(4,true),(5,true),(6,true),(7,true),(8,true),(9,true),(10,true),(11,true),(12,true),(13,true)] (by kernel_rfl) (by kernel_rfl) hS fun _=>?_
 simp only [List.map_cons,List.map_nil,Array.getD_eq_getD_getElem?,List.getElem?_toArray,List.getElem?_cons_succ,List.getElem?_cons_zero,Option.getD_some]
 generalize w1.drew=W0 at hS ks ⊢
 iterate 14 (refine wpMix_s (fun K hK=>?_);go_simp;refine hK _ ?_;clear hK K)
 refine wpMix_nil ?_
 intro _
 have h:=Hh.out.step hS
 have cs0:W0.cell? ⟨W.heap.size,0,none⟩=some (.int .i64 2):=by rw [ks.cell];rfl
 have hgs:∀ b,SoU (WV gw S.ov S.wv fun _=>False) S.nm S.M S.nx S.X b→b<W.heap.size:=Hh.out.soup.ult
 clear Hh cM cX Hw1 Hkx c1
 obtain ⟨hmx,hbd⟩:=hq k hkn
 have hMd:=h.md k hkn
 have hXd:=h.xd k hkn
 obtain ⟨mo,hmo⟩:∃ x,(S.M (S.pr k).1).m=x:=⟨_,rfl⟩
 have hxm:(S.X (S.pr k).2).m=mo:=hmx.symm.trans hmo
 rw [hxm] at hXd
 rw [hmo] at hMd hbd
 have HXm:=Lib.hid hxm
 have HInj:=Lib.hid h.inj
 clear hmo hmx hxm
 have he:=hbd.eq
 by_cases ho:mo.only=true
 ·have hm:=mflush_only _ _ _ _ _ _ hMd ho
  have hx:=xflush_only hXd ho
  clear hMd hXd
  go_wp2_with fail
  refine hm.mono ?_
  rintro e w3 ⟨rfl,hw⟩
  obtain rfl:=hw.symm
  go_wp2_with fail
  refine hx.mono ?_
  rintro e w4 ⟨rfl,hw⟩
  obtain rfl:=hw.symm
  go_wp2_with fail
  go_ret
  exact ⟨rfl,S,h,hq.up (Nat.le_succ _),hnp⟩
 ·have ho:mo.only=false:=by simpa using ho
  have hm:=mflush_any _ _ _ _ _ _ hMd ho (by omega)
  have hbg:=(hMd.fresh ho).1
  clear hMd hXd
  go_wp2_with fail
  refine hm.mono ?_
  rintro e w3 ⟨rfl,hMS⟩
  obtain ⟨R1,h3⟩:=h.callM k hkn hMS
  have hXd:Xd _ (S.gx k) _ (S.X (S.pr k).2).m w3:=h3.xd k hkn
  rw [HXm.out] at hXd
  have hx:=xflush_any hXd ho (by omega)
  clear hMS hXd hm
  go_wp2_with fail
  refine hx.mono ?_
  rintro e w4 ⟨rfl,hXS⟩
  clear hx
  go_wp2_with fail
  go_ret
  obtain ⟨R2,h4⟩:=h3.callX k hkn hXS
  exact ⟨rfl,_,h4,hq.put (Nat.le_succ _) HInj.out k hkn _ _ _ ((hbd.flush hbg).up (Nat.le_succ _)),hnp⟩
set_option maxHeartbeats 16000000 in
set_option maxRecDepth 100000 in
theorem step3_any {w W:World} {gw n:Nat} {S:WS} (h:WdJ w gw (fun _=>False) S W) (hq:EqB n S) (hnp:S.np≤12) (_hn:n≤1000) (so sa sb:Int) (sA:Option Addr) (sn sc:Nat) :
  Calls Tryz.prog 7 #[mpt gw,.agg #[.int .i64 3,.int .i64 so,.int .i64 sa,.int .i64 sb,.slice sA sn sc]] W fun e w'=>e = .returned (.bool true)∧StepQ w gw (n+1) w':=by
 obtain ⟨w1,hw1⟩:∃ x,W.alloc (.cells #[.int .i64 3,.int .i64 so,.int .i64 sa,.int .i64 sb,.slice sA sn sc] 43)=x:=⟨_,rfl⟩
 have B1:Below W.heap.size W w1:=by rw [← hw1];exact (Below.refl _ _).alloc (Nat.le_refl _) _
 have k1:Blk w1 W.heap.size 43 #[.int .i64 3,.int .i64 so,.int .i64 sa,.int .i64 sb,.slice sA sn sc]:=by rw [← hw1];exact Blk.new _ _ _
 have c1:w1.cell? ⟨W.heap.size,1,none⟩=some (.int .i64 so):=by rw [k1.cell];rfl
 obtain ⟨k,hkx,hk2⟩:=rem_two so
 have hkn:k<S.np:=Nat.lt_of_lt_of_le hk2 h.two
 have dk1:decide ((k:Int)<2)=true:=by simp;omega
 have dk2:(k:Int)<2:=by omega
 have hS:Below W.heap.size W w1.drew:=B1.drew
 have cM:∀ s:InC (fun W'=>Below W.heap.size W W'),s.W.cell? ⟨gw,k,none⟩=some (mpt (S.gm k)):=fun s=>(h.step s.ok).cm k hk2
 have cX:∀ s:InC (fun W'=>Below W.heap.size W W'),s.W.cell? ⟨gw,2+k,none⟩=some (mpt (S.gx k)):=fun s=>(h.step s.ok).cx k hk2
 have ks:Blk w1.drew W.heap.size 43 #[.int .i64 3,.int .i64 so,.int .i64 sa,.int .i64 sb,.slice sA sn sc]:=k1.step (Below.refl w1.heap.size w1).drew
 have Hw1:=Lib.hid hw1
 have Hkx:=Lib.hid hkx
 have Hh:=Lib.hid h
 clear hw1 h k1 B1 hkx
 go_enter Tryz.func7,Tryz.ntmps7
 go_upto_region 2 with (rw [Hw1.out])
 rw [Hkx.out]
 refine wp_region_mix (fun W'=>Below W.heap.size W W') [(0,true),(1,true),(2,true),(3,true),(4,true),(5,true),(6,true),(7,true),(8,true),(9,true),(10,true),(11,true),(12,true),(13,true)] (by kernel_rfl) (by kernel_rfl) hS fun _=>?_
 simp only [List.map_cons,List.map_nil,Array.getD_eq_getD_getElem?,List.getElem?_toArray,List.getElem?_cons_succ,List.getElem?_cons_zero,Option.getD_some]
 generalize w1.drew=W0 at hS ks ⊢
 iterate 14 (refine wpMix_s (fun K hK=>?_);go_simp;refine hK _ ?_;clear hK K)
 refine wpMix_nil ?_
 intro _
 have h:=Hh.out.step hS
 have cs0:W0.cell? ⟨W.heap.size,0,none⟩=some (.int .i64 3):=by rw [ks.cell];rfl
 have hgs:∀ b,SoU (WV gw S.ov S.wv fun _=>False) S.nm S.M S.nx S.X b→b<W.heap.size:=Hh.out.soup.ult
 clear Hh cM cX Hw1 Hkx c1
 obtain ⟨hmx,hbd⟩:=hq k hkn
 have hMd:=h.md k hkn
 have hXd:=h.xd k hkn
 obtain ⟨mo,hmo⟩:∃ x,(S.M (S.pr k).1).m=x:=⟨_,rfl⟩
 have hxm:(S.X (S.pr k).2).m=mo:=hmx.symm.trans hmo
 rw [hxm] at hXd
 rw [hmo] at hMd hbd
 have HXm:=Lib.hid hxm
 have HInj:=Lib.hid h.inj
 clear hmo hmx hxm
 have hm:=msettle_any hMd
 have hx:=xmay_any hXd
 clear hMd hXd
 obtain ⟨r,hr⟩:∃ x:Int,(if mo.only=true then 10 else 0)=x:=⟨_,rfl⟩
 rw [hr] at hm hx
 clear hr
 go_wp2_with (first
  | (go_at_call 20;refine hm.mono ?_;rintro e w' ⟨rfl,hw⟩;obtain rfl:=hw.symm)
  | (go_at_call 21;refine hx.mono ?_;rintro e w' ⟨rfl,hw⟩;obtain rfl:=hw.symm))
 go_ret
 exact ⟨rfl,S,h,hq.up (Nat.le_succ _),hnp⟩
set_option maxHeartbeats 16000000 in
set_option maxRecDepth 100000 in
theorem step0_any {w W:World} {gw n:Nat} {S:WS} (h:WdJ w gw (fun _=>False) S W) (hq:EqB n S) (hnp:S.np≤12) (_hn:n≤1000) (sk so sa sb:Int) (sA:Option Addr) (sn sc:Nat) (hk:sk<1∨9<sk) :
  Calls Tryz.prog 7 #[mpt gw,.agg #[.int .i64 sk,.int .i64 so,.int .i64 sa,.int .i64 sb,.slice sA sn sc]] W fun e w'=>e = .returned (.bool true)∧StepQ w gw (n+1) w':=by
 obtain ⟨w1,hw1⟩:∃ x,W.alloc (.cells #[.int .i64 sk,.int .i64 so,.int .i64 sa,.int .i64 sb,.slice sA sn sc] 43)=x:=⟨_,rfl⟩
 have B1:Below W.heap.size W w1:=by rw [← hw1];exact (Below.refl _ _).alloc (Nat.le_refl _) _
 have k1:Blk w1 W.heap.size 43 #[.int .i64 sk,.int .i64 so,.int .i64 sa,.int .i64 sb,.slice sA sn sc]:=by rw [← hw1];exact Blk.new _ _ _
 have c1:w1.cell? ⟨W.heap.size,1,none⟩=some (.int .i64 so):=by rw [k1.cell];rfl
 obtain ⟨k,hkx,hk2⟩:=rem_two so
 have hkn:k<S.np:=Nat.lt_of_lt_of_le hk2 h.two
 have dk1:decide ((k:Int)<2)=true:=by simp;omega
 have dk2:(k:Int)<2:=by omega
 have hS:Below W.heap.size W w1.drew:=B1.drew
 have cM:∀ s:InC (fun W'=>Below W.heap.size W W'),s.W.cell? ⟨gw,k,none⟩=some (mpt (S.gm k)):=fun s=>(h.step s.ok).cm k hk2
 have cX:∀ s:InC (fun W'=>Below W.heap.size W W'),s.W.cell? ⟨gw,2+k,none⟩=some (mpt (S.gx k)):=fun s=>(h.step s.ok).cx k hk2
 have ks:Blk w1.drew W.heap.size 43 #[.int .i64 sk,.int .i64 so,.int .i64 sa,.int .i64 sb,.slice sA sn sc]:=k1.step (Below.refl w1.heap.size w1).drew
 have Hw1:=Lib.hid hw1
 have Hkx:=Lib.hid hkx
 have Hh:=Lib.hid h
 clear hw1 h k1 B1 hkx
 go_enter Tryz.func7,Tryz.ntmps7
 go_upto_region 2 with (rw [Hw1.out])
 rw [Hkx.out]
 refine wp_region_mix (fun W'=>Below W.heap.size W W') [(0,true),(1,true),(2,true),(3,true),(4,true),(5,true),(6,true),(7,true),(8,true),(9,true),(10,true),(11,true),(12,true),(13,true)] (by kernel_rfl) (by kernel_rfl) hS fun _=>?_
 simp only [List.map_cons,List.map_nil,Array.getD_eq_getD_getElem?,List.getElem?_toArray,List.getElem?_cons_succ,List.getElem?_cons_zero,Option.getD_some]
 generalize w1.drew=W0 at hS ks ⊢
 iterate 14 (refine wpMix_s (fun K hK=>?_);go_simp;refine hK _ ?_;clear hK K)
 refine wpMix_nil ?_
 intro _
 have h:=Hh.out.step hS
 have cs0:W0.cell? ⟨W.heap.size,0,none⟩=some (.int .i64 sk):=by rw [ks.cell];rfl
 have hgs:∀ b,SoU (WV gw S.ov S.wv fun _=>False) S.nm S.M S.nx S.X b→b<W.heap.size:=Hh.out.soup.ult
 clear Hh cM cX Hw1 Hkx c1
 obtain ⟨hmx,hbd⟩:=hq k hkn
 have hMd:=h.md k hkn
 have hXd:=h.xd k hkn
 obtain ⟨mo,hmo⟩:∃ x,(S.M (S.pr k).1).m=x:=⟨_,rfl⟩
 have hxm:(S.X (S.pr k).2).m=mo:=hmx.symm.trans hmo
 rw [hxm] at hXd
 rw [hmo] at hMd hbd
 have HXm:=Lib.hid hxm
 have HInj:=Lib.hid h.inj
 clear hmo hmx hxm
 clear hMd hXd
 have d1:(sk==1)=false:=by simp;omega
 have d2:(sk==2)=false:=by simp;omega
 have d3:(sk==3)=false:=by simp;omega
 have d4:(sk==4)=false:=by simp;omega
 have d5:(sk==5)=false:=by simp;omega
 have d6:(sk==6)=false:=by simp;omega
 have d7:(sk==7)=false:=by simp;omega
 have d8:(sk==8)=false:=by simp;omega
 have d9:(sk==9)=false:=by simp;omega
 clear hk
 go_wp2_with fail
 go_ret
 exact ⟨rfl,S,h,hq.up (Nat.le_succ _),hnp⟩
end Go.Proofs.YtdjhoankkddomaaGreat
