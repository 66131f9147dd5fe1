import Derived.Test.YtdjhoankkddomaaGreatQg249
import Derived.Test.YtdjhoankkddomaaGreatQg225
namespace Go.Proofs.YtdjhoankkddomaaGreat
open Go Go.RowKit Go.Shelf
attribute [local go_sem] Oper.semAt_some
theorem blk_cm {W:World} {gw:Nat} {M:Nat→MP} {X:Nat→XP} {cm cx:Nat→Nat} {ov wv:Value} (h:Blk W gw 33 (wcells (mpt (M (cm 0)).g) (mpt (M (cm 1)).g) (mpt (X (cx 0)).g) (mpt (X (cx 1)).g) ov wv)) (k:Nat) (hk:k<2):W.cell? ⟨gw,k,none⟩=some (mpt (M (cm k)).g)∧W.cell? ⟨gw,2+k,none⟩=some (mpt (X (cx k)).g):=by
 rw [h.cell,h.cell]
 rcases (by omega:k=0∨k=1) with rfl|rfl <;> exact ⟨rfl,rfl⟩
theorem own_at {W:World} {base n:Nat} {e:TypeId} {v:Value} {xs:List Value} (h:W.ownsRow base e 1 v n xs) (hn:0<n):∃ g c,v = .slice (some ⟨g,0,none⟩) n c∧n≤c∧c≤maxLen∧∀ V,Below W.heap.size W V→∀ (j:Nat) (u:Value),xs[j]?=some u→V.cell? ⟨g,j,none⟩=some u:=by
 rcases h.2 with ⟨_,h0⟩|⟨g,cap,cur,hv,hb,hgg,h1,h2,h3,h4⟩
 ·omega
 ·have hg:Blk W g e cur:=hgg
  refine ⟨g,cap,hv,h1,h2,fun V hV j u hu=>?_⟩
  rw [(hg.step hV).cell,← Array.getElem?_toList]
  rw [← h4,List.getElem?_take] at hu
  split at hu
  ·exact hu
  ·cases hu
theorem range_at {α:Type} (f:Nat→α) (n i:Nat) (h:i<n):((List.range n).map f)[i]?=some (f i):=by simp [h]
theorem FiI.put {w W:World} {gw k nm nx no:Nat} {M:Nat→MP} {X:Nat→XP} {cm cx po px:Nat→Nat} {ov wv:Value} (hk:k<2) (h:WdK w gw (fun _=>False) nm M nx X cm cx (no+1) (setF po no (cm k)) (no+1) (setF px no (cx k)) ov wv W)
  (h1:∀ i,i<2→(M (cm i)).m=(X (cx i)).m∧Bd 150 (M (cm i)).m) (h2:∀ i,i<no→(M (po i)).m=(X (px i)).m∧Bd 150 (M (po i)).m) (hn:no≤10+k):FiI w gw (k+1) W:=by
 refine ⟨_,_,_,_,_,_,_,_,_,_,_,h,h1,fun i hi=>?_,by omega⟩
 by_cases e:i=no
 ·subst e;rw [setF_eq,setF_eq];exact h1 k hk
 ·rw [setF_ne _ _ e,setF_ne _ _ e];exact h2 i (by omega)
set_option maxHeartbeats 16000000 in
set_option maxRecDepth 100000 in
theorem modelPlays_any (w:World) (sg cp:Int) (A:Option Addr) (n2 c2:Nat) (ss:List PStep) (hS:PScr w A n2 c2 ss) :
  Calls Tryz.prog 3 #[.agg #[.int .i64 sg,.int .i64 cp],.slice A n2 c2] w fun e w'=>e = .returned (.bool true)∧Below w.heap.size w w':=by
 have hroom2:=hS.room
 have hmx2:=hS.max
 unfold maxLen at hmx2
 have hlen2:=hS.len
 obtain ⟨w1,hw1⟩:∃ x,w.alloc (.cells #[.int .i64 sg,.int .i64 cp] 23)=x:=⟨_,rfl⟩
 have b1:Below w.heap.size w w1:=by rw [← hw1];exact (Below.refl _ _).alloc (Nat.le_refl _) _
 have k1:Blk w1 w.heap.size 23 #[.int .i64 sg,.int .i64 cp]:=by rw [← hw1];exact Blk.new _ _ _
 obtain ⟨w2,hw2⟩:∃ x,w1.alloc (.cells #[.pointer none,.pointer none,.pointer none,.pointer none,.slice none 0 0,.slice none 0 0] 33)=x:=⟨_,rfl⟩
 have b2:Below w1.heap.size w1 w2:=by rw [← hw2];exact (Below.refl _ _).alloc (Nat.le_refl _) _
 have k2:Blk w2 w1.heap.size 33 (icells 0 (fun _=>⟨0,R0,MoV.new sg cp⟩) (fun _=>⟨0,X0,MoV.new sg cp⟩)):=by rw [← hw2];exact Blk.new _ _ _
 have B2:=b1.trans (b2.mono b1.size)
 have hI0:InI w w.heap.size w1.heap.size sg cp 0 w2:=by
  have:=k1.lt
  refine ⟨k1.step b2,⟨_,_,⟨fun i hi=>absurd hi (Nat.not_lt_zero _),fun i hi=>absurd hi (Nat.not_lt_zero _),fun i j hi=>absurd hi (Nat.not_lt_zero _),fun i j hi=>absurd hi (Nat.not_lt_zero _),fun i j hi=>absurd hi (Nat.not_lt_zero _),fun i hi=>absurd hi (Nat.not_lt_zero _),fun i hi=>absurd hi (Nat.not_lt_zero _),fun b e=>?_,fun i hi=>absurd hi (Nat.not_lt_zero _)⟩,k2,fun i hi=>absurd hi (Nat.not_lt_zero _)⟩,B2,b1.size,by omega,Nat.lt_of_lt_of_le this b2.size⟩
  rw [e];exact k2.lt
 obtain ⟨gc,hgc⟩:∃ x,w.heap.size=x:=⟨_,rfl⟩
 obtain ⟨gw,hgw⟩:∃ x,w1.heap.size=x:=⟨_,rfl⟩
 have hI:InI w gc gw sg cp 0 w2:=by rw [← hgc,← hgw];exact hI0
 have Hw1:=Lib.hid hw1
 have Hw2:=Lib.hid hw2
 have HS:=Lib.hid hS
 have Hlen2:=Lib.hid hlen2
 have Hgc:=Lib.hid hgc
 have Hgw:=Lib.hid hgw
 clear hw1 hw2 b1 k1 b2 k2 B2 hI0 hS hlen2 hgc hgw
 go_enter Tryz.func3,Tryz.ntmps3
 go_wp2_with (first
  | rw [Hw1.out]
  | ((with_reducible show wpList _ _ _ (⟨some 16,.build _ _,_,_,_,_⟩::_) _ _);refine wpList_run0 rfl (.agg #[.pointer none,.pointer none,.pointer none,.pointer none,.slice none 0 0,.slice none 0 0]) (by kernel_rfl) ?_;simp only [Act.put,List.setIfInBounds_toArray,List.set_cons_succ,List.set_cons_zero])
  | ((with_reducible show wpList _ _ _ (⟨some 17,.box _ _,_,_,_,_⟩::_) _ _);refine wpList_run rfl (.pointer (some ⟨w1.heap.size,0,none⟩)) w2 (by rw [← Hw2.out];kernel_rfl) ?_;simp only [Act.put,List.setIfInBounds_toArray,List.set_cons_succ,List.set_cons_zero]))
 rw [Hgw.out,Hgc.out]
 go_loopw [6] (fun v6 wr=>∃ k:Nat,k≤2∧v6 = .int .i64 (k:Int)∧InI w gc gw sg cp k wr) (fun v6 _=>2 - (intOf v6).toNat)
 case atStart=>exact ⟨0,by omega,rfl,hI⟩
 case round =>
  clear hI
  obtain ⟨k,hk,rfl,hI⟩:=hrel
  by_cases hk2:k<2
  ·have hd:decide ((k:Int)<2)=true:=by simp;omega
   have hd':(k:Int)<2:=by omega
   have hwk:IntKind.i64.wrap ((k:Int)+1)=(k:Int)+1:=IntWalk.i64_in _ (by omega)
   have hld:∀ V,Below wr.heap.size wr V→(Instr.loadAt 23 (.pointer (some ⟨gc,0,none⟩))).run Tryz.prog V = .ok (.agg #[.int .i64 sg,.int .i64 cp]) V:=fun V hb=>run_load_blk (aggCf _) (sizeCf _) _ _ rfl (hI.step hb).cf
   have hld0:=hld wr (Below.refl _ _)
   by_cases hj:jobOk sg cp=true
   ·obtain ⟨M,X,hs,hb,hn⟩:=hI.ex
    have hm:=mnew_any (SoU (fun b=>b=gw) k M k X) sg cp wr (fun b hz=>hs.ult b hz) hj
    have Hs:=Lib.hid hs
    have Hb:=Lib.hid hb
    have Hn:=Lib.hid hn
    have HI:=Lib.hid hI
    have Hld:=Lib.hid hld
    have Hj:=Lib.hid hj
    clear hs hb hn hI hld hj
    go_wp2_with (first
     | ((with_reducible show wpList _ _ _ (⟨some 23,.load _ _,_,_,_,_⟩::_) _ _);refine wpList_load rfl 23 (.tmp 2) rfl gc 0 rfl _ hld0 ?_;simp only [Act.put,List.setIfInBounds_toArray,List.set_cons_succ,List.set_cons_zero]))
    refine hm.mono ?_
    rintro e w3 ⟨g,R,rfl,hMd,b3⟩
    have hld3:=Hld.out w3 b3
    have hx:=rnew24_any sg cp w3 Hj.out
    clear hm hld0
    go_wp2_with (first
     | ((with_reducible show wpList _ _ _ (⟨some 28,.load _ _,_,_,_,_⟩::_) _ _);refine wpList_load rfl 23 (.tmp 2) rfl gc 0 rfl _ hld3 ?_;simp only [Act.put,List.setIfInBounds_toArray,List.set_cons_succ,List.set_cons_zero]))
    refine hx.mono ?_
    rintro e w4 ⟨g',rfl,hg',hXb,b4⟩
    have hD:Below w4.heap.size w4 w4.drew:=(Below.refl _ _).drew
    obtain ⟨x1,y1,x2,y2,hI2⟩:=HI.out.add hk2 Hs.out Hb.out Hn.out b3 hMd (Nat.le_refl _) (b4.trans (hD.mono b4.size)) hg' (hXb.step hD)
    obtain ⟨w5,hw5⟩:∃ x,w4.drew.setCell ⟨gw,k,none⟩ (mpt g)=x:=⟨_,rfl⟩
    rw [hw5] at x2 y2 hI2
    have hT:KB (fun b=>b=gw) w4 w4.drew:=KB.of_below hD
    have hT5:KB (fun b=>b=gw) w4 w5:=by rw [← hw5];exact kb_cell (M:=fun b=>b=gw) hT rfl k _
    have hT6:KB (fun b=>b=gw) w4 (w5.setCell ⟨gw,2+k,none⟩ (mpt g')):=kb_cell (M:=fun b=>b=gw) hT5 rfl (2+k) _
    have Hw5:=Lib.hid hw5
    have HI2:=Lib.hid hI2
    clear hx hMd hXb b3 b4 hD hw5 hI2 hld3 hg'
    go_wp2_with fail
    refine wp_region_mix (fun W'=>KB (fun b=>b=gw) w4 W') [(0,true),(1,true),(2,true),(3,true),(4,true),(5,true),(6,true),(7,true),(8,true),(10,true),(11,true),(9,false),(12,true),(13,false)] (by kernel_rfl) (by kernel_rfl) hT fun _=>?_
    simp only [List.map_cons,List.map_nil,Array.getD_eq_getD_getElem?,List.getElem?_toArray,List.getElem?_cons_succ,List.getElem?_cons_zero,Option.getD_some]
    iterate 11 (refine wpMix_s (fun K hK=>?_);go_simp;refine hK _ ?_;clear hK K)
    refine wpMix_put1 (by kernel_rfl) 26 (.tmp 53) (.tmp 49) rfl sizePtrM ⟨gw,k,none⟩ (mpt g) rfl rfl rfl _ x1 y1 (by rw [Hw5.out];exact hT5) ?_
    simp only [Act.put]
    rw [Hw5.out]
    (refine wpMix_s (fun K hK=>?_);go_simp;refine hK _ ?_;clear hK K)
    refine wpMix_put1 (by kernel_rfl) 28 (.tmp 56) (.tmp 50) rfl sizePtrX ⟨gw,2+k,none⟩ (mpt g') rfl rfl rfl _ x2 y2 hT6 ?_
    simp only [Act.put]
    refine wpMix_nil ?_
    intro _
    go_wp2_with fail
    go_roundw
    case rel=>exact ⟨k+1,by omega,by go_num,HI2.out⟩
    case measure=>simp [intOf];omega
   ·have hj:jobOk sg cp=false:=by simpa using hj
    have hm:=mnew_bad sg cp wr hj
    have Hld:=Lib.hid hld
    have Hj:=Lib.hid hj
    clear hld hj
    go_wp2_with (first
     | ((with_reducible show wpList _ _ _ (⟨some 23,.load _ _,_,_,_,_⟩::_) _ _);refine wpList_load rfl 23 (.tmp 2) rfl gc 0 rfl _ hld0 ?_;simp only [Act.put,List.setIfInBounds_toArray,List.set_cons_succ,List.set_cons_zero]))
    refine hm.mono ?_
    rintro e w3 ⟨rfl,b3⟩
    have hld3:=Hld.out w3 b3
    have hx:=rnew24_bad sg cp w3 Hj.out
    clear hm hld0
    go_wp2_with (first
     | ((with_reducible show wpList _ _ _ (⟨some 28,.load _ _,_,_,_,_⟩::_) _ _);refine wpList_load rfl 23 (.tmp 2) rfl gc 0 rfl _ hld3 ?_;simp only [Act.put,List.setIfInBounds_toArray,List.set_cons_succ,List.set_cons_zero]))
    refine hx.mono ?_
    rintro e w4 ⟨rfl,b4⟩
    clear hx hld3
    go_wp2_with (first
     | (go_at_call 6;refine (known24_any _).mono ?_;rintro e w9 ⟨rfl,b9⟩))
    go_ret
    exact ⟨rfl,(((hI.step b3).step b4).step b9).bel⟩
  ·have hke:k=2:=by omega
   have hd:decide ((k:Int)<2)=false:=by simp;omega
   have hd':¬ (k:Int)<2:=by omega
   have hq0:StepQ w gw 0 wr:=by rw [hke] at hI;exact hI.q
   clear hke
   have Hq0:=Lib.hid hq0
   clear hI hq0
   go_wp2_with fail
   go_loopw [11] (fun v11 wr=>∃ i:Nat,i≤n2∧i≤150∧v11 = .int .i64 (i:Int)∧StepQ w gw i wr) (fun v11 _=>n2 - (intOf v11).toNat)
   case atStart=>exact ⟨0,Nat.zero_le _,Nat.zero_le _,rfl,Hq0.out⟩
   case round =>
    obtain ⟨i,hi,hi3,rfl,hQ⟩:=hrel
    by_cases hin:i<n2
    ·have hd1:decide ((i:Int)<(n2:Int))=true:=by simp;omega
     have hd1':decide (i<n2)=true:=by simp;omega
     by_cases hi150:i<150
     ·have hd2:decide ((i:Int)<150)=true:=by simp;omega
      have hd2':(i:Int)<150:=by omega
      have hwi:IntKind.i64.wrap ((i:Int)+1)=(i:Int)+1:=IntWalk.i64_in _ (by omega)
      have hil:i<ss.length:=by rw [Hlen2.out];exact hin
      obtain ⟨b,o',rfl,hbl,-⟩:=HS.out.at_ i hil
      have hld:(Instr.loadAt 43 (.pointer (some ⟨b,o'+i*5,none⟩))).run Tryz.prog wr = .ok (.agg (ss[i]).cells) wr:=by
       obtain ⟨S,hJ,-⟩:=hQ
       exact HS.out.load hJ.bel i hil rfl
      obtain ⟨hs1,hs2,hs3⟩:=HS.out.ins ss[i] (List.getElem_mem hil)
      obtain ⟨s,hs_⟩:∃ s,ss[i]=s:=⟨_,rfl⟩
      rw [hs_] at hld hs1 hs2 hs3
      have hst:=step_any hQ (by omega) s hs1 hs2 hs3
      have Hst:=Lib.hid hst
      have Hld:=Lib.hid hld
      clear hst hQ hs1 hs2 hs3 hs_ Hq0 hld
      go_wp2_with (first
       | ((with_reducible show wpList _ _ _ (⟨some 71,.load _ _,_,_,_,_⟩::_) _ _);refine wpList_runG (by kernel_rfl) (.agg s.cells) _ (run_load_op 43 (.tmp 70) rfl b (o'+i*5) rfl _ Hld.out) ?_;simp only [Act.put,List.setIfInBounds_toArray,List.set_cons_succ,List.set_cons_zero]))
      refine Hst.out.mono ?_
      rintro e w3 ⟨rfl,hQ3⟩
      have HQ3:=Lib.hid hQ3
      clear Hst Hld hQ3
      go_wp2_with fail
      go_roundw
      case rel=>exact ⟨i+1,by omega,by omega,by go_num,HQ3.out⟩
      case measure=>simp [intOf];omega
     ·have hd2:decide ((i:Int)<150)=false:=by simp;omega
      have hd2':¬ (i:Int)<150:=by omega
      have hF:=hQ.fi hi3
      clear hQ Hq0
      have HF:=Lib.hid hF
      clear hF
      go_wp2_with fail
      go_loopw [13] (fun v13 wr=>∃ k:Nat,k≤2∧v13 = .int .i64 (k:Int)∧FiI w gw k wr) (fun v13 _=>2 - (intOf v13).toNat)
      case atStart=>exact ⟨0,by omega,rfl,HF.out⟩
      case round =>
       obtain ⟨k,hk,rfl,hF⟩:=hrel
       obtain ⟨nm,M,nx,X,cm,cx,no,po,px,ov,wv,hK,hc,hp,hno⟩:=hF.ex
       clear hF HF
       by_cases hk2:k<2
       ·have hdk:decide ((k:Int)<2)=true:=by simp;omega
        have hdk':(k:Int)<2:=by omega
        have hwk:IntKind.i64.wrap ((k:Int)+1)=(k:Int)+1:=IntWalk.i64_in _ (by omega)
        obtain ⟨Ao,co,hov,hso⟩:=owns_slv hK.old
        have hgo:ov.ownBlock≠some gw:=own_ty hK.old hK.blk (by decide)
        have hD:Below wr.heap.size wr wr.drew:=(Below.refl _ _).drew
        have hT:KB (fun b=>ov.ownBlock=some b) wr wr.drew:=KB.of_below hD
        have E4:∀ s:InC (fun W'=>KB (fun b=>ov.ownBlock=some b) wr W'),s.W.cell? ⟨gw,4,none⟩=some (.slice Ao no co):=fun s=>by rw [(s.ok.blk hK.blk hgo).cell,← hov];rfl
        have Ek:∀ s:InC (fun W'=>KB (fun b=>ov.ownBlock=some b) wr W'),s.W.cell? ⟨gw,k,none⟩=some (mpt (M (cm k)).g):=fun s=>(blk_cm (s.ok.blk hK.blk hgo) k hk2).1
        obtain ⟨v1,w1,hr1,z1,x1,y1,hK2,-,hk1⟩:=(hK.step hD).pushO (cm k) (hK.cmb k hk2) (by omega)
        rw [hov] at hr1 x1
        have ha1:KB (fun b=>ov.ownBlock=some b) wr (wr.drew.alloc (.cells #[mpt (M (cm k)).g] 26)):=hT.trans (KB.of_below ((Below.refl _ _).alloc (Nat.le_refl _) _))
        have hT1:=hT.trans hk1
        obtain ⟨w6,hw6⟩:∃ x,w1.setCell ⟨gw,4,none⟩ v1=x:=⟨_,rfl⟩
        rw [hw6] at hK2
        obtain ⟨gm,hgm⟩:∃ x,(M (cm k)).g=x:=⟨_,rfl⟩
        rw [hgm] at Ek hr1 ha1
        have Hw6:=Lib.hid hw6
        have HK2:=Lib.hid hK2
        have Hc:=Lib.hid hc
        have Hp:=Lib.hid hp
        clear hK hK2 hw6 hk1 hso hgo hgm hD hc hp
        go_wp2_with fail
        refine wp_region_mix_tail (fun W'=>KB (fun b=>ov.ownBlock=some b) wr W') 15 [(0,true),(1,true),(2,true),(3,true),(4,true),(5,true),(6,true),(7,true),(8,true),(9,true),(10,true),(11,false),(12,false),(13,true),(14,true)] (by kernel_rfl) (by kernel_rfl) hT fun _=>?_
        simp only [List.map_cons,List.map_nil,Array.getD_eq_getD_getElem?,List.getElem?_toArray,List.getElem?_cons_succ,List.getElem?_cons_zero,Option.getD_some]
        iterate 11 (refine wpMix_s (fun K hK=>?_);go_simp;refine hK _ ?_;clear hK K)
        refine wpMix_run (by kernel_rfl) (.slice (some ⟨wr.drew.heap.size,0,none⟩) 1 1) (wr.drew.alloc (.cells #[mpt gm] 26)) (by kernel_rfl) ha1 ?_
        simp only [Act.put,List.setIfInBounds_toArray,List.set_cons_succ,List.set_cons_zero]
        refine wpMix_run (by kernel_rfl) v1 w1 (run_append_op (.tmp 83) (.tmp 90) 30 rfl _ _ rfl rfl hr1) hT1 ?_
        simp only [Act.put,List.setIfInBounds_toArray,List.set_cons_succ,List.set_cons_zero]
        iterate 2 (refine wpMix_s (fun K hK=>?_);go_simp;refine hK _ ?_;clear hK K)
        refine wpMix_nil ?_
        intro _
        simp only [List.drop_succ_cons,List.drop_zero]
        refine wpList_put1i rfl 30 (.tmp 93) (.tmp 91) rfl sizePm ⟨gw,4,none⟩ v1 rfl rfl z1 _ x1 y1 ?_
        simp only [Act.put]
        refine wpList_nil ?_
        refine np_normal ?_
        rw [Hw6.out]
        have hK:=HK2.out
        clear HK2 Hw6 hT hT1 ha1 hr1 x1 y1 z1 E4 Ek
        obtain ⟨Aw,cw,hwv,hsw⟩:=owns_slv hK.was
        have hgo:wv.ownBlock≠some gw:=own_ty hK.was hK.blk (by decide)
        have hD:Below w6.heap.size w6 w6.drew:=(Below.refl _ _).drew
        have hT:KB (fun b=>wv.ownBlock=some b) w6 w6.drew:=KB.of_below hD
        have E5:∀ s:InC (fun W'=>KB (fun b=>wv.ownBlock=some b) w6 W'),s.W.cell? ⟨gw,5,none⟩=some (.slice Aw no cw):=fun s=>by rw [(s.ok.blk hK.blk hgo).cell,← hwv];rfl
        have Ek:∀ s:InC (fun W'=>KB (fun b=>wv.ownBlock=some b) w6 W'),s.W.cell? ⟨gw,2+k,none⟩=some (mpt (X (cx k)).g):=fun s=>(blk_cm (s.ok.blk hK.blk hgo) k hk2).2
        obtain ⟨v2,w7,hr2,z2,x2,y2,hK3,-,hk7⟩:=(hK.step hD).pushW (cx k) (hK.cxb k hk2) (by omega)
        rw [hwv] at hr2 x2
        have ha2:KB (fun b=>wv.ownBlock=some b) w6 (w6.drew.alloc (.cells #[mpt (X (cx k)).g] 28)):=hT.trans (KB.of_below ((Below.refl _ _).alloc (Nat.le_refl _) _))
        have hT1:=hT.trans hk7
        have hFn:=FiI.put hk2 hK3 Hc.out Hp.out hno
        obtain ⟨gx,hgx⟩:∃ x,(X (cx k)).g=x:=⟨_,rfl⟩
        rw [hgx] at Ek hr2 ha2
        have HFn:=Lib.hid hFn
        clear hK hK3 hk7 hsw hgo hgx hD hFn Hc Hp
        go_wp2_with fail
        refine wp_region_mix_tail (fun W'=>KB (fun b=>wv.ownBlock=some b) w6 W') 15 [(0,true),(1,true),(2,true),(3,true),(4,true),(5,true),(6,true),(7,true),(8,true),(9,true),(10,true),(11,false),(12,false),(13,true),(14,true)] (by kernel_rfl) (by kernel_rfl) hT fun _=>?_
        simp only [List.map_cons,List.map_nil,Array.getD_eq_getD_getElem?,List.getElem?_toArray,List.getElem?_cons_succ,List.getElem?_cons_zero,Option.getD_some]
        iterate 11 (refine wpMix_s (fun K hK=>?_);go_simp;refine hK _ ?_;clear hK K)
        refine wpMix_run (by kernel_rfl) (.slice (some ⟨w6.drew.heap.size,0,none⟩) 1 1) (w6.drew.alloc (.cells #[mpt gx] 28)) (by kernel_rfl) ha2 ?_
        simp only [Act.put,List.setIfInBounds_toArray,List.set_cons_succ,List.set_cons_zero]
        refine wpMix_run (by kernel_rfl) v2 w7 (run_append_op (.tmp 98) (.tmp 105) 31 rfl _ _ rfl rfl hr2) hT1 ?_
        simp only [Act.put,List.setIfInBounds_toArray,List.set_cons_succ,List.set_cons_zero]
        iterate 2 (refine wpMix_s (fun K hK=>?_);go_simp;refine hK _ ?_;clear hK K)
        refine wpMix_nil ?_
        intro _
        simp only [List.drop_succ_cons,List.drop_zero]
        refine wpList_put1i rfl 31 (.tmp 108) (.tmp 106) rfl sizePx ⟨gw,5,none⟩ v2 rfl rfl z2 _ x2 y2 ?_
        simp only [Act.put]
        refine wpList_nil ?_
        refine np_normal ?_
        go_wp2_with fail
        go_roundw
        case rel=>exact ⟨k+1,by omega,by go_num,HFn.out⟩
        case measure=>simp [intOf];omega
       ·have hdk:decide ((k:Int)<2)=false:=by simp;omega
        have hdk':¬ (k:Int)<2:=by omega
        have Hp:=Lib.hid hp
        have HK:=Lib.hid hK
        obtain ⟨Ao,co,hov,hso⟩:=owns_slv hK.old
        obtain ⟨Aw,cw,hwv,hsw⟩:=owns_slv hK.was
        have hro:=hso.room
        have hrw:=hsw.room
        have hmo:=hso.max
        have hmw:=hsw.max
        unfold maxLen at hmo hmw
        clear hK hp hc hso hsw
        go_wp2_with fail
        go_loopw [14] (fun v14 wr=>∃ i:Nat,i≤no∧v14 = .int .i64 (i:Int)∧WdK w gw (fun _=>False) nm M nx X cm cx no po no px ov wv wr) (fun v14 _=>no - (intOf v14).toNat)
        case atStart=>exact ⟨0,Nat.zero_le _,rfl,HK.out⟩
        case round =>
         clear HK
         obtain ⟨i,hi,rfl,hK⟩:=hrel
         have c4:∀ V,Below wr.heap.size wr V→V.cell? ⟨gw,4,none⟩=some (.slice Ao no co):=fun V hb=>by rw [(hK.step hb).blk.cell,← hov];rfl
         have c5:∀ V,Below wr.heap.size wr V→V.cell? ⟨gw,5,none⟩=some (.slice Aw no cw):=fun V hb=>by rw [(hK.step hb).blk.cell,← hwv];rfl
         have c40:=c4 wr (Below.refl _ _)
         have c50:=c5 wr (Below.refl _ _)
         by_cases hin:i<no
         ·have hdi:decide ((i:Int)<(no:Int))=true:=by simp;omega
          have hdi2:decide (i<no)=true:=by simp;omega
          have hwi:IntKind.i64.wrap ((i:Int)+1)=(i:Int)+1:=IntWalk.i64_in _ (by omega)
          obtain ⟨go,co',eo,-,-,hgo⟩:=own_at hK.old (by omega)
          rw [hov] at eo
          injection eo with eo1 eo2 eo3
          subst eo1
          subst eo3
          clear eo2
          obtain ⟨gv,cw',ew,-,-,hgv⟩:=own_at hK.was (by omega)
          rw [hwv] at ew
          injection ew with ew1 ew2 ew3
          subst ew1
          subst ew3
          clear ew2
          have co1:∀ V,Below wr.heap.size wr V→V.cell? ⟨go,i,none⟩=some (mpt (M (po i)).g):=fun V hb=>hgo V hb i _ (range_at (fun i=>mpt (M (po i)).g) no i hin)
          have cw1:∀ V,Below wr.heap.size wr V→V.cell? ⟨gv,i,none⟩=some (mpt (X (px i)).g):=fun V hb=>hgv V hb i _ (range_at (fun i=>mpt (X (px i)).g) no i hin)
          have cw10:=cw1 wr (Below.refl _ _)
          obtain ⟨he,hbd⟩:=Hp.out i hin
          have hMd:=hK.soup.md _ (hK.pob i hin)
          have hXd:=hK.soup.xd _ (hK.pxb i hin)
          rw [← he] at hXd
          have hbq:=hbd.eq
          have hsz:=xsize_any hXd
          have ht:=fun V (hb:Below wr.heap.size wr V)=>told_any _ _ _ _ _ V (hMd.step hb) _ _ _ (hXd.step hb) 0 (by omega) (by omega)
          have ha:=fun V (hb:Below wr.heap.size wr V) a b=>asks_any _ _ _ _ _ V (hMd.step hb) _ _ _ (hXd.step hb) a b hbd.e (by omega)
          obtain ⟨gm,hgm⟩:∃ x,(M (po i)).g=x:=⟨_,rfl⟩
          obtain ⟨gx,hgx⟩:∃ x,(X (px i)).g=x:=⟨_,rfl⟩
          rw [hgm] at co1 ht ha
          rw [hgx] at cw1 cw10 hsz ht ha
          obtain ⟨ne,hne⟩:∃ x,(M (po i)).m.ents.length=x:=⟨_,rfl⟩
          rw [hne] at hsz
          have Ht:=Lib.hid ht
          have Ha:=Lib.hid ha
          have HK:=Lib.hid hK
          have hS:Below wr.heap.size wr wr.drew:=(Below.refl _ _).drew
          have D4:∀ s:InC (fun W'=>Below wr.heap.size wr W'),s.W.cell? ⟨gw,4,none⟩=some (.slice (some ⟨go,0,none⟩) no co):=fun s=>c4 _ s.ok
          have D5:∀ s:InC (fun W'=>Below wr.heap.size wr W'),s.W.cell? ⟨gw,5,none⟩=some (.slice (some ⟨gv,0,none⟩) no cw):=fun s=>c5 _ s.ok
          have Do:∀ s:InC (fun W'=>Below wr.heap.size wr W'),s.W.cell? ⟨go,i,none⟩=some (mpt gm):=fun s=>co1 _ s.ok
          have Dw:∀ s:InC (fun W'=>Below wr.heap.size wr W'),s.W.cell? ⟨gv,i,none⟩=some (mpt gx):=fun s=>cw1 _ s.ok
          clear hMd hXd ht ha hgm hgx hne hbd he hgo hgv co1 cw1 c4 c5 hK hov hwv hbq
          go_wp2_with (go_at_call 8;refine hsz.mono ?_;rintro e w' ⟨rfl,hw⟩;obtain rfl:=hw.symm)
          refine wp_region_mix (fun W'=>Below wr.heap.size wr W') [(0,true),(1,true),(2,true),(3,true),(4,true),(5,true),(6,true),(7,true),(8,true),(9,true),(10,true),(11,true),(12,true),(13,true),(14,false),(15,true),(16,true),(17,true),(18,true),(19,true),(20,true),(21,true),(22,true),(23,true),(24,true),(25,true),(26,true),(27,true),(28,true),(29,true),(30,true),(31,true),(32,true),(33,true),(34,false),(35,true),(36,true)] (by kernel_rfl) (by kernel_rfl) hS fun _=>?_
          simp only [List.map_cons,List.map_nil,Array.getD_eq_getD_getElem?,List.getElem?_toArray,List.getElem?_cons_succ,List.getElem?_cons_zero,Option.getD_some]
          generalize wr.drew=Wk at hS ⊢
          iterate 14 (refine wpMix_s (fun K hK=>?_);go_simp;refine hK _ ?_;clear hK K)
          refine wpMix_c (fun K hK=>?_) hS
          go_simp
          refine (Ht.out Wk hS).mono ?_
          rintro e Wk_1 ⟨rfl,hb'⟩
          refine hK _ _ ?_
          clear hK K
          replace hS:=hS.trans (hb'.mono hS.size)
          refine ⟨hS,?_⟩
          clear hb'
          iterate 19 (refine wpMix_s (fun K hK=>?_);go_simp;refine hK _ ?_;clear hK K)
          refine wpMix_c (fun K hK=>?_) hS
          go_simp
          refine (Ha.out Wk_1 hS _ _).mono ?_
          rintro e Wk_2 ⟨rfl,hb'⟩
          refine hK _ _ ?_
          clear hK K
          replace hS:=hS.trans (hb'.mono hS.size)
          refine ⟨hS,?_⟩
          clear hb'
          iterate 2 (refine wpMix_s (fun K hK=>?_);go_simp;refine hK _ ?_;clear hK K)
          refine wpMix_nil ?_
          intro _
          have hK9:=Lib.hid (HK.out.step hS)
          clear HK hS
          go_wp2_with fail
          go_roundw
          case rel=>exact ⟨i+1,by omega,by go_num,hK9.out⟩
          case measure=>simp [intOf];omega
         ·obtain rfl:i=no:=by omega
          have hdi:decide ((i:Int)<(i:Int))=false:=by simp
          clear hov hwv
          go_wp2_with (first
           | (go_at_call 6;refine (known24_any _).mono ?_;rintro e w9 ⟨rfl,b9⟩))
          go_ret
          exact ⟨rfl,(hK.step b9).bel⟩
    ·have hd1:decide ((i:Int)<(n2:Int))=false:=by simp;omega
     have hF:=hQ.fi hi3
     clear hQ Hq0
     have HF:=Lib.hid hF
     clear hF
     go_wp2_with fail
     go_loopw [13] (fun v13 wr=>∃ k:Nat,k≤2∧v13 = .int .i64 (k:Int)∧FiI w gw k wr) (fun v13 _=>2 - (intOf v13).toNat)
     case atStart=>exact ⟨0,by omega,rfl,HF.out⟩
     case round =>
      obtain ⟨k,hk,rfl,hF⟩:=hrel
      obtain ⟨nm,M,nx,X,cm,cx,no,po,px,ov,wv,hK,hc,hp,hno⟩:=hF.ex
      clear hF HF
      by_cases hk2:k<2
      ·have hdk:decide ((k:Int)<2)=true:=by simp;omega
       have hdk':(k:Int)<2:=by omega
       have hwk:IntKind.i64.wrap ((k:Int)+1)=(k:Int)+1:=IntWalk.i64_in _ (by omega)
       obtain ⟨Ao,co,hov,hso⟩:=owns_slv hK.old
       have hgo:ov.ownBlock≠some gw:=own_ty hK.old hK.blk (by decide)
       have hD:Below wr.heap.size wr wr.drew:=(Below.refl _ _).drew
       have hT:KB (fun b=>ov.ownBlock=some b) wr wr.drew:=KB.of_below hD
       have E4:∀ s:InC (fun W'=>KB (fun b=>ov.ownBlock=some b) wr W'),s.W.cell? ⟨gw,4,none⟩=some (.slice Ao no co):=fun s=>by rw [(s.ok.blk hK.blk hgo).cell,← hov];rfl
       have Ek:∀ s:InC (fun W'=>KB (fun b=>ov.ownBlock=some b) wr W'),s.W.cell? ⟨gw,k,none⟩=some (mpt (M (cm k)).g):=fun s=>(blk_cm (s.ok.blk hK.blk hgo) k hk2).1
       obtain ⟨v1,w1,hr1,z1,x1,y1,hK2,-,hk1⟩:=(hK.step hD).pushO (cm k) (hK.cmb k hk2) (by omega)
       rw [hov] at hr1 x1
       have ha1:KB (fun b=>ov.ownBlock=some b) wr (wr.drew.alloc (.cells #[mpt (M (cm k)).g] 26)):=hT.trans (KB.of_below ((Below.refl _ _).alloc (Nat.le_refl _) _))
       have hT1:=hT.trans hk1
       obtain ⟨w6,hw6⟩:∃ x,w1.setCell ⟨gw,4,none⟩ v1=x:=⟨_,rfl⟩
       rw [hw6] at hK2
       obtain ⟨gm,hgm⟩:∃ x,(M (cm k)).g=x:=⟨_,rfl⟩
       rw [hgm] at Ek hr1 ha1
       have Hw6:=Lib.hid hw6
       have HK2:=Lib.hid hK2
       have Hc:=Lib.hid hc
       have Hp:=Lib.hid hp
       clear hK hK2 hw6 hk1 hso hgo hgm hD hc hp
       go_wp2_with fail
       refine wp_region_mix_tail (fun W'=>KB (fun b=>ov.ownBlock=some b) wr W') 15 [(0,true),(1,true),(2,true),(3,true),(4,true),(5,true),(6,true),(7,true),(8,true),(9,true),(10,true),(11,false),(12,false),(13,true),(14,true)] (by kernel_rfl) (by kernel_rfl) hT fun _=>?_
       simp only [List.map_cons,List.map_nil,Array.getD_eq_getD_getElem?,List.getElem?_toArray,List.getElem?_cons_succ,List.getElem?_cons_zero,Option.getD_some]
       iterate 11 (refine wpMix_s (fun K hK=>?_);go_simp;refine hK _ ?_;clear hK K)
       refine wpMix_run (by kernel_rfl) (.slice (some ⟨wr.drew.heap.size,0,none⟩) 1 1) (wr.drew.alloc (.cells #[mpt gm] 26)) (by kernel_rfl) ha1 ?_
       simp only [Act.put,List.setIfInBounds_toArray,List.set_cons_succ,List.set_cons_zero]
       refine wpMix_run (by kernel_rfl) v1 w1 (run_append_op (.tmp 83) (.tmp 90) 30 rfl _ _ rfl rfl hr1) hT1 ?_
       simp only [Act.put,List.setIfInBounds_toArray,List.set_cons_succ,List.set_cons_zero]
       iterate 2 (refine wpMix_s (fun K hK=>?_);go_simp;refine hK _ ?_;clear hK K)
       refine wpMix_nil ?_
       intro _
       simp only [List.drop_succ_cons,List.drop_zero]
       refine wpList_put1i rfl 30 (.tmp 93) (.tmp 91) rfl sizePm ⟨gw,4,none⟩ v1 rfl rfl z1 _ x1 y1 ?_
       simp only [Act.put]
       refine wpList_nil ?_
       refine np_normal ?_
       rw [Hw6.out]
       have hK:=HK2.out
       clear HK2 Hw6 hT hT1 ha1 hr1 x1 y1 z1 E4 Ek
       obtain ⟨Aw,cw,hwv,hsw⟩:=owns_slv hK.was
       have hgo:wv.ownBlock≠some gw:=own_ty hK.was hK.blk (by decide)
       have hD:Below w6.heap.size w6 w6.drew:=(Below.refl _ _).drew
       have hT:KB (fun b=>wv.ownBlock=some b) w6 w6.drew:=KB.of_below hD
       have E5:∀ s:InC (fun W'=>KB (fun b=>wv.ownBlock=some b) w6 W'),s.W.cell? ⟨gw,5,none⟩=some (.slice Aw no cw):=fun s=>by rw [(s.ok.blk hK.blk hgo).cell,← hwv];rfl
       have Ek:∀ s:InC (fun W'=>KB (fun b=>wv.ownBlock=some b) w6 W'),s.W.cell? ⟨gw,2+k,none⟩=some (mpt (X (cx k)).g):=fun s=>(blk_cm (s.ok.blk hK.blk hgo) k hk2).2
       obtain ⟨v2,w7,hr2,z2,x2,y2,hK3,-,hk7⟩:=(hK.step hD).pushW (cx k) (hK.cxb k hk2) (by omega)
       rw [hwv] at hr2 x2
       have ha2:KB (fun b=>wv.ownBlock=some b) w6 (w6.drew.alloc (.cells #[mpt (X (cx k)).g] 28)):=hT.trans (KB.of_below ((Below.refl _ _).alloc (Nat.le_refl _) _))
       have hT1:=hT.trans hk7
       have hFn:=FiI.put hk2 hK3 Hc.out Hp.out hno
       obtain ⟨gx,hgx⟩:∃ x,(X (cx k)).g=x:=⟨_,rfl⟩
       rw [hgx] at Ek hr2 ha2
       have HFn:=Lib.hid hFn
       clear hK hK3 hk7 hsw hgo hgx hD hFn Hc Hp
       go_wp2_with fail
       refine wp_region_mix_tail (fun W'=>KB (fun b=>wv.ownBlock=some b) w6 W') 15 [(0,true),(1,true),(2,true),(3,true),(4,true),(5,true),(6,true),(7,true),(8,true),(9,true),(10,true),(11,false),(12,false),(13,true),(14,true)] (by kernel_rfl) (by kernel_rfl) hT fun _=>?_
       simp only [List.map_cons,List.map_nil,Array.getD_eq_getD_getElem?,List.getElem?_toArray,List.getElem?_cons_succ,List.getElem?_cons_zero,Option.getD_some]
       iterate 11 (refine wpMix_s (fun K hK=>?_);go_simp;refine hK _ ?_;clear hK K)
       refine wpMix_run (by kernel_rfl) (.slice (some ⟨w6.drew.heap.size,0,none⟩) 1 1) (w6.drew.alloc (.cells #[mpt gx] 28)) (by kernel_rfl) ha2 ?_
       simp only [Act.put,List.setIfInBounds_toArray,List.set_cons_succ,List.set_cons_zero]
       refine wpMix_run (by kernel_rfl) v2 w7 (run_append_op (.tmp 98) (.tmp 105) 31 rfl _ _ rfl rfl hr2) hT1 ?_
       simp only [Act.put,List.setIfInBounds_toArray,List.set_cons_succ,List.set_cons_zero]
       iterate 2 (refine wpMix_s (fun K hK=>?_);go_simp;refine hK _ ?_;clear hK K)
       refine wpMix_nil ?_
       intro _
       simp only [List.drop_succ_cons,List.drop_zero]
       refine wpList_put1i rfl 31 (.tmp 108) (.tmp 106) rfl sizePx ⟨gw,5,none⟩ v2 rfl rfl z2 _ x2 y2 ?_
       simp only [Act.put]
       refine wpList_nil ?_
       refine np_normal ?_
       go_wp2_with fail
       go_roundw
       case rel=>exact ⟨k+1,by omega,by go_num,HFn.out⟩
       case measure=>simp [intOf];omega
      ·have hdk:decide ((k:Int)<2)=false:=by simp;omega
       have hdk':¬ (k:Int)<2:=by omega
       have Hp:=Lib.hid hp
       have HK:=Lib.hid hK
       obtain ⟨Ao,co,hov,hso⟩:=owns_slv hK.old
       obtain ⟨Aw,cw,hwv,hsw⟩:=owns_slv hK.was
       have hro:=hso.room
       have hrw:=hsw.room
       have hmo:=hso.max
       have hmw:=hsw.max
       unfold maxLen at hmo hmw
       clear hK hp hc hso hsw
       go_wp2_with fail
       go_loopw [14] (fun v14 wr=>∃ i:Nat,i≤no∧v14 = .int .i64 (i:Int)∧WdK w gw (fun _=>False) nm M nx X cm cx no po no px ov wv wr) (fun v14 _=>no - (intOf v14).toNat)
       case atStart=>exact ⟨0,Nat.zero_le _,rfl,HK.out⟩
       case round =>
        clear HK
        obtain ⟨i,hi,rfl,hK⟩:=hrel
        have c4:∀ V,Below wr.heap.size wr V→V.cell? ⟨gw,4,none⟩=some (.slice Ao no co):=fun V hb=>by rw [(hK.step hb).blk.cell,← hov];rfl
        have c5:∀ V,Below wr.heap.size wr V→V.cell? ⟨gw,5,none⟩=some (.slice Aw no cw):=fun V hb=>by rw [(hK.step hb).blk.cell,← hwv];rfl
        have c40:=c4 wr (Below.refl _ _)
        have c50:=c5 wr (Below.refl _ _)
        by_cases hin:i<no
        ·have hdi:decide ((i:Int)<(no:Int))=true:=by simp;omega
         have hdi2:decide (i<no)=true:=by simp;omega
         have hwi:IntKind.i64.wrap ((i:Int)+1)=(i:Int)+1:=IntWalk.i64_in _ (by omega)
         obtain ⟨go,co',eo,-,-,hgo⟩:=own_at hK.old (by omega)
         rw [hov] at eo
         injection eo with eo1 eo2 eo3
         subst eo1
         subst eo3
         clear eo2
         obtain ⟨gv,cw',ew,-,-,hgv⟩:=own_at hK.was (by omega)
         rw [hwv] at ew
         injection ew with ew1 ew2 ew3
         subst ew1
         subst ew3
         clear ew2
         have co1:∀ V,Below wr.heap.size wr V→V.cell? ⟨go,i,none⟩=some (mpt (M (po i)).g):=fun V hb=>hgo V hb i _ (range_at (fun i=>mpt (M (po i)).g) no i hin)
         have cw1:∀ V,Below wr.heap.size wr V→V.cell? ⟨gv,i,none⟩=some (mpt (X (px i)).g):=fun V hb=>hgv V hb i _ (range_at (fun i=>mpt (X (px i)).g) no i hin)
         have cw10:=cw1 wr (Below.refl _ _)
         obtain ⟨he,hbd⟩:=Hp.out i hin
         have hMd:=hK.soup.md _ (hK.pob i hin)
         have hXd:=hK.soup.xd _ (hK.pxb i hin)
         rw [← he] at hXd
         have hbq:=hbd.eq
         have hsz:=xsize_any hXd
         have ht:=fun V (hb:Below wr.heap.size wr V)=>told_any _ _ _ _ _ V (hMd.step hb) _ _ _ (hXd.step hb) 0 (by omega) (by omega)
         have ha:=fun V (hb:Below wr.heap.size wr V) a b=>asks_any _ _ _ _ _ V (hMd.step hb) _ _ _ (hXd.step hb) a b hbd.e (by omega)
         obtain ⟨gm,hgm⟩:∃ x,(M (po i)).g=x:=⟨_,rfl⟩
         obtain ⟨gx,hgx⟩:∃ x,(X (px i)).g=x:=⟨_,rfl⟩
         rw [hgm] at co1 ht ha
         rw [hgx] at cw1 cw10 hsz ht ha
         obtain ⟨ne,hne⟩:∃ x,(M (po i)).m.ents.length=x:=⟨_,rfl⟩
         rw [hne] at hsz
         have Ht:=Lib.hid ht
         have Ha:=Lib.hid ha
         have HK:=Lib.hid hK
         have hS:Below wr.heap.size wr wr.drew:=(Below.refl _ _).drew
         have D4:∀ s:InC (fun W'=>Below wr.heap.size wr W'),s.W.cell? ⟨gw,4,none⟩=some (.slice (some ⟨go,0,none⟩) no co):=fun s=>c4 _ s.ok
         have D5:∀ s:InC (fun W'=>Below wr.heap.size wr W'),s.W.cell? ⟨gw,5,none⟩=some (.slice (some ⟨gv,0,none⟩) no cw):=fun s=>c5 _ s.ok
         have Do:∀ s:InC (fun W'=>Below wr.heap.size wr W'),s.W.cell? ⟨go,i,none⟩=some (mpt gm):=fun s=>co1 _ s.ok
         have Dw:∀ s:InC (fun W'=>Below wr.heap.size wr W'),s.W.cell? ⟨gv,i,none⟩=some (mpt gx):=fun s=>cw1 _ s.ok
         clear hMd hXd ht ha hgm hgx hne hbd he hgo hgv co1 cw1 c4 c5 hK hov hwv hbq
         go_wp2_with (go_at_call 8;refine hsz.mono ?_;rintro e w' ⟨rfl,hw⟩;obtain rfl:=hw.symm)
         refine wp_region_mix (fun W'=>Below wr.heap.size wr W') [(0,true),(1,true),(2,true),(3,true),(4,true),(5,true),(6,true),(7,true),(8,true),(9,true),(10,true),(11,true),(12,true),(13,true),(14,false),(15,true),(16,true),(17,true),(18,true),(19,true),(20,true),(21,true),(22,true),(23,true),(24,true),(25,true),(26,true),(27,true),(28,true),(29,true),(30,true),(31,true),(32,true),(33,true),(34,false),(35,true),(36,true)] (by kernel_rfl) (by kernel_rfl) hS fun _=>?_
         simp only [List.map_cons,List.map_nil,Array.getD_eq_getD_getElem?,List.getElem?_toArray,List.getElem?_cons_succ,List.getElem?_cons_zero,Option.getD_some]
         generalize wr.drew=Wk at hS ⊢
         iterate 14 (refine wpMix_s (fun K hK=>?_);go_simp;refine hK _ ?_;clear hK K)
         refine wpMix_c (fun K hK=>?_) hS
         go_simp
         refine (Ht.out Wk hS).mono ?_
         rintro e Wk_1 ⟨rfl,hb'⟩
         refine hK _ _ ?_
         clear hK K
         replace hS:=hS.trans (hb'.mono hS.size)
         refine ⟨hS,?_⟩
         clear hb'
         iterate 19 (refine wpMix_s (fun K hK=>?_);go_simp;refine hK _ ?_;clear hK K)
         refine wpMix_c (fun K hK=>?_) hS
         go_simp
         refine (Ha.out Wk_1 hS _ _).mono ?_
         rintro e Wk_2 ⟨rfl,hb'⟩
         refine hK _ _ ?_
         clear hK K
         replace hS:=hS.trans (hb'.mono hS.size)
         refine ⟨hS,?_⟩
         clear hb'
         iterate 2 (refine wpMix_s (fun K hK=>?_);go_simp;refine hK _ ?_;clear hK K)
         refine wpMix_nil ?_
         intro _
         have hK9:=Lib.hid (HK.out.step hS)
         clear HK hS
         go_wp2_with fail
         go_roundw
         case rel=>exact ⟨i+1,by omega,by go_num,hK9.out⟩
         case measure=>simp [intOf];omega
        ·obtain rfl:i=no:=by omega
         have hdi:decide ((i:Int)<(i:Int))=false:=by simp
         clear hov hwv
         go_wp2_with (first
          | (go_at_call 6;refine (known24_any _).mono ?_;rintro e w9 ⟨rfl,b9⟩))
         go_ret
         exact ⟨rfl,(hK.step b9).bel⟩
end Go.Proofs.YtdjhoankkddomaaGreat
