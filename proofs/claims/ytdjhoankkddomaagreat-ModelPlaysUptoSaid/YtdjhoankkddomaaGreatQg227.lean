import Derived.Test.YtdjhoankkddomaaGreatQg223
import Derived.Test.YtdjhoankkddomaaGreatQg219
import Derived.Test.YtdjhoankkddomaaGreatQg226
namespace Go.Proofs.YtdjhoankkddomaaGreat
open Go Go.RowKit Go.Shelf
attribute [local go_sem] Oper.semAt_some
def allShort (es:List (List UInt8)):Bool:=es.all fun x=>decide (x.length≤4096)
theorem allShort_iff (es:List (List UInt8)):allShort es=true↔∀ x ∈ es,x.length≤4096:=by simp [allShort]
def MoV.found (seg cap:Int) (fe:List (List UInt8)) (fh:Bool) (fs:Int) (fr:List UInt8):MoV :=
 { (MoV.new seg cap).put fe with lastS:=if fh then fs else 0,lastR:=if fh then fr else zero32,has:=fh }
def fromM (seg cap:Int) (fe:List (List UInt8)) (fh:Bool) (fs:Int) (fr:List UInt8):Bool:=jobOk seg cap&&allShort fe&&(!fh||ofM fe fs fr)
def FromAns (Z:Nat→Prop) (seg cap:Int) (fe:List (List UInt8)) (fh:Bool) (fs:Int) (fr:List UInt8) (W:World) (e:Ending) (w':World):Prop :=
 if fromM seg cap fe fh fs fr then ∃ lo g R,e = .returned (.tuple #[.pointer (some ⟨g,0,none⟩),.int .i64 0])∧W.heap.size≤lo∧Md Z lo g R (MoV.found seg cap fe fh fs fr) w'∧Below W.heap.size W w'
 else e = .returned (.tuple #[.pointer none,.int .i64 2])∧Below W.heap.size W w'
theorem FromAns.no {Z:Nat→Prop} {seg cap:Int} {fe:List (List UInt8)} {fh:Bool} {fs:Int} {fr:List UInt8} {W w':World} {e:Ending} (h:fromM seg cap fe fh fs fr=false) (h1:e = .returned (.tuple #[.pointer none,.int .i64 2])) (h2:Below W.heap.size W w'):FromAns Z seg cap fe fh fs fr W e w':=by
 unfold FromAns
 rw [h]
 exact ⟨h1,h2⟩
theorem FromAns.yes {Z:Nat→Prop} {seg cap:Int} {fe:List (List UInt8)} {fh:Bool} {fs:Int} {fr:List UInt8} {W w':World} {e:Ending} {lo g:Nat} {R:MdR} (h:fromM seg cap fe fh fs fr=true) (h1:e = .returned (.tuple #[.pointer (some ⟨g,0,none⟩),.int .i64 0])) (h2:W.heap.size≤lo) (h3:Md Z lo g R (MoV.found seg cap fe fh fs fr) w') (h4:Below W.heap.size W w'):FromAns Z seg cap fe fh fs fr W e w':=by
 unfold FromAns
 rw [h]
 exact ⟨lo,g,R,h1,h2,h3,h4⟩
set_option maxHeartbeats 16000000 in
set_option maxRecDepth 100000 in
theorem mfrom_any (Z:Nat→Prop) (seg q:Int) (fc:Array Value) (E:Option Addr) (n c:Nat) (fe:List (List UInt8)) (fh:Bool) (fs:Int) (fr:List UInt8) (W:World) (hZ:∀ b,Z b→b<W.heap.size) (hf:Fnd fc E n c fh fs fr) (he:Es W (fun _=>True) E n c fe) (hn:n≤100000) :
  Calls Tryz.prog 29 #[.agg #[.int .i64 seg,.int .i64 q],.agg fc] W (FromAns Z seg q fe fh fs fr W):=by
 obtain ⟨w1,hw1⟩:∃ x,W.alloc (.cells #[.int .i64 seg,.int .i64 q] 23)=x:=⟨_,rfl⟩
 have B1:Below W.heap.size W w1:=by rw [← hw1];exact (Below.refl _ _).alloc (Nat.le_refl _) _
 have k1:Blk w1 W.heap.size 23 #[.int .i64 seg,.int .i64 q]:=by rw [← hw1];exact Blk.new _ _ _
 obtain ⟨w2,hw2⟩:∃ x,w1.alloc (.cells fc 72)=x:=⟨_,rfl⟩
 have b2:Below w1.heap.size w1 w2:=by rw [← hw2];exact (Below.refl _ _).alloc (Nat.le_refl _) _
 have B2:=B1.trans (b2.mono B1.size)
 have k2:Blk w2 w1.heap.size 72 fc:=by rw [← hw2];exact Blk.new _ _ _
 have hld:(Instr.loadAt 23 (.pointer (some ⟨W.heap.size,0,none⟩))).run Tryz.prog w2 = .ok (.agg #[.int .i64 seg,.int .i64 q]) w2 :=
  run_load_agg (aggCf _) (sizeCf _) W.heap.size 0 [.int .i64 seg,.int .i64 q] rfl fun j u hu=>by
   rw [(k1.step b2).cell,Nat.zero_add,List.getElem?_toArray];exact hu
 obtain ⟨gf,hgf⟩:∃ x,w1.heap.size=x:=⟨_,rfl⟩
 have hWs:=B2.size
 have hWg:W.heap.size≤gf:=by rw [← hgf];exact B1.size
 rw [hgf] at k2
 have he2:=(he.weak (Y:=(·<W.heap.size)) fun b hb _=>hb).step (hb:=B2.mono (Nat.le_refl _))
 have hlen:=he.len
 have hroom:=he.room
 have hmx:=he.max
 unfold maxLen at hmx
 have Hw1:=Lib.hid hw1
 have HZ:=Lib.hid hZ
 have Hw2:=Lib.hid hw2
 have Hld:=Lib.hid hld
 clear hw1 hw2 hld k1 b2 B1 he hZ
 by_cases hj:jobOk seg q=true
 ·go_enter Tryz.func29,Tryz.ntmps29
  go_wp2_with (first
  | ((with_reducible show wpList _ _ _ (⟨some 2,.box _ _,_,_,_,_⟩::_) _ _);refine wpList_runG (by kernel_rfl) (.pointer (some ⟨W.heap.size,0,none⟩)) w1 (by rw [← Hw1.out];rfl) ?_;simp only [Act.put,List.setIfInBounds_toArray,List.set_cons_succ,List.set_cons_zero])
  | ((with_reducible show wpList _ _ _ (⟨some 3,.box _ _,_,_,_,_⟩::_) _ _);refine wpList_runG (by kernel_rfl) (.pointer (some ⟨w1.heap.size,0,none⟩)) w2 (by rw [← Hw2.out];rfl) ?_;rw [hgf];simp only [Act.put,List.setIfInBounds_toArray,List.set_cons_succ,List.set_cons_zero])
  | ((with_reducible show wpList _ _ _ (⟨some 11,.load _ _,_,_,_,_⟩::_) _ _);refine wpList_load rfl 23 (.tmp 2) rfl W.heap.size 0 rfl _ Hld.out ?_;simp only [Act.put,List.setIfInBounds_toArray,List.set_cons_succ,List.set_cons_zero]))
  refine (mnew_any Z seg q w2 (fun b hb=>Nat.lt_of_lt_of_le (HZ.out b hb) hWs) hj).mono ?_
  rintro e w3 ⟨g,R,rfl,h3,b3⟩
  have k3:=k2.step b3
  have he3:=he2.step b3
  have B3:=B2.trans (b3.mono hWs)
  have hlo:gf<w2.heap.size:=k2.lt
  obtain ⟨lo,hloe⟩:∃ x,w2.heap.size=x:=⟨_,rfl⟩
  rw [hloe] at h3 hlo hWs
  have f0:w3.cell? ⟨gf,0,none⟩=some (.slice E n c):=by rw [k3.cell];exact hf.c0
  have Hld3:=Lib.hid hloe
  have HB3:=Lib.hid B3
  have Hj:=Lib.hid hj
  clear k2 he2 B2 b3 hloe Hld B3 hj
  go_wp2_with fail
  go_loopw [9,21] (fun _ v wr=>∃ k:Nat,k≤n∧v = .int .i64 k∧(∀ j,j<k→(fe.getD j []).length≤4096)∧wr=w3) (fun _ v _=>n - (intOf v).toNat)
  case atStart=>exact ⟨0,Nat.zero_le _,rfl,fun j hj=>absurd hj (Nat.not_lt_zero _),rfl⟩
  case round =>
   obtain ⟨k,hk,rfl,hpre,hw⟩:=hrel
   obtain rfl:=hw.symm
   have Hpre:=Lib.hid hpre
   clear hpre
   by_cases hlt:k<n
   ·obtain ⟨b,o,rfl,-,-,hat⟩:=he3.at_ (by omega)
    obtain ⟨Ak,ck,ce,hsk⟩:=hat k hlt
    have hmem:fe.getD k [] ∈ fe:=by rw [List.getD_eq_getElem?_getD,List.getElem?_eq_getElem (by omega)];exact List.getElem_mem (by omega)
    have hrk:=hsk.room
    have hmk:=hsk.max
    unfold maxLen at hmk
    obtain ⟨ln,hln⟩:∃ x,(fe.getD k []).length=x:=⟨_,rfl⟩
    rw [hln] at ce hrk
    have Hln:=Lib.hid hln
    have Hmem:=Lib.hid hmem
    clear hat hsk hln hmem h3 he3 k3 f0
    by_cases hbig:ln≤4096
    ·have d1:decide ((4096:Int)<(ln:Int))=false:=by simp;omega
     have d2:decide (4096<ln)=false:=by simp;omega
     go_wp2_with fail
     refine ⟨⟨k+1,by omega,by go_num,fun j hj=>?_,trivial⟩,by simp [intOf];omega⟩
     rcases Nat.lt_or_eq_of_le (Nat.le_of_lt_succ hj) with h|h
     ·exact Hpre.out j h
     ·rw [h,Hln.out];exact hbig
    ·have d1:decide ((4096:Int)<(ln:Int))=true:=by simp;omega
     have d2:decide (4096<ln)=true:=by simp;omega
     go_wp2_with fail
     go_ret2
     refine FromAns.no ?_ rfl HB3.out
     unfold fromM
     have:allShort fe=false:=by
      rw [Bool.eq_false_iff]
      intro hs
      have:=(allShort_iff fe).1 hs _ Hmem.out
      rw [Hln.out] at this
      omega
     rw [this]
     simp
   ·obtain rfl:k=n:=by omega
    have hall:∀ x ∈ fe,x.length≤4096:=fun x hx=>by
     obtain ⟨j,hj,rfl⟩:=List.mem_iff_getElem.1 hx
     have:=Hpre.out j (by omega)
     rwa [List.getD_eq_getElem?_getD,List.getElem?_eq_getElem hj] at this
    have Hall:=Lib.hid hall
    clear hall
    have hz3:Below w3.heap.size w3 w3.drew:=(Below.refl _ _).drew
    have hT:True:=trivial
    go_upto_region 10 with fail
    refine wp_region_mix (fun _=>True) [(0,true),(1,true),(2,true),(3,true),(4,false),(5,false)] (by kernel_rfl) (by kernel_rfl) hT fun _=>?_
    simp only [List.map_cons,List.map_nil,Array.getD_eq_getD_getElem?,List.getElem?_toArray,List.getElem?_cons_succ,List.getElem?_cons_zero,Option.getD_some]
    generalize w3.drew=Z0 at hz3 ⊢
    iterate 4 (refine wpMix_s (fun K hK=>?_);go_simp;refine hK _ ?_;clear hK K)
    have h4:=h3.step hz3
    have k4:=k3.step hz3
    have he4:=he3.step hz3
    have f0z:Z0.cell? ⟨gf,0,none⟩=some (.slice E k c):=by rw [k4.cell];exact hf.c0
    refine wpMix_c (fun K hK=>?_) hT
    go_simp
    refine hK _ _ ?_
    clear hK K
    refine ⟨hT,?_⟩
    refine wpMix_c (fun K hK=>?_) hT
    go_simp
    have hput_lo:∀ b,PutW g R b→lo≤b:=fun b hm=>(h4.lt b hm.mdW).1
    have hput:=mput_any Z lo g R (MoV.new seg q) E k c fe Z0 (h4.mp (he4.weak fun b _ hx hm=>by have:=hput_lo b hm;omega)) h4.lastL h4.ptL (h4.fresh rfl) (by rw [hlen];show 0+k≤_;omega) (fun x hx=>by have:=Hall.out x hx;omega) h4.bigq
    refine hput.mono ?_
    rintro e W4 ⟨rfl,R',hD,hK9,-,-,-⟩
    refine hK _ _ ?_
    clear hK K
    refine ⟨hT,?_⟩
    refine wpMix_nil ?_
    intro _
    have hgl:¬ PutW g R gf:=fun hm=>by have:=hput_lo gf hm;omega
    have k44:=hK9.blk k4 hgl
    have c36:W4.cell? ⟨gf,4,none⟩=some (.bool fh):=by rw [k44.cell];exact hf.c4
    have B4:Below W.heap.size W W4:=(HB3.out.trans (hz3.mono HB3.out.size)).trans (hK9.below (fun b hm=>Nat.le_trans hWs (hput_lo b hm)) (Nat.le_trans HB3.out.size hz3.size))
    have HB4:=Lib.hid B4
    clear k4 f0 f0z he3 B4 hK9 hput_lo
    have hsh:allShort fe=true:=(allShort_iff fe).2 Hall.out
    cases fh with
    | false =>
     have hfm:fromM seg q fe false fs fr=true:=by unfold fromM;rw [Hj.out,hsh];rfl
     have Hfm:=Lib.hid hfm
     clear hfm hsh
     go_wp2_with fail
     go_ret2
     exact FromAns.yes Hfm.out rfl hWs hD HB4.out
    | true =>
     have lpt:∀ s:InC (fun V=>Below W4.heap.size W4 V),(Instr.loadAt 55 (.pointer (some ⟨gf,5,none⟩))).run Tryz.prog s.W = .ok (.agg (.int .i64 fs::fr.map B).toArray) s.W:=fun s=>hf.load (k44.step s.ok)
     have hput0:((MoV.new seg q).put fe).ents=fe:=rfl
     have hof:=fun V (hb:Below W4.heap.size W4 V)=>mof_any (hD.step hb) fs fr hf.len (by rw [hput0,hlen];omega)
     rw [hput0] at hof
     have frL:=hf.len
     have Lpt:=Lib.hid lpt
     have Hof:=Lib.hid hof
     have HD:=Lib.hid hD
     have K44:=Lib.hid k44
     have hS:Below W4.heap.size W4 W4.drew:=(Below.refl _ _).drew
     clear lpt hof hD k44 hput0
     obtain ⟨ok,hok⟩:∃ x,ofM fe fs fr=x:=⟨_,rfl⟩
     rw [hok] at Hof
     have Hok:=Lib.hid hok
     clear hok
     go_upto_region 12 with fail
     refine wp_region_mix (fun W=>Below W4.heap.size W4 W) [(0,true),(1,true),(2,true),(3,true),(4,true),(5,false),(6,true)] (by kernel_rfl) (by kernel_rfl) hS fun _=>?_
     simp only [List.map_cons,List.map_nil,Array.getD_eq_getD_getElem?,List.getElem?_toArray,List.getElem?_cons_succ,List.getElem?_cons_zero,Option.getD_some]
     generalize W4.drew=Z4 at hS ⊢
     iterate 4 (refine wpMix_s (fun K hK=>?_);go_simp;refine hK _ ?_;clear hK K)
     refine wpMix_load (by kernel_rfl) 55 (.tmp 40) rfl (gf) (5) rfl (.int .i64 fs::fr.map B).toArray (Lpt.out) ?_
     simp only [Act.put,List.setIfInBounds_toArray,List.set_cons_succ,List.set_cons_zero]
     refine wpMix_c (fun K hK=>?_) hS
     go_simp
     refine (Hof.out Z4 hS).mono ?_
     rintro e Z4_1 ⟨rfl,hb'⟩
     refine hK _ _ ?_
     clear hK K
     replace hS:=hS.trans (hb'.mono hS.size)
     refine ⟨hS,?_⟩
     clear hb'
     (refine wpMix_s (fun K hK=>?_);go_simp;refine hK _ ?_;clear hK K)
     refine wpMix_nil ?_
     intro _
     have hD5:=HD.out.step hS
     have k55:=K44.out.step hS
     have B5:=HB4.out.trans (hS.mono HB4.out.size)
     have HB5:=Lib.hid B5
     clear HD K44 hS Lpt Hof HB4 B5
     cases ok with
     | false =>
      have hfm:fromM seg q fe true fs fr=false:=by unfold fromM;rw [Hj.out,hsh,Hok.out];rfl
      have Hfm:=Lib.hid hfm
      clear hfm hsh hD5 k55
      go_wp2_with fail
      go_ret2
      exact FromAns.no Hfm.out rfl HB5.out
     | true =>
      have hfm:fromM seg q fe true fs fr=true:=by unfold fromM;rw [Hj.out,hsh,Hok.out];rfl
      have Hfm:=Lib.hid hfm
      obtain ⟨m0,hm0⟩:∃ x,(MoV.new seg q).put fe=x:=⟨_,rfl⟩
      have hfd:MoV.found seg q fe true fs fr={ m0 with lastS:=fs,lastR:=fr,has:=true }:=by rw [← hm0];rfl
      have hon:m0.only=false:=by rw [← hm0];rfl
      rw [hm0] at hD5
      obtain ⟨pc,hpc⟩:∃ x,(Value.int .i64 fs::fr.map B).toArray=x:=⟨_,rfl⟩
      have hpc33:pc.size=33:=by rw [← hpc];simp [frL]
      have hpc1:∀ v ∈ pc.toList,v.oneCell'=true:=by rw [← hpc];exact oneCell_pt _ _
      have lpt:=hf.load k55
      rw [hpc] at lpt
      obtain ⟨w6,hw6⟩:∃ x,Z4_1.setRow g ((mdArr R' m0).toList.take 6++pc.toList++(mdArr R' m0).toList.drop (6+33)).toArray=x:=⟨_,rfl⟩
      have hg6:Z4_1.grownBy w6 (some g):=by rw [← hw6];exact grown_setRow (World.grownBy.refl _ _) _
      have k6:Blk w6 g 57 (mdArr R' { m0 with lastS:=fs,lastR:=fr }):=by
       rw [← hw6,← md_last fs fr frL,← hpc]
       exact hD5.blk.setRow_ _
      have c39:w6.cell? ⟨g,39,none⟩=some (.bool m0.has):=by rw [k6.cell,md_at _ _ 39 (by decide)];rfl
      have f39:=k6.frozen 39
      obtain ⟨w7,hw7⟩:∃ x,w6.setCell ⟨g,39,none⟩ (.bool true)=x:=⟨_,rfl⟩
      have k7:Blk w7 g 57 (mdArr R' { m0 with lastS:=fs,lastR:=fr,has:=true }):=by
       rw [← hw7,← md_set (R:=R') (R':=R') (m:={ m0 with lastS:=fs,lastR:=fr }) (m':={ m0 with lastS:=fs,lastR:=fr,has:=true }) 39 (by decide) (.bool true) rfl fun i hi hne=>by simp only [mcell,hne,if_false]]
       exact k6.set_ 39 _
      have hg7:Z4_1.grownBy w7 (some g):=by rw [← hw7];exact grown_setCell hg6 39 _
      have hK7:KB (fun b=>b=g) Z4_1 w7:=KB.of_grown hg7 fun r e=>(Option.some.inj e).symm
      have hD7:Md Z lo g R' (MoV.found seg q fe true fs fr) w7:=by
       rw [hfd]
       exact hD5.turn hK7 k7 rfl rfl rfl (fun h=>h) frL hD5.ptL
      have hgW:W.heap.size≤g:=Nat.le_trans hWs hD5.low
      have B7:=HB5.out.trans (hK7.below (fun b e=>by omega) HB5.out.size)
      have hk5:=hD5.blk
      have Hw6:=Lib.hid hw6
      have Hw7:=Lib.hid hw7
      have HD7:=Lib.hid hD7
      have HB7:=Lib.hid B7
      have Hpc1:=Lib.hid hpc1
      clear hfm hsh hD5 k55 hm0 hfd hpc hw6 hg6 k6 hw7 k7 hg7 hK7 hD7 B7 hpc1 HB5 hon
      go_wp2_with (first
  | ((with_reducible show wpList _ _ _ (⟨some 47,.load _ _,_,_,_,_⟩::_) _ _);refine wpList_load rfl 55 (.tmp 46) rfl gf 5 rfl pc lpt ?_;simp only [Act.put,List.setIfInBounds_toArray,List.set_cons_succ,List.set_cons_zero])
  | ((with_reducible show wpList _ _ _ (⟨none,.store _ (.tmp 49) _,_,_,_,_⟩::_) _ _);refine wpList_store_agg rfl 55 (.tmp 49) (.tmp 47) rfl 33 ptSize g 6 pc rfl rfl hpc33 Hpc1.out 57 (mdArr R' m0) hk5 (by rw [md_size];decide) ?_;rw [Hw6.out];simp only [Act.put])
  | ((with_reducible show wpList _ _ _ (⟨none,.store _ (.tmp 51) _,_,_,_,_⟩::_) _ _);refine wpList_put1i rfl 4 (.tmp 51) (.const (.bool true)) rfl sizeBl ⟨g,39,none⟩ (.bool true) rfl rfl rfl _ c39 f39 ?_;rw [Hw7.out];simp only [Act.put]))
      go_ret2
      exact FromAns.yes Hfm.out rfl hWs HD7.out HB7.out
 ·have hj0:jobOk seg q=false:=by simpa using hj
  have hfm:fromM seg q fe fh fs fr=false:=by unfold fromM;rw [hj0];rfl
  have Hfm:=Lib.hid hfm
  have HB2:=Lib.hid B2
  clear hfm hj he2 k2 B2
  go_enter Tryz.func29,Tryz.ntmps29
  go_wp2_with (first
  | ((with_reducible show wpList _ _ _ (⟨some 2,.box _ _,_,_,_,_⟩::_) _ _);refine wpList_runG (by kernel_rfl) (.pointer (some ⟨W.heap.size,0,none⟩)) w1 (by rw [← Hw1.out];rfl) ?_;simp only [Act.put,List.setIfInBounds_toArray,List.set_cons_succ,List.set_cons_zero])
  | ((with_reducible show wpList _ _ _ (⟨some 3,.box _ _,_,_,_,_⟩::_) _ _);refine wpList_runG (by kernel_rfl) (.pointer (some ⟨w1.heap.size,0,none⟩)) w2 (by rw [← Hw2.out];rfl) ?_;rw [hgf];simp only [Act.put,List.setIfInBounds_toArray,List.set_cons_succ,List.set_cons_zero])
  | ((with_reducible show wpList _ _ _ (⟨some 11,.load _ _,_,_,_,_⟩::_) _ _);refine wpList_load rfl 23 (.tmp 2) rfl W.heap.size 0 rfl _ Hld.out ?_;simp only [Act.put,List.setIfInBounds_toArray,List.set_cons_succ,List.set_cons_zero]))
  refine (mnew_bad seg q w2 hj0).mono ?_
  rintro e w3 ⟨rfl,b3⟩
  have B3:=HB2.out.trans (b3.mono hWs)
  clear b3 Hld
  go_wp2_with fail
  go_ret2
  exact FromAns.no Hfm.out rfl B3
end Go.Proofs.YtdjhoankkddomaaGreat
