import Derived.Test.YtdjhoankkddomaaGreatQg227
import Derived.Test.YtdjhoankkddomaaGreatQg225
namespace Go.Proofs.YtdjhoankkddomaaGreat
open Go Go.RowKit Go.Shelf
attribute [local go_sem] Oper.semAt_some
def X0:XdR:=⟨.slice none 0 0,.slice none 0 0,.slice none 0 0⟩
theorem xd_last {R:XdR} {m:MoV} (s:Int) (r:List UInt8) (hr:r.length=32):((xdArr R m).toList.take 5++(.int .i64 s::r.map B)++(xdArr R m).toList.drop (5+33)).toArray=xdArr R { m with lastS:=s,lastR:=r }:=by
 refine xd_ext (by simp [xd_size,hr]) fun i hi=>?_
 have hl:((xdArr R m).toList.take 5).length=5:=by rw [List.length_take,Array.length_toList,xd_size];rfl
 have hp:(Value.int .i64 s::r.map B).length=33:=by simp [hr]
 rw [List.getElem?_toArray]
 by_cases h1:i<5
 ·rw [List.getElem?_append_left (by rw [List.length_append,hl,hp];omega),List.getElem?_append_left (by rw [hl];omega),List.getElem?_take_of_lt h1,Array.getElem?_toList,xd_at _ _ _ hi]
  unfold xcell
  simp only [show i≠5 by omega,show i<38 by omega,if_false,if_true]
  match i,h1 with
  | 0,_=>rfl
  | 1,_=>rfl
  | 2,_=>rfl
  | 3,_=>rfl
  | 4,_=>rfl
 ·by_cases h2:i<38
  ·rw [List.getElem?_append_left (by rw [List.length_append,hl,hp];omega),List.getElem?_append_right (by rw [hl];omega),hl]
   by_cases h3:i=5
   ·subst h3;rfl
   ·obtain ⟨j,rfl⟩:∃ j,i=j+6:=⟨i - 6,by omega⟩
    rw [show j+6 - 5=j+1 by omega,List.getElem?_cons_succ,List.getElem?_map,List.getElem?_eq_getElem (by omega)]
    unfold xcell
    simp only [show j+6≠0 by omega,show j+6≠1 by omega,show j+6≠2 by omega,show j+6≠3 by omega,show j+6≠4 by omega,show j+6≠5 by omega,show j+6<38 by omega,if_false,if_true]
    rw [show j+6 - 6=j by omega,List.getD_eq_getElem?_getD,List.getElem?_eq_getElem (by omega)]
    rfl
  ·rw [List.getElem?_append_right (by rw [List.length_append,hl,hp];omega),List.length_append,hl,hp,List.getElem?_drop,show 5+33+(i - (5+33))=i by omega,Array.getElem?_toList,xd_at _ _ _ hi]
   unfold xcell
   simp only [show i≠0 by omega,show i≠1 by omega,show i≠2 by omega,show i≠3 by omega,show i≠4 by omega,show i≠5 by omega,show ¬ i<38 by omega,if_false]
set_option maxHeartbeats 4000000 in
set_option maxRecDepth 100000 in
theorem rnew24_bad (seg cap:Int) (w:World) (h:jobOk seg cap=false) :
  Calls Tryz.prog 5 #[.agg #[.int .i64 seg,.int .i64 cap]] w fun e w'=>e = .returned (.tuple #[.pointer none,.int .i64 2])∧Below w.heap.size w w':=by
 have k1:=Blk.new w 23 #[.int .i64 seg,.int .i64 cap]
 have B1:Below w.heap.size w (w.alloc (.cells #[.int .i64 seg,.int .i64 cap] 23)):=(Below.refl _ _).alloc (Nat.le_refl _) _
 have c0:(w.alloc (.cells #[.int .i64 seg,.int .i64 cap] 23)).cell? ⟨w.heap.size,0,none⟩=some (.int .i64 seg):=by rw [k1.cell];rfl
 have c1:(w.alloc (.cells #[.int .i64 seg,.int .i64 cap] 23)).cell? ⟨w.heap.size,1,none⟩=some (.int .i64 cap):=by rw [k1.cell];rfl
 clear k1
 by_cases h1:seg<1
 ·have d1:decide (seg<1)=true:=by simpa using h1
  go_enter Tryz.func5,Tryz.ntmps5
  go_wp2_with fail
  go_ret2
  exact ⟨rfl,B1⟩
 ·have d1:decide (seg<1)=false:=by simpa using h1
  by_cases h2:4096<seg
  ·have d2:decide (4096<seg)=true:=by simpa using h2
   go_enter Tryz.func5,Tryz.ntmps5
   go_wp2_with fail
   go_ret2
   exact ⟨rfl,B1⟩
  ·have d2:decide (4096<seg)=false:=by simpa using h2
   by_cases h3:cap<1
   ·have d3:decide (cap<1)=true:=by simpa using h3
    go_enter Tryz.func5,Tryz.ntmps5
    go_wp2_with fail
    go_ret2
    exact ⟨rfl,B1⟩
   ·have d3:decide (cap<1)=false:=by simpa using h3
    have h4:1024<cap:=by
     apply Classical.byContradiction
     intro h4
     unfold jobOk at h
     simp only [Bool.and_eq_false_iff,decide_eq_false_iff_not] at h
     omega
    have d4:decide (1024<cap)=true:=by simpa using h4
    go_enter Tryz.func5,Tryz.ntmps5
    go_wp2_with fail
    go_ret2
    exact ⟨rfl,B1⟩
set_option maxHeartbeats 4000000 in
set_option maxRecDepth 100000 in
theorem rnew24_any (seg cap:Int) (w:World) (h:jobOk seg cap=true) :
  Calls Tryz.prog 5 #[.agg #[.int .i64 seg,.int .i64 cap]] w fun e w'=>∃ g,e = .returned (.tuple #[.pointer (some ⟨g,0,none⟩),.int .i64 0])∧w.heap.size≤g∧Blk w' g 60 (xdArr X0 (MoV.new seg cap))∧Below w.heap.size w w':=by
 obtain ⟨w1,hw1⟩:∃ x,w.alloc (.cells #[.int .i64 seg,.int .i64 cap] 23)=x:=⟨_,rfl⟩
 have k1:Blk w1 w.heap.size 23 #[.int .i64 seg,.int .i64 cap]:=by rw [← hw1];exact Blk.new _ _ _
 have B1:Below w.heap.size w w1:=by rw [← hw1];exact (Below.refl _ _).alloc (Nat.le_refl _) _
 have c0:w1.cell? ⟨w.heap.size,0,none⟩=some (.int .i64 seg):=by rw [k1.cell];rfl
 have c1:w1.cell? ⟨w.heap.size,1,none⟩=some (.int .i64 cap):=by rw [k1.cell];rfl
 have hld:(Instr.loadAt 23 (.pointer (some ⟨w.heap.size,0,none⟩))).run Tryz.prog w1 = .ok (.agg #[.int .i64 seg,.int .i64 cap]) w1:=run_load_blk (aggCf _) (sizeCf _) _ _ rfl k1
 simp only [jobOk,Bool.and_eq_true,decide_eq_true_eq] at h
 have d1:decide (seg<1)=false:=by simp;omega
 have d2:decide (4096<seg)=false:=by simp;omega
 have d3:decide (cap<1)=false:=by simp;omega
 have d4:decide (1024<cap)=false:=by simp;omega
 obtain ⟨ca,hca⟩:∃ x,xdArr X0 (MoV.new seg cap)=x:=⟨_,rfl⟩
 have kn:Blk (w1.alloc (.cells ca 60)) w1.heap.size 60 ca:=Blk.new _ _ _
 have B2:Below w.heap.size w (w1.alloc (.cells ca 60)):=B1.alloc B1.size _
 have hs:=B1.size
 rw [hca]
 have Hca:=Lib.hid hca
 have Hw1:=Lib.hid hw1
 have Hld:=Lib.hid hld
 clear hca hw1 k1 hld
 go_enter Tryz.func5,Tryz.ntmps5
 go_wp2_with (first
  | rw [Hw1.out]
  | ((with_reducible show wpList _ _ _ (⟨some 22,.load _ _,_,_,_,_⟩::_) _ _);refine wpList_load rfl 23 (.tmp 1) rfl w.heap.size 0 rfl _ Hld.out ?_;simp only [Act.put,List.setIfInBounds_toArray,List.set_cons_succ,List.set_cons_zero])
  | ((with_reducible show wpList _ _ _ (⟨some 23,.build _ _,_,_,_,_⟩::_) _ _);refine wpList_run0 rfl (.agg ca) (by rw [← Hca.out];kernel_rfl) ?_;simp only [Act.put,List.setIfInBounds_toArray,List.set_cons_succ,List.set_cons_zero])
  | ((with_reducible show wpList _ _ _ (⟨some 24,.box _ _,_,_,_,_⟩::_) _ _);refine wpList_run rfl (.pointer (some ⟨w1.heap.size,0,none⟩)) (w1.alloc (.cells ca 60)) (by rfl) ?_;simp only [Act.put,List.setIfInBounds_toArray,List.set_cons_succ,List.set_cons_zero]))
 go_ret2
 exact ⟨_,rfl,hs,kn,B2⟩
theorem Xd.turn {W W':World} {Z:Nat→Prop} {g:Nat} {R:XdR} {m m':MoV} (h:Xd Z g R m W) (hg:KB (fun b=>b=g) W W') (hb:Blk W' g 60 (xdArr R m')) (e1:m'.ents=m.ents) (e2:m'.queue=m.queue) (e3:m'.begun=m.begun) (l1:m'.lastR.length=32) (l2:m'.ptR.length=32):Xd Z g R m' W':=by
 obtain ⟨A1,c1,h1,k1⟩:=h.ents
 obtain ⟨A2,c2,h2,k2⟩:=h.queue
 obtain ⟨A3,c3,h3,k3⟩:=h.begun
 refine ⟨hb,l1,l2,⟨A1,c1,?_,?_⟩,⟨A2,c2,?_,?_⟩,⟨A3,c3,?_,?_⟩,fun b hz=>Nat.lt_of_lt_of_le (h.zlt b hz) hg.size,h.zno⟩
 ·rw [e1];exact h1
 ·rw [e1];exact k1.kb hg fun b _ hx e=>hx (.inl e)
 ·rw [e2];exact h2
 ·rw [e2];exact k2.kb hg fun b _ hx e=>hx (.inl e)
 ·rw [e3];exact h3
 ·rw [e3];exact k3.kb hg fun b _ hx e=>hx (.inl e)
def RFromAns (Z:Nat→Prop) (seg cap:Int) (fe:List (List UInt8)) (fh:Bool) (fs:Int) (fr:List UInt8) (W:World) (e:Ending) (w':World):Prop :=
 if fromM seg cap fe fh fs fr then ∃ g R,e = .returned (.tuple #[.pointer (some ⟨g,0,none⟩),.int .i64 0])∧W.heap.size≤g∧Xd Z g R (MoV.found seg cap fe fh fs fr) w'∧Below W.heap.size W w'
 else e = .returned (.tuple #[.pointer none,.int .i64 2])∧Below W.heap.size W w'
theorem RFromAns.no {Z:Nat→Prop} {seg cap:Int} {fe:List (List UInt8)} {fh:Bool} {fs:Int} {fr:List UInt8} {W w':World} {e:Ending} (h:fromM seg cap fe fh fs fr=false) (h1:e = .returned (.tuple #[.pointer none,.int .i64 2])) (h2:Below W.heap.size W w'):RFromAns Z seg cap fe fh fs fr W e w':=by
 unfold RFromAns
 rw [h]
 exact ⟨h1,h2⟩
theorem RFromAns.yes {Z:Nat→Prop} {seg cap:Int} {fe:List (List UInt8)} {fh:Bool} {fs:Int} {fr:List UInt8} {W w':World} {e:Ending} {g:Nat} {R:XdR} (h:fromM seg cap fe fh fs fr=true) (h1:e = .returned (.tuple #[.pointer (some ⟨g,0,none⟩),.int .i64 0])) (h2:W.heap.size≤g) (h3:Xd Z g R (MoV.found seg cap fe fh fs fr) w') (h4:Below W.heap.size W w'):RFromAns Z seg cap fe fh fs fr W e w':=by
 unfold RFromAns
 rw [h]
 exact ⟨g,R,h1,h2,h3,h4⟩
set_option maxHeartbeats 16000000 in
set_option maxRecDepth 100000 in
theorem rfrom24_any (Z:Nat→Prop) (seg q:Int) (fc:Array Value) (E:Option Addr) (n c:Nat) (fe:List (List UInt8)) (fh:Bool) (fs:Int) (fr:List UInt8) (W:World) (hZ:∀ b,Z b→b<W.heap.size) (hf:Fnd fc E n c fh fs fr) (he:EsI W (fun b=>¬ Z b) E n c fe) (hn:n≤100000) :
  Calls Tryz.prog 30 #[.agg #[.int .i64 seg,.int .i64 q],.agg fc] W (RFromAns Z seg q fe fh fs fr W):=by
 obtain ⟨w1,hw1⟩:∃ x,W.alloc (.cells #[.int .i64 seg,.int .i64 q] 23)=x:=⟨_,rfl⟩
 have B1:Below W.heap.size W w1:=by rw [← hw1];exact (Below.refl _ _).alloc (Nat.le_refl _) _
 have k1:Blk w1 W.heap.size 23 #[.int .i64 seg,.int .i64 q]:=by rw [← hw1];exact Blk.new _ _ _
 obtain ⟨w2,hw2⟩:∃ x,w1.alloc (.cells fc 72)=x:=⟨_,rfl⟩
 have b2:Below w1.heap.size w1 w2:=by rw [← hw2];exact (Below.refl _ _).alloc (Nat.le_refl _) _
 have B2:=B1.trans (b2.mono B1.size)
 have k2:Blk w2 w1.heap.size 72 fc:=by rw [← hw2];exact Blk.new _ _ _
 have hld:(Instr.loadAt 23 (.pointer (some ⟨W.heap.size,0,none⟩))).run Tryz.prog w2 = .ok (.agg #[.int .i64 seg,.int .i64 q]) w2 :=
  run_load_agg (aggCf _) (sizeCf _) W.heap.size 0 [.int .i64 seg,.int .i64 q] rfl fun j u hu=>by
   rw [(k1.step b2).cell,Nat.zero_add,List.getElem?_toArray];exact hu
 obtain ⟨gf,hgf⟩:∃ x,w1.heap.size=x:=⟨_,rfl⟩
 have hWs:=B2.size
 have hWg:W.heap.size≤gf:=by rw [← hgf];exact B1.size
 rw [hgf] at k2
 have he2:EsI w2 (fun b=>¬ Z b∧b<W.heap.size) E n c fe:=he.lt.step B2
 have hlen:=he.len
 have hroom:=he.es.room
 have hmx:=he.es.max
 unfold maxLen at hmx
 have Hw1:=Lib.hid hw1
 have HZ:=Lib.hid hZ
 have Hw2:=Lib.hid hw2
 have Hld:=Lib.hid hld
 clear hw1 hw2 hld k1 b2 B1 he hZ
 by_cases hj:jobOk seg q=true
 ·go_enter Tryz.func30,Tryz.ntmps30
  go_wp2_with (first
  | ((with_reducible show wpList _ _ _ (⟨some 2,.box _ _,_,_,_,_⟩::_) _ _);refine wpList_runG (by kernel_rfl) (.pointer (some ⟨W.heap.size,0,none⟩)) w1 (by rw [← Hw1.out];rfl) ?_;simp only [Act.put,List.setIfInBounds_toArray,List.set_cons_succ,List.set_cons_zero])
  | ((with_reducible show wpList _ _ _ (⟨some 3,.box _ _,_,_,_,_⟩::_) _ _);refine wpList_runG (by kernel_rfl) (.pointer (some ⟨w1.heap.size,0,none⟩)) w2 (by rw [← Hw2.out];rfl) ?_;rw [hgf];simp only [Act.put,List.setIfInBounds_toArray,List.set_cons_succ,List.set_cons_zero])
  | ((with_reducible show wpList _ _ _ (⟨some 11,.load _ _,_,_,_,_⟩::_) _ _);refine wpList_load rfl 23 (.tmp 2) rfl W.heap.size 0 rfl _ Hld.out ?_;simp only [Act.put,List.setIfInBounds_toArray,List.set_cons_succ,List.set_cons_zero]))
  refine (rnew24_any seg q w2 hj).mono ?_
  rintro e w3 ⟨g,rfl,hg2,h3,b3⟩
  have k3:=k2.step b3
  have he3:=he2.step b3
  have B3:=B2.trans (b3.mono hWs)
  have hlo:gf<g:=Nat.lt_of_lt_of_le k2.lt hg2
  have f0:w3.cell? ⟨gf,0,none⟩=some (.slice E n c):=by rw [k3.cell];exact hf.c0
  have HB3:=Lib.hid B3
  have Hj:=Lib.hid hj
  clear k2 he2 B2 b3 Hld B3 hj
  go_wp2_with fail
  go_loopw [8] (fun v wr=>∃ k:Nat,k≤n∧v = .int .i64 k∧(∀ j,j<k→(fe.getD j []).length≤4096)∧wr=w3) (fun v _=>n - (intOf v).toNat)
  case atStart=>exact ⟨0,Nat.zero_le _,rfl,fun j hj=>absurd hj (Nat.not_lt_zero _),rfl⟩
  case round =>
   obtain ⟨k,hk,rfl,hpre,hw⟩:=hrel
   obtain rfl:=hw.symm
   have Hpre:=Lib.hid hpre
   clear hpre
   by_cases hlt:k<n
   ·have dk1:decide ((k:Int)<(n:Int))=true:=by simp;omega
    have dk2:decide (k<n)=true:=by simp;omega
    have hwk:IntKind.i64.wrap ((k:Int)+1)=(k:Int)+1:=IntWalk.i64_in _ (by omega)
    obtain ⟨b,o,rfl,-,-,hat⟩:=he3.es.at_ (by omega)
    obtain ⟨Ak,ck,ce,hsk⟩:=hat k hlt
    have hmem:fe.getD k [] ∈ fe:=by rw [List.getD_eq_getElem?_getD,List.getElem?_eq_getElem (by omega)];exact List.getElem_mem (by omega)
    have hrk:=hsk.room
    have hmk:=hsk.max
    unfold maxLen at hmk
    obtain ⟨ln,hln⟩:∃ x,(fe.getD k []).length=x:=⟨_,rfl⟩
    rw [hln] at ce hrk
    have Hln:=Lib.hid hln
    have Hmem:=Lib.hid hmem
    clear hat hsk hln hmem h3 he3 k3
    by_cases hbig:ln≤4096
    ·have d1:decide ((4096:Int)<(ln:Int))=false:=by simp;omega
     have d2:decide (4096<ln)=false:=by simp;omega
     go_wp2_with fail
     refine ⟨⟨k+1,by omega,by go_num,fun j hj=>?_,trivial⟩,by simp [intOf];omega⟩
     rcases Nat.lt_or_eq_of_le (Nat.le_of_lt_succ hj) with h|h
     ·exact Hpre.out j h
     ·rw [h,Hln.out];exact hbig
    ·have d1:decide ((4096:Int)<(ln:Int))=true:=by simp;omega
     have d2:decide (4096<ln)=true:=by simp;omega
     go_wp2_with fail
     go_ret2
     refine RFromAns.no ?_ rfl HB3.out
     unfold fromM
     have:allShort fe=false:=by
      rw [Bool.eq_false_iff]
      intro hs
      have:=(allShort_iff fe).1 hs _ Hmem.out
      rw [Hln.out] at this
      omega
     rw [this]
     simp
   ·obtain rfl:k=n:=by omega
    have dk1:decide ((k:Int)<(k:Int))=false:=by simp
    have hall:∀ x ∈ fe,x.length≤4096:=fun x hx=>by
     obtain ⟨j,hj,rfl⟩:=List.mem_iff_getElem.1 hx
     have:=Hpre.out j (by omega)
     rwa [List.getD_eq_getElem?_getD,List.getElem?_eq_getElem hj] at this
    have Hall:=Lib.hid hall
    clear hall
    have q2:∀ s:InC (fun V=>Below w3.heap.size w3 V),s.W.cell? ⟨g,2,none⟩=some (.slice none 0 0):=fun s=>by rw [(h3.step s.ok).cell];rfl
    have qf:∀ s:InC (fun V=>Below w3.heap.size w3 V),s.W.cell? ⟨gf,0,none⟩=some (.slice E k c):=fun s=>by rw [(k3.step s.ok).cell];exact hf.c0
    have ha:=fun V (hb:Below w3.heap.size w3 V)=>app0 (fun b=>¬ Z b∧b<W.heap.size) w3.heap.size (fun b hb'=>by have:=HB3.out.size;have:=hb'.2;omega) E k c fe V (he3.step hb) hb.size (by omega)
    have Ha:=Lib.hid ha
    have hS:Below w3.heap.size w3 w3.drew:=(Below.refl _ _).drew
    clear ha
    go_upto_region 9 with fail
    refine wp_region_mix_tail (fun W=>Below w3.heap.size w3 W) 10 [(0,true),(1,true),(2,true),(3,true),(4,true),(5,true),(6,true),(7,false),(8,true),(9,true)] (by kernel_rfl) (by kernel_rfl) hS fun _=>?_
    simp only [List.map_cons,List.map_nil,Array.getD_eq_getD_getElem?,List.getElem?_toArray,List.getElem?_cons_succ,List.getElem?_cons_zero,Option.getD_some]
    generalize w3.drew=Z0 at hS ⊢
    iterate 7 (refine wpMix_s (fun K hK=>?_);go_simp;refine hK _ ?_;clear hK K)
    obtain ⟨v,Z1,hr,ho,-,hb',-⟩:=Ha.out Z0 hS
    refine wpMix_run (by kernel_rfl) v Z1 (run_append_op (.tmp 36) (.tmp 38) 48 rfl (.slice none 0 0) (.slice E k c) rfl rfl hr) (hS.trans (hb'.mono hS.size)) ?_
    simp only [Act.put,List.setIfInBounds_toArray,List.set_cons_succ,List.set_cons_zero]
    replace hS:=hS.trans (hb'.mono hS.size)
    clear hb'
    iterate 2 (refine wpMix_s (fun K hK=>?_);go_simp;refine hK _ ?_;clear hK K)
    refine wpMix_nil ?_
    intro _
    simp only [List.drop_succ_cons,List.drop_zero]
    have k5:=h3.step hS
    have kf5:=k3.step hS
    obtain ⟨Ae,ce,hve,hie⟩:=ho.i
    rw [hlen] at hve hie
    subst hve
    have hsz5:=hS.size
    have B5:=HB3.out.trans (hS.mono HB3.out.size)
    have c2:Z1.cell? ⟨g,2,none⟩=some (.slice none 0 0):=by rw [k5.cell];rfl
    have f2:=k5.frozen 2
    obtain ⟨w6,hw6⟩:∃ x,Z1.setCell ⟨g,2,none⟩ (.slice Ae k ce)=x:=⟨_,rfl⟩
    have k6:Blk w6 g 60 (xdArr ⟨.slice Ae k ce,.slice none 0 0,.slice none 0 0⟩ ((MoV.new seg q).put fe)):=by
     rw [← hw6,← xd_set (R:=X0) (R':=⟨.slice Ae k ce,.slice none 0 0,.slice none 0 0⟩) (m:=MoV.new seg q) (m':=(MoV.new seg q).put fe) 2 (by decide) (.slice Ae k ce) rfl fun i hi hne=>by unfold xcell;simp only [hne,if_false];rfl]
     exact k5.set_ 2 _
    have hkb6:KB (fun b=>b=g) Z1 w6:=by rw [← hw6];exact KB.of_grown (grown_setCell (World.grownBy.refl _ _) 2 _) fun r e=>(Option.some.inj e).symm
    have kf6:=hkb6.blk kf5 (by omega)
    have hgw:g<w3.heap.size:=h3.lt
    have ho6:EsO w6 w3.heap.size (.slice Ae k ce) fe (fun b=>¬ Z b∧b<W.heap.size):=ho.kb hkb6 (fun b hb e=>by subst e;exact own_ty ho.ex.choose_spec.1 k5 (by decide) hb) (fun b _ hb e=>by have:=hb.2;omega)
    have hzr:∀ b,Z b→b<w6.heap.size:=fun b hb=>by have:=HZ.out b hb;have:=B5.size;have:=hkb6.size;omega
    have X6:Xd Z g ⟨.slice Ae k ce,.slice none 0 0,.slice none 0 0⟩ ((MoV.new seg q).put fe) w6:=by
     refine ⟨k6,by simp [MoV.put,MoV.new,zero32],by simp [MoV.put,MoV.new,zero32],?_,?_,?_,hzr,fun hz=>by have:=HZ.out g hz;omega⟩
     ·obtain ⟨A',c',e,hes⟩:=ho6.esW (Y:=fun b=>¬ (b=g∨Z b)) (fun b hb hm=>by
       have h1:=(ho6.lt b hb).1
       rcases hm with hm|hm
       ·omega
       ·have:=HZ.out b hm;have:=HB3.out.size;omega) (fun b _ hx hm=>by
       rcases hm with hm|hm
       ·have:=hx.2;omega
       ·exact hx.1 hm)
      exact ⟨A',c',e,hes⟩
     ·exact ⟨none,0,rfl,⟨⟨[],SlV.empty,fun i hi=>absurd hi (by simp [MoV.put,MoV.new])⟩,rfl⟩⟩
     ·exact ⟨none,0,rfl,⟨⟨[],SlV.empty,fun i hi=>absurd hi (by simp [MoV.put,MoV.new])⟩,rfl⟩⟩
    have B6:=B5.trans (hkb6.below (fun b e=>by omega) (by omega))
    have c36:w6.cell? ⟨gf,4,none⟩=some (.bool fh):=by rw [kf6.cell];exact hf.c4
    have hgW:W.heap.size≤g:=by omega
    have hie6:=(ho6.i)
    have hre:=hie.es.room
    have hme:=hie.es.max
    unfold maxLen at hme
    have Hw6:=Lib.hid hw6
    have HX6:=Lib.hid X6
    have HB6:=Lib.hid B6
    have Kf6:=Lib.hid kf6
    have HO6:=Lib.hid ho6
    clear hw6 X6 B6 kf6 ho6 hie6 k6 hkb6 hzr ho hie k5 kf5 hS B5 Ha q2 qf h3 k3 he3 f0
    refine wpList_put1i rfl 48 (.tmp 41) (.tmp 39) rfl sizeEs ⟨g,2,none⟩ (.slice Ae k ce) rfl rfl rfl _ c2 f2 ?_
    rw [Hw6.out]
    simp only [Act.put]
    refine np_normal ?_
    have hsh:allShort fe=true:=(allShort_iff fe).2 Hall.out
    cases fh with
    | false =>
     have hfm:fromM seg q fe false fs fr=true:=by unfold fromM;rw [Hj.out,hsh];rfl
     have Hfm:=Lib.hid hfm
     clear hfm hsh
     go_wp2_with fail
     go_ret2
     exact RFromAns.yes Hfm.out rfl hgW HX6.out HB6.out
    | true =>
     have lpt:∀ s:InC (fun V=>Below w6.heap.size w6 V),(Instr.loadAt 55 (.pointer (some ⟨gf,5,none⟩))).run Tryz.prog s.W = .ok (.agg (.int .i64 fs::fr.map B).toArray) s.W:=fun s=>hf.load (Kf6.out.step s.ok)
     have ce2:∀ s:InC (fun V=>Below w6.heap.size w6 V),s.W.cell? ⟨g,2,none⟩=some (.slice Ae k ce):=fun s=>(HX6.out.step s.ok).cell 2 (by decide)
     have hof:=fun V (hb:Below w6.heap.size w6 V)=>rOf_any V Ae k ce fe (by
      obtain ⟨A',c',e,hes⟩:=(HX6.out.step hb).ents
      injection e with e1 e2 e3
      subst e1 e3
      rw [show ((MoV.new seg q).put fe).ents=fe from rfl,hlen] at hes
      exact hes.all) Hall.out (by omega) fs fr hf.len
     have frL:=hf.len
     have Lpt:=Lib.hid lpt
     have Hof:=Lib.hid hof
     have hS:Below w6.heap.size w6 w6.drew:=(Below.refl _ _).drew
     clear lpt hof
     obtain ⟨ok,hok⟩:∃ x,ofM fe fs fr=x:=⟨_,rfl⟩
     rw [hok] at Hof
     have Hok:=Lib.hid hok
     clear hok
     go_upto_region 11 with fail
     refine wp_region_mix (fun W=>Below w6.heap.size w6 W) [(0,true),(1,true),(2,true),(3,true),(4,true),(5,true),(6,false),(7,true)] (by kernel_rfl) (by kernel_rfl) hS fun _=>?_
     simp only [List.map_cons,List.map_nil,Array.getD_eq_getD_getElem?,List.getElem?_toArray,List.getElem?_cons_succ,List.getElem?_cons_zero,Option.getD_some]
     generalize w6.drew=Z6 at hS ⊢
     (refine wpMix_s (fun K hK=>?_);go_simp;refine hK _ ?_;clear hK K)
     refine wpMix_load (by kernel_rfl) 55 (.tmp 44) rfl (gf) (5) rfl (.int .i64 fs::fr.map B).toArray (Lpt.out) ?_
     simp only [Act.put,List.setIfInBounds_toArray,List.set_cons_succ,List.set_cons_zero]
     iterate 4 (refine wpMix_s (fun K hK=>?_);go_simp;refine hK _ ?_;clear hK K)
     refine wpMix_c (fun K hK=>?_) hS
     go_simp
     refine (Hof.out Z6 hS).mono ?_
     rintro e Z6_1 ⟨rfl,hb'⟩
     refine hK _ _ ?_
     clear hK K
     replace hS:=hS.trans (hb'.mono hS.size)
     refine ⟨hS,?_⟩
     clear hb'
     (refine wpMix_s (fun K hK=>?_);go_simp;refine hK _ ?_;clear hK K)
     refine wpMix_nil ?_
     intro _
     have kf7:=Kf6.out.step hS
     have X7:=HX6.out.step hS
     have B7:=HB6.out.trans (hS.mono HB6.out.size)
     have HB7:=Lib.hid B7
     clear HX6 Kf6 hS Lpt Hof HB6 B7 ce2
     cases ok with
     | false =>
      have hfm:fromM seg q fe true fs fr=false:=by unfold fromM;rw [Hj.out,hsh,Hok.out];rfl
      have Hfm:=Lib.hid hfm
      clear hfm hsh X7 kf7
      go_wp2_with fail
      go_ret2
      exact RFromAns.no Hfm.out rfl HB7.out
     | true =>
      have hfm:fromM seg q fe true fs fr=true:=by unfold fromM;rw [Hj.out,hsh,Hok.out];rfl
      have Hfm:=Lib.hid hfm
      obtain ⟨m0,hm0⟩:∃ x,(MoV.new seg q).put fe=x:=⟨_,rfl⟩
      have hfd:MoV.found seg q fe true fs fr={ m0 with lastS:=fs,lastR:=fr,has:=true }:=by rw [← hm0];rfl
      rw [hm0] at X7
      obtain ⟨R0',hR0⟩:∃ x:XdR,(⟨.slice Ae k ce,.slice none 0 0,.slice none 0 0⟩:XdR)=x:=⟨_,rfl⟩
      rw [hR0] at X7
      obtain ⟨pc,hpc⟩:∃ x,(Value.int .i64 fs::fr.map B).toArray=x:=⟨_,rfl⟩
      have hpc33:pc.size=33:=by rw [← hpc];simp [frL]
      have hpc1:∀ v ∈ pc.toList,v.oneCell'=true:=by rw [← hpc];exact oneCell_pt _ _
      have lpt:∀ s:InC (fun V=>Blk V gf 72 fc),(Instr.loadAt 55 (.pointer (some ⟨gf,5,none⟩))).run Tryz.prog s.W = .ok (.agg pc) s.W:=fun s=>by rw [← hpc];exact hf.load s.ok
      have Lpt:=Lib.hid lpt
      have Hpc:=Lib.hid hpc
      have Hpc1:=Lib.hid hpc1
      have Hfd:=Lib.hid hfd
      have hS:Blk Z6_1.drew gf 72 fc:=kf7.drew
      have hX8:=X7.step (Below.refl _ _).drew
      have hB8:=HB7.out.trans ((Below.refl Z6_1.heap.size Z6_1).drew.mono HB7.out.size)
      have hne:gf≠g:=by omega
      clear lpt hpc hpc1 hfd hm0 hR0 X7 kf7 hfm hsh HB7
      go_upto_region 14 with fail
      refine wp_region_mix (fun V=>Blk V gf 72 fc) [(0,true),(1,true),(2,true),(3,true),(4,true),(5,true),(6,false),(7,true),(8,true),(9,false)] (by kernel_rfl) (by kernel_rfl) hS fun _=>?_
      simp only [List.map_cons,List.map_nil,Array.getD_eq_getD_getElem?,List.getElem?_toArray,List.getElem?_cons_succ,List.getElem?_cons_zero,Option.getD_some]
      generalize Z6_1.drew=Z7 at hS hX8 hB8 ⊢
      iterate 3 (refine wpMix_s (fun K hK=>?_);go_simp;refine hK _ ?_;clear hK K)
      refine wpMix_load (by kernel_rfl) 55 (.tmp 55) rfl (gf) (5) rfl pc (Lpt.out) ?_
      simp only [Act.put,List.setIfInBounds_toArray,List.set_cons_succ,List.set_cons_zero]
      iterate 2 (refine wpMix_s (fun K hK=>?_);go_simp;refine hK _ ?_;clear hK K)
      have k8:=hX8.blk
      have c4:Z7.cell? ⟨g,4,none⟩=some (xcell R0' m0 4):=hX8.cell 4 (by decide)
      have f4:=k8.frozen 4
      refine wpMix_put1 (by kernel_rfl) 4 (.tmp 58) (.const (.bool true)) rfl sizeBl ⟨g,4,none⟩ (.bool true) rfl rfl rfl _ c4 f4 (hS.apart hne _) ?_
      simp only [Act.put]
      have hS9:=hS.apart (i:=4) hne (.bool true)
      have k9:Blk (Z7.setCell ⟨g,4,none⟩ (.bool true)) g 60 (xdArr R0' { m0 with has:=true }):=by
       rw [← xd_set (R:=R0') (R':=R0') (m:=m0) (m':={ m0 with has:=true }) 4 (by decide) (.bool true) rfl fun i hi hne=>by unfold xcell;simp only [hne,if_false]]
       exact k8.set_ 4 _
      have hg9:Z7.grownBy (Z7.setCell ⟨g,4,none⟩ (.bool true)) (some g):=grown_setCell (World.grownBy.refl _ _) 4 _
      obtain ⟨Z8,hZ8⟩:∃ x,Z7.setCell ⟨g,4,none⟩ (.bool true)=x:=⟨_,rfl⟩
      rw [hZ8] at hS9 k9 hg9 ⊢
      clear hZ8 c4 f4
      iterate 2 (refine wpMix_s (fun K hK=>?_);go_simp;refine hK _ ?_;clear hK K)
      refine wpMix_store_agg rfl 55 (.tmp 60) (.tmp 56) rfl 33 ptSize g 5 pc rfl rfl hpc33 Hpc1.out 60 (xdArr R0' { m0 with has:=true }) k9 (by rw [xd_size];decide) (hS9.setRow_apart hne _) ?_
      simp only [Act.put]
      have k10:Blk (Z8.setRow g ((xdArr R0' { m0 with has:=true }).toList.take 5++pc.toList++(xdArr R0' { m0 with has:=true }).toList.drop (5+33)).toArray) g 60 (xdArr R0' { m0 with lastS:=fs,lastR:=fr,has:=true }):=by
       have h:=xd_last (R:=R0') (m:={ m0 with has:=true }) fs fr frL
       rw [← Hpc.out]
       show Blk (Z8.setRow g ((xdArr R0' { m0 with has:=true }).toList.take 5++(Value.int .i64 fs::fr.map B)++(xdArr R0' { m0 with has:=true }).toList.drop (5+33)).toArray) g _ (xdArr R0' { ({ m0 with has:=true }:MoV) with lastS:=fs,lastR:=fr })
       rw [← h]
       exact k9.setRow_ _
      have hg10:Z7.grownBy (Z8.setRow g ((xdArr R0' { m0 with has:=true }).toList.take 5++pc.toList++(xdArr R0' { m0 with has:=true }).toList.drop (5+33)).toArray) (some g):=grown_setRow hg9 _
      obtain ⟨Z9,hZ9⟩:∃ x,Z8.setRow g ((xdArr R0' { m0 with has:=true }).toList.take 5++pc.toList++(xdArr R0' { m0 with has:=true }).toList.drop (5+33)).toArray=x:=⟨_,rfl⟩
      rw [hZ9] at k10 hg10 ⊢
      have hK10:KB (fun b=>b=g) Z7 Z9:=KB.of_grown hg10 fun r e=>(Option.some.inj e).symm
      have hXF:Xd Z g R0' (MoV.found seg q fe true fs fr) Z9:=by
       rw [Hfd.out]
       exact hX8.turn hK10 k10 rfl rfl rfl frL hX8.ptL
      have hBF:Below W.heap.size W Z9:=hB8.trans (hK10.below (fun b e=>by omega) hB8.size)
      clear hX8 hB8 hK10 k10 hg10 k9 k8 hg9 hS9 hZ9
      refine wpMix_nil ?_
      intro _
      go_wp2_with fail
      go_ret2
      exact RFromAns.yes Hfm.out rfl hgW hXF hBF
 ·have hj0:jobOk seg q=false:=by simpa using hj
  have hfm:fromM seg q fe fh fs fr=false:=by unfold fromM;rw [hj0];rfl
  have Hfm:=Lib.hid hfm
  have HB2:=Lib.hid B2
  clear hfm hj he2 k2 B2
  go_enter Tryz.func30,Tryz.ntmps30
  go_wp2_with (first
  | ((with_reducible show wpList _ _ _ (⟨some 2,.box _ _,_,_,_,_⟩::_) _ _);refine wpList_runG (by kernel_rfl) (.pointer (some ⟨W.heap.size,0,none⟩)) w1 (by rw [← Hw1.out];rfl) ?_;simp only [Act.put,List.setIfInBounds_toArray,List.set_cons_succ,List.set_cons_zero])
  | ((with_reducible show wpList _ _ _ (⟨some 3,.box _ _,_,_,_,_⟩::_) _ _);refine wpList_runG (by kernel_rfl) (.pointer (some ⟨w1.heap.size,0,none⟩)) w2 (by rw [← Hw2.out];rfl) ?_;rw [hgf];simp only [Act.put,List.setIfInBounds_toArray,List.set_cons_succ,List.set_cons_zero])
  | ((with_reducible show wpList _ _ _ (⟨some 11,.load _ _,_,_,_,_⟩::_) _ _);refine wpList_load rfl 23 (.tmp 2) rfl W.heap.size 0 rfl _ Hld.out ?_;simp only [Act.put,List.setIfInBounds_toArray,List.set_cons_succ,List.set_cons_zero]))
  refine (rnew24_bad seg q w2 hj0).mono ?_
  rintro e w3 ⟨rfl,b3⟩
  have B3:=HB2.out.trans (b3.mono hWs)
  clear b3 Hld
  go_wp2_with fail
  go_ret2
  exact RFromAns.no Hfm.out rfl B3
end Go.Proofs.YtdjhoankkddomaaGreat
