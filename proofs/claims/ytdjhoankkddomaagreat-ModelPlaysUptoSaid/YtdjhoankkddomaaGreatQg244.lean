import Derived.Test.YtdjhoankkddomaaGreatQg243
import Derived.Test.YtdjhoankkddomaaGreatQg230
import Derived.Test.YtdjhoankkddomaaGreatQg242
import Derived.Test.YtdjhoankkddomaaGreatQg205
import Derived.Maps.Range
import Derived.Test.YtdjhoankkddomaaGreatQg225
import Derived.Test.YtdjhoankkddomaaGreatQg209
namespace Go.Proofs.YtdjhoankkddomaaGreat
open Go Go.RowKit Go.Shelf
attribute [local go_sem] Oper.semAt_some
theorem map_set_B (l:List UInt8) (k:Nat) (y:UInt8):((l.map B).toArray).setIfInBounds k (B y)=((l.set k y).map B).toArray:=by
 simp [List.map_set]
theorem drop_setF (l:List UInt8) (k:Nat) (y:UInt8) (h:k<l.length):(l.set k y).drop k=y::l.drop (k+1):=by
 rw [List.drop_eq_getElem_cons (by rw [List.length_set];exact h),List.getElem_set_self,List.drop_set,if_pos (by omega)]
set_option maxHeartbeats 4000000 in
set_option maxRecDepth 100000 in
theorem r01number_any (x:Nat) (w:World) (hx:x<18446744073709551616):Calls Tryz.prog 94 #[.int .i64 8,.int .u64 (x:Int)] w fun e w'=>∃ v,e = .returned v∧Fresh w w' v (beN 8 x):=by
 obtain ⟨res,hres⟩:∃ r,beN 8 x=r:=⟨_,rfl⟩
 have hrl:res.length=8:=by rw [← hres];exact length_beN 8 x
 rw [hres]
 have Hres:=Lib.hid hres
 clear hres
 obtain ⟨z,hz⟩:∃ z,List.replicate 8 (0:UInt8)=z:=⟨_,rfl⟩
 have hzl:z.length=8:=by rw [← hz];rfl
 have Hz:=Lib.hid hz
 have k0:Blk (w.alloc (.cells (z.map B).toArray 5)) w.heap.size 5 (z.map B).toArray:=Blk.new _ _ _
 have hb0:Below w.heap.size w (w.alloc (.cells (z.map B).toArray 5)):=(Below.refl _ _).alloc (Nat.le_refl _) _
 clear hz
 go_enter Tryz.func94,Tryz.ntmps94
 go_wp2_with ((with_reducible show wpList _ _ _ (⟨some 8,.makeSlice _ _ _,_,_,_,_⟩::_) _ _);refine wpList_run rfl (.slice (some ⟨w.heap.size,0,none⟩) 8 8) (w.alloc (.cells (z.map B).toArray 5)) (by rw [← Hz.out];kernel_rfl) ?_;generalize w.alloc (.cells (z.map B).toArray 5)=w1 at k0 hb0 ⊢;simp only [Act.put])
 go_loopw [1,6] (fun v1 v6 wr=>∃ (j y:Nat) (l:List UInt8),j≤8∧v6 = .int .i64 ((j:Int) - 1)∧v1 = .int .u64 (y:Int)∧y=x / 256 ^ (8 - j)∧l.length=8∧l.drop j=beN (8 - j) x∧Blk wr w.heap.size 5 (l.map B).toArray∧Below w.heap.size w wr) (fun _ v6 _=>(intOf v6+1).toNat)
 case atStart=>exact ⟨8,x,z,Nat.le_refl _,rfl,rfl,by simp,hzl,by rw [List.drop_of_length_le (by omega)];rfl,k0,hb0⟩
 case round =>
  clear k0 hb0
  obtain ⟨j,y,l,hj,rfl,rfl,hy,hl,hdr,k,hB⟩:=hrel
  rcases Nat.eq_zero_or_pos j with rfl|hjp
  ·have hlr:l=res:=by rw [← Hres.out,← List.drop_zero (l:=l)];exact hdr
   go_wp2_with fail
   go_ret
   refine ⟨_,rfl,?_,hB⟩
   rw [← hlr,hl]
   exact ⟨by rw [List.length_map,hl],.inr ⟨w.heap.size,8,(l.map B).toArray,rfl,Nat.le_refl _,k,Nat.le_refl _,by unfold maxLen;decide,by simp [hl],List.take_of_length_le (by simp [hl])⟩⟩
  ·obtain ⟨q,rfl⟩:∃ q,j=q+1:=⟨j - 1,by omega⟩
   have hll:((q+1:Nat):Int) - 1=(q:Int):=by omega
   rw [hll]
   have hwl:IntKind.i64.wrap ((q:Int) - 1)=(q:Int) - 1:=IntWalk.i64_in _ (by omega)
   have hge:decide ((0:Int)≤(q:Int))=true:=by simp
   have hq8:(q:Int)<8:=by omega
   have hylt:y<18446744073709551616:=by
    have:=Nat.div_le_self x (256 ^ (8 - (q+1)))
    omega
   have hwb:IntKind.u8.wrap (y:Int)=((UInt8.ofNat y).toNat:Int):=by rw [IntKind.wrap_u8,UInt8.toNat_ofNat'];omega
   have e8:8 - q=(8 - (q+1))+1:=by omega
   have hy2:y / 256=x / 256 ^ (8 - q):=by rw [hy,Nat.div_div_eq_div_mul,e8,Nat.pow_succ]
   have hdr2:(l.set q (UInt8.ofNat y)).drop q=beN (8 - q) x:=by
    rw [drop_setF l q _ (by omega),hdr,e8,beN,← hy]
   have hset:=k.set_ q (B (UInt8.ofNat y))
   rw [map_set_B] at hset
   obtain ⟨c0,hc0⟩:∃ u,wr.cell? ⟨w.heap.size,q,none⟩=some u:=by
    rw [k.cell]
    exact ⟨_,Array.getElem?_eq_getElem (by rw [List.size_toArray,List.length_map];omega)⟩
   have f0:=k.frozen q
   have hw4:IntKind.u64.wrap ((y / 256:Nat):Int)=((y / 256:Nat):Int):=by rw [IntKind.wrap_u64];omega
   obtain ⟨bt,hbt⟩:∃ b,UInt8.ofNat y=b:=⟨_,rfl⟩
   rw [hbt] at hwb hset hdr2
   have Hset:=Lib.hid hset
   have Hy2:=Lib.hid hy2
   have Hdr2:=Lib.hid hdr2
   clear hset hy2 hdr2 hy hdr e8 hbt
   have hyI:((y:Int) / 256)=((y / 256:Nat):Int):=by omega
   have HyI:=Lib.hid hyI
   clear hyI
   go_wp2_with fail
   go_roundw
   case rel=>exact ⟨q,y / 256,l.set q bt,by omega,rfl,by rw [HyI.out],Hy2.out,by rw [List.length_set];exact hl,Hdr2.out,Hset.out,hB.setCell (p:=⟨w.heap.size,q,none⟩) (Nat.le_refl _) _⟩
   case measure=>simp [intOf] <;> omega
theorem Pcs.slh {w:World} {X:Nat→Prop} {A:Option Addr} {n c:Nat} {ps:List PcV} (h:Pcs w X A n c ps) {b o:Nat} (hA:A=some ⟨b,o,none⟩) (i:Nat) (hi:i<n):Sl w X (some ⟨b,o+i*33+1,none⟩) 32 32 (ps.getD i pcD).2:=by
 obtain ⟨b',o',e,hb,hX⟩:=h.at_ (by omega)
 rw [hA] at e
 cases e
 exact ⟨fun _=>⟨b,_,rfl,hb,hX,fun j v hv=>by
  rw [show o+i*33+1+j=o+i*33+(j+1) by omega]
  exact h.cell hA i hi (j+1) v (by rw [List.getElem?_cons_succ];exact hv)⟩,h.all.getD i (by rw [h.len];exact hi),Nat.le_refl _,(fun e=>by cases e),by unfold maxLen;decide⟩
set_option maxHeartbeats 4000000 in
set_option maxRecDepth 100000 in
theorem rfbytes_any (g:Nat) (ps:FrV) (w:World) (h:FrP w g ps) (ho:FrOk ps):Calls Tryz.prog 72 #[fptr g] w fun e w'=>∃ v,e = .returned v∧Fresh w w' v (bytesF ps):=by
 have hm63:=ho.len
 have h32:=h.all
 have htop:=ho.top
 have hsz:=rfsize_any g ps w h htop
 obtain ⟨A,n,c,hk,hP⟩:=h.ex
 have hlen:ps.length=n:=by rw [← hP.len,length_fpq]
 have hkg:=hk.lt
 have hroom:=hP.sl.room
 have hmx:=hP.sl.max
 unfold maxLen at hmx
 unfold bytesF
 obtain ⟨sz,hsze⟩:∃ s,szF ps=s:=⟨_,rfl⟩
 rw [hsze] at hsz htop ⊢
 have hnu:=r01number_any sz w (by omega)
 obtain ⟨hd8,hhd⟩:∃ hd8,beN 8 sz=hd8:=⟨_,rfl⟩
 have hhl:hd8.length=8:=by rw [← hhd];exact length_beN 8 sz
 rw [hhd] at hnu ⊢
 have hwu:IntKind.u64.wrap (sz:Int)=(sz:Int):=by rw [IntKind.wrap_u64];omega
 obtain ⟨rs,hrs⟩:∃ rs,hashF ps=rs:=⟨_,rfl⟩
 have hlr:rs.length=n:=by rw [← hrs,← hlen];simp [hashF]
 have hr32:H32 rs:=by rw [← hrs];exact hashF_32 ps h32
 have hat:∀ k,k<n→(ps.getD k (0,[])).2=rs.getD k []:=fun k hk=>by rw [← hrs,hashF_getD ps k (by omega)]
 rw [hrs]
 obtain ⟨res,hres⟩:∃ r,hd8++rs.flatten=r:=⟨_,rfl⟩
 rw [hres]
 have Hres:=Lib.hid hres
 have Hk:=Lib.hid hk
 have HP:=Lib.hid hP
 have Hlr:=Lib.hid hlr
 have Hr32:=Lib.hid hr32
 have Hat:=Lib.hid hat
 have Hlen:=Lib.hid hlen
 have Hsz:=Lib.hid hsz
 have Hnu:=Lib.hid hnu
 have Hhl:=Lib.hid hhl
 have hn63:n≤63:=by omega
 clear hlr hr32 hat hrs hk hP h h32 hlen hm63 hsz hnu hhl hhd hsze ho hres
 go_enter Tryz.func72,Tryz.ntmps72
 go_wp2_with (first
  | (go_at_call 92;refine Hsz.out.mono ?_;rintro e w1 ⟨rfl,hww⟩;obtain rfl:=hww.symm)
  | (go_at_call 94;refine Hnu.out.mono ?_;rintro e w2 ⟨v3,rfl,ho3,hb2⟩))
 have hI0:w2.ownsRow w.heap.size 5 1 v3 (hd8++(rs.take 0).flatten).length ((hd8++(rs.take 0).flatten).map B):=by simpa using ho3
 clear Hsz Hnu ho3
 go_loopw [3,4] (fun v3 v4 wr=>∃ k:Nat,k≤n∧v4 = .int .i64 (k:Int)∧wr.ownsRow w.heap.size 5 1 v3 (hd8++(rs.take k).flatten).length ((hd8++(rs.take k).flatten).map B)∧Below w.heap.size w wr) (fun _ v4 _=>n - (intOf v4).toNat)
 case atStart=>exact ⟨0,Nat.zero_le _,rfl,hI0,hb2⟩
 case round =>
  clear hI0 hb2
  obtain ⟨k,hk,rfl,ho,hB⟩:=hrel
  have c15:wr.cell? ⟨g,0,none⟩=some (.slice A n c):=by rw [(Hk.out.below hB hkg).cell];rfl
  by_cases hkn:k<n
  ·have hd:decide ((k:Int)<(n:Int))=true:=by simp;omega
   have hwk:IntKind.i64.wrap ((k:Int)+1)=(k:Int)+1:=IntWalk.i64_in _ (by omega)
   have hPr:=HP.out.step hB
   obtain ⟨b,o,rfl,-,-⟩:=hPr.at_ (by omega)
   have hsl:=hPr.slh rfl k hkn
   rw [fpq_getD ps k (by rw [Hlen.out];exact hkn)] at hsl
   replace hsl:Sl wr (fun _=>True) (some ⟨b,o+k*33+1,none⟩) 32 32 (ps.getD k (0,[])).2:=hsl
   rw [Hat.out k hkn] at hsl
   have htk:=flatten_take_snoc rs k (by rw [Hlr.out];exact hkn)
   have hql:(hd8++(rs.take k).flatten).length≤1000000:=by rw [List.length_append,Hhl.out,length_flat32 _ (fun x hx=>Hr32.out x (List.mem_of_mem_take hx)),List.length_take];omega
   obtain ⟨x,hx⟩:∃ x,rs.getD k []=x:=⟨_,rfl⟩
   rw [hx] at hsl htk
   have htk:hd8++(rs.take (k+1)).flatten=(hd8++(rs.take k).flatten)++x:=by rw [htk,List.append_assoc]
   obtain ⟨q,hq⟩:∃ q,hd8++(rs.take k).flatten=q:=⟨_,rfl⟩
   rw [hq] at htk ho hql
   obtain ⟨v9,w9,hr9,ho9,hg9⟩:=append_sl ho hsl (by omega) hB.size
   rw [← htk] at ho9
   have hB9:=hB.grown hg9 hB.size (fun r e=>(ho.lt r e).1)
   have Hr9:=Lib.hid hr9
   have Ho9:=Lib.hid ho9
   clear hr9 ho9 htk hq hql hx hsl hPr
   go_wp2_with (first
    | ((with_reducible show wpList _ _ _ (⟨some 28,.slice _ _ _ _ _,_,_,_,_⟩::_) _ _);refine wpList_run0 rfl _ (run_slice_allO (.tmp 27) rfl b (o+k*33+1) rfl _) ?_;simp only [Act.put])
    | ((with_reducible show wpList _ _ _ (⟨some 29,.call _,_,_,_,_⟩::_) _ _);refine wpList_run rfl v9 w9 (run_append_op (.tmp 20) (.tmp 28) 41 rfl _ _ rfl rfl Hr9.out) ?_;simp only [Act.put]))
   go_roundw
   case rel=>exact ⟨k+1,by omega,by go_num,Ho9.out,hB9⟩
   case measure=>simp [intOf] <;> omega
  ·obtain rfl:k=n:=by omega
   have hd:decide ((k:Int)<(k:Int))=false:=by simp
   rw [List.take_of_length_le (by rw [Hlr.out];exact Nat.le_refl _),Hres.out] at ho
   go_wp2_with fail
   go_ret
   exact ⟨_,rfl,ho,hB⟩
end Go.Proofs.YtdjhoankkddomaaGreat
namespace Go.Proofs.YtdjhoankkddomaaGreat
open Go Go.RowKit Go.Shelf
attribute [local go_sem] Oper.semAt_some
theorem appendE_short (es:List (List UInt8)) (hs:∀ x ∈ es,x.length≤4096) (hn:es.length≤100000):appendE [] es=(leafF [] (lvs es),0):=by
 have h1:es.any (fun x=>decide (4096<x.length))=false:=by
  rw [List.any_eq_false]
  intro x hx
  have:=hs x hx
  simp
  omega
 unfold appendE
 rw [h1,if_neg (by decide)]
 unfold leafE
 rw [if_neg (by rw [szF_nil,List.length_map];omega)]
 rfl
section
variable {W:World} {Z:Nat→Prop} {g:Nat} {R:XdR} {m:MoV}
set_option maxRecDepth 100000 in
theorem xfront_out (h:Xd Z g R m W) (n:Int) (hn:n<0∨(m.ents.length:Int)<n):Calls Tryz.prog 40 #[.pointer (some ⟨g,0,none⟩),.int .i64 n] W fun e w'=>e = .returned (.tuple #[.slice none 0 0,.int .i64 4])∧w'=W:=by
 have hsz:=xsize_any h
 clear h
 by_cases h0:n<0
 ·have d1:decide (n<0)=true:=by simpa using h0
  go_enter Tryz.func40,Tryz.ntmps40
  go_wp2_with (go_at_call 8;refine (hsz).mono ?_;rintro e w' ⟨rfl,hw⟩;obtain rfl:=hw.symm)
  go_ret2
  exact ⟨rfl,rfl⟩
 ·have d1:decide (n<0)=false:=by simpa using h0
  have h1:(m.ents.length:Int)<n:=by omega
  have d2:decide ((m.ents.length:Int)<n)=true:=by simpa using h1
  go_enter Tryz.func40,Tryz.ntmps40
  go_wp2_with (go_at_call 8;refine (hsz).mono ?_;rintro e w' ⟨rfl,hw⟩;obtain rfl:=hw.symm)
  go_ret2
  exact ⟨rfl,rfl⟩
set_option maxHeartbeats 4000000 in
set_option maxRecDepth 100000 in
theorem xfront_in (h:Xd Z g R m W) (n:Nat) (hn:n≤m.ents.length) (hs:∀ x ∈ m.ents,x.length≤4096) (hN:m.ents.length≤100000):Calls Tryz.prog 40 #[.pointer (some ⟨g,0,none⟩),.int .i64 (n:Int)] W fun e w' =>
  ∃ v,e = .returned (.tuple #[v,.int .i64 0])∧Fresh W w' v (frontB ((lvs m.ents).take n)):=by
 have hsz:=xsize_any h
 obtain ⟨A,c,hre,hes⟩:=h.ents
 have hr:=hes.room
 have hmx:=hes.max
 unfold maxLen at hmx
 obtain ⟨w1,hw1⟩:∃ x,W.alloc (.cells #[.slice none 0 0] 129)=x:=⟨_,rfl⟩
 have B1:Below W.heap.size W w1:=by rw [← hw1];exact (Below.refl _ _).alloc (Nat.le_refl _) _
 have k1:FrP w1 W.heap.size []:=by rw [← hw1];exact ⟨none,0,0,Blk.new _ _ _,Pcs.empty⟩
 have c2:w1.cell? ⟨g,2,none⟩=some (.slice A m.ents.length c):=((h.step B1).cell 2 (by decide)).trans (congrArg some hre)
 have hlt:lvs (m.ents.take n)=(lvs m.ents).take n:=by unfold lvs;rw [List.map_take]
 have het:Es w1 (·≠W.heap.size) A n c (m.ents.take n):=((hes.weak (Y:=fun b=>b<W.heap.size) fun b hl _=>hl).step B1).take n hn |>.weak fun b _ hx=>Nat.ne_of_lt hx
 have hap:=rfappend_any W.heap.size [] (m.ents.take n) A n c w1 k1 FrOk.nil het (by omega)
 rw [appendE_short _ (fun x hx=>hs x (List.mem_of_mem_take hx)) (by rw [List.length_take];omega),hlt] at hap
 have d1:decide ((n:Int)<0)=false:=by simp
 have d2:decide ((m.ents.length:Int)<(n:Int))=false:=by simp;omega
 have d3:decide (m.ents.length<n)=false:=by simp;omega
 obtain ⟨hss,hhs⟩:∃ x,(lvs m.ents).take n=x:=⟨_,rfl⟩
 rw [hhs] at hap ⊢
 have hln:hss.length=n:=by rw [← hhs,List.length_take,lvs_length];omega
 have hok:FrOk (leafF [] hss):=FrOk.nil.leafF hss (by rw [← hhs];exact (H32.lvs _).take n) (by rw [szF_nil];omega)
 have hnc:n≤c:=by omega
 have Hap:=Lib.hid hap
 have Hok:=Lib.hid hok
 have Hw1:=Lib.hid hw1
 obtain ⟨N,hN'⟩:∃ x,m.ents.length=x:=⟨_,rfl⟩
 rw [hN'] at c2 hsz d2 d3 hr hn
 clear hap hok hw1 hhs hln hlt het hes hre hs h hN' k1
 go_enter Tryz.func40,Tryz.ntmps40
 go_wp2_with (first
  | (go_at_call 8;refine (hsz).mono ?_;rintro e w' ⟨rfl,hw⟩;obtain rfl:=hw.symm)
  | ((with_reducible show wpList _ _ _ (⟨some 17,.build _ _,_,_,_,_⟩::_) _ _);refine wpList_run rfl (.agg #[.slice none 0 0]) W (by kernel_rfl) ?_;simp only [Act.put])
  | ((with_reducible show wpList _ _ _ (⟨some 18,.box _ _,_,_,_,_⟩::_) _ _);refine wpList_run rfl (.pointer (some ⟨W.heap.size,0,none⟩)) w1 (by rw [← Hw1.out];kernel_rfl) ?_;simp only [Act.put])
  | ((with_reducible show wpList _ _ _ (⟨some 25,.slice _ _ _ _ _,_,_,_,_⟩::_) _ _);refine wpList_run rfl (.slice A n c) w1 (run_slice_hiB (.tmp 23) (.tmp 24) rfl A N c n rfl rfl hnc w1) ?_;simp only [Act.put]))
 refine Hap.out.mono ?_
 rintro e w2 ⟨rfl,hF2,hg2⟩
 have hb2:Below W.heap.size W w2:=B1.grown hg2 B1.size (fun r e=>Nat.le_of_eq (Option.some.inj e))
 have Hby:=Lib.hid (rfbytes_any W.heap.size _ w2 hF2 Hok.out)
 clear hg2 hF2
 go_wp2_with fail
 refine Hby.out.mono ?_
 rintro e w3 ⟨v,rfl,ho,hb3⟩
 go_wp2_with fail
 go_ret2
 exact ⟨v,rfl,owns_le ho hb2.size,hb2.trans (hb3.mono hb2.size)⟩
end
end Go.Proofs.YtdjhoankkddomaaGreat
namespace Go.Proofs.YtdjhoankkddomaaGreat
open Go Go.RowKit
def OwnAny (w:World) (base:Nat) (v:Value) (n:Nat):Prop:=∃ xs,w.ownsRow base 5 1 v n xs
theorem OwnAny.setCell {w:World} {base n:Nat} {v:Value} (h:OwnAny w base v n) (g i:Nat) (u:Value):OwnAny (w.setCell ⟨g,i,none⟩ u) base v n:=by
 obtain ⟨xs,hl,h⟩:=h
 rcases h with h|⟨g',cap,cur,rfl,hb,hg,hn,hc,hs,ht⟩
 ·exact ⟨xs,hl,.inl h⟩
 ·by_cases e:g'=g
  ·subst e
   refine ⟨(cur.setIfInBounds i u).toList.take (n*1),by simp [hs];omega,.inr ⟨g',cap,_,rfl,hb,Blk.set_ hg i u,hn,hc,by simp [hs],rfl⟩⟩
  ·exact ⟨xs,hl,.inr ⟨g',cap,cur,rfl,hb,Blk.apart hg e u,hn,hc,hs,ht⟩⟩
theorem OwnAny.at_ {w:World} {base n:Nat} {v:Value} (h:OwnAny w base v n) (hn:0<n):∃ g c,v = .slice (some ⟨g,0,none⟩) n c∧base≤g∧g<w.heap.size∧n≤c∧c≤maxLen∧∀ i,i<n→(∃ u,w.cell? ⟨g,i,none⟩=some u)∧w.frozen? ⟨g,i,none⟩=false:=by
 obtain ⟨xs,hl,h⟩:=h
 rcases h with h|⟨g',cap,cur,rfl,hb,hg,hn',hc,hs,ht⟩
 ·omega
 ·refine ⟨g',cap,rfl,hb,Blk.lt hg,hn',hc,fun i hi=>⟨⟨cur[i]'(by omega),?_⟩,Blk.frozen hg i⟩⟩
  rw [Blk.cell hg,Array.getElem?_eq_getElem (by omega)]
theorem OwnAny.alloc {w:World} {base n:Nat} {v:Value} (h:OwnAny w base v n) (o:Obj):OwnAny (w.alloc o) base v n:=let ⟨xs,h⟩:=h;⟨xs,h.alloc o⟩
theorem OwnAny.step {w W:World} {base n:Nat} {v:Value} (h:OwnAny w base v n) (hb:Below w.heap.size w W):OwnAny W base v n:=let ⟨xs,h⟩:=h;⟨xs,owns_step h hb⟩
end Go.Proofs.YtdjhoankkddomaaGreat
namespace Go.Proofs.YtdjhoankkddomaaGreat
open Go Go.RowKit Go.Shelf
def rtA (m:MoV) (b:Int):List UInt8 × Int:=if 0≤b∧b≤(m.ents.length:Int) then (rootL ((lvs m.ents).take b.toNat),0) else (zero32,4)
def frA (m:MoV) (b:Int):List UInt8 × Int:=if 0≤b∧b≤(m.ents.length:Int) then (frontB ((lvs m.ents).take b.toNat),0) else ([],4)
def inA (m:MoV) (a b:Int):List (List UInt8) × Int:=if 0≤b∧b≤(m.ents.length:Int) then (rootsP ((lvs m.ents).take b.toNat) a,(pathA a b).2) else ([],4)
def coA (m:MoV) (a b:Int):List (List UInt8) × Int:=if 0≤b∧b≤(m.ents.length:Int) then (rootsS ((lvs m.ents).take b.toNat) a,(stepsA a b).2) else ([],4)
theorem rtA_len (m:MoV) (b:Int):(rtA m b).1.length=32:=by
 unfold rtA
 split
 ·exact length_rootL _ ((H32.lvs _).take _)
 ·rfl
theorem take_lvs_len (m:MoV) (b:Int) (h:0≤b∧b≤(m.ents.length:Int)):(((lvs m.ents).take b.toNat).length:Int)=b:=by
 rw [List.length_take,lvs_length];omega
theorem inA_len (m:MoV) (a b:Int) (hN:m.ents.length≤1000000):(inA m a b).1.length≤64:=by
 unfold inA
 split
 ·next h =>
  rw [length_rootsP]
  exact pathA_len _ _ (by rw [take_lvs_len m b h];omega)
 ·simp
theorem coA_len (m:MoV) (a b:Int) (hN:m.ents.length≤1000000):(coA m a b).1.length≤64:=by
 unfold coA
 split
 ·next h =>
  rw [length_rootsS]
  exact stepsA_len _ _ (by rw [take_lvs_len m b h];omega)
 ·simp
theorem inA_h32 (m:MoV) (a b:Int):H32 (inA m a b).1:=by
 unfold inA
 split
 ·exact rootsP_all _ ((H32.lvs _).take _) _
 ·intro x hx;cases hx
theorem coA_h32 (m:MoV) (a b:Int):H32 (coA m a b).1:=by
 unfold coA
 split
 ·exact rootsS_all _ ((H32.lvs _).take _) _
 ·intro x hx;cases hx
theorem inA_out (m:MoV) (a b:Int) (h:b<1∨(m.ents.length:Int)<b∨a<0∨b≤a):inA m a b=([],4):=by
 unfold inA
 by_cases hb:0≤b∧b≤(m.ents.length:Int)
 ·rw [if_pos hb]
  have hp:pathA a b=([],4):=by unfold pathA;rw [if_pos (by omega)]
  rw [hp]
  have h2:rootsP ((lvs m.ents).take b.toNat) a=[]:=rootsP_bad _ _ (by rw [take_lvs_len m b hb,hp];decide)
  rw [h2]
 ·rw [if_neg hb]
theorem coA_out (m:MoV) (a b:Int) (h:b<0∨(m.ents.length:Int)<b∨a<0∨b<a):coA m a b=([],4):=by
 unfold coA
 by_cases hb:0≤b∧b≤(m.ents.length:Int)
 ·rw [if_pos hb]
  have hp:stepsA a b=([],4):=by unfold stepsA;rw [if_pos (by omega)]
  rw [hp]
  have h2:rootsS ((lvs m.ents).take b.toNat) a=[]:=rootsS_bad _ _ (by rw [take_lvs_len m b hb,hp];decide)
  rw [h2]
 ·rw [if_neg hb]
section
variable {W:World} {Z:Nat→Prop} {lo g:Nat} {R:MdR} {m:MoV}
theorem mroot_u (h:Md Z lo g R m W) (b:Int):Calls Tryz.prog 37 #[.pointer (some ⟨g,0,none⟩),.int .i64 b] W fun e w'=>e = .returned (.tuple #[.agg ((rtA m b).1.map B).toArray,.int .i64 (rtA m b).2])∧Below W.heap.size W w':=by
 unfold rtA
 by_cases hb:0≤b∧b≤(m.ents.length:Int)
 ·rw [if_pos hb]
  obtain ⟨n,rfl⟩:=Int.eq_ofNat_of_zero_le hb.1
  exact mroot_ok h n (by omega)
 ·rw [if_neg hb]
  exact mroot_out h b (by omega)
theorem mfront_u (h:Md Z lo g R m W) (b:Int) (hN:m.ents.length≤1000000000):Calls Tryz.prog 39 #[.pointer (some ⟨g,0,none⟩),.int .i64 b] W fun e w'=>∃ v,e = .returned (.tuple #[v,.int .i64 (frA m b).2])∧Fresh W w' v (frA m b).1:=by
 unfold frA
 by_cases hb:0≤b∧b≤(m.ents.length:Int)
 ·rw [if_pos hb]
  obtain ⟨n,rfl⟩:=Int.eq_ofNat_of_zero_le hb.1
  exact mfront_in h n (by omega) hN
 ·rw [if_neg hb]
  refine (mfront_out h b (by omega)).mono ?_
  rintro e w' ⟨rfl,rfl⟩
  exact ⟨_,rfl,World.ownsRow_nil _ _ _ _,Below.refl _ _⟩
theorem mincl_u (h:Md Z lo g R m W) (a b:Int) (hN:m.ents.length≤1000000000):Calls Tryz.prog 41 #[.pointer (some ⟨g,0,none⟩),.int .i64 a,.int .i64 b] W fun e w' =>
  ∃ v,e = .returned (.tuple #[v,.int .i64 (inA m a b).2])∧w'.ownsRow W.heap.size 53 32 v (inA m a b).1.length (hcells (inA m a b).1)∧Below W.heap.size W w':=by
 unfold inA
 by_cases hb:0≤b∧b≤(m.ents.length:Int)
 ·rw [if_pos hb]
  obtain ⟨n,rfl⟩:=Int.eq_ofNat_of_zero_le hb.1
  exact mincl_in h a n (by omega) hN
 ·rw [if_neg hb]
  refine (mincl_out h a b (by omega)).mono ?_
  rintro e w' ⟨rfl,rfl⟩
  exact ⟨_,rfl,World.ownsRow_nil _ _ _ _,Below.refl _ _⟩
theorem mcons_u (h:Md Z lo g R m W) (a b:Int) (hN:m.ents.length≤1000000000):Calls Tryz.prog 43 #[.pointer (some ⟨g,0,none⟩),.int .i64 a,.int .i64 b] W fun e w' =>
  ∃ v,e = .returned (.tuple #[v,.int .i64 (coA m a b).2])∧w'.ownsRow W.heap.size 53 32 v (coA m a b).1.length (hcells (coA m a b).1)∧Below W.heap.size W w':=by
 unfold coA
 by_cases hb:0≤b∧b≤(m.ents.length:Int)
 ·rw [if_pos hb]
  obtain ⟨n,rfl⟩:=Int.eq_ofNat_of_zero_le hb.1
  exact mcons_in h a n (by omega) hN
 ·rw [if_neg hb]
  refine (mcons_out h a b (by omega)).mono ?_
  rintro e w' ⟨rfl,rfl⟩
  exact ⟨_,rfl,World.ownsRow_nil _ _ _ _,Below.refl _ _⟩
end
section
variable {W:World} {Z:Nat→Prop} {g:Nat} {R:XdR} {m:MoV}
theorem xroot_u (h:Xd Z g R m W) (b:Int) (hs:∀ x ∈ m.ents,x.length≤4096) (hN:m.ents.length≤100000):Calls Tryz.prog 38 #[.pointer (some ⟨g,0,none⟩),.int .i64 b] W fun e w'=>e = .returned (.tuple #[.agg ((rtA m b).1.map B).toArray,.int .i64 (rtA m b).2])∧Below W.heap.size W w':=by
 unfold rtA
 by_cases hb:0≤b∧b≤(m.ents.length:Int)
 ·rw [if_pos hb]
  obtain ⟨n,rfl⟩:=Int.eq_ofNat_of_zero_le hb.1
  exact xroot_in h n (by omega) hs hN
 ·rw [if_neg hb]
  exact xroot_out h b (by omega)
theorem xfront_u (h:Xd Z g R m W) (b:Int) (hs:∀ x ∈ m.ents,x.length≤4096) (hN:m.ents.length≤100000):Calls Tryz.prog 40 #[.pointer (some ⟨g,0,none⟩),.int .i64 b] W fun e w'=>∃ v,e = .returned (.tuple #[v,.int .i64 (frA m b).2])∧Fresh W w' v (frA m b).1:=by
 unfold frA
 by_cases hb:0≤b∧b≤(m.ents.length:Int)
 ·rw [if_pos hb]
  obtain ⟨n,rfl⟩:=Int.eq_ofNat_of_zero_le hb.1
  exact xfront_in h n (by omega) hs hN
 ·rw [if_neg hb]
  refine (xfront_out h b (by omega)).mono ?_
  rintro e w' ⟨rfl,rfl⟩
  exact ⟨_,rfl,World.ownsRow_nil _ _ _ _,Below.refl _ _⟩
theorem xincl_u (h:Xd Z g R m W) (a b:Int) (hs:∀ x ∈ m.ents,x.length≤4096) (hN:m.ents.length≤100000):Calls Tryz.prog 42 #[.pointer (some ⟨g,0,none⟩),.int .i64 a,.int .i64 b] W fun e w' =>
  ∃ v,e = .returned (.tuple #[v,.int .i64 (inA m a b).2])∧w'.ownsRow W.heap.size 53 32 v (inA m a b).1.length (hcells (inA m a b).1)∧Below W.heap.size W w':=by
 by_cases ho:b<1∨(m.ents.length:Int)<b∨a<0∨b≤a
 ·rw [inA_out m a b ho]
  refine (xincl_out h a b ho).mono ?_
  rintro e w' ⟨rfl,rfl⟩
  exact ⟨_,rfl,World.ownsRow_nil _ _ _ _,Below.refl _ _⟩
 ·unfold inA
  rw [if_pos (by omega)]
  obtain ⟨n,rfl⟩:=Int.eq_ofNat_of_zero_le (show 0≤b by omega)
  obtain ⟨k,rfl⟩:=Int.eq_ofNat_of_zero_le (show 0≤a by omega)
  exact xincl_in h k n (by omega) (by omega) hs hN
theorem xcons_u (h:Xd Z g R m W) (a b:Int) (hs:∀ x ∈ m.ents,x.length≤4096) (hN:m.ents.length≤100000):Calls Tryz.prog 44 #[.pointer (some ⟨g,0,none⟩),.int .i64 a,.int .i64 b] W fun e w' =>
  ∃ v,e = .returned (.tuple #[v,.int .i64 (coA m a b).2])∧w'.ownsRow W.heap.size 53 32 v (coA m a b).1.length (hcells (coA m a b).1)∧Below W.heap.size W w':=by
 by_cases ho:b<0∨(m.ents.length:Int)<b∨a<0∨b<a
 ·rw [coA_out m a b ho]
  refine (xcons_out h a b ho).mono ?_
  rintro e w' ⟨rfl,rfl⟩
  exact ⟨_,rfl,World.ownsRow_nil _ _ _ _,Below.refl _ _⟩
 ·unfold coA
  rw [if_pos (by omega)]
  obtain ⟨n,rfl⟩:=Int.eq_ofNat_of_zero_le (show 0≤b by omega)
  obtain ⟨k,rfl⟩:=Int.eq_ofNat_of_zero_le (show 0≤a by omega)
  exact xcons_in h k n (by omega) (by omega) hs hN
end
theorem owns_keptX {w w':World} {base n s g:Nat} {e:TypeId} {v:Value} {xs:List Value} (h:w.ownsRow base e s v n xs) (hg:w.grownBy w' (some g)) (hlt:g<base):w'.ownsRow base e s v n xs :=
 h.kept hg (by
  rcases h.2 with ⟨rfl,_⟩|⟨g',cap,cur,rfl,hl,_⟩
  ·exact .inl rfl
  ·refine .inr fun e=>?_
   have e:g'=g:=Option.some.inj e
   omega)
theorem owns_farX {W W':World} {base n s K:Nat} {e:TypeId} {v:Value} {xs:List Value} (h:W.ownsRow base e s v n xs) (hb:Below K W W') (hlt:∀ g,v.ownBlock=some g→g<K):W'.ownsRow base e s v n xs:=by
 rcases h.2 with hn|⟨g,cap,cur,rfl,h1,h2,h3⟩
 ·exact ⟨h.1,.inl hn⟩
 ·have hk:Blk W g e cur:=h2
  exact ⟨h.1,.inr ⟨g,cap,cur,rfl,h1,hk.below hb (hlt g rfl),h3⟩⟩
theorem owns_someX {W:World} {base:Nat} {e s:TypeId} {v:Value} {n:Nat} {xs:List Value} (h:W.ownsRow base e s v n xs) (hn:0<n):∃ g c,v = .slice (some ⟨g,0,none⟩) n c∧base≤g:=by
 rcases h.2 with ⟨_,h0⟩|⟨g,cap,cur,hv,hg,_⟩
 ·omega
 ·exact ⟨g,cap,hv,hg⟩
def OwnH (w:World) (base:Nat) (v:Value) (n:Nat):Prop:=∃ xs,w.ownsRow base 53 32 v n xs
theorem OwnH.put {w:World} {base n:Nat} {v:Value} (h:OwnH w base v n) (k:Nat) (hk:k<n) (x:List UInt8) (hx:x.length=32):∃ (g c:Nat) (cur:Array Value) (W2:World),v = .slice (some ⟨g,0,none⟩) n c∧base≤g∧Blk w g 53 cur∧k*32+32≤cur.size ∧
  w.setRow g (cur.toList.take (k*32)++(x.map B).toArray.toList++cur.toList.drop (k*32+32)).toArray=W2∧OwnH W2 base v n∧w.grownBy W2 (some g):=by
 obtain ⟨xs,ho⟩:=h
 obtain ⟨g,c,rfl,hg⟩:=owns_someX ho (by omega)
 obtain ⟨cur,h1,h2,-,h4⟩:=owns_put ho k hk (x.map B) (by rw [List.length_map];exact hx)
 exact ⟨g,c,cur,_,rfl,hg,h1,h2,rfl,⟨_,h4⟩,grown_setRow (grown_of_below (Below.refl _ _) _) _⟩
theorem OwnH.step {w W:World} {base n:Nat} {v:Value} (h:OwnH w base v n) (hb:Below w.heap.size w W):OwnH W base v n:=let ⟨_,ho⟩:=h;⟨_,owns_step ho hb⟩
theorem OwnH.kept {w W:World} {base n g:Nat} {v:Value} (h:OwnH w base v n) (hg:w.grownBy W (some g)) (hl:g<base):OwnH W base v n:=let ⟨_,ho⟩:=h;⟨_,owns_keptX ho hg hl⟩
theorem OwnAny.far {w W:World} {base n K:Nat} {v:Value} (h:OwnAny w base v n) (hb:Below K w W) (hl:∀ g,v.ownBlock=some g→g<K):OwnAny W base v n:=let ⟨_,ho⟩:=h;⟨_,owns_farX ho hb hl⟩
end Go.Proofs.YtdjhoankkddomaaGreat
namespace Go.Proofs.YtdjhoankkddomaaGreat
open Go Go.RowKit Go.Shelf
attribute [local go_sem] Oper.semAt_some
set_option maxHeartbeats 16000000 in
set_option maxRecDepth 100000 in
theorem asks_any (Z:Nat→Prop) (lo g:Nat) (R:MdR) (m:MoV) (W:World) (h:Md Z lo g R m W) (Z2:Nat→Prop) (gx:Nat) (Rx:XdR) (hx:Xd Z2 gx Rx m W) (a b:Int) (hs:∀ x ∈ m.ents,x.length≤4096) (hN:m.ents.length≤100000) :
  Calls Tryz.prog 10 #[.pointer (some ⟨g,0,none⟩),.pointer (some ⟨gx,0,none⟩),.int .i64 a,.int .i64 b] W fun e w'=>e = .returned (.bool true)∧Below W.heap.size W w':=by
 have hl1:=inA_len m a b (by omega)
 have hl2:=coA_len m a b (by omega)
 have h321:=inA_h32 m a b
 have h322:=coA_h32 m a b
 have lrt:=rtA_len m b
 have c1:=fun V (hb:Below W.heap.size W V)=>mroot_u (h.step hb) b
 have c2:=fun V (hb:Below W.heap.size W V)=>xroot_u (hx.step hb) b hs hN
 have c3:=fun V (hb:Below W.heap.size W V)=>mfront_u (h.step hb) b (by omega)
 have c4:=fun V (hb:Below W.heap.size W V)=>xfront_u (hx.step hb) b hs hN
 have c5:=fun V (hb:Below W.heap.size W V)=>mincl_u (h.step hb) a b (by omega)
 have c6:=fun V (hb:Below W.heap.size W V)=>xincl_u (hx.step hb) a b hs hN
 have c7:=fun V (hb:Below W.heap.size W V)=>mcons_u (h.step hb) a b (by omega)
 have c8:=fun V (hb:Below W.heap.size W V)=>xcons_u (hx.step hb) a b hs hN
 obtain ⟨rt,hrt⟩:∃ x,(rtA m b).1=x:=⟨_,rfl⟩
 obtain ⟨re,hre⟩:∃ x,(rtA m b).2=x:=⟨_,rfl⟩
 obtain ⟨fl,hfl⟩:∃ x,(frA m b).1=x:=⟨_,rfl⟩
 obtain ⟨fe,hfe⟩:∃ x,(frA m b).2=x:=⟨_,rfl⟩
 obtain ⟨pl,hpl⟩:∃ x,(inA m a b).1=x:=⟨_,rfl⟩
 obtain ⟨pe,hpe⟩:∃ x,(inA m a b).2=x:=⟨_,rfl⟩
 obtain ⟨sl,hsl⟩:∃ x,(coA m a b).1=x:=⟨_,rfl⟩
 obtain ⟨se,hse⟩:∃ x,(coA m a b).2=x:=⟨_,rfl⟩
 rw [hrt] at c1 c2 lrt
 rw [hre] at c1 c2
 rw [hfl,hfe] at c3 c4
 rw [hpl] at c5 c6 hl1 h321
 rw [hpe] at c5 c6
 rw [hsl] at c7 c8 hl2 h322
 rw [hse] at c7 c8
 have C1:=Lib.hid c1
 have C2:=Lib.hid c2
 have C3:=Lib.hid c3
 have C4:=Lib.hid c4
 have C5:=Lib.hid c5
 have C6:=Lib.hid c6
 have C7:=Lib.hid c7
 have C8:=Lib.hid c8
 have H321:=Lib.hid h321
 have H322:=Lib.hid h322
 clear c1 c2 c3 c4 c5 c6 c7 c8 hrt hre hfl hfe hpl hpe hsl hse h hx hs h321 h322
 go_enter Tryz.func10,Tryz.ntmps10
 go_wp2_with fail
 refine (C1.out W (Below.refl _ _)).mono ?_
 rintro e w1 ⟨rfl,b1⟩
 go_wp2_with (first
  | ((with_reducible show wpList _ _ _ (⟨some 9,.alloc _,_,_,_,_⟩::_) _ _);refine wpList_hvar (l:=rt) (.tmp 9) (.tmp 28) rfl rfl rfl rfl rfl rfl lrt ?_;intro w2 k9 b2;simp only [Act.put]))
 have B2:=b1.trans (b2.mono b1.size)
 refine (C2.out w2 B2).mono ?_
 rintro e w3 ⟨rfl,b3⟩
 have k93:=k9.step b3
 clear k9
 go_wp2_with (first
  | ((with_reducible show wpList _ _ _ (⟨some 11,.alloc _,_,_,_,_⟩::_) _ _);refine wpList_hvar (l:=rt) (.tmp 11) (.tmp 34) rfl rfl rfl rfl rfl rfl lrt ?_;intro w4 k11 b4;simp only [Act.put]))
 have k94:=k93.step b4
 have B3:=B2.trans (b3.mono B2.size)
 have B4:=B3.trans (b4.mono B3.size)
 clear k93 b1 b2 b3 b4 B2 B3
 refine (C3.out w4 B4).mono ?_
 rintro e w5 ⟨vc,rfl,hc5⟩
 have b5:=hc5.2
 have B5:=B4.trans (b5.mono B4.size)
 go_wp2_with fail
 refine (C4.out w5 B5).mono ?_
 rintro e w6 ⟨vd,rfl,hd6⟩
 have b6:=hd6.2
 have B6:=B5.trans (b6.mono B5.size)
 have k96:=(k94.step b5).step b6
 have k116:=(k11.step b5).step b6
 have hc6:=owns_step hc5.1 b6
 obtain ⟨Ac,cc,hvc,hsc⟩:=owns_sl hc6
 obtain ⟨Ad,cd,hvd,hsd⟩:=owns_sl hd6.1
 have hclt:∀ k,vc.ownBlock=some k→w4.heap.size≤k∧k<w5.heap.size:=fun k e=>hc5.1.lt k e
 have hOc:OwnAny w6 w4.heap.size vc fl.length:=⟨_,hc6⟩
 subst hvc
 subst hvd
 obtain ⟨nf,hnf⟩:∃ x,fl.length=x:=⟨_,rfl⟩
 rw [hnf] at hsc hsd hOc hclt ⊢
 have Hsc:=Lib.hid hsc
 have Hsd:=Lib.hid hsd
 have hrc:=hsc.room
 have hmc:=hsc.max
 unfold maxLen at hmc
 clear hc5 hd6 hc6 k94 k11 hsc hsd hnf
 go_wp2_with (first
  | ((with_reducible show wpList _ _ _ (⟨some 48,.load _ _,_,_,_,_⟩::_) _ _);refine wpList_hload (.tmp 9) (by kernel_rfl) rfl k96 rfl ?_;simp only [Act.put])
  | ((with_reducible show wpList _ _ _ (⟨some 49,.load _ _,_,_,_,_⟩::_) _ _);refine wpList_hload (.tmp 11) (by kernel_rfl) rfl k116 rfl ?_;simp only [Act.put])
  | ((with_reducible show wpList _ _ _ (⟨some 50,.binOp _ _ _ _ _,_,_,_,_⟩::_) _ _);refine wpList_runG (by kernel_rfl) (.bool false) _ (run_neq26_f (.tmp 48) (.tmp 49) _ rt rt rfl rfl rfl lrt lrt rfl _) ?_;simp only [Act.put])
  | ((with_reducible show wpList _ _ _ (⟨some 58,.convert _ _ _,_,_,_,_⟩::_) _ _);refine wpList_runG (by kernel_rfl) (.string (bstr fl)) _ (strM_op (.tmp 57) rfl rfl Hsc.out) ?_;simp only [Act.put])
  | ((with_reducible show wpList _ _ _ (⟨some 60,.convert _ _ _,_,_,_,_⟩::_) _ _);refine wpList_runG (by kernel_rfl) (.string (bstr fl)) _ (strM_op (.tmp 59) rfl rfl Hsd.out) ?_;simp only [Act.put])
  | ((with_reducible show wpList _ _ _ (⟨some 61,.binOp _ _ _ _ _,_,_,_,_⟩::_) _ _);refine wpList_runG (by kernel_rfl) (.bool false) _ (run_neqstr_fG (.tmp 58) (.tmp 60) _ fl rfl rfl rfl _) ?_;simp only [Act.put]))
 refine (C5.out w6 B6).mono ?_
 rintro e w7 ⟨vp,rfl,hp7,b7⟩
 have B7:=B6.trans (b7.mono B6.size)
 go_wp2_with fail
 refine (C6.out w7 B7).mono ?_
 rintro e w8 ⟨vq,rfl,hq8,b8⟩
 have B8:=B7.trans (b8.mono B7.size)
 go_wp2_with fail
 refine (C7.out w8 B8).mono ?_
 rintro e w9 ⟨vr,rfl,hr9,b9⟩
 have B9:=B8.trans (b9.mono B8.size)
 go_wp2_with fail
 refine (C8.out w9 B9).mono ?_
 rintro e w10 ⟨vs,rfl,hs10,b10⟩
 have B10:=B9.trans (b10.mono B9.size)
 have hp10:=owns_step (owns_step (owns_step hp7 b8) b9) b10
 have hq10:=owns_step (owns_step hq8 b9) b10
 have hr10:=owns_step hr9 b10
 obtain ⟨Ap,cp,hvp,hHp⟩:=Hs.of_owns hp10 rfl H321.out
 obtain ⟨Aq,cq,hvq,hHq⟩:=Hs.of_owns hq10 rfl H321.out
 obtain ⟨Ar,cr,hvr,hHr⟩:=Hs.of_owns hr10 rfl H322.out
 obtain ⟨As,cs,hvs,hHs⟩:=Hs.of_owns hs10 rfl H322.out
 have hplt:∀ k,vp.ownBlock=some k→w6.heap.size≤k∧k<w7.heap.size:=fun k e=>hp7.lt k e
 have hrlt:∀ k,vr.ownBlock=some k→w8.heap.size≤k∧k<w9.heap.size:=fun k e=>hr9.lt k e
 subst hvp
 subst hvq
 subst hvr
 subst hvs
 have hOp:OwnH w10 w6.heap.size (.slice Ap pl.length cp) pl.length:=⟨_,hp10⟩
 have hOr:OwnH w10 w8.heap.size (.slice Ar sl.length cr) sl.length:=⟨_,hr10⟩
 have hOc10:=(((hOc.step b7).step b8).step b9).step b10
 have hrp:=hHp.sl.room
 have hmp:=hHp.sl.max
 have hrr:=hHr.sl.room
 have hmr:=hHr.sl.max
 unfold maxLen at hmp hmr
 have s67:=b7.size
 have s78:=b8.size
 have s89:=b9.size
 have s910:=b10.size
 have s56:=b6.size
 have w46:W.heap.size≤w4.heap.size∧w4.heap.size≤w5.heap.size:=⟨B4.size,b5.size⟩
 have D1:=fun V (hb:Below w10.heap.size w10 V)=>sameh_any pl Ap Aq pl.length cp cq V ((hHp.step hb).weak fun _ _ _=>trivial) ((hHq.step hb).weak fun _ _ _=>trivial) (by omega)
 have D2:=fun V (hb:Below w10.heap.size w10 V)=>sameh_any sl Ar As sl.length cr cs V ((hHr.step hb).weak fun _ _ _=>trivial) ((hHs.step hb).weak fun _ _ _=>trivial) (by omega)
 obtain ⟨np,hnp⟩:∃ x,pl.length=x:=⟨_,rfl⟩
 obtain ⟨nr,hnr⟩:∃ x,sl.length=x:=⟨_,rfl⟩
 rw [hnp] at D1 hOp hrp hplt hl1
 rw [hnr] at D2 hOr hrr hrlt hl2
 rw [hnp,hnr]
 have HD1:=Lib.hid D1
 have HD2:=Lib.hid D2
 clear D1 D2 hHp hHq hHr hHs hp7 hq8 hr9 hs10 hp10 hq10 hr10 hnp hnr C1 C2 C3 C4 C5 C6 C7 C8 Hsc Hsd H321 H322 hOc k96 k116 B4 B5 B6 B7 B8 B9 b5 b6 b7 b8 b9 b10
 go_wp2_with fail
 refine (HD1.out w10 (Below.refl _ _)).mono ?_
 rintro e w11 ⟨rfl,b11⟩
 go_wp2_with fail
 refine (HD2.out w11 b11).mono ?_
 rintro e w12 ⟨rfl,b12⟩
 have B12:=b11.trans (b12.mono b11.size)
 have hOp:=hOp.step B12
 have hOr:=hOr.step B12
 have hOc:=hOc10.step B12
 have BB:=B10.trans (B12.mono B10.size)
 have SW:=B10.size
 obtain ⟨b4,hb4⟩:∃ x,w4.heap.size=x:=⟨_,rfl⟩
 obtain ⟨b5,hb5⟩:∃ x,w5.heap.size=x:=⟨_,rfl⟩
 obtain ⟨b6,hb6⟩:∃ x,w6.heap.size=x:=⟨_,rfl⟩
 obtain ⟨b7,hb7⟩:∃ x,w7.heap.size=x:=⟨_,rfl⟩
 obtain ⟨b8,hb8⟩:∃ x,w8.heap.size=x:=⟨_,rfl⟩
 obtain ⟨b9,hb9⟩:∃ x,w9.heap.size=x:=⟨_,rfl⟩
 rw [hb4] at hOc hclt w46
 rw [hb5] at hclt w46 s56
 rw [hb6] at hOp hplt s67 s56
 rw [hb7] at hplt s67 s78
 rw [hb8] at hOr hrlt s78 s89
 rw [hb9] at hrlt s89 s910
 clear HD1 HD2 hOc10 B12 B10 b11 b12 hb4 hb5 hb6 hb7 hb8 hb9 s910 SW
 go_wp2_with fail
 go_loopw [21] (fun v21 wr=>∃ k:Nat,k≤np∧v21 = .int .i64 (k:Int)∧OwnH wr b6 (.slice Ap np cp) np∧OwnH wr b8 (.slice Ar nr cr) nr∧OwnAny wr b4 (.slice Ac nf cc) nf∧Below W.heap.size W wr) (fun v21 _=>np - (intOf v21).toNat)
 case atStart=>exact ⟨0,Nat.zero_le _,rfl,hOp,hOr,hOc,BB⟩
 case round =>
  clear hOp hOr hOc BB
  obtain ⟨k,hk,rfl,hOp,hOr,hOc,hB⟩:=hrel
  by_cases hkn:k<np
  ·have hd:decide ((k:Int)<(np:Int))=true:=by simp;omega
   have hwk:IntKind.i64.wrap ((k:Int)+1)=(k:Int)+1:=IntWalk.i64_in _ (by omega)
   obtain ⟨gm,cm,cur,W2,e5,hg5,hk1,hs1,hW2,hO2,hgr⟩:=hOp.put k hkn (oneHash 9) rfl
   injection e5 with e51 e53 e52
   subst e51
   subst e52
   clear e53
   have hgml:=(hplt gm rfl).2
   have hOr2:=hOr.kept hgr (by omega)
   have hOc2:=hOc.far (grown_to_below (N:=gm) hgr (fun r e=>Nat.le_of_eq (Option.some.inj e)) (Nat.le_of_lt hk1.lt)) (fun r e=>by have:=hclt r e;omega)
   have hB2:=hB.grown hgr hB.size (fun r e=>by have e:=Option.some.inj e;omega)
   have HW2:=Lib.hid hW2
   clear hW2 hgr hOp hOr hOc
   go_wp2_with (first
    | ((with_reducible show wpList _ _ _ (⟨some 124,.build _ _,_,_,_,_⟩::_) _ _);refine wpList_run0 rfl (.agg ((oneHash 9).map B).toArray) (by kernel_rfl) ?_;simp only [Act.put])
    | ((with_reducible show wpList _ _ _ [⟨none,.store _ (.tmp 125) _,_,_,_,_⟩] _ _);refine wpList_store_agg rfl 53 (.tmp 125) (.tmp 124) rfl 32 size26 gm (k*32) ((oneHash 9).map B).toArray rfl rfl (by rfl) (oneCell_B _) 53 cur hk1 hs1 ?_;rw [HW2.out];simp only [Act.put]))
   go_roundw
   case rel=>exact ⟨k+1,by omega,by go_num,hO2,hOr2,hOc2,hB2⟩
   case measure=>simp [intOf];omega
  ·obtain rfl:k=np:=by omega
   have hd:decide ((k:Int)<(k:Int))=false:=by simp
   clear hplt hOp
   go_wp2_with fail
   go_loopw [22] (fun v22 wr=>∃ j:Nat,j≤nr∧v22 = .int .i64 (j:Int)∧OwnH wr b8 (.slice Ar nr cr) nr∧OwnAny wr b4 (.slice Ac nf cc) nf∧Below W.heap.size W wr) (fun v22 _=>nr - (intOf v22).toNat)
   case atStart=>exact ⟨0,Nat.zero_le _,rfl,hOr,hOc,hB⟩
   case round =>
    clear hOr hOc hB
    rename_i wr0 _
    obtain ⟨j,hj,rfl,hOr,hOc,hB⟩:=hrel
    by_cases hjn:j<nr
    ·have hd:decide ((j:Int)<(nr:Int))=true:=by simp;omega
     have hwk:IntKind.i64.wrap ((j:Int)+1)=(j:Int)+1:=IntWalk.i64_in _ (by omega)
     obtain ⟨gm,cm,cur,W2,e5,hg5,hk1,hs1,hW2,hO2,hgr⟩:=hOr.put j hjn (oneHash 9) rfl
     injection e5 with e51 e53 e52
     subst e51
     subst e52
     clear e53
     have hgml:=(hrlt gm rfl).2
     have hOc2:=hOc.far (grown_to_below (N:=gm) hgr (fun r e=>Nat.le_of_eq (Option.some.inj e)) (Nat.le_of_lt hk1.lt)) (fun r e=>by have:=hclt r e;omega)
     have hB2:=hB.grown hgr hB.size (fun r e=>by have e:=Option.some.inj e;omega)
     have HW2:=Lib.hid hW2
     clear hW2 hgr hOr hOc
     go_wp2_with (first
      | ((with_reducible show wpList _ _ _ (⟨some 134,.build _ _,_,_,_,_⟩::_) _ _);refine wpList_run0 rfl (.agg ((oneHash 9).map B).toArray) (by kernel_rfl) ?_;simp only [Act.put])
      | ((with_reducible show wpList _ _ _ [⟨none,.store _ (.tmp 135) _,_,_,_,_⟩] _ _);refine wpList_store_agg rfl 53 (.tmp 135) (.tmp 134) rfl 32 size26 gm (j*32) ((oneHash 9).map B).toArray rfl rfl (by rfl) (oneCell_B _) 53 cur hk1 hs1 ?_;rw [HW2.out];simp only [Act.put]))
     go_roundw
     case rel=>exact ⟨j+1,by omega,by go_num,hO2,hOc2,hB2⟩
     case measure=>simp [intOf];omega
    ·obtain rfl:j=nr:=by omega
     have hd:decide ((j:Int)<(j:Int))=false:=by simp
     clear hrlt hOr
     go_wp2_with fail
     go_loopw [23] (fun v23 wr=>∃ i:Nat,i≤nf∧v23 = .int .i64 (i:Int)∧OwnAny wr b4 (.slice Ac nf cc) nf∧Below W.heap.size W wr) (fun v23 _=>nf - (intOf v23).toNat)
     case atStart=>exact ⟨0,Nat.zero_le _,rfl,hOc,hB⟩
     case round =>
      clear hOc hB
      obtain ⟨i,hi,rfl,hOc,hB⟩:=hrel
      by_cases hin:i<nf
      ·have hd:decide ((i:Int)<(nf:Int))=true:=by simp;omega
       have hd2:decide (i<nf)=true:=by simp;omega
       have hwk:IntKind.i64.wrap ((i:Int)+1)=(i:Int)+1:=IntWalk.i64_in _ (by omega)
       obtain ⟨ge,ce,hve,hge,hgl,-,-,hcf⟩:=hOc.at_ (by omega)
       injection hve with e1 e2 e3
       subst e1
       subst e3
       clear e2
       obtain ⟨⟨u,hcu⟩,hfu⟩:=hcf i hin
       have hO2:=hOc.setCell ge i (.int .u8 99)
       have hB2:=hB.setCell (p:=⟨ge,i,none⟩) (by show W.heap.size≤ge;omega) (.int .u8 99)
       clear hcf hOc hB
       go_wp2_with fail
       go_roundw
       case rel=>exact ⟨i+1,by omega,by go_num,hO2,hB2⟩
       case measure=>simp [intOf];omega
      ·obtain rfl:i=nf:=by omega
       have hd:decide ((i:Int)<(i:Int))=false:=by simp
       clear hOc hclt
       go_wp2_with fail
       go_ret
       exact ⟨rfl,hB⟩
end Go.Proofs.YtdjhoankkddomaaGreat
