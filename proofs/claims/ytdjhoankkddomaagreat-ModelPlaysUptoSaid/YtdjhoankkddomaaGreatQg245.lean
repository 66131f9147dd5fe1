import Derived.Test.YtdjhoankkddomaaGreatQg234
namespace Go.Proofs.YtdjhoankkddomaaGreat
open Go Go.RowKit Go.Shelf
attribute [local go_sem] Oper.semAt_some
theorem KeepU.es {B n₁:Nat} {U:Nat→Prop} {W W':World} {X:Nat→Prop} {A:Option Addr} {n c:Nat} {ls:List (List UInt8)} (h:KeepU B n₁ U W W') (hs:Es W X A n c ls) (hm:∀ b,b<W.heap.size→X b→b<n₁∧¬ U b):Es W' X A n c ls:=by
 obtain ⟨vs,h1,h2⟩:=hs.ex
 refine ⟨⟨vs,h.slv h1 hm,fun i hi=>?_⟩,hs.len⟩
 obtain ⟨Ai,ci,h3,h4⟩:=h2 i hi
 have h5:=h.slv h4.v hm
 exact ⟨Ai,ci,h3,⟨h5.bs,h4.len,h5.room,h4.none,h5.max⟩⟩
def EntY (fr:Nat) (ls:List (List UInt8)) (n₁ k:Nat) (vs:Array Value) (W:World):Prop:=∃ v,vs=#[.int .i64 ((fr+k:Nat):Int),v]∧W.ownsRow n₁ 5 1 v (ls.getD k []).length ((ls.getD k []).map B)
set_option maxRecDepth 100000 in
set_option maxHeartbeats 8000000 in
theorem mall_seq (fr:Nat) (ls:List (List UInt8)) (g1 g2:Nat) (A:Option Addr) (n c:Nat) (U:Nat→Prop) (w:World) (hb1:Blk w g1 48 #[.slice A n c]) (hb2:Blk w g2 2 #[.int .i64 (fr:Int)]) (hs:Es w (fun b=>¬ U b) A n c ls) (hU:∀ b,U b→b<w.heap.size) (hU1:¬ U g1) (hU2:¬ U g2)
  (hn:0<n→fr+n≤1000000000) (hbig:∀ x ∈ ls,x.length≤1099511627776) :
  SeqU Tryz.prog 64 #[.pointer (some ⟨g1,0,none⟩),.pointer (some ⟨g2,0,none⟩)] ls.length U (fun n₁ k vs W=>EntY fr ls n₁ k vs W) w:=by
 intro ly J Jx W hW hJ hJx hY h0
 have k1:=hb1.below hW hb1.lt
 have k2:=hb2.below hW hb2.lt
 have z1:=k1.lt
 have z2:=k2.lt
 have hlen:=hs.len
 have hs':Es W (fun b=>¬ U b∧b<W.heap.size) A n c ls:=((hs.weak (Y:=fun b=>¬ U b∧b<w.heap.size) fun b hb hx=>⟨hx,hb⟩).below hW fun b _ hx=>hx.2).weak fun b hb hx=>⟨hx.1,hb⟩
 have hroom:=hs'.room
 have hmx:=hs'.max
 unfold maxLen at hmx
 have c1:W.cell? ⟨g1,0,none⟩=some (.slice A n c):=by rw [k1.cell];rfl
 have hst:=h0
 have hUW:∀ b,U b→b<W.heap.size:=fun b hb=>Nat.lt_of_lt_of_le (hU b hb) hW.size
 have hJ0:=h0 W.heap.size (Nat.le_refl _)
 have HJ:=Lib.hid hJ
 have HY:=Lib.hid hY
 have Hbig:=Lib.hid hbig
 have Hlen:=Lib.hid hlen
 have HUW:=Lib.hid hUW
 have HU1:=Lib.hid hU1
 have HN0:=Lib.hid hn
 clear hn
 have HU2:=Lib.hid hU2
 clear hb1 hb2 hJx hJ hY hst h0 hW hU hUW hbig hs hlen hU1 hU2
 refine callsIn_of_wp Tryz.func64 rfl trivial ?_ rfl
 simp only [Tryz.ntmps64,List.size_toArray,List.length_cons,List.length_nil,Nat.reduceAdd,Nat.reduceSub,Array.replicate_succ,Array.replicate_zero,List.push_toArray,List.append_toArray,List.nil_append,List.cons_append]
 gi_wp2
 gi_loopw [4,5,8] (fun _ _ i wr=>∃ k:Nat,k≤n∧i = .int .i64 k∧W.heap.size≤wr.heap.size∧J W.heap.size k wr∧Es wr (fun b=>¬ U b∧b<W.heap.size) A n c ls∧Blk wr g2 2 #[.int .i64 (fr:Int)])
  (fun _ _ i _=>n - (intOf i).toNat)
 case atStart=>exact ⟨0,Nat.zero_le _,rfl,Nat.le_refl _,hJ0,hs',k2⟩
 case round =>
  clear hJ0 hs' k2 c1 k1
  obtain ⟨k,hk,rfl,hsz,hJs,hs,k2⟩:=hrel
  by_cases hlt:k<n
  ·have hd:decide ((k:Int)<(n:Int))=true:=by simp;omega
   have hn:=HN0.out (by omega)
   obtain ⟨b,o,rfl,hbw,-,hat⟩:=hs.at_ (by omega)
   obtain ⟨Ak,ck,ce,hsl⟩:=hat k hlt
   have hlk:(ls.getD k []).length≤1099511627776:=by
    rw [List.getD_eq_getElem?_getD,List.getElem?_eq_getElem (by rw [Hlen.out];exact hlt)]
    exact Hbig.out _ (List.getElem_mem _)
   obtain ⟨l,hl⟩:∃ x,ls.getD k []=x:=⟨_,rfl⟩
   rw [hl] at ce hsl hlk
   have hrk:=hsl.room
   have hmk:=hsl.max
   unfold maxLen at hmk
   have hslS:=fun V (hb:Below wr.heap.size wr V)=>(hsl.step hb).all
   obtain ⟨ll,hll⟩:∃ x,l.length=x:=⟨_,rfl⟩
   rw [hll] at ce hslS hlk hrk
   have hcl:=fun V (hb:Below wr.heap.size wr V)=>bcloneO_any l Ak ll ck V (hslS V hb) hlk
   have c2:∀ s:InC (fun V=>Below wr.heap.size wr V),s.W.cell? ⟨g2,0,none⟩=some (.int .i64 (fr:Int)):=fun s=>by rw [(k2.step s.ok).cell];rfl
   have hwk:IntKind.i64.wrap ((k:Int)+1)=(k:Int)+1:=IntWalk.i64_in _ (by omega)
   have hwf:IntKind.i64.wrap ((fr:Int)+(k:Int))=(fr:Int)+(k:Int):=IntWalk.i64_in _ (by omega)
   have Hl:=Lib.hid hl
   have Hll:=Lib.hid hll
   have Hcl:=Lib.hid hcl
   have hS:Below wr.heap.size wr wr.drew:=(Below.refl _ _).drew
   clear hl hll hcl hslS hat hsl
   gi_wp2
   refine wpIn_region_mix_tailY openW rfl (fun _ _ h=>by obtain ⟨⟨v,hv⟩,-⟩:=h;cases hv) (fun W=>Below wr.heap.size wr W) 6 [(0,true),(1,true),(2,true),(3,true),(4,true),(5,false)] (by kernel_rfl) (by kernel_rfl) hS fun _=>?_
   simp only [List.map_cons,List.map_nil,Array.getD_eq_getD_getElem?,List.getElem?_toArray,List.getElem?_cons_succ,List.getElem?_cons_zero,Option.getD_some]
   have hdz:=hS.size
   generalize wr.drew=Z0 at hS hdz ⊢
   iterate 5 (refine wpMix_s (fun K hK=>?_);go_simp;refine hK _ ?_;clear hK K)
   refine wpMix_c (fun K hK=>?_) hS
   go_simp
   refine (Hcl.out Z0 hS).mono ?_
   rintro e Z0_1 ⟨v,rfl,ho,hb'⟩
   refine hK _ _ ?_
   clear hK K
   replace hS:=hS.trans (hb'.mono hS.size)
   refine ⟨hS,?_⟩
   have hbk:=hb'
   clear hb'
   refine wpMix_nil ?_
   intro _
   simp only [List.drop_succ_cons,List.drop_zero]
   have hsz0:W.heap.size≤Z0.heap.size:=Nat.le_trans hsz hdz
   have hJ2:=HJ.out W.heap.size k wr Z0_1 none hJs (grown_of_below hS none) (fun r e=>by cases e)
   have hz:=hS.size
   obtain ⟨fn,tmps,assign,body,hy,hR⟩:=HY.out W.heap.size k #[.int .i64 ((fr:Int)+(k:Int)),v] Z0_1 (Nat.le_refl _) (by omega) (by rw [Hlen.out];exact hlt) hJ2 ⟨v,by rw [Int.natCast_add],by rw [Hl.out];exact owns_le ho hsz0⟩
   have hs2:=hs.step hS
   have k22:=k2.step hS
   clear hJ2 hJs hs k2 hbk ho hS c2 Hcl
   gi_wp2
   refine hR.mono ?_
   clear hR hy
   rintro e w4 (⟨rfl,hj4,hk4⟩|⟨rfl,hjx4,hk4⟩)
   ·have hs4:=hk4.es hs2 fun b _ hb=>⟨hb.2,hb.1⟩
    have k24:=hk4.blk k22 z2 HU2.out
    have hsz4:=hk4.size
    clear hk4 hs2 k22
    gi_wp2
    refine np_normal ?_
    gi_wp2
    exact ⟨⟨k+1,by omega,by go_num,by omega,hj4,hs4,k24⟩,by simp [intOf];omega⟩
   ·gi_wp2
    refine np_normal ?_
    gi_wp2
    refine bodyPost_ret (by exact results_none rfl _ _ _) rfl ?_
    exact ⟨⟨_,rfl⟩,_,Nat.le_refl _,.inr ⟨k,by rw [Hlen.out];exact hlt,hjx4⟩⟩
  ·obtain rfl:k=n:=by omega
   have hd:decide ((k:Int)<(k:Int))=false:=by simp
   gi_wp2
   go_end0
   exact ⟨⟨_,rfl⟩,_,Nat.le_refl _,.inl (by rw [Hlen.out];exact hJs)⟩
end Go.Proofs.YtdjhoankkddomaaGreat
