import Derived.Test.YtdjhoankkddomaaGreatQg205
namespace Go.Proofs.YtdjhoankkddomaaGreat
open Go.RowKit
theorem sl_lit (w:World) (l:List UInt8) (n:Nat) (hn:l.length=n) (hm:n≤maxLen):Sl (w.alloc (.cells (l.map B).toArray 5)) (fun _=>True) (some ⟨w.heap.size,0,none⟩) n n l :=
 ⟨Bs.new w _ _ _ trivial,hn,Nat.le_refl _,by simp,hm⟩
theorem below_append {a w w':World} {b base:Nat} {v:Value} {e:TypeId} {n:Nat} {xs:List Value} (hb:Below b a w) (ho:w.ownsRow base e 1 v n xs) (hg:w.grownBy w' v.ownBlock) (hle:b≤base) (hbw:b≤w.heap.size):Below b a w' :=
 hb.trans ⟨hg.os,hg.tape,hg.output,hg.size,fun k hk=>hg.block k (by omega) (fun e=>by have:=(ho.lt k e.symm).1;omega)⟩
theorem blk_append {w w':World} {base g:Nat} {v:Value} {e t:TypeId} {n:Nat} {xs:List Value} {cs:Array Value} (hb:Blk w g t cs) (ho:w.ownsRow base e 1 v n xs) (hg:w.grownBy w' v.ownBlock) (hlt:g<base):Blk w' g t cs :=
 hb.grown hg (fun e=>by have:=(ho.lt g e.symm).1;omega)
theorem flat_take_succ (l:List UInt32) (k:Nat) (h:k<l.length):(l.take (k+1)).flatMap word4=(l.take k).flatMap word4++word4 (l.getD k 0):=by
 rw [List.take_succ_eq_append_getElem h,List.flatMap_append]
 simp [List.getD_eq_getElem?_getD,h]
theorem flat_take_len (l:List UInt32) (k:Nat) (h:k≤l.length):((l.take k).flatMap word4).length=4*k:=by
 induction k with
 | zero=>simp
 | succ k ih=>rw [flat_take_succ l k (by omega),List.length_append,ih (by omega),length_word4];omega
structure WdC (w:World) (st:List UInt32) (v:Value) (k:Nat) (W:World):Prop where
 own:W.ownsRow (w.heap.size+1) 5 1 v ((st.take k).flatMap word4).length (((st.take k).flatMap word4).map B)
 blk:Blk W w.heap.size 190 (st.map U).toArray
 bel:Below w.heap.size w W
 size:w.heap.size+1≤W.heap.size
set_option maxHeartbeats 1000000 in
set_option maxRecDepth 100000 in
theorem words_any (st:List UInt32) (w:World) (h8:st.length=8) :
  Calls Tryz.prog 138 #[.agg (st.map U).toArray] w fun e w'=>∃ v,e = .returned v∧Fresh w w' v (st.flatMap word4):=by
 have H8:=Lib.hid h8
 clear h8
 go_enter Tryz.func138,Tryz.ntmps138
 go_wp2_with fail
 go_loopw [3,4] (fun v0 i wr=>∃ (v:Value) (k:Nat),v=v0∧k≤8∧i = .int .i64 (k:Int)∧WdC w st v k wr) (fun _ i=>fun _=>8 - (intOf i).toNat)
 case atStart=>exact ⟨_,0,rfl,by omega,rfl,World.ownsRow_nil _ _ _ _,Blk.new _ _ _,(Below.refl _ _).alloc (Nat.le_refl _) _,by simp⟩
 case round =>
  obtain ⟨v,k,rfl,hk,rfl,hC⟩:=hrel
  by_cases hlt:k<8
  ·have hkl:k<st.length:=by have:=H8.out;omega
   obtain ⟨x,hx⟩:∃ x,st.getD k 0=x:=⟨_,rfl⟩
   have cx:∀ s:InC (fun W=>Blk W w.heap.size 190 (st.map U).toArray),s.W.cell? ⟨w.heap.size,k,none⟩=some (U x):=fun s=>by rw [s.ok.cell,← hx];exact cellU st k hkl
   have hki:(k:Int)<8:=by omega
   have hw4:((word4 x).map B).toArray=#[Value.int .u8 ((x.toNat:Int) / 16777216 % 256),Value.int .u8 ((x.toNat:Int) / 65536 % 256),Value.int .u8 ((x.toNat:Int) / 256 % 256),Value.int .u8 ((x.toNat:Int) % 256)]:=by
    rw [byte24,byte16,byte8,byte0];rfl
   have hdc:WdC w st v k wr.drew:=⟨hC.own,hC.blk.drew,hC.bel.drew,hC.size⟩
   have Hx:=Lib.hid hx
   have Hw4:=Lib.hid hw4
   clear hx hC hw4
   go_wp2_with fail
   refine wp_region_mix (fun W=>Blk W w.heap.size 190 (st.map U).toArray) [(0,true),(1,true),(2,true),(3,true),(4,true),(5,true),(6,true),(7,true),(8,true),(9,true),(10,true),(11,true),(12,true),(13,true),(14,true),(15,true),(16,true),(17,true),(18,true),(19,true),(20,false),(21,false),(22,true)] (by kernel_rfl) (by kernel_rfl) hdc.blk fun _=>?_
   simp only [List.map_cons,List.map_nil,Array.getD_eq_getD_getElem?,List.getElem?_toArray,List.getElem?_cons_succ,List.getElem?_cons_zero,Option.getD_some]
   generalize wr.drew=W1 at hdc ⊢
   obtain ⟨v2,W2,hr2,ho2,hg2⟩:=append_sl (hdc.own.alloc (.cells ((word4 x).map B).toArray 5)) (sl_lit W1 (word4 x) 4 rfl (by decide)) (by rw [flat_take_len st k (by omega)];omega) (by have:=hdc.size;simp;omega)
   rw [Hw4.out] at hr2
   have Hr2:=Lib.hid hr2
   clear hr2
   iterate 20 (refine wpMix_s (fun K hK=>?_);go_simp;refine hK _ ?_;clear hK K)
   refine wpMix_c (fun K hK=>?_) hdc.blk
   go_simp
   refine hK _ _ ?_
   clear hK K
   refine ⟨hdc.blk.alloc _,?_⟩
   have hs:=hdc.size
   have ho1:=hdc.own.alloc (.cells ((word4 x).map B).toArray 5)
   have hb2:=blk_append (hdc.blk.alloc (.cells ((word4 x).map B).toArray 5)) ho1 hg2 (by omega)
   have hB2:=below_append (hdc.bel.alloc (by omega) (.cells ((word4 x).map B).toArray 5)) ho1 hg2 (by omega) (by simp;omega)
   have hs2:w.heap.size+1≤W2.heap.size:=by have:=hg2.size;simp at this;omega
   refine wpMix_run (by kernel_rfl) v2 W2 (run_append_op (.tmp 9) (.tmp 29) 41 rfl _ _ rfl rfl Hr2.out) hb2 ?_
   simp only [Act.put]
   (refine wpMix_s (fun K hK=>?_);go_simp;refine hK _ ?_;clear hK K)
   refine wpMix_nil ?_
   intro _
   go_wp2
   go_roundw
   case rel =>
    refine ⟨_,k+1,rfl,by omega,by go_num,?_⟩
    refine ⟨?_,hb2,hB2,hs2⟩
    rw [flat_take_succ st k (by have:=H8.out;omega),Hx.out]
    exact ho2
   case measure=>simp [intOf];omega
  ·obtain rfl:k=8:=by omega
   have ho:=hC.own
   rw [List.take_of_length_le (by have:=H8.out;omega)] at ho
   go_wp2_with fail
   go_ret
   exact ⟨_,rfl,owns_le ho (by omega),hC.bel⟩
end Go.Proofs.YtdjhoankkddomaaGreat
namespace Go.Proofs.YtdjhoankkddomaaGreat
open Go.RowKit
set_option maxHeartbeats 1000000 in
set_option maxRecDepth 100000 in
theorem eight_any (n:Nat) (w:World) (hn:n<18446744073709551616) :
  Calls Tryz.prog 137 #[.int .u64 (n:Int)] w fun e w'=>∃ v,e = .returned v∧Fresh w w' v (num8 n):=by
 have hn':(n:Int)<18446744073709551616:=by omega
 clear hn
 go_enter Tryz.func137,Tryz.ntmps137
 go_wp2_with fail
 go_loopw [3,4] (fun v0 i wr=>∃ (v:Value) (q:Nat),v=v0∧q≤8∧i = .int .i64 (56 - 8*(q:Int))∧wr.ownsRow w.heap.size 5 1 v ((num8 n).take q).length (((num8 n).take q).map B)∧Below w.heap.size w wr) (fun _ i=>fun _=>(intOf i+8).toNat)
 case atStart=>exact ⟨_,0,rfl,by omega,rfl,World.ownsRow_nil _ _ _ _,Below.refl _ _⟩
 case round =>
  obtain ⟨v,q,rfl,hq,rfl,ho,hB⟩:=hrel
  by_cases hlq:q<8
  ·have e1:(56 - 8*(q:Int)).toNat=56 - 8*q:=by omega
   have hs:=hB.size
   have hnb:=num_byte n q hlq
   have hsl:Sl (wr.alloc (.cells #[.int .u8 ((n:Int) / 2 ^ (56 - 8*q) % (256:Int))] 5)) (fun _=>True) (some ⟨wr.heap.size,0,none⟩) 1 1 [UInt8.ofNat (n / 256 ^ (7 - q))]:=by
    rw [hnb];exact sl_lit wr [UInt8.ofNat (n / 256 ^ (7 - q))] 1 rfl (by decide)
   obtain ⟨v2,W2,hr2,ho2,hg2⟩:=append_sl (ho.alloc _) hsl (by rw [List.length_take,length_num8];omega) (by simp;omega)
   rw [← take_num8 n q hlq] at ho2
   have hb2:=below_append (hB.alloc hs _) (ho.alloc _) hg2 (Nat.le_refl _) (by simp;omega)
   have Ho2:=Lib.hid ho2
   have Hb2:=Lib.hid hb2
   clear hsl ho hB hnb hg2 hs hn' ho2 hb2
   have Hr2:=Lib.hid hr2
   clear hr2
   go_wp2_with ((with_reducible show wpList _ _ _ (⟨some 15,.call _,_,_,_,_⟩::_) _ _);refine wpList_run rfl v2 W2 (run_append_op (.tmp 9) (.tmp 14) 41 rfl _ _ rfl rfl Hr2.out) ?_;simp only [Act.put])
   go_roundw
   case rel =>
    refine ⟨_,q+1,rfl,by omega,?_,Ho2.out,Hb2.out⟩
    refine congrArg _ ?_;omega
   case measure=>simp [intOf];omega
  ·obtain rfl:q=8:=by omega
   rw [List.take_of_length_le (by rw [length_num8];omega)] at ho
   go_wp2_with fail
   go_ret
   exact ⟨_,rfl,ho,hB⟩
end Go.Proofs.YtdjhoankkddomaaGreat
