import Derived.Test.YtdjhoankkddomaaGreatQg241
import Derived.Test.YtdjhoankkddomaaGreatQg221
import Derived.Test.YtdjhoankkddomaaGreatQg211
import Derived.Test.YtdjhoankkddomaaGreatQg239
namespace Go.Proofs.YtdjhoankkddomaaGreat
open Go Go.RowKit Go.Shelf
attribute [local go_sem] Oper.semAt_some
set_option maxHeartbeats 4000000 in
set_option maxRecDepth 100000 in
theorem width_any (w:World):Calls Tryz.prog 121 #[] w fun e w'=>e = .returned (.int .i64 8)∧w'=w:=by
 go_enter Tryz.func121,Tryz.ntmps121
 go_wp2_with fail
 go_loopw [1,2] (fun v1 v2 wr=>∃ k:Nat,k≤8∧v1 = .int .i64 (k:Int)∧v2 = .int .u64 ((18446744073709551615 / 256 ^ k:Nat):Int)∧wr=w) (fun v1 _ _=>8 - (intOf v1).toNat)
 case atStart=>exact ⟨0,by omega,rfl,rfl,rfl⟩
 case round =>
  obtain ⟨k,hk,rfl,rfl,rfl⟩:=hrel
  have hk9:k=0∨k=1∨k=2∨k=3∨k=4∨k=5∨k=6∨k=7∨k=8:=by omega
  rcases hk9 with rfl|rfl|rfl|rfl|rfl|rfl|rfl|rfl|rfl
  ·simp only [Nat.reducePow,Nat.reduceDiv]
   go_wp2_with fail
   go_roundw
   case rel=>exact ⟨1,by omega,rfl,rfl,by first|rfl|trivial⟩
   case measure=>simp [intOf]
  ·simp only [Nat.reducePow,Nat.reduceDiv]
   go_wp2_with fail
   go_roundw
   case rel=>exact ⟨2,by omega,rfl,rfl,by first|rfl|trivial⟩
   case measure=>simp [intOf]
  ·simp only [Nat.reducePow,Nat.reduceDiv]
   go_wp2_with fail
   go_roundw
   case rel=>exact ⟨3,by omega,rfl,rfl,by first|rfl|trivial⟩
   case measure=>simp [intOf]
  ·simp only [Nat.reducePow,Nat.reduceDiv]
   go_wp2_with fail
   go_roundw
   case rel=>exact ⟨4,by omega,rfl,rfl,by first|rfl|trivial⟩
   case measure=>simp [intOf]
  ·simp only [Nat.reducePow,Nat.reduceDiv]
   go_wp2_with fail
   go_roundw
   case rel=>exact ⟨5,by omega,rfl,rfl,by first|rfl|trivial⟩
   case measure=>simp [intOf]
  ·simp only [Nat.reducePow,Nat.reduceDiv]
   go_wp2_with fail
   go_roundw
   case rel=>exact ⟨6,by omega,rfl,rfl,by first|rfl|trivial⟩
   case measure=>simp [intOf]
  ·simp only [Nat.reducePow,Nat.reduceDiv]
   go_wp2_with fail
   go_roundw
   case rel=>exact ⟨7,by omega,rfl,rfl,by first|rfl|trivial⟩
   case measure=>simp [intOf]
  ·simp only [Nat.reducePow,Nat.reduceDiv]
   go_wp2_with fail
   go_roundw
   case rel=>exact ⟨8,by omega,rfl,rfl,by first|rfl|trivial⟩
   case measure=>simp [intOf]
  ·simp only [Nat.reducePow,Nat.reduceDiv]
   go_wp2_with fail
   go_ret
   exact ⟨rfl,rfl⟩
structure RwR (w w':World) (v v':Value):Prop where
 own:v'.ownBlock=v.ownBlock∨∃ k,v'.ownBlock=some k∧w.heap.size≤k
 gr:w.grownBy w' v.ownBlock
theorem RwR.refl (w:World) (v:Value):RwR w w v v:=⟨.inl rfl,⟨rfl,rfl,rfl,Nat.le_refl _,fun _ _ _=>rfl⟩⟩
theorem RwR.trans {w w1 w':World} {v v1 v':Value} (h:RwR w w1 v v1) (k:RwR w1 w' v1 v'):RwR w w' v v':=by
 refine ⟨?_,k.gr.os.trans h.gr.os,k.gr.tape.trans h.gr.tape,k.gr.output.trans h.gr.output,Nat.le_trans h.gr.size k.gr.size,fun i hi hne=>?_⟩
 ·rcases k.own with e|⟨r,e,hr⟩
  ·rcases h.own with e2|⟨r,e2,hr⟩
   ·exact .inl (e.trans e2)
   ·exact .inr ⟨r,e.trans e2,hr⟩
  ·exact .inr ⟨r,e,Nat.le_trans h.gr.size hr⟩
 ·rw [k.gr.block i (Nat.lt_of_lt_of_le hi h.gr.size) (fun e=>?_),h.gr.block i hi hne]
  rcases h.own with e2|⟨r,e2,hr⟩
  ·exact hne (by rw [← e2];exact e)
  ·rw [e2] at e
   have e:i=r:=Option.some.inj e
   omega
theorem infoB1:(Tryz.prog.info? 5).map (fun i=>(i.zero,i.size,i.bytes))=some (some (.int .u8 0),1,1):=by kernel_rfl
theorem oneBs (l:List UInt8):∀ u ∈ l.map B,u.oneCell'=true:=fun u hu=>by
 obtain ⟨x,_,rfl⟩:=List.mem_map.1 hu
 rfl
theorem append_slb {w:World} {base:Nat} {v:Value} {xs l:List UInt8} {X:Nat→Prop} {A:Option Addr} {n c:Nat} (hown:w.ownsRow base 5 1 v xs.length (xs.map B)) (h:Sl w X A n c l) (hb:xs.length+n≤140737488355328) (hbase:base≤w.heap.size) :
  ∃ v' w',(Builtin.append_ #[41,41] 41 #[v,.slice A n c]).run Tryz.prog w = .ok v' w'∧w'.ownsRow base 5 1 v' (xs++l).length ((xs++l).map B)∧RwR w w' v v':=by
 obtain ⟨v',w',hr,ho,hg,hf⟩:=append_slv (ty:=41) Tryz.underlying41 infoB1 (by simp [Value.cells]) (by decide) hown h.v (oneBs l) (by unfold maxLen;omega) (by omega) hbase
 exact ⟨v',w',hr,by rw [List.length_append,List.map_append,h.len];exact ho,hf,hg⟩
theorem lit_byte {w:World} {base:Nat} {v:Value} {q:List UInt8} (h:w.ownsRow base 5 1 v q.length (q.map B)) (x:UInt8) (hq:q.length≤70368744177664) (hb:base≤w.heap.size) :
  ∃ v' w',(Builtin.append_ #[41,41] 41 #[v,.slice (some ⟨w.heap.size,0,none⟩) 1 1]).run Tryz.prog (w.alloc (.cells #[B x] 5)) = .ok v' w'∧w'.ownsRow base 5 1 v' (q++[x]).length ((q++[x]).map B)∧RwR w w' v v':=by
 have hbA:Below w.heap.size w (w.alloc (.cells #[B x] 5)):=(Below.refl _ _).alloc (Nat.le_refl _) _
 have hs:Sl (w.alloc (.cells #[B x] 5)) (fun _=>True) (some ⟨w.heap.size,0,none⟩) 1 1 [x]:=Sl.of_blk (Blk.new w 5 #[B x]) [x] 1 rfl (by unfold maxLen;decide) fun j u hu=>by rw [Nat.zero_add];simpa using hu
 obtain ⟨v',w',hr,ho,hg⟩:=append_slb (owns_step h hbA) hs (by omega) (Nat.le_trans hb hbA.size)
 exact ⟨v',w',hr,ho,RwR.trans ⟨.inl rfl,grown_of_below hbA _⟩ hg⟩
theorem wrap_byte (x k:Nat):IntKind.u8.wrap ((x:Int) / 2 ^ (8*k))=((UInt8.ofNat (x / 256 ^ k)).toNat:Int):=by
 have h1:(2:Int) ^ (8*k)=((256 ^ k:Nat):Int):=by rw [Int.pow_mul];simp
 rw [h1,← Int.natCast_ediv]
 obtain ⟨m,hm⟩:∃ m,x / 256 ^ k=m:=⟨_,rfl⟩
 rw [hm,UInt8.toNat_ofNat',IntKind.wrap_u8]
 omega
set_option maxHeartbeats 4000000 in
set_option maxRecDepth 100000 in
theorem form_any (v:Value) (q:List UInt8) (x base:Nat) (w:World) (h:w.ownsRow base 5 1 v q.length (q.map B)) (hb:base≤w.heap.size) (hq:q.length≤1099511627776) :
  Calls Tryz.prog 120 #[v,.int .i64 8,.int .u64 (x:Int)] w fun e w'=>∃ v',e = .returned v'∧w'.ownsRow base 5 1 v' (q++beN 8 x).length ((q++beN 8 x).map B)∧RwR w w' v v':=by
 obtain ⟨res,hres⟩:∃ r,q++beN 8 x=r:=⟨_,rfl⟩
 rw [hres]
 have Hres:=Lib.hid hres
 clear hres
 go_enter Tryz.func120,Tryz.ntmps120
 go_wp2_with fail
 go_loopw [0,7] (fun v0 v7 wr=>∃ (j:Nat) (cur:List UInt8),j≤8∧v7 = .int .i64 ((j:Int) - 1)∧cur++beN j x=res∧cur.length+j≤1099511627784∧wr.ownsRow base 5 1 v0 cur.length (cur.map B)∧RwR w wr v v0) (fun _ v7 _=>(intOf v7+1).toNat)
 case atStart=>exact ⟨8,q,Nat.le_refl _,rfl,Hres.out,by omega,h,RwR.refl _ _⟩
 case round =>
  clear h
  obtain ⟨j,cur,hj,rfl,hc,hcl,ho,hB⟩:=hrel
  rcases Nat.eq_zero_or_pos j with rfl|hjp
  ·obtain rfl:cur=res:=by rw [← hc];simp [beN]
   go_wp2_with fail
   go_ret
   exact ⟨_,rfl,ho,hB⟩
  ·obtain ⟨l,rfl⟩:∃ l,j=l+1:=⟨j - 1,by omega⟩
   have hll:((l+1:Nat):Int) - 1=(l:Int):=by omega
   rw [hll]
   have hwl:IntKind.i64.wrap ((l:Int) - 1)=(l:Int) - 1:=IntWalk.i64_in _ (by omega)
   have hw8:IntKind.i64.wrap (8*(l:Int))=((8*l:Nat):Int):=by rw [IntWalk.i64_in _ (by omega)];omega
   have hge:decide ((0:Int)≤(l:Int))=true:=by simp
   have hwb:=wrap_byte x l
   rw [beN] at hc
   obtain ⟨y,hy⟩:∃ y,UInt8.ofNat (x / 256 ^ l)=y:=⟨_,rfl⟩
   rw [hy] at hwb hc
   obtain ⟨v3,w3,hr3,ho3,hg3⟩:=lit_byte ho y (by omega) (Nat.le_trans hb hB.gr.size)
   have hb3:=hB.trans hg3
   have Hr3:=Lib.hid hr3
   have Hc:=Lib.hid hc
   clear hr3 hc hy
   go_wp2_with (first
    | ((with_reducible show wpList _ _ _ (⟨some 20,.buildSlice _ _ _,_,_,_,_⟩::_) _ _);refine wpList_run rfl (.slice (some ⟨wr.heap.size,0,none⟩) 1 1) (wr.alloc (.cells #[B y] 5)) (by kernel_rfl) ?_;simp only [Act.put])
    | ((with_reducible show wpList _ _ _ (⟨some 21,.call _,_,_,_,_⟩::_) _ _);refine wpList_run rfl v3 w3 (run_append_op (.tmp 14) (.tmp 20) 41 rfl _ _ rfl rfl Hr3.out) ?_;simp only [Act.put]))
   go_roundw
   case rel=>exact ⟨l,cur++[y],by omega,rfl,by rw [List.append_assoc];exact Hc.out,by rw [List.length_append,List.length_singleton];omega,ho3,hb3⟩
   case measure=>simp [intOf] <;> omega
structure WrV (W:World) (g b1:Nat) (v:Value) (l:List UInt8):Prop where
 blk:Blk W g 169 #[v]
 own:W.ownsRow b1 5 1 v l.length (l.map B)
 lt:g<b1
 le:b1≤W.heap.size
section
variable {W W' W1:World} {g b1:Nat} {v v' v1:Value} {l:List UInt8}
theorem WrV.step (h:WrV W g b1 v l) (hb:Below W.heap.size W W'):WrV W' g b1 v l:=⟨h.blk.step hb,owns_step h.own hb,h.lt,Nat.le_trans h.le hb.size⟩
theorem WrV.grown {row:Option Nat} (h:WrV W g b1 v l) (hg:W.grownBy W' row) (hr:∀ r,row=some r→∃ o,W.heap[r]?=some o∧o.isCells=false):WrV W' g b1 v l :=
 ⟨h.blk.grown hg (fun e=>by
   obtain ⟨o,ho,hc⟩:=hr g e.symm
   rw [show W.heap[g]?=_ from h.blk] at ho;cases ho;cases hc),h.own.kept hg (by
   rcases h.own.2 with ⟨rfl,_⟩|⟨g,cap,cur,rfl,_,hb,_⟩
   ·exact .inl rfl
   ·refine .inr fun e=>?_
    obtain ⟨o,ho,hc⟩:=hr g e.symm
    rw [show W.heap[g]?=_ from hb] at ho;cases ho;cases hc),h.lt,Nat.le_trans h.le hg.size⟩
structure WrR (W W':World) (g:Nat) (v v':Value):Prop where
 own:v'.ownBlock=v.ownBlock∨∃ k,v'.ownBlock=some k∧W.heap.size≤k
 os:W'.os=W.os
 tape:W'.tape=W.tape
 output:W'.output=W.output
 size:W.heap.size≤W'.heap.size
 block:∀ k,k<W.heap.size→k≠g→some k≠v.ownBlock→W'.heap[k]?=W.heap[k]?
theorem WrR.of (h1:RwR W W1 v v') (h2:W1.grownBy W' (some g)):WrR W W' g v v' :=
 ⟨h1.own,h2.os.trans h1.gr.os,h2.tape.trans h1.gr.tape,h2.output.trans h1.gr.output,Nat.le_trans h1.gr.size h2.size,fun k hk h3 h4=>(h2.block k (Nat.lt_of_lt_of_le hk h1.gr.size) (fun e=>h3 (Option.some.inj e))).trans (h1.gr.block k hk h4)⟩
theorem WrR.after (hb : Below W.heap.size W W1) (h : WrR W1 W' g v v') : WrR W W' g v v' :=
  ⟨by rcases h.own with e | ⟨k, e, hk⟩
      · exact .inl e
      · exact .inr ⟨k, e, Nat.le_trans hb.size hk⟩, h.os.trans hb.os, h.tape.trans hb.tape, h.output.trans hb.output, Nat.le_trans hb.size h.size, fun k hk h3 h4 => (h.block k (Nat.lt_of_lt_of_le hk hb.size) h3 h4).trans (hb.block k hk)⟩
theorem WrR.below (h:WrR W W' g v v') {N:Nat} (hg:N≤g) (hv:∀ r,v.ownBlock=some r→N≤r) (hN:N≤W.heap.size):Below N W W' :=
 ⟨h.os,h.tape,h.output,h.size,fun k hk=>h.block k (Nat.lt_of_lt_of_le hk hN) (by omega) (fun e=>by have:=hv k e.symm;omega)⟩
theorem WrR.blk (h:WrR W W' g v v') {r:Nat} {t:TypeId} {cs:Array Value} (k:Blk W r t cs) (h1:r≠g) (h2:some r≠v.ownBlock):Blk W' r t cs:=by
 show W'.heap[r]?=_
 rw [h.block r k.lt h1 h2]
 exact k
theorem WrV.put {v0:Value} (k:Blk W g 169 #[v0]) (ho:W.ownsRow b1 5 1 v l.length (l.map B)) (lt:g<b1) (le:b1≤W.heap.size):WrV (W.setRow g #[v]) g b1 v l :=
 have hgr:W.grownBy (W.setRow g #[v]) (some g):=grown_setRow (grown_of_below (Below.refl _ _) _) _
 ⟨k.setRow_ _,ho.kept hgr (by
   rcases ho.2 with ⟨rfl,_⟩|⟨g',cap,cur,rfl,hl,_⟩
   ·exact .inl rfl
   ·refine .inr fun e=>?_
    have e:g'=g:=Option.some.inj e
    omega),lt,Nat.le_trans le hgr.size⟩
end
set_option maxHeartbeats 1000000 in
set_option maxRecDepth 100000 in
theorem wnew_any (w:World):Calls Tryz.prog 87 #[] w fun e w'=>e = .returned (.pointer (some ⟨w.heap.size,0,none⟩))∧WrV w' w.heap.size w'.heap.size (.slice none 0 0) []∧Below w.heap.size w w':=by
 have k:Blk (w.alloc (.cells #[.slice none 0 0] 169)) w.heap.size 169 #[.slice none 0 0]:=Blk.new _ _ _
 have hb:Below w.heap.size w (w.alloc (.cells #[.slice none 0 0] 169)):=(Below.refl _ _).alloc (Nat.le_refl _) _
 go_enter Tryz.func87,Tryz.ntmps87
 go_wp2_with fail
 go_ret
 exact ⟨rfl,⟨k,World.ownsRow_nil _ _ _ _,k.lt,Nat.le_refl _⟩,hb⟩
set_option maxHeartbeats 4000000 in
set_option maxRecDepth 100000 in
theorem wput_any (g b1:Nat) (v:Value) (l:List UInt8) (x:Nat) (w:World) (h:WrV w g b1 v l) (hl:l.length≤1099511627776) :
  Calls Tryz.prog 104 #[.pointer (some ⟨g,0,none⟩),.int .u64 (x:Int)] w fun e w'=>e = .returned (.int .i64 0)∧∃ v',WrV w' g b1 v' (l++beN 8 x)∧WrR w w' g v v':=by
 have hk:=h.blk
 have ho:=h.own
 have hlt:=h.lt
 have hle:=h.le
 obtain ⟨res,hres⟩:∃ r,l++beN 8 x=r:=⟨_,rfl⟩
 have hform:=fun W (ho:W.ownsRow b1 5 1 v l.length (l.map B)) (hle:b1≤W.heap.size)=>form_any v l x b1 W ho hle hl
 rw [hres] at hform ⊢
 have Hform:=Lib.hid hform
 have c11:∀ s:InC (fun W=>Below b1 w W),s.W.cell? ⟨g,0,none⟩=some v:=fun s=>by rw [(hk.below s.ok hlt).cell];rfl
 clear hform hres h
 go_enter Tryz.func104,Tryz.ntmps104
 go_wp2_with fail
 have hS:Below b1 w w.drew:=(Below.refl _ _).drew
 have hou:w.drew.ownsRow b1 5 1 v l.length (l.map B):=owns_step ho ((Below.refl _ _).drew)
 have hlu:b1≤w.drew.heap.size:=hle
 have hSw:Below w.heap.size w w.drew:=(Below.refl _ _).drew
 refine wp_region_mix_tail (fun W=>Below b1 w W) 8 [(0,true),(1,true),(2,true),(3,true),(4,true),(6,true),(5,false),(7,false)] (by kernel_rfl) (by kernel_rfl) hS fun _=>?_
 simp only [List.map_cons,List.map_nil,Array.getD_eq_getD_getElem?,List.getElem?_toArray,List.getElem?_cons_succ,List.getElem?_cons_zero,Option.getD_some]
 generalize w.drew=u2 at hS hou hlu hSw ⊢
 iterate 6 (refine wpMix_s (fun K hK=>?_);go_simp;refine hK _ ?_;clear hK K)
 refine wpMix_c (fun K hK=>?_) hS
 go_simp
 refine (width_any u2).mono ?_
 rintro e u2e ⟨rfl,hww⟩
 obtain rfl:=hww.symm
 refine hK _ _ ?_
 clear hK K
 refine ⟨hS,?_⟩
 refine wpMix_c (fun K hK=>?_) hS
 go_simp
 refine (Hform.out u2 hou hlu).mono ?_
 rintro e W9 ⟨v9,rfl,ho9,hR9⟩
 refine hK _ _ ?_
 clear hK K
 obtain ⟨A9,c9,rfl,-⟩:=owns_slv ho9
 have hRw:RwR w W9 v (.slice A9 res.length c9):=RwR.trans ⟨.inl rfl,grown_of_below hSw _⟩ hR9
 replace hS:Below b1 w W9:=(Below.refl _ _).grown hRw.gr hle (fun r e=>(ho.lt r e).1)
 refine ⟨hS,?_⟩
 refine wpMix_nil ?_
 intro _
 simp only [List.drop_succ_cons,List.drop_zero]
 have hk9:=hk.below hS hlt
 go_wp2_with ((with_reducible show wpList _ _ _ [⟨none,.store _ _ _,_,_,_,_⟩] _ _);refine wpList_store_one rfl 41 (.tmp 16) (.tmp 14) rfl g rfl rfl 169 v hk9 (by kernel_rfl) ?_;show wpList _ _ _ _ _ (W9.setRow g #[Value.slice A9 res.length c9]);simp only [Act.put])
 refine np_normal ?_
 go_wp2_with fail
 go_ret
 exact ⟨rfl,_,WrV.put hk9 ho9 hlt (Nat.le_trans hle hS.size),WrR.of hRw (grown_setRow (grown_of_below (Below.refl _ _) _) _)⟩
set_option maxHeartbeats 4000000 in
set_option maxRecDepth 100000 in
theorem wsigned_any (g b1:Nat) (v:Value) (l:List UInt8) (x:Nat) (w:World) (h:WrV w g b1 v l) (hl:l.length≤1099511627776) (hx:x≤9223372036854775807) :
  Calls Tryz.prog 88 #[.pointer (some ⟨g,0,none⟩),.int .i64 (x:Int)] w fun e w'=>e = .returned (.int .i64 0)∧∃ v',WrV w' g b1 v' (l++beN 8 x)∧WrR w w' g v v':=by
 have hp:=wput_any g b1 v l x w h hl
 have hw:IntKind.u64.wrap (x:Int)=(x:Int):=by rw [IntKind.wrap_u64];omega
 have Hp:=Lib.hid hp
 clear hp h
 go_enter Tryz.func88,Tryz.ntmps88
 go_wp2_with (go_at_call 104;refine Hp.out.mono ?_;rintro e w1 ⟨rfl,h1⟩)
 go_ret
 exact ⟨rfl,h1⟩
set_option maxHeartbeats 4000000 in
set_option maxRecDepth 100000 in
theorem wraw_any (g b1:Nat) (v:Value) (l m:List UInt8) (A:Option Addr) (n c:Nat) (w:World) (h:WrV w g b1 v l) (hs:Sl w (fun _=>True) A n c m) (hl:l.length+n≤1099511627776) :
  Calls Tryz.prog 106 #[.pointer (some ⟨g,0,none⟩),.slice A n c] w fun e w'=>e = .returned (.int .i64 0)∧∃ v',WrV w' g b1 v' (l++m)∧WrR w w' g v v':=by
 have hk:=h.blk
 have ho:=h.own
 have hlt:=h.lt
 have hle:=h.le
 obtain ⟨v9,W9,hr9,ho9,hg9⟩:=append_slb ho hs (by omega) hle
 have hb9:Below b1 w W9:=(Below.refl _ _).grown hg9.gr hle (fun r e=>(ho.lt r e).1)
 have hk9:=hk.below hb9 hlt
 obtain ⟨A9,c9,rfl,-⟩:=owns_slv ho9
 obtain ⟨res,hres⟩:∃ r,l++m=r:=⟨_,rfl⟩
 rw [hres] at hr9 ho9 hg9 ⊢
 have Hr9:=Lib.hid hr9
 have c11:w.cell? ⟨g,0,none⟩=some v:=by rw [hk.cell];rfl
 clear hr9 hs h hres
 go_enter Tryz.func106,Tryz.ntmps106
 go_wp2_with (first
  | ((with_reducible show wpList _ _ _ (⟨some 13,.call _,_,_,_,_⟩::_) _ _);refine wpList_run rfl _ W9 (run_append_op (.tmp 11) (.tmp 12) 41 rfl _ _ rfl rfl Hr9.out) ?_;simp only [Act.put])
  | ((with_reducible show wpList _ _ _ [⟨none,.store _ _ _,_,_,_,_⟩] _ _);refine wpList_store_one rfl 41 (.tmp 15) (.tmp 13) rfl g rfl rfl 169 v hk9 (by kernel_rfl) ?_;show wpList _ _ _ _ _ (W9.setRow g #[Value.slice A9 res.length c9]);simp only [Act.put]))
 go_ret
 exact ⟨rfl,_,WrV.put hk9 ho9 hlt (Nat.le_trans hle hb9.size),WrR.of hg9 (grown_setRow (grown_of_below (Below.refl _ _) _) _)⟩
set_option maxHeartbeats 4000000 in
set_option maxRecDepth 100000 in
theorem whash_any (g b1:Nat) (v:Value) (l x:List UInt8) (w:World) (h:WrV w g b1 v l) (hx:x.length=32) (hl:l.length≤1000000000000) :
  Calls Tryz.prog 90 #[.pointer (some ⟨g,0,none⟩),.agg (x.map B).toArray] w fun e w'=>e = .returned (.int .i64 0)∧∃ v',WrV w' g b1 v' (l++x)∧WrR w w' g v v':=by
 obtain ⟨w0,hw0⟩:∃ w0,w.alloc (.cells (x.map B).toArray 53)=w0:=⟨_,rfl⟩
 have hb0:Below w.heap.size w w0:=by rw [← hw0];exact (Below.refl _ _).alloc (Nat.le_refl _) _
 have k3:HV w0 w.heap.size x:=⟨by rw [← hw0];exact Blk.new _ _ _,hx⟩
 have hp:=wraw_any g b1 v l x _ 32 32 w0 (h.step hb0) (Sl.of_hv k3) (by omega)
 have Hp:=Lib.hid hp
 have Hw0:=Lib.hid hw0
 clear hp h hw0
 go_enter Tryz.func90,Tryz.ntmps90
 go_wp2_with (first
  | rw [Hw0.out]
  | ((with_reducible show wpList _ _ _ (⟨some 6,.slice _ _ _ _ _,_,_,_,_⟩::_) _ _);refine wpList_run0 rfl _ (run_slice_allO (.tmp 3) rfl w.heap.size 0 rfl _) ?_;simp only [Act.put])
  | (go_at_call 106;refine Hp.out.mono ?_;rintro e w1 ⟨rfl,v1,h1,h2⟩))
 go_ret
 exact ⟨rfl,v1,h1,h2.after hb0⟩
set_option maxHeartbeats 1000000 in
set_option maxRecDepth 100000 in
theorem cloneb_any (l:List UInt8) (A:Option Addr) (n c:Nat) (w:World) (h:Sl w (fun _=>True) A n c l) (hn:n≤1099511627776) :
  Calls Tryz.prog 107 #[.slice A n c] w fun e w'=>∃ v,e = .returned v∧Fresh w w' v l:=by
 cases A with
 | none =>
  obtain ⟨rfl,rfl⟩:=h.none rfl
  obtain rfl:l=[]:=List.eq_nil_of_length_eq_zero h.len
  clear h
  have hnil:=fun w=>run_eql_slice_nil (P:=Tryz.prog) w 41 5 none 0 0 Tryz.underlying41
  go_enter Tryz.func107,Tryz.ntmps107
  go_wp2_with fail
  go_ret
  exact ⟨_,rfl,World.ownsRow_nil _ _ _ _,Below.refl _ _⟩
 | some a =>
  have hroom:=h.room
  have hmx:=h.max
  unfold maxLen at hmx
  have hb1:Below w.heap.size w (w.alloc (.cells #[] 5)):=(Below.refl _ _).alloc (Nat.le_refl _) _
  have ho0:(w.alloc (.cells #[] 5)).ownsRow w.heap.size 5 1 (.slice (some ⟨w.heap.size,0,none⟩) 0 0) ([]:List UInt8).length (([]:List UInt8).map B) :=
   World.ownsRow_lit (base:=w.heap.size) (e:=5) (size:=1) w #[] 0 (Nat.le_refl _) (by unfold maxLen;decide) (by simp)
  obtain ⟨v1,w1,hr1,ho1,hg1⟩:=append_sl ho0 (h.step hb1) (by simp;omega) hb1.size
  rw [List.nil_append] at ho1
  have hb2:=hb1.grown hg1 hb1.size (fun k hk=>by cases hk;exact Nat.le_refl _)
  have Hr1:=Lib.hid hr1
  have hnil:=fun w=>run_eql_slice_nil (P:=Tryz.prog) w 41 5 (some a) n c Tryz.underlying41
  clear hr1 ho0 hg1 hb1 h
  go_enter Tryz.func107,Tryz.ntmps107
  go_wp2_with ((with_reducible show wpList _ _ _ (⟨some 7,.call _,_,_,_,_⟩::_) _ _);refine wpList_run rfl v1 w1 (run_append_op (.tmp 5) (.tmp 6) 41 rfl _ _ rfl rfl Hr1.out) ?_;simp only [Act.put])
  go_ret
  exact ⟨_,rfl,ho1,hb2⟩
set_option maxHeartbeats 1000000 in
set_option maxRecDepth 100000 in
theorem wbytes_any (g b1:Nat) (v:Value) (l:List UInt8) (w:World) (h:WrV w g b1 v l) (hl:l.length≤1099511627776) :
  Calls Tryz.prog 91 #[.pointer (some ⟨g,0,none⟩)] w fun e w'=>∃ v,e = .returned v∧Fresh w w' v l:=by
 have hk:=h.blk
 have ho:=h.own
 obtain ⟨A9,c9,rfl,hs⟩:=owns_slv ho
 have hc:=cloneb_any l A9 l.length c9 w ⟨(hs.weak fun _ _ _=>trivial).bs,rfl,hs.room,hs.nil,hs.max⟩ hl
 have c8:w.cell? ⟨g,0,none⟩=some (.slice A9 l.length c9):=by rw [hk.cell];rfl
 have Hc:=Lib.hid hc
 clear hc ho hs h hk
 go_enter Tryz.func91,Tryz.ntmps91
 go_wp2_with (go_at_call 107;refine Hc.out.mono ?_;rintro e w1 ⟨v,rfl,h1⟩)
 go_ret
 exact ⟨_,rfl,h1⟩
end Go.Proofs.YtdjhoankkddomaaGreat
namespace Go.Proofs.YtdjhoankkddomaaGreat
open Go Go.RowKit Go.Shelf
attribute [local go_sem] Oper.semAt_some
end Go.Proofs.YtdjhoankkddomaaGreat
namespace Go.Proofs.YtdjhoankkddomaaGreat
open Go Go.RowKit Go.Shelf
attribute [local go_sem] Oper.semAt_some
end Go.Proofs.YtdjhoankkddomaaGreat
namespace Go.Proofs.YtdjhoankkddomaaGreat
open Go Go.RowKit Go.Shelf
attribute [local go_sem] Oper.semAt_some
def bytesF (ps:FrV):List UInt8:=beN 8 (szF ps)++(hashF ps).flatten
structure BwI (w:World) (hi g3 gw b1 n₁:Nat) (q:List UInt8) (W:World):Prop where
 ex:∃ v,WrV W gw b1 v q∧∀ r,v.ownBlock=some r→(r<hi∨n₁≤r)∧r≠g3
 box:Blk W g3 146 #[.pointer (some ⟨gw,0,none⟩)]
 bel:Below w.heap.size w W
theorem BwI.step {w W W':World} {hi g3 gw b1 n₁:Nat} {q:List UInt8} (h:BwI w hi g3 gw b1 n₁ q W) (hb:Below W.heap.size W W'):BwI w hi g3 gw b1 n₁ q W' :=
 ⟨let ⟨v,h1,h2⟩:=h.ex;⟨v,h1.step hb,h2⟩,h.box.step hb,h.bel.trans (hb.mono h.bel.size)⟩
theorem BwI.own_ {w:World} {hi g3 gw b1 n₁ B:Nat} (f:Nat→List UInt8) (hB:w.heap.size≤B):OwnFrom B (fun k W=>BwI w hi g3 gw b1 n₁ (f k) W):=fun _ _ _ _ h hg hr =>
 ⟨let ⟨v,h1,h2⟩:=h.ex;⟨v,h1.grown hg (fun r e=>(hr r e).2),h2⟩,h.box.grown hg (fun e=>by
   obtain ⟨_,o,ho,hc⟩:=hr g3 e.symm
   rw [show _=_ from h.box] at ho;cases ho;cases hc),h.bel.grown hg h.bel.size fun r e=>Nat.le_trans hB (hr r e).1⟩
theorem WrR.keepU {B n₁ gw b1:Nat} {U:Nat→Prop} {W W':World} {v v':Value} {q:List UInt8} (h:WrR W W' gw v v') (hv:WrV W gw b1 v q) (h1:n₁≤gw∨U gw) (h2:∀ r,v.ownBlock=some r→n₁≤r∨U r):KeepU B n₁ U W W':=by
 have hc:∀ i o,W.heap[i]?=some o→o.isCells=false→i≠gw∧some i≠v.ownBlock:=fun i o ho hc=>by
  refine ⟨fun e=>?_,fun e=>?_⟩
  ·subst e
   rw [show W.heap[i]?=_ from hv.blk] at ho
   cases ho;cases hc
  ·obtain ⟨o',ho',hc'⟩:=owns_cellsF hv.own e.symm
   rw [ho] at ho'
   cases ho'
   rw [hc] at hc'
   cases hc'
 refine ⟨⟨h.size,fun i o hi ho hco=>?_⟩,h.os,h.tape,h.output,fun k o hk hu ho hco=>?_⟩
 ·obtain ⟨h3,h4⟩:=hc i o ho hco
  rw [h.block i (Array.getElem?_eq_some_iff.1 ho).1 h3 h4]
  exact ho
 ·rw [h.block k (Array.getElem?_eq_some_iff.1 ho).1 (fun e=>?_) (fun e=>?_)]
  ·exact ho
  ·subst e
   rcases h1 with h1|h1
   ·omega
   ·exact hu h1
  ·rcases h2 k e.symm with h1|h1
   ·omega
   ·exact hu h1
theorem flatten_take_snoc (hs:List (List UInt8)) (k:Nat) (h:k<hs.length):(hs.take (k+1)).flatten=(hs.take k).flatten++hs.getD k []:=by
 rw [take_snocF hs k h,List.flatten_append]
 simp
theorem length_flat32 (hs:List (List UInt8)) (h:H32 hs):hs.flatten.length=hs.length*32:=by
 induction hs with
 | nil=>rfl
 | cons x l ih =>
  rw [List.flatten_cons,List.length_append,ih (fun y hy=>h y (List.mem_cons_of_mem _ hy)),h x List.mem_cons_self,List.length_cons]
  omega
set_option maxHeartbeats 4000000 in
set_option maxRecDepth 100000 in
theorem fbytes_any (g:Nat) (ps:FrV) (w:World) (h:FrO w g ps) (ho:FrOk ps):Calls Tryz.prog 70 #[fptr g] w fun e w'=>∃ v,e = .returned v∧Fresh w w' v (bytesF ps):=by
 have hal:=fun W=>fall_any (fptr g) W rfl
 have hlen:=ho.len
 have hA:AllOk (fptr g) ps w:=allOk_some h ho.h62 (by omega)
 have hsz:=fun W (hb:Below w.heap.size w W)=>fsize_some (h.step hb) ho
 have htop:=ho.top
 unfold bytesF
 obtain ⟨sz,hsze⟩:∃ s,szF ps=s:=⟨_,rfl⟩
 rw [hsze] at hsz htop ⊢
 obtain ⟨hd,hhd⟩:∃ d,beN 8 sz=d:=⟨_,rfl⟩
 have hhl:hd.length=8:=by rw [← hhd];exact length_beN 8 sz
 have hsg:=fun gw b1 v W (h:WrV W gw b1 v [])=>wsigned_any gw b1 v [] sz W h (by simp) htop
 rw [hhd] at hsg ⊢
 simp only [List.nil_append] at hsg
 obtain ⟨rs,hrs⟩:∃ rs,hashF ps=rs:=⟨_,rfl⟩
 have hlr:rs.length=ps.length:=by rw [← hrs];simp [hashF]
 have hr32:H32 rs:=by rw [← hrs];exact hashF_32 ps ho.h32
 have hat:∀ k,k<ps.length→(ps.getD k (0,[])).2=rs.getD k []:=fun k hk=>by rw [← hrs,hashF_getD ps k hk]
 rw [hrs]
 have Hal:=Lib.hid hal
 have Hsz:=Lib.hid hsz
 have Hsg:=Lib.hid hsg
 have Hlr:=Lib.hid hlr
 have Hr32:=Lib.hid hr32
 have Hat:=Lib.hid hat
 have Hhl:=Lib.hid hhl
 have HA:=Lib.hid hA
 clear hal hsz hsg hlr hr32 hat hrs hhd hsze hhl htop ho hA h
 refine (callsIn_wide (n:=5)).1 ?_
 refine callsIn_of_wp_marks Tryz.func70 rfl trivial ?_ rfl
 simp only [Tryz.ntmps70,List.size_toArray,List.length_cons,List.length_nil,Nat.reduceAdd,Nat.reduceSub,Array.replicate_succ,Array.replicate_zero,List.push_toArray,List.append_toArray,List.nil_append,List.cons_append]
 refine wpIn_wide.2 ?_
 go_wp2_with (first
  | (go_at_call 87;refine (wnew_any w).mono ?_;rintro e w1 ⟨rfl,hW,hb1⟩)
  | ((with_reducible show wpList _ _ _ (⟨some 3,.alloc _,_,_,_,_⟩::_) _ _);refine wpList_run rfl (.pointer (some ⟨w1.heap.size,0,none⟩)) (w1.alloc (.cells #[.pointer none] 146)) (by kernel_rfl) ?_;have hb2:Below w1.heap.size w1 (w1.alloc (.cells #[.pointer none] 146)):=(Below.refl _ _).alloc (Nat.le_refl _) _;have k3:Blk (w1.alloc (.cells #[.pointer none] 146)) w1.heap.size 146 #[.pointer none]:=Blk.new _ _ _;have hW2:=hW.step hb2;have hgw1:w.heap.size<w1.heap.size:=hW.lt;generalize w1.alloc (.cells #[.pointer none] 146)=w2 at hb2 k3 hW2 ⊢;have c3:w2.cell? ⟨w1.heap.size,0,none⟩=some (.pointer none):=(by rw [k3.cell];rfl);have f3:=k3.frozen 0;simp only [Act.put]))
 have hgs:=grownBy_setCell' w2 w1.heap.size (.pointer (some ⟨w.heap.size,0,none⟩))
 have hW4:WrV (w2.setCell ⟨w1.heap.size,0,none⟩ (.pointer (some ⟨w.heap.size,0,none⟩))) w.heap.size w1.heap.size (.slice none 0 0) []:=⟨hW2.blk.grown hgs (fun e=>by have e:w.heap.size=w1.heap.size:=Option.some.inj e;omega),World.ownsRow_nil _ _ _ _,hW2.lt,Nat.le_trans hW2.le hgs.size⟩
 have hb4:Below w.heap.size w (w2.setCell ⟨w1.heap.size,0,none⟩ (.pointer (some ⟨w.heap.size,0,none⟩))):=(hb1.trans (hb2.mono hb1.size)).setCell (p:=⟨w1.heap.size,0,none⟩) hb1.size _
 have k4:Blk (w2.setCell ⟨w1.heap.size,0,none⟩ (.pointer (some ⟨w.heap.size,0,none⟩))) w1.heap.size 146 #[.pointer (some ⟨w.heap.size,0,none⟩)]:=k3.set_ 0 _
 generalize w2.setCell ⟨w1.heap.size,0,none⟩ (.pointer (some ⟨w.heap.size,0,none⟩))=w4 at hW4 hb4 k4 ⊢
 obtain ⟨g3,hg3⟩:∃ g3,w1.heap.size=g3:=⟨_,rfl⟩
 rw [hg3] at hW4 k4 hgw1 ⊢
 clear hg3 c3 f3 k3 hW2 hgs hb2 hb1 hW
 have c9:∀ s:InC (fun W=>Below w4.heap.size w4 W),s.W.cell? ⟨g3,0,none⟩=some (.pointer (some ⟨w.heap.size,0,none⟩)):=fun s=>by rw [(k4.step s.ok).cell];rfl
 have hS:Below w4.heap.size w4 w4.drew:=(Below.refl _ _).drew
 refine wp_region_mix_tail (fun W=>Below w4.heap.size w4 W) 3 [(0,true),(1,true),(2,false)] (by kernel_rfl) (by kernel_rfl) hS fun _=>?_
 simp only [List.map_cons,List.map_nil,Array.getD_eq_getD_getElem?,List.getElem?_toArray,List.getElem?_cons_succ,List.getElem?_cons_zero,Option.getD_some]
 generalize w4.drew=u2 at hS ⊢
 iterate 2 (refine wpMix_s (fun K hK=>?_);go_simp;refine hK _ ?_;clear hK K)
 refine wpMix_c (fun K hK=>?_) hS
 go_simp
 refine (Hsz.out u2 (hb4.trans (hS.mono hb4.size))).mono ?_
 rintro e u2_1 ⟨rfl,hb'⟩
 refine hK _ _ ?_
 clear hK K
 replace hS:=hS.trans (hb'.mono hS.size)
 refine ⟨hS,?_⟩
 clear hb'
 refine wpMix_nil ?_
 intro _
 simp only [List.drop_succ_cons,List.drop_zero]
 have hW5:=hW4.step hS
 have k5:=k4.step hS
 have hb5:=hb4.trans (hS.mono hb4.size)
 clear c9
 go_wp2_with (go_at_call 88;refine (Hsg.out _ _ _ u2_1 hW5).mono ?_;rintro e w6 ⟨rfl,v6,hW6,hR6⟩)
 have hown6:∀ r,v6.ownBlock=some r→u2_1.heap.size≤r:=fun r hr=>by
  rcases hR6.own with e|⟨k,e,hk⟩
  ·rw [e] at hr;cases hr
  ·rw [e] at hr;cases hr;exact hk
 have k6:Blk w6 g3 146 #[.pointer (some ⟨w.heap.size,0,none⟩)]:=hR6.blk k5 (by omega) (fun e=>by cases e)
 have hb6:Below w.heap.size w w6:=hb5.trans (hR6.below (Nat.le_refl _) (fun r e=>by cases e) hb5.size)
 have hg3lt:=k5.lt
 refine np_normal ?_
 go_wp2_with fail
 refine (Hal.out w6).mono ?_
 rintro e w7 ⟨rfl,hbx,hb7⟩
 have hsz6:u2_1.heap.size≤w6.heap.size:=hR6.size
 have hbel7:=hb6.trans (hb7.mono hb6.size)
 have hI0:∀ n₁,BwI w w7.heap.size g3 w.heap.size g3 n₁ hd w7:=fun n₁=>⟨⟨v6,hW6.step hb7,fun r e=>⟨.inl (Nat.lt_of_lt_of_le (hW6.own.lt r e).2 hb7.size),fun e2=>by have:=hown6 r e;omega⟩⟩,k6.step hb7,hbel7⟩
 have hw7:g3<w7.heap.size:=(k6.step hb7).lt
 have hwg:w.heap.size<g3:=hgw1
 obtain ⟨hi,hhi⟩:∃ h,w7.heap.size=h:=⟨_,rfl⟩
 rw [hhi] at hI0 hw7
 generalize w6.heap.size=bx at hbx ⊢
 clear hW4 hW5 hb4 hb5 hb6 k4 k5 k6 hR6 hW6 hown6 hsz6 hg3lt Hal Hsz Hsg hb7 hS
 go_wp2_with fail
 refine wp_range_U (gf:=105) (lb:=#[.pointer (some ⟨bx,0,none⟩)]) rfl (enters_of Tryz.func105 (by kernel_rfl) rfl)
  (HA.out w7 bx (fun b=>w.heap.size≤b∧b<hi) hbel7 hbx (fun b hb=>by rw [hhi];exact hb.2)) (fun _ _ _ _ h=>by rw [show _=_ from h];rfl)
  (fun n₁ k=>BwI w hi g3 w.heap.size g3 n₁ (hd++(rs.take k).flatten)) (fun _ _ _ _=>False) (fun n₁=>BwI.own_ (fun k=>hd++(rs.take k).flatten) (by omega)) (fun _ _ _ _ _ _ h _ _=>h.elim) (fun n₁ _=>by simpa using hI0 n₁) ?round ?done ?stop
 case round =>
  clear hI0 hbx HA
  intro li n₁ k vs X hl hln hnX hk hI hy
  have hy:vs=_:=hy
  subst hy
  rw [Hat.out k hk]
  have hkr:k<rs.length:=by rw [Hlr.out];exact hk
  have htk:=flatten_take_snoc rs k hkr
  have hzl:=Hr32.out.getD k hkr
  have hql:(hd++(rs.take k).flatten).length≤1000000:=by rw [List.length_append,Hhl.out,length_flat32 _ (fun x hx=>Hr32.out x (List.mem_of_mem_take hx)),List.length_take];omega
  generalize rs.getD k []=z at hzl htk ⊢
  generalize (2:Int) ^ (ps.getD k (0,[])).1=mm
  have htk:hd++(rs.take (k+1)).flatten=(hd++(rs.take k).flatten)++z:=by rw [htk,List.append_assoc]
  generalize hq:hd++(rs.take k).flatten=q at htk hql hI
  have Htk:=Lib.hid htk
  have Hzl:=Lib.hid hzl
  have Hql:=Lib.hid hql
  clear htk hzl hql hkr
  refine wpIn_region_lit ?_
  go_simp
  refine wpListIn_of2 (openR li) rfl ?_
  refine wpList_hvar (.tmp 5) (.tmp 16) rfl rfl rfl rfl rfl rfl Hzl.out ?_
  intro X1 k10 hb10
  refine thenN_nil ?_
  simp only [Act.put]
  gi_wp2
  refine ⟨KeepU.below hb10,?_⟩
  intro X2 hturn
  have hI2:=hturn.own (BwI.own_ (w:=w) (hi:=hi) (g3:=g3) (gw:=w.heap.size) (b1:=g3) (n₁:=n₁) (fun _=>q) (show w.heap.size≤hi by omega)) (s:=k) (hI.step hb10)
  have k10':HV X2 X.heap.size z:=⟨hturn.blk k10.blk,Hzl.out⟩
  have hnX2:n₁≤X2.heap.size:=by rw [hturn.size];exact Nat.le_trans hnX hb10.size
  clear hI k10 hb10 hturn hnX
  generalize X.heap.size=g10 at k10' ⊢
  obtain ⟨⟨v,hWv,hpl⟩,hbox,hbel⟩:=hI2
  have hcall:=whash_any w.heap.size g3 v q z X2 hWv Hzl.out (by have:=Hql.out;omega)
  have Hcall:=Lib.hid hcall
  have c17:X2.cell? ⟨g3,0,none⟩=some (.pointer (some ⟨w.heap.size,0,none⟩)):=by rw [hbox.cell];rfl
  clear hcall
  gi_wp2_with ((with_reducible show wpListIn _ _ _ _ _ (⟨some 18,.load _ _,_,_,_,_⟩::_) _ _);refine wpListIn_of1 (openR li) rfl ?_;refine wpList_hload (.tmp 5) (by kernel_rfl) rfl k10' rfl ?_;refine thenN_nil ?_;simp only [Act.put])
  refine ⟨trivial,callsIn_any (openR li) (Hcall.out.mono ?_)⟩
  rintro e W9 ⟨rfl,v',hWv',hR'⟩
  have hlt3:=hbox.lt
  gi_wp2
  refine ⟨hR'.keepU hWv (.inr ⟨Nat.le_refl _,by omega⟩) (fun r e=>?_),⟨⟨v',by rw [Htk.out];exact hWv',fun r e=>?_⟩,hR'.blk hbox (by omega) (fun e=>(hpl g3 e.symm).2 rfl),hbel.trans (hR'.below (Nat.le_refl _) (fun r e=>by have:=(hWv.own.lt r e).1;omega) hbel.size)⟩⟩
  ·have h1:=(hWv.own.lt r e).1
   rcases (hpl r e).1 with h|h
   ·exact .inr ⟨by omega,h⟩
   ·exact .inl h
  ·rcases hR'.own with e2|⟨k',e2,hk'⟩
   ·exact hpl r (by rw [← e2];exact e)
   ·rw [e2] at e
    cases e
    exact ⟨.inr (by omega),by omega⟩
 case done =>
  clear hI0 hbx HA
  intro D n₁ X hD hDn hI hK
  rw [List.take_of_length_le (by rw [Hlr.out];exact Nat.le_refl _)] at hI
  obtain ⟨⟨v,hWv,hpl⟩,hbox,hbel⟩:=hI
  have c20:X.cell? ⟨g3,0,none⟩=some (.pointer (some ⟨w.heap.size,0,none⟩)):=by rw [hbox.cell];rfl
  have hcall:=wbytes_any w.heap.size g3 v _ X hWv (by rw [List.length_append,Hhl.out,length_flat32 _ Hr32.out,Hlr.out];omega)
  have Hcall:=Lib.hid hcall
  clear hcall
  go_wp2_with (go_at_call 91;refine Hcall.out.mono ?_;rintro e w9 ⟨v9,rfl,hF9⟩)
  refine leaves_marks (N:=w.heap.size) [D] _ (((MarksOk.nil _ _).cons (by omega) hK (by simp)).step hF9.2) fun w' ht=>⟨_,results_tmp rfl _ _ _,v9,rfl,?_,(hbel.trans (hF9.2.mono hbel.size)).trans ht.bel⟩
  have hov:=owns_le hF9.1 hbel.size
  rcases hov.2 with ⟨rfl,h0⟩|⟨g,cap,cur,rfl,hb,hc,r1,r2,r3,r4⟩
  ·exact ⟨hov.1,.inl ⟨rfl,h0⟩⟩
  ·exact ⟨hov.1,.inr ⟨g,cap,cur,rfl,hb,ht.blk _ _ _ hc,r1,r2,r3,r4⟩⟩
 case stop =>
  rintro D n₁ cd k X hD hDn hk h hK
  exact h.elim
end Go.Proofs.YtdjhoankkddomaaGreat
namespace Go.Proofs.YtdjhoankkddomaaGreat
open Go Go.RowKit Go.Shelf
attribute [local go_sem] Oper.semAt_some
theorem FrOk.nil:FrOk []:=⟨fun p hp=>(by cases hp),List.Pairwise.nil,by decide⟩
def frontB (hs:List (List UInt8)):List UInt8:=bytesF (leafF [] hs)
section
variable {W:World} {Z:Nat→Prop} {lo g:Nat} {R:MdR} {m:MoV}
set_option maxRecDepth 100000 in
theorem mfront_out (h:Md Z lo g R m W) (n:Int) (hn:n<0∨(m.ents.length:Int)<n):Calls Tryz.prog 39 #[.pointer (some ⟨g,0,none⟩),.int .i64 n] W fun e w'=>e = .returned (.tuple #[.slice none 0 0,.int .i64 4])∧w'=W:=by
 have hbe:=mbegins_out h n hn
 clear h hn
 go_enter Tryz.func39,Tryz.ntmps39
 go_wp2_with (go_at_call 65;refine (hbe).mono ?_;rintro e w' ⟨rfl,hw⟩;obtain rfl:=hw.symm)
 go_ret2
 exact ⟨rfl,rfl⟩
set_option maxHeartbeats 4000000 in
set_option maxRecDepth 100000 in
theorem mfront_in (h:Md Z lo g R m W) (n:Nat) (hn:n≤m.ents.length) (hN:m.ents.length≤1000000000):Calls Tryz.prog 39 #[.pointer (some ⟨g,0,none⟩),.int .i64 (n:Int)] W fun e w' =>
  ∃ v,e = .returned (.tuple #[v,.int .i64 0])∧Fresh W w' v (frontB ((lvs m.ents).take n)):=by
 have hbe:=mbegins_ok h n hn
 obtain ⟨A,c,hve,hes⟩:=Hs.of_owns h.hashes (lvs_length _) (H32.lvs _)
 have hr:=hes.sl.room
 have hmx:=hes.sl.max
 unfold maxLen at hmx
 have c1:∀ W',Below W.heap.size W W'→W'.cell? ⟨g,1,none⟩=some (.slice A m.ents.length c):=fun W' hb=>((h.step hb).cell 1 (by decide)).trans (congrArg some hve)
 obtain ⟨hs,hhs⟩:∃ x,(lvs m.ents).take n=x:=⟨_,rfl⟩
 have ht:=hes.take n hn
 rw [hhs] at ht ⊢
 have hln:hs.length=n:=ht.len
 have h32:=ht.all
 have hle:leafE [] hs=(leafF [] hs,0):=by unfold leafE;rw [if_neg (by rw [szF_nil];omega)]
 have hok:FrOk (leafF [] hs):=FrOk.nil.leafF hs h32 (by rw [szF_nil];omega)
 have hnc:n≤c:=by omega
 have htS:∀ W',Below W.heap.size W W'→Hs W' (fun _=>True) A n c hs:=fun W' hb=>(ht.step hb).weak (Y:=fun _=>True) fun _ _ _=>trivial
 have Hts:=Lib.hid htS
 have Hc1:=Lib.hid c1
 obtain ⟨N,hN'⟩:∃ x,m.ents.length=x:=⟨_,rfl⟩
 rw [hN'] at Hc1 hr
 have Hle:=Lib.hid hle
 have Hok:=Lib.hid hok
 clear ht hes hve h hN' hhs htS c1 hle hok
 go_enter Tryz.func39,Tryz.ntmps39
 go_wp2_with (go_at_call 65;refine (hbe).mono ?_;rintro e w' ⟨rfl,hw⟩;obtain rfl:=hw.symm)
 refine (fnew_any W).mono ?_
 rintro e w1 ⟨rfl,hF,hb1⟩
 have c1:=Hc1.out w1 hb1
 have hlf:=fleaf_any W.heap.size [] hs A n c w1 hF FrOk.nil (Hts.out w1 hb1) (by omega)
 rw [Hle.out] at hlf
 have Hlf:=Lib.hid hlf
 clear hlf hF
 go_wp2_with (first
  | ((with_reducible show wpList _ _ _ (⟨some 22,.slice _ _ _ _ _,_,_,_,_⟩::_) _ _);refine wpList_run rfl (.slice A n c) w1 (run_slice_hiH (.tmp 20) (.tmp 21) rfl A N c n rfl rfl hnc w1) ?_;simp only [Act.put])
  | fail)
 refine Hlf.out.mono ?_
 rintro e w2 ⟨rfl,hF2,hg2⟩
 have hb2:Below W.heap.size W w2:=hb1.grown hg2 hb1.size (fun r e=>Nat.le_of_eq (Option.some.inj e))
 have Hby:=Lib.hid (fbytes_any W.heap.size _ w2 hF2 Hok.out)
 clear hg2 hF2
 go_wp2_with fail
 refine Hby.out.mono ?_
 rintro e w3 ⟨v,rfl,ho,hb3⟩
 go_wp2_with fail
 go_ret2
 exact ⟨v,rfl,owns_le ho hb2.size,hb2.trans (hb3.mono hb2.size)⟩
end
end Go.Proofs.YtdjhoankkddomaaGreat
namespace Go.Proofs.YtdjhoankkddomaaGreat
open Go Go.RowKit Go.Shelf
attribute [local go_sem] Oper.semAt_some
def fpq (ps:FrV):List PcV:=ps.map fun p=>(((2 ^ p.1:Nat):Int),p.2)
theorem fpq_append (a b:FrV):fpq (a++b)=fpq a++fpq b:=by simp [fpq]
theorem length_fpq (ps:FrV):(fpq ps).length=ps.length:=by simp [fpq]
theorem fpq_32 (ps:FrV) (h:F32 ps):Pc32 (fpq ps):=fun p hp=>by
 obtain ⟨q,hq,rfl⟩:=List.mem_map.1 hp
 exact h q hq
theorem fpq_getD (ps:FrV) (i:Nat) (h:i<ps.length):(fpq ps).getD i pcD=(((2 ^ (ps.getD i (0,[])).1:Nat):Int),(ps.getD i (0,[])).2):=by
 unfold fpq
 rw [List.getD_eq_getElem?_getD,List.getElem?_map,List.getD_eq_getElem?_getD,List.getElem?_eq_getElem h]
 rfl
theorem aggPq:∀ w:World,(isAgg 154).run Tryz.prog w = .ok true w:=fun _=>by kernel_rfl
theorem sizePq:∀ w:World,(sizeOf 154).run Tryz.prog w = .ok 33 w:=fun _=>by kernel_rfl
theorem infoPq:(Tryz.prog.info? 154).map (fun i=>(i.zero,i.size,i.bytes))=some (some (.agg (.int .i64 0::(List.replicate 32 (0:UInt8)).map B).toArray),33,40):=by kernel_rfl
structure FrP (W:World) (g:Nat) (ps:FrV):Prop where
 ex:∃ A n c,Blk W g 129 #[.slice A n c]∧Pcs W (fun _=>True) A n c (fpq ps)
theorem FrP.step {W W':World} {g:Nat} {ps:FrV} (h:FrP W g ps) (hb:Below W.heap.size W W'):FrP W' g ps:=let ⟨A,n,c,h1,h2⟩:=h.ex;⟨A,n,c,h1.step hb,h2.step hb⟩
theorem FrP.all {W:World} {g:Nat} {ps:FrV} (h:FrP W g ps):F32 ps:=fun p hp=>by
 obtain ⟨A,n,c,h1,h2⟩:=h.ex
 exact h2.all _ (List.mem_map.2 ⟨p,hp,rfl⟩)
end Go.Proofs.YtdjhoankkddomaaGreat
namespace Go.Proofs.YtdjhoankkddomaaGreat
open Go Go.RowKit Go.Shelf
attribute [local go_sem] Oper.semAt_some
theorem builtPq (n:Int) (l:List UInt8) (h:l.length=32):Tryz.prog.built 154 [(0,.int .i64 n),(1,.agg (l.map B).toArray)]=some (.int .i64 n::l.map B).toArray:=by
 obtain ⟨a0,a1,a2,a3,a4,a5,a6,a7,a8,a9,a10,a11,a12,a13,a14,a15,a16,a17,a18,a19,a20,a21,a22,a23,a24,a25,a26,a27,a28,a29,a30,a31,rfl⟩:=explode32F l h
 kernel_rfl
theorem run_build_pq_op (lv:Int) (x:List UInt8) (hx:x.length=32) {ρ:Operand→Value} {o:Oper} (y z:Operand) (ho:o.op = .build 154 #[(0,y),(1,z)]) (hy:ρ y = .int .i64 lv) (hz:ρ z = .agg (x.map B).toArray) (W:World):(execOp ρ o).run Tryz.prog W = .ok (.value (.agg (Value.int .i64 lv::x.map B).toArray)) W:=by
 have h:(Instr.build 154 #[(0,.int .i64 lv),(1,.agg (x.map B).toArray)]).run Tryz.prog W = .ok (.agg (Value.int .i64 lv::x.map B).toArray) W:=run_build W 154 _ _ (builtPq lv x hx)
 unfold execOp
 have hm:(#[(0,y),(1,z)]:Array (Nat × Operand)).map (fun (i,x)=>(i,ρ x))=#[(0,.int .i64 lv),(1,.agg (x.map B).toArray)]:=by simp [hy,hz]
 simp only [ho,Sem.run_bind,Sem.run_pure,hm,h,Result.andThen_ok]
end Go.Proofs.YtdjhoankkddomaaGreat
