import Derived.Test.YtdjhoankkddomaaGreatQg230
import Derived.Test.YtdjhoankkddomaaGreatQg225
namespace Go.Proofs.YtdjhoankkddomaaGreat
open Go Go.RowKit Go.Shelf
attribute [local go_sem] Oper.semAt_some
theorem cl_es {W:World} {X:Nat→Prop} {A:Option Addr} {n c:Nat} {ls:List (List UInt8)} (h:EsI W X A n c ls) (hn:n≤1000000000) :
  ∃ v W',(Builtin.append_ #[48,48] 48 #[.slice none 0 0,.slice A n c]).run Tryz.prog W = .ok v W'∧EsO W' W.heap.size v ls X∧Below W.heap.size W W':=by
 obtain ⟨v,W',h1,h2,h3,-⟩:=(EsO.nil (W:=W) (lo:=W.heap.size) (X:=X)).apps (Nat.le_refl _) h (by simp;omega) (fun b _ _ e=>by cases e)
 exact ⟨v,W',h1,h2,grown_to_below h3 (fun b e=>by cases e) (Nat.le_refl _)⟩
theorem cl_by {W:World} {X:Nat→Prop} {A:Option Addr} {n c:Nat} {l:List UInt8} (h:Sl W X A n c l) (hn:n≤1099511627776) :
  ∃ v W',(Builtin.append_ #[41,41] 41 #[.slice none 0 0,.slice A n c]).run Tryz.prog W = .ok v W'∧Fresh W W' v l:=by
 obtain ⟨v,W',h1,h2,h3⟩:=append_sl (base:=W.heap.size) (v := .slice none 0 0) (xs:=[]) (World.ownsRow_nil _ _ _ _) h (by simp;omega) (Nat.le_refl _)
 exact ⟨v,W',h1,h2,grown_to_below h3 (fun b e=>by cases e) (Nat.le_refl _)⟩
theorem Blk.setX {W:World} {g:Nat} {R R':XdR} {m m':MoV} (h:Blk W g 60 (xdArr R m)) (k:Nat) (hk:k<74) (v:Value) (hv:xcell R' m' k=v) (ho:∀ i,i<74→i≠k→xcell R' m' i=xcell R m i):Blk (W.setCell ⟨g,k,none⟩ v) g 60 (xdArr R' m'):=by
 rw [← xd_set k hk v hv ho]
 exact h.set_ k v
theorem Blk.cellX {W:World} {g:Nat} {R:XdR} {m:MoV} (h:Blk W g 60 (xdArr R m)) (k:Nat) (hk:k<74):W.cell? ⟨g,k,none⟩=some (xcell R m k):=by rw [h.cell,xd_at _ _ k hk]
theorem kb_cell {M:Nat→Prop} {W W':World} {g:Nat} (h:KB M W W') (hg:M g) (k:Nat) (v:Value):KB M W (W'.setCell ⟨g,k,none⟩ v) :=
 h.trans (KB.of_grown (grown_setCell (World.grownBy.refl W' (some g)) k v) fun _ e=>(Option.some.inj e) ▸ hg)
section
variable {W:World} {Z:Nat→Prop} {g:Nat} {R:XdR} {m:MoV}
theorem Xd.qi (h:Xd Z g R m W):∃ A c,R.q = .slice A m.queue.length c∧EsI W (fun b=>¬ (b=g∨Z b)∧b<W.heap.size) A m.queue.length c m.queue:=let ⟨A,c,h1,h2⟩:=h.queue;⟨A,c,h1,h2.i.lt⟩
theorem Xd.ei (h:Xd Z g R m W):∃ A c,R.e = .slice A m.ents.length c∧EsI W (fun b=>¬ (b=g∨Z b)∧b<W.heap.size) A m.ents.length c m.ents:=let ⟨A,c,h1,h2⟩:=h.ents;⟨A,c,h1,h2.i.lt⟩
theorem sub_mem (h:Xd Z g R m W) (A:Option Addr) (n c:Nat) (l:List UInt8) (hl:Sl W (fun _=>True) A n c l) (hn:n≤4096) (hq:m.queue.length≤1000000) :
  ∃ v1 w1 A2 c2 w2 v3 w3,(Builtin.append_ #[48,48] 48 #[.slice none 0 0,R.q]).run Tryz.prog W = .ok v1 w1∧(Builtin.append_ #[41,41] 41 #[.slice none 0 0,.slice A n c]).run Tryz.prog w1 = .ok (.slice A2 l.length c2) w2 ∧
   (Builtin.append_ #[48,48] 48 #[v1,.slice (some ⟨w2.heap.size,0,none⟩) 1 1]).run Tryz.prog (w2.alloc (.cells #[.slice A2 l.length c2] 41)) = .ok v3 w3∧v3.oneCell'=true∧w3.cell? ⟨g,3,none⟩=some R.q∧w3.frozen? ⟨g,3,none⟩=false ∧
   XdS Z g { m with queue:=m.queue++[l] } W (w3.setCell ⟨g,3,none⟩ v3):=by
 have hgl:=h.blk.lt
 obtain ⟨Aq,cq,hRq,hqi⟩:=h.qi
 obtain ⟨v1,w1,h1,o1,b1⟩:=cl_es hqi (by omega)
 obtain ⟨v2,w2,h2,f2⟩:=cl_by (hl.step b1) (by omega)
 obtain ⟨A2,c2,rfl,s2⟩:=f2.sl
 have b2:=f2.2
 have own2:∀ b,(Value.slice A2 l.length c2).ownBlock=some b→w1.heap.size≤b:=fun b e=>(f2.1.lt b e).1
 have l1:∀ b,v1.ownBlock=some b→W.heap.size≤b∧b<w1.heap.size:=fun b e=>o1.lt b e
 have o1':EsO w2 W.heap.size v1 m.queue (fun b=>¬ (b=g∨Z b)∧v1.ownBlock≠some b):=by
  refine EsO.weak (o1.step b2) fun b _ hx=>⟨hx.1,fun e=>?_⟩
  have:=(l1 b e).1
  have:=hx.2
  omega
 have s2':Sl w2 (fun b=>¬ (b=g∨Z b)∧v1.ownBlock≠some b) A2 l.length c2 l:=by
  refine s2.weak fun b _ hx=>⟨fun e=>?_,fun e=>?_⟩
  ·have:=b1.size
   rcases e with rfl|e
   ·omega
   ·have:=h.zlt b e;omega
  ·have:=(l1 b e).2;omega
 have hz2:W.heap.size≤w2.heap.size:=Nat.le_trans b1.size b2.size
 obtain ⟨v3,w3,h3,o3,g3,n3⟩:=o1'.app hz2 (by omega) l A2 c2 s2' (fun b _ hx e=>hx.2 e.symm)
 have B2:Below W.heap.size W w2:=b1.trans (b2.mono b1.size)
 have b3:Below W.heap.size w2 w3:=grown_to_below g3 (fun b e=>(l1 b e).1) hz2
 have B3:=B2.trans b3
 have k3:Blk w3 g 60 (xdArr R m):=(h.step B3).blk
 have hK:KB (fun b=>b=g) W (w3.setCell ⟨g,3,none⟩ v3):=kb_cell (M:=fun b=>b=g) (KB.of_below B3) rfl 3 v3
 have k4:Blk (w3.setCell ⟨g,3,none⟩ v3) g 60 (xdArr { R with q:=v3 } { m with queue:=m.queue++[l] }):=k3.setX 3 (by decide) v3 rfl fun i hi hne=>by unfold xcell;simp only [hne,if_false]
 have hv3:∀ b,v3.ownBlock=some b→W.heap.size≤b:=fun b e=>by
  rcases n3 with e'|⟨k,e',hk⟩
  ·exact (l1 b (e'.symm.trans e)).1
  ·rw [e'] at e;have:=Option.some.inj e;omega
 have o4:EsO (w3.setCell ⟨g,3,none⟩ v3) W.heap.size v3 (m.queue++[l]) (fun b=>¬ (b=g∨Z b)∧v1.ownBlock≠some b):=o3.kb (M:=fun b=>b=g) (kb_cell (M:=fun b=>b=g) (KB.refl _ _) rfl 3 v3) (fun b e e'=>by have:=hv3 b e;omega) (fun b _ hx e=>hx.1 (.inl e))
 obtain ⟨A4,c4,e4,q4⟩:=o4.esW (Y:=fun b=>¬ (b=g∨Z b)) (fun b e hx=>by
  have:=hv3 b e
  rcases hx with rfl|hx
  ·omega
  ·have:=h.zlt b hx;omega) fun b _ hx=>hx.1
 obtain ⟨A5,c5,e5,q5⟩:=h.ents
 obtain ⟨A6,c6,e6,q6⟩:=h.begun
 refine ⟨v1,w1,A2,c2,w2,v3,w3,by rw [hRq];exact h1,h2,h3,o3.one,k3.cellX 3 (by decide),k3.frozen 3,⟨{ R with q:=v3 },k4,h.lastL,h.ptL,⟨A5,c5,e5,q5.kb hK fun b _ hx e=>hx (.inl e)⟩,⟨A4,c4,e4,q4⟩,⟨A6,c6,e6,q6.kb hK fun b _ hx e=>hx (.inl e)⟩,fun b hz=>Nat.lt_of_lt_of_le (h.zlt b hz) hK.size,h.zno⟩,hK⟩
theorem fl_mem (h:Xd Z g R m W) (hn:m.ents.length+m.queue.length≤1000000) :
  ∃ v1 w1 v2 w2 w3,(Builtin.append_ #[48,48] 48 #[.slice none 0 0,R.e]).run Tryz.prog W = .ok v1 w1∧(Builtin.append_ #[48,48] 48 #[v1,R.q]).run Tryz.prog w1 = .ok v2 w2∧Below W.heap.size W w1∧Below W.heap.size W w2∧v2.oneCell'=true ∧
   w2.cell? ⟨g,2,none⟩=some R.e∧w2.frozen? ⟨g,2,none⟩=false∧w2.setCell ⟨g,2,none⟩ v2=w3∧w3.cell? ⟨g,3,none⟩=some R.q∧w3.frozen? ⟨g,3,none⟩=false∧XdS Z g m.flush W (w3.setCell ⟨g,3,none⟩ (.slice none 0 0)):=by
 have hgl:=h.blk.lt
 obtain ⟨Ae,ce,hRe,hei⟩:=h.ei
 obtain ⟨v1,w1,h1,o1,b1⟩:=cl_es hei (by omega)
 obtain ⟨Aq,cq,hRq,hqi⟩:=(h.step b1).qi
 have l1:∀ b,v1.ownBlock=some b→W.heap.size≤b∧b<w1.heap.size:=fun b e=>o1.lt b e
 have hqi':EsI w1 (fun b=>¬ (b=g∨Z b)∧b<W.heap.size) Aq m.queue.length cq m.queue:=by
  obtain ⟨A',c',e',h'⟩:=h.qi
  rw [hRq] at e'
  injection e' with e1 e2 e3
  subst e1
  subst e3
  exact h'.step b1
 have o1':EsO w1 W.heap.size v1 m.ents (fun b=>¬ (b=g∨Z b)∧b<W.heap.size):=o1
 obtain ⟨v2,w2,h2,o2,g2,n2⟩:=o1'.apps b1.size hqi' (by omega) (fun b _ hx e=>by have:=(l1 b e.symm).1;have:=hx.2;omega)
 have b2:Below W.heap.size w1 w2:=grown_to_below g2 (fun b e=>(l1 b e).1) b1.size
 have B2:=b1.trans b2
 have hv2:∀ b,v2.ownBlock=some b→W.heap.size≤b:=fun b e=>by
  rcases n2 with e'|⟨k,e',hk⟩
  ·exact (l1 b (e'.symm.trans e)).1
  ·rw [e'] at e;have:=Option.some.inj e;have:=b1.size;omega
 have k2:Blk w2 g 60 (xdArr R m):=(h.step B2).blk
 have k3:Blk (w2.setCell ⟨g,2,none⟩ v2) g 60 (xdArr { R with e:=v2 } { m with ents:=m.ents++m.queue }):=k2.setX 2 (by decide) v2 rfl fun i hi hne=>by unfold xcell;simp only [hne,if_false]
 have k4:Blk ((w2.setCell ⟨g,2,none⟩ v2).setCell ⟨g,3,none⟩ (.slice none 0 0)) g 60 (xdArr { R with e:=v2,q := .slice none 0 0 } m.flush):=k3.setX 3 (by decide) _ rfl fun i hi hne=>by unfold xcell;simp only [hne,if_false];rfl
 have hK:KB (fun b=>b=g) W ((w2.setCell ⟨g,2,none⟩ v2).setCell ⟨g,3,none⟩ (.slice none 0 0)):=kb_cell (M:=fun b=>b=g) (kb_cell (M:=fun b=>b=g) (KB.of_below B2) rfl 2 v2) rfl 3 _
 have o4:EsO ((w2.setCell ⟨g,2,none⟩ v2).setCell ⟨g,3,none⟩ (.slice none 0 0)) W.heap.size v2 (m.ents++m.queue) (fun b=>¬ (b=g∨Z b)∧b<W.heap.size):=o2.kb (M:=fun b=>b=g) (kb_cell (M:=fun b=>b=g) (kb_cell (M:=fun b=>b=g) (KB.refl _ _) rfl 2 v2) rfl 3 _) (fun b e e'=>by have:=hv2 b e;omega) (fun b _ hx e=>hx.1 (.inl e))
 obtain ⟨A4,c4,e4,q4⟩:=o4.esW (Y:=fun b=>¬ (b=g∨Z b)) (fun b e hx=>by
  have:=hv2 b e
  rcases hx with rfl|hx
  ·omega
  ·have:=h.zlt b hx;omega) fun b _ hx=>hx.1
 obtain ⟨A6,c6,e6,q6⟩:=h.begun
 refine ⟨v1,w1,v2,w2,_,by rw [hRe];exact h1,by rw [hRq];exact h2,b1,B2,o2.one,k2.cellX 2 (by decide),k2.frozen 2,rfl,k3.cellX 3 (by decide),k3.frozen 3,⟨{ R with e:=v2,q := .slice none 0 0 },k4,h.lastL,h.ptL,⟨A4,c4,e4,q4⟩,⟨none,0,rfl,?_⟩,⟨A6,c6,e6,q6.kb hK fun b _ hx e=>hx (.inl e)⟩,fun b hz=>Nat.lt_of_lt_of_le (h.zlt b hz) hK.size,h.zno⟩,hK⟩
 exact ⟨⟨[],SlV.empty,fun i hi=>absurd hi (by simp [MoV.flush])⟩,rfl⟩
theorem XdS.same (h:Xd Z g R m W):XdS Z g m W W:=⟨⟨R,h⟩,KB.refl _ _⟩
set_option maxHeartbeats 4000000 in
set_option maxRecDepth 100000 in
theorem xsubmit_any (h:Xd Z g R m W) (A:Option Addr) (n c:Nat) (l:List UInt8) (hl:Sl W (fun _=>True) A n c l) (hq:m.queue.length≤1000000) :
  Calls Tryz.prog 18 #[.pointer (some ⟨g,0,none⟩),.slice A n c] W fun e w'=>e = .returned (.int .i64 (m.submit l).1)∧XdS Z g (m.submit l).2 W w':=by
 have hmay:=xmay_any h
 have hlen:=hl.len
 have hr:=hl.room
 have hmx:=hl.max
 unfold maxLen at hmx
 unfold MoV.submit
 by_cases ho:m.only=true
 ·rw [if_pos ho]
  rw [ho] at hmay
  have HS:=Lib.hid (XdS.same h)
  clear h hl ho hlen
  go_enter Tryz.func18,Tryz.ntmps18
  go_wp2_with (go_at_call 21;refine hmay.mono ?_;rintro e w' ⟨rfl,hw⟩;obtain rfl:=hw.symm)
  go_ret
  exact ⟨rfl,HS.out⟩
 ·have ho:m.only=false:=by simpa using ho
  rw [ho] at hmay
  rw [if_neg (by rw [ho];decide:¬ m.only=true)]
  by_cases h1:4096<l.length
  ·rw [if_pos h1]
   have d1:decide ((4096:Int)<(n:Int))=true:=by simp;omega
   have d1':decide (4096<n)=true:=by simp;omega
   have HS:=Lib.hid (XdS.same h)
   clear h hl ho hlen
   go_enter Tryz.func18,Tryz.ntmps18
   go_wp2_with (go_at_call 21;refine hmay.mono ?_;rintro e w' ⟨rfl,hw⟩;obtain rfl:=hw.symm)
   go_ret
   exact ⟨rfl,HS.out⟩
  ·rw [if_neg h1]
   have d1:decide ((4096:Int)<(n:Int))=false:=by simp;omega
   have d1':decide (4096<n)=false:=by simp;omega
   obtain ⟨Aq,cq,hRq,hqe⟩:=h.queue
   have c3:∀ s:InC (fun W'=>Below W.heap.size W W'),s.W.cell? ⟨g,3,none⟩=some (.slice Aq m.queue.length cq):=fun s=>((h.step s.ok).cell 3 (by decide)).trans (congrArg some hRq)
   have c1:∀ s:InC (fun W'=>Below W.heap.size W W'),s.W.cell? ⟨g,1,none⟩=some (.int .i64 m.cap):=fun s=>(h.step s.ok).cell 1 (by decide)
   have hrq:=hqe.room
   have hmq:=hqe.max
   unfold maxLen at hmq
   have hS:Below W.heap.size W W.drew:=(Below.refl _ _).drew
   by_cases h2:m.cap≤(m.queue.length:Int)
   ·rw [if_pos h2]
    obtain ⟨cap,hcap⟩:∃ x,m.cap=x:=⟨_,rfl⟩
    obtain ⟨k,hk⟩:∃ x,m.queue.length=x:=⟨_,rfl⟩
    rw [hcap] at c1 h2
    rw [hk] at c3 h2 hrq
    have d2:decide (cap≤(k:Int))=true:=by simpa using h2
    have HS:=Lib.hid (show ∀ V,Below W.heap.size W V→XdS Z g m W V from fun V hb=>⟨⟨R,h.step hb⟩,KB.of_below hb⟩)
    clear hRq hqe h hl hcap hk hlen
    go_enter Tryz.func18,Tryz.ntmps18
    go_wp2_with (go_at_call 21;refine hmay.mono ?_;rintro e w' ⟨rfl,hw⟩;obtain rfl:=hw.symm)
    refine wp_region_mix (fun W'=>Below W.heap.size W W') [(0,true),(1,true),(2,true),(3,true),(4,true),(5,true),(6,true),(7,true),(8,true),(9,true),(10,true)] (by kernel_rfl) (by kernel_rfl) hS fun _=>?_
    simp only [List.map_cons,List.map_nil,Array.getD_eq_getD_getElem?,List.getElem?_toArray,List.getElem?_cons_succ,List.getElem?_cons_zero,Option.getD_some]
    generalize W.drew=W0 at hS ⊢
    iterate 11 (refine wpMix_s (fun K hK=>?_);go_simp;refine hK _ ?_;clear hK K)
    refine wpMix_nil ?_
    intro _
    go_wp2_with fail
    go_ret
    exact ⟨rfl,HS.out _ hS⟩
   ·rw [if_neg h2]
    have hsm:=fun V (hb:Below W.heap.size W V)=>sub_mem (h.step hb) A n c l (hl.step hb) (by omega) hq
    obtain ⟨cap,hcap⟩:∃ x,m.cap=x:=⟨_,rfl⟩
    obtain ⟨k,hk⟩:∃ x,m.queue.length=x:=⟨_,rfl⟩
    rw [hRq] at hsm
    rw [hcap] at c1 h2
    rw [hk] at c3 h2 hrq hsm
    have d2:decide (cap≤(k:Int))=false:=by simpa using h2
    have Hsm:=Lib.hid hsm
    clear hRq hqe h hl hcap hk hlen hsm
    go_enter Tryz.func18,Tryz.ntmps18
    go_wp2_with (go_at_call 21;refine hmay.mono ?_;rintro e w' ⟨rfl,hw⟩;obtain rfl:=hw.symm)
    refine wp_region_mix (fun W'=>Below W.heap.size W W') [(0,true),(1,true),(2,true),(3,true),(4,true),(5,true),(6,true),(7,true),(8,true),(9,true),(10,true)] (by kernel_rfl) (by kernel_rfl) hS fun _=>?_
    simp only [List.map_cons,List.map_nil,Array.getD_eq_getD_getElem?,List.getElem?_toArray,List.getElem?_cons_succ,List.getElem?_cons_zero,Option.getD_some]
    generalize W.drew=W0 at hS ⊢
    iterate 11 (refine wpMix_s (fun K hK=>?_);go_simp;refine hK _ ?_;clear hK K)
    refine wpMix_nil ?_
    intro _
    obtain ⟨v1,w1,A2,c2,w2,v3,w3,r1,r2,r3,o3,x3,f3,hF⟩:=Hsm.out W0 hS
    have HF:=Lib.hid hF
    have Hb:=Lib.hid hS
    have c3:W0.cell? ⟨g,3,none⟩=some (.slice Aq k cq):=c3 ⟨W0,hS⟩
    clear hF Hsm hS c1
    go_wp2_with (first
     | ((with_reducible show wpList _ _ _ (⟨some 30,.call _,_,_,_,_⟩::_) _ _);refine wpList_run rfl v1 w1 (run_append_op (.const (.slice none 0 0)) (.tmp 29) 48 rfl _ _ rfl rfl r1) ?_;simp only [Act.put,List.setIfInBounds_toArray,List.set_cons_succ,List.set_cons_zero])
     | ((with_reducible show wpList _ _ _ (⟨some 32,.call _,_,_,_,_⟩::_) _ _);refine wpList_run rfl (.slice A2 l.length c2) w2 (run_append_op (.const (.slice none 0 0)) (.tmp 31) 41 rfl _ _ rfl rfl r2) ?_;simp only [Act.put,List.setIfInBounds_toArray,List.set_cons_succ,List.set_cons_zero])
     | ((with_reducible show wpList _ _ _ (⟨some 33,.buildSlice _ _ _,_,_,_,_⟩::_) _ _);refine wpList_run rfl (.slice (some ⟨w2.heap.size,0,none⟩) 1 1) (w2.alloc (.cells #[.slice A2 l.length c2] 41)) (by kernel_rfl) ?_;simp only [Act.put,List.setIfInBounds_toArray,List.set_cons_succ,List.set_cons_zero])
     | ((with_reducible show wpList _ _ _ (⟨some 34,.call _,_,_,_,_⟩::_) _ _);refine wpList_run rfl v3 w3 (run_append_op (.tmp 30) (.tmp 33) 48 rfl _ _ rfl rfl r3) ?_;simp only [Act.put,List.setIfInBounds_toArray,List.set_cons_succ,List.set_cons_zero])
     | ((with_reducible show wpList _ _ _ [⟨none,.store _ (.tmp 36) _,_,_,_,_⟩] _ _);refine wpList_put1i rfl 48 (.tmp 36) (.tmp 34) rfl sizeEs ⟨g,3,none⟩ v3 rfl rfl o3 _ x3 f3 ?_;simp only [Act.put]))
    go_ret
    exact ⟨rfl,HF.out.ex,(KB.of_below Hb.out).trans HF.out.kb⟩
set_option maxHeartbeats 4000000 in
set_option maxRecDepth 100000 in
theorem xflush_only (h:Xd Z g R m W) (ho:m.only=true) :
  Calls Tryz.prog 19 #[.pointer (some ⟨g,0,none⟩)] W fun e w'=>e = .returned (.tuple #[.int .i64 0,.int .i64 0,.int .i64 10])∧w'=W:=by
 have hmay:=xmay_any h
 rw [ho] at hmay
 clear h ho
 go_enter Tryz.func19,Tryz.ntmps19
 go_wp2_with (go_at_call 21;refine hmay.mono ?_;rintro e w' ⟨rfl,hw⟩;obtain rfl:=hw.symm)
 go_ret3
 exact ⟨rfl,rfl⟩
set_option maxHeartbeats 4000000 in
set_option maxRecDepth 100000 in
theorem xflush_any (h:Xd Z g R m W) (ho:m.only=false) (hn:m.ents.length+m.queue.length≤1000000) :
  Calls Tryz.prog 19 #[.pointer (some ⟨g,0,none⟩)] W fun e w'=>e = .returned (.tuple #[.int .i64 (m.ents.length:Int),.int .i64 (m.queue.length:Int),.int .i64 0])∧XdS Z g m.flush W w':=by
 have hmay:=xmay_any h
 rw [ho] at hmay
 obtain ⟨Aq,cq,hRq,hqe⟩:=h.queue
 obtain ⟨Ae,ce,hRe,hee⟩:=h.ents
 have c3:∀ s:InC (fun W'=>Below W.heap.size W W'),s.W.cell? ⟨g,3,none⟩=some (.slice Aq m.queue.length cq):=fun s=>((h.step s.ok).cell 3 (by decide)).trans (congrArg some hRq)
 have c2:∀ s:InC (fun W'=>Below W.heap.size W W'),s.W.cell? ⟨g,2,none⟩=some (.slice Ae m.ents.length ce):=fun s=>((h.step s.ok).cell 2 (by decide)).trans (congrArg some hRe)
 have hfm:=fun V (hb:Below W.heap.size W V)=>fl_mem (h.step hb) hn
 rw [hRq,hRe] at hfm
 have hsz:∀ V,Below W.heap.size W V→W.heap.size≤V.heap.size:=fun V hb=>hb.size
 obtain ⟨ne,hne⟩:∃ x,m.ents.length=x:=⟨_,rfl⟩
 obtain ⟨nq,hnq⟩:∃ x,m.queue.length=x:=⟨_,rfl⟩
 have hrq:=hqe.room
 have hre:=hee.room
 have hmq:=hqe.max
 have hme:=hee.max
 unfold maxLen at hmq hme
 rw [hne] at c2 hfm hn hre ⊢
 rw [hnq] at c3 hfm hn hrq ⊢
 have hwe:IntKind.i64.wrap (ne:Int)=(ne:Int):=IntWalk.i64_in _ (by omega)
 have hS:Below W.heap.size W W.drew:=(Below.refl _ _).drew
 have Hfm:=Lib.hid hfm
 clear hRq hqe hRe hee h hfm hne hnq ho
 go_enter Tryz.func19,Tryz.ntmps19
 go_wp2_with (go_at_call 21;refine hmay.mono ?_;rintro e w' ⟨rfl,hw⟩;obtain rfl:=hw.symm)
 refine wp_region_mix (fun W'=>Below W.heap.size W W') [(0,true),(1,true),(2,true),(3,true),(4,true),(5,true),(6,true),(7,true),(8,true),(9,true),(10,true),(11,true)] (by kernel_rfl) (by kernel_rfl) hS fun _=>?_
 simp only [List.map_cons,List.map_nil,Array.getD_eq_getD_getElem?,List.getElem?_toArray,List.getElem?_cons_succ,List.getElem?_cons_zero,Option.getD_some]
 generalize W.drew=W0 at hS ⊢
 iterate 12 (refine wpMix_s (fun K hK=>?_);go_simp;refine hK _ ?_;clear hK K)
 refine wpMix_nil ?_
 intro _
 have hS2:Below W0.heap.size W0 W0.drew:=(Below.refl _ _).drew
 have hSz:=hS.trans (hS2.mono hS.size)
 obtain ⟨v1,w1,v2,w2,w3,r1,r2,b1,b2,o2,x2,f2,hw3,x3,f3,hF⟩:=Hfm.out W0.drew hSz
 have HF:=Lib.hid hF
 have Hw3:=Lib.hid hw3
 have Hb:=Lib.hid hSz
 have e2:∀ s:InC (fun W'=>Below W0.heap.size W0 W'),s.W.cell? ⟨g,2,none⟩=some (.slice Ae ne ce):=fun s=>c2 ⟨_,hS.trans (s.ok.mono hS.size)⟩
 have e3:∀ s:InC (fun W'=>Below W0.heap.size W0 W'),s.W.cell? ⟨g,3,none⟩=some (.slice Aq nq cq):=fun s=>c3 ⟨_,hS.trans (s.ok.mono hS.size)⟩
 have hdz:W0.heap.size≤W0.drew.heap.size:=hS2.size
 clear hF Hfm c2 c3 hw3 hSz hS
 go_wp2_with fail
 refine wp_region_mix_tail (fun W'=>Below W0.heap.size W0 W') 13 [(0,true),(1,true),(2,true),(3,true),(4,true),(6,true),(7,true),(8,true),(9,true),(5,false),(10,false),(11,true),(12,true)] (by kernel_rfl) (by kernel_rfl) hS2 fun _=>?_
 simp only [List.map_cons,List.map_nil,Array.getD_eq_getD_getElem?,List.getElem?_toArray,List.getElem?_cons_succ,List.getElem?_cons_zero,Option.getD_some]
 iterate 9 (refine wpMix_s (fun K hK=>?_);go_simp;refine hK _ ?_;clear hK K)
 refine wpMix_run (by kernel_rfl) v1 w1 (run_append_op (.const (.slice none 0 0)) (.tmp 27) 48 rfl _ _ rfl rfl r1) (hS2.trans (b1.mono hdz)) ?_
 simp only [Act.put,List.setIfInBounds_toArray,List.set_cons_succ,List.set_cons_zero]
 refine wpMix_run (by kernel_rfl) v2 w2 (run_append_op (.tmp 28) (.tmp 32) 48 rfl _ _ rfl rfl r2) (hS2.trans (b2.mono hdz)) ?_
 simp only [Act.put,List.setIfInBounds_toArray,List.set_cons_succ,List.set_cons_zero]
 iterate 2 (refine wpMix_s (fun K hK=>?_);go_simp;refine hK _ ?_;clear hK K)
 refine wpMix_nil ?_
 intro _
 simp only [List.drop_succ_cons,List.drop_zero]
 refine wpList_put1i rfl 48 (.tmp 35) (.tmp 33) rfl sizeEs ⟨g,2,none⟩ v2 rfl rfl o2 _ x2 f2 ?_;simp only [Act.put]
 refine wpList_nil ?_
 refine np_normal ?_
 rw [Hw3.out]
 go_wp2_with (((with_reducible show wpList _ _ _ [⟨none,.store _ (.tmp 38) _,_,_,_,_⟩] _ _);refine wpList_put1i rfl 48 (.tmp 38) (.const (.slice none 0 0)) rfl sizeEs ⟨g,3,none⟩ (.slice none 0 0) rfl rfl rfl _ x3 f3 ?_;simp only [Act.put]))
 go_ret3
 exact ⟨rfl,HF.out.ex,(KB.of_below Hb.out).trans HF.out.kb⟩
end
end Go.Proofs.YtdjhoankkddomaaGreat
namespace Go.Proofs.YtdjhoankkddomaaGreat
open Go Go.RowKit Go.Shelf
attribute [local go_sem] Oper.semAt_some
structure PStep where
 kd:Int
 on:Int
 a:Int
 b:Int
 A:Option Addr
 n:Nat
 c:Nat
 l:List UInt8
def PStep.cells (s:PStep):Array Value:=#[.int .i64 s.kd,.int .i64 s.on,.int .i64 s.a,.int .i64 s.b,.slice s.A s.n s.c]
def fd0 (m:MoV) (a:Int):List (List UInt8):=m.ents++m.begun.take a.toNat
def fdE (m:MoV) (s:PStep):List (List UInt8) :=
 if s.b=1 then fd0 m s.a++[s.l] else if s.b=5 then (fd0 m s.a).take ((fd0 m s.a).length - 1) else if s.b=6 then (if fd0 m s.a=[] then [] else (fd0 m s.a).set 0 s.l) else fd0 m s.a
def fdH (m:MoV) (b:Int):Bool:=if b=2 then m.pointing else if b=3 then !m.has else m.has
def fdS (m:MoV) (b:Int):Int:=if b=2 then m.ptS else if b=4 then IntKind.i64.wrap (m.lastS+1) else m.lastS
def fdR (m:MoV) (b:Int):List UInt8:=if b=2 then m.ptR else m.lastR
theorem fd0_len (m:MoV) (a:Int):(fd0 m a).length≤m.ents.length+m.begun.length:=by unfold fd0;rw [List.length_append,List.length_take];omega
theorem fdE_len (m:MoV) (s:PStep):(fdE m s).length≤m.ents.length+m.begun.length+1:=by
 have:=fd0_len m s.a
 unfold fdE
 split
 ·rw [List.length_append];simp;omega
 ·split
  ·rw [List.length_take];omega
  ·split
   ·split
    ·simp
    ·rw [List.length_set];omega
   ·omega
def fcV (v:Value) (fh:Bool) (fs:Int) (fr:List UInt8):Array Value:=(v :: .int .i64 0 :: .slice none 0 0 :: .int .i64 0 :: .bool fh :: .int .i64 fs::fr.map B).toArray
theorem fcV_slice (A:Option Addr) (n c:Nat) (fh:Bool) (fs:Int) (fr:List UInt8):fcV (.slice A n c) fh fs fr=fcP A n c fh fs fr:=rfl
theorem fcV_size (v:Value) (fh:Bool) (fs:Int) (fr:List UInt8) (h:fr.length=32):(fcV v fh fs fr).size=38:=by simp [fcV,h]
theorem one_fcV (v:Value) (hv:v.oneCell'=true) (fh:Bool) (fs:Int) (fr:List UInt8):∀ u ∈ (fcV v fh fs fr).toList,u.oneCell'=true:=by
 intro u hu
 simp only [fcV,List.mem_cons] at hu
 rcases hu with rfl|rfl|rfl|rfl|rfl|hu
 ·exact hv
 ·rfl
 ·rfl
 ·rfl
 ·rfl
 ·exact oneCell_pt fs fr u (by simpa using hu)
theorem built_fc0 (fh:Bool) (fs:Int) (fr:List UInt8) (h:fr.length=32):Tryz.prog.built 72 [(4,.bool fh),(5,.agg (.int .i64 fs::fr.map B).toArray)]=some (fcV (.slice none 0 0) fh fs fr):=by
 obtain ⟨a0,a1,a2,a3,a4,a5,a6,a7,a8,a9,a10,a11,a12,a13,a14,a15,a16,a17,a18,a19,a20,a21,a22,a23,a24,a25,a26,a27,a28,a29,a30,a31,rfl⟩:=explode32 fr h
 kernel_rfl
theorem build_fc0 {ρ:Operand→Value} {o:Oper} (x y:Operand) (fh:Bool) (fs:Int) (fr:List UInt8) (hl:fr.length=32) (ho:o.op = .build 72 #[(4,x),(5,y)]) (hx:ρ x = .bool fh) (hy:ρ y = .agg (.int .i64 fs::fr.map B).toArray) (W:World) :
  (execOp ρ o).run Tryz.prog W = .ok (.value (.agg (fcV (.slice none 0 0) fh fs fr))) W:=by
 have hm:(#[(4,x),(5,y)]:Array (Nat × Operand)).map (fun (i,x)=>(i,ρ x))=#[(4,.bool fh),(5,.agg (.int .i64 fs::fr.map B).toArray)]:=by simp [hx,hy]
 unfold execOp
 simp only [ho,Sem.run_bind,Sem.run_pure,hm,run_build W _ _ _ (built_fc0 fh fs fr hl),Result.andThen_ok]
def zf38:Array Value:=#[.slice none 0 0,.int .i64 0,.slice none 0 0,.int .i64 0,.bool false,.int .i64 0,.int .u8 0,.int .u8 0,.int .u8 0,.int .u8 0,.int .u8 0,.int .u8 0,.int .u8 0,.int .u8 0,.int .u8 0,.int .u8 0,.int .u8 0,.int .u8 0,.int .u8 0,.int .u8 0,.int .u8 0,.int .u8 0,.int .u8 0,.int .u8 0,.int .u8 0,.int .u8 0,.int .u8 0,.int .u8 0,.int .u8 0,.int .u8 0,.int .u8 0,.int .u8 0,.int .u8 0,.int .u8 0,.int .u8 0,.int .u8 0,.int .u8 0,.int .u8 0]
theorem sizeFd:∀ w:World,(sizeOf 72).run Tryz.prog w = .ok 38 w:=fun _=>by kernel_rfl
theorem aggFd:∀ w:World,(isAgg 72).run Tryz.prog w = .ok true w:=fun _=>by kernel_rfl
structure FdI (W0:World) (X:Nat→Prop) (s:PStep) (gf:Nat) (v:Value) (fe:List (List UInt8)) (fh:Bool) (fs:Int) (fr:List UInt8) (W:World):Prop where
 bel:Below W0.heap.size W0 W
 ks:Blk W W0.heap.size 43 s.cells
 kr:Blk W (W0.heap.size+1) 72 zf38
 kf:Blk W gf 72 (fcV v fh fs fr)
 es:EsO W (gf+1) v fe X
 gl:W0.heap.size+1<gf
 rl:fr.length=32
section
variable {W0 W W':World} {X:Nat→Prop} {s:PStep} {gf:Nat} {v:Value} {fe:List (List UInt8)} {fh:Bool} {fs:Int} {fr:List UInt8}
theorem FdI.step (h:FdI W0 X s gf v fe fh fs fr W) (hb:Below W.heap.size W W'):FdI W0 X s gf v fe fh fs fr W' :=
 ⟨h.bel.trans (hb.mono h.bel.size),h.ks.step hb,h.kr.step hb,h.kf.step hb,h.es.step hb,h.gl,h.rl⟩
theorem FdI.cv (h:FdI W0 X s gf v fe fh fs fr W):W.cell? ⟨gf,0,none⟩=some v:=by rw [h.kf.cell];rfl
theorem FdI.below (h:FdI W0 X s gf v fe fh fs fr W) (hb:Below (gf+1) W W') (hes:EsO W' (gf+1) v fe X):FdI W0 X s gf v fe fh fs fr W':=by
 have:=h.gl
 exact ⟨h.bel.trans (hb.mono (by omega)),h.ks.below hb (by omega),h.kr.below hb (by omega),h.kf.below hb (by omega),hes,h.gl,h.rl⟩
theorem FdI.setv (h:FdI W0 X s gf v fe fh fs fr W) {v':Value} {fe':List (List UInt8)} (hb:Below (gf+1) W W') (hes:EsO W' (gf+1) v' fe' X) (hX:∀ b,X b→b<W0.heap.size):FdI W0 X s gf v' fe' fh fs fr (W'.setCell ⟨gf,0,none⟩ v'):=by
 have hgl:=h.gl
 have hk:KB (fun b=>b=gf) W' (W'.setCell ⟨gf,0,none⟩ v'):=kb_cell (M:=fun b=>b=gf) (KB.refl _ _) rfl 0 v'
 have hB:Below W0.heap.size W0 W':=h.bel.trans (hb.mono (by omega))
 refine ⟨hB.setCell (p:=⟨gf,0,none⟩) (by show W0.heap.size≤gf;omega) v',hk.blk (h.ks.below hb (by omega)) (by omega),hk.blk (h.kr.below hb (by omega)) (by omega),?_,?_,hgl,h.rl⟩
 ·exact (h.kf.below hb (by omega)).set_ 0 v'
 ·exact hes.kb hk (fun b e e'=>by have:=(hes.lt b e).1;omega) (fun b _ hx e=>by have:=hX b hx;omega)
end
theorem EsO.low7 {W:World} {lo lo':Nat} {v:Value} {ls:List (List UInt8)} {X:Nat→Prop} (h:EsO W lo v ls X) (hl:lo'≤lo):EsO W lo' v ls X:=let ⟨vs,h1,h2⟩:=h.ex;⟨vs,owns_le h1 hl,h2⟩
theorem owns_few7 {w:World} {base g n m c s:Nat} {e:TypeId} {xs:List Value} (h:w.ownsRow base e s (.slice (some ⟨g,0,none⟩) m c) m xs) (hn:n≤m):w.ownsRow base e s (.slice (some ⟨g,0,none⟩) n c) n (xs.take (n*s)):=by
 have hl:=h.1
 have hns:n*s≤m*s:=Nat.mul_le_mul_right _ hn
 refine ⟨by rw [List.length_take,hl];omega,?_⟩
 rcases h.2 with ⟨hv,_⟩|⟨g',cap,cur,hv',hbg,hg,hnc,hcm,hcs,ht⟩
 ·cases hv
 ·cases hv'
  exact .inr ⟨g,c,cur,rfl,hbg,hg,by omega,hcm,hcs,by rw [← ht,List.take_take,Nat.min_eq_left hns]⟩
theorem owns_setv7 {W:World} {base g n c:Nat} {e:TypeId} {xs:List Value} (h:W.ownsRow base e 1 (.slice (some ⟨g,0,none⟩) n c) n xs) (k:Nat) (hk:k<n) (u:Value) :
  (∃ v,W.cell? ⟨g,k,none⟩=some v)∧W.frozen? ⟨g,k,none⟩=false∧base≤g∧(W.setCell ⟨g,k,none⟩ u).ownsRow base e 1 (.slice (some ⟨g,0,none⟩) n c) n (xs.set k u):=by
 rcases h.2 with ⟨hv,_⟩|⟨g',cap,cur,hv,hb,hgg,h1,h2,h3,h4⟩
 ·cases hv
 ·cases hv
  have hg:Blk W g e cur:=hgg
  refine ⟨⟨cur[k]'(by omega),by rw [hg.cell,Array.getElem?_eq_getElem]⟩,hg.frozen k,hb,by rw [List.length_set];exact h.1,.inr ⟨g,c,cur.setIfInBounds k u,rfl,hb,hg.set_ k u,h1,h2,by rw [Array.size_setIfInBounds];exact h3,?_⟩⟩
  rw [← h4,Array.toList_setIfInBounds,List.take_set]
theorem EsO.less {W:World} {lo g n c:Nat} {ls:List (List UInt8)} {X:Nat→Prop} (h:EsO W lo (.slice (some ⟨g,0,none⟩) n c) ls X) (k:Nat) (hk:k≤ls.length):EsO W lo (.slice (some ⟨g,0,none⟩) k c) (ls.take k) X:=by
 obtain ⟨vs,h1,h2⟩:=h.ex
 obtain ⟨A,c',e,hs⟩:=owns_slv h1
 injection e with e1 e2 e3
 subst e2
 subst e3
 have hl:(ls.take k).length=k:=by rw [List.length_take];omega
 refine ⟨vs.take (k*1),by rw [hl];exact owns_few7 h1 hk,fun i hi=>?_⟩
 obtain ⟨Ai,ci,h3,h4⟩:=h2 i (by omega)
 have hg:(ls.take k)[i]=ls[i]'(by omega):=List.getElem_take
 rw [hg]
 exact ⟨Ai,ci,by rw [List.getElem?_take,if_pos (by omega)];exact h3,h4⟩
theorem EsO.set0 {W:World} {lo g n c:Nat} {ls:List (List UInt8)} {X:Nat→Prop} (h:EsO W lo (.slice (some ⟨g,0,none⟩) n c) ls X) (hn:0<ls.length) {A:Option Addr} {n' c':Nat} {l:List UInt8} (hl:Sl W X A n' c' l) (hX:∀ b,X b→b<lo) :
  (∃ u,W.cell? ⟨g,0,none⟩=some u)∧W.frozen? ⟨g,0,none⟩=false∧lo≤g∧EsO (W.setCell ⟨g,0,none⟩ (.slice A n' c')) lo (.slice (some ⟨g,0,none⟩) n c) (ls.set 0 l) X:=by
 obtain ⟨vs,h1,h2⟩:=h.ex
 obtain ⟨A',c'',e,hs⟩:=owns_slv h1
 injection e with e1 e2 e3
 subst e2
 subst e3
 obtain ⟨q1,q2,q3,q4⟩:=owns_setv7 h1 0 hn (.slice A n' c')
 refine ⟨q1,q2,q3,⟨vs.set 0 (.slice A n' c'),by rw [List.length_set];exact q4,fun i hi=>?_⟩⟩
 have hvl:vs.length=ls.length:=by have:=h1.1;omega
 have hi':i<ls.length:=by rw [List.length_set] at hi;exact hi
 have hne:∀ b,X b→b≠g:=fun b hb e=>by have:=hX b hb;omega
 have hk:KB (fun b=>b=g) W (W.setCell ⟨g,0,none⟩ (.slice A n' c')):=kb_cell (M:=fun b=>b=g) (KB.refl _ _) rfl 0 _
 by_cases h0:i=0
 ·subst h0
  have hln:=hl.len
  have hg:(ls.set 0 l)[0]=l:=List.getElem_set_self _
  rw [hg]
  refine ⟨A,c',?_,?_⟩
  ·rw [List.getElem?_set_self (by omega),hln]
  ·rw [hln];exact hk.slb hl fun b _ hb=>hne b hb
 ·have hg:(ls.set 0 l)[i]=ls[i]:=List.getElem_set_ne (fun e=>h0 e.symm) _
  rw [hg]
  obtain ⟨Ai,ci,h3,h4⟩:=h2 i hi'
  exact ⟨Ai,ci,by rw [List.getElem?_set_ne (fun e=>h0 e.symm)];exact h3,hk.slb h4 fun b _ hb=>hne b hb⟩
end Go.Proofs.YtdjhoankkddomaaGreat
