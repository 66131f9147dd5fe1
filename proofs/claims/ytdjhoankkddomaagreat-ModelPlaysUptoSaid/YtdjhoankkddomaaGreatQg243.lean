import Derived.Test.YtdjhoankkddomaaGreatQg242
import Derived.Test.YtdjhoankkddomaaGreatQg210
import Derived.Test.YtdjhoankkddomaaGreatQg241
namespace Go.Proofs.YtdjhoankkddomaaGreat
open Go Go.RowKit Go.Shelf
attribute [local go_sem] Oper.semAt_some
set_option maxHeartbeats 4000000 in
set_option maxRecDepth 100000 in
theorem rfsize_any (g:Nat) (ps:FrV) (w:World) (h:FrP w g ps) (ht:szF ps≤9223372036854775807):Calls Tryz.prog 92 #[fptr g] w fun e w'=>e = .returned (.int .i64 (szF ps:Int))∧w'=w:=by
 obtain ⟨A,n,c,hk,hP⟩:=h.ex
 have hlen:ps.length=n:=by rw [← hP.len,length_fpq]
 have hroom:=hP.sl.room
 have hmx:=hP.sl.max
 unfold maxLen at hmx
 obtain ⟨res,hres⟩:∃ r,szF ps=r:=⟨_,rfl⟩
 rw [hres]
 have Hres:=Lib.hid hres
 have Hlen:=Lib.hid hlen
 have Ht:=Lib.hid ht
 have c12:w.cell? ⟨g,0,none⟩=some (.slice A n c):=by rw [hk.cell];rfl
 clear hres hlen ht h hk
 go_enter Tryz.func92,Tryz.ntmps92
 go_wp2_with fail
 go_loopw [3,4] (fun v3 v4 wr=>∃ k:Nat,k≤n∧v4 = .int .i64 (k:Int)∧v3 = .int .i64 (szF (ps.take k):Int)∧wr=w) (fun _ v4 _=>n - (intOf v4).toNat)
 case atStart=>exact ⟨0,Nat.zero_le _,rfl,by rw [List.take_zero];rfl,rfl⟩
 case round =>
  obtain ⟨k,hk,rfl,rfl,rfl⟩:=hrel
  by_cases hkn:k<n
  ·have hd:decide ((k:Int)<(n:Int))=true:=by simp;omega
   have hwk:IntKind.i64.wrap ((k:Int)+1)=(k:Int)+1:=IntWalk.i64_in _ (by omega)
   obtain ⟨b,o,rfl,-,-⟩:=hP.at_ (by omega)
   have c26:=hP.num rfl k hkn
   rw [fpq_getD ps k (by rw [Hlen.out];exact hkn)] at c26
   have hst:=szF_take ps k (by rw [Hlen.out];exact hkn)
   have hle:=szF_take_le ps (k+1)
   have htp:=Ht.out
   replace c26:wr.cell? ⟨b,o+k*33,none⟩=some (.int .i64 ((2 ^ (ps.getD k (0,[])).1:Nat):Int)):=c26
   obtain ⟨pw,hpw⟩:∃ p,2 ^ (ps.getD k (0,[])).1=p:=⟨_,rfl⟩
   obtain ⟨a,ha⟩:∃ a,szF (ps.take k)=a:=⟨_,rfl⟩
   obtain ⟨a',ha'⟩:∃ a,szF (ps.take (k+1))=a:=⟨_,rfl⟩
   rw [hpw] at c26 hst
   rw [ha,ha'] at hst
   rw [ha'] at hle
   have hws:IntKind.i64.wrap ((a:Int)+(pw:Int))=(a':Int):=by rw [IntWalk.i64_in _ (by omega)];omega
   rw [ha]
   have Ha:=Lib.hid ha'
   clear hpw ha ha' hst hle htp
   go_wp2_with fail
   go_roundw
   case rel=>exact ⟨k+1,by omega,by go_num,by rw [Ha.out],by first|rfl|trivial⟩
   case measure=>simp [intOf] <;> omega
  ·obtain rfl:k=n:=by omega
   have hd:decide ((k:Int)<(k:Int))=false:=by simp
   rw [List.take_of_length_le (by rw [Hlen.out];exact Nat.le_refl _),Hres.out]
   go_wp2_with fail
   go_ret
   exact ⟨rfl,rfl⟩
end Go.Proofs.YtdjhoankkddomaaGreat
namespace Go.Proofs.YtdjhoankkddomaaGreat
open Go Go.RowKit Go.Shelf
attribute [local go_sem] Oper.semAt_some
theorem pow_inj {a b:Nat}:(2 ^ a=2 ^ b)↔a=b:=by
 constructor
 ·intro h
  rcases Nat.lt_trichotomy a b with h1|h1|h1
  ·have:=Nat.pow_lt_pow_right (a:=2) (by decide) h1;omega
  ·exact h1
  ·have:=Nat.pow_lt_pow_right (a:=2) (by decide) h1;omega
 ·rintro rfl;rfl
theorem run_slice_op_hiQ {ρ:Operand→Value} {o:Oper} (x y:Operand) (ho:o.op = .slice 127 x none (some y) none) (A:Option Addr) (n c k:Nat) (hx:ρ x = .slice A n c) (hy:ρ y = .int .i64 (k:Int)) (hk:k≤c) (W:World) :
  (execOp ρ o).run Tryz.prog W = .ok (.value (.slice A k c)) W:=by
 have h:=run_slice_high (P:=Tryz.prog) (t:=127) (s:=33) (by kernel_rfl) (fun _=>by kernel_rfl) A n c k hk W
 unfold execOp
 simp only [ho,hx,hy,Option.map_some,Option.map_none,Sem.run_bind,Sem.run_pure,h,Result.andThen_ok]
set_option maxRecDepth 100000 in
theorem wpList_boxsetG {T:TypeId} (hs:∀ w:World,(sizeOf T).run Tryz.prog w = .ok 33 w) {w:World} {ops:Array Oper} {rest:List Oper} {o2:Oper} {a:Act} {Q:Exit→Act→World→Prop} {g:Nat} {n n':Int} {l l':List UInt8} (x y:Operand) (hg2:o2.guard=none) (ho2:o2.op = .store T x y) (k:PcB w g T n' l')
  (hx:a.eval x = .pointer (some ⟨g,0,none⟩)) (hy:a.eval y = .agg (.int .i64 n::l.map B).toArray) (hl:l.length=32)
  (h:∀ W,PcB W g T n l→Below g w W→w.grownBy W (some g)→wpList Tryz.prog ops Q rest (a.put o2.dst undef) W):wpList Tryz.prog ops Q (o2::rest) a w :=
 wpList_store_blk hg2 T x y ho2 33 hs g (.int .i64 n::l.map B).toArray hx hy (by simp [hl]) (oneCell_pc n l) T _ k.blk (by simp [k.len])
  (h _ ⟨k.blk.setRow_ _,hl⟩ (below_setRow (Below.refl _ _) (Nat.le_refl _) _) (grown_setRow (grown_of_below (Below.refl _ _) _) _))
structure CmQ (w:World) (pb b1 g:Nat) (fs:Value) (l:FrV) (p:FpV) (v:Value) (W:World):Prop where
 own:W.ownsRow b1 154 33 v l.length (pccells (fpq l))
 box:PcB W pb 154 ((2 ^ p.1:Nat):Int) p.2
 obj:Blk W g 129 #[fs]
 bel:Below w.heap.size w W
 all:F32 l
theorem CmQ.step {w:World} {pb b1 g:Nat} {fs:Value} {l:FrV} {p:FpV} {v:Value} {W W':World} (h:CmQ w pb b1 g fs l p v W) (hb:Below W.heap.size W W'):CmQ w pb b1 g fs l p v W':=⟨owns_step h.own hb,h.box.step hb,h.obj.step hb,h.bel.trans (hb.mono h.bel.size),h.all⟩
set_option maxHeartbeats 4000000 in
set_option maxRecDepth 100000 in
theorem rfcome_any (g:Nat) (ps:FrV) (p:FpV) (w:World) (h:FrP w g ps) (hp:p.2.length=32) (ht:szF ps+2 ^ p.1≤9223372036854775807) (hn:ps.length≤1000000) :
  Calls Tryz.prog 93 #[.pointer (some ⟨g,0,none⟩),.agg (Value.int .i64 ((2 ^ p.1:Nat):Int)::p.2.map B).toArray] w fun e w'=>e = .returned (.tuple #[])∧FrP w' g (comeF ps p)∧w.grownBy w' (some g):=by
 have h32:=h.all
 obtain ⟨A,n,c,hk,hP⟩:=h.ex
 have hlen:ps.length=n:=by rw [← hP.len,length_fpq]
 obtain ⟨pw0,hpw0⟩:∃ x,2 ^ p.1=x:=⟨_,rfl⟩
 rw [hpw0]
 obtain ⟨w0,hw0⟩:∃ w0,w.alloc (.cells (Value.int .i64 (pw0:Int)::p.2.map B).toArray 154)=w0:=⟨_,rfl⟩
 have hb0:Below w.heap.size w w0:=by rw [← hw0];exact (Below.refl _ _).alloc (Nat.le_refl _) _
 have k3:PcB w0 w.heap.size 154 (pw0:Int) p.2:=⟨by rw [← hw0];exact Blk.new _ _ _,hp⟩
 have hkg:=hk.lt
 replace hk:=hk.step hb0
 replace hP:=hP.step hb0
 have hroom:=hP.sl.room
 have hmx:=hP.sl.max
 unfold maxLen at hmx
 obtain ⟨v,w1,hr1,ho,hg1,-⟩:=append_slv (ty:=127) Tryz.underlying127 infoPq (by simp [Value.cells]) (by decide) (World.ownsRow_nil w0 w0.heap.size 154 33:w0.ownsRow w0.heap.size 154 33 (.slice none 0 0) 0 []) hP.sl (onePc _) (by unfold maxLen;omega) (by omega) (Nat.le_refl _)
 have hb1:Below w0.heap.size w0 w1:=(Below.refl _ _).grown hg1 (Nat.le_refl _) (fun r e=>by cases e)
 rw [List.nil_append,Nat.zero_add] at ho
 obtain ⟨res,hres⟩:∃ r,comeF ps p=r:=⟨_,rfl⟩
 have hr32:F32 res:=by rw [← hres];exact F32_come ps p h32 hp
 rw [hres]
 have hC:CmQ w w.heap.size w0.heap.size g (.slice A n c) ps p v w1:=⟨by rw [hlen];exact ho,by rw [hpw0];exact k3.step hb1,hk.step hb1,hb0.trans (hb1.mono hb0.size),h32⟩
 have hbz:=k3.lt
 have hbs:=Nat.le_of_eq (show w0.heap.size=w.heap.size+1 by rw [← hw0];simp)
 have hlv:sliceLen v=ps.length:=by obtain ⟨A_,c_,rfl,-⟩:=owns_slv ho;exact hlen.symm
 have Hres:=Lib.hid hres
 have Hw0:=Lib.hid hw0
 have Hr1:=Lib.hid hr1
 have Hr32:=Lib.hid hr32
 have Ht:=Lib.hid ht
 have hnn:n≤1000000:=by omega
 have Hnn:=Lib.hid hn
 have c0:w0.cell? ⟨g,0,none⟩=some (.slice A n c):=by rw [hk.cell];rfl
 clear hpw0 hres hw0 hr1 hlen h32 hr32 hP h hp ht ho hb1 k3 hk hb0 hg1 hn
 go_enter Tryz.func93,Tryz.ntmps93
 go_wp2_with (first
  | rw [Hw0.out]
  | ((with_reducible show wpList _ _ _ (⟨some 9,.call _,_,_,_,_⟩::_) _ _);refine wpList_run rfl v w1 (run_append_op (.const (.slice none 0 0)) (.tmp 8) 127 rfl _ _ rfl rfl Hr1.out) ?_;simp only [Act.put]))
 clear c0 Hw0 Hr1
 go_loopw [4] (fun v4 wr=>∃ (l:FrV) (p:FpV) (v:Value),v=v4∧CmQ w w.heap.size w0.heap.size g (.slice A n c) l p v wr∧comeF l p=res∧szF l+2 ^ p.1≤9223372036854775807∧l.length≤1000000) (fun v4 _=>sliceLen v4)
 case atStart=>exact ⟨ps,p,_,rfl,hC,Hres.out,Ht.out,Hnn.out⟩
 case round =>
  clear hC hlv Hres Ht Hnn
  obtain ⟨l,p,v4,rfl,hC,hcm,htp,hle⟩:=hrel
  have c3:∀ s:InC (fun W=>Below wr.heap.size wr W),s.W.cell? ⟨w.heap.size,0,none⟩=some (.int .i64 ((2 ^ p.1:Nat):Int)):=fun s=>(hC.step s.ok).box.num
  have hp62:=hC.box.len
  obtain ⟨pw,hpw⟩:∃ x,2 ^ p.1=x:=⟨_,rfl⟩
  rw [hpw] at c3 htp
  have hbox:PcB wr w.heap.size 154 (pw:Int) p.2:=by rw [← hpw];exact hC.box
  have Hpw:=Lib.hid hpw
  have hpe:∀ l,fpq l++[((pw:Int),p.2)]=fpq (l++[p]):=fun l=>by rw [fpq_append,← hpw];rfl
  have Hpe:=Lib.hid hpe
  clear hpe hpw
  rcases snoc_cases l with rfl|⟨l',q,rfl⟩
  ·obtain ⟨A4,c4,rfl,-⟩:=owns_slv hC.own
   go_wp2_with fail
   have hS:Below wr.heap.size wr wr.drew:=(Below.refl _ _).drew
   refine wp_region_mix (fun W=>Below wr.heap.size wr W) [(0,true),(1,true),(2,true),(3,true),(4,true),(5,true),(6,true),(7,true),(8,true),(9,true),(10,true),(11,true),(12,true),(13,true),(14,true)] (by kernel_rfl) (by kernel_rfl) hS fun _=>?_
   simp only [List.map_cons,List.map_nil,Array.getD_eq_getD_getElem?,List.getElem?_toArray,List.getElem?_cons_succ,List.getElem?_cons_zero,Option.getD_some]
   generalize wr.drew=u2 at hS ⊢
   iterate 15 (refine wpMix_s (fun K hK=>?_);go_simp;refine hK _ ?_;clear hK K)
   refine wpMix_nil ?_
   intro _
   have hres6:res=[]++[p]:=by rw [← hcm,comeF_nil];rfl
   have hr32:F32 ([]++[p]):=by have h:=Hr32.out;rw [hres6] at h;exact h
   have hC6:=hC.step hS
   have hbox6:=hbox.step hS
   obtain ⟨v9,W9,hr9,ho9,hb9⟩:=append_pc (S:=127) Tryz.underlying127 infoPq (by rw [length_fpq];exact hC6.own:u2.ownsRow w0.heap.size 154 33 _ (fpq []).length (pccells (fpq []))) ((pw:Int),p.2) hbox6.len (by rw [length_fpq];simp) (Nat.le_trans hbs (Nat.le_trans hC.box.lt hS.size))
   have hbA:Below u2.heap.size u2 (u2.alloc (.cells (pccell ((pw:Int),p.2)).toArray 154)):=(Below.refl _ _).alloc (Nat.le_refl _) _
   have hkg9:=(hC6.obj.step hbA).below hb9 (Nat.lt_trans hkg hbz)
   have hbel9:=(hC6.bel.trans (hbA.mono hC6.bel.size)).trans (hb9.mono (Nat.le_of_lt hbz))
   have c5:u2.cell? ⟨g,0,none⟩=some (.slice A n c):=by rw [hC6.obj.cell];rfl
   rw [Hpe.out []] at ho9
   obtain ⟨n9,hn9⟩:∃ n,(fpq ([]++[p])).length=n:=⟨_,rfl⟩
   rw [hn9] at ho9
   obtain ⟨A9,c9,rfl,hs9⟩:=Pcs.of_owns ho9 hn9 (fpq_32 _ hr32)
   have hs9:=(hs9.weak (Y:=fun b=>w0.heap.size≤b) fun b _ hb=>hb.1)
   have Hr9:=Lib.hid hr9
   clear hr9 ho9 hn9
   go_wp2_with (first
    | ((with_reducible show wpList _ _ _ (⟨some 46,.load _ _,_,_,_,_⟩::_) _ _);refine wpList_run0 rfl (.agg (.int .i64 (pw:Int)::p.2.map B).toArray) (run_load_op 154 (.tmp 3) rfl _ 0 rfl _ (hbox6.load aggPq sizePq)) ?_;simp only [Act.put])
    | ((with_reducible show wpList _ _ _ (⟨some 47,.buildSlice _ _ _,_,_,_,_⟩::_) _ _);refine wpList_run rfl (.slice (some ⟨u2.heap.size,0,none⟩) 1 1) (u2.alloc (.cells (pccell ((pw:Int),p.2)).toArray 154)) (run_lit_oneF_op (x := .agg (pccell ((pw:Int),p.2)).toArray) Tryz.underlying127 infoPq (by simp [Value.cells,hbox6.len]) (by decide) (by decide) (.tmp 46) rfl rfl _) ?_;simp only [Act.put])
    | ((with_reducible show wpList _ _ _ (⟨some 48,.call _,_,_,_,_⟩::_) _ _);refine wpList_run rfl _ W9 (run_append_op (.tmp 45) (.tmp 47) 127 rfl _ _ rfl rfl Hr9.out) ?_;simp only [Act.put])
    | ((with_reducible show wpList _ _ _ [⟨none,.store _ _ _,_,_,_,_⟩] _ _);refine wpList_store_one rfl 127 (.tmp 50) (.tmp 48) rfl g rfl rfl 129 (.slice A n c) hkg9 (by kernel_rfl) ?_;show wpList _ _ _ _ _ (W9.setRow g #[Value.slice A9 n9 c9]);simp only [Act.put]))
   have hgr:W9.grownBy (W9.setRow g #[Value.slice A9 n9 c9]) (some g):=grown_setRow (grown_of_below (Below.refl _ _) _) _
   exact bodyPost_end (by exact results_none rfl _ _ _) rfl ⟨rfl,by rw [hres6];exact ⟨A9,_,c9,hkg9.setRow_ _,(hs9.grown hgr (fun b _ hb e=>by have h9:b=g:=Option.some.inj e;have h8:w0.heap.size≤b:=hb;omega)).weak fun _ _ _=>trivial⟩,grown_setRow (grown_of_below hbel9 _) _⟩
  ·have hl1:(l'++[q]).length=l'.length+1:=by simp
   have hq32:q.2.length=32:=hC.all q (List.mem_append_right _ (List.mem_singleton.2 rfl))
   have ho:=hC.own
   rw [hl1] at ho hle
   obtain ⟨k,hk⟩:∃ k,l'.length=k:=⟨_,rfl⟩
   rw [hk] at ho hle
   obtain ⟨gb,c4,rfl,hgb⟩:=owns_someB ho (by omega)
   obtain ⟨A_,c_,e,hsl⟩:=owns_slv ho
   have hP:Pcs wr (fun _=>True) (some ⟨gb,0,none⟩) (k+1) c4 (fpq (l'++[q])):=by injection e with e1 e2 e3;subst e1 e3;exact ⟨hsl.weak fun _ _ _=>trivial,by rw [length_fpq,hl1,hk],fpq_32 _ hC.all⟩
   have hnum:=fun W (hb:Below wr.heap.size wr W)=>(hP.step hb).num rfl k (Nat.lt_succ_self _)
   have hhs:=fun W (hb:Below wr.heap.size wr W)=>(hP.step hb).hash rfl k (Nat.lt_succ_self _)
   have hgq:(fpq (l'++[q])).getD k pcD=(((2 ^ q.1:Nat):Int),q.2):=by rw [fpq_append,List.getD_eq_getElem?_getD,List.getElem?_append_right (by rw [length_fpq,hk];exact Nat.le_refl _),length_fpq,hk,Nat.sub_self];rfl
   have hhs:∀ W,Below wr.heap.size wr W→(Instr.loadAt 53 (.pointer (some ⟨gb,k*33+1,none⟩))).run Tryz.prog W = .ok (.agg (q.2.map B).toArray) W:=fun W hb=>by have:=hhs W hb;rw [hgq,Nat.zero_add] at this;exact this
   have hnum:∀ W,Below wr.heap.size wr W→W.cell? ⟨gb,k*33,none⟩=some (.int .i64 ((2 ^ q.1:Nat):Int)):=fun W hb=>by have:=hnum W hb;rw [hgq,Nat.zero_add] at this;exact this
   have hroom:=hP.sl.room
   have hmx:=hP.sl.max
   unfold maxLen at hmx
   clear hsl hP hgq
   have Hk:=Lib.hid hk
   have hcl33:(pccells (fpq l')).length=k*33:=by rw [pccells_len _ (fpq_32 _ fun x hx=>hC.all x (List.mem_append_left _ hx)),length_fpq,hk]
   clear hk
   have hww:IntKind.i64.wrap ((k:Int)+1 - 1)=(k:Int):=by rw [IntWalk.i64_in _ (by omega)];omega
   have hww2:IntKind.i64.wrap ((((k+1:Nat)):Int) - 1)=(k:Int):=by rw [IntWalk.i64_in _ (by omega)];omega
   have hwk:IntKind.i64.wrap (k:Int)=(k:Int):=IntWalk.i64_in _ (by omega)
   have hkk:(k:Int)<(k:Int)+1:=by omega
   have hpos:decide ((0:Int)<(k:Int)+1)=true:=by rw [decide_eq_true_eq];omega
   have Hhs:=Lib.hid hhs
   rw [szF_append,szF_one] at htp
   have hinj:2 ^ q.1=pw↔q.1=p.1:=by rw [← Hpw.out];exact pow_inj
   obtain ⟨qw,hqw⟩:∃ x,2 ^ q.1=x:=⟨_,rfl⟩
   rw [hqw] at hnum htp hinj
   have c20:∀ s:InC (fun W=>Below wr.heap.size wr W),s.W.cell? ⟨gb,k*33,none⟩=some (.int .i64 (qw:Int)):=fun s=>hnum s.W s.ok
   clear hnum hhs
   by_cases hqp:q.1=p.1
   ·have heq1:qw=pw:=hinj.2 hqp
    subst heq1
    clear hinj
    have heq:((qw:Int)==(qw:Int))=true:=by simp
    go_wp2_with fail
    have hS:Below wr.heap.size wr wr.drew:=(Below.refl _ _).drew
    refine wp_region_mix (fun W=>Below wr.heap.size wr W) [(0,true),(1,true),(2,true),(3,true),(4,true),(5,true),(6,true),(7,true),(8,true),(9,true),(10,true),(11,true),(12,true),(13,true),(14,true)] (by kernel_rfl) (by kernel_rfl) hS fun _=>?_
    simp only [List.map_cons,List.map_nil,Array.getD_eq_getD_getElem?,List.getElem?_toArray,List.getElem?_cons_succ,List.getElem?_cons_zero,Option.getD_some]
    generalize wr.drew=u2 at hS ⊢
    iterate 15 (refine wpMix_s (fun K hK=>?_);go_simp;refine hK _ ?_;clear hK K)
    refine wpMix_nil ?_
    intro _
    go_wp2_with fail
    have hC3:=hC.step hS
    have hbox3:=hbox.step hS
    have c26:∀ s:InC (fun W=>Below u2.heap.size u2 W),s.W.cell? ⟨w.heap.size,0,none⟩=some (.int .i64 (qw:Int)):=fun s=>(hbox3.step s.ok).num
    have hw2:IntKind.i64.wrap (2*(qw:Int))=((2*qw:Nat):Int):=by rw [IntWalk.i64_in _ (by omega)];omega
    have hzl:=length_hNode q.2 p.2
    have hnode:=fun W=>hrnode_any q.2 p.2 W hq32 hbox3.len
    obtain ⟨z,hz⟩:∃ z,hNode q.2 p.2=z:=⟨_,rfl⟩
    rw [hz] at hzl hnode
    have hS3:Below u2.heap.size u2 u2.drew:=(Below.refl _ _).drew
    refine wp_region_mix_tail (fun W=>Below u2.heap.size u2 W) 14 [(0,true),(1,true),(2,true),(3,true),(4,true),(5,true),(6,true),(7,true),(8,true),(9,true),(10,true),(11,true),(12,false),(13,true)] (by kernel_rfl) (by kernel_rfl) hS3 fun _=>?_
    simp only [List.map_cons,List.map_nil,Array.getD_eq_getD_getElem?,List.getElem?_toArray,List.getElem?_cons_succ,List.getElem?_cons_zero,Option.getD_some]
    generalize u2.drew=u3 at hS3 ⊢
    iterate 9 (refine wpMix_s (fun K hK=>?_);go_simp;refine hK _ ?_;clear hK K)
    refine wpMix_load (by kernel_rfl) 53 (.tmp 33) rfl (gb) (k*33+1) rfl (q.2.map B).toArray ((fun s=>Hhs.out s.W (hS.trans (s.ok.mono hS.size)))) ?_
    simp only [Act.put]
    (refine wpMix_s (fun K hK=>?_);go_simp;refine hK _ ?_;clear hK K)
    refine wpMix_load (by kernel_rfl) 53 (.tmp 35) rfl (w.heap.size) (1) rfl (p.2.map B).toArray ((fun s=>(hbox3.step s.ok).hash)) ?_
    simp only [Act.put]
    refine wpMix_c (fun K hK=>?_) hS3
    go_simp
    refine (hnode u3).mono ?_
    rintro e u3_1 ⟨rfl,hb'⟩
    refine hK _ _ ?_
    clear hK K
    replace hS3:=hS3.trans (hb'.mono hS3.size)
    refine ⟨hS3,?_⟩
    clear hb'
    refine wpMix_v (by kernel_rfl) (.agg (Value.int .i64 ((2*qw:Nat):Int)::z.map B).toArray) ((fun s=>run_build_pq_op ((2*qw:Nat):Int) z hzl (.tmp 27) (.tmp 37) rfl rfl rfl s.W)) ?_
    simp only [Act.put]
    refine wpMix_nil ?_
    intro _
    simp only [List.drop_succ_cons,List.drop_zero]
    have hC4:=hC3.step hS3
    have hbox4:=hbox3.step hS3
    refine wpList_boxsetG sizePq (.tmp 3) (.tmp 38) rfl rfl hbox4 rfl rfl hzl ?_
    intro U4 kp4 hb4 hgr4
    simp only [Act.put]
    go_wp2_with fail
    refine np_normal ?_
    go_wp2_with ((with_reducible show wpList _ _ _ (⟨some 43,.slice _ _ _ _ _,_,_,_,_⟩::_) _ _);refine wpList_run0 rfl (.slice (some ⟨gb,0,none⟩) k c4) (run_slice_op_hiQ (.tmp 39) (.tmp 42) rfl (some ⟨gb,0,none⟩) (k+1) c4 k rfl rfl (by omega) _) ?_;simp only [Act.put])
    go_roundw
    case rel =>
     have ho4:=(owns_step (owns_step (owns_fewerF ho (Nat.le_succ k)) hS) hS3).kept hgr4 (.inr fun e=>by have h9:gb=w.heap.size:=Option.some.inj e;omega)
     rw [fpq_append,pccells_append,show (pccells (fpq l')++pccells (fpq [q])).take (k*33)=pccells (fpq l') by rw [List.take_append_of_le_length (by rw [hcl33];exact Nat.le_refl _),List.take_of_length_le (by rw [hcl33];exact Nat.le_refl _)]] at ho4
     have e2:2 ^ (p.1+1)=2*qw:=by rw [Nat.pow_succ,Hpw.out,Nat.mul_comm]
     refine ⟨l',(p.1+1,z),_,rfl,⟨by rw [Hk.out];exact ho4,?_,hC4.obj.below hb4 hkg,hC4.bel.trans hb4,fun x hx=>hC.all x (List.mem_append_left _ hx)⟩,by rw [← hcm,comeF_step l' q p hqp,hz],by show szF l'+2 ^ (p.1+1)≤_;rw [e2];omega,by rw [Hk.out];omega⟩
     show PcB _ _ _ ((2 ^ (p.1+1):Nat):Int) z
     rw [e2]
     exact kp4
    case measure=>simp [sliceLen]
   ·have hqn:¬ qw=pw:=fun e=>hqp (hinj.1 e)
    have heq:((qw:Int)==(pw:Int))=false:=by simp;omega
    go_wp2_with fail
    have hS:Below wr.heap.size wr wr.drew:=(Below.refl _ _).drew
    refine wp_region_mix (fun W=>Below wr.heap.size wr W) [(0,true),(1,true),(2,true),(3,true),(4,true),(5,true),(6,true),(7,true),(8,true),(9,true),(10,true),(11,true),(12,true),(13,true),(14,true)] (by kernel_rfl) (by kernel_rfl) hS fun _=>?_
    simp only [List.map_cons,List.map_nil,Array.getD_eq_getD_getElem?,List.getElem?_toArray,List.getElem?_cons_succ,List.getElem?_cons_zero,Option.getD_some]
    generalize wr.drew=u2 at hS ⊢
    iterate 15 (refine wpMix_s (fun K hK=>?_);go_simp;refine hK _ ?_;clear hK K)
    refine wpMix_nil ?_
    intro _
    have hres6:res=l'++[q]++[p]:=by rw [← hcm,comeF_stop l' q p hqp]
    have hr32:F32 (l'++[q]++[p]):=by have h:=Hr32.out;rw [hres6] at h;exact h
    have hC6:=hC.step hS
    have hbox6:=hbox.step hS
    obtain ⟨v9,W9,hr9,ho9,hb9⟩:=append_pc (S:=127) Tryz.underlying127 infoPq (by rw [length_fpq];exact hC6.own:u2.ownsRow w0.heap.size 154 33 _ (fpq (l'++[q])).length (pccells (fpq (l'++[q])))) ((pw:Int),p.2) hbox6.len (by rw [length_fpq];rw [hl1,Hk.out];omega) (Nat.le_trans hbs (Nat.le_trans hC.box.lt hS.size))
    have hbA:Below u2.heap.size u2 (u2.alloc (.cells (pccell ((pw:Int),p.2)).toArray 154)):=(Below.refl _ _).alloc (Nat.le_refl _) _
    have hkg9:=(hC6.obj.step hbA).below hb9 (Nat.lt_trans hkg hbz)
    have hbel9:=(hC6.bel.trans (hbA.mono hC6.bel.size)).trans (hb9.mono (Nat.le_of_lt hbz))
    have c5:u2.cell? ⟨g,0,none⟩=some (.slice A n c):=by rw [hC6.obj.cell];rfl
    rw [Hpe.out (l'++[q])] at ho9
    obtain ⟨n9,hn9⟩:∃ n,(fpq ((l'++[q])++[p])).length=n:=⟨_,rfl⟩
    rw [hn9] at ho9
    obtain ⟨A9,c9,rfl,hs9⟩:=Pcs.of_owns ho9 hn9 (fpq_32 _ hr32)
    have hs9:=(hs9.weak (Y:=fun b=>w0.heap.size≤b) fun b _ hb=>hb.1)
    have Hr9:=Lib.hid hr9
    clear hr9 ho9 hn9
    go_wp2_with (first
     | ((with_reducible show wpList _ _ _ (⟨some 46,.load _ _,_,_,_,_⟩::_) _ _);refine wpList_run0 rfl (.agg (.int .i64 (pw:Int)::p.2.map B).toArray) (run_load_op 154 (.tmp 3) rfl _ 0 rfl _ (hbox6.load aggPq sizePq)) ?_;simp only [Act.put])
     | ((with_reducible show wpList _ _ _ (⟨some 47,.buildSlice _ _ _,_,_,_,_⟩::_) _ _);refine wpList_run rfl (.slice (some ⟨u2.heap.size,0,none⟩) 1 1) (u2.alloc (.cells (pccell ((pw:Int),p.2)).toArray 154)) (run_lit_oneF_op (x := .agg (pccell ((pw:Int),p.2)).toArray) Tryz.underlying127 infoPq (by simp [Value.cells,hbox6.len]) (by decide) (by decide) (.tmp 46) rfl rfl _) ?_;simp only [Act.put])
     | ((with_reducible show wpList _ _ _ (⟨some 48,.call _,_,_,_,_⟩::_) _ _);refine wpList_run rfl _ W9 (run_append_op (.tmp 45) (.tmp 47) 127 rfl _ _ rfl rfl Hr9.out) ?_;simp only [Act.put])
     | ((with_reducible show wpList _ _ _ [⟨none,.store _ _ _,_,_,_,_⟩] _ _);refine wpList_store_one rfl 127 (.tmp 50) (.tmp 48) rfl g rfl rfl 129 (.slice A n c) hkg9 (by kernel_rfl) ?_;show wpList _ _ _ _ _ (W9.setRow g #[Value.slice A9 n9 c9]);simp only [Act.put]))
    have hgr:W9.grownBy (W9.setRow g #[Value.slice A9 n9 c9]) (some g):=grown_setRow (grown_of_below (Below.refl _ _) _) _
    exact bodyPost_end (by exact results_none rfl _ _ _) rfl ⟨rfl,by rw [hres6];exact ⟨A9,_,c9,hkg9.setRow_ _,(hs9.grown hgr (fun b _ hb e=>by have h9:b=g:=Option.some.inj e;have h8:w0.heap.size≤b:=hb;omega)).weak fun _ _ _=>trivial⟩,grown_setRow (grown_of_below hbel9 _) _⟩
end Go.Proofs.YtdjhoankkddomaaGreat
namespace Go.Proofs.YtdjhoankkddomaaGreat
open Go Go.RowKit Go.Shelf
attribute [local go_sem] Oper.semAt_some
theorem rfcome_one (g:Nat) (ps:FrV) (x:List UInt8) (w:World) (h:FrP w g ps) (hx:x.length=32) (ht:szF ps+1≤9223372036854775807) (hn:ps.length≤1000000) :
  Calls Tryz.prog 93 #[.pointer (some ⟨g,0,none⟩),.agg (Value.int .i64 1::x.map B).toArray] w fun e w'=>e = .returned (.tuple #[])∧FrP w' g (comeF ps (0,x))∧w.grownBy w' (some g) :=
 rfcome_any g ps (0,x) w h hx ht hn
theorem Es.grownF {w w':World} {X:Nat→Prop} {A:Option Addr} {n c:Nat} {ls:List (List UInt8)} {row:Option Nat} (h:Es w X A n c ls) (hg:w.grownBy w' row) (hX:∀ b,b<w.heap.size→X b→some b≠row):Es w' X A n c ls :=
 let ⟨vs,h1,h2⟩:=h.ex;⟨⟨vs,h1.grown hg hX,fun i hi=>let ⟨Ai,ci,g1,g2⟩:=h2 i hi;⟨Ai,ci,g1,g2.grown hg hX⟩⟩,h.len⟩
set_option maxHeartbeats 4000000 in
set_option maxRecDepth 100000 in
theorem rfappend_any (g:Nat) (ps:FrV) (es:List (List UInt8)) (A:Option Addr) (n c:Nat) (w:World) (h:FrP w g ps) (ho:FrOk ps) (hh:Es w (·≠g) A n c es) (hn:n≤100000000) :
  Calls Tryz.prog 71 #[fptr g,.slice A n c] w fun e w'=>e = .returned (.int .i64 (appendE ps es).2)∧FrP w' g (appendE ps es).1∧w.grownBy w' (some g):=by
 have hlen:=hh.len
 have hroom:=hh.room
 have hmx:=hh.max
 unfold maxLen at hmx
 have Ho:=Lib.hid ho
 have Hlen:=Lib.hid hlen
 have htop:=ho.top
 have hsz:=rfsize_any g ps w h htop
 obtain ⟨sz,hsze⟩:∃ s,szF ps=s:=⟨_,rfl⟩
 rw [hsze] at hsz htop
 have Hsz:=Lib.hid hsz
 have hw1:IntKind.i64.wrap (9223372036854775807 - (sz:Int))=9223372036854775807 - (sz:Int):=IntWalk.i64_in _ (by omega)
 obtain ⟨res,hres⟩:∃ r,appendE ps es=r:=⟨_,rfl⟩
 rw [hres]
 have Hres:=Lib.hid hres
 have Hsze:=Lib.hid hsze
 clear ho hlen hsz hres hsze
 go_enter Tryz.func71,Tryz.ntmps71
 go_wp2_with fail
 go_loopw [5] (fun v5 wr=>∃ k:Nat,k≤n∧v5 = .int .i64 k∧wr=w∧longE (es.take k)=false) (fun v5 _=>n - (intOf v5).toNat)
 case atStart=>exact ⟨0,Nat.zero_le _,rfl,rfl,rfl⟩
 case round =>
  obtain ⟨k,hk,rfl,hww,hlg⟩:=hrel
  obtain rfl:=hww.symm
  by_cases hlt:k<n
  ·have hd:decide ((k:Int)<(n:Int))=true:=by simp;omega
   have hwk:IntKind.i64.wrap ((k:Int)+1)=(k:Int)+1:=IntWalk.i64_in _ (by omega)
   have hkl:k<es.length:=by rw [Hlen.out];exact hlt
   have Hh:=Lib.hid hh
   obtain ⟨b,o,rfl,-,-,hat⟩:=hh.at_ (by omega)
   obtain ⟨Ai,ci,hce,hsl⟩:=hat k hlt
   have hsn:=longE_snoc es k hkl
   rw [hlg,Bool.false_or] at hsn
   have hmx2:=hsl.max
   have hrm:=hsl.room
   unfold maxLen at hmx2
   clear hsl hat hh
   obtain ⟨x,hx⟩:∃ x,es.getD k []=x:=⟨_,rfl⟩
   rw [hx] at hce hsn hrm
   obtain ⟨m,hm⟩:∃ m,x.length=m:=⟨_,rfl⟩
   rw [hm] at hce hsn hrm
   have Hsn:=Lib.hid hsn
   clear hm hx hsn hlg
   by_cases hlong:4096<m
   ·have hd2:decide ((4096:Int)<(m:Int))=true:=by simp;omega
    have hd2':(4096:Int)<(m:Int):=by omega
    go_wp2_with fail
    have hE:longE es=true:=longE_of_take es (k+1) (by rw [Hsn.out];simpa using hlong)
    have hA:appendE ps es=(ps,3):=by unfold appendE;exact if_pos hE
    have hr:res=(ps,3):=by rw [← Hres.out,hA]
    go_ret
    rw [hr]
    exact ⟨rfl,h,grown_refl _ _⟩
   ·have hd2:decide ((4096:Int)<(m:Int))=false:=by simp;omega
    have hd2':¬ (4096:Int)<(m:Int):=by omega
    go_wp2_with fail
    go_roundw
    case rel=>exact ⟨k+1,by omega,by go_num,by first|rfl|trivial,by rw [Hsn.out];simpa using hlong⟩
    case measure=>simp [intOf];omega
  ·obtain rfl:k=n:=by omega
   have hd:decide ((k:Int)<(k:Int))=false:=by simp
   rw [List.take_of_length_le (by rw [Hlen.out];exact Nat.le_refl _)] at hlg
   have hA:appendE ps es=leafE ps (es.map hLeaf):=by unfold appendE;exact if_neg (by show ¬ longE es=true;rw [hlg];simp)
   have hr:=Hres.out
   rw [hA] at hr
   unfold leafE at hr
   rw [Hsze.out,List.length_map,Hlen.out] at hr
   clear hA
   by_cases hb:9223372036854775807<sz+k
   ·rw [if_pos hb] at hr
    have hd1:decide (9223372036854775807 - (sz:Int)<(k:Int))=true:=by simp;omega
    have hd1':9223372036854775807 - (sz:Int)<(k:Int):=by omega
    go_wp2_with (go_at_call 92;refine Hsz.out.mono ?_;rintro e w1 ⟨rfl,hww⟩;obtain rfl:=hww.symm)
    go_ret
    rw [← hr]
    exact ⟨rfl,h,grown_refl _ _⟩
   ·rw [if_neg hb] at hr
    have hd1:decide (9223372036854775807 - (sz:Int)<(k:Int))=false:=by simp;omega
    have hd1':¬ 9223372036854775807 - (sz:Int)<(k:Int):=by omega
    have Hr:=Lib.hid hr
    have hlgs:∀ x ∈ es,x.length≤4096:=fun x hx=>by
     have:∀ x ∈ es,¬ 4096<x.length:=by unfold longE at hlg;simpa using hlg
     have:=this x hx
     omega
    have Hlgs:=Lib.hid hlgs
    clear hr hlg hlgs
    go_wp2_with (go_at_call 92;refine Hsz.out.mono ?_;rintro e w1 ⟨rfl,hww⟩;obtain rfl:=hww.symm)
    clear hd hd1 hd1' hw1
    have hh1:=hh.weak (Y:=fun b=>b≠g∧b<w.heap.size) fun b hb hx=>⟨hx,hb⟩
    clear hh
    go_loopw [6] (fun v6 wr=>∃ q:Nat,q≤k∧v6 = .int .i64 q∧FrP wr g (leafF ps ((es.take q).map hLeaf))∧w.grownBy wr (some g)∧Es wr (fun b=>b≠g∧b<w.heap.size) A k c es) (fun v6 _=>k - (intOf v6).toNat)
    case atStart=>exact ⟨0,Nat.zero_le _,rfl,h,grown_refl _ _,hh1⟩
    case round =>
     clear h hh1
     obtain ⟨q,hq,rfl,hF,hg,hH⟩:=hrel
     by_cases hlt:q<k
     ·have hd:decide ((q:Int)<(k:Int))=true:=by simp;omega
      have hwk:IntKind.i64.wrap ((q:Int)+1)=(q:Int)+1:=IntWalk.i64_in _ (by omega)
      have Hh2:=Lib.hid hH
      obtain ⟨b,o,rfl,-,-,hat⟩:=hH.at_ (by omega)
      obtain ⟨Ai,ci,hce,hsl⟩:=hat q hlt
      have hql:q<es.length:=by rw [Hlen.out];exact hlt
      have hsn:=leafF_snoc ps ((es.take q).map hLeaf) (hLeaf (es.getD q []))
      rw [← map_take_snoc es q hql] at hsn
      have hok:=Ho.out.leafF ((es.take q).map hLeaf) (fun x hx=>h32_leaves _ x hx) (by rw [Hsze.out,List.length_map,List.length_take,Hlen.out];omega)
      have hst:szF (leafF ps ((es.take q).map hLeaf))=sz+q:=by rw [szF_leaf,Hsze.out,List.length_map,List.length_take,Hlen.out];omega
      have hxl:(es.getD q []).length≤4096:=by
       rw [List.getD_eq_getElem?_getD,List.getElem?_eq_getElem hql]
       exact Hlgs.out _ (List.getElem_mem hql)
      have hleaf:=hrleaf_any (es.getD q []) Ai (es.getD q []).length ci wr hsl.all (by omega)
      have hyl:=length_hLeaf (es.getD q [])
      obtain ⟨y,hy⟩:∃ y,hLeaf (es.getD q [])=y:=⟨_,rfl⟩
      obtain ⟨cur,hcur⟩:∃ x,leafF ps ((es.take q).map hLeaf)=x:=⟨_,rfl⟩
      rw [hy] at hleaf hyl hsn
      rw [hcur] at hsn hok hF hst
      obtain ⟨m,hm⟩:∃ m,(es.getD q []).length=m:=⟨_,rfl⟩
      rw [hm] at hleaf hce
      have hcm:=fun W (hb:Below wr.heap.size wr W)=>rfcome_one g cur y W (hF.step hb) hyl (by omega) (by have:=hok.len;omega)
      have Hlf:=Lib.hid hleaf
      have Hsn:=Lib.hid hsn
      have Hcm:=Lib.hid hcm
      clear hleaf hsn hcm hcur hok hst hy hm hsl hat hH hxl
      go_wp2_with (first
       | (go_at_call 84;refine Hlf.out.mono ?_;rintro e w3 ⟨rfl,hb3⟩)
       | ((with_reducible show wpList _ _ _ (⟨some 39,.build _ _,_,_,_,_⟩::_) _ _);refine wpList_run0 rfl (.agg (Value.int .i64 1::y.map B).toArray) (run_build_pq_op 1 y hyl (.const (.int .i64 1)) (.tmp 38) rfl rfl rfl _) ?_;simp only [Act.put])
       | (go_at_call 93;refine (Hcm.out w3 hb3).mono ?_;rintro e w4 ⟨rfl,hF4,hg4⟩))
      go_roundw
      case rel=>exact ⟨q+1,by omega,by go_num,by rw [Hsn.out];exact hF4,grown_same (grown_same hg (grown_of_below hb3 (some g))) hg4,(Hh2.out.step hb3).grownF hg4 (fun b _ hx e=>hx.1 (Option.some.inj e))⟩
      case measure=>simp [intOf];omega
     ·obtain rfl:q=k:=by omega
      have hd:decide ((q:Int)<(q:Int))=false:=by simp
      rw [List.take_of_length_le (by rw [Hlen.out];exact Nat.le_refl _)] at hF
      go_wp2_with fail
      go_ret
      rw [← Hr.out]
      exact ⟨rfl,hF,hg⟩
end Go.Proofs.YtdjhoankkddomaaGreat
namespace Go.Proofs.YtdjhoankkddomaaGreat
open Go Go.RowKit Go.Shelf
attribute [local go_sem] Oper.semAt_some
end Go.Proofs.YtdjhoankkddomaaGreat
