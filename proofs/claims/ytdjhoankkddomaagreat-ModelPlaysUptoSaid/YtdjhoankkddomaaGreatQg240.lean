import Derived.Test.YtdjhoankkddomaaGreatQg239
import Derived.Test.YtdjhoankkddomaaGreatQg210
import Derived.Test.YtdjhoankkddomaaGreatQg233
namespace Go.Proofs.YtdjhoankkddomaaGreat
open Go Go.RowKit Go.Shelf
attribute [local go_sem] Oper.semAt_some
structure PcB (W:World) (g:Nat) (T:TypeId) (n:Int) (l:List UInt8):Prop where
 blk:Blk W g T (Value.int .i64 n::l.map B).toArray
 len:l.length=32
section
variable {W W':World} {g:Nat} {T:TypeId} {n:Int} {l:List UInt8}
theorem PcB.step (h:PcB W g T n l) (hb:Below W.heap.size W W'):PcB W' g T n l:=⟨h.blk.step hb,h.len⟩
theorem PcB.lt (h:PcB W g T n l):g<W.heap.size:=h.blk.lt
theorem PcB.num (h:PcB W g T n l):W.cell? ⟨g,0,none⟩=some (.int .i64 n):=by rw [h.blk.cell];rfl
theorem PcB.hash (h:PcB W g T n l):(Instr.loadAt 53 (.pointer (some ⟨g,1,none⟩))).run Tryz.prog W = .ok (.agg (l.map B).toArray) W :=
 run_load_agg (agg26 _) (size26 _) g 1 (l.map B) (by simp [h.len]) fun j u hu=>by
  rw [h.blk.cell,List.getElem?_toArray,show 1+j=j+1 by omega,List.getElem?_cons_succ]
  exact hu
theorem PcB.load {T':TypeId} (hT:∀ w:World,(isAgg T').run Tryz.prog w = .ok true w) (hs:∀ w:World,(sizeOf T').run Tryz.prog w = .ok 33 w) (h:PcB W g T n l):(Instr.loadAt T' (.pointer (some ⟨g,0,none⟩))).run Tryz.prog W = .ok (.agg (.int .i64 n::l.map B).toArray) W :=
 run_load_blk (hT _) (hs _) g _ (by simp [h.len]) h.blk
theorem PcB.setHash {z:List UInt8} (k:PcB W g T n z) (hl:l.length=32):∃ W',W.setRow g (((Value.int .i64 n::z.map B).toArray).toList.take 1++(l.map B).toArray.toList++((Value.int .i64 n::z.map B).toArray).toList.drop (1+32)).toArray=W'∧PcB W' g T n l∧Below g W W':=by
 refine ⟨_,rfl,⟨?_,hl⟩,below_setRow (Below.refl _ _) (Nat.le_refl _) _⟩
 have e:(((Value.int .i64 n::z.map B).toArray).toList.take 1++(l.map B).toArray.toList++((Value.int .i64 n::z.map B).toArray).toList.drop (1+32))=Value.int .i64 n::l.map B:=by
  have:(z.map B).drop 32=[]:=List.drop_of_length_le (by rw [List.length_map,k.len];exact Nat.le_refl _)
  simp [this]
 rw [e]
 exact k.blk.setRow_ _
theorem PcB.setNum (k:PcB W g T n l) (m:Int):PcB (W.setCell ⟨g,0,none⟩ (.int .i64 m)) g T m l:=⟨by have:=k.blk.set_ 0 (.int .i64 m);simpa using this,k.len⟩
theorem below_setNum (_k:PcB W g T n l) (m:Int):Below g W (W.setCell ⟨g,0,none⟩ (.int .i64 m)):=(Below.refl g W).setCell (p:=⟨g,0,none⟩) (Nat.le_refl g) _
end
theorem owns_someB {W:World} {base:Nat} {e s:TypeId} {v:Value} {n:Nat} {xs:List Value} (h:W.ownsRow base e s v n xs) (hn:0<n):∃ g c,v = .slice (some ⟨g,0,none⟩) n c∧base≤g:=by
 rcases h.2 with ⟨_,h0⟩|⟨g,cap,cur,hv,hg,_⟩
 ·omega
 ·exact ⟨g,cap,hv,hg⟩
theorem owns_fewerF {w:World} {base g n m c s:Nat} {e:TypeId} {xs:List Value} (h:w.ownsRow base e s (.slice (some ⟨g,0,none⟩) m c) m xs) (hn:n≤m) :
  w.ownsRow base e s (.slice (some ⟨g,0,none⟩) n c) n (xs.take (n*s)):=by
 have hl:=h.1
 have hns:n*s≤m*s:=Nat.mul_le_mul_right _ hn
 refine ⟨by rw [List.length_take,hl];omega,?_⟩
 rcases h.2 with ⟨hv,_⟩|⟨g',cap,cur,hv',hbg,hg,hnc,hcm,hcs,ht⟩
 ·cases hv
 ·cases hv'
  exact .inr ⟨g,c,cur,rfl,hbg,hg,by omega,hcm,hcs,by rw [← ht,List.take_take,Nat.min_eq_left hns]⟩
theorem run_lit_oneF {P:Program} {t e:TypeId} {z x:Value} {size bytes:Nat} (hu:P.underlying t=some (.slice e)) (hinfo:(P.info? e).map (fun i=>(i.zero,i.size,i.bytes))=some (some z,size,bytes)) (hx:x.cells.size=size) (h0:0<size) (h1:size≤1000) (W:World) :
  (Instr.buildSlice t 1 #[(0,x)]).run P W = .ok (.slice (some ⟨W.heap.size,0,none⟩) 1 1) (W.alloc (.cells x.cells e)):=by
 obtain ⟨i,hi⟩:∃ i,P.info? e=some i:=by
  cases h:P.info? e with
  | none=>rw [h] at hinfo;cases hinfo
  | some i=>exact ⟨i,rfl⟩
 rw [hi] at hinfo
 have hz:i.zero=some z:=congrArg Prod.fst (Option.some.inj hinfo)
 have hs:i.size=size:=congrArg (fun x=>x.2.1) (Option.some.inj hinfo)
 refine run_buildSlice (P:=P) W t e 1 _ x.cells i z hu hi hz (by rw [hs];omega) (by rw [hs];omega) ?_
 have hc:∀ v ∈ [x],v.cells.size=size:=fun v hv=>by rw [List.mem_singleton.1 hv];exact hx
 have hp:(#[(0,x)]:Array (Nat × Value)).toList=([x].zipIdx 0).map fun x=>(x.2,x.1):=rfl
 rw [hp,hs,Great.fill_whole h0 _ _ hc (by simp)]
 simp
theorem run_lit_oneF_op {P:Program} {ρ:Operand→Value} {o:Oper} {t e:TypeId} {z x:Value} {size bytes:Nat} (hu:P.underlying t=some (.slice e)) (hinfo:(P.info? e).map (fun i=>(i.zero,i.size,i.bytes))=some (some z,size,bytes)) (hx:x.cells.size=size) (h0:0<size) (h1:size≤1000)
  (y:Operand) (ho:o.op = .buildSlice t 1 #[(0,y)]) (hy:ρ y=x) (W:World):(execOp ρ o).run P W = .ok (.value (.slice (some ⟨W.heap.size,0,none⟩) 1 1)) (W.alloc (.cells x.cells e)):=by
 unfold execOp
 have hm:(#[(0,y)]:Array (Nat × Operand)).map (fun (i,x)=>(i,ρ x))=#[(0,x)]:=by simp [hy]
 simp only [ho,Sem.run_bind,Sem.run_pure,hm,run_lit_oneF hu hinfo hx h0 h1 W,Result.andThen_ok]
theorem append_pc {T S:TypeId} {w:World} {base:Nat} {v:Value} {l:List PcV} (hu:Tryz.prog.underlying S=some (.slice T)) (hinfo:(Tryz.prog.info? T).map (fun i=>(i.zero,i.size,i.bytes))=some (some (.agg (.int .i64 0::(List.replicate 32 (0:UInt8)).map B).toArray),33,40))
  (h:w.ownsRow base T 33 v l.length (pccells l)) (x:PcV) (hx:x.2.length=32) (hn:l.length≤2199023255552) (hb:base≤w.heap.size) :
  ∃ v' w',(Builtin.append_ #[S,S] S #[v,.slice (some ⟨w.heap.size,0,none⟩) 1 1]).run Tryz.prog (w.alloc (.cells (pccell x).toArray T)) = .ok v' w' ∧
   w'.ownsRow base T 33 v' (l++[x]).length (pccells (l++[x]))∧Below base (w.alloc (.cells (pccell x).toArray T)) w':=by
 have hbA:Below w.heap.size w (w.alloc (.cells (pccell x).toArray T)):=(Below.refl _ _).alloc (Nat.le_refl _) _
 have hl:(pccell x).length=33:=by simp [hx]
 have hsl:SlV (w.alloc (.cells (pccell x).toArray T)) (fun _=>True) (some ⟨w.heap.size,0,none⟩) 1 1 33 (pccell x):=SlV.lit w _ T (pccell x) (by rw [hl]) (by unfold maxLen;decide) trivial
 have h1:∀ u ∈ pccell x,u.oneCell'=true:=fun u hu=>oneCell_pc x.1 x.2 u hu
 have ho:=owns_step h hbA
 obtain ⟨v',w',hr,ho',hg,-⟩:=append_slv (ty:=S) hu hinfo (by simp [Value.cells]) (by decide) ho hsl h1 (by unfold maxLen;omega) (by omega) (Nat.le_trans hb hbA.size)
 refine ⟨v',w',hr,by rw [List.length_append,pccells_append];simpa [pccells] using ho',(Below.refl _ _).grown hg (Nat.le_trans hb hbA.size) fun r e=>(ho.lt r e).1⟩
theorem run_slice_op_hiP {ρ:Operand→Value} {o:Oper} (x y:Operand) (ho:o.op = .slice 140 x none (some y) none) (A:Option Addr) (n c k:Nat) (hx:ρ x = .slice A n c) (hy:ρ y = .int .i64 (k:Int)) (hk:k≤c) (W:World) :
  (execOp ρ o).run Tryz.prog W = .ok (.value (.slice A k c)) W:=by
 have h:=run_slice_high (P:=Tryz.prog) (t:=140) (s:=33) (by kernel_rfl) (fun _=>by kernel_rfl) A n c k hk W
 unfold execOp
 simp only [ho,hx,hy,Option.map_some,Option.map_none,Sem.run_bind,Sem.run_pure,h,Result.andThen_ok]
structure CmC (w:World) (pb b1 g:Nat) (fs:Value) (l:FrV) (p:FpV) (v:Value) (W:World):Prop where
 own:W.ownsRow b1 145 33 v l.length (pccells (fpc l))
 box:PcB W pb 145 (p.1:Int) p.2
 obj:Blk W g 142 #[fs]
 bel:Below w.heap.size w W
 all:F32 l
theorem CmC.step {w:World} {pb b1 g:Nat} {fs:Value} {l:FrV} {p:FpV} {v:Value} {W W':World} (h:CmC w pb b1 g fs l p v W) (hb:Below W.heap.size W W'):CmC w pb b1 g fs l p v W':=⟨owns_step h.own hb,h.box.step hb,h.obj.step hb,h.bel.trans (hb.mono h.bel.size),h.all⟩
set_option maxHeartbeats 4000000 in
set_option maxRecDepth 100000 in
theorem fcome_any (g:Nat) (ps:FrV) (p:FpV) (w:World) (h:FrO w g ps) (hp:p.2.length=32) (hl:p.1≤62) (hn:ps.length≤1099511627776) :
  Calls Tryz.prog 86 #[.pointer (some ⟨g,0,none⟩),.agg (Value.int .i64 (p.1:Int)::p.2.map B).toArray] w fun e w'=>e = .returned (.tuple #[])∧FrO w' g (comeF ps p)∧w.grownBy w' (some g):=by
 have h32:=h.all
 obtain ⟨A,n,c,hk,hP⟩:=h.ex
 have hlen:ps.length=n:=by rw [← hP.len,length_fpc]
 obtain ⟨w0,hw0⟩:∃ w0,w.alloc (.cells (Value.int .i64 (p.1:Int)::p.2.map B).toArray 145)=w0:=⟨_,rfl⟩
 have hb0:Below w.heap.size w w0:=by rw [← hw0];exact (Below.refl _ _).alloc (Nat.le_refl _) _
 have k3:PcB w0 w.heap.size 145 (p.1:Int) p.2:=⟨by rw [← hw0];exact Blk.new _ _ _,hp⟩
 have hkg:=hk.lt
 replace hk:=hk.step hb0
 replace hP:=hP.step hb0
 have hcl:=clonep_any (fpc ps) A n c w0 hP (by omega)
 obtain ⟨res,hres⟩:∃ r,comeF ps p=r:=⟨_,rfl⟩
 have hr32:F32 res:=by rw [← hres];exact F32_come ps p h32 hp
 rw [hres]
 have Hres:=Lib.hid hres
 have Hw0:=Lib.hid hw0
 have Hcl:=Lib.hid hcl
 have Hlen:=Lib.hid hlen
 have H32:=Lib.hid h32
 have Hr32:=Lib.hid hr32
 have Hl:=Lib.hid hl
 have c0:w0.cell? ⟨g,0,none⟩=some (.slice A n c):=by rw [hk.cell];rfl
 clear hres hw0 hcl hlen h32 hr32 hP h hp
 go_enter Tryz.func86,Tryz.ntmps86
 go_wp2_with (first
  | rw [Hw0.out]
  | (go_at_call 103;refine Hcl.out.mono ?_;rintro e w1 ⟨v,rfl,ho,hb1⟩))
 have hC:CmC w w.heap.size w0.heap.size g (.slice A n c) ps p v w1:=⟨by rw [Hlen.out];exact ho,k3.step hb1,hk.step hb1,hb0.trans (hb1.mono hb0.size),H32.out⟩
 have hbz:=k3.lt
 have hbs:=Nat.le_of_eq (show w0.heap.size=w.heap.size+1 by rw [← Hw0.out];simp)
 have hlv:sliceLen v=ps.length:=by obtain ⟨A_,c_,rfl,-⟩:=owns_slv ho;exact Hlen.out.symm
 clear ho hb1 k3 hk hb0 c0 Hw0 Hcl
 go_loopw [4] (fun v4 wr=>∃ (l:FrV) (p:FpV) (v:Value),v=v4∧CmC w w.heap.size w0.heap.size g (.slice A n c) l p v wr∧comeF l p=res∧p.1+l.length≤1099511627838) (fun v4 _=>sliceLen v4)
 case atStart=>exact ⟨ps,p,_,rfl,hC,Hres.out,by have:=Hl.out;omega⟩
 case round =>
  clear hC hlv Hres Hl H32
  obtain ⟨l,p,v4,rfl,hC,hcm,hle⟩:=hrel
  have c3:∀ s:InC (fun W=>Below wr.heap.size wr W),s.W.cell? ⟨w.heap.size,0,none⟩=some (.int .i64 (p.1:Int)):=fun s=>(hC.step s.ok).box.num
  rcases snoc_cases l with rfl|⟨l',q,rfl⟩
  ·obtain ⟨A4,c4,rfl,-⟩:=owns_slv hC.own
   go_wp2_with fail
   have hS:Below wr.heap.size wr wr.drew:=(Below.refl _ _).drew
   refine wp_region_mix (fun W=>Below wr.heap.size wr W) [(0,true),(1,true),(2,true),(3,true),(4,true),(5,true),(6,true),(7,true),(8,true),(9,true),(10,true),(11,true),(12,true),(13,true),(14,true)] (by kernel_rfl) (by kernel_rfl) hS fun _=>?_
   simp only [List.map_cons,List.map_nil,Array.getD_eq_getD_getElem?,List.getElem?_toArray,List.getElem?_cons_succ,List.getElem?_cons_zero,Option.getD_some]
   generalize wr.drew=u2 at hS ⊢
   iterate 15 (refine wpMix_s (fun K hK=>?_);go_simp;refine hK _ ?_;clear hK K)
   refine wpMix_nil ?_
   intro _
   have hres6:res=[]++[p]:=by rw [← hcm,comeF_nil];rfl
   have hr32:F32 ([]++[p]):=by have h:=Hr32.out;rw [hres6] at h;exact h
   have hC6:=hC.step hS
   obtain ⟨v9,W9,hr9,ho9,hb9⟩:=append_pc (S:=140) Tryz.underlying140 infoFp (by rw [length_fpc];exact hC6.own:u2.ownsRow w0.heap.size 145 33 _ (fpc []).length (pccells (fpc []))) ((p.1:Int),p.2) hC6.box.len (by rw [length_fpc];simp) (Nat.le_trans hbs (Nat.le_trans hC.box.lt hS.size))
   have hbA:Below u2.heap.size u2 (u2.alloc (.cells (pccell ((p.1:Int),p.2)).toArray 145)):=(Below.refl _ _).alloc (Nat.le_refl _) _
   have hkg9:=(hC6.obj.step hbA).below hb9 (Nat.lt_trans hkg hbz)
   have hbel9:=(hC6.bel.trans (hbA.mono hC6.bel.size)).trans (hb9.mono (Nat.le_of_lt hbz))
   have c5:u2.cell? ⟨g,0,none⟩=some (.slice A n c):=by rw [hC6.obj.cell];rfl
   have hfe:fpc []++[((p.1:Int),p.2)]=fpc ([]++[p]):=(fpc_append [] [p]).symm
   rw [hfe] at ho9
   obtain ⟨n9,hn9⟩:∃ n,(fpc ([]++[p])).length=n:=⟨_,rfl⟩
   rw [hn9] at ho9
   obtain ⟨A9,c9,rfl,hs9⟩:=Pcs.of_owns ho9 hn9 (fpc_32 _ hr32)
   have hs9:=(hs9.weak (Y:=fun b=>w0.heap.size≤b) fun b _ hb=>hb.1)
   have Hr9:=Lib.hid hr9
   clear hr9 ho9 hn9
   go_wp2_with (first
    | ((with_reducible show wpList _ _ _ (⟨some 47,.load _ _,_,_,_,_⟩::_) _ _);refine wpList_run0 rfl (.agg (.int .i64 (p.1:Int)::p.2.map B).toArray) (run_load_op 145 (.tmp 3) rfl _ 0 rfl _ (hC6.box.load aggFp sizeFp)) ?_;simp only [Act.put])
    | ((with_reducible show wpList _ _ _ (⟨some 48,.buildSlice _ _ _,_,_,_,_⟩::_) _ _);refine wpList_run rfl (.slice (some ⟨u2.heap.size,0,none⟩) 1 1) (u2.alloc (.cells (pccell ((p.1:Int),p.2)).toArray 145)) (run_lit_oneF_op (x := .agg (pccell ((p.1:Int),p.2)).toArray) Tryz.underlying140 infoFp (by simp [Value.cells,hC6.box.len]) (by decide) (by decide) (.tmp 47) rfl rfl _) ?_;simp only [Act.put])
    | ((with_reducible show wpList _ _ _ (⟨some 49,.call _,_,_,_,_⟩::_) _ _);refine wpList_run rfl _ W9 (run_append_op (.tmp 46) (.tmp 48) 140 rfl _ _ rfl rfl Hr9.out) ?_;simp only [Act.put])
    | ((with_reducible show wpList _ _ _ [⟨none,.store _ _ _,_,_,_,_⟩] _ _);refine wpList_store_one rfl 140 (.tmp 51) (.tmp 49) rfl g rfl rfl 142 (.slice A n c) hkg9 (by kernel_rfl) ?_;show wpList _ _ _ _ _ (W9.setRow g #[Value.slice A9 n9 c9]);simp only [Act.put]))
   have hgr:W9.grownBy (W9.setRow g #[Value.slice A9 n9 c9]) (some g):=grown_setRow (grown_of_below (Below.refl _ _) _) _
   exact bodyPost_end (by exact results_none rfl _ _ _) rfl ⟨rfl,by rw [hres6];exact ⟨A9,_,c9,hkg9.setRow_ _,(hs9.grown hgr (fun b _ hb e=>by have h9:b=g:=Option.some.inj e;have h8:w0.heap.size≤b:=hb;omega)).every⟩,grown_setRow (grown_of_below hbel9 _) _⟩
  ·have hl1:(l'++[q]).length=l'.length+1:=by simp
   have hq32:q.2.length=32:=hC.all q (List.mem_append_right _ (List.mem_singleton.2 rfl))
   have ho:=hC.own
   rw [hl1] at ho hle
   obtain ⟨k,hk⟩:∃ k,l'.length=k:=⟨_,rfl⟩
   rw [hk] at ho hle
   obtain ⟨gb,c4,rfl,hgb⟩:=owns_someB ho (by omega)
   obtain ⟨A_,c_,e,hsl⟩:=owns_slv ho
   have hP:Pcs wr (fun _=>True) (some ⟨gb,0,none⟩) (k+1) c4 (fpc (l'++[q])):=by injection e with e1 e2 e3;subst e1 e3;exact ⟨hsl.weak fun _ _ _=>trivial,by rw [length_fpc,hl1,hk],fpc_32 _ hC.all⟩
   have hnum:=fun W (hb:Below wr.heap.size wr W)=>(hP.step hb).num rfl k (Nat.lt_succ_self _)
   have hhs:=fun W (hb:Below wr.heap.size wr W)=>(hP.step hb).hash rfl k (Nat.lt_succ_self _)
   have hgq:(fpc (l'++[q])).getD k pcD=((q.1:Int),q.2):=by rw [← hk,fpc_getD,List.getD_eq_getElem?_getD,List.getElem?_append_right (Nat.le_refl _),Nat.sub_self];rfl
   rw [hgq,Nat.zero_add] at hnum hhs
   have hroom:=hP.sl.room
   have hmx:=hP.sl.max
   unfold maxLen at hmx
   clear hsl hP hgq
   have Hk:=Lib.hid hk
   have hcl33:(pccells (fpc l')).length=k*33:=by rw [pccells_len _ (fpc_32 _ fun x hx=>hC.all x (List.mem_append_left _ hx)),length_fpc,hk]
   clear hk
   have hww:IntKind.i64.wrap ((k:Int)+1 - 1)=(k:Int):=by rw [IntWalk.i64_in _ (by omega)];omega
   have hww2:IntKind.i64.wrap ((((k+1:Nat)):Int) - 1)=(k:Int):=by rw [IntWalk.i64_in _ (by omega)];omega
   have hwk:IntKind.i64.wrap (k:Int)=(k:Int):=IntWalk.i64_in _ (by omega)
   have hkk:(k:Int)<(k:Int)+1:=by omega
   have c20:∀ s:InC (fun W=>Below wr.heap.size wr W),s.W.cell? ⟨gb,k*33,none⟩=some (.int .i64 (q.1:Int)):=fun s=>hnum s.W s.ok
   have hpos:decide ((0:Int)<(k:Int)+1)=true:=by rw [decide_eq_true_eq];omega
   have Hhs:=Lib.hid hhs
   clear hnum hhs
   by_cases hqp:q.1=p.1
   ·have heq:((q.1:Int)==(p.1:Int))=true:=by simp [hqp]
    go_wp2_with fail
    have hS:Below wr.heap.size wr wr.drew:=(Below.refl _ _).drew
    refine wp_region_mix (fun W=>Below wr.heap.size wr W) [(0,true),(1,true),(2,true),(3,true),(4,true),(5,true),(6,true),(7,true),(8,true),(9,true),(10,true),(11,true),(12,true),(13,true),(14,true)] (by kernel_rfl) (by kernel_rfl) hS fun _=>?_
    simp only [List.map_cons,List.map_nil,Array.getD_eq_getD_getElem?,List.getElem?_toArray,List.getElem?_cons_succ,List.getElem?_cons_zero,Option.getD_some]
    generalize wr.drew=u2 at hS ⊢
    iterate 15 (refine wpMix_s (fun K hK=>?_);go_simp;refine hK _ ?_;clear hK K)
    refine wpMix_nil ?_
    intro _
    go_wp2_with fail
    have hC3:=hC.step hS
    have hS3:Below u2.heap.size u2 u2.drew:=(Below.refl _ _).drew
    refine wp_region_mix_tail (fun W=>Below u2.heap.size u2 W) 11 [(0,true),(1,true),(2,true),(3,true),(4,true),(5,true),(6,true),(7,true),(8,true),(9,false),(10,true)] (by kernel_rfl) (by kernel_rfl) hS3 fun _=>?_
    simp only [List.map_cons,List.map_nil,Array.getD_eq_getD_getElem?,List.getElem?_toArray,List.getElem?_cons_succ,List.getElem?_cons_zero,Option.getD_some]
    generalize u2.drew=u3 at hS3 ⊢
    iterate 6 (refine wpMix_s (fun K hK=>?_);go_simp;refine hK _ ?_;clear hK K)
    refine wpMix_load (by kernel_rfl) 53 (.tmp 30) rfl (gb) (k*33+1) rfl (q.2.map B).toArray ((fun s=>Hhs.out s.W (hS.trans (s.ok.mono hS.size)))) ?_
    simp only [Act.put]
    (refine wpMix_s (fun K hK=>?_);go_simp;refine hK _ ?_;clear hK K)
    refine wpMix_load (by kernel_rfl) 53 (.tmp 32) rfl (w.heap.size) (1) rfl (p.2.map B).toArray ((fun s=>(hC3.step s.ok).box.hash)) ?_
    simp only [Act.put]
    refine wpMix_c (fun K hK=>?_) hS3
    go_simp
    refine (hnode_any q.2 p.2 u3 hq32 hC3.box.len).mono ?_
    rintro e u3_1 ⟨rfl,hb'⟩
    refine hK _ _ ?_
    clear hK K
    replace hS3:=hS3.trans (hb'.mono hS3.size)
    refine ⟨hS3,?_⟩
    clear hb'
    (refine wpMix_s (fun K hK=>?_);go_simp;refine hK _ ?_;clear hK K)
    refine wpMix_nil ?_
    intro _
    simp only [List.drop_succ_cons,List.drop_zero]
    have hC4:=hC3.step hS3
    have hzl:=length_hNode q.2 p.2
    obtain ⟨z,hz⟩:∃ z,hNode q.2 p.2=z:=⟨_,rfl⟩
    rw [hz] at hzl ⊢
    obtain ⟨U4,hU4,kp4,hb4⟩:=hC4.box.setHash hzl
    refine wpList_store_agg rfl 53 (.tmp 35) (.tmp 34) rfl 32 size26 w.heap.size 1 _ rfl rfl (by simp [hzl]) (oneCell_B _) 145 _ hC4.box.blk (by simp [hC4.box.len]) ?_
    have hgr4:u3_1.grownBy U4 (some w.heap.size):=by rw [← hU4];exact grown_setRow (grown_of_below (Below.refl _ _) _) _
    rw [hU4]
    clear hU4
    simp only [Act.put]
    go_wp2_with fail
    refine np_normal ?_
    have c37:U4.cell? ⟨w.heap.size,0,none⟩=some (.int .i64 (p.1:Int)):=kp4.num
    have f37:=kp4.blk.frozen 0
    have hwp:IntKind.i64.wrap ((p.1:Int)+1)=(p.1:Int)+1:=IntWalk.i64_in _ (by omega)
    go_wp2_with ((with_reducible show wpList _ _ _ (⟨some 44,.slice _ _ _ _ _,_,_,_,_⟩::_) _ _);refine wpList_run0 rfl (.slice (some ⟨gb,0,none⟩) k c4) (run_slice_op_hiP (.tmp 40) (.tmp 43) rfl (some ⟨gb,0,none⟩) (k+1) c4 k rfl rfl (by omega) _) ?_;simp only [Act.put])
    go_roundw
    case rel =>
     have kp5:=kp4.setNum ((p.1:Int)+1)
     have hb5:=below_setNum kp4 ((p.1:Int)+1)
     have hgr5:=grown_setCell hgr4 0 (.int .i64 ((p.1:Int)+1))
     have ho4:=(owns_step (owns_step (owns_fewerF ho (Nat.le_succ k)) hS) hS3).kept hgr5 (.inr fun e=>by have h9:gb=w.heap.size:=Option.some.inj e;omega)
     rw [fpc_append,pccells_append,show (pccells (fpc l')++pccells (fpc [q])).take (k*33)=pccells (fpc l') by rw [List.take_append_of_le_length (by rw [hcl33];exact Nat.le_refl _),List.take_of_length_le (by rw [hcl33];exact Nat.le_refl _)]] at ho4
     refine ⟨l',(p.1+1,z),_,rfl,⟨by rw [Hk.out];exact ho4,?_,(hC4.obj.below hb4 hkg).below hb5 hkg,(hC4.bel.trans hb4).trans hb5,fun x hx=>hC.all x (List.mem_append_left _ hx)⟩,by rw [← hcm,comeF_step l' q p hqp,hz],by show p.1+1+l'.length≤_;rw [Hk.out];omega⟩
     have e:((p.1+1:Nat):Int)=(p.1:Int)+1:=by omega
     show PcB _ _ _ ((p.1+1:Nat):Int) z
     rw [e]
     exact kp5
    case measure=>simp [sliceLen]
   ·have heq:((q.1:Int)==(p.1:Int))=false:=by simp;omega
    go_wp2_with fail
    have hS:Below wr.heap.size wr wr.drew:=(Below.refl _ _).drew
    refine wp_region_mix (fun W=>Below wr.heap.size wr W) [(0,true),(1,true),(2,true),(3,true),(4,true),(5,true),(6,true),(7,true),(8,true),(9,true),(10,true),(11,true),(12,true),(13,true),(14,true)] (by kernel_rfl) (by kernel_rfl) hS fun _=>?_
    simp only [List.map_cons,List.map_nil,Array.getD_eq_getD_getElem?,List.getElem?_toArray,List.getElem?_cons_succ,List.getElem?_cons_zero,Option.getD_some]
    generalize wr.drew=u2 at hS ⊢
    iterate 15 (refine wpMix_s (fun K hK=>?_);go_simp;refine hK _ ?_;clear hK K)
    refine wpMix_nil ?_
    intro _
    have hres6:res=l'++[q]++[p]:=by rw [← hcm,comeF_stop l' q p hqp]
    have hr32:F32 (l'++[q]++[p]):=by have h:=Hr32.out;rw [hres6] at h;exact h
    have hC6:=hC.step hS
    obtain ⟨v9,W9,hr9,ho9,hb9⟩:=append_pc (S:=140) Tryz.underlying140 infoFp (by rw [length_fpc];exact hC6.own:u2.ownsRow w0.heap.size 145 33 _ (fpc (l'++[q])).length (pccells (fpc (l'++[q])))) ((p.1:Int),p.2) hC6.box.len (by rw [length_fpc];rw [hl1,Hk.out];omega) (Nat.le_trans hbs (Nat.le_trans hC.box.lt hS.size))
    have hbA:Below u2.heap.size u2 (u2.alloc (.cells (pccell ((p.1:Int),p.2)).toArray 145)):=(Below.refl _ _).alloc (Nat.le_refl _) _
    have hkg9:=(hC6.obj.step hbA).below hb9 (Nat.lt_trans hkg hbz)
    have hbel9:=(hC6.bel.trans (hbA.mono hC6.bel.size)).trans (hb9.mono (Nat.le_of_lt hbz))
    have c5:u2.cell? ⟨g,0,none⟩=some (.slice A n c):=by rw [hC6.obj.cell];rfl
    have hfe:fpc (l'++[q])++[((p.1:Int),p.2)]=fpc ((l'++[q])++[p]):=(fpc_append (l'++[q]) [p]).symm
    rw [hfe] at ho9
    obtain ⟨n9,hn9⟩:∃ n,(fpc ((l'++[q])++[p])).length=n:=⟨_,rfl⟩
    rw [hn9] at ho9
    obtain ⟨A9,c9,rfl,hs9⟩:=Pcs.of_owns ho9 hn9 (fpc_32 _ hr32)
    have hs9:=(hs9.weak (Y:=fun b=>w0.heap.size≤b) fun b _ hb=>hb.1)
    have Hr9:=Lib.hid hr9
    clear hr9 ho9 hn9
    go_wp2_with (first
     | ((with_reducible show wpList _ _ _ (⟨some 47,.load _ _,_,_,_,_⟩::_) _ _);refine wpList_run0 rfl (.agg (.int .i64 (p.1:Int)::p.2.map B).toArray) (run_load_op 145 (.tmp 3) rfl _ 0 rfl _ (hC6.box.load aggFp sizeFp)) ?_;simp only [Act.put])
     | ((with_reducible show wpList _ _ _ (⟨some 48,.buildSlice _ _ _,_,_,_,_⟩::_) _ _);refine wpList_run rfl (.slice (some ⟨u2.heap.size,0,none⟩) 1 1) (u2.alloc (.cells (pccell ((p.1:Int),p.2)).toArray 145)) (run_lit_oneF_op (x := .agg (pccell ((p.1:Int),p.2)).toArray) Tryz.underlying140 infoFp (by simp [Value.cells,hC6.box.len]) (by decide) (by decide) (.tmp 47) rfl rfl _) ?_;simp only [Act.put])
     | ((with_reducible show wpList _ _ _ (⟨some 49,.call _,_,_,_,_⟩::_) _ _);refine wpList_run rfl _ W9 (run_append_op (.tmp 46) (.tmp 48) 140 rfl _ _ rfl rfl Hr9.out) ?_;simp only [Act.put])
     | ((with_reducible show wpList _ _ _ [⟨none,.store _ _ _,_,_,_,_⟩] _ _);refine wpList_store_one rfl 140 (.tmp 51) (.tmp 49) rfl g rfl rfl 142 (.slice A n c) hkg9 (by kernel_rfl) ?_;show wpList _ _ _ _ _ (W9.setRow g #[Value.slice A9 n9 c9]);simp only [Act.put]))
    have hgr:W9.grownBy (W9.setRow g #[Value.slice A9 n9 c9]) (some g):=grown_setRow (grown_of_below (Below.refl _ _) _) _
    exact bodyPost_end (by exact results_none rfl _ _ _) rfl ⟨rfl,by rw [hres6];exact ⟨A9,_,c9,hkg9.setRow_ _,(hs9.grown hgr (fun b _ hb e=>by have h9:b=g:=Option.some.inj e;have h8:w0.heap.size≤b:=hb;omega)).every⟩,grown_setRow (grown_of_below hbel9 _) _⟩
end Go.Proofs.YtdjhoankkddomaaGreat
namespace Go.Proofs.YtdjhoankkddomaaGreat
open Go Go.RowKit Go.Shelf
attribute [local go_sem] Oper.semAt_some
theorem pow_i64 (l:Nat) (hl:l≤62):IntKind.i64.wrap ((2:Int) ^ l)=(2:Int) ^ l:=by
 have h:((2:Int) ^ l)=((2 ^ l:Nat):Int):=by simp
 have h2:2 ^ l≤2 ^ 62:=Nat.pow_le_pow_right (by decide) hl
 obtain ⟨m,hm⟩:∃ m,2 ^ l=m:=⟨_,rfl⟩
 rw [hm] at h h2
 rw [h,IntWalk.i64_in _ (by omega)]
theorem run_shl1_op {ρ:Operand→Value} {o:Oper} (x:Operand) (ty:TypeId) (l:Nat) (hl:l≤62) (ho:o.op = .binOp .shl 2 (.const (.int .i64 1)) x ty) (hc:ρ (.const (.int .i64 1)) = .int .i64 1) (hx:ρ x = .int .i64 (l:Int)) (W:World):(execOp ρ o).run Tryz.prog W = .ok (.value (.int .i64 ((2:Int) ^ l))) W:=by
 unfold execOp
 simp only [ho,hx,hc]
 go_simp
 exact pow_i64 l hl
theorem run_move_opF {P:Program} {ρ:Operand→Value} {o:Oper} (x:Operand) (ho:o.op = .move x) (v:Value) (hx:ρ x=v) (W:World):(execOp ρ o).run P W = .ok (.value v) W:=by
 unfold execOp
 simp only [ho,hx,Sem.run_pure]
theorem run_field_op {P:Program} {ρ:Operand→Value} {o:Oper} (T:TypeId) (x:Operand) (k:Nat) (ho:o.op = .fieldAddr T x k) (g off j:Nat) (hx:ρ x = .pointer (some ⟨g,off,none⟩)) (W:World) (h:(Instr.fieldAt T (.pointer (some ⟨g,off,none⟩)) k).run P W = .ok (.pointer (some ⟨g,j,none⟩)) W):(execOp ρ o).run P W = .ok (.value (.pointer (some ⟨g,j,none⟩))) W:=by
 unfold execOp
 simp only [ho,hx,Sem.run_bind,h,Result.andThen_ok,Sem.run_pure]
set_option maxRecDepth 100000 in
theorem wpList_fpvar {w:World} {ops:Array Oper} {rest:List Oper} {o1 o2:Oper} {a:Act} {Q:Exit→Act→World→Prop} {n:Int} {l:List UInt8} (x y:Operand) (hg1:o1.guard=none) (hg2:o2.guard=none) (ho1:o1.op = .alloc 145) (ho2:o2.op = .store 145 x y)
  (hx:(a.put o1.dst (.pointer (some ⟨w.heap.size,0,none⟩))).eval x = .pointer (some ⟨w.heap.size,0,none⟩)) (hy:(a.put o1.dst (.pointer (some ⟨w.heap.size,0,none⟩))).eval y = .agg (.int .i64 n::l.map B).toArray) (hl:l.length=32)
  (h:∀ W,PcB W w.heap.size 145 n l→Below w.heap.size w W→wpList Tryz.prog ops Q rest ((a.put o1.dst (.pointer (some ⟨w.heap.size,0,none⟩))).put o2.dst undef) W):wpList Tryz.prog ops Q (o1::o2::rest) a w:=by
 refine wpList_run hg1 (.pointer (some ⟨w.heap.size,0,none⟩)) (w.alloc (.cells (.int .i64 0::(List.replicate 32 (0:UInt8)).map B).toArray 145)) ?_ ?_
 ·unfold execOp
  rw [ho1]
  rfl
 ·refine wpList_store_blk hg2 145 x y ho2 33 sizeFp w.heap.size (.int .i64 n::l.map B).toArray hx hy (by simp [hl]) (oneCell_pc n l) 145 _ (Blk.new w 145 _) (by simp) ?_
  exact h _ ⟨(Blk.new w 145 _).setRow_ _,hl⟩ (below_setRow ((Below.refl _ _).alloc (Nat.le_refl _) _) (Nat.le_refl _) _)
theorem KeepU.pcs {B n₁:Nat} {U:Nat→Prop} {W W':World} {X:Nat→Prop} {A:Option Addr} {n c:Nat} {q:List PcV} (h:KeepU B n₁ U W W') (hs:Pcs W X A n c q) (hm:∀ b,b<W.heap.size→X b→b<n₁∧¬ U b):Pcs W' X A n c q:=⟨h.slv hs.sl hm,hs.len,hs.all⟩
set_option maxHeartbeats 1000000 in
set_option maxRecDepth 100000 in
theorem fall_any (f:Value) (w:World) (hf:f.oneCell'=true):Calls Tryz.prog 89 #[f] w fun e w'=>e = .returned (.func (.func 105) #[] #[.pointer (some ⟨w.heap.size,0,none⟩)])∧Blk w' w.heap.size 122 #[f]∧Below w.heap.size w w':=by
 obtain ⟨w0,hw0⟩:∃ w0,w.alloc (.cells #[f] 122)=w0:=⟨_,rfl⟩
 have hb0:Below w.heap.size w w0:=by rw [← hw0];exact (Below.refl _ _).alloc (Nat.le_refl _) _
 have k:Blk w0 w.heap.size 122 #[f]:=by rw [← hw0];exact Blk.new _ _ _
 have hc:f.cells=#[f]:=by cases f <;> first|rfl|cases hf
 have Hw0:=Lib.hid hw0
 clear hw0
 go_enter Tryz.func89,Tryz.ntmps89
 go_wp2_with (rw [Hw0.out])
 go_ret
 exact ⟨rfl,k,hb0⟩
def PartY (ps:FrV) (k:Nat) (vs:Array Value):Prop:=vs=#[.int .i64 ((2:Int) ^ (ps.getD k (0,[])).1),.agg ((ps.getD k (0,[])).2.map B).toArray]
set_option maxRecDepth 100000 in
set_option maxHeartbeats 2000000 in
theorem fall1_seq (ps:FrV) (g bx:Nat) (U:Nat→Prop) (w:World) (hbox:Blk w bx 122 #[.pointer (some ⟨g,0,none⟩)]) (h:FrO w g ps) (h62:F62 ps) (hU:∀ b,U b→b<w.heap.size) (hn:ps.length≤1000) :
  SeqU Tryz.prog 105 #[.pointer (some ⟨bx,0,none⟩)] ps.length U (fun _ k vs _=>PartY ps k vs) w:=by
 intro ly J Jx W hW hJ hJx hY h0
 have hbox':=hbox.below hW hbox.lt
 replace h:=h.step hW
 obtain ⟨A,n,c,hk,hP⟩:=h.ex
 have hlen:ps.length=n:=by rw [← hP.len,length_fpc]
 have h32:=h.all
 have c1:W.cell? ⟨bx,0,none⟩=some (.pointer (some ⟨g,0,none⟩)):=by rw [hbox'.cell];rfl
 have c2:W.cell? ⟨g,0,none⟩=some (.slice A n c):=by rw [hk.cell];rfl
 have hcl:=clonep_any (fpc ps) A n c W hP (by omega)
 have hst:=h0
 have hUW:∀ b,U b→b<W.heap.size:=fun b hb=>Nat.lt_of_lt_of_le (hU b hb) hW.size
 have Hst:=Lib.hid hst
 have HJ:=Lib.hid hJ
 have HY:=Lib.hid hY
 have Hcl:=Lib.hid hcl
 have H32:=Lib.hid h32
 have H62:=Lib.hid h62
 clear hbox hJx hJ hY h hW h0 hst hk hP hcl h32 h62 hbox' hU
 subst hlen
 refine callsIn_of_wp Tryz.func105 rfl trivial ?_ rfl
 simp only [Tryz.ntmps105,List.size_toArray,List.length_cons,List.length_nil,Nat.reduceAdd,Nat.reduceSub,Array.replicate_succ,Array.replicate_zero,List.push_toArray,List.append_toArray,List.nil_append,List.cons_append]
 gi_wp2_with ((with_reducible show wpListIn _ _ _ _ _ (⟨some 11,.call _,_,_,_,_⟩::_) _ _);fail)
 refine ⟨trivial,callsIn_any openW (Hcl.out.mono ?_)⟩
 rintro e W1 ⟨v,rfl,ho,hb1⟩
 obtain ⟨A1,c1',rfl,hs⟩:=Pcs.of_owns ho (length_fpc ps) (fpc_32 _ H32.out)
 have hJ1:=HJ.out W1.heap.size 0 W W1 none (Hst.out _ hb1.size) (grown_of_below hb1 none) (fun r e=>by cases e)
 have hs1:Pcs W1 (fun b=>W.heap.size≤b∧b<W1.heap.size) A1 ps.length c1' (fpc ps):=hs.weak fun b hb hx=>⟨hx.1,hb⟩
 have hz1:=hb1.size
 have hroom:=hs1.sl.room
 have hmx:=hs1.sl.max
 unfold maxLen at hmx
 clear ho hs c1 c2 hb1 Hcl Hst
 gi_wp2
 gi_loopw [4,13] (fun _ i wr=>∃ k:Nat,k≤ps.length∧i = .int .i64 k∧W1.heap.size≤wr.heap.size∧J W1.heap.size k wr∧Pcs wr (fun b=>W.heap.size≤b∧b<W1.heap.size) A1 ps.length c1' (fpc ps))
  (fun _ i _=>ps.length - (intOf i).toNat)
 case atStart=>exact ⟨0,Nat.zero_le _,rfl,Nat.le_refl _,hJ1,hs1⟩
 case round =>
  clear hJ1 hs1
  obtain ⟨k,hk,rfl,hsz,hJs,hs⟩:=hrel
  by_cases hlt:k<ps.length
  ·have hd:decide ((k:Int)<(ps.length:Int))=true:=by simp;omega
   obtain ⟨b,o,rfl,hbw,-⟩:=hs.at_ (by omega)
   have hld:=hs.load aggFp sizeFp rfl k hlt
   rw [fpc_getD] at hld
   have h32k:(ps.getD k (0,[])).2.length=32:=by
    rw [List.getD_eq_getElem?_getD,List.getElem?_eq_getElem hlt]
    exact H32.out _ (List.getElem_mem hlt)
   have h62k:(ps.getD k (0,[])).1≤62:=by
    rw [List.getD_eq_getElem?_getD,List.getElem?_eq_getElem hlt]
    exact H62.out _ (List.getElem_mem hlt)
   obtain ⟨⟨lv,x⟩,hx⟩:∃ x,ps.getD k (0,[])=x:=⟨_,rfl⟩
   rw [hx] at hld h32k h62k
   have hwk:IntKind.i64.wrap ((k:Int)+1)=(k:Int)+1:=IntWalk.i64_in _ (by omega)
   have Hx:=Lib.hid hx
   have H32k:=Lib.hid h32k
   clear hx h32k
   gi_wp2_with (first
    | ((with_reducible show wpListIn _ _ _ _ _ (⟨some 16,.load _ _,_,_,_,_⟩::_) _ _);refine wpListIn_of1 openW rfl ?_;refine wpList_cell 145 (.tmp 15) b (o+k*33) (.agg (.int .i64 (lv:Int)::x.map B).toArray) (by kernel_rfl) rfl rfl hld ?_;refine thenN_nil ?_;simp only [Act.put])
    | ((with_reducible show wpListIn _ _ _ _ _ (⟨some 4,.alloc _,_,_,_,_⟩::_) _ _);refine wpListIn_of2 openW rfl ?_;refine wpList_fpvar (.tmp 4) (.tmp 16) rfl rfl rfl rfl rfl rfl H32k.out ?_;intro W2 k4 hb2;refine thenN_nil ?_;simp only [Act.put]))
   have k4d:PcB W2.drew wr.heap.size 145 (lv:Int) x:=⟨k4.blk,k4.len⟩
   refine wpIn_region_looksP openW [0,1,2,3,4,5] (fun k=>if k=2 then [1] else if k=3 then [2] else if k=5 then [4] else []) (fun k=>k+17) [17,18,19,20,21,22]
    (fun k=>if k=0 then .func (.yield ly) #[] #[] else if k=1 then .pointer (some ⟨wr.heap.size,0,none⟩) else if k=2 then .int .i64 (lv:Int) else if k=3 then .int .i64 ((2:Int) ^ lv) else if k=4 then .pointer (some ⟨wr.heap.size,1,none⟩) else .agg (x.map B).toArray) 2 (by kernel_rfl) (by kernel_rfl) (by kernel_rfl) (by decide) (by decide) rfl (by kernel_rfl) ?_ ?_
   ·refine List.forall_mem_cons.2 ⟨fun us hn=>⟨_,rfl,by kernel_rfl,by kernel_rfl,run_move_opF (.tmp 0) rfl _ rfl _,by kernel_rfl⟩,List.forall_mem_cons.2 ⟨fun us hn=>⟨_,rfl,by kernel_rfl,by kernel_rfl,run_field_op 145 (.tmp 4) 0 rfl wr.heap.size 0 0 rfl _ (by kernel_rfl),by kernel_rfl⟩,List.forall_mem_cons.2 ⟨fun us hn=>⟨_,rfl,by kernel_rfl,by kernel_rfl,run_load_op 3 (.tmp 18) rfl wr.heap.size 0 (hn 1 (by simp)) _ (run_load_scalar (by kernel_rfl) k4d.num),by kernel_rfl⟩,List.forall_mem_cons.2 ⟨fun us hn=>⟨_,rfl,by kernel_rfl,by kernel_rfl,run_shl1_op (.tmp 19) _ lv h62k rfl rfl (hn 2 (by simp)) _,by kernel_rfl⟩,List.forall_mem_cons.2 ⟨fun us hn=>⟨_,rfl,by kernel_rfl,by kernel_rfl,run_field_op 145 (.tmp 4) 1 rfl wr.heap.size 0 1 rfl _ (by kernel_rfl),by kernel_rfl⟩,List.forall_mem_cons.2 ⟨fun us hn=>⟨_,rfl,by kernel_rfl,by kernel_rfl,run_load_op 53 (.tmp 21) rfl wr.heap.size 1 (hn 4 (by simp)) _ k4d.hash,by kernel_rfl⟩,fun _ h=>by cases h⟩⟩⟩⟩⟩⟩
   intro us hu
   have e17:us 17 = .func (.yield ly) #[] #[]:=hu 0 (by simp)
   have e20:us 20 = .int .i64 ((2:Int) ^ lv):=hu 3 (by simp)
   have e22:us 22 = .agg (x.map B).toArray:=hu 5 (by simp)
   simp only [putAll,Act.put,List.setIfInBounds_toArray,List.set_cons_succ,List.set_cons_zero,List.length_cons,List.length_nil,List.drop_succ_cons,List.drop_zero]
   rw [e17,e20,e22]
   clear e17 e20 e22 hu k4 k4d
   have hJ2:=(HJ.out W1.heap.size k wr W2 none hJs (grown_of_below hb2 none) (fun r e=>by cases e))
   have hJd:=HJ.out W1.heap.size k W2 W2.drew none hJ2 (grown_of_below (Below.refl _ _).drew none) (fun r e=>by cases e)
   obtain ⟨fn,tmps,assign,body,hy,hR⟩:=HY.out W1.heap.size k #[.int .i64 ((2:Int) ^ lv),.agg (x.map B).toArray] W2.drew hz1 (Nat.le_trans hsz hb2.size) hlt hJd (by unfold PartY;rw [Hx.out])
   have hs2:=(hs.step hb2).step (Below.refl W2.heap.size W2).drew
   have hsz2:W1.heap.size≤W2.drew.heap.size:=Nat.le_trans hsz hb2.size
   generalize W2.drew=W3 at hy hR hs2 hsz2 ⊢
   clear hJ2 hJd hJs hb2 hs hld
   gi_wp2
   refine hR.mono ?_
   clear hR hy
   rintro e w4 (⟨rfl,hj4,hk4⟩|⟨rfl,hjx4,hk4⟩)
   ·have hs4:=hk4.pcs hs2 fun b _ hb=>⟨hb.2,fun hu=>by have:=hUW b hu;omega⟩
    have hsz4:=hk4.size
    clear hk4 hs2
    gi_wp2
    exact ⟨⟨k+1,by omega,by go_num,by omega,hj4,hs4⟩,by simp [intOf];omega⟩
   ·gi_wp2
    refine bodyPost_ret (by exact results_none rfl _ _ _) rfl ?_
    exact ⟨⟨_,rfl⟩,_,hz1,.inr ⟨k,hlt,hjx4⟩⟩
  ·obtain rfl:k=ps.length:=by omega
   have hd:decide ((ps.length:Int)<(ps.length:Int))=false:=by simp
   gi_wp2
   go_end0
   exact ⟨⟨_,rfl⟩,_,by omega,.inl hJs⟩
end Go.Proofs.YtdjhoankkddomaaGreat
