import Derived.Test.YtdjhoankkddomaaGreatQg233
import Derived.Test.YtdjhoankkddomaaGreatQg225
import Derived.Test.YtdjhoankkddomaaGreatQg224
import Derived.Test.YtdjhoankkddomaaGreatQg220
namespace Go.Proofs.YtdjhoankkddomaaGreat
open Go Go.RowKit
section
variable {P:Program} {ops:Array Oper} {Q:Exit→Act→World→Prop} {md:Region.Mode} {S:World→Prop} {k:Nat} {Tl:Array Bool→Act→World→Prop}
def wpAnyTS (P:Program) (md:Region.Mode) (ops:Array Oper) (Q:Exit→Act→World→Prop) (S:World→Prop) (k:Nat) (Tl:Array Bool→Act→World→Prop):Nat→Array Bool→Act→World→Prop
 | 0,listed,a,w=>(∀ j,j<k→listed.getD j true=true)∧Tl listed a w
 | fuel+1,listed,a,w =>
  (Region.ready md ops listed≠[]) ∧
  ∀ i ∈ Region.ready md ops listed,i<k∧wpOp P ops Q i (fun a' w'=>S w'∧wpAnyTS P md ops Q S k Tl fuel (listed.setIfInBounds i true) a' w') a w
theorem wpAnyTS_first {i:Nat} {oi:Oper} {v:Value} (hi:ops[i]?=some oi) (hik:i<k) (hsel:∀ (j:Nat) (o:Oper) cs b,ops[j]?=some o→o.op ≠ .select cs b) (hw:∀ j,k≤j→j<ops.size→waitsT md ops j i=true)
  (hQ:∀ c a w,Q (.panic c) (a.put oi.dst v) w→Q (.panic c) a w) :
  ∀ (fuel:Nat) (listed:Array Bool) (a:Act) (w:World),Cl md ops listed →
   (∀ j oj,ops[j]?=some oj→j≠i→listed.getD j true=false→(∀ e ∈ oj.after,Region.binds md e=true→e.on≠i)→oi.apart ops oj=true) →
   i ∈ Region.ready md ops listed→YieldsIf P ops S oi v a→S w →
   wpAnyTS P md ops Q S k Tl fuel (listed.setIfInBounds i true) (a.put oi.dst v) w→wpAnyTS P md ops Q S k Tl (fuel+1) listed a w:=by
 intro fuel
 have hlt:∀ (listed:Array Bool),Cl md ops listed→i ∈ Region.ready md ops listed→∀ j ∈ Region.ready md ops listed,j<k:=fun listed hcl hr j hj=>by
  rcases Nat.lt_or_ge j k with h'|h'
  ·exact h'
  ·exfalso
   obtain ⟨hjun,oj,hoj,hall⟩:=mem_ready.1 hj
   have hl:=waitsT_spec hcl hoj hall (hw j h' (Array.getElem?_eq_some_iff.1 hoj).1)
   have h0:=(mem_ready.1 hr).1
   rcases Nat.lt_or_ge i listed.size with h'|h'
   ·simp [h'] at h0 hl;rw [h0] at hl;cases hl
   ·simp [Array.getElem?_eq_none h'] at hl
 induction fuel with
 | zero =>
  intro listed a w hcl _ hr hy hS H
  refine ⟨fun h=>(by rw [h] at hr;cases hr),fun j hj=>?_⟩
  by_cases hji:j=i
  ·subst hji;exact ⟨hik,hy.wpOp hi hS ⟨hS,H⟩⟩
  ·exfalso
   have h1:=H.1 j (hlt listed hcl hr j hj)
   rw [getD_set_ne true (fun e=>hji e.symm)] at h1
   rw [(mem_ready.1 hj).1] at h1
   cases h1
 | succ fuel ih =>
  intro listed a w hcl hfree hr hy hS H
  refine ⟨fun h=>(by rw [h] at hr;cases hr),fun j hj=>⟨hlt listed hcl hr j hj,?_⟩⟩
  by_cases hji:j=i
  ·subst hji;exact hy.wpOp hi hS ⟨hS,H⟩
  ·have h1:=(H.2 j (ready_mono hj hji)).2
   obtain ⟨hjun,oj,hoj,hall⟩:=mem_ready.1 hj
   have hnot:∀ e ∈ oj.after,Region.binds md e=true→e.on≠i:=fun e he hb heq=>by
    have h1:=hall e he hb
    have h0:=(mem_ready.1 hr).1
    rw [heq] at h1
    rcases Nat.lt_or_ge i listed.size with h'|h'
    ·simp [h'] at h0 h1;rw [h0] at h1;cases h1
    ·simp [Array.getElem?_eq_none h'] at h1
   have h2:=wpOp_putIf hoj (hfree j oj hoj hji hjun hnot) (fun cs b=>hsel i oi cs b hi) (fun cs b=>hsel j oj cs b hoj) hQ hy h1
   have hfree':∀ m ok,ops[m]?=some ok→m≠i→(listed.setIfInBounds j true).getD m true=false →
     (∀ e ∈ ok.after,Region.binds md e=true→e.on≠i)→oi.apart ops ok=true:=fun m ok hm hmi hun hno=>by
    refine hfree m ok hm hmi ?_ hno
    by_cases hjm:j=m
    ·subst hjm;exact hjun
    ·rw [getD_set_ne true hjm] at hun;exact hun
   refine wpOp_mono (fun a' w' h3=>⟨h3.2.1,ih (listed.setIfInBounds j true) a' w' (hcl.put hj) hfree' (ready_mono hr (Ne.symm hji)) h3.1 h3.2.1 ?_⟩) h2
   rw [Array.setIfInBounds_comm _ _ hji]
   exact h3.2.2
theorem wpAnyTS_pre (hsel:Region.noSelect ops=true) (listed':Array Bool) (hk:∀ j,j<k→listed'.getD j true=true):∀ (l:List (Nat × Bool)) (listed:Array Bool) (a:Act) (w:World),mixTo ops l listed=some listed' →
  (l.all fun x=>(decide (x.1<k))&&(!x.2||((List.range ops.size).all fun j=>decide (j<k)||waitsT .any ops j x.1)))=true→Cl .any ops listed→S w →
  wpMix0 P ops S Q (fun a w=>S w→Tl listed' a w) (l.map fun x=>(ops.getD x.1 default,x.2)) a w→wpAnyTS P .any ops (NoPanic Q) S k Tl l.length listed a w
 | [],listed,a,w,hB,_,_,hS,h=>by
  simp only [mixTo,Option.some.injEq] at hB
  subst hB
  exact ⟨hk,h hS⟩
 | (i,true)::l,listed,a,w,hB,hall,hcl,hS,h=>by
  simp only [List.all_cons,Bool.and_eq_true,Bool.not_true,Bool.false_or,decide_eq_true_eq] at hall
  simp only [mixTo] at hB
  split at hB
  case isFalse=>cases hB
  rename_i hB0
  simp only [Bool.and_eq_true] at hB0
  obtain ⟨hr,hf⟩:=hB0
  have hr':i ∈ Region.ready .any ops listed:=by simpa using hr
  obtain ⟨_,oi,hoi,_⟩:=mem_ready.1 hr'
  have hget:ops.getD i default=oi:=by simp [hoi]
  simp only [List.map_cons,wpMix0,hget] at h
  have hy:∃ v,YieldsIf P ops S oi v a∧wpMix0 P ops S Q (fun a w=>S w→Tl listed' a w) (l.map fun x=>(ops.getD x.1 default,x.2)) (a.put oi.dst v) w:=by
   by_cases hw:Region.wanted oi (yielded ops a.tmps)=true
   ·rw [if_pos hw] at h
    obtain ⟨v,h1,h2⟩:=h
    exact ⟨v,.inl ⟨hw,fun w' hw'=>h1 ⟨w',hw'⟩⟩,h2⟩
   ·rw [if_neg hw] at h
    exact ⟨undef,.inr ⟨by simpa using hw,rfl⟩,h⟩
  obtain ⟨v,hy,h2⟩:=hy
  exact wpAnyTS_first hoi hall.1.1 (Region.noSelect_spec hsel) (fun j hkj hj=>by have:=List.all_eq_true.1 hall.1.2 j (List.mem_range.2 hj);simp only [Bool.or_eq_true,decide_eq_true_eq] at this;rcases this with h'|h';exact absurd h' (by omega);exact h') (fun _ _ _ hp=>hp) l.length listed a w hcl (Region.free_spec hoi hf) hr' hy hS
   (wpAnyTS_pre hsel listed' hk l _ _ w hB (by simpa using hall.2) (hcl.put hr') hS h2)
 | (i,false)::l,listed,a,w,hB,hall,hcl,hS,h=>by
  simp only [List.all_cons,Bool.and_eq_true,decide_eq_true_eq] at hall
  simp only [mixTo] at hB
  split at hB
  case isFalse=>cases hB
  rename_i hB0
  have hr:Region.ready .any ops listed=[i]:=by simpa using hB0
  have hr':i ∈ Region.ready .any ops listed:=by rw [hr];simp
  obtain ⟨_,oi,hoi,_⟩:=mem_ready.1 hr'
  have hget:ops.getD i default=oi:=by simp [hoi]
  simp only [List.map_cons,wpMix0,hget] at h
  refine ⟨fun h0=>(by rw [h0] at hr;cases hr),fun j hj=>?_⟩
  rw [hr] at hj
  obtain rfl:j=i:=by simpa using hj
  refine ⟨hall.1.1,?_⟩
  unfold wpOp
  simp only [hoi]
  by_cases hw:Region.wanted oi (yielded ops a.tmps)=true
  ·rw [if_pos hw] at h ⊢
   exact .inl (Oper.wp_mono (fun a' w' ⟨h1,h2⟩=>⟨h1,wpAnyTS_pre hsel listed' hk l _ a' w' hB (by simpa using hall.2) (hcl.put hr') h1 h2⟩) h)
  ·rw [if_neg hw] at h ⊢
   exact ⟨hS,wpAnyTS_pre hsel listed' hk l _ _ w hB (by simpa using hall.2) (hcl.put hr') hS h⟩
theorem wpAnyIn_of_TS {F:Fence} (hF:Fence.Open F) {n:Nat} (hd:noDefer ops.toList=true) (hout:∀ a w,¬ Q .outgrown a w) (f:Nat):∀ (fuel:Nat) (listed:Array Bool) (a:Act) (w:World),
  wpAnyTS P md ops (NoPanic Q) S k (fun listed a w=>wpAnyIn F n P md ops (NoPanic Q) f listed a w) fuel listed a w→wpAnyIn F n P md ops (NoPanic Q) (fuel+f) listed a w
 | 0,_,_,_,h=>by rw [Nat.zero_add];exact h.2
 | fuel+1,listed,a,w,h=>by
  rw [show fuel+1+f=(fuel+f)+1 by omega]
  refine ⟨fun h0=>absurd h0 h.1,fun i hi=>?_⟩
  have h1:=(h.2 i hi).2
  unfold wpOp at h1
  unfold wpOpIn
  split at h1
  ·rename_i ho
   rw [ho]
   exact wpAnyIn_of_TS hF hd hout f fuel _ _ _ h1.2
  ·rename_i o ho
   rw [ho]
   dsimp only
   have hm:o ∈ ops.toList:=by
    obtain ⟨hl,he⟩:=Array.getElem?_eq_some_iff.1 ho
    rw [← he]
    simp
   split
   ·rename_i hw
    rw [if_pos hw] at h1
    rcases h1 with h1|⟨_,a',w',h1⟩
    ·exact Oper.wpIn_of_wp hF (noDefer_op hd o hm) (Oper.wp_mono (fun a w h=>wpAnyIn_of_TS hF hd hout f fuel _ a w h.2) h1)
    ·exact (hout a' w' h1).elim
   ·rename_i hw
    rw [if_neg hw] at h1
    exact ⟨fun f _=>hF.fn_ f,wpAnyIn_of_TS hF hd hout f fuel _ _ _ h1.2⟩
end
def mixTailYOk (l:List Oper) (n:Nat) (order:List (Nat × Bool)):Bool :=
 Region.noSelect l.toArray&&(order.length==n)&&(decide (n≤l.length))&&(order.all fun x=>(decide (x.1<n))&&(!x.2||((List.range l.toArray.size).all fun j=>decide (j<n)||waitsT .any l.toArray j x.1))) &&
  ((mixTo l.toArray order (Array.replicate l.length false)).map fun x=>tailOk l.toArray (l.length - n) n x&&((List.range n).all fun j=>x.getD j true)).getD false
theorem wpIn_region_mix_tailY {P:Program} {id:Nat} {Q:Exit→Act→World→Prop} {a:Act} {w:World} {l:List Oper} {F:Fence} {m:Nat} (hF:Fence.Open F) (hnd:noDefer l=true) (hout:∀ a w,¬ Q .outgrown a w) (S:World→Prop) (n:Nat) (order:List (Nat × Bool)) (hm:P.follows .mixedOrders=true) (hB:mixTailYOk l n order=true) (hS:S w.drew)
  (h:Nonempty (InC S)→wpMix P l.toArray S Q (fun a w=>S w→wpListIn F m P l.toArray (NoPanic Q) (l.drop n) a w) (order.map fun x=>(l.toArray.getD x.1 default,x.2)) a w.drew):(Code.region id l.toArray true).wpIn F m P Q a w:=by
 unfold mixTailYOk at hB
 simp only [Bool.and_eq_true,beq_iff_eq,decide_eq_true_eq] at hB
 obtain ⟨⟨⟨⟨hsel,hlen⟩,hn⟩,hall⟩,hmix⟩:=hB
 refine wpIn_mono (Q:=NoPanic Q) (wpIn_region_any hm ?_) NoPanic.imp
 cases hx:mixTo l.toArray order (Array.replicate l.length false) with
 | none=>rw [hx] at hmix;cases hmix
 | some listed' =>
  rw [hx] at hmix
  simp only [Option.map_some,Option.getD_some,Bool.and_eq_true,List.all_eq_true,List.mem_range] at hmix
  obtain ⟨htail,hk⟩:=hmix
  have h1:=wpAnyTS_pre (P:=P) (Q:=Q) (S:=S) (k:=n) (Tl:=fun listed a w=>wpAnyIn F m P .any l.toArray (NoPanic Q) (l.length - n) listed a w) hsel listed' hk order (Array.replicate l.length false) a w.drew hx hall (fun m om hm hl=>by simp only [Array.getD_eq_getD_getElem?,Array.getElem?_replicate] at hl;split at hl <;> cases hl) hS
   (wpMix0_mono _ _ _ (fun a' w' h' hs=>wpAnyIn_tail _ n _ _ _ (by omega) htail (h' hs)) _ _ (h ⟨⟨_,hS⟩⟩).out)
  have:=wpAnyIn_of_TS hF (by simpa using hnd) hout _ _ _ _ _ h1
  rw [hlen,show n+(l.length - n)=l.length by omega] at this
  simpa using this
end Go.Proofs.YtdjhoankkddomaaGreat
namespace Go.Proofs.YtdjhoankkddomaaGreat
open Go Go.RowKit Go.Shelf
attribute [local go_sem] Oper.semAt_some
set_option maxHeartbeats 1000000 in
set_option maxRecDepth 100000 in
theorem bcloneO_any (l:List UInt8) (A:Option Addr) (n c:Nat) (w:World) (h:Sl w (fun _=>True) A n c l) (hn:n≤1099511627776) :
  Calls Tryz.prog 46 #[.slice A n c] w fun e w'=>∃ v,e = .returned v∧Fresh w w' v l:=by
 cases A with
 | none =>
  obtain ⟨rfl,rfl⟩:=h.none rfl
  obtain rfl:l=[]:=List.eq_nil_of_length_eq_zero h.len
  clear h
  have hnil:=fun w=>run_eql_slice_nil (P:=Tryz.prog) w 41 5 none 0 0 Tryz.underlying41
  go_enter Tryz.func46,Tryz.ntmps46
  go_wp2_with fail
  go_ret
  exact ⟨_,rfl,World.ownsRow_nil _ _ _ _,Below.refl _ _⟩
 | some a =>
  have hroom:=h.room
  have hmx:=h.max
  unfold maxLen at hmx
  have hb1:Below w.heap.size w (w.alloc (.cells #[] 5)):=(Below.refl _ _).alloc (Nat.le_refl _) _
  have ho0:(w.alloc (.cells #[] 5)).ownsRow w.heap.size 5 1 (.slice (some ⟨w.heap.size,0,none⟩) 0 0) ([]:List UInt8).length (([]:List UInt8).map B) :=
   World.ownsRow_lit (base:=w.heap.size) (e:=5) (size:=1) w #[] 0 (Nat.le_refl _) (by unfold maxLen;decide) (by simp)
  obtain ⟨v1,w1,hr1,ho1,hg1⟩:=append_sl ho0 (h.step hb1) (by simp;omega) hb1.size
  rw [List.nil_append] at ho1
  have hb2:=hb1.grown hg1 hb1.size (fun k hk=>by cases hk;exact Nat.le_refl _)
  have Hr1:=Lib.hid hr1
  have hnil:=fun w=>run_eql_slice_nil (P:=Tryz.prog) w 41 5 (some a) n c Tryz.underlying41
  clear hr1 ho0 hg1 hb1 h
  go_enter Tryz.func46,Tryz.ntmps46
  go_wp2_with ((with_reducible show wpList _ _ _ (⟨some 7,.call _,_,_,_,_⟩::_) _ _);refine wpList_run rfl _ w1 (run_append_op (.tmp 5) (.tmp 6) 41 rfl _ _ rfl rfl Hr1.out) ?_;simp only [Act.put,List.setIfInBounds_toArray,List.set_cons_succ,List.set_cons_zero])
  go_ret
  exact ⟨v1,rfl,ho1,hb2⟩
set_option maxHeartbeats 1000000 in
set_option maxRecDepth 100000 in
theorem clonee_any (ls:List (List UInt8)) (X:Nat→Prop) (A:Option Addr) (n c:Nat) (w:World) (h:EsI w X A n c ls) (hn:n≤1000000000) (hX:∀ b,X b→b<w.heap.size) :
  Calls Tryz.prog 60 #[.slice A n c] w fun e w'=>∃ v,e = .returned v∧EsO w' w.heap.size v ls X∧Below w.heap.size w w':=by
 have hlen:=h.len
 cases A with
 | none =>
  obtain ⟨vs,h1,-⟩:=h.ex
  obtain ⟨rfl,rfl⟩:=h1.nil rfl
  obtain rfl:ls=[]:=List.eq_nil_of_length_eq_zero hlen
  clear h h1
  have hnil:=fun w=>run_eql_slice_nil (P:=Tryz.prog) w 48 41 none 0 0 Tryz.underlying48
  go_enter Tryz.func60,Tryz.ntmps60
  go_wp2_with fail
  go_ret
  exact ⟨_,rfl,EsO.nil,Below.refl _ _⟩
 | some a =>
  have hroom:=h.es.room
  have hmx:=h.es.max
  unfold maxLen at hmx
  have hb1:Below w.heap.size w (w.alloc (.cells #[] 41)):=(Below.refl _ _).alloc (Nat.le_refl _) _
  have ho0:(w.alloc (.cells #[] 41)).ownsRow w.heap.size 41 1 (.slice (some ⟨w.heap.size,0,none⟩) 0 0) 0 [] :=
   World.ownsRow_lit (base:=w.heap.size) (e:=41) (size:=1) w #[] 0 (Nat.le_refl _) (by unfold maxLen;decide) (by simp)
  have hE0:EsO (w.alloc (.cells #[] 41)) w.heap.size (.slice (some ⟨w.heap.size,0,none⟩) 0 0) [] X:=⟨[],ho0,fun i hi=>absurd hi (by simp)⟩
  obtain ⟨v1,w1,hr1,ho1,hg1,-⟩:=hE0.apps hb1.size (h.step hb1) (by simp;omega) (fun b _ hx e=>by cases e;exact absurd (hX _ hx) (Nat.lt_irrefl _))
  rw [List.nil_append] at ho1
  have hb2:=hb1.grown hg1 hb1.size (fun k hk=>by cases hk;exact Nat.le_refl _)
  have Hr1:=Lib.hid hr1
  have hnil:=fun w=>run_eql_slice_nil (P:=Tryz.prog) w 48 41 (some a) n c Tryz.underlying48
  clear hr1 ho0 hg1 hb1 h hE0 hX
  go_enter Tryz.func60,Tryz.ntmps60
  go_wp2_with ((with_reducible show wpList _ _ _ (⟨some 7,.call _,_,_,_,_⟩::_) _ _);refine wpList_run rfl v1 w1 (run_append_op (.tmp 5) (.tmp 6) 48 rfl _ _ rfl rfl Hr1.out) ?_;simp only [Act.put,List.setIfInBounds_toArray,List.set_cons_succ,List.set_cons_zero])
  go_ret
  exact ⟨v1,rfl,ho1,hb2⟩
set_option maxHeartbeats 4000000 in
set_option maxRecDepth 100000 in
theorem mall_any (Z:Nat→Prop) (lo g:Nat) (R:MdR) (m:MoV) (W:World) (h:Md Z lo g R m W) (n:Int) (hm:m.ents.length≤1000000000) :
  Calls Tryz.prog 36 #[.pointer (some ⟨g,0,none⟩),.int .i64 n] W fun e w'=>∃ g1 g2 A c,e = .returned (.func (.func 64) #[] #[.pointer (some ⟨g1,0,none⟩),.pointer (some ⟨g2,0,none⟩)]) ∧
   Blk w' g1 48 #[.slice A (m.ents.drop (max n 0).toNat).length c]∧Blk w' g2 2 #[.int .i64 (max n 0)]∧W.heap.size≤g1∧W.heap.size≤g2∧Es w' (fun _=>True) A (m.ents.drop (max n 0).toNat).length c (m.ents.drop (max n 0).toNat)∧Below W.heap.size W w':=by
 obtain ⟨f,hf⟩:∃ f:Nat,max n 0=(f:Int):=⟨(max n 0).toNat,by omega⟩
 rw [hf,Int.toNat_natCast]
 obtain ⟨w3,hw3⟩:∃ x,((W.alloc (.cells #[.int .i64 (f:Int)] 2)).alloc (.cells #[.slice none 0 0] 48))=x:=⟨_,rfl⟩
 have B3:Below W.heap.size W w3:=by rw [← hw3];exact ((Below.refl _ _).alloc (Nat.le_refl _) _).alloc (by simp) _
 have k3:Blk w3 W.heap.size 2 #[.int .i64 (f:Int)]:=by rw [← hw3];exact (Blk.new _ _ _).alloc _
 have k5:Blk w3 (W.heap.size+1) 48 #[.slice none 0 0]:=by rw [← hw3];exact Blk.new' _ _ _ _ (by simp)
 have h3:=h.step B3
 obtain ⟨Ae,ce,hee,hes0⟩:=h.ents.esW (Y:=(·<W.heap.size)) (fun b hb=>(h.ents.lt b hb).2) (fun b hb _=>hb)
 have hes3:=hes0.step B3
 have hre:=hes3.room
 have hme:=hes3.max
 unfold maxLen at hme
 have c3:∀ s:InC (fun W'=>Below w3.heap.size w3 W'),s.W.cell? ⟨W.heap.size,0,none⟩=some (.int .i64 (f:Int)):=fun s=>by rw [(k3.step s.ok).cell];rfl
 obtain ⟨ne,hne⟩:∃ x,m.ents.length=x:=⟨_,rfl⟩
 have hsz:∀ W',Below w3.heap.size w3 W'→Calls Tryz.prog 32 #[.pointer (some ⟨g,0,none⟩)] W' fun e w'=>e = .returned (.int .i64 (ne:Int))∧w'=W':=fun W' hb=>by rw [← hne];exact msize_any (h3.step hb)
 rw [hne] at hm hee hes3 hre
 have Hne:=Lib.hid hne
 have Hsz:=Lib.hid hsz
 have Hw3:=Lib.hid hw3
 clear hsz hw3 hne
 have hS:Below w3.heap.size w3 w3.drew:=(Below.refl _ _).drew
 by_cases hlt:f<ne
 ·have hd:decide ((f:Int)<(ne:Int))=true:=by simp;omega
  go_enter Tryz.func36,Tryz.ntmps36
  go_upto_region 3 with fail
  rw [Hw3.out]
  refine wp_region_mix (fun W=>Below w3.heap.size w3 W) [(0,true),(1,true),(2,false),(3,true)] (by kernel_rfl) (by kernel_rfl) hS fun _=>?_
  simp only [List.map_cons,List.map_nil,Array.getD_eq_getD_getElem?,List.getElem?_toArray,List.getElem?_cons_succ,List.getElem?_cons_zero,Option.getD_some]
  generalize w3.drew=Z0 at hS ⊢
  iterate 2 (refine wpMix_s (fun K hK=>?_);go_simp;refine hK _ ?_;clear hK K)
  refine wpMix_c (fun K hK=>?_) hS
  go_simp
  refine (Hsz.out Z0 hS).mono ?_
  rintro e Z0e ⟨rfl,hww⟩
  obtain rfl:=hww.symm
  refine hK _ _ ?_
  clear hK K
  refine ⟨hS,?_⟩
  (refine wpMix_s (fun K hK=>?_);go_simp;refine hK _ ?_;clear hK K)
  refine wpMix_nil ?_
  intro _
  have h4:=h3.step hS
  have k34:=k3.step hS
  have k54:=k5.step hS
  have B4:=B3.trans (hS.mono B3.size)
  have cE:∀ s:InC (fun V=>Below Z0.heap.size Z0 V),s.W.cell? ⟨g,0,none⟩=some (.slice Ae ne ce):=fun s=>((h4.step s.ok).cell 0 (by decide)).trans (congrArg some hee)
  have c3':∀ s:InC (fun V=>Below Z0.heap.size Z0 V),s.W.cell? ⟨W.heap.size,0,none⟩=some (.int .i64 (f:Int)):=fun s=>by rw [(k34.step s.ok).cell];rfl
  have hdr:=((hes3.step hS).drop f (by omega)).weak (Y:=(·<W.heap.size)) fun b _ hx=>hx
  obtain ⟨Ad,hAd⟩:∃ x,(if ce=f then Ae else Ae.map (·.add (f*1)))=x:=⟨_,rfl⟩
  rw [hAd] at hdr
  have hz4:=B4.size
  have hcl:=fun V (hb:Below Z0.heap.size Z0 V)=>clonee_any (m.ents.drop f) (·<W.heap.size) Ad (ne - f) (ce - f) V (hdr.i.step hb) (by omega) (fun b hx=>by have hx:b<W.heap.size:=hx;have:=hb.size;omega)
  have Hcl:=Lib.hid hcl
  have Had:=Lib.hid hAd
  have HB4:=Lib.hid B4
  have hT:Below Z0.heap.size Z0 Z0.drew:=(Below.refl _ _).drew
  have hz5:=k54.lt
  clear hcl hAd B4 h4 hdr hes3 hes0 hee c3 h h3 B3 hS Hsz k3 k5
  go_wp2_with fail
  refine wp_region_mix_last (fun W=>Below Z0.heap.size Z0 W) 8 [(0,true),(1,true),(2,true),(3,true),(4,true),(5,true),(6,true),(7,false)] (by kernel_rfl) (by kernel_rfl) hT fun _=>?_
  simp only [List.map_cons,List.map_nil,Array.getD_eq_getD_getElem?,List.getElem?_toArray,List.getElem?_cons_succ,List.getElem?_cons_zero,Option.getD_some]
  generalize Z0.drew=Z1 at hT ⊢
  iterate 6 (refine wpMix_s (fun K hK=>?_);go_simp;refine hK _ ?_;clear hK K)
  refine wpMix_v (by kernel_rfl) (.slice Ad (ne - f) (ce - f)) (fun s=>by rw [← Had.out];exact run_slice_loB (.tmp 16) (.tmp 17) rfl Ae ne ce f rfl rfl (by omega) s.W) ?_
  simp only [Act.put,List.setIfInBounds_toArray,List.set_cons_succ,List.set_cons_zero]
  refine wpMix_c (fun K hK=>?_) hT
  go_simp
  refine (Hcl.out Z1 hT).mono ?_
  rintro e Z1_1 ⟨v,rfl,ho,hb'⟩
  refine hK _ _ ?_
  clear hK K
  replace hT:=hT.trans (hb'.mono hT.size)
  refine ⟨hT,?_⟩
  clear hb'
  refine wpMix_nil ?_
  intro _
  simp only [List.drop_succ_cons,List.drop_zero]
  have k55:=k54.step hT
  have c5:Z1_1.cell? ⟨W.heap.size+1,0,none⟩=some (.slice none 0 0):=by rw [k55.cell];rfl
  have f5:=k55.frozen 0
  obtain ⟨A9,c9,rfl,hi9⟩:=ho.i
  have hN:(m.ents.drop f).length=ne - f:=by rw [List.length_drop,Hne.out]
  obtain ⟨Y,hY⟩:∃ x,Z1_1.setCell ⟨W.heap.size+1,0,none⟩ (.slice A9 (m.ents.drop f).length c9)=x:=⟨_,rfl⟩
  have k5Y:Blk Y (W.heap.size+1) 48 #[.slice A9 (m.ents.drop f).length c9]:=by rw [← hY];exact k55.set_ 0 _
  have k3Y:Blk Y W.heap.size 2 #[.int .i64 (f:Int)]:=by rw [← hY];exact (k34.step hT).apart (by omega) _
  have hgY:KB (fun b=>b=W.heap.size+1) Z1_1 Y:=by rw [← hY];exact KB.of_grown (grown_setCell (World.grownBy.refl _ _) 0 _) fun r e=>(Option.some.inj e).symm
  have hBY:Below W.heap.size W Y:=(HB4.out.trans (hT.mono hz4)).trans (hgY.below (fun b e=>by omega) (by have:=hT.size;omega))
  have hEY:EsO Y Z1.heap.size (.slice A9 (m.ents.drop f).length c9) (m.ents.drop f) (·<W.heap.size):=ho.kb hgY (fun b hb e=>by subst e;exact own_ty ho.ex.choose_spec.1 k55 (by decide) hb) (fun b _ hb e=>by have hb:b<W.heap.size:=hb;omega)
  obtain ⟨Ax,cx,hex,hesY⟩:=hEY.es
  injection hex with e1 e2 e3
  subst e1 e3
  clear e2
  have HY:=Lib.hid hY
  have HK5:=Lib.hid k5Y
  have HK3:=Lib.hid k3Y
  have HBY:=Lib.hid hBY
  have HEY:=Lib.hid hesY
  clear hY k5Y k3Y hgY hBY hEY hesY ho hi9 k55 k54 k34 cE c3' hT hN HB4 Hcl
  refine wpList_put1i rfl 48 (.tmp 5) (.tmp 19) rfl sizeEs ⟨W.heap.size+1,0,none⟩ (.slice A9 (m.ents.drop f).length c9) rfl rfl rfl _ c5 f5 ?_
  rw [HY.out]
  simp only [Act.put]
  refine np_normal ?_
  go_wp2_with fail
  go_ret
  exact ⟨_,_,_,_,rfl,HK5.out,HK3.out,by omega,Nat.le_refl _,HEY.out,HBY.out⟩
 ·have hd:decide ((f:Int)<(ne:Int))=false:=by simp;omega
  go_enter Tryz.func36,Tryz.ntmps36
  go_upto_region 3 with fail
  rw [Hw3.out]
  refine wp_region_mix (fun W=>Below w3.heap.size w3 W) [(0,true),(1,true),(2,false),(3,true)] (by kernel_rfl) (by kernel_rfl) hS fun _=>?_
  simp only [List.map_cons,List.map_nil,Array.getD_eq_getD_getElem?,List.getElem?_toArray,List.getElem?_cons_succ,List.getElem?_cons_zero,Option.getD_some]
  generalize w3.drew=Z0 at hS ⊢
  iterate 2 (refine wpMix_s (fun K hK=>?_);go_simp;refine hK _ ?_;clear hK K)
  refine wpMix_c (fun K hK=>?_) hS
  go_simp
  refine (Hsz.out Z0 hS).mono ?_
  rintro e Z0e ⟨rfl,hww⟩
  obtain rfl:=hww.symm
  refine hK _ _ ?_
  clear hK K
  refine ⟨hS,?_⟩
  (refine wpMix_s (fun K hK=>?_);go_simp;refine hK _ ?_;clear hK K)
  refine wpMix_nil ?_
  intro _
  have k34:=k3.step hS
  have k54:=k5.step hS
  have B4:=B3.trans (hS.mono B3.size)
  have hdr:m.ents.drop f=[]:=List.drop_of_length_le (by rw [Hne.out];omega)
  have Hdr:=Lib.hid hdr
  have HK5:=Lib.hid k54
  have HK3:=Lib.hid k34
  have HBY:=Lib.hid B4
  clear k34 k54 B4 hdr c3 h h3 B3 hS Hsz k3 k5
  go_wp2_with fail
  go_ret
  rw [Hdr.out,show m.ents.length - f=0 by rw [Hne.out];omega]
  exact ⟨_,_,rfl,_,_,HK5.out,HK3.out,Nat.le_succ _,Nat.le_refl _,⟨⟨[],SlV.empty,fun i hi=>absurd hi (by simp)⟩,rfl⟩,HBY.out⟩
end Go.Proofs.YtdjhoankkddomaaGreat
