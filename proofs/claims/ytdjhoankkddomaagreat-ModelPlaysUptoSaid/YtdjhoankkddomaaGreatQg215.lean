import Derived.Test.YtdjhoankkddomaaGreatQg214
import Derived.Test.YtdjhoankkddomaaGreatQg205
import Derived.Test.YtdjhoankkddomaaGreatQg212
import Derived.Test.YtdjhoankkddomaaGreatQg210
import Derived.Test.YtdjhoankkddomaaGreatQg209
import Derived.Great.BuildSlice
import Derived.Test.YtdjhoankkddomaaGreatQg211
namespace Go.Proofs.YtdjhoankkddomaaGreat
open Go Go.RowKit
theorem wpAnyIn_of_any {F:Fence} (hF:Fence.Open F) {n:Nat} {P:Program} {md:Region.Mode} {ops:Array Oper} {Q:Exit→Act→World→Prop} (hd:noDefer ops.toList=true) (hout:∀ a w,¬ Q .outgrown a w):∀ (fuel:Nat) (listed:Array Bool) (a:Act) (w:World),
  wpAny P md ops (NoPanic Q) fuel listed a w→wpAnyIn F n P md ops (NoPanic Q) fuel listed a w
 | 0,_,_,_,h=>h
 | fuel+1,listed,a,w,h=>by
  refine ⟨h.1,fun i hi=>?_⟩
  have h1:=h.2 i hi
  unfold wpOp at h1
  unfold wpOpIn
  split at h1
  ·rename_i ho
   rw [ho]
   exact wpAnyIn_of_any hF hd hout fuel _ _ _ h1
  ·rename_i o ho
   rw [ho]
   dsimp only
   have hm:o ∈ ops.toList:=by
    obtain ⟨hl,he⟩:=Array.getElem?_eq_some_iff.1 ho
    rw [← he]
    simp
   split
   ·rename_i hw
    rw [if_pos hw] at h1
    rcases h1 with h1|⟨_,a',w',h1⟩
    ·refine Oper.wpIn_of_wp hF (noDefer_op hd o hm) (Oper.wp_mono (fun a w=>wpAnyIn_of_any hF hd hout fuel _ a w) h1)
    ·exact (hout a' w' h1).elim
   ·rename_i hw
    rw [if_neg hw] at h1
    exact ⟨fun f _=>hF.fn_ f,wpAnyIn_of_any hF hd hout fuel _ _ _ h1⟩
theorem wpIn_region_begin {P:Program} {id:Nat} {Q:Exit→Act→World→Prop} {a:Act} {w:World} {l:List Oper} {F:Fence} {m:Nat} (hF:Fence.Open F) (hnd:noDefer l=true) (hout:∀ a w,¬ Q .outgrown a w) (S:World→Prop) (hm:P.follows .mixedOrders=true) (hS:S w.drew)
  (h:Nonempty (InC S)→wpAnyH P .any l.toArray (NoPanic Q) S l.length (Array.replicate l.length false) a w.drew):(Code.region id l.toArray true).wpIn F m P Q a w:=by
 refine wpIn_mono (Q:=NoPanic Q) (wpIn_region_any hm (wpAnyIn_of_any hF (by simpa using hnd) hout _ _ _ _ ?_)) NoPanic.imp
 have:=wpAny_of_held _ _ _ _ (h ⟨⟨_,hS⟩⟩)
 simpa using this
theorem wpIn_region_mix0 {P:Program} {id:Nat} {Q:Exit→Act→World→Prop} {a:Act} {w:World} {l:List Oper} {F:Fence} {m:Nat} (hF:Fence.Open F) (hnd:noDefer l=true) (hout:∀ a w,¬ Q .outgrown a w) (S:World→Prop) (order:List (Nat × Bool)) (hm:P.follows .mixedOrders=true)
  (hB:(Region.noSelect l.toArray&&(order.length==l.length)&&((mixTo l.toArray order (Array.replicate l.length false)).map fun x=>(Region.ready .any l.toArray x).isEmpty).getD false)=true) (hS:S w.drew)
  (h:Nonempty (InC S)→wpMix0 P l.toArray S Q (fun a w=>S w→Q .normal a w) (order.map fun x=>(l.toArray.getD x.1 default,x.2)) a w.drew):(Code.region id l.toArray true).wpIn F m P Q a w:=by
 simp only [Bool.and_eq_true,beq_iff_eq] at hB
 obtain ⟨⟨hsel,hlen⟩,hmix⟩:=hB
 refine wpIn_region_begin hF hnd hout S hm hS fun hne=>?_
 cases hx:mixTo l.toArray order (Array.replicate l.length false) with
 | none=>rw [hx] at hmix;cases hmix
 | some listed' =>
  rw [hx] at hmix
  have hmono:∀ (m:List (Oper × Bool)) (K K':Act→World→Prop) (hK:∀ a w,K a w→K' a w) (a:Act) (w:World),wpMix0 P l.toArray S Q K m a w→wpMix0 P l.toArray S Q K' m a w:=by
   intro m K K' hK
   induction m with
   | nil=>exact fun a w h=>hK a w h
   | cons x m ih =>
    obtain ⟨o,b⟩:=x
    intro a w h
    cases b with
    | true =>
     simp only [wpMix0] at h ⊢
     split
     ·rename_i hw;rw [if_pos hw] at h;obtain ⟨v,h1,h2⟩:=h;exact ⟨v,h1,ih _ _ h2⟩
     ·rename_i hw;rw [if_neg hw] at h;exact ih _ _ h
    | false =>
     simp only [wpMix0] at h ⊢
     split
     ·rename_i hw;rw [if_pos hw] at h;exact Oper.wp_mono (fun a' w' ⟨h1,h2⟩=>⟨h1,ih _ _ h2⟩) h
     ·rename_i hw;rw [if_neg hw] at h;exact ih _ _ h
  have:=wpAnyH_pre0 (P:=P) (Q:=Q) (S:=S) hsel 0 listed' order (Array.replicate l.length false) a w.drew hx hS
   (hmono _ _ _ (fun a' w' h' hs=>wpAnyH_end hmix (h' hs)) _ _ (h hne))
  rw [Nat.add_zero,hlen] at this
  exact this
theorem wpIn_region_mix {P:Program} {id:Nat} {Q:Exit→Act→World→Prop} {a:Act} {w:World} {l:List Oper} {F:Fence} {m:Nat} (hF:Fence.Open F) (hnd:noDefer l=true) (hout:∀ a w,¬ Q .outgrown a w) (S:World→Prop) (order:List (Nat × Bool)) (hm:P.follows .mixedOrders=true)
  (hB:(Region.noSelect l.toArray&&(order.length==l.length)&&((mixTo l.toArray order (Array.replicate l.length false)).map fun x=>(Region.ready .any l.toArray x).isEmpty).getD false)=true) (hS:S w.drew)
  (h:Nonempty (InC S)→wpMix P l.toArray S Q (fun a w=>S w→Q .normal a w) (order.map fun x=>(l.toArray.getD x.1 default,x.2)) a w.drew):(Code.region id l.toArray true).wpIn F m P Q a w :=
 wpIn_region_mix0 hF hnd hout S order hm hB hS fun hne=>(h hne).out
end Go.Proofs.YtdjhoankkddomaaGreat
namespace Go.Proofs.YtdjhoankkddomaaGreat
open Go
section
variable {P:Program} {ops:Array Oper} {Q:Exit→Act→World→Prop} {md:Region.Mode} {S:World→Prop} {k:Nat}
def wpAnyT (P:Program) (md:Region.Mode) (ops:Array Oper) (Q:Exit→Act→World→Prop) (S:World→Prop) (k:Nat):Nat→Array Bool→Act→World→Prop
 | 0,listed,a,w=>Region.ready md ops listed=[]∧Q .normal a w
 | fuel+1,listed,a,w =>
  (Region.ready md ops listed=[]→Q .normal a w) ∧
  ∀ i ∈ Region.ready md ops listed,wpOp P ops Q i (fun a' w'=>(i<k→S w')∧wpAnyT P md ops Q S k fuel (listed.setIfInBounds i true) a' w') a w
theorem wpAny_of_T:∀ (fuel:Nat) (listed:Array Bool) (a:Act) (w:World),wpAnyT P md ops Q S k fuel listed a w→wpAny P md ops Q fuel listed a w
 | 0,_,_,_,h=>h
 | fuel+1,_,_,_,h=>⟨h.1,fun i hi=>wpOp_mono (fun a' w' h'=>wpAny_of_T fuel _ a' w' h'.2) (h.2 i hi)⟩
def Cl (md:Region.Mode) (ops:Array Oper) (listed:Array Bool):Prop:=∀ m om,ops[m]?=some om→listed.getD m false=true→∀ e ∈ om.after,Region.binds md e=true→listed.getD e.on false=true
theorem getD_set_up {listed:Array Bool} {j x:Nat} (h:listed.getD x false=true):(listed.setIfInBounds j true).getD x false=true:=by
 simp only [Array.getD_eq_getD_getElem?,Array.getElem?_setIfInBounds] at h ⊢
 split
 ·rename_i e
  subst e
  split
  ·rfl
  ·rename_i hx
   rw [Array.getElem?_eq_none (by omega)] at h
   exact h
 ·exact h
theorem Cl.put {listed:Array Bool} {j:Nat} (h:Cl md ops listed) (hj:j ∈ Region.ready md ops listed):Cl md ops (listed.setIfInBounds j true):=fun m om hm hl e he hb=>by
 by_cases e':j=m
 ·subst e'
  obtain ⟨_,oj,hoj,hall⟩:=mem_ready.1 hj
  rw [hm] at hoj
  cases hoj
  exact getD_set_up (hall e he hb)
 ·rw [getD_set_ne false e'] at hl
  exact getD_set_up (h m om hm hl e he hb)
def waitsF (md:Region.Mode) (ops:Array Oper):Nat→Nat→Nat→Bool
 | 0,k,i=>waitsB md ops k i
 | f+1,k,i=>waitsB md ops k i||(List.range ops.size).any fun m=>waitsB md ops k m&&waitsF md ops f m i
def waitsT (md:Region.Mode) (ops:Array Oper) (k i:Nat):Bool:=waitsF md ops 3 k i
theorem waitsF_spec {listed:Array Bool} {i:Nat} (hcl:Cl md ops listed):∀ (f j:Nat) (oj:Oper),ops[j]?=some oj→(∀ e ∈ oj.after,Region.binds md e=true→listed.getD e.on false=true)→waitsF md ops f j i=true→listed.getD i false=true
 | 0,j,oj,hoj,hall,h=>by
  obtain ⟨e,he,hb,ho⟩:=waits_spec hoj h
  rw [← ho]
  exact hall e he hb
 | f+1,j,oj,hoj,hall,h=>by
  simp only [waitsF,Bool.or_eq_true] at h
  rcases h with h|h
  ·obtain ⟨e,he,hb,ho⟩:=waits_spec hoj h
   rw [← ho]
   exact hall e he hb
  ·obtain ⟨m,hm,h⟩:=List.any_eq_true.1 h
   rw [Bool.and_eq_true] at h
   obtain ⟨e,he,hb,ho⟩:=waits_spec hoj h.1
   have hl:=hall e he hb
   rw [ho] at hl
   have hms:m<ops.size:=List.mem_range.1 hm
   exact waitsF_spec hcl f m _ (Array.getElem?_eq_getElem hms) (fun e2 he2 hb2=>hcl m _ (Array.getElem?_eq_getElem hms) hl e2 he2 hb2) h.2
theorem waitsT_spec {listed:Array Bool} {j i:Nat} {oj:Oper} (hcl:Cl md ops listed) (hoj:ops[j]?=some oj) (hall:∀ e ∈ oj.after,Region.binds md e=true→listed.getD e.on false=true) (h:waitsT md ops j i=true):listed.getD i false=true :=
 waitsF_spec hcl 3 j oj hoj hall h
theorem wpAnyT_first {i:Nat} {oi:Oper} {v:Value} (hi:ops[i]?=some oi) (hsel:∀ (j:Nat) (o:Oper) cs b,ops[j]?=some o→o.op ≠ .select cs b) (hw:∀ j,k≤j→j<ops.size→waitsT md ops j i=true)
  (hQ:∀ c a w,Q (.panic c) (a.put oi.dst v) w→Q (.panic c) a w) :
  ∀ (fuel:Nat) (listed:Array Bool) (a:Act) (w:World),Cl md ops listed →
   (∀ j oj,ops[j]?=some oj→j≠i→listed.getD j true=false→(∀ e ∈ oj.after,Region.binds md e=true→e.on≠i)→oi.apart ops oj=true) →
   i ∈ Region.ready md ops listed→YieldsIf P ops S oi v a→S w →
   wpAnyT P md ops Q S k fuel (listed.setIfInBounds i true) (a.put oi.dst v) w→wpAnyT P md ops Q S k (fuel+1) listed a w:=by
 intro fuel
 induction fuel with
 | zero =>
  intro listed a w _ _ hr hy hS H
  refine ⟨fun h=>(by rw [h] at hr;cases hr),fun j hj=>?_⟩
  by_cases hji:j=i
  ·subst hji;exact hy.wpOp hi hS ⟨fun _=>hS,H⟩
  ·have:=ready_mono hj hji
   rw [H.1] at this
   cases this
 | succ fuel ih =>
  intro listed a w hcl hfree hr hy hS H
  refine ⟨fun h=>(by rw [h] at hr;cases hr),fun j hj=>?_⟩
  by_cases hji:j=i
  ·subst hji;exact hy.wpOp hi hS ⟨fun _=>hS,H⟩
  ·have h1:=H.2 j (ready_mono hj hji)
   obtain ⟨hjun,oj,hoj,hall⟩:=mem_ready.1 hj
   have hnot:∀ e ∈ oj.after,Region.binds md e=true→e.on≠i:=fun e he hb heq=>by
    have h1:=hall e he hb
    have h0:=(mem_ready.1 hr).1
    rw [heq] at h1
    rcases Nat.lt_or_ge i listed.size with h'|h'
    ·simp [h'] at h0 h1;rw [h0] at h1;cases h1
    ·simp [Array.getElem?_eq_none h'] at h1
   have hjk:j<k:=by
    rcases Nat.lt_or_ge j k with h'|h'
    ·exact h'
    ·exfalso
     have hl:=waitsT_spec hcl hoj hall (hw j h' (Array.getElem?_eq_some_iff.1 hoj).1)
     have h0:=(mem_ready.1 hr).1
     rcases Nat.lt_or_ge i listed.size with h'|h'
     ·simp [h'] at h0 hl;rw [h0] at hl;cases hl
     ·simp [Array.getElem?_eq_none h'] at hl
   have h2:=wpOp_putIf hoj (hfree j oj hoj hji hjun hnot) (fun cs b=>hsel i oi cs b hi) (fun cs b=>hsel j oj cs b hoj) hQ hy h1
   have hfree':∀ m ok,ops[m]?=some ok→m≠i→(listed.setIfInBounds j true).getD m true=false →
     (∀ e ∈ ok.after,Region.binds md e=true→e.on≠i)→oi.apart ops ok=true:=fun m ok hm hmi hun hno=>by
    refine hfree m ok hm hmi ?_ hno
    by_cases hjm:j=m
    ·subst hjm;exact hjun
    ·rw [getD_set_ne true hjm] at hun;exact hun
   refine wpOp_mono (fun a' w' h3=>⟨fun _=>h3.2.1 hjk,ih (listed.setIfInBounds j true) a' w' (hcl.put hj) hfree' (ready_mono hr (Ne.symm hji)) h3.1 (h3.2.1 hjk) ?_⟩) h2
   rw [Array.setIfInBounds_comm _ _ hji]
   exact h3.2.2
theorem wpAnyT_pre (hsel:Region.noSelect ops=true) (f:Nat) (listed':Array Bool):∀ (l:List (Nat × Bool)) (listed:Array Bool) (a:Act) (w:World),mixTo ops l listed=some listed' →
  (l.all fun x=>(decide (x.1<k))&&(!x.2||((List.range ops.size).all fun j=>decide (j<k)||waitsT .any ops j x.1)))=true→Cl .any ops listed→S w →
  wpMix0 P ops S Q (fun a w=>S w→wpAnyT P .any ops (NoPanic Q) S k f listed' a w) (l.map fun x=>(ops.getD x.1 default,x.2)) a w→wpAnyT P .any ops (NoPanic Q) S k (l.length+f) listed a w
 | [],listed,a,w,hB,_,_,hS,h=>by
  simp only [mixTo,Option.some.injEq] at hB
  subst hB
  simpa using h hS
 | (i,true)::l,listed,a,w,hB,hall,hcl,hS,h=>by
  simp only [List.all_cons,Bool.and_eq_true,Bool.not_true,Bool.false_or] at hall
  simp only [mixTo] at hB
  split at hB
  case isFalse=>cases hB
  rename_i hB0
  simp only [Bool.and_eq_true] at hB0
  obtain ⟨hr,hf⟩:=hB0
  have hr':i ∈ Region.ready .any ops listed:=by simpa using hr
  obtain ⟨_,oi,hoi,_⟩:=mem_ready.1 hr'
  have hget:ops.getD i default=oi:=by simp [hoi]
  simp only [List.map_cons,wpMix0,hget] at h
  have hy:∃ v,YieldsIf P ops S oi v a∧wpMix0 P ops S Q (fun a w=>S w→wpAnyT P .any ops (NoPanic Q) S k f listed' a w) (l.map fun x=>(ops.getD x.1 default,x.2)) (a.put oi.dst v) w:=by
   by_cases hw:Region.wanted oi (yielded ops a.tmps)=true
   ·rw [if_pos hw] at h
    obtain ⟨v,h1,h2⟩:=h
    exact ⟨v,.inl ⟨hw,fun w' hw'=>h1 ⟨w',hw'⟩⟩,h2⟩
   ·rw [if_neg hw] at h
    exact ⟨undef,.inr ⟨by simpa using hw,rfl⟩,h⟩
  obtain ⟨v,hy,h2⟩:=hy
  have:=wpAnyT_first hoi (Region.noSelect_spec hsel) (fun j hkj hj=>by have:=List.all_eq_true.1 hall.1.2 j (List.mem_range.2 hj);simp only [Bool.or_eq_true,decide_eq_true_eq] at this;rcases this with h'|h';exact absurd h' (by omega);exact h') (fun _ _ _ hp=>hp) (l.length+f) listed a w hcl (Region.free_spec hoi hf) hr' hy hS
   (wpAnyT_pre hsel f listed' l _ _ w hB hall.2 (hcl.put hr') hS h2)
  rw [List.length_cons,show l.length+1+f=l.length+f+1 by omega]
  exact this
 | (i,false)::l,listed,a,w,hB,hall,hcl,hS,h=>by
  simp only [List.all_cons,Bool.and_eq_true] at hall
  simp only [mixTo] at hB
  split at hB
  case isFalse=>cases hB
  rename_i hB0
  have hr:Region.ready .any ops listed=[i]:=by simpa using hB0
  have hr':i ∈ Region.ready .any ops listed:=by rw [hr];simp
  obtain ⟨_,oi,hoi,_⟩:=mem_ready.1 hr'
  have hget:ops.getD i default=oi:=by simp [hoi]
  simp only [List.map_cons,wpMix0,hget] at h
  rw [List.length_cons,show l.length+1+f=l.length+f+1 by omega]
  refine ⟨fun h0=>(by rw [h0] at hr;cases hr),fun j hj=>?_⟩
  rw [hr] at hj
  obtain rfl:j=i:=by simpa using hj
  unfold wpOp
  simp only [hoi]
  by_cases hw:Region.wanted oi (yielded ops a.tmps)=true
  ·rw [if_pos hw] at h ⊢
   exact .inl (Oper.wp_mono (fun a' w' ⟨h1,h2⟩=>⟨fun _=>h1,wpAnyT_pre hsel f listed' l _ a' w' hB hall.2 (hcl.put hr') h1 h2⟩) h)
  ·rw [if_neg hw] at h ⊢
   exact ⟨fun _=>hS,wpAnyT_pre hsel f listed' l _ _ w hB hall.2 (hcl.put hr') hS h⟩
end
def tailOk (ops:Array Oper):Nat→Nat→Array Bool→Bool
 | 0,_,listed=>(Region.ready .any ops listed).isEmpty
 | d+1,j,listed=>(Region.ready .any ops listed==[j])&&tailOk ops d (j+1) (listed.setIfInBounds j true)
theorem wpAnyT_tail {P:Program} {Q:Exit→Act→World→Prop} {S:World→Prop} {l:List Oper} {k:Nat}:∀ (d j:Nat) (listed:Array Bool) (a:Act) (w:World),k≤j→j+d=l.length→tailOk l.toArray d j listed=true →
  wpList P l.toArray (NoPanic Q) (l.drop j) a w→wpAnyT P .any l.toArray (NoPanic Q) S k d listed a w
 | 0,j,listed,a,w,_,hl,hB,h=>by
  rw [List.drop_eq_nil_of_le (by omega)] at h
  exact ⟨by simpa [tailOk] using hB,h⟩
 | d+1,j,listed,a,w,hkj,hl,hB,h=>by
  simp only [tailOk,Bool.and_eq_true,beq_iff_eq] at hB
  obtain ⟨hr,hB⟩:=hB
  have ho:l.toArray[j]?=some (l[j]'(by omega)):=by simp [List.getElem?_eq_getElem (show j<l.length by omega)]
  rw [List.drop_eq_getElem_cons (show j<l.length by omega)] at h
  refine ⟨fun h0=>(by rw [h0] at hr;cases hr),fun i hi=>?_⟩
  rw [hr] at hi
  obtain rfl:i=j:=by simpa using hi
  unfold wpList at h
  unfold wpOp
  simp only [ho]
  split
  ·rename_i hw
   rw [if_pos hw] at h
   exact h.imp (Oper.wp_mono (fun a'' w'' hq=>⟨fun hne=>absurd hne (by omega),wpAnyT_tail d (i+1) _ _ _ (by omega) (by omega) hB hq⟩)) (fun h=>h)
  ·rename_i hw
   rw [if_neg hw] at h
   exact ⟨fun hne=>absurd hne (by omega),wpAnyT_tail d (i+1) _ _ _ (by omega) (by omega) hB h⟩
theorem wpMix0_mono {P:Program} {ops:Array Oper} {Q:Exit→Act→World→Prop} {S:World→Prop}:∀ (m:List (Oper × Bool)) (K K':Act→World→Prop) (_:∀ a w,K a w→K' a w) (a:Act) (w:World),wpMix0 P ops S Q K m a w→wpMix0 P ops S Q K' m a w:=by
 intro m K K' hK
 induction m with
 | nil=>exact fun a w h=>hK a w h
 | cons x m ih =>
  obtain ⟨o,b⟩:=x
  intro a w h
  cases b with
  | true =>
   simp only [wpMix0] at h ⊢
   split
   ·rename_i hw;rw [if_pos hw] at h;obtain ⟨v,h1,h2⟩:=h;exact ⟨v,h1,ih _ _ h2⟩
   ·rename_i hw;rw [if_neg hw] at h;exact ih _ _ h
  | false =>
   simp only [wpMix0] at h ⊢
   split
   ·rename_i hw;rw [if_pos hw] at h;exact Oper.wp_mono (fun a' w' ⟨h1,h2⟩=>⟨h1,ih _ _ h2⟩) h
   ·rename_i hw;rw [if_neg hw] at h;exact ih _ _ h
def mixTailOk (l:List Oper) (n:Nat) (order:List (Nat × Bool)):Bool :=
 Region.noSelect l.toArray&&(order.length==n)&&(decide (n≤l.length))&&(order.all fun x=>(decide (x.1<n))&&(!x.2||((List.range l.toArray.size).all fun j=>decide (j<n)||waitsT .any l.toArray j x.1))) &&
  ((mixTo l.toArray order (Array.replicate l.length false)).map fun x=>tailOk l.toArray (l.length - n) n x).getD false
theorem wpAny_mix_tail {P:Program} {Q:Exit→Act→World→Prop} {a:Act} {w:World} {l:List Oper} (S:World→Prop) (n:Nat) (order:List (Nat × Bool)) (hB:mixTailOk l n order=true) (hS:S w.drew)
  (h:Nonempty (InC S)→wpMix0 P l.toArray S Q (fun a w=>S w→wpList P l.toArray (NoPanic Q) (l.drop n) a w) (order.map fun x=>(l.toArray.getD x.1 default,x.2)) a w.drew) :
  wpAny P .any l.toArray (NoPanic Q) l.length (Array.replicate l.length false) a w.drew:=by
 unfold mixTailOk at hB
 simp only [Bool.and_eq_true,beq_iff_eq,decide_eq_true_eq] at hB
 obtain ⟨⟨⟨⟨hsel,hlen⟩,hn⟩,hall⟩,hmix⟩:=hB
 cases hx:mixTo l.toArray order (Array.replicate l.length false) with
 | none=>rw [hx] at hmix;cases hmix
 | some listed' =>
  rw [hx] at hmix
  simp only [Option.map_some,Option.getD_some] at hmix
  have:=wpAnyT_pre (P:=P) (Q:=Q) (S:=S) (k:=n) hsel (l.length - n) listed' order (Array.replicate l.length false) a w.drew hx hall (fun m om hm hl=>by simp only [Array.getD_eq_getD_getElem?,Array.getElem?_replicate] at hl;split at hl <;> cases hl) hS
   (wpMix0_mono _ _ _ (fun a' w' h' hs=>wpAnyT_tail _ n _ _ _ (Nat.le_refl _) (by omega) hmix (h' hs)) _ _ (h ⟨⟨_,hS⟩⟩))
  have:=wpAny_of_T _ _ _ _ this
  rwa [hlen,show n+(l.length - n)=l.length by omega] at this
theorem wp_region_mix_tail {P:Program} {id:Nat} {Q:Exit→Act→World→Prop} {a:Act} {w:World} {l:List Oper} (S:World→Prop) (n:Nat) (order:List (Nat × Bool)) (hm:P.follows .mixedOrders=true) (hB:mixTailOk l n order=true) (hS:S w.drew)
  (h:Nonempty (InC S)→wpMix P l.toArray S Q (fun a w=>S w→wpList P l.toArray (NoPanic Q) (l.drop n) a w) (order.map fun x=>(l.toArray.getD x.1 default,x.2)) a w.drew):(Code.region id l.toArray true).wp P Q a w:=by
 refine Code.wp_mono (Q:=NoPanic Q) NoPanic.imp (wp_region_any hm ?_)
 have:=wpAny_mix_tail S n order hB hS fun hne=>(h hne).out
 simpa using this
end Go.Proofs.YtdjhoankkddomaaGreat
namespace Go.Proofs.YtdjhoankkddomaaGreat
open Go Go.RowKit
def markOf (D:Nat):Deferred:={ target := .collected D,args:=#[] }
structure MarksOk (N:Nat) (ds:List Nat) (w:World):Prop where
 at_:∀ D ∈ ds,N≤D∧w.heap[D]?=some (.deferred (some []))
 nd:ds.Nodup
theorem MarksOk.nil (N:Nat) (w:World):MarksOk N [] w:=⟨fun _ h=>(by cases h),List.nodup_nil⟩
theorem MarksOk.lt {N:Nat} {ds:List Nat} {w:World} (h:MarksOk N ds w):∀ D ∈ ds,D<w.heap.size:=fun D hD=>(Array.getElem?_eq_some_iff.1 (h.at_ D hD).2).1
theorem MarksOk.step {N:Nat} {ds:List Nat} {w w':World} (h:MarksOk N ds w) (hb:Below w.heap.size w w'):MarksOk N ds w' :=
 ⟨fun D hD=>⟨(h.at_ D hD).1,(hb.block D (h.lt D hD)).trans (h.at_ D hD).2⟩,h.nd⟩
theorem MarksOk.grown {N:Nat} {ds:List Nat} {w w':World} {row:Option Nat} (h:MarksOk N ds w) (hg:w.grownBy w' row) (hr:∀ D ∈ ds,some D≠row):MarksOk N ds w' :=
 ⟨fun D hD=>⟨(h.at_ D hD).1,(hg.block D (h.lt D hD) (hr D hD)).trans (h.at_ D hD).2⟩,h.nd⟩
theorem MarksOk.cell {N:Nat} {ds:List Nat} {w:World} {g:Nat} {t:TypeId} {cs:Array Value} (h:MarksOk N ds w) (hg:Blk w g t cs) (u:Value):MarksOk N ds (w.setCell ⟨g,0,none⟩ u) :=
 h.grown (grownBy_setCell' w g u) fun D hD e=>by
  have e:D=g:=Option.some.inj e
  subst e
  have:=(h.at_ D hD).2
  rw [show w.heap[D]?=_ from hg] at this
  cases this
theorem MarksOk.cons {N D:Nat} {ds:List Nat} {w:World} (h:MarksOk N ds w) (hN:N≤D) (hD:w.heap[D]?=some (.deferred (some []))) (hn:D ∉ ds):MarksOk N (D::ds) w :=
 ⟨fun D' h'=>by
  rcases List.mem_cons.1 h' with rfl|h'
  ·exact ⟨hN,hD⟩
  ·exact h.at_ _ h',List.nodup_cons.2 ⟨hn,h.nd⟩⟩
structure Taken (N:Nat) (w w':World):Prop where
 bel:Below N w w'
 blk:∀ g t cs,Blk w g t cs→Blk w' g t cs
theorem leaves_marks {F:Fence} {n:Nat} {P:Program} {fn:Func} {tmps:Array Value} {R:Ending→World→Prop} {N:Nat}:∀ (ds:List Nat) (w:World),MarksOk N ds w→(∀ w',Taken N w w'→∃ v,(results fn tmps).run P w' = .ok v w'∧R (.returned v) w') →
  LeavesInM F n P fn tmps R (ds.map markOf) .returning w
 | [],w,_,h=>by
  obtain ⟨v,h1,h2⟩:=h w ⟨Below.refl _ _,fun _ _ _ h=>h⟩
  exact ⟨v,h1,h2⟩
 | D::ds,w,hm,h=>by
  obtain ⟨hN,hD⟩:=hm.at_ D (by simp)
  have hnd:=List.nodup_cons.1 hm.nd
  have hb:Below N w (w.putObj D (.deferred none)):=⟨rfl,rfl,rfl,by simp,fun k hk=>World.putObj_heap_other (by omega)⟩
  refine ⟨by simp,.inl ⟨D,_,rfl,run_takeDeferred hD,leaves_marks ds _ ⟨fun D' h'=>⟨(hm.at_ D' (by simp [h'])).1,(World.putObj_heap_other (k:=D') (fun e=>hnd.1 (by rw [← e];exact h'))).trans (hm.at_ D' (by simp [h'])).2⟩,hnd.2⟩ fun w' ht=>h w' ⟨hb.trans ht.bel,fun g t cs hk=>ht.blk g t cs ?_⟩⟩⟩
  refine (World.putObj_heap_other (fun e=>?_)).trans hk
  subst e
  rw [show w.heap[g]?=_ from hk] at hD
  cases hD
theorem wp_share {P:Program} {c:Code} {Q:Exit→Act→World→Prop} {a:Act} {w:World} (R:Act→Act→World→Prop) (h1:c.wp P (fun e a' w'=>match e with | .normal=>R a a' w'|_=>False) a w) (h2:∀ a' w',R a a' w'→Q .normal a' w'):c.wp P Q a w :=
 Code.wp_mono (fun e a' w' h=>by cases e <;> first|exact h2 _ _ h|exact h.elim) h1
theorem wp_loop_us {P:Program} {c:Code} {Q:Exit→Act→World→Prop} {a:Act} {w:World} (J:(Nat→Value)→Act→World→Prop) (μ:Act→World→Nat) (h0:J (fun j=>a.tmps.toList.getD j undef) a w)
  (round:∀ us a w,J us a w→c.wp P (Exit.then (fun a' w'=>J (fun j=>a'.tmps.toList.getD j undef) a' w'∧μ a' w'<μ a w) Q) a w):(Code.loop c).wp P Q a w :=
 wp_loop (fun a w=>∃ us,J us a w) μ ⟨_,h0⟩ fun a w ⟨us,h⟩=>Code.wp_mono (fun e a' w' h=>by cases e <;> first|exact ⟨⟨_,h.1⟩,h.2⟩|exact h) (round us a w h)
theorem wp_share_us {P:Program} {c:Code} {Q:Exit→Act→World→Prop} {a:Act} {w:World} (R:(Nat→Value)→Act→World→Prop) (h1:c.wp P (fun e a' w'=>match e with | .normal=>R (fun j=>a'.tmps.toList.getD j undef) a' w'|_=>False) a w) (h2:∀ us a' w',R us a' w'→Q .normal a' w'):c.wp P Q a w :=
 Code.wp_mono (fun e a' w' h=>by cases e <;> first|exact h2 _ _ _ h|exact h.elim) h1
end Go.Proofs.YtdjhoankkddomaaGreat
namespace Go.Proofs.YtdjhoankkddomaaGreat
open Go Go.RowKit
section
variable {ops:Array Oper} {Q:Exit→Act→World→Prop} {S:World→Prop} {R:Act→World→Prop} {o:Oper} {l:List (Oper × Bool)} {a:Act} {w:World}
end
end Go.Proofs.YtdjhoankkddomaaGreat
namespace Go.Proofs.YtdjhoankkddomaaGreat
open Go Go.RowKit
theorem run_str_op {ρ:Operand→Value} {o:Oper} {W:World} {X:Nat→Prop} {A:Option Addr} {n c:Nat} {l:List UInt8} (x:Operand) (ho:o.op = .convert 41 9 x) (hx:ρ x = .slice A n c) (h:Sl W X A n c l) :
  (execOp ρ o).run Tryz.prog W = .ok (.value (.string (bstr l))) W:=by
 unfold execOp
 simp only [ho,hx,run_str h,Sem.run_bind,Sem.run_pure,Result.andThen_ok]
end Go.Proofs.YtdjhoankkddomaaGreat
namespace Go.Proofs.YtdjhoankkddomaaGreat
open Go Go.RowKit Go.Shelf
attribute [local go_sem] Oper.semAt_some
structure Es (w:World) (X:Nat→Prop) (A:Option Addr) (n c:Nat) (ls:List (List UInt8)):Prop where
 ex:∃ vs,SlV w X A n c 1 vs∧∀ i (h:i<ls.length),∃ Ai ci,vs[i]?=some (.slice Ai (ls[i]).length ci)∧Sl w X Ai (ls[i]).length ci ls[i]
 len:ls.length=n
section
variable {w w':World} {X Y:Nat→Prop} {A:Option Addr} {n c:Nat} {ls:List (List UInt8)}
theorem Es.room (h:Es w X A n c ls):n≤c:=let ⟨_,h1,_⟩:=h.ex;h1.room
theorem Es.max (h:Es w X A n c ls):c≤maxLen:=let ⟨_,h1,_⟩:=h.ex;h1.max
theorem Es.weak (h:Es w X A n c ls) (hX:∀ b,b<w.heap.size→X b→Y b):Es w Y A n c ls :=
 let ⟨vs,h1,h2⟩:=h.ex;⟨⟨vs,h1.weak hX,fun i hi=>let ⟨Ai,ci,g1,g2⟩:=h2 i hi;⟨Ai,ci,g1,g2.weak hX⟩⟩,h.len⟩
theorem Es.all (h:Es w X A n c ls):Es w (fun _=>True) A n c ls:=h.weak fun _ _ _=>trivial
theorem Es.step (h:Es w X A n c ls) (hb:Below w.heap.size w w'):Es w' X A n c ls :=
 let ⟨vs,h1,h2⟩:=h.ex;⟨⟨vs,h1.step hb,fun i hi=>let ⟨Ai,ci,g1,g2⟩:=h2 i hi;⟨Ai,ci,g1,g2.step hb⟩⟩,h.len⟩
theorem Es.below {N:Nat} (h:Es w X A n c ls) (hb:Below N w w') (hX:∀ b,b<w.heap.size→X b→b<N):Es w' X A n c ls :=
 let ⟨vs,h1,h2⟩:=h.ex;⟨⟨vs,h1.below hb hX,fun i hi=>let ⟨Ai,ci,g1,g2⟩:=h2 i hi;⟨Ai,ci,g1,g2.below hb hX⟩⟩,h.len⟩
theorem Es.take (h:Es w X A n c ls) (k:Nat) (hk:k≤n):Es w X A k c (ls.take k):=by
 obtain ⟨vs,h1,h2⟩:=h.ex
 refine ⟨⟨vs.take (k*1),h1.take k hk,fun i hi=>?_⟩,by rw [List.length_take,h.len];omega⟩
 have hi':i<k∧i<ls.length:=by rw [List.length_take] at hi;omega
 obtain ⟨Ai,ci,g1,g2⟩:=h2 i hi'.2
 rw [List.getElem_take]
 exact ⟨Ai,ci,by rw [List.getElem?_take_of_lt (by omega)];exact g1,g2⟩
theorem Es.drop (h:Es w X A n c ls) (k:Nat) (hk:k≤n):Es w X (if c=k then A else A.map (·.add (k*1))) (n - k) (c - k) (ls.drop k):=by
 obtain ⟨vs,h1,h2⟩:=h.ex
 refine ⟨⟨vs.drop (k*1),h1.drop k hk,fun i hi=>?_⟩,by rw [List.length_drop,h.len]⟩
 have hi':k+i<ls.length:=by rw [List.length_drop] at hi;omega
 obtain ⟨Ai,ci,g1,g2⟩:=h2 (k+i) hi'
 rw [List.getElem_drop]
 exact ⟨Ai,ci,by rw [List.getElem?_drop,Nat.mul_one];exact g1,g2⟩
theorem Es.at_ (h:Es w X A n c ls) (hn:0<n):∃ b o,A=some ⟨b,o,none⟩∧b<w.heap.size∧X b∧∀ k,k<n→∃ Ai ci,w.cell? ⟨b,o+k,none⟩=some (.slice Ai (ls.getD k []).length ci)∧Sl w X Ai (ls.getD k []).length ci (ls.getD k []):=by
 obtain ⟨vs,h1,h2⟩:=h.ex
 obtain ⟨b,o,e,hb,hx,h4⟩:=h1.at_ hn (by decide)
 refine ⟨b,o,e,hb,hx,fun k hk=>?_⟩
 obtain ⟨Ai,ci,g1,g2⟩:=h2 k (by rw [h.len];exact hk)
 have hg:ls.getD k []=ls[k]'(by rw [h.len];exact hk):=by rw [List.getD_eq_getElem?_getD,List.getElem?_eq_getElem (by rw [h.len];exact hk)];rfl
 rw [hg]
 exact ⟨Ai,ci,h4 k _ g1,g2⟩
end
theorem sizeBs:∀ w:World,(sizeOf (Tryz.prog.elem 48)).run Tryz.prog w = .ok 1 w:=fun _=>by kernel_rfl
theorem sliceBs:Tryz.prog.underlying 48=some (.slice (Tryz.prog.elem 48)):=by kernel_rfl
theorem run_slice_hiB {ρ:Operand→Value} {o:Oper} (x y:Operand) (ho:o.op = .slice 48 x none (some y) none) (A:Option Addr) (n c k:Nat) (hx:ρ x = .slice A n c) (hy:ρ y = .int .i64 (k:Int)) (hk:k≤c) (W:World) :
  (execOp ρ o).run Tryz.prog W = .ok (.value (.slice A k c)) W:=by
 unfold execOp
 simp only [ho,hx,hy,Option.map_some,Option.map_none,run_slice_high sliceBs sizeBs A n c k hk W,Sem.run_bind,Sem.run_pure,Result.andThen_ok]
theorem run_slice_loB {ρ:Operand→Value} {o:Oper} (x y:Operand) (ho:o.op = .slice 48 x (some y) none none) (A:Option Addr) (n c k:Nat) (hx:ρ x = .slice A n c) (hy:ρ y = .int .i64 (k:Int)) (hk:k≤n) (W:World) :
  (execOp ρ o).run Tryz.prog W = .ok (.value (.slice (if c=k then A else A.map (·.add (k*1))) (n - k) (c - k))) W:=by
 unfold execOp
 simp only [ho,hx,hy,Option.map_some,Option.map_none,run_slice_low sliceBs sizeBs A n c k hk W,Sem.run_bind,Sem.run_pure,Result.andThen_ok]
end Go.Proofs.YtdjhoankkddomaaGreat
namespace Go.Proofs.YtdjhoankkddomaaGreat
open Go Go.RowKit
structure MdR where
 e:Value
 h:Value
 r:Value
 q:Value
 b:Value
def mcell (R:MdR) (m:MoV) (i:Nat):Value :=
 if i=0 then R.e else if i=1 then R.h else if i=2 then R.r else if i=3 then .int .i64 m.seg else if i=4 then .int .i64 m.cap else if i=5 then R.q else if i=6 then .int .i64 m.lastS
 else if i<39 then B (m.lastR.getD (i - 7) 0) else if i=39 then .bool m.has else if i=40 then R.b else if i=41 then .int .i64 m.ptS else if i<74 then B (m.ptR.getD (i - 42) 0)
 else if i=74 then .bool m.pointing else if i=75 then .bool m.only else .bool true
def mdArr (R:MdR) (m:MoV):Array Value:=((List.range 77).map (mcell R m)).toArray
theorem md_size (R:MdR) (m:MoV):(mdArr R m).size=77:=by simp [mdArr]
theorem md_at (R:MdR) (m:MoV) (i:Nat) (h:i<77):(mdArr R m)[i]?=some (mcell R m i):=by simp [mdArr,h]
theorem md_ext {R:MdR} {m:MoV} {cs:Array Value} (hs:cs.size=77) (h:∀ i,i<77→cs[i]?=some (mcell R m i)):cs=mdArr R m:=by
 apply Array.ext_getElem?
 intro i
 by_cases hi:i<77
 ·rw [h i hi,md_at _ _ _ hi]
 ·rw [Array.getElem?_eq_none (by omega),Array.getElem?_eq_none (by rw [md_size];omega)]
theorem md_set {R R':MdR} {m m':MoV} (k:Nat) (_hk:k<77) (v:Value) (hv:mcell R' m' k=v) (h:∀ i,i<77→i≠k→mcell R' m' i=mcell R m i):(mdArr R m).setIfInBounds k v=mdArr R' m':=by
 refine md_ext (by simp [md_size]) fun i hi=>?_
 rw [Array.getElem?_setIfInBounds]
 by_cases e:k=i
 ·subst e;rw [if_pos rfl,if_pos (by rw [md_size];omega),hv]
 ·rw [if_neg e,md_at _ _ _ hi,h i hi (fun e'=>e e'.symm)]
structure EsO (W:World) (lo:Nat) (v:Value) (ls:List (List UInt8)) (X:Nat→Prop):Prop where
 ex:∃ vs,W.ownsRow lo 41 1 v ls.length vs∧∀ i (h:i<ls.length),∃ Ai ci,vs[i]?=some (.slice Ai (ls[i]).length ci)∧Sl W X Ai (ls[i]).length ci ls[i]
section
variable {W W':World} {lo:Nat} {v:Value} {ls:List (List UInt8)} {X Y M:Nat→Prop}
theorem EsO.weak (h:EsO W lo v ls X) (hX:∀ b,b<W.heap.size→X b→Y b):EsO W lo v ls Y :=
 let ⟨vs,h1,h2⟩:=h.ex
 ⟨vs,h1,fun i hi=>let ⟨A,c,h3,h4⟩:=h2 i hi;⟨A,c,h3,h4.weak hX⟩⟩
theorem EsO.kb (h:EsO W lo v ls X) (hk:KB M W W') (hv:∀ b,v.ownBlock=some b→¬ M b) (hX:∀ b,b<W.heap.size→X b→¬ M b):EsO W' lo v ls X :=
 let ⟨vs,h1,h2⟩:=h.ex
 ⟨vs,hk.own h1 hv,fun i hi=>let ⟨A,c,h3,h4⟩:=h2 i hi;⟨A,c,h3,hk.slb h4 hX⟩⟩
theorem EsO.step (h:EsO W lo v ls X) (hb:Below W.heap.size W W'):EsO W' lo v ls X :=
 h.kb (M:=fun _=>False) (KB.of_below hb) (fun _ _ h=>h) (fun _ _ _ h=>h)
theorem EsO.lt (h:EsO W lo v ls X) (b:Nat) (hb:v.ownBlock=some b):lo≤b∧b<W.heap.size:=h.ex.choose_spec.1.lt b hb
theorem EsO.es (h:EsO W lo v ls X):∃ A c,v = .slice A ls.length c∧Es W (fun _=>True) A ls.length c ls:=by
 obtain ⟨vs,h1,h2⟩:=h.ex
 obtain ⟨A,c,rfl,hs⟩:=owns_slv h1
 exact ⟨A,c,rfl,⟨vs,hs.all,fun i hi=>let ⟨A,c,h3,h4⟩:=h2 i hi;⟨A,c,h3,h4.all⟩⟩,rfl⟩
theorem EsO.one (h:EsO W lo v ls X):v.oneCell'=true:=by
 obtain ⟨A,c,rfl,_⟩:=h.es
 rfl
theorem EsO.nil:EsO W lo (.slice none 0 0) [] X:=⟨[],World.ownsRow_nil _ _ _ _,fun i hi=>absurd hi (by simp)⟩
theorem EsO.app (h:EsO W lo v ls X) (hlo:lo≤W.heap.size) (hn:ls.length≤1000000000) (l:List UInt8) (A:Option Addr) (c:Nat) (hl:Sl W X A l.length c l) (hX:∀ b,b<W.heap.size→X b→some b≠v.ownBlock) :
  ∃ v' W',(Builtin.append_ #[48,48] 48 #[v,.slice (some ⟨W.heap.size,0,none⟩) 1 1]).run Tryz.prog (W.alloc (.cells #[.slice A l.length c] 41)) = .ok v' W'∧EsO W' lo v' (ls++[l]) X∧W.grownBy W' v.ownBlock∧(v'.ownBlock=v.ownBlock∨∃ k,v'.ownBlock=some k∧W.heap.size≤k):=by
 obtain ⟨vs,h1,h2⟩:=h.ex
 have hba:Below W.heap.size W (W.alloc (.cells #[.slice A l.length c] 41)):=(Below.refl _ _).alloc (Nat.le_refl _) _
 have info:(Tryz.prog.info? 41).map (fun i=>(i.zero,i.size,i.bytes))=some (some (.slice none 0 0),1,24):=by kernel_rfl
 obtain ⟨v',W',hr,ho,hg,hv⟩:=append_slv (ty:=48) Tryz.underlying48 info rfl (by decide) (owns_step h1 hba) (SlV.lit (s:=1) (n:=1) W (fun _=>True) 41 [.slice A l.length c] rfl (by decide) trivial) (by simp [Value.oneCell']) (by unfold maxLen;omega) (by omega) (Nat.le_trans hlo hba.size)
 have hg0:W.grownBy W' v.ownBlock:=(grown_of_below hba v.ownBlock).trans hg
 refine ⟨v',W',hr,⟨vs++[.slice A l.length c],by rw [List.length_append];exact ho,fun i hi=>?_⟩,hg0,?_⟩
 ·have hvl:vs.length=ls.length:=by have:=h1.1;omega
  by_cases hil:i<ls.length
  ·obtain ⟨Ai,ci,h3,h4⟩:=h2 i hil
   rw [List.getElem_append_left hil]
   exact ⟨Ai,ci,by rw [List.getElem?_append_left (by omega)];exact h3,h4.grown hg0 hX⟩
  ·have hie:i=ls.length:=by rw [List.length_append] at hi;simp at hi;omega
   subst hie
   have hget:(ls++[l])[ls.length]=l:=by simp
   rw [hget]
   exact ⟨A,c,by rw [List.getElem?_append_right (by omega),hvl,Nat.sub_self];rfl,hl.grown hg0 hX⟩
 ·rcases hv with hv|⟨k,hv,hk⟩
  ·exact .inl hv
  ·exact .inr ⟨k,hv,Nat.le_trans hba.size hk⟩
end
structure Es2 (W:World) (X Y:Nat→Prop) (A:Option Addr) (n c:Nat) (ls:List (List UInt8)):Prop where
 ex:∃ vs,SlV W X A n c 1 vs∧∀ i (h:i<ls.length),∃ Ai ci,vs[i]?=some (.slice Ai (ls[i]).length ci)∧Sl W Y Ai (ls[i]).length ci ls[i]
 len:ls.length=n
section
variable {W W':World} {X Y X' Y' M:Nat→Prop} {A:Option Addr} {n c:Nat} {ls:List (List UInt8)}
theorem Es2.weak (h:Es2 W X Y A n c ls) (hX:∀ b,b<W.heap.size→X b→X' b) (hY:∀ b,b<W.heap.size→Y b→Y' b):Es2 W X' Y' A n c ls :=
 let ⟨vs,h1,h2⟩:=h.ex
 ⟨⟨vs,h1.weak hX,fun i hi=>let ⟨A,c,h3,h4⟩:=h2 i hi;⟨A,c,h3,h4.weak hY⟩⟩,h.len⟩
theorem Es2.step (h:Es2 W X Y A n c ls) (hb:Below W.heap.size W W'):Es2 W' X Y A n c ls :=
 let ⟨vs,h1,h2⟩:=h.ex
 ⟨⟨vs,h1.step hb,fun i hi=>let ⟨A,c,h3,h4⟩:=h2 i hi;⟨A,c,h3,h4.step hb⟩⟩,h.len⟩
theorem Es2.kb (h:Es2 W X Y A n c ls) (hk:KB M W W') (hX:∀ b,b<W.heap.size→X b→¬ M b) (hY:∀ b,b<W.heap.size→Y b→¬ M b):Es2 W' X Y A n c ls :=
 let ⟨vs,h1,h2⟩:=h.ex
 ⟨⟨vs,hk.slv h1 hX,fun i hi=>let ⟨A,c,h3,h4⟩:=h2 i hi;⟨A,c,h3,hk.slb h4 hY⟩⟩,h.len⟩
theorem Es2.all (h:Es2 W X Y A n c ls):Es W (fun _=>True) A n c ls :=
 let ⟨vs,h1,h2⟩:=h.ex
 ⟨⟨vs,h1.all,fun i hi=>let ⟨A,c,h3,h4⟩:=h2 i hi;⟨A,c,h3,h4.all⟩⟩,h.len⟩
theorem EsO.es2 {lo:Nat} {v:Value} (h:EsO W lo v ls X) (hrow:∀ b,v.ownBlock=some b→X' b) (hX:∀ b,b<W.heap.size→X b→Y b):∃ A c,v = .slice A ls.length c∧Es2 W X' Y A ls.length c ls:=by
 obtain ⟨vs,h1,h2⟩:=h.ex
 obtain ⟨A,c,rfl,hs⟩:=owns_slv h1
 exact ⟨A,c,rfl,⟨vs,hs.weak fun b _ hb=>hrow b hb.2.symm,fun i hi=>let ⟨A,c,h3,h4⟩:=h2 i hi;⟨A,c,h3,h4.weak hX⟩⟩,rfl⟩
end
def MdW (g:Nat) (R:MdR) (b:Nat):Prop:=b=g∨R.e.ownBlock=some b∨R.h.ownBlock=some b∨R.q.ownBlock=some b
def MdN (Z:Nat→Prop) (g:Nat) (R:MdR) (b:Nat):Prop:=MdW g R b∨Z b
structure Md (Z:Nat→Prop) (lo g:Nat) (R:MdR) (m:MoV) (W:World):Prop where
 blk:Blk W g 57 (mdArr R m)
 lastL:m.lastR.length=32
 ptL:m.ptR.length=32
 ents:EsO W lo R.e m.ents fun b=>¬ MdN Z g R b
 hashes:W.ownsRow lo 53 32 R.h m.ents.length (hcells (lvs m.ents))
 roots:∃ A c,R.r = .slice A (m.ents.length+1) c∧Hs W (fun b=>¬ MdN Z g R b) A (m.ents.length+1) c (headsL (lvs m.ents) m.ents.length)
 queue:EsO W lo R.q m.queue fun b=>¬ MdN Z g R b
 begun:∃ A c,R.b = .slice A m.begun.length c∧Es2 W (fun b=>¬ (b=g∨Z b)) (fun b=>¬ MdN Z g R b) A m.begun.length c m.begun
 eq:∀ b,R.e.ownBlock=some b→R.q.ownBlock≠some b
 fresh:m.only=false→m.begun=[]∧R.b = .slice none 0 0
 low:lo≤g
 big:∀ x ∈ m.ents,x.length≤1099511627776
 bigq:∀ x ∈ m.queue,x.length≤1099511627776
 zlt:∀ b,Z b→b<W.heap.size
 zno:∀ b,MdW g R b→¬ Z b
section
variable {W W':World} {Z:Nat→Prop} {lo g:Nat} {R:MdR} {m:MoV} {M:Nat→Prop}
theorem H32.lvs (es:List (List UInt8)):H32 (lvs es):=fun x hx=>by obtain ⟨e,_,rfl⟩:=List.mem_map.1 hx;exact length_hLeaf e
theorem Md.lt (h:Md Z lo g R m W) (b:Nat) (hb:MdW g R b):lo≤b∧b<W.heap.size:=by
 rcases hb with rfl|hb|hb|hb
 ·exact ⟨h.low,h.blk.lt⟩
 ·exact h.ents.lt b hb
 ·exact h.hashes.lt b hb
 ·exact h.queue.lt b hb
theorem Md.ltN (h:Md Z lo g R m W) (b:Nat) (hb:MdN Z g R b):b<W.heap.size:=hb.elim (fun h'=>(h.lt b h').2) (h.zlt b)
theorem Hs.kb {X:Nat→Prop} {A:Option Addr} {n c:Nat} {hs:List (List UInt8)} (h:Hs W X A n c hs) (hk:KB M W W') (hX:∀ b,b<W.heap.size→X b→¬ M b):Hs W' X A n c hs:=⟨hk.slv h.sl hX,h.len,h.all⟩
theorem Es.kb {X:Nat→Prop} {A:Option Addr} {n c:Nat} {ls:List (List UInt8)} (h:Es W X A n c ls) (hk:KB M W W') (hX:∀ b,b<W.heap.size→X b→¬ M b):Es W' X A n c ls :=
 let ⟨vs,h1,h2⟩:=h.ex
 ⟨⟨vs,hk.slv h1 hX,fun i hi=>let ⟨A,c,h3,h4⟩:=h2 i hi;⟨A,c,h3,hk.slb h4 hX⟩⟩,h.len⟩
theorem Md.step (h:Md Z lo g R m W) (hb:Below W.heap.size W W'):Md Z lo g R m W' :=
 ⟨h.blk.below hb h.blk.lt,h.lastL,h.ptL,h.ents.step hb,owns_step h.hashes hb,let ⟨A,c,h1,h2⟩:=h.roots;⟨A,c,h1,h2.step hb⟩,h.queue.step hb,let ⟨A,c,h1,h2⟩:=h.begun;⟨A,c,h1,h2.step hb⟩,h.eq,h.fresh,h.low,h.big,h.bigq,fun b hz=>Nat.lt_of_lt_of_le (h.zlt b hz) hb.size,h.zno⟩
theorem Md.setZ {Z':Nat→Prop} (h:Md Z lo g R m W) (hz:∀ b,Z' b→b<W.heap.size) (hzz:∀ b,b<W.heap.size→Z' b→Z b):Md Z' lo g R m W :=
 ⟨h.blk,h.lastL,h.ptL,h.ents.weak fun _ hl hx hm=>hx (hm.imp id (hzz _ hl)),h.hashes,let ⟨A,c,h1,h2⟩:=h.roots;⟨A,c,h1,h2.weak fun _ hl hx hm=>hx (hm.imp id (hzz _ hl))⟩,h.queue.weak fun _ hl hx hm=>hx (hm.imp id (hzz _ hl)),let ⟨A,c,h1,h2⟩:=h.begun;⟨A,c,h1,h2.weak (fun _ hl hx hm=>hx (hm.imp id (hzz _ hl))) (fun _ hl hx hm=>hx (hm.imp id (hzz _ hl)))⟩,h.eq,h.fresh,h.low,h.big,h.bigq,hz,fun b hw hz'=>h.zno b hw (hzz b (hz b hz') hz')⟩
theorem Md.stepZ {Z':Nat→Prop} (h:Md Z lo g R m W) (hb:Below W.heap.size W W') (hz:∀ b,Z' b→b<W'.heap.size) (hzz:∀ b,Z' b→Z b∨W.heap.size≤b):Md Z' lo g R m W':=by
 have hlt:∀ b,b<W.heap.size→Z' b→Z b:=fun b hl hz'=>(hzz b hz').elim id fun h'=>absurd hl (by omega)
 refine ⟨h.blk.below hb h.blk.lt,h.lastL,h.ptL,?_,owns_step h.hashes hb,?_,?_,?_,h.eq,h.fresh,h.low,h.big,h.bigq,hz,fun b hw hz'=>h.zno b hw (hlt b (h.lt b hw).2 hz')⟩
 ·exact ((h.ents.weak (Y:=fun b=>¬ MdN Z g R b∧b<W.heap.size) fun b hl hx=>⟨hx,hl⟩).step hb).weak fun b _ hx hm=>hx.1 (hm.imp id (hlt b hx.2))
 ·exact let ⟨A,c,h1,h2⟩:=h.roots;⟨A,c,h1,((h2.weak (Y:=fun b=>¬ MdN Z g R b∧b<W.heap.size) fun b hl hx=>⟨hx,hl⟩).step hb).weak fun b _ hx hm=>hx.1 (hm.imp id (hlt b hx.2))⟩
 ·exact ((h.queue.weak (Y:=fun b=>¬ MdN Z g R b∧b<W.heap.size) fun b hl hx=>⟨hx,hl⟩).step hb).weak fun b _ hx hm=>hx.1 (hm.imp id (hlt b hx.2))
 ·exact let ⟨A,c,h1,h2⟩:=h.begun;⟨A,c,h1,((h2.weak (X':=fun b=>¬ (b=g∨Z b)∧b<W.heap.size) (Y':=fun b=>¬ MdN Z g R b∧b<W.heap.size) (fun b hl hx=>⟨hx,hl⟩) (fun b hl hx=>⟨hx,hl⟩)).step hb).weak (fun b _ hx hm=>hx.1 (hm.imp id (hlt b hx.2))) (fun b _ hx hm=>hx.1 (hm.imp id (hlt b hx.2)))⟩
theorem Md.lower {lo':Nat} (h:Md Z lo g R m W) (hl:lo'≤lo):Md Z lo' g R m W :=
 ⟨h.blk,h.lastL,h.ptL,let ⟨vs,h1,h2⟩:=h.ents.ex;⟨vs,owns_le h1 hl,h2⟩,owns_le h.hashes hl,h.roots,let ⟨vs,h1,h2⟩:=h.queue.ex;⟨vs,owns_le h1 hl,h2⟩,h.begun,h.eq,h.fresh,Nat.le_trans hl h.low,h.big,h.bigq,h.zlt,h.zno⟩
theorem Md.cell (h:Md Z lo g R m W) (i:Nat) (hi:i<77):W.cell? ⟨g,i,none⟩=some (mcell R m i):=by rw [h.blk.cell,md_at _ _ _ hi]
theorem Md.size (h:Md Z lo g R m W):lo≤W.heap.size:=Nat.le_of_lt (Nat.lt_of_le_of_lt h.low h.blk.lt)
end
end Go.Proofs.YtdjhoankkddomaaGreat
