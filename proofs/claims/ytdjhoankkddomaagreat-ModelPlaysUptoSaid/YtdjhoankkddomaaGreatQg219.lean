import Derived.Test.YtdjhoankkddomaaGreatQg218
import Derived.Test.YtdjhoankkddomaaGreatQg215
import Derived.Test.YtdjhoankkddomaaGreatQg217
import Derived.Test.YtdjhoankkddomaaGreatQg205
import Derived.Test.YtdjhoankkddomaaGreatQg201
import Derived.Test.YtdjhoankkddomaaGreatQg216
namespace Go.Proofs.YtdjhoankkddomaaGreat
open Go Go.RowKit Go.Shelf
attribute [local go_sem] Oper.semAt_some
structure CpI (w:World) (g8 n₁:Nat) (q:List (List UInt8)) (W:World):Prop where
 own:∃ v,Blk W g8 49 #[v]∧W.ownsRow n₁ 53 32 v q.length (hcells q)
 bel:Below w.heap.size w W
theorem CpI.step {w W W':World} {g8 n₁:Nat} {q:List (List UInt8)} (h:CpI w g8 n₁ q W) (hb:Below W.heap.size W W'):CpI w g8 n₁ q W' :=
 ⟨let ⟨v,h1,h2⟩:=h.own;⟨v,h1.step hb,owns_step h2 hb⟩,h.bel.trans (hb.mono h.bel.size)⟩
theorem CpI.grown {w W W' : World} {g8 n₁ : Nat} {q : List (List UInt8)} {row : Option Nat} (h : CpI w g8 n₁ q W) (hg : W.grownBy W' row) (hr : ∀ r, row = some r → w.heap.size ≤ r ∧ ∃ o, W.heap[r]? = some o ∧ o.isCells = false) : CpI w g8 n₁ q W' :=
  ⟨let ⟨v, h1, h2⟩ := h.own
   ⟨v, h1.grown hg (fun e => by
      obtain ⟨_, o, ho, hc⟩ := hr g8 e.symm
      rw [show W.heap[g8]? = _ from h1] at ho; cases ho; cases hc), h2.kept hg (by
      rcases h2.2 with ⟨rfl, _⟩ | ⟨g, cap, cur, rfl, _, hb, _⟩
      · exact .inl rfl
      · refine .inr fun e => ?_
        obtain ⟨_, o, ho, hc⟩ := hr g e.symm
        rw [show W.heap[g]? = _ from hb] at ho; cases ho; cases hc)⟩, h.bel.grown hg h.bel.size fun k e => (hr k e).1⟩
theorem CpI.own_ {w:World} {g8 n₁ B:Nat} (f:Nat→List (List UInt8)) (hB:w.heap.size≤B):OwnFrom B (fun k W=>CpI w g8 n₁ (f k) W):=fun _ _ _ _ h hg hr=>h.grown hg fun r e=>⟨Nat.le_trans hB (hr r e).1,(hr r e).2⟩
theorem owns_cells {W:World} {base n s r:Nat} {e:TypeId} {v:Value} {xs:List Value} (h:W.ownsRow base e s v n xs) (hv:v.ownBlock=some r):∃ o,W.heap[r]?=some o∧o.isCells=true:=by
 rcases h.2 with ⟨rfl,_⟩|⟨g,cap,cur,rfl,_,hb,_⟩
 ·cases hv
 ·cases hv
  exact ⟨_,hb,rfl⟩
theorem run_litH_op {ρ:Operand→Value} {o:Oper} (x:List UInt8) (hx:x.length=32) (y:Operand) (ho:o.op = .buildSlice 49 1 #[(0,y)]) (hy:ρ y = .agg (x.map B).toArray) (W:World) :
  (execOp ρ o).run Tryz.prog W = .ok (.value (.slice (some ⟨W.heap.size,0,none⟩) 1 1)) (W.alloc (.cells (hcells [x]).toArray 53)) :=
 run_lit_op [x] (fun h hh=>by rw [List.mem_singleton.1 hh];exact hx) (by simp) (by simp) 1 _ ho (by simp [hy]) rfl W
set_option maxHeartbeats 4000000 in
set_option maxRecDepth 100000 in
theorem cprove_any (hs:List (List UInt8)) (A:Option Addr) (n c:Nat) (w:World) (m:Int) (h:Hs w (fun _=>True) A n c hs) (hn:n≤1099511627776) :
  Calls Tryz.prog 75 #[.slice A n c,.int .i64 m] w fun e w'=>∃ v,e = .returned (.tuple #[v,.int .i64 (stepsA m hs.length).2])∧w'.ownsRow w.heap.size 53 32 v (rootsS hs m).length (hcells (rootsS hs m))∧Below w.heap.size w w':=by
 have hlen:=h.len
 have h32:=h.all
 have hroom:=h.sl.room
 have hmx:=h.sl.max
 unfold maxLen at hmx
 have hst:=tstepsA_any m (n:Int) w (by omega)
 obtain ⟨⟨ls,e0⟩,hse⟩:∃ s,stepsA m (n:Int)=s:=⟨_,rfl⟩
 rw [hse] at hst
 dsimp only at hst
 have hlm:ls.length≤64:=by have:=stepsA_len m (n:Int) (by omega);rw [hse] at this;exact this
 have Hlen:=Lib.hid hlen
 have H32h:=Lib.hid h32
 have Hst:=Lib.hid hst
 rw [hlen,hse]
 dsimp only
 by_cases he0:e0=0
 ·subst he0
  have hgood:=steps_good hs m
  have hlr:=length_rootsS hs m
  have hat:=rootsS_at hs m
  rw [hlen,hse] at hgood hlr hat
  dsimp only at hgood hlr hat
  obtain ⟨rs,hrs⟩:∃ rs,rootsS hs m=rs:=⟨_,rfl⟩
  have hr32:H32 rs:=by rw [← hrs];exact rootsS_all hs h32 m
  rw [hrs] at hlr hat ⊢
  have Hgood:=Lib.hid hgood
  have Hlr:=Lib.hid hlr
  have Hat:=Lib.hid hat
  have Hr32:=Lib.hid hr32
  have Hse:=Lib.hid hse
  clear hlen h32 hst hgood hlr hat hr32 hrs hse
  refine (callsIn_wide (n:=5)).1 ?_
  refine callsIn_of_wp_marks Tryz.func75 rfl trivial ?_ rfl
  simp only [Tryz.ntmps75,List.size_toArray,List.length_cons,List.length_nil,Nat.reduceAdd,Nat.reduceSub,Array.replicate_succ,Array.replicate_zero,List.push_toArray,List.append_toArray,List.nil_append,List.cons_append]
  refine wpIn_wide.2 ?_
  go_wp2_with fail
  refine Hst.out.mono ?_
  rintro e w1 ⟨vs,rfl,hP⟩
  obtain ⟨As,cs,rfl,hrs1⟩:=Rs.of_owns hP.own (length_natR ls)
  have hb1:=hP.bel
  have hroom1:=hrs1.sl.room
  have hmx1:=hrs1.sl.max
  unfold maxLen at hmx1
  have h1:=h.step hb1
  have k8:Blk (w1.alloc (.cells #[.slice none 0 0] 49)) w1.heap.size 49 #[.slice none 0 0]:=Blk.new _ _ _
  have hb8:Below w.heap.size w (w1.alloc (.cells #[.slice none 0 0] 49)):=hb1.alloc hb1.size _
  have hb18:Below w1.heap.size w1 (w1.alloc (.cells #[.slice none 0 0] 49)):=(Below.refl _ _).alloc (Nat.le_refl _) _
  have h2:=h1.step hb18
  have hrs2:=hrs1.step hb18
  have hs12:=hb1.size
  clear h hP h1 hrs1 hb18 hb1
  have hsz2:(w1.alloc (.cells #[.slice none 0 0] 49)).heap.size=w1.heap.size+1:=by simp
  go_wp2_with fail
  generalize w1.alloc (.cells #[.slice none 0 0] 49)=W2 at *
  generalize w1.heap.size=g8 at *
  refine (each_any hs (natR ls) A n c As ls.length cs W2 h2 (hrs2.weak fun _ _ _=>trivial) (by omega) (by omega)).mono ?_
  rintro e W3 ⟨A2,c2,Ar2,cr2,rfl,e1,e2,eh,er,hb3⟩
  have hI0:∀ n₁,CpI w g8 n₁ [] W3:=fun n₁=>⟨⟨_,k8.step hb3,World.ownsRow_nil _ _ _ _⟩,hb8.trans (hb3.mono hb8.size)⟩
  have hsz3:=hb3.size
  have hG:=e1.lt
  clear h2 hrs2 k8 hb8 hb3
  rw [hsz2] at e1 e2 eh er hsz3 hG
  go_wp2_with fail
  refine wp_range_U (gf:=111) (lb:=#[.pointer (some ⟨g8+1+1,0,none⟩),.pointer (some ⟨g8+1,0,none⟩)]) rfl (enters_of Tryz.func111 (by kernel_rfl) rfl)
   (each1_seq hs (natR ls) A2 n c2 Ar2 ls.length cr2 (g8+1+1) (g8+1) (·=g8) W3 e1 e2 (eh.weak fun b _ hb e=>by have hb:g8+1+1<b:=hb;have e:b=g8:=e;omega) (er.weak fun b _ hb e=>by have hb:g8+1+1<b:=hb;have e:b=g8:=e;omega) (by intro e;omega) (fun b hb=>by have hb:b=g8:=hb;omega) (by omega) (by omega))
   (fun n₁ k vs W h=>by rw [show vs=_ from h];rfl)
   (fun n₁ k=>CpI w g8 n₁ (rs.take k)) (fun _ _ _ _=>False) (fun n₁=>CpI.own_ (fun k=>rs.take k) (by omega)) (fun _ _ _ _ _ _ h _ _=>h.elim) (fun n₁ _=>by simpa using hI0 n₁) ?round ?done ?stop
  case round =>
   clear hI0 e1 e2 eh er
   intro li n₁ k vs X hl hln hnX hk hI hy
   subst hy
   rw [Hgood.out,length_natR] at hk
   rw [Hgood.out,Hat.out k hk]
   have htk:=take_snocH rs k (by rw [Hlr.out];exact hk)
   have hzl:=Hr32.out.getD k (by rw [Hlr.out];exact hk)
   have hlen:(rs.take k).length≤64:=by rw [List.length_take,Hlr.out];omega
   generalize rs.getD k []=z at hzl htk ⊢
   generalize (natR ls).getD k (0,0)=x
   obtain ⟨x1,x2⟩:=x
   dsimp only [rval]
   have Htk:=Lib.hid htk
   have Hzl:=Lib.hid hzl
   clear htk hzl
   refine wpIn_region_lit ?_
   go_simp
   refine wpListIn_of2 (openR li) rfl ?_
   refine wpList_hvar (.tmp 10) (.tmp 25) rfl rfl rfl rfl rfl rfl Hzl.out ?_
   intro X1 k10 hb10
   refine thenN_nil ?_
   simp only [Act.put]
   gi_wp2
   refine ⟨KeepU.below hb10,?_⟩
   intro X2 hturn
   have hI2:=hturn.own (CpI.own_ (w:=w) (g8:=g8) (n₁:=n₁) (fun k=>rs.take k) (show w.heap.size≤W3.heap.size by omega)) (hI.step hb10)
   have k10':HV X2 X.heap.size z:=⟨hturn.blk k10.blk,Hzl.out⟩
   have hnX2:n₁≤X2.heap.size:=by rw [hturn.size];exact Nat.le_trans hnX hb10.size
   clear hI k10 hb10 hturn hnX
   generalize X.heap.size=g10 at k10' ⊢
   obtain ⟨⟨v,k8,hov⟩,hbel⟩:=hI2
   generalize hq:rs.take k=q at *
   obtain ⟨v',W9,hr9,hv9,hg9,-⟩:=append_hR hov z Hzl.out (by omega) hnX2
   obtain ⟨gv,cv,rfl⟩:=owns_some hv9 (by simp)
   have hge9:∀ r,v.ownBlock=some r→n₁≤r:=fun r e=>(hov.lt r e).1
   have k89:Blk W9 g8 49 #[v]:=k8.grown hg9 (fun e=>by have:=hge9 _ e.symm;omega)
   have c8:X2.cell? ⟨g8,0,none⟩=some v:=by rw [k8.cell];rfl
   have c89:W9.cell? ⟨g8,0,none⟩=some v:=by rw [k89.cell];rfl
   have f89:=k89.frozen 0
   have Hr9:=Lib.hid hr9
   clear hr9
   gi_wp2_with (first
    | ((with_reducible show wpListIn _ _ _ _ _ (⟨some 27,.load _ _,_,_,_,_⟩::_) _ _);refine wpListIn_of1 (openR li) rfl ?_;refine wpList_hload (.tmp 10) (by kernel_rfl) rfl k10' rfl ?_;refine thenN_nil ?_;simp only [Act.put])
    | ((with_reducible show wpListIn _ _ _ _ _ (⟨some 28,.buildSlice _ _ _,_,_,_,_⟩::_) _ _);refine wpListIn_of1 (openR li) rfl ?_;refine wpList_run rfl _ _ (run_litH_op z Hzl.out (.tmp 27) rfl rfl _) ?_;refine thenN_nil ?_;simp only [Act.put])
    | ((with_reducible show wpListIn _ _ _ _ _ (⟨some 29,.call _,_,_,_,_⟩::_) _ _);refine wpListIn_of1 (openR li) rfl ?_;refine wpList_run rfl _ W9 (run_append_op (.tmp 26) (.tmp 28) 49 rfl _ _ rfl rfl Hr9.out) ?_;refine thenN_nil ?_;simp only [Act.put]))
   have hl:(q++[z]).length=q.length+1:=by simp
   rw [hl] at hv9
   have hgn:=(hv9.lt gv rfl).1
   refine ⟨(KeepU.grown hg9 (fun r e=>⟨.inl (hge9 r e),owns_cells hov e⟩)).trans (KeepU.setCell (U:=(·=g8)) k89 (.inr rfl) 0 _),⟨_,k89.set_ 0 _,?_⟩,(hbel.grown hg9 hbel.size (fun r e=>by have:=hge9 r e;omega)).setCell (by show w.heap.size≤g8;omega) _⟩
   rw [Htk.out,hl]
   exact hv9.kept (grownBy_setCell' W9 g8 _) (.inr (fun e=>by have e:gv=g8:=Option.some.inj e;omega))
  case done =>
   clear hI0 e1 e2 eh er
   intro D n₁ X hD hDn hI hK
   rw [Hgood.out,length_natR,List.take_of_length_le (by rw [Hlr.out];exact Nat.le_refl _)] at hI
   obtain ⟨⟨v,k8,hov⟩,hbel⟩:=hI
   have c8:X.cell? ⟨g8,0,none⟩=some v:=by rw [k8.cell];rfl
   go_wp2_with fail
   refine leaves_marks (N:=w.heap.size) [D] _ ((MarksOk.nil _ _).cons (by omega) hK (by simp)) fun w' ht=>⟨_,results_tmp2 rfl _ _ _,v,rfl,?_,hbel.trans ht.bel⟩
   refine owns_le (b:=n₁) ?_ (by omega)
   rcases hov.2 with ⟨rfl,h0⟩|⟨g,cap,cur,rfl,hb,hc,r1,r2,r3,r4⟩
   ·exact ⟨hov.1,.inl ⟨rfl,h0⟩⟩
   ·exact ⟨hov.1,.inr ⟨g,cap,cur,rfl,hb,ht.blk _ _ _ hc,r1,r2,r3,r4⟩⟩
  case stop =>
   rintro D n₁ cd k X hD hDn hk h hK
   exact h.elim
 ·have hb0:rootsS hs m=[]:=rootsS_bad hs m (by rw [hlen,hse];exact he0)
  rw [hb0]
  have hne:(e0 != 0)=true:=by simpa using he0
  clear hlen h32 hst hse he0 hb0
  refine (callsIn_wide (n:=5)).1 ?_
  refine callsIn_of_wp_marks Tryz.func75 rfl trivial ?_ rfl
  simp only [Tryz.ntmps75,List.size_toArray,List.length_cons,List.length_nil,Nat.reduceAdd,Nat.reduceSub,Array.replicate_succ,Array.replicate_zero,List.push_toArray,List.append_toArray,List.nil_append,List.cons_append]
  refine wpIn_wide.2 ?_
  go_wp2_with fail
  refine Hst.out.mono ?_
  rintro e w1 ⟨vs,rfl,hP⟩
  obtain ⟨As,cs,rfl,-⟩:=Rs.of_owns hP.own (length_natR ls)
  have hb1:=hP.bel
  clear hP
  go_wp2_with fail
  refine leaves_marks (N:=w.heap.size) [] _ (MarksOk.nil _ _) fun w' ht=>⟨_,results_tmp2 rfl _ _ _,_,rfl,World.ownsRow_nil _ _ _ _,hb1.trans ht.bel⟩
end Go.Proofs.YtdjhoankkddomaaGreat
namespace Go.Proofs.YtdjhoankkddomaaGreat
open Go Go.RowKit
attribute [local go_sem] Oper.semAt_some
section
variable {P:Program} {w:World} {ops:Array Oper} {rest:List Oper} {o1 o2:Oper} {a:Act} {Q:Exit→Act→World→Prop}
theorem wpList_varA {T:TypeId} {zs cs:Array Value} (n:Nat) (x y:Operand) (hg1:o1.guard=none) (hg2:o2.guard=none) (hz:(execOp a.eval o1).run P w = .ok (.value (.pointer (some ⟨w.heap.size,0,none⟩))) (w.alloc (.cells zs T))) (hsz:∀ w:World,(sizeOf T).run P w = .ok n w) (ho2:o2.op = .store T x y)
  (hx:(a.put o1.dst (.pointer (some ⟨w.heap.size,0,none⟩))).eval x = .pointer (some ⟨w.heap.size,0,none⟩)) (hy:(a.put o1.dst (.pointer (some ⟨w.heap.size,0,none⟩))).eval y = .agg cs) (hn:cs.size=n) (hzs:zs.size=n) (hv:∀ v ∈ cs.toList,v.oneCell'=true)
  (h:∀ W,Blk W w.heap.size T cs→Below w.heap.size w W→wpList P ops Q rest ((a.put o1.dst (.pointer (some ⟨w.heap.size,0,none⟩))).put o2.dst undef) W):wpList P ops Q (o1::o2::rest) a w:=by
 refine wpList_run hg1 (.pointer (some ⟨w.heap.size,0,none⟩)) (w.alloc (.cells zs T)) hz ?_
 refine wpList_store_blk hg2 T x y ho2 n hsz w.heap.size cs hx hy hn hv T zs (Blk.new w T zs) hzs ?_
 exact h _ ((Blk.new w T zs).setRow_ _) (below_setRow ((Below.refl _ _).alloc (Nat.le_refl _) _) (Nat.le_refl _) _)
end
theorem one_cells {v:Value} (hv:v.oneCell'=true):v.cells=#[v]:=by cases v <;> first|rfl|cases hv
theorem run_put1 {P:Program} (ty:TypeId) (hsz:∀ w:World,(sizeOf ty).run P w = .ok 1 w) (v:Value) (hv:v.oneCell'=true) (p:Addr) (w:World) (u:Value) (hc:w.cell? p=some u) (hf:w.frozen? p=false) :
  (Instr.storeAt ty (.pointer (some p)) v).run P w = .ok () (w.setCell p v):=by
 have h1:(store p v).run P w = .ok () (w.setCell p v):=by rw [run_store _ _ _ _ _ hv,hc];simp [hf]
 have hp:p.add 0=p:=rfl
 simp [Instr.storeAt,Instr.sureAddr,storeVar,one_cells hv,hsz,storeCells,Sem.run_bind,hp,h1]
theorem wpMix_put1 {P:Program} {ops:Array Oper} {S:World→Prop} {Q:Exit→Act→World→Prop} {R:Act→World→Prop} {o:Oper} {l:List (Oper × Bool)} {a:Act} {w:World} (hw:Region.wanted o (yielded ops a.tmps)=true) (ty:TypeId) (x y:Operand) (ho:o.op = .store ty x y) (hsz:∀ w:World,(sizeOf ty).run P w = .ok 1 w)
  (p:Addr) (v:Value) (hx:a.eval x = .pointer (some p)) (hy:a.eval y=v) (hv:v.oneCell'=true) (u:Value) (hc:w.cell? p=some u) (hf:w.frozen? p=false) (hS:S (w.setCell p v))
  (h:wpMix P ops S Q R l (a.put o.dst undef) (w.setCell p v)):wpMix P ops S Q R ((o,false)::l) a w:=by
 refine ⟨?_⟩
 unfold wpMix0
 rw [if_pos hw]
 unfold Oper.wp execOp
 simp only [ho,hx,hy,run_put1 ty hsz v hv p w u hc hf,Sem.run_bind,Sem.run_pure,Result.andThen_ok,Oper.upon]
 exact ⟨hS,h.out⟩
theorem wpList_put1i {P:Program} {w:World} {ops:Array Oper} {rest:List Oper} {o:Oper} {a:Act} {Q:Exit→Act→World→Prop} (hgd:o.guard=none) (ty:TypeId) (x y:Operand) (ho:o.op = .store ty x y) (hsz:∀ w:World,(sizeOf ty).run P w = .ok 1 w)
  (p:Addr) (v:Value) (hx:a.eval x = .pointer (some p)) (hy:a.eval y=v) (hv:v.oneCell'=true) (u:Value) (hc:w.cell? p=some u) (hf:w.frozen? p=false) (h:wpList P ops Q rest (a.put o.dst undef) (w.setCell p v)):wpList P ops Q (o::rest) a w :=
 wpList_plain hgd fun _ hK=>by
  unfold Oper.wp execOp
  simp only [ho,hx,hy,run_put1 ty hsz v hv p w u hc hf,Sem.run_bind,Sem.run_pure,Result.andThen_ok,Oper.upon]
  exact hK _ _ h
end Go.Proofs.YtdjhoankkddomaaGreat
namespace Go.Proofs.YtdjhoankkddomaaGreat
open Go Go.RowKit
attribute [local go_sem] Oper.semAt_some
theorem sizeEs:∀ w:World,(sizeOf 48).run Tryz.prog w = .ok 1 w:=fun _=>by kernel_rfl
theorem sizeHsl:∀ w:World,(sizeOf 49).run Tryz.prog w = .ok 1 w:=fun _=>by kernel_rfl
theorem put_mcell (R:MdR) (m:MoV) (ls:List (List UInt8)):mdArr R (m.put ls)=mdArr R m:=rfl
theorem Mp.appE' {w W:World} {Z:Nat→Prop} {lo g:Nat} {R0 R:MdR} {m:MoV} {A:Option Addr} {n c:Nat} {ls:List (List UInt8)} {k j:Nat} (h:Mp Z w lo g R0 m A n c ls k j R W) (hn:m.ents.length+ls.length≤1000000) (l:List UInt8) (hl:ls[k]?=some l) (A':Option Addr) (c':Nat) (hs:Sl W (fun b=>¬ MdN Z g R b) A' l.length c' l) :
  ∃ v' W',(Builtin.append_ #[48,48] 48 #[R.e,.slice (some ⟨W.heap.size,0,none⟩) 1 1]).run Tryz.prog (W.alloc (.cells #[.slice A' l.length c'] 41)) = .ok v' W'∧v'.oneCell'=true ∧
   W'.cell? ⟨g,0,none⟩=some R.e∧W'.frozen? ⟨g,0,none⟩=false∧Blk W' g 57 (mdArr R m)∧Mp Z w lo g R0 m A n c ls (k+1) j { R with e:=v' } (W'.setCell ⟨g,0,none⟩ v')∧∀ (A:Option Addr) (n c:Nat) (l:List UInt8),Sl W (fun b=>¬ PutW g R b) A n c l→Sl (W'.setCell ⟨g,0,none⟩ v') (fun b=>¬ PutW g { R with e:=v' } b) A n c l:=by
 obtain ⟨hk,rfl⟩:=List.getElem?_eq_some_iff.1 hl
 exact h.appE hn hk A' c' hs
theorem Mp.appH' {w W:World} {Z:Nat→Prop} {lo g:Nat} {R0 R:MdR} {m:MoV} {A:Option Addr} {n c:Nat} {ls:List (List UInt8)} {k j:Nat} (h:Mp Z w lo g R0 m A n c ls k j R W) (hn:m.ents.length+ls.length≤1000000) (l:List UInt8) (hl:ls[j]?=some l) :
  ∃ v' W',(Builtin.append_ #[49,49] 49 #[R.h,.slice (some ⟨W.heap.size,0,none⟩) 1 1]).run Tryz.prog (W.alloc (.cells (hcells [hLeaf l]).toArray 53)) = .ok v' W'∧v'.oneCell'=true ∧
   W'.cell? ⟨g,1,none⟩=some R.h∧W'.frozen? ⟨g,1,none⟩=false∧Blk W' g 57 (mdArr R m)∧Mp Z w lo g R0 m A n c ls k (j+1) { R with h:=v' } (W'.setCell ⟨g,1,none⟩ v'):=by
 obtain ⟨hj,rfl⟩:=List.getElem?_eq_some_iff.1 hl
 have e:hcells [hLeaf ls[j]]=(hLeaf ls[j]).map B:=by simp [hcells]
 rw [e]
 exact h.appH hn hj
set_option maxHeartbeats 8000000 in
set_option maxRecDepth 100000 in
theorem mput_any (Z:Nat→Prop) (lo g:Nat) (R:MdR) (m:MoV) (A:Option Addr) (n c:Nat) (ls:List (List UInt8)) (w:World) (h:Mp Z w lo g R m A n c ls 0 0 R w) (hl:m.lastR.length=32) (hp:m.ptR.length=32) (hb:m.begun=[]∧R.b = .slice none 0 0)
  (hn:m.ents.length+ls.length≤1000000) (big:∀ x ∈ m.ents++ls,x.length≤1099511627776) (bigq:∀ x ∈ m.queue,x.length≤1099511627776) :
  Calls Tryz.prog 11 #[.pointer (some ⟨g,0,none⟩),.slice A n c] w fun e w'=>e = .returned (.tuple #[])∧∃ R',Md Z lo g R' (m.put ls) w'∧KB (PutW g R) w w'∧R'.q=R.q∧R'.b=R.b∧∀ b,MdW g R' b→MdW g R b∨w.heap.size≤b:=by
 have hlen:=h.src.len
 have hroom:=h.src.room
 have hmx:=h.src.max
 unfold maxLen at hmx
 have Hlen:=Lib.hid hlen
 have Hbig:=Lib.hid big
 have Hbigq:=Lib.hid bigq
 have Hl:=Lib.hid hl
 have Hp:=Lib.hid hp
 have Hb:=Lib.hid hb
 have Hn:=Lib.hid hn
 clear hlen big bigq hl hp hb
 go_enter Tryz.func11,Tryz.ntmps11
 go_wp2_with fail
 go_loopw [8] (fun v8 wr=>∃ (k:Nat) (R':MdR),k≤n∧v8 = .int .i64 (k:Int)∧Mp Z w lo g R m A n c ls k k R' wr) (fun v8 _=>n - (intOf v8).toNat)
 case atStart=>exact ⟨0,R,Nat.zero_le _,rfl,h⟩
 case round =>
  clear h
  obtain ⟨k,R',hk,rfl,hP⟩:=hrel
  by_cases hkn:k<n
  ·have hkl:k<ls.length:=by rw [Hlen.out];exact hkn
   have hwk:IntKind.i64.wrap ((k:Int)+1)=(k:Int)+1:=IntWalk.i64_in _ (by omega)
   obtain ⟨b,o,rfl,hbl,-,hat⟩:=hP.src.at_ (by omega)
   obtain ⟨A5,c5,ce,hs5⟩:=hat k hkn
   have hge:ls.getD k []=ls[k]:=by rw [List.getD_eq_getElem?_getD,List.getElem?_eq_getElem hkl];rfl
   rw [hge] at ce hs5
   obtain ⟨l,hl⟩:∃ x,ls[k]=x:=⟨_,rfl⟩
   have hlb:l.length≤1099511627776:=by rw [← hl];exact Hbig.out _ (List.mem_append_right _ (List.getElem_mem hkl))
   have hr5:=hs5.room
   have hm5:=hs5.max
   unfold maxLen at hm5
   rw [hl] at ce hs5 hr5
   have hlk:ls[k]?=some l:=by rw [List.getElem?_eq_getElem hkl,hl]
   have Hlk:=Lib.hid hlk
   have hkl':k<n:=hkn
   clear hat hge hl hlk
   have hB:Below wr.heap.size wr wr.drew:=(Below.refl _ _).drew
   have hS:Blk wr.drew g 57 (mdArr R' m):=hP.blk.drew
   have c0:∀ s':InC (fun W=>Blk W g 57 (mdArr R' m)),s'.W.cell? ⟨g,0,none⟩=some R'.e:=fun s'=>by rw [s'.ok.cell,md_at _ _ 0 (by decide)];rfl
   go_upto_region 3 with fail
   refine wp_region_mix_last (fun W=>Blk W g 57 (mdArr R' m)) 11 [(0,true),(1,true),(2,true),(3,true),(4,true),(5,true),(6,false),(7,false),(8,false),(9,false),(10,true)] (by kernel_rfl) (by kernel_rfl) hS fun _=>?_
   simp only [List.map_cons,List.map_nil,Array.getD_eq_getD_getElem?,List.getElem?_toArray,List.getElem?_cons_succ,List.getElem?_cons_zero,Option.getD_some]
   generalize wr.drew=W0 at hS hB ⊢
   iterate 6 (refine wpMix_s (fun K hK=>?_);go_simp;refine hK _ ?_;clear hK K)
   have h6:=hP.step hB
   refine wpMix_c (fun K hK=>?_) hS
   go_simp
   refine (bclone_any l _ _ _ W0 ((hs5.step hB).all) hlb).mono ?_
   rintro e W6 ⟨A',c',rfl,hs6,hb6⟩
   refine hK _ _ ?_
   clear hK K
   have hs5':=hs6.weak (Y:=fun b=>¬ MdN Z g R' b) fun b _ hb hm=>by have:=h6.ltN b hm;omega
   replace h6:=h6.step hb6
   replace hS:=hS.below hb6 hS.lt
   refine ⟨hS,?_⟩
   obtain ⟨v',W',hr',hv1,hcl,hfr,hrs,hQ,hSl⟩:=h6.appE' Hn.out l Hlk.out A' c' hs5'
   have hs57:=hSl _ _ _ _ ((hs5.step hB).step hb6)
   clear hSl
   have HQ:=Lib.hid hQ
   clear hQ h6
   refine wpMix_run (by kernel_rfl) (.slice (some ⟨W6.heap.size,0,none⟩) 1 1) (W6.alloc (.cells #[.slice A' l.length c'] 41)) (by kernel_rfl) (hS.alloc _) ?_
   simp only [Act.put,List.setIfInBounds_toArray,List.set_cons_succ,List.set_cons_zero]
   refine wpMix_run (by kernel_rfl) v' W' (run_append_op (.tmp 16) (.tmp 19) 48 rfl _ _ rfl rfl hr') hrs ?_
   simp only [Act.put,List.setIfInBounds_toArray,List.set_cons_succ,List.set_cons_zero]
   refine wpMix_c (fun K hK=>?_) hrs
   go_simp
   refine hK _ _ ?_
   clear hK K
   refine ⟨hrs,?_⟩
   (refine wpMix_s (fun K hK=>?_);go_simp;refine hK _ ?_;clear hK K)
   refine wpMix_nil ?_
   intro _
   simp only [List.drop_succ_cons,List.drop_zero]
   clear c0 hS hs5' hb6
   go_wp2_with ((with_reducible show wpList _ _ _ [⟨none,.store _ _ _,_,_,_,_⟩] _ _);refine wpList_put1i rfl 48 (.tmp 22) (.tmp 20) rfl sizeEs ⟨g,0,none⟩ v' rfl rfl hv1 _ hcl hfr ?_;simp only [Act.put])
   refine np_normal ?_
   have hQ:=HQ.out
   obtain ⟨w7,hw7⟩:∃ x,W'.setCell ⟨g,0,none⟩ v'=x:=⟨_,rfl⟩
   rw [hw7] at hQ hs57 ⊢
   clear hw7 hcl hfr hv1 hr' HQ hP hB hs6 hrs
   obtain ⟨R2,hR2⟩:∃ x,({ R' with e:=v' }:MdR)=x:=⟨_,rfl⟩
   rw [hR2] at hQ
   clear hR2
   have hB:Below w7.heap.size w7 w7.drew:=(Below.refl _ _).drew
   have hS:Blk w7.drew g 57 (mdArr R2 m):=hQ.blk.drew
   have c1:∀ s':InC (fun W=>Blk W g 57 (mdArr R2 m)),s'.W.cell? ⟨g,1,none⟩=some R2.h:=fun s'=>by rw [s'.ok.cell,md_at _ _ 1 (by decide)];rfl
   go_upto_region 4 with fail
   refine wp_region_mix_last (fun W=>Blk W g 57 (mdArr R2 m)) 11 [(0,true),(1,true),(2,true),(3,true),(4,true),(5,true),(6,false),(7,false),(8,false),(9,false),(10,true)] (by kernel_rfl) (by kernel_rfl) hS fun _=>?_
   simp only [List.map_cons,List.map_nil,Array.getD_eq_getD_getElem?,List.getElem?_toArray,List.getElem?_cons_succ,List.getElem?_cons_zero,Option.getD_some]
   generalize w7.drew=Z0 at hS hB ⊢
   iterate 6 (refine wpMix_s (fun K hK=>?_);go_simp;refine hK _ ?_;clear hK K)
   have h6:=hQ.step hB
   refine wpMix_c (fun K hK=>?_) hS
   go_simp
   refine (hleaf_any l _ _ _ Z0 ((hs57.step hB).all) (by omega)).mono ?_
   rintro e W6 ⟨rfl,hb6⟩
   refine hK _ _ ?_
   clear hK K
   replace h6:=h6.step hb6
   replace hS:=hS.below hb6 hS.lt
   refine ⟨hS,?_⟩
   obtain ⟨v',W',hr',hv1,hcl,hfr,hrs,hQ'⟩:=h6.appH' Hn.out l Hlk.out
   have HQ:=Lib.hid hQ'
   clear hQ' h6
   refine wpMix_run (by kernel_rfl) (.slice (some ⟨W6.heap.size,0,none⟩) 1 1) (W6.alloc (.cells (hcells [hLeaf l]).toArray 53)) (run_litH_op (hLeaf l) (length_hLeaf l) (.tmp 29) rfl rfl W6) (hS.alloc _) ?_
   simp only [Act.put,List.setIfInBounds_toArray,List.set_cons_succ,List.set_cons_zero]
   refine wpMix_run (by kernel_rfl) v' W' (run_append_op (.tmp 27) (.tmp 30) 49 rfl _ _ rfl rfl hr') hrs ?_
   simp only [Act.put,List.setIfInBounds_toArray,List.set_cons_succ,List.set_cons_zero]
   refine wpMix_c (fun K hK=>?_) hrs
   go_simp
   refine hK _ _ ?_
   clear hK K
   refine ⟨hrs,?_⟩
   (refine wpMix_s (fun K hK=>?_);go_simp;refine hK _ ?_;clear hK K)
   refine wpMix_nil ?_
   intro _
   simp only [List.drop_succ_cons,List.drop_zero]
   clear c1 hS hb6
   go_wp2_with ((with_reducible show wpList _ _ _ [⟨none,.store _ _ _,_,_,_,_⟩] _ _);refine wpList_put1i rfl 49 (.tmp 33) (.tmp 31) rfl sizeHsl ⟨g,1,none⟩ v' rfl rfl hv1 _ hcl hfr ?_;simp only [Act.put])
   refine np_normal ?_
   have hQ':=HQ.out
   obtain ⟨w8,hw8⟩:∃ x,W'.setCell ⟨g,1,none⟩ v'=x:=⟨_,rfl⟩
   rw [hw8] at hQ' ⊢
   clear hw8 hcl hfr hv1 hr' HQ hQ hB hrs
   go_wp2_with fail
   go_roundw
   case rel=>exact ⟨k+1,_,by omega,by go_num,hQ'⟩
   case measure=>simp [intOf];omega
  ·obtain rfl:k=n:=by omega
   have hkn':¬ k<k:=by omega
   have htk:ls.take k=ls:=List.take_of_length_le (by rw [Hlen.out];exact Nat.le_refl _)
   have hhs:=hP.hashes
   have hes:=hP.ents
   rw [htk] at hhs hes
   have hn2:m.ents.length+k≤1000000:=by have:=Hlen.out;omega
   have hll:(lvs (m.ents++ls)).length=m.ents.length+k:=by rw [lvs_length,List.length_append,Hlen.out]
   obtain ⟨Ah,ch,hhe,hhs'⟩:=owns_slv hhs
   have hH:Hs wr (fun _=>True) Ah (m.ents.length+k) ch (lvs (m.ents++ls)):=⟨hhs'.all,hll,H32.lvs _⟩
   have c1:wr.cell? ⟨g,1,none⟩=some (.slice Ah (m.ents.length+k) ch):=by rw [hP.blk.cell,md_at _ _ 1 (by decide)];exact congrArg some hhe
   have hcl:=troots_any (lvs (m.ents++ls)) Ah (m.ents.length+k) ch wr hH hn2
   have Hcl:=Lib.hid hcl
   have hrc:=hhs'.room
   have hmc:=hhs'.max
   unfold maxLen at hmc
   clear hcl hH hhs' htk
   go_wp2_with fail
   refine Hcl.out.mono ?_
   rintro e w9 ⟨v9,rfl,ho9,hb9⟩
   have hP9:=hP.step hb9
   obtain ⟨A9,c9',hv9,hs9⟩:=owns_slv ho9
   have c2:w9.cell? ⟨g,2,none⟩=some R'.r:=by rw [hP9.blk.cell,md_at _ _ 2 (by decide)];rfl
   have f2:=hP9.blk.frozen 2
   have hone:v9.oneCell'=true:=by rw [hv9];rfl
   have hgs:KB (fun b=>b=g) w9 (w9.setCell ⟨g,2,none⟩ v9):=KB.of_grown (grown_setCell (World.grownBy.refl _ (some g)) 2 v9) fun r e=>(Option.some.inj e).symm
   have hD:Md Z lo g { R' with r:=v9 } (m.put ls) (w9.setCell ⟨g,2,none⟩ v9):=by
    have hgl:=hP.blk.lt
    have hne:∀ b,R'.e.ownBlock=some b→b≠g:=fun b hb e=>by subst e;exact own_ty hP9.ents.ex.choose_spec.1 hP9.blk (by decide) hb
    have hlen2:(m.put ls).ents.length=m.ents.length+k:=by show (m.ents++ls).length=_;rw [List.length_append,Hlen.out]
    refine ⟨?_,Hl.out,Hp.out,?_,?_,?_,?_,?_,hP.eq,fun _=>⟨Hb.out.1,?_⟩,hP.low,Hbig.out,Hbigq.out,fun b hz=>Nat.lt_of_lt_of_le (hP9.zlt b hz) hgs.size,hP.zno⟩
    ·rw [put_mcell,← md_set (R:=R') (R':={ R' with r:=v9 }) (m:=m) (m':=m) 2 (by decide) v9 rfl fun i hi hne=>by simp [mcell,hne]]
     exact hP9.blk.set_ 2 v9
    ·exact (hes.step hb9).kb hgs (fun b hb e=>hne b hb e) (fun b _ hx e=>hx (.inl (.inl e)))
    ·rw [hlen2]
     exact hgs.own (owns_step hhs hb9) fun b hb e=>by subst e;exact own_ty (owns_step hhs hb9) hP9.blk (by decide) hb
    ·refine ⟨A9,c9',by rw [hlen2];exact hv9,?_⟩
     rw [hlen2]
     refine Hs.kb ⟨hs9.weak (Y:=fun b=>¬ MdN Z g R' b) fun b _ hb hm=>by have:=hP.ltN b hm;omega,by rw [length_headsL],headsL_all _ (H32.lvs _) _⟩ hgs fun b _ hx e=>hx (.inl (.inl e))
    ·exact hP9.queue.kb hgs (fun b hb e=>by subst e;exact own_ty hP9.queue.ex.choose_spec.1 hP9.blk (by decide) hb) (fun b _ hx e=>hx (.inl (.inl e)))
    ·refine ⟨none,0,?_,?_⟩
     ·show R'.b = .slice none (m.put ls).begun.length 0
      rw [show (m.put ls).begun=m.begun from rfl,Hb.out.1,hP.rb]
      exact Hb.out.2
     ·rw [show (m.put ls).begun=m.begun from rfl,Hb.out.1]
      exact ⟨⟨[],SlV.empty,fun i hi=>absurd hi (by simp)⟩,rfl⟩
    ·show R'.b=_
     rw [hP.rb]
     exact Hb.out.2
   have hK:KB (PutW g R) w (w9.setCell ⟨g,2,none⟩ v9):=hP9.kb.then hgs fun b _ e => .inl e
   have hnew:∀ b,MdW g { R' with r:=v9 } b→MdW g R b∨w.heap.size≤b:=fun b hm=>by
    rcases hm with hm|hm|hm|hm
    ·exact .inl (.inl hm)
    ·rcases hP.new b (.inr (.inl hm)) with h1|h1
     ·exact .inl h1.mdW
     ·exact .inr h1
    ·rcases hP.new b (.inr (.inr hm)) with h1|h1
     ·exact .inl h1.mdW
     ·exact .inr h1
    ·exact .inl (.inr (.inr (.inr (by rw [← hP.rq];exact hm))))
   have HD:=Lib.hid hD
   have HK:=Lib.hid hK
   have Hnew:=Lib.hid hnew
   have Hrq:=Lib.hid hP.rq
   have Hrb:=Lib.hid hP.rb
   clear hD hK hnew hgs hP9 hs9 ho9 hb9 hP hes hhs hv9
   go_wp2_with ((with_reducible show wpList _ _ _ [⟨none,.store _ _ _,_,_,_,_⟩] _ _);refine wpList_put1i rfl 49 (.tmp 42) (.tmp 40) rfl sizeHsl ⟨g,2,none⟩ v9 rfl rfl hone _ c2 f2 ?_;simp only [Act.put])
   exact bodyPost_end (by exact results_none rfl _ _ _) rfl ⟨rfl,_,HD.out,HK.out,Hrq.out,Hrb.out,Hnew.out⟩
end Go.Proofs.YtdjhoankkddomaaGreat
namespace Go.Proofs.YtdjhoankkddomaaGreat
open Go Go.RowKit
attribute [local go_sem] Oper.semAt_some
def R0:MdR:=⟨.slice none 0 0,.slice none 0 0,.slice none 0 0,.slice none 0 0,.slice none 0 0⟩
theorem aggCf:∀ w:World,(isAgg 23).run Tryz.prog w = .ok true w:=fun _=>by kernel_rfl
theorem sizeCf:∀ w:World,(sizeOf 23).run Tryz.prog w = .ok 2 w:=fun _=>by kernel_rfl
theorem mnew_mp (w:World) (Z:Nat→Prop) (lo g:Nat) (m:MoV) (he:m.ents=[]) (hq:m.queue=[]) (hb:Blk w g 57 (mdArr R0 m)) (hlo:lo≤g) (hz:∀ b,Z b→b<w.heap.size) (hzg:¬ Z g):Mp Z w lo g R0 m none 0 0 [] 0 0 R0 w:=by
 refine ⟨hb,?_,?_,?_,⟨⟨[],SlV.empty,fun i hi=>absurd hi (by simp)⟩,rfl⟩,rfl,rfl,rfl,(fun b e=>by cases e),KB.refl _ _,(fun b h => .inl h),hlo,hz,fun b h hz1=>by
  rcases h with rfl|h|h|h
  ·exact hzg hz1
  ·cases h
  ·cases h
  ·cases h⟩
 ·rw [he];exact EsO.nil
 ·rw [he];exact World.ownsRow_nil _ _ _ _
 ·rw [hq];exact EsO.nil
set_option maxHeartbeats 4000000 in
set_option maxRecDepth 100000 in
theorem mnew_bad (seg cap:Int) (w:World) (h:jobOk seg cap=false) :
  Calls Tryz.prog 4 #[.agg #[.int .i64 seg,.int .i64 cap]] w fun e w'=>e = .returned (.tuple #[.pointer none,.int .i64 2])∧Below w.heap.size w w':=by
 have k1:=Blk.new w 23 #[.int .i64 seg,.int .i64 cap]
 have B1:Below w.heap.size w (w.alloc (.cells #[.int .i64 seg,.int .i64 cap] 23)):=(Below.refl _ _).alloc (Nat.le_refl _) _
 have c0:(w.alloc (.cells #[.int .i64 seg,.int .i64 cap] 23)).cell? ⟨w.heap.size,0,none⟩=some (.int .i64 seg):=by rw [k1.cell];rfl
 have c1:(w.alloc (.cells #[.int .i64 seg,.int .i64 cap] 23)).cell? ⟨w.heap.size,1,none⟩=some (.int .i64 cap):=by rw [k1.cell];rfl
 clear k1
 by_cases h1:seg<1
 ·have d1:decide (seg<1)=true:=by simpa using h1
  go_enter Tryz.func4,Tryz.ntmps4
  go_wp2_with fail
  go_ret2
  exact ⟨rfl,B1⟩
 ·have d1:decide (seg<1)=false:=by simpa using h1
  by_cases h2:4096<seg
  ·have d2:decide (4096<seg)=true:=by simpa using h2
   go_enter Tryz.func4,Tryz.ntmps4
   go_wp2_with fail
   go_ret2
   exact ⟨rfl,B1⟩
  ·have d2:decide (4096<seg)=false:=by simpa using h2
   by_cases h3:cap<1
   ·have d3:decide (cap<1)=true:=by simpa using h3
    go_enter Tryz.func4,Tryz.ntmps4
    go_wp2_with fail
    go_ret2
    exact ⟨rfl,B1⟩
   ·have d3:decide (cap<1)=false:=by simpa using h3
    have h4:1024<cap:=by
     simp only [jobOk,Bool.and_eq_false_iff,decide_eq_false_iff_not] at h
     omega
    have d4:decide (1024<cap)=true:=by simpa using h4
    go_enter Tryz.func4,Tryz.ntmps4
    go_wp2_with fail
    go_ret2
    exact ⟨rfl,B1⟩
set_option maxHeartbeats 4000000 in
set_option maxRecDepth 100000 in
theorem mnew_any (Z:Nat→Prop) (seg cap:Int) (w:World) (hZ:∀ b,Z b→b<w.heap.size) (h:jobOk seg cap=true) :
  Calls Tryz.prog 4 #[.agg #[.int .i64 seg,.int .i64 cap]] w fun e w'=>∃ g R,e = .returned (.tuple #[.pointer (some ⟨g,0,none⟩),.int .i64 0])∧Md Z w.heap.size g R (MoV.new seg cap) w'∧Below w.heap.size w w':=by
 obtain ⟨w1,hw1⟩:∃ x,w.alloc (.cells #[.int .i64 seg,.int .i64 cap] 23)=x:=⟨_,rfl⟩
 have k1:Blk w1 w.heap.size 23 #[.int .i64 seg,.int .i64 cap]:=by rw [← hw1];exact Blk.new _ _ _
 have B1:Below w.heap.size w w1:=by rw [← hw1];exact (Below.refl _ _).alloc (Nat.le_refl _) _
 have c0:w1.cell? ⟨w.heap.size,0,none⟩=some (.int .i64 seg):=by rw [k1.cell];rfl
 have c1:w1.cell? ⟨w.heap.size,1,none⟩=some (.int .i64 cap):=by rw [k1.cell];rfl
 have hld:(Instr.loadAt 23 (.pointer (some ⟨w.heap.size,0,none⟩))).run Tryz.prog w1 = .ok (.agg #[.int .i64 seg,.int .i64 cap]) w1:=run_load_blk (aggCf _) (sizeCf _) _ _ rfl k1
 simp only [jobOk,Bool.and_eq_true,decide_eq_true_eq] at h
 have d1:decide (seg<1)=false:=by simp;omega
 have d2:decide (4096<seg)=false:=by simp;omega
 have d3:decide (cap<1)=false:=by simp;omega
 have d4:decide (1024<cap)=false:=by simp;omega
 obtain ⟨ca,hca⟩:∃ x,mdArr R0 (MoV.new seg cap)=x:=⟨_,rfl⟩
 have hput:=mput_any Z w.heap.size w1.heap.size R0 (MoV.new seg cap) none 0 0 [] (w1.alloc (.cells ca 57)) (mnew_mp _ _ _ _ _ rfl rfl (by rw [hca];exact Blk.new _ _ _) B1.size (fun b hb=>by have:=hZ b hb;have:=B1.size;simp;omega) (fun hb=>by have:=hZ _ hb;have:=B1.size;omega)) (by simp [MoV.new,zero32]) (by simp [MoV.new,zero32]) ⟨rfl,rfl⟩ (by simp [MoV.new]) (fun x hx=>by simp [MoV.new] at hx) (fun x hx=>by simp [MoV.new] at hx)
 have Hput:=Lib.hid hput
 have Hca:=Lib.hid hca
 have Hw1:=Lib.hid hw1
 have Hld:=Lib.hid hld
 clear hput hca hw1 k1 hld
 go_enter Tryz.func4,Tryz.ntmps4
 go_wp2_with (first
  | rw [Hw1.out]
  | ((with_reducible show wpList _ _ _ (⟨some 23,.load _ _,_,_,_,_⟩::_) _ _);refine wpList_load rfl 23 (.tmp 1) rfl w.heap.size 0 rfl _ Hld.out ?_;simp only [Act.put])
  | ((with_reducible show wpList _ _ _ (⟨some 24,.build _ _,_,_,_,_⟩::_) _ _);refine wpList_run0 rfl (.agg ca) (by rw [← Hca.out];kernel_rfl) ?_;simp only [Act.put])
  | ((with_reducible show wpList _ _ _ (⟨some 25,.box _ _,_,_,_,_⟩::_) _ _);refine wpList_run rfl (.pointer (some ⟨w1.heap.size,0,none⟩)) (w1.alloc (.cells ca 57)) (by rfl) ?_;simp only [Act.put]))
 refine Hput.out.mono ?_
 rintro e w2 ⟨rfl,R',hD,hK,-,-,-⟩
 have B2:Below w.heap.size w w2:=(B1.alloc B1.size _).trans (hK.below (fun b hb=>by
  rcases hb with rfl|hb|hb
  ·exact B1.size
  ·cases hb
  ·cases hb) (by simp;have:=B1.size;omega))
 have hD':Md Z w.heap.size w1.heap.size R' (MoV.new seg cap) w2:=hD
 clear hD hK Hput c0 c1
 go_wp2_with fail
 go_ret2
 exact ⟨_,R',rfl,hD',B2⟩
end Go.Proofs.YtdjhoankkddomaaGreat
