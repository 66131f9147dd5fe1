import Derived.Test.YtdjhoankkddomaaGreatQg218
import Derived.Test.YtdjhoankkddomaaGreatQg220
import Derived.Test.YtdjhoankkddomaaGreatQg216
import Derived.Test.YtdjhoankkddomaaGreatQg219
import Derived.Test.YtdjhoankkddomaaGreatQg221
import Derived.Test.YtdjhoankkddomaaGreatQg214
namespace Go.Proofs.YtdjhoankkddomaaGreat
open Go Go.RowKit
theorem pathA_each (m:Int) (n:Nat):∀ x ∈ (pathA m n).1,x.1<x.2∧x.2≤n:=by
 intro x hx
 unfold pathA at hx
 split at hx
 ·cases hx
 ·rename_i h1
  have:=(pathL_ok n m.toNat 0 n (by omega) (by omega) (by omega)).each x (by simpa using hx)
  omega
theorem path_good (hs:List (List UInt8)) (m:Int):goodL hs (natR (pathA m hs.length).1)=natR (pathA m hs.length).1:=by
 unfold goodL
 rw [List.filter_eq_self]
 intro y hy
 unfold natR at hy
 obtain ⟨x,hx,rfl⟩:=List.mem_map.1 hy
 obtain ⟨h1,h2⟩:=pathA_each m hs.length x hx
 unfold okR
 rw [stretchR_nat hs x.1 x.2 h1 h2]
 rfl
theorem length_rootsP (hs:List (List UInt8)) (m:Int):(rootsP hs m).length=(pathA m hs.length).1.length:=by simp [rootsP,rootsL]
theorem rootsP_all (hs:List (List UInt8)) (h:H32 hs) (m:Int):H32 (rootsP hs m):=rootsL_all hs h _
theorem rootsP_at (hs:List (List UInt8)) (m:Int) (k:Nat) (h:k<(pathA m hs.length).1.length):(stretchR hs ((natR (pathA m hs.length).1).getD k (0,0)).1 ((natR (pathA m hs.length).1).getD k (0,0)).2).1=(rootsP hs m).getD k []:=by
 obtain ⟨h1,h2⟩:=pathA_each m hs.length _ (List.getElem_mem h)
 unfold natR rootsP rootsL
 rw [List.getD_eq_getElem?_getD,List.getElem?_map,List.getD_eq_getElem?_getD,List.getElem?_map,List.getElem?_eq_getElem h]
 simp only [Option.map_some,Option.getD_some]
 rw [stretchR_nat hs _ _ h1 h2]
theorem rootsP_bad (hs:List (List UInt8)) (m:Int) (h:(pathA m hs.length).2≠0):rootsP hs m=[]:=by
 unfold rootsP pathA at *
 split
 ·rfl
 ·rename_i h1
  rw [if_neg h1] at h
  exact absurd rfl h
end Go.Proofs.YtdjhoankkddomaaGreat
namespace Go.Proofs.YtdjhoankkddomaaGreat
open Go Go.RowKit Go.Shelf
attribute [local go_sem] Oper.semAt_some
set_option maxHeartbeats 4000000 in
set_option maxRecDepth 100000 in
theorem iprove_any (hs:List (List UInt8)) (A:Option Addr) (n c:Nat) (w:World) (m:Int) (h:Hs w (fun _=>True) A n c hs) (hn:n≤1099511627776) :
  Calls Tryz.prog 73 #[.slice A n c,.int .i64 m] w fun e w'=>∃ v,e = .returned (.tuple #[v,.int .i64 (pathA m hs.length).2])∧w'.ownsRow w.heap.size 53 32 v (rootsP hs m).length (hcells (rootsP hs m))∧Below w.heap.size w w':=by
 have hlen:=h.len
 have h32:=h.all
 have hroom:=h.sl.room
 have hmx:=h.sl.max
 unfold maxLen at hmx
 have hst:=tpathA_any m (n:Int) w (by omega)
 obtain ⟨⟨ls,e0⟩,hse⟩:∃ s,pathA m (n:Int)=s:=⟨_,rfl⟩
 rw [hse] at hst
 dsimp only at hst
 have hlm:ls.length≤64:=by have:=pathA_len m (n:Int) (by omega);rw [hse] at this;exact this
 have Hlen:=Lib.hid hlen
 have H32h:=Lib.hid h32
 have Hst:=Lib.hid hst
 rw [hlen,hse]
 dsimp only
 by_cases he0:e0=0
 ·subst he0
  have hgood:=path_good hs m
  have hlr:=length_rootsP hs m
  have hat:=rootsP_at hs m
  rw [hlen,hse] at hgood hlr hat
  dsimp only at hgood hlr hat
  obtain ⟨rs,hrs⟩:∃ rs,rootsP hs m=rs:=⟨_,rfl⟩
  have hr32:H32 rs:=by rw [← hrs];exact rootsP_all hs h32 m
  rw [hrs] at hlr hat ⊢
  have Hgood:=Lib.hid hgood
  have Hlr:=Lib.hid hlr
  have Hat:=Lib.hid hat
  have Hr32:=Lib.hid hr32
  have Hse:=Lib.hid hse
  clear hlen h32 hst hgood hlr hat hr32 hrs hse
  refine (callsIn_wide (n:=5)).1 ?_
  refine callsIn_of_wp_marks Tryz.func73 rfl trivial ?_ rfl
  simp only [Tryz.ntmps73,List.size_toArray,List.length_cons,List.length_nil,Nat.reduceAdd,Nat.reduceSub,Array.replicate_succ,Array.replicate_zero,List.push_toArray,List.append_toArray,List.nil_append,List.cons_append]
  refine wpIn_wide.2 ?_
  go_wp2_with fail
  refine Hst.out.mono ?_
  rintro e w1 ⟨vs,rfl,hP⟩
  obtain ⟨As,cs,rfl,hrs1⟩:=Rs.of_owns hP.own (length_natR ls)
  have hb1:=hP.bel
  have hroom1:=hrs1.sl.room
  have hmx1:=hrs1.sl.max
  unfold maxLen at hmx1
  have h1:=h.step hb1
  have k8:Blk (w1.alloc (.cells #[.slice none 0 0] 49)) w1.heap.size 49 #[.slice none 0 0]:=Blk.new _ _ _
  have hb8:Below w.heap.size w (w1.alloc (.cells #[.slice none 0 0] 49)):=hb1.alloc hb1.size _
  have hb18:Below w1.heap.size w1 (w1.alloc (.cells #[.slice none 0 0] 49)):=(Below.refl _ _).alloc (Nat.le_refl _) _
  have h2:=h1.step hb18
  have hrs2:=hrs1.step hb18
  have hs12:=hb1.size
  clear h hP h1 hrs1 hb18 hb1
  have hsz2:(w1.alloc (.cells #[.slice none 0 0] 49)).heap.size=w1.heap.size+1:=by simp
  go_wp2_with fail
  generalize w1.alloc (.cells #[.slice none 0 0] 49)=W2 at *
  generalize w1.heap.size=g8 at *
  refine (each_any hs (natR ls) A n c As ls.length cs W2 h2 (hrs2.weak fun _ _ _=>trivial) (by omega) (by omega)).mono ?_
  rintro e W3 ⟨A2,c2,Ar2,cr2,rfl,e1,e2,eh,er,hb3⟩
  have hI0:∀ n₁,CpI w g8 n₁ [] W3:=fun n₁=>⟨⟨_,k8.step hb3,World.ownsRow_nil _ _ _ _⟩,hb8.trans (hb3.mono hb8.size)⟩
  have hsz3:=hb3.size
  have hG:=e1.lt
  clear h2 hrs2 k8 hb8 hb3
  rw [hsz2] at e1 e2 eh er hsz3 hG
  go_wp2_with fail
  refine wp_range_U (gf:=111) (lb:=#[.pointer (some ⟨g8+1+1,0,none⟩),.pointer (some ⟨g8+1,0,none⟩)]) rfl (enters_of Tryz.func111 (by kernel_rfl) rfl)
   (each1_seq hs (natR ls) A2 n c2 Ar2 ls.length cr2 (g8+1+1) (g8+1) (·=g8) W3 e1 e2 (eh.weak fun b _ hb e=>by have hb:g8+1+1<b:=hb;have e:b=g8:=e;omega) (er.weak fun b _ hb e=>by have hb:g8+1+1<b:=hb;have e:b=g8:=e;omega) (by intro e;omega) (fun b hb=>by have hb:b=g8:=hb;omega) (by omega) (by omega))
   (fun n₁ k vs W h=>by rw [show vs=_ from h];rfl)
   (fun n₁ k=>CpI w g8 n₁ (rs.take k)) (fun _ _ _ _=>False) (fun n₁=>CpI.own_ (fun k=>rs.take k) (by omega)) (fun _ _ _ _ _ _ h _ _=>h.elim) (fun n₁ _=>by simpa using hI0 n₁) ?round ?done ?stop
  case round =>
   clear hI0 e1 e2 eh er
   intro li n₁ k vs X hl hln hnX hk hI hy
   subst hy
   rw [Hgood.out,length_natR] at hk
   rw [Hgood.out,Hat.out k hk]
   have htk:=take_snocH rs k (by rw [Hlr.out];exact hk)
   have hzl:=Hr32.out.getD k (by rw [Hlr.out];exact hk)
   have hlen:(rs.take k).length≤64:=by rw [List.length_take,Hlr.out];omega
   generalize rs.getD k []=z at hzl htk ⊢
   generalize (natR ls).getD k (0,0)=x
   obtain ⟨x1,x2⟩:=x
   dsimp only [rval]
   have Htk:=Lib.hid htk
   have Hzl:=Lib.hid hzl
   clear htk hzl
   refine wpIn_region_lit ?_
   go_simp
   refine wpListIn_of2 (openR li) rfl ?_
   refine wpList_hvar (.tmp 10) (.tmp 25) rfl rfl rfl rfl rfl rfl Hzl.out ?_
   intro X1 k10 hb10
   refine thenN_nil ?_
   simp only [Act.put]
   gi_wp2
   refine ⟨KeepU.below hb10,?_⟩
   intro X2 hturn
   have hI2:=hturn.own (CpI.own_ (w:=w) (g8:=g8) (n₁:=n₁) (fun k=>rs.take k) (show w.heap.size≤W3.heap.size by omega)) (hI.step hb10)
   have k10':HV X2 X.heap.size z:=⟨hturn.blk k10.blk,Hzl.out⟩
   have hnX2:n₁≤X2.heap.size:=by rw [hturn.size];exact Nat.le_trans hnX hb10.size
   clear hI k10 hb10 hturn hnX
   generalize X.heap.size=g10 at k10' ⊢
   obtain ⟨⟨v,k8,hov⟩,hbel⟩:=hI2
   generalize hq:rs.take k=q at *
   obtain ⟨v',W9,hr9,hv9,hg9,-⟩:=append_hR hov z Hzl.out (by omega) hnX2
   obtain ⟨gv,cv,rfl⟩:=owns_some hv9 (by simp)
   have hge9:∀ r,v.ownBlock=some r→n₁≤r:=fun r e=>(hov.lt r e).1
   have k89:Blk W9 g8 49 #[v]:=k8.grown hg9 (fun e=>by have:=hge9 _ e.symm;omega)
   have c8:X2.cell? ⟨g8,0,none⟩=some v:=by rw [k8.cell];rfl
   have c89:W9.cell? ⟨g8,0,none⟩=some v:=by rw [k89.cell];rfl
   have f89:=k89.frozen 0
   have Hr9:=Lib.hid hr9
   clear hr9
   gi_wp2_with (first
    | ((with_reducible show wpListIn _ _ _ _ _ (⟨some 27,.load _ _,_,_,_,_⟩::_) _ _);refine wpListIn_of1 (openR li) rfl ?_;refine wpList_hload (.tmp 10) (by kernel_rfl) rfl k10' rfl ?_;refine thenN_nil ?_;simp only [Act.put])
    | ((with_reducible show wpListIn _ _ _ _ _ (⟨some 28,.buildSlice _ _ _,_,_,_,_⟩::_) _ _);refine wpListIn_of1 (openR li) rfl ?_;refine wpList_run rfl _ _ (run_litH_op z Hzl.out (.tmp 27) rfl rfl _) ?_;refine thenN_nil ?_;simp only [Act.put])
    | ((with_reducible show wpListIn _ _ _ _ _ (⟨some 29,.call _,_,_,_,_⟩::_) _ _);refine wpListIn_of1 (openR li) rfl ?_;refine wpList_run rfl _ W9 (run_append_op (.tmp 26) (.tmp 28) 49 rfl _ _ rfl rfl Hr9.out) ?_;refine thenN_nil ?_;simp only [Act.put]))
   have hl:(q++[z]).length=q.length+1:=by simp
   rw [hl] at hv9
   have hgn:=(hv9.lt gv rfl).1
   refine ⟨(KeepU.grown hg9 (fun r e=>⟨.inl (hge9 r e),owns_cells hov e⟩)).trans (KeepU.setCell (U:=(·=g8)) k89 (.inr rfl) 0 _),⟨_,k89.set_ 0 _,?_⟩,(hbel.grown hg9 hbel.size (fun r e=>by have:=hge9 r e;omega)).setCell (by show w.heap.size≤g8;omega) _⟩
   rw [Htk.out,hl]
   exact hv9.kept (grownBy_setCell' W9 g8 _) (.inr (fun e=>by have e:gv=g8:=Option.some.inj e;omega))
  case done =>
   clear hI0 e1 e2 eh er
   intro D n₁ X hD hDn hI hK
   rw [Hgood.out,length_natR,List.take_of_length_le (by rw [Hlr.out];exact Nat.le_refl _)] at hI
   obtain ⟨⟨v,k8,hov⟩,hbel⟩:=hI
   have c8:X.cell? ⟨g8,0,none⟩=some v:=by rw [k8.cell];rfl
   go_wp2_with fail
   refine leaves_marks (N:=w.heap.size) [D] _ ((MarksOk.nil _ _).cons (by omega) hK (by simp)) fun w' ht=>⟨_,results_tmp2 rfl _ _ _,v,rfl,?_,hbel.trans ht.bel⟩
   refine owns_le (b:=n₁) ?_ (by omega)
   rcases hov.2 with ⟨rfl,h0⟩|⟨g,cap,cur,rfl,hb,hc,r1,r2,r3,r4⟩
   ·exact ⟨hov.1,.inl ⟨rfl,h0⟩⟩
   ·exact ⟨hov.1,.inr ⟨g,cap,cur,rfl,hb,ht.blk _ _ _ hc,r1,r2,r3,r4⟩⟩
  case stop =>
   rintro D n₁ cd k X hD hDn hk h hK
   exact h.elim
 ·have hb0:rootsP hs m=[]:=rootsP_bad hs m (by rw [hlen,hse];exact he0)
  rw [hb0]
  have hne:(e0 != 0)=true:=by simpa using he0
  clear hlen h32 hst hse he0 hb0
  refine (callsIn_wide (n:=5)).1 ?_
  refine callsIn_of_wp_marks Tryz.func73 rfl trivial ?_ rfl
  simp only [Tryz.ntmps73,List.size_toArray,List.length_cons,List.length_nil,Nat.reduceAdd,Nat.reduceSub,Array.replicate_succ,Array.replicate_zero,List.push_toArray,List.append_toArray,List.nil_append,List.cons_append]
  refine wpIn_wide.2 ?_
  go_wp2_with fail
  refine Hst.out.mono ?_
  rintro e w1 ⟨vs,rfl,hP⟩
  obtain ⟨As,cs,rfl,-⟩:=Rs.of_owns hP.own (length_natR ls)
  have hb1:=hP.bel
  clear hP
  go_wp2_with fail
  refine leaves_marks (N:=w.heap.size) [] _ (MarksOk.nil _ _) fun w' ht=>⟨_,results_tmp2 rfl _ _ _,_,rfl,World.ownsRow_nil _ _ _ _,hb1.trans ht.bel⟩
end Go.Proofs.YtdjhoankkddomaaGreat
namespace Go.Proofs.YtdjhoankkddomaaGreat
open Go Go.RowKit Go.Shelf
attribute [local go_sem] Oper.semAt_some
theorem sliceHM:Tryz.prog.underlying 49=some (.slice (Tryz.prog.elem 49)):=by kernel_rfl
theorem sizeHM:∀ w:World,(sizeOf (Tryz.prog.elem 49)).run Tryz.prog w = .ok 32 w:=fun _=>by kernel_rfl
theorem run_slice_hiH {ρ:Operand→Value} {o:Oper} (x y:Operand) (ho:o.op = .slice 49 x none (some y) none) (A:Option Addr) (n c k:Nat) (hx:ρ x = .slice A n c) (hy:ρ y = .int .i64 (k:Int)) (hk:k≤c) (W:World) :
  (execOp ρ o).run Tryz.prog W = .ok (.value (.slice A k c)) W:=by
 unfold execOp
 simp only [ho,hx,hy,Option.map_some,Option.map_none,run_slice_high sliceHM sizeHM A n c k hk W,Sem.run_bind,Sem.run_pure,Result.andThen_ok]
set_option maxRecDepth 100000 in
theorem tuple_hv {fn:Func} {p u:Tmp} (h:fn.results=#[.cell p 53,.tmp u]) (tmps:Array Value) (W:World) (g:Nat) (l:List UInt8)
  (hp:tmps.getD p undef = .pointer (some ⟨g,0,none⟩)) (k:HV W g l) :
  (results fn tmps).run Tryz.prog W = .ok (.tuple #[.agg (l.map B).toArray,tmps.getD u undef]) W:=by
 rw [results_cell_tmp h,hp]
 show ((loadVar 53 ⟨g,0,none⟩).run Tryz.prog W).andThen (fun v w₂=>Result.ok (Value.tuple #[v,tmps.getD u undef]) w₂)=_
 rw [run_loadVar_row W g 53 53 (l.map B).toArray (0,0) _ k.blk Tryz.underlying53 rfl (by rw [show (l.map B).toArray.size=32 by simp [k.len]];kernel_rfl)]
 rfl
section
variable {W:World} {Z:Nat→Prop} {lo g:Nat} {R:MdR} {m:MoV}
theorem mbegins_ok (h:Md Z lo g R m W) (n:Nat) (hn:n≤m.ents.length):Calls Tryz.prog 65 #[.pointer (some ⟨g,0,none⟩),.int .i64 (n:Int)] W fun e w'=>e = .returned (.int .i64 0)∧w'=W:=by
 have hno:=mnone_any h
 have hsz:=msize_any h
 have d1:decide ((n:Int)<0)=false:=by simp
 have d2:decide ((m.ents.length:Int)<(n:Int))=false:=by simp;omega
 have d3:decide (m.ents.length<n)=false:=by simp;omega
 obtain ⟨N,hN⟩:∃ x,m.ents.length=x:=⟨_,rfl⟩
 rw [hN] at hsz d2 d3
 clear h hN hn
 go_enter Tryz.func65,Tryz.ntmps65
 go_wp2_with (first
  | (go_at_call 51;refine (hno).mono ?_;rintro e w' ⟨rfl,hw⟩;obtain rfl:=hw.symm)
  | (go_at_call 32;refine (hsz).mono ?_;rintro e w' ⟨rfl,hw⟩;obtain rfl:=hw.symm))
 go_ret
 exact ⟨rfl,rfl⟩
set_option maxHeartbeats 4000000 in
set_option maxRecDepth 100000 in
theorem mroot_ok (h:Md Z lo g R m W) (n:Nat) (hn:n≤m.ents.length):Calls Tryz.prog 37 #[.pointer (some ⟨g,0,none⟩),.int .i64 (n:Int)] W fun e w'=>e = .returned (.tuple #[.agg ((rootL ((lvs m.ents).take n)).map B).toArray,.int .i64 0])∧Below W.heap.size W w':=by
 obtain ⟨root,hroot⟩:∃ x,rootL ((lvs m.ents).take n)=x:=⟨_,rfl⟩
 have hr32:root.length=32:=by rw [← hroot];exact length_rootL _ ((H32.lvs _).take n)
 obtain ⟨w1,hw1⟩:∃ x,W.alloc (.cells (zeroHash) 53)=x:=⟨_,rfl⟩
 have k1:Blk w1 W.heap.size 53 zeroHash:=by rw [← hw1];exact Blk.new _ _ _
 have B1:Below W.heap.size W w1:=by rw [← hw1];exact (Below.refl _ _).alloc (Nat.le_refl _) _
 have h1:=h.step B1
 have hbe:=mbegins_ok h1 n hn
 obtain ⟨A,c,hre,hrs⟩:=h1.roots
 have hr:=hrs.sl.room
 have hmx:=hrs.sl.max
 unfold maxLen at hmx
 obtain ⟨b,o,rfl,hbl,-,hld⟩:=hrs.at_ (by omega)
 have hget:(headsL (lvs m.ents) m.ents.length).getD n []=root:=by rw [headsL_getD _ _ _ hn];exact hroot
 have hlr:=hld n (by omega)
 rw [hget] at hlr
 have c2:w1.cell? ⟨g,2,none⟩=some (.slice (some ⟨b,o,none⟩) (m.ents.length+1) c):=(h1.cell 2 (by decide)).trans (congrArg some hre)
 obtain ⟨N,hN⟩:∃ x,m.ents.length=x:=⟨_,rfl⟩
 rw [hN] at c2 hr hn
 have hlt:n<N+1:=by omega
 have hnn:(n:Int)<(N:Int)+1:=by omega
 rw [hroot]
 have Hw1:=Lib.hid hw1
 have Hlr:=Lib.hid hlr
 clear hw1 hlr hget hroot hrs hre hld h1 h hN hbl
 go_enter Tryz.func37,Tryz.ntmps37
 go_wp2_with (first
  | ((with_reducible show wpList _ _ _ (⟨some 4,.alloc _,_,_,_,_⟩::_) _ _);refine wpList_run rfl (.pointer (some ⟨W.heap.size,0,none⟩)) w1 (by rw [← Hw1.out];kernel_rfl) ?_;simp only [Act.put])
  | (go_at_call 65;refine (hbe).mono ?_;rintro e w' ⟨rfl,hw⟩;obtain rfl:=hw.symm)
  | ((with_reducible show wpList _ _ _ (⟨some 21,.load _ _,_,_,_,_⟩::_) _ _);refine wpList_load rfl 53 (.tmp 20) rfl b (o+n*32) rfl _ Hlr.out ?_;simp only [Act.put])
  | ((with_reducible show wpList _ _ _ (⟨none,.store _ (.tmp 4) _,_,_,_,_⟩::_) _ _);refine wpList_hset (l:=root) (l':=List.replicate 32 0) (.tmp 4) (.tmp 21) rfl rfl ⟨k1,rfl⟩ rfl rfl hr32 ?_;intro w9 k9 b9 hw9;clear hw9;simp only [Act.put]))
 exact bodyPost_ret (tuple_hv rfl _ _ W.heap.size root rfl k9) rfl ⟨rfl,B1.trans (b9.mono (Nat.le_refl _))⟩
end
end Go.Proofs.YtdjhoankkddomaaGreat
namespace Go.Proofs.YtdjhoankkddomaaGreat
open Go Go.RowKit
attribute [local go_sem] Oper.semAt_some
section
variable {W:World} {Z:Nat→Prop} {lo g:Nat} {R:MdR} {m:MoV}
theorem mwait_any (h:Md Z lo g R m W):Calls Tryz.prog 33 #[.pointer (some ⟨g,0,none⟩)] W fun e w'=>e = .returned (.int .i64 (m.queue.length:Int))∧w'=W:=by
 obtain ⟨Aq,cq,hqe,hqs⟩:=h.queueEs
 have hrq:=hqs.room
 have hmq:=hqs.max
 unfold maxLen at hmq
 have c5:W.cell? ⟨g,5,none⟩=some (.slice Aq m.queue.length cq):=(h.cell 5 (by decide)).trans (congrArg some hqe)
 have hn:=mnone_any h
 clear h hqe hqs
 go_enter Tryz.func33,Tryz.ntmps33
 go_wp2_with (go_at_call 51;refine hn.mono ?_;rintro e w' ⟨rfl,hw⟩;obtain rfl:=hw.symm)
 go_ret
 exact ⟨rfl,rfl⟩
theorem monly_any (h:Md Z lo g R m W):Calls Tryz.prog 35 #[.pointer (some ⟨g,0,none⟩)] W fun e w'=>e = .returned (.bool m.only)∧w'=W:=by
 have c75:W.cell? ⟨g,75,none⟩=some (.bool m.only):=h.cell 75 (by decide)
 have hn:=mnone_any h
 obtain ⟨b,hb⟩:∃ x,m.only=x:=⟨_,rfl⟩
 rw [hb] at c75 ⊢
 clear h hb
 cases b
 all_goals
  go_enter Tryz.func35,Tryz.ntmps35
  go_wp2_with (go_at_call 51;refine hn.mono ?_;rintro e w' ⟨rfl,hw⟩;obtain rfl:=hw.symm)
  go_ret
  exact ⟨rfl,rfl⟩
theorem msettle_any (h:Md Z lo g R m W):Calls Tryz.prog 20 #[.pointer (some ⟨g,0,none⟩)] W fun e w'=>e = .returned (.int .i64 (if m.only then 10 else 0))∧w'=W:=by
 have hm:=mmay_any h
 obtain ⟨z,hz⟩:∃ x:Int,(if m.only then 10 else 0)=x:=⟨_,rfl⟩
 rw [hz] at hm ⊢
 clear h hz
 go_enter Tryz.func20,Tryz.ntmps20
 go_wp2_with (go_at_call 49;refine hm.mono ?_;rintro e w' ⟨rfl,hw⟩;obtain rfl:=hw.symm)
 go_ret
 exact ⟨rfl,rfl⟩
end
end Go.Proofs.YtdjhoankkddomaaGreat
namespace Go.Proofs.YtdjhoankkddomaaGreat
open Go Go.RowKit
attribute [local go_sem] Oper.semAt_some
def zh:List UInt8:=List.replicate 32 0
def zptC:Array Value:=(.int .i64 0::zh.map B).toArray
section
variable {W:World} {v:Value}
end
end Go.Proofs.YtdjhoankkddomaaGreat
namespace Go.Proofs.YtdjhoankkddomaaGreat
open Go Go.RowKit Go.Shelf
attribute [local go_sem] Oper.semAt_some
structure XdR where
 e:Value
 q:Value
 b:Value
def xcell (R:XdR) (m:MoV) (i:Nat):Value :=
 if i=0 then .int .i64 m.seg else if i=1 then .int .i64 m.cap else if i=2 then R.e else if i=3 then R.q else if i=4 then .bool m.has else if i=5 then .int .i64 m.lastS
 else if i<38 then B (m.lastR.getD (i - 6) 0) else if i=38 then R.b else if i=39 then .bool m.pointing else if i=40 then .int .i64 m.ptS else if i<73 then B (m.ptR.getD (i - 41) 0)
 else .bool m.only
def xdArr (R:XdR) (m:MoV):Array Value:=((List.range 74).map (xcell R m)).toArray
theorem xd_size (R:XdR) (m:MoV):(xdArr R m).size=74:=by simp [xdArr]
theorem xd_at (R:XdR) (m:MoV) (i:Nat) (h:i<74):(xdArr R m)[i]?=some (xcell R m i):=by simp [xdArr,h]
theorem xd_ext {R:XdR} {m:MoV} {cs:Array Value} (hs:cs.size=74) (h:∀ i,i<74→cs[i]?=some (xcell R m i)):cs=xdArr R m:=by
 apply Array.ext_getElem?
 intro i
 by_cases hi:i<74
 ·rw [h i hi,xd_at _ _ _ hi]
 ·rw [Array.getElem?_eq_none (by omega),Array.getElem?_eq_none (by rw [xd_size];omega)]
theorem xd_set {R R':XdR} {m m':MoV} (k:Nat) (_hk:k<74) (v:Value) (hv:xcell R' m' k=v) (h:∀ i,i<74→i≠k→xcell R' m' i=xcell R m i):(xdArr R m).setIfInBounds k v=xdArr R' m':=by
 refine xd_ext (by simp [xd_size]) fun i hi=>?_
 rw [Array.getElem?_setIfInBounds]
 by_cases e:k=i
 ·subst e;rw [if_pos rfl,if_pos (by rw [xd_size];omega),hv]
 ·rw [if_neg e,xd_at _ _ _ hi,h i hi (fun e'=>e e'.symm)]
structure Xd (Z:Nat→Prop) (g:Nat) (R:XdR) (m:MoV) (W:World):Prop where
 blk:Blk W g 60 (xdArr R m)
 lastL:m.lastR.length=32
 ptL:m.ptR.length=32
 ents:∃ A c,R.e = .slice A m.ents.length c∧Es W (fun b=>¬ (b=g∨Z b)) A m.ents.length c m.ents
 queue:∃ A c,R.q = .slice A m.queue.length c∧Es W (fun b=>¬ (b=g∨Z b)) A m.queue.length c m.queue
 begun:∃ A c,R.b = .slice A m.begun.length c∧Es W (fun b=>¬ (b=g∨Z b)) A m.begun.length c m.begun
 zlt:∀ b,Z b→b<W.heap.size
 zno:¬ Z g
section
variable {W W':World} {Z Z' M:Nat→Prop} {g:Nat} {R:XdR} {m:MoV}
theorem Xd.kbZ (h:Xd Z g R m W) (hk:KB M W W') (hM:∀ b,b<W.heap.size→M b→Z b) (hz:∀ b,Z' b→b<W'.heap.size) (hzz:∀ b,Z' b→Z b∨W.heap.size≤b):Xd Z' g R m W':=by
 have hlt:∀ b,b<W.heap.size→Z' b→Z b:=fun b hl hz'=>(hzz b hz').elim id fun h'=>absurd hl (by omega)
 have hE:∀ {A:Option Addr} {n c:Nat} {ls:List (List UInt8)},Es W (fun b=>¬ (b=g∨Z b)) A n c ls→Es W' (fun b=>¬ (b=g∨Z' b)) A n c ls:=fun h2 =>
  ((h2.weak (Y:=fun b=>¬ (b=g∨Z b)∧b<W.heap.size) fun b hl hx=>⟨hx,hl⟩).kb hk fun b _ hx hm=>hx.1 (.inr (hM b hx.2 hm))).weak fun b _ hx hm=>hx.1 (hm.imp id (hlt b hx.2))
 exact ⟨hk.blk h.blk fun hm=>h.zno (hM g h.blk.lt hm),h.lastL,h.ptL,let ⟨A,c,h1,h2⟩:=h.ents;⟨A,c,h1,hE h2⟩,let ⟨A,c,h1,h2⟩:=h.queue;⟨A,c,h1,hE h2⟩,let ⟨A,c,h1,h2⟩:=h.begun;⟨A,c,h1,hE h2⟩,hz,fun hz'=>h.zno (hlt g h.blk.lt hz')⟩
theorem Xd.step (h:Xd Z g R m W) (hb:Below W.heap.size W W'):Xd Z g R m W' :=
 h.kbZ (M:=fun _=>False) (KB.of_below hb) (fun _ _ h=>h.elim) (fun b hz=>Nat.lt_of_lt_of_le (h.zlt b hz) hb.size) (fun _ h => .inl h)
theorem Xd.cell (h:Xd Z g R m W) (i:Nat) (hi:i<74):W.cell? ⟨g,i,none⟩=some (xcell R m i):=by rw [h.blk.cell,xd_at _ _ _ hi]
theorem Xd.loadLast (h:Xd Z g R m W):(Instr.loadAt 55 (.pointer (some ⟨g,5,none⟩))).run Tryz.prog W = .ok (.agg (.int .i64 m.lastS::m.lastR.map B).toArray) W :=
 run_load_agg (ptAgg _) (ptSize _) g 5 (.int .i64 m.lastS::m.lastR.map B) (by simp [h.lastL]) fun j u hu=>by
  have hj:j<33:=by have:=(List.getElem?_eq_some_iff.1 hu).1;simp [h.lastL] at this;omega
  rw [h.cell _ (by omega)]
  by_cases h0:j=0
  ·subst h0
   rw [List.getElem?_cons_zero] at hu
   exact hu
  ·obtain ⟨i,rfl⟩:∃ i,j=i+1:=⟨j - 1,by omega⟩
   rw [List.getElem?_cons_succ,List.getElem?_map,List.getElem?_eq_getElem (by rw [h.lastL];omega)] at hu
   rw [← hu]
   unfold xcell
   simp only [show 5+(i+1)≠0 by omega,show 5+(i+1)≠1 by omega,show 5+(i+1)≠2 by omega,show 5+(i+1)≠3 by omega,show 5+(i+1)≠4 by omega,show 5+(i+1)≠5 by omega,show 5+(i+1)<38 by omega,if_false,if_true]
   rw [show 5+(i+1) - 6=i by omega,List.getD_eq_getElem?_getD,List.getElem?_eq_getElem (by rw [h.lastL];omega)]
   rfl
theorem Xd.loadPt (h:Xd Z g R m W):(Instr.loadAt 55 (.pointer (some ⟨g,40,none⟩))).run Tryz.prog W = .ok (.agg (.int .i64 m.ptS::m.ptR.map B).toArray) W :=
 run_load_agg (ptAgg _) (ptSize _) g 40 (.int .i64 m.ptS::m.ptR.map B) (by simp [h.ptL]) fun j u hu=>by
  have hj:j<33:=by have:=(List.getElem?_eq_some_iff.1 hu).1;simp [h.ptL] at this;omega
  rw [h.cell _ (by omega)]
  by_cases h0:j=0
  ·subst h0
   rw [List.getElem?_cons_zero] at hu
   exact hu
  ·obtain ⟨i,rfl⟩:∃ i,j=i+1:=⟨j - 1,by omega⟩
   rw [List.getElem?_cons_succ,List.getElem?_map,List.getElem?_eq_getElem (by rw [h.ptL];omega)] at hu
   rw [← hu]
   unfold xcell
   simp only [show 40+(i+1)≠0 by omega,show 40+(i+1)≠1 by omega,show 40+(i+1)≠2 by omega,show 40+(i+1)≠3 by omega,show 40+(i+1)≠4 by omega,show 40+(i+1)≠5 by omega,show ¬ 40+(i+1)<38 by omega,show 40+(i+1)≠38 by omega,show 40+(i+1)≠39 by omega,show 40+(i+1)≠40 by omega,show 40+(i+1)<73 by omega,if_false,if_true]
   rw [show 40+(i+1) - 41=i by omega,List.getD_eq_getElem?_getD,List.getElem?_eq_getElem (by rw [h.ptL];omega)]
   rfl
theorem Xd.loadJob (h:Xd Z g R m W):(Instr.loadAt 23 (.pointer (some ⟨g,0,none⟩))).run Tryz.prog W = .ok (.agg #[.int .i64 m.seg,.int .i64 m.cap]) W :=
 run_load_agg (aggCf _) (sizeCf _) g 0 [.int .i64 m.seg,.int .i64 m.cap] rfl fun j u hu=>by
  rw [h.cell _ (by have:=(List.getElem?_eq_some_iff.1 hu).1;simp at this;omega)]
  match j,hu with
  | 0,hu=>exact hu
  | 1,hu=>exact hu
theorem xsize_any (h:Xd Z g R m W):Calls Tryz.prog 8 #[.pointer (some ⟨g,0,none⟩)] W fun e w'=>e = .returned (.int .i64 (m.ents.length:Int))∧w'=W:=by
 obtain ⟨A,c,he,hs⟩:=h.ents
 have hr:=hs.room
 have hm:=hs.max
 unfold maxLen at hm
 have c2:W.cell? ⟨g,2,none⟩=some (.slice A m.ents.length c):=(h.cell 2 (by decide)).trans (congrArg some he)
 clear h he hs
 go_enter Tryz.func8,Tryz.ntmps8
 go_wp2_with fail
 go_ret
 exact ⟨rfl,rfl⟩
end
section
variable {W:World} {Z:Nat→Prop} {lo g:Nat} {R:MdR} {m:MoV}
set_option maxHeartbeats 2000000 in
set_option maxRecDepth 100000 in
theorem mlast_any (h:Md Z lo g R m W):Calls Tryz.prog 31 #[.pointer (some ⟨g,0,none⟩)] W fun e w'=>e = .returned (.tuple #[.agg (.int .i64 m.lastS::m.lastR.map B).toArray,.bool m.has])∧Below W.heap.size W w':=by
 have hlL:=h.lastL
 obtain ⟨w1,hw1⟩:∃ x,W.alloc (.cells zptC 55)=x:=⟨_,rfl⟩
 have k1:Blk w1 W.heap.size 55 zptC:=by rw [← hw1];exact Blk.new _ _ _
 have B1:Below W.heap.size W w1:=by rw [← hw1];exact (Below.refl _ _).alloc (Nat.le_refl _) _
 have h1:=h.step B1
 have hn:=mnone_any h1
 have ll:∀ s:InC (fun V=>Below W.heap.size w1 V),(Instr.loadAt 55 (.pointer (some ⟨g,6,none⟩))).run Tryz.prog s.W = .ok (.agg (.int .i64 m.lastS::m.lastR.map B).toArray) s.W:=fun s=>md_loadLast (h.step (B1.trans s.ok)).blk hlL
 have c39:∀ s:InC (fun V=>Below W.heap.size w1 V),s.W.cell? ⟨g,39,none⟩=some (.bool m.has):=fun s=>(h.step (B1.trans s.ok)).cell 39 (by decide)
 have Ll:=Lib.hid ll
 have Hw1:=Lib.hid hw1
 have hS:Below W.heap.size w1 w1.drew:=(Below.refl _ _).drew
 have kd:=k1.drew
 have z1:=k1.lt
 clear hw1 h h1 ll
 go_enter Tryz.func31,Tryz.ntmps31
 go_upto_region 3 with (first
  | ((with_reducible show wpList _ _ _ (⟨some 2,.alloc _,_,_,_,_⟩::_) _ _);refine wpList_run rfl (.pointer (some ⟨W.heap.size,0,none⟩)) w1 (by rw [← Hw1.out];kernel_rfl) ?_;simp only [Act.put,List.setIfInBounds_toArray,List.set_cons_succ,List.set_cons_zero])
  | (go_at_call 51;refine hn.mono ?_;rintro e w' ⟨rfl,hw⟩;obtain rfl:=hw.symm))
 refine wp_region_mix (fun V=>Below W.heap.size w1 V) [(0,true),(1,true),(2,true),(3,true),(4,true),(5,true),(6,true),(7,true),(8,false),(9,true)] (by kernel_rfl) (by kernel_rfl) hS fun _=>?_
 simp only [List.map_cons,List.map_nil,Array.getD_eq_getD_getElem?,List.getElem?_toArray,List.getElem?_cons_succ,List.getElem?_cons_zero,Option.getD_some]
 generalize w1.drew=Z0 at hS kd ⊢
 iterate 3 (refine wpMix_s (fun K hK=>?_);go_simp;refine hK _ ?_;clear hK K)
 refine wpMix_load (by kernel_rfl) 55 (.tmp 9) rfl (g) (6) rfl (.int .i64 m.lastS::m.lastR.map B).toArray (Ll.out) ?_
 simp only [Act.put,List.setIfInBounds_toArray,List.set_cons_succ,List.set_cons_zero]
 iterate 4 (refine wpMix_s (fun K hK=>?_);go_simp;refine hK _ ?_;clear hK K)
 refine wpMix_store_blk rfl 55 (.tmp 2) (.tmp 10) rfl 33 ptSize W.heap.size (.int .i64 m.lastS::m.lastR.map B).toArray rfl rfl (by simp [hlL]) (oneCell_pt _ _) 55 _ kd (by decide) (below_setRow hS (Nat.le_refl _) _) ?_
 simp only [Act.put]
 have p2:PB (Z0.setRow W.heap.size (.int .i64 m.lastS::m.lastR.map B).toArray) W.heap.size m.lastS m.lastR:=⟨kd.setRow_ _,hlL⟩
 replace hS:=below_setRow hS (Nat.le_refl W.heap.size) (.int .i64 m.lastS::m.lastR.map B).toArray
 obtain ⟨Z1,hZ1⟩:∃ x,Z0.setRow W.heap.size (.int .i64 m.lastS::m.lastR.map B).toArray=x:=⟨_,rfl⟩
 rw [hZ1] at hS p2 ⊢
 clear hZ1 kd
 (refine wpMix_s (fun K hK=>?_);go_simp;refine hK _ ?_;clear hK K)
 refine wpMix_nil ?_
 intro _
 go_wp2_with fail
 exact bodyPost_ret (tuple_pt rfl _ _ W.heap.size m.lastS m.lastR rfl p2) rfl ⟨rfl,B1.trans hS⟩
theorem md_loadJob (h:Md Z lo g R m W):(Instr.loadAt 23 (.pointer (some ⟨g,3,none⟩))).run Tryz.prog W = .ok (.agg #[.int .i64 m.seg,.int .i64 m.cap]) W :=
 run_load_agg (aggCf _) (sizeCf _) g 3 [.int .i64 m.seg,.int .i64 m.cap] rfl fun j u hu=>by
  rw [h.cell _ (by have:=(List.getElem?_eq_some_iff.1 hu).1;simp at this;omega)]
  match j,hu with
  | 0,hu=>exact hu
  | 1,hu=>exact hu
set_option maxHeartbeats 2000000 in
set_option maxRecDepth 100000 in
theorem mjob_any (h:Md Z lo g R m W):Calls Tryz.prog 34 #[.pointer (some ⟨g,0,none⟩)] W fun e w'=>e = .returned (.agg #[.int .i64 m.seg,.int .i64 m.cap])∧Below W.heap.size W w':=by
 obtain ⟨w1,hw1⟩:∃ x,W.alloc (.cells #[.int .i64 0,.int .i64 0] 23)=x:=⟨_,rfl⟩
 have k1:Blk w1 W.heap.size 23 #[.int .i64 0,.int .i64 0]:=by rw [← hw1];exact Blk.new _ _ _
 have B1:Below W.heap.size W w1:=by rw [← hw1];exact (Below.refl _ _).alloc (Nat.le_refl _) _
 have h1:=h.step B1
 have hn:=mnone_any h1
 have Lj:=Lib.hid (md_loadJob h1)
 have B2:=below_setRow B1 (Nat.le_refl W.heap.size) #[.int .i64 m.seg,.int .i64 m.cap]
 have k2:=k1.setRow_ #[.int .i64 m.seg,.int .i64 m.cap]
 have Hw1:=Lib.hid hw1
 clear hw1 h h1
 go_enter Tryz.func34,Tryz.ntmps34
 go_wp2_with (first
  | ((with_reducible show wpList _ _ _ (⟨some 2,.alloc _,_,_,_,_⟩::_) _ _);refine wpList_run rfl (.pointer (some ⟨W.heap.size,0,none⟩)) w1 (by rw [← Hw1.out];kernel_rfl) ?_;simp only [Act.put,List.setIfInBounds_toArray,List.set_cons_succ,List.set_cons_zero])
  | (go_at_call 51;refine hn.mono ?_;rintro e w' ⟨rfl,hw⟩;obtain rfl:=hw.symm)
  | ((with_reducible show wpList _ _ _ (⟨some 9,.load _ _,_,_,_,_⟩::_) _ _);refine wpList_load rfl 23 (.tmp 8) rfl g 3 rfl _ Lj.out ?_;simp only [Act.put,List.setIfInBounds_toArray,List.set_cons_succ,List.set_cons_zero])
  | ((with_reducible show wpList _ _ _ (⟨none,.store _ (.tmp 2) _,_,_,_,_⟩::_) _ _);refine wpList_store_blk rfl 23 (.tmp 2) (.tmp 9) rfl 2 sizeCf W.heap.size #[.int .i64 m.seg,.int .i64 m.cap] rfl rfl rfl (by intro v hv;simp at hv;rcases hv with rfl|rfl <;> rfl) 23 _ k1 rfl ?_;simp only [Act.put]))
 exact bodyPost_ret (results_cell_row rfl _ _ W.heap.size 23 #[.int .i64 m.seg,.int .i64 m.cap] (0,0) _ rfl k2 Tryz.underlying23 rfl (by kernel_rfl)) rfl ⟨rfl,B2⟩
end
theorem neqPt_self {ρ:Operand→Value} {o:Oper} (a b:Operand) (ty:TypeId) (n:Int) (x:List UInt8) (ho:o.op = .binOp .neq 55 a b ty) (ha:ρ a = .agg (Value.int .i64 n::x.map B).toArray) (hb:ρ b = .agg (Value.int .i64 n::x.map B).toArray) (h1:x.length=32) (W:World) :
  (execOp ρ o).run Tryz.prog W = .ok (.value (.bool false)) W:=by
 have h:=neqPt_op (ρ:=ρ) (o:=o) a b ty n n x x ho ha hb h1 h1 W
 rw [ptEq_self] at h
 exact h
theorem underCf:Tryz.prog.underlying 23=some (.struct (Tryz.prog.fieldsOf 23)):=by kernel_rfl
theorem heldCf:Tryz.prog.stoodInHeld 23=false:=by kernel_rfl
theorem guardCf:Tryz.prog.eqGuardType Tryz.prog.depth 23=false:=by kernel_rfl
theorem run_neqCf_f {ρ:Operand→Value} {o:Oper} (x y:Operand) (ty:TypeId) (a b:Int) (ho:o.op = .binOp .neq 23 x y ty) (hx:ρ x = .agg #[.int .i64 a,.int .i64 b]) (hy:ρ y = .agg #[.int .i64 a,.int .i64 b]) (W:World) :
  (execOp ρ o).run Tryz.prog W = .ok (.value (.bool false)) W:=by
 have hf:(Tryz.prog.fieldsOf 23).toList=[{ name := "Segment",type:=3,offset:=0,embedded:=false,tag := "",pkgPath := "",byteOffset:=0 },{ name := "Queue",type:=3,offset:=1,embedded:=false,tag := "",pkgPath := "",byteOffset:=8 }]:=by kernel_rfl
 have hr:(binOp .neq 23 (.agg #[.int .i64 a,.int .i64 b]) (.agg #[.int .i64 a,.int .i64 b])).run Tryz.prog W = .ok (.bool false) W:=by
  rw [run_neq_struct,run_equalIn_agg W 9999 _ _ _ underCf heldCf,hf]
  simp [go_sem,part,Op.eqFields]
 unfold execOp
 simp only [ho,hx,hy,run_eqGuard_agg W .neq 23 x y _ _ guardCf,Sem.run_bind,Sem.run_pure,hr,Result.andThen_ok]
end Go.Proofs.YtdjhoankkddomaaGreat
