import Derived.Test.YtdjhoankkddomaaGreatQg224
import Derived.Test.YtdjhoankkddomaaGreatQg225
import Derived.Test.YtdjhoankkddomaaGreatQg211
import Derived.Test.YtdjhoankkddomaaGreatQg204
namespace Go.Proofs.YtdjhoankkddomaaGreat
open Go Go.RowKit Go.Shelf
attribute [local go_sem] Oper.semAt_some
def ofM (es:List (List UInt8)) (ps:Int) (pr:List UInt8):Bool:=decide (0≤ps)&&decide (ps≤(es.length:Int))&&(rootL ((lvs es).take ps.toNat)==pr)
theorem flat_lenO:∀ ls:List (List UInt8),(∀ x ∈ ls,x.length≤4096)→ls.flatten.length≤4096*ls.length
 | [],_=>by simp
 | x::r,h=>by
  have h1:=h x (by simp)
  have h2:=flat_lenO r fun y hy=>h y (by simp [hy])
  simp only [List.flatten_cons,List.length_append,List.length_cons]
  omega
theorem Es.sls {w:World} {X:Nat→Prop} {A:Option Addr} {n c:Nat} {ls:List (List UInt8)} (h:Es w X A n c ls):∃ vs,SlS w A n c vs ls:=by
 obtain ⟨vs,h1,h2⟩:=h.ex
 exact ⟨vs,h1.weak fun _ hb _=>hb,h.len,fun i hi=>let ⟨Ai,ci,h3,h4⟩:=h2 i hi;⟨Ai,ci,h3,h4.weak fun _ hb _=>hb⟩⟩
section
variable {W:World} {Z:Nat→Prop} {lo g:Nat} {R:MdR} {m:MoV}
set_option maxHeartbeats 4000000 in
set_option maxRecDepth 100000 in
theorem mof_any (h:Md Z lo g R m W) (ps:Int) (pr:List UInt8) (hp:pr.length=32) (hn:m.ents.length≤1000000000) :
  Calls Tryz.prog 62 #[.pointer (some ⟨g,0,none⟩),.agg (.int .i64 ps::pr.map B).toArray] W fun e w'=>e = .returned (.bool (ofM m.ents ps pr))∧Below W.heap.size W w':=by
 obtain ⟨w1,hw1⟩:∃ x,W.alloc (.cells (.int .i64 ps::pr.map B).toArray 55)=x:=⟨_,rfl⟩
 have B1:Below W.heap.size W w1:=by rw [← hw1];exact (Below.refl _ _).alloc (Nat.le_refl _) _
 have p1:PB w1 W.heap.size ps pr:=by rw [← hw1];exact ⟨Blk.new _ _ _,hp⟩
 have h1:=h.step B1
 obtain ⟨A,c,hre,hrs⟩:=h1.roots
 have hr:=hrs.sl.room
 have hmx:=hrs.sl.max
 unfold maxLen at hmx
 obtain ⟨b,o,hA,hbl,-,hld⟩:=hrs.at_ (by omega)
 obtain ⟨N,hN⟩:∃ x,m.ents.length=x:=⟨_,rfl⟩
 subst hA
 have cp:∀ s:InC (fun V=>Below w1.heap.size w1 V),s.W.cell? ⟨W.heap.size,0,none⟩=some (.int .i64 ps):=fun s=>(p1.step s.ok).size
 have c2:∀ s:InC (fun V=>Below w1.heap.size w1 V),s.W.cell? ⟨g,2,none⟩=some (.slice (some ⟨b,o,none⟩) (N+1) c):=fun s=>by rw [← hN];exact ((h1.step s.ok).cell 2 (by decide)).trans (congrArg some hre)
 have lp:∀ s:InC (fun V=>Below w1.heap.size w1 V),(Instr.loadAt 53 (.pointer (some ⟨W.heap.size,1,none⟩))).run Tryz.prog s.W = .ok (.agg (pr.map B).toArray) s.W:=fun s=>(p1.step s.ok).hash
 have Lp:=Lib.hid lp
 have Hw1:=Lib.hid hw1
 have hS:Below w1.heap.size w1 w1.drew:=(Below.refl _ _).drew
 have hrs1:=hrs
 rw [hN] at hr hn
 clear hw1 lp
 by_cases hneg:ps<0
 ·have d1:decide (0≤ps)=false:=by simp;omega
  have ho:ofM m.ents ps pr=false:=by unfold ofM;rw [d1];rfl
  rw [ho]
  clear h h1 hre hrs hrs1 hld ho hN p1
  go_enter Tryz.func62,Tryz.ntmps62
  go_upto_region 1 with (rw [Hw1.out])
  refine wp_region_mix (fun W=>Below w1.heap.size w1 W) [(0,true),(1,true),(2,true),(3,true),(4,true),(5,true),(6,true),(7,true),(8,true),(9,true),(10,true),(11,true),(12,true),(13,true),(14,true),(15,true),(16,true),(17,true),(18,true),(19,true),(20,true),(21,true),(22,true),(23,true),(24,true),(25,true),(26,true)] (by kernel_rfl) (by kernel_rfl) hS fun _=>?_
  simp only [List.map_cons,List.map_nil,Array.getD_eq_getD_getElem?,List.getElem?_toArray,List.getElem?_cons_succ,List.getElem?_cons_zero,Option.getD_some]
  generalize w1.drew=Z1 at hS ⊢
  iterate 27 (refine wpMix_s (fun K hK=>?_);go_simp;refine hK _ ?_;clear hK K)
  refine wpMix_nil ?_
  intro _
  go_wp2_with fail
  go_ret
  exact ⟨rfl,B1.trans (hS.mono B1.size)⟩
 have d1:decide (0≤ps)=true:=by simp;omega
 by_cases hle:ps≤(N:Int)
 ·have d2:decide (ps<(N:Int)+1)=true:=by simp;omega
  obtain ⟨k,hk⟩:∃ k:Nat,ps=(k:Int):=⟨ps.toNat,by omega⟩
  subst hk
  have hkn:k≤N:=by omega
  have hget:(headsL (lvs m.ents) m.ents.length).getD k []=rootL ((lvs m.ents).take k):=headsL_getD _ _ _ (by omega)
  obtain ⟨x,hx⟩:∃ x,rootL ((lvs m.ents).take k)=x:=⟨_,rfl⟩
  have hx32:x.length=32:=by rw [← hx];exact length_rootL _ ((H32.lvs _).take k)
  have ho:ofM m.ents (k:Int) pr=(x==pr):=by unfold ofM;rw [hN,d1,Int.toNat_natCast,hx,show decide ((k:Int)≤(N:Int))=true by simp;omega];rfl
  rw [ho]
  rw [hx] at hget
  have lr:∀ s:InC (fun V=>Below w1.heap.size w1 V),(Instr.loadAt 53 (.pointer (some ⟨b,o+k*32,none⟩))).run Tryz.prog s.W = .ok (.agg (x.map B).toArray) s.W:=fun s=>by
   have:=(hrs1.step s.ok).get rfl k (by omega)
   rw [hget] at this
   exact this
  have Lr:=Lib.hid lr
  have d3:decide (k<N+1)=true:=by simp;omega
  have hnn:(k:Int)<(N:Int)+1:=by omega
  clear h h1 hre hrs hrs1 hld ho hN p1 lr hget hx
  go_enter Tryz.func62,Tryz.ntmps62
  go_upto_region 1 with (rw [Hw1.out])
  refine wp_region_mix (fun W=>Below w1.heap.size w1 W) [(0,true),(1,true),(2,true),(3,true),(4,true),(5,true),(6,true),(7,true),(8,true),(9,true),(10,true),(11,true),(12,true),(13,true),(14,true),(15,true),(16,true),(17,true),(18,true),(19,true),(20,true),(21,true),(22,true),(23,true),(24,true),(25,true),(26,true)] (by kernel_rfl) (by kernel_rfl) hS fun _=>?_
  simp only [List.map_cons,List.map_nil,Array.getD_eq_getD_getElem?,List.getElem?_toArray,List.getElem?_cons_succ,List.getElem?_cons_zero,Option.getD_some]
  generalize w1.drew=Z1 at hS ⊢
  iterate 21 (refine wpMix_s (fun K hK=>?_);go_simp;refine hK _ ?_;clear hK K)
  refine wpMix_load (by kernel_rfl) 53 (.tmp 25) rfl (b) (o+k*32) rfl (x.map B).toArray (Lr.out) ?_
  simp only [Act.put,List.setIfInBounds_toArray,List.set_cons_succ,List.set_cons_zero]
  (refine wpMix_s (fun K hK=>?_);go_simp;refine hK _ ?_;clear hK K)
  refine wpMix_load (by kernel_rfl) 53 (.tmp 27) rfl (W.heap.size) (1) rfl (pr.map B).toArray (Lp.out) ?_
  simp only [Act.put,List.setIfInBounds_toArray,List.set_cons_succ,List.set_cons_zero]
  refine wpMix_v (by kernel_rfl) (.bool (x==pr)) (fun s=>run_eql26 (.tmp 26) (.tmp 28) _ x pr rfl rfl rfl hx32 hp s.W) ?_
  simp only [Act.put,List.setIfInBounds_toArray,List.set_cons_succ,List.set_cons_zero]
  iterate 2 (refine wpMix_s (fun K hK=>?_);go_simp;refine hK _ ?_;clear hK K)
  refine wpMix_nil ?_
  intro _
  go_wp2_with fail
  go_ret
  exact ⟨rfl,B1.trans (hS.mono B1.size)⟩
 ·have d2:decide (ps<(N:Int)+1)=false:=by simp;omega
  have ho:ofM m.ents ps pr=false:=by unfold ofM;rw [hN,d1,show decide (ps≤(N:Int))=false by simp;omega];rfl
  rw [ho]
  clear h h1 hre hrs hrs1 hld ho hN p1
  go_enter Tryz.func62,Tryz.ntmps62
  go_upto_region 1 with (rw [Hw1.out])
  refine wp_region_mix (fun W=>Below w1.heap.size w1 W) [(0,true),(1,true),(2,true),(3,true),(4,true),(5,true),(6,true),(7,true),(8,true),(9,true),(10,true),(11,true),(12,true),(13,true),(14,true),(15,true),(16,true),(17,true),(18,true),(19,true),(20,true),(21,true),(22,true),(23,true),(24,true),(25,true),(26,true)] (by kernel_rfl) (by kernel_rfl) hS fun _=>?_
  simp only [List.map_cons,List.map_nil,Array.getD_eq_getD_getElem?,List.getElem?_toArray,List.getElem?_cons_succ,List.getElem?_cons_zero,Option.getD_some]
  generalize w1.drew=Z1 at hS ⊢
  iterate 27 (refine wpMix_s (fun K hK=>?_);go_simp;refine hK _ ?_;clear hK K)
  refine wpMix_nil ?_
  intro _
  go_wp2_with fail
  go_ret
  exact ⟨rfl,B1.trans (hS.mono B1.size)⟩
end
set_option maxHeartbeats 4000000 in
set_option maxRecDepth 100000 in
theorem rOf_any (W:World) (A:Option Addr) (n c:Nat) (es:List (List UInt8)) (he:Es W (fun _=>True) A n c es) (hs:∀ x ∈ es,x.length≤4096) (hn:n≤100000) (ps:Int) (pr:List UInt8) (hp:pr.length=32) :
  Calls Tryz.prog 63 #[.agg (.int .i64 ps::pr.map B).toArray,.slice A n c] W fun e w'=>e = .returned (.bool (ofM es ps pr))∧Below W.heap.size W w':=by
 obtain ⟨w1,hw1⟩:∃ x,W.alloc (.cells (.int .i64 ps::pr.map B).toArray 55)=x:=⟨_,rfl⟩
 have B1:Below W.heap.size W w1:=by rw [← hw1];exact (Below.refl _ _).alloc (Nat.le_refl _) _
 have p1:PB w1 W.heap.size ps pr:=by rw [← hw1];exact ⟨Blk.new _ _ _,hp⟩
 have he1:=he.step B1
 have hr:=he1.room
 have hmx:=he1.max
 have hlen:=he.len
 unfold maxLen at hmx
 have cp:∀ s:InC (fun V=>Below w1.heap.size w1 V),s.W.cell? ⟨W.heap.size,0,none⟩=some (.int .i64 ps):=fun s=>(p1.step s.ok).size
 have lp:∀ s:InC (fun V=>Below w1.heap.size w1 V),(Instr.loadAt 53 (.pointer (some ⟨W.heap.size,1,none⟩))).run Tryz.prog s.W = .ok (.agg (pr.map B).toArray) s.W:=fun s=>(p1.step s.ok).hash
 have Lp:=Lib.hid lp
 have Hw1:=Lib.hid hw1
 have hS:Below w1.heap.size w1 w1.drew:=(Below.refl _ _).drew
 clear hw1 lp p1
 by_cases hneg:ps<0
 ·have d1:decide (0≤ps)=false:=by simp;omega
  have ho:ofM es ps pr=false:=by unfold ofM;rw [d1];rfl
  rw [ho]
  clear he he1 ho hlen hs
  go_enter Tryz.func63,Tryz.ntmps63
  go_upto_region 1 with (rw [Hw1.out])
  refine wp_region_mix (fun W=>Below w1.heap.size w1 W) [(0,true),(1,true),(2,true),(3,true),(4,true),(5,true),(6,true),(7,true),(8,true),(9,true),(10,true),(11,true),(12,true),(13,true),(14,true),(17,true),(18,true),(15,false),(16,false),(19,true),(20,true),(21,true)] (by kernel_rfl) (by kernel_rfl) hS fun _=>?_
  simp only [List.map_cons,List.map_nil,Array.getD_eq_getD_getElem?,List.getElem?_toArray,List.getElem?_cons_succ,List.getElem?_cons_zero,Option.getD_some]
  generalize w1.drew=Z1 at hS ⊢
  iterate 17 (refine wpMix_s (fun K hK=>?_);go_simp;refine hK _ ?_;clear hK K)
  refine wpMix_c (fun K hK=>?_) hS
  go_simp
  refine hK _ _ ?_
  clear hK K
  refine ⟨hS,?_⟩
  refine wpMix_c (fun K hK=>?_) hS
  go_simp
  refine hK _ _ ?_
  clear hK K
  refine ⟨hS,?_⟩
  iterate 3 (refine wpMix_s (fun K hK=>?_);go_simp;refine hK _ ?_;clear hK K)
  refine wpMix_nil ?_
  intro _
  go_wp2_with fail
  go_ret
  exact ⟨rfl,B1.trans (hS.mono B1.size)⟩
 have d1:decide (0≤ps)=true:=by simp;omega
 by_cases hle:ps≤(n:Int)
 ·have d2:decide (ps≤(n:Int))=true:=by simp;omega
  obtain ⟨k,hk⟩:∃ k:Nat,ps=(k:Int):=⟨ps.toNat,by omega⟩
  subst hk
  have hkn:k≤n:=by omega
  have hkc:k≤c:=by omega
  obtain ⟨x,hx⟩:∃ x,rootL ((lvs es).take k)=x:=⟨_,rfl⟩
  have hx32:x.length=32:=by rw [← hx];exact length_rootL _ ((H32.lvs _).take k)
  have ho:ofM es (k:Int) pr=(x==pr):=by unfold ofM;rw [hlen,d1,Int.toNat_natCast,hx,d2];rfl
  rw [ho]
  have hlt:lvs (es.take k)=(lvs es).take k:=by unfold lvs;rw [List.map_take]
  have hl1:∀ V,Below w1.heap.size w1 V→Calls Tryz.prog 67 #[.slice A k c] V fun e w'=>∃ A' c',e = .returned (.slice A' k c')∧Hs w' (fun _=>True) A' k c' ((lvs es).take k)∧Below V.heap.size V w':=fun V hb=>by
   obtain ⟨vs,hsl⟩:=((he1.take k hkn).step hb).sls
   refine (rleaves_any (es.take k) A k c V vs hsl (by have:=flat_lenO (es.take k) fun x hx=>hs x (List.mem_of_mem_take hx);rw [List.length_take] at this;omega)).mono ?_
   rintro e w3 ⟨v,rfl,ho3,b3⟩
   obtain ⟨A',c',rfl,hl3⟩:=Hs.of_owns ho3 (show (lvs (es.take k)).length=k by rw [lvs_length,List.length_take];omega) (H32.lvs _)
   rw [← hlt]
   exact ⟨A',c',rfl,hl3.weak fun _ _ _=>trivial,b3⟩
  have hof:∀ (V:World) (A':Option Addr) (c':Nat),Hs V (fun _=>True) A' k c' ((lvs es).take k)→Calls Tryz.prog 66 #[.slice A' k c'] V fun e w'=>e = .returned (.agg (x.map B).toArray)∧Below V.heap.size V w':=fun V A' c' hh=>by
   have h:=rof_any ((lvs es).take k) A' k c' V hh (by omega)
   rw [hx] at h
   exact h
  have Hof:=Lib.hid hof
  have Hl1:=Lib.hid hl1
  clear he he1 ho hl1 hx hlt hs hlen hof
  go_enter Tryz.func63,Tryz.ntmps63
  go_upto_region 1 with (rw [Hw1.out])
  refine wp_region_mix (fun W=>Below w1.heap.size w1 W) [(0,true),(1,true),(2,true),(3,true),(4,true),(5,true),(6,true),(7,true),(8,true),(9,true),(10,true),(11,true),(12,true),(13,true),(14,true),(17,true),(18,true),(15,false),(16,false),(19,true),(20,true),(21,true)] (by kernel_rfl) (by kernel_rfl) hS fun _=>?_
  simp only [List.map_cons,List.map_nil,Array.getD_eq_getD_getElem?,List.getElem?_toArray,List.getElem?_cons_succ,List.getElem?_cons_zero,Option.getD_some]
  generalize w1.drew=Z1 at hS ⊢
  iterate 14 (refine wpMix_s (fun K hK=>?_);go_simp;refine hK _ ?_;clear hK K)
  refine wpMix_v (by kernel_rfl) (.slice A k c) (fun s=>run_slice_hiB (.tmp 16) (.tmp 18) rfl A n c k rfl rfl hkc s.W) ?_
  simp only [Act.put,List.setIfInBounds_toArray,List.set_cons_succ,List.set_cons_zero]
  (refine wpMix_s (fun K hK=>?_);go_simp;refine hK _ ?_;clear hK K)
  refine wpMix_load (by kernel_rfl) 53 (.tmp 22) rfl (W.heap.size) (1) rfl (pr.map B).toArray (Lp.out) ?_
  simp only [Act.put,List.setIfInBounds_toArray,List.set_cons_succ,List.set_cons_zero]
  refine wpMix_c (fun K hK=>?_) hS
  go_simp
  refine (Hl1.out Z1 hS).mono ?_
  rintro e Z1_1 ⟨A',c',rfl,hs',hb'⟩
  refine hK _ _ ?_
  clear hK K
  replace hS:=hS.trans (hb'.mono hS.size)
  refine ⟨hS,?_⟩
  have hs2:=hs'
  clear hb'
  refine wpMix_c (fun K hK=>?_) hS
  go_simp
  refine (Hof.out Z1_1 A' c' hs2).mono ?_
  rintro e Z1_2 ⟨rfl,hb'⟩
  refine hK _ _ ?_
  clear hK K
  replace hS:=hS.trans (hb'.mono hS.size)
  refine ⟨hS,?_⟩
  clear hb'
  refine wpMix_v (by kernel_rfl) (.bool (x==pr)) (fun s=>run_eql26 (.tmp 21) (.tmp 23) _ x pr rfl rfl rfl hx32 hp s.W) ?_
  simp only [Act.put,List.setIfInBounds_toArray,List.set_cons_succ,List.set_cons_zero]
  iterate 2 (refine wpMix_s (fun K hK=>?_);go_simp;refine hK _ ?_;clear hK K)
  refine wpMix_nil ?_
  intro _
  go_wp2_with fail
  go_ret
  exact ⟨rfl,B1.trans (hS.mono B1.size)⟩
 ·have d2:decide (ps≤(n:Int))=false:=by simp;omega
  have ho:ofM es ps pr=false:=by unfold ofM;rw [hlen,d1,d2];rfl
  rw [ho]
  clear he he1 ho hlen hs
  go_enter Tryz.func63,Tryz.ntmps63
  go_upto_region 1 with (rw [Hw1.out])
  refine wp_region_mix (fun W=>Below w1.heap.size w1 W) [(0,true),(1,true),(2,true),(3,true),(4,true),(5,true),(6,true),(7,true),(8,true),(9,true),(10,true),(11,true),(12,true),(13,true),(14,true),(17,true),(18,true),(15,false),(16,false),(19,true),(20,true),(21,true)] (by kernel_rfl) (by kernel_rfl) hS fun _=>?_
  simp only [List.map_cons,List.map_nil,Array.getD_eq_getD_getElem?,List.getElem?_toArray,List.getElem?_cons_succ,List.getElem?_cons_zero,Option.getD_some]
  generalize w1.drew=Z1 at hS ⊢
  iterate 17 (refine wpMix_s (fun K hK=>?_);go_simp;refine hK _ ?_;clear hK K)
  refine wpMix_c (fun K hK=>?_) hS
  go_simp
  refine hK _ _ ?_
  clear hK K
  refine ⟨hS,?_⟩
  refine wpMix_c (fun K hK=>?_) hS
  go_simp
  refine hK _ _ ?_
  clear hK K
  refine ⟨hS,?_⟩
  iterate 3 (refine wpMix_s (fun K hK=>?_);go_simp;refine hK _ ?_;clear hK K)
  refine wpMix_nil ?_
  intro _
  go_wp2_with fail
  go_ret
  exact ⟨rfl,B1.trans (hS.mono B1.size)⟩
theorem run_neq_strS {ρ:Operand→Value} {o:Oper} (x y:Operand) (ty:TypeId) (l m:List UInt8) (v:Bool) (ho:o.op = .binOp .neq 9 x y ty) (hx:ρ x = .string (bstr l)) (hy:ρ y = .string (bstr m)) (hv:(l != m)=v) (W:World) :
  (execOp ρ o).run Tryz.prog W = .ok (.value (.bool v)) W:=by
 rw [← hv]
 unfold execOp
 simp only [ho,hx,hy,eqGuard_at_string,Sem.run_bind,Sem.run_pure,run_neq_strG,Result.andThen_ok]
set_option maxHeartbeats 4000000 in
set_option maxRecDepth 100000 in
theorem rsame_any (W:World) (A A':Option Addr) (n c n' c':Nat) (la lb:List (List UInt8)) (ha:Es W (fun _=>True) A n c la) (hb:Es W (fun _=>True) A' n' c' lb) :
  Calls Tryz.prog 59 #[.slice A n c,.slice A' n' c'] W fun e w'=>e = .returned (.bool (la==lb))∧Below W.heap.size W w':=by
 have hla:=ha.len
 have hlb:=hb.len
 have hra:=ha.room
 have hma:=ha.max
 have hrb:=hb.room
 have hmb:=hb.max
 unfold maxLen at hma hmb
 by_cases hne:n≠n'
 ·have d1:((n:Int)==(n':Int))=false:=by simp;omega
  have d2:((n:Int) != (n':Int))=true:=by simp;omega
  have d3:¬ ((n:Int)=(n':Int)):=by omega
  have hf:(la==lb)=false:=by
   rw [beq_eq_false_iff_ne]
   intro e
   rw [e] at hla
   omega
  rw [hf]
  clear ha hb hf hla hlb
  go_enter Tryz.func59,Tryz.ntmps59
  go_wp2_with fail
  go_ret
  exact ⟨rfl,Below.refl _ _⟩
 obtain rfl:n=n':=by omega
 have Ha:=Lib.hid ha
 have Hb:=Lib.hid hb
 have Hla:=Lib.hid hla
 have Hlb:=Lib.hid hlb
 clear ha hb hla hlb hne
 go_enter Tryz.func59,Tryz.ntmps59
 go_wp2_with fail
 go_loopw [5] (fun v wr=>∃ k:Nat,k≤n∧v = .int .i64 (k:Int)∧la.take k=lb.take k∧Below W.heap.size W wr) (fun v _=>n - (intOf v).toNat)
 case atStart=>exact ⟨0,Nat.zero_le _,rfl,by simp,Below.refl _ _⟩
 case round =>
  obtain ⟨k,hk,rfl,hpre,hbr⟩:=hrel
  by_cases hlt:k<n
  ·have hd:decide ((k:Int)<(n:Int))=true:=by simp;omega
   have hd2:decide (k<n)=true:=by simp;omega
   have hwk:IntKind.i64.wrap ((k:Int)+1)=(k:Int)+1:=IntWalk.i64_in _ (by omega)
   obtain ⟨b,o,hA,hbl,-,hat⟩:=(Ha.out.step hbr).at_ (by omega)
   obtain ⟨b',o',hA',hbl',-,hat'⟩:=(Hb.out.step hbr).at_ (by omega)
   obtain ⟨Ak,ck,ce,hsk⟩:=hat k hlt
   obtain ⟨Ak',ck',ce',hsk'⟩:=hat' k hlt
   subst hA
   subst hA'
   have hg:(la.take (k+1)=lb.take (k+1))↔(la.getD k []=lb.getD k []):=by
    have h1:k<la.length:=by rw [Hla.out];exact hlt
    have h2:k<lb.length:=by rw [Hlb.out];exact hlt
    rw [List.take_succ_eq_append_getElem h1,List.take_succ_eq_append_getElem h2,hpre,List.append_cancel_left_eq,List.getD_eq_getElem?_getD,List.getD_eq_getElem?_getD,List.getElem?_eq_getElem h1,List.getElem?_eq_getElem h2]
    simp
   obtain ⟨x,hx⟩:∃ x,la.getD k []=x:=⟨_,rfl⟩
   obtain ⟨y,hy⟩:∃ y,lb.getD k []=y:=⟨_,rfl⟩
   rw [hx] at ce hsk hg
   rw [hy] at ce' hsk' hg
   have hrk:=hsk.room
   have hmk:=hsk.max
   have hrk':=hsk'.room
   have hmk':=hsk'.max
   unfold maxLen at hmk hmk'
   have qa:∀ s:InC (fun V=>Below wr.heap.size wr V),s.W.cell? ⟨b,o+k,none⟩=some (.slice Ak x.length ck):=fun s=>(World.cell?_of_block (s.ok.block b hbl)).trans ce
   have qb:∀ s:InC (fun V=>Below wr.heap.size wr V),s.W.cell? ⟨b',o'+k,none⟩=some (.slice Ak' y.length ck'):=fun s=>(World.cell?_of_block (s.ok.block b' hbl')).trans ce'
   have S1:=Lib.hid (fun s:InC (fun V=>Below wr.heap.size wr V)=>hsk.step s.ok)
   have S2:=Lib.hid (fun s:InC (fun V=>Below wr.heap.size wr V)=>hsk'.step s.ok)
   have hS:Below wr.heap.size wr wr.drew:=(Below.refl _ _).drew
   have Hg:=Lib.hid hg
   have Hpre:=Lib.hid hpre
   clear hat hat' ce ce' hsk hsk' hg hpre hx hy
   by_cases hxy:x=y
   ·have e1:(x != y)=false:=by rw [hxy];simp
    have Hxy:=Lib.hid hxy
    clear hxy
    go_wp2_with fail
    refine wp_region_mix (fun W=>Below wr.heap.size wr W) [(0,true),(1,true),(2,true),(3,true),(4,true),(5,true),(6,true),(7,true),(8,true),(9,true),(10,true)] (by kernel_rfl) (by kernel_rfl) hS fun _=>?_
    simp only [List.map_cons,List.map_nil,Array.getD_eq_getD_getElem?,List.getElem?_toArray,List.getElem?_cons_succ,List.getElem?_cons_zero,Option.getD_some]
    generalize wr.drew=Z6 at hS ⊢
    iterate 4 (refine wpMix_s (fun K hK=>?_);go_simp;refine hK _ ?_;clear hK K)
    refine wpMix_v (by kernel_rfl) (.string (bstr x)) (fun s=>strM_op (.tmp 20) rfl rfl (S1.out s)) ?_
    simp only [Act.put,List.setIfInBounds_toArray,List.set_cons_succ,List.set_cons_zero]
    iterate 4 (refine wpMix_s (fun K hK=>?_);go_simp;refine hK _ ?_;clear hK K)
    refine wpMix_v (by kernel_rfl) (.string (bstr y)) (fun s=>strM_op (.tmp 25) rfl rfl (S2.out s)) ?_
    simp only [Act.put,List.setIfInBounds_toArray,List.set_cons_succ,List.set_cons_zero]
    refine wpMix_v (by kernel_rfl) (.bool false) (fun s=>run_neq_strS (.tmp 21) (.tmp 26) _ x y _ rfl rfl rfl e1 s.W) ?_
    simp only [Act.put,List.setIfInBounds_toArray,List.set_cons_succ,List.set_cons_zero]
    refine wpMix_nil ?_
    intro _
    have hbr2:=hbr.trans (hS.mono hbr.size)
    have HB:=Lib.hid hbr2
    clear hbr hbr2 hS qa qb S1 S2
    go_wp2_with fail
    exact ⟨⟨k+1,by omega,by go_num,Hg.out.2 Hxy.out,HB.out⟩,by simp [intOf];omega⟩
   ·have e1:(x != y)=true:=by simpa using hxy
    have Hxy:=Lib.hid hxy
    clear hxy
    go_wp2_with fail
    refine wp_region_mix (fun W=>Below wr.heap.size wr W) [(0,true),(1,true),(2,true),(3,true),(4,true),(5,true),(6,true),(7,true),(8,true),(9,true),(10,true)] (by kernel_rfl) (by kernel_rfl) hS fun _=>?_
    simp only [List.map_cons,List.map_nil,Array.getD_eq_getD_getElem?,List.getElem?_toArray,List.getElem?_cons_succ,List.getElem?_cons_zero,Option.getD_some]
    generalize wr.drew=Z6 at hS ⊢
    iterate 4 (refine wpMix_s (fun K hK=>?_);go_simp;refine hK _ ?_;clear hK K)
    refine wpMix_v (by kernel_rfl) (.string (bstr x)) (fun s=>strM_op (.tmp 20) rfl rfl (S1.out s)) ?_
    simp only [Act.put,List.setIfInBounds_toArray,List.set_cons_succ,List.set_cons_zero]
    iterate 4 (refine wpMix_s (fun K hK=>?_);go_simp;refine hK _ ?_;clear hK K)
    refine wpMix_v (by kernel_rfl) (.string (bstr y)) (fun s=>strM_op (.tmp 25) rfl rfl (S2.out s)) ?_
    simp only [Act.put,List.setIfInBounds_toArray,List.set_cons_succ,List.set_cons_zero]
    refine wpMix_v (by kernel_rfl) (.bool true) (fun s=>run_neq_strS (.tmp 21) (.tmp 26) _ x y _ rfl rfl rfl e1 s.W) ?_
    simp only [Act.put,List.setIfInBounds_toArray,List.set_cons_succ,List.set_cons_zero]
    refine wpMix_nil ?_
    intro _
    have hbr2:=hbr.trans (hS.mono hbr.size)
    have HB:=Lib.hid hbr2
    clear hbr hbr2 hS qa qb S1 S2
    have hf:(la==lb)=false:=by
     rw [beq_eq_false_iff_ne]
     intro e
     exact Hxy.out (Hg.out.1 (by rw [e]))
    have Hf:=Lib.hid hf
    clear hf
    go_wp2_with fail
    go_ret
    exact ⟨by rw [Hf.out];rfl,HB.out⟩
  ·obtain rfl:k=n:=by omega
   have hd:decide ((k:Int)<(k:Int))=false:=by simp
   have hf:(la==lb)=true:=by
    rw [beq_iff_eq]
    rwa [List.take_of_length_le (by rw [Hla.out];exact Nat.le_refl _),List.take_of_length_le (by rw [Hlb.out];exact Nat.le_refl _)] at hpre
   have Hf:=Lib.hid hf
   have HB:=Lib.hid hbr
   clear hf hpre hbr
   go_wp2_with fail
   go_ret
   exact ⟨by rw [Hf.out];rfl,HB.out⟩
end Go.Proofs.YtdjhoankkddomaaGreat
