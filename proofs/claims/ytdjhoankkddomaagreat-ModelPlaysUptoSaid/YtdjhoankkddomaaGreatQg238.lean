import Derived.Test.YtdjhoankkddomaaGreatQg228
namespace Go.Proofs.YtdjhoankkddomaaGreat
open Go Go.RowKit Go.Shelf
attribute [local go_sem] Oper.semAt_some
theorem allows_ref (m:MoV) (fe:List (List UInt8)) (fh:Bool) (fs:Int) (fr:List UInt8) (h1:¬ fe.length<m.ents.length) (h2:¬ (m.ents++m.begun).length<fe.length) (h3:(fe==(m.ents++m.begun).take fe.length)=true) :
  m.allows fe fh fs fr=(if fh then (m.has&&ptEq fs fr m.lastS m.lastR)||(m.pointing&&ptEq fs fr m.ptS m.ptR) else !m.has):=by
 unfold MoV.allows
 rw [if_neg h1,if_neg h2,if_neg (by rw [beq_iff_eq] at h3;exact fun h=>h h3)]
 cases fh <;> cases m.has <;> simp
theorem allows_no1 (m:MoV) (fe:List (List UInt8)) (fh:Bool) (fs:Int) (fr:List UInt8) (h3:(fe==(m.ents++m.begun).take fe.length)=false):m.allows fe fh fs fr=false:=by
 unfold MoV.allows
 split
 ·rfl
 ·split
  ·rfl
  ·rw [if_pos (by simpa using h3)]
theorem eqlPt_val {ρ:Operand→Value} {o:Oper} (a b:Operand) (ty:TypeId) (n1 n2:Int) (x1 x2:List UInt8) (v:Bool) (ho:o.op = .binOp .eql 55 a b ty) (ha:ρ a = .agg (Value.int .i64 n1::x1.map B).toArray) (hb:ρ b = .agg (Value.int .i64 n2::x2.map B).toArray) (h1:x1.length=32) (h2:x2.length=32) (hv:ptEq n1 x1 n2 x2=v) (W:World) :
  (execOp ρ o).run Tryz.prog W = .ok (.value (.bool v)) W:=by
 rw [← hv]
 exact eqlPt_op a b ty n1 n2 x1 x2 ho ha hb h1 h2 W
set_option maxHeartbeats 16000000 in
set_option maxRecDepth 100000 in
theorem xallows_any (Z:Nat→Prop) (g:Nat) (R:XdR) (m:MoV) (W:World) (h:Xd Z g R m W) (fc:Array Value) (E:Option Addr) (n c:Nat) (fe:List (List UInt8)) (fh:Bool) (fs:Int) (fr:List UInt8) (hf:Fnd fc E n c fh fs fr) (he:Es W (fun _=>True) E n c fe) (hb:m.ents.length+m.begun.length≤100000) :
  Calls Tryz.prog 26 #[.pointer (some ⟨g,0,none⟩),.agg fc] W fun e w'=>e = .returned (.bool (m.allows fe fh fs fr))∧Below W.heap.size W w':=by
 obtain ⟨w1,hw1⟩:∃ x,W.alloc (.cells fc 72)=x:=⟨_,rfl⟩
 have kx:Blk w1 W.heap.size 72 fc:=by rw [← hw1];exact Blk.new _ _ _
 have B1:Below W.heap.size W w1:=by rw [← hw1];exact (Below.refl _ _).alloc (Nat.le_refl _) _
 have h1:=h.step B1
 have he1:=he.step B1
 have hs1:=B1.size
 have hlen:=he.len
 have hroom:=he.room
 have hmx:=he.max
 unfold maxLen at hmx
 obtain ⟨Ae,ce,hee,hes0⟩:=h1.ents
 have hes:=hes0.all
 have hre:=hes.room
 have hme:=hes.max
 unfold maxLen at hme
 obtain ⟨Ab,cb,hbe,hbs0⟩:=h1.begun
 have hbs:=hbs0.all
 have hrb:=hbs.room
 have hmb:=hbs.max
 unfold maxLen at hmb
 obtain ⟨ne,hne⟩:∃ x,m.ents.length=x:=⟨_,rfl⟩
 obtain ⟨nb,hnb⟩:∃ x,m.begun.length=x:=⟨_,rfl⟩
 rw [hne] at hee hes hre hb
 rw [hnb] at hbe hbs hrb hb
 have cF0:∀ V,Below w1.heap.size w1 V→V.cell? ⟨W.heap.size,0,none⟩=some (.slice E n c):=fun V hb=>by rw [(kx.step hb).cell];exact hf.c0
 have cF4:∀ V,Below w1.heap.size w1 V→V.cell? ⟨W.heap.size,4,none⟩=some (.bool fh):=fun V hb=>by rw [(kx.step hb).cell];exact hf.c4
 have lF:∀ V,Below w1.heap.size w1 V→(Instr.loadAt 55 (.pointer (some ⟨W.heap.size,5,none⟩))).run Tryz.prog V = .ok (.agg (.int .i64 fs::fr.map B).toArray) V:=fun V hb=>hf.load (kx.step hb)
 have cE:∀ V,Below w1.heap.size w1 V→V.cell? ⟨g,2,none⟩=some (.slice Ae ne ce):=fun V hb=>((h1.step hb).cell 2 (by decide)).trans (congrArg some hee)
 have cB:∀ V,Below w1.heap.size w1 V→V.cell? ⟨g,38,none⟩=some (.slice Ab nb cb):=fun V hb=>((h1.step hb).cell 38 (by decide)).trans (congrArg some hbe)
 have cH:∀ V,Below w1.heap.size w1 V→V.cell? ⟨g,4,none⟩=some (.bool m.has):=fun V hb=>(h1.step hb).cell 4 (by decide)
 have cP:∀ V,Below w1.heap.size w1 V→V.cell? ⟨g,39,none⟩=some (.bool m.pointing):=fun V hb=>(h1.step hb).cell 39 (by decide)
 have lL:∀ V,Below w1.heap.size w1 V→(Instr.loadAt 55 (.pointer (some ⟨g,5,none⟩))).run Tryz.prog V = .ok (.agg (.int .i64 m.lastS::m.lastR.map B).toArray) V:=fun V hb=>(h1.step hb).loadLast
 have lP:∀ V,Below w1.heap.size w1 V→(Instr.loadAt 55 (.pointer (some ⟨g,40,none⟩))).run Tryz.prog V = .ok (.agg (.int .i64 m.ptS::m.ptR.map B).toArray) V:=fun V hb=>(h1.step hb).loadPt
 have lastL:=h.lastL
 have ptL:=h.ptL
 have frL:=hf.len
 have hEi:EsI w1 (·<w1.heap.size) Ae ne ce m.ents:=(hes.i).weak fun b hb _=>hb
 have hBi:EsI w1 (·<w1.heap.size) Ab nb cb m.begun:=(hbs.i).weak fun b hb _=>hb
 have CF0:=Lib.hid cF0
 have CF4:=Lib.hid cF4
 have LF:=Lib.hid lF
 have CE:=Lib.hid cE
 have CB:=Lib.hid cB
 have CH:=Lib.hid cH
 have CP:=Lib.hid cP
 have LL:=Lib.hid lL
 have LP:=Lib.hid lP
 have Hw1:=Lib.hid hw1
 have HEi:=Lib.hid hEi
 have HBi:=Lib.hid hBi
 have He1:=Lib.hid he1
 have Hne:=Lib.hid hne
 have Hnb:=Lib.hid hnb
 have Hlen:=Lib.hid hlen
 have qF0:∀ s:InC (fun V=>Below w1.heap.size w1 V),s.W.cell? ⟨W.heap.size,0,none⟩=some (.slice E n c):=fun s=>CF0.out _ s.ok
 have qE:∀ s:InC (fun V=>Below w1.heap.size w1 V),s.W.cell? ⟨g,2,none⟩=some (.slice Ae ne ce):=fun s=>CE.out _ s.ok
 have hS:Below w1.heap.size w1 w1.drew:=(Below.refl _ _).drew
 clear cF0 cF4 lF cE cB cH cP lL lP hw1 hEi hBi he1 kx h1 hee hes hes0 hbe hbs hbs0 hne hnb h hf he hlen
 obtain ⟨ans,hans⟩:∃ x,m.allows fe fh fs fr=x:=⟨_,rfl⟩
 rw [hans]
 have Hans:=Lib.hid hans
 clear hans
 by_cases hlt:n<ne
 ·have d1:decide ((n:Int)<(ne:Int))=true:=by simp;omega
  have d2:decide (n<ne)=true:=by simp;omega
  have ha:ans=false:=by rw [← Hans.out];exact allows_short m fe fh fs fr (by rw [Hlen.out,Hne.out];exact hlt)
  have Ha:=Lib.hid ha
  clear ha
  go_enter Tryz.func26,Tryz.ntmps26
  go_upto_region 1 with (rw [Hw1.out])
  refine wp_region_mix (fun W=>Below w1.heap.size w1 W) [(0,true),(1,true),(2,true),(3,true),(4,true),(5,true),(6,true),(7,true),(8,true),(9,true),(10,true),(11,true),(12,true)] (by kernel_rfl) (by kernel_rfl) hS fun _=>?_
  simp only [List.map_cons,List.map_nil,Array.getD_eq_getD_getElem?,List.getElem?_toArray,List.getElem?_cons_succ,List.getElem?_cons_zero,Option.getD_some]
  generalize w1.drew=Z1 at hS ⊢
  iterate 13 (refine wpMix_s (fun K hK=>?_);go_simp;refine hK _ ?_;clear hK K)
  refine wpMix_nil ?_
  intro _
  go_wp2_with fail
  go_ret
  exact ⟨by rw [Ha.out];rfl,B1.trans (hS.mono hs1)⟩
 have d1:decide ((n:Int)<(ne:Int))=false:=by simp;omega
 have d2:decide (n<ne)=false:=by simp;omega
 go_enter Tryz.func26,Tryz.ntmps26
 go_upto_region 1 with (rw [Hw1.out])
 refine wp_region_mix (fun W=>Below w1.heap.size w1 W) [(0,true),(1,true),(2,true),(3,true),(4,true),(5,true),(6,true),(7,true),(8,true),(9,true),(10,true),(11,true),(12,true)] (by kernel_rfl) (by kernel_rfl) hS fun _=>?_
 simp only [List.map_cons,List.map_nil,Array.getD_eq_getD_getElem?,List.getElem?_toArray,List.getElem?_cons_succ,List.getElem?_cons_zero,Option.getD_some]
 generalize w1.drew=Z1 at hS ⊢
 iterate 13 (refine wpMix_s (fun K hK=>?_);go_simp;refine hK _ ?_;clear hK K)
 refine wpMix_nil ?_
 intro _
 go_upto_region 3 with fail
 have hz3:=hS.size
 have qB:∀ s:InC (fun V=>Below Z1.heap.size Z1 V),s.W.cell? ⟨g,38,none⟩=some (.slice Ab nb cb):=fun s=>CB.out _ (hS.trans (s.ok.mono hz3))
 have qE3:∀ s:InC (fun V=>Below Z1.heap.size Z1 V),s.W.cell? ⟨g,2,none⟩=some (.slice Ae ne ce):=fun s=>CE.out _ (hS.trans (s.ok.mono hz3))
 have ha:=fun V (hb':Below Z1.heap.size Z1 V)=>app0 (·<w1.heap.size) Z1.heap.size (fun b hx=>by have hx:b<w1.heap.size:=hx;omega) Ae ne ce m.ents V ((HEi.out.step hS).step hb') hb'.size (by omega)
 have hb2:=fun V v0 (hb':Below Z1.heap.size Z1 V) (h0:EsO V Z1.heap.size v0 m.ents (·<w1.heap.size))=>app1 (·<w1.heap.size) Z1.heap.size (fun b hx=>by have hx:b<w1.heap.size:=hx;omega) v0 Ab nb cb m.ents m.begun V h0 ((HBi.out.step hS).step hb') hb'.size (by rw [Hne.out];omega)
 have Ha:=Lib.hid ha
 have Hb2:=Lib.hid hb2
 have hT:Below Z1.heap.size Z1 Z1.drew:=(Below.refl _ _).drew
 clear ha hb2 qF0 qE
 refine wp_region_mix (fun W=>Below Z1.heap.size Z1 W) [(0,true),(1,true),(2,true),(3,true),(5,true),(6,true),(7,true),(8,true),(4,false),(9,false),(10,true)] (by kernel_rfl) (by kernel_rfl) hT fun _=>?_
 simp only [List.map_cons,List.map_nil,Array.getD_eq_getD_getElem?,List.getElem?_toArray,List.getElem?_cons_succ,List.getElem?_cons_zero,Option.getD_some]
 generalize Z1.drew=Z2 at hT ⊢
 iterate 8 (refine wpMix_s (fun K hK=>?_);go_simp;refine hK _ ?_;clear hK K)
 obtain ⟨va,Z3,hra',hoA,-,hbA,-⟩:=Ha.out Z2 hT
 refine wpMix_run (by kernel_rfl) va Z3 (run_append_op (.const (.slice none 0 0)) (.tmp 23) 48 rfl (.slice none 0 0) (.slice Ae ne ce) rfl rfl hra') (hT.trans (hbA.mono hT.size)) ?_
 simp only [Act.put,List.setIfInBounds_toArray,List.set_cons_succ,List.set_cons_zero]
 replace hT:=hT.trans (hbA.mono hT.size)
 clear hbA
 obtain ⟨vb,Z4,hrb',hoB,-,hbB⟩:=Hb2.out Z3 va hT hoA
 obtain ⟨Aq,cq,hvb,-⟩:=hoB.es
 refine wpMix_run (by kernel_rfl) vb Z4 (run_append_op (.tmp 24) (.tmp 28) 48 rfl va (.slice Ab nb cb) rfl rfl hrb') (hT.trans hbB) ?_
 simp only [Act.put,List.setIfInBounds_toArray,List.set_cons_succ,List.set_cons_zero]
 replace hT:=hT.trans hbB
 clear hbB hoA hvb
 (refine wpMix_s (fun K hK=>?_);go_simp;refine hK _ ?_;clear hK K)
 refine wpMix_nil ?_
 intro _
 obtain ⟨Aa,ca,hae,haes⟩:=hoB.es
 have hal:(m.ents++m.begun).length=ne+nb:=by rw [List.length_append,Hne.out,Hnb.out]
 rw [hal] at hae haes
 subst hae
 have hra:=haes.room
 have hma:=haes.max
 unfold maxLen at hma
 have hB5:Below w1.heap.size w1 Z4:=hS.trans (hT.mono hz3)
 have Haes:=Lib.hid haes
 have Hal:=Lib.hid hal
 clear hoB haes hal qB qE3 Ha Hb2 hT hS
 by_cases hgt:ne+nb<n
 ·have d3:decide ((ne:Int)+(nb:Int)<(n:Int))=true:=by simp;omega
  have d4:decide (ne+nb<n)=true:=by simp;omega
  have q0:Z4.cell? ⟨W.heap.size,0,none⟩=some (.slice E n c):=CF0.out _ hB5
  have ha:ans=false:=by rw [← Hans.out];exact allows_long m fe fh fs fr (by rw [Hal.out,Hlen.out];exact hgt)
  have Ha:=Lib.hid ha
  clear ha
  go_wp2_with fail
  go_ret
  exact ⟨by rw [Ha.out];rfl,B1.trans (hB5.mono hs1)⟩
 have d3:decide ((ne:Int)+(nb:Int)<(n:Int))=false:=by simp;omega
 have d4:decide (ne+nb<n)=false:=by simp;omega
 have q0:Z4.cell? ⟨W.heap.size,0,none⟩=some (.slice E n c):=CF0.out _ hB5
 have hz5:=hB5.size
 have q05:∀ s:InC (fun V=>Below Z4.heap.size Z4 V),s.W.cell? ⟨W.heap.size,0,none⟩=some (.slice E n c):=fun s=>CF0.out _ (hB5.trans (s.ok.mono hz5))
 have hsm:=fun V (hb':Below Z4.heap.size Z4 V)=>rsame_any V E Aa n c n ca fe ((m.ents++m.begun).take n) ((He1.out.step hB5).step hb') ((Haes.out.take n (by omega)).step hb')
 obtain ⟨same,hsame⟩:∃ x,(fe==(m.ents++m.begun).take n)=x:=⟨_,rfl⟩
 rw [hsame] at hsm
 have Hsm:=Lib.hid hsm
 have Hsame:=Lib.hid hsame
 have hnca:n≤ca:=by omega
 have hT:Below Z4.heap.size Z4 Z4.drew:=(Below.refl _ _).drew
 clear hsm hsame Haes
 go_upto_region 6 with fail
 refine wp_region_mix (fun W=>Below Z4.heap.size Z4 W) [(0,true),(1,true),(2,true),(3,true),(4,true),(5,true),(6,true),(7,false),(8,true)] (by kernel_rfl) (by kernel_rfl) hT fun _=>?_
 simp only [List.map_cons,List.map_nil,Array.getD_eq_getD_getElem?,List.getElem?_toArray,List.getElem?_cons_succ,List.getElem?_cons_zero,Option.getD_some]
 generalize Z4.drew=Z5 at hT ⊢
 iterate 6 (refine wpMix_s (fun K hK=>?_);go_simp;refine hK _ ?_;clear hK K)
 refine wpMix_v (by kernel_rfl) (.slice Aa n ca) (fun s=>run_slice_hiB (.tmp 38) (.tmp 41) rfl Aa (ne+nb) ca n rfl rfl hnca s.W) ?_
 simp only [Act.put,List.setIfInBounds_toArray,List.set_cons_succ,List.set_cons_zero]
 refine wpMix_c (fun K hK=>?_) hT
 go_simp
 refine (Hsm.out Z5 hT).mono ?_
 rintro e Z5_1 ⟨rfl,hb'⟩
 refine hK _ _ ?_
 clear hK K
 replace hT:=hT.trans (hb'.mono hT.size)
 refine ⟨hT,?_⟩
 clear hb'
 (refine wpMix_s (fun K hK=>?_);go_simp;refine hK _ ?_;clear hK K)
 refine wpMix_nil ?_
 intro _
 have hB6:Below w1.heap.size w1 Z5_1:=hB5.trans (hT.mono hz5)
 have hz6:=hB6.size
 have BF:Below W.heap.size W Z5_1:=B1.trans (hB6.mono hs1)
 clear hT hB5 q0 q05 Hsm
 cases same with
 | false =>
  have ha:ans=false:=by rw [← Hans.out];exact allows_no1 m fe fh fs fr (by rw [Hlen.out];exact Hsame.out)
  have Ha:=Lib.hid ha
  clear ha
  go_wp2_with fail
  go_ret
  exact ⟨by rw [Ha.out];rfl,BF⟩
 | true =>
  have hr:=Hans.out.symm.trans (allows_ref m fe fh fs fr (by rw [Hlen.out,Hne.out];omega) (by rw [Hal.out,Hlen.out];omega) (by rw [Hlen.out];exact Hsame.out))
  have Hr:=Lib.hid hr
  clear hr
  have q4:Z5_1.cell? ⟨W.heap.size,4,none⟩=some (.bool fh):=CF4.out _ hB6
  have qh:Z5_1.cell? ⟨g,4,none⟩=some (.bool m.has):=CH.out _ hB6
  cases fh with
  | false =>
   go_wp2_with fail
   go_ret
   exact ⟨by rw [Hr.out];rfl,BF⟩
  | true =>
   have rh:∀ s:InC (fun V=>Below Z5_1.heap.size Z5_1 V),s.W.cell? ⟨g,4,none⟩=some (.bool m.has):=fun s=>CH.out _ (hB6.trans (s.ok.mono hz6))
   have rp:∀ s:InC (fun V=>Below Z5_1.heap.size Z5_1 V),s.W.cell? ⟨g,39,none⟩=some (.bool m.pointing):=fun s=>CP.out _ (hB6.trans (s.ok.mono hz6))
   have Mf:=Lib.hid (fun s:InC (fun V=>Below Z5_1.heap.size Z5_1 V)=>LF.out _ (hB6.trans (s.ok.mono hz6)))
   have Ml:=Lib.hid (fun s:InC (fun V=>Below Z5_1.heap.size Z5_1 V)=>LL.out _ (hB6.trans (s.ok.mono hz6)))
   have Mp:=Lib.hid (fun s:InC (fun V=>Below Z5_1.heap.size Z5_1 V)=>LP.out _ (hB6.trans (s.ok.mono hz6)))
   have hS:Below Z5_1.heap.size Z5_1 Z5_1.drew:=(Below.refl _ _).drew
   obtain ⟨ha,hha⟩:∃ x,m.has=x:=⟨_,rfl⟩
   obtain ⟨po,hpo⟩:∃ x,m.pointing=x:=⟨_,rfl⟩
   obtain ⟨e1,he1⟩:∃ x,ptEq fs fr m.lastS m.lastR=x:=⟨_,rfl⟩
   obtain ⟨e2,he2⟩:∃ x,ptEq fs fr m.ptS m.ptR=x:=⟨_,rfl⟩
   have hr2:=Hr.out
   rw [hha,hpo,he1,he2] at hr2
   rw [hha] at rh qh
   rw [hpo] at rp
   have Hr2:=Lib.hid hr2
   clear hr2 Hr Hans
   have He1':=Lib.hid he1
   have He2':=Lib.hid he2
   clear he1 he2 hha hpo
   cases ha with
   | true =>
    cases e1 with
    | true =>
     go_upto_region 11 with fail
     refine wp_region_mix (fun W=>Below Z5_1.heap.size Z5_1 W) [(0,true),(1,true),(2,true),(3,true),(4,true),(5,true),(6,true),(7,true),(8,true),(9,true),(10,true),(11,true),(12,true),(13,true),(14,true),(15,true),(16,true),(17,true),(18,true),(19,true),(20,true),(21,true),(22,true),(23,true),(24,true),(25,true),(26,true),(27,true),(28,true)] (by kernel_rfl) (by kernel_rfl) hS fun _=>?_
     simp only [List.map_cons,List.map_nil,Array.getD_eq_getD_getElem?,List.getElem?_toArray,List.getElem?_cons_succ,List.getElem?_cons_zero,Option.getD_some]
     generalize Z5_1.drew=Z9 at hS ⊢
     iterate 6 (refine wpMix_s (fun K hK=>?_);go_simp;refine hK _ ?_;clear hK K)
     refine wpMix_load (by kernel_rfl) 55 (.tmp 59) rfl (W.heap.size) (5) rfl (.int .i64 fs::fr.map B).toArray (Mf.out) ?_
     simp only [Act.put,List.setIfInBounds_toArray,List.set_cons_succ,List.set_cons_zero]
     iterate 3 (refine wpMix_s (fun K hK=>?_);go_simp;refine hK _ ?_;clear hK K)
     refine wpMix_load (by kernel_rfl) 55 (.tmp 63) rfl (g) (5) rfl (.int .i64 m.lastS::m.lastR.map B).toArray (Ml.out) ?_
     simp only [Act.put,List.setIfInBounds_toArray,List.set_cons_succ,List.set_cons_zero]
     refine wpMix_v (by kernel_rfl) (.bool true) (fun s=>eqlPt_val (.tmp 60) (.tmp 64) _ fs m.lastS fr m.lastR _ rfl rfl rfl frL lastL He1'.out s.W) ?_
     simp only [Act.put,List.setIfInBounds_toArray,List.set_cons_succ,List.set_cons_zero]
     iterate 17 (refine wpMix_s (fun K hK=>?_);go_simp;refine hK _ ?_;clear hK K)
     refine wpMix_nil ?_
     intro _
     go_wp2_with fail
     go_ret
     exact ⟨by rw [Hr2.out];rfl,BF.trans (hS.mono BF.size)⟩
    | false =>
     cases po with
     | true =>
      go_upto_region 11 with fail
      refine wp_region_mix (fun W=>Below Z5_1.heap.size Z5_1 W) [(0,true),(1,true),(2,true),(3,true),(4,true),(5,true),(6,true),(7,true),(8,true),(9,true),(10,true),(11,true),(12,true),(13,true),(14,true),(15,true),(16,true),(17,true),(18,true),(19,true),(20,true),(21,true),(22,true),(23,true),(24,true),(25,true),(26,true),(27,true),(28,true)] (by kernel_rfl) (by kernel_rfl) hS fun _=>?_
      simp only [List.map_cons,List.map_nil,Array.getD_eq_getD_getElem?,List.getElem?_toArray,List.getElem?_cons_succ,List.getElem?_cons_zero,Option.getD_some]
      generalize Z5_1.drew=Z9 at hS ⊢
      iterate 6 (refine wpMix_s (fun K hK=>?_);go_simp;refine hK _ ?_;clear hK K)
      refine wpMix_load (by kernel_rfl) 55 (.tmp 59) rfl (W.heap.size) (5) rfl (.int .i64 fs::fr.map B).toArray (Mf.out) ?_
      simp only [Act.put,List.setIfInBounds_toArray,List.set_cons_succ,List.set_cons_zero]
      iterate 3 (refine wpMix_s (fun K hK=>?_);go_simp;refine hK _ ?_;clear hK K)
      refine wpMix_load (by kernel_rfl) 55 (.tmp 63) rfl (g) (5) rfl (.int .i64 m.lastS::m.lastR.map B).toArray (Ml.out) ?_
      simp only [Act.put,List.setIfInBounds_toArray,List.set_cons_succ,List.set_cons_zero]
      refine wpMix_v (by kernel_rfl) (.bool false) (fun s=>eqlPt_val (.tmp 60) (.tmp 64) _ fs m.lastS fr m.lastR _ rfl rfl rfl frL lastL He1'.out s.W) ?_
      simp only [Act.put,List.setIfInBounds_toArray,List.set_cons_succ,List.set_cons_zero]
      iterate 8 (refine wpMix_s (fun K hK=>?_);go_simp;refine hK _ ?_;clear hK K)
      refine wpMix_load (by kernel_rfl) 55 (.tmp 73) rfl (W.heap.size) (5) rfl (.int .i64 fs::fr.map B).toArray (Mf.out) ?_
      simp only [Act.put,List.setIfInBounds_toArray,List.set_cons_succ,List.set_cons_zero]
      iterate 3 (refine wpMix_s (fun K hK=>?_);go_simp;refine hK _ ?_;clear hK K)
      refine wpMix_load (by kernel_rfl) 55 (.tmp 77) rfl (g) (40) rfl (.int .i64 m.ptS::m.ptR.map B).toArray (Mp.out) ?_
      simp only [Act.put,List.setIfInBounds_toArray,List.set_cons_succ,List.set_cons_zero]
      refine wpMix_v (by kernel_rfl) (.bool e2) (fun s=>eqlPt_val (.tmp 74) (.tmp 78) _ fs m.ptS fr m.ptR _ rfl rfl rfl frL ptL He2'.out s.W) ?_
      simp only [Act.put,List.setIfInBounds_toArray,List.set_cons_succ,List.set_cons_zero]
      iterate 3 (refine wpMix_s (fun K hK=>?_);go_simp;refine hK _ ?_;clear hK K)
      refine wpMix_nil ?_
      intro _
      go_wp2_with fail
      go_ret
      exact ⟨by rw [Hr2.out];rfl,BF.trans (hS.mono BF.size)⟩
     | false =>
      go_upto_region 11 with fail
      refine wp_region_mix (fun W=>Below Z5_1.heap.size Z5_1 W) [(0,true),(1,true),(2,true),(3,true),(4,true),(5,true),(6,true),(7,true),(8,true),(9,true),(10,true),(11,true),(12,true),(13,true),(14,true),(15,true),(16,true),(17,true),(18,true),(19,true),(20,true),(21,true),(22,true),(23,true),(24,true),(25,true),(26,true),(27,true),(28,true)] (by kernel_rfl) (by kernel_rfl) hS fun _=>?_
      simp only [List.map_cons,List.map_nil,Array.getD_eq_getD_getElem?,List.getElem?_toArray,List.getElem?_cons_succ,List.getElem?_cons_zero,Option.getD_some]
      generalize Z5_1.drew=Z9 at hS ⊢
      iterate 6 (refine wpMix_s (fun K hK=>?_);go_simp;refine hK _ ?_;clear hK K)
      refine wpMix_load (by kernel_rfl) 55 (.tmp 59) rfl (W.heap.size) (5) rfl (.int .i64 fs::fr.map B).toArray (Mf.out) ?_
      simp only [Act.put,List.setIfInBounds_toArray,List.set_cons_succ,List.set_cons_zero]
      iterate 3 (refine wpMix_s (fun K hK=>?_);go_simp;refine hK _ ?_;clear hK K)
      refine wpMix_load (by kernel_rfl) 55 (.tmp 63) rfl (g) (5) rfl (.int .i64 m.lastS::m.lastR.map B).toArray (Ml.out) ?_
      simp only [Act.put,List.setIfInBounds_toArray,List.set_cons_succ,List.set_cons_zero]
      refine wpMix_v (by kernel_rfl) (.bool false) (fun s=>eqlPt_val (.tmp 60) (.tmp 64) _ fs m.lastS fr m.lastR _ rfl rfl rfl frL lastL He1'.out s.W) ?_
      simp only [Act.put,List.setIfInBounds_toArray,List.set_cons_succ,List.set_cons_zero]
      iterate 17 (refine wpMix_s (fun K hK=>?_);go_simp;refine hK _ ?_;clear hK K)
      refine wpMix_nil ?_
      intro _
      go_wp2_with fail
      go_ret
      exact ⟨by rw [Hr2.out];rfl,BF.trans (hS.mono BF.size)⟩
   | false =>
    cases po with
    | true =>
     go_upto_region 11 with fail
     refine wp_region_mix (fun W=>Below Z5_1.heap.size Z5_1 W) [(0,true),(1,true),(2,true),(3,true),(4,true),(5,true),(6,true),(7,true),(8,true),(9,true),(10,true),(11,true),(12,true),(13,true),(14,true),(15,true),(16,true),(17,true),(18,true),(19,true),(20,true),(21,true),(22,true),(23,true),(24,true),(25,true),(26,true),(27,true),(28,true)] (by kernel_rfl) (by kernel_rfl) hS fun _=>?_
     simp only [List.map_cons,List.map_nil,Array.getD_eq_getD_getElem?,List.getElem?_toArray,List.getElem?_cons_succ,List.getElem?_cons_zero,Option.getD_some]
     generalize Z5_1.drew=Z9 at hS ⊢
     iterate 20 (refine wpMix_s (fun K hK=>?_);go_simp;refine hK _ ?_;clear hK K)
     refine wpMix_load (by kernel_rfl) 55 (.tmp 73) rfl (W.heap.size) (5) rfl (.int .i64 fs::fr.map B).toArray (Mf.out) ?_
     simp only [Act.put,List.setIfInBounds_toArray,List.set_cons_succ,List.set_cons_zero]
     iterate 3 (refine wpMix_s (fun K hK=>?_);go_simp;refine hK _ ?_;clear hK K)
     refine wpMix_load (by kernel_rfl) 55 (.tmp 77) rfl (g) (40) rfl (.int .i64 m.ptS::m.ptR.map B).toArray (Mp.out) ?_
     simp only [Act.put,List.setIfInBounds_toArray,List.set_cons_succ,List.set_cons_zero]
     refine wpMix_v (by kernel_rfl) (.bool e2) (fun s=>eqlPt_val (.tmp 74) (.tmp 78) _ fs m.ptS fr m.ptR _ rfl rfl rfl frL ptL He2'.out s.W) ?_
     simp only [Act.put,List.setIfInBounds_toArray,List.set_cons_succ,List.set_cons_zero]
     iterate 3 (refine wpMix_s (fun K hK=>?_);go_simp;refine hK _ ?_;clear hK K)
     refine wpMix_nil ?_
     intro _
     go_wp2_with fail
     go_ret
     exact ⟨by rw [Hr2.out];rfl,BF.trans (hS.mono BF.size)⟩
    | false =>
     go_upto_region 11 with fail
     refine wp_region_mix (fun W=>Below Z5_1.heap.size Z5_1 W) [(0,true),(1,true),(2,true),(3,true),(4,true),(5,true),(6,true),(7,true),(8,true),(9,true),(10,true),(11,true),(12,true),(13,true),(14,true),(15,true),(16,true),(17,true),(18,true),(19,true),(20,true),(21,true),(22,true),(23,true),(24,true),(25,true),(26,true),(27,true),(28,true)] (by kernel_rfl) (by kernel_rfl) hS fun _=>?_
     simp only [List.map_cons,List.map_nil,Array.getD_eq_getD_getElem?,List.getElem?_toArray,List.getElem?_cons_succ,List.getElem?_cons_zero,Option.getD_some]
     generalize Z5_1.drew=Z9 at hS ⊢
     iterate 29 (refine wpMix_s (fun K hK=>?_);go_simp;refine hK _ ?_;clear hK K)
     refine wpMix_nil ?_
     intro _
     go_wp2_with fail
     go_ret
     exact ⟨by rw [Hr2.out];rfl,BF.trans (hS.mono BF.size)⟩
end Go.Proofs.YtdjhoankkddomaaGreat
