import Derived.Test.YtdjhoankkddomaaGreatQg235
import Derived.Test.YtdjhoankkddomaaGreatQg216
import Derived.Test.YtdjhoankkddomaaGreatQg229
import Derived.Test.YtdjhoankkddomaaGreatQg232
namespace Go.Proofs.YtdjhoankkddomaaGreat
open Go Go.RowKit Go.Shelf
attribute [local go_sem] Oper.semAt_some
set_option maxHeartbeats 1000000 in
set_option maxRecDepth 100000 in
theorem clonee2_any (ls:List (List UInt8)) (X:Nat→Prop) (A:Option Addr) (n c:Nat) (w:World) (h:EsI w X A n c ls) (hn:n≤1000000000) (hX:∀ b,X b→b<w.heap.size) :
  Calls Tryz.prog 60 #[.slice A n c] w fun e w'=>∃ v,e = .returned v∧EsO w' w.heap.size v ls X∧Below w.heap.size w w'∧(A=none→v = .slice none 0 0):=by
 have hlen:=h.len
 cases A with
 | none =>
  obtain ⟨vs,h1,-⟩:=h.ex
  obtain ⟨rfl,rfl⟩:=h1.nil rfl
  obtain rfl:ls=[]:=List.eq_nil_of_length_eq_zero hlen
  clear h h1
  have hnil:=fun w=>run_eql_slice_nil (P:=Tryz.prog) w 48 41 none 0 0 Tryz.underlying48
  go_enter Tryz.func60,Tryz.ntmps60
  go_wp2_with fail
  go_ret
  exact ⟨_,rfl,EsO.nil,Below.refl _ _,fun _=>rfl⟩
 | some a =>
  have hroom:=h.es.room
  have hmx:=h.es.max
  unfold maxLen at hmx
  have hb1:Below w.heap.size w (w.alloc (.cells #[] 41)):=(Below.refl _ _).alloc (Nat.le_refl _) _
  have ho0:(w.alloc (.cells #[] 41)).ownsRow w.heap.size 41 1 (.slice (some ⟨w.heap.size,0,none⟩) 0 0) 0 [] :=
   World.ownsRow_lit (base:=w.heap.size) (e:=41) (size:=1) w #[] 0 (Nat.le_refl _) (by unfold maxLen;decide) (by simp)
  have hE0:EsO (w.alloc (.cells #[] 41)) w.heap.size (.slice (some ⟨w.heap.size,0,none⟩) 0 0) [] X:=⟨[],ho0,fun i hi=>absurd hi (by simp)⟩
  obtain ⟨v1,w1,hr1,ho1,hg1,-⟩:=hE0.apps hb1.size (h.step hb1) (by simp;omega) (fun b _ hx e=>by cases e;exact absurd (hX _ hx) (Nat.lt_irrefl _))
  rw [List.nil_append] at ho1
  have hb2:=hb1.grown hg1 hb1.size (fun k hk=>by cases hk;exact Nat.le_refl _)
  have Hr1:=Lib.hid hr1
  have hnil:=fun w=>run_eql_slice_nil (P:=Tryz.prog) w 48 41 (some a) n c Tryz.underlying48
  clear hr1 ho0 hg1 hb1 h hE0 hX
  go_enter Tryz.func60,Tryz.ntmps60
  go_wp2_with ((with_reducible show wpList _ _ _ (⟨some 7,.call _,_,_,_,_⟩::_) _ _);refine wpList_run rfl v1 w1 (run_append_op (.tmp 5) (.tmp 6) 48 rfl _ _ rfl rfl Hr1.out) ?_;simp only [Act.put,List.setIfInBounds_toArray,List.set_cons_succ,List.set_cons_zero])
  go_ret
  exact ⟨v1,rfl,ho1,hb2,fun e=>by cases e⟩
set_option maxHeartbeats 1000000 in
set_option maxRecDepth 100000 in
theorem cloneho_any (l:List (List UInt8)) (A:Option Addr) (n c:Nat) (w:World) (h:Hs w (fun _=>True) A n c l) (hn:n≤1099511627776) :
  Calls Tryz.prog 61 #[.slice A n c] w fun e w'=>∃ v,e = .returned v∧w'.ownsRow w.heap.size 53 32 v n (hcells l)∧Below w.heap.size w w':=by
 cases A with
 | none =>
  obtain ⟨rfl,rfl⟩:=h.sl.nil rfl
  obtain rfl:l=[]:=List.eq_nil_of_length_eq_zero h.len
  clear h
  have hnil:=fun w=>run_eql_slice_nil (P:=Tryz.prog) w 49 53 none 0 0 Tryz.underlying49
  go_enter Tryz.func61,Tryz.ntmps61
  go_wp2_with fail
  go_ret
  exact ⟨_,rfl,World.ownsRow_nil _ _ _ _,Below.refl _ _⟩
 | some a =>
  have hroom:=h.sl.room
  have hmx:=h.sl.max
  unfold maxLen at hmx
  have hb1:Below w.heap.size w (w.alloc (.cells #[] 53)):=(Below.refl _ _).alloc (Nat.le_refl _) _
  have ho0:(w.alloc (.cells #[] 53)).ownsRow w.heap.size 53 32 (.slice (some ⟨w.heap.size,0,none⟩) 0 0) 0 [] :=
   World.ownsRow_lit (base:=w.heap.size) (e:=53) (size:=32) w #[] 0 (Nat.le_refl _) (by unfold maxLen;decide) (by simp)
  obtain ⟨v1,w1,hr1,ho1,hg1,-⟩:=append_slv (ty:=49) Tryz.underlying49 info26z (by simp [Value.cells]) (by decide) ho0 (h.step hb1).sl (oneB _) (by unfold maxLen;omega) (by omega) hb1.size
  rw [List.nil_append,Nat.zero_add] at ho1
  have hb2:=hb1.grown hg1 hb1.size (fun k hk=>by cases hk;exact Nat.le_refl _)
  have Hr1:=Lib.hid hr1
  have hnil:=fun w=>run_eql_slice_nil (P:=Tryz.prog) w 49 53 (some a) n c Tryz.underlying49
  clear hr1 ho0 hg1 hb1 h
  go_enter Tryz.func61,Tryz.ntmps61
  go_wp2_with ((with_reducible show wpList _ _ _ (⟨some 7,.call _,_,_,_,_⟩::_) _ _);refine wpList_run rfl v1 w1 (run_append_op (.tmp 5) (.tmp 6) 49 rfl _ _ rfl rfl Hr1.out) ?_;simp only [Act.put])
  go_ret
  exact ⟨v1,rfl,ho1,hb2⟩
def zm77:Array Value:=#[.slice none 0 0,.slice none 0 0,.slice none 0 0,.int .i64 0,.int .i64 0,.slice none 0 0,.int .i64 0,.int .u8 0,.int .u8 0,.int .u8 0,.int .u8 0,.int .u8 0,.int .u8 0,.int .u8 0,.int .u8 0,.int .u8 0,.int .u8 0,.int .u8 0,.int .u8 0,.int .u8 0,.int .u8 0,.int .u8 0,.int .u8 0,.int .u8 0,.int .u8 0,.int .u8 0,.int .u8 0,.int .u8 0,.int .u8 0,.int .u8 0,.int .u8 0,.int .u8 0,.int .u8 0,.int .u8 0,.int .u8 0,.int .u8 0,.int .u8 0,.int .u8 0,.int .u8 0,.bool false,.slice none 0 0,.int .i64 0,.int .u8 0,.int .u8 0,.int .u8 0,.int .u8 0,.int .u8 0,.int .u8 0,.int .u8 0,.int .u8 0,.int .u8 0,.int .u8 0,.int .u8 0,.int .u8 0,.int .u8 0,.int .u8 0,.int .u8 0,.int .u8 0,.int .u8 0,.int .u8 0,.int .u8 0,.int .u8 0,.int .u8 0,.int .u8 0,.int .u8 0,.int .u8 0,.int .u8 0,.int .u8 0,.int .u8 0,.int .u8 0,.int .u8 0,.int .u8 0,.int .u8 0,.int .u8 0,.bool false,.bool false,.bool false]
theorem sizeMd:∀ w:World,(sizeOf 57).run Tryz.prog w = .ok 77 w:=fun _=>by kernel_rfl
theorem aggMd:∀ w:World,(isAgg 57).run Tryz.prog w = .ok true w:=fun _=>by kernel_rfl
theorem oneMd {W:World} {Z:Nat→Prop} {lo g:Nat} {R:MdR} {m:MoV} (h:Md Z lo g R m W):∀ v ∈ (mdArr R m).toList,v.oneCell'=true:=by
 intro v hv
 have hv:v ∈ (List.range 77).map (mcell R m):=hv
 obtain ⟨i,-,rfl⟩:=List.mem_map.1 hv
 obtain ⟨A3,c3,e3,-⟩:=h.begun
 obtain ⟨A4,c4,e4,-⟩:=h.roots
 obtain ⟨A5,c5,e5,-⟩:=owns_slv h.hashes
 have f1:R.e.oneCell'=true:=h.ents.one
 have f2:R.h.oneCell'=true:=by rw [e5];rfl
 have f3:R.r.oneCell'=true:=by rw [e4];rfl
 have f4:R.q.oneCell'=true:=h.queue.one
 have f5:R.b.oneCell'=true:=by rw [e3];rfl
 exact one_ite f1 (one_ite f2 (one_ite f3 (one_ite rfl (one_ite rfl (one_ite f4 (one_ite rfl (one_ite rfl (one_ite rfl (one_ite f5 (one_ite rfl (one_ite rfl (one_ite rfl (one_ite rfl rfl)))))))))))))
theorem EsO.low {W:World} {lo lo':Nat} {v:Value} {ls:List (List UInt8)} {X:Nat→Prop} (h:EsO W lo v ls X) (hl:lo'≤lo):EsO W lo' v ls X:=let ⟨vs,h1,h2⟩:=h.ex;⟨vs,owns_le h1 hl,h2⟩
set_option maxHeartbeats 16000000 in
set_option maxRecDepth 100000 in
theorem mcopy_any (Z:Nat→Prop) (lo g:Nat) (R:MdR) (m:MoV) (W:World) (h:Md Z lo g R m W) (Z':Nat→Prop) (hZ':∀ b,Z' b→MdN Z g R b) (hn1:m.ents.length≤1000000) (hn2:m.queue.length≤1000000) (hn3:m.begun.length≤1000000) :
  Calls Tryz.prog 28 #[.pointer (some ⟨g,0,none⟩)] W fun e w'=>∃ g' R',e = .returned (.pointer (some ⟨g',0,none⟩))∧Md Z' W.heap.size g' R' m w'∧Below W.heap.size W w':=by
 have hno:=mnone_any h
 obtain ⟨cx,hcx⟩:∃ x,mdArr R m=x:=⟨_,rfl⟩
 have hsz:cx.size=77:=by rw [← hcx];exact md_size _ _
 have h1:∀ v ∈ cx.toList,v.oneCell'=true:=by rw [← hcx];exact oneMd h
 have hb:=h.blk
 rw [hcx] at hb
 have hld:(Instr.loadAt 57 (.pointer (some ⟨g,0,none⟩))).run Tryz.prog W = .ok (.agg cx) W:=run_load_blk (aggMd _) (sizeMd _) _ _ hsz hb
 have hzl:∀ b,Z' b→b<W.heap.size:=fun b hz=>h.ltN b (hZ' b hz)
 obtain ⟨w2,hw2⟩:∃ x,(W.alloc (.cells zm77 57)).setRow W.heap.size cx=x:=⟨_,rfl⟩
 have B2:Below W.heap.size W w2:=by rw [← hw2];exact below_setRow ((Below.refl _ _).alloc (Nat.le_refl _) _) (Nat.le_refl _) _
 have kg:Blk w2 W.heap.size 57 (mdArr R m):=by rw [← hw2,hcx];exact (Blk.new _ _ _).setRow_ _
 obtain ⟨gc,hgc⟩:∃ x,W.heap.size=x:=⟨_,rfl⟩
 obtain ⟨Ae,ce,hRe,hei⟩:=h.ents.i
 obtain ⟨Ah,chh,hRh,hhs⟩:=Hs.of_owns h.hashes (lvs_length _) (H32.lvs _)
 obtain ⟨Ar,cr,hRr,hrs⟩:=h.roots
 obtain ⟨Aq,cq,hRq,hqi⟩:=h.queue.i
 obtain ⟨Ab,cb,hRb,hbs⟩:=h.begun
 have hbi:EsI W (fun b=>¬ MdN Z g R b) Ab m.begun.length cb m.begun:=let ⟨vs,k1,k2⟩:=hbs.ex;⟨⟨vs,k1.all,k2⟩,hbs.len⟩
 have cE:=fun V (hV:Below W.heap.size W V)=>clonee2_any m.ents _ Ae m.ents.length ce V (hei.lt.step hV) (by omega) (fun b hx=>Nat.lt_of_lt_of_le hx.2 hV.size)
 have cH:=fun V (hV:Below W.heap.size W V)=>cloneho_any (lvs m.ents) Ah m.ents.length chh V ((hhs.step hV).weak fun _ _ _=>trivial) (by omega)
 have cR:=fun V (hV:Below W.heap.size W V)=>cloneh_any (headsL (lvs m.ents) m.ents.length) Ar (m.ents.length+1) cr V ((hrs.step hV).weak fun _ _ _=>trivial) (by omega)
 have cQ:=fun V (hV:Below W.heap.size W V)=>clonee2_any m.queue _ Aq m.queue.length cq V (hqi.lt.step hV) (by omega) (fun b hx=>Nat.lt_of_lt_of_le hx.2 hV.size)
 have cB:=fun V (hV:Below W.heap.size W V)=>clonee2_any m.begun _ Ab m.begun.length cb V (hbi.lt.step hV) (by omega) (fun b hx=>Nat.lt_of_lt_of_le hx.2 hV.size)
 have C0:∀ s:InC (fun W'=>Below W.heap.size W W'),s.W.cell? ⟨g,0,none⟩=some (.slice Ae m.ents.length ce):=fun s=>((h.step s.ok).cell 0 (by decide)).trans (congrArg some hRe)
 have C1:∀ s:InC (fun W'=>Below W.heap.size W W'),s.W.cell? ⟨g,1,none⟩=some (.slice Ah m.ents.length chh):=fun s=>((h.step s.ok).cell 1 (by decide)).trans (congrArg some hRh)
 have C2:∀ s:InC (fun W'=>Below W.heap.size W W'),s.W.cell? ⟨g,2,none⟩=some (.slice Ar (m.ents.length+1) cr):=fun s=>((h.step s.ok).cell 2 (by decide)).trans (congrArg some hRr)
 have C5:∀ s:InC (fun W'=>Below W.heap.size W W'),s.W.cell? ⟨g,5,none⟩=some (.slice Aq m.queue.length cq):=fun s=>((h.step s.ok).cell 5 (by decide)).trans (congrArg some hRq)
 have C40:∀ s:InC (fun W'=>Below W.heap.size W W'),s.W.cell? ⟨g,40,none⟩=some (.slice Ab m.begun.length cb):=fun s=>((h.step s.ok).cell 40 (by decide)).trans (congrArg some hRb)
 have hfr:m.only=false→m.begun=[]∧Ab=none:=fun ho=>⟨(h.fresh ho).1,by have:=(h.fresh ho).2;rw [hRb] at this;injection this⟩
 have hS:Below W.heap.size W w2.drew:=B2.drew
 have kg2:Blk w2.drew gc 57 (mdArr R m):=by rw [← hgc];exact kg.step ((Below.refl _ _).drew)
 have hz2:gc<w2.drew.heap.size:=kg2.lt
 have HL:=Lib.hid (And.intro h.lastL (And.intro h.ptL (And.intro h.big h.bigq)))
 have HN:=Lib.hid (show ∀ b,MdN Z g R b→b<W.heap.size from h.ltN)
 have HZ:=Lib.hid hZ'
 have HZl:=Lib.hid hzl
 have Hfr:=Lib.hid hfr
 have CE:=Lib.hid cE
 have CH:=Lib.hid cH
 have CR:=Lib.hid cR
 have CQ:=Lib.hid cQ
 have CB:=Lib.hid cB
 have Hw2:=Lib.hid hw2
 have Hld:=Lib.hid hld
 have H1:=Lib.hid h1
 have hgw:W.heap.size≤gc:=Nat.le_of_eq hgc
 have hwg:gc≤W.heap.size:=Nat.le_of_eq hgc.symm
 have hgw2:W.heap.size=gc:=hgc
 rw [hgw2] at Hw2
 have Hgw:=Lib.hid hgw2
 clear h hcx hb hld hzl hw2 B2 kg hRe hei hRh hhs hRr hrs hRq hqi hRb hbs hbi cE cH cR cQ cB hZ' hfr h1 hgc hgw2
 obtain ⟨ne,hne⟩:∃ x,m.ents.length=x:=⟨_,rfl⟩
 obtain ⟨nq,hnq⟩:∃ x,m.queue.length=x:=⟨_,rfl⟩
 obtain ⟨nb,hnb⟩:∃ x,m.begun.length=x:=⟨_,rfl⟩
 rw [hne] at C0 C1 C2 CE CH CR
 rw [hnq] at C5 CQ
 rw [hnb] at C40 CB
 have Hne:=Lib.hid hne
 have Hnq:=Lib.hid hnq
 have Hnb:=Lib.hid hnb
 clear hne hnq hnb hn1 hn2 hn3
 go_enter Tryz.func28,Tryz.ntmps28
 go_wp2_with (first
  | (go_at_call 51;refine hno.mono ?_;rintro e w' ⟨rfl,hw⟩;obtain rfl:=hw.symm)
  | ((with_reducible show wpList _ _ _ (⟨some 8,.load _ _,_,_,_,_⟩::_) _ _);refine wpList_load rfl 57 (.tmp 7) rfl g 0 rfl cx Hld.out ?_;simp only [Act.put,List.setIfInBounds_toArray,List.set_cons_succ,List.set_cons_zero])
  | ((with_reducible show wpList _ _ _ (⟨some 3,.alloc _,_,_,_,_⟩::_) _ _);refine wpList_run rfl (.pointer (some ⟨W.heap.size,0,none⟩)) (W.alloc (.cells zm77 57)) (by kernel_rfl) ?_;simp only [Act.put,List.setIfInBounds_toArray,List.set_cons_succ,List.set_cons_zero])
  | ((with_reducible show wpList _ _ _ [⟨none,.store _ (.tmp 3) _,_,_,_,_⟩] _ _);refine wpList_store_blk rfl 57 (.tmp 3) (.tmp 8) rfl 77 sizeMd W.heap.size cx rfl rfl hsz H1.out 57 _ (Blk.new W _ _) rfl ?_;rw [Hgw.out,Hw2.out];simp only [Act.put]))
 refine wp_region_mix (fun W'=>Below W.heap.size W W') [(0,true),(1,true),(2,true),(3,true),(4,true),(6,true),(7,true),(8,true),(9,true),(10,true),(12,true),(13,true),(14,true),(15,true),(16,true),(5,false),(11,false),(17,false),(18,true),(19,true),(20,false),(21,true),(22,true),(23,false),(24,true),(25,true),(26,false)] (by kernel_rfl) (by kernel_rfl) hS fun _=>?_
 simp only [List.map_cons,List.map_nil,Array.getD_eq_getD_getElem?,List.getElem?_toArray,List.getElem?_cons_succ,List.getElem?_cons_zero,Option.getD_some]
 generalize w2.drew=W0 at hS kg2 hz2 ⊢
 iterate 15 (refine wpMix_s (fun K hK=>?_);go_simp;refine hK _ ?_;clear hK K)
 refine wpMix_c (fun K hK=>?_) hS
 go_simp
 refine (CE.out W0 hS).mono ?_
 rintro e W0a ⟨v1,rfl,o1,b,-⟩
 refine hK _ _ ?_
 clear hK K
 replace hS:=hS.trans (b.mono hS.size)
 refine ⟨hS,?_⟩
 have ss:=b.size
 replace kg2:=kg2.step b
 have l1:=fun k (e:v1.ownBlock=some k)=>o1.lt k e
 have hz1:gc<W0.heap.size:=hz2
 have hzz:W0a.heap.size≤W0a.heap.size:=Nat.le_refl _
 replace l1:∀ k,v1.ownBlock=some k→W0.heap.size≤k∧k<W0a.heap.size:=l1
 clear b
 refine wpMix_c (fun K hK=>?_) hS
 go_simp
 refine (CH.out W0a hS).mono ?_
 rintro e W0aa ⟨v2,rfl,o2,b⟩
 refine hK _ _ ?_
 clear hK K
 replace hS:=hS.trans (b.mono hS.size)
 refine ⟨hS,?_⟩
 have ss:=b.size
 replace kg2:=kg2.step b
 have l2:∀ k,v2.ownBlock=some k→W0a.heap.size≤k∧k<W0aa.heap.size:=fun k e=>o2.lt k e
 replace o1:=o1.step b
 replace hzz:W0aa.heap.size≤W0aa.heap.size:=Nat.le_refl _
 clear b
 refine wpMix_c (fun K hK=>?_) hS
 go_simp
 refine (CR.out W0aa hS).mono ?_
 rintro e W0aaa ⟨A3,c3,rfl,o3',b⟩
 refine hK _ _ ?_
 clear hK K
 replace hS:=hS.trans (b.mono hS.size)
 refine ⟨hS,?_⟩
 have ss:=b.size
 replace kg2:=kg2.step b
 have o3:=o3'.weak (Y:=fun k=>W0aa.heap.size≤k∧k<W0aaa.heap.size) fun k hl hx=>⟨hx,hl⟩
 clear o3'
 have l3:W0aa.heap.size≤W0aaa.heap.size:=ss
 replace o1:=o1.step b
 replace o2:=owns_step o2 b
 replace hzz:W0aaa.heap.size≤W0aaa.heap.size:=Nat.le_refl _
 clear b
 iterate 2 (refine wpMix_s (fun K hK=>?_);go_simp;refine hK _ ?_;clear hK K)
 have hcl:=kg2.cellM 0 (by decide)
 have hfr:=kg2.frozen 0
 refine wpMix_put1 (by kernel_rfl) 48 (.tmp 28) (.tmp 14) rfl sizeEs ⟨gc,0,none⟩ (v1) rfl rfl o1.one _ hcl hfr (hS.setCell (p:=⟨gc,0,none⟩) hgw _) ?_
 simp only [Act.put]
 have hk:=kb_cell (M:=fun b=>b=gc) (KB.refl _ W0aaa) rfl 0 (v1)
 replace hS:=hS.setCell (p:=⟨gc,0,none⟩) hgw (v1)
 replace kg2:=kg2.setM (R':={ R with e:=v1 }) (m':=m) 0 (by decide) (v1) rfl (fun i hi hne=>by simp only [mcell,hne,if_false])
 replace o1:=o1.kb hk (fun b e e'=>by have:=(l1 b e).1;omega) (fun b _ hx e=>by have:=hx.2;omega)
 replace o2:=hk.own o2 (fun b e e'=>by have:=(l2 b e).1;omega)
 replace o3:=o3.kb hk (fun b _ hx e=>by have:=hx.1;omega)
 obtain ⟨W0aaas,hws⟩:∃ x,W0aaa.setCell ⟨gc,0,none⟩ (v1)=x:=⟨_,rfl⟩
 rw [hws] at hS kg2 o1 o2 o3 ⊢
 have hzs:W0aaa.heap.size≤W0aaas.heap.size:=by rw [← hws];exact hk.size
 replace hzz:=Nat.le_trans hzz hzs
 clear hws hk hcl hfr hzs
 iterate 2 (refine wpMix_s (fun K hK=>?_);go_simp;refine hK _ ?_;clear hK K)
 have hcl:=kg2.cellM 1 (by decide)
 have hfr:=kg2.frozen 1
 refine wpMix_put1 (by kernel_rfl) 49 (.tmp 30) (.tmp 20) rfl sizeHsl ⟨gc,1,none⟩ (v2) rfl rfl (by obtain ⟨_,_,hq,_⟩:=owns_slv o2;rw [hq];rfl) _ hcl hfr (hS.setCell (p:=⟨gc,1,none⟩) hgw _) ?_
 simp only [Act.put]
 have hk:=kb_cell (M:=fun b=>b=gc) (KB.refl _ W0aaas) rfl 1 (v2)
 replace hS:=hS.setCell (p:=⟨gc,1,none⟩) hgw (v2)
 replace kg2:=kg2.setM (R':={ R with e:=v1,h:=v2 }) (m':=m) 1 (by decide) (v2) rfl (fun i hi hne=>by simp only [mcell,hne,if_false])
 replace o1:=o1.kb hk (fun b e e'=>by have:=(l1 b e).1;omega) (fun b _ hx e=>by have:=hx.2;omega)
 replace o2:=hk.own o2 (fun b e e'=>by have:=(l2 b e).1;omega)
 replace o3:=o3.kb hk (fun b _ hx e=>by have:=hx.1;omega)
 obtain ⟨W0aaass,hws⟩:∃ x,W0aaas.setCell ⟨gc,1,none⟩ (v2)=x:=⟨_,rfl⟩
 rw [hws] at hS kg2 o1 o2 o3 ⊢
 have hzs:W0aaas.heap.size≤W0aaass.heap.size:=by rw [← hws];exact hk.size
 replace hzz:=Nat.le_trans hzz hzs
 clear hws hk hcl hfr hzs
 iterate 2 (refine wpMix_s (fun K hK=>?_);go_simp;refine hK _ ?_;clear hK K)
 have hcl:=kg2.cellM 2 (by decide)
 have hfr:=kg2.frozen 2
 refine wpMix_put1 (by kernel_rfl) 49 (.tmp 32) (.tmp 26) rfl sizeHsl ⟨gc,2,none⟩ (.slice A3 (ne+1) c3) rfl rfl rfl _ hcl hfr (hS.setCell (p:=⟨gc,2,none⟩) hgw _) ?_
 simp only [Act.put]
 have hk:=kb_cell (M:=fun b=>b=gc) (KB.refl _ W0aaass) rfl 2 (.slice A3 (ne+1) c3)
 replace hS:=hS.setCell (p:=⟨gc,2,none⟩) hgw (.slice A3 (ne+1) c3)
 replace kg2:=kg2.setM (R':={ R with e:=v1,h:=v2,r := .slice A3 (ne+1) c3 }) (m':=m) 2 (by decide) (.slice A3 (ne+1) c3) rfl (fun i hi hne=>by simp only [mcell,hne,if_false])
 replace o1:=o1.kb hk (fun b e e'=>by have:=(l1 b e).1;omega) (fun b _ hx e=>by have:=hx.2;omega)
 replace o2:=hk.own o2 (fun b e e'=>by have:=(l2 b e).1;omega)
 replace o3:=o3.kb hk (fun b _ hx e=>by have:=hx.1;omega)
 obtain ⟨W0aaasss,hws⟩:∃ x,W0aaass.setCell ⟨gc,2,none⟩ (.slice A3 (ne+1) c3)=x:=⟨_,rfl⟩
 rw [hws] at hS kg2 o1 o2 o3 ⊢
 have hzs:W0aaass.heap.size≤W0aaasss.heap.size:=by rw [← hws];exact hk.size
 replace hzz:=Nat.le_trans hzz hzs
 clear hws hk hcl hfr hzs
 refine wpMix_nil ?_
 intro _
 obtain ⟨wm,hwm⟩:∃ x,W0aaasss=x:=⟨_,rfl⟩
 rw [hwm] at hS kg2 o1 o2 o3 hzz ⊢
 clear hwm
 have bd:Below wm.heap.size wm wm.drew:=(Below.refl _ _).drew
 replace hS:=hS.trans (bd.mono hS.size)
 replace kg2:=kg2.step bd
 replace o1:=o1.step bd
 replace o2:=owns_step o2 bd
 replace o3:=o3.step bd
 replace hzz:=Nat.le_trans hzz bd.size
 clear bd
 go_wp2_with fail
 refine wp_region_mix (fun W'=>Below W.heap.size W W') [(0,true),(1,true),(2,true),(3,true),(5,true),(6,true),(7,true),(8,true),(4,false),(9,false),(10,true),(11,false),(12,true),(13,false)] (by kernel_rfl) (by kernel_rfl) hS fun _=>?_
 simp only [List.map_cons,List.map_nil,Array.getD_eq_getD_getElem?,List.getElem?_toArray,List.getElem?_cons_succ,List.getElem?_cons_zero,Option.getD_some]
 generalize wm.drew=Wd at hS kg2 o1 o2 o3 hzz ⊢
 iterate 8 (refine wpMix_s (fun K hK=>?_);go_simp;refine hK _ ?_;clear hK K)
 refine wpMix_c (fun K hK=>?_) hS
 go_simp
 refine (CQ.out Wd hS).mono ?_
 rintro e Wda ⟨v4,rfl,o4,b,-⟩
 refine hK _ _ ?_
 clear hK K
 replace hS:=hS.trans (b.mono hS.size)
 refine ⟨hS,?_⟩
 have ss:=b.size
 replace kg2:=kg2.step b
 have l4:∀ k,v4.ownBlock=some k→Wd.heap.size≤k∧k<Wda.heap.size:=fun k e=>o4.lt k e
 have hz4:=hzz
 replace o1:=o1.step b
 replace o2:=owns_step o2 b
 replace o3:=o3.step b
 replace hzz:Wda.heap.size≤Wda.heap.size:=Nat.le_refl _
 clear b
 refine wpMix_c (fun K hK=>?_) hS
 go_simp
 refine (CB.out Wda hS).mono ?_
 rintro e Wdaa ⟨v5,rfl,o5,b,n5⟩
 refine hK _ _ ?_
 clear hK K
 replace hS:=hS.trans (b.mono hS.size)
 refine ⟨hS,?_⟩
 have ss:=b.size
 replace kg2:=kg2.step b
 have l5:∀ k,v5.ownBlock=some k→Wda.heap.size≤k∧k<Wdaa.heap.size:=fun k e=>o5.lt k e
 replace o1:=o1.step b
 replace o2:=owns_step o2 b
 replace o3:=o3.step b
 replace o4:=o4.step b
 replace hzz:Wdaa.heap.size≤Wdaa.heap.size:=Nat.le_refl _
 clear b
 (refine wpMix_s (fun K hK=>?_);go_simp;refine hK _ ?_;clear hK K)
 have hcl:=kg2.cellM 5 (by decide)
 have hfr:=kg2.frozen 5
 refine wpMix_put1 (by kernel_rfl) 48 (.tmp 43) (.tmp 37) rfl sizeEs ⟨gc,5,none⟩ (v4) rfl rfl o4.one _ hcl hfr (hS.setCell (p:=⟨gc,5,none⟩) hgw _) ?_
 simp only [Act.put]
 have hk:=kb_cell (M:=fun b=>b=gc) (KB.refl _ Wdaa) rfl 5 (v4)
 replace hS:=hS.setCell (p:=⟨gc,5,none⟩) hgw (v4)
 replace kg2:=kg2.setM (R':={ e:=v1,h:=v2,r := .slice A3 (ne+1) c3,q:=v4,b:=R.b }) (m':=m) 5 (by decide) (v4) rfl (fun i hi hne=>by simp only [mcell,hne,if_false])
 replace o1:=o1.kb hk (fun b e e'=>by have:=(l1 b e).1;omega) (fun b _ hx e=>by have:=hx.2;omega)
 replace o2:=hk.own o2 (fun b e e'=>by have:=(l2 b e).1;omega)
 replace o3:=o3.kb hk (fun b _ hx e=>by have:=hx.1;omega)
 replace o4:=o4.kb hk (fun b e e'=>by have:=(l4 b e).1;omega) (fun b _ hx e=>by have:=hx.2;omega)
 replace o5:=o5.kb hk (fun b e e'=>by have:=(l5 b e).1;omega) (fun b _ hx e=>by have:=hx.2;omega)
 obtain ⟨Wdaas,hws⟩:∃ x,Wdaa.setCell ⟨gc,5,none⟩ (v4)=x:=⟨_,rfl⟩
 rw [hws] at hS kg2 o1 o2 o3 o4 o5 ⊢
 have hzs:Wdaa.heap.size≤Wdaas.heap.size:=by rw [← hws];exact hk.size
 replace hzz:=Nat.le_trans hzz hzs
 clear hws hk hcl hfr hzs
 (refine wpMix_s (fun K hK=>?_);go_simp;refine hK _ ?_;clear hK K)
 have hcl:=kg2.cellM 40 (by decide)
 have hfr:=kg2.frozen 40
 refine wpMix_put1 (by kernel_rfl) 48 (.tmp 44) (.tmp 42) rfl sizeEs ⟨gc,40,none⟩ (v5) rfl rfl o5.one _ hcl hfr (hS.setCell (p:=⟨gc,40,none⟩) hgw _) ?_
 simp only [Act.put]
 have hk:=kb_cell (M:=fun b=>b=gc) (KB.refl _ Wdaas) rfl 40 (v5)
 replace hS:=hS.setCell (p:=⟨gc,40,none⟩) hgw (v5)
 replace kg2:=kg2.setM (R':={ e:=v1,h:=v2,r := .slice A3 (ne+1) c3,q:=v4,b:=v5 }) (m':=m) 40 (by decide) (v5) rfl (fun i hi hne=>by simp only [mcell,hne,if_false])
 replace o1:=o1.kb hk (fun b e e'=>by have:=(l1 b e).1;omega) (fun b _ hx e=>by have:=hx.2;omega)
 replace o2:=hk.own o2 (fun b e e'=>by have:=(l2 b e).1;omega)
 replace o3:=o3.kb hk (fun b _ hx e=>by have:=hx.1;omega)
 replace o4:=o4.kb hk (fun b e e'=>by have:=(l4 b e).1;omega) (fun b _ hx e=>by have:=hx.2;omega)
 replace o5:=o5.kb hk (fun b e e'=>by have:=(l5 b e).1;omega) (fun b _ hx e=>by have:=hx.2;omega)
 obtain ⟨Wdaass,hws⟩:∃ x,Wdaas.setCell ⟨gc,40,none⟩ (v5)=x:=⟨_,rfl⟩
 rw [hws] at hS kg2 o1 o2 o3 o4 o5 ⊢
 have hzs:Wdaas.heap.size≤Wdaass.heap.size:=by rw [← hws];exact hk.size
 replace hzz:=Nat.le_trans hzz hzs
 clear hws hk hcl hfr hzs
 refine wpMix_nil ?_
 intro _
 go_wp2_with fail
 go_ret
 have hgw2:=Hgw.out
 obtain ⟨hl1,hl2,hbig,hbigq⟩:=HL.out
 have hout:∀ b,gc≤b→b<gc∨MdN Z g R b→False:=fun b hb e=>e.elim (fun e=>absurd hb (Nat.not_le.2 e)) (fun e=>absurd (HN.out b e) (by omega))
 have hinn:∀ b,¬ MdN Z g R b∧b<W.heap.size→¬ MdN Z' gc { e:=v1,h:=v2,r := .slice A3 (ne+1) c3,q:=v4,b:=v5 } b:=fun b hx hm=>by
  rcases hm with (hm|hm|hm|hm)|hm
  ·omega
  ·have:=(l1 b hm).1;omega
  ·have:=(l2 b hm).1;omega
  ·have:=(l4 b hm).1;omega
  ·exact hx.1 (HZ.out b hm)
 have hE:=Hne.out
 have hQ:=Hnq.out
 have hB:=Hnb.out
 obtain ⟨A5,c5,hv5,h5⟩:=o5.es2 (X':=fun b=>¬ (b=gc∨Z' b)) (Y:=fun b=>¬ MdN Z' gc { e:=v1,h:=v2,r := .slice A3 (ne+1) c3,q:=v4,b:=v5 } b) (fun b hb e=>by
  have:=(l5 b hb).1
  rcases e with e|e
  ·omega
  ·have:=HZl.out b e;omega) fun b _ hx=>hinn b hx
 refine ⟨gc,{ e:=v1,h:=v2,r := .slice A3 (ne+1) c3,q:=v4,b:=v5 },rfl,⟨kg2,hl1,hl2,?_,?_,⟨A3,c3,?_,?_⟩,?_,⟨A5,c5,hv5,h5⟩,?_,?_,hgw,hbig,hbigq,?_,?_⟩,hS⟩
 ·exact (o1.low (by omega)).weak fun b _ hx=>hinn b hx
 ·rw [hE];exact owns_le o2 (by omega)
 ·rw [hE]
 ·rw [hE]
  exact o3.weak fun b _ hx hm=>by
   rcases hm with (hm|hm|hm|hm)|hm
   ·have:=l3;omega
   ·have:=(l1 b hm).2;omega
   ·have:=(l2 b hm).2;omega
   ·have:=(l4 b hm).1;omega
   ·have:=HZl.out b hm;omega
 ·exact (o4.low (by omega)).weak fun b _ hx=>hinn b hx
 ·intro b e1 e2
  have:=(l1 b e1).2
  have:=(l4 b e2).1
  omega
 ·intro ho
  obtain ⟨f1,f2⟩:=Hfr.out ho
  exact ⟨f1,n5 f2⟩
 ·intro b hz
  exact Nat.lt_of_lt_of_le (HZl.out b hz) hS.size
 ·intro b hm hz
  have:=HZl.out b hz
  rcases hm with hm|hm|hm|hm
  ·omega
  ·have:=(l1 b hm).1;omega
  ·have:=(l2 b hm).1;omega
  ·have:=(l4 b hm).1;omega
end Go.Proofs.YtdjhoankkddomaaGreat
namespace Go.Proofs.YtdjhoankkddomaaGreat
open Go Go.RowKit Go.Shelf
abbrev mpt (g:Nat):Value := .pointer (some ⟨g,0,none⟩)
structure WS where
 nm:Nat
 M:Nat→MP
 nx:Nat
 X:Nat→XP
 pr:Nat→Nat × Nat
 np:Nat
 ov:Value
 wv:Value
def WS.gm (S:WS) (i:Nat):Nat:=(S.M (S.pr i).1).g
def WS.gx (S:WS) (i:Nat):Nat:=(S.X (S.pr i).2).g
def WS.putM (S:WS) (i:Nat) (R:MdR) (m:MoV):WS:={ S with M:=setF S.M i ⟨(S.M i).g,R,m⟩ }
def WS.putX (S:WS) (i:Nat) (R:XdR) (m:MoV):WS:={ S with X:=setF S.X i ⟨(S.X i).g,R,m⟩ }
def WV (gw:Nat) (ov wv:Value) (V0:Nat→Prop) (b:Nat):Prop:=b=gw∨ov.ownBlock=some b∨wv.ownBlock=some b∨V0 b
def wcells (a b c d ov wv:Value):Array Value:=#[a,b,c,d,ov,wv]
structure WdJ (w:World) (gw:Nat) (V0:Nat→Prop) (S:WS) (W:World):Prop where
 soup:Soup w.heap.size (WV gw S.ov S.wv V0) S.nm S.M S.nx S.X W
 blk:Blk W gw 33 (wcells (mpt (S.gm 0)) (mpt (S.gm 1)) (mpt (S.gx 0)) (mpt (S.gx 1)) S.ov S.wv)
 old:W.ownsRow w.heap.size 26 1 S.ov (S.np - 2) ((List.range (S.np - 2)).map fun i=>mpt (S.gm (i+2)))
 was:W.ownsRow w.heap.size 28 1 S.wv (S.np - 2) ((List.range (S.np - 2)).map fun i=>mpt (S.gx (i+2)))
 glo:w.heap.size≤gw
 v0:∀ b,V0 b→b≠gw∧S.ov.ownBlock≠some b∧S.wv.ownBlock≠some b∧w.heap.size≤b
 two:2≤S.np
 inb:∀ i,i<S.np→(S.pr i).1<S.nm∧(S.pr i).2<S.nx
 inj:∀ i j,i<S.np→j<S.np→i≠j→(S.pr i).1≠(S.pr j).1∧(S.pr i).2≠(S.pr j).2
 bel:Below w.heap.size w W
structure Bd (n:Nat) (m:MoV):Prop where
 e:∀ x ∈ m.ents,x.length≤4096
 q:∀ x ∈ m.queue,x.length≤4096
 b:∀ x ∈ m.begun,x.length≤4096
 eq:m.ents.length+m.queue.length≤n
 eb:m.ents.length+m.begun.length≤n
def EqB (n:Nat) (S:WS):Prop:=∀ i,i<S.np→(S.M (S.pr i).1).m=(S.X (S.pr i).2).m∧Bd n (S.M (S.pr i).1).m
section
variable {w W W':World} {gw:Nat} {V0 V1:Nat→Prop} {S:WS}
theorem Bd.up {n n':Nat} {m:MoV} (h:Bd n m) (hn:n≤n'):Bd n' m:=⟨h.e,h.q,h.b,Nat.le_trans h.eq hn,Nat.le_trans h.eb hn⟩
theorem EqB.up {n n':Nat} (h:EqB n S) (hn:n≤n'):EqB n' S:=fun i hi=>⟨(h i hi).1,(h i hi).2.up hn⟩
theorem WS.putM_g (S:WS) (i:Nat) (R:MdR) (m:MoV) (j:Nat):((S.putM i R m).M j).g=(S.M j).g:=by
 show (setF S.M i ⟨(S.M i).g,R,m⟩ j).g=(S.M j).g
 by_cases e:j=i
 ·subst e;rw [setF_eq]
 ·rw [setF_ne _ _ e]
theorem WS.putX_g (S:WS) (i:Nat) (R:XdR) (m:MoV) (j:Nat):((S.putX i R m).X j).g=(S.X j).g:=by
 show (setF S.X i ⟨(S.X i).g,R,m⟩ j).g=(S.X j).g
 by_cases e:j=i
 ·subst e;rw [setF_eq]
 ·rw [setF_ne _ _ e]
theorem WS.gm_putM (S:WS) (i:Nat) (R:MdR) (m:MoV):(S.putM i R m).gm=S.gm:=funext fun j=>S.putM_g i R m (S.pr j).1
theorem WS.gx_putX (S:WS) (i:Nat) (R:XdR) (m:MoV):(S.putX i R m).gx=S.gx:=funext fun j=>S.putX_g i R m (S.pr j).2
theorem WdJ.md (h:WdJ w gw V0 S W) (i:Nat) (hi:i<S.np):Md (fun b=>SoU (WV gw S.ov S.wv V0) S.nm S.M S.nx S.X b∧¬ MdW (S.M (S.pr i).1).g (S.M (S.pr i).1).R b) w.heap.size (S.gm i) (S.M (S.pr i).1).R (S.M (S.pr i).1).m W:=h.soup.md _ (h.inb i hi).1
theorem WdJ.xd (h:WdJ w gw V0 S W) (i:Nat) (hi:i<S.np):Xd (fun b=>SoU (WV gw S.ov S.wv V0) S.nm S.M S.nx S.X b∧b≠(S.X (S.pr i).2).g) (S.gx i) (S.X (S.pr i).2).R (S.X (S.pr i).2).m W:=h.soup.xd _ (h.inb i hi).2
theorem WdJ.uge (h:WdJ w gw V0 S W) (b:Nat) (hb:SoU (WV gw S.ov S.wv V0) S.nm S.M S.nx S.X b):w.heap.size≤b:=by
 rcases hb with (rfl|hb|hb|hb)|⟨i,hi,hb⟩|⟨i,hi,rfl⟩
 ·exact h.glo
 ·exact (h.old.lt b hb).1
 ·exact (h.was.lt b hb).1
 ·exact (h.v0 b hb).2.2.2
 ·exact ((h.soup.md i hi).lt b hb).1
 ·exact h.soup.xlo i hi
theorem WdJ.step (h:WdJ w gw V0 S W) (hb:Below W.heap.size W W'):WdJ w gw V0 S W' :=
 ⟨h.soup.step hb,h.blk.step hb,owns_step h.old hb,owns_step h.was hb,h.glo,h.v0,h.two,h.inb,h.inj,h.bel.trans (hb.mono h.bel.size)⟩
theorem WdJ.size (h:WdJ w gw V0 S W):w.heap.size≤W.heap.size:=h.bel.size
theorem WdJ.callM (h:WdJ w gw V0 S W) (i:Nat) (hi:i<S.np) {m':MoV} (hS:MdS (fun b=>SoU (WV gw S.ov S.wv V0) S.nm S.M S.nx S.X b∧¬ MdW (S.M (S.pr i).1).g (S.M (S.pr i).1).R b) w.heap.size (S.gm i) (S.M (S.pr i).1).R m' W W') :
  ∃ R',WdJ w gw V0 (S.putM (S.pr i).1 R' m') W':=by
 obtain ⟨⟨R',hm,hw⟩,hk⟩:=hS
 have hn:=(h.inb i hi).1
 have hmv:=h.soup.mv _ hn
 refine ⟨R',h.soup.callM _ hn R' m' hk hm hw,?_,?_,?_,h.glo,h.v0,h.two,h.inb,h.inj,h.bel.trans (hk.below (fun b hb=>((h.soup.md _ hn).lt b hb).1) h.bel.size)⟩
 ·rw [WS.gm_putM]
  exact hk.blk h.blk fun e=>hmv _ e (.inl rfl)
 ·rw [WS.gm_putM]
  exact hk.own h.old fun b hb e=>hmv b e (.inr (.inl hb))
 ·exact hk.own h.was fun b hb e=>hmv b e (.inr (.inr (.inl hb)))
theorem WdJ.callX (h:WdJ w gw V0 S W) (i:Nat) (hi:i<S.np) {m':MoV} (hS:XdS (fun b=>SoU (WV gw S.ov S.wv V0) S.nm S.M S.nx S.X b∧b≠(S.X (S.pr i).2).g) (S.gx i) m' W W') :
  ∃ R',WdJ w gw V0 (S.putX (S.pr i).2 R' m') W':=by
 obtain ⟨⟨R',hx⟩,hk⟩:=hS
 have hn:=(h.inb i hi).2
 have hxv:=h.soup.xv _ hn
 refine ⟨R',h.soup.callX _ hn R' m' hk hx,?_,?_,?_,h.glo,h.v0,h.two,h.inb,h.inj,h.bel.trans (hk.below (fun b hb=>by rw [hb];exact h.soup.xlo _ hn) h.bel.size)⟩
 ·rw [WS.gx_putX]
  exact hk.blk h.blk fun e=>hxv (.inl e.symm)
 ·exact hk.own h.old fun b hb e=>hxv (.inr (.inl (hb.trans (congrArg some e))))
 ·rw [WS.gx_putX]
  exact hk.own h.was fun b hb e=>hxv (.inr (.inr (.inl (hb.trans (congrArg some e)))))
theorem WdJ.kbV (h:WdJ w gw V0 S W) (hk:KB V0 W W') (hV:∀ b,V1 b→V0 b∨W.heap.size≤b) (hl:∀ b,V1 b→b<W'.heap.size):WdJ w gw V1 S W':=by
 have hno:∀ b,V1 b→b≠gw∧S.ov.ownBlock≠some b∧S.wv.ownBlock≠some b∧w.heap.size≤b:=fun b hb=>by
  rcases hV b hb with hb|hb
  ·exact h.v0 b hb
  ·exact ⟨fun e=>by have:=h.blk.lt;omega,fun e=>by have:=(h.old.lt b e).2;omega,fun e=>by have:=(h.was.lt b e).2;omega,Nat.le_trans h.size hb⟩
 refine ⟨?_,hk.blk h.blk fun e=>(h.v0 _ e).1 rfl,hk.own h.old fun b hb e=>(h.v0 b e).2.1 hb,hk.own h.was fun b hb e=>(h.v0 b e).2.2.1 hb,h.glo,hno,h.two,h.inb,h.inj,h.bel.trans (hk.below (fun b hb=>(h.v0 b hb).2.2.2) h.bel.size)⟩
 refine h.soup.kbV (hk.mono fun b hb => .inr (.inr (.inr hb))) (fun b hb=>?_) (fun b hb=>?_)
 ·rcases hb with hb|hb|hb|hb
  ·exact .inl (.inl hb)
  ·exact .inl (.inr (.inl hb))
  ·exact .inl (.inr (.inr (.inl hb)))
  ·exact (hV b hb).imp (fun h' => .inr (.inr (.inr h'))) id
 ·rcases hb with rfl|hb|hb|hb
  ·exact Nat.lt_of_lt_of_le h.blk.lt hk.size
  ·exact Nat.lt_of_lt_of_le (h.old.lt b hb).2 hk.size
  ·exact Nat.lt_of_lt_of_le (h.was.lt b hb).2 hk.size
  ·exact hl b hb
theorem WdJ.cell (h:WdJ w gw V0 S W) (k:Nat):W.cell? ⟨gw,k,none⟩=(wcells (mpt (S.gm 0)) (mpt (S.gm 1)) (mpt (S.gx 0)) (mpt (S.gx 1)) S.ov S.wv)[k]?:=h.blk.cell k
theorem WdJ.cm (h:WdJ w gw V0 S W) (k:Nat) (hk:k<2):W.cell? ⟨gw,k,none⟩=some (mpt (S.gm k)):=by
 rw [h.cell]
 rcases (by omega:k=0∨k=1) with rfl|rfl <;> rfl
theorem WdJ.cx (h:WdJ w gw V0 S W) (k:Nat) (hk:k<2):W.cell? ⟨gw,2+k,none⟩=some (mpt (S.gx k)):=by
 rw [h.cell]
 rcases (by omega:k=0∨k=1) with rfl|rfl <;> rfl
theorem EqB.put {n n':Nat} (h:EqB n S) (hn:n≤n') (hj:∀ i j,i<S.np→j<S.np→i≠j→(S.pr i).1≠(S.pr j).1∧(S.pr i).2≠(S.pr j).2) (k:Nat) (hk:k<S.np) (R:MdR) (R':XdR) (m':MoV) (hb:Bd n' m'):EqB n' ((S.putM (S.pr k).1 R m').putX (S.pr k).2 R' m'):=fun i hi=>by
 have hi:i<S.np:=hi
 show (setF S.M (S.pr k).1 ⟨(S.M (S.pr k).1).g,R,m'⟩ (S.pr i).1).m=(setF S.X (S.pr k).2 ⟨(S.X (S.pr k).2).g,R',m'⟩ (S.pr i).2).m∧Bd n' (setF S.M (S.pr k).1 ⟨(S.M (S.pr k).1).g,R,m'⟩ (S.pr i).1).m
 by_cases e:i=k
 ·subst e
  rw [setF_eq,setF_eq]
  exact ⟨rfl,hb⟩
 ·obtain ⟨h1,h2⟩:=hj i k hi hk e
  rw [setF_ne _ _ h1,setF_ne _ _ h2]
  exact ⟨(h i hi).1,(h i hi).2.up hn⟩
end
def StepQ (w:World) (gw:Nat) (n:Nat) (W:World):Prop:=∃ S,WdJ w gw (fun _=>False) S W∧EqB n S∧S.np≤12
theorem Bd.submit {n:Nat} {m:MoV} (h:Bd n m) (e:List UInt8):Bd (n+1) (m.submit e).2:=by
 unfold MoV.submit
 split
 ·exact h.up (Nat.le_succ _)
 ·split
  ·exact h.up (Nat.le_succ _)
  ·split
   ·exact h.up (Nat.le_succ _)
   ·next h2 _ =>
    have:=h.eq
    have:=h.eb
    refine ⟨h.e,fun x hx=>?_,h.b,by simp only [List.length_append,List.length_cons,List.length_nil];omega,by simp only;omega⟩
    rcases List.mem_append.1 hx with hx|hx
    ·exact h.q x hx
    ·rw [List.mem_singleton] at hx;subst hx;omega
theorem Bd.flush {n:Nat} {m:MoV} (h:Bd n m) (hb:m.begun=[]):Bd n m.flush:=by
 have:=h.eq
 refine ⟨fun x hx=>?_,fun x hx=>(by cases hx),h.b,?_,?_⟩
 ·rcases List.mem_append.1 hx with hx|hx
  ·exact h.e x hx
  ·exact h.q x hx
 ·show (m.ents++m.queue).length+0≤n
  rw [List.length_append];omega
 ·show (m.ents++m.queue).length+m.begun.length≤n
  rw [List.length_append,hb]
  simp only [List.length_nil]
  omega
theorem Bd.publish {n:Nat} {m:MoV} (h:Bd n m):Bd n m.publish:=⟨h.e,h.q,h.b,h.eq,h.eb⟩
theorem Bd.failM {n:Nat} {m:MoV} (h:Bd n m) (c:Int):Bd n (m.failM c):=by
 unfold MoV.failM
 split
 ·exact h
 ·split
  ·unfold MoV.lose
   split
   ·exact h
   ·exact ⟨h.e,h.q,h.q,h.eq,h.eq⟩
  ·split
   ·exact ⟨h.e,h.q,h.b,h.eq,h.eb⟩
   ·split
    ·exact ⟨h.e,h.q,h.b,h.eq,h.eb⟩
    ·exact h
theorem Bd.found {n:Nat} {fe:List (List UInt8)} (seg cap:Int) (fh:Bool) (fs:Int) (fr:List UInt8) (h:∀ x ∈ fe,x.length≤4096) (hn:fe.length≤n):Bd n (MoV.found seg cap fe fh fs fr):=by
 have e1:(MoV.found seg cap fe fh fs fr).ents=fe:=List.nil_append _
 refine ⟨fun x hx=>h x (by rw [← e1];exact hx),fun x hx=>(by cases hx),fun x hx=>(by cases hx),?_,?_⟩
 ·rw [e1];exact hn
 ·rw [e1];exact hn
end Go.Proofs.YtdjhoankkddomaaGreat
