import Derived.Test.YtdjhoankkddomaaGreatQg231
namespace Go.Proofs.YtdjhoankkddomaaGreat
open Go Go.RowKit Go.Shelf
attribute [local go_sem] Oper.semAt_some
theorem sizeI7:∀ w:World,(sizeOf 2).run Tryz.prog w = .ok 1 w:=fun _=>by kernel_rfl
theorem sizeB7:∀ w:World,(sizeOf 41).run Tryz.prog w = .ok 1 w:=fun _=>by kernel_rfl
theorem fc_load {W:World} {g:Nat} {v:Value} {fh:Bool} {fs:Int} {fr:List UInt8} (h:Blk W g 72 (fcV v fh fs fr)) (hl:fr.length=32):(Instr.loadAt 72 (.pointer (some ⟨g,0,none⟩))).run Tryz.prog W = .ok (.agg (fcV v fh fs fr)) W:=run_load_blk (aggFd _) (sizeFd _) _ _ (fcV_size _ _ _ _ hl) h
theorem fc_pt (v:Value) (fh:Bool) (fs fs':Int) (fr fr':List UInt8) (hl:fr.length=32):((fcV v fh fs fr).toList.take 5++(.int .i64 fs'::fr'.map B)++(fcV v fh fs fr).toList.drop (5+33)).toArray=fcV v fh fs' fr':=by
 have h:(fcV v fh fs fr).toList.drop (5+33)=[]:=List.drop_eq_nil_of_le (by rw [Array.length_toList,fcV_size _ _ _ _ hl];exact Nat.le_refl _)
 rw [h,List.append_nil]
 rfl
theorem owns_some7 {w:World} {base n s:Nat} {e:TypeId} {v:Value} {xs:List Value} (h:w.ownsRow base e s v n xs) (hn:0<n):∃ g c,v = .slice (some ⟨g,0,none⟩) n c∧True:=by
 rcases h.2 with ⟨_,h0⟩|⟨g,cap,cur,hv,-⟩
 ·omega
 ·exact ⟨g,cap,hv,trivial⟩
theorem EsI.at7 {w:World} {X:Nat→Prop} {A:Option Addr} {n c:Nat} {ls:List (List UInt8)} (h:EsI w X A n c ls) (hn:0<n):∃ b o,A=some ⟨b,o,none⟩∧b<w.heap.size∧∀ k,k<n→∃ Ai ci,w.cell? ⟨b,o+k,none⟩=some (.slice Ai (ls.getD k []).length ci)∧Sl w X Ai (ls.getD k []).length ci (ls.getD k []):=by
 obtain ⟨vs,h1,h2⟩:=h.ex
 obtain ⟨b,o,e,hb,hx,h4⟩:=h1.at_ hn (by decide)
 refine ⟨b,o,e,hb,fun k hk=>?_⟩
 obtain ⟨Ai,ci,g1,g2⟩:=h2 k (by rw [h.len];exact hk)
 have hg:ls.getD k []=ls[k]'(by rw [h.len];exact hk):=by rw [List.getD_eq_getElem?_getD,List.getElem?_eq_getElem (by rw [h.len];exact hk)];rfl
 rw [hg]
 exact ⟨Ai,ci,h4 k _ g1,g2⟩
section
variable {W0 W W':World} {X:Nat→Prop} {s:PStep} {gf:Nat} {v:Value} {fe:List (List UInt8)} {fh:Bool} {fs:Int} {fr:List UInt8}
theorem FdI.turn (h:FdI W0 X s gf v fe fh fs fr W) {fh':Bool} {fs':Int} {fr':List UInt8} (hk:KB (fun b=>b=gf) W W') (k:Blk W' gf 72 (fcV v fh' fs' fr')) (hl:fr'.length=32) (hX:∀ b,X b→b<W0.heap.size):FdI W0 X s gf v fe fh' fs' fr' W':=by
 have hgl:=h.gl
 exact ⟨h.bel.trans (hk.below (fun b e=>by omega) h.bel.size),hk.blk h.ks (by omega),hk.blk h.kr (by omega),k,h.es.kb hk (fun b e e'=>by have:=(h.es.lt b e).1;omega) (fun b _ hx e=>by have:=hX b hx;omega),hgl,hl⟩
theorem FdI.setH (h:FdI W0 X s gf v fe fh fs fr W) (b:Bool) (hX:∀ b,X b→b<W0.heap.size):FdI W0 X s gf v fe b fs fr (W.setCell ⟨gf,4,none⟩ (.bool b)) :=
 h.turn (kb_cell (M:=fun b=>b=gf) (KB.refl _ _) rfl 4 _) (h.kf.set_ 4 (.bool b)) h.rl hX
theorem FdI.setS (h:FdI W0 X s gf v fe fh fs fr W) (n:Int) (hX:∀ b,X b→b<W0.heap.size):FdI W0 X s gf v fe fh n fr (W.setCell ⟨gf,5,none⟩ (.int .i64 n)) :=
 h.turn (kb_cell (M:=fun b=>b=gf) (KB.refl _ _) rfl 5 _) (h.kf.set_ 5 (.int .i64 n)) h.rl hX
theorem FdI.setP (h:FdI W0 X s gf v fe fh fs fr W) (n:Int) (r:List UInt8) (hl:r.length=32) (hX:∀ b,X b→b<W0.heap.size):FdI W0 X s gf v fe fh n r (W.setRow gf ((fcV v fh fs fr).toList.take 5++(.int .i64 n::r.map B).toArray.toList++(fcV v fh fs fr).toList.drop (5+33)).toArray) :=
 h.turn (KB.of_grown (grown_setRow (World.grownBy.refl _ (some gf)) _) fun b e=>(Option.some.inj e).symm) (by have:=h.kf.setRow_ ((fcV v fh fs fr).toList.take 5++(.int .i64 n::r.map B).toArray.toList++(fcV v fh fs fr).toList.drop (5+33)).toArray;rw [List.toList_toArray,fc_pt _ _ _ _ _ _ h.rl] at this ⊢;exact this) hl hX
theorem FdI.fin (h:FdI W0 X s gf v fe fh fs fr W) (hX:∀ b,X b→b<W0.heap.size):Blk (W.setRow (W0.heap.size+1) (fcV v fh fs fr)) (W0.heap.size+1) 72 (fcV v fh fs fr)∧EsO (W.setRow (W0.heap.size+1) (fcV v fh fs fr)) W0.heap.size v fe X∧Below W0.heap.size W0 (W.setRow (W0.heap.size+1) (fcV v fh fs fr)):=by
 have hgl:=h.gl
 have hk:KB (fun b=>b=W0.heap.size+1) W (W.setRow (W0.heap.size+1) (fcV v fh fs fr)):=KB.of_grown (grown_setRow (World.grownBy.refl _ (some _)) _) fun b e=>(Option.some.inj e).symm
 exact ⟨h.kr.setRow_ _,(h.es.kb hk (fun b e e'=>by have:=(h.es.lt b e).1;omega) (fun b _ hx e=>by have:=hX b hx;omega)).low7 (by omega),below_setRow h.bel (by omega) _⟩
end
set_option maxHeartbeats 16000000 in
set_option maxRecDepth 100000 in
theorem found_any {Z:Nat→Prop} {gx:Nat} {R:XdR} {m:MoV} {W:World} (h:Xd Z gx R m W) (s:PStep) (hsl:Sl W (fun b=>¬ (b=gx∨Z b)∧b<W.heap.size) s.A s.n s.c s.l) (hN:m.ents.length+m.begun.length≤100000) :
  Calls Tryz.prog 25 #[.pointer (some ⟨gx,0,none⟩),.agg s.cells] W fun e w'=>∃ v,e = .returned (.agg (fcV v (fdH m s.b) (fdS m s.b) (fdR m s.b)))∧EsO w' W.heap.size v (fdE m s) (fun b=>¬ (b=gx∨Z b)∧b<W.heap.size)∧Below W.heap.size W w':=by
 have hsn:=hsl.len
 have hsr:=hsl.room
 have hsm:=hsl.max
 unfold maxLen at hsm
 obtain ⟨X,hX⟩:∃ x,(fun b=>¬ (b=gx∨Z b)∧b<W.heap.size)=x:=⟨_,rfl⟩
 have hXl:∀ b,X b→b<W.heap.size:=fun b hb=>by rw [← hX] at hb;exact hb.2
 obtain ⟨Ae,ce,hRe,hei⟩:=h.ei
 obtain ⟨Ab,cb,hRb,hbs⟩:=h.begun
 have hbi:EsI W (fun b=>¬ (b=gx∨Z b)∧b<W.heap.size) Ab m.begun.length cb m.begun:=hbs.i.lt
 rw [hX] at hei hbi hsl ⊢
 clear hX
 have hrb:=hbs.room
 have hmb:=hbs.max
 unfold maxLen at hmb
 have c2:∀ V,Below W.heap.size W V→V.cell? ⟨gx,2,none⟩=some (.slice Ae m.ents.length ce):=fun V hb=>((h.step hb).cell 2 (by decide)).trans (congrArg some hRe)
 have c38:∀ V,Below W.heap.size W V→V.cell? ⟨gx,38,none⟩=some (.slice Ab m.begun.length cb):=fun V hb=>((h.step hb).cell 38 (by decide)).trans (congrArg some hRb)
 have c4:∀ V,Below W.heap.size W V→V.cell? ⟨gx,4,none⟩=some (.bool m.has):=fun V hb=>(h.step hb).cell 4 (by decide)
 have c39:∀ V,Below W.heap.size W V→V.cell? ⟨gx,39,none⟩=some (.bool m.pointing):=fun V hb=>(h.step hb).cell 39 (by decide)
 have l5:∀ V,Below W.heap.size W V→(Instr.loadAt 55 (.pointer (some ⟨gx,5,none⟩))).run Tryz.prog V = .ok (.agg (.int .i64 m.lastS::m.lastR.map B).toArray) V:=fun V hb=>(h.step hb).loadLast
 have l40:∀ V,Below W.heap.size W V→(Instr.loadAt 55 (.pointer (some ⟨gx,40,none⟩))).run Tryz.prog V = .ok (.agg (.int .i64 m.ptS::m.ptR.map B).toArray) V:=fun V hb=>(h.step hb).loadPt
 have hlr:=h.lastL
 have hpl:=h.ptL
 have hf0:=fd0_len m s.a
 have hw0:∀ b:Int,fdH m b=fdH m b:=fun _=>rfl
 obtain ⟨rE,hrE⟩:∃ x,fdE m s=x:=⟨_,rfl⟩
 obtain ⟨rH,hrH⟩:∃ x,fdH m s.b=x:=⟨_,rfl⟩
 obtain ⟨rS,hrS⟩:∃ x,fdS m s.b=x:=⟨_,rfl⟩
 obtain ⟨rR,hrR⟩:∃ x,fdR m s.b=x:=⟨_,rfl⟩
 rw [hrE,hrH,hrS,hrR]
 unfold fdE at hrE
 unfold fdH at hrH
 unfold fdS at hrS
 unfold fdR at hrR
 have hfd:∀ k,k≤m.begun.length→k≤s.a.toNat→(k=m.begun.length∨s.a≤(k:Int))→m.ents++m.begun.take k=fd0 m s.a:=fun k h1 h2 h3=>by
  unfold fd0
  rcases h3 with rfl|h3
  ·rw [List.take_of_length_le (Nat.le_refl _),List.take_of_length_le h2]
  ·rw [show k=s.a.toNat by omega]
 obtain ⟨f0,hf0e⟩:∃ x,fd0 m s.a=x:=⟨_,rfl⟩
 rw [hf0e] at hrE hf0 hfd
 clear hf0e hw0
 obtain ⟨el,hel⟩:∃ x,m.ents=x:=⟨_,rfl⟩
 obtain ⟨bl,hbl⟩:∃ x,m.begun=x:=⟨_,rfl⟩
 obtain ⟨hs,hhs⟩:∃ x,m.has=x:=⟨_,rfl⟩
 obtain ⟨po,hpo⟩:∃ x,m.pointing=x:=⟨_,rfl⟩
 obtain ⟨ls,hls⟩:∃ x,m.lastS=x:=⟨_,rfl⟩
 obtain ⟨lr,hlrr⟩:∃ x,m.lastR=x:=⟨_,rfl⟩
 obtain ⟨ps,hps⟩:∃ x,m.ptS=x:=⟨_,rfl⟩
 obtain ⟨pr,hpr⟩:∃ x,m.ptR=x:=⟨_,rfl⟩
 rw [hel] at c2 hei hN hfd hf0
 rw [hbl] at c38 hbi hN hfd hf0 hrb
 rw [hhs] at c4 hrH
 rw [hpo] at c39 hrH
 rw [hls] at l5 hrS
 rw [hlrr] at l5 hrR hlr
 rw [hps] at l40 hrS
 rw [hpr] at l40 hrR hpl
 obtain ⟨sk,so,sa,sb,sA,sn,sc,sl⟩:=s
 simp only at hsl hsn hsr hsm hrE hrH hrS hrR hfd
 subst hsn
 have hbl':=hbi.len
 obtain ⟨ne,hne⟩:∃ x,el.length=x:=⟨_,rfl⟩
 obtain ⟨nb,hnb⟩:∃ x,bl.length=x:=⟨_,rfl⟩
 rw [hne] at c2 hei hN hf0
 rw [hnb] at c38 hbi hN hfd hrb hbl' hf0
 have F5:∀ s:InC (fun W'=>Below W.heap.size W W'),(Instr.loadAt 55 (.pointer (some ⟨gx,5,none⟩))).run Tryz.prog s.W = .ok (.agg (.int .i64 ls::lr.map B).toArray) s.W:=fun s=>l5 _ s.ok
 have F4:∀ s:InC (fun W'=>Below W.heap.size W W'),s.W.cell? ⟨gx,4,none⟩=some (.bool hs):=fun s=>c4 _ s.ok
 have C2:=Lib.hid c2
 have C38:=Lib.hid c38
 have C4:=Lib.hid c4
 have C39:=Lib.hid c39
 have L5:=Lib.hid l5
 have L40:=Lib.hid l40
 have HrE:=Lib.hid hrE
 have HrH:=Lib.hid hrH
 have HrS:=Lib.hid hrS
 have HrR:=Lib.hid hrR
 have Hfd:=Lib.hid hfd
 have Hei:=Lib.hid hei
 have Hbi:=Lib.hid hbi
 have Hsl:=Lib.hid hsl
 have HXl:=Lib.hid hXl
 have Hhs:=Lib.hid hhs
 have Hne:=Lib.hid hne
 have Hnb:=Lib.hid hnb
 have Hf0:=Lib.hid hf0
 clear c2 c38 c4 c39 l5 l40 hrE hrH hrS hrR hfd hei hbi hsl hXl hhs hne hnb h hRe hRb hbs hel hbl hpo hls hlrr hps hpr hf0 hbl'
 obtain ⟨w2,hw2⟩:∃ x,(W.alloc (.cells #[.int .i64 sk,.int .i64 so,.int .i64 sa,.int .i64 sb,.slice sA sl.length sc] 43)).alloc (.cells zf38 72)=x:=⟨_,rfl⟩
 have ks:Blk w2 W.heap.size 43 #[.int .i64 sk,.int .i64 so,.int .i64 sa,.int .i64 sb,.slice sA sl.length sc]:=by
  rw [← hw2];exact (Blk.new W _ _).step ((Below.refl _ _).alloc (Nat.le_refl _) _)
 have hz1:(W.alloc (.cells #[.int .i64 sk,.int .i64 so,.int .i64 sa,.int .i64 sb,.slice sA sl.length sc] 43)).heap.size=W.heap.size+1:=by simp
 have kr:Blk w2 (W.heap.size+1) 72 zf38:=by rw [← hw2,← hz1];exact Blk.new _ _ _
 have B2:Below W.heap.size W w2:=by rw [← hw2];exact ((Below.refl _ _).alloc (Nat.le_refl _) _).alloc (by rw [hz1];omega) _
 have Hw2:=Lib.hid hw2
 have hS:Below W.heap.size W w2.drew:=B2.drew
 replace ks:=ks.step (Below.refl w2.heap.size w2).drew
 replace kr:=kr.step (Below.refl w2.heap.size w2).drew
 clear hw2 B2
 go_enter Tryz.func25,Tryz.ntmps25
 refine Code.wp_mono (fun _ _ _ h=>BP.out h) ?_
 go_wp2_with (first
  | ((with_reducible show wpList _ _ _ (⟨some 4,.alloc _,_,_,_,_⟩::_) _ _);refine wpList_run rfl (.pointer (some ⟨W.heap.size+1,0,none⟩)) w2 (by rw [← Hw2.out,← hz1];kernel_rfl) ?_;simp only [Act.put,List.setIfInBounds_toArray,List.set_cons_succ,List.set_cons_zero]))
 refine wp_region_mix (fun W'=>Below W.heap.size W W') [(0,true),(1,true),(2,true),(3,true),(4,true),(5,true),(6,true),(7,true),(8,true),(9,false),(10,false)] (by kernel_rfl) (by kernel_rfl) hS fun _=>?_
 simp only [List.map_cons,List.map_nil,Array.getD_eq_getD_getElem?,List.getElem?_toArray,List.getElem?_cons_succ,List.getElem?_cons_zero,Option.getD_some]
 generalize w2.drew=W0 at hS ks kr ⊢
 iterate 7 (refine wpMix_s (fun K hK=>?_);go_simp;refine hK _ ?_;clear hK K)
 refine wpMix_load (by kernel_rfl) 55 (.tmp 13) rfl (gx) (5) rfl (.int .i64 ls::lr.map B).toArray (F5) ?_
 simp only [Act.put,List.setIfInBounds_toArray,List.set_cons_succ,List.set_cons_zero]
 refine wpMix_v (by kernel_rfl) (.agg (fcV (.slice none 0 0) hs ls lr)) (fun s=>build_fc0 (.tmp 10) (.tmp 14) hs ls lr hlr rfl rfl rfl s.W) ?_
 simp only [Act.put,List.setIfInBounds_toArray,List.set_cons_succ,List.set_cons_zero]
 refine wpMix_run (by kernel_rfl) (.pointer (some ⟨W0.heap.size,0,none⟩)) (W0.alloc (.cells zf38 72)) (by kernel_rfl) (hS.alloc hS.size _) ?_
 simp only [Act.put,List.setIfInBounds_toArray,List.set_cons_succ,List.set_cons_zero]
 have kf:Blk (W0.alloc (.cells zf38 72)) W0.heap.size 72 zf38:=Blk.new _ _ _
 have ba:Below W0.heap.size W0 (W0.alloc (.cells zf38 72)):=(Below.refl _ _).alloc (Nat.le_refl _) _
 have hgl:W.heap.size+1<W0.heap.size:=kr.lt
 have hz0:=hS.size
 replace hS:=hS.alloc hz0 (.cells zf38 72)
 replace ks:=ks.step ba
 replace kr:=kr.step ba
 clear ba
 refine wpMix_store_blk rfl 72 (.tmp 5) (.tmp 15) rfl 38 sizeFd W0.heap.size (fcV (.slice none 0 0) hs ls lr) rfl rfl (fcV_size _ _ _ _ hlr) (one_fcV _ rfl _ _ _) 72 zf38 kf rfl (below_setRow hS hz0 _) ?_
 simp only [Act.put]
 have kf9:=kf.setRow_ (fcV (.slice none 0 0) hs ls lr)
 have hk9:KB (fun b=>b=W0.heap.size) (W0.alloc (.cells zf38 72)) ((W0.alloc (.cells zf38 72)).setRow W0.heap.size (fcV (.slice none 0 0) hs ls lr)):=KB.of_grown (grown_setRow (World.grownBy.refl _ (some _)) _) fun b e=>(Option.some.inj e).symm
 have ks9:=hk9.blk ks (by omega)
 have kr9:=hk9.blk kr (by omega)
 replace hS:=below_setRow hS hz0 (fcV (.slice none 0 0) hs ls lr)
 clear hk9 hz0
 refine wpMix_nil ?_
 intro _
 obtain ⟨wA,hwA⟩:∃ x,(W0.alloc (.cells zf38 72)).setRow W0.heap.size (fcV (.slice none 0 0) hs ls lr)=x:=⟨_,rfl⟩
 obtain ⟨gf,hgf⟩:∃ x,W0.heap.size=x:=⟨_,rfl⟩
 have hI:FdI W X ⟨sk,so,sa,sb,sA,sl.length,sc,sl⟩ gf (.slice none 0 0) [] hs ls lr wA:=by
  rw [← hwA,← hgf]
  exact ⟨hS,ks9,kr9,kf9,EsO.nil,hgl,hlr⟩
 rw [hwA,hgf]
 clear hwA hgf hS ks kr kf ks9 kr9 kf9 hgl
 have hT:Below wA.heap.size wA wA.drew:=(Below.refl _ _).drew
 have hBA:=hI.bel
 have hzA:=hBA.size
 have D0:∀ s:InC (fun W'=>Below wA.heap.size wA W'),s.W.cell? ⟨gf,0,none⟩=some (.slice none 0 0):=fun s=>(hI.step s.ok).cv
 have D2:∀ s:InC (fun W'=>Below wA.heap.size wA W'),s.W.cell? ⟨gx,2,none⟩=some (.slice Ae ne ce):=fun s=>C2.out _ (hI.step s.ok).bel
 go_wp2_with fail
 have hIb:=hI.step hT
 obtain ⟨v1,w1,r1,e1,g1,-⟩:=hIb.es.apps (Nat.succ_le_of_lt hIb.kf.lt) (Hei.out.step hIb.bel) (by simp;omega) (fun b _ hx e=>by cases e)
 rw [List.nil_append] at e1
 have b1:Below (gf+1) wA.drew w1:=grown_to_below g1 (fun b e=>by cases e) (Nat.succ_le_of_lt hIb.kf.lt)
 have hI1:=hIb.setv b1 e1 HXl.out
 have x1:w1.cell? ⟨gf,0,none⟩=some (.slice none 0 0):=(hIb.below b1 ⟨[],World.ownsRow_nil _ _ _ _,fun i hi=>absurd hi (by simp)⟩).cv
 have y1:=(hIb.kf.below b1 (Nat.lt_succ_self _)).frozen 0
 have z1:=e1.one
 have bw1:Below wA.heap.size wA w1:=hT.trans (grown_to_below g1 (fun b e=>by cases e) hT.size)
 have HI1:=Lib.hid hI1
 clear hI1 hIb hI e1 g1 b1
 refine wp_region_mix_last (fun W'=>Below wA.heap.size wA W') 8 [(0,true),(1,true),(2,true),(3,true),(4,true),(5,true),(6,false),(7,true)] (by kernel_rfl) (by kernel_rfl) hT fun _=>?_
 simp only [List.map_cons,List.map_nil,Array.getD_eq_getD_getElem?,List.getElem?_toArray,List.getElem?_cons_succ,List.getElem?_cons_zero,Option.getD_some]
 iterate 6 (refine wpMix_s (fun K hK=>?_);go_simp;refine hK _ ?_;clear hK K)
 refine wpMix_run (by kernel_rfl) v1 w1 (run_append_op (.tmp 17) (.tmp 21) 48 rfl _ _ rfl rfl r1) bw1 ?_
 simp only [Act.put,List.setIfInBounds_toArray,List.set_cons_succ,List.set_cons_zero]
 (refine wpMix_s (fun K hK=>?_);go_simp;refine hK _ ?_;clear hK K)
 refine wpMix_nil ?_
 intro _
 simp only [List.drop_succ_cons,List.drop_zero]
 refine wpList_put1i rfl 48 (.tmp 23) (.tmp 22) rfl sizeEs ⟨gf,0,none⟩ v1 rfl rfl z1 _ x1 y1 ?_
 simp only [Act.put]
 refine wpList_nil ?_
 refine np_normal ?_
 obtain ⟨wB,hwB⟩:∃ x,w1.setCell ⟨gf,0,none⟩ v1=x:=⟨_,rfl⟩
 have hI:=HI1.out
 rw [hwB] at hI ⊢
 clear hwB HI1 D0 D2 r1 x1 y1 z1 bw1 hT hBA hzA
 go_wp2_with fail
 go_loopw [6] (fun v6 wr=>∃ (k:Nat) (v:Value),k≤nb∧k≤sa.toNat∧v6 = .int .i64 (k:Int)∧FdI W X ⟨sk,so,sa,sb,sA,sl.length,sc,sl⟩ gf v (el++bl.take k) hs ls lr wr) (fun v6 _=>nb - (intOf v6).toNat)
 case atStart=>exact ⟨0,v1,Nat.zero_le _,Nat.zero_le _,rfl,by rw [List.take_zero,List.append_nil];exact hI⟩
 case round =>
  clear hI
  obtain ⟨k,v,hk,hka,rfl,hI⟩:=hrel
  have e38:=C38.out wr hI.bel
  have es2:wr.cell? ⟨W.heap.size,2,none⟩=some (.int .i64 sa):=by rw [hI.ks.cell];rfl
  by_cases hkn:k<nb
  ·have dk:decide ((k:Int)<(nb:Int))=true:=by simp;omega
   by_cases hks:(k:Int)<sa
   ·have ds:decide ((k:Int)<sa)=true:=by simpa using hks
    have hwk:IntKind.i64.wrap ((k:Int)+1)=(k:Int)+1:=IntWalk.i64_in _ (by omega)
    have dk2:decide (k<nb)=true:=by simp;omega
    obtain ⟨gb,ob,rfl,hgl',hat⟩:=Hbi.out.at7 (by omega)
    obtain ⟨Ak,ck,hck,hsk⟩:=hat k hkn
    have hD:Below wr.heap.size wr wr.drew:=(Below.refl _ _).drew
    have hIb:=hI.step hD
    have hT:KB (fun b=>v.ownBlock=some b) wr wr.drew:=KB.of_below hD
    have hTa:KB (fun b=>v.ownBlock=some b) wr (wr.drew.alloc (.cells #[.slice Ak (bl.getD k []).length ck] 41)):=hT.trans (KB.of_below ((Below.refl _ _).alloc (Nat.le_refl _) _))
    have sB:∀ s:InC (fun W'=>KB (fun b=>v.ownBlock=some b) wr W'),Below W.heap.size W s.W:=fun s=>hI.bel.trans (s.ok.below (fun b e=>by have:=(hI.es.lt b e).1;have:=hI.gl;omega) hI.bel.size)
    have E38:∀ s:InC (fun W'=>KB (fun b=>v.ownBlock=some b) wr W'),s.W.cell? ⟨gx,38,none⟩=some (.slice (some ⟨gb,ob,none⟩) nb cb):=fun s=>C38.out _ (sB s)
    have E0:∀ s:InC (fun W'=>KB (fun b=>v.ownBlock=some b) wr W'),s.W.cell? ⟨gf,0,none⟩=some v:=fun s=>by rw [(s.ok.blk hI.kf fun e=>by have:=(hI.es.lt gf e).1;omega).cell];rfl
    have Ek:∀ s:InC (fun W'=>KB (fun b=>v.ownBlock=some b) wr W'),s.W.cell? ⟨gb,ob+k,none⟩=some (.slice Ak (bl.getD k []).length ck):=fun s=>by
     rw [(sB s).cell (p:=⟨gb,ob+k,none⟩) hgl']
     exact hck
    have hskb:=hsk.step hIb.bel
    have htk:bl.take (k+1)=bl.take k++[bl.getD k []]:=by
     rw [List.take_add_one,List.getD_eq_getElem?_getD,List.getElem?_eq_getElem (by rw [Hnb.out];exact hkn)]
     rfl
    obtain ⟨lk,hlk⟩:∃ x,bl.getD k []=x:=⟨_,rfl⟩
    rw [hlk] at Ek hskb htk hTa
    have hfel:(el++bl.take k).length≤100000:=by
     rw [List.length_append,List.length_take,Hne.out,Hnb.out]
     omega
    have hlo:=Nat.succ_le_of_lt hIb.kf.lt
    have hgl:=hI.gl
    obtain ⟨v2,w3,r2,e2,g2,-⟩:=hIb.es.app hlo (by omega) lk Ak ck hskb (fun b _ hx e=>by
     have:=HXl.out b hx
     have:=(hI.es.lt b e.symm).1
     omega)
    rw [List.append_assoc,← htk] at e2
    have b2:Below (gf+1) wr.drew w3:=grown_to_below g2 (fun b e=>(hI.es.lt b e).1) hlo
    have hI2:=hIb.setv b2 e2 HXl.out
    have x2:w3.cell? ⟨gf,0,none⟩=some v:=by rw [(hIb.kf.below b2 (Nat.lt_succ_self _)).cell];rfl
    have y2:=(hIb.kf.below b2 (Nat.lt_succ_self _)).frozen 0
    have z2:=e2.one
    have bw3:KB (fun b=>v.ownBlock=some b) wr w3:=hT.trans (KB.of_grown g2 fun r e=>e)
    have HI2:=Lib.hid hI2
    clear hI2 hIb hI e2 hck hsk hskb htk hlk hat sB hD
    go_wp2_with fail
    refine wp_region_mix_last (fun W'=>KB (fun b=>v.ownBlock=some b) wr W') 12 [(0,true),(1,true),(2,true),(3,true),(4,true),(5,true),(6,true),(7,true),(8,true),(9,false),(10,false),(11,true)] (by kernel_rfl) (by kernel_rfl) hT fun _=>?_
    simp only [List.map_cons,List.map_nil,Array.getD_eq_getD_getElem?,List.getElem?_toArray,List.getElem?_cons_succ,List.getElem?_cons_zero,Option.getD_some]
    iterate 9 (refine wpMix_s (fun K hK=>?_);go_simp;refine hK _ ?_;clear hK K)
    refine wpMix_run (by kernel_rfl) (.slice (some ⟨wr.drew.heap.size,0,none⟩) 1 1) (wr.drew.alloc (.cells #[.slice Ak lk.length ck] 41)) (by kernel_rfl) hTa ?_
    simp only [Act.put,List.setIfInBounds_toArray,List.set_cons_succ,List.set_cons_zero]
    refine wpMix_run (by kernel_rfl) v2 w3 (run_append_op (.tmp 40) (.tmp 48) 48 rfl _ _ rfl rfl r2) bw3 ?_
    simp only [Act.put,List.setIfInBounds_toArray,List.set_cons_succ,List.set_cons_zero]
    (refine wpMix_s (fun K hK=>?_);go_simp;refine hK _ ?_;clear hK K)
    refine wpMix_nil ?_
    intro _
    simp only [List.drop_succ_cons,List.drop_zero]
    refine wpList_put1i rfl 48 (.tmp 50) (.tmp 49) rfl sizeEs ⟨gf,0,none⟩ v2 rfl rfl z2 _ x2 y2 ?_
    simp only [Act.put]
    refine wpList_nil ?_
    refine np_normal ?_
    go_wp2_with fail
    go_roundw
    case rel=>exact ⟨k+1,v2,by omega,by omega,by go_num,HI2.out⟩
    case measure=>simp [intOf];omega
   ·have ds:decide ((k:Int)<sa)=false:=by simpa using hks
    have hI0:FdI W X ⟨sk,so,sa,sb,sA,sl.length,sc,sl⟩ gf v f0 hs ls lr wr:=by rw [← Hfd.out k hk hka (.inr (by omega))];exact hI
    clear hI hk hka
    have e3:wr.cell? ⟨W.heap.size,3,none⟩=some (.int .i64 sb):=by rw [hI0.ks.cell];rfl
    have e4:wr.cell? ⟨W.heap.size,4,none⟩=some (.slice sA sl.length sc):=by rw [hI0.ks.cell];rfl
    have e0:=hI0.cv
    have g4:wr.cell? ⟨gf,4,none⟩=some (.bool hs):=by rw [hI0.kf.cell];rfl
    have g5:wr.cell? ⟨gf,5,none⟩=some (.int .i64 ls):=by rw [hI0.kf.cell];rfl
    have hgl:=hI0.gl
    have hlo:=Nat.succ_le_of_lt hI0.kf.lt
    by_cases b1:sb=1
    ·subst b1
     have q1:f0++[sl]=rE:=by rw [← HrE.out];rfl
     have q2:hs=rH:=by rw [← HrH.out];rfl
     have q3:ls=rS:=by rw [← HrS.out];rfl
     have q4:lr=rR:=by rw [← HrR.out];rfl
     subst q1
     subst q2
     subst q3
     subst q4
     obtain ⟨v2,w3,r2,e2,g2,-⟩:=hI0.es.app hlo (by have:=Hf0.out;omega) sl sA sc (Hsl.out.step hI0.bel) (fun b _ hx e=>by
      have:=HXl.out b hx
      have:=(hI0.es.lt b e.symm).1
      omega)
     have b2:Below (gf+1) wr w3:=grown_to_below g2 (fun b e=>(hI0.es.lt b e).1) hlo
     have hI2:=hI0.setv b2 e2 HXl.out
     have x2:w3.cell? ⟨gf,0,none⟩=some v:=by rw [(hI0.kf.below b2 (Nat.lt_succ_self _)).cell];rfl
     have y2:=(hI0.kf.below b2 (Nat.lt_succ_self _)).frozen 0
     have z2:=e2.one
     obtain ⟨w4,hw4⟩:∃ x,w3.setCell ⟨gf,0,none⟩ v2=x:=⟨_,rfl⟩
     rw [hw4] at hI2
     have Hw4:=Lib.hid hw4
     clear hw4
     have hfl:=fc_load (hI2).kf (hI2).rl
     have krF:=(hI2).kr
     have hrl:=(hI2).rl
     obtain ⟨kF,eF,bF⟩:=(hI2).fin HXl.out
     have HeF:=Lib.hid eF
     have HbF:=Lib.hid bF
     have oneF:=one_fcV (v2) (hI2).es.one (hs) (ls) (lr)
     clear hI2 hI0 e2 eF bF b2 g2
     go_wp2_with (first
      | ((with_reducible show wpList _ _ _ (⟨some 59,.buildSlice _ _ _,_,_,_,_⟩::_) _ _);refine wpList_run rfl (.slice (some ⟨wr.heap.size,0,none⟩) 1 1) (wr.alloc (.cells #[.slice sA sl.length sc] 41)) (by kernel_rfl) ?_;simp only [Act.put,List.setIfInBounds_toArray,List.set_cons_succ,List.set_cons_zero])
      | ((with_reducible show wpList _ _ _ (⟨some 60,.call _,_,_,_,_⟩::_) _ _);refine wpList_run rfl v2 w3 (run_append_op (.tmp 56) (.tmp 59) 48 rfl _ _ rfl rfl r2) ?_;simp only [Act.put,List.setIfInBounds_toArray,List.set_cons_succ,List.set_cons_zero])
      | ((with_reducible show wpList _ _ _ [⟨none,.store _ (.tmp 61) _,_,_,_,_⟩] _ _);refine wpList_put1i rfl 48 (.tmp 61) (.tmp 60) rfl sizeEs ⟨gf,0,none⟩ v2 rfl rfl z2 _ x2 y2 ?_;rw [Hw4.out];simp only [Act.put])
      | ((with_reducible show wpList _ _ _ (⟨some 113,.load _ _,_,_,_,_⟩::_) _ _);refine wpList_load rfl 72 (.tmp 5) rfl gf 0 rfl (fcV (v2) (hs) (ls) (lr)) hfl ?_;simp only [Act.put,List.setIfInBounds_toArray,List.set_cons_succ,List.set_cons_zero])
      | ((with_reducible show wpList _ _ _ [⟨none,.store _ (.tmp 4) _,_,_,_,_⟩] _ _);refine wpList_store_blk rfl 72 (.tmp 4) (.tmp 113) rfl 38 sizeFd (W.heap.size+1) (fcV (v2) (hs) (ls) (lr)) rfl rfl (fcV_size _ _ _ _ hrl) oneF 72 zf38 krF rfl ?_;simp only [Act.put]))
     exact ⟨bodyPost_ret (results_cell_row rfl _ _ (W.heap.size+1) 72 (fcV (v2) (hs) (ls) (lr)) (0,0) _ rfl kF Tryz.underlying72 rfl (by rw [fcV_size _ _ _ _ hrl];kernel_rfl)) rfl ⟨_,rfl,HeF.out,HbF.out⟩⟩
    have d1:(sb==1)=false:=by simpa using b1
    by_cases b2:sb=2
    ·subst b2
     have q1:f0=rE:=by rw [← HrE.out];rfl
     have q2:po=rH:=by rw [← HrH.out];rfl
     have q3:ps=rS:=by rw [← HrS.out];rfl
     have q4:pr=rR:=by rw [← HrR.out];rfl
     subst q1
     subst q2
     subst q3
     subst q4
     have hT:Below wr.heap.size wr wr.drew:=(Below.refl _ _).drew
     have hId:=hI0.step hT
     have hS:Below W.heap.size W wr.drew:=hId.bel
     have E39:∀ s:InC (fun W'=>Below W.heap.size W W'),s.W.cell? ⟨gx,39,none⟩=some (.bool po):=fun s=>C39.out _ s.ok
     have E40:∀ s:InC (fun W'=>Below W.heap.size W W'),(Instr.loadAt 55 (.pointer (some ⟨gx,40,none⟩))).run Tryz.prog s.W = .ok (.agg (.int .i64 ps::pr.map B).toArray) s.W:=fun s=>L40.out _ s.ok
     have x4:wr.drew.cell? ⟨gf,4,none⟩=some (.bool hs):=by rw [hId.kf.cell];rfl
     have y4:=hId.kf.frozen 4
     have hI2:=hId.setH po HXl.out
     obtain ⟨w3,hw3⟩:∃ x,wr.drew.setCell ⟨gf,4,none⟩ (.bool po)=x:=⟨_,rfl⟩
     rw [hw3] at hI2
     have hI3:=hI2.setP ps pr hpl HXl.out
     obtain ⟨w4,hw4⟩:∃ x,w3.setRow gf ((fcV v po ls lr).toList.take 5++(.int .i64 ps::pr.map B).toArray.toList++(fcV v po ls lr).toList.drop (5+33)).toArray=x:=⟨_,rfl⟩
     rw [hw4] at hI3
     have k3:=hI2.kf
     have hz3:(fcV v po ls lr).size=38:=fcV_size _ _ _ _ hI2.rl
     have hB3:Below W.heap.size W w3:=hI2.bel
     have Hw3:=Lib.hid hw3
     have Hw4:=Lib.hid hw4
     clear hw3 hw4
     have hfl:=fc_load (hI3).kf (hI3).rl
     have krF:=(hI3).kr
     have hrl:=(hI3).rl
     obtain ⟨kF,eF,bF⟩:=(hI3).fin HXl.out
     have HeF:=Lib.hid eF
     have HbF:=Lib.hid bF
     have oneF:=one_fcV (v) (hI3).es.one (po) (ps) (pr)
     clear hI3 hI2 hId hI0 eF bF
     go_wp2_with fail
     refine wp_region_mix_last (fun W'=>Below W.heap.size W W') 11 [(0,true),(1,true),(2,true),(3,true),(4,true),(5,true),(6,true),(7,true),(8,true),(9,false),(10,true)] (by kernel_rfl) (by kernel_rfl) hS fun _=>?_
     simp only [List.map_cons,List.map_nil,Array.getD_eq_getD_getElem?,List.getElem?_toArray,List.getElem?_cons_succ,List.getElem?_cons_zero,Option.getD_some]
     iterate 7 (refine wpMix_s (fun K hK=>?_);go_simp;refine hK _ ?_;clear hK K)
     refine wpMix_load (by kernel_rfl) 55 (.tmp 70) rfl (gx) (40) rfl (.int .i64 ps::pr.map B).toArray (E40) ?_
     simp only [Act.put,List.setIfInBounds_toArray,List.set_cons_succ,List.set_cons_zero]
     (refine wpMix_s (fun K hK=>?_);go_simp;refine hK _ ?_;clear hK K)
     refine wpMix_put1 (by kernel_rfl) 4 (.tmp 72) (.tmp 67) rfl sizeBl ⟨gf,4,none⟩ (.bool po) rfl rfl rfl _ x4 y4 (by rw [Hw3.out];exact hB3) ?_
     simp only [Act.put]
     rw [Hw3.out]
     (refine wpMix_s (fun K hK=>?_);go_simp;refine hK _ ?_;clear hK K)
     refine wpMix_nil ?_
     intro _
     simp only [List.drop_succ_cons,List.drop_zero]
     refine wpList_store_agg rfl 55 (.tmp 73) (.tmp 71) rfl 33 ptSize gf 5 (.int .i64 ps::pr.map B).toArray rfl rfl (by simp [hpl]) (oneCell_pt _ _) 72 (fcV v po ls lr) k3 (by rw [hz3];decide) ?_
     rw [Hw4.out]
     simp only [Act.put]
     refine wpList_nil ?_
     refine np_normal ?_
     go_wp2_with (first
      | ((with_reducible show wpList _ _ _ (⟨some 113,.load _ _,_,_,_,_⟩::_) _ _);refine wpList_load rfl 72 (.tmp 5) rfl gf 0 rfl (fcV (v) (po) (ps) (pr)) hfl ?_;simp only [Act.put,List.setIfInBounds_toArray,List.set_cons_succ,List.set_cons_zero])
      | ((with_reducible show wpList _ _ _ [⟨none,.store _ (.tmp 4) _,_,_,_,_⟩] _ _);refine wpList_store_blk rfl 72 (.tmp 4) (.tmp 113) rfl 38 sizeFd (W.heap.size+1) (fcV (v) (po) (ps) (pr)) rfl rfl (fcV_size _ _ _ _ hrl) oneF 72 zf38 krF rfl ?_;simp only [Act.put]))
     exact ⟨bodyPost_ret (results_cell_row rfl _ _ (W.heap.size+1) 72 (fcV (v) (po) (ps) (pr)) (0,0) _ rfl kF Tryz.underlying72 rfl (by rw [fcV_size _ _ _ _ hrl];kernel_rfl)) rfl ⟨_,rfl,HeF.out,HbF.out⟩⟩
    have d2:(sb==2)=false:=by simpa using b2
    by_cases b3:sb=3
    ·subst b3
     have q1:f0=rE:=by rw [← HrE.out];rfl
     have q2:(!hs)=rH:=by rw [← HrH.out];rfl
     have q3:ls=rS:=by rw [← HrS.out];rfl
     have q4:lr=rR:=by rw [← HrR.out];rfl
     subst q1
     subst q2
     subst q3
     subst q4
     have y4:=hI0.kf.frozen 4
     have hI2:=hI0.setH (!hs) HXl.out
     obtain ⟨w4,hw4⟩:∃ x,wr.setCell ⟨gf,4,none⟩ (.bool !hs)=x:=⟨_,rfl⟩
     rw [hw4] at hI2
     have Hw4:=Lib.hid hw4
     clear hw4
     have hfl:=fc_load (hI2).kf (hI2).rl
     have krF:=(hI2).kr
     have hrl:=(hI2).rl
     obtain ⟨kF,eF,bF⟩:=(hI2).fin HXl.out
     have HeF:=Lib.hid eF
     have HbF:=Lib.hid bF
     have oneF:=one_fcV (v) (hI2).es.one (!hs) (ls) (lr)
     clear hI2 hI0 eF bF
     go_wp2_with (first
      | ((with_reducible show wpList _ _ _ [⟨none,.store _ (.tmp 79) _,_,_,_,_⟩] _ _);refine wpList_put1i rfl 4 (.tmp 79) (.tmp 78) rfl sizeBl ⟨gf,4,none⟩ (.bool !hs) rfl rfl rfl _ g4 y4 ?_;rw [Hw4.out];simp only [Act.put])
      | ((with_reducible show wpList _ _ _ (⟨some 113,.load _ _,_,_,_,_⟩::_) _ _);refine wpList_load rfl 72 (.tmp 5) rfl gf 0 rfl (fcV (v) (!hs) (ls) (lr)) hfl ?_;simp only [Act.put,List.setIfInBounds_toArray,List.set_cons_succ,List.set_cons_zero])
      | ((with_reducible show wpList _ _ _ [⟨none,.store _ (.tmp 4) _,_,_,_,_⟩] _ _);refine wpList_store_blk rfl 72 (.tmp 4) (.tmp 113) rfl 38 sizeFd (W.heap.size+1) (fcV (v) (!hs) (ls) (lr)) rfl rfl (fcV_size _ _ _ _ hrl) oneF 72 zf38 krF rfl ?_;simp only [Act.put]))
     exact ⟨bodyPost_ret (results_cell_row rfl _ _ (W.heap.size+1) 72 (fcV (v) (!hs) (ls) (lr)) (0,0) _ rfl kF Tryz.underlying72 rfl (by rw [fcV_size _ _ _ _ hrl];kernel_rfl)) rfl ⟨_,rfl,HeF.out,HbF.out⟩⟩
    have d3:(sb==3)=false:=by simpa using b3
    by_cases b4:sb=4
    ·subst b4
     obtain ⟨ls',hls'⟩:∃ x,IntKind.i64.wrap (ls+1)=x:=⟨_,rfl⟩
     have q1:f0=rE:=by rw [← HrE.out];rfl
     have q2:hs=rH:=by rw [← HrH.out];rfl
     have q3:ls'=rS:=by rw [← HrS.out];exact hls'.symm
     have q4:lr=rR:=by rw [← HrR.out];rfl
     subst q1
     subst q2
     subst q3
     subst q4
     have y5:=hI0.kf.frozen 5
     have hI2:=hI0.setS ls' HXl.out
     obtain ⟨w4,hw4⟩:∃ x,wr.setCell ⟨gf,5,none⟩ (.int .i64 ls')=x:=⟨_,rfl⟩
     rw [hw4] at hI2
     have Hw4:=Lib.hid hw4
     clear hw4
     have hfl:=fc_load (hI2).kf (hI2).rl
     have krF:=(hI2).kr
     have hrl:=(hI2).rl
     obtain ⟨kF,eF,bF⟩:=(hI2).fin HXl.out
     have HeF:=Lib.hid eF
     have HbF:=Lib.hid bF
     have oneF:=one_fcV (v) (hI2).es.one (hs) (ls') (lr)
     clear hI2 hI0 eF bF
     go_wp2_with (first
      | ((with_reducible show wpList _ _ _ [⟨none,.store _ (.tmp 87) _,_,_,_,_⟩] _ _);refine wpList_put1i rfl 2 (.tmp 87) (.tmp 85) rfl sizeI7 ⟨gf,5,none⟩ (.int .i64 ls') rfl rfl rfl _ g5 y5 ?_;rw [Hw4.out];simp only [Act.put])
      | ((with_reducible show wpList _ _ _ (⟨some 113,.load _ _,_,_,_,_⟩::_) _ _);refine wpList_load rfl 72 (.tmp 5) rfl gf 0 rfl (fcV (v) (hs) (ls') (lr)) hfl ?_;simp only [Act.put,List.setIfInBounds_toArray,List.set_cons_succ,List.set_cons_zero])
      | ((with_reducible show wpList _ _ _ [⟨none,.store _ (.tmp 4) _,_,_,_,_⟩] _ _);refine wpList_store_blk rfl 72 (.tmp 4) (.tmp 113) rfl 38 sizeFd (W.heap.size+1) (fcV (v) (hs) (ls') (lr)) rfl rfl (fcV_size _ _ _ _ hrl) oneF 72 zf38 krF rfl ?_;simp only [Act.put]))
     exact ⟨bodyPost_ret (results_cell_row rfl _ _ (W.heap.size+1) 72 (fcV (v) (hs) (ls') (lr)) (0,0) _ rfl kF Tryz.underlying72 rfl (by rw [fcV_size _ _ _ _ hrl];kernel_rfl)) rfl ⟨_,rfl,HeF.out,HbF.out⟩⟩
    have d4:(sb==4)=false:=by simpa using b4
    by_cases b5:sb=5
    ·subst b5
     obtain ⟨n1,hn1⟩:∃ x,f0.length - 1=x:=⟨_,rfl⟩
     have q1:f0.take n1=rE:=by rw [← HrE.out];rw [← hn1];rfl
     have q2:hs=rH:=by rw [← HrH.out];rfl
     have q3:ls=rS:=by rw [← HrS.out];rfl
     have q4:lr=rR:=by rw [← HrR.out];rfl
     subst q1
     subst q2
     subst q3
     subst q4
     obtain ⟨Af,cf,hvf,hsf⟩:=hI0.es.i
     have hrf:=hsf.es.room
     have hmf:=hsf.es.max
     unfold maxLen at hmf
     subst hvf
     by_cases hp:0<f0.length
     ·have hd:decide ((0:Int)<(f0.length:Int))=true:=by simp;omega
      obtain ⟨gq,oq,rfl,-,-⟩:=hsf.at7 hp
      have hoq:oq=0:=by
       obtain ⟨vs,ho,-⟩:=hI0.es.ex
       obtain ⟨g',c',e',-⟩:=owns_some7 ho hp
       injection e' with e' _ _
       injection e' with e'
       injection e'
      subst hoq
      have hwn:IntKind.i64.wrap ((f0.length:Int) - 1)=(n1:Int):=by rw [IntWalk.i64_in _ (by omega)];omega
      have e5:=hI0.es.less n1 (by omega)
      have y0:=hI0.kf.frozen 0
      have hI2:=hI0.setv (Below.refl _ _) e5 HXl.out
      have z2:=e5.one
      obtain ⟨w4,hw4⟩:∃ x,wr.setCell ⟨gf,0,none⟩ (.slice (some ⟨gq,0,none⟩) n1 cf)=x:=⟨_,rfl⟩
      rw [hw4] at hI2
      have Hw4:=Lib.hid hw4
      have hnc:n1≤cf:=by omega
      obtain ⟨nf,hnf⟩:∃ x,f0.length=x:=⟨_,rfl⟩
      rw [hnf] at e0 hd hwn hrf
      clear hw4
      have hfl:=fc_load (hI2).kf (hI2).rl
      have krF:=(hI2).kr
      have hrl:=(hI2).rl
      obtain ⟨kF,eF,bF⟩:=(hI2).fin HXl.out
      have HeF:=Lib.hid eF
      have HbF:=Lib.hid bF
      have oneF:=one_fcV (.slice (some ⟨gq,0,none⟩) n1 cf) (hI2).es.one (hs) (ls) (lr)
      clear hI2 hI0 eF bF hsf e5
      go_wp2_with (first
       | ((with_reducible show wpList _ _ _ (⟨some 100,.slice _ _ _ _ _,_,_,_,_⟩::_) _ _);refine wpList_run rfl (.slice (some ⟨gq,0,none⟩) n1 cf) wr (run_slice_hiB (.tmp 95) (.tmp 99) rfl (some ⟨gq,0,none⟩) nf cf n1 rfl rfl hnc wr) ?_;simp only [Act.put,List.setIfInBounds_toArray,List.set_cons_succ,List.set_cons_zero])
       | ((with_reducible show wpList _ _ _ [⟨none,.store _ (.tmp 101) _,_,_,_,_⟩] _ _);refine wpList_put1i rfl 48 (.tmp 101) (.tmp 100) rfl sizeEs ⟨gf,0,none⟩ (.slice (some ⟨gq,0,none⟩) n1 cf) rfl rfl rfl _ e0 y0 ?_;rw [Hw4.out];simp only [Act.put])
       | ((with_reducible show wpList _ _ _ (⟨some 113,.load _ _,_,_,_,_⟩::_) _ _);refine wpList_load rfl 72 (.tmp 5) rfl gf 0 rfl (fcV (.slice (some ⟨gq,0,none⟩) n1 cf) (hs) (ls) (lr)) hfl ?_;simp only [Act.put,List.setIfInBounds_toArray,List.set_cons_succ,List.set_cons_zero])
       | ((with_reducible show wpList _ _ _ [⟨none,.store _ (.tmp 4) _,_,_,_,_⟩] _ _);refine wpList_store_blk rfl 72 (.tmp 4) (.tmp 113) rfl 38 sizeFd (W.heap.size+1) (fcV (.slice (some ⟨gq,0,none⟩) n1 cf) (hs) (ls) (lr)) rfl rfl (fcV_size _ _ _ _ hrl) oneF 72 zf38 krF rfl ?_;simp only [Act.put]))
      exact ⟨bodyPost_ret (results_cell_row rfl _ _ (W.heap.size+1) 72 (fcV (.slice (some ⟨gq,0,none⟩) n1 cf) (hs) (ls) (lr)) (0,0) _ rfl kF Tryz.underlying72 rfl (by rw [fcV_size _ _ _ _ hrl];kernel_rfl)) rfl ⟨_,rfl,HeF.out,HbF.out⟩⟩
     ·have h0:f0=[]:=List.eq_nil_of_length_eq_zero (by omega)
      subst h0
      have e0:wr.cell? ⟨gf,0,none⟩=some (.slice Af 0 cf):=e0
      have hfl:=fc_load (hI0).kf (hI0).rl
      have krF:=(hI0).kr
      have hrl:=(hI0).rl
      obtain ⟨kF,eF,bF⟩:=(hI0).fin HXl.out
      have HeF:=Lib.hid eF
      have HbF:=Lib.hid bF
      have oneF:=one_fcV (.slice Af 0 cf) (hI0).es.one (hs) (ls) (lr)
      clear hI0 eF bF hsf
      go_wp2_with (first
       | ((with_reducible show wpList _ _ _ (⟨some 113,.load _ _,_,_,_,_⟩::_) _ _);refine wpList_load rfl 72 (.tmp 5) rfl gf 0 rfl (fcV (.slice Af 0 cf) (hs) (ls) (lr)) hfl ?_;simp only [Act.put,List.setIfInBounds_toArray,List.set_cons_succ,List.set_cons_zero])
       | ((with_reducible show wpList _ _ _ [⟨none,.store _ (.tmp 4) _,_,_,_,_⟩] _ _);refine wpList_store_blk rfl 72 (.tmp 4) (.tmp 113) rfl 38 sizeFd (W.heap.size+1) (fcV (.slice Af 0 cf) (hs) (ls) (lr)) rfl rfl (fcV_size _ _ _ _ hrl) oneF 72 zf38 krF rfl ?_;simp only [Act.put]))
      exact ⟨bodyPost_ret (results_cell_row rfl _ _ (W.heap.size+1) 72 (fcV (.slice Af 0 cf) (hs) (ls) (lr)) (0,0) _ rfl kF Tryz.underlying72 rfl (by rw [fcV_size _ _ _ _ hrl];kernel_rfl)) rfl ⟨_,rfl,HeF.out,HbF.out⟩⟩
    have d5:(sb==5)=false:=by simpa using b5
    by_cases b6:sb=6
    ·subst b6
     obtain ⟨Af,cf,hvf,hsf⟩:=hI0.es.i
     have hrf:=hsf.es.room
     have hmf:=hsf.es.max
     unfold maxLen at hmf
     subst hvf
     by_cases hp:0<f0.length
     ·have q1:f0.set 0 sl=rE:=by rw [← HrE.out];exact (if_neg (fun e=>by rw [e] at hp;exact absurd hp (by decide))).symm
      have q2:hs=rH:=by rw [← HrH.out];rfl
      have q3:ls=rS:=by rw [← HrS.out];rfl
      have q4:lr=rR:=by rw [← HrR.out];rfl
      subst q1
      subst q2
      subst q3
      subst q4
      have hd:decide ((0:Int)<(f0.length:Int))=true:=by simp;omega
      have hd2:decide (0<f0.length)=true:=by simp;omega
      obtain ⟨gq,oq,rfl,-,-⟩:=hsf.at7 hp
      have hoq:oq=0:=by
       obtain ⟨vs,ho,-⟩:=hI0.es.ex
       obtain ⟨g',c',e',-⟩:=owns_some7 ho hp
       injection e' with e' _ _
       injection e' with e'
       injection e'
      subst hoq
      obtain ⟨⟨u0,hu0⟩,hfz,hgq,e6⟩:=hI0.es.set0 hp (Hsl.out.step hI0.bel) (fun b hx=>by have:=HXl.out b hx;omega)
      have hk6:Below (gf+1) wr (wr.setCell ⟨gq,0,none⟩ (.slice sA sl.length sc)):=(Below.refl _ _).setCell (p:=⟨gq,0,none⟩) hgq _
      have e6':EsO (wr.setCell ⟨gq,0,none⟩ (.slice sA sl.length sc)) (gf+1) (.slice (some ⟨gq,0,none⟩) f0.length cf) (f0.set 0 sl) X:=e6
      have hI2:FdI W X ⟨sk,so,sa,6,sA,sl.length,sc,sl⟩ gf (.slice (some ⟨gq,0,none⟩) f0.length cf) (f0.set 0 sl) hs ls lr (wr.setCell ⟨gq,0,none⟩ (.slice sA sl.length sc)) :=
       ⟨hI0.bel.trans (hk6.mono (by omega)),hI0.ks.below hk6 (by omega),hI0.kr.below hk6 (by omega),hI0.kf.below hk6 (by omega),e6',hI0.gl,hI0.rl⟩
      obtain ⟨w4,hw4⟩:∃ x,wr.setCell ⟨gq,0,none⟩ (.slice sA sl.length sc)=x:=⟨_,rfl⟩
      rw [hw4] at hI2
      have Hw4:=Lib.hid hw4
      obtain ⟨nf,hnf⟩:∃ x,f0.length=x:=⟨_,rfl⟩
      rw [hnf] at e0 hd hd2 hrf hI2
      clear hw4
      have hfl:=fc_load (hI2).kf (hI2).rl
      have krF:=(hI2).kr
      have hrl:=(hI2).rl
      obtain ⟨kF,eF,bF⟩:=(hI2).fin HXl.out
      have HeF:=Lib.hid eF
      have HbF:=Lib.hid bF
      have oneF:=one_fcV (.slice (some ⟨gq,0,none⟩) nf cf) (hI2).es.one (hs) (ls) (lr)
      clear hI2 hI0 eF bF hsf e6 e6' hk6 hgq
      go_wp2_with (first
       | ((with_reducible show wpList _ _ _ [⟨none,.store _ (.tmp 112) _,_,_,_,_⟩] _ _);refine wpList_put1i rfl 41 (.tmp 112) (.tmp 111) rfl sizeB7 ⟨gq,0,none⟩ (.slice sA sl.length sc) rfl rfl rfl _ hu0 hfz ?_;rw [Hw4.out];simp only [Act.put])
       | ((with_reducible show wpList _ _ _ (⟨some 113,.load _ _,_,_,_,_⟩::_) _ _);refine wpList_load rfl 72 (.tmp 5) rfl gf 0 rfl (fcV (.slice (some ⟨gq,0,none⟩) nf cf) (hs) (ls) (lr)) hfl ?_;simp only [Act.put,List.setIfInBounds_toArray,List.set_cons_succ,List.set_cons_zero])
       | ((with_reducible show wpList _ _ _ [⟨none,.store _ (.tmp 4) _,_,_,_,_⟩] _ _);refine wpList_store_blk rfl 72 (.tmp 4) (.tmp 113) rfl 38 sizeFd (W.heap.size+1) (fcV (.slice (some ⟨gq,0,none⟩) nf cf) (hs) (ls) (lr)) rfl rfl (fcV_size _ _ _ _ hrl) oneF 72 zf38 krF rfl ?_;simp only [Act.put]))
      exact ⟨bodyPost_ret (results_cell_row rfl _ _ (W.heap.size+1) 72 (fcV (.slice (some ⟨gq,0,none⟩) nf cf) (hs) (ls) (lr)) (0,0) _ rfl kF Tryz.underlying72 rfl (by rw [fcV_size _ _ _ _ hrl];kernel_rfl)) rfl ⟨_,rfl,HeF.out,HbF.out⟩⟩
     ·have h0:f0=[]:=List.eq_nil_of_length_eq_zero (by omega)
      subst h0
      have q1:[]=rE:=by rw [← HrE.out];rfl
      have q2:hs=rH:=by rw [← HrH.out];rfl
      have q3:ls=rS:=by rw [← HrS.out];rfl
      have q4:lr=rR:=by rw [← HrR.out];rfl
      subst q1
      subst q2
      subst q3
      subst q4
      have e0:wr.cell? ⟨gf,0,none⟩=some (.slice Af 0 cf):=e0
      have hfl:=fc_load (hI0).kf (hI0).rl
      have krF:=(hI0).kr
      have hrl:=(hI0).rl
      obtain ⟨kF,eF,bF⟩:=(hI0).fin HXl.out
      have HeF:=Lib.hid eF
      have HbF:=Lib.hid bF
      have oneF:=one_fcV (.slice Af 0 cf) (hI0).es.one (hs) (ls) (lr)
      clear hI0 eF bF hsf
      go_wp2_with (first
       | ((with_reducible show wpList _ _ _ (⟨some 113,.load _ _,_,_,_,_⟩::_) _ _);refine wpList_load rfl 72 (.tmp 5) rfl gf 0 rfl (fcV (.slice Af 0 cf) (hs) (ls) (lr)) hfl ?_;simp only [Act.put,List.setIfInBounds_toArray,List.set_cons_succ,List.set_cons_zero])
       | ((with_reducible show wpList _ _ _ [⟨none,.store _ (.tmp 4) _,_,_,_,_⟩] _ _);refine wpList_store_blk rfl 72 (.tmp 4) (.tmp 113) rfl 38 sizeFd (W.heap.size+1) (fcV (.slice Af 0 cf) (hs) (ls) (lr)) rfl rfl (fcV_size _ _ _ _ hrl) oneF 72 zf38 krF rfl ?_;simp only [Act.put]))
      exact ⟨bodyPost_ret (results_cell_row rfl _ _ (W.heap.size+1) 72 (fcV (.slice Af 0 cf) (hs) (ls) (lr)) (0,0) _ rfl kF Tryz.underlying72 rfl (by rw [fcV_size _ _ _ _ hrl];kernel_rfl)) rfl ⟨_,rfl,HeF.out,HbF.out⟩⟩
    have d6:(sb==6)=false:=by simpa using b6
    have q1:f0=rE:=by rw [← HrE.out];rw [if_neg b1,if_neg b5,if_neg b6]
    have q2:hs=rH:=by rw [← HrH.out];rw [if_neg b2,if_neg b3]
    have q3:ls=rS:=by rw [← HrS.out];rw [if_neg b2,if_neg b4]
    have q4:lr=rR:=by rw [← HrR.out];rw [if_neg b2]
    subst q1
    subst q2
    subst q3
    subst q4
    have hfl:=fc_load (hI0).kf (hI0).rl
    have krF:=(hI0).kr
    have hrl:=(hI0).rl
    obtain ⟨kF,eF,bF⟩:=(hI0).fin HXl.out
    have HeF:=Lib.hid eF
    have HbF:=Lib.hid bF
    have oneF:=one_fcV (v) (hI0).es.one (hs) (ls) (lr)
    clear hI0 eF bF
    go_wp2_with (first
     | ((with_reducible show wpList _ _ _ (⟨some 113,.load _ _,_,_,_,_⟩::_) _ _);refine wpList_load rfl 72 (.tmp 5) rfl gf 0 rfl (fcV (v) (hs) (ls) (lr)) hfl ?_;simp only [Act.put,List.setIfInBounds_toArray,List.set_cons_succ,List.set_cons_zero])
     | ((with_reducible show wpList _ _ _ [⟨none,.store _ (.tmp 4) _,_,_,_,_⟩] _ _);refine wpList_store_blk rfl 72 (.tmp 4) (.tmp 113) rfl 38 sizeFd (W.heap.size+1) (fcV (v) (hs) (ls) (lr)) rfl rfl (fcV_size _ _ _ _ hrl) oneF 72 zf38 krF rfl ?_;simp only [Act.put]))
    exact ⟨bodyPost_ret (results_cell_row rfl _ _ (W.heap.size+1) 72 (fcV (v) (hs) (ls) (lr)) (0,0) _ rfl kF Tryz.underlying72 rfl (by rw [fcV_size _ _ _ _ hrl];kernel_rfl)) rfl ⟨_,rfl,HeF.out,HbF.out⟩⟩
  ·have dk:decide ((k:Int)<(nb:Int))=false:=by simp;omega
   have hI0:FdI W X ⟨sk,so,sa,sb,sA,sl.length,sc,sl⟩ gf v f0 hs ls lr wr:=by rw [← Hfd.out k hk hka (.inl (by omega))];exact hI
   clear hI hk hka
   have e3:wr.cell? ⟨W.heap.size,3,none⟩=some (.int .i64 sb):=by rw [hI0.ks.cell];rfl
   have e4:wr.cell? ⟨W.heap.size,4,none⟩=some (.slice sA sl.length sc):=by rw [hI0.ks.cell];rfl
   have e0:=hI0.cv
   have g4:wr.cell? ⟨gf,4,none⟩=some (.bool hs):=by rw [hI0.kf.cell];rfl
   have g5:wr.cell? ⟨gf,5,none⟩=some (.int .i64 ls):=by rw [hI0.kf.cell];rfl
   have hgl:=hI0.gl
   have hlo:=Nat.succ_le_of_lt hI0.kf.lt
   by_cases b1:sb=1
   ·subst b1
    have q1:f0++[sl]=rE:=by rw [← HrE.out];rfl
    have q2:hs=rH:=by rw [← HrH.out];rfl
    have q3:ls=rS:=by rw [← HrS.out];rfl
    have q4:lr=rR:=by rw [← HrR.out];rfl
    subst q1
    subst q2
    subst q3
    subst q4
    obtain ⟨v2,w3,r2,e2,g2,-⟩:=hI0.es.app hlo (by have:=Hf0.out;omega) sl sA sc (Hsl.out.step hI0.bel) (fun b _ hx e=>by
     have:=HXl.out b hx
     have:=(hI0.es.lt b e.symm).1
     omega)
    have b2:Below (gf+1) wr w3:=grown_to_below g2 (fun b e=>(hI0.es.lt b e).1) hlo
    have hI2:=hI0.setv b2 e2 HXl.out
    have x2:w3.cell? ⟨gf,0,none⟩=some v:=by rw [(hI0.kf.below b2 (Nat.lt_succ_self _)).cell];rfl
    have y2:=(hI0.kf.below b2 (Nat.lt_succ_self _)).frozen 0
    have z2:=e2.one
    obtain ⟨w4,hw4⟩:∃ x,w3.setCell ⟨gf,0,none⟩ v2=x:=⟨_,rfl⟩
    rw [hw4] at hI2
    have Hw4:=Lib.hid hw4
    clear hw4
    have hfl:=fc_load (hI2).kf (hI2).rl
    have krF:=(hI2).kr
    have hrl:=(hI2).rl
    obtain ⟨kF,eF,bF⟩:=(hI2).fin HXl.out
    have HeF:=Lib.hid eF
    have HbF:=Lib.hid bF
    have oneF:=one_fcV (v2) (hI2).es.one (hs) (ls) (lr)
    clear hI2 hI0 e2 eF bF b2 g2
    go_wp2_with (first
     | ((with_reducible show wpList _ _ _ (⟨some 59,.buildSlice _ _ _,_,_,_,_⟩::_) _ _);refine wpList_run rfl (.slice (some ⟨wr.heap.size,0,none⟩) 1 1) (wr.alloc (.cells #[.slice sA sl.length sc] 41)) (by kernel_rfl) ?_;simp only [Act.put,List.setIfInBounds_toArray,List.set_cons_succ,List.set_cons_zero])
     | ((with_reducible show wpList _ _ _ (⟨some 60,.call _,_,_,_,_⟩::_) _ _);refine wpList_run rfl v2 w3 (run_append_op (.tmp 56) (.tmp 59) 48 rfl _ _ rfl rfl r2) ?_;simp only [Act.put,List.setIfInBounds_toArray,List.set_cons_succ,List.set_cons_zero])
     | ((with_reducible show wpList _ _ _ [⟨none,.store _ (.tmp 61) _,_,_,_,_⟩] _ _);refine wpList_put1i rfl 48 (.tmp 61) (.tmp 60) rfl sizeEs ⟨gf,0,none⟩ v2 rfl rfl z2 _ x2 y2 ?_;rw [Hw4.out];simp only [Act.put])
     | ((with_reducible show wpList _ _ _ (⟨some 113,.load _ _,_,_,_,_⟩::_) _ _);refine wpList_load rfl 72 (.tmp 5) rfl gf 0 rfl (fcV (v2) (hs) (ls) (lr)) hfl ?_;simp only [Act.put,List.setIfInBounds_toArray,List.set_cons_succ,List.set_cons_zero])
     | ((with_reducible show wpList _ _ _ [⟨none,.store _ (.tmp 4) _,_,_,_,_⟩] _ _);refine wpList_store_blk rfl 72 (.tmp 4) (.tmp 113) rfl 38 sizeFd (W.heap.size+1) (fcV (v2) (hs) (ls) (lr)) rfl rfl (fcV_size _ _ _ _ hrl) oneF 72 zf38 krF rfl ?_;simp only [Act.put]))
    exact ⟨bodyPost_ret (results_cell_row rfl _ _ (W.heap.size+1) 72 (fcV (v2) (hs) (ls) (lr)) (0,0) _ rfl kF Tryz.underlying72 rfl (by rw [fcV_size _ _ _ _ hrl];kernel_rfl)) rfl ⟨_,rfl,HeF.out,HbF.out⟩⟩
   have d1:(sb==1)=false:=by simpa using b1
   by_cases b2:sb=2
   ·subst b2
    have q1:f0=rE:=by rw [← HrE.out];rfl
    have q2:po=rH:=by rw [← HrH.out];rfl
    have q3:ps=rS:=by rw [← HrS.out];rfl
    have q4:pr=rR:=by rw [← HrR.out];rfl
    subst q1
    subst q2
    subst q3
    subst q4
    have hT:Below wr.heap.size wr wr.drew:=(Below.refl _ _).drew
    have hId:=hI0.step hT
    have hS:Below W.heap.size W wr.drew:=hId.bel
    have E39:∀ s:InC (fun W'=>Below W.heap.size W W'),s.W.cell? ⟨gx,39,none⟩=some (.bool po):=fun s=>C39.out _ s.ok
    have E40:∀ s:InC (fun W'=>Below W.heap.size W W'),(Instr.loadAt 55 (.pointer (some ⟨gx,40,none⟩))).run Tryz.prog s.W = .ok (.agg (.int .i64 ps::pr.map B).toArray) s.W:=fun s=>L40.out _ s.ok
    have x4:wr.drew.cell? ⟨gf,4,none⟩=some (.bool hs):=by rw [hId.kf.cell];rfl
    have y4:=hId.kf.frozen 4
    have hI2:=hId.setH po HXl.out
    obtain ⟨w3,hw3⟩:∃ x,wr.drew.setCell ⟨gf,4,none⟩ (.bool po)=x:=⟨_,rfl⟩
    rw [hw3] at hI2
    have hI3:=hI2.setP ps pr hpl HXl.out
    obtain ⟨w4,hw4⟩:∃ x,w3.setRow gf ((fcV v po ls lr).toList.take 5++(.int .i64 ps::pr.map B).toArray.toList++(fcV v po ls lr).toList.drop (5+33)).toArray=x:=⟨_,rfl⟩
    rw [hw4] at hI3
    have k3:=hI2.kf
    have hz3:(fcV v po ls lr).size=38:=fcV_size _ _ _ _ hI2.rl
    have hB3:Below W.heap.size W w3:=hI2.bel
    have Hw3:=Lib.hid hw3
    have Hw4:=Lib.hid hw4
    clear hw3 hw4
    have hfl:=fc_load (hI3).kf (hI3).rl
    have krF:=(hI3).kr
    have hrl:=(hI3).rl
    obtain ⟨kF,eF,bF⟩:=(hI3).fin HXl.out
    have HeF:=Lib.hid eF
    have HbF:=Lib.hid bF
    have oneF:=one_fcV (v) (hI3).es.one (po) (ps) (pr)
    clear hI3 hI2 hId hI0 eF bF
    go_wp2_with fail
    refine wp_region_mix_last (fun W'=>Below W.heap.size W W') 11 [(0,true),(1,true),(2,true),(3,true),(4,true),(5,true),(6,true),(7,true),(8,true),(9,false),(10,true)] (by kernel_rfl) (by kernel_rfl) hS fun _=>?_
    simp only [List.map_cons,List.map_nil,Array.getD_eq_getD_getElem?,List.getElem?_toArray,List.getElem?_cons_succ,List.getElem?_cons_zero,Option.getD_some]
    iterate 7 (refine wpMix_s (fun K hK=>?_);go_simp;refine hK _ ?_;clear hK K)
    refine wpMix_load (by kernel_rfl) 55 (.tmp 70) rfl (gx) (40) rfl (.int .i64 ps::pr.map B).toArray (E40) ?_
    simp only [Act.put,List.setIfInBounds_toArray,List.set_cons_succ,List.set_cons_zero]
    (refine wpMix_s (fun K hK=>?_);go_simp;refine hK _ ?_;clear hK K)
    refine wpMix_put1 (by kernel_rfl) 4 (.tmp 72) (.tmp 67) rfl sizeBl ⟨gf,4,none⟩ (.bool po) rfl rfl rfl _ x4 y4 (by rw [Hw3.out];exact hB3) ?_
    simp only [Act.put]
    rw [Hw3.out]
    (refine wpMix_s (fun K hK=>?_);go_simp;refine hK _ ?_;clear hK K)
    refine wpMix_nil ?_
    intro _
    simp only [List.drop_succ_cons,List.drop_zero]
    refine wpList_store_agg rfl 55 (.tmp 73) (.tmp 71) rfl 33 ptSize gf 5 (.int .i64 ps::pr.map B).toArray rfl rfl (by simp [hpl]) (oneCell_pt _ _) 72 (fcV v po ls lr) k3 (by rw [hz3];decide) ?_
    rw [Hw4.out]
    simp only [Act.put]
    refine wpList_nil ?_
    refine np_normal ?_
    go_wp2_with (first
     | ((with_reducible show wpList _ _ _ (⟨some 113,.load _ _,_,_,_,_⟩::_) _ _);refine wpList_load rfl 72 (.tmp 5) rfl gf 0 rfl (fcV (v) (po) (ps) (pr)) hfl ?_;simp only [Act.put,List.setIfInBounds_toArray,List.set_cons_succ,List.set_cons_zero])
     | ((with_reducible show wpList _ _ _ [⟨none,.store _ (.tmp 4) _,_,_,_,_⟩] _ _);refine wpList_store_blk rfl 72 (.tmp 4) (.tmp 113) rfl 38 sizeFd (W.heap.size+1) (fcV (v) (po) (ps) (pr)) rfl rfl (fcV_size _ _ _ _ hrl) oneF 72 zf38 krF rfl ?_;simp only [Act.put]))
    exact ⟨bodyPost_ret (results_cell_row rfl _ _ (W.heap.size+1) 72 (fcV (v) (po) (ps) (pr)) (0,0) _ rfl kF Tryz.underlying72 rfl (by rw [fcV_size _ _ _ _ hrl];kernel_rfl)) rfl ⟨_,rfl,HeF.out,HbF.out⟩⟩
   have d2:(sb==2)=false:=by simpa using b2
   by_cases b3:sb=3
   ·subst b3
    have q1:f0=rE:=by rw [← HrE.out];rfl
    have q2:(!hs)=rH:=by rw [← HrH.out];rfl
    have q3:ls=rS:=by rw [← HrS.out];rfl
    have q4:lr=rR:=by rw [← HrR.out];rfl
    subst q1
    subst q2
    subst q3
    subst q4
    have y4:=hI0.kf.frozen 4
    have hI2:=hI0.setH (!hs) HXl.out
    obtain ⟨w4,hw4⟩:∃ x,wr.setCell ⟨gf,4,none⟩ (.bool !hs)=x:=⟨_,rfl⟩
    rw [hw4] at hI2
    have Hw4:=Lib.hid hw4
    clear hw4
    have hfl:=fc_load (hI2).kf (hI2).rl
    have krF:=(hI2).kr
    have hrl:=(hI2).rl
    obtain ⟨kF,eF,bF⟩:=(hI2).fin HXl.out
    have HeF:=Lib.hid eF
    have HbF:=Lib.hid bF
    have oneF:=one_fcV (v) (hI2).es.one (!hs) (ls) (lr)
    clear hI2 hI0 eF bF
    go_wp2_with (first
     | ((with_reducible show wpList _ _ _ [⟨none,.store _ (.tmp 79) _,_,_,_,_⟩] _ _);refine wpList_put1i rfl 4 (.tmp 79) (.tmp 78) rfl sizeBl ⟨gf,4,none⟩ (.bool !hs) rfl rfl rfl _ g4 y4 ?_;rw [Hw4.out];simp only [Act.put])
     | ((with_reducible show wpList _ _ _ (⟨some 113,.load _ _,_,_,_,_⟩::_) _ _);refine wpList_load rfl 72 (.tmp 5) rfl gf 0 rfl (fcV (v) (!hs) (ls) (lr)) hfl ?_;simp only [Act.put,List.setIfInBounds_toArray,List.set_cons_succ,List.set_cons_zero])
     | ((with_reducible show wpList _ _ _ [⟨none,.store _ (.tmp 4) _,_,_,_,_⟩] _ _);refine wpList_store_blk rfl 72 (.tmp 4) (.tmp 113) rfl 38 sizeFd (W.heap.size+1) (fcV (v) (!hs) (ls) (lr)) rfl rfl (fcV_size _ _ _ _ hrl) oneF 72 zf38 krF rfl ?_;simp only [Act.put]))
    exact ⟨bodyPost_ret (results_cell_row rfl _ _ (W.heap.size+1) 72 (fcV (v) (!hs) (ls) (lr)) (0,0) _ rfl kF Tryz.underlying72 rfl (by rw [fcV_size _ _ _ _ hrl];kernel_rfl)) rfl ⟨_,rfl,HeF.out,HbF.out⟩⟩
   have d3:(sb==3)=false:=by simpa using b3
   by_cases b4:sb=4
   ·subst b4
    obtain ⟨ls',hls'⟩:∃ x,IntKind.i64.wrap (ls+1)=x:=⟨_,rfl⟩
    have q1:f0=rE:=by rw [← HrE.out];rfl
    have q2:hs=rH:=by rw [← HrH.out];rfl
    have q3:ls'=rS:=by rw [← HrS.out];exact hls'.symm
    have q4:lr=rR:=by rw [← HrR.out];rfl
    subst q1
    subst q2
    subst q3
    subst q4
    have y5:=hI0.kf.frozen 5
    have hI2:=hI0.setS ls' HXl.out
    obtain ⟨w4,hw4⟩:∃ x,wr.setCell ⟨gf,5,none⟩ (.int .i64 ls')=x:=⟨_,rfl⟩
    rw [hw4] at hI2
    have Hw4:=Lib.hid hw4
    clear hw4
    have hfl:=fc_load (hI2).kf (hI2).rl
    have krF:=(hI2).kr
    have hrl:=(hI2).rl
    obtain ⟨kF,eF,bF⟩:=(hI2).fin HXl.out
    have HeF:=Lib.hid eF
    have HbF:=Lib.hid bF
    have oneF:=one_fcV (v) (hI2).es.one (hs) (ls') (lr)
    clear hI2 hI0 eF bF
    go_wp2_with (first
     | ((with_reducible show wpList _ _ _ [⟨none,.store _ (.tmp 87) _,_,_,_,_⟩] _ _);refine wpList_put1i rfl 2 (.tmp 87) (.tmp 85) rfl sizeI7 ⟨gf,5,none⟩ (.int .i64 ls') rfl rfl rfl _ g5 y5 ?_;rw [Hw4.out];simp only [Act.put])
     | ((with_reducible show wpList _ _ _ (⟨some 113,.load _ _,_,_,_,_⟩::_) _ _);refine wpList_load rfl 72 (.tmp 5) rfl gf 0 rfl (fcV (v) (hs) (ls') (lr)) hfl ?_;simp only [Act.put,List.setIfInBounds_toArray,List.set_cons_succ,List.set_cons_zero])
     | ((with_reducible show wpList _ _ _ [⟨none,.store _ (.tmp 4) _,_,_,_,_⟩] _ _);refine wpList_store_blk rfl 72 (.tmp 4) (.tmp 113) rfl 38 sizeFd (W.heap.size+1) (fcV (v) (hs) (ls') (lr)) rfl rfl (fcV_size _ _ _ _ hrl) oneF 72 zf38 krF rfl ?_;simp only [Act.put]))
    exact ⟨bodyPost_ret (results_cell_row rfl _ _ (W.heap.size+1) 72 (fcV (v) (hs) (ls') (lr)) (0,0) _ rfl kF Tryz.underlying72 rfl (by rw [fcV_size _ _ _ _ hrl];kernel_rfl)) rfl ⟨_,rfl,HeF.out,HbF.out⟩⟩
   have d4:(sb==4)=false:=by simpa using b4
   by_cases b5:sb=5
   ·subst b5
    obtain ⟨n1,hn1⟩:∃ x,f0.length - 1=x:=⟨_,rfl⟩
    have q1:f0.take n1=rE:=by rw [← HrE.out];rw [← hn1];rfl
    have q2:hs=rH:=by rw [← HrH.out];rfl
    have q3:ls=rS:=by rw [← HrS.out];rfl
    have q4:lr=rR:=by rw [← HrR.out];rfl
    subst q1
    subst q2
    subst q3
    subst q4
    obtain ⟨Af,cf,hvf,hsf⟩:=hI0.es.i
    have hrf:=hsf.es.room
    have hmf:=hsf.es.max
    unfold maxLen at hmf
    subst hvf
    by_cases hp:0<f0.length
    ·have hd:decide ((0:Int)<(f0.length:Int))=true:=by simp;omega
     obtain ⟨gq,oq,rfl,-,-⟩:=hsf.at7 hp
     have hoq:oq=0:=by
      obtain ⟨vs,ho,-⟩:=hI0.es.ex
      obtain ⟨g',c',e',-⟩:=owns_some7 ho hp
      injection e' with e' _ _
      injection e' with e'
      injection e'
     subst hoq
     have hwn:IntKind.i64.wrap ((f0.length:Int) - 1)=(n1:Int):=by rw [IntWalk.i64_in _ (by omega)];omega
     have e5:=hI0.es.less n1 (by omega)
     have y0:=hI0.kf.frozen 0
     have hI2:=hI0.setv (Below.refl _ _) e5 HXl.out
     have z2:=e5.one
     obtain ⟨w4,hw4⟩:∃ x,wr.setCell ⟨gf,0,none⟩ (.slice (some ⟨gq,0,none⟩) n1 cf)=x:=⟨_,rfl⟩
     rw [hw4] at hI2
     have Hw4:=Lib.hid hw4
     have hnc:n1≤cf:=by omega
     obtain ⟨nf,hnf⟩:∃ x,f0.length=x:=⟨_,rfl⟩
     rw [hnf] at e0 hd hwn hrf
     clear hw4
     have hfl:=fc_load (hI2).kf (hI2).rl
     have krF:=(hI2).kr
     have hrl:=(hI2).rl
     obtain ⟨kF,eF,bF⟩:=(hI2).fin HXl.out
     have HeF:=Lib.hid eF
     have HbF:=Lib.hid bF
     have oneF:=one_fcV (.slice (some ⟨gq,0,none⟩) n1 cf) (hI2).es.one (hs) (ls) (lr)
     clear hI2 hI0 eF bF hsf e5
     go_wp2_with (first
      | ((with_reducible show wpList _ _ _ (⟨some 100,.slice _ _ _ _ _,_,_,_,_⟩::_) _ _);refine wpList_run rfl (.slice (some ⟨gq,0,none⟩) n1 cf) wr (run_slice_hiB (.tmp 95) (.tmp 99) rfl (some ⟨gq,0,none⟩) nf cf n1 rfl rfl hnc wr) ?_;simp only [Act.put,List.setIfInBounds_toArray,List.set_cons_succ,List.set_cons_zero])
      | ((with_reducible show wpList _ _ _ [⟨none,.store _ (.tmp 101) _,_,_,_,_⟩] _ _);refine wpList_put1i rfl 48 (.tmp 101) (.tmp 100) rfl sizeEs ⟨gf,0,none⟩ (.slice (some ⟨gq,0,none⟩) n1 cf) rfl rfl rfl _ e0 y0 ?_;rw [Hw4.out];simp only [Act.put])
      | ((with_reducible show wpList _ _ _ (⟨some 113,.load _ _,_,_,_,_⟩::_) _ _);refine wpList_load rfl 72 (.tmp 5) rfl gf 0 rfl (fcV (.slice (some ⟨gq,0,none⟩) n1 cf) (hs) (ls) (lr)) hfl ?_;simp only [Act.put,List.setIfInBounds_toArray,List.set_cons_succ,List.set_cons_zero])
      | ((with_reducible show wpList _ _ _ [⟨none,.store _ (.tmp 4) _,_,_,_,_⟩] _ _);refine wpList_store_blk rfl 72 (.tmp 4) (.tmp 113) rfl 38 sizeFd (W.heap.size+1) (fcV (.slice (some ⟨gq,0,none⟩) n1 cf) (hs) (ls) (lr)) rfl rfl (fcV_size _ _ _ _ hrl) oneF 72 zf38 krF rfl ?_;simp only [Act.put]))
     exact ⟨bodyPost_ret (results_cell_row rfl _ _ (W.heap.size+1) 72 (fcV (.slice (some ⟨gq,0,none⟩) n1 cf) (hs) (ls) (lr)) (0,0) _ rfl kF Tryz.underlying72 rfl (by rw [fcV_size _ _ _ _ hrl];kernel_rfl)) rfl ⟨_,rfl,HeF.out,HbF.out⟩⟩
    ·have h0:f0=[]:=List.eq_nil_of_length_eq_zero (by omega)
     subst h0
     have e0:wr.cell? ⟨gf,0,none⟩=some (.slice Af 0 cf):=e0
     have hfl:=fc_load (hI0).kf (hI0).rl
     have krF:=(hI0).kr
     have hrl:=(hI0).rl
     obtain ⟨kF,eF,bF⟩:=(hI0).fin HXl.out
     have HeF:=Lib.hid eF
     have HbF:=Lib.hid bF
     have oneF:=one_fcV (.slice Af 0 cf) (hI0).es.one (hs) (ls) (lr)
     clear hI0 eF bF hsf
     go_wp2_with (first
      | ((with_reducible show wpList _ _ _ (⟨some 113,.load _ _,_,_,_,_⟩::_) _ _);refine wpList_load rfl 72 (.tmp 5) rfl gf 0 rfl (fcV (.slice Af 0 cf) (hs) (ls) (lr)) hfl ?_;simp only [Act.put,List.setIfInBounds_toArray,List.set_cons_succ,List.set_cons_zero])
      | ((with_reducible show wpList _ _ _ [⟨none,.store _ (.tmp 4) _,_,_,_,_⟩] _ _);refine wpList_store_blk rfl 72 (.tmp 4) (.tmp 113) rfl 38 sizeFd (W.heap.size+1) (fcV (.slice Af 0 cf) (hs) (ls) (lr)) rfl rfl (fcV_size _ _ _ _ hrl) oneF 72 zf38 krF rfl ?_;simp only [Act.put]))
     exact ⟨bodyPost_ret (results_cell_row rfl _ _ (W.heap.size+1) 72 (fcV (.slice Af 0 cf) (hs) (ls) (lr)) (0,0) _ rfl kF Tryz.underlying72 rfl (by rw [fcV_size _ _ _ _ hrl];kernel_rfl)) rfl ⟨_,rfl,HeF.out,HbF.out⟩⟩
   have d5:(sb==5)=false:=by simpa using b5
   by_cases b6:sb=6
   ·subst b6
    obtain ⟨Af,cf,hvf,hsf⟩:=hI0.es.i
    have hrf:=hsf.es.room
    have hmf:=hsf.es.max
    unfold maxLen at hmf
    subst hvf
    by_cases hp:0<f0.length
    ·have q1:f0.set 0 sl=rE:=by rw [← HrE.out];exact (if_neg (fun e=>by rw [e] at hp;exact absurd hp (by decide))).symm
     have q2:hs=rH:=by rw [← HrH.out];rfl
     have q3:ls=rS:=by rw [← HrS.out];rfl
     have q4:lr=rR:=by rw [← HrR.out];rfl
     subst q1
     subst q2
     subst q3
     subst q4
     have hd:decide ((0:Int)<(f0.length:Int))=true:=by simp;omega
     have hd2:decide (0<f0.length)=true:=by simp;omega
     obtain ⟨gq,oq,rfl,-,-⟩:=hsf.at7 hp
     have hoq:oq=0:=by
      obtain ⟨vs,ho,-⟩:=hI0.es.ex
      obtain ⟨g',c',e',-⟩:=owns_some7 ho hp
      injection e' with e' _ _
      injection e' with e'
      injection e'
     subst hoq
     obtain ⟨⟨u0,hu0⟩,hfz,hgq,e6⟩:=hI0.es.set0 hp (Hsl.out.step hI0.bel) (fun b hx=>by have:=HXl.out b hx;omega)
     have hk6:Below (gf+1) wr (wr.setCell ⟨gq,0,none⟩ (.slice sA sl.length sc)):=(Below.refl _ _).setCell (p:=⟨gq,0,none⟩) hgq _
     have e6':EsO (wr.setCell ⟨gq,0,none⟩ (.slice sA sl.length sc)) (gf+1) (.slice (some ⟨gq,0,none⟩) f0.length cf) (f0.set 0 sl) X:=e6
     have hI2:FdI W X ⟨sk,so,sa,6,sA,sl.length,sc,sl⟩ gf (.slice (some ⟨gq,0,none⟩) f0.length cf) (f0.set 0 sl) hs ls lr (wr.setCell ⟨gq,0,none⟩ (.slice sA sl.length sc)) :=
      ⟨hI0.bel.trans (hk6.mono (by omega)),hI0.ks.below hk6 (by omega),hI0.kr.below hk6 (by omega),hI0.kf.below hk6 (by omega),e6',hI0.gl,hI0.rl⟩
     obtain ⟨w4,hw4⟩:∃ x,wr.setCell ⟨gq,0,none⟩ (.slice sA sl.length sc)=x:=⟨_,rfl⟩
     rw [hw4] at hI2
     have Hw4:=Lib.hid hw4
     obtain ⟨nf,hnf⟩:∃ x,f0.length=x:=⟨_,rfl⟩
     rw [hnf] at e0 hd hd2 hrf hI2
     clear hw4
     have hfl:=fc_load (hI2).kf (hI2).rl
     have krF:=(hI2).kr
     have hrl:=(hI2).rl
     obtain ⟨kF,eF,bF⟩:=(hI2).fin HXl.out
     have HeF:=Lib.hid eF
     have HbF:=Lib.hid bF
     have oneF:=one_fcV (.slice (some ⟨gq,0,none⟩) nf cf) (hI2).es.one (hs) (ls) (lr)
     clear hI2 hI0 eF bF hsf e6 e6' hk6 hgq
     go_wp2_with (first
      | ((with_reducible show wpList _ _ _ [⟨none,.store _ (.tmp 112) _,_,_,_,_⟩] _ _);refine wpList_put1i rfl 41 (.tmp 112) (.tmp 111) rfl sizeB7 ⟨gq,0,none⟩ (.slice sA sl.length sc) rfl rfl rfl _ hu0 hfz ?_;rw [Hw4.out];simp only [Act.put])
      | ((with_reducible show wpList _ _ _ (⟨some 113,.load _ _,_,_,_,_⟩::_) _ _);refine wpList_load rfl 72 (.tmp 5) rfl gf 0 rfl (fcV (.slice (some ⟨gq,0,none⟩) nf cf) (hs) (ls) (lr)) hfl ?_;simp only [Act.put,List.setIfInBounds_toArray,List.set_cons_succ,List.set_cons_zero])
      | ((with_reducible show wpList _ _ _ [⟨none,.store _ (.tmp 4) _,_,_,_,_⟩] _ _);refine wpList_store_blk rfl 72 (.tmp 4) (.tmp 113) rfl 38 sizeFd (W.heap.size+1) (fcV (.slice (some ⟨gq,0,none⟩) nf cf) (hs) (ls) (lr)) rfl rfl (fcV_size _ _ _ _ hrl) oneF 72 zf38 krF rfl ?_;simp only [Act.put]))
     exact ⟨bodyPost_ret (results_cell_row rfl _ _ (W.heap.size+1) 72 (fcV (.slice (some ⟨gq,0,none⟩) nf cf) (hs) (ls) (lr)) (0,0) _ rfl kF Tryz.underlying72 rfl (by rw [fcV_size _ _ _ _ hrl];kernel_rfl)) rfl ⟨_,rfl,HeF.out,HbF.out⟩⟩
    ·have h0:f0=[]:=List.eq_nil_of_length_eq_zero (by omega)
     subst h0
     have q1:[]=rE:=by rw [← HrE.out];rfl
     have q2:hs=rH:=by rw [← HrH.out];rfl
     have q3:ls=rS:=by rw [← HrS.out];rfl
     have q4:lr=rR:=by rw [← HrR.out];rfl
     subst q1
     subst q2
     subst q3
     subst q4
     have e0:wr.cell? ⟨gf,0,none⟩=some (.slice Af 0 cf):=e0
     have hfl:=fc_load (hI0).kf (hI0).rl
     have krF:=(hI0).kr
     have hrl:=(hI0).rl
     obtain ⟨kF,eF,bF⟩:=(hI0).fin HXl.out
     have HeF:=Lib.hid eF
     have HbF:=Lib.hid bF
     have oneF:=one_fcV (.slice Af 0 cf) (hI0).es.one (hs) (ls) (lr)
     clear hI0 eF bF hsf
     go_wp2_with (first
      | ((with_reducible show wpList _ _ _ (⟨some 113,.load _ _,_,_,_,_⟩::_) _ _);refine wpList_load rfl 72 (.tmp 5) rfl gf 0 rfl (fcV (.slice Af 0 cf) (hs) (ls) (lr)) hfl ?_;simp only [Act.put,List.setIfInBounds_toArray,List.set_cons_succ,List.set_cons_zero])
      | ((with_reducible show wpList _ _ _ [⟨none,.store _ (.tmp 4) _,_,_,_,_⟩] _ _);refine wpList_store_blk rfl 72 (.tmp 4) (.tmp 113) rfl 38 sizeFd (W.heap.size+1) (fcV (.slice Af 0 cf) (hs) (ls) (lr)) rfl rfl (fcV_size _ _ _ _ hrl) oneF 72 zf38 krF rfl ?_;simp only [Act.put]))
     exact ⟨bodyPost_ret (results_cell_row rfl _ _ (W.heap.size+1) 72 (fcV (.slice Af 0 cf) (hs) (ls) (lr)) (0,0) _ rfl kF Tryz.underlying72 rfl (by rw [fcV_size _ _ _ _ hrl];kernel_rfl)) rfl ⟨_,rfl,HeF.out,HbF.out⟩⟩
   have d6:(sb==6)=false:=by simpa using b6
   have q1:f0=rE:=by rw [← HrE.out];rw [if_neg b1,if_neg b5,if_neg b6]
   have q2:hs=rH:=by rw [← HrH.out];rw [if_neg b2,if_neg b3]
   have q3:ls=rS:=by rw [← HrS.out];rw [if_neg b2,if_neg b4]
   have q4:lr=rR:=by rw [← HrR.out];rw [if_neg b2]
   subst q1
   subst q2
   subst q3
   subst q4
   have hfl:=fc_load (hI0).kf (hI0).rl
   have krF:=(hI0).kr
   have hrl:=(hI0).rl
   obtain ⟨kF,eF,bF⟩:=(hI0).fin HXl.out
   have HeF:=Lib.hid eF
   have HbF:=Lib.hid bF
   have oneF:=one_fcV (v) (hI0).es.one (hs) (ls) (lr)
   clear hI0 eF bF
   go_wp2_with (first
    | ((with_reducible show wpList _ _ _ (⟨some 113,.load _ _,_,_,_,_⟩::_) _ _);refine wpList_load rfl 72 (.tmp 5) rfl gf 0 rfl (fcV (v) (hs) (ls) (lr)) hfl ?_;simp only [Act.put,List.setIfInBounds_toArray,List.set_cons_succ,List.set_cons_zero])
    | ((with_reducible show wpList _ _ _ [⟨none,.store _ (.tmp 4) _,_,_,_,_⟩] _ _);refine wpList_store_blk rfl 72 (.tmp 4) (.tmp 113) rfl 38 sizeFd (W.heap.size+1) (fcV (v) (hs) (ls) (lr)) rfl rfl (fcV_size _ _ _ _ hrl) oneF 72 zf38 krF rfl ?_;simp only [Act.put]))
   exact ⟨bodyPost_ret (results_cell_row rfl _ _ (W.heap.size+1) 72 (fcV (v) (hs) (ls) (lr)) (0,0) _ rfl kF Tryz.underlying72 rfl (by rw [fcV_size _ _ _ _ hrl];kernel_rfl)) rfl ⟨_,rfl,HeF.out,HbF.out⟩⟩
end Go.Proofs.YtdjhoankkddomaaGreat
