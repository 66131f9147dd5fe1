import Derived.Test.YtdjhoankkddomaaGreatQg219
import Derived.Test.YtdjhoankkddomaaGreatQg218
import Derived.Test.YtdjhoankkddomaaGreatQg211
import Derived.Test.YtdjhoankkddomaaGreatQg204
import Derived.Test.YtdjhoankkddomaaGreatQg205
import Derived.Test.YtdjhoankkddomaaGreatQg215
import Derived.Laws.Tables
namespace Go.Proofs.YtdjhoankkddomaaGreat
open Go Go.RowKit
attribute [local go_sem] Oper.semAt_some
theorem Md.appQ {W:World} {Z:Nat→Prop} {lo g:Nat} {R:MdR} {m:MoV} (h:Md Z lo g R m W) (ho:m.only=false) (hn:m.queue.length≤1000000) (l:List UInt8) (hlb:l.length≤1099511627776) (A':Option Addr) (c':Nat) (hl:Sl W (fun b=>¬ MdN Z g R b) A' l.length c' l) :
  ∃ v' W',(Builtin.append_ #[48,48] 48 #[R.q,.slice (some ⟨W.heap.size,0,none⟩) 1 1]).run Tryz.prog (W.alloc (.cells #[.slice A' l.length c'] 41)) = .ok v' W'∧v'.oneCell'=true ∧
   W'.cell? ⟨g,5,none⟩=some R.q∧W'.frozen? ⟨g,5,none⟩=false∧Blk W' g 57 (mdArr R m)∧Md Z lo g { R with q:=v' } { m with queue:=m.queue++[l] } (W'.setCell ⟨g,5,none⟩ v')∧KB (MdW g R) W (W'.setCell ⟨g,5,none⟩ v')∧∀ b,MdW g { R with q:=v' } b→MdW g R b∨W.heap.size≤b:=by
 have hlo:lo≤W.heap.size:=h.size
 obtain ⟨v',W',hr,hE,hg,hv⟩:=(h.queue.weak (Y:=fun b=>¬ MdN Z g R b∧b<W.heap.size) fun b hb hx=>⟨hx,hb⟩).app hlo (by omega) l A' c' (hl.weak fun b hb hx=>⟨hx,hb⟩) (fun b _ hx e=>hx.1 (.inl (.inr (.inr (.inr e.symm)))))
 have hge:R.q.ownBlock≠some g:=own_ty h.queue.ex.choose_spec.1 h.blk (by decide)
 have k1:Blk W' g 57 (mdArr R m):=h.blk.grown hg (fun e=>hge e.symm)
 have hgs:KB (fun b=>b=g) W' (W'.setCell ⟨g,5,none⟩ v'):=KB.of_grown (grown_setCell (World.grownBy.refl _ (some g)) 5 v') fun r e=>(Option.some.inj e).symm
 have hk1:KB (fun b=>R.q.ownBlock=some b∨b=g) W (W'.setCell ⟨g,5,none⟩ v'):=(KB.of_grown hg fun r e => .inl e).trans (hgs.mono fun b hb => .inr hb)
 have hMd:∀ b,MdW g { R with q:=v' } b→MdW g R b∨W.heap.size≤b:=fun b hm=>by
  rcases hm with hm|hm|hm|hm
  ·exact .inl (.inl hm)
  ·exact .inl (.inr (.inl hm))
  ·exact .inl (.inr (.inr (.inl hm)))
  ·rcases hv with hv|⟨i,hv,hi⟩
   ·exact .inl (.inr (.inr (.inr (by rw [← hv];exact hm))))
   ·have hm:v'.ownBlock=some b:=hm
    rw [hv] at hm
    cases hm
    exact .inr hi
 have hX:∀ b,¬ MdN Z g R b∧b<W.heap.size→¬ MdN Z g { R with q:=v' } b:=fun b hx hm=>by
  rcases hm with hm|hm
  ·rcases hMd b hm with h1|h1
   ·exact hx.1 (.inl h1)
   ·omega
  ·exact hx.1 (.inr hm)
 have hvo:=hE.ex.choose_spec.1
 obtain ⟨Ar,cr,hre,hrs⟩:=h.roots
 obtain ⟨hb0,hb1⟩:=h.fresh ho
 refine ⟨v',W',hr,hE.one,by rw [k1.cell,md_at _ _ 5 (by decide)];rfl,k1.frozen 5,k1,⟨?_,h.lastL,h.ptL,?_,?_,⟨Ar,cr,hre,?_⟩,?_,?_,?_,fun _=>⟨hb0,hb1⟩,h.low,h.big,?_,fun b hz=>Nat.lt_of_lt_of_le (h.zlt b hz) hk1.size,fun b hm hz=>(hMd b hm).elim (fun h'=>h.zno b h' hz) (fun h'=>absurd (h.zlt b hz) (by omega))⟩,?_,hMd⟩
 ·rw [← md_set (R:=R) (R':={ R with q:=v' }) (m:=m) (m':={ m with queue:=m.queue++[l] }) 5 (by decide) v' rfl fun i hi hne=>by simp [mcell,hne]]
  exact k1.set_ 5 v'
 ·refine ((h.ents.weak (Y:=fun b=>¬ MdN Z g R b∧b<W.heap.size) fun b hb hx=>⟨hx,hb⟩).kb hk1 (fun b hb hm=>?_) (fun b _ hx hm=>?_)).weak fun b _ hx=>hX b hx
  ·rcases hm with hm|rfl
   ·exact h.eq b hb hm
   ·exact own_ty h.ents.ex.choose_spec.1 h.blk (by decide) hb
  ·rcases hm with hm|rfl
   ·exact hx.1 (.inl (.inr (.inr (.inr hm))))
   ·exact hx.1 (.inl (.inl rfl))
 ·refine hk1.own h.hashes fun b hb hm=>?_
  rcases hm with hm|rfl
  ·exact own_ty2 h.queue.ex.choose_spec.1 h.hashes (by decide) b hb hm
  ·exact own_ty h.hashes h.blk (by decide) hb
 ·refine ((hrs.weak (Y:=fun b=>¬ MdN Z g R b∧b<W.heap.size) fun b hb hx=>⟨hx,hb⟩).kb hk1 (fun b _ hx hm=>?_)).weak fun b _ hx=>hX b hx
  rcases hm with hm|rfl
  ·exact hx.1 (.inl (.inr (.inr (.inr hm))))
  ·exact hx.1 (.inl (.inl rfl))
 ·refine (hE.kb hgs (fun b hb e=>?_) (fun b _ hx e=>hx.1 (.inl (.inl e)))).weak fun b _ hx=>hX b hx
  subst e
  exact own_ty hvo k1 (by decide) hb
 ·refine ⟨none,0,?_,?_⟩
  ·show R.b = .slice none m.begun.length 0
   rw [hb0];exact hb1
  ·show Es2 _ _ _ none m.begun.length 0 m.begun
   rw [hb0]
   exact ⟨⟨[],SlV.empty,fun i hi=>absurd hi (by simp)⟩,rfl⟩
 ·intro b hb e
  rcases hv with hv|⟨i,hv,hi⟩
  ·exact h.eq b hb (by rw [← hv];exact e)
  ·have e:v'.ownBlock=some b:=e
   rw [hv] at e
   cases e
   have:=(h.ents.lt _ hb).2
   omega
 ·intro x hx
  rcases List.mem_append.1 hx with hx|hx
  ·exact h.bigq x hx
  ·rw [List.mem_singleton.1 hx];exact hlb
 ·refine hk1.mono fun b hm=>?_
  rcases hm with hm|rfl
  ·exact .inr (.inr (.inr hm))
  ·exact .inl rfl
structure MdS (Z:Nat→Prop) (lo g:Nat) (R:MdR) (m':MoV) (W W':World):Prop where
 ex:∃ R',Md Z lo g R' m' W'∧∀ b,MdW g R' b→MdW g R b∨W.heap.size≤b
 kb:KB (MdW g R) W W'
set_option maxHeartbeats 8000000 in
set_option maxRecDepth 100000 in
theorem msubmit_any (Z:Nat→Prop) (lo g:Nat) (R:MdR) (m:MoV) (W:World) (h:Md Z lo g R m W) (A:Option Addr) (n c:Nat) (l:List UInt8) (hl:Sl W (fun _=>True) A n c l) (hn:n≤1099511627776) (hq:m.queue.length≤1000000) :
  Calls Tryz.prog 13 #[.pointer (some ⟨g,0,none⟩),.slice A n c] W fun e w'=>e = .returned (.int .i64 (m.submit l).1)∧MdS Z lo g R (m.submit l).2 W w':=by
 have hmay:=mmay_any h
 have hlen:=hl.len
 have hroom:=hl.room
 have hmx:=hl.max
 unfold maxLen at hmx
 have hsame:∀ m',m'=m→MdS Z lo g R m' W W:=fun m' e=>by subst e;exact ⟨⟨R,h,fun b hb => .inl hb⟩,KB.refl _ _⟩
 cases ho:m.only with
 | true =>
  rw [ho] at hmay
  have hres:m.submit l=(10,m):=by unfold MoV.submit;rw [if_pos ho]
  rw [hres]
  have Hs:=Lib.hid (hsame m rfl)
  clear hsame h
  go_enter Tryz.func13,Tryz.ntmps13
  go_wp2_with (go_at_call 49;refine hmay.mono ?_;rintro e w' ⟨rfl,hw⟩;obtain rfl:=hw.symm)
  go_ret
  exact ⟨rfl,Hs.out⟩
 | false =>
  rw [ho] at hmay
  have hon:¬ m.only=true:=by rw [ho];decide
  by_cases hbig:4096<n
  ·have hd:decide ((4096:Int)<(n:Int))=true:=by simp;omega
   have hres:m.submit l=(3,m):=by unfold MoV.submit;rw [if_neg hon,if_pos (by rw [hlen];exact hbig)]
   rw [hres]
   have Hs:=Lib.hid (hsame m rfl)
   clear hsame h
   go_enter Tryz.func13,Tryz.ntmps13
   go_wp2_with (go_at_call 49;refine hmay.mono ?_;rintro e w' ⟨rfl,hw⟩;obtain rfl:=hw.symm)
   go_ret
   exact ⟨rfl,Hs.out⟩
  ·have hd:decide ((4096:Int)<(n:Int))=false:=by simp;omega
   obtain ⟨Aq,cq,hqe,hqs⟩:=h.queue.es
   have hrq:=hqs.room
   have hmq:=hqs.max
   unfold maxLen at hmq
   have hS:Below W.heap.size W W.drew:=(Below.refl _ _).drew
   have c5:∀ s:InC (fun W'=>Below W.heap.size W W'),s.W.cell? ⟨g,5,none⟩=some (.slice Aq m.queue.length cq):=fun s=>((h.step s.ok).cell 5 (by decide)).trans (congrArg some hqe)
   have c4:∀ s:InC (fun W'=>Below W.heap.size W W'),s.W.cell? ⟨g,4,none⟩=some (.int .i64 m.cap):=fun s=>(h.step s.ok).cell 4 (by decide)
   by_cases hfull:m.cap≤(m.queue.length:Int)
   ·have hd2:decide (m.cap≤(m.queue.length:Int))=true:=by simpa using hfull
    have hres:m.submit l=(5,m):=by unfold MoV.submit;rw [if_neg hon,if_neg (by rw [hlen];exact hbig),if_pos hfull]
    rw [hres]
    have hS5:∀ w',Below W.heap.size W w'→MdS Z lo g R m W w':=fun w' hb=>⟨⟨R,h.step hb,fun b hb => .inl hb⟩,KB.of_below hb⟩
    have Hs:=Lib.hid hS5
    clear hsame h hS5 hqe hqs hl
    go_enter Tryz.func13,Tryz.ntmps13
    go_upto_region 6 with (go_at_call 49;refine hmay.mono ?_;rintro e w' ⟨rfl,hw⟩;obtain rfl:=hw.symm)
    refine wp_region_mix (fun W'=>Below W.heap.size W W') [(0,true),(1,true),(2,true),(3,true),(4,true),(5,true),(6,true),(7,true),(8,true),(9,true),(10,true),(11,true)] (by kernel_rfl) (by kernel_rfl) hS fun _=>?_
    simp only [List.map_cons,List.map_nil,Array.getD_eq_getD_getElem?,List.getElem?_toArray,List.getElem?_cons_succ,List.getElem?_cons_zero,Option.getD_some]
    generalize W.drew=W0 at hS ⊢
    iterate 12 (refine wpMix_s (fun K hK=>?_);go_simp;refine hK _ ?_;clear hK K)
    refine wpMix_nil ?_
    intro _
    clear c5 c4
    go_wp2_with fail
    go_ret
    exact ⟨rfl,Hs.out _ hS⟩
   ·have hd2:decide (m.cap≤(m.queue.length:Int))=false:=by simpa using hfull
    have hres:m.submit l=(0,{ m with queue:=m.queue++[l] }):=by unfold MoV.submit;rw [if_neg hon,if_neg (by rw [hlen];exact hbig),if_neg hfull]
    rw [hres]
    have Hh:=Lib.hid h
    have Hl:=Lib.hid hl
    have Hqe:=Lib.hid hqe
    clear hsame h hqe hqs hl
    go_enter Tryz.func13,Tryz.ntmps13
    go_upto_region 6 with (go_at_call 49;refine hmay.mono ?_;rintro e w' ⟨rfl,hw⟩;obtain rfl:=hw.symm)
    refine wp_region_mix (fun W'=>Below W.heap.size W W') [(0,true),(1,true),(2,true),(3,true),(4,true),(5,true),(6,true),(7,true),(8,true),(9,true),(10,true),(11,true)] (by kernel_rfl) (by kernel_rfl) hS fun _=>?_
    simp only [List.map_cons,List.map_nil,Array.getD_eq_getD_getElem?,List.getElem?_toArray,List.getElem?_cons_succ,List.getElem?_cons_zero,Option.getD_some]
    generalize W.drew=W0 at hS ⊢
    iterate 12 (refine wpMix_s (fun K hK=>?_);go_simp;refine hK _ ?_;clear hK K)
    refine wpMix_nil ?_
    intro _
    clear c5 c4
    obtain ⟨W2,hW2⟩:∃ x,W0=x:=⟨_,rfl⟩
    rw [hW2] at hS ⊢
    clear hW2
    have h2:=Hh.out.step hS
    have hl2:=Hl.out.step hS
    have hB:Below W2.heap.size W2 W2.drew:=(Below.refl _ _).drew
    have hS8:Blk W2.drew g 57 (mdArr R m):=h2.blk.drew
    have c5:∀ s:InC (fun W'=>Blk W' g 57 (mdArr R m)),s.W.cell? ⟨g,5,none⟩=some R.q:=fun s=>by rw [s.ok.cell,md_at _ _ 5 (by decide)];rfl
    go_upto_region 8 with fail
    refine wp_region_mix_last (fun W'=>Blk W' g 57 (mdArr R m)) 11 [(0,true),(1,true),(2,true),(3,true),(4,true),(5,true),(6,false),(7,false),(8,false),(9,false),(10,true)] (by kernel_rfl) (by kernel_rfl) hS8 fun _=>?_
    simp only [List.map_cons,List.map_nil,Array.getD_eq_getD_getElem?,List.getElem?_toArray,List.getElem?_cons_succ,List.getElem?_cons_zero,Option.getD_some]
    generalize W2.drew=Z0 at hS8 hB ⊢
    iterate 6 (refine wpMix_s (fun K hK=>?_);go_simp;refine hK _ ?_;clear hK K)
    have h6:=h2.step hB
    refine wpMix_c (fun K hK=>?_) hS8
    go_simp
    refine (bclone_any l A n c Z0 ((hl2.step hB).all) hn).mono ?_
    rintro e W6 ⟨A',c',rfl,hs6,hb6⟩
    refine hK _ _ ?_
    clear hK K
    have hBB:=hB.trans (hb6.mono hB.size)
    have hs5':=hs6.weak (Y:=fun b=>¬ MdN Z g R b) fun b _ hb hm=>by have:=h6.ltN b hm;omega
    replace h6:=h6.step hb6
    replace hS8:=hS8.below hb6 hS8.lt
    refine ⟨hS8,?_⟩
    have hz6:=hBB.size
    have hz2:=hS.size
    obtain ⟨v',W',hr',hv1,hcl,hfr,hrs,hQ⟩:=h6.appQ ho hq l (by omega) A' c' hs5'
    have HQ:=Lib.hid hQ
    clear hQ h6
    refine wpMix_run (by kernel_rfl) (.slice (some ⟨W6.heap.size,0,none⟩) 1 1) (W6.alloc (.cells #[.slice A' l.length c'] 41)) (by kernel_rfl) (hS8.alloc _) ?_
    simp only [Act.put,List.setIfInBounds_toArray,List.set_cons_succ,List.set_cons_zero]
    refine wpMix_run (by kernel_rfl) v' W' (run_append_op (.tmp 31) (.tmp 34) 48 rfl _ _ rfl rfl hr') hrs ?_
    simp only [Act.put,List.setIfInBounds_toArray,List.set_cons_succ,List.set_cons_zero]
    refine wpMix_c (fun K hK=>?_) hrs
    go_simp
    refine hK _ _ ?_
    clear hK K
    refine ⟨hrs,?_⟩
    (refine wpMix_s (fun K hK=>?_);go_simp;refine hK _ ?_;clear hK K)
    refine wpMix_nil ?_
    intro _
    simp only [List.drop_succ_cons,List.drop_zero]
    clear c5 hS8 hs5' hb6 hs6
    go_wp2_with ((with_reducible show wpList _ _ _ [⟨none,.store _ _ _,_,_,_,_⟩] _ _);refine wpList_put1i rfl 48 (.tmp 37) (.tmp 35) rfl sizeEs ⟨g,5,none⟩ v' rfl rfl hv1 _ hcl hfr ?_;simp only [Act.put])
    refine np_normal ?_
    go_wp2_with fail
    go_ret
    exact ⟨rfl,⟨_,HQ.out.1,fun b hb=>by rcases HQ.out.2.2 b hb with h1|h1;exact .inl h1;exact .inr (by omega)⟩,(KB.of_below (hS.trans (hBB.mono hS.size))).trans HQ.out.2.1⟩
end Go.Proofs.YtdjhoankkddomaaGreat
namespace Go.Proofs.YtdjhoankkddomaaGreat
open Go Go.RowKit
attribute [local go_sem] Oper.semAt_some
theorem EsO.esW {W:World} {lo:Nat} {v:Value} {ls:List (List UInt8)} {X Y:Nat→Prop} (h:EsO W lo v ls X) (hrow:∀ b,v.ownBlock=some b→Y b) (hX:∀ b,b<W.heap.size→X b→Y b):∃ A c,v = .slice A ls.length c∧Es W Y A ls.length c ls:=by
 obtain ⟨vs,h1,h2⟩:=h.ex
 obtain ⟨A,c,rfl,hs⟩:=owns_slv h1
 exact ⟨A,c,rfl,⟨vs,hs.weak fun b _ hb=>hrow b hb.2.symm,fun i hi=>let ⟨A,c,h3,h4⟩:=h2 i hi;⟨A,c,h3,h4.weak hX⟩⟩,rfl⟩
theorem Md.mp {W:World} {Z:Nat→Prop} {lo g:Nat} {R:MdR} {m:MoV} (h:Md Z lo g R m W) {A:Option Addr} {n c:Nat} {ls:List (List UInt8)} (hs:Es W (fun b=>¬ PutW g R b) A n c ls):Mp Z W lo g R m A n c ls 0 0 R W:=by
 refine ⟨h.blk,?_,?_,h.queue,hs,rfl,rfl,rfl,h.eq,KB.refl _ _,fun b h => .inl h,h.low,h.zlt,h.zno⟩
 ·rw [List.take_zero,List.append_nil];exact h.ents
 ·rw [List.take_zero,List.append_nil];exact h.hashes
theorem Md.queueEs {W:World} {Z:Nat→Prop} {lo g:Nat} {R:MdR} {m:MoV} (h:Md Z lo g R m W):∃ A c,R.q = .slice A m.queue.length c∧Es W (fun b=>¬ PutW g R b) A m.queue.length c m.queue:=by
 refine h.queue.esW (fun b hb hm=>?_) (fun b _ hx hm=>hx (.inl hm.mdW))
 rcases hm with rfl|hm|hm
 ·exact own_ty h.queue.ex.choose_spec.1 h.blk (by decide) hb
 ·exact h.eq b hm hb
 ·exact own_ty2 h.queue.ex.choose_spec.1 h.hashes (by decide) b hm hb
theorem mflush_only (Z:Nat→Prop) (lo g:Nat) (R:MdR) (m:MoV) (W:World) (h:Md Z lo g R m W) (ho:m.only=true) :
  Calls Tryz.prog 14 #[.pointer (some ⟨g,0,none⟩)] W fun e w'=>e = .returned (.tuple #[.int .i64 0,.int .i64 0,.int .i64 10])∧w'=W:=by
 have hmay:=mmay_any h
 rw [ho] at hmay
 clear h ho
 go_enter Tryz.func14,Tryz.ntmps14
 go_wp2_with (go_at_call 49;refine hmay.mono ?_;rintro e w' ⟨rfl,hw⟩;obtain rfl:=hw.symm)
 go_ret3
 exact ⟨rfl,rfl⟩
set_option maxHeartbeats 4000000 in
set_option maxRecDepth 100000 in
theorem mflush_any (Z:Nat→Prop) (lo g:Nat) (R:MdR) (m:MoV) (W:World) (h:Md Z lo g R m W) (ho:m.only=false) (hn:m.ents.length+m.queue.length≤1000000) :
  Calls Tryz.prog 14 #[.pointer (some ⟨g,0,none⟩)] W fun e w'=>e = .returned (.tuple #[.int .i64 (m.ents.length:Int),.int .i64 (m.queue.length:Int),.int .i64 0])∧MdS Z lo g R m.flush W w':=by
 have hmay:=mmay_any h
 rw [ho] at hmay
 obtain ⟨Aq,cq,hqe,hqs⟩:=h.queueEs
 have hrq:=hqs.room
 have hmq:=hqs.max
 unfold maxLen at hmq
 have c5:∀ s:InC (fun W'=>Below W.heap.size W W'),s.W.cell? ⟨g,5,none⟩=some (.slice Aq m.queue.length cq):=fun s=>((h.step s.ok).cell 5 (by decide)).trans (congrArg some hqe)
 have hS:Below W.heap.size W W.drew:=(Below.refl _ _).drew
 obtain ⟨n,hnq⟩:∃ x,m.queue.length=x:=⟨_,rfl⟩
 obtain ⟨k,hke⟩:∃ x,m.ents.length=x:=⟨_,rfl⟩
 have hsz:=fun W' (hb:Below W.heap.size W W')=>msize_any (h.step hb)
 rw [hke] at hsz
 rw [hnq] at c5 hrq ⊢
 rw [hke]
 have Hh:=Lib.hid h
 have Hqe:=Lib.hid hqe
 have Hqs:=Lib.hid hqs
 have Hnq:=Lib.hid hnq
 have Hke:=Lib.hid hke
 have Hsz:=Lib.hid hsz
 have Ho:=Lib.hid ho
 clear h hqe hqs hnq hke hsz ho
 by_cases h0:0<n
 ·have hd:decide ((0:Int)<(n:Int))=true:=by simp;omega
  go_enter Tryz.func14,Tryz.ntmps14
  go_upto_region 4 with (go_at_call 49;refine hmay.mono ?_;rintro e w' ⟨rfl,hw⟩;obtain rfl:=hw.symm)
  refine wp_region_mix (fun W'=>Below W.heap.size W W') [(0,true),(2,true),(3,true),(4,true),(5,true),(6,true),(1,false),(7,true),(8,true)] (by kernel_rfl) (by kernel_rfl) hS fun _=>?_
  simp only [List.map_cons,List.map_nil,Array.getD_eq_getD_getElem?,List.getElem?_toArray,List.getElem?_cons_succ,List.getElem?_cons_zero,Option.getD_some]
  generalize W.drew=W0 at hS ⊢
  iterate 6 (refine wpMix_s (fun K hK=>?_);go_simp;refine hK _ ?_;clear hK K)
  refine wpMix_c (fun K hK=>?_) hS
  go_simp
  refine (Hsz.out W0 hS).mono ?_
  rintro e W0e ⟨rfl,hww⟩
  obtain rfl:=hww.symm
  refine hK _ _ ?_
  clear hK K
  refine ⟨hS,?_⟩
  iterate 2 (refine wpMix_s (fun K hK=>?_);go_simp;refine hK _ ?_;clear hK K)
  refine wpMix_nil ?_
  intro _
  clear c5
  obtain ⟨W2,hW2⟩:∃ x,W0=x:=⟨_,rfl⟩
  rw [hW2] at hS ⊢
  clear hW2
  have h2:=Hh.out.step hS
  have hB:Below W2.heap.size W2 W2.drew:=(Below.refl _ _).drew
  have hT:True:=trivial
  go_upto_region 6 with fail
  refine wp_region_mix (fun _=>True) [(0,true),(1,true),(2,true),(3,true),(4,true),(5,true),(6,false),(7,false)] (by kernel_rfl) (by kernel_rfl) hT fun _=>?_
  simp only [List.map_cons,List.map_nil,Array.getD_eq_getD_getElem?,List.getElem?_toArray,List.getElem?_cons_succ,List.getElem?_cons_zero,Option.getD_some]
  generalize W2.drew=Z0 at hB ⊢
  iterate 6 (refine wpMix_s (fun K hK=>?_);go_simp;refine hK _ ?_;clear hK K)
  have h3:=h2.step hB
  have c53:Z0.cell? ⟨g,5,none⟩=some (.slice Aq n cq):=by
   rw [← Hnq.out]
   exact (h3.cell 5 (by decide)).trans (congrArg some Hqe.out)
  refine wpMix_c (fun K hK=>?_) hT
  go_simp
  refine hK _ _ ?_
  clear hK K
  refine ⟨hT,?_⟩
  refine wpMix_c (fun K hK=>?_) hT
  go_simp
  have hput:=mput_any Z lo g R m Aq m.queue.length cq m.queue Z0 (h3.mp (((Hqs.out).step hS).step hB)) h3.lastL h3.ptL (h3.fresh Ho.out) hn (fun x hx=>by
   rcases List.mem_append.1 hx with hx|hx
   ·exact h3.big x hx
   ·exact h3.bigq x hx) h3.bigq
  rw [Hnq.out] at hput
  refine hput.mono ?_
  rintro e W4 ⟨rfl,R',hD,hK9,hrq',hrb',hnew⟩
  refine hK _ _ ?_
  clear hK K
  have hK:=hK9
  refine ⟨hT,?_⟩
  clear c53 hput hK9
  refine wpMix_nil ?_
  intro _
  obtain ⟨h4,hk4⟩:∃ x:Md Z lo g R' (m.put m.queue) W4,x=hD:=⟨_,rfl⟩
  clear hk4 hD
  have hsz2:=hS.size
  have f5:=h4.blk.frozen 5
  have c54:W4.cell? ⟨g,5,none⟩=some R'.q:=h4.cell 5 (by decide)
  have hgs:KB (fun b=>b=g) W4 (W4.setCell ⟨g,5,none⟩ (.slice none 0 0)):=KB.of_grown (grown_setCell (World.grownBy.refl _ (some g)) 5 _) fun r e=>(Option.some.inj e).symm
  have hMd:∀ b,MdW g { R' with q := .slice none 0 0 } b→MdW g R' b:=fun b hm=>by
   rcases hm with hm|hm|hm|hm
   ·exact .inl hm
   ·exact .inr (.inl hm)
   ·exact .inr (.inr (.inl hm))
   ·cases hm
  have hF:Md Z lo g { R' with q := .slice none 0 0 } m.flush (W4.setCell ⟨g,5,none⟩ (.slice none 0 0)):=by
   obtain ⟨Ar,cr,hre,hrs⟩:=h4.roots
   refine ⟨?_,h4.lastL,h4.ptL,?_,?_,⟨Ar,cr,hre,?_⟩,EsO.nil,?_,fun b _ e=>by (cases e),fun _=>h4.fresh Ho.out,h4.low,h4.big,fun x hx=>by (cases hx),fun b hz=>Nat.lt_of_lt_of_le (h4.zlt b hz) hgs.size,fun b hm=>h4.zno b (hMd b hm)⟩
   ·rw [← md_set (R:=R') (R':={ R' with q := .slice none 0 0 }) (m:=m.put m.queue) (m':=m.flush) 5 (by decide) (.slice none 0 0) rfl fun i hi hne=>by simp only [mcell,hne,if_false];rfl]
    exact h4.blk.set_ 5 _
   ·exact (h4.ents.kb hgs (fun b hb e=>by subst e;exact own_ty h4.ents.ex.choose_spec.1 h4.blk (by decide) hb) (fun b _ hx e=>hx (.inl (.inl e)))).weak fun b _ hx hm=>hx (hm.imp (hMd b) id)
   ·exact hgs.own h4.hashes fun b hb e=>by subst e;exact own_ty h4.hashes h4.blk (by decide) hb
   ·exact (hrs.kb hgs fun b _ hx e=>hx (.inl (.inl e))).weak fun b _ hx hm=>hx (hm.imp (hMd b) id)
   ·obtain ⟨hb0,hb1⟩:=h4.fresh Ho.out
    have hb0:m.begun=[]:=hb0
    refine ⟨none,0,?_,?_⟩
    ·show R'.b = .slice none m.begun.length 0
     rw [hb0];exact hb1
    ·show Es2 _ _ _ none m.begun.length 0 m.begun
     rw [hb0]
     exact ⟨⟨[],SlV.empty,fun i hi=>absurd hi (by simp)⟩,rfl⟩
  have hKK:KB (MdW g R) W (W4.setCell ⟨g,5,none⟩ (.slice none 0 0)):=(KB.of_below (hS.trans (hB.mono hS.size))).trans ((hK.mono fun b hb=>hb.mdW).trans (hgs.mono fun b hb => .inl hb))
  have hnn:∀ b,MdW g { R' with q := .slice none 0 0 } b→MdW g R b∨W.heap.size≤b:=fun b hm=>by
   rcases hnew b (hMd b hm) with h1|h1
   ·exact .inl h1
   ·exact .inr (by have:=hB.size;omega)
  have HF:=Lib.hid hF
  have HKK:=Lib.hid hKK
  have Hnn:=Lib.hid hnn
  clear hF hKK hnn hgs h4 hK hnew h2 hMd hrq' hrb'
  go_wp2_with fail
  go_ret3
  exact ⟨rfl,⟨_,HF.out,Hnn.out⟩,HKK.out⟩
 ·have hd:decide ((0:Int)<(n:Int))=false:=by simp;omega
  go_enter Tryz.func14,Tryz.ntmps14
  go_upto_region 4 with (go_at_call 49;refine hmay.mono ?_;rintro e w' ⟨rfl,hw⟩;obtain rfl:=hw.symm)
  refine wp_region_mix (fun W'=>Below W.heap.size W W') [(0,true),(2,true),(3,true),(4,true),(5,true),(6,true),(1,false),(7,true),(8,true)] (by kernel_rfl) (by kernel_rfl) hS fun _=>?_
  simp only [List.map_cons,List.map_nil,Array.getD_eq_getD_getElem?,List.getElem?_toArray,List.getElem?_cons_succ,List.getElem?_cons_zero,Option.getD_some]
  generalize W.drew=W0 at hS ⊢
  iterate 6 (refine wpMix_s (fun K hK=>?_);go_simp;refine hK _ ?_;clear hK K)
  refine wpMix_c (fun K hK=>?_) hS
  go_simp
  refine (Hsz.out W0 hS).mono ?_
  rintro e W0e ⟨rfl,hww⟩
  obtain rfl:=hww.symm
  refine hK _ _ ?_
  clear hK K
  refine ⟨hS,?_⟩
  iterate 2 (refine wpMix_s (fun K hK=>?_);go_simp;refine hK _ ?_;clear hK K)
  refine wpMix_nil ?_
  intro _
  clear c5
  go_wp2_with fail
  go_ret3
  have hq0:m.queue=[]:=List.eq_nil_of_length_eq_zero (by rw [Hnq.out];omega)
  have hfl:m.flush=m:=by
   unfold MoV.flush
   rw [hq0,List.append_nil]
   obtain ⟨e1,e2,e3,e4,e5,e6,e7,e8,e9,e10,e11,e12⟩:=m
   simp only at hq0
   subst hq0
   rfl
  rw [hfl]
  exact ⟨rfl,⟨R,Hh.out.step hS,fun b hb => .inl hb⟩,KB.of_below hS⟩
end Go.Proofs.YtdjhoankkddomaaGreat
namespace Go.Proofs.YtdjhoankkddomaaGreat
open Go Go.RowKit
end Go.Proofs.YtdjhoankkddomaaGreat
namespace Go.Proofs.YtdjhoankkddomaaGreat
open Go Go.RowKit
end Go.Proofs.YtdjhoankkddomaaGreat
namespace Go.Proofs.YtdjhoankkddomaaGreat
open Go Go.RowKit
end Go.Proofs.YtdjhoankkddomaaGreat
namespace Go.Proofs.YtdjhoankkddomaaGreat
open Go Go.RowKit
abbrev PtV:=Int × List UInt8
end Go.Proofs.YtdjhoankkddomaaGreat
namespace Go.Proofs.YtdjhoankkddomaaGreat
open Go Go.RowKit
def setAll (L:Array Bool) (sub:List Nat):Array Bool:=sub.foldr (fun k L=>L.setIfInBounds k true) L
theorem size_setAll (L:Array Bool):∀ sub:List Nat,(setAll L sub).size=L.size
 | []=>rfl
 | k::sub=>by
  show ((setAll L sub).setIfInBounds k true).size=L.size
  rw [Array.size_setIfInBounds,size_setAll L sub]
theorem setAll_get (L:Array Bool) (i:Nat) (hi:i<L.size):∀ sub:List Nat,(setAll L sub)[i]?=some (L[i]||sub.contains i)
 | []=>by simp [setAll,hi]
 | k::sub=>by
  show ((setAll L sub).setIfInBounds k true)[i]?=_
  rw [Array.getElem?_setIfInBounds]
  by_cases hk:k=i
  ·subst hk
   rw [if_pos rfl,if_pos (by rw [size_setAll];exact hi)]
   simp
  ·rw [if_neg hk,setAll_get L i hi sub]
   have:(i==k)=false:=by simpa using fun e=>hk e.symm
   rw [List.contains_cons,this,Bool.false_or]
theorem setAll_same (L:Array Bool) (s t:List Nat) (h:∀ i,s.contains i=t.contains i):setAll L s=setAll L t:=by
 apply Array.ext
 ·rw [size_setAll,size_setAll]
 ·intro i h1 h2
  have hi:i<L.size:=by rwa [size_setAll] at h1
  have e1:=setAll_get L i hi s
  have e2:=setAll_get L i hi t
  rw [h i] at e1
  have:=e1.trans e2.symm
  rw [Array.getElem?_eq_getElem h1,Array.getElem?_eq_getElem h2] at this
  exact Option.some.inj this
def subsL:List Nat→List (List Nat)
 | []=>[[]]
 | k::l=>subsL l++(subsL l).map (k :: ·)
theorem filter_subs (p:Nat→Bool):∀ l:List Nat,l.filter p ∈ subsL l
 | []=>by simp [subsL]
 | k::l=>by
  have:=filter_subs p l
  rw [List.filter_cons]
  unfold subsL
  split
  ·exact List.mem_append.2 (.inr (List.mem_map.2 ⟨_,this,rfl⟩))
  ·exact List.mem_append.2 (.inl this)
def closedP (ops:Array Oper) (L:Array Bool) (k:Nat):Bool:=(ops.getD k default).after.toList.all fun e => !Region.binds .any e||L.getD e.on false
theorem closedP_step (ops:Array Oper) (L:Array Bool) (j k:Nat) (h:closedP ops L k=true):closedP ops (L.setIfInBounds j true) k=true:=by
 unfold closedP at *
 rw [List.all_eq_true] at *
 intro e he
 have:=h e he
 rw [Bool.or_eq_true] at this ⊢
 rcases this with h1|h1
 ·exact .inl h1
 ·right
  rw [Array.getD_eq_getD_getElem?] at h1 ⊢
  rw [Array.getElem?_setIfInBounds]
  split
  ·rename_i h2
   split
   ·rfl
   ·rename_i h3
    rw [← h2,Array.getElem?_eq_none (by omega)] at h1
    cases h1
  ·exact h1
def makersOk (ops:Array Oper) (L:Array Bool) (ks:List Nat) (need:Nat→List Nat):Bool :=
 (subsL ks).all fun s=>ks.all s.contains || !(s.all fun k=>closedP ops (setAll L s) k)||(!(Region.ready .any ops (setAll L s)).isEmpty&&(Region.ready .any ops (setAll L s)).all fun k=>ks.contains k&&(need k).all s.contains)
def upd (us:Nat→Value) (s:Nat) (v:Value):Nat→Value:=fun j=>if j=s then v else us j
theorem upd_same (us:Nat→Value) (s:Nat) (v:Value):upd us s v s=v:=if_pos rfl
theorem upd_other (us:Nat→Value) (s j:Nat) (v:Value) (h:j≠s):upd us s v j=us j:=if_neg h
def leftN (ks sub:List Nat):Nat:=(ks.filter fun k => !sub.contains k).length
theorem leftN_cons (sub:List Nat) (k:Nat) (hk:sub.contains k=false):∀ ks:List Nat,ks.Nodup→k ∈ ks→leftN ks (k::sub)+1=leftN ks sub
 | [],_,h=>by cases h
 | x::ks,hn,h=>by
  obtain ⟨hx,hn⟩:=List.nodup_cons.1 hn
  unfold leftN
  by_cases hxk:x=k
  ·subst hxk
   have hrest:(ks.filter fun y => !(x::sub).contains y)=ks.filter fun y => !sub.contains y:=by
    apply List.filter_congr
    intro y hy
    have:(y==x)=false:=by simp;rintro rfl;exact hx hy
    rw [List.contains_cons,this,Bool.false_or]
   rw [List.filter_cons,List.filter_cons,if_neg (by simp),if_pos (by rw [hk];rfl),hrest]
   rfl
  ·have hm:k ∈ ks:=by
    rcases List.mem_cons.1 h with e|e
    ·exact absurd e.symm hxk
    ·exact e
   have:=leftN_cons sub k hk ks hn hm
   unfold leftN at this
   have hxe:(x==k)=false:=by simpa using hxk
   have e1:(k::sub).contains x=sub.contains x:=by rw [List.contains_cons,hxe,Bool.false_or]
   rw [List.filter_cons,List.filter_cons,e1]
   split
   ·simp only [List.length_cons];omega
   ·exact this
theorem leftN_zero (ks sub:List Nat) (h:leftN ks sub=0):ks.all sub.contains=true:=by
 rw [List.all_eq_true]
 intro k hk
 unfold leftN at h
 have:=List.eq_nil_of_length_eq_zero h
 have:=List.filter_eq_nil_iff.1 this k hk
 simpa using this
section
variable {P:Program} {ops:Array Oper} {Q:Exit→Act→World→Prop} {S:World→Prop}
end
def putAll (a:Act) (us:Nat→Value):List Nat→Act
 | []=>a
 | s::l=>(putAll a us l).put (some s) (us s)
end Go.Proofs.YtdjhoankkddomaaGreat
namespace Go.Proofs.YtdjhoankkddomaaGreat
open Go Go.RowKit
theorem ptAgg:∀ w:World,(isAgg 55).run Tryz.prog w = .ok true w:=fun _=>by kernel_rfl
theorem ptSize:∀ w:World,(sizeOf 55).run Tryz.prog w = .ok 33 w:=fun _=>by kernel_rfl
theorem oneCell_pt (n:Int) (l:List UInt8):∀ v ∈ (Value.int .i64 n::l.map B).toArray.toList,v.oneCell'=true:=by
 intro v hv
 simp only [List.mem_cons,List.mem_map] at hv
 rcases hv with rfl|⟨b,_,rfl⟩ <;> rfl
structure PB (W:World) (g:Nat) (n:Int) (root:List UInt8):Prop where
 blk:Blk W g 55 (.int .i64 n::root.map B).toArray
 rl:root.length=32
section
variable {W W':World} {g:Nat} {n:Int} {root:List UInt8}
theorem PB.step (h:PB W g n root) (hb:Below W.heap.size W W'):PB W' g n root:=⟨h.blk.step hb,h.rl⟩
theorem PB.size (h:PB W g n root):W.cell? ⟨g,0,none⟩=some (.int .i64 n):=by rw [h.blk.cell];rfl
theorem PB.hash (h:PB W g n root):(Instr.loadAt 53 (.pointer (some ⟨g,1,none⟩))).run Tryz.prog W = .ok (.agg (root.map B).toArray) W :=
 run_load_agg (agg26 _) (size26 _) g 1 (root.map B) (by simp [h.rl]) fun j u hu=>by
  rw [h.blk.cell,List.getElem?_toArray,show 1+j=j+1 by omega,List.getElem?_cons_succ]
  exact hu
theorem PB.load (h:PB W g n root):(Instr.loadAt 55 (.pointer (some ⟨g,0,none⟩))).run Tryz.prog W = .ok (.agg (.int .i64 n::root.map B).toArray) W :=
 run_load_blk (ptAgg _) (ptSize _) g _ (by simp [h.rl]) h.blk
theorem PB.other {g':Nat} (h:PB W g' n root) (hne:g'≠g) (cs:Array Value):PB (W.setRow g cs) g' n root:=⟨by
 have:=setRow_other W g g' cs hne
 unfold Blk at *
 exact this.trans h.blk,h.rl⟩
end
set_option maxRecDepth 100000 in
theorem wpList_pnv {w:World} {ops:Array Oper} {rest:List Oper} {o1 o2:Oper} {a:Act} {Q:Exit→Act→World→Prop} {n:Int} {l:List UInt8} (x y:Operand) (hg1:o1.guard=none) (hg2:o2.guard=none) (ho1:o1.op = .alloc 55) (ho2:o2.op = .store 55 x y)
  (hx:(a.put o1.dst (.pointer (some ⟨w.heap.size,0,none⟩))).eval x = .pointer (some ⟨w.heap.size,0,none⟩)) (hy:(a.put o1.dst (.pointer (some ⟨w.heap.size,0,none⟩))).eval y = .agg (.int .i64 n::l.map B).toArray) (hl:l.length=32)
  (h:∀ W,PB W w.heap.size n l→Below w.heap.size w W→wpList Tryz.prog ops Q rest ((a.put o1.dst (.pointer (some ⟨w.heap.size,0,none⟩))).put o2.dst undef) W):wpList Tryz.prog ops Q (o1::o2::rest) a w:=by
 refine wpList_run hg1 (.pointer (some ⟨w.heap.size,0,none⟩)) (w.alloc (.cells (.int .i64 0::(List.replicate 32 (0:UInt8)).map B).toArray 55)) ?_ ?_
 ·unfold execOp
  rw [ho1]
  rfl
 ·refine wpList_store_blk hg2 55 x y ho2 33 ptSize w.heap.size (.int .i64 n::l.map B).toArray hx hy (by simp [hl]) (oneCell_pt n l) 55 _ (Blk.new w 55 _) (by simp) ?_
  exact h _ ⟨(Blk.new w 55 _).setRow_ _,hl⟩ (below_setRow ((Below.refl _ _).alloc (Nat.le_refl _) _) (Nat.le_refl _) _)
section
variable {ops:Array Oper} {Q:Exit→Act→World→Prop} {S:World→Prop} {R:Act→World→Prop} {o:Oper} {l:List (Oper × Bool)} {a:Act} {w:World}
theorem wpMix_pset {n n':Int} {m m':List UInt8} {g:Nat} (x y:Operand) (hg:o.guard=none) (ho:o.op = .store 55 x y) (k:PB w g n' m') (hx:a.eval x = .pointer (some ⟨g,0,none⟩)) (hy:a.eval y = .agg (.int .i64 n::m.map B).toArray) (hl:m.length=32) (hS:∀ W,Below g w W→S W)
  (h:∀ W,PB W g n m→Below g w W→(∀ g' n' m',g'≠g→PB w g' n' m'→PB W g' n' m')→wpMix Tryz.prog ops S Q R l (a.put o.dst undef) W):wpMix Tryz.prog ops S Q R ((o,false)::l) a w:=by
 have hb:Below g w (w.setRow g (.int .i64 n::m.map B).toArray):=below_setRow (Below.refl _ _) (Nat.le_refl _) _
 exact wpMix_store_blk hg 55 x y ho 33 ptSize g (.int .i64 n::m.map B).toArray hx hy (by simp [hl]) (oneCell_pt n m) 55 _ k.blk (by simp [k.rl]) (hS _ hb) (h _ ⟨k.blk.setRow_ _,hl⟩ hb fun g' n' m' hne hk=>hk.other hne _)
end
section
variable {w w':World} {X Y:Nat→Prop} {A:Option Addr} {n c:Nat} {ps:List PtV}
end
end Go.Proofs.YtdjhoankkddomaaGreat
namespace Go.Proofs.YtdjhoankkddomaaGreat
open Go Go.RowKit
abbrev StepV:=(Nat × Nat) × List UInt8
def rootsP (hs:List (List UInt8)) (i:Int):List (List UInt8):=rootsL hs (pathA i hs.length).1
end Go.Proofs.YtdjhoankkddomaaGreat
namespace Go.Proofs.YtdjhoankkddomaaGreat
open Go Go.RowKit
theorem explode32 (l:List UInt8) (h:l.length=32):∃ a0 a1 a2 a3 a4 a5 a6 a7 a8 a9 a10 a11 a12 a13 a14 a15 a16 a17 a18 a19 a20 a21 a22 a23 a24 a25 a26 a27 a28 a29 a30 a31:UInt8,l=[a0,a1,a2,a3,a4,a5,a6,a7,a8,a9,a10,a11,a12,a13,a14,a15,a16,a17,a18,a19,a20,a21,a22,a23,a24,a25,a26,a27,a28,a29,a30,a31]:=by
 match l,h with
 | [a0,a1,a2,a3,a4,a5,a6,a7,a8,a9,a10,a11,a12,a13,a14,a15,a16,a17,a18,a19,a20,a21,a22,a23,a24,a25,a26,a27,a28,a29,a30,a31],_=>exact ⟨_,_,_,_,_,_,_,_,_,_,_,_,_,_,_,_,_,_,_,_,_,_,_,_,_,_,_,_,_,_,_,_,rfl⟩
theorem run_build_op {ρ:Operand→Value} {o:Oper} {T:TypeId} {ps:Array (Nat × Operand)} {cs:Array Value} (ho:o.op = .build T ps) (h:Tryz.prog.built T ((ps.map fun (i,x)=>(i,ρ x)).toList)=some cs) (W:World):(execOp ρ o).run Tryz.prog W = .ok (.value (.agg cs)) W:=by
 unfold execOp
 simp only [ho,Sem.run_bind,Sem.run_pure,run_build W T _ cs h,Result.andThen_ok]
section
variable {T S:TypeId} {w W:World} {g:Nat} {s:StepV}
end
section
variable {T S:TypeId} {w:World} {ops:Array Oper} {rest:List Oper} {o o1 o2:Oper} {a:Act} {Q:Exit→Act→World→Prop} {s:StepV}
end
end Go.Proofs.YtdjhoankkddomaaGreat
