import Derived.Test.YtdjhoankkddomaaGreatQg247
namespace Go.Proofs.YtdjhoankkddomaaGreat
open Go Go.RowKit Go.Shelf
structure WdK (w:World) (gw:Nat) (V0:Nat→Prop) (nm:Nat) (M:Nat→MP) (nx:Nat) (X:Nat→XP) (cm cx:Nat→Nat) (no:Nat) (po:Nat→Nat) (nw:Nat) (px:Nat→Nat) (ov wv:Value) (W:World):Prop where
 soup:Soup w.heap.size (WV gw ov wv V0) nm M nx X W
 blk:Blk W gw 33 (wcells (mpt (M (cm 0)).g) (mpt (M (cm 1)).g) (mpt (X (cx 0)).g) (mpt (X (cx 1)).g) ov wv)
 old:W.ownsRow w.heap.size 26 1 ov no ((List.range no).map fun i=>mpt (M (po i)).g)
 was:W.ownsRow w.heap.size 28 1 wv nw ((List.range nw).map fun i=>mpt (X (px i)).g)
 glo:w.heap.size≤gw
 v0:∀ b,V0 b→b≠gw∧ov.ownBlock≠some b∧wv.ownBlock≠some b∧w.heap.size≤b
 cmb:∀ i,i<2→cm i<nm
 cxb:∀ i,i<2→cx i<nx
 pob:∀ i,i<no→po i<nm
 pxb:∀ i,i<nw→px i<nx
 bel:Below w.heap.size w W
section
variable {w W W':World} {gw nm nx no nw:Nat} {V0 V1:Nat→Prop} {M:Nat→MP} {X:Nat→XP} {cm cx po px:Nat→Nat} {ov wv:Value}
theorem WdJ.k {S:WS} (h:WdJ w gw V0 S W):WdK w gw V0 S.nm S.M S.nx S.X (fun i=>(S.pr i).1) (fun i=>(S.pr i).2) (S.np - 2) (fun i=>(S.pr (i+2)).1) (S.np - 2) (fun i=>(S.pr (i+2)).2) S.ov S.wv W :=
 have ht:=h.two
 ⟨h.soup,h.blk,h.old,h.was,h.glo,h.v0,fun i hi=>(h.inb i (by omega)).1,fun i hi=>(h.inb i (by omega)).2,fun i hi=>(h.inb (i+2) (by omega)).1,fun i hi=>(h.inb (i+2) (by omega)).2,h.bel⟩
theorem WdK.size (h:WdK w gw V0 nm M nx X cm cx no po nw px ov wv W):w.heap.size≤W.heap.size:=h.bel.size
theorem WdK.step (h:WdK w gw V0 nm M nx X cm cx no po nw px ov wv W) (hb:Below W.heap.size W W'):WdK w gw V0 nm M nx X cm cx no po nw px ov wv W' :=
 ⟨h.soup.step hb,h.blk.step hb,owns_step h.old hb,owns_step h.was hb,h.glo,h.v0,h.cmb,h.cxb,h.pob,h.pxb,h.bel.trans (hb.mono h.bel.size)⟩
theorem WdK.kbV (h:WdK w gw V0 nm M nx X cm cx no po nw px ov wv W) (hk:KB V0 W W') (hV:∀ b,V1 b→V0 b∨W.heap.size≤b) (hl:∀ b,V1 b→b<W'.heap.size):WdK w gw V1 nm M nx X cm cx no po nw px ov wv W':=by
 have hno:∀ b,V1 b→b≠gw∧ov.ownBlock≠some b∧wv.ownBlock≠some b∧w.heap.size≤b:=fun b hb=>by
  rcases hV b hb with hb|hb
  ·exact h.v0 b hb
  ·exact ⟨fun e=>by have:=h.blk.lt;omega,fun e=>by have:=(h.old.lt b e).2;omega,fun e=>by have:=(h.was.lt b e).2;omega,Nat.le_trans h.size hb⟩
 refine ⟨?_,hk.blk h.blk fun e=>(h.v0 _ e).1 rfl,hk.own h.old fun b hb e=>(h.v0 b e).2.1 hb,hk.own h.was fun b hb e=>(h.v0 b e).2.2.1 hb,h.glo,hno,h.cmb,h.cxb,h.pob,h.pxb,h.bel.trans (hk.below (fun b hb=>(h.v0 b hb).2.2.2) h.bel.size)⟩
 refine h.soup.kbV (hk.mono fun b hb => .inr (.inr (.inr hb))) (fun b hb=>?_) (fun b hb=>?_)
 ·rcases hb with hb|hb|hb|hb
  ·exact .inl (.inl hb)
  ·exact .inl (.inr (.inl hb))
  ·exact .inl (.inr (.inr (.inl hb)))
  ·exact (hV b hb).imp (fun h' => .inr (.inr (.inr h'))) id
 ·rcases hb with rfl|hb|hb|hb
  ·exact Nat.lt_of_lt_of_le h.blk.lt hk.size
  ·exact Nat.lt_of_lt_of_le (h.old.lt b hb).2 hk.size
  ·exact Nat.lt_of_lt_of_le (h.was.lt b hb).2 hk.size
  ·exact hl b hb
theorem map_range_put {α:Type} (f:Nat→Value) (n:Nat) (g:α→Value) (p:Nat→α) (x:α) (h:∀ i,i<n→f i=g (p i)):(List.range n).map f++[g x]=(List.range (n+1)).map fun i=>g (setF p n x i):=by
 rw [List.range_succ,List.map_append,List.map_cons,List.map_nil,setF_eq]
 congr 1
 refine List.map_congr_left fun i hi=>?_
 have hi:=List.mem_range.1 hi
 rw [h i hi,setF_ne _ _ (Nat.ne_of_lt hi)]
theorem infoPm:(Tryz.prog.info? 26).map (fun i=>(i.zero,i.size,i.bytes))=some (some (.pointer none),1,8):=by kernel_rfl
theorem infoPx:(Tryz.prog.info? 28).map (fun i=>(i.zero,i.size,i.bytes))=some (some (.pointer none),1,8):=by kernel_rfl
theorem WdK.pushO (h:WdK w gw V0 nm M nx X cm cx no po nw px ov wv W) (i:Nat) (hi:i<nm) (hn:no≤100):∃ v1 w1,(Builtin.append_ #[30,30] 30 #[ov,.slice (some ⟨W.heap.size,0,none⟩) 1 1]).run Tryz.prog (W.alloc (.cells #[mpt (M i).g] 26)) = .ok v1 w1∧v1.oneCell'=true ∧
  w1.cell? ⟨gw,4,none⟩=some ov∧w1.frozen? ⟨gw,4,none⟩=false∧WdK w gw V0 nm M nx X cm cx (no+1) (setF po no i) nw px v1 wv (w1.setCell ⟨gw,4,none⟩ v1)∧KB (fun b=>b=gw∨ov.ownBlock=some b) W (w1.setCell ⟨gw,4,none⟩ v1)∧KB (fun b=>ov.ownBlock=some b) W w1:=by
 have ba:Below W.heap.size W (W.alloc (.cells #[mpt (M i).g] 26)):=(Below.refl _ _).alloc (Nat.le_refl _) _
 have ha:=h.step ba
 obtain ⟨v1,w1,hr,ho,hg,hv⟩:=append_slv (ty:=30) Tryz.underlying30 infoPm rfl (by decide) ha.old (SlV.lit (s:=1) (n:=1) W (fun _=>True) 26 [mpt (M i).g] rfl (by decide) trivial) (by simp [Value.oneCell']) (by unfold maxLen;omega) (by omega) ha.size
 rw [map_range_put (fun i=>mpt (M (po i)).g) no (fun j=>mpt (M j).g) po i fun _ _=>rfl] at ho
 have hk1:KB (fun b=>ov.ownBlock=some b) W w1:=(KB.of_below ba).trans (KB.of_grown hg fun r e=>e)
 have hgw:ov.ownBlock≠some gw:=own_ty h.old h.blk (by decide)
 have kb1:Blk w1 gw 33 (wcells (mpt (M (cm 0)).g) (mpt (M (cm 1)).g) (mpt (X (cx 0)).g) (mpt (X (cx 1)).g) ov wv):=hk1.blk h.blk fun e=>hgw e
 have hk2:KB (fun b=>b=gw) w1 (w1.setCell ⟨gw,4,none⟩ v1):=kb_cell (M:=fun b=>b=gw) (KB.refl _ _) rfl 4 v1
 have hK:KB (fun b=>b=gw∨ov.ownBlock=some b) W (w1.setCell ⟨gw,4,none⟩ v1):=(hk1.mono fun b e => .inr e).trans (hk2.mono fun b e => .inl e)
 have hv1:∀ b,v1.ownBlock=some b→ov.ownBlock=some b∨W.heap.size≤b:=fun b e=>by
  rcases hv with hv|⟨j,hv,hj⟩
  ·exact .inl (hv.symm.trans e)
  ·rw [hv] at e;have:=Option.some.inj e;have:=ba.size;exact .inr (by omega)
 have hone:v1.oneCell'=true:=by obtain ⟨_,_,e,_⟩:=owns_slv ho;rw [e];rfl
 have ow:∀ b,wv.ownBlock=some b→ov.ownBlock≠some b:=fun b e=>own_ty2 h.old h.was (by decide) b e
 refine ⟨v1,w1,hr,hone,by rw [kb1.cell];rfl,kb1.frozen 4,⟨?_,kb1.set_ 4 v1,?_,?_,h.glo,?_,h.cmb,h.cxb,?_,h.pxb,h.bel.trans (hK.below (fun b e=>e.elim (fun e=>e ▸ h.glo) fun e=>(h.old.lt b e).1) h.bel.size)⟩,hK,hk1⟩
 ·refine h.soup.kbV (hK.mono fun b e=>e.imp id .inl) (fun b hb=>?_) (fun b hb=>?_)
  ·rcases hb with hb|hb|hb|hb
   ·exact .inl (.inl hb)
   ·exact (hv1 b hb).imp (fun e => .inr (.inl e)) id
   ·exact .inl (.inr (.inr (.inl hb)))
   ·exact .inl (.inr (.inr (.inr hb)))
  ·rcases hb with rfl|hb|hb|hb
   ·exact Nat.lt_of_lt_of_le h.blk.lt hK.size
   ·exact Nat.lt_of_lt_of_le (ho.lt b hb).2 hk2.size
   ·exact Nat.lt_of_lt_of_le (h.was.lt b hb).2 hK.size
   ·exact Nat.lt_of_lt_of_le (h.soup.vlt b (.inr (.inr (.inr hb)))) hK.size
 ·exact hk2.own ho fun b e e'=>by subst e';exact own_ty ho kb1 (by decide) e
 ·exact hK.own h.was fun b e e'=>e'.elim (fun e'=>by subst e';exact own_ty h.was h.blk (by decide) e) (ow b e)
 ·intro b hb
  obtain ⟨q1,q2,q3,q4⟩:=h.v0 b hb
  exact ⟨q1,fun e=>(hv1 b e).elim q2 fun e'=>by have:=h.soup.vlt b (.inr (.inr (.inr hb)));omega,q3,q4⟩
 ·intro j hj
  by_cases e:j=no
  ·subst e;rw [setF_eq];exact hi
  ·rw [setF_ne _ _ e];exact h.pob j (by omega)
theorem WdK.pushW (h:WdK w gw V0 nm M nx X cm cx no po nw px ov wv W) (i:Nat) (hi:i<nx) (hn:nw≤100):∃ v1 w1,(Builtin.append_ #[31,31] 31 #[wv,.slice (some ⟨W.heap.size,0,none⟩) 1 1]).run Tryz.prog (W.alloc (.cells #[mpt (X i).g] 28)) = .ok v1 w1∧v1.oneCell'=true ∧
  w1.cell? ⟨gw,5,none⟩=some wv∧w1.frozen? ⟨gw,5,none⟩=false∧WdK w gw V0 nm M nx X cm cx no po (nw+1) (setF px nw i) ov v1 (w1.setCell ⟨gw,5,none⟩ v1)∧KB (fun b=>b=gw∨wv.ownBlock=some b) W (w1.setCell ⟨gw,5,none⟩ v1)∧KB (fun b=>wv.ownBlock=some b) W w1:=by
 have ba:Below W.heap.size W (W.alloc (.cells #[mpt (X i).g] 28)):=(Below.refl _ _).alloc (Nat.le_refl _) _
 have ha:=h.step ba
 obtain ⟨v1,w1,hr,ho,hg,hv⟩:=append_slv (ty:=31) Tryz.underlying31 infoPx rfl (by decide) ha.was (SlV.lit (s:=1) (n:=1) W (fun _=>True) 28 [mpt (X i).g] rfl (by decide) trivial) (by simp [Value.oneCell']) (by unfold maxLen;omega) (by omega) ha.size
 rw [map_range_put (fun i=>mpt (X (px i)).g) nw (fun j=>mpt (X j).g) px i fun _ _=>rfl] at ho
 have hk1:KB (fun b=>wv.ownBlock=some b) W w1:=(KB.of_below ba).trans (KB.of_grown hg fun r e=>e)
 have hgw:wv.ownBlock≠some gw:=own_ty h.was h.blk (by decide)
 have kb1:Blk w1 gw 33 (wcells (mpt (M (cm 0)).g) (mpt (M (cm 1)).g) (mpt (X (cx 0)).g) (mpt (X (cx 1)).g) ov wv):=hk1.blk h.blk fun e=>hgw e
 have hk2:KB (fun b=>b=gw) w1 (w1.setCell ⟨gw,5,none⟩ v1):=kb_cell (M:=fun b=>b=gw) (KB.refl _ _) rfl 5 v1
 have hK:KB (fun b=>b=gw∨wv.ownBlock=some b) W (w1.setCell ⟨gw,5,none⟩ v1):=(hk1.mono fun b e => .inr e).trans (hk2.mono fun b e => .inl e)
 have hv1:∀ b,v1.ownBlock=some b→wv.ownBlock=some b∨W.heap.size≤b:=fun b e=>by
  rcases hv with hv|⟨j,hv,hj⟩
  ·exact .inl (hv.symm.trans e)
  ·rw [hv] at e;have:=Option.some.inj e;have:=ba.size;exact .inr (by omega)
 have hone:v1.oneCell'=true:=by obtain ⟨_,_,e,_⟩:=owns_slv ho;rw [e];rfl
 have ow:∀ b,ov.ownBlock=some b→wv.ownBlock≠some b:=fun b e=>own_ty2 h.was h.old (by decide) b e
 refine ⟨v1,w1,hr,hone,by rw [kb1.cell];rfl,kb1.frozen 5,⟨?_,kb1.set_ 5 v1,?_,?_,h.glo,?_,h.cmb,h.cxb,h.pob,?_,h.bel.trans (hK.below (fun b e=>e.elim (fun e=>e ▸ h.glo) fun e=>(h.was.lt b e).1) h.bel.size)⟩,hK,hk1⟩
 ·refine h.soup.kbV (hK.mono fun b e=>e.imp id fun e => .inr (.inl e)) (fun b hb=>?_) (fun b hb=>?_)
  ·rcases hb with hb|hb|hb|hb
   ·exact .inl (.inl hb)
   ·exact .inl (.inr (.inl hb))
   ·exact (hv1 b hb).imp (fun e => .inr (.inr (.inl e))) id
   ·exact .inl (.inr (.inr (.inr hb)))
  ·rcases hb with rfl|hb|hb|hb
   ·exact Nat.lt_of_lt_of_le h.blk.lt hK.size
   ·exact Nat.lt_of_lt_of_le (h.old.lt b hb).2 hK.size
   ·exact Nat.lt_of_lt_of_le (ho.lt b hb).2 hk2.size
   ·exact Nat.lt_of_lt_of_le (h.soup.vlt b (.inr (.inr (.inr hb)))) hK.size
 ·exact hK.own h.old fun b e e'=>e'.elim (fun e'=>by subst e';exact own_ty h.old h.blk (by decide) e) (ow b e)
 ·exact hk2.own ho fun b e e'=>by subst e';exact own_ty ho kb1 (by decide) e
 ·intro b hb
  obtain ⟨q1,q2,q3,q4⟩:=h.v0 b hb
  exact ⟨q1,q2,fun e=>(hv1 b e).elim q3 fun e'=>by have:=h.soup.vlt b (.inr (.inr (.inr hb)));omega,q4⟩
 ·intro j hj
  by_cases e:j=nw
  ·subst e;rw [setF_eq];exact hi
  ·rw [setF_ne _ _ e];exact h.pxb j (by omega)
theorem WdK.addM (h:WdK w gw V0 nm M nx X cm cx no po nw px ov wv W) (g:Nat) (R:MdR) (m:MoV) (Z:Nat→Prop) {lo:Nat} (hb:Below W.heap.size W W') (hm:Md Z lo g R m W') (hlo:W.heap.size≤lo) (hZ:∀ b,SoU (WV gw ov wv V0) nm M nx X b→Z b):WdK w gw V0 (nm+1) (setF M nm ⟨g,R,m⟩) nx X cm cx no po nw px ov wv W':=by
 have hsz:=h.size
 have en:∀ j,j<nm→setF M nm ⟨g,R,m⟩ j=M j:=fun j hj=>setF_ne _ _ (Nat.ne_of_lt hj)
 have h1:=h.step hb
 refine ⟨h.soup.addM g R m Z hb (hm.lower (Nat.le_trans hsz hlo)) (fun b hw=>Nat.le_trans hlo (hm.lt b hw).1) hZ,?_,?_,h1.was,h.glo,h.v0,fun i hi=>Nat.lt_succ_of_lt (h.cmb i hi),h.cxb,fun i hi=>Nat.lt_succ_of_lt (h.pob i hi),h.pxb,h1.bel⟩
 ·rw [en _ (h.cmb 0 (by decide)),en _ (h.cmb 1 (by decide))]
  exact h1.blk
 ·rw [show (List.range no).map (fun i=>mpt (setF M nm ⟨g,R,m⟩ (po i)).g)=(List.range no).map (fun i=>mpt (M (po i)).g) from List.map_congr_left fun i hi=>by rw [en _ (h.pob i (List.mem_range.1 hi))]]
  exact h1.old
theorem WdK.addX (h:WdK w gw V0 nm M nx X cm cx no po nw px ov wv W) (g:Nat) (R:XdR) (m:MoV) (Z:Nat→Prop) (hb:Below W.heap.size W W') (hx:Xd Z g R m W') (hg:W.heap.size≤g) (hZ:∀ b,SoU (WV gw ov wv V0) nm M nx X b→Z b):WdK w gw V0 nm M (nx+1) (setF X nx ⟨g,R,m⟩) cm cx no po nw px ov wv W':=by
 have hsz:=h.size
 have en:∀ j,j<nx→setF X nx ⟨g,R,m⟩ j=X j:=fun j hj=>setF_ne _ _ (Nat.ne_of_lt hj)
 have h1:=h.step hb
 refine ⟨h.soup.addX g R m Z hb hx hg (Nat.le_trans hsz hg) hZ,?_,h1.old,?_,h.glo,h.v0,h.cmb,fun i hi=>Nat.lt_succ_of_lt (h.cxb i hi),h.pob,fun i hi=>Nat.lt_succ_of_lt (h.pxb i hi),h1.bel⟩
 ·rw [en _ (h.cxb 0 (by decide)),en _ (h.cxb 1 (by decide))]
  exact h1.blk
 ·rw [show (List.range nw).map (fun i=>mpt (setF X nx ⟨g,R,m⟩ (px i)).g)=(List.range nw).map (fun i=>mpt (X (px i)).g) from List.map_congr_left fun i hi=>by rw [en _ (h.pxb i (List.mem_range.1 hi))]]
  exact h1.was
theorem WdK.setCm (h:WdK w gw V0 nm M nx X cm cx no po nw px ov wv W) (k:Nat) (hk:k<2) (i:Nat) (hi:i<nm):W.cell? ⟨gw,k,none⟩=some (mpt (M (cm k)).g)∧W.frozen? ⟨gw,k,none⟩=false∧WdK w gw V0 nm M nx X (setF cm k i) cx no po nw px ov wv (W.setCell ⟨gw,k,none⟩ (mpt (M i).g)):=by
 have hK:KB (fun b=>b=gw) W (W.setCell ⟨gw,k,none⟩ (mpt (M i).g)):=kb_cell (M:=fun b=>b=gw) (KB.refl _ _) rfl k _
 have hb:=h.blk.set_ k (mpt (M i).g)
 refine ⟨?_,h.blk.frozen k,h.soup.kbV (hK.mono fun b e => .inl e) (fun b hb => .inl hb) (fun b hb=>Nat.lt_of_lt_of_le (h.soup.vlt b hb) hK.size),?_,hK.own h.old fun b e e'=>?_,hK.own h.was fun b e e'=>?_,h.glo,h.v0,fun j hj=>?_,h.cxb,h.pob,h.pxb,h.bel.trans (hK.below (fun b e=>e ▸ h.glo) h.bel.size)⟩
 ·rw [h.blk.cell]
  rcases (by omega:k=0∨k=1) with rfl|rfl <;> rfl
 ·rcases (by omega:k=0∨k=1) with rfl|rfl
  ·rw [setF_eq,setF_ne _ _ (by decide)];exact hb
  ·rw [setF_eq,setF_ne _ _ (by decide)];exact hb
 ·subst e';exact own_ty h.old h.blk (by decide) e
 ·subst e';exact own_ty h.was h.blk (by decide) e
 ·by_cases e:j=k
  ·subst e;rw [setF_eq];exact hi
  ·rw [setF_ne _ _ e];exact h.cmb j hj
theorem WdK.setCx (h:WdK w gw V0 nm M nx X cm cx no po nw px ov wv W) (k:Nat) (hk:k<2) (i:Nat) (hi:i<nx):W.cell? ⟨gw,2+k,none⟩=some (mpt (X (cx k)).g)∧W.frozen? ⟨gw,2+k,none⟩=false∧WdK w gw V0 nm M nx X cm (setF cx k i) no po nw px ov wv (W.setCell ⟨gw,2+k,none⟩ (mpt (X i).g)):=by
 have hK:KB (fun b=>b=gw) W (W.setCell ⟨gw,2+k,none⟩ (mpt (X i).g)):=kb_cell (M:=fun b=>b=gw) (KB.refl _ _) rfl (2+k) _
 have hb:=h.blk.set_ (2+k) (mpt (X i).g)
 refine ⟨?_,h.blk.frozen (2+k),h.soup.kbV (hK.mono fun b e => .inl e) (fun b hb => .inl hb) (fun b hb=>Nat.lt_of_lt_of_le (h.soup.vlt b hb) hK.size),?_,hK.own h.old fun b e e'=>?_,hK.own h.was fun b e e'=>?_,h.glo,h.v0,h.cmb,fun j hj=>?_,h.pob,h.pxb,h.bel.trans (hK.below (fun b e=>e ▸ h.glo) h.bel.size)⟩
 ·rw [h.blk.cell]
  rcases (by omega:k=0∨k=1) with rfl|rfl <;> rfl
 ·rcases (by omega:k=0∨k=1) with rfl|rfl
  ·rw [setF_eq,setF_ne _ _ (by decide)];exact hb
  ·rw [setF_eq,setF_ne _ _ (by decide)];exact hb
 ·subst e';exact own_ty h.old h.blk (by decide) e
 ·subst e';exact own_ty h.was h.blk (by decide) e
 ·by_cases e:j=k
  ·subst e;rw [setF_eq];exact hi
  ·rw [setF_ne _ _ e];exact h.cxb j hj
theorem WdK.j (h:WdK w gw V0 nm M nx X cm cx no po no px ov wv W) (pr:Nat→Nat × Nat) (hp0:∀ i,i<2→pr i=(cm i,cx i)) (hp:∀ i,i<no→pr (i+2)=(po i,px i)) (hi:∀ i j,i<no+2→j<no+2→i≠j→(pr i).1≠(pr j).1∧(pr i).2≠(pr j).2):WdJ w gw V0 ⟨nm,M,nx,X,pr,no+2,ov,wv⟩ W:=by
 have h0:=hp0 0 (by decide)
 have h1:=hp0 1 (by decide)
 refine ⟨h.soup,?_,?_,?_,h.glo,h.v0,by show 2≤no+2;omega,fun i hi'=>?_,hi,h.bel⟩
 ·show Blk W gw _ (wcells (mpt (M (pr 0).1).g) (mpt (M (pr 1).1).g) (mpt (X (pr 0).2).g) (mpt (X (pr 1).2).g) ov wv)
  rw [h0,h1]
  exact h.blk
 ·show W.ownsRow _ _ 1 ov (no+2 - 2) ((List.range (no+2 - 2)).map fun i=>mpt (M (pr (i+2)).1).g)
  rw [Nat.add_sub_cancel,show (List.range no).map (fun i=>mpt (M (pr (i+2)).1).g)=(List.range no).map (fun i=>mpt (M (po i)).g) from List.map_congr_left fun i hi=>by rw [hp i (List.mem_range.1 hi)]]
  exact h.old
 ·show W.ownsRow _ _ 1 wv (no+2 - 2) ((List.range (no+2 - 2)).map fun i=>mpt (X (pr (i+2)).2).g)
  rw [Nat.add_sub_cancel,show (List.range no).map (fun i=>mpt (X (pr (i+2)).2).g)=(List.range no).map (fun i=>mpt (X (px i)).g) from List.map_congr_left fun i hi=>by rw [hp i (List.mem_range.1 hi)]]
  exact h.was
 ·have hi':i<no+2:=hi'
  by_cases e:i<2
  ·show (pr i).1<nm∧(pr i).2<nx
   rw [hp0 i e]
   exact ⟨h.cmb i e,h.cxb i e⟩
  ·obtain ⟨j,rfl⟩:∃ j,i=j+2:=⟨i - 2,by omega⟩
   show (pr (j+2)).1<nm∧(pr (j+2)).2<nx
   rw [hp j (by omega)]
   exact ⟨h.pob j (by omega),h.pxb j (by omega)⟩
end
end Go.Proofs.YtdjhoankkddomaaGreat
namespace Go.Proofs.YtdjhoankkddomaaGreat
open Go Go.RowKit Go.Shelf
section
variable {w W:World} {gw n:Nat} {S:WS} {ov wv:Value}
theorem WdK.jA {k no g gx:Nat} {R:MdR} {Rx:XdR} {mo:MoV} (h:WdK w gw (fun _=>False) (S.nm+1) (setF S.M S.nm ⟨g,R,mo⟩) (S.nx+1) (setF S.X S.nx ⟨gx,Rx,mo⟩) (setF (fun i=>(S.pr i).1) k S.nm) (fun i=>(S.pr i).2) (no+1) (setF (fun i=>(S.pr (i+2)).1) no (S.pr k).1) (no+1) (setF (fun i=>(S.pr (i+2)).2) no S.nx) ov wv W)
  (hno:S.np=no+2) (hk:k<2) (hinb:∀ i,i<S.np→(S.pr i).1<S.nm∧(S.pr i).2<S.nx) (hinj:∀ i j,i<S.np→j<S.np→i≠j→(S.pr i).1≠(S.pr j).1∧(S.pr i).2≠(S.pr j).2) (hq:EqB n S) (hmo:(S.M (S.pr k).1).m=mo) (hmx:(S.X (S.pr k).2).m=mo) (hl:no<10):StepQ w gw n W:=by
 have hkn:k<S.np:=by omega
 obtain ⟨pr',hpr⟩:∃ pr':Nat→Nat × Nat,∀ i,pr' i=if i=k then (S.nm,(S.pr k).2) else if i=no+2 then ((S.pr k).1,S.nx) else S.pr i:=⟨_,fun _=>rfl⟩
 have pk:pr' k=(S.nm,(S.pr k).2):=by rw [hpr,if_pos rfl]
 have pn:pr' (no+2)=((S.pr k).1,S.nx):=by rw [hpr,if_neg (by omega),if_pos rfl]
 have pe:∀ i,i<no+2→i≠k→pr' i=S.pr i:=fun i hi he=>by rw [hpr,if_neg he,if_neg (by omega)]
 have hc:∀ i,i<no+3→i=k∨i=no+2∨(i<no+2∧i≠k):=fun i hi=>by omega
 have bk:=hinb k hkn
 have hJ:=h.j pr' (fun i hi=>?_) (fun i hi=>?_) (fun i j hi hj hij=>?_)
 ·refine ⟨_,hJ,fun i hi=>?_,by show no+1+2≤12;omega⟩
  have hi:i<no+3:=hi
  show ((setF S.M S.nm ⟨g,R,mo⟩) (pr' i).1).m=((setF S.X S.nx ⟨gx,Rx,mo⟩) (pr' i).2).m∧Bd n ((setF S.M S.nm ⟨g,R,mo⟩) (pr' i).1).m
  rcases hc i hi with rfl|rfl|⟨h1,h2⟩
  ·rw [pk,setF_eq,setF_ne _ _ (Nat.ne_of_lt bk.2)]
   exact ⟨hmx.symm,by rw [← hmo];exact (hq i hkn).2⟩
  ·rw [pn,setF_eq,setF_ne _ _ (Nat.ne_of_lt bk.1)]
   exact ⟨hmo,(hq k hkn).2⟩
  ·have bi:=hinb i (by omega)
   rw [pe i h1 h2,setF_ne _ _ (Nat.ne_of_lt bi.1),setF_ne _ _ (Nat.ne_of_lt bi.2)]
   exact hq i (by omega)
 ·by_cases e:i=k
  ·subst e;rw [pk,setF_eq]
  ·rw [pe i (by omega) e,setF_ne _ _ e]
 ·by_cases e:i=no
  ·subst e;rw [pn,setF_eq,setF_eq]
  ·rw [pe (i+2) (by omega) (by omega),setF_ne _ _ e,setF_ne _ _ e]
 ·rcases hc i (by omega) with rfl|rfl|⟨h1,h2⟩
  ·rcases hc j (by omega) with rfl|rfl|⟨h3,h4⟩
   ·exact absurd rfl hij
   ·rw [pk,pn];exact ⟨Nat.ne_of_gt bk.1,Nat.ne_of_lt bk.2⟩
   ·rw [pk,pe j h3 h4]
    have bj:=hinb j (by omega)
    exact ⟨Nat.ne_of_gt bj.1,(hinj i j hkn (by omega) (fun e=>h4 e.symm)).2⟩
  ·rcases hc j (by omega) with rfl|rfl|⟨h3,h4⟩
   ·rw [pk,pn];exact ⟨Nat.ne_of_lt bk.1,Nat.ne_of_gt bk.2⟩
   ·exact absurd rfl hij
   ·rw [pn,pe j h3 h4]
    have bj:=hinb j (by omega)
    exact ⟨(hinj k j hkn (by omega) (fun e=>h4 e.symm)).1,Nat.ne_of_gt bj.2⟩
  ·have bi:=hinb i (by omega)
   rcases hc j (by omega) with rfl|rfl|⟨h3,h4⟩
   ·rw [pk,pe i h1 h2]
    exact ⟨Nat.ne_of_lt bi.1,(hinj i j (by omega) hkn h2).2⟩
   ·rw [pn,pe i h1 h2]
    exact ⟨(hinj i k (by omega) hkn h2).1,Nat.ne_of_lt bi.2⟩
   ·rw [pe i h1 h2,pe j h3 h4]
    exact hinj i j (by omega) (by omega) hij
theorem WdK.jB {k no g:Nat} {R:MdR} {mo:MoV} (h:WdK w gw (fun _=>False) (S.nm+1) (setF S.M S.nm ⟨g,R,mo⟩) S.nx S.X (setF (fun i=>(S.pr i).1) k S.nm) (fun i=>(S.pr i).2) no (fun i=>(S.pr (i+2)).1) no (fun i=>(S.pr (i+2)).2) ov wv W)
  (hno:S.np=no+2) (hk:k<2) (hinb:∀ i,i<S.np→(S.pr i).1<S.nm∧(S.pr i).2<S.nx) (hinj:∀ i j,i<S.np→j<S.np→i≠j→(S.pr i).1≠(S.pr j).1∧(S.pr i).2≠(S.pr j).2) (hq:EqB n S) (hmo:(S.M (S.pr k).1).m=mo) (hmx:(S.X (S.pr k).2).m=mo) (hl:S.np≤12):StepQ w gw n W:=by
 have hkn:k<S.np:=by omega
 obtain ⟨pr',hpr⟩:∃ pr':Nat→Nat × Nat,∀ i,pr' i=if i=k then (S.nm,(S.pr k).2) else S.pr i:=⟨_,fun _=>rfl⟩
 have pk:pr' k=(S.nm,(S.pr k).2):=by rw [hpr,if_pos rfl]
 have pe:∀ i,i≠k→pr' i=S.pr i:=fun i he=>by rw [hpr,if_neg he]
 have bk:=hinb k hkn
 have hJ:=h.j pr' (fun i hi=>?_) (fun i hi=>?_) (fun i j hi hj hij=>?_)
 ·refine ⟨_,hJ,fun i hi=>?_,by show no+2≤12;omega⟩
  have hi:i<no+2:=hi
  show ((setF S.M S.nm ⟨g,R,mo⟩) (pr' i).1).m=(S.X (pr' i).2).m∧Bd n ((setF S.M S.nm ⟨g,R,mo⟩) (pr' i).1).m
  by_cases e:i=k
  ·subst e
   rw [pk,setF_eq]
   exact ⟨hmx.symm,by rw [← hmo];exact (hq i hkn).2⟩
  ·have bi:=hinb i (by omega)
   rw [pe i e,setF_ne _ _ (Nat.ne_of_lt bi.1)]
   exact hq i (by omega)
 ·by_cases e:i=k
  ·subst e;rw [pk,setF_eq]
  ·rw [pe i e,setF_ne _ _ e]
 ·rw [pe (i+2) (by omega)]
 ·by_cases e:i=k
  ·subst e
   have bj:=hinb j (by omega)
   rw [pk,pe j (fun e=>hij e.symm)]
   exact ⟨Nat.ne_of_gt bj.1,(hinj i j hkn (by omega) hij).2⟩
  ·have bi:=hinb i (by omega)
   by_cases e':j=k
   ·subst e'
    rw [pk,pe i e]
    exact ⟨Nat.ne_of_lt bi.1,(hinj i j (by omega) hkn e).2⟩
   ·rw [pe i e,pe j e']
    exact hinj i j (by omega) (by omega) hij
theorem WdK.jC {k no g gx n':Nat} {R:MdR} {Rx:XdR} {m':MoV} (h:WdK w gw (fun _=>False) (S.nm+1) (setF S.M S.nm ⟨g,R,m'⟩) (S.nx+1) (setF S.X S.nx ⟨gx,Rx,m'⟩) (setF (fun i=>(S.pr i).1) k S.nm) (setF (fun i=>(S.pr i).2) k S.nx) no (fun i=>(S.pr (i+2)).1) no (fun i=>(S.pr (i+2)).2) ov wv W)
  (hno:S.np=no+2) (hk:k<2) (hinb:∀ i,i<S.np→(S.pr i).1<S.nm∧(S.pr i).2<S.nx) (hinj:∀ i j,i<S.np→j<S.np→i≠j→(S.pr i).1≠(S.pr j).1∧(S.pr i).2≠(S.pr j).2) (hq:EqB n S) (hn:n≤n') (hb:Bd n' m') (hl:S.np≤12):StepQ w gw n' W:=by
 have hkn:k<S.np:=by omega
 obtain ⟨pr',hpr⟩:∃ pr':Nat→Nat × Nat,∀ i,pr' i=if i=k then (S.nm,S.nx) else S.pr i:=⟨_,fun _=>rfl⟩
 have pk:pr' k=(S.nm,S.nx):=by rw [hpr,if_pos rfl]
 have pe:∀ i,i≠k→pr' i=S.pr i:=fun i he=>by rw [hpr,if_neg he]
 have hJ:=h.j pr' (fun i hi=>?_) (fun i hi=>?_) (fun i j hi hj hij=>?_)
 ·refine ⟨_,hJ,fun i hi=>?_,by show no+2≤12;omega⟩
  have hi:i<no+2:=hi
  show ((setF S.M S.nm ⟨g,R,m'⟩) (pr' i).1).m=((setF S.X S.nx ⟨gx,Rx,m'⟩) (pr' i).2).m∧Bd n' ((setF S.M S.nm ⟨g,R,m'⟩) (pr' i).1).m
  by_cases e:i=k
  ·subst e
   rw [pk,setF_eq,setF_eq]
   exact ⟨rfl,hb⟩
  ·have bi:=hinb i (by omega)
   rw [pe i e,setF_ne _ _ (Nat.ne_of_lt bi.1),setF_ne _ _ (Nat.ne_of_lt bi.2)]
   exact ⟨(hq i (by omega)).1,(hq i (by omega)).2.up hn⟩
 ·by_cases e:i=k
  ·subst e;rw [pk,setF_eq,setF_eq]
  ·rw [pe i e,setF_ne _ _ e,setF_ne _ _ e]
 ·rw [pe (i+2) (by omega)]
 ·by_cases e:i=k
  ·subst e
   have bj:=hinb j (by omega)
   rw [pk,pe j (fun e=>hij e.symm)]
   exact ⟨Nat.ne_of_gt bj.1,Nat.ne_of_gt bj.2⟩
  ·have bi:=hinb i (by omega)
   by_cases e':j=k
   ·subst e'
    rw [pk,pe i e]
    exact ⟨Nat.ne_of_lt bi.1,Nat.ne_of_lt bi.2⟩
   ·rw [pe i e,pe j e']
    exact hinj i j (by omega) (by omega) hij
end
end Go.Proofs.YtdjhoankkddomaaGreat
namespace Go.Proofs.YtdjhoankkddomaaGreat
open Go Go.RowKit Go.Shelf
attribute [local go_sem] Oper.semAt_some
theorem StepQ.up {w W:World} {gw n n':Nat} (h:StepQ w gw n W) (hn:n≤n'):StepQ w gw n' W:=let ⟨S,h1,h2,h3⟩:=h;⟨S,h1,h2.up hn,h3⟩
theorem sizePm:∀ w:World,(sizeOf 30).run Tryz.prog w = .ok 1 w:=fun _=>by kernel_rfl
theorem sizePx:∀ w:World,(sizeOf 31).run Tryz.prog w = .ok 1 w:=fun _=>by kernel_rfl
theorem sizePtrM:∀ w:World,(sizeOf 26).run Tryz.prog w = .ok 1 w:=fun _=>by kernel_rfl
theorem sizePtrX:∀ w:World,(sizeOf 28).run Tryz.prog w = .ok 1 w:=fun _=>by kernel_rfl
set_option maxHeartbeats 16000000 in
set_option maxRecDepth 100000 in
theorem step8_any {w W:World} {gw n:Nat} {S:WS} (h:WdJ w gw (fun _=>False) S W) (hq:EqB n S) (hnp:S.np≤12) (hn:n≤1000) (so sa sb:Int) (sA:Option Addr) (sn sc:Nat) :
  Calls Tryz.prog 7 #[mpt gw,.agg #[.int .i64 8,.int .i64 so,.int .i64 sa,.int .i64 sb,.slice sA sn sc]] W fun e w'=>e = .returned (.bool true)∧StepQ w gw (n+1) w':=by
 obtain ⟨w1,hw1⟩:∃ x,W.alloc (.cells #[.int .i64 8,.int .i64 so,.int .i64 sa,.int .i64 sb,.slice sA sn sc] 43)=x:=⟨_,rfl⟩
 have B1:Below W.heap.size W w1:=by rw [← hw1];exact (Below.refl _ _).alloc (Nat.le_refl _) _
 have k1:Blk w1 W.heap.size 43 #[.int .i64 8,.int .i64 so,.int .i64 sa,.int .i64 sb,.slice sA sn sc]:=by rw [← hw1];exact Blk.new _ _ _
 have c1:w1.cell? ⟨W.heap.size,1,none⟩=some (.int .i64 so):=by rw [k1.cell];rfl
 obtain ⟨k,hkx,hk2⟩:=rem_two so
 have hkn:k<S.np:=Nat.lt_of_lt_of_le hk2 h.two
 have dk1:decide ((k:Int)<2)=true:=by simp;omega
 have dk2:(k:Int)<2:=by omega
 have hS:Below W.heap.size W w1.drew:=B1.drew
 have cM:∀ s:InC (fun W'=>Below W.heap.size W W'),s.W.cell? ⟨gw,k,none⟩=some (mpt (S.gm k)):=fun s=>(h.step s.ok).cm k hk2
 have cX:∀ s:InC (fun W'=>Below W.heap.size W W'),s.W.cell? ⟨gw,2+k,none⟩=some (mpt (S.gx k)):=fun s=>(h.step s.ok).cx k hk2
 have ks:Blk w1.drew W.heap.size 43 #[.int .i64 8,.int .i64 so,.int .i64 sa,.int .i64 sb,.slice sA sn sc]:=k1.step (Below.refl w1.heap.size w1).drew
 have Hw1:=Lib.hid hw1
 have Hkx:=Lib.hid hkx
 have Hh:=Lib.hid h
 clear hw1 h k1 B1 hkx
 go_enter Tryz.func7,Tryz.ntmps7
 go_upto_region 2 with (rw [Hw1.out])
 rw [Hkx.out]
 refine wp_region_mix (fun W'=>Below W.heap.size W W') [(0,true),(1,true),(2,true),(3,true),(4,true),(5,true),(6,true),(7,true),(8,true),(9,true),(10,true),(11,true),(12,true),(13,true)] (by kernel_rfl) (by kernel_rfl) hS fun _=>?_
 simp only [List.map_cons,List.map_nil,Array.getD_eq_getD_getElem?,List.getElem?_toArray,List.getElem?_cons_succ,List.getElem?_cons_zero,Option.getD_some]
 generalize w1.drew=W0 at hS ks ⊢
 iterate 14 (refine wpMix_s (fun K hK=>?_);go_simp;refine hK _ ?_;clear hK K)
 refine wpMix_nil ?_
 intro _
 have h:=Hh.out.step hS
 have cs0:W0.cell? ⟨W.heap.size,0,none⟩=some (.int .i64 8):=by rw [ks.cell];rfl
 have hgs:∀ b,SoU (WV gw S.ov S.wv fun _=>False) S.nm S.M S.nx S.X b→b<W.heap.size:=Hh.out.soup.ult
 clear Hh cM cX Hw1 Hkx c1
 obtain ⟨hmx,hbd⟩:=hq k hkn
 have hMd:=h.md k hkn
 have hXd:=h.xd k hkn
 obtain ⟨mo,hmo⟩:∃ x,(S.M (S.pr k).1).m=x:=⟨_,rfl⟩
 have hxm:(S.X (S.pr k).2).m=mo:=hmx.symm.trans hmo
 rw [hxm] at hXd
 rw [hmo] at hMd hbd
 have HXm:=Lib.hid hxm
 have HInj:=Lib.hid h.inj
 have HMo:=Lib.hid hmo
 clear hmo hmx hxm
 have he:=hbd.eq
 have hb:=hbd.eb
 have HInb:=Lib.hid h.inb
 have Hq:=Lib.hid hq
 have ht2:=h.two
 obtain ⟨Ao,co,hov,hso⟩:=owns_slv h.old
 obtain ⟨Aw,cw,hwv,hsw⟩:=owns_slv h.was
 have hro:=hso.room
 have hmo:=hso.max
 unfold maxLen at hmo
 obtain ⟨no,hno⟩:∃ x,S.np - 2=x:=⟨_,rfl⟩
 have hnp2:S.np=no+2:=by omega
 have hK0:=h.k
 rw [hno] at hov hwv hK0 hro
 have hc4:W0.cell? ⟨gw,4,none⟩=some (.slice Ao no co):=by rw [h.cell,← hov];rfl
 clear hMd hXd hso hsw hq
 by_cases hpush:no<10
 ·have dp1:decide ((no:Int)<10)=true:=by simp;omega
  have dp2:(no:Int)<10:=by omega
  obtain ⟨v1,w1,hr1,z1,x1,y1,hK2,-⟩:=hK0.pushO (S.pr k).1 (h.inb k hkn).1 (by omega)
  rw [hov] at hr1 x1
  obtain ⟨w2,hw2⟩:∃ x,w1.setCell ⟨gw,4,none⟩ v1=x:=⟨_,rfl⟩
  rw [hw2] at hK2
  have Hw2:=Lib.hid hw2
  have hXk:=hK2.soup.xd _ (h.inb k hkn).2
  rw [HXm.out] at hXk
  have cx:=fun V (hb:Below w2.heap.size w2 V)=>xcopy_any (hXk.step hb) (SoU (WV gw v1 S.wv fun _=>False) S.nm S.M S.nx S.X) (fun b hb=>(Classical.em (b=(S.X (S.pr k).2).g)).imp id fun hn=>And.intro hb hn)
  have CX:=Lib.hid cx
  have hgwo:S.wv.ownBlock≠some gw:=own_ty hK2.was hK2.blk (by decide)
  have hT:KB (fun b=>S.wv.ownBlock=some b) w2 w2.drew:=KB.of_below (Below.refl _ _).drew
  have hD:Below w2.heap.size w2 w2.drew:=(Below.refl _ _).drew
  have E5:∀ s:InC (fun W'=>KB (fun b=>S.wv.ownBlock=some b) w2 W'),s.W.cell? ⟨gw,5,none⟩=some (.slice Aw no cw):=fun s=>by
   rw [(s.ok.blk hK2.blk hgwo).cell,← hwv]
   rfl
  have HK2:=Lib.hid hK2
  have hwvl:∀ b,S.wv.ownBlock=some b→w.heap.size≤b:=fun b e=>(hK2.was.lt b e).1
  clear hw2 hXk cx hK2 h hK0
  go_wp2_with (first
   | ((with_reducible show wpList _ _ _ (⟨some 203,.buildSlice _ _ _,_,_,_,_⟩::_) _ _);refine wpList_run rfl (.slice (some ⟨W0.heap.size,0,none⟩) 1 1) (W0.alloc (.cells #[mpt (S.gm k)] 26)) (by kernel_rfl) ?_;simp only [Act.put,List.setIfInBounds_toArray,List.set_cons_succ,List.set_cons_zero])
   | ((with_reducible show wpList _ _ _ (⟨some 204,.call _,_,_,_,_⟩::_) _ _);refine wpList_run rfl v1 w1 (run_append_op (.tmp 201) (.tmp 203) 30 rfl _ _ rfl rfl hr1) ?_;simp only [Act.put,List.setIfInBounds_toArray,List.set_cons_succ,List.set_cons_zero])
   | ((with_reducible show wpList _ _ _ [⟨none,.store _ (.tmp 206) _,_,_,_,_⟩] _ _);refine wpList_put1i rfl 30 (.tmp 206) (.tmp 204) rfl sizePm ⟨gw,4,none⟩ v1 rfl rfl z1 _ x1 y1 ?_;rw [Hw2.out];simp only [Act.put]))
  refine wp_region_mix_tail (fun W'=>KB (fun b=>S.wv.ownBlock=some b) w2 W') 11 [(0,true),(1,true),(2,true),(3,true),(4,true),(5,true),(6,false),(7,false),(8,false),(9,true),(10,true)] (by kernel_rfl) (by kernel_rfl) hT fun _=>?_
  simp only [List.map_cons,List.map_nil,Array.getD_eq_getD_getElem?,List.getElem?_toArray,List.getElem?_cons_succ,List.getElem?_cons_zero,Option.getD_some]
  generalize w2.drew=Wc at hT hD ⊢
  iterate 6 (refine wpMix_s (fun K hK=>?_);go_simp;refine hK _ ?_;clear hK K)
  refine wpMix_c (fun K hK=>?_) hT
  go_simp
  refine (CX.out Wc hD).mono ?_
  rintro e Wcx ⟨g6,rfl,hg6,hX6,b6⟩
  refine hK _ _ ?_
  clear hK K
  have hK4:=(HK2.out.step hD).addX g6 _ mo _ b6 hX6 hg6 (fun b hb=>hb)
  obtain ⟨v5,w5a,hr5,z5,x5,y5,hK6,-,hk6⟩:=hK4.pushW S.nx (Nat.lt_succ_self _) (by omega)
  rw [hwv] at hr5 x5
  simp only [setF_eq] at hr5
  replace hT:=hT.trans (KB.of_below b6)
  refine ⟨hT,?_⟩
  have HK6:=Lib.hid hK6
  clear hK4 hX6 hg6 b6 hK6 hD
  refine wpMix_run (by kernel_rfl) (.slice (some ⟨Wcx.heap.size,0,none⟩) 1 1) (Wcx.alloc (.cells #[mpt g6] 28)) (by kernel_rfl) (hT.trans (KB.of_below ((Below.refl _ _).alloc (Nat.le_refl _) _))) ?_
  simp only [Act.put,List.setIfInBounds_toArray,List.set_cons_succ,List.set_cons_zero]
  refine wpMix_run (by kernel_rfl) v5 w5a (run_append_op (.tmp 211) (.tmp 214) 31 rfl _ _ rfl rfl hr5) (hT.trans hk6) ?_
  simp only [Act.put,List.setIfInBounds_toArray,List.set_cons_succ,List.set_cons_zero]
  iterate 2 (refine wpMix_s (fun K hK=>?_);go_simp;refine hK _ ?_;clear hK K)
  refine wpMix_nil ?_
  intro _
  simp only [List.drop_succ_cons,List.drop_zero]
  refine wpList_put1i rfl 31 (.tmp 217) (.tmp 215) rfl sizePx ⟨gw,5,none⟩ v5 rfl rfl z5 _ x5 y5 ?_
  simp only [Act.put]
  refine wpList_nil ?_
  refine np_normal ?_
  obtain ⟨w5,hw5⟩:∃ x,w5a.setCell ⟨gw,5,none⟩ v5=x:=⟨_,rfl⟩
  have hK5:=HK6.out
  rw [hw5] at hK5 ⊢
  clear hw5 HK6 hT hr1 z1 x1 y1 HK2 E5
  have hMk:=hK5.soup.md _ (HInb.out k hkn).1
  rw [HMo.out] at hMk
  have cm:=fun V (hb:Below w5.heap.size w5 V)=>mcopy_any _ _ _ _ _ V (hMk.step hb) _ (fun b hb=>(Classical.em (MdW (S.gm k) (S.M (S.pr k).1).R b)).imp id fun hn=>And.intro hb hn) (by omega) (by omega) (by omega)
  have CM:=Lib.hid cm
  have hT:Below w5.heap.size w5 w5.drew:=(Below.refl _ _).drew
  have HK5:=Lib.hid hK5
  clear hMk cm hK5
  go_wp2_with fail
  refine wp_region_mix_tail (fun W'=>Below w5.heap.size w5 W') 7 [(0,true),(1,true),(2,true),(4,true),(5,true),(3,false),(6,true)] (by kernel_rfl) (by kernel_rfl) hT fun _=>?_
  simp only [List.map_cons,List.map_nil,Array.getD_eq_getD_getElem?,List.getElem?_toArray,List.getElem?_cons_succ,List.getElem?_cons_zero,Option.getD_some]
  generalize w5.drew=Wd at hT ⊢
  iterate 5 (refine wpMix_s (fun K hK=>?_);go_simp;refine hK _ ?_;clear hK K)
  refine wpMix_c (fun K hK=>?_) hT
  go_simp
  refine (CM.out Wd hT).mono ?_
  rintro e Wdm ⟨g8,R8,rfl,hM8,b8⟩
  refine hK _ _ ?_
  clear hK K
  have hK8:=(HK5.out.step hT).addM g8 R8 mo _ b8 hM8 (Nat.le_refl _) (fun b hb=>hb)
  obtain ⟨x8,y8,hK9⟩:=hK8.setCm k hk2 S.nm (Nat.lt_succ_self _)
  simp only [setF_eq] at hK9
  replace hT:=hT.trans (b8.mono hT.size)
  refine ⟨hT,?_⟩
  have HK9:=Lib.hid hK9
  clear hK8 hM8 b8 hK9
  (refine wpMix_s (fun K hK=>?_);go_simp;refine hK _ ?_;clear hK K)
  refine wpMix_nil ?_
  intro _
  simp only [List.drop_succ_cons,List.drop_zero]
  refine wpList_put1i rfl 26 (.tmp 224) (.tmp 221) rfl sizePtrM ⟨gw,k,none⟩ (mpt g8) rfl rfl rfl _ x8 y8 ?_
  simp only [Act.put]
  refine wpList_nil ?_
  refine np_normal ?_
  obtain ⟨w9,hw9⟩:∃ x,Wdm.setCell ⟨gw,k,none⟩ (mpt g8)=x:=⟨_,rfl⟩
  have hKf:=HK9.out
  rw [hw9] at hKf ⊢
  have c9:w9.cell? ⟨gw,k,none⟩=some (mpt g8):=by
   have h9:=(hKf.setCm k hk2 S.nm (Nat.lt_succ_self _)).1
   simp only [setF_eq] at h9
   exact h9
  clear hw9 x8 y8 HK9
  go_wp2_with fail
  go_ret
  exact ⟨rfl,StepQ.up (WdK.jA hKf hnp2 hk2 HInb.out HInj.out Hq.out HMo.out HXm.out hpush) (Nat.le_succ _)⟩
 ·have dp1:decide ((no:Int)<10)=false:=by simp;omega
  have dp2:¬ (no:Int)<10:=by omega
  have hMk:=hK0.soup.md _ (HInb.out k hkn).1
  rw [HMo.out] at hMk
  have cm:=fun V (hb:Below W0.heap.size W0 V)=>mcopy_any _ _ _ _ _ V (hMk.step hb) _ (fun b hb=>(Classical.em (MdW (S.gm k) (S.M (S.pr k).1).R b)).imp id fun hn=>And.intro hb hn) (by omega) (by omega) (by omega)
  have CM:=Lib.hid cm
  have hT:Below W0.heap.size W0 W0.drew:=(Below.refl _ _).drew
  have HK5:=Lib.hid hK0
  clear hMk cm hK0
  clear h
  go_wp2_with fail
  refine wp_region_mix_tail (fun W'=>Below W0.heap.size W0 W') 7 [(0,true),(1,true),(2,true),(4,true),(5,true),(3,false),(6,true)] (by kernel_rfl) (by kernel_rfl) hT fun _=>?_
  simp only [List.map_cons,List.map_nil,Array.getD_eq_getD_getElem?,List.getElem?_toArray,List.getElem?_cons_succ,List.getElem?_cons_zero,Option.getD_some]
  generalize W0.drew=Wd at hT ⊢
  iterate 5 (refine wpMix_s (fun K hK=>?_);go_simp;refine hK _ ?_;clear hK K)
  refine wpMix_c (fun K hK=>?_) hT
  go_simp
  refine (CM.out Wd hT).mono ?_
  rintro e Wdm ⟨g8,R8,rfl,hM8,b8⟩
  refine hK _ _ ?_
  clear hK K
  have hK8:=(HK5.out.step hT).addM g8 R8 mo _ b8 hM8 (Nat.le_refl _) (fun b hb=>hb)
  obtain ⟨x8,y8,hK9⟩:=hK8.setCm k hk2 S.nm (Nat.lt_succ_self _)
  simp only [setF_eq] at hK9
  replace hT:=hT.trans (b8.mono hT.size)
  refine ⟨hT,?_⟩
  have HK9:=Lib.hid hK9
  clear hK8 hM8 b8 hK9
  (refine wpMix_s (fun K hK=>?_);go_simp;refine hK _ ?_;clear hK K)
  refine wpMix_nil ?_
  intro _
  simp only [List.drop_succ_cons,List.drop_zero]
  refine wpList_put1i rfl 26 (.tmp 224) (.tmp 221) rfl sizePtrM ⟨gw,k,none⟩ (mpt g8) rfl rfl rfl _ x8 y8 ?_
  simp only [Act.put]
  refine wpList_nil ?_
  refine np_normal ?_
  obtain ⟨w9,hw9⟩:∃ x,Wdm.setCell ⟨gw,k,none⟩ (mpt g8)=x:=⟨_,rfl⟩
  have hKf:=HK9.out
  rw [hw9] at hKf ⊢
  have c9:w9.cell? ⟨gw,k,none⟩=some (mpt g8):=by
   have h9:=(hKf.setCm k hk2 S.nm (Nat.lt_succ_self _)).1
   simp only [setF_eq] at h9
   exact h9
  clear hw9 x8 y8 HK9
  go_wp2_with fail
  go_ret
  exact ⟨rfl,StepQ.up (WdK.jB hKf hnp2 hk2 HInb.out HInj.out Hq.out HMo.out HXm.out hnp) (Nat.le_succ _)⟩
end Go.Proofs.YtdjhoankkddomaaGreat
