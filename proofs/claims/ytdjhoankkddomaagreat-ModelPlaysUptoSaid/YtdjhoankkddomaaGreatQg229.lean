import Derived.Test.YtdjhoankkddomaaGreatQg228
import Derived.Test.YtdjhoankkddomaaGreatQg225
import Derived.Test.YtdjhoankkddomaaGreatQg219
import Derived.Test.YtdjhoankkddomaaGreatQg224
namespace Go.Proofs.YtdjhoankkddomaaGreat
open Go Go.RowKit
structure MP where
 g:Nat
 R:MdR
 m:MoV
structure XP where
 g:Nat
 R:XdR
 m:MoV
def SoU (V:Nat→Prop) (nm:Nat) (M:Nat→MP) (nx:Nat) (X:Nat→XP) (b:Nat):Prop :=
 V b∨(∃ i,i<nm∧MdW (M i).g (M i).R b)∨∃ i,i<nx∧b=(X i).g
structure Soup (base:Nat) (V:Nat→Prop) (nm:Nat) (M:Nat→MP) (nx:Nat) (X:Nat→XP) (W:World):Prop where
 md:∀ i,i<nm→Md (fun b=>SoU V nm M nx X b∧¬ MdW (M i).g (M i).R b) base (M i).g (M i).R (M i).m W
 xd:∀ i,i<nx→Xd (fun b=>SoU V nm M nx X b∧b≠(X i).g) (X i).g (X i).R (X i).m W
 mm:∀ i j,i<nm→j<nm→i≠j→∀ b,MdW (M i).g (M i).R b→¬ MdW (M j).g (M j).R b
 mx:∀ i j,i<nm→j<nx→¬ MdW (M i).g (M i).R (X j).g
 xx:∀ i j,i<nx→j<nx→i≠j→(X i).g≠(X j).g
 mv:∀ i,i<nm→∀ b,MdW (M i).g (M i).R b→¬ V b
 xv:∀ i,i<nx→¬ V (X i).g
 vlt:∀ b,V b→b<W.heap.size
 xlo:∀ i,i<nx→base≤(X i).g
def setF {α:Type} (f:Nat→α) (k:Nat) (x:α) (i:Nat):α:=if i=k then x else f i
theorem setF_eq {α:Type} (f:Nat→α) (k:Nat) (x:α):setF f k x k=x:=if_pos rfl
theorem setF_ne {α:Type} (f:Nat→α) {k i:Nat} (x:α) (h:i≠k):setF f k x i=f i:=if_neg h
section
variable {base nm nx:Nat} {V V':Nat→Prop} {M:Nat→MP} {X:Nat→XP} {W W':World}
theorem Soup.ult (h:Soup base V nm M nx X W) (b:Nat) (hb:SoU V nm M nx X b):b<W.heap.size:=by
 rcases hb with hb|⟨i,hi,hb⟩|⟨i,hi,rfl⟩
 ·exact h.vlt b hb
 ·exact ((h.md i hi).lt b hb).2
 ·exact (h.xd i hi).blk.lt
theorem Soup.step (h:Soup base V nm M nx X W) (hb:Below W.heap.size W W'):Soup base V nm M nx X W' :=
 ⟨fun i hi=>(h.md i hi).step hb,fun i hi=>(h.xd i hi).step hb,h.mm,h.mx,h.xx,h.mv,h.xv,fun b hv=>Nat.lt_of_lt_of_le (h.vlt b hv) hb.size,h.xlo⟩
theorem Soup.kbV (h:Soup base V nm M nx X W) (hk:KB V W W') (hV:∀ b,V' b→V b∨W.heap.size≤b) (hl:∀ b,V' b→b<W'.heap.size):Soup base V' nm M nx X W':=by
 have hs:=hk.size
 have hult:∀ b,SoU V' nm M nx X b→b<W'.heap.size:=fun b hb=>by
  rcases hb with hb|hb
  ·exact hl b hb
  ·exact Nat.lt_of_lt_of_le (h.ult b (.inr hb)) hs
 have hu:∀ b,SoU V' nm M nx X b→SoU V nm M nx X b∨W.heap.size≤b:=fun b hb=>by
  rcases hb with hb|hb
  ·exact (hV b hb).imp .inl id
  ·exact .inl (.inr hb)
 refine ⟨fun i hi=>?_,fun i hi=>?_,h.mm,h.mx,h.xx,fun i hi b hb hv=>?_,fun i hi hv=>?_,hl,h.xlo⟩
 ·exact (h.md i hi).kbZ hk (fun b _ hv=>⟨.inl hv,fun hm=>h.mv i hi b hm hv⟩) (fun b hz=>hult b hz.1) fun b hz=>(hu b hz.1).imp (fun h'=>⟨h',hz.2⟩) id
 ·exact (h.xd i hi).kbZ hk (fun b _ hv=>⟨.inl hv,fun e=>h.xv i hi (e ▸ hv)⟩) (fun b hz=>hult b hz.1) fun b hz=>(hu b hz.1).imp (fun h'=>⟨h',hz.2⟩) id
 ·rcases hV b hv with h'|h'
  ·exact h.mv i hi b hb h'
  ·have:=((h.md i hi).lt b hb).2;omega
 ·rcases hV _ hv with h'|h'
  ·exact h.xv i hi h'
  ·have:=(h.xd i hi).blk.lt;omega
theorem Soup.callM (h:Soup base V nm M nx X W) (i:Nat) (hi:i<nm) (R':MdR) (m':MoV) (hk:KB (MdW (M i).g (M i).R) W W')
  (hm:Md (fun b=>SoU V nm M nx X b∧¬ MdW (M i).g (M i).R b) base (M i).g R' m' W') (hw:∀ b,MdW (M i).g R' b→MdW (M i).g (M i).R b∨W.heap.size≤b):Soup base V nm (setF M i ⟨(M i).g,R',m'⟩) nx X W':=by
 have hs:=hk.size
 have ei:setF M i ⟨(M i).g,R',m'⟩ i=⟨(M i).g,R',m'⟩:=setF_eq _ _ _
 have en:∀ j,j≠i→setF M i ⟨(M i).g,R',m'⟩ j=M j:=fun j hj=>setF_ne _ _ hj
 generalize setF M i ⟨(M i).g,R',m'⟩=M' at ei en
 have hW:∀ j,j<nm→∀ b,MdW (M' j).g (M' j).R b→MdW (M j).g (M j).R b∨W.heap.size≤b:=fun j hj b hb=>by
  by_cases e:j=i
  ·subst e;rw [ei] at hb;exact hw b hb
  ·rw [en j e] at hb;exact .inl hb
 have hu:∀ b,SoU V nm M' nx X b→SoU V nm M nx X b∨W.heap.size≤b:=fun b hb=>by
  rcases hb with hb|⟨j,hj,hb⟩|hb
  ·exact .inl (.inl hb)
  ·exact (hW j hj b hb).imp (fun h' => .inr (.inl ⟨j,hj,h'⟩)) id
  ·exact .inl (.inr (.inr hb))
 have hmlt:∀ j,j<nm→∀ b,MdW (M j).g (M j).R b→b<W.heap.size:=fun j hj b hb=>((h.md j hj).lt b hb).2
 have hxlt:∀ j,j<nx→(X j).g<W.heap.size:=fun j hj=>(h.xd j hj).blk.lt
 have hult:∀ b,SoU V nm M' nx X b→b<W'.heap.size:=fun b hb=>by
  rcases hb with hb|⟨j,hj,hb⟩|⟨j,hj,rfl⟩
  ·exact Nat.lt_of_lt_of_le (h.vlt b hb) hs
  ·by_cases e:j=i
   ·subst e;rw [ei] at hb;exact (hm.lt b hb).2
   ·rw [en j e] at hb;exact Nat.lt_of_lt_of_le (hmlt j hj b hb) hs
  ·exact Nat.lt_of_lt_of_le (hxlt j hj) hs
 have hmm:∀ j k,j<nm→k<nm→j≠k→∀ b,MdW (M' j).g (M' j).R b→¬ MdW (M' k).g (M' k).R b:=fun j k hj hk' hjk b hb hb'=>by
  by_cases e:j=i
  ·have e':k≠i:=fun e'=>hjk (e.trans e'.symm)
   rw [en k e'] at hb'
   rcases hW j hj b hb with h1|h1
   ·exact h.mm j k hj hk' hjk b h1 hb'
   ·have:=hmlt k hk' b hb';omega
  ·rw [en j e] at hb
   rcases hW k hk' b hb' with h1|h1
   ·exact h.mm j k hj hk' hjk b hb h1
   ·have:=hmlt j hj b hb;omega
 have hmx:∀ j k,j<nm→k<nx→¬ MdW (M' j).g (M' j).R (X k).g:=fun j k hj hk' hb=>by
  rcases hW j hj _ hb with h1|h1
  ·exact h.mx j k hj hk' h1
  ·have:=hxlt k hk';omega
 have hmv:∀ j,j<nm→∀ b,MdW (M' j).g (M' j).R b→¬ V b:=fun j hj b hb hv=>by
  rcases hW j hj b hb with h1|h1
  ·exact h.mv j hj b h1 hv
  ·have:=h.vlt b hv;omega
 refine ⟨fun j hj=>?_,fun j hj=>?_,hmm,hmx,h.xx,hmv,h.xv,fun b hv=>Nat.lt_of_lt_of_le (h.vlt b hv) hs,h.xlo⟩
 ·by_cases e:j=i
  ·subst e
   rw [ei]
   refine hm.setZ (fun b hz=>hult b hz.1) fun b _ hz=>?_
   obtain ⟨hz,hz2⟩:=hz
   rcases hz with hz|⟨k,hk',hz⟩|⟨k,hk',rfl⟩
   ·exact ⟨.inl hz,fun h1=>h.mv j hj b h1 hz⟩
   ·by_cases e:k=j
    ·subst e;rw [ei] at hz;exact absurd hz hz2
    ·rw [en k e] at hz
     exact ⟨.inr (.inl ⟨k,hk',hz⟩),fun h1=>h.mm k j hk' hj e b hz h1⟩
   ·exact ⟨.inr (.inr ⟨k,hk',rfl⟩),fun h1=>h.mx j k hj hk' h1⟩
  ·rw [en j e]
   exact (h.md j hj).kbZ hk (fun b _ hv=>⟨.inr (.inl ⟨i,hi,hv⟩),fun h1=>h.mm j i hj hi e b h1 hv⟩) (fun b hz=>hult b hz.1) fun b hz=>(hu b hz.1).imp (fun h'=>⟨h',hz.2⟩) id
 ·exact (h.xd j hj).kbZ hk (fun b _ hv=>⟨.inr (.inl ⟨i,hi,hv⟩),fun e=>h.mx i j hi hj (e ▸ hv)⟩) (fun b hz=>hult b hz.1) fun b hz=>(hu b hz.1).imp (fun h'=>⟨h',hz.2⟩) id
theorem Soup.callX (h:Soup base V nm M nx X W) (i:Nat) (hi:i<nx) (R':XdR) (m':MoV) (hk:KB (fun b=>b=(X i).g) W W')
  (hx:Xd (fun b=>SoU V nm M nx X b∧b≠(X i).g) (X i).g R' m' W'):Soup base V nm M nx (setF X i ⟨(X i).g,R',m'⟩) W':=by
 have hs:=hk.size
 have hg:∀ j,(setF X i ⟨(X i).g,R',m'⟩ j).g=(X j).g:=fun j=>by
  by_cases e:j=i
  ·subst e;rw [setF_eq]
  ·rw [setF_ne _ _ e]
 have ei:setF X i ⟨(X i).g,R',m'⟩ i=⟨(X i).g,R',m'⟩:=setF_eq _ _ _
 have en:∀ j,j≠i→setF X i ⟨(X i).g,R',m'⟩ j=X j:=fun j hj=>setF_ne _ _ hj
 generalize setF X i ⟨(X i).g,R',m'⟩=X' at hg ei en
 have hu:SoU V nm M nx X'=SoU V nm M nx X:=by
  funext b
  unfold SoU
  simp only [hg]
 refine ⟨fun j hj=>?_,fun j hj=>?_,h.mm,fun j k hj hk'=>by rw [hg];exact h.mx j k hj hk',fun j k hj hk' e=>by rw [hg,hg];exact h.xx j k hj hk' e,h.mv,fun j hj=>by rw [hg];exact h.xv j hj,fun b hv=>Nat.lt_of_lt_of_le (h.vlt b hv) hs,fun j hj=>by rw [hg];exact h.xlo j hj⟩
 ·rw [hu]
  exact (h.md j hj).kbZ hk (fun b _ e=>⟨.inr (.inr ⟨i,hi,e⟩),fun h1=>h.mx j i hj hi (e ▸ h1)⟩) (fun b hz=>Nat.lt_of_lt_of_le (h.ult b hz.1) hs) fun b hz => .inl hz
 ·rw [hu]
  by_cases e:j=i
  ·subst e;rw [ei];exact hx
  ·rw [en j e]
   exact (h.xd j hj).kbZ hk (fun b _ e'=>⟨.inr (.inr ⟨i,hi,e'⟩),fun h1=>h.xx i j hi hj (fun h2=>e h2.symm) (e'.symm.trans h1)⟩) (fun b hz=>Nat.lt_of_lt_of_le (h.ult b hz.1) hs) fun b hz => .inl hz
theorem Soup.addM (h:Soup base V nm M nx X W) (g:Nat) (R:MdR) (m:MoV) (Z:Nat→Prop) (hb:Below W.heap.size W W') (hm:Md Z base g R m W') (hw:∀ b,MdW g R b→W.heap.size≤b) (hZ:∀ b,SoU V nm M nx X b→Z b):Soup base V (nm+1) (setF M nm ⟨g,R,m⟩) nx X W':=by
 have hs:=hb.size
 have ei:setF M nm ⟨g,R,m⟩ nm=⟨g,R,m⟩:=setF_eq _ _ _
 have en:∀ j,j<nm→setF M nm ⟨g,R,m⟩ j=M j:=fun j hj=>setF_ne _ _ (Nat.ne_of_lt hj)
 generalize setF M nm ⟨g,R,m⟩=M' at ei en
 have hc:∀ j,j<nm+1→j<nm∨j=nm:=fun j hj=>by omega
 have hu:∀ b,SoU V (nm+1) M' nx X b→SoU V nm M nx X b∨MdW g R b:=fun b hb'=>by
  rcases hb' with hb'|⟨j,hj,hb'⟩|hb'
  ·exact .inl (.inl hb')
  ·rcases hc j hj with hj'|rfl
   ·rw [en j hj'] at hb';exact .inl (.inr (.inl ⟨j,hj',hb'⟩))
   ·rw [ei] at hb';exact .inr hb'
  ·exact .inl (.inr (.inr hb'))
 have hult:∀ b,SoU V (nm+1) M' nx X b→b<W'.heap.size:=fun b hb'=>(hu b hb').elim (fun h'=>Nat.lt_of_lt_of_le (h.ult b h') hs) fun h'=>(hm.lt b h').2
 have hmlt:∀ j,j<nm→∀ b,MdW (M j).g (M j).R b→b<W.heap.size:=fun j hj b hb'=>((h.md j hj).lt b hb').2
 refine ⟨fun j hj=>?_,fun j hj=>?_,fun j k hj hk' hjk b h1 h2=>?_,fun j k hj hk' h1=>?_,h.xx,fun j hj b h1 h2=>?_,h.xv,fun b hv=>Nat.lt_of_lt_of_le (h.vlt b hv) hs,h.xlo⟩
 ·rcases hc j hj with hj'|rfl
  ·rw [en j hj']
   exact (h.md j hj').stepZ hb (fun b hz=>hult b hz.1) fun b hz=>(hu b hz.1).imp (fun h'=>⟨h',hz.2⟩) (hw b)
  ·rw [ei]
   exact hm.setZ (fun b hz=>hult b hz.1) fun b _ hz=>(hu b hz.1).elim (hZ b) fun h'=>absurd h' hz.2
 ·exact (h.xd j hj).kbZ (KB.of_below (M:=fun _=>False) hb) (fun _ _ h'=>h'.elim) (fun b hz=>hult b hz.1) fun b hz=>(hu b hz.1).imp (fun h'=>⟨h',hz.2⟩) (hw b)
 ·rcases hc j hj with hj'|rfl
  ·rw [en j hj'] at h1
   rcases hc k hk' with hk2|rfl
   ·rw [en k hk2] at h2;exact h.mm j k hj' hk2 hjk b h1 h2
   ·rw [ei] at h2;have:=hw b h2;have:=hmlt j hj' b h1;omega
  ·rw [ei] at h1
   rcases hc k hk' with hk2|rfl
   ·rw [en k hk2] at h2;have:=hw b h1;have:=hmlt k hk2 b h2;omega
   ·exact hjk rfl
 ·rcases hc j hj with hj'|rfl
  ·rw [en j hj'] at h1;exact h.mx j k hj' hk' h1
  ·rw [ei] at h1;have:=hw _ h1;have:=(h.xd k hk').blk.lt;omega
 ·rcases hc j hj with hj'|rfl
  ·rw [en j hj'] at h1;exact h.mv j hj' b h1 h2
  ·rw [ei] at h1;have:=hw _ h1;have:=h.vlt b h2;omega
theorem Soup.addX (h:Soup base V nm M nx X W) (g:Nat) (R:XdR) (m:MoV) (Z:Nat→Prop) (hb:Below W.heap.size W W') (hx:Xd Z g R m W') (hg:W.heap.size≤g) (hlo:base≤g) (hZ:∀ b,SoU V nm M nx X b→Z b):Soup base V nm M (nx+1) (setF X nx ⟨g,R,m⟩) W':=by
 have hs:=hb.size
 have ei:setF X nx ⟨g,R,m⟩ nx=⟨g,R,m⟩:=setF_eq _ _ _
 have en:∀ j,j<nx→setF X nx ⟨g,R,m⟩ j=X j:=fun j hj=>setF_ne _ _ (Nat.ne_of_lt hj)
 generalize setF X nx ⟨g,R,m⟩=X' at ei en
 have hc:∀ j,j<nx+1→j<nx∨j=nx:=fun j hj=>by omega
 have hu:∀ b,SoU V nm M (nx+1) X' b→SoU V nm M nx X b∨b=g:=fun b hb'=>by
  rcases hb' with hb'|hb'|⟨j,hj,hb'⟩
  ·exact .inl (.inl hb')
  ·exact .inl (.inr (.inl hb'))
  ·rcases hc j hj with hj'|rfl
   ·rw [en j hj'] at hb';exact .inl (.inr (.inr ⟨j,hj',hb'⟩))
   ·rw [ei] at hb';exact .inr hb'
 have hgl:=hx.blk.lt
 have hult:∀ b,SoU V nm M (nx+1) X' b→b<W'.heap.size:=fun b hb'=>(hu b hb').elim (fun h'=>Nat.lt_of_lt_of_le (h.ult b h') hs) fun h'=>h' ▸ hgl
 have hn:∀ b,b=g→W.heap.size≤b:=fun b e=>e ▸ hg
 refine ⟨fun j hj=>?_,fun j hj=>?_,h.mm,fun j k hj hk' h1=>?_,fun j k hj hk' hjk e=>?_,h.mv,fun j hj h1=>?_,fun b hv=>Nat.lt_of_lt_of_le (h.vlt b hv) hs,fun j hj=>?_⟩
 ·exact (h.md j hj).stepZ hb (fun b hz=>hult b hz.1) fun b hz=>(hu b hz.1).imp (fun h'=>⟨h',hz.2⟩) (hn b)
 ·rcases hc j hj with hj'|rfl
  ·rw [en j hj']
   exact (h.xd j hj').kbZ (KB.of_below (M:=fun _=>False) hb) (fun _ _ h'=>h'.elim) (fun b hz=>hult b hz.1) fun b hz=>(hu b hz.1).imp (fun h'=>⟨h',hz.2⟩) (hn b)
  ·rw [ei]
   exact hx.kbZ (KB.refl (fun _=>False) W') (fun _ _ h'=>h'.elim) (fun b hz=>hult b hz.1) fun b hz=>(hu b hz.1).elim (fun h' => .inl (hZ b h')) fun h'=>absurd h' hz.2
 ·rcases hc k hk' with hk2|rfl
  ·rw [en k hk2] at h1;exact h.mx j k hj hk2 h1
  ·rw [ei] at h1;have:=((h.md j hj).lt _ h1).2;simp only at this;omega
 ·rcases hc j hj with hj'|rfl
  ·rw [en j hj'] at e
   rcases hc k hk' with hk2|rfl
   ·rw [en k hk2] at e;exact h.xx j k hj' hk2 hjk e
   ·rw [ei] at e;have:=(h.xd j hj').blk.lt;simp only at e;omega
  ·rw [ei] at e
   rcases hc k hk' with hk2|rfl
   ·rw [en k hk2] at e;have:=(h.xd k hk2).blk.lt;simp only at e;omega
   ·exact hjk rfl
 ·rcases hc j hj with hj'|rfl
  ·rw [en j hj'] at h1;exact h.xv j hj' h1
  ·rw [ei] at h1;have:=h.vlt _ h1;simp only at this;omega
 ·rcases hc j hj with hj'|rfl
  ·rw [en j hj'];exact h.xlo j hj'
  ·rw [ei];exact hlo
end
end Go.Proofs.YtdjhoankkddomaaGreat
namespace Go.Proofs.YtdjhoankkddomaaGreat
open Go Go.RowKit
structure RpI (w:World) (hs:List (List UInt8)) (A:Option Addr) (n c:Nat) (As:Option Addr) (ns cs b1:Nat) (ls:List (Nat × Nat)) (q:List (List UInt8)) (v:Value) (W:World):Prop where
 src:Hs W (·<w.heap.size) A n c hs
 st:Rs W (·<b1) As ns cs (natR ls)
 own:W.ownsRow b1 53 32 v q.length (hcells q)
 bel:Below w.heap.size w W
 le:w.heap.size≤b1
 sz:b1≤W.heap.size
set_option maxHeartbeats 2000000 in
set_option maxRecDepth 100000 in
theorem rprove_any (hs:List (List UInt8)) (A:Option Addr) (n c:Nat) (w:World) (m:Int) (h:Hs w (fun _=>True) A n c hs) (hn:n≤1099511627776) :
  Calls Tryz.prog 76 #[.slice A n c,.int .i64 m] w fun e w'=>∃ v,e = .returned (.tuple #[v,.int .i64 (stepsA m hs.length).2])∧w'.ownsRow w.heap.size 53 32 v (rootsS hs m).length (hcells (rootsS hs m))∧Below w.heap.size w w':=by
 have hlen:=h.len
 have h32:=h.all
 have hroom:=h.sl.room
 have hmx:=h.sl.max
 unfold maxLen at hmx
 have hst:=rstepsA_any m (n:Int) w (by omega)
 have heach:=stepsA_each m n
 obtain ⟨⟨ls,e0⟩,hse⟩:∃ s,stepsA m (n:Int)=s:=⟨_,rfl⟩
 rw [hse] at hst heach
 dsimp only at hst heach
 have hlm:ls.length≤64:=by have:=stepsA_len m (n:Int) (by omega);rw [hse] at this;exact this
 have Hlen:=Lib.hid hlen
 have H32h:=Lib.hid h32
 have Hst:=Lib.hid hst
 have Heach:=Lib.hid heach
 rw [hlen,hse]
 dsimp only
 by_cases he0:e0=0
 ·subst he0
  have hrs:rootsS hs m=rootsL hs ls:=by unfold rootsS;rw [hlen,hse]
  have hlr:(rootsL hs ls).length=ls.length:=by simp [rootsL]
  rw [hrs]
  have Hlr:=Lib.hid hlr
  clear hlen h32 hst hlr hrs hse heach
  go_enter Tryz.func76,Tryz.ntmps76
  go_wp2_with fail
  refine Hst.out.mono ?_
  rintro e w1 ⟨vs,rfl,hP⟩
  obtain ⟨As,cs,rfl,hrs1⟩:=Rs.of_owns hP.own (length_natR ls)
  have hC1:RpI w hs A n c As ls.length cs w1.heap.size ls [] (.slice none 0 0) w1:=⟨(h.weak fun b hb _=>hb).step hP.bel,hrs1.weak fun b hb _=>hb,World.ownsRow_nil _ _ _ _,hP.bel,hP.bel.size,Nat.le_refl _⟩
  have hroom1:=hrs1.sl.room
  have hmx1:=hrs1.sl.max
  unfold maxLen at hmx1
  clear h hP hrs1
  generalize w1.heap.size=b1 at *
  go_wp2_with fail
  go_loopw [8,9] (fun v i wr=>∃ k:Nat,k≤ls.length∧i = .int .i64 k∧RpI w hs A n c As ls.length cs b1 ls ((rootsL hs ls).take k) v wr) (fun _ i _=>ls.length - (intOf i).toNat)
  case atStart=>exact ⟨0,Nat.zero_le _,rfl,hC1⟩
  case round =>
   clear hC1
   obtain ⟨k,hk,rfl,hC⟩:=hrel
   by_cases hkn:k<ls.length
   ·obtain ⟨b,o,rfl,-,-,hat⟩:=hC.st.at_ (by omega)
    obtain ⟨h1,h2⟩:=Heach.out _ (List.getElem_mem hkn)
    have hx:(natR ls).getD k (0,0)=(((ls[k]).1:Int),((ls[k]).2:Int)):=by
     unfold natR
     rw [List.getD_eq_getElem?_getD,List.getElem?_map,List.getElem?_eq_getElem hkn];rfl
    have htk:=take_snocH (rootsL hs ls) k (by rw [Hlr.out];exact hkn)
    have hz:(rootsL hs ls).getD k []=stretchL hs (ls[k]).1 (ls[k]).2:=by
     unfold rootsL
     rw [List.getD_eq_getElem?_getD,List.getElem?_map,List.getElem?_eq_getElem hkn];rfl
    have hlenq:((rootsL hs ls).take k).length≤64:=by rw [List.length_take,Hlr.out];omega
    generalize (ls[k]).1=x1 at *
    generalize (ls[k]).2=x2 at *
    generalize hqq:(rootsL hs ls).take k=q at *
    rw [hz] at htk
    obtain ⟨z,hz'⟩:∃ z,stretchL hs x1 x2=z:=⟨_,rfl⟩
    have hzl:z.length=32:=by rw [← hz'];exact length_stretchL hs x1 x2 H32h.out
    rw [hz'] at htk
    have hS:Below b1 wr wr.drew:=(Below.refl _ _).drew
    have d0:∀ s:InC (fun W=>Below b1 wr W),s.W.cell? ⟨b,o+k*2,none⟩=some (.int .i64 (x1:Int)):=fun s=>by
     obtain ⟨b',o',hA,-,-,h⟩:=(show Rs s.W (·<b1) (some ⟨b,o,none⟩) ls.length cs (natR ls) from ⟨hC.st.sl.below s.ok fun _ _ h=>h,hC.st.len⟩).at_ (by omega)
     cases hA
     rw [(h k hkn).1,hx]
    have d1:∀ s:InC (fun W=>Below b1 wr W),s.W.cell? ⟨b,o+k*2+1,none⟩=some (.int .i64 (x2:Int)):=fun s=>by
     obtain ⟨b',o',hA,-,-,h⟩:=(show Rs s.W (·<b1) (some ⟨b,o,none⟩) ls.length cs (natR ls) from ⟨hC.st.sl.below s.ok fun _ _ h=>h,hC.st.len⟩).at_ (by omega)
     cases hA
     rw [(h k hkn).2,hx]
    have hsub:Hs wr.drew (fun _=>True) (if c=x1 then A else A.map (·.add (x1*32))) (x2 - x1) (c - x1) ((hs.take x2).drop x1):=(((hC.src.take x2 (by omega)).drop x1 (by omega)).weak fun _ _ _=>trivial).drew
    have hrof:=rof_any _ _ _ _ _ hsub (by omega)
    rw [show rootL ((hs.take x2).drop x1)=z by rw [List.drop_take];exact hz'] at hrof
    generalize hAs:(if c=x1 then A else A.map (·.add (x1*32)))=Ax at hrof
    have HAs:=Lib.hid hAs
    have Htk:=Lib.hid htk
    have Hzl:=Lib.hid hzl
    clear hAs htk hzl hz hz' hx hat hsub hqq
    go_upto_region 8 with fail
    have hC0:RpI w hs A n c (some ⟨b,o,none⟩) ls.length cs b1 ls q _ wr.drew:=⟨hC.src.drew,hC.st.drew,owns_step hC.own (Below.refl _ _).drew,hC.bel.drew,hC.le,hC.sz⟩
    clear hC
    refine wp_region_mix (fun W=>Below b1 wr W) [(0,true),(1,true),(2,true),(3,true),(4,true),(5,true),(6,true),(7,true),(8,true),(9,true),(10,true),(11,true),(12,true),(13,false),(14,false),(15,false),(16,true)] (by kernel_rfl) (by kernel_rfl) hS fun _=>?_
    simp only [List.map_cons,List.map_nil,Array.getD_eq_getD_getElem?,List.getElem?_toArray,List.getElem?_cons_succ,List.getElem?_cons_zero,Option.getD_some]
    generalize wr.drew=W0 at hS hrof hC0 ⊢
    iterate 12 (refine wpMix_s (fun K hK=>?_);go_simp;refine hK _ ?_;clear hK K)
    refine wpMix_v (by kernel_rfl) (.slice Ax (x2 - x1) (c - x1)) (fun s=>by rw [← HAs.out];exact run_slice_op_both (.tmp 27) (.tmp 32) (.tmp 37) rfl A n c x1 x2 rfl rfl rfl (by omega) (by omega) s.W) ?_
    simp only [Act.put]
    refine wpMix_c (fun K hK=>?_) hS
    go_simp
    refine hrof.mono ?_
    rintro e W1 ⟨rfl,hb'⟩
    refine hK _ _ ?_
    clear hK K
    have hC1:RpI w hs A n c (some ⟨b,o,none⟩) ls.length cs b1 ls q _ W1:=⟨hC0.src.step hb',hC0.st.step hb',owns_step hC0.own hb',hC0.bel.trans (hb'.mono hC0.bel.size),hC0.le,Nat.le_trans hC0.sz hb'.size⟩
    replace hS:=hS.trans (hb'.mono hC0.sz)
    refine ⟨hS,?_⟩
    clear hC0 hb'
    obtain ⟨v',W9,hr9,hv9,hg9,-⟩:=append_hR hC1.own z Hzl.out (by omega) hC1.sz
    have hb9:Below b1 W1 W9:=(Below.refl _ _).grown hg9 hC1.sz (fun r e=>(hC1.own.lt r e).1)
    have hC9:RpI w hs A n c (some ⟨b,o,none⟩) ls.length cs b1 ls (q++[z]) v' W9:=⟨⟨hC1.src.sl.below hb9 (fun _ _ h=>Nat.lt_of_lt_of_le h hC1.le),hC1.src.len,hC1.src.all⟩,⟨hC1.st.sl.below hb9 (fun _ _ h=>h),hC1.st.len⟩,hv9,hC1.bel.trans (hb9.mono hC1.le),hC1.le,Nat.le_trans hC1.sz hb9.size⟩
    refine wpMix_run (by kernel_rfl) (.slice (some ⟨W1.heap.size,0,none⟩) 1 1) (W1.alloc (.cells (hcells [z]).toArray 53)) (run_litH_op z Hzl.out (.tmp 39) rfl rfl _) (hS.alloc (by have:=hC1.sz;omega) _) ?_
    simp only [Act.put]
    refine wpMix_run (by kernel_rfl) (v') (W9) (run_append_op (.tmp 26) (.tmp 40) 49 rfl _ _ rfl rfl hr9) (hS.trans hb9) ?_
    simp only [Act.put]
    (refine wpMix_s (fun K hK=>?_);go_simp;refine hK _ ?_;clear hK K)
    refine wpMix_nil ?_
    intro _
    clear hS hC1 hr9 hv9 hg9 hb9 d0 d1
    go_wp2_with fail
    refine ⟨⟨k+1,by omega,by go_num,by rw [Htk.out];exact hC9⟩,by simp [intOf];omega⟩
   ·obtain rfl:k=ls.length:=by omega
    go_wp2_with fail
    rw [List.take_of_length_le (by rw [Hlr.out];exact Nat.le_refl _)] at hC
    refine bodyPost_ret (results_tmp2 rfl _ _ _) rfl ⟨_,rfl,owns_le hC.own hC.le,hC.bel⟩
 ·have hb0:rootsS hs m=[]:=rootsS_bad hs m (by rw [hlen,hse];exact he0)
  rw [hb0]
  have hne:(e0 != 0)=true:=by simpa using he0
  clear hlen h32 hst hse he0 hb0
  go_enter Tryz.func76,Tryz.ntmps76
  go_wp2_with fail
  refine Hst.out.mono ?_
  rintro e w1 ⟨vs,rfl,hP⟩
  obtain ⟨As,cs,rfl,-⟩:=Rs.of_owns hP.own (length_natR ls)
  have hb1:=hP.bel
  clear hP
  go_wp2_with fail
  refine bodyPost_ret (results_tmp2 rfl _ _ _) rfl ⟨_,rfl,World.ownsRow_nil _ _ _ _,hb1⟩
end Go.Proofs.YtdjhoankkddomaaGreat
namespace Go.Proofs.YtdjhoankkddomaaGreat
open Go Go.RowKit
set_option maxHeartbeats 400000 in
theorem r11split_any (n:Int) (w:World) (h2:2≤n) (hn:n≤9223372036854775807) :
  Calls Tryz.prog 97 #[.int .i64 n] w fun e w'=>e = .returned (.int .i64 (splitN n.toNat:Int))∧w=w':=by
 obtain ⟨m,rfl⟩:∃ m:Nat,n=(m:Int):=⟨n.toNat,by omega⟩
 rw [Int.toNat_natCast]
 obtain ⟨s,hs⟩:∃ s,splitN m=s:=⟨_,rfl⟩
 have hsl:=splitN_lt m (by omega)
 have Hs:=Lib.hid hs
 rw [hs] at hsl ⊢
 clear hs
 go_enter Tryz.func97,Tryz.ntmps97
 go_wp2_with fail
 go_loop [3] (fun v=>∃ j k:Nat,1≤k∧k<m∧k=2 ^ j∧v = .int .i64 (k:Int)) (fun v=>m - (intOf v).toNat)
 case atStart=>exact ⟨0,1,by omega,by omega,rfl,rfl⟩
 case round =>
  obtain ⟨j,k,hk1,hkm,hk,rfl⟩:=hrel
  by_cases hlt:k<m - k
  ·have Hk:=Lib.hid hk
   clear hk
   have hd:decide ((k:Int)<(m:Int) - (k:Int))=true:=by simp;omega
   go_wp2_with fail
   go_round
   case rel=>exact ⟨j+1,2*k,by omega,by omega,by rw [Nat.pow_succ,Hk.out];omega,by go_num⟩
   case measure=>simp [intOf];omega
  ·have hks:s=k:=by rw [← Hs.out,splitN_eq m j (by omega) (by rw [Nat.pow_succ];omega),hk]
   subst hks
   clear hk
   have hd:decide ((s:Int)<(m:Int) - (s:Int))=false:=by simp;omega
   go_wp2_with fail
   go_ret
   exact ⟨rfl,rfl⟩
theorem r08nil (w:World):Calls Tryz.prog 102 #[.slice none 0 0] w fun e w'=>e = .returned (.agg (hEmpty.map B).toArray)∧Below w.heap.size w w' :=
 hrof_any [] none 0 0 w Sl.nil (by decide)
set_option maxHeartbeats 2000000 in
set_option maxRecDepth 100000 in
theorem r11root_rec (d:Nat):∀ (hs:List (List UInt8)) (A:Option Addr) (n c:Nat) (w:World),n≤d→Hs w (fun _=>True) A n c hs→n≤4398046511104 →
  Calls Tryz.prog 98 #[.slice A n c] w fun e w'=>e = .returned (.agg ((rootL hs).map B).toArray)∧Below w.heap.size w w':=by
 induction d using Nat.strongRecOn with
 | ind d ih =>
 intro hs A n c w hnd h hn
 obtain ⟨zs,hzs⟩:∃ zs,zeroHash=zs:=⟨_,rfl⟩
 have hzl:zs.size=32:=by rw [← hzs];rfl
 have hlen:=h.len
 have hroom:=h.sl.room
 have hmax:=h.sl.max
 unfold maxLen at hmax
 have hb0:=(Below.refl w.heap.size w).alloc (Nat.le_refl _) (.cells zs 53)
 have k0:=Blk.new w 53 zs
 have h0:=h.step hb0
 obtain ⟨r,hr⟩:∃ r,rootL hs=r:=⟨_,rfl⟩
 have hrl:r.length=32:=by rw [← hr];exact length_rootL hs h.all
 rw [hr]
 have Hzs:=Lib.hid hzs
 have Hrl:=Lib.hid hrl
 have Hr:=Lib.hid hr
 have Hlen:=Lib.hid hlen
 clear hzs hrl hr hlen
 by_cases hn0:n=0
 ·subst hn0
  have hnil:hs=[]:=List.eq_nil_of_length_eq_zero Hlen.out
  subst hnil
  obtain rfl:r=hEmpty:=Hr.out.symm
  clear ih h h0
  go_enter Tryz.func98,Tryz.ntmps98
  go_wp2_with (first
   | ((with_reducible show wpList _ _ _ (⟨some 2,.alloc _,_,_,_,_⟩::_) _ _);refine wpList_run rfl (.pointer (some ⟨w.heap.size,0,none⟩)) (w.alloc (.cells zs 53)) (by rw [← Hzs.out];rfl) ?_;simp only [Act.put])
   | (go_at_call 102;refine (r08nil _).mono ?_;rintro e w1 ⟨rfl,hb1⟩;have k1:=k0.below hb1 (by simp);have B1:=hb0.trans (hb1.mono (by simp)))
   | ((with_reducible show wpList _ _ _ (⟨none,.store _ _ _,_,_,_,_⟩::_) _ _);refine wpList_store_blk rfl 53 (.tmp 2) (.tmp 9) rfl 32 size26 w.heap.size (hEmpty.map B).toArray rfl rfl (by simp [Hrl.out]) (oneCell_B _) 53 _ k1 hzl ?_;simp only [Act.put]))
  refine bodyPost_ret (results_cell_row rfl _ _ w.heap.size 53 (hEmpty.map B).toArray (0,0) _ rfl (k1.setRow_ _) Tryz.underlying53 rfl (by rw [show (hEmpty.map B).toArray.size=32 by simp [Hrl.out]];exact info26)) rfl ⟨rfl,?_⟩
  exact below_setRow B1 (Nat.le_refl _) _
 by_cases hn1:n=1
 ·subst hn1
  obtain ⟨x,rfl⟩:=List.length_eq_one_iff.1 Hlen.out
  obtain rfl:r=x:=Hr.out.symm
  obtain ⟨b,o,rfl,-,-,hat⟩:=h0.at_ (by omega)
  have hld:(Instr.loadAt 53 (.pointer (some ⟨b,o,none⟩))).run Tryz.prog (w.alloc (.cells zs 53)) = .ok (.agg (r.map B).toArray) (w.alloc (.cells zs 53)):=hat 0 (by omega)
  have Hld:=Lib.hid hld
  clear ih h h0 hat hld
  go_enter Tryz.func98,Tryz.ntmps98
  go_wp2_with (first
   | ((with_reducible show wpList _ _ _ (⟨some 2,.alloc _,_,_,_,_⟩::_) _ _);refine wpList_run rfl (.pointer (some ⟨w.heap.size,0,none⟩)) (w.alloc (.cells zs 53)) (by rw [← Hzs.out];rfl) ?_;simp only [Act.put])
   | ((with_reducible show wpList _ _ _ (⟨some 14,.load _ _,_,_,_,_⟩::_) _ _);refine wpList_load rfl 53 (.tmp 13) rfl b o rfl (r.map B).toArray Hld.out ?_;simp only [Act.put])
   | ((with_reducible show wpList _ _ _ (⟨none,.store _ _ _,_,_,_,_⟩::_) _ _);refine wpList_store_blk rfl 53 (.tmp 2) (.tmp 14) rfl 32 size26 w.heap.size (r.map B).toArray rfl rfl (by simp [Hrl.out]) (oneCell_B _) 53 _ k0 hzl ?_;simp only [Act.put]))
  refine bodyPost_ret (results_cell_row rfl _ _ w.heap.size 53 (r.map B).toArray (0,0) _ rfl (k0.setRow_ _) Tryz.underlying53 rfl (by rw [show (r.map B).toArray.size=32 by simp [Hrl.out]];exact info26)) rfl ⟨rfl,?_⟩
  exact below_setRow hb0 (Nat.le_refl _) _
 have hne0:((n:Int)==0)=false:=by simp;omega
 have hne1:((n:Int)==1)=false:=by simp;omega
 have hmore:=rootL_more hs (by rw [Hlen.out];omega)
 rw [Hlen.out,Hr.out] at hmore
 have hspl:=fun w=>r11split_any (n:Int) w (by omega) (by omega)
 rw [Int.toNat_natCast] at hspl
 have hsl:=splitN_lt n (by omega)
 have hsp:=splitN_pos n (by omega)
 obtain ⟨s,hs'⟩:∃ s,splitN n=s:=⟨_,rfl⟩
 rw [hs'] at hmore hspl hsl hsp
 have hL:=fun W (hW:Below (w.alloc (.cells zs 53)).heap.size (w.alloc (.cells zs 53)) W)=>ih s (by omega) (hs.take s) A s c W (Nat.le_refl _) ((h0.step hW).take s (by omega)) (by omega)
 have hR:=fun W (hW:Below (w.alloc (.cells zs 53)).heap.size (w.alloc (.cells zs 53)) W)=>ih (n - s) (by omega) (hs.drop s) _ (n - s) (c - s) W (Nat.le_refl _) ((h0.step hW).drop s (by omega)) (by omega)
 obtain ⟨x,hx⟩:∃ x,rootL (hs.take s)=x:=⟨_,rfl⟩
 obtain ⟨y,hy⟩:∃ y,rootL (hs.drop s)=y:=⟨_,rfl⟩
 have hxl:x.length=32:=by rw [← hx];exact length_rootL _ (h.all.take s)
 have hyl:y.length=32:=by rw [← hy];exact length_rootL _ (h.all.drop s)
 rw [hx] at hL hmore
 rw [hy] at hR hmore
 have hN:=fun W=>hrnode_any x y W hxl hyl
 rw [← hmore] at hN
 have Hspl:=Lib.hid hspl
 have HL:=Lib.hid hL
 have HR:=Lib.hid hR
 have HN:=Lib.hid hN
 clear hspl hL hR hN hx hy hxl hyl hmore hs' ih h
 go_enter Tryz.func98,Tryz.ntmps98
 go_wp2_with (first
  | ((with_reducible show wpList _ _ _ (⟨some 2,.alloc _,_,_,_,_⟩::_) _ _);refine wpList_run rfl (.pointer (some ⟨w.heap.size,0,none⟩)) (w.alloc (.cells zs 53)) (by rw [← Hzs.out];rfl) ?_;simp only [Act.put])
  | (go_at_call 97;refine (Hspl.out _).mono ?_;rintro e w1 ⟨rfl,rfl⟩))
 generalize w.alloc (.cells zs 53)=w1 at hb0 k0 h0 HL HR ⊢
 have hS:Below w1.heap.size w1 w1.drew:=(Below.refl _ _).drew
 refine wp_region_mix_last (fun W=>Below w1.heap.size w1 W) 9 [(0,true),(1,true),(2,true),(4,true),(5,true),(6,true),(3,false),(7,false),(8,false)] (by kernel_rfl) (by kernel_rfl) hS fun _=>?_
 simp only [List.map_cons,List.map_nil,Array.getD_eq_getD_getElem?,List.getElem?_toArray,List.getElem?_cons_succ,List.getElem?_cons_zero,Option.getD_some]
 generalize w1.drew=W0 at hS ⊢
 iterate 2 (refine wpMix_s (fun K hK=>?_);go_simp;refine hK _ ?_;clear hK K)
 refine wpMix_v (by kernel_rfl) (.slice A s c) (fun u=>run_slice_op_hi (.tmp 17) (.tmp 18) rfl A n c s rfl rfl (by omega) u.W) ?_
 simp only [Act.put]
 iterate 2 (refine wpMix_s (fun K hK=>?_);go_simp;refine hK _ ?_;clear hK K)
 refine wpMix_v (by kernel_rfl) (.slice (if c=s then A else A.map (·.add (s*32))) (n - s) (c - s)) (fun u=>run_slice_op_lo (.tmp 21) (.tmp 22) rfl A n c s rfl rfl (by omega) u.W) ?_
 simp only [Act.put]
 refine wpMix_c (fun K hK=>?_) hS
 go_simp
 refine (HL.out W0 hS).mono ?_
 rintro e W1 ⟨rfl,hb'⟩
 refine hK _ _ ?_
 clear hK K
 replace hS:=hS.trans (hb'.mono hS.size)
 refine ⟨hS,?_⟩
 clear hb'
 refine wpMix_c (fun K hK=>?_) hS
 go_simp
 refine (HR.out W1 hS).mono ?_
 rintro e W2 ⟨rfl,hb'⟩
 refine hK _ _ ?_
 clear hK K
 replace hS:=hS.trans (hb'.mono hS.size)
 refine ⟨hS,?_⟩
 clear hb'
 refine wpMix_c (fun K hK=>?_) hS
 go_simp
 refine (HN.out W2).mono ?_
 rintro e W3 ⟨rfl,hb'⟩
 refine hK _ _ ?_
 clear hK K
 replace hS:=hS.trans (hb'.mono hS.size)
 refine ⟨hS,?_⟩
 clear hb'
 refine wpMix_nil ?_
 intro _
 simp only [List.drop_succ_cons,List.drop_zero]
 have k3:=k0.below hS k0.lt
 go_wp2_with ((with_reducible show wpList _ _ _ (⟨none,.store _ _ _,_,_,_,_⟩::_) _ _);refine wpList_store_blk rfl 53 (.tmp 2) (.tmp 25) rfl 32 size26 w.heap.size (r.map B).toArray rfl rfl (by simp [Hrl.out]) (oneCell_B _) 53 _ k3 hzl ?_;simp only [Act.put])
 refine np_normal ?_
 go_wp2_with fail
 refine bodyPost_ret (results_cell_row rfl _ _ w.heap.size 53 (r.map B).toArray (0,0) _ rfl (k3.setRow_ _) Tryz.underlying53 rfl (by rw [show (r.map B).toArray.size=32 by simp [Hrl.out]];exact info26)) rfl ⟨rfl,?_⟩
 exact below_setRow (hb0.trans (hS.mono hb0.size)) (Nat.le_refl _) _
theorem r11root_any (hs:List (List UInt8)) (A:Option Addr) (n c:Nat) (w:World) (h:Hs w (fun _=>True) A n c hs) (hn:n≤4398046511104) :
  Calls Tryz.prog 98 #[.slice A n c] w fun e w'=>e = .returned (.agg ((rootL hs).map B).toArray)∧Below w.heap.size w w':=r11root_rec n hs A n c w (Nat.le_refl _) h hn
theorem pathL_shift (k d:Nat):∀ (i a b:Nat),b - a≤d→pathL (i+k) (a+k) (b+k)=(pathL i a b).map fun x=>(x.1+k,x.2+k):=by
 induction d with
 | zero=>intro i a b h;rw [pathL_small _ _ _ (by omega),pathL_small _ _ _ (by omega)];rfl
 | succ d ih =>
  intro i a b h
  by_cases h2:b - a<2
  ·rw [pathL_small _ _ _ (by omega),pathL_small _ _ _ h2];rfl
  ·have hl:=splitN_lt (b - a) (by omega)
   have hp:=splitN_pos (b - a) (by omega)
   have e:b+k - (a+k)=b - a:=by omega
   by_cases hi:i<a+splitN (b - a)
   ·rw [pathL_left (i+k) (a+k) (b+k) (by omega) (by rw [e];omega),pathL_left i a b (by omega) hi,e,show a+k+splitN (b - a)=a+splitN (b - a)+k by omega,ih i a (a+splitN (b - a)) (by omega)]
    simp
   ·rw [pathL_right (i+k) (a+k) (b+k) (by omega) (by rw [e];omega),pathL_right i a b (by omega) hi,e,show a+k+splitN (b - a)=a+splitN (b - a)+k by omega,ih i (a+splitN (b - a)) b (by omega)]
    simp
theorem stretchL_take (hs:List (List UInt8)) (k a b:Nat) (h:b≤k):stretchL (hs.take k) a b=stretchL hs a b:=by
 unfold stretchL
 rw [List.drop_take,List.take_take,Nat.min_eq_left (by omega)]
theorem stretchL_drop (hs:List (List UInt8)) (k a b:Nat):stretchL (hs.drop k) a b=stretchL hs (a+k) (b+k):=by
 unfold stretchL
 rw [List.drop_drop,show b+k - (a+k)=b - a by omega,show k+a=a+k by omega]
def rootsN (hs:List (List UInt8)) (i:Nat):List (List UInt8):=rootsL hs (pathL i 0 hs.length)
theorem rootsN_left (hs:List (List UInt8)) (i:Nat) (h2:2≤hs.length) (hi:i<splitN hs.length):rootsN hs i=rootsN (hs.take (splitN hs.length)) i++[rootL (hs.drop (splitN hs.length))]:=by
 have hl:=splitN_lt hs.length h2
 have hok:=pathL_ok (splitN hs.length) i 0 (splitN hs.length) (by omega) (by omega) hi
 unfold rootsN
 rw [pathL_left i 0 hs.length (by omega) (by simpa using hi),List.length_take,Nat.min_eq_left (by omega),Nat.sub_zero,Nat.zero_add]
 unfold rootsL
 rw [List.map_append]
 congr 1
 ·refine List.map_congr_left fun x hx=>?_
  exact (stretchL_take hs _ _ _ (hok.each x hx).2.2.1).symm
 ·simp only [List.map_cons,List.map_nil]
  unfold stretchL
  rw [List.take_of_length_le (by rw [List.length_drop];exact Nat.le_refl _)]
theorem rootsN_right (hs:List (List UInt8)) (i:Nat) (h2:2≤hs.length) (hi:¬ i<splitN hs.length):rootsN hs i=rootsN (hs.drop (splitN hs.length)) (i - splitN hs.length)++[rootL (hs.take (splitN hs.length))]:=by
 have hl:=splitN_lt hs.length h2
 unfold rootsN
 rw [pathL_right i 0 hs.length (by omega) (by simpa using hi),List.length_drop,Nat.sub_zero,Nat.zero_add]
 have hsh:=pathL_shift (splitN hs.length) (hs.length - splitN hs.length) (i - splitN hs.length) 0 (hs.length - splitN hs.length) (by omega)
 rw [show i - splitN hs.length+splitN hs.length=i by omega,Nat.zero_add,show hs.length - splitN hs.length+splitN hs.length=hs.length by omega] at hsh
 rw [hsh]
 unfold rootsL
 rw [List.map_append,List.map_map]
 congr 1
 ·refine List.map_congr_left fun x hx=>?_
  exact (stretchL_drop hs _ _ _).symm
theorem rootsN_small (hs:List (List UInt8)) (i:Nat) (h:hs.length<2):rootsN hs i=[]:=by
 unfold rootsN
 rw [pathL_small _ _ _ (by omega)];rfl
theorem length_rootsN (hs:List (List UInt8)) (i:Nat):(rootsN hs i).length=(pathL i 0 hs.length).length:=by simp [rootsN,rootsL]
theorem rootsP_nat (hs:List (List UInt8)) (i:Int) (h0:0≤i) (h1:i<hs.length):rootsP hs i=rootsN hs i.toNat∧(pathA i hs.length).2=0:=by
 unfold rootsP rootsN pathA
 rw [if_neg (by omega)]
 exact ⟨by rw [Int.toNat_natCast],rfl⟩
end Go.Proofs.YtdjhoankkddomaaGreat
