import Derived.Test.YtdjhoankkddomaaGreatQg216
import Derived.Laws.EntriesVeiled
import Derived.Test.YtdjhoankkddomaaGreatQg217
import Derived.Test.YtdjhoankkddomaaGreatQg211
import Derived.Test.YtdjhoankkddomaaGreatQg215
namespace Go.Proofs.YtdjhoankkddomaaGreat
open Go Go.RowKit
structure DnC (w:World) (M:Nat) (v:Value) (os:List (Nat × Nat)) (W:World):Prop where
 bm:Blk W w.heap.size 2 #[.int .i64 (M:Int)]
 bo:Blk W (w.heap.size+1) 157 #[v]
 bd:Blk W (w.heap.size+1+1) 180 #[.func (.func 114) #[] #[.pointer (some ⟨w.heap.size,0,none⟩),.pointer (some ⟨w.heap.size+1,0,none⟩),.pointer (some ⟨w.heap.size+1+1,0,none⟩)]]
 own:W.ownsRow (w.heap.size+1+1+1) 164 2 v os.length (rcells (natR os))
 bel:Below w.heap.size w W
theorem DnC.app {w W:World} {M:Nat} {v:Value} {os:List (Nat × Nat)} (h:DnC w M v os W) (x:Nat × Nat) (hl:os.length≤1000) :
  ∃ A' m' c' w',(Builtin.append_ #[157,157] 157 #[v,.slice (some ⟨W.heap.size,0,none⟩) 1 1]).run Tryz.prog (W.alloc (.cells #[.int .i64 (x.1:Int),.int .i64 (x.2:Int)] 164)) = .ok (.slice A' m' c') w' ∧
   w'.cell? ⟨w.heap.size+1,0,none⟩=some v∧w'.frozen? ⟨w.heap.size+1,0,none⟩=false∧DnC w M (.slice A' m' c') (os++[x]) (w'.setCell ⟨w.heap.size+1,0,none⟩ (.slice A' m' c')):=by
 have hlt:w.heap.size+1+1<W.heap.size:=h.bd.lt
 obtain ⟨v',w',hr,ho,hg,hf⟩:=append_r h.own ((x.1:Int),(x.2:Int)) (by omega) (by omega)
 rw [show natR os++[((x.1:Int),(x.2:Int))]=natR (os++[x]) by rw [natR_append];rfl,show os.length+1=(os++[x]).length by simp] at ho
 have hne:∀ g,g<w.heap.size+1+1+1→some g≠v.ownBlock:=fun g hg e=>by have:=(h.own.lt g e.symm).1;omega
 have bo':=h.bo.grown hg (hne _ (by omega))
 have hne':∀ g,g<w.heap.size+1+1+1→some g≠v'.ownBlock:=fun g hg e=>by have:=(ho.lt g e.symm).1;omega
 have bel':=h.bel.grown hg h.bel.size (fun k hk=>by have:=(h.own.lt k hk).1;omega)
 obtain ⟨A',c',rfl,-⟩:=owns_slv ho
 refine ⟨A',_,c',w',hr,by rw [bo'.cell];rfl,bo'.frozen 0,⟨(h.bm.grown hg (hne _ (by omega))).apart (by omega) _,bo'.set_ 0 _,(h.bd.grown hg (hne _ (by omega))).apart (by omega) _,?_,bel'.setCell (by show w.heap.size≤w.heap.size+1;omega) _⟩⟩
 exact ho.kept (grown_setCell (w:=w') (w':=w') (g:=w.heap.size+1) ⟨rfl,rfl,rfl,Nat.le_refl _,fun _ _ _=>rfl⟩ 0 _) (.inr (hne' _ (by omega)).symm)
set_option maxHeartbeats 2000000 in
set_option maxRecDepth 100000 in
theorem down_any (w:World) (M:Nat) (d:Nat):∀ (a t:Nat) (whole:Bool) (v:Value) (os:List (Nat × Nat)) (W:World),t - a≤d→a<M→M≤t→t≤9223372036854775807→os.length+(stepsL (M - a) a (t - a) whole).length≤1000→DnC w M v os W →
  Calls Tryz.prog 114 #[.int .i64 (a:Int),.int .i64 (t:Int),.bool whole,.pointer (some ⟨w.heap.size,0,none⟩),.pointer (some ⟨w.heap.size+1,0,none⟩),.pointer (some ⟨w.heap.size+1+1,0,none⟩)] W
   fun e W'=>(∃ r,e = .returned r)∧∃ v',DnC w M v' (os++stepsL (M - a) a (t - a) whole) W':=by
 induction d with
 | zero=>intro a t whole v os W h h1 h2;omega
 | succ d ih =>
  intro a t whole v os W hd ha hM ht hl hC
  have c2:W.cell? ⟨w.heap.size,0,none⟩=some (.int .i64 (M:Int)):=by rw [hC.bm.cell];rfl
  have c3:W.cell? ⟨w.heap.size+1,0,none⟩=some v:=by rw [hC.bo.cell];rfl
  have c4:W.cell? ⟨w.heap.size+1+1,0,none⟩=some (.func (.func 114) #[] #[.pointer (some ⟨w.heap.size,0,none⟩),.pointer (some ⟨w.heap.size+1,0,none⟩),.pointer (some ⟨w.heap.size+1+1,0,none⟩)]):=by rw [hC.bd.cell];rfl
  have hspl:=fun w=>tsplit_any ((t:Int) - (a:Int)) w (by omega)
  rw [show ((t:Int) - (a:Int)).toNat=t - a by omega] at hspl
  have hta:a+(t - a)=t:=by omega
  by_cases hMt:M=t
  ·subst hMt
   have hsle:=splitN_le (M - a)
   obtain ⟨s,hs⟩:∃ s,splitN (M - a)=s:=⟨_,rfl⟩
   rw [hs] at hspl hsle
   have Hspl:=Lib.hid hspl
   clear hspl hs
   have hst:=stepsL_eq (M - a) a whole (by omega)
   rw [hta] at hst
   have hst':=hst
   have hsp0:s≤M - a:=hsle
   have Hst:=Lib.hid hst
   clear hst hta hst'
   cases whole with
   | true =>
    go_enter Tryz.func114,Tryz.ntmps114
    go_wp2_with (go_at_call 108;refine (Hspl.out _).mono ?_;rintro e w2 ⟨rfl,rfl⟩)
    go_end0
    exact ⟨⟨_,rfl⟩,v,by rw [Hst.out];simpa using hC⟩
   | false =>
    obtain ⟨A',m',c',w',hr,g1,g2,hC'⟩:=hC.app (a,M) (by omega)
    have Hr:=Lib.hid hr
    clear hr
    go_enter Tryz.func114,Tryz.ntmps114
    go_wp2_with (first
     | (go_at_call 108;refine (Hspl.out _).mono ?_;rintro e w2 ⟨rfl,rfl⟩)
     | ((with_reducible show wpList _ _ _ (⟨some 37,.call _,_,_,_,_⟩::_) _ _);refine wpList_run rfl _ w' (run_append_op (.tmp 32) (.tmp 36) 157 rfl _ _ rfl rfl Hr.out) ?_;simp only [Act.put]))
    go_end0
    exact ⟨⟨_,rfl⟩,_,by rw [Hst.out];exact hC'⟩
  ·have hsl:=splitN_lt (t - a) (by omega)
   have hsp:=splitN_pos (t - a) (by omega)
   have hleft:=stepsL_left (M - a) a (t - a) whole (by omega) (by omega)
   have hright:=stepsL_right (M - a) a (t - a) whole (by omega) (by omega)
   rw [hta] at hleft
   have hbe:((M:Int)==(t:Int))=false:=by simp;omega
   obtain ⟨s,hs⟩:∃ s,splitN (t - a)=s:=⟨_,rfl⟩
   rw [hs] at hspl hsl hsp hleft hright
   have Hspl:=Lib.hid hspl
   clear hspl hs hta hMt
   by_cases hk:M≤a+s
   ·have hst:=hleft (by omega)
    rw [hst,List.length_append,List.length_singleton] at hl
    have hih:=ih a (a+s) whole v os W (by omega) ha hk (by omega) (by rw [show a+s - a=s by omega];omega) hC
    rw [show a+s - a=s by omega,show ((a+s:Nat):Int)=(a:Int)+(s:Int) by omega] at hih
    have hd2:decide ((M:Int)≤(a:Int)+(s:Int))=true:=by simp;omega
    have Hst:=Lib.hid hst
    have Hih:=Lib.hid hih
    clear hst hih hleft hright ih hC
    go_enter Tryz.func114,Tryz.ntmps114
    go_wp2_with (go_at_call 108;refine (Hspl.out _).mono ?_;rintro e w2 ⟨rfl,rfl⟩)
    refine Hih.out.mono ?_
    rintro e W2 ⟨⟨r,rfl⟩,v2,hC2⟩
    obtain ⟨A',m',c',w',hr,g1,g2,hC'⟩:=hC2.app (a+s,t) (by rw [List.length_append];omega)
    rw [show ((a+s:Nat):Int)=(a:Int)+(s:Int) by omega] at hr
    have c5:W2.cell? ⟨w.heap.size+1,0,none⟩=some v2:=by rw [hC2.bo.cell];rfl
    rw [List.append_assoc,← Hst.out] at hC'
    have Hr:=Lib.hid hr
    clear hr c2 c3 c4 Hih
    go_wp2_with ((with_reducible show wpList _ _ _ (⟨some 52,.call _,_,_,_,_⟩::_) _ _);refine wpList_run rfl _ w' (run_append_op (.tmp 47) (.tmp 51) 157 rfl _ _ rfl rfl Hr.out) ?_;simp only [Act.put])
    go_end0
    exact ⟨⟨_,rfl⟩,_,hC'⟩
   ·have hst:=hright (by omega)
    rw [hst,List.length_append,List.length_singleton] at hl
    have hih:=ih (a+s) t false v os W (by omega) (by omega) hM ht (by rw [show M - (a+s)=M - a - s by omega,show t - (a+s)=t - a - s by omega];omega) hC
    rw [show M - (a+s)=M - a - s by omega,show t - (a+s)=t - a - s by omega,show ((a+s:Nat):Int)=(a:Int)+(s:Int) by omega] at hih
    have hd2:decide ((M:Int)≤(a:Int)+(s:Int))=false:=by simp;omega
    have Hst:=Lib.hid hst
    have Hih:=Lib.hid hih
    clear hst hih hleft hright ih hC
    go_enter Tryz.func114,Tryz.ntmps114
    go_wp2_with (go_at_call 108;refine (Hspl.out _).mono ?_;rintro e w2 ⟨rfl,rfl⟩)
    refine Hih.out.mono ?_
    rintro e W2 ⟨⟨r,rfl⟩,v2,hC2⟩
    obtain ⟨A',m',c',w',hr,g1,g2,hC'⟩:=hC2.app (a,a+s) (by rw [List.length_append];omega)
    rw [show ((a+s:Nat):Int)=(a:Int)+(s:Int) by omega] at hr
    have c5:W2.cell? ⟨w.heap.size+1,0,none⟩=some v2:=by rw [hC2.bo.cell];rfl
    rw [List.append_assoc,← Hst.out] at hC'
    have Hr:=Lib.hid hr
    clear hr c2 c3 c4 Hih
    go_wp2_with ((with_reducible show wpList _ _ _ (⟨some 25,.call _,_,_,_,_⟩::_) _ _);refine wpList_run rfl _ w' (run_append_op (.tmp 20) (.tmp 24) 157 rfl _ _ rfl rfl Hr.out) ?_;simp only [Act.put])
    go_end0
    exact ⟨⟨_,rfl⟩,_,hC'⟩
end Go.Proofs.YtdjhoankkddomaaGreat
namespace Go.Proofs.YtdjhoankkddomaaGreat
open Go Go.RowKit
theorem tsteps_bad (m n:Int) (w:World) (h:m<0∨n<m) :
  Calls Tryz.prog 99 #[.int .i64 m,.int .i64 n] w fun e w'=>e = .returned (.tuple #[.slice none 0 0,.int .i64 4])∧Below w.heap.size w w':=by
 have hb:=(Below.refl w.heap.size w).alloc (Nat.le_refl _) (.cells #[.int .i64 m] 2)
 by_cases h0:m<0
 ·have h0':decide (m<0)=true:=by simp;exact h0
  go_enter Tryz.func99,Tryz.ntmps99
  go_wp2_with fail
  go_ret2
  exact ⟨rfl,hb⟩
 ·have h1:decide (n<m)=true:=by simp;omega
  have h0':decide (m<0)=false:=by simp;omega
  go_enter Tryz.func99,Tryz.ntmps99
  go_wp2_with fail
  go_ret2
  exact ⟨rfl,hb⟩
theorem tsteps_zero (n:Int) (w:World) (h:0≤n) :
  Calls Tryz.prog 99 #[.int .i64 0,.int .i64 n] w fun e w'=>e = .returned (.tuple #[.slice none 0 0,.int .i64 0])∧Below w.heap.size w w':=by
 have hb:=(Below.refl w.heap.size w).alloc (Nat.le_refl _) (.cells #[.int .i64 0] 2)
 have h1:decide (n<0)=false:=by simp;omega
 go_enter Tryz.func99,Tryz.ntmps99
 go_wp2_with fail
 go_ret2
 exact ⟨rfl,hb⟩
set_option maxHeartbeats 1000000 in
set_option maxRecDepth 100000 in
theorem tsteps_ok (m n:Nat) (w:World) (h1:1≤m) (h2:m≤n) (hn:n≤9223372036854775807) :
  Calls Tryz.prog 99 #[.int .i64 (m:Int),.int .i64 (n:Int)] w fun e w'=>∃ v,e = .returned (.tuple #[v,.int .i64 0])∧w'.ownsRow w.heap.size 164 2 v (stepsL m 0 n true).length (rcells (natR (stepsL m 0 n true)))∧Below w.heap.size w w':=by
 have hlen:(stepsL m 0 n true).length≤64:=stepsL_len 63 m 0 n true h1 h2 (by omega)
 have key:=fun W (h:DnC w m (.slice none 0 0) [] W)=>down_any w m n 0 n true (.slice none 0 0) [] W (by omega) (by omega) h2 hn (by simp;omega) h
 simp only [Nat.sub_zero,List.nil_append] at key
 have h0:decide ((m:Int)<0)=false:=by simp
 have h0':decide ((n:Int)<(m:Int))=false:=by simp;omega
 have h0'':decide (n<m)=false:=by simp;omega
 have hz:((m:Int)==0)=false:=by simp;omega
 have Key:=Lib.hid key
 clear key
 go_enter Tryz.func99,Tryz.ntmps99
 go_wp2_with fail
 refine (Key.out _ ⟨(((Blk.new _ _ _).alloc _).alloc _),(Blk.new' _ _ _ _ (by simp)).alloc _,Blk.new' _ _ _ _ (by simp),World.ownsRow_nil _ _ _ _,(((Below.refl _ _).alloc (Nat.le_refl _) _).alloc (by simp) _).alloc (by simp;omega) _⟩).mono ?_
 rintro e W ⟨⟨r,rfl⟩,v,hC⟩
 have c6:W.cell? ⟨w.heap.size+1,0,none⟩=some v:=by rw [hC.bo.cell];rfl
 go_wp2_with fail
 go_ret2
 exact ⟨v,rfl,owns_le hC.own (by omega),hC.bel⟩
end Go.Proofs.YtdjhoankkddomaaGreat
namespace Go.Proofs.YtdjhoankkddomaaGreat
open Go Go.RowKit
end Go.Proofs.YtdjhoankkddomaaGreat
namespace Go.Proofs.YtdjhoankkddomaaGreat
open Go Go.RowKit
theorem PtC.app {w W:World} {os:List (Nat × Nat)} {v:Value} (h:PtC w os v W) (x:Nat × Nat) (hl:os.length≤1000) :
  ∃ v' w',(Builtin.append_ #[157,157] 157 #[v,.slice (some ⟨W.heap.size,0,none⟩) 1 1]).run Tryz.prog (W.alloc (.cells #[.int .i64 (x.1:Int),.int .i64 (x.2:Int)] 164)) = .ok v' w'∧PtC w (os++[x]) v' w':=by
 obtain ⟨v',w',hr,ho,hg,-⟩:=append_r h.own ((x.1:Int),(x.2:Int)) (by omega) h.bel.size
 rw [show natR os++[((x.1:Int),(x.2:Int))]=natR (os++[x]) by rw [natR_append];rfl,show os.length+1=(os++[x]).length by simp] at ho
 exact ⟨v',w',hr,ho,h.bel.grown hg h.bel.size (fun k hk=>(h.own.lt k hk).1)⟩
set_option maxHeartbeats 1000000 in
set_option maxRecDepth 100000 in
theorem rsteps_rec (d:Nat):∀ (m a n:Nat) (whole:Bool) (w:World),n≤d→1≤m→m≤n→a+n≤9223372036854775807 →
  Calls Tryz.prog 115 #[.int .i64 (m:Int),.int .i64 (a:Int),.int .i64 (n:Int),.bool whole] w fun e w'=>∃ v,e = .returned v∧PtC w (stepsL m a n whole) v w':=by
 induction d using Nat.strongRecOn with
 | ind d ih =>
 intro m a n whole w hd h1 h2 hb
 have hsl':(stepsL m a n whole).length≤64:=stepsL_len 63 m a n whole h1 h2 (by omega)
 by_cases hmn:m=n
 ·subst hmn
  rw [stepsL_eq m a whole h1]
  clear ih hsl'
  have hbe:((m:Int)==(m:Int))=true:=by simp
  cases whole with
  | true =>
   go_enter Tryz.func115,Tryz.ntmps115
   go_wp2_with fail
   go_ret
   exact ⟨_,rfl,World.ownsRow_nil _ _ _ _,Below.refl _ _⟩
  | false =>
   have ho:(w.alloc (.cells #[.int .i64 (a:Int),.int .i64 ((a:Int)+(m:Int))] 164)).ownsRow w.heap.size 164 2 (.slice (some ⟨w.heap.size,0,none⟩) 1 1) 1 (rcells (natR [(a,a+m)])):=by
    have:=World.ownsRow_lit (base:=w.heap.size) (e:=164) (size:=2) w #[.int .i64 (a:Int),.int .i64 ((a:Int)+(m:Int))] 1 (Nat.le_refl _) (by decide) rfl
    rw [show rcells (natR [(a,a+m)])=[.int .i64 (a:Int),.int .i64 ((a:Int)+(m:Int))] by show [Value.int .i64 (a:Int),.int .i64 ((a+m:Nat):Int)]=_;rw [show ((a+m:Nat):Int)=(a:Int)+(m:Int) by omega]]
    exact this
   have hb:=(Below.refl w.heap.size w).alloc (Nat.le_refl _) (.cells #[.int .i64 (a:Int),.int .i64 ((a:Int)+(m:Int))] 164)
   go_enter Tryz.func115,Tryz.ntmps115
   go_wp2_with fail
   go_ret
   exact ⟨_,rfl,ho,hb⟩
 ·have hbe:((m:Int)==(n:Int))=false:=by simp;omega
  have hsl:=splitN_lt n (by omega)
  have hsp:=splitN_pos n (by omega)
  have hle:=stepsL_left m a n whole h1 (by omega)
  have hri:=stepsL_right m a n whole h1 (by omega)
  have hspl:=fun w=>rsplit_any (n:Int) w (by omega)
  rw [Int.toNat_natCast] at hspl
  obtain ⟨s,hs⟩:∃ s,splitN n=s:=⟨_,rfl⟩
  rw [hs] at hspl hsl hsp hle hri
  have Hspl:=Lib.hid hspl
  clear hspl hs hmn
  by_cases hk:m≤s
  ·have hd3:decide ((m:Int)≤(s:Int))=true:=by simp;omega
   have hd3':decide (m≤s)=true:=by simp;omega
   have hp:=hle hk
   rw [hp,List.length_append,List.length_singleton] at hsl'
   rw [hp]
   have hih:=ih s (by omega) m a s whole w (Nat.le_refl _) h1 hk (by omega)
   have Hih:=Lib.hid hih
   clear hih ih hle hri hp
   go_enter Tryz.func115,Tryz.ntmps115
   go_wp2_with (go_at_call 82;refine (Hspl.out _).mono ?_;rintro e w1 ⟨rfl,rfl⟩)
   refine Hih.out.mono ?_
   rintro e w2 ⟨v,rfl,hC⟩
   obtain ⟨v',w',hr,hC'⟩:=hC.app (a+s,a+n) (by omega)
   rw [show ((a+s:Nat):Int)=(a:Int)+(s:Int) by omega,show ((a+n:Nat):Int)=(a:Int)+(n:Int) by omega] at hr
   have Hr:=Lib.hid hr
   clear hr hC
   go_wp2_with ((with_reducible show wpList _ _ _ (⟨some 38,.call _,_,_,_,_⟩::_) _ _);refine wpList_run rfl v' w' (run_append_op (.tmp 29) (.tmp 37) 157 rfl _ _ rfl rfl Hr.out) ?_;simp only [Act.put])
   go_ret
   exact ⟨_,rfl,hC'⟩
  ·have hd3:decide ((m:Int)≤(s:Int))=false:=by simp;omega
   have hd3':decide (m≤s)=false:=by simp;omega
   have hp:=hri hk
   rw [hp,List.length_append,List.length_singleton] at hsl'
   rw [hp]
   have hih:=ih (n - s) (by omega) (m - s) (a+s) (n - s) false w (Nat.le_refl _) (by omega) (by omega) (by omega)
   rw [show ((a+s:Nat):Int)=(a:Int)+(s:Int) by omega,show ((m - s:Nat):Int)=(m:Int) - (s:Int) by omega,show ((n - s:Nat):Int)=(n:Int) - (s:Int) by omega] at hih
   have Hih:=Lib.hid hih
   clear hih ih hle hri hp
   go_enter Tryz.func115,Tryz.ntmps115
   go_wp2_with (go_at_call 82;refine (Hspl.out _).mono ?_;rintro e w1 ⟨rfl,rfl⟩)
   refine Hih.out.mono ?_
   rintro e w2 ⟨v,rfl,hC⟩
   obtain ⟨v',w',hr,hC'⟩:=hC.app (a,a+s) (by omega)
   rw [show ((a+s:Nat):Int)=(a:Int)+(s:Int) by omega] at hr
   have Hr:=Lib.hid hr
   clear hr hC
   go_wp2_with ((with_reducible show wpList _ _ _ (⟨some 55,.call _,_,_,_,_⟩::_) _ _);refine wpList_run rfl v' w' (run_append_op (.tmp 48) (.tmp 54) 157 rfl _ _ rfl rfl Hr.out) ?_;simp only [Act.put])
   go_ret
   exact ⟨_,rfl,hC'⟩
theorem rsteps_bad (m n:Int) (w:World) (h:m<0∨n<m) :
  Calls Tryz.prog 100 #[.int .i64 m,.int .i64 n] w fun e w'=>e = .returned (.tuple #[.slice none 0 0,.int .i64 4])∧w=w':=by
 by_cases h0:m<0
 ·have h0':decide (m<0)=true:=by simp;exact h0
  go_enter Tryz.func100,Tryz.ntmps100
  go_wp2_with fail
  go_ret2
  exact ⟨rfl,rfl⟩
 ·have h1:decide (n<m)=true:=by simp;omega
  have h0':decide (m<0)=false:=by simp;omega
  go_enter Tryz.func100,Tryz.ntmps100
  go_wp2_with fail
  go_ret2
  exact ⟨rfl,rfl⟩
theorem rsteps_zero (n:Int) (w:World) (h:0≤n) :
  Calls Tryz.prog 100 #[.int .i64 0,.int .i64 n] w fun e w'=>e = .returned (.tuple #[.slice none 0 0,.int .i64 0])∧w=w':=by
 have h1:decide (n<0)=false:=by simp;omega
 go_enter Tryz.func100,Tryz.ntmps100
 go_wp2_with fail
 go_ret2
 exact ⟨rfl,rfl⟩
theorem rsteps_ok (m n:Nat) (w:World) (h1:1≤m) (h2:m≤n) (hn:n≤9223372036854775807) :
  Calls Tryz.prog 100 #[.int .i64 (m:Int),.int .i64 (n:Int)] w fun e w'=>∃ v,e = .returned (.tuple #[v,.int .i64 0])∧PtC w (stepsL m 0 n true) v w':=by
 have hp:=rsteps_rec n m 0 n true w (Nat.le_refl _) h1 h2 (by omega)
 have h0:decide ((m:Int)<0)=false:=by simp
 have h3:decide ((n:Int)<(m:Int))=false:=by simp;omega
 have h3':decide (n<m)=false:=by simp;omega
 have hz:((m:Int)==0)=false:=by simp;omega
 have Hp:=Lib.hid hp
 clear hp
 go_enter Tryz.func100,Tryz.ntmps100
 go_wp2_with fail
 refine Hp.out.mono ?_
 rintro e w2 ⟨v,rfl,hC⟩
 go_wp2_with fail
 go_ret2
 exact ⟨v,rfl,hC⟩
end Go.Proofs.YtdjhoankkddomaaGreat
namespace Go.Proofs.YtdjhoankkddomaaGreat
open Go Go.RowKit
def pathA (i n:Int):List (Nat × Nat) × Int:=if i<0∨n≤i then ([],4) else (pathL i.toNat 0 n.toNat,0)
def stepsA (m n:Int):List (Nat × Nat) × Int:=if m<0∨n<m then ([],4) else if m=0 then ([],0) else (stepsL m.toNat 0 n.toNat true,0)
theorem pathA_len (i n:Int) (hn:n≤9223372036854775807):(pathA i n).1.length≤64:=by
 unfold pathA
 split
 ·simp
 ·have:=pathL_len 63 i.toNat 0 n.toNat (by omega)
  simp only;omega
theorem stepsA_len (i n:Int) (hn:n≤9223372036854775807):(stepsA i n).1.length≤64:=by
 unfold stepsA
 split
 ·simp
 ·split
  ·simp
  ·exact stepsL_len 63 i.toNat 0 n.toNat true (by omega) (by omega) (by omega)
theorem PtC.none_ {w w':World} (h:Below w.heap.size w w'):PtC w [] (.slice none 0 0) w':=⟨World.ownsRow_nil _ _ _ _,h⟩
theorem tpathA_any (i n:Int) (w:World) (hn:n≤9223372036854775807) :
  Calls Tryz.prog 95 #[.int .i64 i,.int .i64 n] w fun e w'=>∃ v,e = .returned (.tuple #[v,.int .i64 (pathA i n).2])∧PtC w (pathA i n).1 v w':=by
 unfold pathA
 by_cases h:i<0∨n≤i
 ·rw [if_pos h]
  exact (tpath_bad i n w h).mono fun e w' ⟨he,hw⟩=>⟨_,he,by subst hw;exact PtC.none_ (Below.refl _ _)⟩
 ·rw [if_neg h]
  have:=tpath_ok i.toNat n.toNat w (by omega) (by omega)
  rw [show ((i.toNat:Nat):Int)=i by omega,show ((n.toNat:Nat):Int)=n by omega] at this
  exact this.mono fun e w' ⟨v,he,h1,h2⟩=>⟨v,he,h1,h2⟩
theorem tstepsA_any (i n:Int) (w:World) (hn:n≤9223372036854775807) :
  Calls Tryz.prog 99 #[.int .i64 i,.int .i64 n] w fun e w'=>∃ v,e = .returned (.tuple #[v,.int .i64 (stepsA i n).2])∧PtC w (stepsA i n).1 v w':=by
 unfold stepsA
 by_cases h:i<0∨n<i
 ·rw [if_pos h]
  exact (tsteps_bad i n w h).mono fun e w' ⟨he,hw⟩=>⟨_,he,PtC.none_ hw⟩
 ·rw [if_neg h]
  by_cases h0:i=0
  ·subst h0
   rw [if_pos rfl]
   exact (tsteps_zero n w (by omega)).mono fun e w' ⟨he,hw⟩=>⟨_,he,PtC.none_ hw⟩
  ·rw [if_neg h0]
   have:=tsteps_ok i.toNat n.toNat w (by omega) (by omega) (by omega)
   rw [show ((i.toNat:Nat):Int)=i by omega,show ((n.toNat:Nat):Int)=n by omega] at this
   exact this.mono fun e w' ⟨v,he,h1,h2⟩=>⟨v,he,h1,h2⟩
theorem rstepsA_any (i n:Int) (w:World) (hn:n≤9223372036854775807) :
  Calls Tryz.prog 100 #[.int .i64 i,.int .i64 n] w fun e w'=>∃ v,e = .returned (.tuple #[v,.int .i64 (stepsA i n).2])∧PtC w (stepsA i n).1 v w':=by
 unfold stepsA
 by_cases h:i<0∨n<i
 ·rw [if_pos h]
  exact (rsteps_bad i n w h).mono fun e w' ⟨he,hw⟩=>⟨_,he,by subst hw;exact PtC.none_ (Below.refl _ _)⟩
 ·rw [if_neg h]
  by_cases h0:i=0
  ·subst h0
   rw [if_pos rfl]
   exact (rsteps_zero n w (by omega)).mono fun e w' ⟨he,hw⟩=>⟨_,he,by subst hw;exact PtC.none_ (Below.refl _ _)⟩
  ·rw [if_neg h0]
   have:=rsteps_ok i.toNat n.toNat w (by omega) (by omega) (by omega)
   rw [show ((i.toNat:Nat):Int)=i by omega,show ((n.toNat:Nat):Int)=n by omega] at this
   exact this
end Go.Proofs.YtdjhoankkddomaaGreat
namespace Go.Proofs.YtdjhoankkddomaaGreat
open Go Go.RowKit
theorem stepsA_each (m:Int) (n:Nat):∀ x ∈ (stepsA m n).1,x.1<x.2∧x.2≤n:=by
 intro x hx
 unfold stepsA at hx
 split at hx
 ·cases hx
 ·rename_i h1
  split at hx
  ·cases hx
  ·rename_i h2
   have:=(stepsL_ok n m.toNat 0 n true (Nat.le_refl _) (by omega) (by omega)).each x (by simpa using hx)
   omega
theorem stretchR_nat (hs:List (List UInt8)) (a b:Nat) (h1:a<b) (h2:b≤hs.length):stretchR hs (a:Int) (b:Int)=(stretchL hs a b,0):=by
 unfold stretchR
 rw [if_pos ⟨by omega,by omega,by omega⟩,Int.toNat_natCast,Int.toNat_natCast]
theorem steps_good (hs:List (List UInt8)) (m:Int):goodL hs (natR (stepsA m hs.length).1)=natR (stepsA m hs.length).1:=by
 unfold goodL
 rw [List.filter_eq_self]
 intro y hy
 unfold natR at hy
 obtain ⟨x,hx,rfl⟩:=List.mem_map.1 hy
 obtain ⟨h1,h2⟩:=stepsA_each m hs.length x hx
 unfold okR
 rw [stretchR_nat hs x.1 x.2 h1 h2]
 rfl
def rootsS (hs:List (List UInt8)) (m:Int):List (List UInt8):=rootsL hs (stepsA m hs.length).1
theorem length_natR (l:List (Nat × Nat)):(natR l).length=l.length:=by simp [natR]
theorem length_rootsS (hs:List (List UInt8)) (m:Int):(rootsS hs m).length=(stepsA m hs.length).1.length:=by simp [rootsS,rootsL]
theorem rootsS_all (hs:List (List UInt8)) (h:H32 hs) (m:Int):H32 (rootsS hs m):=rootsL_all hs h _
theorem rootsS_at (hs:List (List UInt8)) (m:Int) (k:Nat) (h:k<(stepsA m hs.length).1.length):(stretchR hs ((natR (stepsA m hs.length).1).getD k (0,0)).1 ((natR (stepsA m hs.length).1).getD k (0,0)).2).1=(rootsS hs m).getD k []:=by
 obtain ⟨h1,h2⟩:=stepsA_each m hs.length _ (List.getElem_mem h)
 unfold natR rootsS rootsL
 rw [List.getD_eq_getElem?_getD,List.getElem?_map,List.getD_eq_getElem?_getD,List.getElem?_map,List.getElem?_eq_getElem h]
 simp only [Option.map_some,Option.getD_some]
 rw [stretchR_nat hs _ _ h1 h2]
theorem take_snocH (l:List (List UInt8)) (k:Nat) (h:k<l.length):l.take (k+1)=l.take k++[l.getD k []]:=by
 rw [List.take_succ_eq_append_getElem h,List.getD_eq_getElem?_getD,List.getElem?_eq_getElem h];rfl
theorem rootsS_bad (hs:List (List UInt8)) (m:Int) (h:(stepsA m hs.length).2≠0):rootsS hs m=[]:=by
 unfold rootsS stepsA at *
 split
 ·rfl
 ·rename_i h1
  rw [if_neg h1] at h
  split at h <;> exact absurd rfl h
end Go.Proofs.YtdjhoankkddomaaGreat
namespace Go.Proofs.YtdjhoankkddomaaGreat
open Go Go.RowKit Go.Shelf
attribute [local go_sem] Oper.semAt_some
structure EaI (W0:World) (U:Nat→Prop) (J:Nat→Nat→World→Prop) (hs:List (List UInt8)) (l:List (Int × Int)) (A:Option Addr) (n c g2 ly:Nat) (n₁ k:Nat) (W:World):Prop where
 j:J n₁ (cntL hs l k) W
 b3:Blk W W0.heap.size 175 #[.func (.yield ly) #[] #[]]
 b2:Blk W g2 49 #[.slice A n c]
 h:Hs W (fun b=>b<W0.heap.size∧¬ U b) A n c hs
theorem EaI.own {W0:World} {U:Nat→Prop} {J:Nat→Nat→World→Prop} {hs:List (List UInt8)} {l:List (Int × Int)} {A:Option Addr} {n c g2 ly B:Nat} (hJ:∀ n₁,OwnFrom W0.heap.size (J n₁)) (hB:W0.heap.size<B) (hg2:g2<W0.heap.size) (n₁:Nat) :
  OwnFrom B (EaI W0 U J hs l A n c g2 ly n₁):=fun _ X Y row h hg hr =>
 have hne:∀ g,g<B→some g≠row:=fun g hg e=>by have:=(hr g e.symm).1;omega
 ⟨hJ n₁ _ X Y row h.j hg (fun r e=>⟨by have:=(hr r e).1;omega,(hr r e).2⟩),h.b3.grown hg (hne _ hB),h.b2.grown hg (hne _ (by omega)),h.h.grown hg fun b _ hx=>hne b (by have:=hx.1;omega)⟩
theorem KeepU.up {B B' n₁:Nat} {U:Nat→Prop} {W W':World} (h:KeepU B n₁ U W W') (hB:B≤B'):KeepU B' n₁ U W W':=⟨⟨h.f.size,fun k o hk ho hc=>h.f.same k o (Nat.le_trans hB hk) ho hc⟩,h.os,h.tape,h.output,h.cells⟩
theorem keepsFrom_up {B B':Nat} {W W':World} (h:KeepsFrom B W W') (hB:B≤B'):KeepsFrom B' W W':=⟨h.size,fun k o hk ho hc=>h.same k o (Nat.le_trans hB hk) ho hc⟩
theorem EaI.step {W0:World} {U:Nat→Prop} {J:Nat→Nat→World→Prop} {hs:List (List UInt8)} {l:List (Int × Int)} {A:Option Addr} {n c g2 ly n₁ k:Nat} {W W':World} (h:EaI W0 U J hs l A n c g2 ly n₁ k W) (hJ:∀ n₁,OwnFrom W0.heap.size (J n₁)) (hb:Below W.heap.size W W'):EaI W0 U J hs l A n c g2 ly n₁ k W' :=
 ⟨hJ n₁ _ W W' none h.j (grown_of_below hb none) (fun r e=>by cases e),h.b3.step hb,h.b2.step hb,h.h.step hb⟩
def goodY (hs:List (List UInt8)) (l:List (Int × Int)) (k:Nat) (vs:Array Value):Prop:=vs=#[rval ((goodL hs l).getD k (0,0)),.agg ((stretchR hs ((goodL hs l).getD k (0,0)).1 ((goodL hs l).getD k (0,0)).2).1.map B).toArray]
set_option maxRecDepth 100000 in
set_option maxHeartbeats 4000000 in
theorem each1_seq (hs:List (List UInt8)) (l:List (Int × Int)) (A:Option Addr) (n c:Nat) (Ar:Option Addr) (nr cr g1 g2:Nat) (U:Nat→Prop) (w:World) (hb1:Blk w g1 157 #[.slice Ar nr cr]) (hb2:Blk w g2 49 #[.slice A n c])
  (h:Hs w (fun b=>¬ U b) A n c hs) (hr:Rs w (fun b=>¬ U b) Ar nr cr l) (hU2:¬ U g2) (hUlt:∀ b,U b→b<w.heap.size) (hn:n≤1099511627776) (hnr:nr≤1099511627776) :
  SeqU Tryz.prog 111 #[.pointer (some ⟨g1,0,none⟩),.pointer (some ⟨g2,0,none⟩)] (goodL hs l).length U (fun _ k vs _=>goodY hs l k vs) w:=by
 intro ly J Jx W hW hJ hJx hY h0
 have hb1':=hb1.below hW hb1.lt
 have hb2':=hb2.below hW hb2.lt
 have hg2:g2<W.heap.size:=hb2'.lt
 have h':=h.step hW
 have hr':=hr.step hW
 have hUW:∀ b,U b→b<W.heap.size:=fun b hb=>Nat.lt_of_lt_of_le (hUlt b hb) hW.size
 have hlen:=hr.len
 have hroom:=h.sl.room
 have hmx:=h.sl.max
 unfold maxLen at hmx
 have h32:=h.all
 obtain ⟨W1,hW1⟩:∃ W1,W.alloc (.cells #[.func (.yield ly) #[] #[]] 175)=W1:=⟨_,rfl⟩
 have hbW:Below W.heap.size W W1:=by rw [← hW1];exact (Below.refl _ _).alloc (Nat.le_refl _) _
 have hsz1:W1.heap.size=W.heap.size+1:=by rw [← hW1];simp
 have b3:Blk W1 W.heap.size 175 #[.func (.yield ly) #[] #[]]:=by rw [← hW1];exact Blk.new _ _ _
 have c1:W1.cell? ⟨g1,0,none⟩=some (.slice Ar nr cr):=by rw [(hb1'.below hbW hb1'.lt).cell];rfl
 have hI1:∀ n₁,W.heap.size≤n₁→EaI W U J hs l A n c g2 ly n₁ 0 W1:=fun n₁ hn=>⟨hJ n₁ _ W W1 none (h0 n₁ hn) (grown_of_below hbW none) (fun r e=>by cases e),b3,hb2'.step hbW,(h'.weak fun b hb hx=>⟨hb,hx⟩).step hbW⟩
 have hr1:=hr'.step hbW
 have Hr1:=Lib.hid hr1
 have HW1:=Lib.hid hW1
 have HI1:=Lib.hid hI1
 have HJ:=Lib.hid hJ
 have HJx:=Lib.hid hJx
 have HY:=Lib.hid hY
 have Hlen:=Lib.hid hlen
 have H32h:=Lib.hid h32
 clear hW1 hI1 hr1 hb1 hb2 hb1' hb2' h h' hr hr' h0 hW hJ hJx hY hlen h32 b3 hbW
 refine callsIn_of_wp_marks Tryz.func111 rfl trivial ?_ rfl
 simp only [Tryz.ntmps111,List.size_toArray,List.length_cons,List.length_nil,Nat.reduceAdd,Nat.reduceSub,Array.replicate_succ,Array.replicate_zero,List.push_toArray,List.append_toArray,List.nil_append,List.cons_append]
 gi_wp2_with ((with_reducible show wpListIn _ _ _ _ _ (⟨some 7,.load _ _,_,_,_,_⟩::_) _ _);rw [HW1.out])
 refine ⟨trivial,(callsIn_wide.2 (valuesr_any Ar nr cr W1)).mono ?_⟩
 rintro e W2 ⟨rfl,hbv,hb2⟩
 have hr2:=Hr1.out.step hb2
 have hI2:=fun n₁ hn=>(HI1.out n₁ hn).step HJ.out hb2
 have HI2:=Lib.hid hI2
 have hsz2:=hb2.size
 clear hI2 c1 HI1 Hr1 hb2
 gi_wp2
 rw [hsz1] at hbv
 refine wpIn_wide.2 ?_
 refine wp_range_U (gf:=123) (lb:=#[.pointer (some ⟨W.heap.size+1,0,none⟩)]) rfl (enters_of Tryz.func123 (by kernel_rfl) rfl) (values1_seq l Ar nr cr (W.heap.size+1) U W2 hbv hr2 (fun h=>by have:=hUW _ h;omega) hnr) (fun _ _ _ _ h=>by rw [h];rfl)
  (EaI W U J hs l A n c g2 ly) (fun n₁ cd _ Wk=>cd = .ret∧∃ q,q<(goodL hs l).length∧Jx n₁ (q+1) Wk)
  (EaI.own HJ.out (by omega) hg2) (fun n₁ cd _ X Y row h hg hr=>⟨h.1,let ⟨q,hq,hj⟩:=h.2;⟨q,hq,HJx.out n₁ _ X Y row hj hg (fun r e=>⟨by have:=(hr r e).1;omega,(hr r e).2⟩)⟩⟩) (fun n₁ hn=>HI2.out n₁ (by omega)) ?round ?done ?stop
 case round =>
  clear HI2 hr2 hbv HW1
  intro li n₁ k vs X hl hln hnX hk hI hy
  subst hy
  obtain ⟨⟨x1,x2⟩,hx⟩:∃ x,l.getD k (0,0)=x:=⟨_,rfl⟩
  rw [hx]
  dsimp only [rval]
  have Hx:=Lib.hid hx
  clear hx
  gi_wp2
  have hb1:Below X.heap.size X (X.alloc (.cells #[.int .i64 x1,.int .i64 x2] 164)):=(Below.refl _ _).alloc (Nat.le_refl _) _
  have k4:=Blk.new X 164 #[.int .i64 x1,.int .i64 x2]
  refine ⟨KeepU.below hb1,?_⟩
  intro X2 hturn
  have hI2:=hturn.own (EaI.own HJ.out (show W.heap.size<W2.heap.size by omega) hg2 n₁) (hI.step HJ.out hb1)
  replace k4:=hturn.blk k4
  have hX2:n₁≤X2.heap.size:=by rw [hturn.size];exact Nat.le_trans hnX hb1.size
  generalize X.heap.size=g4 at k4
  clear hI hb1 hturn hnX
  have c2:X2.cell? ⟨g2,0,none⟩=some (.slice A n c):=by rw [hI2.b2.cell];rfl
  obtain ⟨⟨z,zo⟩,hz⟩:∃ z,stretchR hs x1 x2=z:=⟨_,rfl⟩
  have hzl:z.length=32:=by have:=length_stretchR hs x1 x2 H32h.out;rw [hz] at this;exact this
  have hst:=tstretch_any hs A n c X2 x1 x2 (hI2.h.weak fun _ _ _=>trivial) (by omega)
  rw [hz] at hst
  have Hz:=Lib.hid hz
  have Hzl:=Lib.hid hzl
  have Hst:=Lib.hid hst
  clear hz hzl hst
  gi_wp2_with ((with_reducible show wpListIn _ _ _ _ _ (⟨some 12,.load _ _,_,_,_,_⟩::_) _ _);refine wpListIn_of1 (openR li) rfl ?_;refine wpList_cell 164 (.tmp 4) g4 0 (.agg #[.int .i64 x1,.int .i64 x2]) (by kernel_rfl) rfl rfl (load_R k4) ?_;refine thenN_nil ?_;simp only [Act.put])
  refine ⟨trivial,(CallsIn.inRound li (callsIn_wide.2 Hst.out)).mono ?_⟩
  rintro e X3 ⟨rfl,hb3⟩
  have hI3:=hI2.step HJ.out hb3
  replace k4:=k4.step hb3
  have hK3:KeepU W2.heap.size n₁ U X2 X3:=KeepU.below hb3
  have hX3:=hb3.size
  clear c2 hI2 hb3 Hst
  by_cases ho:zo=0
  ·have hz0:(zo==0)=true:=by rw [ho];rfl
   obtain ⟨hcl,hca⟩:=goodL_at hs l k (by rw [Hlen.out];exact hk) (by rw [Hx.out,Hz.out];exact ho)
   have hcs:=cntL_ok hs l k (by rw [Hlen.out];exact hk) (by rw [Hx.out,Hz.out];exact ho)
   rw [Hx.out] at hca
   have Hcl:=Lib.hid hcl
   have Hca:=Lib.hid hca
   have Hcs:=Lib.hid hcs
   clear ho hcl hca hcs
   gi_wp2_with (first
    | ((with_reducible show wpListIn _ _ _ _ _ (⟨some 5,.alloc _,_,_,_,_⟩::_) _ _);refine wpListIn_of2 (openR li) rfl ?_;refine wpList_hvar (.tmp 5) (.tmp 14) rfl rfl rfl rfl rfl rfl Hzl.out ?_;intro X4 k5 hb4;refine thenN_nil ?_;simp only [Act.put];have c3:X4.cell? ⟨W.heap.size,0,none⟩=some (.func (.yield ly) #[] #[]):=(by rw [(hI3.b3.step hb4).cell];rfl))
    | ((with_reducible show wpListIn _ _ _ _ _ (⟨some 20,.load _ _,_,_,_,_⟩::_) _ _);refine wpListIn_of1 (openR li) rfl ?_;refine wpList_cell 164 (.tmp 4) g4 0 (.agg #[.int .i64 x1,.int .i64 x2]) (by kernel_rfl) rfl rfl (load_R (k4.step hb4)) ?_;refine thenN_nil ?_;simp only [Act.put])
    | ((with_reducible show wpListIn _ _ _ _ _ (⟨some 21,.load _ _,_,_,_,_⟩::_) _ _);refine wpListIn_of1 (openR li) rfl ?_;refine wpList_hload (.tmp 5) (by kernel_rfl) rfl k5 rfl ?_;refine thenN_nil ?_;simp only [Act.put];obtain ⟨fn,tmps,assign,body,hy,hR⟩:=HY.out n₁ (cntL hs l k) #[.agg #[.int .i64 x1,.int .i64 x2],.agg (z.map B).toArray] X4 (by omega) (by have:=hb4.size;omega) Hcl.out (hI3.step HJ.out hb4).j (by unfold goodY;rw [Hca.out];dsimp only [rval];rw [Hz.out])))
   refine (show RoundIn (Fence.wide.inRound li) 2 _ ly fn tmps assign body X4 _ from roundIn_any hR).mono ?_
   have hI4:=hI3.step HJ.out hb4
   have hK4:KeepU W2.heap.size n₁ U X3 X4:=KeepU.below hb4
   have hX4:=hb4.size
   have hn₁:W.heap.size<n₁:=by omega
   have hnU:¬ U W.heap.size:=fun h=>by have:=hUW _ h;omega
   clear hR hy k4 k5 c3 hb4 hI3
   rintro e X5 (⟨rfl,hj5,hk5⟩|⟨rfl,hjx5,hk5⟩)
   ·have hI5:EaI W U J hs l A n c g2 ly n₁ (k+1) X5:=⟨by rw [Hcs.out];exact hj5,hk5.blk hI4.b3 hn₁ hnU,hk5.blk hI4.b2 (by omega) hU2,⟨hk5.slv hI4.h.sl (fun b _ hb=>⟨by have:=hb.1;omega,hb.2⟩),hI4.h.len,hI4.h.all⟩⟩
    have hK5:=(hK3.trans hK4).trans (hk5.up (by omega))
    gi_wp2
    exact ⟨hK5,hI5⟩
   ·have hK5:=(hK3.trans hK4).f.trans (keepsFrom_up hk5 (show W.heap.size≤W2.heap.size by omega))
    gi_wp2
    exact ⟨hK5,rfl,_,Hcl.out,hjx5⟩
  ·have hz0:(zo==0)=false:=by simp [ho]
   have hcs:=cntL_bad hs l k (by rw [Hlen.out];exact hk) (by rw [Hx.out,Hz.out];exact ho)
   have Hcs:=Lib.hid hcs
   clear ho hcs
   gi_wp2_with ((with_reducible show wpListIn _ _ _ _ _ (⟨some 5,.alloc _,_,_,_,_⟩::_) _ _);refine wpListIn_of2 (openR li) rfl ?_;refine wpList_hvar (.tmp 5) (.tmp 14) rfl rfl rfl rfl rfl rfl Hzl.out ?_;intro X4 k5 hb4;refine thenN_nil ?_;simp only [Act.put])
   refine ⟨fun f h=>(by cases h),?_⟩
   have hI4:=hI3.step HJ.out hb4
   have hK4:KeepU W2.heap.size n₁ U X3 X4:=KeepU.below hb4
   clear k4 k5 hb4 hI3
   gi_wp2
   refine ⟨hK3.trans hK4,?_⟩
   exact ⟨by rw [Hcs.out];exact hI4.j,hI4.b3,hI4.b2,hI4.h⟩
 case done =>
  intro D n₁ X hD hDn hI hK
  have hj:=hI.j
  rw [← Hlen.out,cntL_all] at hj
  have hj':=(HJ.out n₁).putObj (.deferred none) hj (show W.heap.size≤D by omega) hK rfl
  clear hI hj
  refine ⟨by simp,.inl ⟨_,_,rfl,run_takeDeferred hK,?_⟩⟩
  refine ⟨_,results_none rfl _ _ _,⟨_,rfl⟩,n₁,by omega,.inl hj'⟩
 case stop =>
  rintro D n₁ cd k X hD hDn hk ⟨rfl,q,hq,hj⟩ hK
  have hj':=(HJx.out n₁).putObj (.deferred none) hj (show W.heap.size≤D by omega) hK rfl
  clear hj
  go_wp2_with fail
  refine ⟨by simp,.inl ⟨_,_,rfl,run_takeDeferred hK,?_⟩⟩
  refine ⟨_,results_none rfl _ _ _,⟨_,rfl⟩,n₁,by omega,.inr ⟨q,hq,hj'⟩⟩
end Go.Proofs.YtdjhoankkddomaaGreat
namespace Go.Proofs.YtdjhoankkddomaaGreat
open Go Go.RowKit
set_option maxHeartbeats 2000000 in
set_option maxRecDepth 100000 in
theorem each_any (hs:List (List UInt8)) (l:List (Int × Int)) (A:Option Addr) (n c:Nat) (Ar:Option Addr) (nr cr:Nat) (w:World) (h:Hs w (fun _=>True) A n c hs) (hr:Rs w (fun _=>True) Ar nr cr l) (hn:n≤1099511627776) (hnr:nr≤1099511627776) :
  Calls Tryz.prog 96 #[.slice A n c,.slice Ar nr cr] w fun e w'=>∃ (A':Option Addr) (c':Nat) (Ar':Option Addr) (cr':Nat),e = .returned (.func (.func 111) #[] #[.pointer (some ⟨w.heap.size+1,0,none⟩),.pointer (some ⟨w.heap.size,0,none⟩)]) ∧
   Blk w' (w.heap.size+1) 157 #[.slice Ar' nr cr']∧Blk w' w.heap.size 49 #[.slice A' n c']∧Hs w' (w.heap.size+1 < ·) A' n c' hs∧Rs w' (w.heap.size+1 < ·) Ar' nr cr' l∧Below w.heap.size w w':=by
 obtain ⟨w2,hw2⟩:∃ w2,(w.alloc (.cells #[.slice A n c] 49)).alloc (.cells #[.slice Ar nr cr] 157)=w2:=⟨_,rfl⟩
 have hb2:Below w.heap.size w w2:=by rw [← hw2];exact ((Below.refl _ _).alloc (Nat.le_refl _) _).alloc (by simp) _
 have hsz:w2.heap.size=w.heap.size+1+1:=by rw [← hw2];simp
 have k2:Blk w2 w.heap.size 49 #[.slice A n c]:=by rw [← hw2];exact (Blk.new _ _ _).alloc _
 have k3:Blk w2 (w.heap.size+1) 157 #[.slice Ar nr cr]:=by rw [← hw2];exact Blk.new' _ _ _ _ (by simp)
 have h2:=h.step hb2
 have hr2:=hr.step hb2
 have Hw2:=Lib.hid hw2
 clear hw2 h hr
 go_enter Tryz.func96,Tryz.ntmps96
 go_wp2_with fail
 rw [Hw2.out]
 have hh0:Hs w2.drew (fun _=>True) A n c hs:=h2.drew
 have hr0:Rs w2.drew (fun _=>True) Ar nr cr l:=hr2.drew
 have hsz0:w2.drew.heap.size=w.heap.size+1+1:=hsz
 have c2:∀ s:InC (fun W=>Below w2.heap.size w2 W),s.W.cell? ⟨w.heap.size,0,none⟩=some (.slice A n c):=fun s=>by rw [(k2.below s.ok (show w.heap.size<w2.heap.size by omega)).cell];rfl
 have c3:∀ s:InC (fun W=>Below w2.heap.size w2 W),s.W.cell? ⟨w.heap.size+1,0,none⟩=some (.slice Ar nr cr):=fun s=>by rw [(k3.below s.ok (show w.heap.size+1<w2.heap.size by omega)).cell];rfl
 replace k2:Blk w2.drew w.heap.size 49 #[.slice A n c]:=k2
 replace k3:Blk w2.drew (w.heap.size+1) 157 #[.slice Ar nr cr]:=k3
 clear h2 hr2
 have hS:Below w2.heap.size w2 w2.drew:=(Below.refl _ _).drew
 refine wp_region_mix_tail (fun W=>Below w2.heap.size w2 W) 4 [(0,true),(2,true),(1,false),(3,false)] (by kernel_rfl) (by kernel_rfl) hS fun _=>?_
 simp only [List.map_cons,List.map_nil,Array.getD_eq_getD_getElem?,List.getElem?_toArray,List.getElem?_cons_succ,List.getElem?_cons_zero,Option.getD_some]
 generalize w2.drew=W0 at hS hh0 hr0 hsz0 k2 k3 ⊢
 iterate 2 (refine wpMix_s (fun K hK=>?_);go_simp;refine hK _ ?_;clear hK K)
 refine wpMix_c (fun K hK=>?_) hS
 go_simp
 refine (cloneh_any hs A n c W0 hh0 hn).mono ?_
 rintro e W0_1 ⟨A1,c1,rfl,hh1,hb'⟩
 refine hK _ _ ?_
 clear hK K
 replace hS:=hS.trans (hb'.mono hS.size)
 refine ⟨hS,?_⟩
 have h3:=hr0.step hb'
 replace k2:=k2.step hb'
 replace k3:=k3.step hb'
 have hsW:=hb'.size
 clear hb' hh0 hr0
 refine wpMix_c (fun K hK=>?_) hS
 go_simp
 refine (cloner_any l Ar nr cr W0_1 h3 hnr).mono ?_
 rintro e W0_2 ⟨A2,c2,rfl,hr1,hb'⟩
 refine hK _ _ ?_
 clear hK K
 replace hS:=hS.trans (hb'.mono hS.size)
 refine ⟨hS,?_⟩
 replace hh1:=hh1.step hb'
 replace k2:=k2.step hb'
 replace k3:=k3.step hb'
 have hsW2:=hb'.size
 clear hb' h3
 have d2:W0_2.cell? ⟨w.heap.size,0,none⟩=some (.slice A n c):=by rw [k2.cell];rfl
 have d3:W0_2.cell? ⟨w.heap.size+1,0,none⟩=some (.slice Ar nr cr):=by rw [k3.cell];rfl
 have f2:=k2.frozen 0
 have f3:=k3.frozen 0
 refine wpMix_nil ?_
 intro _
 simp only [List.drop_succ_cons,List.drop_zero]
 generalize W0_2=W9 at *
 go_wp2_with fail
 refine np_normal ?_
 have m2:Blk ((W9.setCell ⟨w.heap.size,0,none⟩ (.slice A1 n c1)).setCell ⟨w.heap.size+1,0,none⟩ (.slice A2 nr c2)) w.heap.size 49 #[.slice A1 n c1]:=(k2.set_ 0 _).apart (by simp) _
 have m3:Blk ((W9.setCell ⟨w.heap.size,0,none⟩ (.slice A1 n c1)).setCell ⟨w.heap.size+1,0,none⟩ (.slice A2 nr c2)) (w.heap.size+1) 157 #[.slice A2 nr c2]:=(k3.apart (by simp) _).set_ 0 _
 have mh:Hs ((W9.setCell ⟨w.heap.size,0,none⟩ (.slice A1 n c1)).setCell ⟨w.heap.size+1,0,none⟩ (.slice A2 nr c2)) (w.heap.size+1 < ·) A1 n c1 hs :=
  ((hh1.weak (Y:=(w.heap.size+1 < ·)) fun b _ hb=>by omega).grown (grownBy_setCell' W9 _ _) fun b _ hx e=>by cases e;omega).grown (grownBy_setCell' _ _ _) fun b _ hx e=>by cases e;omega
 have mr:Rs ((W9.setCell ⟨w.heap.size,0,none⟩ (.slice A1 n c1)).setCell ⟨w.heap.size+1,0,none⟩ (.slice A2 nr c2)) (w.heap.size+1 < ·) A2 nr c2 l :=
  ((hr1.weak (Y:=(w.heap.size+1 < ·)) fun b _ hb=>by omega).grown (grownBy_setCell' W9 _ _) fun b _ hx e=>by cases e;omega).grown (grownBy_setCell' _ _ _) fun b _ hx e=>by cases e;omega
 have mb:Below w.heap.size w ((W9.setCell ⟨w.heap.size,0,none⟩ (.slice A1 n c1)).setCell ⟨w.heap.size+1,0,none⟩ (.slice A2 nr c2)):=((hb2.trans (hS.mono hb2.size)).setCell (by simp) _).setCell (by simp) _
 generalize (W9.setCell ⟨w.heap.size,0,none⟩ (.slice A1 n c1)).setCell ⟨w.heap.size+1,0,none⟩ (.slice A2 nr c2)=W10 at *
 clear k2 k3 d2 d3 f2 f3 hh1 hr1 hS
 go_wp2_with fail
 go_ret
 exact ⟨_,_,_,_,rfl,m3,m2,mh,mr,mb⟩
end Go.Proofs.YtdjhoankkddomaaGreat
namespace Go.Proofs.YtdjhoankkddomaaGreat
open Go Go.RowKit
section
variable {w:World} {hs:List (List UInt8)} {l:List (Int × Int)} {A:Option Addr} {n c:Nat} {Ar:Option Addr} {nr cr:Nat} {lv:Int} {A2:Option Addr} {c2:Nat} {Ar2:Option Addr} {cr2 G Z:Nat} {W W':World}
end
section
variable {w:World} {hs:List (List UInt8)} {l:List (Int × Int)} {A:Option Addr} {n c:Nat} {Ar:Option Addr} {nr cr:Nat} {lv:Int} {A2:Option Addr} {c2:Nat} {Ar2:Option Addr} {cr2 G Z gW gT gk t k B:Nat} {ds:List Nat} {W W':World}
end
end Go.Proofs.YtdjhoankkddomaaGreat
