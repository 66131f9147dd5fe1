import Derived.Test.YtdjhoankkddomaaGreatQg229
import Derived.Test.YtdjhoankkddomaaGreatQg226
import Derived.Test.YtdjhoankkddomaaGreatQg228
import Derived.Test.YtdjhoankkddomaaGreatQg224
import Derived.Test.YtdjhoankkddomaaGreatQg225
namespace Go.Proofs.YtdjhoankkddomaaGreat
open Go Go.RowKit
set_option maxHeartbeats 4000000 in
set_option maxRecDepth 100000 in
theorem r11prove_rec (d:Nat):∀ (hs:List (List UInt8)) (A:Option Addr) (n c:Nat) (w:World) (i:Nat),n≤d→i<n→Hs w (fun _=>True) A n c hs→n≤1099511627776 →
  Calls Tryz.prog 74 #[.slice A n c,.int .i64 (i:Int)] w fun e w'=>∃ v,e = .returned (.tuple #[v,.int .i64 0])∧w'.ownsRow w.heap.size 53 32 v (rootsN hs i).length (hcells (rootsN hs i))∧Below w.heap.size w w':=by
 induction d with
 | zero=>intro hs A n c w i h h1;omega
 | succ d ih =>
  intro hs A n c w i hd hi h hn
  have hlen:=h.len
  have h32:=h.all
  have hroom:=h.sl.room
  have hmx:=h.sl.max
  unfold maxLen at hmx
  have h0':decide ((i:Int)<0)=false:=by simp
  have h1':decide ((n:Int)≤(i:Int))=false:=by simp;omega
  have h1'':decide (n≤i)=false:=by simp;omega
  have hrl:(rootsN hs i).length≤63:=by rw [length_rootsN];exact pathL_len 63 i 0 _ (by omega)
  have Hlen:=Lib.hid hlen
  have H32h:=Lib.hid h32
  clear hlen h32
  by_cases hn1:n=1
  ·subst hn1
   rw [rootsN_small hs i (by rw [Hlen.out];omega)]
   clear ih h
   go_enter Tryz.func74,Tryz.ntmps74
   go_wp2_with fail
   refine bodyPost_ret (results_tmp2 rfl _ _ _) rfl ⟨_,rfl,World.ownsRow_nil _ _ _ _,Below.refl _ _⟩
  have hne1:((n:Int)==1)=false:=by simp;omega
  have hspl:=fun W=>r11split_any (n:Int) W (by omega) (by omega)
  rw [Int.toNat_natCast] at hspl
  have hsl:=splitN_lt n (by omega)
  have hsp:=splitN_pos n (by omega)
  have hle:=rootsN_left hs i (by rw [Hlen.out];omega)
  have hri:=rootsN_right hs i (by rw [Hlen.out];omega)
  rw [Hlen.out] at hle hri
  obtain ⟨s,hs'⟩:∃ s,splitN n=s:=⟨_,rfl⟩
  rw [hs'] at hspl hsl hsp hle hri
  have Hspl:=Lib.hid hspl
  clear hspl hs'
  have hT:=fun W (hW:Below w.heap.size w W)=>(((h.weak fun b hb _=>hb:Hs w (·<w.heap.size) A n c hs).step hW).take s (by omega)).weak (Y:=fun _=>True) fun _ _ _=>trivial
  have hD:=fun W (hW:Below w.heap.size w W)=>(((h.weak fun b hb _=>hb:Hs w (·<w.heap.size) A n c hs).step hW).drop s (by omega)).weak (Y:=fun _=>True) fun _ _ _=>trivial
  clear h
  obtain ⟨Ax,hAx⟩:∃ Ax,(if c=s then A else A.map (·.add (s*32)))=Ax:=⟨_,rfl⟩
  rw [hAx] at hD
  have HAx:=Lib.hid hAx
  clear hAx
  by_cases hlt:i<s
  ·have hd2:decide ((i:Int)<(s:Int))=true:=by simp;omega
   have hp:=hle hlt
   rw [hp] at hrl ⊢
   have hic:=ih (hs.take s) A s c w i (by omega) hlt (hT w (Below.refl _ _)) (by omega)
   have hro:=fun W (hW:Below w.heap.size w W)=>r11root_any (hs.drop s) _ (n - s) (c - s) W (hD W hW) (by omega)
   have hzl:=length_rootL (hs.drop s) (H32h.out.drop s)
   obtain ⟨q,hq⟩:∃ q,rootsN (hs.take s) i=q:=⟨_,rfl⟩
   obtain ⟨z,hz⟩:∃ z,rootL (hs.drop s)=z:=⟨_,rfl⟩
   rw [hq] at hic hrl ⊢
   rw [hz] at hro hzl hrl ⊢
   rw [List.length_append] at hrl
   have Hic:=Lib.hid hic
   have Hro:=Lib.hid hro
   have Hzl:=Lib.hid hzl
   clear hic hro hzl hq hz hT hD hle hri hp ih
   go_enter Tryz.func74,Tryz.ntmps74
   go_wp2_with (first
    | (go_at_call 97;refine (Hspl.out _).mono ?_;rintro e w1 ⟨rfl,rfl⟩)
    | ((with_reducible show wpList _ _ _ (⟨some 31,.slice _ _ _ _ _,_,_,_,_⟩::_) _ _);refine wpList_run0 rfl (.slice A s c) (run_slice_op_hi (.tmp 29) (.tmp 30) rfl A n c s rfl rfl (by omega) _) ?_;simp only [Act.put]))
   refine Hic.out.mono ?_
   rintro e w1 ⟨v,rfl,ho,hb1⟩
   go_wp2_with ((with_reducible show wpList _ _ _ (⟨some 39,.slice _ _ _ _ _,_,_,_,_⟩::_) _ _);refine wpList_run0 rfl (.slice Ax (n - s) (c - s)) (by rw [← HAx.out];exact run_slice_op_lo (.tmp 37) (.tmp 38) rfl A n c s rfl rfl (by omega) _) ?_;simp only [Act.put])
   refine (Hro.out w1 hb1).mono ?_
   rintro e w2 ⟨rfl,hb2⟩
   have hb02:=hb1.trans (hb2.mono hb1.size)
   obtain ⟨v',W9,hr9,hv9,hg9,-⟩:=append_hR (owns_step ho hb2) z Hzl.out (by omega) hb02.size
   have hb9:=hb02.grown hg9 hb02.size (fun r e=>(ho.lt r e).1)
   have Hr9:=Lib.hid hr9
   clear hr9 ho hb1 hb2
   go_wp2_with (first
    | ((with_reducible show wpList _ _ _ (⟨some 41,.buildSlice _ _ _,_,_,_,_⟩::_) _ _);refine wpList_run rfl _ _ (run_litH_op z Hzl.out (.tmp 40) rfl rfl _) ?_;simp only [Act.put])
    | ((with_reducible show wpList _ _ _ (⟨some 42,.call _,_,_,_,_⟩::_) _ _);refine wpList_run rfl _ W9 (run_append_op (.tmp 36) (.tmp 41) 49 rfl _ _ rfl rfl Hr9.out) ?_;simp only [Act.put]))
   refine bodyPost_ret (results_tmp2 rfl _ _ _) rfl ⟨_,rfl,hv9,hb9⟩
  ·have hd2:decide ((i:Int)<(s:Int))=false:=by simp;omega
   have hp:=hri hlt
   rw [hp] at hrl ⊢
   have hic:=ih (hs.drop s) _ (n - s) (c - s) w (i - s) (by omega) (by omega) (hD w (Below.refl _ _)) (by omega)
   rw [show ((i - s:Nat):Int)=(i:Int) - (s:Int) by omega] at hic
   have hw1:IntKind.i64.wrap ((i:Int) - (s:Int))=(i:Int) - (s:Int):=IntWalk.i64_in _ (by omega)
   have hro:=fun W (hW:Below w.heap.size w W)=>r11root_any (hs.take s) A s c W (hT W hW) (by omega)
   have hzl:=length_rootL (hs.take s) (H32h.out.take s)
   obtain ⟨q,hq⟩:∃ q,rootsN (hs.drop s) (i - s)=q:=⟨_,rfl⟩
   obtain ⟨z,hz⟩:∃ z,rootL (hs.take s)=z:=⟨_,rfl⟩
   rw [hq] at hic hrl ⊢
   rw [hz] at hro hzl hrl ⊢
   rw [List.length_append] at hrl
   have Hic:=Lib.hid hic
   have Hro:=Lib.hid hro
   have Hzl:=Lib.hid hzl
   clear hic hro hzl hq hz hT hD hle hri hp ih
   go_enter Tryz.func74,Tryz.ntmps74
   go_wp2_with (first
    | (go_at_call 97;refine (Hspl.out _).mono ?_;rintro e w1 ⟨rfl,rfl⟩)
    | ((with_reducible show wpList _ _ _ (⟨some 46,.slice _ _ _ _ _,_,_,_,_⟩::_) _ _);refine wpList_run0 rfl (.slice Ax (n - s) (c - s)) (by rw [← HAx.out];exact run_slice_op_lo (.tmp 44) (.tmp 45) rfl A n c s rfl rfl (by omega) _) ?_;simp only [Act.put]))
   refine Hic.out.mono ?_
   rintro e w1 ⟨v,rfl,ho,hb1⟩
   go_wp2_with ((with_reducible show wpList _ _ _ (⟨some 56,.slice _ _ _ _ _,_,_,_,_⟩::_) _ _);refine wpList_run0 rfl (.slice A s c) (run_slice_op_hi (.tmp 54) (.tmp 55) rfl A n c s rfl rfl (by omega) _) ?_;simp only [Act.put])
   refine (Hro.out w1 hb1).mono ?_
   rintro e w2 ⟨rfl,hb2⟩
   have hb02:=hb1.trans (hb2.mono hb1.size)
   obtain ⟨v',W9,hr9,hv9,hg9,-⟩:=append_hR (owns_step ho hb2) z Hzl.out (by omega) hb02.size
   have hb9:=hb02.grown hg9 hb02.size (fun r e=>(ho.lt r e).1)
   have Hr9:=Lib.hid hr9
   clear hr9 ho hb1 hb2
   go_wp2_with (first
    | ((with_reducible show wpList _ _ _ (⟨some 58,.buildSlice _ _ _,_,_,_,_⟩::_) _ _);refine wpList_run rfl _ _ (run_litH_op z Hzl.out (.tmp 57) rfl rfl _) ?_;simp only [Act.put])
    | ((with_reducible show wpList _ _ _ (⟨some 59,.call _,_,_,_,_⟩::_) _ _);refine wpList_run rfl _ W9 (run_append_op (.tmp 53) (.tmp 58) 49 rfl _ _ rfl rfl Hr9.out) ?_;simp only [Act.put]))
   refine bodyPost_ret (results_tmp2 rfl _ _ _) rfl ⟨_,rfl,hv9,hb9⟩
set_option maxHeartbeats 1000000 in
set_option maxRecDepth 100000 in
theorem r11prove_any (hs:List (List UInt8)) (A:Option Addr) (n c:Nat) (w:World) (i:Int) (h:Hs w (fun _=>True) A n c hs) (hn:n≤1099511627776) :
  Calls Tryz.prog 74 #[.slice A n c,.int .i64 i] w fun e w'=>∃ v,e = .returned (.tuple #[v,.int .i64 (pathA i hs.length).2])∧w'.ownsRow w.heap.size 53 32 v (rootsP hs i).length (hcells (rootsP hs i))∧Below w.heap.size w w':=by
 have hlen:=h.len
 by_cases h0:i<0
 ·have hpa:pathA i hs.length=([],4):=by unfold pathA;rw [if_pos (.inl h0)]
  have hr:rootsP hs i=[]:=rootsP_bad hs i (by rw [hpa];decide)
  rw [hpa,hr]
  dsimp only
  have h0':decide (i<0)=true:=by simp;exact h0
  clear h hlen hpa hr
  go_enter Tryz.func74,Tryz.ntmps74
  go_wp2_with fail
  refine bodyPost_ret (results_tmp2 rfl _ _ _) rfl ⟨_,rfl,World.ownsRow_nil _ _ _ _,Below.refl _ _⟩
 by_cases h1:(n:Int)≤i
 ·have hpa:pathA i hs.length=([],4):=by unfold pathA;rw [if_pos (.inr (by omega))]
  have hr:rootsP hs i=[]:=rootsP_bad hs i (by rw [hpa];decide)
  rw [hpa,hr]
  dsimp only
  have h0':decide (i<0)=false:=by simp;omega
  have h1':decide ((n:Int)≤i)=true:=by simp;omega
  clear h hlen hpa hr
  go_enter Tryz.func74,Tryz.ntmps74
  go_wp2_with fail
  refine bodyPost_ret (results_tmp2 rfl _ _ _) rfl ⟨_,rfl,World.ownsRow_nil _ _ _ _,Below.refl _ _⟩
 obtain ⟨e1,e2⟩:=rootsP_nat hs i (by omega) (by omega)
 rw [e1,e2]
 have:=r11prove_rec n hs A n c w i.toNat (Nat.le_refl _) (by omega) h hn
 rwa [show ((i.toNat:Nat):Int)=i by omega] at this
end Go.Proofs.YtdjhoankkddomaaGreat
namespace Go.Proofs.YtdjhoankkddomaaGreat
open Go Go.RowKit Go.Shelf
attribute [local go_sem] Oper.semAt_some
theorem xleaves {W:World} {A:Option Addr} {n c:Nat} {es:List (List UInt8)} (he:Es W (fun _=>True) A n c es) (hs:∀ x ∈ es,x.length≤4096) (hn:n≤100000) (k:Nat) (hk:k≤n) :
  Calls Tryz.prog 67 #[.slice A k c] W fun e w'=>∃ A' c',e = .returned (.slice A' k c')∧Hs w' (fun _=>True) A' k c' ((lvs es).take k)∧Below W.heap.size W w':=by
 have hlt:lvs (es.take k)=(lvs es).take k:=by unfold lvs;rw [List.map_take]
 have hlen:=he.len
 obtain ⟨vs,hsl⟩:=(he.take k hk).sls
 refine (rleaves_any (es.take k) A k c W vs hsl (by have:=flat_lenO (es.take k) fun x hx=>hs x (List.mem_of_mem_take hx);rw [List.length_take] at this;omega)).mono ?_
 rintro e w3 ⟨v,rfl,ho3,b3⟩
 obtain ⟨A',c',rfl,hl3⟩:=Hs.of_owns ho3 (show (lvs (es.take k)).length=k by rw [lvs_length,List.length_take];omega) (H32.lvs _)
 rw [← hlt]
 exact ⟨A',c',rfl,hl3.weak fun _ _ _=>trivial,b3⟩
section
variable {W:World} {Z:Nat→Prop} {g:Nat} {R:XdR} {m:MoV}
set_option maxHeartbeats 4000000 in
set_option maxRecDepth 100000 in
theorem xroot_out (h:Xd Z g R m W) (n:Int) (hn:n<0∨(m.ents.length:Int)<n):Calls Tryz.prog 38 #[.pointer (some ⟨g,0,none⟩),.int .i64 n] W fun e w'=>e = .returned (.tuple #[.agg (zero32.map B).toArray,.int .i64 4])∧Below W.heap.size W w':=by
 obtain ⟨w1,hw1⟩:∃ x,W.alloc (.cells (zeroHash) 53)=x:=⟨_,rfl⟩
 have k1:Blk w1 W.heap.size 53 zeroHash:=by rw [← hw1];exact Blk.new _ _ _
 have B1:Below W.heap.size W w1:=by rw [← hw1];exact (Below.refl _ _).alloc (Nat.le_refl _) _
 have hsz:=xsize_any (h.step B1)
 have Hw1:=Lib.hid hw1
 clear hw1 h
 by_cases h0:n<0
 ·have d1:decide (n<0)=true:=by simpa using h0
  go_enter Tryz.func38,Tryz.ntmps38
  go_wp2_with (first
  | ((with_reducible show wpList _ _ _ (⟨some 4,.alloc _,_,_,_,_⟩::_) _ _);refine wpList_run rfl (.pointer (some ⟨W.heap.size,0,none⟩)) w1 (by rw [← Hw1.out];kernel_rfl) ?_;simp only [Act.put])
  | (go_at_call 8;refine (hsz).mono ?_;rintro e w' ⟨rfl,hw⟩;obtain rfl:=hw.symm)
  | ((with_reducible show wpList _ _ _ (⟨some 17,.build _ _,_,_,_,_⟩::_) _ _);refine wpList_run rfl (.agg (zero32.map B).toArray) w1 (by kernel_rfl) ?_;simp only [Act.put])
  | ((with_reducible show wpList _ _ _ (⟨none,.store _ (.tmp 4) _,_,_,_,_⟩::_) _ _);refine wpList_hset (l:=zero32) (l':=List.replicate 32 0) (.tmp 4) (.tmp 17) rfl rfl ⟨k1,rfl⟩ rfl rfl rfl ?_;intro w9 k9 b9 hw9;clear hw9;simp only [Act.put]))
  exact bodyPost_ret (tuple_hv rfl _ _ W.heap.size zero32 rfl k9) rfl ⟨rfl,B1.trans (b9.mono (Nat.le_refl _))⟩
 ·have d1:decide (n<0)=false:=by simpa using h0
  have h1:(m.ents.length:Int)<n:=by omega
  have d2:decide ((m.ents.length:Int)<n)=true:=by simpa using h1
  go_enter Tryz.func38,Tryz.ntmps38
  go_wp2_with (first
  | ((with_reducible show wpList _ _ _ (⟨some 4,.alloc _,_,_,_,_⟩::_) _ _);refine wpList_run rfl (.pointer (some ⟨W.heap.size,0,none⟩)) w1 (by rw [← Hw1.out];kernel_rfl) ?_;simp only [Act.put])
  | (go_at_call 8;refine (hsz).mono ?_;rintro e w' ⟨rfl,hw⟩;obtain rfl:=hw.symm)
  | ((with_reducible show wpList _ _ _ (⟨some 17,.build _ _,_,_,_,_⟩::_) _ _);refine wpList_run rfl (.agg (zero32.map B).toArray) w1 (by kernel_rfl) ?_;simp only [Act.put])
  | ((with_reducible show wpList _ _ _ (⟨none,.store _ (.tmp 4) _,_,_,_,_⟩::_) _ _);refine wpList_hset (l:=zero32) (l':=List.replicate 32 0) (.tmp 4) (.tmp 17) rfl rfl ⟨k1,rfl⟩ rfl rfl rfl ?_;intro w9 k9 b9 hw9;clear hw9;simp only [Act.put]))
  exact bodyPost_ret (tuple_hv rfl _ _ W.heap.size zero32 rfl k9) rfl ⟨rfl,B1.trans (b9.mono (Nat.le_refl _))⟩
set_option maxHeartbeats 4000000 in
set_option maxRecDepth 100000 in
theorem xroot_in (h:Xd Z g R m W) (n:Nat) (hn:n≤m.ents.length) (hs:∀ x ∈ m.ents,x.length≤4096) (hN:m.ents.length≤100000):Calls Tryz.prog 38 #[.pointer (some ⟨g,0,none⟩),.int .i64 (n:Int)] W fun e w'=>e = .returned (.tuple #[.agg ((rootL ((lvs m.ents).take n)).map B).toArray,.int .i64 0])∧Below W.heap.size W w':=by
 obtain ⟨w1,hw1⟩:∃ x,W.alloc (.cells (zeroHash) 53)=x:=⟨_,rfl⟩
 have k1:Blk w1 W.heap.size 53 zeroHash:=by rw [← hw1];exact Blk.new _ _ _
 have B1:Below W.heap.size W w1:=by rw [← hw1];exact (Below.refl _ _).alloc (Nat.le_refl _) _
 have hsz:=xsize_any (h.step B1)
 obtain ⟨A,c,hre,hes⟩:=h.ents
 have hr:=hes.room
 have hmx:=hes.max
 unfold maxLen at hmx
 have c2:∀ W',Below W.heap.size W W'→W'.cell? ⟨g,2,none⟩=some (.slice A m.ents.length c):=fun W' hb=>((h.step hb).cell 2 (by decide)).trans (congrArg some hre)
 have hlv:=fun V (hb:Below W.heap.size W V)=>xleaves ((hes.step hb).all) hs hN n hn
 have d1:decide ((n:Int)<0)=false:=by simp
 have d2:decide ((m.ents.length:Int)<(n:Int))=false:=by simp;omega
 have d3:decide (m.ents.length<n)=false:=by simp;omega
 have hln:((lvs m.ents).take n).length=n:=by rw [List.length_take,lvs_length];omega
 have c2:=c2 w1 B1
 have hlv:=hlv w1 B1
 obtain ⟨hss,hhs⟩:∃ x,(lvs m.ents).take n=x:=⟨_,rfl⟩
 rw [hhs] at hlv hln ⊢
 have hr32:(rootL hss).length=32:=by rw [← hhs];exact length_rootL _ ((H32.lvs _).take n)
 obtain ⟨N,hN'⟩:∃ x,m.ents.length=x:=⟨_,rfl⟩
 rw [hN'] at c2 hsz d2 d3 hr hn hN
 have hnc:n≤c:=by omega
 have Hlv:=Lib.hid hlv
 have Hw1:=Lib.hid hw1
 have Hln:=Lib.hid hln
 have HN:=Lib.hid hN
 obtain ⟨root,hroot⟩:∃ x,rootL hss=x:=⟨_,rfl⟩
 have Hroot:=Lib.hid hroot
 rw [hroot] at hr32 ⊢
 clear hroot hw1 hlv hes hre hhs hs h hN' hln hN
 go_enter Tryz.func38,Tryz.ntmps38
 go_wp2_with (first
  | ((with_reducible show wpList _ _ _ (⟨some 4,.alloc _,_,_,_,_⟩::_) _ _);refine wpList_run rfl (.pointer (some ⟨W.heap.size,0,none⟩)) w1 (by rw [← Hw1.out];kernel_rfl) ?_;simp only [Act.put])
  | (go_at_call 8;refine (hsz).mono ?_;rintro e w' ⟨rfl,hw⟩;obtain rfl:=hw.symm)
  | ((with_reducible show wpList _ _ _ (⟨some 23,.slice _ _ _ _ _,_,_,_,_⟩::_) _ _);refine wpList_run rfl (.slice A n c) w1 (run_slice_hiB (.tmp 21) (.tmp 22) rfl A N c n rfl rfl hnc w1) ?_;simp only [Act.put]))
 refine Hlv.out.mono ?_
 rintro e w2 ⟨A',c',rfl,hl2,hb2⟩
 have Hrf:=Lib.hid (rof_any hss A' n c' w2 hl2 (by have:=HN.out;omega))
 rw [Hroot.out] at Hrf
 have k2:Blk w2 W.heap.size 53 zeroHash:=k1.step hb2
 have B2:=B1.trans (hb2.mono B1.size)
 clear hl2
 go_wp2_with fail
 refine Hrf.out.mono ?_
 rintro e w3 ⟨rfl,hb3⟩
 have k3:Blk w3 W.heap.size 53 zeroHash:=k2.step hb3
 have B3:=B2.trans (hb3.mono B2.size)
 go_wp2_with (first
  | ((with_reducible show wpList _ _ _ (⟨none,.store _ (.tmp 4) _,_,_,_,_⟩::_) _ _);refine wpList_hset (l:=root) (l':=List.replicate 32 0) (.tmp 4) (.tmp 25) rfl rfl ⟨k3,rfl⟩ rfl rfl hr32 ?_;intro w9 k9 b9 hw9;clear hw9;simp only [Act.put]))
 exact bodyPost_ret (tuple_hv rfl _ _ W.heap.size root rfl k9) rfl ⟨rfl,B3.trans (b9.mono (Nat.le_refl _))⟩
set_option maxRecDepth 100000 in
theorem xcons_out (h:Xd Z g R m W) (k n:Int) (hn:n<0∨(m.ents.length:Int)<n∨k<0∨n<k):Calls Tryz.prog 44 #[.pointer (some ⟨g,0,none⟩),.int .i64 k,.int .i64 n] W fun e w'=>e = .returned (.tuple #[.slice none 0 0,.int .i64 4])∧w'=W:=by
 have hsz:=xsize_any h
 clear h
 by_cases h0:n<0
 ·have d1:decide (n<0)=true:=by simpa using h0
  go_enter Tryz.func44,Tryz.ntmps44
  go_wp2_with (go_at_call 8;refine (hsz).mono ?_;rintro e w' ⟨rfl,hw⟩;obtain rfl:=hw.symm)
  go_ret2
  exact ⟨rfl,rfl⟩
 have d1:decide (n<0)=false:=by simpa using h0
 by_cases h1:(m.ents.length:Int)<n
 ·have d2:decide ((m.ents.length:Int)<n)=true:=by simpa using h1
  go_enter Tryz.func44,Tryz.ntmps44
  go_wp2_with (go_at_call 8;refine (hsz).mono ?_;rintro e w' ⟨rfl,hw⟩;obtain rfl:=hw.symm)
  go_ret2
  exact ⟨rfl,rfl⟩
 have d2:decide ((m.ents.length:Int)<n)=false:=by simpa using h1
 by_cases h2:k<0
 ·have d3:decide (k<0)=true:=by simpa using h2
  go_enter Tryz.func44,Tryz.ntmps44
  go_wp2_with (go_at_call 8;refine (hsz).mono ?_;rintro e w' ⟨rfl,hw⟩;obtain rfl:=hw.symm)
  go_ret2
  exact ⟨rfl,rfl⟩
 have d3:decide (k<0)=false:=by simpa using h2
 have h3:n<k:=by omega
 have d4:decide (n<k)=true:=by simpa using h3
 go_enter Tryz.func44,Tryz.ntmps44
 go_wp2_with (go_at_call 8;refine (hsz).mono ?_;rintro e w' ⟨rfl,hw⟩;obtain rfl:=hw.symm)
 go_ret2
 exact ⟨rfl,rfl⟩
set_option maxRecDepth 100000 in
theorem xincl_out (h:Xd Z g R m W) (k n:Int) (hn:n<1∨(m.ents.length:Int)<n∨k<0∨n≤k):Calls Tryz.prog 42 #[.pointer (some ⟨g,0,none⟩),.int .i64 k,.int .i64 n] W fun e w'=>e = .returned (.tuple #[.slice none 0 0,.int .i64 4])∧w'=W:=by
 have hsz:=xsize_any h
 clear h
 by_cases h0:n<1
 ·have d1:decide (n<1)=true:=by simpa using h0
  go_enter Tryz.func42,Tryz.ntmps42
  go_wp2_with (go_at_call 8;refine (hsz).mono ?_;rintro e w' ⟨rfl,hw⟩;obtain rfl:=hw.symm)
  go_ret2
  exact ⟨rfl,rfl⟩
 have d1:decide (n<1)=false:=by simpa using h0
 by_cases h1:(m.ents.length:Int)<n
 ·have d2:decide ((m.ents.length:Int)<n)=true:=by simpa using h1
  go_enter Tryz.func42,Tryz.ntmps42
  go_wp2_with (go_at_call 8;refine (hsz).mono ?_;rintro e w' ⟨rfl,hw⟩;obtain rfl:=hw.symm)
  go_ret2
  exact ⟨rfl,rfl⟩
 have d2:decide ((m.ents.length:Int)<n)=false:=by simpa using h1
 by_cases h2:k<0
 ·have d3:decide (k<0)=true:=by simpa using h2
  go_enter Tryz.func42,Tryz.ntmps42
  go_wp2_with (go_at_call 8;refine (hsz).mono ?_;rintro e w' ⟨rfl,hw⟩;obtain rfl:=hw.symm)
  go_ret2
  exact ⟨rfl,rfl⟩
 have d3:decide (k<0)=false:=by simpa using h2
 have h3:n≤k:=by omega
 have d4:decide (n≤k)=true:=by simpa using h3
 go_enter Tryz.func42,Tryz.ntmps42
 go_wp2_with (go_at_call 8;refine (hsz).mono ?_;rintro e w' ⟨rfl,hw⟩;obtain rfl:=hw.symm)
 go_ret2
 exact ⟨rfl,rfl⟩
set_option maxHeartbeats 4000000 in
set_option maxRecDepth 100000 in
theorem xcons_in (h:Xd Z g R m W) (k n:Nat) (hk:k≤n) (hn:n≤m.ents.length) (hs:∀ x ∈ m.ents,x.length≤4096) (hN:m.ents.length≤100000):Calls Tryz.prog 44 #[.pointer (some ⟨g,0,none⟩),.int .i64 (k:Int),.int .i64 (n:Int)] W fun e w' =>
  ∃ v,e = .returned (.tuple #[v,.int .i64 (stepsA (k:Int) (n:Int)).2])∧w'.ownsRow W.heap.size 53 32 v (rootsS ((lvs m.ents).take n) (k:Int)).length (hcells (rootsS ((lvs m.ents).take n) (k:Int)))∧Below W.heap.size W w':=by
 have hsz:=xsize_any h
 obtain ⟨A,c,hre,hes⟩:=h.ents
 have hr:=hes.room
 have hmx:=hes.max
 unfold maxLen at hmx
 have c2:∀ W',Below W.heap.size W W'→W'.cell? ⟨g,2,none⟩=some (.slice A m.ents.length c):=fun W' hb=>((h.step hb).cell 2 (by decide)).trans (congrArg some hre)
 have hlv:=fun V (hb:Below W.heap.size W V)=>xleaves ((hes.step hb).all) hs hN n hn
 have d1:decide ((n:Int)<0)=false:=by simp
 have d2:decide ((m.ents.length:Int)<(n:Int))=false:=by simp;omega
 have d3:decide (m.ents.length<n)=false:=by simp;omega
 have hln:((lvs m.ents).take n).length=n:=by rw [List.length_take,lvs_length];omega
 have c2:=c2 W (Below.refl _ _)
 have hlv:=hlv W (Below.refl _ _)
 have e1:decide ((k:Int)<0)=false:=by simp
 have e2:decide ((n:Int)<(k:Int))=false:=by simp;omega
 have e3:decide (n<k)=false:=by simp;omega
 obtain ⟨hss,hhs⟩:∃ x,(lvs m.ents).take n=x:=⟨_,rfl⟩
 rw [hhs] at hlv hln ⊢
 obtain ⟨N,hN'⟩:∃ x,m.ents.length=x:=⟨_,rfl⟩
 rw [hN'] at c2 hsz d2 d3 hr hn hN
 have hnc:n≤c:=by omega
 have Hlv:=Lib.hid hlv
 have Hln:=Lib.hid hln
 have HN:=Lib.hid hN
 clear hlv hes hre hhs hs h hN' hln hN
 go_enter Tryz.func44,Tryz.ntmps44
 go_wp2_with (first
  | (go_at_call 8;refine (hsz).mono ?_;rintro e w' ⟨rfl,hw⟩;obtain rfl:=hw.symm)
  | ((with_reducible show wpList _ _ _ (⟨some 32,.slice _ _ _ _ _,_,_,_,_⟩::_) _ _);refine wpList_run rfl (.slice A n c) W (run_slice_hiB (.tmp 30) (.tmp 31) rfl A N c n rfl rfl hnc W) ?_;simp only [Act.put]))
 refine Hlv.out.mono ?_
 rintro e w2 ⟨A',c',rfl,hl2,hb2⟩
 have hp:=rprove_any hss A' n c' w2 (k:Int) hl2 (by have:=HN.out;omega)
 rw [Hln.out] at hp
 have Hp:=Lib.hid hp
 clear hl2 hp
 go_wp2_with fail
 refine Hp.out.mono ?_
 rintro e w3 ⟨v,rfl,ho,hb3⟩
 go_wp2_with fail
 go_ret2
 exact ⟨v,rfl,owns_le ho hb2.size,hb2.trans (hb3.mono hb2.size)⟩
set_option maxHeartbeats 4000000 in
set_option maxRecDepth 100000 in
theorem xincl_in (h:Xd Z g R m W) (k n:Nat) (hk:k<n) (hn:n≤m.ents.length) (hs:∀ x ∈ m.ents,x.length≤4096) (hN:m.ents.length≤100000):Calls Tryz.prog 42 #[.pointer (some ⟨g,0,none⟩),.int .i64 (k:Int),.int .i64 (n:Int)] W fun e w' =>
  ∃ v,e = .returned (.tuple #[v,.int .i64 (pathA (k:Int) (n:Int)).2])∧w'.ownsRow W.heap.size 53 32 v (rootsP ((lvs m.ents).take n) (k:Int)).length (hcells (rootsP ((lvs m.ents).take n) (k:Int)))∧Below W.heap.size W w':=by
 have hsz:=xsize_any h
 obtain ⟨A,c,hre,hes⟩:=h.ents
 have hr:=hes.room
 have hmx:=hes.max
 unfold maxLen at hmx
 have c2:∀ W',Below W.heap.size W W'→W'.cell? ⟨g,2,none⟩=some (.slice A m.ents.length c):=fun W' hb=>((h.step hb).cell 2 (by decide)).trans (congrArg some hre)
 have hlv:=fun V (hb:Below W.heap.size W V)=>xleaves ((hes.step hb).all) hs hN n hn
 have d1:decide ((n:Int)<0)=false:=by simp
 have d2:decide ((m.ents.length:Int)<(n:Int))=false:=by simp;omega
 have d3:decide (m.ents.length<n)=false:=by simp;omega
 have hln:((lvs m.ents).take n).length=n:=by rw [List.length_take,lvs_length];omega
 have c2:=c2 W (Below.refl _ _)
 have hlv:=hlv W (Below.refl _ _)
 have e1:decide ((k:Int)<0)=false:=by simp
 have e2:decide ((n:Int)≤(k:Int))=false:=by simp;omega
 have e3:decide (n≤k)=false:=by simp;omega
 have e4:decide ((n:Int)<1)=false:=by simp;omega
 obtain ⟨hss,hhs⟩:∃ x,(lvs m.ents).take n=x:=⟨_,rfl⟩
 rw [hhs] at hlv hln ⊢
 obtain ⟨N,hN'⟩:∃ x,m.ents.length=x:=⟨_,rfl⟩
 rw [hN'] at c2 hsz d2 d3 hr hn hN
 have hnc:n≤c:=by omega
 have Hlv:=Lib.hid hlv
 have Hln:=Lib.hid hln
 have HN:=Lib.hid hN
 clear hlv hes hre hhs hs h hN' hln hN
 go_enter Tryz.func42,Tryz.ntmps42
 go_wp2_with (first
  | (go_at_call 8;refine (hsz).mono ?_;rintro e w' ⟨rfl,hw⟩;obtain rfl:=hw.symm)
  | ((with_reducible show wpList _ _ _ (⟨some 32,.slice _ _ _ _ _,_,_,_,_⟩::_) _ _);refine wpList_run rfl (.slice A n c) W (run_slice_hiB (.tmp 30) (.tmp 31) rfl A N c n rfl rfl hnc W) ?_;simp only [Act.put]))
 refine Hlv.out.mono ?_
 rintro e w2 ⟨A',c',rfl,hl2,hb2⟩
 have hp:=r11prove_any hss A' n c' w2 (k:Int) hl2 (by have:=HN.out;omega)
 rw [Hln.out] at hp
 have Hp:=Lib.hid hp
 clear hl2 hp
 go_wp2_with fail
 refine Hp.out.mono ?_
 rintro e w3 ⟨v,rfl,ho,hb3⟩
 go_wp2_with fail
 go_ret2
 exact ⟨v,rfl,owns_le ho hb2.size,hb2.trans (hb3.mono hb2.size)⟩
end
end Go.Proofs.YtdjhoankkddomaaGreat
namespace Go.Proofs.YtdjhoankkddomaaGreat
open Go Go.RowKit Go.Shelf
attribute [local go_sem] Oper.semAt_some
structure XdS (Z:Nat→Prop) (g:Nat) (m':MoV) (W W':World):Prop where
 ex:∃ R',Xd Z g R' m' W'
 kb:KB (fun b=>b=g) W W'
theorem xd_pt {R:XdR} {m:MoV} (s:Int) (r:List UInt8) (hr:r.length=32):((xdArr R m).toList.take 40++(.int .i64 s::r.map B)++(xdArr R m).toList.drop (40+33)).toArray=xdArr R { m with ptS:=s,ptR:=r }:=by
 have hp:(xdArr R m).toList.length=74:=by rw [Array.length_toList,xd_size]
 have hl:(Value.int .i64 s::r.map B).length=33:=by simp [hr]
 refine xd_ext (by rw [List.size_toArray,List.length_append,List.length_append,List.length_take,List.length_drop,hp,hl];decide) fun i hi=>?_
 rw [List.getElem?_toArray]
 by_cases h1:i<40
 ·rw [List.getElem?_append_left (by rw [List.length_append,List.length_take,hp];omega),List.getElem?_append_left (by rw [List.length_take,hp];omega),List.getElem?_take,if_pos h1,Array.getElem?_toList,xd_at _ _ _ hi]
  unfold xcell
  simp only [show ¬ i=40 by omega,if_false,show i<73 by omega,if_true]
  by_cases h39:i=39
  ·subst h39;rfl
  ·have:i<39:=by omega
   by_cases h38:i=38
   ·subst h38;rfl
   ·have:i<38:=by omega
    simp only [this,if_true]
 ·by_cases h2:i<73
  ·rw [List.getElem?_append_left (by rw [List.length_append,List.length_take,hp,hl];omega),List.getElem?_append_right (by rw [List.length_take,hp];omega),List.length_take,hp,show min 40 74=40 by decide]
   obtain ⟨j,rfl⟩:∃ j,i=40+j:=⟨i - 40,by omega⟩
   rw [Nat.add_sub_cancel_left]
   cases j with
   | zero=>rfl
   | succ j =>
    rw [List.getElem?_cons_succ,List.getElem?_map,List.getElem?_eq_getElem (by omega:j<r.length)]
    have e:xcell R { m with ptS:=s,ptR:=r } (40+(j+1))=B (r.getD (40+(j+1) - 41) 0):=by
     unfold xcell
     simp only [show ¬ 40+(j+1)=0 by omega,show ¬ 40+(j+1)=1 by omega,show ¬ 40+(j+1)=2 by omega,show ¬ 40+(j+1)=3 by omega,show ¬ 40+(j+1)=4 by omega,show ¬ 40+(j+1)=5 by omega,show ¬ 40+(j+1)<38 by omega,show ¬ 40+(j+1)=38 by omega,show ¬ 40+(j+1)=39 by omega,show ¬ 40+(j+1)=40 by omega,show 40+(j+1)<73 by omega,if_false,if_true]
    rw [e,show 40+(j+1) - 41=j by omega,List.getD_eq_getElem?_getD,List.getElem?_eq_getElem (by omega)]
    rfl
  ·have h3:i=73:=by omega
   subst h3
   rw [List.getElem?_append_right (by rw [List.length_append,List.length_take,hp,hl];omega),List.getElem?_drop,List.length_append,List.length_take,hp,hl,Array.getElem?_toList]
   exact xd_at _ _ 73 (by decide)
section
variable {W:World} {Z:Nat→Prop} {g:Nat} {R:XdR} {m:MoV}
theorem xmay_any (h:Xd Z g R m W):Calls Tryz.prog 21 #[.pointer (some ⟨g,0,none⟩)] W fun e w'=>e = .returned (.int .i64 (if m.only then 10 else 0))∧w'=W:=by
 have c73:W.cell? ⟨g,73,none⟩=some (.bool m.only):=h.cell 73 (by decide)
 clear h
 cases ho:m.only with
 | true =>
  rw [ho] at c73
  clear ho
  go_enter Tryz.func21,Tryz.ntmps21
  go_wp2_with fail
  go_ret
  exact ⟨rfl,rfl⟩
 | false =>
  rw [ho] at c73
  clear ho
  go_enter Tryz.func21,Tryz.ntmps21
  go_wp2_with fail
  go_ret
  exact ⟨rfl,rfl⟩
set_option maxHeartbeats 4000000 in
set_option maxRecDepth 100000 in
theorem xnow_any (h:Xd Z g R m W) (hs:∀ x ∈ m.ents,x.length≤4096) (hN:m.ents.length≤100000) :
  Calls Tryz.prog 55 #[.pointer (some ⟨g,0,none⟩)] W fun e w'=>e = .returned (.agg (.int .i64 (m.ents.length:Int)::m.nowR.map B).toArray)∧Below W.heap.size W w':=by
 obtain ⟨root,hroot⟩:∃ x,m.nowR=x:=⟨_,rfl⟩
 have hr32:root.length=32:=by rw [← hroot];exact length_rootL _ (H32.lvs _)
 obtain ⟨w1,hw1⟩:∃ x,W.alloc (.cells (.int .i64 0::(List.replicate 32 0).map B).toArray 55)=x:=⟨_,rfl⟩
 have p1:PB w1 W.heap.size 0 (List.replicate 32 0):=by rw [← hw1];exact ⟨Blk.new _ _ _,by simp⟩
 have B1:Below W.heap.size W w1:=by rw [← hw1];exact (Below.refl _ _).alloc (Nat.le_refl _) _
 have hS0:Below W.heap.size W w1.drew:=B1.drew
 have p2:PB w1.drew W.heap.size 0 (List.replicate 32 0):=p1.step ((Below.refl _ _).drew)
 obtain ⟨A,c,hre,hes⟩:=h.ents
 have hr:=hes.room
 have hmx:=hes.max
 unfold maxLen at hmx
 have c2:∀ s:InC (fun W'=>Below W.heap.size W W'),s.W.cell? ⟨g,2,none⟩=some (.slice A m.ents.length c):=fun s=>((h.step s.ok).cell 2 (by decide)).trans (congrArg some hre)
 have hlv:=fun V (hb:Below W.heap.size W V)=>xleaves ((hes.step hb).all) hs hN m.ents.length (Nat.le_refl _)
 rw [List.take_of_length_le (by rw [lvs_length];exact Nat.le_refl _)] at hlv
 obtain ⟨hss,hhs⟩:∃ x,lvs m.ents=x:=⟨_,rfl⟩
 have hrt:rootL hss=root:=by rw [← hhs];exact hroot
 rw [hhs] at hlv
 rw [hroot]
 obtain ⟨n,hke⟩:∃ x,m.ents.length=x:=⟨_,rfl⟩
 rw [hke] at c2 hlv hr hN ⊢
 have Hlv:=Lib.hid hlv
 have Hrt:=Lib.hid hrt
 have Hw1:=Lib.hid hw1
 clear hre hes hlv hrt hw1 hke hroot hhs hs h
 go_enter Tryz.func55,Tryz.ntmps55
 go_upto_region 1 with ((with_reducible show wpList _ _ _ (⟨some 2,.alloc _,_,_,_,_⟩::_) _ _);refine wpList_run rfl (.pointer (some ⟨W.heap.size,0,none⟩)) w1 (by rw [← Hw1.out];kernel_rfl) ?_;simp only [Act.put,List.setIfInBounds_toArray,List.set_cons_succ,List.set_cons_zero])
 have hS:=hS0
 clear hS0
 refine wp_region_mix (fun W'=>Below W.heap.size W W') [(0,true),(1,true),(2,true),(3,true),(4,true),(5,true),(6,true),(7,true),(8,true),(9,false),(10,false),(11,true),(12,false)] (by kernel_rfl) (by kernel_rfl) hS fun _=>?_
 simp only [List.map_cons,List.map_nil,Array.getD_eq_getD_getElem?,List.getElem?_toArray,List.getElem?_cons_succ,List.getElem?_cons_zero,Option.getD_some]
 generalize w1.drew=W0 at hS p2 ⊢
 iterate 9 (refine wpMix_s (fun K hK=>?_);go_simp;refine hK _ ?_;clear hK K)
 refine wpMix_c (fun K hK=>?_) hS
 go_simp
 refine (Hlv.out W0 hS).mono ?_
 rintro e W0_1 ⟨A',c',rfl,hlS,hb'⟩
 refine hK _ _ ?_
 clear hK K
 replace hS:=hS.trans (hb'.mono hS.size)
 refine ⟨hS,?_⟩
 replace p2:=p2.step hb'
 clear hb'
 refine wpMix_c (fun K hK=>?_) hS
 go_simp
 refine (rof_any hss A' n c' W0_1 hlS (by omega)).mono ?_
 rintro e W0_1r ⟨rfl,hb'⟩
 refine hK _ _ ?_
 clear hK K
 rw [Hrt.out]
 replace hS:=hS.trans (hb'.mono hS.size)
 refine ⟨hS,?_⟩
 replace p2:=p2.step hb'
 clear hb'
 refine wpMix_v (by kernel_rfl) (.agg (.int .i64 (n:Int)::root.map B).toArray) (fun s=>run_build_ptM (.tmp 7) (.tmp 13) _ root hr32 rfl rfl rfl s.W) ?_
 simp only [Act.put,List.setIfInBounds_toArray,List.set_cons_succ,List.set_cons_zero]
 refine wpMix_pset (.tmp 2) (.tmp 14) rfl rfl p2 rfl rfl hr32 (fun W9 hb=>hS.trans (hb.mono (Nat.le_refl _))) ?_
 rintro W9 pF hb9 -
 simp only [Act.put]
 replace hS:=hS.trans (hb9.mono (Nat.le_refl _))
 refine wpMix_nil ?_
 intro _
 go_wp2_with fail
 exact bodyPost_ret (ret_pt rfl rfl pF) rfl ⟨rfl,hS⟩
end
end Go.Proofs.YtdjhoankkddomaaGreat
