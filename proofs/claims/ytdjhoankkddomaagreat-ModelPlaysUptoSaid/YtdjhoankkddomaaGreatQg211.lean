import Derived.Test.YtdjhoankkddomaaGreatQg210
import Derived.Test.YtdjhoankkddomaaGreatQg209
import Derived.Test.YtdjhoankkddomaaGreatQg205
import Derived.Maps.Range
import Derived.Test.YtdjhoankkddomaaGreatQg201
namespace Go.Proofs.YtdjhoankkddomaaGreat
open Go Go.RowKit
theorem sizeHs:∀ w:World,(sizeOf (Tryz.prog.elem 49)).run Tryz.prog w = .ok 32 w:=fun _=>by kernel_rfl
theorem sliceHs:Tryz.prog.underlying 49=some (.slice (Tryz.prog.elem 49)):=by kernel_rfl
def rootL (hs:List (List UInt8)):List UInt8:=rootF hEmpty hNode hs.length hs
theorem rootL_more (hs:List (List UInt8)) (h:2≤hs.length):rootL hs=hNode (rootL (hs.take (splitN hs.length))) (rootL (hs.drop (splitN hs.length))):=by
 unfold rootL
 rw [rootF_enough _ _ hs.length (hs.length+1) hs (Nat.le_refl _) (by omega),rootF,if_neg (by omega),if_neg (by omega)]
 rw [rootF_enough _ _ hs.length (hs.take (splitN hs.length)).length _ (by rw [List.length_take];omega) (Nat.le_refl _),rootF_enough _ _ hs.length (hs.drop (splitN hs.length)).length _ (by rw [List.length_drop];omega) (Nat.le_refl _)]
theorem length_rootL (hs:List (List UInt8)) (h:H32 hs):(rootL hs).length=32:=by
 by_cases h2:2≤hs.length
 ·rw [rootL_more hs h2];exact length_hNode _ _
 ·match hs,h,h2 with
  | [],_,_=>exact length_hEmpty
  | [x],h,_=>exact h x (by simp)
  | _::_::_,_,h2=>exact absurd (by simp) h2
theorem run_slice_op_hi {ρ:Operand→Value} {o:Oper} (x y:Operand) (ho:o.op = .slice 49 x none (some y) none) (A:Option Addr) (n c k:Nat) (hx:ρ x = .slice A n c) (hy:ρ y = .int .i64 (k:Int)) (hk:k≤c) (W:World) :
  (execOp ρ o).run Tryz.prog W = .ok (.value (.slice A k c)) W:=by
 unfold execOp
 simp only [ho,hx,hy,Option.map_some,Option.map_none,run_slice_high sliceHs sizeHs A n c k hk W,Sem.run_bind,Sem.run_pure,Result.andThen_ok]
theorem run_slice_op_lo {ρ:Operand→Value} {o:Oper} (x y:Operand) (ho:o.op = .slice 49 x (some y) none none) (A:Option Addr) (n c k:Nat) (hx:ρ x = .slice A n c) (hy:ρ y = .int .i64 (k:Int)) (hk:k≤n) (W:World) :
  (execOp ρ o).run Tryz.prog W = .ok (.value (.slice (if c=k then A else A.map (·.add (k*32))) (n - k) (c - k))) W:=by
 unfold execOp
 simp only [ho,hx,hy,Option.map_some,Option.map_none,run_slice_low sliceHs sizeHs A n c k hk W,Sem.run_bind,Sem.run_pure,Result.andThen_ok]
set_option maxHeartbeats 400000 in
set_option maxRecDepth 100000 in
theorem rempty_any (w:World) :
  Calls Tryz.prog 81 #[] w fun e w'=>e = .returned (.agg (hEmpty.map B).toArray)∧Below w.heap.size w w':=by
 obtain ⟨r,hr⟩:∃ r,hEmpty=r:=⟨_,rfl⟩
 have hrl:r.length=32:=by rw [← hr];exact length_hEmpty
 obtain ⟨zs,hzs⟩:∃ zs,zeroHash=zs:=⟨_,rfl⟩
 have hzl:zs.size=32:=by rw [← hzs];rfl
 have hof:=fun W=>hrof_any [] none 0 0 W Sl.nil (by decide)
 rw [show sha256 []=r from hr] at hof
 rw [hr]
 have hb:=(Below.refl w.heap.size w).alloc (Nat.le_refl _) (.cells zs 53)
 have k0:=Blk.new w 53 zs
 have Hof:=Lib.hid hof
 have Hzs:=Lib.hid hzs
 have Hrl:=Lib.hid hrl
 clear hof hzs hrl hr
 go_enter Tryz.func81,Tryz.ntmps81
 go_wp2_with (first
  | ((with_reducible show wpList _ _ _ (⟨some 0,.alloc _,_,_,_,_⟩::_) _ _);refine wpList_run rfl (.pointer (some ⟨w.heap.size,0,none⟩)) (w.alloc (.cells zs 53)) (by rw [← Hzs.out];rfl) ?_;simp only [Act.put])
  | (go_at_call 102;refine (Hof.out _).mono ?_;rintro e w1 ⟨rfl,hb1⟩;have k1:=k0.below hb1 (by simp);have B1:=hb.trans (hb1.mono (by simp)))
  | ((with_reducible show wpList _ _ _ (⟨none,.store _ _ _,_,_,_,_⟩::_) _ _);refine wpList_store_blk rfl 53 (.tmp 0) (.tmp 1) rfl 32 size26 w.heap.size (r.map B).toArray rfl rfl (by simp [Hrl.out]) (oneCell_B _) 53 _ k1 hzl ?_;simp only [Act.put]))
 refine bodyPost_ret (results_cell_row rfl _ _ w.heap.size 53 (r.map B).toArray (0,0) _ rfl (k1.setRow_ _) Tryz.underlying53 rfl (by rw [show (r.map B).toArray.size=32 by simp [Hrl.out]];exact info26)) rfl ⟨rfl,?_⟩
 exact below_setRow B1 (Nat.le_refl _) _
set_option maxHeartbeats 2000000 in
set_option maxRecDepth 100000 in
theorem tof_rec (d:Nat):∀ (hs:List (List UInt8)) (A:Option Addr) (n c:Nat) (w:World),n≤d→Hs w (fun _=>True) A n c hs→n≤4398046511104 →
  Calls Tryz.prog 124 #[.slice A n c] w fun e w'=>e = .returned (.agg ((rootL hs).map B).toArray)∧Below w.heap.size w w':=by
 induction d using Nat.strongRecOn with
 | ind d ih =>
 intro hs A n c w hnd h hn
 obtain ⟨zs,hzs⟩:∃ zs,zeroHash=zs:=⟨_,rfl⟩
 have hzl:zs.size=32:=by rw [← hzs];rfl
 have hlen:=h.len
 have hroom:=h.sl.room
 have hmax:=h.sl.max
 unfold maxLen at hmax
 have hb0:=(Below.refl w.heap.size w).alloc (Nat.le_refl _) (.cells zs 53)
 have k0:=Blk.new w 53 zs
 have h0:=h.step hb0
 obtain ⟨r,hr⟩:∃ r,rootL hs=r:=⟨_,rfl⟩
 have hrl:r.length=32:=by rw [← hr];exact length_rootL hs h.all
 rw [hr]
 have Hzs:=Lib.hid hzs
 have Hrl:=Lib.hid hrl
 have Hr:=Lib.hid hr
 have Hlen:=Lib.hid hlen
 clear hzs hrl hr hlen
 by_cases hn0:n=0
 ·subst hn0
  have hnil:hs=[]:=List.eq_nil_of_length_eq_zero Hlen.out
  subst hnil
  obtain rfl:r=hEmpty:=Hr.out.symm
  clear ih h h0
  go_enter Tryz.func124,Tryz.ntmps124
  go_wp2_with (first
   | ((with_reducible show wpList _ _ _ (⟨some 2,.alloc _,_,_,_,_⟩::_) _ _);refine wpList_run rfl (.pointer (some ⟨w.heap.size,0,none⟩)) (w.alloc (.cells zs 53)) (by rw [← Hzs.out];rfl) ?_;simp only [Act.put])
   | (go_at_call 78;refine (hempty_any _).mono ?_;rintro e w1 ⟨rfl,hb1⟩;have k1:=k0.below hb1 (by simp);have B1:=hb0.trans (hb1.mono (by simp)))
   | ((with_reducible show wpList _ _ _ (⟨none,.store _ _ _,_,_,_,_⟩::_) _ _);refine wpList_store_blk rfl 53 (.tmp 2) (.tmp 21) rfl 32 size26 w.heap.size (hEmpty.map B).toArray rfl rfl (by simp [Hrl.out]) (oneCell_B _) 53 _ k1 hzl ?_;simp only [Act.put]))
  refine bodyPost_ret (results_cell_row rfl _ _ w.heap.size 53 (hEmpty.map B).toArray (0,0) _ rfl (k1.setRow_ _) Tryz.underlying53 rfl (by rw [show (hEmpty.map B).toArray.size=32 by simp [Hrl.out]];exact info26)) rfl ⟨rfl,?_⟩
  exact below_setRow B1 (Nat.le_refl _) _
 by_cases hn1:n=1
 ·subst hn1
  obtain ⟨x,rfl⟩:=List.length_eq_one_iff.1 Hlen.out
  obtain rfl:r=x:=Hr.out.symm
  obtain ⟨b,o,rfl,-,-,hat⟩:=h0.at_ (by omega)
  have hld:(Instr.loadAt 53 (.pointer (some ⟨b,o,none⟩))).run Tryz.prog (w.alloc (.cells zs 53)) = .ok (.agg (r.map B).toArray) (w.alloc (.cells zs 53)):=hat 0 (by omega)
  have Hld:=Lib.hid hld
  clear ih h h0 hat hld
  go_enter Tryz.func124,Tryz.ntmps124
  go_wp2_with (first
   | ((with_reducible show wpList _ _ _ (⟨some 2,.alloc _,_,_,_,_⟩::_) _ _);refine wpList_run rfl (.pointer (some ⟨w.heap.size,0,none⟩)) (w.alloc (.cells zs 53)) (by rw [← Hzs.out];rfl) ?_;simp only [Act.put])
   | ((with_reducible show wpList _ _ _ (⟨some 26,.load _ _,_,_,_,_⟩::_) _ _);refine wpList_load rfl 53 (.tmp 25) rfl b o rfl (r.map B).toArray Hld.out ?_;simp only [Act.put])
   | ((with_reducible show wpList _ _ _ (⟨none,.store _ _ _,_,_,_,_⟩::_) _ _);refine wpList_store_blk rfl 53 (.tmp 2) (.tmp 26) rfl 32 size26 w.heap.size (r.map B).toArray rfl rfl (by simp [Hrl.out]) (oneCell_B _) 53 _ k0 hzl ?_;simp only [Act.put]))
  refine bodyPost_ret (results_cell_row rfl _ _ w.heap.size 53 (r.map B).toArray (0,0) _ rfl (k0.setRow_ _) Tryz.underlying53 rfl (by rw [show (r.map B).toArray.size=32 by simp [Hrl.out]];exact info26)) rfl ⟨rfl,?_⟩
  exact below_setRow hb0 (Nat.le_refl _) _
 have hne0:((n:Int)==0)=false:=by simp;omega
 have hne1:((n:Int)==1)=false:=by simp;omega
 have hmore:=rootL_more hs (by rw [Hlen.out];omega)
 rw [Hlen.out,Hr.out] at hmore
 have hspl:=fun w=>tsplit_any (n:Int) w (by omega)
 rw [Int.toNat_natCast] at hspl
 have hsl:=splitN_lt n (by omega)
 have hsp:=splitN_pos n (by omega)
 obtain ⟨s,hs'⟩:∃ s,splitN n=s:=⟨_,rfl⟩
 rw [hs'] at hmore hspl hsl hsp
 have hL:=fun W (hW:Below (w.alloc (.cells zs 53)).heap.size (w.alloc (.cells zs 53)) W)=>ih s (by omega) (hs.take s) A s c W (Nat.le_refl _) ((h0.step hW).take s (by omega)) (by omega)
 have hR:=fun W (hW:Below (w.alloc (.cells zs 53)).heap.size (w.alloc (.cells zs 53)) W)=>ih (n - s) (by omega) (hs.drop s) _ (n - s) (c - s) W (Nat.le_refl _) ((h0.step hW).drop s (by omega)) (by omega)
 obtain ⟨x,hx⟩:∃ x,rootL (hs.take s)=x:=⟨_,rfl⟩
 obtain ⟨y,hy⟩:∃ y,rootL (hs.drop s)=y:=⟨_,rfl⟩
 have hxl:x.length=32:=by rw [← hx];exact length_rootL _ (h.all.take s)
 have hyl:y.length=32:=by rw [← hy];exact length_rootL _ (h.all.drop s)
 rw [hx] at hL hmore
 rw [hy] at hR hmore
 have hN:=fun W=>hnode_any x y W hxl hyl
 rw [← hmore] at hN
 have Hspl:=Lib.hid hspl
 have HL:=Lib.hid hL
 have HR:=Lib.hid hR
 have HN:=Lib.hid hN
 clear hspl hL hR hN hx hy hxl hyl hmore hs' ih h
 go_enter Tryz.func124,Tryz.ntmps124
 go_wp2_with (first
  | ((with_reducible show wpList _ _ _ (⟨some 2,.alloc _,_,_,_,_⟩::_) _ _);refine wpList_run rfl (.pointer (some ⟨w.heap.size,0,none⟩)) (w.alloc (.cells zs 53)) (by rw [← Hzs.out];rfl) ?_;simp only [Act.put])
  | (go_at_call 108;refine (Hspl.out _).mono ?_;rintro e w1 ⟨rfl,rfl⟩))
 generalize w.alloc (.cells zs 53)=w1 at hb0 k0 h0 HL HR ⊢
 have hS:Below w1.heap.size w1 w1.drew:=(Below.refl _ _).drew
 refine wp_region_mix_last (fun W=>Below w1.heap.size w1 W) 9 [(0,true),(1,true),(2,true),(4,true),(5,true),(6,true),(3,false),(7,false),(8,false)] (by kernel_rfl) (by kernel_rfl) hS fun _=>?_
 simp only [List.map_cons,List.map_nil,Array.getD_eq_getD_getElem?,List.getElem?_toArray,List.getElem?_cons_succ,List.getElem?_cons_zero,Option.getD_some]
 generalize w1.drew=W0 at hS ⊢
 iterate 2 (refine wpMix_s (fun K hK=>?_);go_simp;refine hK _ ?_;clear hK K)
 refine wpMix_v (by kernel_rfl) (.slice A s c) (fun u=>run_slice_op_hi (.tmp 10) (.tmp 11) rfl A n c s rfl rfl (by omega) u.W) ?_
 simp only [Act.put]
 iterate 2 (refine wpMix_s (fun K hK=>?_);go_simp;refine hK _ ?_;clear hK K)
 refine wpMix_v (by kernel_rfl) (.slice (if c=s then A else A.map (·.add (s*32))) (n - s) (c - s)) (fun u=>run_slice_op_lo (.tmp 14) (.tmp 15) rfl A n c s rfl rfl (by omega) u.W) ?_
 simp only [Act.put]
 refine wpMix_c (fun K hK=>?_) hS
 go_simp
 refine (HL.out W0 hS).mono ?_
 rintro e W1 ⟨rfl,hb'⟩
 refine hK _ _ ?_
 clear hK K
 replace hS:=hS.trans (hb'.mono hS.size)
 refine ⟨hS,?_⟩
 clear hb'
 refine wpMix_c (fun K hK=>?_) hS
 go_simp
 refine (HR.out W1 hS).mono ?_
 rintro e W2 ⟨rfl,hb'⟩
 refine hK _ _ ?_
 clear hK K
 replace hS:=hS.trans (hb'.mono hS.size)
 refine ⟨hS,?_⟩
 clear hb'
 refine wpMix_c (fun K hK=>?_) hS
 go_simp
 refine (HN.out W2).mono ?_
 rintro e W3 ⟨rfl,hb'⟩
 refine hK _ _ ?_
 clear hK K
 replace hS:=hS.trans (hb'.mono hS.size)
 refine ⟨hS,?_⟩
 clear hb'
 refine wpMix_nil ?_
 intro _
 simp only [List.drop_succ_cons,List.drop_zero]
 have k3:=k0.below hS k0.lt
 go_wp2_with ((with_reducible show wpList _ _ _ (⟨none,.store _ _ _,_,_,_,_⟩::_) _ _);refine wpList_store_blk rfl 53 (.tmp 2) (.tmp 18) rfl 32 size26 w.heap.size (r.map B).toArray rfl rfl (by simp [Hrl.out]) (oneCell_B _) 53 _ k3 hzl ?_;simp only [Act.put])
 refine np_normal ?_
 go_wp2_with fail
 refine bodyPost_ret (results_cell_row rfl _ _ w.heap.size 53 (r.map B).toArray (0,0) _ rfl (k3.setRow_ _) Tryz.underlying53 rfl (by rw [show (r.map B).toArray.size=32 by simp [Hrl.out]];exact info26)) rfl ⟨rfl,?_⟩
 exact below_setRow (hb0.trans (hS.mono hb0.size)) (Nat.le_refl _) _
set_option maxHeartbeats 2000000 in
set_option maxRecDepth 100000 in
theorem rof_rec (d:Nat):∀ (hs:List (List UInt8)) (A:Option Addr) (n c:Nat) (w:World),n≤d→Hs w (fun _=>True) A n c hs→n≤4398046511104 →
  Calls Tryz.prog 66 #[.slice A n c] w fun e w'=>e = .returned (.agg ((rootL hs).map B).toArray)∧Below w.heap.size w w':=by
 induction d using Nat.strongRecOn with
 | ind d ih =>
 intro hs A n c w hnd h hn
 obtain ⟨zs,hzs⟩:∃ zs,zeroHash=zs:=⟨_,rfl⟩
 have hzl:zs.size=32:=by rw [← hzs];rfl
 have hlen:=h.len
 have hroom:=h.sl.room
 have hmax:=h.sl.max
 unfold maxLen at hmax
 have hb0:=(Below.refl w.heap.size w).alloc (Nat.le_refl _) (.cells zs 53)
 have k0:=Blk.new w 53 zs
 have h0:=h.step hb0
 obtain ⟨r,hr⟩:∃ r,rootL hs=r:=⟨_,rfl⟩
 have hrl:r.length=32:=by rw [← hr];exact length_rootL hs h.all
 rw [hr]
 have Hzs:=Lib.hid hzs
 have Hrl:=Lib.hid hrl
 have Hr:=Lib.hid hr
 have Hlen:=Lib.hid hlen
 clear hzs hrl hr hlen
 by_cases hn0:n=0
 ·subst hn0
  have hnil:hs=[]:=List.eq_nil_of_length_eq_zero Hlen.out
  subst hnil
  obtain rfl:r=hEmpty:=Hr.out.symm
  clear ih h h0
  go_enter Tryz.func66,Tryz.ntmps66
  go_wp2_with (first
   | ((with_reducible show wpList _ _ _ (⟨some 2,.alloc _,_,_,_,_⟩::_) _ _);refine wpList_run rfl (.pointer (some ⟨w.heap.size,0,none⟩)) (w.alloc (.cells zs 53)) (by rw [← Hzs.out];rfl) ?_;simp only [Act.put])
   | (go_at_call 81;refine (rempty_any _).mono ?_;rintro e w1 ⟨rfl,hb1⟩;have k1:=k0.below hb1 (by simp);have B1:=hb0.trans (hb1.mono (by simp)))
   | ((with_reducible show wpList _ _ _ (⟨none,.store _ _ _,_,_,_,_⟩::_) _ _);refine wpList_store_blk rfl 53 (.tmp 2) (.tmp 7) rfl 32 size26 w.heap.size (hEmpty.map B).toArray rfl rfl (by simp [Hrl.out]) (oneCell_B _) 53 _ k1 hzl ?_;simp only [Act.put]))
  refine bodyPost_ret (results_cell_row rfl _ _ w.heap.size 53 (hEmpty.map B).toArray (0,0) _ rfl (k1.setRow_ _) Tryz.underlying53 rfl (by rw [show (hEmpty.map B).toArray.size=32 by simp [Hrl.out]];exact info26)) rfl ⟨rfl,?_⟩
  exact below_setRow B1 (Nat.le_refl _) _
 by_cases hn1:n=1
 ·subst hn1
  obtain ⟨x,rfl⟩:=List.length_eq_one_iff.1 Hlen.out
  obtain rfl:r=x:=Hr.out.symm
  obtain ⟨b,o,rfl,-,-,hat⟩:=h0.at_ (by omega)
  have hld:(Instr.loadAt 53 (.pointer (some ⟨b,o,none⟩))).run Tryz.prog (w.alloc (.cells zs 53)) = .ok (.agg (r.map B).toArray) (w.alloc (.cells zs 53)):=hat 0 (by omega)
  have Hld:=Lib.hid hld
  clear ih h h0 hat hld
  go_enter Tryz.func66,Tryz.ntmps66
  go_wp2_with (first
   | ((with_reducible show wpList _ _ _ (⟨some 2,.alloc _,_,_,_,_⟩::_) _ _);refine wpList_run rfl (.pointer (some ⟨w.heap.size,0,none⟩)) (w.alloc (.cells zs 53)) (by rw [← Hzs.out];rfl) ?_;simp only [Act.put])
   | ((with_reducible show wpList _ _ _ (⟨some 13,.load _ _,_,_,_,_⟩::_) _ _);refine wpList_load rfl 53 (.tmp 12) rfl b o rfl (r.map B).toArray Hld.out ?_;simp only [Act.put])
   | ((with_reducible show wpList _ _ _ (⟨none,.store _ _ _,_,_,_,_⟩::_) _ _);refine wpList_store_blk rfl 53 (.tmp 2) (.tmp 13) rfl 32 size26 w.heap.size (r.map B).toArray rfl rfl (by simp [Hrl.out]) (oneCell_B _) 53 _ k0 hzl ?_;simp only [Act.put]))
  refine bodyPost_ret (results_cell_row rfl _ _ w.heap.size 53 (r.map B).toArray (0,0) _ rfl (k0.setRow_ _) Tryz.underlying53 rfl (by rw [show (r.map B).toArray.size=32 by simp [Hrl.out]];exact info26)) rfl ⟨rfl,?_⟩
  exact below_setRow hb0 (Nat.le_refl _) _
 have hne0:((n:Int)==0)=false:=by simp;omega
 have hne1:((n:Int)==1)=false:=by simp;omega
 have hmore:=rootL_more hs (by rw [Hlen.out];omega)
 rw [Hlen.out,Hr.out] at hmore
 have hspl:=fun w=>rsplit_any (n:Int) w (by omega)
 rw [Int.toNat_natCast] at hspl
 have hsl:=splitN_lt n (by omega)
 have hsp:=splitN_pos n (by omega)
 obtain ⟨s,hs'⟩:∃ s,splitN n=s:=⟨_,rfl⟩
 rw [hs'] at hmore hspl hsl hsp
 have hL:=fun W (hW:Below (w.alloc (.cells zs 53)).heap.size (w.alloc (.cells zs 53)) W)=>ih s (by omega) (hs.take s) A s c W (Nat.le_refl _) ((h0.step hW).take s (by omega)) (by omega)
 have hR:=fun W (hW:Below (w.alloc (.cells zs 53)).heap.size (w.alloc (.cells zs 53)) W)=>ih (n - s) (by omega) (hs.drop s) _ (n - s) (c - s) W (Nat.le_refl _) ((h0.step hW).drop s (by omega)) (by omega)
 obtain ⟨x,hx⟩:∃ x,rootL (hs.take s)=x:=⟨_,rfl⟩
 obtain ⟨y,hy⟩:∃ y,rootL (hs.drop s)=y:=⟨_,rfl⟩
 have hxl:x.length=32:=by rw [← hx];exact length_rootL _ (h.all.take s)
 have hyl:y.length=32:=by rw [← hy];exact length_rootL _ (h.all.drop s)
 rw [hx] at hL hmore
 rw [hy] at hR hmore
 have hN:=fun W=>hrnode_any x y W hxl hyl
 rw [← hmore] at hN
 have Hspl:=Lib.hid hspl
 have HL:=Lib.hid hL
 have HR:=Lib.hid hR
 have HN:=Lib.hid hN
 clear hspl hL hR hN hx hy hxl hyl hmore hs' ih h
 go_enter Tryz.func66,Tryz.ntmps66
 go_wp2_with (first
  | ((with_reducible show wpList _ _ _ (⟨some 2,.alloc _,_,_,_,_⟩::_) _ _);refine wpList_run rfl (.pointer (some ⟨w.heap.size,0,none⟩)) (w.alloc (.cells zs 53)) (by rw [← Hzs.out];rfl) ?_;simp only [Act.put])
  | (go_at_call 82;refine (Hspl.out _).mono ?_;rintro e w1 ⟨rfl,rfl⟩))
 generalize w.alloc (.cells zs 53)=w1 at hb0 k0 h0 HL HR ⊢
 have hS:Below w1.heap.size w1 w1.drew:=(Below.refl _ _).drew
 refine wp_region_mix_last (fun W=>Below w1.heap.size w1 W) 9 [(0,true),(1,true),(2,true),(4,true),(5,true),(6,true),(3,false),(7,false),(8,false)] (by kernel_rfl) (by kernel_rfl) hS fun _=>?_
 simp only [List.map_cons,List.map_nil,Array.getD_eq_getD_getElem?,List.getElem?_toArray,List.getElem?_cons_succ,List.getElem?_cons_zero,Option.getD_some]
 generalize w1.drew=W0 at hS ⊢
 iterate 2 (refine wpMix_s (fun K hK=>?_);go_simp;refine hK _ ?_;clear hK K)
 refine wpMix_v (by kernel_rfl) (.slice A s c) (fun u=>run_slice_op_hi (.tmp 17) (.tmp 18) rfl A n c s rfl rfl (by omega) u.W) ?_
 simp only [Act.put]
 iterate 2 (refine wpMix_s (fun K hK=>?_);go_simp;refine hK _ ?_;clear hK K)
 refine wpMix_v (by kernel_rfl) (.slice (if c=s then A else A.map (·.add (s*32))) (n - s) (c - s)) (fun u=>run_slice_op_lo (.tmp 21) (.tmp 22) rfl A n c s rfl rfl (by omega) u.W) ?_
 simp only [Act.put]
 refine wpMix_c (fun K hK=>?_) hS
 go_simp
 refine (HL.out W0 hS).mono ?_
 rintro e W1 ⟨rfl,hb'⟩
 refine hK _ _ ?_
 clear hK K
 replace hS:=hS.trans (hb'.mono hS.size)
 refine ⟨hS,?_⟩
 clear hb'
 refine wpMix_c (fun K hK=>?_) hS
 go_simp
 refine (HR.out W1 hS).mono ?_
 rintro e W2 ⟨rfl,hb'⟩
 refine hK _ _ ?_
 clear hK K
 replace hS:=hS.trans (hb'.mono hS.size)
 refine ⟨hS,?_⟩
 clear hb'
 refine wpMix_c (fun K hK=>?_) hS
 go_simp
 refine (HN.out W2).mono ?_
 rintro e W3 ⟨rfl,hb'⟩
 refine hK _ _ ?_
 clear hK K
 replace hS:=hS.trans (hb'.mono hS.size)
 refine ⟨hS,?_⟩
 clear hb'
 refine wpMix_nil ?_
 intro _
 simp only [List.drop_succ_cons,List.drop_zero]
 have k3:=k0.below hS k0.lt
 go_wp2_with ((with_reducible show wpList _ _ _ (⟨none,.store _ _ _,_,_,_,_⟩::_) _ _);refine wpList_store_blk rfl 53 (.tmp 2) (.tmp 25) rfl 32 size26 w.heap.size (r.map B).toArray rfl rfl (by simp [Hrl.out]) (oneCell_B _) 53 _ k3 hzl ?_;simp only [Act.put])
 refine np_normal ?_
 go_wp2_with fail
 refine bodyPost_ret (results_cell_row rfl _ _ w.heap.size 53 (r.map B).toArray (0,0) _ rfl (k3.setRow_ _) Tryz.underlying53 rfl (by rw [show (r.map B).toArray.size=32 by simp [Hrl.out]];exact info26)) rfl ⟨rfl,?_⟩
 exact below_setRow (hb0.trans (hS.mono hb0.size)) (Nat.le_refl _) _
theorem tof_any (hs:List (List UInt8)) (A:Option Addr) (n c:Nat) (w:World) (h:Hs w (fun _=>True) A n c hs) (hn:n≤4398046511104) :
  Calls Tryz.prog 124 #[.slice A n c] w fun e w'=>e = .returned (.agg ((rootL hs).map B).toArray)∧Below w.heap.size w w':=tof_rec n hs A n c w (Nat.le_refl _) h hn
theorem rof_any (hs:List (List UInt8)) (A:Option Addr) (n c:Nat) (w:World) (h:Hs w (fun _=>True) A n c hs) (hn:n≤4398046511104) :
  Calls Tryz.prog 66 #[.slice A n c] w fun e w'=>e = .returned (.agg ((rootL hs).map B).toArray)∧Below w.heap.size w w':=rof_rec n hs A n c w (Nat.le_refl _) h hn
end Go.Proofs.YtdjhoankkddomaaGreat
namespace Go.Proofs.YtdjhoankkddomaaGreat
open Go Go.RowKit
def stretchL (hs:List (List UInt8)) (a b:Nat):List UInt8:=rootL ((hs.drop a).take (b - a))
theorem length_stretchL (hs:List (List UInt8)) (a b:Nat) (h:H32 hs):(stretchL hs a b).length=32:=length_rootL _ ((h.drop a).take _)
def foldR:List (List UInt8)→List UInt8
 | []=>hEmpty
 | [x]=>x
 | x::y::t=>hNode x (foldR (y::t))
theorem foldR_cons (x:List UInt8) (l:List (List UInt8)) (h:l≠[]):foldR (x::l)=hNode x (foldR l):=by
 cases l with
 | nil=>exact absurd rfl h
 | cons y t=>rfl
theorem length_foldR (x:List UInt8) (l:List (List UInt8)) (h:H32 (x::l)):(foldR (x::l)).length=32:=by
 cases l with
 | nil=>exact h x (by simp)
 | cons y t=>exact length_hNode _ _
def rootsL (hs:List (List UInt8)) (l:List (Nat × Nat)):List (List UInt8):=l.map fun s=>stretchL hs s.1 s.2
theorem rootsL_all (hs:List (List UInt8)) (h:H32 hs) (l:List (Nat × Nat)):H32 (rootsL hs l):=fun x hx=>by
 obtain ⟨s,_,rfl⟩:=List.mem_map.1 hx
 exact length_stretchL hs _ _ h
theorem wholeL_ne (a n:Nat) (h:n≠0):wholeL a n≠[]:=by rw [wholeL_more a n h];simp
theorem foldR_whole (d:Nat):∀ (n a:Nat) (hs:List (List UInt8)),n≤d→n≠0→a+n≤hs.length→foldR (rootsL hs (wholeL a n))=rootL ((hs.drop a).take n):=by
 induction d with
 | zero=>intro n a hs h h0;omega
 | succ d ih =>
  intro n a hs h h0 hl
  have hp:=Nat.two_pow_pos n.log2
  have h1:=Nat.log2_self_le h0
  have h2:=Nat.lt_log2_self (n:=n)
  have hsp:=splitN_eq n n.log2
  rw [Nat.pow_succ] at h2 hsp
  rw [wholeL_more a n h0,rootsL,List.map_cons]
  generalize 2 ^ n.log2=p at *
  by_cases hnp:n=p
  ·subst hnp
   rw [Nat.sub_self,wholeL_zero]
   show stretchL hs a (a+n)=_
   rw [stretchL,Nat.add_sub_cancel_left]
  ·have hs2:=hsp (by omega) (by omega)
   have hne:(wholeL (a+p) (n - p)).map (fun s=>stretchL hs s.1 s.2)≠[]:=by
    have:=wholeL_ne (a+p) (n - p) (by omega)
    simpa using this
   have hi:=ih (n - p) (a+p) hs (by omega) (by omega) (by omega)
   rw [rootsL] at hi
   have hlen:((hs.drop a).take n).length=n:=by rw [List.length_take,List.length_drop];omega
   rw [foldR_cons _ _ hne,hi,rootL_more ((hs.drop a).take n) (by rw [hlen];omega),hlen,hs2,List.take_take,Nat.min_eq_left (by omega),List.drop_take,List.drop_drop]
   show hNode (stretchL hs a (a+p)) _=_
   rw [stretchL,Nat.add_sub_cancel_left]
theorem foldR_drop (l:List (List UInt8)) (i:Nat) (h:i+1<l.length):foldR (l.drop i)=hNode (l.getD i []) (foldR (l.drop (i+1))):=by
 rw [List.drop_eq_getElem_cons (by omega),foldR_cons _ _ (by intro e;have:=congrArg List.length e;rw [List.length_drop,List.length_nil] at this;omega),List.getD_eq_getElem?_getD,List.getElem?_eq_getElem (by omega)]
 rfl
theorem tuple_cellT {fn:Func} {p u:Tmp} {ty t:TypeId} {P:Program} (h:fn.results=#[.cell p ty,.tmp u]) (tmps:Array Value) (w:World) (g:Nat) (cs:Array Value) (N:Nat) (el:TypeId)
  (hp:tmps.getD p undef = .pointer (some ⟨g,0,none⟩)) (hg:Blk w g t cs) (hu:P.underlying ty=some (.array N el)) (hi:(P.info? ty).map (·.size)=some cs.size) :
  (results fn tmps).run P w = .ok (.tuple #[.agg cs,tmps.getD u undef]) w:=by
 rw [results_cell_tmp h,hp]
 show ((loadVar ty ⟨g,0,none⟩).run P w).andThen (fun v w₂=>Result.ok (Value.tuple #[v,tmps.getD u undef]) w₂)=_
 rw [run_loadVar_row w g t ty cs (0,0) _ hg hu rfl hi]
 rfl
theorem run_slice_op_both {ρ:Operand→Value} {o:Oper} (x y z:Operand) (ho:o.op = .slice 49 x (some y) (some z) none) (A:Option Addr) (n c a b:Nat) (hx:ρ x = .slice A n c) (hy:ρ y = .int .i64 (a:Int)) (hz:ρ z = .int .i64 (b:Int)) (hab:a≤b) (hb:b≤c) (W:World) :
  (execOp ρ o).run Tryz.prog W = .ok (.value (.slice (if c=a then A else A.map (·.add (a*32))) (b - a) (c - a))) W:=by
 unfold execOp
 simp only [ho,hx,hy,hz,Option.map_some,Option.map_none]
 simp only [run_sliceAt_slice W 49 _ _ _ _ sliceHs,run_slice_lh W 49 A n c sliceHs .i64 .i64 (a:Int) (b:Int) (by omega) (by omega) (by omega),sizeHs,Sem.run_bind,Sem.run_pure,Result.andThen_ok,sliced,Int.toNat_natCast]
set_option maxHeartbeats 2000000 in
set_option maxRecDepth 100000 in
theorem tstretch_ok (hs:List (List UInt8)) (A:Option Addr) (n c:Nat) (w:World) (a b:Nat) (h:Hs w (fun _=>True) A n c hs) (hn:n≤4398046511104) (hab:a<b) (hb:b≤n) :
  Calls Tryz.prog 113 #[.slice A n c,.agg #[.int .i64 (a:Int),.int .i64 (b:Int)]] w fun e w'=>e = .returned (.tuple #[.agg ((stretchL hs a b).map B).toArray,.int .i64 0])∧Below w.heap.size w w':=by
 obtain ⟨zs,hzs⟩:∃ zs,zeroHash=zs:=⟨_,rfl⟩
 have hzl:zs.size=32:=by rw [← hzs];rfl
 have hroom:=h.sl.room
 have hmax:=h.sl.max
 unfold maxLen at hmax
 have hbx:=(Below.refl w.heap.size w).alloc (Nat.le_refl _) (.cells #[.int .i64 (a:Int),.int .i64 (b:Int)] 164)
 have x0:=Blk.new w 164 #[.int .i64 (a:Int),.int .i64 (b:Int)]
 have hb0:=hbx.alloc hbx.size (.cells zs 53)
 have k0:=Blk.new (w.alloc (.cells #[.int .i64 (a:Int),.int .i64 (b:Int)] 164)) 53 zs
 have x1:=x0.alloc (.cells zs 53)
 have h0:=(h.step hb0).drop a (by omega)
 rw [if_neg (by omega)] at h0
 have h1:=h0.take (b - a) (by omega)
 have hof:=fun W (hW:Below ((w.alloc (.cells #[.int .i64 (a:Int),.int .i64 (b:Int)] 164)).alloc (.cells zs 53)).heap.size ((w.alloc (.cells #[.int .i64 (a:Int),.int .i64 (b:Int)] 164)).alloc (.cells zs 53)) W)=>tof_any ((hs.drop a).take (b - a)) _ (b - a) (c - a) W (h1.step hW) (by omega)
 obtain ⟨r,hr⟩:∃ r,stretchL hs a b=r:=⟨_,rfl⟩
 have hrl:r.length=32:=by rw [← hr];exact length_stretchL hs _ _ h.all
 rw [show rootL ((hs.drop a).take (b - a))=r from hr] at hof
 rw [hr]
 have e0:((w.alloc (.cells #[.int .i64 (a:Int),.int .i64 (b:Int)] 164)).alloc (.cells zs 53)).cell? ⟨w.heap.size,0,none⟩=some (.int .i64 (a:Int)):=by rw [x1.cell];rfl
 have e1:((w.alloc (.cells #[.int .i64 (a:Int),.int .i64 (b:Int)] 164)).alloc (.cells zs 53)).cell? ⟨w.heap.size,1,none⟩=some (.int .i64 (b:Int)):=by rw [x1.cell];rfl
 have Hof:=Lib.hid hof
 have Hzs:=Lib.hid hzs
 have Hrl:=Lib.hid hrl
 have d0:decide ((a:Int)<0)=false:=by simp
 have d1:decide ((b:Int)≤(a:Int))=false:=by simp;omega
 have d1':decide (b≤a)=false:=by simp;omega
 have d2:decide ((n:Int)<(b:Int))=false:=by simp;omega
 have d2':decide (n<b)=false:=by simp;omega
 clear hof hzs hrl hr h h0 h1 x0 x1 hbx
 go_enter Tryz.func113,Tryz.ntmps113
 go_wp2_with (first
  | ((with_reducible show wpList _ _ _ (⟨some 4,.alloc _,_,_,_,_⟩::_) _ _);refine wpList_run rfl (.pointer (some ⟨(w.alloc (.cells #[.int .i64 (a:Int),.int .i64 (b:Int)] 164)).heap.size,0,none⟩)) ((w.alloc (.cells #[.int .i64 (a:Int),.int .i64 (b:Int)] 164)).alloc (.cells zs 53)) (by rw [← Hzs.out];rfl) ?_;simp only [Act.put]))
 refine (Hof.out _ (Below.refl _ _)).mono ?_
 rintro e w2 ⟨rfl,hb2⟩
 have k2:=k0.below hb2 k0.lt
 rw [show (w.alloc (.cells #[.int .i64 (a:Int),.int .i64 (b:Int)] 164)).heap.size=w.heap.size+1 by simp] at k2
 have B2:=hb0.trans (hb2.mono hb0.size)
 clear e0 e1 d0 d1 d1' d2 d2' Hof
 go_wp2_with ((with_reducible show wpList _ _ _ (⟨none,.store _ _ _,_,_,_,_⟩::_) _ _);refine wpList_store_blk rfl 53 (.tmp 4) (.tmp 30) rfl 32 size26 (w.heap.size+1) (r.map B).toArray rfl rfl (by simp [Hrl.out]) (oneCell_B _) 53 _ k2 hzl ?_;simp only [Act.put])
 refine bodyPost_ret (tuple_cellT rfl _ _ (w.heap.size+1) (r.map B).toArray _ _ rfl (k2.setRow_ _) Tryz.underlying53 (by rw [show (r.map B).toArray.size=32 by simp [Hrl.out]];exact info26)) rfl ⟨rfl,?_⟩
 exact below_setRow B2 (by omega) _
set_option maxHeartbeats 2000000 in
set_option maxRecDepth 100000 in
theorem tstretch_bad (A:Option Addr) (n c:Nat) (w:World) (a b:Int) (hbad:a<0∨b≤a∨n<b) :
  Calls Tryz.prog 113 #[.slice A n c,.agg #[.int .i64 a,.int .i64 b]] w fun e w'=>e = .returned (.tuple #[.agg zeroHash,.int .i64 4])∧Below w.heap.size w w':=by
 obtain ⟨zs,hzs⟩:∃ zs,zeroHash=zs:=⟨_,rfl⟩
 have hzl:zs.size=32:=by rw [← hzs];rfl
 have hz1:∀ v ∈ zs.toList,v.oneCell'=true:=by rw [← hzs];exact oneCell_B _
 rw [hzs]
 have hbx:=(Below.refl w.heap.size w).alloc (Nat.le_refl _) (.cells #[.int .i64 a,.int .i64 b] 164)
 have x0:=Blk.new w 164 #[.int .i64 a,.int .i64 b]
 have hb0:=hbx.alloc hbx.size (.cells zs 53)
 have k0:=Blk.new (w.alloc (.cells #[.int .i64 a,.int .i64 b] 164)) 53 zs
 have x1:=x0.alloc (.cells zs 53)
 rw [show (w.alloc (.cells #[.int .i64 a,.int .i64 b] 164)).heap.size=w.heap.size+1 by simp] at k0
 have e0:((w.alloc (.cells #[.int .i64 a,.int .i64 b] 164)).alloc (.cells zs 53)).cell? ⟨w.heap.size,0,none⟩=some (.int .i64 a):=by rw [x1.cell];rfl
 have e1:((w.alloc (.cells #[.int .i64 a,.int .i64 b] 164)).alloc (.cells zs 53)).cell? ⟨w.heap.size,1,none⟩=some (.int .i64 b):=by rw [x1.cell];rfl
 have Hzs:=Lib.hid hzs
 have Hz1:=Lib.hid hz1
 clear hzs hz1 x0 x1 hbx
 have hd:(decide (a<0)=true)∨(decide (a<0)=false∧decide (b≤a)=true)∨(decide (a<0)=false∧decide (b≤a)=false∧decide ((n:Int)<b)=true):=by
  by_cases h1:a<0
  ·exact .inl (decide_eq_true h1)
  ·by_cases h2:b≤a
   ·exact .inr (.inl ⟨decide_eq_false h1,decide_eq_true h2⟩)
   ·exact .inr (.inr ⟨decide_eq_false h1,decide_eq_false h2,decide_eq_true (by omega)⟩)
 clear hbad
 go_enter Tryz.func113,Tryz.ntmps113
 rcases hd with d1|⟨d1,d2⟩|⟨d1,d2,d3⟩
 all_goals
  go_wp2_with (first
   | ((with_reducible show wpList _ _ _ (⟨some 4,.alloc _,_,_,_,_⟩::_) _ _);refine wpList_run rfl (.pointer (some ⟨(w.alloc (.cells #[.int .i64 a,.int .i64 b] 164)).heap.size,0,none⟩)) ((w.alloc (.cells #[.int .i64 a,.int .i64 b] 164)).alloc (.cells zs 53)) (by rw [← Hzs.out];rfl) ?_;simp only [Act.put])
   | ((with_reducible show wpList _ _ _ (⟨some 23,.build _ _,_,_,_,_⟩::_) _ _);refine wpList_run0 rfl (.agg zs) (by rw [← Hzs.out];kernel_rfl) ?_;simp only [Act.put])
   | ((with_reducible show wpList _ _ _ (⟨none,.store _ _ _,_,_,_,_⟩::_) _ _);refine wpList_store_blk rfl 53 (.tmp 4) (.tmp 23) rfl 32 size26 (w.heap.size+1) zs rfl rfl hzl Hz1.out 53 _ k0 hzl ?_;simp only [Act.put]))
  refine bodyPost_ret (tuple_cellT rfl _ _ (w.heap.size+1) zs _ _ rfl (k0.setRow_ _) Tryz.underlying53 (by rw [hzl];exact info26)) rfl ⟨rfl,?_⟩
  exact below_setRow hb0 (by omega) _
end Go.Proofs.YtdjhoankkddomaaGreat
namespace Go.Proofs.YtdjhoankkddomaaGreat
open Go Go.RowKit
theorem pow_split (d:Nat):∀ (m t a:Nat),m≤d→wholeL a (2*m*2 ^ t+2 ^ t)=wholeL a (2*m*2 ^ t)++[(a+2*m*2 ^ t,a+2*m*2 ^ t+2 ^ t)]:=by
 induction d with
 | zero =>
  intro m t a h
  obtain rfl:m=0:=by omega
  have hp:=Nat.two_pow_pos t
  rw [show 2*0*2 ^ t=0 by simp,Nat.zero_add,wholeL_zero,wholeL_more a _ (by omega),Nat.log2_two_pow,Nat.sub_self,wholeL_zero]
  rfl
 | succ d ih =>
  intro m t a h
  by_cases hm:m=0
  ·subst hm
   exact ih 0 t a (by omega)
  ·have hp:=Nat.two_pow_pos t
   have hpos:2*m*2 ^ t≠0:=Nat.mul_ne_zero (by omega) (by omega)
   obtain ⟨j,hj⟩:∃ j,(2*m).log2=j:=⟨_,rfl⟩
   have h2m:2*m≠0:=by omega
   have j1:2 ^ j≤2*m:=by rw [← hj];exact Nat.log2_self_le h2m
   have j2:2*m<2 ^ (j+1):=by rw [← hj];exact Nat.lt_log2_self
   obtain ⟨i,rfl⟩:∃ i,j=i+1:=by
    refine ⟨j - 1,?_⟩
    rcases Nat.eq_zero_or_pos j with h0|h0
    ·subst h0;rw [show 2 ^ (0+1)=2 from rfl] at j2;omega
    ·omega
   have j3:2*m+2≤2 ^ (i+1+1):=by rw [Nat.pow_succ] at j2 ⊢;omega
   have l1:(2*m*2 ^ t).log2=i+1+t:=(Nat.log2_eq_iff hpos).2 ⟨by rw [Nat.pow_add];exact Nat.mul_le_mul_right _ j1,by
    rw [show i+1+t+1=(i+1+1)+t by omega,Nat.pow_add];exact Nat.mul_lt_mul_of_pos_right j2 hp⟩
   have l2:(2*m*2 ^ t+2 ^ t).log2=i+1+t:=(Nat.log2_eq_iff (by omega)).2 ⟨Nat.le_trans (by rw [Nat.pow_add];exact Nat.mul_le_mul_right _ j1) (Nat.le_add_right _ _),by
    rw [show i+1+t+1=(i+1+1)+t by omega,Nat.pow_add]
    have:=Nat.mul_le_mul_right (2 ^ t) j3
    rw [Nat.add_mul] at this
    omega⟩
   rw [wholeL_more a (2*m*2 ^ t+2 ^ t) (by omega),wholeL_more a (2*m*2 ^ t) hpos,l1,l2]
   have hi2:2 ^ (i+1+t)=2*2 ^ i*2 ^ t:=by rw [Nat.pow_add,Nat.pow_succ];rw [Nat.mul_comm (2 ^ i) 2]
   have him:2 ^ i≤m:=by rw [Nat.pow_succ] at j1;omega
   have hsub:2*m*2 ^ t - 2 ^ (i+1+t)=2*(m - 2 ^ i)*2 ^ t:=by
    rw [hi2,← Nat.sub_mul,← Nat.mul_sub]
   have hle:2 ^ (i+1+t)≤2*m*2 ^ t:=by rw [hi2];exact Nat.mul_le_mul_right _ (Nat.mul_le_mul_left _ him)
   have hi:=ih (m - 2 ^ i) t (a+2 ^ (i+1+t)) (by have:=Nat.two_pow_pos i;omega)
   rw [Nat.sub_add_comm hle,hsub,hi,List.cons_append,← hsub]
   congr 3
   rw [Prod.mk.injEq]
   constructor <;> omega
theorem whole_low (k t:Nat) (h:k % 2=0):wholeL 0 (k*2 ^ t+2 ^ t)=wholeL 0 (k*2 ^ t)++[(k*2 ^ t,k*2 ^ t+2 ^ t)]:=by
 have:=pow_split (k / 2) (k / 2) t 0 (Nat.le_refl _)
 rw [show 2*(k / 2)=k by omega,Nat.zero_add] at this
 exact this
theorem stretch_join (hs:List (List UInt8)) (a t:Nat) (h:a+2 ^ t+2 ^ t≤hs.length):stretchL hs a (a+2 ^ t+2 ^ t)=hNode (stretchL hs a (a+2 ^ t)) (stretchL hs (a+2 ^ t) (a+2 ^ t+2 ^ t)):=by
 have hp:=Nat.two_pow_pos t
 have hs2:=splitN_eq (2 ^ t+2 ^ t) t (by omega) (by rw [Nat.pow_succ];omega)
 generalize 2 ^ t=p at *
 unfold stretchL
 rw [show a+p+p - a=p+p by omega,show a+p - a=p by omega,show a+p+p - (a+p)=p by omega]
 have hlen:((hs.drop a).take (p+p)).length=p+p:=by rw [List.length_take,List.length_drop];omega
 rw [rootL_more ((hs.drop a).take (p+p)) (by rw [hlen];omega),hlen,hs2,List.take_take,Nat.min_eq_left (by omega),List.drop_take,List.drop_drop,show p+p - p=p by omega]
theorem stretch_one (hs:List (List UInt8)) (i:Nat) (h:i<hs.length):stretchL hs i (i+1)=hs.getD i []:=by
 unfold stretchL
 rw [show i+1 - i=1 by omega,List.drop_eq_getElem_cons h,List.getD_eq_getElem?_getD,List.getElem?_eq_getElem h]
 rfl
def headsL (hs:List (List UInt8)) (k:Nat):List (List UInt8):=(List.range (k+1)).map fun i=>rootL (hs.take i)
theorem headsL_zero (hs:List (List UInt8)):headsL hs 0=[hEmpty]:=rfl
theorem headsL_succ (hs:List (List UInt8)) (k:Nat):headsL hs (k+1)=headsL hs k++[rootL (hs.take (k+1))]:=by
 unfold headsL
 rw [List.range_succ,List.map_append];rfl
theorem length_headsL (hs:List (List UInt8)) (k:Nat):(headsL hs k).length=k+1:=by simp [headsL]
theorem headsL_all (hs:List (List UInt8)) (h:H32 hs) (k:Nat):H32 (headsL hs k):=fun x hx=>by
 obtain ⟨i,_,rfl⟩:=List.mem_map.1 hx
 exact length_rootL _ (h.take i)
theorem headsL_getD (hs:List (List UInt8)) (k i:Nat) (h:i≤k):(headsL hs k).getD i []=rootL (hs.take i):=by
 rw [headsL,List.getD_eq_getElem?_getD,List.getElem?_map,List.getElem?_range (by omega)];rfl
theorem foldR_head (hs:List (List UInt8)) (k:Nat) (h:k<hs.length):foldR (rootsL hs (wholeL 0 (k+1)))=rootL (hs.take (k+1)):=by
 rw [foldR_whole (k+1) (k+1) 0 hs (Nat.le_refl _) (by omega) (by omega),List.drop_zero]
end Go.Proofs.YtdjhoankkddomaaGreat
namespace Go.Proofs.YtdjhoankkddomaaGreat
structure MoV where
 ents:List (List UInt8)
 seg:Int
 cap:Int
 queue:List (List UInt8)
 lastS:Int
 lastR:List UInt8
 has:Bool
 begun:List (List UInt8)
 ptS:Int
 ptR:List UInt8
 pointing:Bool
 only:Bool
def zero32:List UInt8:=List.replicate 32 0
def MoV.new (seg cap:Int):MoV:=⟨[],seg,cap,[],0,zero32,false,[],0,zero32,false,false⟩
def lvs (es:List (List UInt8)):List (List UInt8):=es.map hLeaf
def MoV.nowR (m:MoV):List UInt8:=rootL (lvs m.ents)
def jobOk (seg cap:Int):Bool:=decide (1≤seg)&&decide (seg≤4096)&&decide (1≤cap)&&decide (cap≤1024)
def MoV.put (m:MoV) (l:List (List UInt8)):MoV:={ m with ents:=m.ents++l }
def MoV.submit (m:MoV) (e:List UInt8):Int × MoV :=
 if m.only then (10,m) else if 4096<e.length then (3,m) else if m.cap≤(m.queue.length:Int) then (5,m) else (0,{ m with queue:=m.queue++[e] })
def MoV.flush (m:MoV):MoV:={ m with ents:=m.ents++m.queue,queue:=[] }
def MoV.publish (m:MoV):MoV:={ m with lastS:=(m.ents.length:Int),lastR:=m.nowR,has:=true }
theorem lvs_length (es:List (List UInt8)):(lvs es).length=es.length:=List.length_map _
theorem lvs_append (a b:List (List UInt8)):lvs (a++b)=lvs a++lvs b:=List.map_append
end Go.Proofs.YtdjhoankkddomaaGreat
namespace Go.Proofs.YtdjhoankkddomaaGreat
open Go Go.RowKit
structure KB (M:Nat→Prop) (W W':World):Prop where
 os:W'.os=W.os
 tape:W'.tape=W.tape
 output:W'.output=W.output
 size:W.heap.size≤W'.heap.size
 block:∀ k,k<W.heap.size→¬ M k→W'.heap[k]?=W.heap[k]?
section
variable {M M':Nat→Prop} {W W' W2 w:World} {T:TypeId} {cs:Array Value} {g:Nat}
theorem KB.refl (M:Nat→Prop) (W:World):KB M W W:=⟨rfl,rfl,rfl,Nat.le_refl _,fun _ _ _=>rfl⟩
theorem KB.trans (h:KB M W W') (k:KB M W' W2):KB M W W2 :=
 ⟨k.os.trans h.os,k.tape.trans h.tape,k.output.trans h.output,Nat.le_trans h.size k.size,fun i hi hm=>(k.block i (Nat.lt_of_lt_of_le hi h.size) hm).trans (h.block i hi hm)⟩
theorem KB.then (h:KB M W W') (k:KB M' W' W2) (hM:∀ b,b<W.heap.size→M' b→M b):KB M W W2 :=
 ⟨k.os.trans h.os,k.tape.trans h.tape,k.output.trans h.output,Nat.le_trans h.size k.size,fun i hi hm=>(k.block i (Nat.lt_of_lt_of_le hi h.size) fun hx=>hm (hM i hi hx)).trans (h.block i hi hm)⟩
theorem KB.mono (h:KB M W W') (hM:∀ b,M b→M' b):KB M' W W':=⟨h.os,h.tape,h.output,h.size,fun k hk hm=>h.block k hk fun hx=>hm (hM k hx)⟩
theorem KB.of_below (h:Below W.heap.size W W'):KB M W W':=⟨h.os,h.tape,h.output,h.size,fun k hk _=>h.block k hk⟩
theorem KB.of_grown {row:Option Nat} (h:W.grownBy W' row) (hM:∀ r,row=some r→M r):KB M W W' :=
 ⟨h.os,h.tape,h.output,h.size,fun k hk hm=>h.block k hk fun e=>hm (hM k e.symm)⟩
theorem KB.below {N:Nat} (h:KB M W W') (hM:∀ b,M b→N≤b) (hN:N≤W.heap.size):Below N W W' :=
 ⟨h.os,h.tape,h.output,h.size,fun k hk=>h.block k (by omega) fun hm=>by have:=hM k hm;omega⟩
theorem KB.blk (h:KB M W W') (hb:Blk W g T cs) (hm:¬ M g):Blk W' g T cs:=(h.block g hb.lt hm).trans hb
theorem KB.slv {X:Nat→Prop} {A:Option Addr} {n c s:Nat} {l:List Value} (h:KB M W W') (hs:SlV W X A n c s l) (hm:∀ b,b<W.heap.size→X b→¬ M b):SlV W' X A n c s l :=
 hs.keep h.size fun p hp hx=>World.cell?_of_block (h.block p.block hp (hm _ hp hx))
theorem KB.slb {X:Nat→Prop} {A:Option Addr} {n c:Nat} {l:List UInt8} (h:KB M W W') (hs:Sl W X A n c l) (hm:∀ b,b<W.heap.size→X b→¬ M b):Sl W' X A n c l :=
 ⟨hs.bs.keep h.size fun p hp hx=>World.cell?_of_block (h.block p.block hp (hm _ hp hx)),hs.len,hs.room,hs.none,hs.max⟩
theorem KB.own {base n s:Nat} {e:TypeId} {v:Value} {xs:List Value} (h:KB M W W') (ho:W.ownsRow base e s v n xs) (hm:∀ b,v.ownBlock=some b→¬ M b):W'.ownsRow base e s v n xs:=by
 refine ⟨ho.1,?_⟩
 rcases ho.2 with h0|⟨g,cap,cur,rfl,hb,hg,rest⟩
 ·exact .inl h0
 ·exact .inr ⟨g,cap,cur,rfl,hb,h.blk (cs:=cur) hg (hm g rfl),rest⟩
end
end Go.Proofs.YtdjhoankkddomaaGreat
namespace Go.Proofs.YtdjhoankkddomaaGreat
open Go
abbrev Hf:=List UInt8→List UInt8
abbrev PairV:=List UInt8 × List UInt8
end Go.Proofs.YtdjhoankkddomaaGreat
namespace Go.Proofs.YtdjhoankkddomaaGreat
open Go Go.RowKit
theorem wpList_runG {P:Program} {w:World} {ops:Array Oper} {rest:List Oper} {o:Oper} {a:Act} {Q:Exit→Act→World→Prop} (hw:Region.wanted o (yielded ops a.tmps)=true) (v:Value) (w':World) (hrun:(execOp a.eval o).run P w = .ok (.value v) w')
  (h:wpList P ops Q rest (a.put o.dst v) w'):wpList P ops Q (o::rest) a w :=
 wpList_step fun K hK=>by
  rw [if_pos hw]
  unfold Oper.wp
  rw [hrun]
  exact hK _ _ h
end Go.Proofs.YtdjhoankkddomaaGreat
