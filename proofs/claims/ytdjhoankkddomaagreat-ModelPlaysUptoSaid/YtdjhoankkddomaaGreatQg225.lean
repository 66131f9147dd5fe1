import Derived.Test.YtdjhoankkddomaaGreatQg223
import Derived.Test.YtdjhoankkddomaaGreatQg211
import Derived.Test.YtdjhoankkddomaaGreatQg224
import Derived.Test.YtdjhoankkddomaaGreatQg221
import Derived.Test.YtdjhoankkddomaaGreatQg215
import Derived.Test.YtdjhoankkddomaaGreatQg209
import Derived.Test.YtdjhoankkddomaaGreatQg212
import Derived.Test.YtdjhoankkddomaaGreatQg210
namespace Go.Proofs.YtdjhoankkddomaaGreat
open Go Go.RowKit
attribute [local go_sem] Oper.semAt_some
def kn0:MoV:=MoV.new 2 2
def kn1:MoV:={ MoV.new 2 2 with queue:=[[97]] }
def kn2:MoV:={ MoV.new 2 2 with queue:=[[97],[98]] }
def kn3:MoV:={ MoV.new 2 2 with ents:=[[97],[98]] }
def kn4:MoV:=kn3.publish
theorem kn_s1:kn0.submit [97]=(0,kn1):=by simp [MoV.submit,kn0,kn1,MoV.new]
theorem kn_s2:kn1.submit [98]=(0,kn2):=by simp [MoV.submit,kn1,kn2,MoV.new]
theorem kn_s3:kn2.submit [99]=(5,kn2):=by simp [MoV.submit,kn2,MoV.new]
theorem kn_fl:kn2.flush=kn3:=rfl
theorem kn_al (root:List UInt8) (hr:kn3.nowR=root):kn4.allows [[97],[98]] true 2 root=true:=by
 have h1:kn4.lastS=2:=rfl
 have h2:kn4.lastR=root:=hr
 have h3:kn4.ents=[[97],[98]]:=rfl
 have h4:kn4.begun=[]:=rfl
 have h5:kn4.has=true:=rfl
 unfold MoV.allows
 rw [h1,h2,h3,h4,h5]
 simp [ptEq_self]
theorem conv_opM {ρ:Operand→Value} {o:Oper} {W W':World} {v x':Value} (t u:TypeId) (x:Operand) (ho:o.op = .convert t u x) (hx:ρ x=x') (h:(convert t u x').run Tryz.prog W = .ok v W'):(execOp ρ o).run Tryz.prog W = .ok (.value v) W':=by
 unfold execOp
 simp only [ho,hx,Sem.run_bind,Sem.run_pure,h,Result.andThen_ok]
theorem litB (w:World) (x:UInt8):∃ w2,(convert 41 41 (.slice (some ⟨w.heap.size,0,none⟩) 1 1)).run Tryz.prog (w.alloc (.cells #[B x] 5)) = .ok (.slice (some ⟨w.heap.size,0,none⟩) 1 1) w2∧Sl w2 (w.heap.size ≤ ·) (some ⟨w.heap.size,0,none⟩) 1 1 [x]∧Below w.heap.size w w2:=by
 obtain ⟨w2,h1,h2,h3⟩:=conv_new w #[B x] [x] 1 rfl rfl
 exact ⟨w2,h1,⟨h2,rfl,Nat.le_refl _,(fun e=>by cases e),by decide⟩,h3⟩
theorem small_any (w:World):Calls Tryz.prog 12 #[] w fun e w'=>e = .returned (.agg #[.int .i64 2,.int .i64 2])∧Below w.heap.size w w':=by
 have k1:=Blk.new w 23 #[.int .i64 0,.int .i64 0]
 go_enter Tryz.func12,Tryz.ntmps12
 go_wp2_with (first
  | ((with_reducible show wpList _ _ _ (⟨some 0,.alloc _,_,_,_,_⟩::_) _ _);refine wpList_run rfl (.pointer (some ⟨w.heap.size,0,none⟩)) (w.alloc (.cells #[.int .i64 0,.int .i64 0] 23)) (by kernel_rfl) ?_;simp only [Act.put])
  | ((with_reducible show wpList _ _ _ (⟨some 1,.build _ _,_,_,_,_⟩::_) _ _);refine wpList_run0 rfl (.agg #[.int .i64 2,.int .i64 2]) (by kernel_rfl) ?_;simp only [Act.put])
  | ((with_reducible show wpList _ _ _ (⟨none,.store _ _ _,_,_,_,_⟩::_) _ _);refine wpList_store_blk rfl 23 (.tmp 0) (.tmp 1) rfl 2 sizeCf w.heap.size #[.int .i64 2,.int .i64 2] rfl rfl rfl (by intro v hv;simp at hv;rcases hv with rfl|rfl <;> rfl) 23 _ k1 rfl ?_;simp only [Act.put]))
 exact bodyPost_ret (results_cell_row rfl _ _ w.heap.size 23 #[.int .i64 2,.int .i64 2] (0,0) _ rfl (k1.setRow_ _) Tryz.underlying23 rfl (by kernel_rfl)) rfl ⟨rfl,below_setRow ((Below.refl _ _).alloc (Nat.le_refl _) _) (Nat.le_refl _) _⟩
theorem MdS.below {Z:Nat→Prop} {lo g N:Nat} {R:MdR} {m m':MoV} {W W':World} (h:MdS Z lo g R m' W W') (hM:Md Z lo g R m W) (hN:N≤lo):Below N W W' :=
 h.kb.below (fun b hb=>by have:=(hM.lt b hb).1;omega) (by have:=hM.size;omega)
def fcOf (E:Option Addr) (n c:Nat) (fs:Int) (fr:List UInt8):Array Value:=(Value.slice E n c :: .int .i64 0 :: .slice none 0 0 :: .int .i64 0 :: .bool true :: .int .i64 fs::fr.map B).toArray
theorem builtFc (E:Option Addr) (n c:Nat) (fs:Int) (fr:List UInt8) (h:fr.length=32):Tryz.prog.built 72 [(0,.slice E n c),(4,.bool true),(5,.agg (.int .i64 fs::fr.map B).toArray)]=some (fcOf E n c fs fr):=by
 obtain ⟨a0,a1,a2,a3,a4,a5,a6,a7,a8,a9,a10,a11,a12,a13,a14,a15,a16,a17,a18,a19,a20,a21,a22,a23,a24,a25,a26,a27,a28,a29,a30,a31,rfl⟩:=explode32 fr h
 kernel_rfl
theorem Fnd.of (E:Option Addr) (n c:Nat) (fs:Int) (fr:List UInt8) (h:fr.length=32):Fnd (fcOf E n c fs fr) E n c true fs fr:=by
 refine ⟨by simp [fcOf,h],rfl,rfl,fun j v hv=>?_,h⟩
 unfold fcOf
 rw [List.getElem?_toArray,show 5+j=j+5 by omega]
 exact hv
theorem build_opM {ρ:Operand→Value} {o:Oper} {W:World} {cs:Array Value} {x' y' z':Value} (T:TypeId) (x y z:Operand) (i j k:Nat) (ho:o.op = .build T #[(i,x),(j,y),(k,z)]) (hx:ρ x=x') (hy:ρ y=y') (hz:ρ z=z') (h:Tryz.prog.built T [(i,x'),(j,y'),(k,z')]=some cs):(execOp ρ o).run Tryz.prog W = .ok (.value (.agg cs)) W:=by
 have hm:(#[(i,x),(j,y),(k,z)]:Array (Nat × Operand)).map (fun (i,x)=>(i,ρ x))=#[(i,x'),(j,y'),(k,z')]:=by simp [hx,hy,hz]
 unfold execOp
 simp only [ho,Sem.run_bind,Sem.run_pure,hm,run_build W T _ cs h,Result.andThen_ok]
theorem strM_op {ρ:Operand→Value} {o:Oper} {W:World} {X:Nat→Prop} {A:Option Addr} {n c:Nat} {l:List UInt8} (x:Operand) (ho:o.op = .convert 41 9 x) (hx:ρ x = .slice A n c) (h:Sl W X A n c l) :
  (execOp ρ o).run Tryz.prog W = .ok (.value (.string (bstr l))) W:=conv_opM _ _ x ho hx (run_str h)
theorem es_lit2M (W:World) (A1 A2:Option Addr) (n1 k1 n2 k2:Nat) (l1 l2:List UInt8) (h1:Sl W (fun _=>True) A1 n1 k1 l1) (h2:Sl W (fun _=>True) A2 n2 k2 l2) :
  Es (W.alloc (.cells #[.slice A1 n1 k1,.slice A2 n2 k2] 41)) (fun _=>True) (some ⟨W.heap.size,0,none⟩) 2 2 [l1,l2]:=by
 refine ⟨⟨[.slice A1 n1 k1,.slice A2 n2 k2],SlV.lit (s:=1) W (fun _=>True) 41 _ rfl (by decide) trivial,fun i hi=>?_⟩,rfl⟩
 match i,hi with
 | 0,_=>have e:=h1.len;subst e;exact ⟨A1,k1,rfl,h1.alloc _⟩
 | 1,_=>have e:=h2.len;subst e;exact ⟨A2,k2,rfl,h2.alloc _⟩
theorem load_opM {P:Program} {ρ:Operand→Value} {o:Oper} {w:World} {v p:Value} (ty:TypeId) (x:Operand) (ho:o.op = .load ty x) (hx:ρ x=p) (h:(Instr.loadAt ty p).run P w = .ok v w):(execOp ρ o).run P w = .ok (.value v) w:=by
 unfold execOp
 simp only [ho,hx,Sem.run_bind,Sem.run_pure,h,Result.andThen_ok]
set_option maxHeartbeats 16000000 in
set_option maxRecDepth 100000 in
theorem known24_any (w:World) :
  Calls Tryz.prog 6 #[] w fun e w'=>e = .returned (.bool true)∧Below w.heap.size w w':=by
 obtain ⟨Z,hZ⟩:∃ Z:Nat→Prop,∀ b,¬ Z b:=⟨fun _=>False,fun _ h=>h⟩
 obtain ⟨root,hroot⟩:∃ x,kn3.nowR=x:=⟨_,rfl⟩
 have hr32:root.length=32:=by rw [← hroot];exact length_rootL _ (H32.lvs _)
 have hal:=kn_al root hroot
 have Hroot:=Lib.hid hroot
 have Hal:=Lib.hid hal
 clear hroot hal
 go_enter Tryz.func6,Tryz.ntmps6
 refine Code.wp_mono (fun _ _ _ h=>BP.out h) ?_
 go_wp2_with fail
 refine (small_any w).mono ?_
 rintro e w1 ⟨rfl,B1⟩
 go_wp2_with fail
 refine (mnew_any Z 2 2 w1 (fun b hb=>(hZ b hb).elim) (by decide)).mono ?_
 rintro e w2 ⟨g,R,rfl,h2,hb2⟩
 have B2:=B1.trans (hb2.mono B1.size)
 obtain ⟨lo,hlo⟩:∃ x,w1.heap.size=x:=⟨_,rfl⟩
 have hwl:w.heap.size≤lo:=by rw [← hlo];exact B1.size
 rw [hlo] at h2
 have h2:Md Z lo g R kn0 w2:=h2
 clear hlo hb2 B1
 obtain ⟨w3,hc3,hs3,hb3⟩:=litB w2 97
 have h3:=h2.step hb3
 have B3:=B2.trans (hb3.mono B2.size)
 have Hc3:=Lib.hid hc3
 clear hc3 h2 hb3 B2
 go_wp2_with (first
  | ((with_reducible show wpList _ _ _ (⟨some 23,.buildSlice _ _ _,_,_,_,_⟩::_) _ _);refine wpList_runG (by kernel_rfl) (.slice (some ⟨w2.heap.size,0,none⟩) 1 1) (w2.alloc (.cells #[B 97] 5)) (by kernel_rfl) ?_;simp only [Act.put])
  | ((with_reducible show wpList _ _ _ (⟨some 24,.convert _ _ _,_,_,_,_⟩::_) _ _);refine wpList_runG (by kernel_rfl) _ w3 (conv_opM 41 41 (.tmp 23) rfl rfl Hc3.out) ?_;simp only [Act.put]))
 refine (msubmit_any Z lo g R kn0 w3 h3 _ 1 1 [97] hs3.all (by decide) (by decide)).mono ?_
 rintro e w4 ⟨rfl,hS4⟩
 rw [kn_s1] at hS4 ⊢
 have B4:=B3.trans ((hS4.below h3 hwl).mono (Nat.le_refl _))
 obtain ⟨R4,h4,-⟩:=hS4.ex
 clear hS4 h3 B3 hs3
 obtain ⟨w5,hc5,hs5,hb5⟩:=litB w4 98
 have h5:=h4.step hb5
 have B5:=B4.trans (hb5.mono B4.size)
 have Hc5:=Lib.hid hc5
 clear hc5 h4 hb5 B4
 go_wp2_with (first
  | ((with_reducible show wpList _ _ _ (⟨some 30,.buildSlice _ _ _,_,_,_,_⟩::_) _ _);refine wpList_runG (by kernel_rfl) (.slice (some ⟨w4.heap.size,0,none⟩) 1 1) (w4.alloc (.cells #[B 98] 5)) (by kernel_rfl) ?_;simp only [Act.put])
  | ((with_reducible show wpList _ _ _ (⟨some 31,.convert _ _ _,_,_,_,_⟩::_) _ _);refine wpList_runG (by kernel_rfl) _ w5 (conv_opM 41 41 (.tmp 30) rfl rfl Hc5.out) ?_;simp only [Act.put]))
 refine (msubmit_any Z lo g R4 kn1 w5 h5 _ 1 1 [98] hs5.all (by decide) (by decide)).mono ?_
 rintro e w6 ⟨rfl,hS6⟩
 rw [kn_s2] at hS6 ⊢
 have B6:=B5.trans ((hS6.below h5 hwl).mono (Nat.le_refl _))
 obtain ⟨R6,h6,-⟩:=hS6.ex
 clear hS6 h5 B5 hs5
 obtain ⟨w7,hc7,hs7,hb7⟩:=litB w6 99
 have h7:=h6.step hb7
 have B7:=B6.trans (hb7.mono B6.size)
 have Hc7:=Lib.hid hc7
 clear hc7 h6 hb7 B6
 go_wp2_with (first
  | ((with_reducible show wpList _ _ _ (⟨some 37,.buildSlice _ _ _,_,_,_,_⟩::_) _ _);refine wpList_runG (by kernel_rfl) (.slice (some ⟨w6.heap.size,0,none⟩) 1 1) (w6.alloc (.cells #[B 99] 5)) (by kernel_rfl) ?_;simp only [Act.put])
  | ((with_reducible show wpList _ _ _ (⟨some 38,.convert _ _ _,_,_,_,_⟩::_) _ _);refine wpList_runG (by kernel_rfl) _ w7 (conv_opM 41 41 (.tmp 37) rfl rfl Hc7.out) ?_;simp only [Act.put]))
 refine (msubmit_any Z lo g R6 kn2 w7 h7 _ 1 1 [99] hs7.all (by decide) (by decide)).mono ?_
 rintro e w8 ⟨rfl,hS8⟩
 rw [kn_s3] at hS8 ⊢
 have B8:=B7.trans ((hS8.below h7 hwl).mono (Nat.le_refl _))
 obtain ⟨R8,h8,-⟩:=hS8.ex
 clear hS8 h7 B7 hs7
 go_wp2_with fail
 refine (mflush_any Z lo g R8 kn2 w8 h8 rfl (by decide)).mono ?_
 rintro e w9 ⟨rfl,hS9⟩
 rw [kn_fl] at hS9
 have hl1:((kn2.ents.length:Nat):Int)=0:=rfl
 have hl2:((kn2.queue.length:Nat):Int)=2:=rfl
 rw [hl1,hl2]
 clear hl1 hl2
 have B9:=B8.trans ((hS9.below h8 hwl).mono (Nat.le_refl _))
 obtain ⟨R9,h9,-⟩:=hS9.ex
 clear hS9 h8 B8
 go_wp2_with fail
 refine (mpublish_any Z lo g R9 kn3 w9 h9 rfl).mono ?_
 rintro e w10 ⟨rfl,hS10⟩
 rw [Hroot.out]
 have B10:=B9.trans ((hS10.below h9 hwl).mono (Nat.le_refl _))
 obtain ⟨R10,h10,-⟩:=hS10.ex
 have h10:Md Z lo g R10 kn4 w10:=h10
 clear hS10 h9 B9
 go_wp2_with ((with_reducible show wpList _ _ _ (⟨some 6,.alloc _,_,_,_,_⟩::_) _ _);refine wpList_pnv (n:=2) (l:=root) (.tmp 6) (.tmp 51) rfl rfl rfl rfl rfl rfl hr32 ?_;intro w11 p11 hb11;simp only [Act.put])
 have h11:=h10.step hb11
 have B11:=B10.trans (hb11.mono B10.size)
 refine (mread_any Z lo g R10 kn4 w11 h11 1 (by decide)).mono ?_
 rintro e w12 ⟨A12,c12,rfl,hs12,hb12⟩
 have h12:=h11.step hb12
 have p12:=p11.step hb12
 have B12:=B11.trans (hb12.mono B11.size)
 have hg1:kn4.ents.getD 1 []=[98]:=rfl
 rw [hg1] at hs12 ⊢
 have hr12:=hs12.room
 have hm12:=hs12.max
 unfold maxLen at hm12
 have c60:=p12.size
 clear h10 h11 B10 B11 hb11 hb12 p11
 obtain ⟨w13,hc13,hs13,hb13⟩:=litB w12 97
 obtain ⟨w14,hc14,hs14,hb14⟩:=litB w13 98
 have hs13':=hs13.step hb14
 have hs12':=(hs12.step hb13).step hb14
 have h14:=(h12.step hb13).step hb14
 have p14:=(p12.step hb13).step hb14
 have B14:=(B12.trans (hb13.mono B12.size)).trans (hb14.mono (Nat.le_trans B12.size hb13.size))
 have Hc13:=Lib.hid hc13
 have Hc14:=Lib.hid hc14
 have hst:∀ (ρ:Operand→Value) (o:Oper) (x:Operand),o.op = .convert 41 9 x→ρ x = .slice A12 1 c12→(execOp ρ o).run Tryz.prog w12 = .ok (.value (.string ⟨#[98]⟩)) w12:=fun _ _ x ho hx=>strM_op x ho hx hs12
 have Hst:=Lib.hid hst
 have Hs13':=Lib.hid hs13'
 have Hs14:=Lib.hid hs14
 have H14:=Lib.hid h14
 have P14:=Lib.hid p14
 obtain ⟨w15,hw15⟩:∃ x,w14.alloc (.cells #[.slice (some ⟨w12.heap.size,0,none⟩) 1 1,.slice (some ⟨w13.heap.size,0,none⟩) 1 1] 41)=x:=⟨_,rfl⟩
 have hld:(Instr.loadAt 55 (.pointer (some ⟨w10.heap.size,0,none⟩))).run Tryz.prog w15 = .ok (.agg (.int .i64 2::root.map B).toArray) w15:=by
  rw [← hw15]
  exact (p14.step ((Below.refl _ _).alloc (Nat.le_refl _) _)).load
 have Hld:=Lib.hid hld
 have Hw15:=Lib.hid hw15
 clear hld hst hc13 hc14 hs12 hs12' hs13 hs13' hs14 h14 p14 p12 hg1 h12 hw15 hb13 hb14
 go_wp2_with (first
  | ((with_reducible show wpList _ _ _ (⟨some 79,.convert _ _ _,_,_,_,_⟩::_) _ _);refine wpList_runG (by kernel_rfl) (.string ⟨#[98]⟩) _ (Hst.out _ _ (.tmp 78) rfl rfl) ?_;simp only [Act.put,List.setIfInBounds_toArray,List.set_cons_succ,List.set_cons_zero])
  | ((with_reducible show wpList _ _ _ (⟨some 80,.binOp _ _ _ _ _,_,_,_,_⟩::_) _ _);refine wpList_runG (by kernel_rfl) (.bool true) _ (by kernel_rfl) ?_;simp only [Act.put,List.setIfInBounds_toArray,List.set_cons_succ,List.set_cons_zero])
  | ((with_reducible show wpList _ _ _ (⟨some 88,.buildSlice _ _ _,_,_,_,_⟩::_) _ _);refine wpList_runG (by kernel_rfl) (.slice (some ⟨w12.heap.size,0,none⟩) 1 1) (w12.alloc (.cells #[B 97] 5)) (by kernel_rfl) ?_;simp only [Act.put,List.setIfInBounds_toArray,List.set_cons_succ,List.set_cons_zero])
  | ((with_reducible show wpList _ _ _ (⟨some 89,.convert _ _ _,_,_,_,_⟩::_) _ _);refine wpList_runG (by kernel_rfl) _ w13 (conv_opM 41 41 (.tmp 88) rfl rfl Hc13.out) ?_;simp only [Act.put,List.setIfInBounds_toArray,List.set_cons_succ,List.set_cons_zero])
  | ((with_reducible show wpList _ _ _ (⟨some 90,.buildSlice _ _ _,_,_,_,_⟩::_) _ _);refine wpList_runG (by kernel_rfl) (.slice (some ⟨w13.heap.size,0,none⟩) 1 1) (w13.alloc (.cells #[B 98] 5)) (by kernel_rfl) ?_;simp only [Act.put,List.setIfInBounds_toArray,List.set_cons_succ,List.set_cons_zero])
  | ((with_reducible show wpList _ _ _ (⟨some 91,.convert _ _ _,_,_,_,_⟩::_) _ _);refine wpList_runG (by kernel_rfl) _ w14 (conv_opM 41 41 (.tmp 90) rfl rfl Hc14.out) ?_;simp only [Act.put,List.setIfInBounds_toArray,List.set_cons_succ,List.set_cons_zero])
  | ((with_reducible show wpList _ _ _ (⟨some 92,.buildSlice _ _ _,_,_,_,_⟩::_) _ _);refine wpList_runG (by kernel_rfl) (.slice (some ⟨w14.heap.size,0,none⟩) 2 2) (w14.alloc (.cells #[.slice (some ⟨w12.heap.size,0,none⟩) 1 1,.slice (some ⟨w13.heap.size,0,none⟩) 1 1] 41)) (by kernel_rfl) ?_;rw [Hw15.out];simp only [Act.put,List.setIfInBounds_toArray,List.set_cons_succ,List.set_cons_zero])
  | ((with_reducible show wpList _ _ _ (⟨some 93,.load _ _,_,_,_,_⟩::_) _ _);refine wpList_runG (by kernel_rfl) _ _ (load_opM (p := .pointer (some ⟨w10.heap.size,0,none⟩)) 55 (.tmp 6) rfl rfl Hld.out) ?_;simp only [Act.put,List.setIfInBounds_toArray,List.set_cons_succ,List.set_cons_zero])
  | ((with_reducible show wpList _ _ _ (⟨some 94,.build _ _,_,_,_,_⟩::_) _ _);refine wpList_runG (by kernel_rfl) _ _ (build_opM 72 (.tmp 92) (.const (.bool true)) (.tmp 93) 0 4 5 rfl rfl rfl rfl (builtFc (some ⟨w14.heap.size,0,none⟩) 2 2 2 root hr32)) ?_;simp only [Act.put,List.setIfInBounds_toArray,List.set_cons_succ,List.set_cons_zero]))
 have h15:Md Z lo g R10 kn4 w15:=by rw [← Hw15.out];exact H14.out.step ((Below.refl _ _).alloc (Nat.le_refl _) _)
 have he15:Es w15 (fun _=>True) (some ⟨w14.heap.size,0,none⟩) 2 2 [[97],[98]]:=by rw [← Hw15.out];exact es_lit2M w14 _ _ 1 1 1 1 [97] [98] Hs13'.out.all Hs14.out.all
 have B15:Below w.heap.size w w15:=by rw [← Hw15.out];exact B14.alloc B14.size _
 refine (mallows_any Z lo g R10 kn4 w15 h15 _ (some ⟨w14.heap.size,0,none⟩) 2 2 [[97],[98]] true 2 root (Fnd.of _ 2 2 2 root hr32) he15 (by decide)).mono ?_
 rintro e w16 ⟨rfl,b16⟩
 rw [Hal.out]
 have B16:=B15.trans (b16.mono B15.size)
 clear h15 he15 B15 b16 B14
 go_wp2_with fail
 refine ⟨?_⟩
 refine bodyPost_ret (results_tmp rfl _ _ _) rfl ?_
 exact ⟨rfl,B16⟩
end Go.Proofs.YtdjhoankkddomaaGreat
namespace Go.Proofs.YtdjhoankkddomaaGreat
open Go Go.RowKit Go.Shelf
attribute [local go_sem] Oper.semAt_some
section
variable {w W W':World} {v:Value} {fc:Array Value} {g:Nat}
end
end Go.Proofs.YtdjhoankkddomaaGreat
namespace Go.Proofs.YtdjhoankkddomaaGreat
open Go Go.RowKit
attribute [local go_sem] Oper.semAt_some
def MoV.lose (m:MoV):MoV:=if m.queue=[] then m else { m with begun:=m.queue,only:=true }
def MdR.lose (R:MdR):MdR:={ R with b:=R.q }
theorem Md.lose {W W':World} {Z:Nat→Prop} {lo g:Nat} {R:MdR} {m:MoV} (h:Md Z lo g R m W) (hg:KB (fun b=>b=g) W W') (hb:Blk W' g 57 (mdArr R.lose { m with begun:=m.queue,only:=true })):Md Z lo g R.lose { m with begun:=m.queue,only:=true } W':=by
 obtain ⟨Ar,cr,hre,hrs⟩:=h.roots
 obtain ⟨Aq,cq,hqe,hqs⟩:=h.queue.es2 (X':=fun b=>¬ (b=g∨Z b)) (Y:=fun b=>¬ MdN Z g R.lose b) (fun b hv hm=>hm.elim (fun e=>by subst e;exact own_ty h.queue.ex.choose_spec.1 h.blk (by decide) hv) (h.zno b (.inr (.inr (.inr hv))))) (fun b _ hx hm=>hx hm)
 refine ⟨hb,h.lastL,h.ptL,?_,?_,⟨Ar,cr,hre,?_⟩,?_,⟨Aq,cq,hqe,?_⟩,h.eq,?_,h.low,h.big,h.bigq,fun b hz=>Nat.lt_of_lt_of_le (h.zlt b hz) hg.size,h.zno⟩
 ·exact h.ents.kb hg (fun b hv e=>by subst e;exact own_ty h.ents.ex.choose_spec.1 h.blk (by decide) hv) (fun b _ hx e=>hx (.inl (.inl e)))
 ·exact hg.own h.hashes fun b hv e=>by subst e;exact own_ty h.hashes h.blk (by decide) hv
 ·exact hrs.kb hg fun b _ hx e=>hx (.inl (.inl e))
 ·exact h.queue.kb hg (fun b hv e=>by subst e;exact own_ty h.queue.ex.choose_spec.1 h.blk (by decide) hv) (fun b _ hx e=>hx (.inl (.inl e)))
 ·exact hqs.kb hg (fun b _ hx e=>hx (.inl e)) (fun b _ hx e=>hx (.inl (.inl e)))
 ·intro ho;cases ho
def failT:Array Value:=#[.nilFunc,.func (.func 56) #[] #[],.func (.func 57) #[] #[],.func (.func 58) #[] #[]]
theorem built_failT:Tryz.prog.built 113 [(1,.func (.func 56) #[] #[]),(2,.func (.func 57) #[] #[]),(3,.func (.func 58) #[] #[])]=some failT:=by kernel_rfl
theorem build_failT {ρ:Operand→Value} {o:Oper} (ho:o.op = .build 113 #[(1,.func 56),(2,.func 57),(3,.func 58)]) (hx:ρ (.func 56) = .func (.func 56) #[] #[]) (hy:ρ (.func 57) = .func (.func 57) #[] #[]) (hz:ρ (.func 58) = .func (.func 58) #[] #[]) (W:World) :
  (execOp ρ o).run Tryz.prog W = .ok (.value (.agg failT)) W:=by
 have hm:(#[(1,.func 56),(2,.func 57),(3,.func 58)]:Array (Nat × Operand)).map (fun (i,x)=>(i,ρ x))=#[(1,.func (.func 56) #[] #[]),(2,.func (.func 57) #[] #[]),(3,.func (.func 58) #[] #[])]:=by simp [hx,hy,hz]
 unfold execOp
 simp only [ho,Sem.run_bind,Sem.run_pure,hm,run_build W _ _ _ built_failT,Result.andThen_ok]
theorem sizeFT:∀ w:World,(sizeOf 113).run Tryz.prog w = .ok 4 w:=fun _=>by kernel_rfl
theorem oneFT:∀ v ∈ failT.toList,v.oneCell'=true:=by intro v hv;simp [failT] at hv;rcases hv with rfl|rfl|rfl|rfl <;> rfl
end Go.Proofs.YtdjhoankkddomaaGreat
namespace Go.Proofs.YtdjhoankkddomaaGreat
theorem allows_short (m:MoV) (fe:List (List UInt8)) (fh:Bool) (fs:Int) (fr:List UInt8) (h:fe.length<m.ents.length):m.allows fe fh fs fr=false:=by
 unfold MoV.allows
 rw [if_pos h]
theorem allows_long (m:MoV) (fe:List (List UInt8)) (fh:Bool) (fs:Int) (fr:List UInt8) (h:(m.ents++m.begun).length<fe.length):m.allows fe fh fs fr=false:=by
 unfold MoV.allows
 rw [if_neg (by rw [List.length_append] at h;omega),if_pos h]
end Go.Proofs.YtdjhoankkddomaaGreat
namespace Go.Proofs.YtdjhoankkddomaaGreat
open Go Go.RowKit
structure EsI (W:World) (X:Nat→Prop) (A:Option Addr) (n c:Nat) (ls:List (List UInt8)):Prop where
 ex:∃ vs,SlV W (fun _=>True) A n c 1 vs∧∀ i (h:i<ls.length),∃ Ai ci,vs[i]?=some (.slice Ai (ls[i]).length ci)∧Sl W X Ai (ls[i]).length ci ls[i]
 len:ls.length=n
section
variable {W W':World} {lo:Nat} {v:Value} {ls ms:List (List UInt8)} {X Y:Nat→Prop} {A:Option Addr} {n c:Nat}
theorem Es.i (h:Es W X A n c ls):EsI W X A n c ls :=
 let ⟨vs,h1,h2⟩:=h.ex
 ⟨⟨vs,h1.all,h2⟩,h.len⟩
theorem EsI.es (h:EsI W X A n c ls):Es W (fun _=>True) A n c ls :=
 let ⟨vs,h1,h2⟩:=h.ex
 ⟨⟨vs,h1,fun i hi=>let ⟨Ai,ci,h3,h4⟩:=h2 i hi;⟨Ai,ci,h3,h4.all⟩⟩,h.len⟩
theorem EsI.weak (h:EsI W X A n c ls) (hX:∀ b,b<W.heap.size→X b→Y b):EsI W Y A n c ls :=
 let ⟨vs,h1,h2⟩:=h.ex
 ⟨⟨vs,h1,fun i hi=>let ⟨Ai,ci,h3,h4⟩:=h2 i hi;⟨Ai,ci,h3,h4.weak hX⟩⟩,h.len⟩
theorem EsI.step (h:EsI W X A n c ls) (hb:Below W.heap.size W W'):EsI W' X A n c ls :=
 let ⟨vs,h1,h2⟩:=h.ex
 ⟨⟨vs,h1.step hb,fun i hi=>let ⟨Ai,ci,h3,h4⟩:=h2 i hi;⟨Ai,ci,h3,h4.step hb⟩⟩,h.len⟩
theorem EsI.lt (h:EsI W X A n c ls):EsI W (fun b=>X b∧b<W.heap.size) A n c ls :=
 h.weak fun _ hb hx=>⟨hx,hb⟩
theorem EsO.i (h:EsO W lo v ls X):∃ A c,v = .slice A ls.length c∧EsI W X A ls.length c ls:=by
 obtain ⟨vs,h1,h2⟩:=h.ex
 obtain ⟨A,c,rfl,hs⟩:=owns_slv h1
 exact ⟨A,c,rfl,⟨vs,hs.all,h2⟩,rfl⟩
theorem EsO.apps (h:EsO W lo v ls X) (hlo:lo≤W.heap.size) (he:EsI W X A n c ms) (hn:ls.length+n≤1000000000) (hX:∀ b,b<W.heap.size→X b→some b≠v.ownBlock) :
  ∃ v' W',(Builtin.append_ #[48,48] 48 #[v,.slice A n c]).run Tryz.prog W = .ok v' W'∧EsO W' lo v' (ls++ms) X∧W.grownBy W' v.ownBlock∧(v'.ownBlock=v.ownBlock∨∃ k,v'.ownBlock=some k∧W.heap.size≤k):=by
 obtain ⟨vs,h1,h2⟩:=h.ex
 obtain ⟨us,k1,k2⟩:=he.ex
 have hml:=he.len
 obtain ⟨v',W',hr,ho,hg,hv⟩:=append_slv (ty:=48) Tryz.underlying48 infoSl rfl (by decide) h1 k1 (Es.one (X:=fun _=>True) hml k1 fun i hi=>let ⟨Ai,ci,h3,h4⟩:=k2 i hi;⟨Ai,ci,h3,h4.all⟩) (by unfold maxLen;omega) (by omega) hlo
 refine ⟨v',W',hr,⟨vs++us,by rw [List.length_append,hml];exact ho,fun i hi=>?_⟩,hg,hv⟩
 have hvl:vs.length=ls.length:=by have:=h1.1;omega
 by_cases hil:i<ls.length
 ·obtain ⟨Ai,ci,h3,h4⟩:=h2 i hil
  rw [List.getElem_append_left hil]
  exact ⟨Ai,ci,by rw [List.getElem?_append_left (by omega)];exact h3,h4.grown hg hX⟩
 ·rw [List.length_append] at hi
  obtain ⟨Ai,ci,h3,h4⟩:=k2 (i - ls.length) (by omega)
  rw [List.getElem_append_right (by omega)]
  exact ⟨Ai,ci,by rw [List.getElem?_append_right (by omega),hvl];exact h3,h4.grown hg hX⟩
theorem grown_to_below {N:Nat} {row:Option Nat} (h:W.grownBy W' row) (hr:∀ b,row=some b→N≤b) (hN:N≤W.heap.size):Below N W W' :=
 (KB.of_grown (M:=fun b=>row=some b) h fun _ e=>e).below hr hN
end
end Go.Proofs.YtdjhoankkddomaaGreat
namespace Go.Proofs.YtdjhoankkddomaaGreat
open Go Go.RowKit Go.Shelf
attribute [local go_sem] Oper.semAt_some
def fcP (E:Option Addr) (n c:Nat) (fh:Bool) (fs:Int) (fr:List UInt8):Array Value:=(Value.slice E n c :: .int .i64 0 :: .slice none 0 0 :: .int .i64 0 :: .bool fh :: .int .i64 fs::fr.map B).toArray
theorem fcP_size (E:Option Addr) (n c:Nat) (fh:Bool) (fs:Int) (fr:List UInt8) (h:fr.length=32):(fcP E n c fh fs fr).size=38:=by simp [fcP,h]
theorem Fnd.ofP (E:Option Addr) (n c:Nat) (fh:Bool) (fs:Int) (fr:List UInt8) (h:fr.length=32):Fnd (fcP E n c fh fs fr) E n c fh fs fr:=by
 refine ⟨fcP_size E n c fh fs fr h,rfl,rfl,fun j v hv=>?_,h⟩
 unfold fcP
 rw [List.getElem?_toArray,show 5+j=j+5 by omega]
 exact hv
theorem one_fcP (E:Option Addr) (n c:Nat) (fh:Bool) (fs:Int) (fr:List UInt8):∀ v ∈ (fcP E n c fh fs fr).toList,v.oneCell'=true:=by
 intro v hv
 simp only [fcP,List.mem_cons] at hv
 rcases hv with rfl|rfl|rfl|rfl|rfl|hv
 ·rfl
 ·rfl
 ·rfl
 ·rfl
 ·rfl
 ·exact oneCell_pt fs fr v (by simpa using hv)
theorem rem_natL (z:Int) (n:Nat) (hn:0<n):∃ k:Nat,(z.tmod (n:Int)+(n:Int)).tmod (n:Int)=(k:Int)∧k<n:=by
 have h2:=Int.lt_tmod_of_pos z (show (0:Int)<(n:Int) by omega)
 rw [Int.tmod_eq_emod_of_nonneg (a:=z.tmod (n:Int)+(n:Int)) (by omega)]
 have h0:=Int.emod_nonneg (z.tmod (n:Int)+(n:Int)) (show (n:Int)≠0 by omega)
 have h1:=Int.emod_lt_of_pos (z.tmod (n:Int)+(n:Int)) (show (0:Int)<(n:Int) by omega)
 exact ⟨((z.tmod (n:Int)+(n:Int)) % (n:Int)).toNat,by omega,by omega⟩
theorem app0 (X:Nat→Prop) (N:Nat) (_hX:∀ b,X b→b<N) (A:Option Addr) (n c:Nat) (ls:List (List UInt8)) (W:World) (h:EsI W X A n c ls) (hN:N≤W.heap.size) (hn:n≤1000000) :
  ∃ v W',(Builtin.append_ #[48,48] 48 #[.slice none 0 0,.slice A n c]).run Tryz.prog W = .ok v W'∧EsO W' N v ls X∧W.grownBy W' none∧Below W.heap.size W W'∧∀ b,v.ownBlock=some b→W.heap.size≤b:=by
 obtain ⟨v,W',h1,h2,h3,h4⟩:=(EsO.nil (W:=W) (lo:=N) (X:=X)).apps hN h (by simp;omega) (fun _ _ _ e=>by cases e)
 refine ⟨v,W',h1,by simpa using h2,h3,grown_to_below h3 (fun _ e=>by cases e) (Nat.le_refl _),fun b hb=>?_⟩
 rcases h4 with h4|⟨k,h4,hk⟩
 ·rw [h4] at hb;cases hb
 ·rw [h4] at hb;cases hb;exact hk
theorem app1 (X:Nat→Prop) (N:Nat) (hX:∀ b,X b→b<N) (v0:Value) (A:Option Addr) (n c:Nat) (ls ms:List (List UInt8)) (W:World) (h0:EsO W N v0 ls X) (h:EsI W X A n c ms) (hN:N≤W.heap.size) (hn:ls.length+n≤1000000) :
  ∃ v W',(Builtin.append_ #[48,48] 48 #[v0,.slice A n c]).run Tryz.prog W = .ok v W'∧EsO W' N v (ls++ms) X∧W.grownBy W' v0.ownBlock∧Below N W W':=by
 obtain ⟨v,W',h1,h2,h3,h4⟩:=h0.apps hN h (by omega) (fun b _ hb e=>by have:=(h0.lt b e.symm).1;have:=hX b hb;omega)
 exact ⟨v,W',h1,h2,h3,grown_to_below h3 (fun b e=>(h0.lt b e).1) hN⟩
end Go.Proofs.YtdjhoankkddomaaGreat
namespace Go.Proofs.YtdjhoankkddomaaGreat
open Go Go.RowKit Go.Shelf
attribute [local go_sem] Oper.semAt_some
theorem run_neq_strG (l m:List UInt8) (W:World):(binOp .neq 9 (.string (bstr l)) (.string (bstr m))).run Tryz.prog W = .ok (.bool (l != m)) W:=by
 have:∀ l:List UInt8,(bstr l).toList=l:=fun l=>by rw [ByteArray.toList_eq];rfl
 rw [binOp_string_neq,Sem.run_pure,this,this];rfl
theorem run_neqstr_fG {ρ:Operand→Value} {o:Oper} (x y:Operand) (ty:TypeId) (l:List UInt8) (ho:o.op = .binOp .neq 9 x y ty) (hx:ρ x = .string (bstr l)) (hy:ρ y = .string (bstr l)) (W:World) :
  (execOp ρ o).run Tryz.prog W = .ok (.value (.bool false)) W:=by
 unfold execOp
 simp only [ho,hx,hy,eqGuard_at_string,Sem.run_bind,Sem.run_pure,run_neq_strG,Result.andThen_ok,bne_self_eq_false]
theorem Md.kbZ {W W':World} {Z Z' M:Nat→Prop} {lo g:Nat} {R:MdR} {m:MoV} (h:Md Z lo g R m W) (hk:KB M W W') (hM:∀ b,b<W.heap.size→M b→Z b) (hz:∀ b,Z' b→b<W'.heap.size) (hzz:∀ b,Z' b→Z b∨W.heap.size≤b):Md Z' lo g R m W':=by
 have hlt:∀ b,b<W.heap.size→Z' b→Z b:=fun b hl hz'=>(hzz b hz').elim id fun h'=>absurd hl (by omega)
 have hN:∀ b,b<W.heap.size→MdW g R b→¬ M b:=fun b hb hw hm=>h.zno b hw (hM b hb hm)
 have hX:∀ b,¬ MdN Z g R b∧b<W.heap.size→¬ M b:=fun b hx hm=>hx.1 (.inr (hM b hx.2 hm))
 refine ⟨hk.blk h.blk (hN g h.blk.lt (.inl rfl)),h.lastL,h.ptL,?_,hk.own h.hashes fun b hb=>hN b (h.hashes.lt b hb).2 (.inr (.inr (.inl hb))),?_,?_,?_,h.eq,h.fresh,h.low,h.big,h.bigq,hz,fun b hw hz'=>h.zno b hw (hlt b (h.lt b hw).2 hz')⟩
 ·exact ((h.ents.weak (Y:=fun b=>¬ MdN Z g R b∧b<W.heap.size) fun b hl hx=>⟨hx,hl⟩).kb hk (fun b hb=>hN b (h.ents.lt b hb).2 (.inr (.inl hb))) fun b _ hx=>hX b hx).weak fun b _ hx hm=>hx.1 (hm.imp id (hlt b hx.2))
 ·exact let ⟨A,c,h1,h2⟩:=h.roots;⟨A,c,h1,((h2.weak (Y:=fun b=>¬ MdN Z g R b∧b<W.heap.size) fun b hl hx=>⟨hx,hl⟩).kb hk fun b _ hx=>hX b hx).weak fun b _ hx hm=>hx.1 (hm.imp id (hlt b hx.2))⟩
 ·exact ((h.queue.weak (Y:=fun b=>¬ MdN Z g R b∧b<W.heap.size) fun b hl hx=>⟨hx,hl⟩).kb hk (fun b hb=>hN b (h.queue.lt b hb).2 (.inr (.inr (.inr hb)))) fun b _ hx=>hX b hx).weak fun b _ hx hm=>hx.1 (hm.imp id (hlt b hx.2))
 ·exact let ⟨A,c,h1,h2⟩:=h.begun;⟨A,c,h1,((h2.weak (X':=fun b=>¬ (b=g∨Z b)∧b<W.heap.size) (Y':=fun b=>¬ MdN Z g R b∧b<W.heap.size) (fun b hl hx=>⟨hx,hl⟩) (fun b hl hx=>⟨hx,hl⟩)).kb hk (fun b _ hx hm=>hx.1 (.inr (hM b hx.2 hm))) (fun b _ hx hm=>hx.1 (.inr (hM b hx.2 hm)))).weak (fun b _ hx hm=>hx.1 (hm.imp id (hlt b hx.2))) (fun b _ hx hm=>hx.1 (hm.imp id (hlt b hx.2)))⟩
section
variable {w W W':World} {base g13:Nat} {L Wt Rt:Value} {k:Nat} {fs:Int} {fr:List UInt8} {ll wl:List (List UInt8)} {g:Nat} {R:MdR} {m m':MoV}
end
end Go.Proofs.YtdjhoankkddomaaGreat
namespace Go.Proofs.YtdjhoankkddomaaGreat
open Go Go.RowKit
def leavesL (ls:List (List UInt8)):List (List UInt8):=ls.map hLeaf
set_option maxHeartbeats 1000000 in
set_option maxRecDepth 100000 in
theorem rleaves_any (ls:List (List UInt8)) (A:Option Addr) (n c:Nat) (w:World) (vs:List Value) (h:SlS w A n c vs ls) (hm:n+ls.flatten.length≤1073741824) :
  Calls Tryz.prog 67 #[.slice A n c] w fun e w'=>∃ v,e = .returned v∧w'.ownsRow w.heap.size 53 32 v n (hcells (leavesL ls))∧Below w.heap.size w w':=by
 have Hh:=Lib.hid h
 have hroom:=h.out.room
 have hmax:=h.out.max
 unfold maxLen at hmax
 clear h
 go_enter Tryz.func67,Tryz.ntmps67
 go_wp2_with fail
 go_loopw [3,4] (fun v i wr=>∃ k:Nat,k≤n∧i = .int .i64 k∧wr.ownsRow w.heap.size 53 32 v k (hcells (leavesL (ls.take k)))∧Below w.heap.size w wr) (fun _ i _=>n - (intOf i).toNat)
 case atStart=>exact ⟨0,by omega,rfl,World.ownsRow_nil _ _ _ _,Below.refl _ _⟩
 case round =>
  obtain ⟨k,hk,rfl,ho,hB⟩:=hrel
  by_cases hlt:k<n
  ·have hkl:k<ls.length:=by rw [Hh.out.len];exact hlt
   obtain ⟨Ai,ci,hv,hs⟩:=Hh.out.ins k hkl
   obtain ⟨b0,o0,hA,hb0,_,hcell⟩:=Hh.out.out.at_ (by omega) (by decide)
   subst hA
   have hce:wr.cell? ⟨b0,o0+k,none⟩=some (.slice Ai (ls[k]).length ci):=by
    rw [hB.cell (p:=⟨b0,o0+k,none⟩) hb0];exact hcell k _ hv
   have hs2:=(hs.below hB (fun _ _ h=>h)).all
   have hfl3:=flatten_take_le ls (k+1)
   rw [flatten_take_succ ls k hkl,List.length_append] at hfl3
   have hleaf:=hrleaf_any (ls[k]) Ai (ls[k]).length ci wr hs2 (by omega)
   obtain ⟨x,hx⟩:∃ x,hLeaf (ls[k])=x:=⟨_,rfl⟩
   have hxl:x.length=32:=by rw [← hx];exact length_hLeaf _
   rw [hx] at hleaf
   have hsn:hcells (leavesL (ls.take (k+1)))=hcells (leavesL (ls.take k))++hcells [x]:=by
    rw [List.take_succ_eq_append_getElem hkl,leavesL,List.map_append,hcells_append,← hx];rfl
   have Hx:=Lib.hid hx
   have Hxl:=Lib.hid hxl
   have Hsn:=Lib.hid hsn
   clear hx hxl hsn hv hs hs2
   generalize (ls[k]).length=m at *
   go_wp2_with fail
   refine hleaf.mono ?_
   rintro e w2 ⟨rfl,hb2⟩
   have h32:H32 [x]:=by intro h hh;rw [List.mem_singleton.1 hh];exact Hxl.out
   have hbA:Below w2.heap.size w2 (w2.alloc (.cells (hcells [x]).toArray 53)):=(Below.refl _ _).alloc (Nat.le_refl _) _
   have hB2:=(hB.trans (hb2.mono hB.size)).trans (hbA.mono (Nat.le_trans hB.size hb2.size))
   have ho2:=owns_step (owns_step ho hb2) hbA
   obtain ⟨v3,w3,hr3,ho3,hg3,-⟩:=append_slv (ty:=49) Tryz.underlying49 info26z (by simp [Value.cells]) (by decide) ho2 (Hs.lit w2 [x] h32 (by simp) 1 rfl).sl (oneB _) (by unfold maxLen;omega) (by omega) hB2.size
   rw [← Hsn.out] at ho3
   have hB3:=hB2.grown hg3 hB2.size (fun k hk=>(ho2.lt k hk).1)
   have Hr3:=Lib.hid hr3
   clear hr3 hg3
   go_wp2_with (first
    | ((with_reducible show wpList _ _ _ (⟨some 17,.buildSlice _ _ _,_,_,_,_⟩::_) _ _);refine wpList_run rfl _ _ (run_lit_op [x] h32 (by simp) (by simp) 1 _ rfl (by simp [Act.eval]) rfl _) ?_;simp only [Act.put])
    | ((with_reducible show wpList _ _ _ (⟨some 18,.call _,_,_,_,_⟩::_) _ _);refine wpList_run rfl v3 w3 (run_append_op (.tmp 11) (.tmp 17) 49 rfl _ _ rfl rfl Hr3.out) ?_;simp only [Act.put]))
   go_roundw
   case rel=>exact ⟨k+1,by omega,by go_num,ho3,hB3⟩
   case measure=>simp [intOf];omega
  ·have hkn:k=n:=by omega
   subst hkn
   rw [List.take_of_length_le (by rw [Hh.out.len];exact Nat.le_refl _)] at ho
   go_wp2_with fail
   go_ret
   exact ⟨_,rfl,ho,hB⟩
end Go.Proofs.YtdjhoankkddomaaGreat
