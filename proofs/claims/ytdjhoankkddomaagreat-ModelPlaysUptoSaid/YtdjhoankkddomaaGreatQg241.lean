import Derived.Test.YtdjhoankkddomaaGreatQg240
import Derived.Test.YtdjhoankkddomaaGreatQg215
import Derived.Test.YtdjhoankkddomaaGreatQg209
import Derived.Test.YtdjhoankkddomaaGreatQg239
import Derived.Test.YtdjhoankkddomaaGreatQg210
import Derived.Test.YtdjhoankkddomaaGreatQg212
import Derived.Test.YtdjhoankkddomaaGreatQg211
import Derived.Test.YtdjhoankkddomaaGreatQg204
namespace Go.Proofs.YtdjhoankkddomaaGreat
open Go Go.RowKit Go.Shelf
attribute [local go_sem] Oper.semAt_some
theorem i64_or_nat (a b:Nat) (ha:a<9223372036854775808) (hb:b<9223372036854775808):bits .or .i64 (a:Int) (b:Int)=((a ||| b:Nat):Int):=by
 have h1:a ||| b<2 ^ 63:=Nat.or_lt_two_pow (by omega) (by omega)
 show IntKind.i64.wrap ((BitVec.ofInt 64 (a:Int) ||| BitVec.ofInt 64 (b:Int)).toNat:Int)=_
 have e1:(BitVec.ofInt 64 (a:Int)).toNat=a:=by rw [BitVec.toNat_ofInt];omega
 have e2:(BitVec.ofInt 64 (b:Int)).toNat=b:=by rw [BitVec.toNat_ofInt];omega
 rw [BitVec.toNat_or,e1,e2,IntKind.wrap_i64]
 omega
theorem or_pow (n l:Nat) (h:n % 2 ^ (l+1)=0):n ||| 2 ^ l=n+2 ^ l:=by
 have h2:2 ^ l<2 ^ (l+1):=Nat.pow_lt_pow_right (by decide) (Nat.lt_succ_self l)
 have h3:=Nat.two_pow_add_eq_or_of_lt h2 (n / 2 ^ (l+1))
 have h4:2 ^ (l+1)*(n / 2 ^ (l+1))=n:=by
  have:=Nat.div_add_mod n (2 ^ (l+1))
  omega
 rw [h4] at h3
 exact h3.symm
theorem szF_take (ps:FrV) (k:Nat) (h:k<ps.length):szF (ps.take (k+1))=szF (ps.take k)+2 ^ (ps.getD k (0,[])).1:=by
 rw [List.take_succ_eq_append_getElem h,szF_append,szF_one,List.getD_eq_getElem?_getD,List.getElem?_eq_getElem h]
 rfl
theorem szF_take_mod (ps:FrV) (hd:DecF ps) (k:Nat) (h:k<ps.length):szF (ps.take k) % 2 ^ ((ps.getD k (0,[])).1+1)=0:=by
 refine szF_mod _ _ fun p hp=>?_
 have hd2:DecF (ps.take k++ps.drop k):=by rw [List.take_append_drop];exact hd
 have:=(List.pairwise_append.1 hd2).2.2 p hp ps[k] (by rw [List.drop_eq_getElem_cons h];exact List.mem_cons_self)
 rw [List.getD_eq_getElem?_getD,List.getElem?_eq_getElem h]
 exact this
theorem szF_take_le (ps:FrV) (k:Nat):szF (ps.take k)≤szF ps:=by
 have:szF ps=szF (ps.take k)+szF (ps.drop k):=by rw [← szF_append,List.take_append_drop]
 omega
def AllOk (f:Value) (ps:FrV) (w:World):Prop:=∀ (W:World) (bx:Nat) (U:Nat→Prop),Below w.heap.size w W→Blk W bx 122 #[f]→(∀ b,U b→b<W.heap.size)→SeqU Tryz.prog 105 #[.pointer (some ⟨bx,0,none⟩)] ps.length U (fun _ k vs _=>PartY ps k vs) W
theorem allOk_some {g:Nat} {ps:FrV} {w:World} (h:FrO w g ps) (h62:F62 ps) (hn:ps.length≤1000):AllOk (.pointer (some ⟨g,0,none⟩)) ps w:=fun W bx U hb hk hU=>fall1_seq ps g bx U W hk (h.step hb) h62 hU hn
structure SzI (w:World) (g3:Nat) (m:Nat) (W:World):Prop where
 box:Blk W g3 2 #[.int .i64 (m:Int)]
 bel:Below w.heap.size w W
theorem SzI.grown {w W W':World} {g3 m:Nat} {row:Option Nat} (h:SzI w g3 m W) (hg:W.grownBy W' row) (hr:∀ r,row=some r→w.heap.size≤r∧∃ o,W.heap[r]?=some o∧o.isCells=false):SzI w g3 m W' :=
 ⟨h.box.grown hg (fun e=>by
   obtain ⟨_,o,ho,hc⟩:=hr g3 e.symm
   rw [show W.heap[g3]?=_ from h.box] at ho;cases ho;cases hc),h.bel.grown hg h.bel.size fun k e=>(hr k e).1⟩
theorem SzI.own_ {w:World} {g3 B:Nat} (f:Nat→Nat) (hB:w.heap.size≤B):OwnFrom B (fun k W=>SzI w g3 (f k) W):=fun _ _ _ _ h hg hr=>h.grown hg fun r e=>⟨Nat.le_trans hB (hr r e).1,(hr r e).2⟩
set_option maxHeartbeats 4000000 in
set_option maxRecDepth 100000 in
theorem fsize_any (f:Value) (ps:FrV) (w:World) (hf:f.oneCell'=true) (hA:AllOk f ps w) (hd:DecF ps) (hs:szF ps≤9223372036854775807) :
  Calls Tryz.prog 85 #[f] w fun e w'=>e = .returned (.int .i64 (szF ps:Int))∧Below w.heap.size w w':=by
 have hal:=fun W=>fall_any f W hf
 have Hal:=Lib.hid hal
 clear hal
 refine (callsIn_wide (n:=5)).1 ?_
 refine callsIn_of_wp_marks Tryz.func85 rfl trivial ?_ rfl
 simp only [Tryz.ntmps85,List.size_toArray,List.length_cons,List.length_nil,Nat.reduceAdd,Nat.reduceSub,Array.replicate_succ,Array.replicate_zero,List.push_toArray,List.append_toArray,List.nil_append,List.cons_append]
 refine wpIn_wide.2 ?_
 have k3:Blk (w.alloc (.cells #[.int .i64 0] 2)) w.heap.size 2 #[.int .i64 0]:=Blk.new _ _ _
 have hb0:Below w.heap.size w (w.alloc (.cells #[.int .i64 0] 2)):=(Below.refl _ _).alloc (Nat.le_refl _) _
 go_wp2_with ((with_reducible show wpList _ _ _ (⟨some 3,.alloc _,_,_,_,_⟩::_) _ _);refine wpList_run rfl (.pointer (some ⟨w.heap.size,0,none⟩)) (w.alloc (.cells #[.int .i64 0] 2)) (by kernel_rfl) ?_;generalize w.alloc (.cells #[.int .i64 0] 2)=w1 at k3 hb0 ⊢;have c3:w1.cell? ⟨w.heap.size,0,none⟩=some (.int .i64 0):=(by rw [k3.cell];rfl);have f3:=k3.frozen 0;simp only [Act.put])
 have k3:=k3.set_ 0 (.int .i64 0)
 have hb1:Below w.heap.size w (w1.setCell ⟨w.heap.size,0,none⟩ (.int .i64 0)):=hb0.setCell (p:=⟨w.heap.size,0,none⟩) (Nat.le_refl _) _
 generalize w1.setCell ⟨w.heap.size,0,none⟩ (.int .i64 0)=w2 at k3 hb1 ⊢
 have k3:Blk w2 w.heap.size 2 #[.int .i64 0]:=k3
 refine (Hal.out w2).mono ?_
 rintro e w3 ⟨rfl,hbx,hb3⟩
 have hlt3:=k3.lt
 replace k3:=k3.step hb3
 have hI0:SzI w w.heap.size 0 w3:=⟨k3,hb1.trans (hb3.mono hb1.size)⟩
 have hw3:=hI0.bel.size
 have hbxl:=hbx.lt
 generalize w2.heap.size=bx at hbx hbxl hlt3 ⊢
 clear c3 f3 hb0 hb1 hb3 k3 Hal
 go_wp2_with fail
 refine wp_range_U (gf:=105) (lb:=#[.pointer (some ⟨bx,0,none⟩)]) rfl (enters_of Tryz.func105 (by kernel_rfl) rfl)
  (hA w3 bx (·=w.heap.size) hI0.bel hbx (fun b hb=>by have hb:b=w.heap.size:=hb;omega)) (fun _ _ _ _ h=>by rw [show _=_ from h];rfl)
  (fun _ k=>SzI w w.heap.size (szF (ps.take k))) (fun _ _ _ _=>False) (fun n₁=>SzI.own_ (fun k=>szF (ps.take k)) (by omega)) (fun _ _ _ _ _ _ h _ _=>h.elim) (fun _ _=>hI0) ?round ?done ?stop
 case round =>
  clear hI0 hbx hA
  intro li n₁ k vs X hl hln hnX hk hI hy
  have hy:vs=_:=hy
  subst hy
  have e1:=szF_take ps k hk
  have e2:=szF_take_mod ps hd k hk
  have e3:=szF_take_le ps k
  have e4:=szF_take_le ps (k+1)
  obtain ⟨⟨lv,x⟩,hx⟩:∃ x,ps.getD k (0,[])=x:=⟨_,rfl⟩
  rw [hx] at e1 e2 ⊢
  obtain ⟨m,hm⟩:∃ m,szF (ps.take k)=m:=⟨_,rfl⟩
  obtain ⟨m',hm'⟩:∃ m,szF (ps.take (k+1))=m:=⟨_,rfl⟩
  rw [hm] at e1 e2 e3 hI
  rw [hm'] at e1 e4
  have hor:bits .or .i64 (m:Int) ((2:Int) ^ lv)=(m':Int):=by
   have h1:((2:Int) ^ lv)=((2 ^ lv:Nat):Int):=by simp
   have h2:=or_pow m lv e2
   obtain ⟨pw,hpw⟩:∃ p,2 ^ lv=p:=⟨_,rfl⟩
   rw [hpw] at h1 h2 e1
   rw [h1,i64_or_nat m pw (by omega) (by omega),h2,e1]
  have Hor:=Lib.hid hor
  have He:=Lib.hid hm'
  clear e1 e2 e3 e4 hx hm hm'
  gi_wp2
  refine ⟨KeepU.refl _ _ _ _,?_⟩
  intro X2 hturn
  have hI2:=hturn.own (SzI.own_ (w:=w) (g3:=w.heap.size) (fun _=>m) (show w.heap.size≤w3.heap.size by omega)) (s:=k) hI
  have hnX2:n₁≤X2.heap.size:=by rw [hturn.size];exact hnX
  clear hI hturn hnX
  have c3:X2.cell? ⟨w.heap.size,0,none⟩=some (.int .i64 (m:Int)):=by rw [hI2.box.cell];rfl
  have f3:=hI2.box.frozen 0
  have hor:=Hor.out
  gi_wp2
  refine ⟨KeepU.setCell (U:=(·=w.heap.size)) hI2.box (.inr rfl) 0 _,?_⟩
  show SzI w w.heap.size (szF (ps.take (k+1))) _
  rw [He.out]
  exact ⟨hI2.box.set_ 0 _,hI2.bel.setCell (p:=⟨w.heap.size,0,none⟩) (Nat.le_refl _) _⟩
 case done =>
  clear hI0 hbx hA
  intro D n₁ X hD hDn hI hK
  rw [List.take_of_length_le (Nat.le_refl _)] at hI
  have c3:X.cell? ⟨w.heap.size,0,none⟩=some (.int .i64 (szF ps:Int)):=by rw [hI.box.cell];rfl
  go_wp2_with fail
  refine leaves_marks (N:=w.heap.size) [D] _ ((MarksOk.nil _ _).cons (by omega) hK (by simp)) fun w' ht=>⟨_,results_tmp rfl _ _ _,rfl,hI.bel.trans ht.bel⟩
 case stop =>
  rintro D n₁ cd k X hD hDn hk h hK
  exact h.elim
end Go.Proofs.YtdjhoankkddomaaGreat
namespace Go.Proofs.YtdjhoankkddomaaGreat
open Go Go.RowKit Go.Shelf
attribute [local go_sem] Oper.semAt_some
theorem owns_cellsF {W:World} {base n s r:Nat} {e:TypeId} {v:Value} {xs:List Value} (h:W.ownsRow base e s v n xs) (hv:v.ownBlock=some r):∃ o,W.heap[r]?=some o∧o.isCells=true:=by
 rcases h.2 with ⟨rfl,_⟩|⟨g,cap,cur,rfl,_,hb,_⟩
 ·cases hv
 ·cases hv
  exact ⟨_,hb,rfl⟩
def hashF (ps:FrV):List (List UInt8):=ps.map (·.2)
theorem hashF_32 (ps:FrV) (h:F32 ps):H32 (hashF ps):=fun x hx=>by
 obtain ⟨p,hp,rfl⟩:=List.mem_map.1 hx
 exact h p hp
theorem hashF_getD (ps:FrV) (k:Nat) (h:k<ps.length):(hashF ps).getD k []=(ps.getD k (0,[])).2:=by
 unfold hashF
 rw [List.getD_eq_getElem?_getD,List.getElem?_map,List.getD_eq_getElem?_getD,List.getElem?_eq_getElem h]
 rfl
theorem take_snocF (rs:List (List UInt8)) (k:Nat) (h:k<rs.length):rs.take (k+1)=rs.take k++[rs.getD k []]:=by
 rw [List.take_succ_eq_append_getElem h,List.getD_eq_getElem?_getD,List.getElem?_eq_getElem h]
 rfl
end Go.Proofs.YtdjhoankkddomaaGreat
namespace Go.Proofs.YtdjhoankkddomaaGreat
open Go
theorem length_dec:∀ (ps:FrV),DecF ps→∀ k,(∀ p ∈ ps,p.1<k)→ps.length≤k
 | [],_,_,_=>Nat.zero_le _
 | p::ps,hd,k,hk=>by
  have hd':=List.pairwise_cons.1 hd
  have h1:=length_dec ps hd'.2 p.1 fun q hq=>hd'.1 q hq
  have h2:=hk p List.mem_cons_self
  rw [List.length_cons]
  omega
theorem length_front (ps:FrV) (hd:DecF ps) (hs:szF ps≤9223372036854775807):ps.length≤63:=length_dec ps hd 63 fun p hp=>by have:=F62_of_size ps hs p hp;omega
def leafE (ps:FrV) (hs:List (List UInt8)):FrV × Int:=if 9223372036854775807<szF ps+hs.length then (ps,4) else (leafF ps hs,0)
def appendE (ps:FrV) (es:List (List UInt8)):FrV × Int:=if es.any (fun x=>decide (4096<x.length))=true then (ps,3) else leafE ps (es.map hLeaf)
structure FrOk (ps:FrV):Prop where
 h32:F32 ps
 dec:DecF ps
 top:szF ps≤9223372036854775807
theorem FrOk.len {ps:FrV} (h:FrOk ps):ps.length≤63:=length_front ps h.dec h.top
theorem FrOk.h62 {ps:FrV} (h:FrOk ps):F62 ps:=F62_of_size ps h.top
theorem FrOk.leafF {ps:FrV} (h:FrOk ps) (hs:List (List UInt8)) (h32:∀ x ∈ hs,x.length=32) (ht:szF ps+hs.length≤9223372036854775807):FrOk (leafF ps hs) :=
 ⟨(leafF_ok hs ps h.h32 h.dec h32).1,(leafF_ok hs ps h.h32 h.dec h32).2,by rw [szF_leaf];exact ht⟩
end Go.Proofs.YtdjhoankkddomaaGreat
namespace Go.Proofs.YtdjhoankkddomaaGreat
open Go Go.RowKit Go.Shelf
attribute [local go_sem] Oper.semAt_some
abbrev fptr (g:Nat):Value := .pointer (some ⟨g,0,none⟩)
theorem Hs.apart {w:World} {X:Nat→Prop} {A:Option Addr} {n c:Nat} {hs:List (List UInt8)} (h:Hs w X A n c hs) {g:Nat} {T:TypeId} {cs:Array Value} (k:Blk w g T cs) (hk:cs.size<32):Hs w (fun b=>X b∧b≠g) A n c hs:=by
 refine ⟨⟨fun hne=>?_,h.sl.len,h.sl.room,h.sl.nil,h.sl.max⟩,h.len,h.all⟩
 obtain ⟨b,o,h1,h2,h3,h4⟩:=h.sl.bs hne
 refine ⟨b,o,h1,h2,⟨h3,fun e=>?_⟩,h4⟩
 subst e
 have hlen:=hcells_len hs h.all
 have hq:0<hs.length:=by
  rcases Nat.eq_zero_or_pos hs.length with e|e
  ·rw [List.length_eq_zero_iff.1 e] at hne;exact absurd rfl hne
  ·exact e
 have h5:=h4 31 _ (List.getElem?_eq_getElem (by rw [hlen];omega))
 rw [k.cell,Array.getElem?_eq_none (by omega)] at h5
 cases h5
theorem FrO.small {w:World} {g:Nat} {ps:FrV} (h:FrO w g ps):∃ (T:TypeId) (cs:Array Value),Blk w g T cs∧cs.size=1:=by
 obtain ⟨A,n,c,hk,-⟩:=h.ex
 exact ⟨_,_,hk,rfl⟩
theorem fsize_some {g:Nat} {ps:FrV} {w:World} (h:FrO w g ps) (ho:FrOk ps):Calls Tryz.prog 85 #[fptr g] w fun e w'=>e = .returned (.int .i64 (szF ps:Int))∧Below w.heap.size w w' :=
 fsize_any (fptr g) ps w rfl (allOk_some h ho.h62 (by have:=ho.len;omega)) ho.dec ho.top
theorem grown_refl (w:World) (row:Option Nat):w.grownBy w row:=⟨rfl,rfl,rfl,Nat.le_refl _,fun _ _ _=>rfl⟩
theorem grown_same {w W W':World} {g:Nat} (h1:w.grownBy W (some g)) (h2:W.grownBy W' (some g)):w.grownBy W' (some g) :=
 ⟨h2.os.trans h1.os,h2.tape.trans h1.tape,h2.output.trans h1.output,Nat.le_trans h1.size h2.size,fun k hk hne=>(h2.block k (Nat.lt_of_lt_of_le hk h1.size) hne).trans (h1.block k hk hne)⟩
theorem explode32F (l:List UInt8) (h:l.length=32):∃ a0 a1 a2 a3 a4 a5 a6 a7 a8 a9 a10 a11 a12 a13 a14 a15 a16 a17 a18 a19 a20 a21 a22 a23 a24 a25 a26 a27 a28 a29 a30 a31:UInt8,l=[a0,a1,a2,a3,a4,a5,a6,a7,a8,a9,a10,a11,a12,a13,a14,a15,a16,a17,a18,a19,a20,a21,a22,a23,a24,a25,a26,a27,a28,a29,a30,a31]:=by
 match l,h with
 | [a0,a1,a2,a3,a4,a5,a6,a7,a8,a9,a10,a11,a12,a13,a14,a15,a16,a17,a18,a19,a20,a21,a22,a23,a24,a25,a26,a27,a28,a29,a30,a31],_=>exact ⟨_,_,_,_,_,_,_,_,_,_,_,_,_,_,_,_,_,_,_,_,_,_,_,_,_,_,_,_,_,_,_,_,rfl⟩
theorem builtFp (n:Int) (l:List UInt8) (h:l.length=32):Tryz.prog.built 145 [(0,.int .i64 n),(1,.agg (l.map B).toArray)]=some (.int .i64 n::l.map B).toArray:=by
 obtain ⟨a0,a1,a2,a3,a4,a5,a6,a7,a8,a9,a10,a11,a12,a13,a14,a15,a16,a17,a18,a19,a20,a21,a22,a23,a24,a25,a26,a27,a28,a29,a30,a31,rfl⟩:=explode32F l h
 kernel_rfl
theorem run_build_fp (lv:Int) (x:List UInt8) (hx:x.length=32) (W:World):(Instr.build 145 #[(0,.int .i64 lv),(1,.agg (x.map B).toArray)]).run Tryz.prog W = .ok (.agg (Value.int .i64 lv::x.map B).toArray) W:=by
 exact run_build W 145 _ _ (builtFp lv x hx)
theorem run_build_fp_op (lv:Int) (x:List UInt8) (hx:x.length=32) {ρ:Operand→Value} {o:Oper} (y z:Operand) (ho:o.op = .build 145 #[(0,y),(1,z)]) (hy:ρ y = .int .i64 lv) (hz:ρ z = .agg (x.map B).toArray) (W:World):(execOp ρ o).run Tryz.prog W = .ok (.value (.agg (Value.int .i64 lv::x.map B).toArray)) W:=by
 unfold execOp
 have hm:(#[(0,y),(1,z)]:Array (Nat × Operand)).map (fun (i,x)=>(i,ρ x))=#[(0,.int .i64 lv),(1,.agg (x.map B).toArray)]:=by simp [hy,hz]
 simp only [ho,Sem.run_bind,Sem.run_pure,hm,run_build_fp lv x hx W,Result.andThen_ok]
set_option maxHeartbeats 4000000 in
set_option maxRecDepth 100000 in
theorem fleaf_any (g:Nat) (ps:FrV) (hs:List (List UInt8)) (A:Option Addr) (n c:Nat) (w:World) (h:FrO w g ps) (ho:FrOk ps) (hh:Hs w (fun _=>True) A n c hs) (hn:n≤1099511627776) :
  Calls Tryz.prog 69 #[fptr g,.slice A n c] w fun e w'=>e = .returned (.int .i64 (leafE ps hs).2)∧FrO w' g (leafE ps hs).1∧w.grownBy w' (some g):=by
 have hlen:=hh.len
 have hroom:=hh.sl.room
 have hmx:=hh.sl.max
 unfold maxLen at hmx
 have h32:=hh.all
 have hsz:=fsize_some h ho
 have htop:=ho.top
 obtain ⟨sz,hsze⟩:∃ s,szF ps=s:=⟨_,rfl⟩
 rw [hsze] at hsz htop
 have Hsz:=Lib.hid hsz
 have hw1:IntKind.i64.wrap (9223372036854775807 - (sz:Int))=9223372036854775807 - (sz:Int):=IntWalk.i64_in _ (by omega)
 unfold leafE
 rw [hsze,hlen]
 have Hlen:=Lib.hid hlen
 have H32:=Lib.hid h32
 have Hsze:=Lib.hid hsze
 have Ho:=Lib.hid ho
 clear hsz hlen h32 hsze ho
 by_cases hb:9223372036854775807<sz+n
 ·rw [if_pos hb]
  have hd:decide (9223372036854775807 - (sz:Int)<(n:Int))=true:=by simp;omega
  have hd':9223372036854775807 - (sz:Int)<(n:Int):=by omega
  go_enter Tryz.func69,Tryz.ntmps69
  go_wp2_with (go_at_call 85;refine Hsz.out.mono ?_;rintro e w1 ⟨rfl,hb1⟩)
  go_ret
  exact ⟨rfl,h.step hb1,grown_of_below hb1 _⟩
 ·rw [if_neg hb]
  have hd:decide (9223372036854775807 - (sz:Int)<(n:Int))=false:=by simp;omega
  have hd':¬ 9223372036854775807 - (sz:Int)<(n:Int):=by omega
  obtain ⟨res,hres⟩:∃ r,leafF ps hs=r:=⟨_,rfl⟩
  rw [hres]
  have Hres:=Lib.hid hres
  clear hres
  go_enter Tryz.func69,Tryz.ntmps69
  go_wp2_with (go_at_call 85;refine Hsz.out.mono ?_;rintro e w1 ⟨rfl,hb1⟩)
  obtain ⟨T,cs,hk1,hcs⟩:=(h.step hb1).small
  have hh1:=((hh.step hb1).apart hk1 (by omega)).weak (Y:=fun b=>b≠g∧b<w1.heap.size) fun b hb hx=>⟨hx.2,hb⟩
  have h1:=h.step hb1
  have hg1:=grown_of_below hb1 (some g)
  clear h hh hk1 hcs T cs hb1 hd hd' hw1
  go_loopw [6,19] (fun _ i wr=>∃ k:Nat,k≤n∧i = .int .i64 k∧FrO wr g (leafF ps (hs.take k))∧w.grownBy wr (some g)∧Hs wr (fun b=>b≠g∧b<w1.heap.size) A n c hs) (fun _ i _=>n - (intOf i).toNat)
  case atStart=>exact ⟨0,Nat.zero_le _,rfl,h1,hg1,hh1⟩
  case round =>
   clear h1 hg1 hh1
   obtain ⟨k,hk,rfl,hF,hg,hH⟩:=hrel
   by_cases hlt:k<n
   ·have hd:decide ((k:Int)<(n:Int))=true:=by simp;omega
    have hwk:IntKind.i64.wrap ((k:Int)+1)=(k:Int)+1:=IntWalk.i64_in _ (by omega)
    obtain ⟨b,o,rfl,-,-,-⟩:=hH.at_ (by omega)
    have hget:=hH.get rfl k hlt
    have hx32:=H32.out.getD k (by rw [Hlen.out];exact hlt)
    have hsn:=leafF_snoc ps (hs.take k) (hs.getD k [])
    rw [← take_snocF hs k (by rw [Hlen.out];exact hlt)] at hsn
    have hok:=Ho.out.leafF (hs.take k) (fun x hx=>H32.out x (List.mem_of_mem_take hx)) (by rw [Hsze.out,List.length_take,Hlen.out];omega)
    obtain ⟨x,hx⟩:∃ x,hs.getD k []=x:=⟨_,rfl⟩
    obtain ⟨cur,hcur⟩:∃ x,leafF ps (hs.take k)=x:=⟨_,rfl⟩
    rw [hx] at hget hx32 hsn
    rw [hcur] at hsn hok hF
    have hcm:=fun W (hF:FrO W g cur)=>fcome_any g cur (0,x) W hF hx32 (Nat.zero_le _) (by have:=hok.len;omega)
    have Hget:=Lib.hid hget
    have Hx32:=Lib.hid hx32
    have Hsn:=Lib.hid hsn
    have Hcm:=Lib.hid hcm
    clear hget hx32 hsn hcm hx hcur hok
    go_wp2_with (first
     | ((with_reducible show wpList _ _ _ (⟨some 22,.load _ _,_,_,_,_⟩::_) _ _);refine wpList_run0 rfl (.agg (x.map B).toArray) (run_load_op 53 (.tmp 21) rfl b (o+k*32) rfl _ Hget.out) ?_;simp only [Act.put])
     | ((with_reducible show wpList _ _ _ (⟨some 6,.alloc _,_,_,_,_⟩::_) _ _);refine wpList_hvar (.tmp 6) (.tmp 22) rfl rfl rfl rfl rfl rfl Hx32.out ?_;intro w2 k6 hb2;simp only [Act.put])
     | ((with_reducible show wpList _ _ _ (⟨some 24,.load _ _,_,_,_,_⟩::_) _ _);refine wpList_hload (.tmp 6) (by kernel_rfl) rfl k6 rfl ?_;simp only [Act.put])
     | ((with_reducible show wpList _ _ _ (⟨some 25,.build _ _,_,_,_,_⟩::_) _ _);refine wpList_run0 rfl (.agg (Value.int .i64 ((0:Nat):Int)::x.map B).toArray) (run_build_fp_op 0 x Hx32.out (.const (.int .i64 0)) (.tmp 24) rfl rfl rfl _) ?_;simp only [Act.put])
     | (go_at_call 86;refine (Hcm.out w2 (hF.step hb2)).mono ?_;rintro e w3 ⟨rfl,hF3,hg3⟩))
    go_roundw
    case rel=>exact ⟨k+1,by omega,by go_num,by rw [Hsn.out];exact hF3,grown_same (grown_same hg (grown_of_below hb2 (some g))) hg3,(hH.step hb2).grown hg3 (fun b _ hx e=>hx.1 (Option.some.inj e))⟩
    case measure=>simp [intOf];omega
   ·obtain rfl:k=n:=by omega
    have hd:decide ((k:Int)<(k:Int))=false:=by simp
    rw [List.take_of_length_le (by rw [Hlen.out];exact Nat.le_refl _),Hres.out] at hF
    go_wp2_with fail
    go_ret
    exact ⟨rfl,hF,hg⟩
end Go.Proofs.YtdjhoankkddomaaGreat
namespace Go.Proofs.YtdjhoankkddomaaGreat
open Go Go.RowKit Go.Shelf
attribute [local go_sem] Oper.semAt_some
def longE (es:List (List UInt8)):Bool:=es.any fun x=>decide (4096<x.length)
theorem longE_snoc (es:List (List UInt8)) (k:Nat) (h:k<es.length):longE (es.take (k+1))=(longE (es.take k)||decide (4096<(es.getD k []).length)):=by
 unfold longE
 rw [take_snocF es k h,List.any_append]
 simp
theorem longE_of_take (es:List (List UInt8)) (k:Nat) (h:longE (es.take k)=true):longE es=true:=by
 unfold longE at h ⊢
 rw [List.any_eq_true] at h ⊢
 obtain ⟨x,hx,h⟩:=h
 exact ⟨x,List.mem_of_mem_take hx,h⟩
theorem map_take_snoc (es:List (List UInt8)) (k:Nat) (h:k<es.length):(es.take (k+1)).map hLeaf=(es.take k).map hLeaf++[hLeaf (es.getD k [])]:=by
 rw [take_snocF es k h,List.map_append]
 rfl
theorem h32_leaves (es:List (List UInt8)):H32 (es.map hLeaf):=fun x hx=>by obtain ⟨e,_,rfl⟩:=List.mem_map.1 hx;exact length_hLeaf e
end Go.Proofs.YtdjhoankkddomaaGreat
namespace Go.Proofs.YtdjhoankkddomaaGreat
open Go Go.RowKit Go.Shelf
attribute [local go_sem] Oper.semAt_some
end Go.Proofs.YtdjhoankkddomaaGreat
namespace Go.Proofs.YtdjhoankkddomaaGreat
open Go Go.RowKit
end Go.Proofs.YtdjhoankkddomaaGreat
namespace Go.Proofs.YtdjhoankkddomaaGreat
open Go Go.RowKit Go.Shelf
attribute [local go_sem] Oper.semAt_some
end Go.Proofs.YtdjhoankkddomaaGreat
namespace Go.Proofs.YtdjhoankkddomaaGreat
open Go Go.RowKit Go.Shelf
attribute [local go_sem] Oper.semAt_some
end Go.Proofs.YtdjhoankkddomaaGreat
namespace Go.Proofs.YtdjhoankkddomaaGreat
open Go Go.RowKit Go.Shelf
attribute [local go_sem] Oper.semAt_some
end Go.Proofs.YtdjhoankkddomaaGreat
namespace Go.Proofs.YtdjhoankkddomaaGreat
open Go
section
variable {P:Program} {ops:Array Oper} {Q:Exit→Act→World→Prop} {md:Region.Mode} {S:World→Prop} {k:Nat}
end
end Go.Proofs.YtdjhoankkddomaaGreat
namespace Go.Proofs.YtdjhoankkddomaaGreat
open Go Go.RowKit Go.Shelf
attribute [local go_sem] Oper.semAt_some
end Go.Proofs.YtdjhoankkddomaaGreat
namespace Go.Proofs.YtdjhoankkddomaaGreat
open Go
def beN:Nat→Nat→List UInt8
 | 0,_=>[]
 | k+1,x=>UInt8.ofNat (x / 256 ^ k)::beN k x
theorem length_beN:∀ k x,(beN k x).length=k
 | 0,_=>rfl
 | k+1,x=>by rw [beN,List.length_cons,length_beN k x]
end Go.Proofs.YtdjhoankkddomaaGreat
