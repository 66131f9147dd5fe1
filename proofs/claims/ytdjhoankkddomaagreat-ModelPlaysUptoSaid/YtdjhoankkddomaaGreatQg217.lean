import Derived.Test.YtdjhoankkddomaaGreatQg216
import Derived.Test.YtdjhoankkddomaaGreatQg211
import Derived.Test.YtdjhoankkddomaaGreatQg210
import Derived.Test.YtdjhoankkddomaaGreatQg208
import Derived.Test.YtdjhoankkddomaaGreatQg209
namespace Go.Proofs.YtdjhoankkddomaaGreat
open Go Go.RowKit
theorem i64_and_one (a:Nat) (ha:a<9223372036854775808):bits .and .i64 (a:Int) 1=((a % 2:Nat):Int):=by
 have e:a &&& 1=a % 2:=Nat.and_one_is_mod a
 show IntKind.i64.wrap ((BitVec.ofInt 64 (a:Int) &&& BitVec.ofInt 64 ((1:Nat):Int)).toNat:Int)=_
 rw [BitVec.toNat_and,ofInt_u64 a (by omega),ofInt_u64 1 (by omega),e,IntKind.wrap_i64]
 omega
theorem wholeL_len (d:Nat):∀ a n:Nat,n<2 ^ d→(wholeL a n).length≤d+1:=by
 induction d with
 | zero=>intro a n h;rw [show n=0 by omega,wholeL_zero];simp
 | succ d ih =>
  intro a n h
  by_cases hn:n=0
  ·subst hn;rw [wholeL_zero];simp
  ·rw [wholeL_more a n hn,List.length_cons]
   have h1:=Nat.log2_self_le hn
   have h2:=Nat.lt_log2_self (n:=n)
   have hl:n.log2≤d:=by
    have:n.log2<d+1:=(Nat.log2_lt hn).2 h
    omega
   have h3:2 ^ n.log2≤2 ^ d:=Nat.pow_le_pow_right (by decide) hl
   rw [Nat.pow_succ] at h2
   have:=ih (a+2 ^ n.log2) (n - 2 ^ n.log2) (by omega)
   omega
end Go.Proofs.YtdjhoankkddomaaGreat
namespace Go.Proofs.YtdjhoankkddomaaGreat
open Go Go.RowKit
theorem owns_some {w:World} {base n s:Nat} {e:TypeId} {v:Value} {xs:List Value} (h:w.ownsRow base e s v n xs) (hn:0<n):∃ g c,v = .slice (some ⟨g,0,none⟩) n c:=by
 rcases h.2 with ⟨hv,h0⟩|⟨g',cap,cur,hv',_⟩
 ·omega
 ·exact ⟨g',cap,hv'⟩
theorem owns_fewerT {w:World} {base g n m c s:Nat} {e:TypeId} {xs:List Value} (h:w.ownsRow base e s (.slice (some ⟨g,0,none⟩) m c) m xs) (hn:n≤m) :
  w.ownsRow base e s (.slice (some ⟨g,0,none⟩) n c) n (xs.take (n*s)):=by
 have hl:=h.1
 have hns:n*s≤m*s:=Nat.mul_le_mul_right _ hn
 refine ⟨by rw [List.length_take,hl];omega,?_⟩
 rcases h.2 with ⟨hv,_⟩|⟨g',cap,cur,hv',hbg,hg,hnc,hcm,hcs,ht⟩
 ·cases hv
 ·cases hv'
  exact .inr ⟨g,c,cur,rfl,hbg,hg,by omega,hcm,hcs,by rw [← ht,List.take_take,Nat.min_eq_left hns]⟩
theorem append_hR {w:World} {base:Nat} {v:Value} {l:List (List UInt8)} (h:w.ownsRow base 53 32 v l.length (hcells l)) (x:List UInt8) (hx:x.length=32) (hn:l.length≤1000000000) (hb:base≤w.heap.size) :
  ∃ v' w',(Builtin.append_ #[49,49] 49 #[v,.slice (some ⟨w.heap.size,0,none⟩) 1 1]).run Tryz.prog (w.alloc (.cells (hcells [x]).toArray 53)) = .ok v' w' ∧
   w'.ownsRow base 53 32 v' (l++[x]).length (hcells (l++[x]))∧w.grownBy w' v.ownBlock∧(v'.ownBlock=v.ownBlock∨∃ k,v'.ownBlock=some k∧w.heap.size≤k):=by
 have h32:H32 [x]:=by intro h hh;rw [List.mem_singleton.1 hh];exact hx
 have hbA:Below w.heap.size w (w.alloc (.cells (hcells [x]).toArray 53)):=(Below.refl _ _).alloc (Nat.le_refl _) _
 obtain ⟨v',w',hr,ho,hg,hf⟩:=append_slv (ty:=49) Tryz.underlying49 info26z (by simp [Value.cells]) (by decide) (owns_step h hbA) (Hs.lit w [x] h32 (by simp) 1 rfl).sl (oneB _) (by unfold maxLen;omega) (by omega) (Nat.le_trans hb hbA.size)
 rw [← hcells_append] at ho
 refine ⟨v',w',hr,by rw [List.length_append];exact ho,⟨hg.os,hg.tape,hg.output,Nat.le_trans hbA.size hg.size,fun k hk hne=>?_⟩,?_⟩
 ·rw [hg.block k (Nat.lt_of_lt_of_le hk hbA.size) hne,hbA.block k hk]
 ·rcases hf with hf|⟨k,hf,hk⟩
  ·exact .inl hf
  ·exact .inr ⟨k,hf,by have:=hbA.size;omega⟩
def CarryP (hs:List (List UInt8)) (i k t:Nat) (ss:List (List UInt8)) (x:List UInt8):Prop:=k*2 ^ t+2 ^ t=i+1∧ss=rootsL hs (wholeL 0 (k*2 ^ t))∧x=stretchL hs (k*2 ^ t) (k*2 ^ t+2 ^ t)
theorem CarryP.start (hs:List (List UInt8)) (i:Nat) (h:i<hs.length):CarryP hs i i 0 (rootsL hs (wholeL 0 i)) (hs.getD i []):=by
 refine ⟨by rw [Nat.pow_zero,Nat.mul_one],by rw [Nat.pow_zero,Nat.mul_one],?_⟩
 rw [Nat.pow_zero,Nat.mul_one,stretch_one hs i h]
theorem CarryP.next {hs:List (List UInt8)} {i k t:Nat} {ss:List (List UInt8)} {x:List UInt8} (h:CarryP hs i k t ss x) (hk:k % 2=1) (hi:i<hs.length):∃ ss' y,ss=ss'++[y]∧CarryP hs i (k / 2) (t+1) ss' (hNode y x):=by
 obtain ⟨h1,h2,h3⟩:=h
 have hl:=whole_low (k - 1) t (by omega)
 have e0:k*2 ^ t=(k - 1)*2 ^ t+2 ^ t:=by
  conv=>lhs;rw [show k=(k - 1)+1 by omega,Nat.add_mul,Nat.one_mul]
 have e1:k / 2*2 ^ (t+1)=(k - 1)*2 ^ t:=by
  rw [Nat.pow_succ,Nat.mul_comm (2 ^ t) 2,← Nat.mul_assoc,show k / 2*2=k - 1 by omega]
 have e2:2 ^ (t+1)=2 ^ t+2 ^ t:=by rw [Nat.pow_succ];omega
 rw [e0] at h1 h2 h3
 rw [hl,rootsL,List.map_append] at h2
 refine ⟨_,_,h2,?_⟩
 unfold CarryP
 rw [e1,e2]
 refine ⟨by omega,rfl,?_⟩
 rw [h3,← Nat.add_assoc]
 exact (stretch_join hs ((k - 1)*2 ^ t) t (by omega)).symm
theorem CarryP.done {hs:List (List UInt8)} {i k t:Nat} {ss:List (List UInt8)} {x:List UInt8} (h:CarryP hs i k t ss x) (hk:k % 2=0):ss++[x]=rootsL hs (wholeL 0 (i+1)):=by
 obtain ⟨h1,h2,h3⟩:=h
 have hl:=whole_low k t hk
 rw [h1] at hl h3
 rw [hl,rootsL,List.map_append,h2,h3]
 rfl
theorem CarryP.len {hs:List (List UInt8)} {i k t:Nat} {ss:List (List UInt8)} {x:List UInt8} (h:CarryP hs i k t ss x) (h32:H32 hs):x.length=32:=by rw [h.2.2];exact length_stretchL hs _ _ h32
theorem CarryP.all {hs:List (List UInt8)} {i k t:Nat} {ss:List (List UInt8)} {x:List UInt8} (h:CarryP hs i k t ss x) (h32:H32 hs):H32 ss:=by rw [h.2.1];exact rootsL_all hs h32 _
structure RtC (w:World) (A:Option Addr) (n c:Nat) (hs:List (List UInt8)) (ov:Value) (os:List (List UInt8)) (sv:Value) (ss:List (List UInt8)) (W:World):Prop where
 src:Hs W (fun b=>b<w.heap.size) A n c hs
 out:W.ownsRow w.heap.size 53 32 ov os.length (hcells os)
 st:W.ownsRow w.heap.size 53 32 sv ss.length (hcells ss)
 ne:∀ b,sv.ownBlock=some b→ov.ownBlock=some b→False
 bel:Below w.heap.size w W
section
variable {w:World} {A:Option Addr} {n c:Nat} {hs:List (List UInt8)} {ov sv:Value} {os ss:List (List UInt8)} {W W':World}
theorem RtC.step (h:RtC w A n c hs ov os sv ss W) (hb:Below W.heap.size W W'):RtC w A n c hs ov os sv ss W' :=
 ⟨h.src.step hb,owns_step h.out hb,owns_step h.st hb,h.ne,h.bel.trans (hb.mono h.bel.size)⟩
theorem RtC.appSt (h:RtC w A n c hs ov os sv ss W) {v':Value} {x:List UInt8} (hg:W.grownBy W' sv.ownBlock) (hf:v'.ownBlock=sv.ownBlock∨∃ k,v'.ownBlock=some k∧W.heap.size≤k)
  (ho:W'.ownsRow w.heap.size 53 32 v' (ss++[x]).length (hcells (ss++[x]))):RtC w A n c hs ov os v' (ss++[x]) W':=by
 refine ⟨h.src.grown hg ?_,h.out.kept hg ?_,ho,?_,h.bel.grown hg h.bel.size fun k hk=>(h.st.lt k hk).1⟩
 ·intro b _ hx e;have:=(h.st.lt _ e.symm).1;omega
 ·cases e:ov.ownBlock with
  | none=>exact .inl rfl
  | some b=>exact .inr fun e2=>h.ne b e2.symm e
 ·intro b h1 h2
  rcases hf with hf|⟨k,hf,hk⟩
  ·exact h.ne b (hf ▸ h1) h2
  ·rw [hf] at h1;cases h1;have:=(h.out.lt _ h2).2;omega
theorem RtC.appOut (h:RtC w A n c hs ov os sv ss W) {v':Value} {x:List UInt8} (hg:W.grownBy W' ov.ownBlock) (hf:v'.ownBlock=ov.ownBlock∨∃ k,v'.ownBlock=some k∧W.heap.size≤k)
  (ho:W'.ownsRow w.heap.size 53 32 v' (os++[x]).length (hcells (os++[x]))):RtC w A n c hs v' (os++[x]) sv ss W':=by
 refine ⟨h.src.grown hg ?_,ho,h.st.kept hg ?_,?_,h.bel.grown hg h.bel.size fun k hk=>(h.out.lt k hk).1⟩
 ·intro b _ hx e;have:=(h.out.lt _ e.symm).1;omega
 ·cases e:sv.ownBlock with
  | none=>exact .inl rfl
  | some b=>exact .inr fun e2=>h.ne b e e2.symm
 ·intro b h1 h2
  rcases hf with hf|⟨k,hf,hk⟩
  ·exact h.ne b h1 (hf ▸ h2)
  ·rw [hf] at h2;cases h2;have:=(h.st.lt _ h1).2;omega
theorem RtC.setRow (h:RtC w A n c hs ov os sv ss W) {g:Nat} (cs:Array Value) (hg:w.heap.size≤g) (h1:sv.ownBlock≠some g) (h2:ov.ownBlock≠some g):RtC w A n c hs ov os sv ss (W.setRow g cs):=by
 have hgr:W.grownBy (W.setRow g cs) (some g):=grown_setRow ⟨rfl,rfl,rfl,Nat.le_refl _,fun _ _ _=>rfl⟩ cs
 exact ⟨h.src.setRow g cs (by omega),h.out.kept hgr (.inr h2),h.st.kept hgr (.inr h1),h.ne,below_setRow h.bel hg _⟩
theorem RtC.pop {g p c':Nat} {y:List UInt8} (h:RtC w A n c hs ov os (.slice (some ⟨g,0,none⟩) (p+1) c') (ss++[y]) W) (hl:ss.length=p) (h32:H32 (ss++[y])):RtC w A n c hs ov os (.slice (some ⟨g,0,none⟩) p c') ss W:=by
 refine ⟨h.src,h.out,?_,fun b h1 h2=>h.ne b h1 h2,h.bel⟩
 have h1:=h.st
 rw [show (ss++[y]).length=p+1 by rw [List.length_append,hl];rfl] at h1
 have h2:=owns_fewerT (n:=p) h1 (by omega)
 rw [hcells_take _ h32 p (by rw [List.length_append,hl];simp),show (ss++[y]).take p=ss by rw [← hl];simp] at h2
 rw [hl]
 exact h2
end
set_option maxHeartbeats 4000000 in
set_option maxRecDepth 100000 in
theorem troots_any (hs : List (List UInt8)) (A : Option Addr) (n c : Nat) (w : World) (h : Hs w (fun _ => True) A n c hs) (hn : n ≤ 1000000) :
    Calls Tryz.prog 48 #[.slice A n c] w fun e w' => ∃ v, e = .returned v ∧ w'.ownsRow w.heap.size 53 32 v (n + 1) (hcells (headsL hs n)) ∧ Below w.heap.size w w' := by
  obtain ⟨zs, hzs⟩ : ∃ zs, zeroHash = zs := ⟨_, rfl⟩
  have hzl : zs.size = 32 := by rw [← hzs]; rfl
  have hroom := h.sl.room
  have hmax := h.sl.max
  unfold maxLen at hmax
  have hlen := h.len
  have h32 := h.all
  obtain ⟨z, hz⟩ : ∃ z, hEmpty = z := ⟨_, rfl⟩
  have hzel : z.length = 32 := by rw [← hz]; exact length_hEmpty
  have hem := fun W => hempty_any W
  rw [hz] at hem
  have hze32 : H32 [z] := by intro x hx; rw [List.mem_singleton.1 hx]; exact hzel
  have hh0 : headsL hs 0 = [z] := by rw [headsL_zero, hz]
  have h0 : Hs w (fun b => b < w.heap.size) A n c hs := h.weak (Y := fun b => b < w.heap.size) fun b hb _ => hb
  have Hzs := Lib.hid hzs
  have Hzl := Lib.hid hzl
  have Hlen := Lib.hid hlen
  have HH32 := Lib.hid h32
  have Hem := Lib.hid hem
  have Hh0 := Lib.hid hh0
  clear hzs hzl hlen h32 hem hz hh0 h
  go_enter Tryz.func48, Tryz.ntmps48
  go_wp2_with fail
  refine (Hem.out _).mono ?_
  rintro e w1 ⟨rfl, hb1⟩
  have hC1 : RtC w A n c hs (.slice (some ⟨w1.heap.size, 0, none⟩) 1 1) [z] (.slice none 0 0) [] (w1.alloc (.cells (hcells [z]).toArray 53)) :=
    ⟨(h0.step hb1).alloc _, World.ownsRow_lit (base := w.heap.size) (e := 53) (size := 32) w1 (hcells [z]).toArray 1 hb1.size (by unfold maxLen; decide) (by simp [hcells, hzel]), World.ownsRow_nil _ _ _ _, fun b h => by simp [Value.ownBlock] at h, hb1.alloc hb1.size _⟩
  go_wp2_with ((with_reducible show wpList _ _ _ (⟨some 11, .buildSlice _ _ _, _, _, _, _⟩ :: _) _ _); refine wpList_run rfl _ _ (run_lit_op [z] hze32 (by simp) (by simp) 1 _ rfl (by simp [Act.eval]) rfl _) ?_; simp only [Act.put])
  generalize w1.alloc (.cells (hcells [z]).toArray 53) = w2 at hC1 ⊢
  clear hb1 Hem hze32 hzel h0
  go_loopw [3, 4, 14] (fun a3 a4 a14 wr => ∃ (i : Nat) (ov sv : Value), i ≤ n ∧ a14 = .int .i64 (i : Int) ∧ ov = a3 ∧ sv = a4 ∧ RtC w A n c hs ov (headsL hs i) sv (rootsL hs (wholeL 0 i)) wr) (fun _ _ a14 _ => n - (intOf a14).toNat)
  case atStart => exact ⟨0, _, _, Nat.zero_le _, rfl, rfl, rfl, by rw [Hh0.out]; exact hC1⟩
  case round =>
    clear hC1
    obtain ⟨i, ov, sv, hi, rfl, rfl, rfl, hC⟩ := hrel
    by_cases hlt : i < n
    · obtain ⟨wo, hwo⟩ : ∃ wo : World, wo = wr := ⟨_, rfl⟩
      subst hwo
      have hil : i < hs.length := by rw [Hlen.out]; exact hlt
      obtain ⟨b, o, hA, hb, -, hat⟩ := hC.src.at_ (by omega)
      subst hA
      have hl0 := hat i hlt
      have hcar := CarryP.start hs i hil
      have hxl := HH32.out.getD i hil
      have hosl := length_headsL hs i
      have hos1 := headsL_succ hs i
      obtain ⟨os, hos⟩ : ∃ os, headsL hs i = os := ⟨_, rfl⟩
      obtain ⟨x0, hx0⟩ : ∃ x, hs.getD i [] = x := ⟨_, rfl⟩
      obtain ⟨ss0, hss0⟩ : ∃ ss, rootsL hs (wholeL 0 i) = ss := ⟨_, rfl⟩
      rw [hx0] at hl0 hcar hxl
      rw [hss0] at hcar hC
      rw [hos] at hC hosl hos1
      have k0 := Blk.new wo 53 zs
      have k1 := k0.setRow_ (x0.map B).toArray
      have hB1 : Below wo.heap.size wo ((wo.alloc (.cells zs 53)).setRow wo.heap.size (x0.map B).toArray) := below_setRow ((Below.refl _ _).alloc (Nat.le_refl _) _) (Nat.le_refl _) _
      have hC1 := hC.step hB1
      have hwo := hC.bel.size
      have hfr : ∀ b, sv.ownBlock = some b → b < wo.heap.size := fun b hb => (hC.st.lt b hb).2
      have hfo : ∀ b, ov.ownBlock = some b → b < wo.heap.size := fun b hb => (hC.out.lt b hb).2
      obtain ⟨W1, hW1⟩ : ∃ W1, (wo.alloc (.cells zs 53)).setRow wo.heap.size (x0.map B).toArray = W1 := ⟨_, rfl⟩
      rw [hW1] at k1 hC1
      have Hosl := Lib.hid hosl
      have Hos1 := Lib.hid hos1
      have Hxl := Lib.hid hxl
      have Hil := Lib.hid hil
      clear hB1 hat hC hos hx0 hss0 hosl hos1 hxl hil
      go_wp2_with (first
        | ((with_reducible show wpList _ _ _ (⟨some 18, .load _ _, _, _, _, _⟩ :: _) _ _); refine wpList_load rfl 53 (.tmp 17) rfl b (o + i * 32) rfl (x0.map B).toArray hl0 ?_; simp only [Act.put])
        | ((with_reducible show wpList _ _ _ (⟨some 6, .alloc _, _, _, _, _⟩ :: _) _ _); refine wpList_run rfl (.pointer (some ⟨wo.heap.size, 0, none⟩)) (wo.alloc (.cells zs 53)) (by rw [← Hzs.out]; rfl) ?_; simp only [Act.put])
        | ((with_reducible show wpList _ _ _ (⟨none, .store _ _ _, _, _, _, _⟩ :: _) _ _); refine wpList_store_blk rfl 53 (.tmp 6) (.tmp 18) rfl 32 size26 wo.heap.size (x0.map B).toArray rfl rfl (by simp [Hxl.out]) (oneCell_B _) 53 _ k0 Hzl.out ?_; simp only [Act.put]; rw [hW1]))
      clear hl0 k0 hW1 Hxl
      go_loopw [4, 7] (fun a4 a7 wr => ∃ (k t : Nat) (sv : Value) (ss : List (List UInt8)) (x : List UInt8), k ≤ i ∧ a7 = .int .i64 (k : Int) ∧ sv = a4 ∧ CarryP hs i k t ss x ∧ Blk wr wo.heap.size 53 (x.map B).toArray ∧ RtC w (some ⟨b, o, none⟩) n c hs ov os sv ss wr ∧ ∀ b, sv.ownBlock = some b → b < wo.heap.size) (fun _ a7 _ => (intOf a7).toNat)
      case atStart => exact ⟨i, 0, sv, ss0, x0, Nat.le_refl _, rfl, rfl, hcar, k1, hC1, hfr⟩
      case round =>
        clear hcar k1 hC1 hfr
        rename_i sv0
        obtain ⟨k, t, sv, ss, x, hk, rfl, rfl, hcar, hx, hC, hfr⟩ := hrel
        have hk1 := i64_and_one k (by omega)
        have hxl := hcar.len HH32.out
        rcases Nat.mod_two_eq_zero_or_one k with hm | hm
        · rw [hm] at hk1
          have hend := hcar.done hm
          have hssl : ss.length ≤ 64 := by
            rw [hcar.2.1, rootsL, List.length_map]
            have h1 := hcar.1
            exact wholeL_len 63 0 (k * 2 ^ t) (by generalize 2 ^ t = p at h1 ⊢; generalize k * p = y at h1 ⊢; omega)
          have hall := hcar.all HH32.out
          have hfold := foldR_head hs i Hil.out
          rw [← hend] at hfold
          have hx32 : H32 [x] := by intro h hh; rw [List.mem_singleton.1 hh]; exact hxl
          have hall2 : H32 (ss ++ [x]) := hall.append hx32
          have hrl : (rootL (hs.take (i + 1))).length = 32 := length_rootL _ (HH32.out.take (i + 1))
          obtain ⟨r, hr⟩ : ∃ r, rootL (hs.take (i + 1)) = r := ⟨_, rfl⟩
          have hos1 := Hos1.out
          rw [hr] at hfold hrl hos1
          have hr32 : H32 [r] := by intro h hh; rw [List.mem_singleton.1 hh]; exact hrl
          obtain ⟨v6, W6, hr6, ho6, hg6, hf6⟩ := append_hR hC.st x hxl (by omega) hC.bel.size
          have hC6 := hC.appSt hg6 hf6 ho6
          have k6 : Blk W6 wo.heap.size 53 (x.map B).toArray := hx.grown hg6 (by intro e; have := hfr _ e.symm; omega)
          have l1 := run_load_blk (P := Tryz.prog) (agg26 _) (size26 _) wo.heap.size (x.map B).toArray (by simp [hxl]) hx
          have l6 := run_load_blk (P := Tryz.prog) (agg26 _) (size26 _) wo.heap.size (x.map B).toArray (by simp [hxl]) k6
          obtain ⟨q, hq⟩ : ∃ q, ss.length = q := ⟨_, rfl⟩
          obtain ⟨m, hm2⟩ : ∃ m, (ss ++ [x]).length = m := ⟨_, rfl⟩
          have hmq : m = q + 1 := by rw [← hm2, List.length_append, hq]; rfl
          have hst := hC6.st
          rw [hm2] at hst
          obtain ⟨g, cs, rfl⟩ := owns_some hst (by omega)
          obtain ⟨As, c2, hv, hsst⟩ := Hs.of_owns hst hm2 hall2
          cases hv
          have hrp := hsst.sl.room
          have hmp := hsst.sl.max
          unfold maxLen at hmp
          have hgo : ∀ W, Below W6.heap.size W6 W → ∀ j, j < m → (Instr.loadAt 53 (.pointer (some ⟨g, j * 32, none⟩))).run Tryz.prog W = .ok (.agg (((ss ++ [x]).getD j []).map B).toArray) W := fun W hW j hj => by
            obtain ⟨b', o', hA', -, -, hat'⟩ := (hsst.step hW).at_ (by omega)
            cases hA'
            have := hat' j hj
            rw [Nat.zero_add] at this
            exact this
          have hlast : x = foldR ((ss ++ [x]).drop q) := by rw [← hq]; simp [foldR]
          have hdrop := fun j (hj : j < q) => foldR_drop (ss ++ [x]) j (by omega)
          have hgl := fun j (hj : j < m) => hall2.getD j (by omega)
          have hfl : ∀ j, j ≤ q → (foldR ((ss ++ [x]).drop j)).length = 32 := fun j hj => by
            rw [List.drop_eq_getElem_cons (by omega)]
            exact length_foldR _ _ (by rw [← List.drop_eq_getElem_cons (by omega)]; exact hall2.drop j)
          have hwk2 : IntKind.i64.wrap ((m : Int) - 2) = (q : Int) - 1 := by rw [IntWalk.i64_in _ (by omega)]; omega
          have k00 := Blk.new W6 53 zs
          have k8 := k00.setRow_ (x.map B).toArray
          have hB8 : Below W6.heap.size W6 ((W6.alloc (.cells zs 53)).setRow W6.heap.size (x.map B).toArray) := below_setRow ((Below.refl _ _).alloc (Nat.le_refl _) _) (Nat.le_refl _) _
          obtain ⟨W8, hW8⟩ : ∃ W8, (W6.alloc (.cells zs 53)).setRow W6.heap.size (x.map B).toArray = W8 := ⟨_, rfl⟩
          rw [hW8] at k8 hB8
          have hqm : q < m := by omega
          have hm1 : m ≤ 65 := by omega
          clear hmq
          have Hr6 := Lib.hid hr6
          have Hend := Lib.hid hend
          have Hfold := Lib.hid hfold
          have Hos2 := Lib.hid hos1
          have Hrl := Lib.hid hrl
          have Hxl := Lib.hid hxl
          have Hgo := Lib.hid hgo
          have Hdrop := Lib.hid hdrop
          have Hgl := Lib.hid hgl
          have Hfl := Lib.hid hfl
          have Hlast := Lib.hid hlast
          have Hx32 := Lib.hid hx32
          have Hr32 := Lib.hid hr32
          clear hr6 hend hfold hos1 hrl hxl hgo hdrop hgl hfl hlast hx32 hr32 hcar hall hall2 hst hsst ho6 hg6 hf6 hC hx k6 hr hq hm2 hfr hm
          go_wp2_with (first
            | ((with_reducible show wpList _ _ _ (⟨some 39, .load _ _, _, _, _, _⟩ :: _) _ _); refine wpList_load rfl 53 (.tmp 6) rfl wo.heap.size 0 rfl (x.map B).toArray l1 ?_; simp only [Act.put])
            | ((with_reducible show wpList _ _ _ (⟨some 40, .buildSlice _ _ _, _, _, _, _⟩ :: _) _ _); refine wpList_run rfl _ _ (run_lit_op [x] Hx32.out (by simp) (by simp) 1 _ rfl (by simp [Act.eval]) rfl _) ?_; simp only [Act.put])
            | ((with_reducible show wpList _ _ _ (⟨some 41, .call _, _, _, _, _⟩ :: _) _ _); refine wpList_run rfl (.slice (some ⟨g, 0, none⟩) m cs) W6 (run_append_op (.tmp 38) (.tmp 40) 49 rfl _ _ rfl rfl Hr6.out) ?_; simp only [Act.put])
            | ((with_reducible show wpList _ _ _ (⟨some 42, .load _ _, _, _, _, _⟩ :: _) _ _); refine wpList_load rfl 53 (.tmp 6) rfl wo.heap.size 0 rfl (x.map B).toArray l6 ?_; simp only [Act.put])
            | ((with_reducible show wpList _ _ _ (⟨some 8, .alloc _, _, _, _, _⟩ :: _) _ _); refine wpList_run rfl (.pointer (some ⟨W6.heap.size, 0, none⟩)) (W6.alloc (.cells zs 53)) (by rw [← Hzs.out]; rfl) ?_; simp only [Act.put])
            | ((with_reducible show wpList _ _ _ (⟨none, .store _ _ _, _, _, _, _⟩ :: _) _ _); refine wpList_store_blk rfl 53 (.tmp 8) (.tmp 42) rfl 32 size26 W6.heap.size (x.map B).toArray rfl rfl (by simp [Hxl.out]) (oneCell_B _) 53 _ k00 Hzl.out ?_; simp only [Act.put]; rw [hW8]))
          clear l1 l6 k00 hW8
          have hC8 := hC6
          have hx8 : x = foldR ((ss ++ [x]).drop q) := Hlast.out
          rw [hx8] at k8
          clear hx8
          generalize hst : ss ++ [x] = st at *
          go_loopw [9] (fun v W => ∃ j : Nat, j ≤ q ∧ v = .int .i64 ((j : Int) - 1) ∧ Blk W W6.heap.size 53 ((foldR (st.drop j)).map B).toArray ∧ Below W6.heap.size W6 W) (fun v _ => (intOf v + 1).toNat)
          case atStart => exact ⟨q, Nat.le_refl _, rfl, k8, hB8⟩
          case round =>
            clear k8 hB8 hwk2
            obtain ⟨j, hj, rfl, kl, hBl⟩ := hrel
            by_cases hj0 : j = 0
            · subst hj0
              rw [List.drop_zero, Hfold.out] at kl
              have hCl := hC6.step hBl
              obtain ⟨v9, W9, hr9, ho9, hg9, hf9⟩ := append_hR hCl.out r Hrl.out (by rw [Hosl.out]; omega) hCl.bel.size
              have hC9 := hCl.appOut hg9 hf9 ho9
              rw [← Hos2.out, Hend.out] at hC9
              have l8 := run_load_blk (P := Tryz.prog) (agg26 _) (size26 _) W6.heap.size (r.map B).toArray (by simp [Hrl.out]) kl
              have Hr9 := Lib.hid hr9
              clear hr9 ho9 hg9 hf9 hCl kl
              go_wp2_with (first
                | ((with_reducible show wpList _ _ _ (⟨some 57, .load _ _, _, _, _, _⟩ :: _) _ _); refine wpList_load rfl 53 (.tmp 8) rfl W6.heap.size 0 rfl (r.map B).toArray l8 ?_; simp only [Act.put])
                | ((with_reducible show wpList _ _ _ (⟨some 58, .buildSlice _ _ _, _, _, _, _⟩ :: _) _ _); refine wpList_run rfl _ _ (run_lit_op [r] Hr32.out (by simp) (by simp) 1 _ rfl (by simp [Act.eval]) rfl _) ?_; simp only [Act.put])
                | ((with_reducible show wpList _ _ _ (⟨some 59, .call _, _, _, _, _⟩ :: _) _ _); refine wpList_run rfl v9 W9 (run_append_op (.tmp 56) (.tmp 58) 49 rfl _ _ rfl rfl Hr9.out) ?_; simp only [Act.put]))
              refine ⟨⟨i + 1, v9, _, by omega, by go_num, rfl, rfl, hC9⟩, by simp [intOf]; omega⟩
            · obtain ⟨j', rfl⟩ : ∃ j', j = j' + 1 := ⟨j - 1, by omega⟩
              have ei : (((j' + 1 : Nat) : Int) - 1) = (j' : Int) := by omega
              rw [ei]
              clear ei hj0
              have hj'm : j' < m := by omega
              have hfd := Hdrop.out j' (by omega)
              have hyl := Hgl.out j' hj'm
              have hzl2 := Hfl.out (j' + 1) hj
              have hrl2 := Hfl.out j' (by omega)
              have hgo := fun W hW => Hgo.out W hW j' hj'm
              obtain ⟨y, hy⟩ : ∃ y, st.getD j' [] = y := ⟨_, rfl⟩
              obtain ⟨z2, hz2⟩ : ∃ z, foldR (st.drop (j' + 1)) = z := ⟨_, rfl⟩
              obtain ⟨u, hu⟩ : ∃ u, foldR (st.drop j') = u := ⟨_, rfl⟩
              rw [hy] at hyl hgo hfd
              rw [hz2] at hzl2 kl hfd
              rw [hu] at hrl2 hfd
              have hN := fun W => hnode_any y z2 W hyl hzl2
              rw [← hfd] at hN
              have HN := Lib.hid hN
              have Hyl := Lib.hid hyl
              have Hzl2 := Lib.hid hzl2
              have Hrl2 := Lib.hid hrl2
              have Hu := Lib.hid hu
              have Hg2 := Lib.hid hgo
              clear hN hyl hzl2 hrl2 hu hfd hy hz2 hgo
              go_wp2_with fail
              have hS : Below wr.heap.size wr wr.drew := (Below.refl _ _).drew
              refine wp_region_mix_last (fun W => Below wr.heap.size wr W) 6 [(0, true), (1, true), (2, true), (3, true), (4, true), (5, false)] (by kernel_rfl) (by kernel_rfl) hS fun _ => ?_
              simp only [List.map_cons, List.map_nil, Array.getD_eq_getD_getElem?, List.getElem?_toArray, List.getElem?_cons_succ, List.getElem?_cons_zero, Option.getD_some]
              generalize wr.drew = W0 at hS ⊢
              iterate 3 (refine wpMix_s (fun K hK => ?_); go_simp; refine hK _ ?_; clear hK K)
              refine wpMix_load (by kernel_rfl) 53 (.tmp 52) rfl (g) (j' * 32) rfl (y.map B).toArray (fun s => Hg2.out _ (hBl.trans (s.ok.mono hBl.size))) ?_
              simp only [Act.put]
              refine wpMix_load (by kernel_rfl) 53 (.tmp 8) rfl (W6.heap.size) (0) rfl (z2.map B).toArray (fun s => run_load_blk (agg26 _) (size26 _) _ _ (by simp [Hzl2.out]) (kl.below s.ok kl.lt)) ?_
              simp only [Act.put]
              refine wpMix_c (fun K hK => ?_) hS
              go_simp
              refine (HN.out W0).mono ?_
              rintro e W3 ⟨rfl, hb'⟩
              refine hK _ _ ?_
              clear hK K
              replace hS := hS.trans (hb'.mono hS.size)
              refine ⟨hS, ?_⟩
              clear hb'
              refine wpMix_nil ?_
              intro _
              simp only [List.drop_succ_cons, List.drop_zero]
              have k3 := kl.below hS kl.lt
              go_wp2_with ((with_reducible show wpList _ _ _ (⟨none, .store _ _ _, _, _, _, _⟩ :: _) _ _); refine wpList_store_blk rfl 53 (.tmp 8) (.tmp 55) rfl 32 size26 W6.heap.size (u.map B).toArray rfl rfl (by simp [Hrl2.out]) (oneCell_B _) 53 _ k3 (by simp [Hzl2.out]) ?_; simp only [Act.put])
              refine np_normal ?_
              go_wp2_with fail
              refine ⟨⟨j', by omega, by go_num, by rw [Hu.out]; exact k3.setRow_ _, below_setRow (hBl.trans (hS.mono hBl.size)) (Nat.le_refl _) _⟩, by simp [intOf]⟩
        · rw [hm] at hk1
          have hall := hcar.all HH32.out
          obtain ⟨ss', y, rfl, hcar2⟩ := hcar.next hm Hil.out
          have hyl : y.length = 32 := hall y (by simp)
          obtain ⟨p, hp⟩ : ∃ p, ss'.length = p := ⟨_, rfl⟩
          have hst := hC.st
          rw [show (ss' ++ [y]).length = p + 1 by rw [List.length_append, hp]; rfl] at hst
          obtain ⟨g, cs, rfl⟩ := owns_some hst (by omega)
          obtain ⟨As, c2, hv, hsst⟩ := Hs.of_owns hst (by rw [List.length_append, hp]; rfl) hall
          cases hv
          have hrp := hsst.sl.room
          have hmp := hsst.sl.max
          unfold maxLen at hmp
          have hgo : ∀ W, Below wr.heap.size wr W → (Instr.loadAt 53 (.pointer (some ⟨g, p * 32, none⟩))).run Tryz.prog W = .ok (.agg (y.map B).toArray) W := fun W hW => by
            obtain ⟨b', o', hA', -, -, hat'⟩ := (hsst.step hW).at_ (by omega)
            cases hA'
            have := hat' p (by omega)
            rw [show (ss' ++ [y]).getD p [] = y by rw [← hp]; simp [List.getD_eq_getElem?_getD], Nat.zero_add] at this
            exact this
          have hN := fun W => hnode_any y x W hyl hxl
          have hnl := length_hNode y x
          obtain ⟨u, hu⟩ : ∃ u, hNode y x = u := ⟨_, rfl⟩
          rw [hu] at hN hnl hcar2
          obtain ⟨k2, hk2⟩ : ∃ k2, k / 2 = k2 := ⟨_, rfl⟩
          have hdv : (k : Int) / 2 = (k2 : Int) := by omega
          rw [hk2] at hcar2
          have hwp : IntKind.i64.wrap ((p : Int) + 1 - 1) = (p : Int) := by rw [IntWalk.i64_in _ (by omega)]; omega
          have hwp2 : IntKind.i64.wrap (p : Int) = (p : Int) := IntWalk.i64_in _ (by omega)
          have hpi : (p : Int) < (p : Int) + 1 := by omega
          have hk2k : k2 < k := by omega
          have Hcar2 := Lib.hid hcar2
          have Hgo := Lib.hid hgo
          have HN := Lib.hid hN
          have Hnl := Lib.hid hnl
          have Hxl := Lib.hid hxl
          have Hall := Lib.hid hall
          have Hp := Lib.hid hp
          clear hcar hcar2 hgo hN hnl hxl hall hyl hp hst hsst hu hk2 hm
          go_wp2_with fail
          have hS : Below wr.heap.size wr wr.drew := (Below.refl _ _).drew
          refine wp_region_mix_last (fun W => Below wr.heap.size wr W) 8 [(0, true), (1, true), (2, true), (3, true), (4, true), (5, true), (6, true), (7, false)] (by kernel_rfl) (by kernel_rfl) hS fun _ => ?_
          simp only [List.map_cons, List.map_nil, Array.getD_eq_getD_getElem?, List.getElem?_toArray, List.getElem?_cons_succ, List.getElem?_cons_zero, Option.getD_some]
          generalize wr.drew = W0 at hS ⊢
          iterate 5 (refine wpMix_s (fun K hK => ?_); go_simp; refine hK _ ?_; clear hK K)
          refine wpMix_load (by kernel_rfl) 53 (.tmp 29) rfl (g) (p * 32) rfl (y.map B).toArray (fun s => Hgo.out _ s.ok) ?_
          simp only [Act.put]
          refine wpMix_load (by kernel_rfl) 53 (.tmp 6) rfl (wo.heap.size) (0) rfl (x.map B).toArray (fun s => run_load_blk (agg26 _) (size26 _) _ _ (by simp [Hxl.out]) (hx.below s.ok hx.lt)) ?_
          simp only [Act.put]
          refine wpMix_c (fun K hK => ?_) hS
          go_simp
          refine (HN.out W0).mono ?_
          rintro e W3 ⟨rfl, hb'⟩
          refine hK _ _ ?_
          clear hK K
          replace hS := hS.trans (hb'.mono hS.size)
          refine ⟨hS, ?_⟩
          clear hb'
          refine wpMix_nil ?_
          intro _
          simp only [List.drop_succ_cons, List.drop_zero]
          have k3 := hx.below hS hx.lt
          have hC4 := (hC.step hS).setRow (g := wo.heap.size) (u.map B).toArray hwo (fun e => by have := hfr _ e; omega) (fun e => by have := hfo _ e; omega)
          have k4 := k3.setRow_ (u.map B).toArray
          go_wp2_with ((with_reducible show wpList _ _ _ (⟨none, .store _ _ _, _, _, _, _⟩ :: _) _ _); refine wpList_store_blk rfl 53 (.tmp 6) (.tmp 32) rfl 32 size26 wo.heap.size (u.map B).toArray rfl rfl (by simp [Hnl.out]) (oneCell_B _) 53 _ k3 (by simp [Hxl.out]) ?_; simp only [Act.put])
          refine np_normal ?_
          generalize W3.setRow wo.heap.size (u.map B).toArray = W4 at hC4 k4 ⊢
          go_wp2_with ((with_reducible show wpList _ _ _ (⟨some 37, .slice _ _ _ _ _, _, _, _, _⟩ :: _) _ _); refine wpList_run0 rfl (.slice (some ⟨g, 0, none⟩) p cs) (run_slice_op_hi (.tmp 33) (.tmp 36) rfl (some ⟨g, 0, none⟩) (p + 1) cs p rfl rfl (by omega) _) ?_; simp only [Act.put])
          refine ⟨⟨k2, t + 1, _, ss', u, by omega, by go_num, rfl, Hcar2.out, k4, hC4.pop Hp.out Hall.out, fun b h => hfr b h⟩, by simp [intOf]; omega⟩
    · obtain rfl : i = n := by omega
      have ho := hC.out
      rw [length_headsL] at ho
      have hb := hC.bel
      clear hC
      go_wp2_with fail
      go_ret
      exact ⟨_, rfl, ho, hb⟩
end Go.Proofs.YtdjhoankkddomaaGreat
namespace Go.Proofs.YtdjhoankkddomaaGreat
open Go Go.RowKit
def zeroL:List UInt8:=List.replicate 32 0
def stretchR (hs:List (List UInt8)) (a b:Int):List UInt8 × Int:=if 0≤a∧a<b∧b≤hs.length then (stretchL hs a.toNat b.toNat,0) else (zeroL,4)
theorem length_stretchR (hs:List (List UInt8)) (a b:Int) (h:H32 hs):(stretchR hs a b).1.length=32:=by
 unfold stretchR
 split
 ·exact length_stretchL hs _ _ h
 ·rfl
theorem tstretch_any (hs:List (List UInt8)) (A:Option Addr) (n c:Nat) (w:World) (a b:Int) (h:Hs w (fun _=>True) A n c hs) (hn:n≤4398046511104) :
  Calls Tryz.prog 113 #[.slice A n c,.agg #[.int .i64 a,.int .i64 b]] w fun e w'=>e = .returned (.tuple #[.agg ((stretchR hs a b).1.map B).toArray,.int .i64 (stretchR hs a b).2])∧Below w.heap.size w w':=by
 have hl:=h.len
 unfold stretchR
 by_cases hc:0≤a∧a<b∧b≤hs.length
 ·rw [if_pos hc]
  obtain ⟨x,rfl⟩:∃ x:Nat,a=(x:Int):=⟨a.toNat,by omega⟩
  obtain ⟨y,rfl⟩:∃ y:Nat,b=(y:Int):=⟨b.toNat,by omega⟩
  rw [Int.toNat_natCast,Int.toNat_natCast]
  exact tstretch_ok hs A n c w x y h hn (by omega) (by omega)
 ·rw [if_neg hc]
  exact tstretch_bad A n c w a b (by omega)
end Go.Proofs.YtdjhoankkddomaaGreat
namespace Go.Proofs.YtdjhoankkddomaaGreat
open Go Go.RowKit
def okR (hs:List (List UInt8)) (x:Int × Int):Bool:=decide ((stretchR hs x.1 x.2).2=0)
def goodL (hs:List (List UInt8)) (l:List (Int × Int)):List (Int × Int):=l.filter (okR hs)
def cntL (hs:List (List UInt8)) (l:List (Int × Int)) (k:Nat):Nat:=(goodL hs (l.take k)).length
theorem cntL_all (hs:List (List UInt8)) (l:List (Int × Int)):cntL hs l l.length=(goodL hs l).length:=by unfold cntL;rw [List.take_length]
theorem take_snoc (l:List (Int × Int)) (k:Nat) (h:k<l.length):l.take (k+1)=l.take k++[l.getD k (0,0)]:=by
 rw [List.take_succ_eq_append_getElem h,List.getD_eq_getElem?_getD,List.getElem?_eq_getElem h];rfl
theorem cntL_ok (hs:List (List UInt8)) (l:List (Int × Int)) (k:Nat) (h:k<l.length) (ho:(stretchR hs (l.getD k (0,0)).1 (l.getD k (0,0)).2).2=0):cntL hs l (k+1)=cntL hs l k+1:=by
 unfold cntL goodL
 rw [take_snoc l k h,List.filter_append,List.length_append,List.filter_cons_of_pos (by unfold okR;exact decide_eq_true ho)]
 rfl
theorem cntL_bad (hs:List (List UInt8)) (l:List (Int × Int)) (k:Nat) (h:k<l.length) (ho:(stretchR hs (l.getD k (0,0)).1 (l.getD k (0,0)).2).2≠0):cntL hs l (k+1)=cntL hs l k:=by
 unfold cntL goodL
 rw [take_snoc l k h,List.filter_append,List.length_append,List.filter_cons_of_neg (by unfold okR;simpa using ho)]
 rfl
theorem goodL_at (hs:List (List UInt8)) (l:List (Int × Int)) (k:Nat) (h:k<l.length) (ho:(stretchR hs (l.getD k (0,0)).1 (l.getD k (0,0)).2).2=0):cntL hs l k<(goodL hs l).length∧(goodL hs l).getD (cntL hs l k) (0,0)=l.getD k (0,0):=by
 have e:goodL hs l=goodL hs (l.take k)++l.getD k (0,0)::goodL hs (l.drop (k+1)):=by
  conv=>lhs;rw [← List.take_append_drop k l,List.drop_eq_getElem_cons h]
  have hg:l[k]=l.getD k (0,0):=by rw [List.getD_eq_getElem?_getD,List.getElem?_eq_getElem h];rfl
  unfold goodL
  rw [hg,List.filter_append,List.filter_cons_of_pos (by unfold okR;exact decide_eq_true ho)]
 unfold cntL
 rw [e]
 constructor
 ·rw [List.length_append,List.length_cons];omega
 ·rw [List.getD_eq_getElem?_getD,List.getElem?_append_right (Nat.le_refl _),Nat.sub_self];rfl
end Go.Proofs.YtdjhoankkddomaaGreat
namespace Go.Proofs.YtdjhoankkddomaaGreat
open Go Go.RowKit
structure SmC (w:World) (A A':Option Addr) (n c c':Nat) (hs:List (List UInt8)) (W:World):Prop where
 h1:Hs W (fun _=>True) A n c hs
 h2:Hs W (fun _=>True) A' n c' hs
 bel:Below w.heap.size w W
theorem SmC.drew {w W:World} {A A':Option Addr} {n c c':Nat} {hs:List (List UInt8)} (h:SmC w A A' n c c' hs W):SmC w A A' n c c' hs W.drew:=⟨h.h1.drew,h.h2.drew,h.bel.drew⟩
set_option maxHeartbeats 1000000 in
set_option maxRecDepth 100000 in
theorem sameh_any (hs:List (List UInt8)) (A A':Option Addr) (n c c':Nat) (w:World) (h1:Hs w (fun _=>True) A n c hs) (h2:Hs w (fun _=>True) A' n c' hs) (hn:n≤4398046511104) :
  Calls Tryz.prog 45 #[.slice A n c,.slice A' n c'] w fun e w'=>e = .returned (.bool true)∧Below w.heap.size w w':=by
 have hlen:=h1.len
 have hc1:=h1.sl.room
 have hc2:=h2.sl.room
 have hC0:SmC w A A' n c c' hs w:=⟨h1,h2,Below.refl _ _⟩
 clear h1 h2
 have Hlen:=Lib.hid hlen
 clear hlen
 go_enter Tryz.func45,Tryz.ntmps45
 go_wp2_with fail
 go_loopw [5] (fun v wr=>∃ (q:Nat),q≤n∧v = .int .i64 q∧SmC w A A' n c c' hs wr) (fun v _=>n - (intOf v).toNat)
 case atStart=>exact ⟨0,by omega,rfl,hC0⟩
 case round =>
  clear hC0
  obtain ⟨q,hq,rfl,hC⟩:=hrel
  by_cases hlq:q<n
  ·obtain ⟨b1,o1,hA1,-,-,-⟩:=hC.h1.at_ (by omega)
   obtain ⟨b2,o2,hA2,-,-,-⟩:=hC.h2.at_ (by omega)
   subst hA1 hA2
   obtain ⟨x,hx⟩:∃ x,hs.getD q []=x:=⟨_,rfl⟩
   have hxl:x.length=32:=by rw [← hx];exact hC.h1.all.getD q (by rw [Hlen.out];exact hlq)
   have l1:∀ s:InC (SmC w (some ⟨b1,o1,none⟩) (some ⟨b2,o2,none⟩) n c c' hs),(Instr.loadAt 53 (.pointer (some ⟨b1,o1+q*32,none⟩))).run Tryz.prog s.W = .ok (.agg (x.map B).toArray) s.W:=fun s=>by
    obtain ⟨b,o,hA,-,-,hld⟩:=s.ok.h1.at_ (by omega)
    cases hA
    rw [← hx];exact hld q hlq
   have l2:∀ s:InC (SmC w (some ⟨b1,o1,none⟩) (some ⟨b2,o2,none⟩) n c c' hs),(Instr.loadAt 53 (.pointer (some ⟨b2,o2+q*32,none⟩))).run Tryz.prog s.W = .ok (.agg (x.map B).toArray) s.W:=fun s=>by
    obtain ⟨b,o,hA,-,-,hld⟩:=s.ok.h2.at_ (by omega)
    cases hA
    rw [← hx];exact hld q hlq
   have Hx:=Lib.hid hx
   have Hxl:=Lib.hid hxl
   have Hl1:=Lib.hid l1
   have Hl2:=Lib.hid l2
   clear hx hxl l1 l2
   go_upto_region 6 with fail
   refine wp_region_mix (SmC w (some ⟨b1,o1,none⟩) (some ⟨b2,o2,none⟩) n c c' hs) [(0,true),(1,true),(2,true),(3,true),(4,true),(5,true),(6,true),(7,true),(8,true)] (by kernel_rfl) (by kernel_rfl) hC.drew fun _=>?_
   simp only [List.map_cons,List.map_nil,Array.getD_eq_getD_getElem?,List.getElem?_toArray,List.getElem?_cons_succ,List.getElem?_cons_zero,Option.getD_some]
   iterate 3 (refine wpMix_s (fun K hK=>?_);go_simp;refine hK _ ?_;clear hK K)
   refine wpMix_load (by kernel_rfl) 53 (.tmp 19) rfl b1 (o1+q*32) rfl (x.map B).toArray Hl1.out ?_
   simp only [Act.put]
   iterate 3 (refine wpMix_s (fun K hK=>?_);go_simp;refine hK _ ?_;clear hK K)
   refine wpMix_load (by kernel_rfl) 53 (.tmp 23) rfl b2 (o2+q*32) rfl (x.map B).toArray Hl2.out ?_
   simp only [Act.put]
   refine wpMix_v (by kernel_rfl) (.bool false) (fun s=>run_neq26_f (.tmp 20) (.tmp 24) _ x x rfl rfl rfl Hxl.out Hxl.out rfl s.W) ?_
   simp only [Act.put]
   refine wpMix_nil ?_
   intro hC1
   generalize wr.drew=W1 at hC1 ⊢
   go_wp2_with fail
   refine ⟨⟨q+1,by omega,by go_num,hC1⟩,by simp [intOf];omega⟩
  ·have hqn:q=n:=by omega
   subst hqn
   go_wp2_with fail
   go_ret
   exact ⟨rfl,hC.bel⟩
end Go.Proofs.YtdjhoankkddomaaGreat
