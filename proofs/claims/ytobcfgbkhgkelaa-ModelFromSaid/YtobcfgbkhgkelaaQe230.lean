/- notarylaw24.nothing: a model that is not there answers nothing. -/
import Derived.Test.YtobcfgbkhgkelaaQe228
import Derived.Test.YtobcfgbkhgkelaaQe225
import Derived.Test.YtobcfgbkhgkelaaQe216
import Derived.Test.YtobcfgbkhgkelaaQe210
import Derived.Test.YtobcfgbkhgkelaaQe213
import Derived.Test.YtobcfgbkhgkelaaQe224
import Derived.Test.YtobcfgbkhgkelaaQe227
namespace Go.Proofs.Ytobcfgbkhgkelaa
open Go Go.RowKit Go.Shelf
attribute [local go_sem] Oper.semAt_some

theorem fdAgg : ∀ w : World, (isAgg 30).run Try.prog w = .ok true w := fun _ => by kernel_rfl
theorem fdSize : ∀ w : World, (sizeOf 30).run Try.prog w = .ok 38 w := fun _ => by kernel_rfl
theorem neqPt_f {ρ : Operand → Value} {o : Oper} (a b : Operand) (ty : TypeId) (ho : o.op = .binOp .neq 28 a b ty) (ha : ρ a = .agg (Value.int .i64 0 :: zh.map B).toArray) (hb : ρ b = .agg zptC) (W : World) : (execOp ρ o).run Try.prog W = .ok (.value (.bool false)) W := by
  have := neqPt_op a b ty 0 0 zh zh ho ha hb zh32 zh32 W
  rwa [ptEq_self] at this
theorem neqH_f {ρ : Operand → Value} {o : Oper} (a b : Operand) (ty : TypeId) (ho : o.op = .binOp .neq 26 a b ty) (ha : ρ a = .agg (zh.map B).toArray) (hb : ρ b = .agg zhC) (W : World) : (execOp ρ o).run Try.prog W = .ok (.value (.bool false)) W :=
  run_neq26_f a b ty zh zh ho ha hb zh32 zh32 rfl W
theorem loadN_op {P : Program} {ρ : Operand → Value} {o : Oper} {w : World} {v : Value} (ty : TypeId) (x : Operand) (g : Nat) (ho : o.op = .load ty x) (hx : ρ x = .pointer (some ⟨g, 0, none⟩)) (h : (Instr.loadAt ty (.pointer (some ⟨g, 0, none⟩))).run P w = .ok v w) : (execOp ρ o).run P w = .ok (.value v) w := by
  unfold execOp
  simp only [ho, hx, Sem.run_bind, Sem.run_pure, h, Result.andThen_ok]
theorem resB {fn : Func} {p : Tmp} (h : fn.results = #[.cell p 4]) (tmps : Array Value) (w : World) (g : Nat) (b : Bool) (hp : tmps.getD p undef = .pointer (some ⟨g, 0, none⟩)) (hg : Blk w g 4 #[.bool b]) :
    (results fn tmps).run Try.prog w = .ok (.bool b) w := by
  have hp' : tmps[p]?.getD undef = .pointer (some ⟨g, 0, none⟩) := by simpa using hp
  have hc : w.cell? ⟨g, 0, none⟩ = some (.bool b) := by rw [hg.cell]; rfl
  have hagg : ∀ w : World, (isAgg 4).run Try.prog w = .ok false w := fun _ => by kernel_rfl
  simp [results, h, hp', asAddr, loadVar, hagg, hc, go_sem]
/-- what is known in 'nothing' -/
structure NtC (w : World) (v : Value) (fc : Array Value) (W : World) : Prop where
  no : NoM W v
  b7 : Blk W w.heap.size 30 fc
  b8 : Blk W (w.heap.size + 1) 4 #[.bool false]
  bel : Below w.heap.size w W
section
variable {w W W' : World} {v : Value} {fc : Array Value} {g : Nat}
theorem NtC.step (h : NtC w v fc W) (hb : Below W.heap.size W W') : NtC w v fc W' := ⟨h.no.step hb, h.b7.step hb, h.b8.step hb, h.bel.trans (hb.mono h.bel.size)⟩
theorem NoM.grown {row : Option Nat} {N : Nat} (h : NoM W v) (hlt : ∀ g, v = .pointer (some ⟨g, 0, none⟩) → g < N) (hg : W.grownBy W' row) (hr : ∀ r, row = some r → N ≤ r) : NoM W' v := by
  rcases h with h | ⟨g, cs, h1, h2, h3⟩
  · exact .inl h
  · exact .inr ⟨g, cs, h1, h2.grown hg (fun e => by have := hr g e.symm; have := hlt g h1; omega), h3⟩
/-- and behind the boxes of a range: g is a hash of its own -/
structure NtI (w : World) (v : Value) (fc : Array Value) (g : Nat) (W : World) : Prop where
  c : NtC w v fc W
  b18 : HV W g zh
  lt : ∀ b, v = .pointer (some ⟨b, 0, none⟩) → b < w.heap.size
theorem NtI.own_ {N : Nat} (hN : w.heap.size + 1 < N) (hg : g < N) : OwnFrom N (fun (_ : Nat) W => NtI w v fc g W) := fun _ _ _ row h hw hr =>
  have hne : ∀ b, b < N → some b ≠ row := fun b hb e => by have := (hr b e.symm).1; omega
  ⟨⟨h.c.no.grown h.lt hw (fun r e => by have := (hr r e).1; omega), h.c.b7.grown hw (hne _ (by omega)), h.c.b8.grown hw (hne _ (by omega)), h.c.bel.grown hw h.c.bel.size (fun r e => by have := (hr r e).1; omega)⟩,
   ⟨h.b18.blk.grown hw (hne _ hg), h.b18.len⟩, h.lt⟩
end
set_option maxHeartbeats 16000000 in
set_option maxRecDepth 100000 in
theorem nothing_any (w : World) (v : Value) (h : NoM w v) (A : Option Addr) (n c : Nat) (k : Int) (fc : Array Value) (hfc : fc.size = 38) :
    Calls Try.prog 7 #[v, .slice A n c, .int .i64 k, .agg fc] w fun e w' => e = .returned (.bool true) ∧ Below w.heap.size w w' := by
  have hlt : ∀ b, v = .pointer (some ⟨b, 0, none⟩) → b < w.heap.size := by
    intro b e
    rcases h with h | ⟨g, cs, h1, h2, -⟩
    · rw [h] at e; cases e
    · rw [h1] at e; cases e; exact h2.lt
  obtain ⟨w2, hw2⟩ : ∃ x, (w.alloc (.cells fc 30)).alloc (.cells #[.bool false] 4) = x := ⟨_, rfl⟩
  have B2 : Below w.heap.size w w2 := by rw [← hw2]; exact ((Below.refl _ _).alloc (Nat.le_refl _) _).alloc (by simp) _
  have C2 : NtC w v fc w2 := ⟨h.step B2, by rw [← hw2]; exact (Blk.new _ _ _).alloc _, by rw [← hw2]; exact Blk.new' _ _ _ _ (by simp), B2⟩
  have hz2 : w2.heap.size = w.heap.size + 2 := by rw [← hw2]; simp
  have Hw2 := Lib.hid hw2
  clear hw2 B2 h
  refine (callsIn_wide (n := 5)).1 ?_
  refine callsIn_of_wp_marks Try.func7 rfl trivial ?_ rfl
  simp only [Try.ntmps7, List.size_toArray, List.length_cons, List.length_nil, Nat.reduceAdd, Nat.reduceSub, Array.replicate_succ, Array.replicate_zero, List.push_toArray, List.append_toArray, List.nil_append, List.cons_append]
  refine wpIn_wide.2 ?_
  go_wp2_with ((with_reducible show wpList _ _ _ (⟨some 7, .box _ _, _, _, _, _⟩ :: _) _ _); refine wpList_run rfl (.pointer (some ⟨w.heap.size, 0, none⟩)) (w.alloc (.cells fc 30)) (by rfl) ?_; simp only [Act.put])
  rw [Hw2.out]
  refine (mflush_no C2.no).mono ?_
  rintro e w' ⟨rfl, hw⟩
  obtain rfl := hw.symm
  go_wp2_with fail
  refine (mpublish_no C2.no).mono ?_
  rintro e w3 ⟨rfl, b3⟩
  have C3 := C2.step b3
  have hz3 := b3.size
  clear C2 b3
  go_wp2_with (first
    | ((with_reducible show wpList _ _ _ (⟨some 12, .alloc _, _, _, _, _⟩ :: _) _ _); refine wpList_pnv (n := 0) (l := zh) (.tmp 12) (.tmp 36) rfl rfl rfl rfl rfl rfl zh32 ?_; intro w4 p4 b4; simp only [Act.put]))
  have C4 := C3.step b4
  refine (mread_no C4.no).mono ?_
  rintro e w' ⟨rfl, hw⟩
  obtain rfl := hw.symm
  clear C3
  go_wp2_with fail
  refine (mlast_no C4.no).mono ?_
  rintro e w5 ⟨rfl, b5⟩
  have C5 := C4.step b5
  have p5 := p4.step b5
  have hz4 := b4.size
  have hz5 := b5.size
  clear C4 p4 b5 b4
  go_wp2_with ((with_reducible show wpList _ _ _ (⟨some 16, .alloc _, _, _, _, _⟩ :: _) _ _); refine wpList_pnv (n := 0) (l := zh) (.tmp 16) (.tmp 47) rfl rfl rfl rfl rfl rfl zh32 ?_; intro w6 p6 b6; simp only [Act.put])
  have C6 := C5.step b6
  have q6 := p5.step b6
  clear C5 p5
  refine (msubmit_no C6.no).mono ?_
  rintro e w' ⟨rfl, hw⟩
  obtain rfl := hw.symm
  go_wp2_with (first
    | (go_at_call 31; refine (msettle_no C6.no).mono ?_; rintro e w' ⟨rfl, hw⟩; obtain rfl := hw.symm)
    | ((with_reducible show wpList _ _ _ (⟨some 71, .load _ _, _, _, _, _⟩ :: _) _ _); refine wpList_runG (by kernel_rfl) _ _ (loadN_op 28 (.tmp 12) w3.heap.size rfl rfl q6.load) ?_; simp only [Act.put])
    | ((with_reducible show wpList _ _ _ (⟨some 72, .build _ _, _, _, _, _⟩ :: _) _ _); refine wpList_runG (by kernel_rfl) _ _ (build0_op rfl built0_pt _) ?_; simp only [Act.put])
    | ((with_reducible show wpList _ _ _ (⟨some 73, .binOp _ _ _ _ _, _, _, _, _⟩ :: _) _ _); refine wpList_runG (by kernel_rfl) (.bool false) _ (neqPt_f (.tmp 71) (.tmp 72) _ rfl rfl rfl _) ?_; simp only [Act.put])
    | ((with_reducible show wpList _ _ _ (⟨some 89, .load _ _, _, _, _, _⟩ :: _) _ _); refine wpList_runG (by kernel_rfl) _ _ (loadN_op 28 (.tmp 16) w5.heap.size rfl rfl p6.load) ?_; simp only [Act.put])
    | ((with_reducible show wpList _ _ _ (⟨some 90, .build _ _, _, _, _, _⟩ :: _) _ _); refine wpList_runG (by kernel_rfl) _ _ (build0_op rfl built0_pt _) ?_; simp only [Act.put])
    | ((with_reducible show wpList _ _ _ (⟨some 91, .binOp _ _ _ _ _, _, _, _, _⟩ :: _) _ _); refine wpList_runG (by kernel_rfl) (.bool false) _ (neqPt_f (.tmp 89) (.tmp 90) _ rfl rfl rfl _) ?_; simp only [Act.put]))
  have hz6 := b6.size
  clear p6 q6 b6
  refine (mroot_no C6.no).mono ?_
  rintro e w7 ⟨rfl, b7⟩
  have C7 := C6.step b7
  have hz7 := b7.size
  clear C6 b7
  go_wp2_with ((with_reducible show wpList _ _ _ (⟨some 18, .alloc _, _, _, _, _⟩ :: _) _ _); refine wpList_hvar (l := zh) (.tmp 18) (.tmp 100) rfl rfl rfl rfl rfl rfl zh32 ?_; intro w8 p8 b8; simp only [Act.put])
  have C8 := C7.step b8
  refine (mfront_no C8.no).mono ?_
  rintro e w' ⟨rfl, hw⟩
  obtain rfl := hw.symm
  have hz8 := b8.size
  clear C7 b8
  go_wp2_with (first
    | (go_at_call 28; refine (mincl_no C8.no).mono ?_; rintro e w' ⟨rfl, hw⟩; obtain rfl := hw.symm)
    | (go_at_call 25; refine (mcons_no C8.no).mono ?_; rintro e w' ⟨rfl, hw⟩; obtain rfl := hw.symm))
  refine (mall_no C8.no).mono ?_
  rintro e w9 ⟨ga, ga', rfl, ka, hga, b9⟩
  have C9 := C8.step b9
  have p9 : HV w9 w7.heap.size zh := p8.step b9
  have hz9 := b9.size
  have hg9 := ka.lt
  have hl8 := p8.lt
  clear C8 p8 b9
  have hI : NtI w v fc w7.heap.size w9 := ⟨C9, p9, hlt⟩
  have HI := Lib.hid hI
  clear C9 p9 hI
  go_wp2_with ((with_reducible show wpList _ _ _ (⟨some 126, .binOp _ _ _ _ _, _, _, _, _⟩ :: _) _ _); refine wpList_runG (by kernel_rfl) (.bool false) w9 (by kernel_rfl) ?_; simp only [Act.put])
  refine wp_range_U (gf := 65) (lb := #[.pointer (some ⟨ga, 0, none⟩), .pointer (some ⟨ga', 0, none⟩)]) rfl (enters_of Try.func65 (by kernel_rfl) rfl)
    (all0_seq ga ga' (fun _ => False) w9 ka) (fun n₁ k vs W h => h.elim)
    (fun _ _ => NtI w v fc w7.heap.size) (fun _ _ _ _ => False) (fun _ => NtI.own_ (by omega) (by omega)) (fun _ _ _ _ _ _ h _ _ => h) (fun _ _ => HI.out) ?round ?done ?stop
  case round => exact fun _ _ _ _ _ _ _ _ _ _ hy => hy.elim
  case stop => exact fun _ _ _ _ _ _ _ _ h => h.elim
  case done =>
    clear HI ka
    intro D n₁ X hD hDn hI hK
    have p18 := hI.b18
    go_wp2_with (first
    | ((with_reducible show wpList _ _ _ (⟨some 130, .load _ _, _, _, _, _⟩ :: _) _ _); refine wpList_runG (by kernel_rfl) _ _ (loadN_op 26 (.tmp 18) w7.heap.size rfl rfl p18.load) ?_; simp only [Act.put])
    | ((with_reducible show wpList _ _ _ (⟨some 131, .build _ _, _, _, _, _⟩ :: _) _ _); refine wpList_runG (by kernel_rfl) _ _ (build0_op rfl built0_h _) ?_; simp only [Act.put])
    | ((with_reducible show wpList _ _ _ (⟨some 132, .binOp _ _ _ _ _, _, _, _, _⟩ :: _) _ _); refine wpList_runG (by kernel_rfl) (.bool false) _ (neqH_f (.tmp 130) (.tmp 131) _ rfl rfl rfl _) ?_; simp only [Act.put])
    | (go_at_call 34; refine (mfail_no hI.c.no).mono ?_; rintro e w' ⟨rfl, hw⟩; obtain rfl := hw.symm)
    | (go_at_call 13; refine (msize_no hI.c.no).mono ?_; rintro e w' ⟨rfl, hw⟩; obtain rfl := hw.symm)
    | (go_at_call 35; refine (mwait_no hI.c.no).mono ?_; rintro e w' ⟨rfl, hw⟩; obtain rfl := hw.symm))
    clear p18
    refine (mjob_no hI.c.no).mono ?_
    rintro e x1 ⟨rfl, b1⟩
    have c1 := hI.c.step b1
    have k1 := ((MarksOk.nil w.heap.size X).cons (show w.heap.size ≤ D by omega) hK (by simp)).step b1
    clear hI hK b1
    have hld : (Instr.loadAt 30 (.pointer (some ⟨w.heap.size, 0, none⟩))).run Try.prog x1 = .ok (.agg fc.toList.toArray) x1 :=
      run_load_agg (fdAgg _) (fdSize _) w.heap.size 0 fc.toList (by simpa using hfc) fun j u hu => by
        rw [c1.b7.cell, Nat.zero_add, ← Array.getElem?_toList]; exact hu
    have Hld := Lib.hid hld
    clear hld
    go_wp2_with (first
    | ((with_reducible show wpList _ _ _ (⟨some 176, .build _ _, _, _, _, _⟩ :: _) _ _); refine wpList_runG (by kernel_rfl) _ _ (build0_op rfl built0_cf _) ?_; simp only [Act.put])
    | ((with_reducible show wpList _ _ _ (⟨some 177, .binOp _ _ _ _ _, _, _, _, _⟩ :: _) _ _); refine wpList_runG (by kernel_rfl) (.bool true) x1 (by kernel_rfl) ?_; simp only [Act.put])
    | (go_at_call 37; refine (monly_no c1.no).mono ?_; rintro e w' ⟨rfl, hw⟩; obtain rfl := hw.symm)
    | ((with_reducible show wpList _ _ _ (⟨some 186, .load _ _, _, _, _, _⟩ :: _) _ _); refine wpList_runG (by kernel_rfl) (.agg fc) _ (loadN_op 30 (.tmp 7) w.heap.size rfl rfl Hld.out) ?_; simp only [Act.put]))
    refine (mallows_no c1.no fc).mono ?_
    rintro e x2 ⟨rfl, b2⟩
    have c2 := c1.step b2
    have k2 := k1.step b2
    clear c1 k1 b2 Hld
    have d8 : x2.cell? ⟨w.heap.size + 1, 0, none⟩ = some (.bool false) := by rw [c2.b8.cell]; rfl
    have f8 := c2.b8.frozen 0
    have hM := k2.cell c2.b8 (.bool true)
    have hB := c2.b8.set_ 0 (.bool true)
    have hL := c2.bel.setCell (p := ⟨w.heap.size + 1, 0, none⟩) (Nat.le_succ _) (.bool true)
    have hcp := mcopy_no c2.no
    have HM := Lib.hid hM
    have HB := Lib.hid hB
    have HL := Lib.hid hL
    clear c2 k2 hM hB hL
    go_wp2_with (go_at_call 38; refine (hcp).mono ?_; rintro e w' ⟨rfl, hw⟩; obtain rfl := hw.symm)
    exact leaves_marks (N := w.heap.size) [D] _ HM.out fun w' ht => ⟨_, resB rfl _ _ (w.heap.size + 1) true rfl (ht.blk _ _ _ HB.out), rfl, HL.out.trans ht.bel⟩
end Go.Proofs.Ytobcfgbkhgkelaa
/- model: flushing; Fail of a Flush. -/
namespace Go.Proofs.Ytobcfgbkhgkelaa
open Go Go.RowKit
attribute [local go_sem] Oper.semAt_some

def MoV.lose (m : MoV) : MoV := if m.queue = [] then m else { m with begun := m.queue, only := true }
def MdR.lose (R : MdR) : MdR := { R with b := R.q }
theorem Md.lose {W W' : World} {Z : Nat → Prop} {lo g : Nat} {R : MdR} {m : MoV} (h : Md Z lo g R m W) (hg : KB (fun b => b = g) W W') (hb : Blk W' g 39 (mdArr R.lose { m with begun := m.queue, only := true })) : Md Z lo g R.lose { m with begun := m.queue, only := true } W' := by
  obtain ⟨Ar, cr, hre, hrs⟩ := h.roots
  obtain ⟨Aq, cq, hqe, hqs⟩ := h.queue.esW (Y := fun b => ¬ (b = g ∨ Z b)) (fun b hv hm => hm.elim (fun e => by subst e; exact own_ty h.queue.ex.choose_spec.1 h.blk (by decide) hv) (h.zno b (.inr (.inr (.inr hv))))) (fun b _ hx hm => hx (hm.imp .inl id))
  refine ⟨hb, h.lastL, h.ptL, ?_, ?_, ⟨Ar, cr, hre, ?_⟩, ?_, ⟨Aq, cq, hqe, ?_⟩, h.eq, ?_, h.low, h.big, h.bigq, fun b hz => Nat.lt_of_lt_of_le (h.zlt b hz) hg.size, h.zno⟩
  · exact h.ents.kb hg (fun b hv e => by subst e; exact own_ty h.ents.ex.choose_spec.1 h.blk (by decide) hv) (fun b _ hx e => hx (.inl (.inl e)))
  · exact hg.own h.hashes fun b hv e => by subst e; exact own_ty h.hashes h.blk (by decide) hv
  · exact hrs.kb hg fun b _ hx e => hx (.inl (.inl e))
  · exact h.queue.kb hg (fun b hv e => by subst e; exact own_ty h.queue.ex.choose_spec.1 h.blk (by decide) hv) (fun b _ hx e => hx (.inl (.inl e)))
  · exact hqs.kb hg fun b _ hx e => hx (.inl e)
  · intro ho; cases ho
set_option maxHeartbeats 4000000 in
set_option maxRecDepth 100000 in
theorem mflushing_any (Z : Nat → Prop) (lo g : Nat) (R : MdR) (m : MoV) (W : World) (h : Md Z lo g R m W) :
    Calls Try.prog 66 #[.pointer (some ⟨g, 0, none⟩)] W fun e w' => e = .returned (.tuple #[]) ∧ ∃ R', Md Z lo g R' m.lose w' ∧ KB (fun b => b = g) W w' := by
  obtain ⟨Aq, cq, hqe, hqs⟩ := h.queueEs
  have hrq := hqs.room
  have hmq := hqs.max
  unfold maxLen at hmq
  have c5 : W.cell? ⟨g, 5, none⟩ = some (.slice Aq m.queue.length cq) := (h.cell 5 (by decide)).trans (congrArg some hqe)
  obtain ⟨n, hnq⟩ : ∃ x, m.queue.length = x := ⟨_, rfl⟩
  rw [hnq] at c5 hrq hqe
  by_cases h0 : m.queue = []
  · have hn0 : n = 0 := by rw [← hnq, h0]; rfl
    subst hn0
    have hl : m.lose = m := by unfold MoV.lose; rw [if_pos h0]
    rw [hl]
    have Hh := Lib.hid h
    clear h hl h0 hnq hqe hqs
    go_enter Try.func66, Try.ntmps66
    go_wp2_with fail
    go_end0
    exact ⟨rfl, R, Hh.out, KB.refl _ _⟩
  · have hn0 : 0 < n := by rw [← hnq]; exact List.length_pos_iff.2 h0
    have hd : decide ((0 : Int) < (n : Int)) = true := by simp; omega
    have hl : m.lose = { m with begun := m.queue, only := true } := by unfold MoV.lose; rw [if_neg h0]
    rw [hl]
    have c40 : W.cell? ⟨g, 40, none⟩ = some R.b := h.cell 40 (by decide)
    have f40 := h.blk.frozen 40
    obtain ⟨w1, hw1⟩ : ∃ x, W.setCell ⟨g, 40, none⟩ R.q = x := ⟨_, rfl⟩
    have k1 : Blk w1 g 39 (mdArr R.lose { m with begun := m.queue }) := by
      rw [← hw1, ← md_set (R := R) (R' := R.lose) (m := m) (m' := { m with begun := m.queue }) 40 (by decide) R.q rfl fun i hi hne => by simp only [mcell, hne, if_false]; rfl]
      exact h.blk.set_ 40 _
    have hg1 : W.grownBy w1 (some g) := by rw [← hw1]; exact grown_setCell (World.grownBy.refl _ _) 40 _
    have c75 : w1.cell? ⟨g, 75, none⟩ = some (.bool m.only) := by rw [k1.cell, md_at _ _ 75 (by decide)]; rfl
    have f75 := k1.frozen 75
    have k2 : Blk (w1.setCell ⟨g, 75, none⟩ (.bool true)) g 39 (mdArr R.lose { m with begun := m.queue, only := true }) := by
      rw [← md_set (R := R.lose) (R' := R.lose) (m := { m with begun := m.queue }) (m' := { m with begun := m.queue, only := true }) 75 (by decide) (.bool true) rfl fun i hi hne => by simp only [mcell, hne, if_false]]
      exact k1.set_ 75 _
    have hg2 : W.grownBy (w1.setCell ⟨g, 75, none⟩ (.bool true)) (some g) := grown_setCell hg1 75 _
    have hK : KB (fun b => b = g) W (w1.setCell ⟨g, 75, none⟩ (.bool true)) := KB.of_grown hg2 fun r e => (Option.some.inj e).symm
    have hF := h.lose hK k2
    rw [hqe] at hw1
    have Hw1 := Lib.hid hw1
    have HF := Lib.hid hF
    have HK := Lib.hid hK
    clear h hw1 hF hK hg1 hg2 k1 k2 hl hqe hqs
    go_enter Try.func66, Try.ntmps66
    go_wp2_with ((with_reducible show wpList _ _ _ [⟨none, .store _ (.tmp 17) _, _, _, _, _⟩] _ _); rw [Hw1.out]; refine wpList_put1i rfl 4 (.tmp 17) (.const (.bool true)) rfl sizeBl ⟨g, 75, none⟩ (.bool true) rfl rfl rfl _ c75 f75 ?_; simp only [Act.put])
    go_end0
    exact ⟨rfl, R.lose, HF.out, HK.out⟩
def failT : Array Value := #[.nilFunc, .func (.func 66) #[] #[], .func (.func 67) #[] #[], .func (.func 68) #[] #[]]
theorem built_failT : Try.prog.built 109 [(1, .func (.func 66) #[] #[]), (2, .func (.func 67) #[] #[]), (3, .func (.func 68) #[] #[])] = some failT := by kernel_rfl
theorem build_failT {ρ : Operand → Value} {o : Oper} (ho : o.op = .build 109 #[(1, .func 66), (2, .func 67), (3, .func 68)]) (hx : ρ (.func 66) = .func (.func 66) #[] #[]) (hy : ρ (.func 67) = .func (.func 67) #[] #[]) (hz : ρ (.func 68) = .func (.func 68) #[] #[]) (W : World) :
    (execOp ρ o).run Try.prog W = .ok (.value (.agg failT)) W := by
  have hm : (#[(1, .func 66), (2, .func 67), (3, .func 68)] : Array (Nat × Operand)).map (fun (i, x) => (i, ρ x)) = #[(1, .func (.func 66) #[] #[]), (2, .func (.func 67) #[] #[]), (3, .func (.func 68) #[] #[])] := by simp [hx, hy, hz]
  unfold execOp
  simp only [ho, Sem.run_bind, Sem.run_pure, hm, run_build W _ _ _ built_failT, Result.andThen_ok]
theorem sizeFT : ∀ w : World, (sizeOf 109).run Try.prog w = .ok 4 w := fun _ => by kernel_rfl
theorem oneFT : ∀ v ∈ failT.toList, v.oneCell' = true := by intro v hv; simp [failT] at hv; rcases hv with rfl | rfl | rfl | rfl <;> rfl
set_option maxHeartbeats 4000000 in
set_option maxRecDepth 100000 in
theorem mfail1_any (Z : Nat → Prop) (lo g : Nat) (R : MdR) (m : MoV) (W : World) (h : Md Z lo g R m W) (ho : m.only = false) :
    Calls Try.prog 34 #[.pointer (some ⟨g, 0, none⟩), .int .i64 1] W fun e w' => e = .returned (.int .i64 0) ∧ ∃ R', Md Z lo g R' m.lose w' ∧ KB (fun b => b = g) W w' := by
  have hmay := mmay_any h
  rw [ho] at hmay
  obtain ⟨w2, hw2⟩ : ∃ x, (W.alloc (.cells #[.nilFunc, .nilFunc, .nilFunc, .nilFunc] 109)).setRow W.heap.size failT = x := ⟨_, rfl⟩
  have B2 : Below W.heap.size W w2 := by rw [← hw2]; exact below_setRow ((Below.refl _ _).alloc (Nat.le_refl _) _) (Nat.le_refl _) _
  have k2 : Blk w2 W.heap.size 109 failT := by rw [← hw2]; exact (Blk.new _ _ _).setRow_ _
  have c1 : w2.cell? ⟨W.heap.size, 1, none⟩ = some (.func (.func 66) #[] #[]) := by rw [k2.cell]; rfl
  have hfl := mflushing_any Z lo g R m w2 (h.step B2)
  have Hw2 := Lib.hid hw2
  have Hfl := Lib.hid hfl
  clear h ho hw2 k2 hfl
  go_enter Try.func34, Try.ntmps34
  go_wp2_with (first
    | (go_at_call 40; refine hmay.mono ?_; rintro e w' ⟨rfl, hw⟩; obtain rfl := hw.symm)
    | ((with_reducible show wpList _ _ _ (⟨some 12, .build _ _, _, _, _, _⟩ :: _) _ _); refine wpList_run rfl _ _ (build_failT rfl rfl rfl rfl W) ?_; simp only [Act.put])
    | ((with_reducible show wpList _ _ _ [⟨none, .store _ (.tmp 6) _, _, _, _, _⟩] _ _); refine wpList_store_blk rfl 109 (.tmp 6) (.tmp 12) rfl 4 sizeFT W.heap.size failT rfl rfl rfl oneFT 109 _ (Blk.new W _ _) rfl ?_; rw [Hw2.out]; simp only [Act.put]))
  refine Hfl.out.mono ?_
  rintro e w3 ⟨rfl, R', hD, hK⟩
  clear Hfl c1
  go_wp2_with fail
  go_ret
  exact ⟨rfl, R', hD, (KB.of_below B2).trans hK⟩
end Go.Proofs.Ytobcfgbkhgkelaa
/- What a model allows, in plain Lean: for ModelGrows' lost. -/
namespace Go.Proofs.Ytobcfgbkhgkelaa

theorem allows_yes (m : MoV) (fe : List (List UInt8)) (fh : Bool) (fs : Int) (fr : List UInt8) (h1 : m.ents.length ≤ fe.length) (h2 : fe.length ≤ (m.ents ++ m.begun).length) (h3 : fe = (m.ents ++ m.begun).take fe.length)
    (h4 : fh = m.has) (h5 : fh = true → fs = m.lastS ∧ fr = m.lastR) : m.allows fe fh fs fr = true := by
  unfold MoV.allows
  rw [if_neg (by omega), if_neg (by omega), if_neg (by simpa using h3), if_pos]
  cases fh with
  | false => simp [← h4]
  | true =>
    obtain ⟨e1, e2⟩ := h5 rfl
    rw [e1, e2, ptEq_self, ← h4]
    rfl
theorem allows_short (m : MoV) (fe : List (List UInt8)) (fh : Bool) (fs : Int) (fr : List UInt8) (h : fe.length < m.ents.length) : m.allows fe fh fs fr = false := by
  unfold MoV.allows
  rw [if_pos h]
theorem allows_long (m : MoV) (fe : List (List UInt8)) (fh : Bool) (fs : Int) (fr : List UInt8) (h : (m.ents ++ m.begun).length < fe.length) : m.allows fe fh fs fr = false := by
  unfold MoV.allows
  rw [if_neg (by rw [List.length_append] at h; omega), if_pos h]
theorem lose_ents (m : MoV) : m.lose.ents = m.ents := by unfold MoV.lose; split <;> rfl
theorem lose_has (m : MoV) : m.lose.has = m.has := by unfold MoV.lose; split <;> rfl
theorem lose_last (m : MoV) : m.lose.lastS = m.lastS ∧ m.lose.lastR = m.lastR := by unfold MoV.lose; split <;> exact ⟨rfl, rfl⟩
theorem lose_queue (m : MoV) : m.lose.queue = m.queue := by unfold MoV.lose; split <;> rfl
theorem lose_begun (m : MoV) (h : m.begun = []) : m.lose.begun = m.queue := by
  unfold MoV.lose
  split
  · next hq => rw [h, hq]
  · rfl
/-- what was flushed is allowed, before the refusal and behind it -/
theorem allows_log (m : MoV) (fh : Bool) (fs : Int) (fr : List UInt8) (h4 : fh = m.has) (h5 : fh = true → fs = m.lastS ∧ fr = m.lastR) : m.allows m.ents fh fs fr = true :=
  allows_yes m m.ents fh fs fr (Nat.le_refl _) (by rw [List.length_append]; omega) (by rw [List.take_append_of_le_length (Nat.le_refl _), List.take_length]) h4 h5
/-- and of what was begun as many ahead as one likes -/
theorem allows_some (m : MoV) (k : Nat) (fh : Bool) (fs : Int) (fr : List UInt8) (hk : k ≤ m.begun.length) (h4 : fh = m.has) (h5 : fh = true → fs = m.lastS ∧ fr = m.lastR) : m.allows (m.ents ++ m.begun.take k) fh fs fr = true := by
  have hl : (m.ents ++ m.begun.take k).length = m.ents.length + k := by rw [List.length_append, List.length_take]; omega
  refine allows_yes m _ fh fs fr (by omega) (by rw [hl, List.length_append]; omega) ?_ h4 h5
  rw [hl, List.take_length_add_append]
end Go.Proofs.Ytobcfgbkhgkelaa
/- Rows of slices of bytes: several are put behind at once. -/
namespace Go.Proofs.Ytobcfgbkhgkelaa
open Go Go.RowKit

/-- slices of bytes: the row lies anywhere, their bytes where X says -/
structure EsI (W : World) (X : Nat → Prop) (A : Option Addr) (n c : Nat) (ls : List (List UInt8)) : Prop where
  ex : ∃ vs, SlV W (fun _ => True) A n c 1 vs ∧ ∀ i (h : i < ls.length), ∃ Ai ci, vs[i]? = some (.slice Ai (ls[i]).length ci) ∧ Sl W X Ai (ls[i]).length ci ls[i]
  len : ls.length = n
section
variable {W W' : World} {lo : Nat} {v : Value} {ls ms : List (List UInt8)} {X Y : Nat → Prop} {A : Option Addr} {n c : Nat}
theorem Es.i (h : Es W X A n c ls) : EsI W X A n c ls :=
  let ⟨vs, h1, h2⟩ := h.ex
  ⟨⟨vs, h1.all, h2⟩, h.len⟩
theorem EsI.es (h : EsI W X A n c ls) : Es W (fun _ => True) A n c ls :=
  let ⟨vs, h1, h2⟩ := h.ex
  ⟨⟨vs, h1, fun i hi => let ⟨Ai, ci, h3, h4⟩ := h2 i hi; ⟨Ai, ci, h3, h4.all⟩⟩, h.len⟩
theorem EsI.weak (h : EsI W X A n c ls) (hX : ∀ b, b < W.heap.size → X b → Y b) : EsI W Y A n c ls :=
  let ⟨vs, h1, h2⟩ := h.ex
  ⟨⟨vs, h1, fun i hi => let ⟨Ai, ci, h3, h4⟩ := h2 i hi; ⟨Ai, ci, h3, h4.weak hX⟩⟩, h.len⟩
theorem EsI.step (h : EsI W X A n c ls) (hb : Below W.heap.size W W') : EsI W' X A n c ls :=
  let ⟨vs, h1, h2⟩ := h.ex
  ⟨⟨vs, h1.step hb, fun i hi => let ⟨Ai, ci, h3, h4⟩ := h2 i hi; ⟨Ai, ci, h3, h4.step hb⟩⟩, h.len⟩
theorem EsI.lt (h : EsI W X A n c ls) : EsI W (fun b => X b ∧ b < W.heap.size) A n c ls :=
  h.weak fun _ hb hx => ⟨hx, hb⟩
theorem EsI.take (h : EsI W X A n c ls) (k : Nat) (hk : k ≤ n) : EsI W X A k c (ls.take k) := by
  obtain ⟨vs, h1, h2⟩ := h.ex
  have hl := h.len
  have h3 := h1.take k hk
  rw [Nat.mul_one] at h3
  refine ⟨⟨vs.take k, h3, fun i hi => ?_⟩, by rw [List.length_take]; omega⟩
  have hik : i < k := by rw [List.length_take] at hi; omega
  obtain ⟨Ai, ci, h4, h5⟩ := h2 i (by omega)
  rw [List.getElem_take]
  exact ⟨Ai, ci, by rw [List.getElem?_take_of_lt hik]; exact h4, h5⟩
theorem EsO.i (h : EsO W lo v ls X) : ∃ A c, v = .slice A ls.length c ∧ EsI W X A ls.length c ls := by
  obtain ⟨vs, h1, h2⟩ := h.ex
  obtain ⟨A, c, rfl, hs⟩ := owns_slv h1
  exact ⟨A, c, rfl, ⟨vs, hs.all, h2⟩, rfl⟩
/-- several entries are put behind -/
theorem EsO.apps (h : EsO W lo v ls X) (hlo : lo ≤ W.heap.size) (he : EsI W X A n c ms) (hn : ls.length + n ≤ 1000000000) (hX : ∀ b, b < W.heap.size → X b → some b ≠ v.ownBlock) :
    ∃ v' W', (Builtin.append_ #[23, 23] 23 #[v, .slice A n c]).run Try.prog W = .ok v' W' ∧ EsO W' lo v' (ls ++ ms) X ∧ W.grownBy W' v.ownBlock ∧ (v'.ownBlock = v.ownBlock ∨ ∃ k, v'.ownBlock = some k ∧ W.heap.size ≤ k) := by
  obtain ⟨vs, h1, h2⟩ := h.ex
  obtain ⟨us, k1, k2⟩ := he.ex
  have hml := he.len
  obtain ⟨v', W', hr, ho, hg, hv⟩ := append_slv (ty := 23) Try.underlying23 infoSl rfl (by decide) h1 k1 (Es.one (X := fun _ => True) hml k1 fun i hi => let ⟨Ai, ci, h3, h4⟩ := k2 i hi; ⟨Ai, ci, h3, h4.all⟩) (by unfold maxLen; omega) (by omega) hlo
  refine ⟨v', W', hr, ⟨vs ++ us, by rw [List.length_append, hml]; exact ho, fun i hi => ?_⟩, hg, hv⟩
  have hvl : vs.length = ls.length := by have := h1.1; omega
  by_cases hil : i < ls.length
  · obtain ⟨Ai, ci, h3, h4⟩ := h2 i hil
    rw [List.getElem_append_left hil]
    exact ⟨Ai, ci, by rw [List.getElem?_append_left (by omega)]; exact h3, h4.grown hg hX⟩
  · rw [List.length_append] at hi
    obtain ⟨Ai, ci, h3, h4⟩ := k2 (i - ls.length) (by omega)
    rw [List.getElem_append_right (by omega)]
    exact ⟨Ai, ci, by rw [List.getElem?_append_right (by omega), hvl]; exact h3, h4.grown hg hX⟩
theorem grown_to_below {N : Nat} {row : Option Nat} (h : W.grownBy W' row) (hr : ∀ b, row = some b → N ≤ b) (hN : N ≤ W.heap.size) : Below N W W' :=
  (KB.of_grown (M := fun b => row = some b) h fun _ e => e).below hr hN
end
end Go.Proofs.Ytobcfgbkhgkelaa
