/- notarylaw03.world.step: one step on two sums under way. -/
import Derived.Test.YtdkgndjomkbbjaaQa113
import Derived.Test.YtdkgndjomkbbjaaQa114
namespace Go.Proofs.Ytdkgndjomkbbjaa
open Go Go.RowKit
attribute [local go_sem] Oper.semAt_some

def place2 (on : Int) : Nat := (on % 2).toNat
theorem place2_lt (on : Int) : place2 on < 2 := by unfold place2; omega
theorem place2_eq (on : Int) (h1 : -9223372036854775808 ≤ on) (h2 : on ≤ 9223372036854775807) : (wrap64 (on.tmod 2 + 2)).tmod 2 = ((place2 on : Nat) : Int) := by
  have ht : on.tmod 2 = if 0 ≤ on then on % 2 else -((-on) % 2) := by
    split
    · exact Int.tmod_eq_emod_of_nonneg (by assumption)
    · have e : on = -(-on) := by omega
      conv => lhs; rw [e]
      rw [Int.neg_tmod, Int.tmod_eq_emod_of_nonneg (by omega)]
  obtain ⟨t, htt⟩ : ∃ t, on.tmod 2 = t := ⟨_, rfl⟩
  rw [htt] at ht ⊢
  have hb : -1 ≤ t ∧ t ≤ 1 := by split at ht <;> omega
  have hw : wrap64 (t + 2) = t + 2 := by unfold wrap64; omega
  rw [hw, Int.tmod_eq_emod_of_nonneg (by omega)]
  unfold place2
  split at ht <;> omega
theorem wlong_any (g : Nat) (u : Und) (A : Option Addr) (n c : Nat) (w : World) (h : Sh w g u) (_hnc : n ≤ c) (hl : u.len ≤ 1152921504606846976) (hn : n ≤ 1099511627776) (hlen : 1152921504606846976 < u.len + n) :
    Calls Try.prog 23 #[.pointer (some ⟨g, 0, none⟩), .slice A n c] w fun e w' => e = .returned (.int .i64 3) ∧ w' = w := by
  obtain ⟨bk, hs⟩ := h
  have cl := hs.cell_len
  have hw : wrap64 (1152921504606846976 - (u.len : Int)) = 1152921504606846976 - (u.len : Int) := by unfold wrap64; omega
  have hw' : IntKind.i64.wrap (1152921504606846976 - (u.len : Int)) = 1152921504606846976 - (u.len : Int) := IntWalk.i64_in _ (by omega)
  have hd : decide ((1152921504606846976 : Int) - (u.len : Int) < (n : Int)) = true := by simp; omega
  go_enter Try.func23, Try.ntmps23
  go_wp2_with (first
    | (go_at_call 70; refine (none_any hs).mono ?_; rintro e w' ⟨rfl, rfl⟩))
  go_ret
  exact ⟨rfl, rfl⟩
theorem Own.any {w : World} {g c : Nat} {l : List UInt8} {cur : Array Value} (h : Own w g c l cur) (n base : Nat) (hn : n ≤ l.length) (hb : base ≤ g) : OwnAny w base (.slice (some ⟨g, 0, none⟩) n c) n := by
  have hr := h.room
  have hz := h.size
  exact ⟨cur.toList.take (n * 1), by simp [hz]; omega, .inr ⟨g, c, cur, rfl, hb, h.blk, by omega, h.max, by omega, rfl⟩⟩
theorem load_opS {P : Program} {ρ : Operand → Value} {o : Oper} {w : World} (ty : TypeId) (x : Operand) (ho : o.op = .load ty x) (g off : Nat) (hx : ρ x = .pointer (some ⟨g, off, none⟩)) (v : Value) (h : (Instr.loadAt ty (.pointer (some ⟨g, off, none⟩))).run P w = .ok v w) :
    (execOp ρ o).run P w = .ok (.value v) w := by
  unfold execOp
  simp only [ho, hx, Sem.run_bind, Sem.run_pure, h, Result.andThen_ok]
theorem wpMix_store_agg {P : Program} {ops : Array Oper} {Q : Exit → Act → World → Prop} {S : World → Prop} {R : Act → World → Prop} {o : Oper} {l : List (Oper × Bool)} {a : Act} {w : World} (hgd : o.guard = none) (ty : TypeId) (x y : Operand) (ho : o.op = .store ty x y)
    (n : Nat) (hsz : ∀ w : World, (sizeOf ty).run P w = .ok n w) (g off : Nat) (vs : Array Value) (hx : a.eval x = .pointer (some ⟨g, off, none⟩)) (hy : a.eval y = .agg vs) (hv : vs.size = n) (h1 : ∀ v ∈ vs.toList, v.oneCell' = true)
    (t : TypeId) (cur : Array Value) (hg : Blk w g t cur) (hc : off + n ≤ cur.size) (hS : S (w.setRow g (cur.toList.take off ++ vs.toList ++ cur.toList.drop (off + n)).toArray)) (h : wpMix P ops S Q R l (a.put o.dst undef) (w.setRow g (cur.toList.take off ++ vs.toList ++ cur.toList.drop (off + n)).toArray)) : wpMix P ops S Q R ((o, false) :: l) a w := by
  refine ⟨?_⟩
  unfold wpMix0
  rw [if_pos (by simp [Region.wanted, hgd])]
  unfold Oper.wp execOp
  simp only [ho, hx, hy, run_store_agg (P := P) (hsz w) g off vs cur hv h1 hg hc, Sem.run_bind, Sem.run_pure, Result.andThen_ok, Oper.upon]
  exact ⟨hS, h.out⟩
theorem run_lit_one {P : Program} {t e : TypeId} {z x : Value} {size bytes : Nat} (hu : P.underlying t = some (.slice e)) (hinfo : (P.info? e).map (fun i => (i.zero, i.size, i.bytes)) = some (some z, size, bytes)) (hx : x.cells.size = size) (h0 : 0 < size) (h1 : size ≤ 1000) (W : World) :
    (Instr.buildSlice t 1 #[(0, x)]).run P W = .ok (.slice (some ⟨W.heap.size, 0, none⟩) 1 1) (W.alloc (.cells x.cells e)) := by
  obtain ⟨i, hi⟩ : ∃ i, P.info? e = some i := by
    cases h : P.info? e with
    | none => rw [h] at hinfo; cases hinfo
    | some i => exact ⟨i, rfl⟩
  rw [hi] at hinfo
  have hz : i.zero = some z := congrArg Prod.fst (Option.some.inj hinfo)
  have hs : i.size = size := congrArg (fun x => x.2.1) (Option.some.inj hinfo)
  refine run_buildSlice (P := P) W t e 1 _ x.cells i z hu hi hz (by rw [hs]; omega) (by rw [hs]; omega) ?_
  have hc : ∀ v ∈ [x], v.cells.size = size := fun v hv => by rw [List.mem_singleton.1 hv]; exact hx
  have hp : (#[(0, x)] : Array (Nat × Value)).toList = ([x].zipIdx 0).map fun x => (x.2, x.1) := rfl
  rw [hp, hs, Great.fill_whole h0 _ _ hc (by simp)]
  simp
theorem run_lit_one_op {P : Program} {ρ : Operand → Value} {o : Oper} {t e : TypeId} {z x : Value} {size bytes : Nat} (hu : P.underlying t = some (.slice e)) (hinfo : (P.info? e).map (fun i => (i.zero, i.size, i.bytes)) = some (some z, size, bytes)) (hx : x.cells.size = size) (h0 : 0 < size) (h1 : size ≤ 1000)
    (y : Operand) (ho : o.op = .buildSlice t 1 #[(0, y)]) (hy : ρ y = x) (W : World) : (execOp ρ o).run P W = .ok (.value (.slice (some ⟨W.heap.size, 0, none⟩) 1 1)) (W.alloc (.cells x.cells e)) := by
  unfold execOp
  have hm : (#[(0, y)] : Array (Nat × Operand)).map (fun (i, x) => (i, ρ x)) = #[(0, x)] := by simp [hy]
  simp only [ho, Sem.run_bind, Sem.run_pure, hm, run_lit_one hu hinfo hx h0 h1 W, Result.andThen_ok]
theorem bsU_op {ρ : Operand → Value} {o : Oper} {cd : Array Value} (x : Operand) (ho : o.op = .buildSlice 80 1 #[(0, x)]) (hx : ρ x = .agg cd) (h10 : cd.size = 10) (W : World) :
    (execOp ρ o).run Try.prog W = .ok (.value (.slice (some ⟨W.heap.size, 0, none⟩) 1 1)) (W.alloc (.cells cd 77)) :=
  run_lit_one_op (x := .agg cd) Try.underlying80 infoUD h10 (by decide) (by decide) x ho hx W
theorem sizePS1 : ∀ w : World, (sizeOf 38).run Try.prog w = .ok 1 w := fun _ => by kernel_rfl
theorem sizeOS : ∀ w : World, (sizeOf 79).run Try.prog w = .ok 1 w := fun _ => by kernel_rfl
theorem sizeOU : ∀ w : World, (sizeOf 80).run Try.prog w = .ok 1 w := fun _ => by kernel_rfl
/-- what a step leaves -/
def StepR (w : World) (gw : Nat) (W' : World) : Prop := ∃ (g : Nat → Nat) (su : Nat → Und) (p : Nat → UndD) (ov wv : Value) (L : List (Nat × UndD)), PlW w gw g su p ov wv (L.map (·.1)) (L.map (·.2)) L W' ∧ (∀ k, k < 2 → su k = (p k).u) ∧ L.length ≤ 10
set_option maxHeartbeats 16000000 in
set_option maxRecDepth 100000 in
theorem pstep_any (w W : World) (gw : Nat) (g : Nat → Nat) (su : Nat → Und) (p : Nat → UndD) (ov wv : Value) (L : List (Nat × UndD)) (s : PStep) (h : PlW w gw g su p ov wv (L.map (·.1)) (L.map (·.2)) L W) (hsu : ∀ k, k < 2 → su k = (p k).u) (hL : L.length ≤ 10)
    (hsl : Sl W (· < w.heap.size) s.A s.n s.c s.l) (hsn : s.n ≤ 1000000000) (ho1 : -9223372036854775808 ≤ s.on) (ho2 : s.on ≤ 9223372036854775807) :
    Calls Try.prog 49 #[.pointer (some ⟨gw, 0, none⟩), .agg s.cells] W fun e W' => e = .returned (.bool true) ∧ StepR w gw W' := by
  obtain ⟨k, hk⟩ : ∃ k, place2 s.on = k := ⟨_, rfl⟩
  have hk2 : k < 2 := by rw [← hk]; exact place2_lt _
  have hkm := place2_eq s.on ho1 ho2
  rw [hk] at hkm
  have hSl := Lib.hid hsl
  have hHsu := Lib.hid hsu
  have hk2i : (k : Int) < 2 := by omega
  clear hsl hsu
  obtain ⟨wb, hwb⟩ : ∃ x, W.alloc (.cells s.cells 88) = x := ⟨_, rfl⟩
  have kb : Blk wb W.heap.size 88 s.cells := by rw [← hwb]; exact Blk.new _ _ _
  have Bb : Below W.heap.size W wb := by rw [← hwb]; exact (Below.refl _ _).alloc (Nat.le_refl _) _
  have hb := h.step Bb
  have cb0 : wb.cell? ⟨W.heap.size, 0, none⟩ = some (.int .i64 s.kd) := by rw [kb.cell]; rfl
  have cb1 : wb.cell? ⟨W.heap.size, 1, none⟩ = some (.int .i64 s.on) := by rw [kb.cell]; rfl
  have Hwb := Lib.hid hwb
  have hone := Lib.hid s.one
  clear hwb
  go_enter Try.func49, Try.ntmps49
  go_upto_region 2 with (rw [Hwb.out])
  obtain ⟨cs, kw, hw⟩ := hb.blk
  have cS : ∀ s : InC (fun W' => Below wb.heap.size wb W'), s.W.cell? ⟨gw, k, none⟩ = some (.pointer (some ⟨g k, 0, none⟩)) := fun s => by rw [(kw.below s.ok kw.lt).cell]; exact hw.s k hk2
  obtain ⟨zs, hzs⟩ : ∃ zs, (undCells (List.replicate 8 0) 0 (.slice none 0 0)).toArray = zs := ⟨_, rfl⟩
  have hz10 : zs.size = 10 := by rw [← hzs]; exact undCells_len _ _ rfl
  obtain ⟨cd, hcd⟩ : ∃ cd, (p k).cells.toArray = cd := ⟨_, rfl⟩
  have hcd10 : cd.size = 10 := by rw [← hcd]; exact (p k).len
  have hcd1 : ∀ v ∈ cd.toList, v.oneCell' = true := by rw [← hcd]; exact (p k).one
  have hS : Below wb.heap.size wb wb.drew := (Below.refl _ _).drew
  have Hzs := Lib.hid hzs
  have Hcd := Lib.hid hcd
  have Hcd1 := Lib.hid hcd1
  have Hk := Lib.hid hk
  clear hzs hcd hcd1 hk
  refine wp_region_mix (fun W => Below wb.heap.size wb W) [(0, true), (1, true), (2, true), (3, true), (4, true), (5, true), (6, true), (7, true), (8, true), (9, true), (10, true), (11, true), (12, false), (13, true), (14, false)] (by kernel_rfl) (by kernel_rfl) hS fun _ => ?_
  simp only [List.map_cons, List.map_nil, Array.getD_eq_getD_getElem?, List.getElem?_toArray, List.getElem?_cons_succ, List.getElem?_cons_zero, Option.getD_some]
  generalize wb.drew = W0 at hS ⊢
  refine wpMix_s (fun K hK => ?_)
  go_simp
  refine hK _ ?_
  clear hK K
  refine wpMix_s (fun K hK => ?_)
  go_simp
  refine hK _ ?_
  clear hK K
  refine wpMix_s (fun K hK => ?_)
  go_simp
  refine hK _ ?_
  clear hK K
  refine wpMix_s (fun K hK => ?_)
  go_simp
  refine hK _ ?_
  clear hK K
  refine wpMix_s (fun K hK => ?_)
  go_simp
  refine hK _ ?_
  clear hK K
  refine wpMix_s (fun K hK => ?_)
  go_simp
  refine hK _ ?_
  clear hK K
  refine wpMix_s (fun K hK => ?_)
  go_simp
  refine hK _ ?_
  clear hK K
  refine wpMix_s (fun K hK => ?_)
  go_simp
  refine hK _ ?_
  clear hK K
  refine wpMix_s (fun K hK => ?_)
  go_simp
  refine hK _ ?_
  clear hK K
  refine wpMix_s (fun K hK => ?_)
  go_simp
  refine hK _ ?_
  clear hK K
  refine wpMix_s (fun K hK => ?_)
  go_simp
  refine hK _ ?_
  clear hK K
  refine wpMix_load (by kernel_rfl) 77 (.tmp 30) rfl gw (2 + k * 10) rfl cd (fun s => by
    rw [← Hcd.out]
    exact run_load_agg (agg77 _) (size77 _) _ _ (p k).cells (p k).len fun j v hv => by
      rw [(kw.below s.ok kw.lt).cell]
      exact hw.u k hk2 j v hv) ?_
  simp only [Act.put]
  have kz := Blk.new W0 77 zs
  have hSa : Below wb.heap.size wb (W0.alloc (.cells zs 77)) := hS.alloc hS.size _
  refine wpMix_run (by kernel_rfl) (.pointer (some ⟨W0.heap.size, 0, none⟩)) (W0.alloc (.cells zs 77)) (by rw [← Hzs.out]; kernel_rfl) hSa ?_
  simp only [Act.put]
  refine wpMix_s (fun K hK => ?_)
  go_simp
  refine hK _ ?_
  clear hK K
  have hSb := below_setRow hSa hS.size cd
  refine wpMix_store_blk rfl 77 (.tmp 7) (.tmp 31) rfl 10 size77 W0.heap.size cd rfl rfl hcd10 Hcd1.out 77 _ kz hz10 hSb ?_
  simp only [Act.put]
  refine wpMix_nil ?_
  intro _
  have h2 := hb.step (W' := ((W0.alloc (.cells zs 77)).setRow W0.heap.size cd)) hSb
  have k2 : Blk ((W0.alloc (.cells zs 77)).setRow W0.heap.size cd) W0.heap.size 77 cd := kz.setRow_ _
  have kb2 : Blk ((W0.alloc (.cells zs 77)).setRow W0.heap.size cd) W.heap.size 88 s.cells := kb.below hSb kb.lt
  have hb2 : Below W.heap.size W ((W0.alloc (.cells zs 77)).setRow W0.heap.size cd) := Bb.trans (hSb.mono Bb.size)
  have hb7 : W0.heap.size < (((W0.alloc (.cells zs 77)).setRow W0.heap.size cd)).heap.size := k2.lt
  have hz0 := hS.size
  obtain ⟨w2, hw2⟩ : ∃ x, ((W0.alloc (.cells zs 77)).setRow W0.heap.size cd) = x := ⟨_, rfl⟩
  rw [hw2] at h2 k2 kb2 hb2 hb7 ⊢
  obtain ⟨b7, hb7'⟩ : ∃ x, W0.heap.size = x := ⟨_, rfl⟩
  rw [hb7'] at k2 hb7 hz0 ⊢
  have hwv7 : some b7 ≠ wv.ownBlock := fun e => by have := (hb.was.lt b7 e.symm).2; omega
  have sl2 := hSl.out.step hb2
  obtain ⟨gk, hgk⟩ : ∃ x, g k = x := ⟨_, rfl⟩
  rw [hgk]
  obtain ⟨bx, hbx⟩ : ∃ x, W.heap.size = x := ⟨_, rfl⟩
  rw [hbx] at kb2
  rw [hbx]
  clear hw2 hb7' kz hS hSa hSb hz10 kb cS kw hw Bb cb0 cb1 hb hbx hz0
  have hp2 := h2.cur k hk2
  have hsuk := hHsu.out k hk2
  rw [hgk, hsuk] at hp2
  have hgl : gk < w2.heap.size := hp2.sh.ltS
  have hpl : (p k).u.len ≤ 1152921504606846976 := by rw [← hsuk]; exact (h.cur k hk2).len
  have c20 : w2.cell? ⟨bx, 0, none⟩ = some (.int .i64 s.kd) := by rw [kb2.cell]; rfl
  have c22 : w2.cell? ⟨bx, 2, none⟩ = some (.slice s.A s.n s.c) := by rw [kb2.cell]; rfl
  have hval : undV (p k).u (.slice (p k).A (p k).n (p k).c) = .agg cd := by rw [← Hcd.out]; rfl
  have Hval := Lib.hid hval
  have Hsuk := Lib.hid hsuk
  have Hgk := Lib.hid hgk
  clear hval hsuk hgk
  have told := fun (W : World) (hp : Pair W (Free gw g ov wv) gk (p k).u (p k)) => told_any gk (p k).u (p k).A (p k).n (p k).c W hp.sh hpl hp.sl.all
  rw [Hval.out] at told
  have Htold := Lib.hid told
  clear told
  by_cases h1 : s.kd = 1
  · have d1 : (s.kd == 1) = true := by simpa using h1
    clear h1
    go_wp2_with fail
    refine (lent_any s.l s.A s.n s.c w2 sl2.all (by omega)).mono ?_
    rintro e w3 ⟨gm, cm, cur, rfl, hgm, hown, hb3⟩
    have k3 := k2.below hb3 k2.lt
    have kb3 := kb2.below hb3 kb2.lt
    have h3 := h2.step hb3
    have hp3 := hp2.step hb3
    have sl3 := sl2.step hb3
    have hgl3 : gk < w3.heap.size := Nat.lt_of_lt_of_le hgl hb3.size
    have hgm3 : gm < w3.heap.size := hown.blk.lt
    have hn := sl2.len
    have hr2 := sl2.room
    have hmx2 := sl2.max
    unfold maxLen at hmx2
    have hcm : s.n + 1 ≤ cm := by have := hown.room; rw [List.length_append] at this; simp at this; omega
    have hcmx := hown.max
    unfold maxLen at hcmx
    have c32 : w3.cell? ⟨bx, 2, none⟩ = some (.slice s.A s.n s.c) := by rw [kb3.cell]; rfl
    have c38 : w3.cell? ⟨b7, 8, none⟩ = some (.int .i64 ((p k).u.len : Int)) := by rw [k3.cell, ← Hcd.out, List.getElem?_toArray]; exact undCells_8 rfl
    have hwl : IntKind.i64.wrap (1152921504606846976 - ((p k).u.len : Int)) = 1152921504606846976 - ((p k).u.len : Int) := IntWalk.i64_in _ (by omega)
    obtain ⟨ul, hul⟩ : ∃ x, (p k).u.len = x := ⟨_, rfl⟩
    rw [hul] at c38 hwl
    have hcd8 : cd[8]? = some (.int .i64 (ul : Int)) := by rw [← k3.cell]; exact c38
    have Hul := Lib.hid hul
    clear c22
    by_cases hlong : 1152921504606846976 < ul + s.n
    · have hd : decide ((1152921504606846976 : Int) - (ul : Int) < (s.n : Int)) = true := by simp; omega
      have hwr := wlong_any gk (p k).u (some ⟨gm, 0, none⟩) s.n cm w3 hp3.sh (by omega) hpl (by omega) (by rw [hul]; exact hlong)
      clear hul
      go_wp2_with fail
      refine hwr.mono ?_
      rintro e w4 ⟨rfl, hw4⟩
      obtain rfl := hw4.symm
      clear hwr
      go_wp2_with (first
        | ((with_reducible show wpList _ _ _ (⟨some 53, .load _ _, _, _, _, _⟩ :: _) _ _); refine wpList_runG (by kernel_rfl) (.agg cd) _ (load_opS 77 (.tmp 7) rfl b7 0 rfl _ (run_load_blk (agg77 _) (size77 _) _ _ hcd10 k3)) ?_; simp only [Act.put]))
      refine (Htold.out _ hp3).mono ?_
      rintro e w5 ⟨rfl, hb5⟩
      have h5 := h3.step hb5
      clear c20 c32 c38 k3 kb3
      go_wp2_with fail
      go_ret
      exact ⟨rfl, g, su, p, ov, wv, L, h5, hHsu.out, hL⟩
    · have hd : decide ((1152921504606846976 : Int) - (ul : Int) < (s.n : Int)) = false := by simp; omega
      have hlm : LentB w3 (fun b => b = gm) gm s.l.length cm s.l := LentB.of_own hown rfl
      have hwr := write_any gk (p k).u s.l (some ⟨gm, 0, none⟩) cm w3 hp3.sh (hlm.sl.bs.weak fun b _ hb => by omega) (by rw [hn]; omega) (by rw [hn]; omega) (by rw [hul, hn]; omega)
      rw [hn] at hwr hlm
      clear hul
      go_wp2_with fail
      refine hwr.mono ?_
      rintro e w4 ⟨rfl, hs4, hg4⟩
      clear hwr
      have hX4 : ∀ b, b < w.heap.size → some b ≠ some gk := fun b hb e => by
        have := h3.lows k hk2
        rw [Hgk.out] at this
        cases e; omega
      have kne : b7 ≠ gk := fun e => by obtain ⟨_, kk⟩ := hp3.sh.blkS; exact (k3.neS kk (by decide)) e
      have kbne : bx ≠ gk := fun e => by obtain ⟨_, kk⟩ := hp3.sh.blkS; exact (kb3.neS kk (by decide)) e
      have k4 := k3.grown hg4 (fun e => kne (Option.some.inj e))
      have kb4 := kb3.grown hg4 (fun e => kbne (Option.some.inj e))
      have sl4 := sl3.grown hg4 (fun b _ hb => hX4 b hb)
      have hlm4 := hlm.grown hg4 (fun b _ hb e => by cases hb; cases e; omega)
      have oa3 : OwnAny w3 w2.heap.size (.slice (some ⟨gm, 0, none⟩) s.n cm) s.n := hown.any s.n w2.heap.size (by rw [List.length_append, hn]; omega) hgm
      have oa4 : OwnAny w4 w2.heap.size (.slice (some ⟨gm, 0, none⟩) s.n cm) s.n := let ⟨xs, hx⟩ := oa3; ⟨xs, hx.kept hg4 (.inr fun e => by have e : gm = gk := (by simpa [Value.ownBlock] using e); omega)⟩
      have hg24 : w2.grownBy w4 (some gk) := (grown_of_below hb3 _).trans hg4
      have c42 : w4.cell? ⟨bx, 2, none⟩ = some (.slice s.A s.n s.c) := by rw [kb4.cell]; rfl
      have c48 : w4.cell? ⟨b7, 8, none⟩ = some (.int .i64 (ul : Int)) := by rw [k4.cell]; exact hcd8
      have hs4l := hs4.ltS
      clear c20 c32 c38 k3 kb3 oa3 hlm hg4 h3 hp3 sl3 hown
      go_wp2_with fail
      refine (kept_any gm s.n cm s.l s.A s.c w4 (LentB.weakT hlm4) sl4.all (by omega)).mono ?_
      rintro e w4' ⟨rfl, hw4'⟩
      obtain rfl := hw4'
      clear hlm4
      go_wp2_with fail
      clear c42 c48
      go_loopw [10] (fun i wr => ∃ q : Nat, q ≤ s.n ∧ i = .int .i64 q ∧ w4.grownBy wr (some gm) ∧ OwnAny wr w2.heap.size (.slice (some ⟨gm, 0, none⟩) s.n cm) s.n) (fun i _ => s.n - (intOf i).toNat)
      case atStart => exact ⟨0, Nat.zero_le _, rfl, World.grownBy.refl _ _, oa4⟩
      case round =>
        clear oa4
        obtain ⟨q, hq, rfl, hgr, oa⟩ := hrel
        by_cases hlt : q < s.n
        · have hdq : decide ((q : Int) < (s.n : Int)) = true := by simp; omega
          obtain ⟨gb, cb, e, -, -, -, -, hcell⟩ := oa.at_ (by omega)
          cases e
          obtain ⟨⟨u0, hu⟩, hf⟩ := hcell q hlt
          clear hcell
          go_wp2_with fail
          go_roundw
          case rel => exact ⟨q + 1, by omega, by go_num, grown_setCell hgr q _, oa.setCell _ _ _⟩
          case measure => simp [intOf]; omega
        · have hdq : decide ((q : Int) < (s.n : Int)) = false := by simp; omega
          have hg5 : w2.grownBy wr (some gk) := hg24.andThen hgr fun j hj => .inl (by cases hj; exact hgm)
          have hs5 : Sh wr gk ((p k).u.take s.l) := hs4.grownS hgr (fun e => by cases e; omega)
          have k5 := k4.grown hgr (fun e => by have e := Option.some.inj e; have := k2.lt; omega)
          have kb5 := kb4.grown hgr (fun e => by have e := Option.some.inj e; have := kb2.lt; omega)
          have sl5 := sl4.grown hgr (fun b _ hb e => by have e := Option.some.inj e; have := h.bel.size; have := hb2.size; omega)
          have hlen5 : ((p k).u.take s.l).len ≤ 1152921504606846976 := by rw [Und.take_len, Hul.out, hn]; omega
          have h5 := h2.write (W' := wr) k hk2 (by rw [Hgk.out]; exact hg5) (u := (p k).u.take s.l) (by rw [Hgk.out]; exact hs5) hlen5
          clear hg5 hs5 k4 kb4 sl4 hs4 hg24 hgr oa
          obtain ⟨cw, kw5, hw5⟩ := h5.blk
          have hp5 := h5.cur k hk2
          have hpn : (p k).n < 64 := by
            have h1 := hp5.sl.len
            have h2 : (p k).u.ok := hp2.sh.choose_spec.ok
            unfold Und.ok at h2
            omega
          have htk := fun W (h0 : Sl W (fun _ => True) (p k).A (p k).n (p k).c (p k).u.rest) (h1 : Sl W (fun _ => True) s.A s.n s.c s.l) => rtakeF_any (p k).u s.l (p k).A (p k).n (p k).c s.A s.n s.c W h0 h1 (by omega) (by rw [Hul.out]; omega)
          rw [Hval.out] at htk
          have hS : Blk wr.drew b7 77 cd ∧ Blk wr.drew bx 88 s.cells := ⟨k5.drew, kb5.drew⟩
          have c5 : ∀ s' : InC (fun W => Blk W b7 77 cd ∧ Blk W bx 88 s.cells), s'.W.cell? ⟨bx, 2, none⟩ = some (.slice s.A s.n s.c) := fun s' => by rw [s'.ok.2.cell]; rfl
          have hB : Below wr.heap.size wr wr.drew := (Below.refl _ _).drew
          have Htk := Lib.hid htk
          clear htk k5 kb5
          go_wp2_with fail
          refine wp_region_mix (fun W => Blk W b7 77 cd ∧ Blk W bx 88 s.cells) [(0, true), (1, true), (2, true), (3, true), (4, true), (6, true), (7, true), (5, false), (8, true), (9, false)] (by kernel_rfl) (by kernel_rfl) hS fun _ => ?_
          simp only [List.map_cons, List.map_nil, Array.getD_eq_getD_getElem?, List.getElem?_toArray, List.getElem?_cons_succ, List.getElem?_cons_zero, Option.getD_some]
          generalize wr.drew = W0 at hS hB ⊢
          refine wpMix_s (fun K hK => ?_)
          go_simp
          refine hK _ ?_
          clear hK K
          refine wpMix_s (fun K hK => ?_)
          go_simp
          refine hK _ ?_
          clear hK K
          refine wpMix_load (by kernel_rfl) 77 (.tmp 7) rfl (b7) (0) rfl cd (fun s => run_load_blk (agg77 _) (size77 _) _ _ hcd10 s.ok.1) ?_
          simp only [Act.put]
          refine wpMix_s (fun K hK => ?_)
          go_simp
          refine hK _ ?_
          clear hK K
          refine wpMix_s (fun K hK => ?_)
          go_simp
          refine hK _ ?_
          clear hK K
          refine wpMix_s (fun K hK => ?_)
          go_simp
          refine hK _ ?_
          clear hK K
          refine wpMix_s (fun K hK => ?_)
          go_simp
          refine hK _ ?_
          clear hK K
          refine wpMix_c (fun K hK => ?_) hS
          go_simp
          refine (Htk.out W0 (hp5.sl.step hB).all ((sl5.step hB).all)).mono ?_
          rintro e W6 ⟨A', n', c', rfl, hs6, hb6⟩
          refine hK _ _ ?_
          clear hK K
          replace hS : Blk W6 b7 77 cd ∧ Blk W6 bx 88 s.cells := ⟨hS.1.below hb6 hS.1.lt, hS.2.below hb6 hS.2.lt⟩
          refine ⟨hS, ?_⟩
          have hB6 := hB.trans (hb6.mono hB.size)
          have h6 := h5.step hB6
          have kw6 := kw5.below hB6 kw5.lt
          refine wpMix_s (fun K hK => ?_)
          go_simp
          refine hK _ ?_
          clear hK K
          have hg6 : W6.grownBy (W6.setRow gw (cw.toList.take (2 + k * 10) ++ (undCells ((p k).u.take s.l).st.list ((p k).u.take s.l).len (.slice A' n' c')).toArray.toList ++ cw.toList.drop (2 + k * 10 + 10)).toArray) (some gw) := grown_setRow (World.grownBy.refl _ _) _
          have hne7 : b7 ≠ gw := hS.1.neS kw6 (by decide)
          have hneb : bx ≠ gw := hS.2.neS kw6 (by decide)
          refine wpMix_store_agg rfl 77 (.tmp 82) (.tmp 79) rfl 10 size77 gw (2 + k * 10) (undCells ((p k).u.take s.l).st.list ((p k).u.take s.l).len (.slice A' n' c')).toArray rfl rfl (undCells_len _ _ rfl) undCells_one 82 cw kw6 (by rw [hw5.size]; omega) ⟨hS.1.setRow_apart hne7 _, hS.2.setRow_apart hneb _⟩ ?_
          simp only [Act.put]
          refine wpMix_nil ?_
          intro _
          have hd5 : PlW w gw g (upd su k ((p k).u.take s.l)) (upd p k ⟨(p k).u.take s.l, A', n', c'⟩) ov wv (L.map (·.1)) (L.map (·.2)) L (W6.setRow gw (cw.toList.take (2 + k * 10) ++ (undCells ((p k).u.take s.l).st.list ((p k).u.take s.l).len (.slice A' n' c')).toArray.toList ++ cw.toList.drop (2 + k * 10 + 10)).toArray) := by
            refine h6.cells hg6 ⟨_, kw6.setRow_ _, ?_⟩ fun i hi => ?_
            · have := hw5.setU k hk2 ⟨(p k).u.take s.l, A', n', c'⟩
              exact this
            · by_cases e : i = k
              · subst e
                rw [upd_same]
                exact hs6.weak fun b hb hlo => h5.fresh hB.size hlo
              · rw [upd_other _ _ _ _ e]
                exact (h6.cur i hi).sl
          go_wp2_with fail
          go_ret
          rw [List.append_assoc] at hd5
          refine ⟨rfl, g, _, _, ov, wv, L, hd5, fun i hi => ?_, hL⟩
          by_cases e : i = k
          · subst e; rw [upd_same, upd_same]
          · rw [upd_other _ _ _ _ e, upd_other _ _ _ _ e]; exact hHsu.out i hi
  · have d1 : (s.kd == 1) = false := by simpa using h1
    clear c22
    by_cases h2' : s.kd = 2
    · have d2 : (s.kd == 2) = true := by simpa using h2'
      clear h1
      go_wp2_with (first
        | ((with_reducible show wpList _ _ _ (⟨some 86, .load _ _, _, _, _, _⟩ :: _) _ _); refine wpList_load rfl 77 (.tmp 7) rfl b7 0 rfl cd (run_load_blk (agg77 _) (size77 _) _ _ hcd10 k2) ?_; simp only [Act.put]))
      refine (Htold.out _ hp2).mono ?_
      rintro e w5 ⟨rfl, hb5⟩
      have h5 := h2.step hb5
      clear c20 k2 kb2
      go_wp2_with fail
      go_ret
      exact ⟨rfl, g, su, p, ov, wv, L, h5, hHsu.out, hL⟩
    · have d2 : (s.kd == 2) = false := by simpa using h2'
      by_cases h3 : s.kd = 3
      · have d3 : (s.kd == 3) = true := by simpa using h3
        clear h1 h2' sl2 kb2
        have hok : (p k).u.ok := hp2.sh.choose_spec.ok
        have hof := ofBytes_bytes (p k).u hok hpl
        go_wp2_with fail
        refine (bytes_any gk (p k).u w2 hp2.sh).mono ?_
        rintro e w3 ⟨v3, rfl, hF3⟩
        obtain ⟨A3, c3, rfl, hs3⟩ := hF3.sl
        obtain ⟨ub, hub⟩ : ∃ x, (p k).u.bytes = x := ⟨_, rfl⟩
        rw [hub] at hF3 hs3 hof ⊢
        have hbl : 40 ≤ ub.length := by rw [← hub]; simp [Und.bytes, S8.length_bytes, length_num8]; omega
        have hbm : ub.length ≤ 104 := by rw [← hub]; unfold Und.ok at hok; simp [Und.bytes, S8.length_bytes, length_num8]; omega
        obtain ⟨m, hm⟩ : ∃ x, ub.length = x := ⟨_, rfl⟩
        have Hm := Lib.hid hm
        rw [hm] at hF3 hs3 hbl hbm ⊢
        have hr3 := hs3.room
        have hm3 := hs3.max
        unfold maxLen at hm3
        have hol := of_long ub A3 m c3 w3 (hs3.weak fun b hb _ => hb) hbl
        clear hub hm
        have hz3 := hF3.2.size
        have oa3 : OwnAny w3 w2.heap.size (.slice A3 m c3) m := ⟨_, by have := hF3.1; rw [Hm.out] at this; exact this⟩
        have hA3 : ∀ j, (Value.slice A3 m c3).ownBlock = some j → w2.heap.size ≤ j ∧ j < w3.heap.size := fun j hj => hF3.1.lt j hj
        go_wp2_with fail
        refine hol.mono ?_
        rintro e w4 ⟨hb4, hof1, -⟩
        obtain ⟨rfl, hs4⟩ := hof1 _ hof
        clear hol hof hof1
        have oa4 := oa3.step hb4
        have hb24 : Below w2.heap.size w2 w4 := hF3.2.trans (hb4.mono hz3)
        have h4 := h2.step hb24
        clear hs3 oa3 hF3 c20
        go_wp2_with fail
        obtain ⟨y, hy⟩ : ∃ x, w3.heap.size = x := ⟨_, rfl⟩
        rw [hy] at hs4 hz3 hA3 ⊢
        clear hy hb4
        go_loopw [14] (fun i wr => ∃ q : Nat, q ≤ m ∧ i = .int .i64 q ∧ w4.grownBy wr (Value.slice A3 m c3).ownBlock ∧ OwnAny wr w2.heap.size (.slice A3 m c3) m) (fun i _ => m - (intOf i).toNat)
        case atStart => exact ⟨0, Nat.zero_le _, rfl, World.grownBy.refl _ _, oa4⟩
        case round =>
          clear oa4
          obtain ⟨q, hq, rfl, hgr, oa⟩ := hrel
          by_cases hlt : q < m
          · have hdq : decide ((q : Int) < (m : Int)) = true := by simp; omega
            obtain ⟨gb, cb, e, -, -, -, -, hcell⟩ := oa.at_ (by omega)
            cases e
            obtain ⟨⟨u0, hu⟩, hf⟩ := hcell q hlt
            clear hcell
            go_wp2_with fail
            go_roundw
            case rel => exact ⟨q + 1, by omega, by go_num, grown_setCell hgr q _, oa.setCell _ _ _⟩
            case measure => simp [intOf]; omega
          · have hdq : decide ((q : Int) < (m : Int)) = false := by simp; omega
            have hb25 : Below w2.heap.size w2 wr := hb24.grown hgr hb24.size fun j hj => (hA3 j hj).1
            have hs5 : Sh wr y (p k).u := hs4.grownS hgr (fun e => by have := (hA3 y e.symm).2; omega)
            have h6 := h2.swap k hk2 hb25 hz3 hs5 hpl
            obtain ⟨cw, kw5, hw5⟩ := (h2.step hb25).blk
            have cgw : wr.cell? ⟨gw, k, none⟩ = some (.pointer (some ⟨gk, 0, none⟩)) := by rw [kw5.cell, hw5.s k hk2, Hgk.out]; rfl
            have fgw := kw5.frozen k
            have H6 := Lib.hid h6
            clear h6 hs5 hb25 kw5 hw5 hgr oa hs4 h4
            go_wp2_with fail
            go_ret
            refine ⟨rfl, _, _, p, ov, wv, L, H6.out, fun i hi => ?_, hL⟩
            by_cases e : i = k
            · subst e; rw [upd_same]
            · rw [upd_other _ _ _ _ e]; exact hHsu.out i hi
      · have d3 : (s.kd == 3) = false := by simpa using h3
        by_cases h4 : s.kd = 4
        · have d4 : (s.kd == 4) = true := by simpa using h4
          clear h1 h2' h3 sl2
          obtain ⟨cw, kw2, hw2⟩ := h2.blk
          obtain ⟨Ao, co, rfl, hso⟩ := owns_slv h2.old
          rw [List.length_map] at h2 hw2 hso
          have hro := hso.room
          have hmo := hso.max
          unfold maxLen at hmo
          have c222 : w2.cell? ⟨gw, 22, none⟩ = some (.slice Ao L.length co) := by rw [kw2.cell]; exact hw2.o
          have f222 := kw2.frozen 22
          have hcp := fun W (hs : Sh W gk (p k).u) => copy_any gk (p k).u W hs
          have Hcp := Lib.hid hcp
          clear hcp hso
          by_cases hl10 : L.length < 10
          · have hd10 : decide ((L.length : Int) < 10) = true := by simp; omega
            obtain ⟨v', W', hr', hv1, hcl, hfr, hgO, hP⟩ := h2.appO gk (by rw [List.length_map]; omega)
            have hne7 : b7 ≠ gw := k2.neS kw2 (by decide)
            have k2W : Blk (W'.setCell ⟨gw, 22, none⟩ v') b7 77 cd := (k2.grown hgO (own_neS h2.old k2 (by decide))).apart hne7 _
            obtain ⟨w3, hw3⟩ : ∃ x, W'.setCell ⟨gw, 22, none⟩ v' = x := ⟨_, rfl⟩
            rw [hw3] at hP k2W
            have Hw3 := Lib.hid hw3
            have Hr' := Lib.hid hr'
            have HP := Lib.hid hP
            clear hw3 hr' hP kw2 hw2 hgO k2 h2 hp2
            go_upto_region 30 with (first
              | ((with_reducible show wpList _ _ _ (⟨some 132, .buildSlice _ _ _, _, _, _, _⟩ :: _) _ _); refine wpList_run rfl (.slice (some ⟨w2.heap.size, 0, none⟩) 1 1) (w2.alloc (.cells #[sptr gk] 38)) (by kernel_rfl) ?_; simp only [Act.put])
              | ((with_reducible show wpList _ _ _ (⟨some 133, .call _, _, _, _, _⟩ :: _) _ _); refine wpList_run rfl v' W' (run_append_op (.tmp 130) (.tmp 132) 79 rfl _ _ rfl rfl Hr'.out) ?_; simp only [Act.put])
              | ((with_reducible show wpList _ _ _ [⟨none, .store _ _ _, _, _, _, _⟩] _ _); refine wpList_put1i rfl 79 (.tmp 135) (.tmp 133) rfl sizeOS ⟨gw, 22, none⟩ v' rfl rfl hv1 _ hcl hfr ?_; simp only [Act.put]))
            rw [Hw3.out]
            have hP := HP.out
            obtain ⟨cw, kw3, hw3⟩ := hP.blk
            have hB : Below w3.heap.size w3 w3.drew := (Below.refl _ _).drew
            have hS : Blk w3.drew b7 77 cd ∧ w3.drew.cell? ⟨gw, 23, none⟩ = some wv := ⟨k2W.drew, by rw [kw3.drew.cell]; exact hw3.w⟩
            have c23 : ∀ s' : InC (fun W => Blk W b7 77 cd ∧ W.cell? ⟨gw, 23, none⟩ = some wv), s'.W.cell? ⟨gw, 23, none⟩ = some wv := fun s' => s'.ok.2
            clear hcl hfr hv1 kw3 hw3 k2W
            refine wp_region_mix_last (fun W => Blk W b7 77 cd ∧ W.cell? ⟨gw, 23, none⟩ = some wv) 10 [(0, true), (1, true), (2, true), (3, true), (4, true), (5, true), (6, false), (7, false), (8, false), (9, true)] (by kernel_rfl) (by kernel_rfl) hS fun _ => ?_
            simp only [List.map_cons, List.map_nil, Array.getD_eq_getD_getElem?, List.getElem?_toArray, List.getElem?_cons_succ, List.getElem?_cons_zero, Option.getD_some]
            generalize w3.drew = W0 at hS hB ⊢
            refine wpMix_s (fun K hK => ?_)
            go_simp
            refine hK _ ?_
            clear hK K
            refine wpMix_s (fun K hK => ?_)
            go_simp
            refine hK _ ?_
            clear hK K
            refine wpMix_s (fun K hK => ?_)
            go_simp
            refine hK _ ?_
            clear hK K
            refine wpMix_s (fun K hK => ?_)
            go_simp
            refine hK _ ?_
            clear hK K
            refine wpMix_s (fun K hK => ?_)
            go_simp
            refine hK _ ?_
            clear hK K
            refine wpMix_load (by kernel_rfl) 77 (.tmp 7) rfl (b7) (0) rfl cd (fun s => run_load_blk (agg77 _) (size77 _) _ _ hcd10 s.ok.1) ?_
            simp only [Act.put]
            have h30 := hP.step hB
            have hU := h30.appU (p k) (by rw [List.length_map]; omega)
            rw [Hcd.out] at hU
            obtain ⟨v9, W9, hr9, hv9, hcl9, hfr9, hg9, hQ⟩ := hU
            have hS1 : Blk (W0.alloc (.cells cd 77)) b7 77 cd ∧ (W0.alloc (.cells cd 77)).cell? ⟨gw, 23, none⟩ = some wv := ⟨hS.1.alloc _, (h30.blk.choose_spec.1.alloc _).cell 23 ▸ h30.blk.choose_spec.2.w⟩
            have HQ := Lib.hid hQ
            clear hQ
            refine wpMix_run (by kernel_rfl) (.slice (some ⟨W0.heap.size, 0, none⟩) 1 1) (W0.alloc (.cells cd 77)) (bsU_op (.tmp 141) rfl rfl hcd10 W0) hS1 ?_
            simp only [Act.put]
            replace hS : Blk W9 b7 77 cd ∧ W9.cell? ⟨gw, 23, none⟩ = some wv := ⟨hS.1.grown hg9 hwv7, hcl9⟩
            refine wpMix_run (by kernel_rfl) v9 W9 (run_append_op (.tmp 140) (.tmp 142) 80 rfl _ _ rfl rfl hr9) hS ?_
            simp only [Act.put]
            refine wpMix_c (fun K hK => ?_) hS
            go_simp
            refine hK _ _ ?_
            clear hK K
            refine ⟨hS, ?_⟩
            refine wpMix_s (fun K hK => ?_)
            go_simp
            refine hK _ ?_
            clear hK K
            refine wpMix_nil ?_
            intro _
            simp only [List.drop_succ_cons, List.drop_zero]
            clear c23
            go_wp2_with ((with_reducible show wpList _ _ _ [⟨none, .store _ _ _, _, _, _, _⟩] _ _); refine wpList_put1i rfl 80 (.tmp 145) (.tmp 143) rfl sizeOU ⟨gw, 23, none⟩ v9 rfl rfl hv9 _ hcl9 hfr9 ?_; simp only [Act.put])
            refine np_normal ?_
            clear hcl9 hfr9 hv9 hr9 hg9
            have hQ := HQ.out
            clear HQ
            obtain ⟨w4, hw4⟩ : ∃ x, W9.setCell ⟨gw, 23, none⟩ v9 = x := ⟨_, rfl⟩
            rw [hw4] at hQ ⊢
            clear hw4 hB hP HP hS
            have hp4 := hQ.cur k hk2
            rw [Hgk.out, Hsuk.out] at hp4
            obtain ⟨cw4, kw4, hw4⟩ := hQ.blk
            have hT : True := trivial
            have hB4 : Below w4.heap.size w4 w4.drew := (Below.refl _ _).drew
            go_wp2_with fail
            refine wp_region_mix (fun _ => True) [(0, true), (1, true), (2, true), (4, true), (5, true), (3, false), (6, true), (7, false)] (by kernel_rfl) (by kernel_rfl) hT fun _ => ?_
            simp only [List.map_cons, List.map_nil, Array.getD_eq_getD_getElem?, List.getElem?_toArray, List.getElem?_cons_succ, List.getElem?_cons_zero, Option.getD_some]
            generalize w4.drew = W0b at hB4 ⊢
            refine wpMix_s (fun K hK => ?_)
            go_simp
            refine hK _ ?_
            clear hK K
            refine wpMix_s (fun K hK => ?_)
            go_simp
            refine hK _ ?_
            clear hK K
            refine wpMix_s (fun K hK => ?_)
            go_simp
            refine hK _ ?_
            clear hK K
            refine wpMix_s (fun K hK => ?_)
            go_simp
            refine hK _ ?_
            clear hK K
            refine wpMix_s (fun K hK => ?_)
            go_simp
            refine hK _ ?_
            clear hK K
            refine wpMix_c (fun K hK => ?_) hT
            go_simp
            refine (Hcp.out _ (hp4.sh.stepS hB4)).mono ?_
            rintro e W9 ⟨g9, rfl, hy9, hs9, hb9⟩
            refine hK _ _ ?_
            clear hK K
            refine ⟨hT, ?_⟩
            replace hy9 := Nat.le_trans hB4.size hy9
            have hB9 := hB4.trans (hb9.mono hB4.size)
            have kw9 := kw4.below hB9 kw4.lt
            have c9 : W9.cell? ⟨gw, k, none⟩ = some (sptr gk) := by rw [kw9.cell, hw4.s k hk2, Hgk.out]
            have f9 := kw9.frozen k
            clear hb9
            refine wpMix_s (fun K hK => ?_)
            go_simp
            refine hK _ ?_
            clear hK K
            refine wpMix_put1 (by kernel_rfl) 38 (.tmp 152) (.tmp 149) rfl sizePS1 ⟨gw, k, none⟩ (sptr g9) rfl rfl rfl _ c9 f9 hT ?_
            simp only [Act.put]
            clear c9 f9
            refine wpMix_nil ?_
            intro _
            have hp9 := hQ.swapAside k hk2 hB9 hy9 hs9 Hsuk.out
            have cgk : (W9.setCell ⟨gw, k, none⟩ (sptr g9)).cell? ⟨gw, k, none⟩ = some (.pointer (some ⟨g9, 0, none⟩)) := by
              rw [(kw9.set_ k (sptr g9)).cell, Array.getElem?_setIfInBounds, if_pos rfl, if_pos (by rw [hw4.size]; omega)]
              rfl
            obtain ⟨w9, hw9⟩ : ∃ x, W9.setCell ⟨gw, k, none⟩ (sptr g9) = x := ⟨_, rfl⟩
            rw [hw9] at hp9 cgk ⊢
            clear hw9 hQ hp4 kw4 hw4 hB9 hs9 kw9
            go_wp2_with fail
            go_ret
            refine ⟨rfl, upd g k g9, upd su k (p k).u, p, v', v9, L ++ [(g k, p k)], ?_, fun i hi => ?_, by rw [List.length_append]; simp; omega⟩
            · rw [List.map_append, List.map_append]
              have hgk' : gk = g k := Hgk.out.symm
              rw [hgk'] at hp9
              exact hp9
            · by_cases e : i = k
              · subst e; rw [upd_same]
              · rw [upd_other _ _ _ _ e]; exact hHsu.out i hi
          · have hd10 : decide ((L.length : Int) < 10) = false := by simp; omega
            obtain ⟨w4, hw4⟩ : ∃ x, w2 = x := ⟨_, rfl⟩
            rw [hw4] at h2 hp2 c20 c222 f222 ⊢
            clear hw4 kw2 hw2 k2
            have hQ := h2
            have hp4 := hp2
            obtain ⟨cw4, kw4, hw4⟩ := hQ.blk
            have hT : True := trivial
            have hB4 : Below w4.heap.size w4 w4.drew := (Below.refl _ _).drew
            clear h2 hp2
            go_wp2_with fail
            refine wp_region_mix (fun _ => True) [(0, true), (1, true), (2, true), (4, true), (5, true), (3, false), (6, true), (7, false)] (by kernel_rfl) (by kernel_rfl) hT fun _ => ?_
            simp only [List.map_cons, List.map_nil, Array.getD_eq_getD_getElem?, List.getElem?_toArray, List.getElem?_cons_succ, List.getElem?_cons_zero, Option.getD_some]
            generalize w4.drew = W0b at hB4 ⊢
            refine wpMix_s (fun K hK => ?_)
            go_simp
            refine hK _ ?_
            clear hK K
            refine wpMix_s (fun K hK => ?_)
            go_simp
            refine hK _ ?_
            clear hK K
            refine wpMix_s (fun K hK => ?_)
            go_simp
            refine hK _ ?_
            clear hK K
            refine wpMix_s (fun K hK => ?_)
            go_simp
            refine hK _ ?_
            clear hK K
            refine wpMix_s (fun K hK => ?_)
            go_simp
            refine hK _ ?_
            clear hK K
            refine wpMix_c (fun K hK => ?_) hT
            go_simp
            refine (Hcp.out _ (hp4.sh.stepS hB4)).mono ?_
            rintro e W9 ⟨g9, rfl, hy9, hs9, hb9⟩
            refine hK _ _ ?_
            clear hK K
            refine ⟨hT, ?_⟩
            replace hy9 := Nat.le_trans hB4.size hy9
            have hB9 := hB4.trans (hb9.mono hB4.size)
            have kw9 := kw4.below hB9 kw4.lt
            have c9 : W9.cell? ⟨gw, k, none⟩ = some (sptr gk) := by rw [kw9.cell, hw4.s k hk2, Hgk.out]
            have f9 := kw9.frozen k
            clear hb9
            refine wpMix_s (fun K hK => ?_)
            go_simp
            refine hK _ ?_
            clear hK K
            refine wpMix_put1 (by kernel_rfl) 38 (.tmp 152) (.tmp 149) rfl sizePS1 ⟨gw, k, none⟩ (sptr g9) rfl rfl rfl _ c9 f9 hT ?_
            simp only [Act.put]
            clear c9 f9
            refine wpMix_nil ?_
            intro _
            have hp9 := hQ.swap k hk2 hB9 hy9 hs9 hpl
            have cgk : (W9.setCell ⟨gw, k, none⟩ (sptr g9)).cell? ⟨gw, k, none⟩ = some (.pointer (some ⟨g9, 0, none⟩)) := by
              rw [(kw9.set_ k (sptr g9)).cell, Array.getElem?_setIfInBounds, if_pos rfl, if_pos (by rw [hw4.size]; omega)]
              rfl
            obtain ⟨w9, hw9⟩ : ∃ x, W9.setCell ⟨gw, k, none⟩ (sptr g9) = x := ⟨_, rfl⟩
            rw [hw9] at hp9 cgk ⊢
            clear hw9 hQ hp4 kw4 hw4 hB9 hs9 kw9
            go_wp2_with fail
            go_ret
            refine ⟨rfl, _, _, p, _, _, L, hp9, fun i hi => ?_, hL⟩
            by_cases e : i = k
            · subst e; rw [upd_same]
            · rw [upd_other _ _ _ _ e]; exact hHsu.out i hi
        · have d4 : (s.kd == 4) = false := by simpa using h4
          go_wp2_with fail
          go_ret
          exact ⟨rfl, g, su, p, ov, wv, L, h2, hHsu.out, hL⟩
end Go.Proofs.Ytdkgndjomkbbjaa
