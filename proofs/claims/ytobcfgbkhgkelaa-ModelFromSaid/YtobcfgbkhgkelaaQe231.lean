/- notarylaw24.lost. -/
import Derived.Test.YtobcfgbkhgkelaaQe229
import Derived.Test.YtobcfgbkhgkelaaQe230
import Derived.Test.YtobcfgbkhgkelaaQe228
namespace Go.Proofs.Ytobcfgbkhgkelaa
open Go Go.RowKit Go.Shelf
attribute [local go_sem] Oper.semAt_some

/-- a thing found, of a point that may not be there -/
def fcP (E : Option Addr) (n c : Nat) (fh : Bool) (fs : Int) (fr : List UInt8) : Array Value := (Value.slice E n c :: .int .i64 0 :: .slice none 0 0 :: .int .i64 0 :: .bool fh :: .int .i64 fs :: fr.map B).toArray
theorem built_fcP (E : Option Addr) (n c : Nat) (fh : Bool) (fs : Int) (fr : List UInt8) (h : fr.length = 32) : Try.prog.built 30 [(0, .slice E n c), (4, .bool fh), (5, .agg (.int .i64 fs :: fr.map B).toArray)] = some (fcP E n c fh fs fr) := by
  obtain ⟨a0, a1, a2, a3, a4, a5, a6, a7, a8, a9, a10, a11, a12, a13, a14, a15, a16, a17, a18, a19, a20, a21, a22, a23, a24, a25, a26, a27, a28, a29, a30, a31, rfl⟩ := explode32 fr h
  kernel_rfl
theorem fcP_size (E : Option Addr) (n c : Nat) (fh : Bool) (fs : Int) (fr : List UInt8) (h : fr.length = 32) : (fcP E n c fh fs fr).size = 38 := by simp [fcP, h]
theorem Fnd.ofP (E : Option Addr) (n c : Nat) (fh : Bool) (fs : Int) (fr : List UInt8) (h : fr.length = 32) : Fnd (fcP E n c fh fs fr) E n c fh fs fr := by
  refine ⟨fcP_size E n c fh fs fr h, rfl, rfl, fun j v hv => ?_, h⟩
  unfold fcP
  rw [List.getElem?_toArray, show 5 + j = j + 5 by omega]
  exact hv
theorem one_fcP (E : Option Addr) (n c : Nat) (fh : Bool) (fs : Int) (fr : List UInt8) : ∀ v ∈ (fcP E n c fh fs fr).toList, v.oneCell' = true := by
  intro v hv
  simp only [fcP, List.mem_cons] at hv
  rcases hv with rfl | rfl | rfl | rfl | rfl | hv
  · rfl
  · rfl
  · rfl
  · rfl
  · rfl
  · exact oneCell_pt fs fr v (by simpa using hv)
theorem fcP_set (E : Option Addr) (n c : Nat) (fh : Bool) (fs : Int) (fr : List UInt8) (E' : Option Addr) (n' c' : Nat) : (fcP E n c fh fs fr).setIfInBounds 0 (.slice E' n' c') = fcP E' n' c' fh fs fr := by simp [fcP]
theorem fcP_load {W : World} {g : Nat} {E : Option Addr} {n c : Nat} {fh : Bool} {fs : Int} {fr : List UInt8} (h : Blk W g 30 (fcP E n c fh fs fr)) (hr : fr.length = 32) : (Instr.loadAt 30 (.pointer (some ⟨g, 0, none⟩))).run Try.prog W = .ok (.agg (fcP E n c fh fs fr)) W :=
  run_load_agg (fdAgg _) (fdSize _) g 0 (fcP E n c fh fs fr).toList (by simpa using fcP_size E n c fh fs fr hr) fun j u hu => by
    rw [h.cell, Nat.zero_add, ← Array.getElem?_toList]; exact hu
theorem rem_natL (z : Int) (n : Nat) (hn : 0 < n) : ∃ k : Nat, (z.tmod (n : Int) + (n : Int)).tmod (n : Int) = (k : Int) ∧ k < n := by
  have h2 := Int.lt_tmod_of_pos z (show (0 : Int) < (n : Int) by omega)
  rw [Int.tmod_eq_emod_of_nonneg (a := z.tmod (n : Int) + (n : Int)) (by omega)]
  have h0 := Int.emod_nonneg (z.tmod (n : Int) + (n : Int)) (show (n : Int) ≠ 0 by omega)
  have h1 := Int.emod_lt_of_pos (z.tmod (n : Int) + (n : Int)) (show (0 : Int) < (n : Int) by omega)
  exact ⟨((z.tmod (n : Int) + (n : Int)) % (n : Int)).toNat, by omega, by omega⟩
theorem tmod_rangeL (z : Int) (n : Nat) (hn : 0 < n) : -(n : Int) < z.tmod (n : Int) ∧ z.tmod (n : Int) < (n : Int) := by
  have := Int.lt_tmod_of_pos z (show (0 : Int) < (n : Int) by omega)
  exact ⟨by omega, Int.tmod_lt_of_pos z (by omega)⟩
theorem lit4_run (W : World) : (Instr.buildSlice 22 4 #[(0, .int .u8 109), (1, .int .u8 111), (2, .int .u8 114), (3, .int .u8 101)]).run Try.prog W = .ok (.slice (some ⟨W.heap.size, 0, none⟩) 4 4) (W.alloc (.cells #[B 109, B 111, B 114, B 101] 5)) := by kernel_rfl
theorem lit4B (w : World) : ∃ w2, (convert 22 22 (.slice (some ⟨w.heap.size, 0, none⟩) 4 4)).run Try.prog (w.alloc (.cells #[B 109, B 111, B 114, B 101] 5)) = .ok (.slice (some ⟨w.heap.size, 0, none⟩) 4 4) w2 ∧ Sl w2 (w.heap.size ≤ ·) (some ⟨w.heap.size, 0, none⟩) 4 4 [109, 111, 114, 101] ∧ Below w.heap.size w w2 := by
  obtain ⟨w2, h1, h2, h3⟩ := conv_new w #[B 109, B 111, B 114, B 101] [109, 111, 114, 101] 4 rfl rfl
  exact ⟨w2, h1, ⟨h2, rfl, Nat.le_refl _, (fun e => by cases e), by decide⟩, h3⟩
/-- what lost appends: from nothing -/
theorem app0 (X : Nat → Prop) (N : Nat) (_hX : ∀ b, X b → b < N) (A : Option Addr) (n c : Nat) (ls : List (List UInt8)) (W : World) (h : EsI W X A n c ls) (hN : N ≤ W.heap.size) (hn : n ≤ 1000000) :
    ∃ v W', (Builtin.append_ #[23, 23] 23 #[.slice none 0 0, .slice A n c]).run Try.prog W = .ok v W' ∧ EsO W' N v ls X ∧ W.grownBy W' none ∧ Below W.heap.size W W' ∧ ∀ b, v.ownBlock = some b → W.heap.size ≤ b := by
  obtain ⟨v, W', h1, h2, h3, h4⟩ := (EsO.nil (W := W) (lo := N) (X := X)).apps hN h (by simp; omega) (fun _ _ _ e => by cases e)
  refine ⟨v, W', h1, by simpa using h2, h3, grown_to_below h3 (fun _ e => by cases e) (Nat.le_refl _), fun b hb => ?_⟩
  rcases h4 with h4 | ⟨k, h4, hk⟩
  · rw [h4] at hb; cases hb
  · rw [h4] at hb; cases hb; exact hk
theorem app1 (X : Nat → Prop) (N : Nat) (hX : ∀ b, X b → b < N) (v0 : Value) (A : Option Addr) (n c : Nat) (ls ms : List (List UInt8)) (W : World) (h0 : EsO W N v0 ls X) (h : EsI W X A n c ms) (hN : N ≤ W.heap.size) (hn : ls.length + n ≤ 1000000) :
    ∃ v W', (Builtin.append_ #[23, 23] 23 #[v0, .slice A n c]).run Try.prog W = .ok v W' ∧ EsO W' N v (ls ++ ms) X ∧ W.grownBy W' v0.ownBlock ∧ Below N W W' := by
  obtain ⟨v, W', h1, h2, h3, h4⟩ := h0.apps hN h (by omega) (fun b _ hb e => by have := (h0.lt b e.symm).1; have := hX b hb; omega)
  exact ⟨v, W', h1, h2, h3, grown_to_below h3 (fun b e => (h0.lt b e).1) hN⟩
set_option maxHeartbeats 4000000 in
theorem msubmit_only (Z : Nat → Prop) (lo g : Nat) (R : MdR) (m : MoV) (W : World) (h : Md Z lo g R m W) (ho : m.only = true) (A : Option Addr) (n c : Nat) :
    Calls Try.prog 10 #[.pointer (some ⟨g, 0, none⟩), .slice A n c] W fun e w' => e = .returned (.int .i64 10) ∧ w' = W := by
  have hm := mmay_any h
  rw [ho] at hm
  clear h ho
  go_enter Try.func10, Try.ntmps10
  go_wp2_with (go_at_call 40; refine hm.mono ?_; rintro e w' ⟨rfl, hw⟩; obtain rfl := hw.symm)
  go_ret
  exact ⟨rfl, rfl⟩
set_option maxHeartbeats 16000000 in
set_option maxRecDepth 100000 in
theorem lost_any (Z : Nat → Prop) (lo g : Nat) (R : MdR) (m : MoV) (W : World) (h : Md Z lo g R m W) (ho : m.only = false) (hcap : 0 < m.cap) (Al Aw : Option Addr) (nl cl nw cw : Nat) (fh : Bool) (fs : Int) (fr : List UInt8) (cut : Int)
    (hel : Es W (fun b => b ≠ g) Al nl cl m.ents) (hew : Es W (fun b => b ≠ g) Aw nw cw m.queue) (hfr : fr.length = 32) (hfh : fh = m.has) (hpt : fh = true → fs = m.lastS ∧ fr = m.lastR) (hn : m.ents.length + m.queue.length ≤ 1000) :
    Calls Try.prog 16 #[.pointer (some ⟨g, 0, none⟩), .slice Al nl cl, .slice Aw nw cw, .agg (.int .i64 fs :: fr.map B).toArray, .bool fh, .int .i64 cut] W fun e w' => e = .returned (.bool true) ∧ Below lo W w' := by
  have hgW := h.blk.lt
  have hlog := h.low
  have hlw := h.size
  have hll := hel.len
  have hlq := hew.len
  have hrl := hel.room
  have hml := hel.max
  have hrw := hew.room
  have hmw := hew.max
  unfold maxLen at hml hmw
  obtain ⟨w1, hw1⟩ : ∃ x, W.alloc (.cells (.int .i64 fs :: fr.map B).toArray 28) = x := ⟨_, rfl⟩
  have B1 : Below W.heap.size W w1 := by rw [← hw1]; exact (Below.refl _ _).alloc (Nat.le_refl _) _
  have p1 : PB w1 W.heap.size fs fr := by rw [← hw1]; exact ⟨Blk.new _ _ _, hfr⟩
  obtain ⟨w2, hw2⟩ : ∃ x, (w1.alloc (.cells (fcP none 0 0 false 0 zh) 30)).setRow w1.heap.size (fcP Al nl cl fh fs fr) = x := ⟨_, rfl⟩
  have b2 : Below w1.heap.size w1 w2 := by rw [← hw2]; exact below_setRow ((Below.refl _ _).alloc (Nat.le_refl _) _) (Nat.le_refl _) _
  have k2 : Blk w2 w1.heap.size 30 (fcP Al nl cl fh fs fr) := by rw [← hw2]; exact (Blk.new _ _ _).setRow_ _
  have p2 := p1.step b2
  have z1 := p1.lt
  have Hld := Lib.hid (fcP_load k2 hfr)
  have Hw1 := Lib.hid hw1
  have Hw2 := Lib.hid hw2
  have Hh := Lib.hid h
  have Hel := Lib.hid hel
  have Hew := Lib.hid hew
  have Hpt := Lib.hid hpt
  have Hfh := Lib.hid hfh
  have Hho := Lib.hid ho
  have Hll := Lib.hid hll
  have Hlq := Lib.hid hlq
  clear hw1 hw2 h hel hew hpt hfh ho hll hlq
  go_enter Try.func16, Try.ntmps16
  go_wp2_with (first
    | ((with_reducible show wpList _ _ _ (⟨some 9, .box _ _, _, _, _, _⟩ :: _) _ _); refine wpList_run rfl (.pointer (some ⟨W.heap.size, 0, none⟩)) w1 (by rw [← Hw1.out]; rfl) ?_; simp only [Act.put, List.setIfInBounds_toArray, List.set_cons_succ, List.set_cons_zero])
    | ((with_reducible show wpList _ _ _ (⟨some 20, .load _ _, _, _, _, _⟩ :: _) _ _); refine wpList_runG (by kernel_rfl) _ _ (loadN_op 28 (.tmp 9) W.heap.size rfl rfl p1.load) ?_; simp only [Act.put, List.setIfInBounds_toArray, List.set_cons_succ, List.set_cons_zero])
    | ((with_reducible show wpList _ _ _ (⟨some 13, .alloc _, _, _, _, _⟩ :: _) _ _); refine wpList_run rfl (.pointer (some ⟨w1.heap.size, 0, none⟩)) (w1.alloc (.cells (fcP none 0 0 false 0 zh) 30)) (by kernel_rfl) ?_; simp only [Act.put, List.setIfInBounds_toArray, List.set_cons_succ, List.set_cons_zero])
    | ((with_reducible show wpList _ _ _ [⟨none, .store _ (.tmp 13) _, _, _, _, _⟩] _ _); refine wpList_store_blk rfl 30 (.tmp 13) (.tmp 21) rfl 38 fdSize w1.heap.size (fcP Al nl cl fh fs fr) rfl rfl (fcP_size _ _ _ _ _ _ hfr) (one_fcP _ _ _ _ _ _) 30 _ (Blk.new w1 _ _) (fcP_size _ _ _ _ _ _ rfl) ?_; rw [Hw2.out]; simp only [Act.put])
    | ((with_reducible show wpList _ _ _ (⟨some 23, .load _ _, _, _, _, _⟩ :: _) _ _); refine wpList_runG (by kernel_rfl) (.agg (fcP Al nl cl fh fs fr)) _ (loadN_op 30 (.tmp 13) w1.heap.size rfl rfl Hld.out) ?_; simp only [Act.put, List.setIfInBounds_toArray, List.set_cons_succ, List.set_cons_zero])
    | ((with_reducible show wpList _ _ _ (⟨some 21, .build _ _, _, _, _, _⟩ :: _) _ _); refine wpList_runG (by kernel_rfl) _ _ (build_opM 30 (.tmp 18) (.tmp 19) (.tmp 20) 0 4 5 rfl rfl rfl rfl (built_fcP Al nl cl fh fs fr hfr)) ?_; simp only [Act.put, List.setIfInBounds_toArray, List.set_cons_succ, List.set_cons_zero]))
  have B2 := B1.trans (b2.mono B1.size)
  have h2 := Hh.out.step B2
  have hbg := (Hh.out.fresh Hho.out).1
  have el2 := Hel.out.step B2
  have ew2 := Hew.out.step B2
  refine (mallows_any Z lo g R m w2 h2 _ Al nl cl m.ents fh fs fr (Fnd.ofP Al nl cl fh fs fr hfr) el2.all (by rw [hbg]; simp; omega)).mono ?_
  rintro e w3 ⟨rfl, b3⟩
  rw [allows_log m fh fs fr Hfh.out Hpt.out]
  have h3 := h2.step b3
  have B3 := B2.trans (b3.mono B2.size)
  go_wp2_with fail
  refine (mfail1_any Z lo g R m w3 h3 Hho.out).mono ?_
  rintro e w4 ⟨rfl, R4, h4, hk4⟩
  have k4 := hk4.blk (k2.step b3) (by omega)
  have p4 : PB w4 W.heap.size fs fr := ⟨hk4.blk ((p2.step b3).blk) (by omega), hfr⟩
  have el4 := (el2.step b3).kb hk4 (fun _ _ h => h)
  have ew4 := (ew2.step b3).kb hk4 (fun _ _ h => h)
  have B4 : Below lo W w4 := (B3.mono hlw).trans (hk4.below (fun b e => by omega) h3.size)
  have z4 := B4.size
  have e1 := lose_ents m
  have e2 := lose_begun m hbg
  have e3 := lose_queue m
  have e4 := lose_has m
  have e5 := lose_last m
  clear p1 b2 k2 p2 Hld Hw1 Hw2 B1 B2 h2 el2 ew2 b3 h3 B3 hk4
  have Hld4 := Lib.hid (fcP_load k4 hfr)
  have Hp4 := Lib.hid p4
  have H4 := Lib.hid h4
  have El4 := Lib.hid el4
  have Ew4 := Lib.hid ew4
  have E1 := Lib.hid e1
  have E2 := Lib.hid e2
  have E3 := Lib.hid e3
  have E4 := Lib.hid e4
  have E5 := Lib.hid e5
  have Hbg := Lib.hid hbg
  clear k4 p4 h4 el4 ew4 e1 e2 e3 e4 e5 hbg
  go_wp2_with ((with_reducible show wpList _ _ _ (⟨some 33, .load _ _, _, _, _, _⟩ :: _) _ _); refine wpList_runG (by kernel_rfl) (.agg (fcP Al nl cl fh fs fr)) _ (loadN_op 30 (.tmp 13) w1.heap.size rfl rfl Hld4.out) ?_; simp only [Act.put, List.setIfInBounds_toArray, List.set_cons_succ, List.set_cons_zero])
  refine (mallows_any Z lo g R4 m.lose w4 H4.out _ Al nl cl m.ents fh fs fr (Fnd.ofP Al nl cl fh fs fr hfr) El4.out.all (by rw [E1.out, E2.out]; omega)).mono ?_
  rintro e w5 ⟨rfl, b5⟩
  have hal : m.lose.allows m.ents fh fs fr = true := by
    have := allows_log m.lose fh fs fr (by rw [E4.out]; exact Hfh.out) (fun e => by rw [E5.out.1, E5.out.2]; exact Hpt.out e)
    rwa [E1.out] at this
  rw [hal]
  clear hal
  have h5 := H4.out.step b5
  have p5 := Hp4.out.step b5
  have el5 := El4.out.step b5
  have ew5 := Ew4.out.step b5
  have B5 := B4.trans (b5.mono (by have := H4.out.size; omega))
  clear b5 B4 Hld4 Hp4 H4 El4 Ew4
  have Hp5 := Lib.hid p5
  have H5 := Lib.hid h5
  have El5 := Lib.hid el5
  have Ew5 := Lib.hid ew5
  clear h5 p5 el5 ew5
  go_wp2_with fail
  refine (monly_any H5.out).mono ?_
  rintro e w6 ⟨rfl, hw⟩
  obtain rfl := hw.symm
  clear hw
  by_cases hq : m.queue = []
  · have hnw : nw = 0 := by rw [← Hlq.out, hq]; rfl
    subst hnw
    have hol : m.lose.only = false := by unfold MoV.lose; rw [if_pos hq]; exact Hho.out
    rw [hol]
    clear hol
    go_wp2_with fail
    have hsub : (m.lose.submit []).1 = 0 := by
      unfold MoV.submit
      rw [if_neg (by unfold MoV.lose; rw [if_pos hq, Hho.out]; decide), if_neg (by simp), if_neg]
      rw [E3.out, hq]
      have : m.lose.cap = m.cap := by unfold MoV.lose; split <;> rfl
      rw [this]
      simp
      omega
    refine (msubmit_any Z lo g R4 m.lose w5 H5.out none 0 0 [] Sl.nil (by decide) (by rw [E3.out]; omega)).mono ?_
    rintro e w7 ⟨rfl, hS7⟩
    rw [hsub]
    have B7 := B5.trans (hS7.below H5.out (Nat.le_refl _))
    clear hsub hS7
    go_wp2_with fail
    go_ret
    exact ⟨rfl, B7⟩
  · have hnw : 0 < nw := by rw [← Hlq.out]; exact List.length_pos_iff.2 hq
    have hol : m.lose.only = true := by unfold MoV.lose; rw [if_neg hq]
    rw [hol]
    have Hol := Lib.hid hol
    have Hq := Lib.hid hq
    clear hol hq
    have d1 : decide ((0 : Int) < (nw : Int)) = true := by simp; omega
    have d2 : decide (0 < nw) = true := by simp; omega
    have d3 : ((nw : Int) == 0) = false := by simp; omega
    have d4 : (nw == 0) = false := by simp; omega
    have hz : ¬ (nw : Int) = 0 := by omega
    have hnw1 : nw ≤ 1000 := by rw [← Hlq.out]; omega
    have hnl1 : nl ≤ 1000 := by rw [← Hll.out]; omega
    obtain ⟨hm1, hm2⟩ := tmod_rangeL cut nw hnw
    obtain ⟨k, hk, hkn⟩ := rem_natL cut nw hnw
    have hk2 : (cut.tmod (nw : Int) + (nw : Int)) % (nw : Int) = (k : Int) := (Int.tmod_eq_emod_of_nonneg (a := cut.tmod (nw : Int) + (nw : Int)) (by omega)).symm.trans hk
    have Hk := Lib.hid hk2
    clear hk2
    clear hk
    have hwk : IntKind.i64.wrap ((k : Int) + 1) = (k : Int) + 1 := IntWalk.i64_in _ (by omega)
    go_upto_region 7 with fail
    rw [Hk.out]
    have hN := B5.size
    have hlim : EsI w5 (· < w5.heap.size) Al nl cl m.ents := El5.out.i.weak fun b hb _ => hb
    have hliw : EsI w5 (· < w5.heap.size) Aw nw cw m.queue := Ew5.out.i.weak fun b hb _ => hb
    have hA1 := fun V (hb : Below w5.heap.size w5 V) => app0 (· < w5.heap.size) w5.heap.size (fun _ h => h) Al nl cl m.ents V (hlim.step hb) hb.size (by rw [← Hll.out]; omega)
    have hA2 := fun V v0 (hb : Below w5.heap.size w5 V) (h0 : EsO V w5.heap.size v0 m.ents (· < w5.heap.size)) => app1 (· < w5.heap.size) w5.heap.size (fun _ h => h) v0 Aw (k + 1) cw m.ents (m.queue.take (k + 1)) V h0 ((hliw.take (k + 1) (by omega)).step hb) hb.size (by omega)
    have lp : ∀ s : InC (fun W' => Below w5.heap.size w5 W'), (Instr.loadAt 28 (.pointer (some ⟨W.heap.size, 0, none⟩))).run Try.prog s.W = .ok (.agg (.int .i64 fs :: fr.map B).toArray) s.W := fun s => (Hp5.out.step s.ok).load
    have HA1 := Lib.hid hA1
    have HA2 := Lib.hid hA2
    have Lp := Lib.hid lp
    have Hlim := Lib.hid hlim
    have Hliw := Lib.hid hliw
    clear hA1 hA2 lp hlim hliw
    refine wp_share_us (fun us a' W' => ∃ (E : Option Addr) (cE gg : Nat), a' = { tmps := #[.pointer (some ⟨g, 0, none⟩), .slice Al nl cl, .slice Aw nw cw, us 3, .bool fh, us 5, us 6, us 7, us 8, .pointer (some ⟨W.heap.size, 0, none⟩), us 10, us 11, us 12, us 13, .int .i64 (k : Int), .pointer (some ⟨gg, 0, none⟩), us 16, us 17, us 18, us 19, us 20, us 21, us 22, us 23, us 24, us 25, us 26, us 27, us 28, us 29, us 30, us 31, us 32, us 33, us 34, us 35, us 36, us 37, us 38, us 39, us 40, us 41, us 42, us 43, us 44, us 45, us 46, us 47, us 48, us 49, us 50, us 51, us 52, us 53, us 54, us 55, us 56, us 57, us 58, us 59, us 60, us 61, us 62, us 63, us 64, us 65, us 66, us 67, us 68, us 69, us 70, us 71, us 72, us 73, us 74, us 75, us 76, us 77, us 78, us 79, us 80, us 81, us 82, us 83, us 84, us 85, us 86, us 87, us 88, us 89, us 90, us 91, us 92, us 93, us 94, us 95, us 96, us 97, us 98, us 99, us 100, us 101, us 102, us 103, us 104, us 105, us 106, us 107, us 108, us 109, us 110, us 111, us 112, us 113, us 114, us 115, us 116, us 117, us 118, us 119, us 120, us 121], defers := [] } ∧ EsO W' w5.heap.size (.slice E (m.ents ++ m.queue.take (k + 1)).length cE) (m.ents ++ m.queue.take (k + 1)) (· < w5.heap.size) ∧ Blk W' gg 30 (fcP E (m.ents ++ m.queue.take (k + 1)).length cE fh fs fr) ∧ w5.heap.size ≤ gg ∧ Below w5.heap.size w5 W') ?_ ?_
    · obtain ⟨ns, hns⟩ : ∃ x, (m.ents ++ m.queue.take (k + 1)).length = x := ⟨_, rfl⟩
      have Hns := Lib.hid hns
      have hkc : k + 1 ≤ cw := by omega
      clear hns
      have hS : Below (w5.heap.size) w5 w5.drew := (Below.refl _ _).drew
      refine wp_region_begin (fun W => Below (w5.heap.size) w5 W) (by kernel_rfl) hS fun _ => ?_
      generalize w5.drew = W5 at hS  ⊢
      refine wpAnyH_pre (f := 5) (by kernel_rfl) #[true, false, true, true, true, true, false, true, true, false, false, false] [(0, true), (2, true), (3, true), (4, true), (5, true), (7, true), (8, true)] _ _ _ (by kernel_rfl) hS ?_
      simp only [List.map_cons, List.map_nil, Array.getD_eq_getD_getElem?, List.getElem?_toArray, List.getElem?_cons_succ, List.getElem?_cons_zero, Option.getD_some]
      refine wpMix_s (fun K hK => ?_)
      go_simp
      refine hK _ ?_
      clear hK K
      refine wpMix_s (fun K hK => ?_)
      go_simp
      refine hK _ ?_
      clear hK K
      refine wpMix_s (fun K hK => ?_)
      go_simp
      refine hK _ ?_
      clear hK K
      refine wpMix_s (fun K hK => ?_)
      go_simp
      refine hK _ ?_
      clear hK K
      refine wpMix_v (by kernel_rfl) (.slice Aw (k + 1) cw) (fun s => run_slice_hiB (.tmp 63) (.tmp 65) rfl Aw nw cw (k + 1) rfl (by rfl) hkc s.W) ?_
      simp only [Act.put, List.setIfInBounds_toArray, List.set_cons_succ, List.set_cons_zero]
      refine wpMix_s (fun K hK => ?_)
      go_simp
      refine hK _ ?_
      clear hK K
      refine wpMix_load (by kernel_rfl) 28 (.tmp 9) rfl (W.heap.size) (0) rfl (.int .i64 fs :: fr.map B).toArray (Lp.out) ?_
      simp only [Act.put, List.setIfInBounds_toArray, List.set_cons_succ, List.set_cons_zero]
      refine wpMix_nil ?_
      intro _
      refine wpAnyH_fork (f := 4) (i := 1) (j := 10) (by kernel_rfl) hS ?_ ?_
      · simp only [Array.getD_eq_getD_getElem?, List.getElem?_toArray, List.getElem?_cons_succ, List.getElem?_cons_zero, Option.getD_some]
        obtain ⟨v1, W5a, hr1, ho1, hg1, hb1, hv1⟩ := HA1.out W5 hS
        refine wpMix_run (by kernel_rfl) v1 W5a (run_append_op (.const (.slice none 0 0)) (.tmp 61) 23 rfl (.slice none 0 0) (.slice Al nl cl) rfl rfl hr1) (hS.trans (hb1.mono hS.size)) ?_
        simp only [Act.put, List.setIfInBounds_toArray, List.set_cons_succ, List.set_cons_zero]
        replace hS := hS.trans (hb1.mono hS.size)
        try replace kb := kb.step hb1
        refine wpMix_nil ?_
        intro _
        show wpAnyH _ _ _ _ _ _ #[true, true, true, true, true, true, false, true, true, false, false, false] _ _
        refine wpAnyH_fork (f := 3) (i := 6) (j := 10) (by kernel_rfl) hS ?_ ?_
        · simp only [Array.getD_eq_getD_getElem?, List.getElem?_toArray, List.getElem?_cons_succ, List.getElem?_cons_zero, Option.getD_some]
          obtain ⟨v2, W5ab, hr2, ho2, hg2, hb2⟩ := HA2.out W5a v1 hS ho1
          obtain ⟨E, cE, rfl, hE⟩ := ho2.i
          rw [Hns.out] at hr2
          refine wpMix_run (by kernel_rfl) (.slice E ns cE) W5ab (run_append_op (.tmp 62) (.tmp 66) 23 rfl v1 (.slice Aw (k + 1) cw) rfl rfl hr2) (hS.trans hb2) ?_
          simp only [Act.put, List.setIfInBounds_toArray, List.set_cons_succ, List.set_cons_zero]
          replace hS := hS.trans hb2
          try replace kb := kb.grown hg2 (fun e => own_ty ho1.ex.choose_spec.1 kb (by decide) e.symm)
          refine wpMix_nil ?_
          intro _
          show wpAnyH _ _ _ _ _ _ #[true, true, true, true, true, true, true, true, true, false, false, false] _ _
          refine wpAnyH_pre (f := 0) (by kernel_rfl) #[true, true, true, true, true, true, true, true, true, true, true, true] [(9, true), (10, false), (11, false)] _ _ _ (by kernel_rfl) hS ?_
          simp only [List.map_cons, List.map_nil, Array.getD_eq_getD_getElem?, List.getElem?_toArray, List.getElem?_cons_succ, List.getElem?_cons_zero, Option.getD_some]
          refine wpMix_v (by kernel_rfl) (.agg (fcP E ns cE fh fs fr)) (fun s => build_opM 30 (.tmp 67) (.tmp 68) (.tmp 69) 0 4 5 rfl rfl rfl rfl (built_fcP E ns cE fh fs fr hfr)) ?_
          simp only [Act.put, List.setIfInBounds_toArray, List.set_cons_succ, List.set_cons_zero]
          refine wpMix_run (by kernel_rfl) (.pointer (some ⟨W5ab.heap.size, 0, none⟩)) (W5ab.alloc (.cells (fcP none 0 0 false 0 zh) 30)) (by kernel_rfl) (hS.alloc hS.size _) ?_
          simp only [Act.put, List.setIfInBounds_toArray, List.set_cons_succ, List.set_cons_zero]
          have hbc : Below W5ab.heap.size W5ab (W5ab.alloc (.cells (fcP none 0 0 false 0 zh) 30)) := (Below.refl _ _).alloc (Nat.le_refl _) _
          have kb : Blk (W5ab.alloc (.cells (fcP none 0 0 false 0 zh) 30)) W5ab.heap.size 30 (fcP none 0 0 false 0 zh) := Blk.new _ _ _
          have hgs := hS.size
          replace hS := hS.trans (hbc.mono hS.size)
          try replace ho1 := ho1.step hbc
          try replace ho2 := ho2.step hbc
          clear hbc
          obtain ⟨gg, hgg⟩ : ∃ x, W5ab.heap.size = x := ⟨_, rfl⟩
          rw [hgg] at kb hgs ⊢
          obtain ⟨W5abc, hWc⟩ : ∃ x, W5ab.alloc (.cells (fcP none 0 0 false 0 zh) 30) = x := ⟨_, rfl⟩
          rw [hWc] at hS kb ⊢
          try rw [hWc] at ho1
          try rw [hWc] at ho2
          clear hWc hgg
          have hn2 := own_ty ho2.ex.choose_spec.1 kb (by decide)
          refine wpMix_store_blk rfl 30 (.tmp 15) (.tmp 70) rfl 38 fdSize gg (fcP E ns cE fh fs fr) rfl rfl (fcP_size _ _ _ _ _ _ hfr) (one_fcP _ _ _ _ _ _) 30 _ kb (fcP_size _ _ _ _ _ _ rfl) (below_setRow hS hgs _) ?_
          simp only [Act.put]
          replace hS := below_setRow hS hgs (fcP E ns cE fh fs fr)
          have hkb : KB (fun b => b = gg) W5abc (W5abc.setRow gg (fcP E ns cE fh fs fr)) := KB.of_grown (grown_setRow (World.grownBy.refl _ _) _) fun r e => (Option.some.inj e).symm
          have ho3 := ho2.kb hkb (fun b hb e => hn2 (by rw [← e]; exact hb)) (fun b _ hb e => by have hb : b < w5.heap.size := hb; omega)
          have kb3 := kb.setRow_ (fcP E ns cE fh fs fr)
          refine wpMix_nil ?_
          intro _
          refine wpAnyH_end (by kernel_rfl) ?_
          refine ⟨E, cE, gg, ?_, by rw [Hns.out] at ho3 ⊢; exact ho3, by rw [Hns.out]; exact kb3, hgs, hS⟩
          kernel_rfl
        · simp only [Array.getD_eq_getD_getElem?, List.getElem?_toArray, List.getElem?_cons_succ, List.getElem?_cons_zero, Option.getD_some]
          refine wpMix_run (by kernel_rfl) (.pointer (some ⟨W5a.heap.size, 0, none⟩)) (W5a.alloc (.cells (fcP none 0 0 false 0 zh) 30)) (by kernel_rfl) (hS.alloc hS.size _) ?_
          simp only [Act.put, List.setIfInBounds_toArray, List.set_cons_succ, List.set_cons_zero]
          have hbc : Below W5a.heap.size W5a (W5a.alloc (.cells (fcP none 0 0 false 0 zh) 30)) := (Below.refl _ _).alloc (Nat.le_refl _) _
          have kb : Blk (W5a.alloc (.cells (fcP none 0 0 false 0 zh) 30)) W5a.heap.size 30 (fcP none 0 0 false 0 zh) := Blk.new _ _ _
          have hgs := hS.size
          replace hS := hS.trans (hbc.mono hS.size)
          try replace ho1 := ho1.step hbc
          try replace ho2 := ho2.step hbc
          clear hbc
          obtain ⟨gg, hgg⟩ : ∃ x, W5a.heap.size = x := ⟨_, rfl⟩
          rw [hgg] at kb hgs ⊢
          obtain ⟨W5ac, hWc⟩ : ∃ x, W5a.alloc (.cells (fcP none 0 0 false 0 zh) 30) = x := ⟨_, rfl⟩
          rw [hWc] at hS kb ⊢
          try rw [hWc] at ho1
          try rw [hWc] at ho2
          clear hWc hgg
          refine wpMix_nil ?_
          intro _
          show wpAnyH _ _ _ _ _ _ #[true, true, true, true, true, true, false, true, true, false, true, false] _ _
          refine wpAnyH_pre (f := 0) (by kernel_rfl) #[true, true, true, true, true, true, true, true, true, true, true, true] [(6, false), (9, true), (11, false)] _ _ _ (by kernel_rfl) hS ?_
          simp only [List.map_cons, List.map_nil, Array.getD_eq_getD_getElem?, List.getElem?_toArray, List.getElem?_cons_succ, List.getElem?_cons_zero, Option.getD_some]
          obtain ⟨v2, W5acb, hr2, ho2, hg2, hb2⟩ := HA2.out W5ac v1 hS ho1
          obtain ⟨E, cE, rfl, hE⟩ := ho2.i
          rw [Hns.out] at hr2
          refine wpMix_run (by kernel_rfl) (.slice E ns cE) W5acb (run_append_op (.tmp 62) (.tmp 66) 23 rfl v1 (.slice Aw (k + 1) cw) rfl rfl hr2) (hS.trans hb2) ?_
          simp only [Act.put, List.setIfInBounds_toArray, List.set_cons_succ, List.set_cons_zero]
          replace hS := hS.trans hb2
          try replace kb := kb.grown hg2 (fun e => own_ty ho1.ex.choose_spec.1 kb (by decide) e.symm)
          refine wpMix_v (by kernel_rfl) (.agg (fcP E ns cE fh fs fr)) (fun s => build_opM 30 (.tmp 67) (.tmp 68) (.tmp 69) 0 4 5 rfl rfl rfl rfl (built_fcP E ns cE fh fs fr hfr)) ?_
          simp only [Act.put, List.setIfInBounds_toArray, List.set_cons_succ, List.set_cons_zero]
          have hn2 := own_ty ho2.ex.choose_spec.1 kb (by decide)
          refine wpMix_store_blk rfl 30 (.tmp 15) (.tmp 70) rfl 38 fdSize gg (fcP E ns cE fh fs fr) rfl rfl (fcP_size _ _ _ _ _ _ hfr) (one_fcP _ _ _ _ _ _) 30 _ kb (fcP_size _ _ _ _ _ _ rfl) (below_setRow hS hgs _) ?_
          simp only [Act.put]
          replace hS := below_setRow hS hgs (fcP E ns cE fh fs fr)
          have hkb : KB (fun b => b = gg) W5acb (W5acb.setRow gg (fcP E ns cE fh fs fr)) := KB.of_grown (grown_setRow (World.grownBy.refl _ _) _) fun r e => (Option.some.inj e).symm
          have ho3 := ho2.kb hkb (fun b hb e => hn2 (by rw [← e]; exact hb)) (fun b _ hb e => by have hb : b < w5.heap.size := hb; omega)
          have kb3 := kb.setRow_ (fcP E ns cE fh fs fr)
          refine wpMix_nil ?_
          intro _
          refine wpAnyH_end (by kernel_rfl) ?_
          refine ⟨E, cE, gg, ?_, by rw [Hns.out] at ho3 ⊢; exact ho3, by rw [Hns.out]; exact kb3, hgs, hS⟩
          kernel_rfl
      · simp only [Array.getD_eq_getD_getElem?, List.getElem?_toArray, List.getElem?_cons_succ, List.getElem?_cons_zero, Option.getD_some]
        refine wpMix_run (by kernel_rfl) (.pointer (some ⟨W5.heap.size, 0, none⟩)) (W5.alloc (.cells (fcP none 0 0 false 0 zh) 30)) (by kernel_rfl) (hS.alloc hS.size _) ?_
        simp only [Act.put, List.setIfInBounds_toArray, List.set_cons_succ, List.set_cons_zero]
        have hbc : Below W5.heap.size W5 (W5.alloc (.cells (fcP none 0 0 false 0 zh) 30)) := (Below.refl _ _).alloc (Nat.le_refl _) _
        have kb : Blk (W5.alloc (.cells (fcP none 0 0 false 0 zh) 30)) W5.heap.size 30 (fcP none 0 0 false 0 zh) := Blk.new _ _ _
        have hgs := hS.size
        replace hS := hS.trans (hbc.mono hS.size)
        try replace ho1 := ho1.step hbc
        try replace ho2 := ho2.step hbc
        clear hbc
        obtain ⟨gg, hgg⟩ : ∃ x, W5.heap.size = x := ⟨_, rfl⟩
        rw [hgg] at kb hgs ⊢
        obtain ⟨W5c, hWc⟩ : ∃ x, W5.alloc (.cells (fcP none 0 0 false 0 zh) 30) = x := ⟨_, rfl⟩
        rw [hWc] at hS kb ⊢
        try rw [hWc] at ho1
        try rw [hWc] at ho2
        clear hWc hgg
        refine wpMix_nil ?_
        intro _
        show wpAnyH _ _ _ _ _ _ #[true, false, true, true, true, true, false, true, true, false, true, false] _ _
        refine wpAnyH_pre (f := 0) (by kernel_rfl) #[true, true, true, true, true, true, true, true, true, true, true, true] [(1, false), (6, false), (9, true), (11, false)] _ _ _ (by kernel_rfl) hS ?_
        simp only [List.map_cons, List.map_nil, Array.getD_eq_getD_getElem?, List.getElem?_toArray, List.getElem?_cons_succ, List.getElem?_cons_zero, Option.getD_some]
        obtain ⟨v1, W5ca, hr1, ho1, hg1, hb1, hv1⟩ := HA1.out W5c hS
        refine wpMix_run (by kernel_rfl) v1 W5ca (run_append_op (.const (.slice none 0 0)) (.tmp 61) 23 rfl (.slice none 0 0) (.slice Al nl cl) rfl rfl hr1) (hS.trans (hb1.mono hS.size)) ?_
        simp only [Act.put, List.setIfInBounds_toArray, List.set_cons_succ, List.set_cons_zero]
        replace hS := hS.trans (hb1.mono hS.size)
        try replace kb := kb.step hb1
        obtain ⟨v2, W5cab, hr2, ho2, hg2, hb2⟩ := HA2.out W5ca v1 hS ho1
        obtain ⟨E, cE, rfl, hE⟩ := ho2.i
        rw [Hns.out] at hr2
        refine wpMix_run (by kernel_rfl) (.slice E ns cE) W5cab (run_append_op (.tmp 62) (.tmp 66) 23 rfl v1 (.slice Aw (k + 1) cw) rfl rfl hr2) (hS.trans hb2) ?_
        simp only [Act.put, List.setIfInBounds_toArray, List.set_cons_succ, List.set_cons_zero]
        replace hS := hS.trans hb2
        try replace kb := kb.grown hg2 (fun e => own_ty ho1.ex.choose_spec.1 kb (by decide) e.symm)
        refine wpMix_v (by kernel_rfl) (.agg (fcP E ns cE fh fs fr)) (fun s => build_opM 30 (.tmp 67) (.tmp 68) (.tmp 69) 0 4 5 rfl rfl rfl rfl (built_fcP E ns cE fh fs fr hfr)) ?_
        simp only [Act.put, List.setIfInBounds_toArray, List.set_cons_succ, List.set_cons_zero]
        have hn2 := own_ty ho2.ex.choose_spec.1 kb (by decide)
        refine wpMix_store_blk rfl 30 (.tmp 15) (.tmp 70) rfl 38 fdSize gg (fcP E ns cE fh fs fr) rfl rfl (fcP_size _ _ _ _ _ _ hfr) (one_fcP _ _ _ _ _ _) 30 _ kb (fcP_size _ _ _ _ _ _ rfl) (below_setRow hS hgs _) ?_
        simp only [Act.put]
        replace hS := below_setRow hS hgs (fcP E ns cE fh fs fr)
        have hkb : KB (fun b => b = gg) W5cab (W5cab.setRow gg (fcP E ns cE fh fs fr)) := KB.of_grown (grown_setRow (World.grownBy.refl _ _) _) fun r e => (Option.some.inj e).symm
        have ho3 := ho2.kb hkb (fun b hb e => hn2 (by rw [← e]; exact hb)) (fun b _ hb e => by have hb : b < w5.heap.size := hb; omega)
        have kb3 := kb.setRow_ (fcP E ns cE fh fs fr)
        refine wpMix_nil ?_
        intro _
        refine wpAnyH_end (by kernel_rfl) ?_
        refine ⟨E, cE, gg, ?_, by rw [Hns.out] at ho3 ⊢; exact ho3, by rw [Hns.out]; exact kb3, hgs, hS⟩
        kernel_rfl
    rintro us a' w6 ⟨E, cE, gg, rfl, ho6, k6, hgg, hb6⟩
    have hes := ho6.es
    obtain ⟨E', cE', hEe, hes6⟩ := hes
    injection hEe with e1 e2 e3
    subst e1
    subst e3
    clear e2
    have h6 := H5.out.step hb6
    have B6 := B5.trans (hb6.mono (by omega))
    have z6 := hb6.size
    have p6 := Hp5.out.step hb6
    have hlim6 := Hlim.out.step hb6
    have hliw6 := Hliw.out.step hb6
    have hnsl : (m.ents ++ m.queue.take (k + 1)).length = nl + (k + 1) := by rw [List.length_append, List.length_take, Hll.out, Hlq.out]; omega
    rw [hnsl] at hes6 k6 ho6
    have hrE := hes6.room
    have hmE := hes6.max
    unfold maxLen at hmE
    have Hld6 := Lib.hid (fcP_load k6 hfr)
    clear HA1 HA2 Lp ho6 hb6
    have Hes6 := Lib.hid hes6
    have K6 := Lib.hid k6
    have P6 := Lib.hid p6
    have H6 := Lib.hid h6
    have Hlim6 := Lib.hid hlim6
    have Hliw6 := Lib.hid hliw6
    clear hes6 k6 p6 h6 hlim6 hliw6 H5 Hp5 El5 Ew5 Hlim Hliw
    obtain ⟨sm, hsm⟩ : ∃ x, m.ents ++ m.queue.take (k + 1) = x := ⟨_, rfl⟩
    obtain ⟨ns, hns⟩ : ∃ x, nl + (k + 1) = x := ⟨_, rfl⟩
    rw [hns] at K6 Hes6 Hld6
    rw [hsm] at Hes6
    have Hsm := Lib.hid hsm
    clear hnsl
    go_upto_region 9 with (first
    | ((with_reducible show wpList _ _ _ (⟨some 71, .load _ _, _, _, _, _⟩ :: _) _ _); refine wpList_runG (by kernel_rfl) (.agg (fcP E ns cE fh fs fr)) _ (loadN_op 30 (.tmp 15) gg rfl rfl Hld6.out) ?_; simp only [Act.put, List.setIfInBounds_toArray, List.set_cons_succ, List.set_cons_zero])
    | ((with_reducible show wpList _ _ _ (⟨some 16, .alloc _, _, _, _, _⟩ :: _) _ _); refine wpList_varA (T := 30) (zs := fcP none 0 0 false 0 zh) (cs := fcP E ns cE fh fs fr) 38 (.tmp 16) (.tmp 71) rfl rfl (by kernel_rfl) fdSize rfl rfl rfl (fcP_size _ _ _ _ _ _ hfr) (fcP_size _ _ _ _ _ _ rfl) (one_fcP _ _ _ _ _ _) ?_; intro w7 k7 b7; simp only [Act.put, List.setIfInBounds_toArray, List.set_cons_succ, List.set_cons_zero]))
    have z7 := b7.size
    have hlim7 : EsI w7 (· < w5.heap.size) Al nl cl m.ents := Hlim6.out.step b7
    have hliw7 : EsI w7 (· < w5.heap.size) Aw nw cw m.queue := Hliw6.out.step b7
    obtain ⟨g16, hg16⟩ : ∃ x, w6.heap.size = x := ⟨_, rfl⟩
    rw [hg16] at k7 ⊢
    have hg16' : w5.heap.size ≤ g16 := by omega
    have zg := k7.lt
    obtain ⟨v8, w8, hr8, ho8, -, hb8, -⟩ := app0 (· < w5.heap.size) w7.heap.size (fun b hb => by have hb : b < w5.heap.size := hb; omega) Al nl cl m.ents w7 hlim7 (Nat.le_refl _) (by omega)
    have z8 := hb8.size
    obtain ⟨v9, w9, hr9, ho9, -, hb9⟩ := app1 (· < w5.heap.size) w7.heap.size (fun b hb => by have hb : b < w5.heap.size := hb; omega) v8 Aw nw cw m.ents m.queue w8 ho8 (hliw7.step hb8) (by omega) (by omega)
    have z9 := hb9.size
    obtain ⟨w10, hc10, hs10, hb10⟩ := lit4B w9
    have z10 := hb10.size
    have ho10 := (ho9.weak (Y := fun b => b < w5.heap.size ∨ w9.heap.size ≤ b) fun _ _ h => .inl h).step hb10
    obtain ⟨v11, w11, hr11, ho11, hg11, -⟩ := ho10.app (by omega) (by rw [List.length_append]; omega) [109, 111, 114, 101] _ 4 (hs10.weak (Y := fun b => b < w5.heap.size ∨ w9.heap.size ≤ b) fun _ _ h => .inr h) (fun b _ hx e => by have := ho9.lt b e.symm; rcases hx with hx | hx <;> omega)
    have hb11 : Below w7.heap.size w10 w11 := grown_to_below hg11 (fun b e => (ho10.lt b e).1) (by omega)
    have z11 := hb11.size
    have hB : Below w7.heap.size w7 w11 := ((hb8.trans hb9).trans (hb10.mono (by omega))).trans hb11
    have k11 := k7.step hB
    obtain ⟨A11, c11, rfl, hi11⟩ := ho11.i
    have hlen11 : (m.ents ++ m.queue ++ [[109, 111, 114, 101]]).length = nl + nw + 1 := by rw [List.length_append, List.length_append, Hll.out, Hlq.out]; rfl
    rw [hlen11] at hr11 ho11 hi11
    obtain ⟨w12, hw12⟩ : ∃ x, w11.setCell ⟨g16, 0, none⟩ (.slice A11 (nl + nw + 1) c11) = x := ⟨_, rfl⟩
    have k12 : Blk w12 g16 30 (fcP A11 (nl + nw + 1) c11 fh fs fr) := by rw [← hw12, ← fcP_set E ns cE fh fs fr]; exact k11.set_ 0 _
    have hg12 : w11.grownBy w12 (some g16) := by rw [← hw12]; exact grown_setCell (World.grownBy.refl _ _) 0 _
    have hkb12 : KB (fun b => b = g16) w11 w12 := KB.of_grown hg12 fun r e => (Option.some.inj e).symm
    have hBW : Below w6.heap.size w6 w12 := (b7.trans (hB.mono (by omega))).trans (hkb12.below (fun b e => by omega) (by omega))
    have c0 : w11.cell? ⟨g16, 0, none⟩ = some (.slice E ns cE) := by rw [k11.cell]; rfl
    have f0 := k11.frozen 0
    have ho12 := ho11.kb hkb12 (fun b hb e => by have := (ho11.lt b hb).1; omega) (fun b _ hb e => by rcases hb with hb | hb <;> omega)
    obtain ⟨Ax, cx, hex, hes12⟩ := ho12.es
    injection hex with e1 e2 e3
    subst e1
    subst e3
    clear e2
    rw [hlen11] at hes12
    have hes12' := Hes6.out.step hBW
    have hld6 := fcP_load (K6.out.step hBW) hfr
    have z12 := hBW.size
    have h12 := H6.out.step hBW
    have p12 := P6.out.step hBW
    have B12 := B6.trans (hBW.mono (by omega))
    have Hr8 := Lib.hid hr8
    have Hr9 := Lib.hid hr9
    have Hc10 := Lib.hid hc10
    have Hr11 := Lib.hid hr11
    have Hw12 := Lib.hid hw12
    have hlg12 := (Hlim6.out.step hBW).es
    have Hes12 := Lib.hid hes12
    have Hlg12 := Lib.hid hlg12
    clear hlg12
    have Hes12' := Lib.hid hes12'
    have K12 := Lib.hid k12
    have Hld6' := Lib.hid hld6
    have H12 := Lib.hid h12
    have P12 := Lib.hid p12
    clear hr8 hr9 hc10 hr11 hw12 hes12 hes12' hld6 h12 p12 ho8 ho9 ho10 ho11 ho12 hb8 hb9 hb10 hb11 hB hBW hkb12 hg12 hg11 k11 k12 k7 hs10 hi11 hlim7 hliw7 b7 Hld6 Hes6 K6 P6 H6 Hlim6 Hliw6 hlen11
    go_wp2_with (first
    | ((with_reducible show wpList _ _ _ (⟨some 73, .call _, _, _, _, _⟩ :: _) _ _); refine wpList_runG (by kernel_rfl) v8 w8 (run_append_op (.const (.slice none 0 0)) (.tmp 72) 23 rfl (.slice none 0 0) (.slice Al nl cl) rfl rfl Hr8.out) ?_; simp only [Act.put, List.setIfInBounds_toArray, List.set_cons_succ, List.set_cons_zero])
    | ((with_reducible show wpList _ _ _ (⟨some 75, .call _, _, _, _, _⟩ :: _) _ _); refine wpList_runG (by kernel_rfl) v9 w9 (run_append_op (.tmp 73) (.tmp 74) 23 rfl v8 (.slice Aw nw cw) rfl rfl Hr9.out) ?_; simp only [Act.put, List.setIfInBounds_toArray, List.set_cons_succ, List.set_cons_zero])
    | ((with_reducible show wpList _ _ _ (⟨some 76, .buildSlice _ _ _, _, _, _, _⟩ :: _) _ _); refine wpList_runG (by kernel_rfl) (.slice (some ⟨w9.heap.size, 0, none⟩) 4 4) (w9.alloc (.cells #[B 109, B 111, B 114, B 101] 5)) (by kernel_rfl) ?_; simp only [Act.put, List.setIfInBounds_toArray, List.set_cons_succ, List.set_cons_zero])
    | ((with_reducible show wpList _ _ _ (⟨some 77, .convert _ _ _, _, _, _, _⟩ :: _) _ _); refine wpList_runG (by kernel_rfl) _ w10 (conv_opM 22 22 (.tmp 76) rfl rfl Hc10.out) ?_; simp only [Act.put, List.setIfInBounds_toArray, List.set_cons_succ, List.set_cons_zero])
    | ((with_reducible show wpList _ _ _ (⟨some 78, .buildSlice _ _ _, _, _, _, _⟩ :: _) _ _); refine wpList_runG (by kernel_rfl) (.slice (some ⟨w10.heap.size, 0, none⟩) 1 1) (w10.alloc (.cells #[.slice (some ⟨w9.heap.size, 0, none⟩) 4 4] 22)) (by kernel_rfl) ?_; simp only [Act.put, List.setIfInBounds_toArray, List.set_cons_succ, List.set_cons_zero])
    | ((with_reducible show wpList _ _ _ (⟨some 79, .call _, _, _, _, _⟩ :: _) _ _); refine wpList_runG (by kernel_rfl) (.slice A11 (nl + nw + 1) c11) w11 (run_append_op (.tmp 75) (.tmp 78) 23 rfl v9 _ rfl rfl Hr11.out) ?_; simp only [Act.put, List.setIfInBounds_toArray, List.set_cons_succ, List.set_cons_zero])
    | ((with_reducible show wpList _ _ _ (⟨none, .store _ _ _, _, _, _, _⟩ :: _) _ _); refine wpList_put1i rfl 23 (.tmp 80) (.tmp 79) rfl sizeEs ⟨g16, 0, none⟩ (.slice A11 (nl + nw + 1) c11) rfl rfl rfl _ c0 f0 ?_; rw [Hw12.out]; simp only [Act.put])
    | ((with_reducible show wpList _ _ _ (⟨some 82, .load _ _, _, _, _, _⟩ :: _) _ _); refine wpList_runG (by kernel_rfl) (.agg (fcP E ns cE fh fs fr)) _ (loadN_op 30 (.tmp 15) gg rfl rfl Hld6'.out) ?_; simp only [Act.put, List.setIfInBounds_toArray, List.set_cons_succ, List.set_cons_zero]))
    have hlb : m.lose.ents.length + m.lose.begun.length ≤ 1000 := by rw [E1.out, E2.out]; exact hn
    refine (mallows_any Z lo g R4 m.lose w12 H12.out _ E ns cE sm fh fs fr (Fnd.ofP E ns cE fh fs fr hfr) Hes12'.out (by omega)).mono ?_
    rintro e w13 ⟨rfl, b13⟩
    have hal : m.lose.allows sm fh fs fr = true := by
      have := allows_some m.lose (k + 1) fh fs fr (by rw [E2.out, Hlq.out]; omega) (by rw [E4.out]; exact Hfh.out) (fun e => by rw [E5.out.1, E5.out.2]; exact Hpt.out e)
      rwa [E1.out, E2.out, Hsm.out] at this
    rw [hal]
    clear hal
    have h13 := H12.out.step b13
    have hlg13 := Hlg12.out.step b13
    have Hlg13 := Lib.hid hlg13
    clear hlg13 Hlg12
    have hes13 := Hes12.out.step b13
    have p13 := P12.out.step b13
    have hld13 := fcP_load (K12.out.step b13) hfr
    have z13 := b13.size
    have B13 := B12.trans (b13.mono (by omega))
    have H13 := Lib.hid h13
    have Hes13 := Lib.hid hes13
    have P13 := Lib.hid p13
    have Hld13 := Lib.hid hld13
    clear h13 hes13 p13 hld13 b13 Hes12 K12 H12 P12 Hes12' Hld6' B12
    go_wp2_with ((with_reducible show wpList _ _ _ (⟨some 87, .load _ _, _, _, _, _⟩ :: _) _ _); refine wpList_runG (by kernel_rfl) (.agg (fcP A11 (nl + nw + 1) c11 fh fs fr)) _ (loadN_op 30 (.tmp 16) g16 rfl rfl Hld13.out) ?_; simp only [Act.put, List.setIfInBounds_toArray, List.set_cons_succ, List.set_cons_zero])
    refine (mallows_any Z lo g R4 m.lose w13 H13.out _ A11 (nl + nw + 1) c11 (m.ents ++ m.queue ++ [[109, 111, 114, 101]]) fh fs fr (Fnd.ofP A11 (nl + nw + 1) c11 fh fs fr hfr) Hes13.out (by omega)).mono ?_
    rintro e w14 ⟨rfl, b14⟩
    rw [allows_long m.lose _ fh fs fr (by rw [E1.out, E2.out]; simp)]
    have h14 := H13.out.step b14
    have hlg14 := Hlg13.out.step b14
    have Hlg14 := Lib.hid hlg14
    clear hlg14 Hlg13
    have p14 := P13.out.step b14
    have B14 := B13.trans (b14.mono (by omega))
    have z14 := b14.size
    have hsb := msubmit_only Z lo g R4 m.lose w14 h14 Hol.out none 0 0
    have hse := msettle_any h14
    rw [Hol.out, if_pos rfl] at hse
    have hwt := mwait_any h14
    rw [E3.out, Hlq.out] at hwt
    have H14 := Lib.hid h14
    have P14 := Lib.hid p14
    clear h14 p14 b14 Hes13 H13 P13 Hld13 B13
    go_wp2_with fail
    refine hsb.mono ?_
    rintro e w15 ⟨rfl, hw⟩
    obtain rfl := hw.symm
    clear hw hsb
    go_wp2_with fail
    refine hse.mono ?_
    rintro e w15 ⟨rfl, hw⟩
    obtain rfl := hw.symm
    clear hw hse
    go_wp2_with fail
    refine hwt.mono ?_
    rintro e w15 ⟨rfl, hw⟩
    obtain rfl := hw.symm
    clear hw hwt
    by_cases hl0 : nl = 0
    · subst hl0
      go_wp2_with fail
      go_ret
      exact ⟨rfl, B14⟩
    have dl1 : decide ((0 : Int) < (nl : Int)) = true := by simp; omega
    have dl2 : decide (0 < nl) = true := by simp; omega
    obtain ⟨j, hj⟩ : ∃ j, nl - 1 = j := ⟨_, rfl⟩
    have hwj : IntKind.i64.wrap ((nl : Int) - 1) = (j : Int) := by rw [IntWalk.i64_in _ (by omega)]; omega
    have hjc : j ≤ cl := by omega
    have hjn : j < nl := by omega
    have lp : ∀ s : InC (fun W' => Below w14.heap.size w14 W'), (Instr.loadAt 28 (.pointer (some ⟨W.heap.size, 0, none⟩))).run Try.prog s.W = .ok (.agg (.int .i64 fs :: fr.map B).toArray) s.W := fun s => (P14.out.step s.ok).load
    have Lp := Lib.hid lp
    have Hj := Lib.hid hj
    clear lp hj
    go_upto_region 13 with fail
    have hS : Below w14.heap.size w14 w14.drew := (Below.refl _ _).drew
    refine wp_region_mix (fun W => Below w14.heap.size w14 W) [(0, true), (1, true), (2, true), (3, true), (4, true), (5, true), (6, true), (7, true), (8, false), (9, false)] (by kernel_rfl) (by kernel_rfl) hS fun _ => ?_
    simp only [List.map_cons, List.map_nil, Array.getD_eq_getD_getElem?, List.getElem?_toArray, List.getElem?_cons_succ, List.getElem?_cons_zero, Option.getD_some]
    generalize w14.drew = V14 at hS ⊢
    refine wpMix_s (fun K hK => ?_)
    go_simp
    refine hK _ ?_
    clear hK K
    refine wpMix_s (fun K hK => ?_)
    go_simp
    refine hK _ ?_
    clear hK K
    refine wpMix_s (fun K hK => ?_)
    go_simp
    refine hK _ ?_
    clear hK K
    refine wpMix_s (fun K hK => ?_)
    go_simp
    refine hK _ ?_
    clear hK K
    refine wpMix_v (by kernel_rfl) (.slice Al j cl) (fun s => run_slice_hiB (.tmp 110) (.tmp 113) rfl Al nl cl j rfl rfl hjc s.W) ?_
    simp only [Act.put, List.setIfInBounds_toArray, List.set_cons_succ, List.set_cons_zero]
    refine wpMix_s (fun K hK => ?_)
    go_simp
    refine hK _ ?_
    clear hK K
    refine wpMix_load (by kernel_rfl) 28 (.tmp 9) rfl (W.heap.size) (0) rfl (.int .i64 fs :: fr.map B).toArray (Lp.out) ?_
    simp only [Act.put, List.setIfInBounds_toArray, List.set_cons_succ, List.set_cons_zero]
    refine wpMix_v (by kernel_rfl) (.agg (fcP Al j cl fh fs fr)) (fun s => build_opM 30 (.tmp 114) (.tmp 115) (.tmp 116) 0 4 5 rfl rfl rfl rfl (built_fcP Al j cl fh fs fr hfr)) ?_
    simp only [Act.put, List.setIfInBounds_toArray, List.set_cons_succ, List.set_cons_zero]
    refine wpMix_run (by kernel_rfl) (.pointer (some ⟨V14.heap.size, 0, none⟩)) (V14.alloc (.cells (fcP none 0 0 false 0 zh) 30)) (by kernel_rfl) (hS.alloc hS.size _) ?_
    simp only [Act.put, List.setIfInBounds_toArray, List.set_cons_succ, List.set_cons_zero]
    have hgs := hS.size
    have kb : Blk (V14.alloc (.cells (fcP none 0 0 false 0 zh) 30)) V14.heap.size 30 (fcP none 0 0 false 0 zh) := Blk.new _ _ _
    replace hS := hS.alloc hS.size (.cells (fcP none 0 0 false 0 zh) 30)
    obtain ⟨gg2, hgg⟩ : ∃ x, V14.heap.size = x := ⟨_, rfl⟩
    rw [hgg] at kb hgs ⊢
    obtain ⟨V14c, hWc⟩ : ∃ x, V14.alloc (.cells (fcP none 0 0 false 0 zh) 30) = x := ⟨_, rfl⟩
    rw [hWc] at hS kb ⊢
    clear hWc hgg
    refine wpMix_store_blk rfl 30 (.tmp 17) (.tmp 117) rfl 38 fdSize gg2 (fcP Al j cl fh fs fr) rfl rfl (fcP_size _ _ _ _ _ _ hfr) (one_fcP _ _ _ _ _ _) 30 _ kb (fcP_size _ _ _ _ _ _ rfl) (below_setRow hS hgs _) ?_
    simp only [Act.put]
    replace hS := below_setRow hS hgs (fcP Al j cl fh fs fr)
    replace kb := kb.setRow_ (fcP Al j cl fh fs fr)
    obtain ⟨V14cd, hWd⟩ : ∃ x, V14c.setRow gg2 (fcP Al j cl fh fs fr) = x := ⟨_, rfl⟩
    rw [hWd] at hS kb ⊢
    clear hWd
    refine wpMix_nil ?_
    intro _
    have z17 := hS.size
    have h17 := H14.out.step hS
    have hlg17 := (Hlg14.out.step hS).takeT j (by omega)
    have hld17 := Lib.hid (fcP_load kb hfr)
    have B17 := B14.trans (hS.mono (by omega))
    have H17 := Lib.hid h17
    have Hlg17 := Lib.hid hlg17
    clear h17 hlg17 H14 Hlg14 kb
    go_wp2_with ((with_reducible show wpList _ _ _ (⟨some 119, .load _ _, _, _, _, _⟩ :: _) _ _); refine wpList_runG (by kernel_rfl) (.agg (fcP Al j cl fh fs fr)) _ (loadN_op 30 (.tmp 17) gg2 rfl rfl hld17.out) ?_; simp only [Act.put, List.setIfInBounds_toArray, List.set_cons_succ, List.set_cons_zero])
    refine (mallows_any Z lo g R4 m.lose V14cd H17.out _ Al j cl (m.ents.take j) fh fs fr (Fnd.ofP Al j cl fh fs fr hfr) Hlg17.out (by omega)).mono ?_
    rintro e w18 ⟨rfl, b18⟩
    rw [allows_short m.lose _ fh fs fr (by rw [E1.out, List.length_take, Hll.out]; exact Nat.lt_of_le_of_lt (Nat.min_le_left _ _) hjn)]
    have B18 := B17.trans (b18.mono (by omega))
    clear b18 H17 Hlg17 hld17
    go_wp2_with fail
    go_ret
    exact ⟨rfl, B18⟩
end Go.Proofs.Ytobcfgbkhgkelaa
