/- notaryref11.up. -/
import Derived.Test.YtmglkblomklcbaaQc129
import Derived.Test.YtmglkblomklcbaaQc123
import Derived.Test.YtmglkblomklcbaaQc126
namespace Go.Proofs.Ytmglkblomklcbaa
open Go Go.RowKit

theorem owns_litS {T S : TypeId} {base : Nat} (W : World) (s : StepV) (hs : s.2.length = 32) (hb : base ≤ W.heap.size) : (W.alloc (.cells (scell s).toArray T)).ownsRow base T 34 (.slice (some ⟨W.heap.size, 0, none⟩) 1 1) 1 (scells [s]) := by
  have hl := length_scell s hs
  rw [scells_one]
  exact ⟨by rw [hl], .inr ⟨W.heap.size, 1, (scell s).toArray, rfl, hb, Blk.new W T _, Nat.le_refl _, by unfold maxLen; omega, by simp [hl], List.take_of_length_le (by simp [hl])⟩⟩

set_option maxHeartbeats 8000000 in
set_option maxRecDepth 100000 in
theorem r11up_rec (leaf : List UInt8) (i : Nat) (hlf : leaf.length = 32) (d : Nat) : ∀ (a b : Nat) (p : List (List UInt8)) (A : Option Addr) (np c : Nat) (w : World), b - a ≤ d → a ≤ i → i < b → b ≤ 9223372036854775807 → (pathL i a b).length = np → Hs w (fun _ => True) A np c p →
    Calls Try.prog 43 #[.agg (leaf.map B).toArray, .int .i64 (i : Int), .int .i64 (a : Int), .int .i64 (b : Int), .slice A np c] w fun e w' =>
      ∃ v, e = .returned v ∧ w'.ownsRow w.heap.size 92 34 v (upL leaf i a b p).length (scells (upL leaf i a b p)) ∧ Below w.heap.size w w' := by
  induction d with
  | zero => intro a b p A np c w h h1 h2; omega
  | succ d ih =>
    intro a b p A np c w hd h1 h2 hb hnp h
    have hlp : (pathL i a b).length ≤ 63 := pathL_len 63 i a b (by omega)
    have hplen := h.len
    have hp32 := h.all
    have hroom := h.sl.room
    have hmx := h.sl.max
    unfold maxLen at hmx
    have hw1 : IntKind.i64.wrap ((b : Int) - (a : Int)) = (b : Int) - a := IntWalk.i64_in _ (by omega)
    obtain ⟨w1, hw1e⟩ : ∃ w1, w.alloc (.cells (leaf.map B).toArray 45) = w1 := ⟨_, rfl⟩
    have hb1 : Below w.heap.size w w1 := by rw [← hw1e]; exact (Below.refl _ _).alloc (Nat.le_refl _) _
    have k5 : HV w1 w.heap.size leaf := ⟨by rw [← hw1e]; exact Blk.new _ _ _, hlf⟩
    have hl5 := k5.lt
    have Hw1e := Lib.hid hw1e
    have Hlf := Lib.hid hlf
    have Hplen := Lib.hid hplen
    have Hp32 := Lib.hid hp32
    clear hw1e hlf hplen hp32
    by_cases hs : b - a < 2
    · rw [upL_small leaf i a b p hs]
      have hd1 : ((b : Int) - (a : Int) == 1) = true := by simp; omega
      clear ih h hnp hlp
      go_enter Try.func43, Try.ntmps43
      go_wp2_with (first
        | ((with_reducible show wpList _ _ _ (⟨some 23, .load _ _, _, _, _, _⟩ :: _) _ _); rw [Hw1e.out]; refine wpList_hload (.tmp 5) (by kernel_rfl) rfl k5 rfl ?_; simp only [Act.put])
        | ((with_reducible show wpList _ _ _ (⟨some 24, .build _ _, _, _, _, _⟩ :: _) _ _); refine wpList_run0 rfl (.agg (scell ((a, b), leaf)).toArray) (run_build_st stepT2 (.tmp 22) (.tmp 23) a b leaf Hlf.out rfl rfl rfl _) ?_; simp only [Act.put])
        | ((with_reducible show wpList _ _ _ (⟨some 25, .buildSlice _ _ _, _, _, _, _⟩ :: _) _ _); refine wpList_run rfl _ _ (run_litS_op stepT2 ((a, b), leaf) Hlf.out (.tmp 24) rfl rfl _) ?_; simp only [Act.put]))
      go_ret
      exact ⟨_, rfl, owns_litS (S := 54) w1 _ Hlf.out hb1.size, hb1.alloc hb1.size _⟩
    · have hd1 : ((b : Int) - (a : Int) == 1) = false := by simp; omega
      have hsp := fun W => r11split_any ((b : Int) - a) W (by omega) (by omega)
      rw [show ((b : Int) - a).toNat = b - a by omega] at hsp
      obtain ⟨k, hk⟩ : ∃ k, splitN (b - a) = k := ⟨_, rfl⟩
      have hk1 := splitN_pos (b - a) (by omega)
      have hk2 := splitN_lt (b - a) (by omega)
      have hw3 : IntKind.i64.wrap ((a : Int) + (k : Int)) = (a : Int) + k := IntWalk.i64_in _ (by omega)
      by_cases hi : i < a + splitN (b - a)
      · have hpa := pathL_left i a b (by omega) hi
        have hpl : (pathL i a b).length = (pathL i a (a + splitN (b - a))).length + 1 := by rw [hpa, List.length_append]; rfl
        have hup := upL_left leaf i a b p (by omega) hi
        rw [hk] at hpl hup hi hsp
        obtain ⟨m, hm⟩ : ∃ m, (pathL i a (a + k)).length = m := ⟨_, rfl⟩
        obtain rfl : np = m + 1 := by omega
        rw [hup]
        have hdl : p.dropLast = p.take m := by rw [List.dropLast_eq_take, Hplen.out, Nat.add_sub_cancel]
        have hgl : p.getD (p.length - 1) [] = p.getD m [] := by rw [Hplen.out, Nat.add_sub_cancel]
        rw [hdl, hgl]
        have hq1 : (upL leaf i a (a + k) (p.take m)).length = m + 1 := by rw [← hm]; exact length_upL leaf (b - a) i a (a + k) (p.take (pathL i a (a + k)).length) (by omega) (by omega) (by omega)
        have hq32 : S32 (upL leaf i a (a + k) (p.take m)) := upL_all leaf Hlf.out (b - a) i a (a + k) (p.take m) (by omega)
        have hz : (lastH (upL leaf i a (a + k) (p.take m))).length = 32 := by
          obtain ⟨l, x, e⟩ := upL_last leaf i a (a + k) (p.take m)
          have := hq32 ((a, (a + k)), x) (by rw [e]; simp)
          rw [e, lastH_snoc]
          exact this
        have hsrc := h.weak (Y := (· < w.heap.size)) fun b hb _ => hb
        have hic := fun W (hW : Below w.heap.size w W) => ih a (a + k) (p.take m) A m c W (by omega) (by omega) (by omega) (by omega) hm (((hsrc.step hW).take m (by omega)).weak fun _ _ _ => trivial)
        rw [show ((a + k : Nat) : Int) = (a : Int) + k by omega] at hic
        obtain ⟨y, hy⟩ : ∃ y, p.getD m [] = y := ⟨_, rfl⟩
        have hyl : y.length = 32 := by rw [← hy]; exact Hp32.out.getD m (by rw [Hplen.out]; omega)
        rw [hy]
        obtain ⟨q1, hqe⟩ : ∃ q, upL leaf i a (a + k) (p.take m) = q := ⟨_, rfl⟩
        rw [hqe] at hq1 hq32 hz hic ⊢
        obtain ⟨z, hze⟩ : ∃ z, lastH q1 = z := ⟨_, rfl⟩
        have hat := lastH_at q1 m hq1
        rw [hze] at hz hat ⊢
        have hwm : IntKind.i64.wrap (m : Int) = (m : Int) := IntWalk.i64_in _ (by omega)
        have hmm : (m : Int) < (m : Int) + 1 := by omega
        have hki : (i : Int) < (a : Int) + (k : Int) := by omega
        obtain ⟨pb, po, hpA, -, -, -⟩ := hsrc.at_ (by omega)
        subst hpA
        have hp1 := hsrc.step hb1
        have hld := hp1.get rfl m (by omega)
        rw [hy] at hld
        have hm63 : m ≤ 63 := by omega
        have Hic := Lib.hid hic
        have Hyl := Lib.hid hyl
        have Hz := Lib.hid hz
        have Hq1 := Lib.hid hq1
        have Hq32 := Lib.hid hq32
        have Hat := Lib.hid hat
        have Hsp := Lib.hid hsp
        have Hld := Lib.hid hld
        clear hic hy hyl hz hq1 hq32 hqe hze hat hup hpl hm hsp ih hk hpa hnp hlp h hdl hgl hld hsrc hp1
        go_enter Try.func43, Try.ntmps43
        go_wp2_with (first
          | ((with_reducible show wpList _ _ _ (⟨some 26, .move _, _, _, _, _⟩ :: _) _ _); fail)
          | (go_at_call 39; refine (Hsp.out _).mono ?_; rintro e w0 ⟨rfl, rfl⟩; rw [Hw1e.out])
          | ((with_reducible show wpList _ _ _ (⟨some 37, .load _ _, _, _, _, _⟩ :: _) _ _); refine wpList_runG (by kernel_rfl) (.agg (y.map B).toArray) _ (run_load_op 45 (.tmp 36) rfl _ _ rfl _ Hld.out) ?_; simp only [Act.put])
          | ((with_reducible show wpList _ _ _ (⟨some 12, .alloc _, _, _, _, _⟩ :: _) _ _); refine wpList_hvar (.tmp 12) (.tmp 37) rfl rfl rfl rfl rfl rfl Hyl.out ?_; intro W2 k12 hb2; simp only [Act.put]; have k52 := k5.step hb2; have hb02 := hb1.trans (hb2.mono hb1.size); have hs2 := hb2.size; have hl12 := k12.lt)
          | ((with_reducible show wpList _ _ _ (⟨some 42, .slice _ _ _ _ _, _, _, _, _⟩ :: _) _ _); refine wpList_run0 rfl (.slice (some ⟨pb, po, none⟩) m c) (run_slice_op_hi (.tmp 38) (.tmp 41) rfl _ (m + 1) c m rfl rfl (by omega) _) ?_; simp only [Act.put])
          | ((with_reducible show wpList _ _ _ (⟨some 15, .alloc _, _, _, _, _⟩ :: _) _ _); refine wpList_hnew rfl rfl ?_; intro W3 k15 hb3; simp only [Act.put]; have k53 := k52.step hb3; have k123 := k12.step hb3; have hb03 := hb02.trans (hb3.mono hb02.size); have hs3 := hb3.size; have hl15 := k15.lt)
          | ((with_reducible show wpList _ _ _ (⟨some 46, .load _ _, _, _, _, _⟩ :: _) _ _); refine wpList_hload (.tmp 5) (by kernel_rfl) rfl k53 rfl ?_; simp only [Act.put]))
        refine (Hic.out _ hb03).mono ?_
        rintro e W4 ⟨v1, rfl, ho, hb4⟩
        have hov := ho
        rw [Hq1.out] at ho
        obtain ⟨g1, c1, rfl⟩ := owns_some ho (by omega)
        obtain ⟨A1, c1', hv, hst⟩ := St.of_owns ho Hq1.out Hq32.out
        cases hv
        obtain ⟨b1, o1, hA, -, -, hlds⟩ := hst.at_ (by omega)
        cases hA
        have hroom1 := hst.sl.room
        have hmx1 := hst.sl.max
        unfold maxLen at hmx1
        have k124 := k123.step hb4
        have k154 := k15.step hb4
        have hb04 := hb03.trans (hb4.mono hb03.size)
        have hs4 := hb4.size
        clear k5 k52 k53 k12 k123 k15 hb1 hb2 hb3 hb02 hb03 hb4 hov hlds
        have lel : ∀ s : InC (fun W => Below W4.heap.size W4 W), (Instr.loadAt 45 (.pointer (some ⟨g1, m * 34 + 2, none⟩))).run Try.prog s.W = .ok (.agg (z.map B).toArray) s.W := fun s => by
          obtain ⟨b2, o2, hA, -, -, hl⟩ := (hst.step s.ok).at_ (by omega)
          cases hA
          have := (hl m (by omega)).1
          rwa [Hat.out, Nat.zero_add] at this
        have l12 : ∀ s : InC (fun W => Below W4.heap.size W4 W), (Instr.loadAt 45 (.pointer (some ⟨w1.heap.size, 0, none⟩))).run Try.prog s.W = .ok (.agg (y.map B).toArray) s.W := fun s => (k124.step s.ok).load
        have Lel := Lib.hid lel
        have L12 := Lib.hid l12
        clear lel l12 hst
        go_wp2_with fail
        have hS : Below W4.heap.size W4 W4.drew := (Below.refl _ _).drew
        refine wp_region_mix_tail (fun W => Below W4.heap.size W4 W) 9 [(0, true), (1, true), (2, true), (3, true), (4, true), (5, true), (6, true), (7, true), (8, false)] (by kernel_rfl) (by kernel_rfl) hS fun _ => ?_
        simp only [List.map_cons, List.map_nil, Array.getD_eq_getD_getElem?, List.getElem?_toArray, List.getElem?_cons_succ, List.getElem?_cons_zero, Option.getD_some]
        generalize W4.drew = W5 at hS ⊢
        refine wpMix_s (fun K hK => ?_)
        go_simp
        refine hK _ ?_
        clear hK K
        refine wpMix_s (fun K hK => ?_)
        go_simp
        refine hK _ ?_
        clear hK K
        refine wpMix_s (fun K hK => ?_)
        go_simp
        refine hK _ ?_
        clear hK K
        refine wpMix_s (fun K hK => ?_)
        go_simp
        refine hK _ ?_
        clear hK K
        refine wpMix_s (fun K hK => ?_)
        go_simp
        refine hK _ ?_
        clear hK K
        refine wpMix_s (fun K hK => ?_)
        go_simp
        refine hK _ ?_
        clear hK K
        refine wpMix_load (by kernel_rfl) 45 (.tmp 57) rfl (g1) (m * 34 + 2) rfl (z.map B).toArray (Lel.out) ?_
        simp only [Act.put]
        refine wpMix_load (by kernel_rfl) 45 (.tmp 12) rfl (w1.heap.size) (0) rfl (y.map B).toArray (L12.out) ?_
        simp only [Act.put]
        refine wpMix_c (fun K hK => ?_) hS
        go_simp
        refine (hrnode_any z y W5 Hz.out Hyl.out).mono ?_
        rintro e W5_1 ⟨rfl, hb'⟩
        refine hK _ _ ?_
        clear hK K
        replace hS := hS.trans (hb'.mono hS.size)
        refine ⟨hS, ?_⟩
        clear hb'
        refine wpMix_nil ?_
        intro _
        simp only [List.drop_succ_cons, List.drop_zero]
        generalize W5_1 = W6 at *
        have k156 := k154.step hS
        have ho6 := owns_step ho hS
        have hb06 := hb04.trans (hS.mono hb04.size)
        have hs6 := hS.size
        clear k154 ho k124 hb04 hS
        go_wp2_with ((with_reducible show wpList _ _ _ (⟨none, .store _ (.tmp 15) _, _, _, _, _⟩ :: _) _ _); refine wpList_hset (.tmp 15) (.tmp 60) rfl rfl k156 rfl rfl (length_hNode _ _) ?_; intro W7 k157 hb7 hx; have hg7 : W6.grownBy W7 (some W2.heap.size) := (by rw [hx]; exact ⟨rfl, rfl, rfl, by simp, fun k _ hne => setRow_other W6 _ k _ (fun e => hne (by rw [e]))⟩); clear hx; simp only [Act.put])
        refine np_normal ?_
        have hg1 := (ho6.lt g1 rfl).1
        have ho7 := ho6.kept hg7 (.inr (fun e => by have e : g1 = W2.heap.size := Option.some.inj e; omega))
        have hb07 := hb06.grown hg7 hb06.size (fun r e => by cases e; omega)
        have hs7 := hb7.size
        obtain ⟨v8, W8, hr8, ho8, hg8, -⟩ := append_st stepT2 ho7 ((a, b), hNode z y) (length_hNode _ _) (by omega) (by omega)
        have hb08 := hb07.grown hg8 hb07.size (fun r e => by have := (ho7.lt r e).1; omega)
        have Hr8 := Lib.hid hr8
        clear hr8 ho6 ho7 hb06 hb07 hg7 hb7 hg8
        go_wp2_with (first
          | ((with_reducible show wpList _ _ _ (⟨some 80, .load _ _, _, _, _, _⟩ :: _) _ _); refine wpList_hload (.tmp 15) (by kernel_rfl) rfl k157 rfl ?_; simp only [Act.put])
          | ((with_reducible show wpList _ _ _ (⟨some 81, .build _ _, _, _, _, _⟩ :: _) _ _); refine wpList_run0 rfl (.agg (scell ((a, b), hNode z y)).toArray) (run_build_st stepT2 (.tmp 79) (.tmp 80) a b (hNode z y) (length_hNode _ _) rfl rfl rfl _) ?_; simp only [Act.put])
          | ((with_reducible show wpList _ _ _ (⟨some 82, .buildSlice _ _ _, _, _, _, _⟩ :: _) _ _); refine wpList_run rfl _ _ (run_litS_op stepT2 ((a, b), hNode z y) (length_hNode _ _) (.tmp 81) rfl rfl _) ?_; simp only [Act.put])
          | ((with_reducible show wpList _ _ _ (⟨some 83, .call _, _, _, _, _⟩ :: _) _ _); refine wpList_run rfl v8 W8 (run_append_op (.tmp 76) (.tmp 82) 54 rfl _ _ rfl rfl Hr8.out) ?_; simp only [Act.put]))
        go_ret
        exact ⟨_, rfl, by rw [List.length_append, Hq1.out]; exact owns_le ho8 (by omega), hb08⟩
      · have hpa := pathL_right i a b (by omega) hi
        have hpl : (pathL i a b).length = (pathL i (a + splitN (b - a)) b).length + 1 := by rw [hpa, List.length_append]; rfl
        have hup := upL_right leaf i a b p (by omega) hi
        rw [hk] at hpl hup hi hsp
        obtain ⟨m, hm⟩ : ∃ m, (pathL i (a + k) b).length = m := ⟨_, rfl⟩
        obtain rfl : np = m + 1 := by omega
        rw [hup]
        have hdl : p.dropLast = p.take m := by rw [List.dropLast_eq_take, Hplen.out, Nat.add_sub_cancel]
        have hgl : p.getD (p.length - 1) [] = p.getD m [] := by rw [Hplen.out, Nat.add_sub_cancel]
        rw [hdl, hgl]
        have hq1 : (upL leaf i (a + k) b (p.take m)).length = m + 1 := by rw [← hm]; exact length_upL leaf (b - a) i (a + k) b (p.take (pathL i (a + k) b).length) (by omega) (by omega) (by omega)
        have hq32 : S32 (upL leaf i (a + k) b (p.take m)) := upL_all leaf Hlf.out (b - a) i (a + k) b (p.take m) (by omega)
        have hz : (lastH (upL leaf i (a + k) b (p.take m))).length = 32 := by
          obtain ⟨l, x, e⟩ := upL_last leaf i (a + k) b (p.take m)
          have := hq32 (((a + k), b), x) (by rw [e]; simp)
          rw [e, lastH_snoc]
          exact this
        have hsrc := h.weak (Y := (· < w.heap.size)) fun b hb _ => hb
        have hic := fun W (hW : Below w.heap.size w W) => ih (a + k) b (p.take m) A m c W (by omega) (by omega) (by omega) (by omega) hm (((hsrc.step hW).take m (by omega)).weak fun _ _ _ => trivial)
        rw [show ((a + k : Nat) : Int) = (a : Int) + k by omega] at hic
        obtain ⟨y, hy⟩ : ∃ y, p.getD m [] = y := ⟨_, rfl⟩
        have hyl : y.length = 32 := by rw [← hy]; exact Hp32.out.getD m (by rw [Hplen.out]; omega)
        rw [hy]
        obtain ⟨q1, hqe⟩ : ∃ q, upL leaf i (a + k) b (p.take m) = q := ⟨_, rfl⟩
        rw [hqe] at hq1 hq32 hz hic ⊢
        obtain ⟨z, hze⟩ : ∃ z, lastH q1 = z := ⟨_, rfl⟩
        have hat := lastH_at q1 m hq1
        rw [hze] at hz hat ⊢
        have hwm : IntKind.i64.wrap (m : Int) = (m : Int) := IntWalk.i64_in _ (by omega)
        have hmm : (m : Int) < (m : Int) + 1 := by omega
        have hki : ¬ (i : Int) < (a : Int) + (k : Int) := by omega
        obtain ⟨pb, po, hpA, -, -, -⟩ := hsrc.at_ (by omega)
        subst hpA
        have hp1 := hsrc.step hb1
        have hld := hp1.get rfl m (by omega)
        rw [hy] at hld
        have hm63 : m ≤ 63 := by omega
        have Hic := Lib.hid hic
        have Hyl := Lib.hid hyl
        have Hz := Lib.hid hz
        have Hq1 := Lib.hid hq1
        have Hq32 := Lib.hid hq32
        have Hat := Lib.hid hat
        have Hsp := Lib.hid hsp
        have Hld := Lib.hid hld
        clear hic hy hyl hz hq1 hq32 hqe hze hat hup hpl hm hsp ih hk hpa hnp hlp h hdl hgl hld hsrc hp1
        go_enter Try.func43, Try.ntmps43
        go_wp2_with (first
          | ((with_reducible show wpList _ _ _ (⟨some 26, .move _, _, _, _, _⟩ :: _) _ _); fail)
          | (go_at_call 39; refine (Hsp.out _).mono ?_; rintro e w0 ⟨rfl, rfl⟩; rw [Hw1e.out])
          | ((with_reducible show wpList _ _ _ (⟨some 37, .load _ _, _, _, _, _⟩ :: _) _ _); refine wpList_runG (by kernel_rfl) (.agg (y.map B).toArray) _ (run_load_op 45 (.tmp 36) rfl _ _ rfl _ Hld.out) ?_; simp only [Act.put])
          | ((with_reducible show wpList _ _ _ (⟨some 12, .alloc _, _, _, _, _⟩ :: _) _ _); refine wpList_hvar (.tmp 12) (.tmp 37) rfl rfl rfl rfl rfl rfl Hyl.out ?_; intro W2 k12 hb2; simp only [Act.put]; have k52 := k5.step hb2; have hb02 := hb1.trans (hb2.mono hb1.size); have hs2 := hb2.size; have hl12 := k12.lt)
          | ((with_reducible show wpList _ _ _ (⟨some 42, .slice _ _ _ _ _, _, _, _, _⟩ :: _) _ _); refine wpList_run0 rfl (.slice (some ⟨pb, po, none⟩) m c) (run_slice_op_hi (.tmp 38) (.tmp 41) rfl _ (m + 1) c m rfl rfl (by omega) _) ?_; simp only [Act.put])
          | ((with_reducible show wpList _ _ _ (⟨some 15, .alloc _, _, _, _, _⟩ :: _) _ _); refine wpList_hnew rfl rfl ?_; intro W3 k15 hb3; simp only [Act.put]; have k53 := k52.step hb3; have k123 := k12.step hb3; have hb03 := hb02.trans (hb3.mono hb02.size); have hs3 := hb3.size; have hl15 := k15.lt)
          | ((with_reducible show wpList _ _ _ (⟨some 61, .load _ _, _, _, _, _⟩ :: _) _ _); refine wpList_hload (.tmp 5) (by kernel_rfl) rfl k53 rfl ?_; simp only [Act.put]))
        refine (Hic.out _ hb03).mono ?_
        rintro e W4 ⟨v1, rfl, ho, hb4⟩
        have hov := ho
        rw [Hq1.out] at ho
        obtain ⟨g1, c1, rfl⟩ := owns_some ho (by omega)
        obtain ⟨A1, c1', hv, hst⟩ := St.of_owns ho Hq1.out Hq32.out
        cases hv
        obtain ⟨b1, o1, hA, -, -, hlds⟩ := hst.at_ (by omega)
        cases hA
        have hroom1 := hst.sl.room
        have hmx1 := hst.sl.max
        unfold maxLen at hmx1
        have k124 := k123.step hb4
        have k154 := k15.step hb4
        have hb04 := hb03.trans (hb4.mono hb03.size)
        have hs4 := hb4.size
        clear k5 k52 k53 k12 k123 k15 hb1 hb2 hb3 hb02 hb03 hb4 hov hlds
        have lel : ∀ s : InC (fun W => Below W4.heap.size W4 W), (Instr.loadAt 45 (.pointer (some ⟨g1, m * 34 + 2, none⟩))).run Try.prog s.W = .ok (.agg (z.map B).toArray) s.W := fun s => by
          obtain ⟨b2, o2, hA, -, -, hl⟩ := (hst.step s.ok).at_ (by omega)
          cases hA
          have := (hl m (by omega)).1
          rwa [Hat.out, Nat.zero_add] at this
        have l12 : ∀ s : InC (fun W => Below W4.heap.size W4 W), (Instr.loadAt 45 (.pointer (some ⟨w1.heap.size, 0, none⟩))).run Try.prog s.W = .ok (.agg (y.map B).toArray) s.W := fun s => (k124.step s.ok).load
        have Lel := Lib.hid lel
        have L12 := Lib.hid l12
        clear lel l12 hst
        go_wp2_with fail
        have hS : Below W4.heap.size W4 W4.drew := (Below.refl _ _).drew
        refine wp_region_mix_tail (fun W => Below W4.heap.size W4 W) 9 [(0, true), (1, true), (2, true), (3, true), (4, true), (5, true), (6, true), (7, true), (8, false)] (by kernel_rfl) (by kernel_rfl) hS fun _ => ?_
        simp only [List.map_cons, List.map_nil, Array.getD_eq_getD_getElem?, List.getElem?_toArray, List.getElem?_cons_succ, List.getElem?_cons_zero, Option.getD_some]
        generalize W4.drew = W5 at hS ⊢
        refine wpMix_load (by kernel_rfl) 45 (.tmp 12) rfl (w1.heap.size) (0) rfl (y.map B).toArray (L12.out) ?_
        simp only [Act.put]
        refine wpMix_s (fun K hK => ?_)
        go_simp
        refine hK _ ?_
        clear hK K
        refine wpMix_s (fun K hK => ?_)
        go_simp
        refine hK _ ?_
        clear hK K
        refine wpMix_s (fun K hK => ?_)
        go_simp
        refine hK _ ?_
        clear hK K
        refine wpMix_s (fun K hK => ?_)
        go_simp
        refine hK _ ?_
        clear hK K
        refine wpMix_s (fun K hK => ?_)
        go_simp
        refine hK _ ?_
        clear hK K
        refine wpMix_s (fun K hK => ?_)
        go_simp
        refine hK _ ?_
        clear hK K
        refine wpMix_load (by kernel_rfl) 45 (.tmp 73) rfl (g1) (m * 34 + 2) rfl (z.map B).toArray (Lel.out) ?_
        simp only [Act.put]
        refine wpMix_c (fun K hK => ?_) hS
        go_simp
        refine (hrnode_any y z W5 Hyl.out Hz.out).mono ?_
        rintro e W5_1 ⟨rfl, hb'⟩
        refine hK _ _ ?_
        clear hK K
        replace hS := hS.trans (hb'.mono hS.size)
        refine ⟨hS, ?_⟩
        clear hb'
        refine wpMix_nil ?_
        intro _
        simp only [List.drop_succ_cons, List.drop_zero]
        generalize W5_1 = W6 at *
        have k156 := k154.step hS
        have ho6 := owns_step ho hS
        have hb06 := hb04.trans (hS.mono hb04.size)
        have hs6 := hS.size
        clear k154 ho k124 hb04 hS
        go_wp2_with ((with_reducible show wpList _ _ _ (⟨none, .store _ (.tmp 15) _, _, _, _, _⟩ :: _) _ _); refine wpList_hset (.tmp 15) (.tmp 75) rfl rfl k156 rfl rfl (length_hNode _ _) ?_; intro W7 k157 hb7 hx; have hg7 : W6.grownBy W7 (some W2.heap.size) := (by rw [hx]; exact ⟨rfl, rfl, rfl, by simp, fun k _ hne => setRow_other W6 _ k _ (fun e => hne (by rw [e]))⟩); clear hx; simp only [Act.put])
        refine np_normal ?_
        have hg1 := (ho6.lt g1 rfl).1
        have ho7 := ho6.kept hg7 (.inr (fun e => by have e : g1 = W2.heap.size := Option.some.inj e; omega))
        have hb07 := hb06.grown hg7 hb06.size (fun r e => by cases e; omega)
        have hs7 := hb7.size
        obtain ⟨v8, W8, hr8, ho8, hg8, -⟩ := append_st stepT2 ho7 ((a, b), hNode y z) (length_hNode _ _) (by omega) (by omega)
        have hb08 := hb07.grown hg8 hb07.size (fun r e => by have := (ho7.lt r e).1; omega)
        have Hr8 := Lib.hid hr8
        clear hr8 ho6 ho7 hb06 hb07 hg7 hb7 hg8
        go_wp2_with (first
          | ((with_reducible show wpList _ _ _ (⟨some 80, .load _ _, _, _, _, _⟩ :: _) _ _); refine wpList_hload (.tmp 15) (by kernel_rfl) rfl k157 rfl ?_; simp only [Act.put])
          | ((with_reducible show wpList _ _ _ (⟨some 81, .build _ _, _, _, _, _⟩ :: _) _ _); refine wpList_run0 rfl (.agg (scell ((a, b), hNode y z)).toArray) (run_build_st stepT2 (.tmp 79) (.tmp 80) a b (hNode y z) (length_hNode _ _) rfl rfl rfl _) ?_; simp only [Act.put])
          | ((with_reducible show wpList _ _ _ (⟨some 82, .buildSlice _ _ _, _, _, _, _⟩ :: _) _ _); refine wpList_run rfl _ _ (run_litS_op stepT2 ((a, b), hNode y z) (length_hNode _ _) (.tmp 81) rfl rfl _) ?_; simp only [Act.put])
          | ((with_reducible show wpList _ _ _ (⟨some 83, .call _, _, _, _, _⟩ :: _) _ _); refine wpList_run rfl v8 W8 (run_append_op (.tmp 76) (.tmp 82) 54 rfl _ _ rfl rfl Hr8.out) ?_; simp only [Act.put]))
        go_ret
        exact ⟨_, rfl, by rw [List.length_append, Hq1.out]; exact owns_le ho8 (by omega), hb08⟩
end Go.Proofs.Ytmglkblomklcbaa
/- notaryref11.Up, From, Check. -/
namespace Go.Proofs.Ytmglkblomklcbaa
open Go Go.RowKit

set_option maxHeartbeats 4000000 in
set_option maxRecDepth 100000 in
theorem r11Up_any (leaf : List UInt8) (i n : Int) (p : List (List UInt8)) (A : Option Addr) (np c : Nat) (w : World) (hlf : leaf.length = 32) (hn : n ≤ 9223372036854775807) (h : Hs w (fun _ => True) A np c p) :
    Calls Try.prog 23 #[.agg (leaf.map B).toArray, .int .i64 i, .int .i64 n, .slice A np c] w fun e w' => ∃ v, e = .returned (.tuple #[v, .int .i64 (wayA leaf i n p).2]) ∧ w'.ownsRow w.heap.size 92 34 v (wayA leaf i n p).1.length (scells (wayA leaf i n p).1) ∧ Below w.heap.size w w' := by
  obtain ⟨w1, hw1⟩ : ∃ w1, w.alloc (.cells (leaf.map B).toArray 45) = w1 := ⟨_, rfl⟩
  have hb1 : Below w.heap.size w w1 := by rw [← hw1]; exact (Below.refl _ _).alloc (Nat.le_refl _) _
  have k4 : HV w1 w.heap.size leaf := ⟨by rw [← hw1]; exact Blk.new _ _ _, hlf⟩
  have hlen := h.len
  have hroom := h.sl.room
  have hmx := h.sl.max
  unfold maxLen at hmx
  have hil := fun W => r11len_any i n W hn
  have hpl := pathA_len i n hn
  have h1 := h.step hb1
  have Hw1 := Lib.hid hw1
  have Hlf := Lib.hid hlf
  clear hw1 hlf h
  by_cases hbad : (pathA i n).2 = 0
  · obtain ⟨hi0, hin, hpa⟩ := pathA_in i n hbad
    by_cases hnp : (pathA i n).1.length = p.length
    · rw [wayA_ok leaf i n p hbad hnp]
      dsimp only
      obtain ⟨i, rfl⟩ : ∃ k : Nat, i = (k : Int) := ⟨i.toNat, by omega⟩
      obtain ⟨n, rfl⟩ : ∃ k : Nat, n = (k : Int) := ⟨n.toNat, by omega⟩
      rw [hbad] at hil
      rw [Int.toNat_natCast, Int.toNat_natCast] at hpa ⊢
      rw [hpa] at hnp hil hpl
      rw [hnp, hlen] at hil hpl
      have hup := r11up_rec leaf i Hlf.out n 0 n p A np c w1 (by omega) (by omega) (by omega) (by omega) (by omega) h1
      rw [show ((0 : Nat) : Int) = 0 from rfl] at hup
      obtain ⟨q, hq⟩ : ∃ q, upL leaf i 0 n p = q := ⟨_, rfl⟩
      rw [hq] at hup ⊢
      have Hil := Lib.hid hil
      have Hup := Lib.hid hup
      clear hil hup hlen hq hnp hpa hbad h1
      go_enter Try.func23, Try.ntmps23
      go_wp2_with (first
        | (go_at_call 14; refine (Hil.out _).mono ?_; rintro e w0 ⟨rfl, rfl⟩; rw [Hw1.out])
        | ((with_reducible show wpList _ _ _ (⟨some 25, .load _ _, _, _, _, _⟩ :: _) _ _); refine wpList_hload (.tmp 4) (by kernel_rfl) rfl k4 rfl ?_; simp only [Act.put]))
      refine Hup.out.mono ?_
      rintro e w2 ⟨v, rfl, ho, hb2⟩
      go_wp2_with fail
      refine bodyPost_ret (results_tmp2 rfl _ _ _) rfl ⟨_, rfl, owns_le ho hb1.size, hb1.trans (hb2.mono hb1.size)⟩
    · rw [wayA_len leaf i n p hbad hnp]
      dsimp only
      rw [hbad] at hil
      rw [hlen] at hnp
      obtain ⟨m, hm⟩ : ∃ m, (pathA i n).1.length = m := ⟨_, rfl⟩
      rw [hm] at hil hpl hnp
      have hne : ((np : Int) != (m : Int)) = true := by simp; omega
      have Hil := Lib.hid hil
      clear hil hm hbad hlen hnp hpa h1 k4
      go_enter Try.func23, Try.ntmps23
      go_wp2_with (go_at_call 14; refine (Hil.out _).mono ?_; rintro e w0 ⟨rfl, rfl⟩; rw [Hw1.out])
      refine bodyPost_ret (results_tmp2 rfl _ _ _) rfl ⟨_, rfl, World.ownsRow_nil _ _ _ _, hb1⟩
  · rw [wayA_bad leaf i n p hbad]
    dsimp only
    obtain ⟨m, hm⟩ : ∃ m, (pathA i n).1.length = m := ⟨_, rfl⟩
    obtain ⟨e0, he⟩ : ∃ e, (pathA i n).2 = e := ⟨_, rfl⟩
    rw [hm] at hil hpl
    rw [he] at hil hbad ⊢
    have hne : (e0 != 0) = true := by simpa using hbad
    have Hil := Lib.hid hil
    clear hil hm he hbad hlen h1 k4
    go_enter Try.func23, Try.ntmps23
    go_wp2_with (go_at_call 14; refine (Hil.out _).mono ?_; rintro e w0 ⟨rfl, rfl⟩; rw [Hw1.out])
    refine bodyPost_ret (results_tmp2 rfl _ _ _) rfl ⟨_, rfl, World.ownsRow_nil _ _ _ _, hb1⟩

set_option maxHeartbeats 4000000 in
set_option maxRecDepth 100000 in
theorem r11from_any (leaf : List UInt8) (i n : Int) (p : List (List UInt8)) (A : Option Addr) (np c : Nat) (w : World) (hlf : leaf.length = 32) (hn : n ≤ 9223372036854775807) (h : Hs w (fun _ => True) A np c p) :
    Calls Try.prog 22 #[.agg (leaf.map B).toArray, .int .i64 i, .int .i64 n, .slice A np c] w fun e w' => e = .returned (.tuple #[.agg ((fromA leaf i n p).1.map B).toArray, .int .i64 (fromA leaf i n p).2]) ∧ Below w.heap.size w w' := by
  obtain ⟨w1, hw1⟩ : ∃ w1, w.alloc (.cells (leaf.map B).toArray 45) = w1 := ⟨_, rfl⟩
  have hb1 : Below w.heap.size w w1 := by rw [← hw1]; exact (Below.refl _ _).alloc (Nat.le_refl _) _
  have k4 : HV w1 w.heap.size leaf := ⟨by rw [← hw1]; exact Blk.new _ _ _, hlf⟩
  have hq := wayA_q leaf i n p hlf
  have hway := fun W (h : Hs W (fun _ => True) A np c p) => r11Up_any leaf i n p A np c W hlf hn h
  have h1 := h.step hb1
  have hs1 := hb1.size
  unfold fromA
  obtain ⟨⟨q, e0⟩, hqe⟩ : ∃ s, wayA leaf i n p = s := ⟨_, rfl⟩
  rw [hqe] at hq hway ⊢
  dsimp only at hq hway ⊢
  obtain ⟨hq1, hq2, -, -, hq4⟩ := hq
  have hq4 := hq4 hn
  have Hw1 := Lib.hid hw1
  have Hway := Lib.hid hway
  have Hq1 := Lib.hid hq1
  clear hw1 hway hq1 hqe h
  by_cases h0 : e0 = 0
  · subst h0
    rw [if_neg (by simp)]
    dsimp only
    have hq2 := hq2 rfl
    obtain ⟨m, hm⟩ : ∃ m, q.length = m + 1 := ⟨q.length - 1, by omega⟩
    obtain ⟨z, hz⟩ : ∃ z, lastH q = z := ⟨_, rfl⟩
    have hat := lastH_at q m hm
    rw [hz] at hat ⊢
    have hzl : z.length = 32 := by
      rw [← hat, List.getD_eq_getElem?_getD, List.getElem?_eq_getElem (by omega)]
      exact Hq1.out _ (List.getElem_mem _)
    have hwm : IntKind.i64.wrap (m : Int) = (m : Int) := IntWalk.i64_in _ (by omega)
    have Hz := Lib.hid hz
    have Hat := Lib.hid hat
    have Hzl := Lib.hid hzl
    have Hm := Lib.hid hm
    have hm64 : m < 64 := by omega
    clear hz hat hzl hq2 hq4
    go_enter Try.func22, Try.ntmps22
    go_wp2_with (first
      | ((with_reducible show wpList _ _ _ (⟨some 8, .alloc _, _, _, _, _⟩ :: _) _ _); rw [Hw1.out]; refine wpList_hnew rfl rfl ?_; intro W2 k8 hb2; simp only [Act.put]; have k42 := k4.step hb2; have hb02 := hb1.trans (hb2.mono hb1.size); have hs2 := hb2.size; have hl8 := k8.lt)
      | ((with_reducible show wpList _ _ _ (⟨some 13, .load _ _, _, _, _, _⟩ :: _) _ _); refine wpList_hload (.tmp 4) (by kernel_rfl) rfl k42 rfl ?_; simp only [Act.put]))
    clear k4
    refine (Hway.out _ (h1.step hb2)).mono ?_
    rintro e W3 ⟨v, rfl, ho, hb3⟩
    rw [Hm.out] at ho
    obtain ⟨gq, cq, rfl⟩ := owns_some ho (by omega)
    obtain ⟨A', c', hv, hs⟩ := St.of_owns ho Hm.out Hq1.out
    cases hv
    obtain ⟨b, o, hA, -, -, hld⟩ := hs.at_ (by omega)
    cases hA
    obtain ⟨hld, -, -⟩ := hld m (by omega)
    rw [Hat.out] at hld
    have hroom := hs.sl.room
    have hmx := hs.sl.max
    unfold maxLen at hmx
    have k83 := k8.step hb3
    have hb03 := hb02.trans (hb3.mono hb02.size)
    clear hs ho k8 k42 hb3 hb2 hb02 h1 hb1
    go_wp2_with (first
      | ((with_reducible show wpList _ _ _ (⟨some 30, .load _ _, _, _, _, _⟩ :: _) _ _); refine wpList_runG (by kernel_rfl) (.agg (z.map B).toArray) _ (run_load_op 45 (.tmp 29) rfl gq (0 + m * 34 + 2) (by simp [Act.eval]) _ hld) ?_; simp only [Act.put])
      | ((with_reducible show wpList _ _ _ (⟨none, .store _ (.tmp 8) _, _, _, _, _⟩ :: _) _ _); refine wpList_hset (.tmp 8) (.tmp 30) rfl rfl k83 rfl rfl Hzl.out ?_; intro W4 k9 hb4 hx; clear hx; simp only [Act.put]))
    refine bodyPost_ret (tuple_cellT rfl _ _ w1.heap.size (z.map B).toArray _ _ rfl k9.blk Try.underlying45 (by rw [show (z.map B).toArray.size = 32 by simp [k9.len]]; exact info26)) rfl ⟨rfl, hb03.trans (hb4.mono (by omega))⟩
  · rw [if_pos h0]
    dsimp only
    have hne : (e0 != 0) = true := by simpa using h0
    obtain ⟨z, hz⟩ : ∃ z, List.replicate 32 (0 : UInt8) = z := ⟨_, rfl⟩
    have hzl : z.length = 32 := by rw [← hz]; rfl
    rw [hz]
    have Hz := Lib.hid hz
    have Hzl := Lib.hid hzl
    clear hz hzl h0 hq2 hq4
    go_enter Try.func22, Try.ntmps22
    go_wp2_with (first
      | ((with_reducible show wpList _ _ _ (⟨some 8, .alloc _, _, _, _, _⟩ :: _) _ _); rw [Hw1.out]; refine wpList_hnew rfl rfl ?_; intro W2 k8 hb2; simp only [Act.put]; have k42 := k4.step hb2; have hb02 := hb1.trans (hb2.mono hb1.size); have hs2 := hb2.size; have hl8 := k8.lt)
      | ((with_reducible show wpList _ _ _ (⟨some 13, .load _ _, _, _, _, _⟩ :: _) _ _); refine wpList_hload (.tmp 4) (by kernel_rfl) rfl k42 rfl ?_; simp only [Act.put]))
    clear k4
    refine (Hway.out _ (h1.step hb2)).mono ?_
    rintro e W3 ⟨v, rfl, ho, hb3⟩
    have k83 := k8.step hb3
    have hb03 := hb02.trans (hb3.mono hb02.size)
    clear ho k8 k42 hb3 hb2 hb02 h1 hb1
    go_wp2_with (first
      | ((with_reducible show wpList _ _ _ (⟨some 22, .build _ _, _, _, _, _⟩ :: _) _ _); refine wpList_run0 rfl (.agg (z.map B).toArray) (by rw [← Hz.out]; kernel_rfl) ?_; simp only [Act.put])
      | ((with_reducible show wpList _ _ _ (⟨none, .store _ (.tmp 8) _, _, _, _, _⟩ :: _) _ _); refine wpList_hset (.tmp 8) (.tmp 22) rfl rfl k83 rfl rfl Hzl.out ?_; intro W4 k9 hb4 hx; clear hx; simp only [Act.put]))
    refine bodyPost_ret (tuple_cellT rfl _ _ w1.heap.size (z.map B).toArray _ _ rfl k9.blk Try.underlying45 (by rw [show (z.map B).toArray.size = 32 by simp [k9.len]]; exact info26)) rfl ⟨rfl, hb03.trans (hb4.mono (by omega))⟩

set_option maxHeartbeats 4000000 in
set_option maxRecDepth 100000 in
theorem r11check_any (leaf : List UInt8) (i n : Int) (root : List UInt8) (p : List (List UInt8)) (A : Option Addr) (np c : Nat) (w : World) (hlf : leaf.length = 32) (hrl : root.length = 32) (hn : n ≤ 9223372036854775807) (h : Hs w (fun _ => True) A np c p) :
    Calls Try.prog 26 #[.agg (leaf.map B).toArray, .int .i64 i, .agg (.int .i64 n :: root.map B).toArray, .slice A np c] w fun e w' => e = .returned (.int .i64 (takenA leaf i n root p)) ∧ Below w.heap.size w w' := by
  obtain ⟨w2, hw2⟩ : ∃ w2, (w.alloc (.cells (leaf.map B).toArray 45)).alloc (.cells (.int .i64 n :: root.map B).toArray 47) = w2 := ⟨_, rfl⟩
  have hb2 : Below w.heap.size w w2 := by rw [← hw2]; exact ((Below.refl _ _).alloc (Nat.le_refl _) _).alloc (by simp) _
  have k4 : HV w2 w.heap.size leaf := ⟨by rw [← hw2]; exact (Blk.new _ _ _).alloc _, hlf⟩
  have k6 : Blk w2 (w.heap.size + 1) 47 (.int .i64 n :: root.map B).toArray := by rw [← hw2]; exact Blk.new' _ _ _ _ (by simp)
  have c6 : w2.cell? ⟨w.heap.size + 1, 0, none⟩ = some (.int .i64 n) := by rw [k6.cell]; rfl
  have hfl := fromA_len leaf i n p hlf
  have hro := fun W (h : Hs W (fun _ => True) A np c p) => r11from_any leaf i n p A np c W hlf hn h
  have h1 := h.step hb2
  unfold takenA
  obtain ⟨⟨r, e0⟩, hre⟩ : ∃ s, fromA leaf i n p = s := ⟨_, rfl⟩
  rw [hre] at hfl hro ⊢
  dsimp only at hfl hro ⊢
  obtain ⟨hfl, -⟩ := hfl
  have Hw2 := Lib.hid hw2
  have Hro := Lib.hid hro
  have Hfl := Lib.hid hfl
  have Hrl := Lib.hid hrl
  clear hw2 hro hre h hfl hrl
  have hld : ∀ W, Blk W (w.heap.size + 1) 47 (.int .i64 n :: root.map B).toArray → (Instr.loadAt 45 (.pointer (some ⟨w.heap.size + 1, 1, none⟩))).run Try.prog W = .ok (.agg (root.map B).toArray) W := fun W k =>
    run_load_agg (agg26 _) (size26 _) _ 1 (root.map B) (by simp [Hrl.out]) fun j u hu => by
      rw [k.cell, List.getElem?_toArray, show 1 + j = j + 1 by omega, List.getElem?_cons_succ]
      exact hu
  have Hld := Lib.hid hld
  clear hld
  by_cases h0 : e0 = 0
  · subst h0
    rw [if_neg (by simp)]
    by_cases hrr : r = root
    · rw [if_neg (by simp [hrr])]
      have Hrr := Lib.hid hrr
      clear hrr
      go_enter Try.func26, Try.ntmps26
      go_wp2_with (first
        | ((with_reducible show wpList _ _ _ (⟨some 12, .load _ _, _, _, _, _⟩ :: _) _ _); rw [Hw2.out]; refine wpList_hload (.tmp 4) (by kernel_rfl) rfl k4 rfl ?_; simp only [Act.put]))
      refine (Hro.out _ h1).mono ?_
      rintro e W3 ⟨rfl, hb3⟩
      replace k6 := k6.step hb3
      have hb03 := hb2.trans (hb3.mono hb2.size)
      clear hb3 c6 k4 hb2 h1
      go_wp2_with (first
        | ((with_reducible show wpList _ _ _ (⟨some 9, .alloc _, _, _, _, _⟩ :: _) _ _); refine wpList_hvar (.tmp 9) (.tmp 18) rfl rfl rfl rfl rfl rfl Hfl.out ?_; intro W4 k9 hb4; simp only [Act.put])
        | ((with_reducible show wpList _ _ _ (⟨some 23, .load _ _, _, _, _, _⟩ :: _) _ _); refine wpList_hload (.tmp 9) (by kernel_rfl) rfl k9 rfl ?_; simp only [Act.put])
        | ((with_reducible show wpList _ _ _ (⟨some 25, .load _ _, _, _, _, _⟩ :: _) _ _); refine wpList_runG (by kernel_rfl) (.agg (root.map B).toArray) _ (run_load_op 45 (.tmp 24) rfl _ 1 rfl _ (Hld.out _ (k6.step hb4))) ?_; simp only [Act.put])
        | ((with_reducible show wpList _ _ _ (⟨some 26, .binOp _ _ _ _ _, _, _, _, _⟩ :: _) _ _); refine wpList_runG (by kernel_rfl) (.bool false) _ (run_neq26_f (.tmp 23) (.tmp 25) _ r root rfl rfl rfl Hfl.out Hrl.out Hrr.out _) ?_; simp only [Act.put]))
      go_ret
      exact ⟨rfl, hb03.trans (hb4.mono hb03.size)⟩
    · rw [if_pos hrr]
      have Hrr := Lib.hid hrr
      clear hrr
      go_enter Try.func26, Try.ntmps26
      go_wp2_with (first
        | ((with_reducible show wpList _ _ _ (⟨some 12, .load _ _, _, _, _, _⟩ :: _) _ _); rw [Hw2.out]; refine wpList_hload (.tmp 4) (by kernel_rfl) rfl k4 rfl ?_; simp only [Act.put]))
      refine (Hro.out _ h1).mono ?_
      rintro e W3 ⟨rfl, hb3⟩
      replace k6 := k6.step hb3
      have hb03 := hb2.trans (hb3.mono hb2.size)
      clear hb3 c6 k4 hb2 h1
      go_wp2_with (first
        | ((with_reducible show wpList _ _ _ (⟨some 9, .alloc _, _, _, _, _⟩ :: _) _ _); refine wpList_hvar (.tmp 9) (.tmp 18) rfl rfl rfl rfl rfl rfl Hfl.out ?_; intro W4 k9 hb4; simp only [Act.put])
        | ((with_reducible show wpList _ _ _ (⟨some 23, .load _ _, _, _, _, _⟩ :: _) _ _); refine wpList_hload (.tmp 9) (by kernel_rfl) rfl k9 rfl ?_; simp only [Act.put])
        | ((with_reducible show wpList _ _ _ (⟨some 25, .load _ _, _, _, _, _⟩ :: _) _ _); refine wpList_runG (by kernel_rfl) (.agg (root.map B).toArray) _ (run_load_op 45 (.tmp 24) rfl _ 1 rfl _ (Hld.out _ (k6.step hb4))) ?_; simp only [Act.put])
        | ((with_reducible show wpList _ _ _ (⟨some 26, .binOp _ _ _ _ _, _, _, _, _⟩ :: _) _ _); refine wpList_runG (by kernel_rfl) (.bool true) _ (run_neq26_t (.tmp 23) (.tmp 25) _ r root rfl rfl rfl Hfl.out Hrl.out Hrr.out _) ?_; simp only [Act.put]))
      go_ret
      exact ⟨rfl, hb03.trans (hb4.mono hb03.size)⟩
  · rw [if_pos h0]
    have h0i : ¬ e0 = 0 := h0
    have hne : (e0 != 0) = true := by simpa using h0
    go_enter Try.func26, Try.ntmps26
    go_wp2_with (first
      | ((with_reducible show wpList _ _ _ (⟨some 12, .load _ _, _, _, _, _⟩ :: _) _ _); rw [Hw2.out]; refine wpList_hload (.tmp 4) (by kernel_rfl) rfl k4 rfl ?_; simp only [Act.put]))
    refine (Hro.out _ h1).mono ?_
    rintro e W3 ⟨rfl, hb3⟩
    replace k6 := k6.step hb3
    have hb03 := hb2.trans (hb3.mono hb2.size)
    clear hb3 c6 k4 hb2 h1
    go_wp2_with (first
      | ((with_reducible show wpList _ _ _ (⟨some 9, .alloc _, _, _, _, _⟩ :: _) _ _); refine wpList_hvar (.tmp 9) (.tmp 18) rfl rfl rfl rfl rfl rfl Hfl.out ?_; intro W4 k9 hb4; simp only [Act.put]))
    go_ret
    exact ⟨rfl, hb03.trans (hb4.mono hb03.size)⟩
end Go.Proofs.Ytmglkblomklcbaa
