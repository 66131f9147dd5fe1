/- notarylaw09.covers: of a path's stretches it is true. -/
import Derived.Test.YtgcbdnoniikboaaTKnown
namespace Go.Proofs.Ytgcbdnoniikboaa
open Go Go.RowKit

theorem natR_getD (l : List (Nat × Nat)) (q : Nat) (h : q < l.length) : (natR l).getD q (0, 0) = (((l.getD q (0, 0)).1 : Int), ((l.getD q (0, 0)).2 : Int)) := by
  simp [natR, List.getD_eq_getElem?_getD, List.getElem?_eq_getElem h]
theorem getD_mem {α : Type} (l : List α) (q : Nat) (d : α) (h : q < l.length) : l.getD q d ∈ l := by
  rw [List.getD_eq_getElem?_getD, List.getElem?_eq_getElem h]; exact List.getElem_mem h
theorem spanSum_take (l : List (Nat × Nat)) (q : Nat) (h : q < l.length) : spanSum (l.take (q + 1)) = spanSum (l.take q) + ((l.getD q (0, 0)).2 - (l.getD q (0, 0)).1) := by
  rw [List.take_succ_eq_append_getElem h, spanSum_append, spanSum_one, List.getD_eq_getElem?_getD, List.getElem?_eq_getElem h]; rfl
theorem spanSum_take_le (l : List (Nat × Nat)) (q : Nat) : spanSum (l.take q) ≤ spanSum l := by
  conv => rhs; rw [← List.take_append_drop q l, spanSum_append]
  omega
theorem apart_getD {l : List (Nat × Nat)} (h : l.Pairwise apartR) (i j : Nat) (hij : i < j) (hj : j < l.length) : apartR (l.getD i (0, 0)) (l.getD j (0, 0)) := by
  rw [List.getD_eq_getElem?_getD, List.getD_eq_getElem?_getD, List.getElem?_eq_getElem (by omega), List.getElem?_eq_getElem hj]
  exact List.pairwise_iff_getElem.1 h i j (by omega) hj hij

structure CvC (w : World) (i : Nat) (A : Option Addr) (m c : Nat) (l : List (Nat × Nat)) (W : World) : Prop where
  box : Blk W w.heap.size 29 #[.int .i64 (i : Int), .int .i64 ((i : Int) + 1)]
  src : Rs W (fun _ => True) A m c (natR l)
  bel : Below w.heap.size w W
theorem CvC.drew {w W : World} {i : Nat} {A : Option Addr} {m c : Nat} {l : List (Nat × Nat)} (h : CvC w i A m c l W) : CvC w i A m c l W.drew := ⟨h.box.drew, h.src.drew, h.bel.drew⟩
theorem CvC.b0 {w W : World} {i : Nat} {A : Option Addr} {m c : Nat} {l : List (Nat × Nat)} (h : CvC w i A m c l W) : W.cell? ⟨w.heap.size, 0, none⟩ = some (.int .i64 (i : Int)) := by rw [h.box.cell]; rfl
theorem CvC.b1 {w W : World} {i : Nat} {A : Option Addr} {m c : Nat} {l : List (Nat × Nat)} (h : CvC w i A m c l W) : W.cell? ⟨w.heap.size, 1, none⟩ = some (.int .i64 ((i : Int) + 1)) := by rw [h.box.cell]; rfl
theorem CvC.at_ {w W : World} {i : Nat} {m c b o : Nat} {l : List (Nat × Nat)} (h : CvC w i (some ⟨b, o, none⟩) m c l W) (q : Nat) (hq : q < m) : W.cell? ⟨b, o + q * 2, none⟩ = some (.int .i64 ((l.getD q (0, 0)).1 : Int)) ∧ W.cell? ⟨b, o + q * 2 + 1, none⟩ = some (.int .i64 ((l.getD q (0, 0)).2 : Int)) := by
  obtain ⟨b', o', hA, -, -, hc⟩ := h.src.at_ (by omega)
  cases hA
  have := hc q hq
  rw [natR_getD l q (by have := h.src.len; rw [natR_length] at this; omega)] at this
  exact this

set_option maxHeartbeats 4000000 in
set_option maxRecDepth 100000 in
theorem covers_any (i n : Nat) (l : List (Nat × Nat)) (A : Option Addr) (m c : Nat) (w : World) (h : Rs w (fun _ => True) A m c (natR l)) (ok : PathOk i 0 n l) (hin : i < n) (hn : n ≤ 9223372036854775807) :
    Calls Try.prog 16 #[.slice A m c, .agg #[.int .i64 (i : Int), .int .i64 ((i : Int) + 1)], .int .i64 (n : Int)] w fun e w' => e = .returned (.bool true) ∧ Below w.heap.size w w' := by
  have hC0 : CvC w i A m c l (w.alloc (.cells #[.int .i64 (i : Int), .int .i64 ((i : Int) + 1)] 29)) := ⟨Blk.new _ _ _, h.alloc _, (Below.refl _ _).alloc (Nat.le_refl _) _⟩
  have hlen : l.length = m := by have := h.len; rwa [natR_length] at this
  have hroom := h.sl.room
  have hmax := h.sl.max
  unfold maxLen at hmax
  have Ok := Lib.hid ok
  have Hlen := Lib.hid hlen
  clear h ok hlen
  go_enter Try.func16, Try.ntmps16
  go_wp2_with fail
  go_loopw [7, 8] (fun s v wr => ∃ q : Nat, q ≤ m ∧ v = .int .i64 (q : Int) ∧ s = .int .i64 ((spanSum (l.take q) : Int) + 1) ∧ CvC w i A m c l wr) (fun _ v _ => m - (intOf v).toNat)
  case atStart => exact ⟨0, by omega, rfl, by simp [spanSum]; omega, hC0⟩
  case round =>
    clear hC0
    obtain ⟨q, hq, rfl, rfl, hC⟩ := hrel
    by_cases hlt : q < m
    · obtain ⟨b, o, hA, -, -, -⟩ := hC.src.at_ (by omega)
      subst hA
      obtain ⟨g1, g2, g3, g4⟩ := Ok.out.each (l.getD q (0, 0)) (getD_mem l q _ (by rw [Hlen.out]; exact hlt))
      have hst := spanSum_take l q (by rw [Hlen.out]; exact hlt)
      have hsu := Ok.out.sum
      have hsl := spanSum_take_le l (q + 1)
      have hat : ∀ s : InC (CvC w i (some ⟨b, o, none⟩) m c l), s.W.cell? ⟨b, o + q * 2, none⟩ = some (.int .i64 ((l.getD q (0, 0)).1 : Int)) ∧ s.W.cell? ⟨b, o + q * 2 + 1, none⟩ = some (.int .i64 ((l.getD q (0, 0)).2 : Int)) := fun s => s.ok.at_ q hlt
      obtain ⟨x, hx⟩ : ∃ x, l.getD q (0, 0) = x := ⟨_, rfl⟩
      rw [hx] at g1 g2 g3 g4 hst hat
      obtain ⟨s0, hs0⟩ : ∃ s0, spanSum (l.take q) = s0 := ⟨_, rfl⟩
      rw [hs0] at hst ⊢
      have e1 := fun s => (hat s).1
      have e2 := fun s => (hat s).2
      have e3 : ∀ s : InC (CvC w i (some ⟨b, o, none⟩) m c l), s.W.cell? ⟨w.heap.size, 0, none⟩ = some (.int .i64 (i : Int)) := fun s => s.ok.b0
      have e4 : ∀ s : InC (CvC w i (some ⟨b, o, none⟩) m c l), s.W.cell? ⟨w.heap.size, 1, none⟩ = some (.int .i64 ((i : Int) + 1)) := fun s => s.ok.b1
      have hw1 : IntKind.i64.wrap ((x.2 : Int) - (x.1 : Int)) = (x.2 : Int) - (x.1 : Int) := IntWalk.i64_in _ (by omega)
      have hw2 : IntKind.i64.wrap ((s0 : Int) + 1 + ((x.2 : Int) - (x.1 : Int))) = (s0 : Int) + 1 + ((x.2 : Int) - (x.1 : Int)) := IntWalk.i64_in _ (by omega)
      have Hst := Lib.hid hst
      have Hx := Lib.hid hx
      have d1 : decide ((x.1 : Int) < 0) = false := by simp
      have d2 : decide ((x.2 : Int) ≤ (x.1 : Int)) = false := by simp; omega
      have d2' : decide (x.2 ≤ x.1) = false := by simp; omega
      have d3 : decide ((n : Int) < (x.2 : Int)) = false := by simp; omega
      have d3' : decide (n < x.2) = false := by simp; omega
      have d4 : decide ((x.1 : Int) < (i : Int) + 1) = decide (x.2 ≤ i) := by
        rcases g4 with g4 | g4
        · rw [decide_eq_true g4]; simp; omega
        · rw [decide_eq_false (by omega : ¬ x.2 ≤ i)]; simp; omega
      have d5 : decide ((i : Int) < (x.2 : Int)) = !decide (x.2 ≤ i) := by
        rcases g4 with g4 | g4
        · rw [decide_eq_true g4]; simp; omega
        · rw [decide_eq_false (by omega : ¬ x.2 ≤ i)]; simp; omega
      have d5' : decide (i < x.2) = !decide (x.2 ≤ i) := by
        rcases g4 with g4 | g4
        · rw [decide_eq_true g4]; simp; omega
        · rw [decide_eq_false (by omega : ¬ x.2 ≤ i)]; simp; omega
      have hx12 : x.1 ≤ x.2 := by omega
      have hsb : s0 + (x.2 - x.1) ≤ n := by omega
      clear hst hx hat hs0 hsu hsl g4
      obtain ⟨bo, hbo⟩ : ∃ bo, decide (x.2 ≤ i) = bo := ⟨_, rfl⟩
      rw [hbo] at d4 d5 d5'
      clear hbo
      go_wp2_with fail
      refine wp_region_mix (CvC w i (some ⟨b, o, none⟩) m c l) [(0, true), (1, true), (2, true), (3, true), (4, true), (5, true), (6, true), (7, true), (8, true), (9, true), (10, true), (11, true), (12, true), (13, true)] (by kernel_rfl) (by kernel_rfl) hC.drew fun _ => ?_
      simp only [List.map_cons, List.map_nil, Array.getD_eq_getD_getElem?, List.getElem?_toArray, List.getElem?_cons_succ, List.getElem?_cons_zero, Option.getD_some]
      iterate 14 (refine wpMix_s (fun K hK => ?_); go_simp; refine hK _ ?_; clear hK K)
      refine wpMix_nil ?_
      clear hC
      intro hC
      generalize wr.drew = W1 at hC ⊢
      go_wp2_with fail
      cases bo with
      | false =>
        refine wp_region_mix (CvC w i (some ⟨b, o, none⟩) m c l) [(0, true), (1, true), (2, true), (3, true), (4, true), (5, true), (6, true), (7, true), (8, true), (9, true), (10, true), (11, true), (12, true), (13, true), (14, true), (15, true), (16, true), (17, true), (18, true), (19, true), (20, true), (21, true), (22, true), (23, true), (24, true), (25, true), (26, true), (27, true), (28, true), (29, true), (30, true), (31, true), (32, true), (33, true), (34, true), (35, true), (36, true), (37, true), (38, true), (39, true), (40, true), (41, true), (42, true), (43, true), (44, true), (45, true), (46, true), (47, true)] (by kernel_rfl) (by kernel_rfl) hC.drew fun _ => ?_
        simp only [List.map_cons, List.map_nil, Array.getD_eq_getD_getElem?, List.getElem?_toArray, List.getElem?_cons_succ, List.getElem?_cons_zero, Option.getD_some]
        iterate 48 (refine wpMix_s (fun K hK => ?_); go_simp; refine hK _ ?_; clear hK K)
        refine wpMix_nil ?_
        clear hC
        intro hC
        generalize W1.drew = W2 at hC ⊢
        go_wp2_with fail
        clear d1 d2 d2' d3 d3' d4 d5 d5' hw1 hw2
        go_loopw [9] (fun v wr => ∃ k : Nat, k ≤ q ∧ v = .int .i64 (k : Int) ∧ CvC w i (some ⟨b, o, none⟩) m c l wr) (fun v _ => q - (intOf v).toNat)
        case atStart => exact ⟨0, by omega, rfl, hC⟩
        case round =>
          clear hC
          obtain ⟨k, hk, rfl, hC⟩ := hrel
          by_cases hkq : k < q
          · have hap := apart_getD Ok.out.apart k q hkq (by rw [Hlen.out]; exact hlt)
            have hey := Ok.out.each (l.getD k (0, 0)) (getD_mem l k _ (by rw [Hlen.out]; omega))
            have hat : ∀ s : InC (CvC w i (some ⟨b, o, none⟩) m c l), s.W.cell? ⟨b, o + k * 2, none⟩ = some (.int .i64 ((l.getD k (0, 0)).1 : Int)) ∧ s.W.cell? ⟨b, o + k * 2 + 1, none⟩ = some (.int .i64 ((l.getD k (0, 0)).2 : Int)) := fun s => s.ok.at_ k (by omega)
            obtain ⟨y, hy⟩ : ∃ y, l.getD k (0, 0) = y := ⟨_, rfl⟩
            rw [hy] at hap hey hat
            rw [Hx.out] at hap
            have e5 := fun s => (hat s).1
            have e6 := fun s => (hat s).2
            have hkm : k < m := by omega
            obtain ⟨y1, y2, y3, -⟩ := hey
            clear hat hy
            rcases hap with hap | hap
            · have d1 : decide ((x.1 : Int) < (y.2 : Int)) = false := by simp; omega
              have d1' : decide (x.1 < y.2) = false := by simp; omega
              go_wp2_with fail
              refine wp_region_mix (CvC w i (some ⟨b, o, none⟩) m c l) [(0, true), (1, true), (2, true), (3, true), (4, true), (5, true), (6, true), (7, true), (8, true), (9, true), (10, true), (11, true), (12, true), (13, true), (14, true), (15, true), (16, true), (17, true), (18, true), (19, true), (20, true), (21, true), (22, true), (23, true)] (by kernel_rfl) (by kernel_rfl) hC.drew fun _ => ?_
              simp only [List.map_cons, List.map_nil, Array.getD_eq_getD_getElem?, List.getElem?_toArray, List.getElem?_cons_succ, List.getElem?_cons_zero, Option.getD_some]
              iterate 24 (refine wpMix_s (fun K hK => ?_); go_simp; refine hK _ ?_; clear hK K)
              refine wpMix_nil ?_
              clear hC
              intro hC
              generalize wr.drew = W3 at hC ⊢
              go_wp2_with fail
              refine ⟨⟨k + 1, by omega, by go_num, hC⟩, by simp [intOf]; omega⟩
            · have d1 : decide ((x.1 : Int) < (y.2 : Int)) = true := by simp; omega
              have d1' : decide (x.1 < y.2) = true := by simp; omega
              have d2 : decide ((y.1 : Int) < (x.2 : Int)) = false := by simp; omega
              have d2' : decide (y.1 < x.2) = false := by simp; omega
              go_wp2_with fail
              refine wp_region_mix (CvC w i (some ⟨b, o, none⟩) m c l) [(0, true), (1, true), (2, true), (3, true), (4, true), (5, true), (6, true), (7, true), (8, true), (9, true), (10, true), (11, true), (12, true), (13, true), (14, true), (15, true), (16, true), (17, true), (18, true), (19, true), (20, true), (21, true), (22, true), (23, true)] (by kernel_rfl) (by kernel_rfl) hC.drew fun _ => ?_
              simp only [List.map_cons, List.map_nil, Array.getD_eq_getD_getElem?, List.getElem?_toArray, List.getElem?_cons_succ, List.getElem?_cons_zero, Option.getD_some]
              iterate 24 (refine wpMix_s (fun K hK => ?_); go_simp; refine hK _ ?_; clear hK K)
              refine wpMix_nil ?_
              clear hC
              intro hC
              generalize wr.drew = W3 at hC ⊢
              go_wp2_with fail
              refine ⟨⟨k + 1, by omega, by go_num, hC⟩, by simp [intOf]; omega⟩
          · obtain rfl : k = q := by omega
            clear e1 e2 e3 e4
            go_wp2_with fail
            refine ⟨⟨k + 1, by omega, by go_num, ?_, hC⟩, by simp [intOf]; omega⟩
            rw [Hst.out]
            have : ((s0 + (x.2 - x.1) : Nat) : Int) = (s0 : Int) + ((x.2 : Int) - (x.1 : Int)) := by omega
            rw [this]
            go_num
      | true =>
        refine wp_region_mix (CvC w i (some ⟨b, o, none⟩) m c l) [(0, true), (1, true), (2, true), (3, true), (4, true), (5, true), (6, true), (7, true), (8, true), (9, true), (10, true), (11, true), (12, true), (13, true), (14, true), (15, true), (16, true), (17, true), (18, true), (19, true), (20, true), (21, true), (22, true), (23, true), (24, true), (25, true), (26, true), (27, true), (28, true), (29, true), (30, true), (31, true), (32, true), (33, true), (34, true), (35, true), (36, true), (37, true), (38, true), (39, true), (40, true), (41, true), (42, true), (43, true), (44, true), (45, true), (46, true), (47, true)] (by kernel_rfl) (by kernel_rfl) hC.drew fun _ => ?_
        simp only [List.map_cons, List.map_nil, Array.getD_eq_getD_getElem?, List.getElem?_toArray, List.getElem?_cons_succ, List.getElem?_cons_zero, Option.getD_some]
        iterate 48 (refine wpMix_s (fun K hK => ?_); go_simp; refine hK _ ?_; clear hK K)
        refine wpMix_nil ?_
        clear hC
        intro hC
        generalize W1.drew = W2 at hC ⊢
        go_wp2_with fail
        clear d1 d2 d2' d3 d3' d4 d5 d5' hw1 hw2
        go_loopw [9] (fun v wr => ∃ k : Nat, k ≤ q ∧ v = .int .i64 (k : Int) ∧ CvC w i (some ⟨b, o, none⟩) m c l wr) (fun v _ => q - (intOf v).toNat)
        case atStart => exact ⟨0, by omega, rfl, hC⟩
        case round =>
          clear hC
          obtain ⟨k, hk, rfl, hC⟩ := hrel
          by_cases hkq : k < q
          · have hap := apart_getD Ok.out.apart k q hkq (by rw [Hlen.out]; exact hlt)
            have hey := Ok.out.each (l.getD k (0, 0)) (getD_mem l k _ (by rw [Hlen.out]; omega))
            have hat : ∀ s : InC (CvC w i (some ⟨b, o, none⟩) m c l), s.W.cell? ⟨b, o + k * 2, none⟩ = some (.int .i64 ((l.getD k (0, 0)).1 : Int)) ∧ s.W.cell? ⟨b, o + k * 2 + 1, none⟩ = some (.int .i64 ((l.getD k (0, 0)).2 : Int)) := fun s => s.ok.at_ k (by omega)
            obtain ⟨y, hy⟩ : ∃ y, l.getD k (0, 0) = y := ⟨_, rfl⟩
            rw [hy] at hap hey hat
            rw [Hx.out] at hap
            have e5 := fun s => (hat s).1
            have e6 := fun s => (hat s).2
            have hkm : k < m := by omega
            obtain ⟨y1, y2, y3, -⟩ := hey
            clear hat hy
            rcases hap with hap | hap
            · have d1 : decide ((x.1 : Int) < (y.2 : Int)) = false := by simp; omega
              have d1' : decide (x.1 < y.2) = false := by simp; omega
              go_wp2_with fail
              refine wp_region_mix (CvC w i (some ⟨b, o, none⟩) m c l) [(0, true), (1, true), (2, true), (3, true), (4, true), (5, true), (6, true), (7, true), (8, true), (9, true), (10, true), (11, true), (12, true), (13, true), (14, true), (15, true), (16, true), (17, true), (18, true), (19, true), (20, true), (21, true), (22, true), (23, true)] (by kernel_rfl) (by kernel_rfl) hC.drew fun _ => ?_
              simp only [List.map_cons, List.map_nil, Array.getD_eq_getD_getElem?, List.getElem?_toArray, List.getElem?_cons_succ, List.getElem?_cons_zero, Option.getD_some]
              iterate 24 (refine wpMix_s (fun K hK => ?_); go_simp; refine hK _ ?_; clear hK K)
              refine wpMix_nil ?_
              clear hC
              intro hC
              generalize wr.drew = W3 at hC ⊢
              go_wp2_with fail
              refine ⟨⟨k + 1, by omega, by go_num, hC⟩, by simp [intOf]; omega⟩
            · have d1 : decide ((x.1 : Int) < (y.2 : Int)) = true := by simp; omega
              have d1' : decide (x.1 < y.2) = true := by simp; omega
              have d2 : decide ((y.1 : Int) < (x.2 : Int)) = false := by simp; omega
              have d2' : decide (y.1 < x.2) = false := by simp; omega
              go_wp2_with fail
              refine wp_region_mix (CvC w i (some ⟨b, o, none⟩) m c l) [(0, true), (1, true), (2, true), (3, true), (4, true), (5, true), (6, true), (7, true), (8, true), (9, true), (10, true), (11, true), (12, true), (13, true), (14, true), (15, true), (16, true), (17, true), (18, true), (19, true), (20, true), (21, true), (22, true), (23, true)] (by kernel_rfl) (by kernel_rfl) hC.drew fun _ => ?_
              simp only [List.map_cons, List.map_nil, Array.getD_eq_getD_getElem?, List.getElem?_toArray, List.getElem?_cons_succ, List.getElem?_cons_zero, Option.getD_some]
              iterate 24 (refine wpMix_s (fun K hK => ?_); go_simp; refine hK _ ?_; clear hK K)
              refine wpMix_nil ?_
              clear hC
              intro hC
              generalize wr.drew = W3 at hC ⊢
              go_wp2_with fail
              refine ⟨⟨k + 1, by omega, by go_num, hC⟩, by simp [intOf]; omega⟩
          · obtain rfl : k = q := by omega
            clear e1 e2 e3 e4
            go_wp2_with fail
            refine ⟨⟨k + 1, by omega, by go_num, ?_, hC⟩, by simp [intOf]; omega⟩
            rw [Hst.out]
            have : ((s0 + (x.2 - x.1) : Nat) : Int) = (s0 : Int) + ((x.2 : Int) - (x.1 : Int)) := by omega
            rw [this]
            go_num
    · obtain rfl : q = m := by omega
      have hsu := Ok.out.sum
      have hall : l.take q = l := List.take_of_length_le (by rw [Hlen.out]; exact Nat.le_refl _)
      rw [hall]
      have hb := hC.bel
      have hse : ((spanSum l : Int) + 1 == (n : Int)) = true := by simp; omega
      clear hsu hall hC
      go_wp2_with fail
      go_ret
      exact ⟨rfl, hb⟩
end Go.Proofs.Ytgcbdnoniikboaa
