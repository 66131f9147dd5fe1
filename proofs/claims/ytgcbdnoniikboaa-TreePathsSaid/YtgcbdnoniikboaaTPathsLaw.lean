/- notarylaw09.TreePaths. -/
import Derived.Test.YtgcbdnoniikboaaTCovers
namespace Go.Proofs.Ytgcbdnoniikboaa
open Go Go.RowKit

theorem upP_step (p x : Nat × Nat) (l : List (Nat × Nat)) (q : Nat × Nat) (h : upP p (x :: l) = some q) : (x.2 = p.1 ∧ upP (x.1, p.2) l = some q) ∨ (x.2 ≠ p.1 ∧ x.1 = p.2 ∧ upP (p.1, x.2) l = some q) := by
  simp only [upP] at h
  split at h
  · exact .inl ⟨by assumption, h⟩
  · split at h
    · exact .inr ⟨by assumption, by assumption, h⟩
    · cases h
theorem withinSum_take (m : Nat) (l : List (Nat × Nat)) (q : Nat) (h : q < l.length) : withinSum m (l.take (q + 1)) = withinSum m (l.take q) + (if (l.getD q (0, 0)).2 ≤ m then (l.getD q (0, 0)).2 - (l.getD q (0, 0)).1 else 0) := by
  rw [List.take_succ_eq_append_getElem h, withinSum_append, withinSum_one, List.getD_eq_getElem?_getD, List.getElem?_eq_getElem h]; rfl
theorem behindSum_take (m : Nat) (l : List (Nat × Nat)) (q : Nat) (h : q < l.length) : behindSum m (l.take (q + 1)) = behindSum m (l.take q) + (if (l.getD q (0, 0)).2 ≤ m then 0 else (l.getD q (0, 0)).2 - (l.getD q (0, 0)).1) := by
  rw [List.take_succ_eq_append_getElem h, behindSum_append, behindSum_one, List.getD_eq_getElem?_getD, List.getElem?_eq_getElem h]; rfl
theorem withinSum_take_le (m : Nat) (l : List (Nat × Nat)) (q : Nat) : withinSum m (l.take q) ≤ withinSum m l := by
  conv => rhs; rw [← List.take_append_drop q l, withinSum_append]
  omega
theorem behindSum_take_le (m : Nat) (l : List (Nat × Nat)) (q : Nat) : behindSum m (l.take q) ≤ behindSum m l := by
  conv => rhs; rw [← List.take_append_drop q l, behindSum_append]
  omega
theorem i64_and_nat' (a b : Nat) (ha : a < 9223372036854775808) (hb : b < 9223372036854775808) : bits .and .i64 (a : Int) (b : Int) = ((a &&& b : Nat) : Int) := by
  have h1 : a &&& b < 9223372036854775808 := Nat.lt_of_le_of_lt Nat.and_le_left ha
  show IntKind.i64.wrap ((BitVec.ofInt 64 (a : Int) &&& BitVec.ofInt 64 (b : Int)).toNat : Int) = _
  rw [BitVec.toNat_and, ofInt_u64 a (by omega), ofInt_u64 b (by omega), IntKind.wrap_i64]
  omega
theorem and_pow_pred (j : Nat) : 2 ^ j &&& (2 ^ j - 1) = 0 := by rw [Nat.and_two_pow_sub_one_eq_mod, Nat.mod_self]

theorem and_pred_zero (i j : Nat) (h : i = 2 ^ j) (h1 : 1 ≤ i) (hi : i < 9223372036854775808) : bits .and .i64 (i : Int) ((i : Int) - 1) = 0 := by
  have e : i &&& (i - 1) = 0 := by rw [h, and_pow_pred]
  clear h
  rw [show (i : Int) - 1 = ((i - 1 : Nat) : Int) by omega, i64_and_nat' _ _ (by omega) (by omega), e]
  rfl

theorem wrap_sum (s a b : Nat) (h : a ≤ b) (h1 : s + (b - a) ≤ 9223372036854775807) (h2 : b ≤ 9223372036854775807) : IntKind.i64.wrap (IntKind.i64.wrap ((s : Int) + (b : Int)) - (a : Int)) = ((s + (b - a) : Nat) : Int) := by
  rw [IntKind.wrap_i64, IntKind.wrap_i64]
  omega

structure TpC (w : World) (A : Option Addr) (m c : Nat) (l : List (Nat × Nat)) (W : World) : Prop where
  src : Rs W (fun _ => True) A m c (natR l)
  bel : Below w.heap.size w W
theorem TpC.drew {w W : World} {A : Option Addr} {m c : Nat} {l : List (Nat × Nat)} (h : TpC w A m c l W) : TpC w A m c l W.drew := ⟨h.src.drew, h.bel.drew⟩
theorem TpC.at_ {w W : World} {m c b o : Nat} {l : List (Nat × Nat)} (h : TpC w (some ⟨b, o, none⟩) m c l W) (q : Nat) (hq : q < m) : W.cell? ⟨b, o + q * 2, none⟩ = some (.int .i64 ((l.getD q (0, 0)).1 : Int)) ∧ W.cell? ⟨b, o + q * 2 + 1, none⟩ = some (.int .i64 ((l.getD q (0, 0)).2 : Int)) := by
  obtain ⟨b', o', hA, -, -, hc⟩ := h.src.at_ (by omega)
  cases hA
  have := hc q hq
  rw [natR_getD l q (by have := h.src.len; rw [natR_length] at this; omega)] at this
  exact this

set_option maxRecDepth 100000 in
/-- where it is no entry -/
theorem treepaths_bad (i n : Int) (w : World) (h : i < 0 ∨ n ≤ i) :
    Calls Try.prog 3 #[.int .i64 i, .int .i64 n] w fun e w' => e = .returned (.bool true) ∧ Below w.heap.size w w' := by
  have hp := tpath_bad i n w h
  have Hp := Lib.hid hp
  clear hp
  by_cases h0 : i < 0
  · have d0 : decide (i < 0) = true := by simp; exact h0
    go_enter Try.func3, Try.ntmps3
    go_wp2_with fail
    refine Hp.out.mono ?_
    rintro e w1 ⟨rfl, rfl⟩
    go_wp2_with (go_at_call 15; refine (known9_any _).mono ?_; rintro e w2 ⟨rfl, hb2⟩)
    go_ret
    exact ⟨rfl, hb2⟩
  · have d0 : decide (i < 0) = false := by simp; omega
    have d1 : decide (n ≤ i) = true := by simp; omega
    go_enter Try.func3, Try.ntmps3
    go_wp2_with fail
    refine Hp.out.mono ?_
    rintro e w1 ⟨rfl, rfl⟩
    go_wp2_with (go_at_call 15; refine (known9_any _).mono ?_; rintro e w2 ⟨rfl, hb2⟩)
    go_ret
    exact ⟨rfl, hb2⟩

set_option maxHeartbeats 4000000 in
set_option maxRecDepth 100000 in
theorem treepaths_ok (i n : Nat) (w : World) (hin : i < n) (hn : n ≤ 9223372036854775807) :
    Calls Try.prog 3 #[.int .i64 (i : Int), .int .i64 (n : Int)] w fun e w' => e = .returned (.bool true) ∧ Below w.heap.size w w' := by
  have hi63 : i < 9223372036854775808 := by omega
  have hp := tpath_ok i n w hin hn
  have ok := pathL_ok n i 0 n (by omega) (Nat.zero_le _) hin
  have up := pathL_up n i 0 n (by omega) (Nat.zero_le _) hin
  have hpl : (pathL i 0 n).length ≤ 63 := pathL_len 63 i 0 n (by omega)
  obtain ⟨l, hl⟩ : ∃ l, pathL i 0 n = l := ⟨_, rfl⟩
  rw [hl] at hp ok up hpl
  obtain ⟨m, hm⟩ : ∃ m, l.length = m := ⟨_, rfl⟩
  rw [hm] at hp hpl
  have hsteps : ∀ W, Calls Try.prog 17 #[.int .i64 (i : Int), .int .i64 (n : Int)] W fun e w' => ∃ A c ls, e = .returned (.tuple #[.slice A (List.length ls) c, .int .i64 0]) ∧ (i = 0 ∧ ls = [] ∨ 1 ≤ i ∧ ls = stepsL i 0 n true) ∧ Rs w' (fun _ => True) A ls.length c (natR ls) ∧ Below W.heap.size W w' := fun W => by
    by_cases h0 : i = 0
    · subst h0
      refine (tsteps_zero (n : Int) W (by omega)).mono ?_
      rintro e w' ⟨rfl, hb⟩
      exact ⟨none, 0, [], rfl, .inl ⟨rfl, rfl⟩, Rs.empty, hb⟩
    · refine (tsteps_ok i n W (by omega) (by omega) hn).mono ?_
      rintro e w' ⟨v, rfl, ho, hb⟩
      obtain ⟨A, c, rfl, hs⟩ := Rs.of_owns ho (natR_length _)
      exact ⟨A, c, _, rfl, .inr ⟨by omega, rfl⟩, hs.weak fun _ _ _ => trivial, hb⟩
  have Hp := Lib.hid hp
  have Ok := Lib.hid ok
  have Up := Lib.hid up
  have Hm := Lib.hid hm
  have Hsteps := Lib.hid hsteps
  clear hp ok up hl hm hsteps
  have d63 : decide ((63 : Int) < (m : Int)) = false := by simp; omega
  have hw1 : IntKind.i64.wrap ((i : Int) + 1) = (i : Int) + 1 := IntWalk.i64_in _ (by omega)
  go_enter Try.func3, Try.ntmps3
  go_wp2_with fail
  refine Hp.out.mono ?_
  rintro e w1 ⟨v, rfl, ho, hb1⟩
  obtain ⟨A, c, rfl, hs⟩ := Rs.of_owns ho (by rw [natR_length, Hm.out])
  have hC1 : TpC w A m c l w1 := ⟨hs.weak fun _ _ _ => trivial, hb1⟩
  clear ho hs hb1 Hp
  go_wp2_with fail
  refine (covers_any i n l A m c w1 hC1.src Ok.out hin hn).mono ?_
  rintro e w2 ⟨rfl, hb2⟩
  have hC2 : TpC w A m c l w2 := ⟨hC1.src.step hb2, hC1.bel.trans (hb2.mono hC1.bel.size)⟩
  clear hC1 hb2
  have hroom := hC2.src.sl.room
  have hmax := hC2.src.sl.max
  unfold maxLen at hmax
  go_wp2_with fail
  clear hw1
  go_loopw [7, 8, 9] (fun f t v wr => ∃ (q : Nat) (p : Nat × Nat), q ≤ m ∧ v = .int .i64 (q : Int) ∧ f = .int .i64 (p.1 : Int) ∧ t = .int .i64 (p.2 : Int) ∧ upP p (l.drop q) = some (0, n) ∧ TpC w A m c l wr) (fun _ _ v _ => m - (intOf v).toNat)
  case atStart => exact ⟨0, (i, i + 1), Nat.zero_le _, rfl, rfl, by go_num, by simpa using Up.out, hC2⟩
  case round =>
    clear hC2
    obtain ⟨q, ⟨pf, pt⟩, hq, rfl, rfl, rfl, hup, hC⟩ := hrel
    dsimp only at hup ⊢
    by_cases hlt : q < m
    · obtain ⟨b, o, hA, -, -, -⟩ := hC.src.at_ (by omega)
      subst hA
      obtain ⟨e1, e2⟩ := hC.at_ q hlt
      rw [List.drop_eq_getElem_cons (by rw [Hm.out]; exact hlt)] at hup
      have hgd : l.getD q (0, 0) = l[q]'(by rw [Hm.out]; exact hlt) := by rw [List.getD_eq_getElem?_getD, List.getElem?_eq_getElem (by rw [Hm.out]; exact hlt)]; rfl
      rw [← hgd] at hup
      obtain ⟨x, hx⟩ : ∃ x, l.getD q (0, 0) = x := ⟨_, rfl⟩
      rw [hx] at hup e1 e2
      clear hgd hx
      rcases upP_step _ _ _ _ hup with ⟨h1, h2⟩ | ⟨h1, h2, h3⟩
      · have h1' : x.2 = pf := h1
        have d1 : ((x.2 : Int) == (pf : Int)) = true := by simp; omega
        have H2 := Lib.hid h2
        clear hup h1 h1' h2
        go_wp2_with fail
        refine ⟨⟨q + 1, (x.1, pt), by omega, by go_num, rfl, rfl, H2.out, hC⟩, by simp [intOf]; omega⟩
      · have h1' : x.2 ≠ pf := h1
        have h2' : x.1 = pt := h2
        have d1 : ((x.2 : Int) == (pf : Int)) = false := by simp; omega
        have d2 : ((x.1 : Int) == (pt : Int)) = true := by simp; omega
        have H3 := Lib.hid h3
        clear hup h1 h2 h3 h1' h2'
        go_wp2_with fail
        refine ⟨⟨q + 1, (pf, x.2), by omega, by go_num, rfl, rfl, H3.out, hC⟩, by simp [intOf]; omega⟩
    · obtain rfl : q = m := by omega
      rw [List.drop_of_length_le (by rw [Hm.out]; exact Nat.le_refl _)] at hup
      simp only [upP, Option.some.injEq, Prod.mk.injEq] at hup
      obtain ⟨rfl, rfl⟩ := hup
      have hB := hC.bel
      have dz : ((pt : Int) != (pt : Int)) = false := by simp
      clear hC
      go_wp2_with fail
      refine (Hsteps.out _).mono ?_
      rintro e w3 ⟨A3, c3, ls, rfl, hls, hs3, hb3⟩
      have hC3 : TpC w A3 ls.length c3 ls w3 := ⟨hs3, hB.trans (hb3.mono hB.size)⟩
      have hr3 := hs3.sl.room
      have hm3 := hs3.sl.max
      unfold maxLen at hm3
      have hfacts : ls.length ≤ 64 ∧ (∀ x ∈ ls, x.1 < x.2 ∧ x.2 ≤ pt ∧ (x.2 ≤ i ∨ i ≤ x.1)) ∧ ls.Pairwise apartR ∧ (i = 0 ∧ ls = [] ∨ 1 ≤ i ∧ behindSum i ls = pt - i ∧ (withinSum i ls = i ∨ (withinSum i ls = 0 ∧ ∃ j, i = 2 ^ j))) ∧ behindSum i ls ≤ pt ∧ withinSum i ls ≤ pt := by
        rcases hls with ⟨rfl, rfl⟩ | ⟨h1, rfl⟩
        · exact ⟨by simp, by simp, List.Pairwise.nil, .inl ⟨rfl, rfl⟩, by simp [behindSum, spanSum], by simp [withinSum, spanSum]⟩
        · have hk := stepsL_ok pt i 0 pt true (Nat.le_refl _) h1 (by omega)
          have hbe := hk.behind
          have hwi := hk.within
          rw [Nat.zero_add] at hbe hwi
          refine ⟨stepsL_len 63 i 0 pt true h1 (by omega) (by omega), fun x hx => ?_, hk.apart, .inr ⟨h1, hbe, ?_⟩, by omega, ?_⟩
          · obtain ⟨g1, g2, g3, g4⟩ := hk.each x hx
            exact ⟨g2, by omega, by omega⟩
          · rcases hwi with g | ⟨g, -, g'⟩
            · exact .inl g
            · rcases g' with g' | g'
              · omega
              · exact .inr ⟨g, g'⟩
          · rcases hwi with g | ⟨g, -, -⟩ <;> omega
      obtain ⟨k1, k2, k3, k4, k5, k6⟩ := hfacts
      obtain ⟨k, hk⟩ : ∃ k, ls.length = k := ⟨_, rfl⟩
      rw [hk] at hC3 hr3 k1 ⊢
      have Hk := Lib.hid hk
      have K2 := Lib.hid k2
      have K3 := Lib.hid k3
      have K4 := Lib.hid k4
      have d64 : decide ((64 : Int) < (k : Int)) = false := by simp; omega
      clear hls hs3 hb3 hB hk k2 k3 k4 dz Hsteps
      go_wp2_with fail
      go_loopw [12, 13, 14] (fun wi be v wr => ∃ (q : Nat), q ≤ k ∧ v = .int .i64 (q : Int) ∧ wi = .int .i64 (withinSum i (ls.take q) : Int) ∧ be = .int .i64 (behindSum i (ls.take q) : Int) ∧ TpC w A3 k c3 ls wr) (fun _ _ v _ => k - (intOf v).toNat)
      case atStart => exact ⟨0, Nat.zero_le _, rfl, by simp [withinSum, spanSum], by simp [behindSum, spanSum], hC3⟩
      case round =>
        clear hC3
        obtain ⟨q, hq, rfl, rfl, rfl, hC⟩ := hrel
        by_cases hlt : q < k
        · obtain ⟨b, o, hA, -, -, -⟩ := hC.src.at_ (by omega)
          subst hA
          obtain ⟨g2, g3, g4⟩ := K2.out (ls.getD q (0, 0)) (getD_mem ls q _ (by rw [Hk.out]; exact hlt))
          have hwt := withinSum_take i ls q (by rw [Hk.out]; exact hlt)
          have hbt := behindSum_take i ls q (by rw [Hk.out]; exact hlt)
          have hwl := withinSum_take_le i ls (q + 1)
          have hbl := behindSum_take_le i ls (q + 1)
          have hat : ∀ s : InC (TpC w (some ⟨b, o, none⟩) k c3 ls), s.W.cell? ⟨b, o + q * 2, none⟩ = some (.int .i64 ((ls.getD q (0, 0)).1 : Int)) ∧ s.W.cell? ⟨b, o + q * 2 + 1, none⟩ = some (.int .i64 ((ls.getD q (0, 0)).2 : Int)) := fun s => s.ok.at_ q hlt
          obtain ⟨x, hx⟩ : ∃ x, ls.getD q (0, 0) = x := ⟨_, rfl⟩
          rw [hx] at g2 g3 g4 hwt hbt hat
          obtain ⟨s0, hs0⟩ : ∃ s0, withinSum i (ls.take q) = s0 := ⟨_, rfl⟩
          obtain ⟨s1, hs1⟩ : ∃ s1, behindSum i (ls.take q) = s1 := ⟨_, rfl⟩
          rw [hs0] at hwt ⊢
          rw [hs1] at hbt ⊢
          have e1 := fun s => (hat s).1
          have e2 := fun s => (hat s).2
          have d1 : decide ((x.1 : Int) < 0) = false := by simp
          have d2 : decide ((x.2 : Int) ≤ (x.1 : Int)) = false := by simp; omega
          have d2' : decide (x.2 ≤ x.1) = false := by simp; omega
          have d3 : decide ((pt : Int) < (x.2 : Int)) = false := by simp; omega
          have d3' : decide (pt < x.2) = false := by simp; omega
          have hx12 : x.1 ≤ x.2 := by omega
          have Hx := Lib.hid hx
          clear hat hx hs0 hs1
          rcases g4 with g4 | g4
          · have d4 : decide ((x.1 : Int) < (i : Int)) = true := by simp; omega
            have d4' : decide (x.1 < i) = true := by simp; omega
            have d5 : decide ((i : Int) < (x.2 : Int)) = false := by simp; omega
            have d5' : decide (i < x.2) = false := by simp; omega
            have d6 : decide ((x.2 : Int) ≤ (i : Int)) = true := by simp; omega
            have d6' : decide (x.2 ≤ i) = true := by simp; omega
            rw [if_pos g4] at hwt hbt
            have hw1 : True := trivial
            have Hwt := Lib.hid hwt
            have Hbt := Lib.hid hbt
            clear hwt hbt hw1
            go_wp2_with fail
            refine wp_region_mix (TpC w (some ⟨b, o, none⟩) k c3 ls) [(0, true), (1, true), (2, true), (3, true), (4, true), (5, true), (6, true), (7, true), (8, true), (9, true), (10, true), (11, true), (12, true), (13, true), (14, true), (15, true), (16, true), (17, true), (18, true), (19, true), (20, true), (21, true), (22, true), (23, true), (24, true), (25, true), (26, true), (27, true), (28, true), (29, true), (30, true), (31, true), (32, true), (33, true), (34, true), (35, true), (36, true), (37, true), (38, true), (39, true), (40, true), (41, true), (42, true), (43, true), (44, true), (45, true)] (by kernel_rfl) (by kernel_rfl) hC.drew fun _ => ?_
            simp only [List.map_cons, List.map_nil, Array.getD_eq_getD_getElem?, List.getElem?_toArray, List.getElem?_cons_succ, List.getElem?_cons_zero, Option.getD_some]
            iterate 46 (refine wpMix_s (fun K hK => ?_); go_simp; refine hK _ ?_; clear hK K)
            refine wpMix_nil ?_
            clear hC
            intro hC
            generalize wr.drew = W1 at hC ⊢
            obtain ⟨f1, f2⟩ := hC.at_ q hlt
            rw [Hx.out] at f1 f2
            go_wp2_with fail
            clear f1 f2
            refine wp_region_mix (TpC w (some ⟨b, o, none⟩) k c3 ls) [(0, true), (1, true), (2, true), (3, true), (4, true), (5, true), (6, true), (7, true), (8, true), (9, true), (10, true), (11, true), (12, true), (13, true)] (by kernel_rfl) (by kernel_rfl) hC.drew fun _ => ?_
            simp only [List.map_cons, List.map_nil, Array.getD_eq_getD_getElem?, List.getElem?_toArray, List.getElem?_cons_succ, List.getElem?_cons_zero, Option.getD_some]
            iterate 14 (refine wpMix_s (fun K hK => ?_); go_simp; refine hK _ ?_; clear hK K)
            refine wpMix_nil ?_
            clear hC
            intro hC
            generalize W1.drew = W2 at hC ⊢
            go_wp2_with fail
            clear d1 d2 d2' d3 d3' d4 d4' d6 d6' d5 d5'
            go_loopw [15] (fun v wr => ∃ u : Nat, u ≤ q ∧ v = .int .i64 (u : Int) ∧ TpC w (some ⟨b, o, none⟩) k c3 ls wr) (fun v _ => q - (intOf v).toNat)
            case atStart => exact ⟨0, Nat.zero_le _, rfl, hC⟩
            case round =>
              clear hC
              obtain ⟨u, hu, rfl, hC⟩ := hrel
              by_cases huq : u < q
              · have hap := apart_getD K3.out u q huq (by rw [Hk.out]; exact hlt)
                have hey := K2.out (ls.getD u (0, 0)) (getD_mem ls u _ (by rw [Hk.out]; omega))
                have hat : ∀ s : InC (TpC w (some ⟨b, o, none⟩) k c3 ls), s.W.cell? ⟨b, o + u * 2, none⟩ = some (.int .i64 ((ls.getD u (0, 0)).1 : Int)) ∧ s.W.cell? ⟨b, o + u * 2 + 1, none⟩ = some (.int .i64 ((ls.getD u (0, 0)).2 : Int)) := fun s => s.ok.at_ u (by omega)
                obtain ⟨y, hy⟩ : ∃ y, ls.getD u (0, 0) = y := ⟨_, rfl⟩
                rw [hy] at hap hey hat
                rw [Hx.out] at hap
                have e5 := fun s => (hat s).1
                have e6 := fun s => (hat s).2
                have hum : u < k := by omega
                obtain ⟨y1, y2, -⟩ := hey
                clear hat hy
                rcases hap with hap | hap
                · have d1 : decide ((x.1 : Int) < (y.2 : Int)) = false := by simp; omega
                  have d1' : decide (x.1 < y.2) = false := by simp; omega
                  go_wp2_with fail
                  refine wp_region_mix (TpC w (some ⟨b, o, none⟩) k c3 ls) [(0, true), (1, true), (2, true), (3, true), (4, true), (5, true), (6, true), (7, true), (8, true), (9, true), (10, true), (11, true), (12, true), (13, true), (14, true), (15, true), (16, true), (17, true), (18, true), (19, true), (20, true), (21, true), (22, true), (23, true)] (by kernel_rfl) (by kernel_rfl) hC.drew fun _ => ?_
                  simp only [List.map_cons, List.map_nil, Array.getD_eq_getD_getElem?, List.getElem?_toArray, List.getElem?_cons_succ, List.getElem?_cons_zero, Option.getD_some]
                  iterate 24 (refine wpMix_s (fun K hK => ?_); go_simp; refine hK _ ?_; clear hK K)
                  refine wpMix_nil ?_
                  clear hC
                  intro hC
                  generalize wr.drew = W4 at hC ⊢
                  go_wp2_with fail
                  refine ⟨⟨u + 1, by omega, by go_num, hC⟩, by simp [intOf]; omega⟩
                · have d1 : decide ((x.1 : Int) < (y.2 : Int)) = true := by simp; omega
                  have d1' : decide (x.1 < y.2) = true := by simp; omega
                  have d2 : decide ((y.1 : Int) < (x.2 : Int)) = false := by simp; omega
                  have d2' : decide (y.1 < x.2) = false := by simp; omega
                  go_wp2_with fail
                  refine wp_region_mix (TpC w (some ⟨b, o, none⟩) k c3 ls) [(0, true), (1, true), (2, true), (3, true), (4, true), (5, true), (6, true), (7, true), (8, true), (9, true), (10, true), (11, true), (12, true), (13, true), (14, true), (15, true), (16, true), (17, true), (18, true), (19, true), (20, true), (21, true), (22, true), (23, true)] (by kernel_rfl) (by kernel_rfl) hC.drew fun _ => ?_
                  simp only [List.map_cons, List.map_nil, Array.getD_eq_getD_getElem?, List.getElem?_toArray, List.getElem?_cons_succ, List.getElem?_cons_zero, Option.getD_some]
                  iterate 24 (refine wpMix_s (fun K hK => ?_); go_simp; refine hK _ ?_; clear hK K)
                  refine wpMix_nil ?_
                  clear hC
                  intro hC
                  generalize wr.drew = W4 at hC ⊢
                  go_wp2_with fail
                  refine ⟨⟨u + 1, by omega, by go_num, hC⟩, by simp [intOf]; omega⟩
              · obtain rfl : u = q := by omega
                clear e1 e2
                go_wp2_with fail
                refine ⟨⟨u + 1, by omega, by go_num, ?_, ?_, hC⟩, by simp [intOf]; omega⟩
                · rw [Hwt.out]
                  first | rfl | (rw [Nat.add_zero]) | (exact congrArg _ (wrap_sum _ _ _ hx12 (by have h1 := Hwt.out; omega) (by omega)))
                · rw [Hbt.out]
                  first | rfl | (rw [Nat.add_zero]) | (exact congrArg _ (wrap_sum _ _ _ hx12 (by have h1 := Hbt.out; omega) (by omega)))
          · have d4 : decide ((x.1 : Int) < (i : Int)) = false := by simp; omega
            have d4' : decide (x.1 < i) = false := by simp; omega
            have d6 : decide ((x.2 : Int) ≤ (i : Int)) = false := by simp; omega
            have d6' : decide (x.2 ≤ i) = false := by simp; omega
            rw [if_neg (by omega)] at hwt hbt
            have hw1 : True := trivial
            have Hwt := Lib.hid hwt
            have Hbt := Lib.hid hbt
            clear hwt hbt hw1
            go_wp2_with fail
            refine wp_region_mix (TpC w (some ⟨b, o, none⟩) k c3 ls) [(0, true), (1, true), (2, true), (3, true), (4, true), (5, true), (6, true), (7, true), (8, true), (9, true), (10, true), (11, true), (12, true), (13, true), (14, true), (15, true), (16, true), (17, true), (18, true), (19, true), (20, true), (21, true), (22, true), (23, true), (24, true), (25, true), (26, true), (27, true), (28, true), (29, true), (30, true), (31, true), (32, true), (33, true), (34, true), (35, true), (36, true), (37, true), (38, true), (39, true), (40, true), (41, true), (42, true), (43, true), (44, true), (45, true)] (by kernel_rfl) (by kernel_rfl) hC.drew fun _ => ?_
            simp only [List.map_cons, List.map_nil, Array.getD_eq_getD_getElem?, List.getElem?_toArray, List.getElem?_cons_succ, List.getElem?_cons_zero, Option.getD_some]
            iterate 46 (refine wpMix_s (fun K hK => ?_); go_simp; refine hK _ ?_; clear hK K)
            refine wpMix_nil ?_
            clear hC
            intro hC
            generalize wr.drew = W1 at hC ⊢
            obtain ⟨f1, f2⟩ := hC.at_ q hlt
            rw [Hx.out] at f1 f2
            go_wp2_with fail
            clear f1 f2
            refine wp_region_mix (TpC w (some ⟨b, o, none⟩) k c3 ls) [(0, true), (1, true), (2, true), (3, true), (4, true), (5, true), (6, true), (7, true), (8, true), (9, true), (10, true), (11, true), (12, true), (13, true)] (by kernel_rfl) (by kernel_rfl) hC.drew fun _ => ?_
            simp only [List.map_cons, List.map_nil, Array.getD_eq_getD_getElem?, List.getElem?_toArray, List.getElem?_cons_succ, List.getElem?_cons_zero, Option.getD_some]
            iterate 14 (refine wpMix_s (fun K hK => ?_); go_simp; refine hK _ ?_; clear hK K)
            refine wpMix_nil ?_
            clear hC
            intro hC
            generalize W1.drew = W2 at hC ⊢
            go_wp2_with fail
            clear d1 d2 d2' d3 d3' d4 d4' d6 d6'
            go_loopw [15] (fun v wr => ∃ u : Nat, u ≤ q ∧ v = .int .i64 (u : Int) ∧ TpC w (some ⟨b, o, none⟩) k c3 ls wr) (fun v _ => q - (intOf v).toNat)
            case atStart => exact ⟨0, Nat.zero_le _, rfl, hC⟩
            case round =>
              clear hC
              obtain ⟨u, hu, rfl, hC⟩ := hrel
              by_cases huq : u < q
              · have hap := apart_getD K3.out u q huq (by rw [Hk.out]; exact hlt)
                have hey := K2.out (ls.getD u (0, 0)) (getD_mem ls u _ (by rw [Hk.out]; omega))
                have hat : ∀ s : InC (TpC w (some ⟨b, o, none⟩) k c3 ls), s.W.cell? ⟨b, o + u * 2, none⟩ = some (.int .i64 ((ls.getD u (0, 0)).1 : Int)) ∧ s.W.cell? ⟨b, o + u * 2 + 1, none⟩ = some (.int .i64 ((ls.getD u (0, 0)).2 : Int)) := fun s => s.ok.at_ u (by omega)
                obtain ⟨y, hy⟩ : ∃ y, ls.getD u (0, 0) = y := ⟨_, rfl⟩
                rw [hy] at hap hey hat
                rw [Hx.out] at hap
                have e5 := fun s => (hat s).1
                have e6 := fun s => (hat s).2
                have hum : u < k := by omega
                obtain ⟨y1, y2, -⟩ := hey
                clear hat hy
                rcases hap with hap | hap
                · have d1 : decide ((x.1 : Int) < (y.2 : Int)) = false := by simp; omega
                  have d1' : decide (x.1 < y.2) = false := by simp; omega
                  go_wp2_with fail
                  refine wp_region_mix (TpC w (some ⟨b, o, none⟩) k c3 ls) [(0, true), (1, true), (2, true), (3, true), (4, true), (5, true), (6, true), (7, true), (8, true), (9, true), (10, true), (11, true), (12, true), (13, true), (14, true), (15, true), (16, true), (17, true), (18, true), (19, true), (20, true), (21, true), (22, true), (23, true)] (by kernel_rfl) (by kernel_rfl) hC.drew fun _ => ?_
                  simp only [List.map_cons, List.map_nil, Array.getD_eq_getD_getElem?, List.getElem?_toArray, List.getElem?_cons_succ, List.getElem?_cons_zero, Option.getD_some]
                  iterate 24 (refine wpMix_s (fun K hK => ?_); go_simp; refine hK _ ?_; clear hK K)
                  refine wpMix_nil ?_
                  clear hC
                  intro hC
                  generalize wr.drew = W4 at hC ⊢
                  go_wp2_with fail
                  refine ⟨⟨u + 1, by omega, by go_num, hC⟩, by simp [intOf]; omega⟩
                · have d1 : decide ((x.1 : Int) < (y.2 : Int)) = true := by simp; omega
                  have d1' : decide (x.1 < y.2) = true := by simp; omega
                  have d2 : decide ((y.1 : Int) < (x.2 : Int)) = false := by simp; omega
                  have d2' : decide (y.1 < x.2) = false := by simp; omega
                  go_wp2_with fail
                  refine wp_region_mix (TpC w (some ⟨b, o, none⟩) k c3 ls) [(0, true), (1, true), (2, true), (3, true), (4, true), (5, true), (6, true), (7, true), (8, true), (9, true), (10, true), (11, true), (12, true), (13, true), (14, true), (15, true), (16, true), (17, true), (18, true), (19, true), (20, true), (21, true), (22, true), (23, true)] (by kernel_rfl) (by kernel_rfl) hC.drew fun _ => ?_
                  simp only [List.map_cons, List.map_nil, Array.getD_eq_getD_getElem?, List.getElem?_toArray, List.getElem?_cons_succ, List.getElem?_cons_zero, Option.getD_some]
                  iterate 24 (refine wpMix_s (fun K hK => ?_); go_simp; refine hK _ ?_; clear hK K)
                  refine wpMix_nil ?_
                  clear hC
                  intro hC
                  generalize wr.drew = W4 at hC ⊢
                  go_wp2_with fail
                  refine ⟨⟨u + 1, by omega, by go_num, hC⟩, by simp [intOf]; omega⟩
              · obtain rfl : u = q := by omega
                clear e1 e2
                go_wp2_with fail
                refine ⟨⟨u + 1, by omega, by go_num, ?_, ?_, hC⟩, by simp [intOf]; omega⟩
                · rw [Hwt.out]
                  first | rfl | (rw [Nat.add_zero]) | (exact congrArg _ (wrap_sum _ _ _ hx12 (by have h1 := Hwt.out; omega) (by omega)))
                · rw [Hbt.out]
                  first | rfl | (rw [Nat.add_zero]) | (exact congrArg _ (wrap_sum _ _ _ hx12 (by have h1 := Hbt.out; omega) (by omega)))
        · obtain rfl : q = k := by omega
          have hall : ls.take q = ls := List.take_of_length_le (by rw [Hk.out]; exact Nat.le_refl _)
          rw [hall]
          have hB := hC.bel
          clear hall hC
          have k4 := K4.out
          clear K4
          rcases k4 with ⟨h0, rfl⟩ | ⟨h1, h2, h3⟩
          · subst h0
            have hq0 : q = 0 := by rw [← Hk.out]; rfl
            subst hq0
            clear K2 K3
            go_wp2_with (go_at_call 15; refine (known9_any _).mono ?_; rintro e w4 ⟨rfl, hb4⟩)
            go_ret
            exact ⟨rfl, hB.trans (hb4.mono hB.size)⟩
          · have H3 := Lib.hid h3
            clear h3
            have z0 : ((i : Int) == 0) = false := by simp; omega
            rw [h2]
            have z1 : (((pt - i : Nat) : Int) == (pt : Int) - (i : Int)) = true := by simp; omega
            have h3 := H3.out
            clear H3
            rcases h3 with h3 | ⟨h3, j, hj⟩
            · rw [h3]
              have z2 : ((i : Int) == (i : Int)) = true := by simp
              clear h1 h2 h3
              go_wp2_with (go_at_call 15; refine (known9_any _).mono ?_; rintro e w4 ⟨rfl, hb4⟩)
              go_ret
              exact ⟨rfl, hB.trans (hb4.mono hB.size)⟩
            · rw [h3]
              have z3 := and_pred_zero i j hj h1 hi63
              clear hj
              have z2 : ((0 : Int) == (i : Int)) = false := by simp; omega
              have z4 : IntKind.i64.wrap ((i : Int) - 1) = (i : Int) - 1 := IntWalk.i64_in _ (by omega)
              have hi1 : 1 ≤ i := h1
              clear h1 h2 h3
              go_wp2_with (go_at_call 15; refine (known9_any _).mono ?_; rintro e w4 ⟨rfl, hb4⟩)
              go_ret
              exact ⟨rfl, hB.trans (hb4.mono hB.size)⟩
theorem treepaths_any (i n : Int) (w : World) (hn : n ≤ 9223372036854775807) :
    Calls Try.prog 3 #[.int .i64 i, .int .i64 n] w fun e w' => e = .returned (.bool true) ∧ Below w.heap.size w w' := by
  by_cases h : i < 0 ∨ n ≤ i
  · exact treepaths_bad i n w h
  · obtain ⟨a, rfl⟩ : ∃ a : Nat, i = (a : Int) := ⟨i.toNat, by omega⟩
    obtain ⟨b, rfl⟩ : ∃ b : Nat, n = (b : Int) := ⟨n.toNat, by omega⟩
    exact treepaths_ok a b w (by omega) (by omega)
end Go.Proofs.Ytgcbdnoniikboaa
