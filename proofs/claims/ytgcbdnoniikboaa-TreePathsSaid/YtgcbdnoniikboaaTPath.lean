/- tree.Path. -/
import Derived.Test.YtgcbdnoniikboaaTRev
import Derived.Test.YtgcbdnoniikboaaTree1
import Derived.Test.YtgcbdnoniikboaaTPaths
namespace Go.Proofs.Ytgcbdnoniikboaa
open Go Go.RowKit

theorem natR_append (a b : List (Nat × Nat)) : natR (a ++ b) = natR a ++ natR b := by simp [natR]
theorem natR_length (a : List (Nat × Nat)) : (natR a).length = a.length := by simp [natR]

/-- where a number is no entry's -/
theorem tpath_bad (i n : Int) (w : World) (h : i < 0 ∨ n ≤ i) :
    Calls Try.prog 14 #[.int .i64 i, .int .i64 n] w fun e w' => e = .returned (.tuple #[.slice none 0 0, .int .i64 4]) ∧ w = w' := by
  by_cases h0 : i < 0
  · go_enter Try.func14, Try.ntmps14
    go_wp2_with fail
    go_ret2
    exact ⟨rfl, rfl⟩
  · have h1 : decide (n ≤ i) = true := by simp; omega
    have h0' : decide (i < 0) = false := by simp; omega
    go_enter Try.func14, Try.ntmps14
    go_wp2_with fail
    go_ret2
    exact ⟨rfl, rfl⟩

structure PtC (w : World) (os : List (Nat × Nat)) (v : Value) (W : World) : Prop where
  own : W.ownsRow w.heap.size 29 2 v os.length (rcells (natR os))
  bel : Below w.heap.size w W

set_option maxHeartbeats 2000000 in
set_option maxRecDepth 100000 in
theorem tpath_ok (i n : Nat) (w : World) (hi : i < n) (hn : n ≤ 9223372036854775807) :
    Calls Try.prog 14 #[.int .i64 (i : Int), .int .i64 (n : Int)] w fun e w' => ∃ v, e = .returned (.tuple #[v, .int .i64 0]) ∧ w'.ownsRow w.heap.size 29 2 v (pathL i 0 n).length (rcells (natR (pathL i 0 n))) ∧ Below w.heap.size w w' := by
  obtain ⟨p, hp⟩ : ∃ p, pathL i 0 n = p := ⟨_, rfl⟩
  have hpl : p.length ≤ 63 := by rw [← hp]; exact pathL_len 63 i 0 n (by omega)
  rw [hp]
  have Hp := Lib.hid hp
  clear hp
  have h0 : decide ((i : Int) < 0) = false := by simp
  have h1 : decide ((n : Int) ≤ (i : Int)) = false := by simp; omega
  have h1' : decide (n ≤ i) = false := by simp; omega
  go_enter Try.func14, Try.ntmps14
  go_wp2_with fail
  clear h0 h1 h1'
  go_loopw [6, 7, 8] (fun o f t wr => ∃ (a b : Nat) (v : Value) (os : List (Nat × Nat)), f = .int .i64 (a : Int) ∧ t = .int .i64 (b : Int) ∧ v = o ∧ a ≤ i ∧ i < b ∧ b ≤ n ∧ pathL i a b ++ os.reverse = p ∧ PtC w os v wr) (fun _ f t => fun _ => (intOf t - intOf f).toNat)
  case atStart => exact ⟨0, n, _, [], rfl, rfl, rfl, Nat.zero_le _, hi, Nat.le_refl _, by simpa using Hp.out, World.ownsRow_nil _ _ _ _, Below.refl _ _⟩
  case round =>
    obtain ⟨a, b, v, os, rfl, rfl, rfl, ha, hib, hbn, hpa, hC⟩ := hrel
    have hol : os.length ≤ 63 := by have := congrArg List.length hpa; rw [List.length_append, List.length_reverse] at this; omega
    by_cases hgt : 1 < b - a
    · have hd : decide ((1 : Int) < (b : Int) - (a : Int)) = true := by simp; omega
      have hsl := splitN_lt (b - a) (by omega)
      have hsp := splitN_pos (b - a) (by omega)
      have hpl' := pathL_left i a b (by omega)
      have hpr' := pathL_right i a b (by omega)
      have hspl := fun w => tsplit_any ((b : Int) - (a : Int)) w (by omega)
      rw [show ((b : Int) - (a : Int)).toNat = b - a by omega] at hspl
      obtain ⟨s, hs⟩ : ∃ s, splitN (b - a) = s := ⟨_, rfl⟩
      rw [hs] at hsl hsp hpl' hpr' hspl
      have Hpl := Lib.hid hpl'
      have Hpr := Lib.hid hpr'
      have Hspl := Lib.hid hspl
      have Hpa := Lib.hid hpa
      clear hs hpl' hpr' hspl hpa
      by_cases hlt : i < a + s
      · have hd2 : decide ((i : Int) < (a : Int) + (s : Int)) = true := by simp; omega
        obtain ⟨v', w', hr, ho, hg, -⟩ := append_r hC.own (((a + s : Nat) : Int), (b : Int)) (by omega) hC.bel.size
        rw [show natR os ++ [(((a + s : Nat) : Int), (b : Int))] = natR (os ++ [(a + s, b)]) by rw [natR_append]; rfl] at ho
        rw [show os.length + 1 = (os ++ [(a + s, b)]).length by simp] at ho
        rw [show ((a + s : Nat) : Int) = (a : Int) + (s : Int) by omega] at hr
        have hC2 : PtC w (os ++ [(a + s, b)]) v' w' := ⟨ho, hC.bel.grown hg hC.bel.size (fun k hk => (hC.own.lt k hk).1)⟩
        have Hr := Lib.hid hr
        clear hr ho hg hC
        go_wp2_with (first
          | (go_at_call 25; refine (Hspl.out _).mono ?_; rintro e w2 ⟨rfl, rfl⟩)
          | ((with_reducible show wpList _ _ _ (⟨some 36, .call _, _, _, _, _⟩ :: _) _ _); refine wpList_run rfl v' w' (run_append_op (.tmp 31) (.tmp 35) 22 rfl _ _ rfl rfl Hr.out) ?_; simp only [Act.put]))
        refine ⟨⟨a, a + s, v', os ++ [(a + s, b)], rfl, by go_num, rfl, ha, hlt, by omega, ?_, hC2⟩, ?_⟩
        · rw [← Hpa.out, Hpl.out hlt]; simp
        · simp [intOf]; omega
      · have hd2 : decide ((i : Int) < (a : Int) + (s : Int)) = false := by simp; omega
        obtain ⟨v', w', hr, ho, hg, -⟩ := append_r hC.own ((a : Int), ((a + s : Nat) : Int)) (by omega) hC.bel.size
        rw [show natR os ++ [((a : Int), ((a + s : Nat) : Int))] = natR (os ++ [(a, a + s)]) by rw [natR_append]; rfl] at ho
        rw [show os.length + 1 = (os ++ [(a, a + s)]).length by simp] at ho
        rw [show ((a + s : Nat) : Int) = (a : Int) + (s : Int) by omega] at hr
        have hC2 : PtC w (os ++ [(a, a + s)]) v' w' := ⟨ho, hC.bel.grown hg hC.bel.size (fun k hk => (hC.own.lt k hk).1)⟩
        have Hr := Lib.hid hr
        clear hr ho hg hC
        go_wp2_with (first
          | (go_at_call 25; refine (Hspl.out _).mono ?_; rintro e w2 ⟨rfl, rfl⟩)
          | ((with_reducible show wpList _ _ _ (⟨some 43, .call _, _, _, _, _⟩ :: _) _ _); refine wpList_run rfl v' w' (run_append_op (.tmp 38) (.tmp 42) 22 rfl _ _ rfl rfl Hr.out) ?_; simp only [Act.put]))
        refine ⟨⟨a + s, b, v', os ++ [(a, a + s)], by go_num, rfl, rfl, by omega, hib, hbn, ?_, hC2⟩, ?_⟩
        · rw [← Hpa.out, Hpr.out hlt]; simp
        · simp [intOf]; omega
    · have hd : decide ((1 : Int) < (b : Int) - (a : Int)) = false := by simp; omega
      have hos : os.reverse = p := by rw [← hpa, pathL_small i a b (by omega)]; rfl
      have hol2 : os.length = p.length := by rw [← hos, List.length_reverse]
      have hrev := rev_any (natR os) v os.length w.heap.size wr hC.own (natR_length os) (by omega)
      rw [show (natR os).reverse = natR p by rw [← hos]; simp [natR], hol2] at hrev
      have Hrev := Lib.hid hrev
      clear hos hpa hrev
      go_wp2_with fail
      refine Hrev.out.mono ?_
      rintro e w2 ⟨⟨r, rfl⟩, ho2, hg2⟩
      have hb2 := hC.bel.grown hg2 hC.bel.size (fun k hk => (hC.own.lt k hk).1)
      clear hol2
      go_wp2_with fail
      go_ret2
      exact ⟨_, rfl, ho2, hb2⟩
end Go.Proofs.Ytgcbdnoniikboaa
