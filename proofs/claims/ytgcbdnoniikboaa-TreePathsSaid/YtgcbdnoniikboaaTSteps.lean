/- tree.Steps and the function within it. -/
import Derived.Test.YtgcbdnoniikboaaTPath
namespace Go.Proofs.Ytgcbdnoniikboaa
open Go Go.RowKit

/-- what is known within Steps: the number, the function, what has been told -/
structure DnC (w : World) (M : Nat) (v : Value) (os : List (Nat × Nat)) (W : World) : Prop where
  bm : Blk W w.heap.size 2 #[.int .i64 (M : Int)]
  bo : Blk W (w.heap.size + 1) 22 #[v]
  bd : Blk W (w.heap.size + 1 + 1) 96 #[.func (.func 57) #[] #[.pointer (some ⟨w.heap.size, 0, none⟩), .pointer (some ⟨w.heap.size + 1, 0, none⟩), .pointer (some ⟨w.heap.size + 1 + 1, 0, none⟩)]]
  own : W.ownsRow (w.heap.size + 1 + 1 + 1) 29 2 v os.length (rcells (natR os))
  bel : Below w.heap.size w W
/-- one stretch more is told -/
theorem DnC.app {w W : World} {M : Nat} {v : Value} {os : List (Nat × Nat)} (h : DnC w M v os W) (x : Nat × Nat) (hl : os.length ≤ 1000) :
    ∃ A' m' c' w', (Builtin.append_ #[22, 22] 22 #[v, .slice (some ⟨W.heap.size, 0, none⟩) 1 1]).run Try.prog (W.alloc (.cells #[.int .i64 (x.1 : Int), .int .i64 (x.2 : Int)] 29)) = .ok (.slice A' m' c') w' ∧
      w'.cell? ⟨w.heap.size + 1, 0, none⟩ = some v ∧ w'.frozen? ⟨w.heap.size + 1, 0, none⟩ = false ∧ DnC w M (.slice A' m' c') (os ++ [x]) (w'.setCell ⟨w.heap.size + 1, 0, none⟩ (.slice A' m' c')) := by
  have hlt : w.heap.size + 1 + 1 < W.heap.size := h.bd.lt
  obtain ⟨v', w', hr, ho, hg, hf⟩ := append_r h.own ((x.1 : Int), (x.2 : Int)) (by omega) (by omega)
  rw [show natR os ++ [((x.1 : Int), (x.2 : Int))] = natR (os ++ [x]) by rw [natR_append]; rfl, show os.length + 1 = (os ++ [x]).length by simp] at ho
  have hne : ∀ g, g < w.heap.size + 1 + 1 + 1 → some g ≠ v.ownBlock := fun g hg e => by have := (h.own.lt g e.symm).1; omega
  have bo' := h.bo.grown hg (hne _ (by omega))
  have hne' : ∀ g, g < w.heap.size + 1 + 1 + 1 → some g ≠ v'.ownBlock := fun g hg e => by have := (ho.lt g e.symm).1; omega
  have bel' := h.bel.grown hg h.bel.size (fun k hk => by have := (h.own.lt k hk).1; omega)
  obtain ⟨A', c', rfl, -⟩ := owns_slv ho
  refine ⟨A', _, c', w', hr, by rw [bo'.cell]; rfl, bo'.frozen 0, ⟨(h.bm.grown hg (hne _ (by omega))).apart (by omega) _, bo'.set_ 0 _, (h.bd.grown hg (hne _ (by omega))).apart (by omega) _, ?_, bel'.setCell (by show w.heap.size ≤ w.heap.size + 1; omega) _⟩⟩
  exact ho.kept (grown_setCell (w := w') (w' := w') (g := w.heap.size + 1) ⟨rfl, rfl, rfl, Nat.le_refl _, fun _ _ _ => rfl⟩ 0 _) (.inr (hne' _ (by omega)).symm)

set_option maxHeartbeats 2000000 in
set_option maxRecDepth 100000 in
theorem down_any (w : World) (M : Nat) (d : Nat) : ∀ (a t : Nat) (whole : Bool) (v : Value) (os : List (Nat × Nat)) (W : World), t - a ≤ d → a < M → M ≤ t → t ≤ 9223372036854775807 → os.length + (stepsL (M - a) a (t - a) whole).length ≤ 1000 → DnC w M v os W →
    Calls Try.prog 57 #[.int .i64 (a : Int), .int .i64 (t : Int), .bool whole, .pointer (some ⟨w.heap.size, 0, none⟩), .pointer (some ⟨w.heap.size + 1, 0, none⟩), .pointer (some ⟨w.heap.size + 1 + 1, 0, none⟩)] W
      fun e W' => (∃ r, e = .returned r) ∧ ∃ v', DnC w M v' (os ++ stepsL (M - a) a (t - a) whole) W' := by
  induction d with
  | zero => intro a t whole v os W h h1 h2; omega
  | succ d ih =>
    intro a t whole v os W hd ha hM ht hl hC
    have c2 : W.cell? ⟨w.heap.size, 0, none⟩ = some (.int .i64 (M : Int)) := by rw [hC.bm.cell]; rfl
    have c3 : W.cell? ⟨w.heap.size + 1, 0, none⟩ = some v := by rw [hC.bo.cell]; rfl
    have c4 : W.cell? ⟨w.heap.size + 1 + 1, 0, none⟩ = some (.func (.func 57) #[] #[.pointer (some ⟨w.heap.size, 0, none⟩), .pointer (some ⟨w.heap.size + 1, 0, none⟩), .pointer (some ⟨w.heap.size + 1 + 1, 0, none⟩)]) := by rw [hC.bd.cell]; rfl
    have hspl := fun w => tsplit_any ((t : Int) - (a : Int)) w (by omega)
    rw [show ((t : Int) - (a : Int)).toNat = t - a by omega] at hspl
    have hta : a + (t - a) = t := by omega
    by_cases hMt : M = t
    · subst hMt
      have hsle := splitN_le (M - a)
      obtain ⟨s, hs⟩ : ∃ s, splitN (M - a) = s := ⟨_, rfl⟩
      rw [hs] at hspl hsle
      have Hspl := Lib.hid hspl
      clear hspl hs
      have hst := stepsL_eq (M - a) a whole (by omega)
      rw [hta] at hst
      have hst' := hst
      have hsp0 : s ≤ M - a := hsle
      have Hst := Lib.hid hst
      clear hst hta hst'
      cases whole with
      | true =>
        go_enter Try.func57, Try.ntmps57
        go_wp2_with (go_at_call 25; refine (Hspl.out _).mono ?_; rintro e w2 ⟨rfl, rfl⟩)
        go_end0
        exact ⟨⟨_, rfl⟩, v, by rw [Hst.out]; simpa using hC⟩
      | false =>
        obtain ⟨A', m', c', w', hr, g1, g2, hC'⟩ := hC.app (a, M) (by omega)
        have Hr := Lib.hid hr
        clear hr
        go_enter Try.func57, Try.ntmps57
        go_wp2_with (first
          | (go_at_call 25; refine (Hspl.out _).mono ?_; rintro e w2 ⟨rfl, rfl⟩)
          | ((with_reducible show wpList _ _ _ (⟨some 37, .call _, _, _, _, _⟩ :: _) _ _); refine wpList_run rfl _ w' (run_append_op (.tmp 32) (.tmp 36) 22 rfl _ _ rfl rfl Hr.out) ?_; simp only [Act.put]))
        go_end0
        exact ⟨⟨_, rfl⟩, _, by rw [Hst.out]; exact hC'⟩
    · have hsl := splitN_lt (t - a) (by omega)
      have hsp := splitN_pos (t - a) (by omega)
      have hleft := stepsL_left (M - a) a (t - a) whole (by omega) (by omega)
      have hright := stepsL_right (M - a) a (t - a) whole (by omega) (by omega)
      rw [hta] at hleft
      have hbe : ((M : Int) == (t : Int)) = false := by simp; omega
      obtain ⟨s, hs⟩ : ∃ s, splitN (t - a) = s := ⟨_, rfl⟩
      rw [hs] at hspl hsl hsp hleft hright
      have Hspl := Lib.hid hspl
      clear hspl hs hta hMt
      by_cases hk : M ≤ a + s
      · have hst := hleft (by omega)
        rw [hst, List.length_append, List.length_singleton] at hl
        have hih := ih a (a + s) whole v os W (by omega) ha hk (by omega) (by rw [show a + s - a = s by omega]; omega) hC
        rw [show a + s - a = s by omega, show ((a + s : Nat) : Int) = (a : Int) + (s : Int) by omega] at hih
        have hd2 : decide ((M : Int) ≤ (a : Int) + (s : Int)) = true := by simp; omega
        have Hst := Lib.hid hst
        have Hih := Lib.hid hih
        clear hst hih hleft hright ih hC
        go_enter Try.func57, Try.ntmps57
        go_wp2_with (go_at_call 25; refine (Hspl.out _).mono ?_; rintro e w2 ⟨rfl, rfl⟩)
        refine Hih.out.mono ?_
        rintro e W2 ⟨⟨r, rfl⟩, v2, hC2⟩
        obtain ⟨A', m', c', w', hr, g1, g2, hC'⟩ := hC2.app (a + s, t) (by rw [List.length_append]; omega)
        rw [show ((a + s : Nat) : Int) = (a : Int) + (s : Int) by omega] at hr
        have c5 : W2.cell? ⟨w.heap.size + 1, 0, none⟩ = some v2 := by rw [hC2.bo.cell]; rfl
        rw [List.append_assoc, ← Hst.out] at hC'
        have Hr := Lib.hid hr
        clear hr c2 c3 c4 Hih
        go_wp2_with ((with_reducible show wpList _ _ _ (⟨some 52, .call _, _, _, _, _⟩ :: _) _ _); refine wpList_run rfl _ w' (run_append_op (.tmp 47) (.tmp 51) 22 rfl _ _ rfl rfl Hr.out) ?_; simp only [Act.put])
        go_end0
        exact ⟨⟨_, rfl⟩, _, hC'⟩
      · have hst := hright (by omega)
        rw [hst, List.length_append, List.length_singleton] at hl
        have hih := ih (a + s) t false v os W (by omega) (by omega) hM ht (by rw [show M - (a + s) = M - a - s by omega, show t - (a + s) = t - a - s by omega]; omega) hC
        rw [show M - (a + s) = M - a - s by omega, show t - (a + s) = t - a - s by omega, show ((a + s : Nat) : Int) = (a : Int) + (s : Int) by omega] at hih
        have hd2 : decide ((M : Int) ≤ (a : Int) + (s : Int)) = false := by simp; omega
        have Hst := Lib.hid hst
        have Hih := Lib.hid hih
        clear hst hih hleft hright ih hC
        go_enter Try.func57, Try.ntmps57
        go_wp2_with (go_at_call 25; refine (Hspl.out _).mono ?_; rintro e w2 ⟨rfl, rfl⟩)
        refine Hih.out.mono ?_
        rintro e W2 ⟨⟨r, rfl⟩, v2, hC2⟩
        obtain ⟨A', m', c', w', hr, g1, g2, hC'⟩ := hC2.app (a, a + s) (by rw [List.length_append]; omega)
        rw [show ((a + s : Nat) : Int) = (a : Int) + (s : Int) by omega] at hr
        have c5 : W2.cell? ⟨w.heap.size + 1, 0, none⟩ = some v2 := by rw [hC2.bo.cell]; rfl
        rw [List.append_assoc, ← Hst.out] at hC'
        have Hr := Lib.hid hr
        clear hr c2 c3 c4 Hih
        go_wp2_with ((with_reducible show wpList _ _ _ (⟨some 25, .call _, _, _, _, _⟩ :: _) _ _); refine wpList_run rfl _ w' (run_append_op (.tmp 20) (.tmp 24) 22 rfl _ _ rfl rfl Hr.out) ?_; simp only [Act.put])
        go_end0
        exact ⟨⟨_, rfl⟩, _, hC'⟩
end Go.Proofs.Ytgcbdnoniikboaa
