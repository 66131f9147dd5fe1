/- notaryref09.SameRanges, SameHashes: where two lists are alike. -/
import Derived.Test.YtgcbdnoniikboaaQe20
import Derived.Test.YtgcbdnoniikboaaQe10
import Derived.Laws.EntriesVeiled
import Derived.Test.YtgcbdnoniikboaaQe12
import Derived.Test.YtgcbdnoniikboaaQe13
namespace Go.Proofs.Ytgcbdnoniikboaa
open Go Go.RowKit

theorem underR : Try.prog.underlying 29 = some (.struct (Try.prog.fieldsOf 29)) := by kernel_rfl
theorem heldR : Try.prog.stoodInHeld 29 = false := by kernel_rfl
theorem guardR : Try.prog.eqGuardType Try.prog.depth 29 = false := by kernel_rfl
theorem run_neqR (a b c d : Int) (W : World) : (binOp .neq 29 (.agg #[.int .i64 a, .int .i64 b]) (.agg #[.int .i64 c, .int .i64 d])).run Try.prog W = .ok (.bool (!(a == c && b == d))) W := by
  have hf : (Try.prog.fieldsOf 29).toList = [{ name := "From", type := 2, offset := 0, embedded := false, tag := "", pkgPath := "", byteOffset := 0 }, { name := "To", type := 2, offset := 1, embedded := false, tag := "", pkgPath := "", byteOffset := 8 }] := by kernel_rfl
  rw [run_neq_struct, run_equalIn_agg W 9999 _ _ _ underR heldR, hf]
  simp [go_sem, part, Op.eqFields]
  by_cases h1 : a = c <;> by_cases h2 : b = d <;> simp [h1, h2]
theorem run_neqR_f {ρ : Operand → Value} {o : Oper} (x y : Operand) (ty : TypeId) (a b : Int) (ho : o.op = .binOp .neq 29 x y ty) (hx : ρ x = .agg #[.int .i64 a, .int .i64 b]) (hy : ρ y = .agg #[.int .i64 a, .int .i64 b]) (W : World) :
    (execOp ρ o).run Try.prog W = .ok (.value (.bool false)) W := by
  unfold execOp
  simp only [ho, hx, hy, run_eqGuard_agg W .neq 29 x y _ _ guardR, Sem.run_bind, Sem.run_pure, run_neqR, Result.andThen_ok]
  simp

structure SrC (w : World) (A A' : Option Addr) (n c c' : Nat) (l : List (Int × Int)) (W : World) : Prop where
  h1 : Rs W (fun _ => True) A n c l
  h2 : Rs W (fun _ => True) A' n c' l
  bel : Below w.heap.size w W
theorem SrC.drew {w W : World} {A A' : Option Addr} {n c c' : Nat} {l : List (Int × Int)} (h : SrC w A A' n c c' l W) : SrC w A A' n c c' l W.drew := ⟨h.h1.drew, h.h2.drew, h.bel.drew⟩

set_option maxHeartbeats 1000000 in
set_option maxRecDepth 100000 in
theorem samer_any (l : List (Int × Int)) (A A' : Option Addr) (n c c' : Nat) (w : World) (h1 : Rs w (fun _ => True) A n c l) (h2 : Rs w (fun _ => True) A' n c' l) (hn : n ≤ 4398046511104) :
    Calls Try.prog 27 #[.slice A n c, .slice A' n c'] w fun e w' => e = .returned (.bool true) ∧ Below w.heap.size w w' := by
  have hC0 : SrC w A A' n c c' l w := ⟨h1, h2, Below.refl _ _⟩
  clear h1 h2
  go_enter Try.func27, Try.ntmps27
  go_wp2_with fail
  go_loopw [5] (fun v wr => ∃ (q : Nat), q ≤ n ∧ v = .int .i64 q ∧ SrC w A A' n c c' l wr) (fun v _ => n - (intOf v).toNat)
  case atStart => exact ⟨0, by omega, rfl, hC0⟩
  case round =>
    clear hC0
    obtain ⟨q, hq, rfl, hC⟩ := hrel
    by_cases hlq : q < n
    · obtain ⟨b1, o1, hA1, -, -, -⟩ := hC.h1.at_ (by omega)
      obtain ⟨b2, o2, hA2, -, -, -⟩ := hC.h2.at_ (by omega)
      subst hA1 hA2
      obtain ⟨x, hx⟩ : ∃ x, l.getD q (0, 0) = x := ⟨_, rfl⟩
      have l1 : ∀ s : InC (SrC w (some ⟨b1, o1, none⟩) (some ⟨b2, o2, none⟩) n c c' l), (Instr.loadAt 29 (.pointer (some ⟨b1, o1 + q * 2, none⟩))).run Try.prog s.W = .ok (.agg #[.int .i64 x.1, .int .i64 x.2]) s.W := fun s => by
        rw [← hx]; exact s.ok.h1.load rfl q hlq
      have l2 : ∀ s : InC (SrC w (some ⟨b1, o1, none⟩) (some ⟨b2, o2, none⟩) n c c' l), (Instr.loadAt 29 (.pointer (some ⟨b2, o2 + q * 2, none⟩))).run Try.prog s.W = .ok (.agg #[.int .i64 x.1, .int .i64 x.2]) s.W := fun s => by
        rw [← hx]; exact s.ok.h2.load rfl q hlq
      have Hl1 := Lib.hid l1
      have Hl2 := Lib.hid l2
      clear hx l1 l2
      go_upto_region 6 with fail
      refine wp_region_mix (SrC w (some ⟨b1, o1, none⟩) (some ⟨b2, o2, none⟩) n c c' l) [(0, true), (1, true), (2, true), (3, true), (4, true), (5, true), (6, true), (7, true), (8, true)] (by kernel_rfl) (by kernel_rfl) hC.drew fun _ => ?_
      simp only [List.map_cons, List.map_nil, Array.getD_eq_getD_getElem?, List.getElem?_toArray, List.getElem?_cons_succ, List.getElem?_cons_zero, Option.getD_some]
      iterate 3 (refine wpMix_s (fun K hK => ?_); go_simp; refine hK _ ?_; clear hK K)
      refine wpMix_load (by kernel_rfl) 29 (.tmp 19) rfl b1 (o1 + q * 2) rfl #[.int .i64 x.1, .int .i64 x.2] Hl1.out ?_
      simp only [Act.put]
      iterate 3 (refine wpMix_s (fun K hK => ?_); go_simp; refine hK _ ?_; clear hK K)
      refine wpMix_load (by kernel_rfl) 29 (.tmp 23) rfl b2 (o2 + q * 2) rfl #[.int .i64 x.1, .int .i64 x.2] Hl2.out ?_
      simp only [Act.put]
      refine wpMix_v (by kernel_rfl) (.bool false) (fun s => run_neqR_f (.tmp 20) (.tmp 24) _ x.1 x.2 rfl rfl rfl s.W) ?_
      simp only [Act.put]
      refine wpMix_nil ?_
      intro hC1
      generalize wr.drew = W1 at hC1 ⊢
      go_wp2_with fail
      refine ⟨⟨q + 1, by omega, by go_num, hC1⟩, by simp [intOf]; omega⟩
    · have hqn : q = n := by omega
      subst hqn
      go_wp2_with fail
      go_ret
      exact ⟨rfl, hC.bel⟩

structure SmC (w : World) (A A' : Option Addr) (n c c' : Nat) (hs : List (List UInt8)) (W : World) : Prop where
  h1 : Hs W (fun _ => True) A n c hs
  h2 : Hs W (fun _ => True) A' n c' hs
  bel : Below w.heap.size w W
theorem SmC.drew {w W : World} {A A' : Option Addr} {n c c' : Nat} {hs : List (List UInt8)} (h : SmC w A A' n c c' hs W) : SmC w A A' n c c' hs W.drew := ⟨h.h1.drew, h.h2.drew, h.bel.drew⟩

set_option maxHeartbeats 1000000 in
set_option maxRecDepth 100000 in
theorem sameh_any (hs : List (List UInt8)) (A A' : Option Addr) (n c c' : Nat) (w : World) (h1 : Hs w (fun _ => True) A n c hs) (h2 : Hs w (fun _ => True) A' n c' hs) (hn : n ≤ 4398046511104) :
    Calls Try.prog 44 #[.slice A n c, .slice A' n c'] w fun e w' => e = .returned (.bool true) ∧ Below w.heap.size w w' := by
  have hlen := h1.len
  have hc1 := h1.sl.room
  have hc2 := h2.sl.room
  have hC0 : SmC w A A' n c c' hs w := ⟨h1, h2, Below.refl _ _⟩
  clear h1 h2
  have Hlen := Lib.hid hlen
  clear hlen
  go_enter Try.func44, Try.ntmps44
  go_wp2_with fail
  go_loopw [5] (fun v wr => ∃ (q : Nat), q ≤ n ∧ v = .int .i64 q ∧ SmC w A A' n c c' hs wr) (fun v _ => n - (intOf v).toNat)
  case atStart => exact ⟨0, by omega, rfl, hC0⟩
  case round =>
    clear hC0
    obtain ⟨q, hq, rfl, hC⟩ := hrel
    by_cases hlq : q < n
    · obtain ⟨b1, o1, hA1, -, -, -⟩ := hC.h1.at_ (by omega)
      obtain ⟨b2, o2, hA2, -, -, -⟩ := hC.h2.at_ (by omega)
      subst hA1 hA2
      obtain ⟨x, hx⟩ : ∃ x, hs.getD q [] = x := ⟨_, rfl⟩
      have hxl : x.length = 32 := by rw [← hx]; exact hC.h1.all.getD q (by rw [Hlen.out]; exact hlq)
      have l1 : ∀ s : InC (SmC w (some ⟨b1, o1, none⟩) (some ⟨b2, o2, none⟩) n c c' hs), (Instr.loadAt 34 (.pointer (some ⟨b1, o1 + q * 32, none⟩))).run Try.prog s.W = .ok (.agg (x.map B).toArray) s.W := fun s => by
        obtain ⟨b, o, hA, -, -, hld⟩ := s.ok.h1.at_ (by omega)
        cases hA
        rw [← hx]; exact hld q hlq
      have l2 : ∀ s : InC (SmC w (some ⟨b1, o1, none⟩) (some ⟨b2, o2, none⟩) n c c' hs), (Instr.loadAt 34 (.pointer (some ⟨b2, o2 + q * 32, none⟩))).run Try.prog s.W = .ok (.agg (x.map B).toArray) s.W := fun s => by
        obtain ⟨b, o, hA, -, -, hld⟩ := s.ok.h2.at_ (by omega)
        cases hA
        rw [← hx]; exact hld q hlq
      have Hx := Lib.hid hx
      have Hxl := Lib.hid hxl
      have Hl1 := Lib.hid l1
      have Hl2 := Lib.hid l2
      clear hx hxl l1 l2
      go_upto_region 6 with fail
      refine wp_region_mix (SmC w (some ⟨b1, o1, none⟩) (some ⟨b2, o2, none⟩) n c c' hs) [(0, true), (1, true), (2, true), (3, true), (4, true), (5, true), (6, true), (7, true), (8, true)] (by kernel_rfl) (by kernel_rfl) hC.drew fun _ => ?_
      simp only [List.map_cons, List.map_nil, Array.getD_eq_getD_getElem?, List.getElem?_toArray, List.getElem?_cons_succ, List.getElem?_cons_zero, Option.getD_some]
      iterate 3 (refine wpMix_s (fun K hK => ?_); go_simp; refine hK _ ?_; clear hK K)
      refine wpMix_load (by kernel_rfl) 34 (.tmp 19) rfl b1 (o1 + q * 32) rfl (x.map B).toArray Hl1.out ?_
      simp only [Act.put]
      iterate 3 (refine wpMix_s (fun K hK => ?_); go_simp; refine hK _ ?_; clear hK K)
      refine wpMix_load (by kernel_rfl) 34 (.tmp 23) rfl b2 (o2 + q * 32) rfl (x.map B).toArray Hl2.out ?_
      simp only [Act.put]
      refine wpMix_v (by kernel_rfl) (.bool false) (fun s => run_neq26_f (.tmp 20) (.tmp 24) _ x x rfl rfl rfl Hxl.out Hxl.out rfl s.W) ?_
      simp only [Act.put]
      refine wpMix_nil ?_
      intro hC1
      generalize wr.drew = W1 at hC1 ⊢
      go_wp2_with fail
      refine ⟨⟨q + 1, by omega, by go_num, hC1⟩, by simp [intOf]; omega⟩
    · have hqn : q = n := by omega
      subst hqn
      go_wp2_with fail
      go_ret
      exact ⟨rfl, hC.bel⟩
end Go.Proofs.Ytgcbdnoniikboaa
/- tree.Steps and the function within it. -/
namespace Go.Proofs.Ytgcbdnoniikboaa
open Go Go.RowKit

/-- what is known within Steps: the number, the function, what has been told -/
structure DnC (w : World) (M : Nat) (v : Value) (os : List (Nat × Nat)) (W : World) : Prop where
  bm : Blk W w.heap.size 2 #[.int .i64 (M : Int)]
  bo : Blk W (w.heap.size + 1) 22 #[v]
  bd : Blk W (w.heap.size + 1 + 1) 96 #[.func (.func 57) #[] #[.pointer (some ⟨w.heap.size, 0, none⟩), .pointer (some ⟨w.heap.size + 1, 0, none⟩), .pointer (some ⟨w.heap.size + 1 + 1, 0, none⟩)]]
  own : W.ownsRow (w.heap.size + 1 + 1 + 1) 29 2 v os.length (rcells (natR os))
  bel : Below w.heap.size w W
/-- one stretch more is told -/
theorem DnC.app {w W : World} {M : Nat} {v : Value} {os : List (Nat × Nat)} (h : DnC w M v os W) (x : Nat × Nat) (hl : os.length ≤ 1000) :
    ∃ A' m' c' w', (Builtin.append_ #[22, 22] 22 #[v, .slice (some ⟨W.heap.size, 0, none⟩) 1 1]).run Try.prog (W.alloc (.cells #[.int .i64 (x.1 : Int), .int .i64 (x.2 : Int)] 29)) = .ok (.slice A' m' c') w' ∧
      w'.cell? ⟨w.heap.size + 1, 0, none⟩ = some v ∧ w'.frozen? ⟨w.heap.size + 1, 0, none⟩ = false ∧ DnC w M (.slice A' m' c') (os ++ [x]) (w'.setCell ⟨w.heap.size + 1, 0, none⟩ (.slice A' m' c')) := by
  have hlt : w.heap.size + 1 + 1 < W.heap.size := h.bd.lt
  obtain ⟨v', w', hr, ho, hg, hf⟩ := append_r h.own ((x.1 : Int), (x.2 : Int)) (by omega) (by omega)
  rw [show natR os ++ [((x.1 : Int), (x.2 : Int))] = natR (os ++ [x]) by rw [natR_append]; rfl, show os.length + 1 = (os ++ [x]).length by simp] at ho
  have hne : ∀ g, g < w.heap.size + 1 + 1 + 1 → some g ≠ v.ownBlock := fun g hg e => by have := (h.own.lt g e.symm).1; omega
  have bo' := h.bo.grown hg (hne _ (by omega))
  have hne' : ∀ g, g < w.heap.size + 1 + 1 + 1 → some g ≠ v'.ownBlock := fun g hg e => by have := (ho.lt g e.symm).1; omega
  have bel' := h.bel.grown hg h.bel.size (fun k hk => by have := (h.own.lt k hk).1; omega)
  obtain ⟨A', c', rfl, -⟩ := owns_slv ho
  refine ⟨A', _, c', w', hr, by rw [bo'.cell]; rfl, bo'.frozen 0, ⟨(h.bm.grown hg (hne _ (by omega))).apart (by omega) _, bo'.set_ 0 _, (h.bd.grown hg (hne _ (by omega))).apart (by omega) _, ?_, bel'.setCell (by show w.heap.size ≤ w.heap.size + 1; omega) _⟩⟩
  exact ho.kept (grown_setCell (w := w') (w' := w') (g := w.heap.size + 1) ⟨rfl, rfl, rfl, Nat.le_refl _, fun _ _ _ => rfl⟩ 0 _) (.inr (hne' _ (by omega)).symm)

set_option maxHeartbeats 2000000 in
set_option maxRecDepth 100000 in
theorem down_any (w : World) (M : Nat) (d : Nat) : ∀ (a t : Nat) (whole : Bool) (v : Value) (os : List (Nat × Nat)) (W : World), t - a ≤ d → a < M → M ≤ t → t ≤ 9223372036854775807 → os.length + (stepsL (M - a) a (t - a) whole).length ≤ 1000 → DnC w M v os W →
    Calls Try.prog 57 #[.int .i64 (a : Int), .int .i64 (t : Int), .bool whole, .pointer (some ⟨w.heap.size, 0, none⟩), .pointer (some ⟨w.heap.size + 1, 0, none⟩), .pointer (some ⟨w.heap.size + 1 + 1, 0, none⟩)] W
      fun e W' => (∃ r, e = .returned r) ∧ ∃ v', DnC w M v' (os ++ stepsL (M - a) a (t - a) whole) W' := by
  induction d with
  | zero => intro a t whole v os W h h1 h2; omega
  | succ d ih =>
    intro a t whole v os W hd ha hM ht hl hC
    have c2 : W.cell? ⟨w.heap.size, 0, none⟩ = some (.int .i64 (M : Int)) := by rw [hC.bm.cell]; rfl
    have c3 : W.cell? ⟨w.heap.size + 1, 0, none⟩ = some v := by rw [hC.bo.cell]; rfl
    have c4 : W.cell? ⟨w.heap.size + 1 + 1, 0, none⟩ = some (.func (.func 57) #[] #[.pointer (some ⟨w.heap.size, 0, none⟩), .pointer (some ⟨w.heap.size + 1, 0, none⟩), .pointer (some ⟨w.heap.size + 1 + 1, 0, none⟩)]) := by rw [hC.bd.cell]; rfl
    have hspl := fun w => tsplit_any ((t : Int) - (a : Int)) w (by omega)
    rw [show ((t : Int) - (a : Int)).toNat = t - a by omega] at hspl
    have hta : a + (t - a) = t := by omega
    by_cases hMt : M = t
    · subst hMt
      have hsle := splitN_le (M - a)
      obtain ⟨s, hs⟩ : ∃ s, splitN (M - a) = s := ⟨_, rfl⟩
      rw [hs] at hspl hsle
      have Hspl := Lib.hid hspl
      clear hspl hs
      have hst := stepsL_eq (M - a) a whole (by omega)
      rw [hta] at hst
      have hst' := hst
      have hsp0 : s ≤ M - a := hsle
      have Hst := Lib.hid hst
      clear hst hta hst'
      cases whole with
      | true =>
        go_enter Try.func57, Try.ntmps57
        go_wp2_with (go_at_call 25; refine (Hspl.out _).mono ?_; rintro e w2 ⟨rfl, rfl⟩)
        go_end0
        exact ⟨⟨_, rfl⟩, v, by rw [Hst.out]; simpa using hC⟩
      | false =>
        obtain ⟨A', m', c', w', hr, g1, g2, hC'⟩ := hC.app (a, M) (by omega)
        have Hr := Lib.hid hr
        clear hr
        go_enter Try.func57, Try.ntmps57
        go_wp2_with (first
          | (go_at_call 25; refine (Hspl.out _).mono ?_; rintro e w2 ⟨rfl, rfl⟩)
          | ((with_reducible show wpList _ _ _ (⟨some 37, .call _, _, _, _, _⟩ :: _) _ _); refine wpList_run rfl _ w' (run_append_op (.tmp 32) (.tmp 36) 22 rfl _ _ rfl rfl Hr.out) ?_; simp only [Act.put]))
        go_end0
        exact ⟨⟨_, rfl⟩, _, by rw [Hst.out]; exact hC'⟩
    · have hsl := splitN_lt (t - a) (by omega)
      have hsp := splitN_pos (t - a) (by omega)
      have hleft := stepsL_left (M - a) a (t - a) whole (by omega) (by omega)
      have hright := stepsL_right (M - a) a (t - a) whole (by omega) (by omega)
      rw [hta] at hleft
      have hbe : ((M : Int) == (t : Int)) = false := by simp; omega
      obtain ⟨s, hs⟩ : ∃ s, splitN (t - a) = s := ⟨_, rfl⟩
      rw [hs] at hspl hsl hsp hleft hright
      have Hspl := Lib.hid hspl
      clear hspl hs hta hMt
      by_cases hk : M ≤ a + s
      · have hst := hleft (by omega)
        rw [hst, List.length_append, List.length_singleton] at hl
        have hih := ih a (a + s) whole v os W (by omega) ha hk (by omega) (by rw [show a + s - a = s by omega]; omega) hC
        rw [show a + s - a = s by omega, show ((a + s : Nat) : Int) = (a : Int) + (s : Int) by omega] at hih
        have hd2 : decide ((M : Int) ≤ (a : Int) + (s : Int)) = true := by simp; omega
        have Hst := Lib.hid hst
        have Hih := Lib.hid hih
        clear hst hih hleft hright ih hC
        go_enter Try.func57, Try.ntmps57
        go_wp2_with (go_at_call 25; refine (Hspl.out _).mono ?_; rintro e w2 ⟨rfl, rfl⟩)
        refine Hih.out.mono ?_
        rintro e W2 ⟨⟨r, rfl⟩, v2, hC2⟩
        obtain ⟨A', m', c', w', hr, g1, g2, hC'⟩ := hC2.app (a + s, t) (by rw [List.length_append]; omega)
        rw [show ((a + s : Nat) : Int) = (a : Int) + (s : Int) by omega] at hr
        have c5 : W2.cell? ⟨w.heap.size + 1, 0, none⟩ = some v2 := by rw [hC2.bo.cell]; rfl
        rw [List.append_assoc, ← Hst.out] at hC'
        have Hr := Lib.hid hr
        clear hr c2 c3 c4 Hih
        go_wp2_with ((with_reducible show wpList _ _ _ (⟨some 52, .call _, _, _, _, _⟩ :: _) _ _); refine wpList_run rfl _ w' (run_append_op (.tmp 47) (.tmp 51) 22 rfl _ _ rfl rfl Hr.out) ?_; simp only [Act.put])
        go_end0
        exact ⟨⟨_, rfl⟩, _, hC'⟩
      · have hst := hright (by omega)
        rw [hst, List.length_append, List.length_singleton] at hl
        have hih := ih (a + s) t false v os W (by omega) (by omega) hM ht (by rw [show M - (a + s) = M - a - s by omega, show t - (a + s) = t - a - s by omega]; omega) hC
        rw [show M - (a + s) = M - a - s by omega, show t - (a + s) = t - a - s by omega, show ((a + s : Nat) : Int) = (a : Int) + (s : Int) by omega] at hih
        have hd2 : decide ((M : Int) ≤ (a : Int) + (s : Int)) = false := by simp; omega
        have Hst := Lib.hid hst
        have Hih := Lib.hid hih
        clear hst hih hleft hright ih hC
        go_enter Try.func57, Try.ntmps57
        go_wp2_with (go_at_call 25; refine (Hspl.out _).mono ?_; rintro e w2 ⟨rfl, rfl⟩)
        refine Hih.out.mono ?_
        rintro e W2 ⟨⟨r, rfl⟩, v2, hC2⟩
        obtain ⟨A', m', c', w', hr, g1, g2, hC'⟩ := hC2.app (a, a + s) (by rw [List.length_append]; omega)
        rw [show ((a + s : Nat) : Int) = (a : Int) + (s : Int) by omega] at hr
        have c5 : W2.cell? ⟨w.heap.size + 1, 0, none⟩ = some v2 := by rw [hC2.bo.cell]; rfl
        rw [List.append_assoc, ← Hst.out] at hC'
        have Hr := Lib.hid hr
        clear hr c2 c3 c4 Hih
        go_wp2_with ((with_reducible show wpList _ _ _ (⟨some 25, .call _, _, _, _, _⟩ :: _) _ _); refine wpList_run rfl _ w' (run_append_op (.tmp 20) (.tmp 24) 22 rfl _ _ rfl rfl Hr.out) ?_; simp only [Act.put])
        go_end0
        exact ⟨⟨_, rfl⟩, _, hC'⟩
end Go.Proofs.Ytgcbdnoniikboaa
/- tree.Steps. -/
namespace Go.Proofs.Ytgcbdnoniikboaa
open Go Go.RowKit

theorem tsteps_bad (m n : Int) (w : World) (h : m < 0 ∨ n < m) :
    Calls Try.prog 17 #[.int .i64 m, .int .i64 n] w fun e w' => e = .returned (.tuple #[.slice none 0 0, .int .i64 4]) ∧ Below w.heap.size w w' := by
  have hb := (Below.refl w.heap.size w).alloc (Nat.le_refl _) (.cells #[.int .i64 m] 2)
  by_cases h0 : m < 0
  · have h0' : decide (m < 0) = true := by simp; exact h0
    go_enter Try.func17, Try.ntmps17
    go_wp2_with fail
    go_ret2
    exact ⟨rfl, hb⟩
  · have h1 : decide (n < m) = true := by simp; omega
    have h0' : decide (m < 0) = false := by simp; omega
    go_enter Try.func17, Try.ntmps17
    go_wp2_with fail
    go_ret2
    exact ⟨rfl, hb⟩
theorem tsteps_zero (n : Int) (w : World) (h : 0 ≤ n) :
    Calls Try.prog 17 #[.int .i64 0, .int .i64 n] w fun e w' => e = .returned (.tuple #[.slice none 0 0, .int .i64 0]) ∧ Below w.heap.size w w' := by
  have hb := (Below.refl w.heap.size w).alloc (Nat.le_refl _) (.cells #[.int .i64 0] 2)
  have h1 : decide (n < 0) = false := by simp; omega
  go_enter Try.func17, Try.ntmps17
  go_wp2_with fail
  go_ret2
  exact ⟨rfl, hb⟩
set_option maxHeartbeats 1000000 in
set_option maxRecDepth 100000 in
theorem tsteps_ok (m n : Nat) (w : World) (h1 : 1 ≤ m) (h2 : m ≤ n) (hn : n ≤ 9223372036854775807) :
    Calls Try.prog 17 #[.int .i64 (m : Int), .int .i64 (n : Int)] w fun e w' => ∃ v, e = .returned (.tuple #[v, .int .i64 0]) ∧ w'.ownsRow w.heap.size 29 2 v (stepsL m 0 n true).length (rcells (natR (stepsL m 0 n true))) ∧ Below w.heap.size w w' := by
  have hlen : (stepsL m 0 n true).length ≤ 64 := stepsL_len 63 m 0 n true h1 h2 (by omega)
  have key := fun W (h : DnC w m (.slice none 0 0) [] W) => down_any w m n 0 n true (.slice none 0 0) [] W (by omega) (by omega) h2 hn (by simp; omega) h
  simp only [Nat.sub_zero, List.nil_append] at key
  have h0 : decide ((m : Int) < 0) = false := by simp
  have h0' : decide ((n : Int) < (m : Int)) = false := by simp; omega
  have h0'' : decide (n < m) = false := by simp; omega
  have hz : ((m : Int) == 0) = false := by simp; omega
  have Key := Lib.hid key
  clear key
  go_enter Try.func17, Try.ntmps17
  go_wp2_with fail
  refine (Key.out _ ⟨(((Blk.new _ _ _).alloc _).alloc _), (Blk.new' _ _ _ _ (by simp)).alloc _, Blk.new' _ _ _ _ (by simp), World.ownsRow_nil _ _ _ _, (((Below.refl _ _).alloc (Nat.le_refl _) _).alloc (by simp) _).alloc (by simp; omega) _⟩).mono ?_
  rintro e W ⟨⟨r, rfl⟩, v, hC⟩
  have c6 : W.cell? ⟨w.heap.size + 1, 0, none⟩ = some v := by rw [hC.bo.cell]; rfl
  go_wp2_with fail
  go_ret2
  exact ⟨v, rfl, owns_le hC.own (by omega), hC.bel⟩
end Go.Proofs.Ytgcbdnoniikboaa
/- notarylaw09.known. -/
namespace Go.Proofs.Ytgcbdnoniikboaa
open Go Go.RowKit

theorem rootL_three (a b c : List UInt8) : rootL [a, b, c] = hNode (hNode a b) c := by
  rw [rootL_more _ (by simp), show splitN [a, b, c].length = 2 from (by decide : splitN 3 = 2)]
  show hNode (rootL [a, b]) (rootL [c]) = _
  rw [rootL_more [a, b] (by simp), show splitN [a, b].length = 1 from (by decide : splitN 2 = 1)]
  rfl
theorem path23 : pathL 2 0 3 = [(0, 2)] := by decide
theorem steps37 : stepsL 3 0 7 true = [(2, 3), (3, 4), (0, 2), (4, 7)] := by decide

structure KnC (w : World) (a b c : List UInt8) (Ap : Option Addr) (cp : Nat) (As : Option Addr) (cs : Nat) (W : World) : Prop where
  k1 : Blk W w.heap.size 34 (a.map B).toArray
  k2 : Blk W (w.heap.size + 1) 34 (b.map B).toArray
  k3 : Blk W (w.heap.size + 1 + 1) 34 (c.map B).toArray
  p : Rs W (fun _ => True) Ap 1 cp [(0, 2)]
  s : Rs W (fun _ => True) As 4 cs [(2, 3), (3, 4), (0, 2), (4, 7)]
  bel : Below w.heap.size w W
theorem KnC.step {w W W' : World} {a b c : List UInt8} {Ap As : Option Addr} {cp cs : Nat} (h : KnC w a b c Ap cp As cs W) (hb : Below W.heap.size W W') : KnC w a b c Ap cp As cs W' :=
  ⟨h.k1.below hb h.k1.lt, h.k2.below hb h.k2.lt, h.k3.below hb h.k3.lt, h.p.step hb, h.s.step hb, h.bel.trans (hb.mono h.bel.size)⟩

set_option maxHeartbeats 2000000 in
set_option maxRecDepth 100000 in
theorem known9_any (w : World) : Calls Try.prog 15 #[] w fun e w' => e = .returned (.bool true) ∧ Below w.heap.size w w' := by
  obtain ⟨a, ha⟩ : ∃ a, oneHash 1 = a := ⟨_, rfl⟩
  obtain ⟨b, hb⟩ : ∃ b, oneHash 2 = b := ⟨_, rfl⟩
  obtain ⟨c, hc⟩ : ∃ c, oneHash 3 = c := ⟨_, rfl⟩
  have hal : a.length = 32 := by rw [← ha]; exact length_oneHash _
  have hbl : b.length = 32 := by rw [← hb]; exact length_oneHash _
  have hcl : c.length = 32 := by rw [← hc]; exact length_oneHash _
  obtain ⟨zs, hzs⟩ : ∃ zs, zeroHash = zs := ⟨_, rfl⟩
  have hzl : zs.size = 32 := by rw [← hzs]; rfl
  obtain ⟨w1, hw1⟩ : ∃ w1, w.alloc (.cells zs 34) = w1 := ⟨_, rfl⟩
  obtain ⟨w2, hw2⟩ : ∃ w2, w1.alloc (.cells zs 34) = w2 := ⟨_, rfl⟩
  obtain ⟨w3, hw3⟩ : ∃ w3, w2.alloc (.cells zs 34) = w3 := ⟨_, rfl⟩
  have hs1 : w1.heap.size = w.heap.size + 1 := by rw [← hw1]; simp
  have hs2 : w2.heap.size = w.heap.size + 1 + 1 := by rw [← hw2]; simp [hs1]
  have z1 : Blk w3 w.heap.size 34 zs := by rw [← hw3, ← hw2, ← hw1]; exact ((Blk.new _ _ _).alloc _).alloc _
  have z2 : Blk w3 (w.heap.size + 1) 34 zs := by rw [← hw3, ← hw2]; exact (Blk.new' _ _ _ _ hs1.symm).alloc _
  have z3 : Blk w3 (w.heap.size + 1 + 1) 34 zs := by rw [← hw3]; exact Blk.new' _ _ _ _ hs2.symm
  have B3 : Below w.heap.size w w3 := by rw [← hw3, ← hw2, ← hw1]; exact (((Below.refl _ _).alloc (Nat.le_refl _) _).alloc (by simp) _).alloc (by simp; omega) _
  have z2' := z2.setRow_apart (g' := w.heap.size) (by omega) (a.map B).toArray
  have z3' := (z3.setRow_apart (g' := w.heap.size) (by omega) (a.map B).toArray).setRow_apart (g' := w.heap.size + 1) (by omega) (b.map B).toArray
  obtain ⟨w4, hw4⟩ : ∃ w4, ((w3.setRow w.heap.size (a.map B).toArray).setRow (w.heap.size + 1) (b.map B).toArray).setRow (w.heap.size + 1 + 1) (c.map B).toArray = w4 := ⟨_, rfl⟩
  have k1 : Blk w4 w.heap.size 34 (a.map B).toArray := by rw [← hw4]; exact ((z1.setRow_ _).setRow_apart (by omega) _).setRow_apart (by omega) _
  have k2 : Blk w4 (w.heap.size + 1) 34 (b.map B).toArray := by rw [← hw4]; exact ((z2.setRow_apart (by omega) _).setRow_ _).setRow_apart (by omega) _
  have k3 : Blk w4 (w.heap.size + 1 + 1) 34 (c.map B).toArray := by rw [← hw4]; exact ((z3.setRow_apart (by omega) _).setRow_apart (by omega) _).setRow_ _
  have B4 : Below w.heap.size w w4 := by rw [← hw4]; exact below_setRow (below_setRow (below_setRow B3 (Nat.le_refl _) _) (by omega) _) (by omega) _
  have hpath := tpath_ok 2 3 w4 (by decide) (by decide)
  rw [path23] at hpath
  have hsteps := fun W => tsteps_ok 3 7 W (by decide) (by decide) (by decide)
  rw [steps37] at hsteps
  obtain ⟨u, hu⟩ : ∃ u, hNode a b = u := ⟨_, rfl⟩
  have hul : u.length = 32 := by rw [← hu]; exact length_hNode _ _
  obtain ⟨t, ht⟩ : ∃ t, hNode u c = t := ⟨_, rfl⟩
  have htl : t.length = 32 := by rw [← ht]; exact length_hNode _ _
  obtain ⟨z, hz⟩ : ∃ z, hEmpty = z := ⟨_, rfl⟩
  have hzzl : z.length = 32 := by rw [← hz]; exact length_hEmpty
  have hab : H32 [a, b, c] := by
    intro h hh
    simp only [List.mem_cons, List.not_mem_nil, or_false] at hh
    rcases hh with rfl | rfl | rfl
    · exact hal
    · exact hbl
    · exact hcl
  have hof := fun W A (h : Hs W (fun _ => True) A 3 3 [a, b, c]) => tof_any [a, b, c] A 3 3 W h (by decide)
  rw [rootL_three, hu, ht] at hof
  have hof0 := fun W => tof_any [] none 0 0 W Hs.empty (by decide)
  rw [show rootL [] = z from hz] at hof0
  have hem := rempty_any
  rw [hz] at hem
  have Ha := Lib.hid ha
  have Hb := Lib.hid hb
  have Hc := Lib.hid hc
  have Hal := Lib.hid hal
  have Hbl := Lib.hid hbl
  have Hcl := Lib.hid hcl
  have Hzs := Lib.hid hzs
  have Hzl := Lib.hid hzl
  have Hw1 := Lib.hid hw1
  have Hw2 := Lib.hid hw2
  have Hw3 := Lib.hid hw3
  have Hw4 := Lib.hid hw4
  have Hs1 := Lib.hid hs1
  have Hs2 := Lib.hid hs2
  have Hpath := Lib.hid hpath
  have Hsteps := Lib.hid hsteps
  have Hu := Lib.hid hu
  have Hul := Lib.hid hul
  have Ht := Lib.hid ht
  have Htl := Lib.hid htl
  have Hzzl := Lib.hid hzzl
  have Hof := Lib.hid hof
  have Hof0 := Lib.hid hof0
  have Hem := Lib.hid hem
  clear ha hb hc hal hbl hcl hzs hzl hw1 hw2 hw3 hw4 hs1 hs2 hpath hsteps hu hul ht htl hz hzzl hof hof0 hem z2 z3 B3
  go_enter Try.func15, Try.ntmps15
  go_wp2_with (first
    | ((with_reducible show wpList _ _ _ (⟨some 8, .build _ _, _, _, _, _⟩ :: _) _ _); refine wpList_run0 rfl (.agg (a.map B).toArray) (by rw [← Ha.out]; kernel_rfl) ?_; simp only [Act.put])
    | ((with_reducible show wpList _ _ _ (⟨some 9, .build _ _, _, _, _, _⟩ :: _) _ _); refine wpList_run0 rfl (.agg (b.map B).toArray) (by rw [← Hb.out]; kernel_rfl) ?_; simp only [Act.put])
    | ((with_reducible show wpList _ _ _ (⟨some 10, .build _ _, _, _, _, _⟩ :: _) _ _); refine wpList_run0 rfl (.agg (c.map B).toArray) (by rw [← Hc.out]; kernel_rfl) ?_; simp only [Act.put])
    | ((with_reducible show wpList _ _ _ (⟨some 1, .alloc _, _, _, _, _⟩ :: _) _ _); refine wpList_run rfl (.pointer (some ⟨w.heap.size, 0, none⟩)) w1 (by rw [← Hw1.out, ← Hzs.out]; rfl) ?_; simp only [Act.put])
    | ((with_reducible show wpList _ _ _ (⟨some 2, .alloc _, _, _, _, _⟩ :: _) _ _); refine wpList_run rfl (.pointer (some ⟨w.heap.size + 1, 0, none⟩)) w2 (by rw [← Hw2.out, ← Hzs.out, ← Hs1.out]; rfl) ?_; simp only [Act.put])
    | ((with_reducible show wpList _ _ _ (⟨some 3, .alloc _, _, _, _, _⟩ :: _) _ _); refine wpList_run rfl (.pointer (some ⟨w.heap.size + 1 + 1, 0, none⟩)) w3 (by rw [← Hw3.out, ← Hzs.out, ← Hs2.out]; rfl) ?_; simp only [Act.put])
    | ((with_reducible show wpList _ _ _ (⟨none, .store _ (.tmp 1) _, _, _, _, _⟩ :: _) _ _); refine wpList_store_blk rfl 34 (.tmp 1) (.tmp 8) rfl 32 size26 w.heap.size (a.map B).toArray rfl rfl (by simp [Hal.out]) (oneCell_B _) 34 _ z1 Hzl.out ?_; simp only [Act.put])
    | ((with_reducible show wpList _ _ _ (⟨none, .store _ (.tmp 2) _, _, _, _, _⟩ :: _) _ _); refine wpList_store_blk rfl 34 (.tmp 2) (.tmp 9) rfl 32 size26 (w.heap.size + 1) (b.map B).toArray rfl rfl (by simp [Hbl.out]) (oneCell_B _) 34 _ z2' Hzl.out ?_; simp only [Act.put])
    | ((with_reducible show wpList _ _ _ (⟨none, .store _ (.tmp 3) _, _, _, _, _⟩ :: _) _ _); refine wpList_store_blk rfl 34 (.tmp 3) (.tmp 10) rfl 32 size26 (w.heap.size + 1 + 1) (c.map B).toArray rfl rfl (by simp [Hcl.out]) (oneCell_B _) 34 _ z3' Hzl.out ?_; rw [Hw4.out]; simp only [Act.put]))
  refine Hpath.out.mono ?_
  rintro e w5 ⟨vp, rfl, hop, b5⟩
  clear z1 z2' z3'
  go_wp2_with fail
  refine (Hsteps.out _).mono ?_
  rintro e w6 ⟨vs, rfl, hos, b6⟩
  obtain ⟨Ap, cp, rfl, hp⟩ := Rs.of_owns (owns_step hop b6) rfl
  obtain ⟨As, cs, rfl, hs⟩ := Rs.of_owns hos rfl
  have hK9 : KnC w a b c Ap cp As cs w6 := ⟨(k1.below b5 k1.lt).below b6 (Nat.lt_of_lt_of_le k1.lt b5.size), (k2.below b5 k2.lt).below b6 (Nat.lt_of_lt_of_le k2.lt b5.size), (k3.below b5 k3.lt).below b6 (Nat.lt_of_lt_of_le k3.lt b5.size), hp.weak fun _ _ _ => trivial, hs.weak fun _ _ _ => trivial, (B4.trans (b5.mono B4.size)).trans (b6.mono (Nat.le_trans B4.size b5.size))⟩
  clear k1 k2 k3 B4 hop hos hp hs b5 b6 Hpath Hsteps
  go_wp2_with fail
  have hS : Below w6.heap.size w6 w6.drew := (Below.refl _ _).drew
  refine wp_region_mix (fun W => Below w6.heap.size w6 W) [(0, true), (1, true), (2, true), (5, true), (6, true), (8, true), (3, false), (4, false), (7, false), (9, false), (10, true), (11, true), (12, false), (13, false), (14, true), (15, true), (16, true), (17, true), (18, true), (19, true), (20, true), (21, true), (22, true), (23, false), (24, false), (25, true), (26, true), (27, true), (28, true), (29, true), (30, true), (31, true), (32, true), (33, true), (34, true), (35, true), (36, false), (37, false), (38, true), (39, true)] (by kernel_rfl) (by kernel_rfl) hS fun _ => ?_
  simp only [List.map_cons, List.map_nil, Array.getD_eq_getD_getElem?, List.getElem?_toArray, List.getElem?_cons_succ, List.getElem?_cons_zero, Option.getD_some]
  generalize w6.drew = W0 at hS ⊢
  refine wpMix_load (by kernel_rfl) 34 (.tmp 1) rfl (w.heap.size) (0) rfl (a.map B).toArray (fun s => run_load_blk (agg26 _) (size26 _) _ _ (by simp [Hal.out]) (hK9.step s.ok).k1) ?_
  simp only [Act.put]
  refine wpMix_load (by kernel_rfl) 34 (.tmp 2) rfl (w.heap.size + 1) (0) rfl (b.map B).toArray (fun s => run_load_blk (agg26 _) (size26 _) _ _ (by simp [Hbl.out]) (hK9.step s.ok).k2) ?_
  simp only [Act.put]
  refine wpMix_load (by kernel_rfl) 34 (.tmp 3) rfl (w.heap.size + 1 + 1) (0) rfl (c.map B).toArray (fun s => run_load_blk (agg26 _) (size26 _) _ _ (by simp [Hcl.out]) (hK9.step s.ok).k3) ?_
  simp only [Act.put]
  refine wpMix_load (by kernel_rfl) 34 (.tmp 1) rfl (w.heap.size) (0) rfl (a.map B).toArray (fun s => run_load_blk (agg26 _) (size26 _) _ _ (by simp [Hal.out]) (hK9.step s.ok).k1) ?_
  simp only [Act.put]
  refine wpMix_load (by kernel_rfl) 34 (.tmp 2) rfl (w.heap.size + 1) (0) rfl (b.map B).toArray (fun s => run_load_blk (agg26 _) (size26 _) _ _ (by simp [Hbl.out]) (hK9.step s.ok).k2) ?_
  simp only [Act.put]
  refine wpMix_load (by kernel_rfl) 34 (.tmp 3) rfl (w.heap.size + 1 + 1) (0) rfl (c.map B).toArray (fun s => run_load_blk (agg26 _) (size26 _) _ _ (by simp [Hcl.out]) (hK9.step s.ok).k3) ?_
  simp only [Act.put]
  have hL := Hs.lit W0 [a, b, c] hab (by simp) 3 rfl
  have hA0 : Below W0.heap.size W0 (W0.alloc (.cells (hcells [a, b, c]).toArray 34)) := (Below.refl _ _).alloc (Nat.le_refl _) _
  refine wpMix_run (by kernel_rfl) _ _ (run_lit_op [a, b, c] hab (by simp) (by simp) 3 _ rfl (by simp [Act.eval]) rfl _) (hS.trans (hA0.mono hS.size)) ?_
  simp only [Act.put]
  replace hS := hS.trans (hA0.mono hS.size)
  generalize W0.alloc (.cells (hcells [a, b, c]).toArray 34) = W1 at hS hL ⊢
  refine wpMix_c (fun K hK => ?_) hS
  go_simp
  refine (Hof.out W1 _ hL).mono ?_
  rintro e W2 ⟨rfl, hb'⟩
  refine hK _ _ ?_
  clear hK K
  replace hS := hS.trans (hb'.mono hS.size)
  refine ⟨hS, ?_⟩
  clear hb'
  clear hL hA0
  refine wpMix_c (fun K hK => ?_) hS
  go_simp
  refine (hrnode_any a b W2 Hal.out Hbl.out).mono ?_
  rintro e W3 ⟨rfl, hb'⟩
  refine hK _ _ ?_
  clear hK K
  replace hS := hS.trans (hb'.mono hS.size)
  refine ⟨hS, ?_⟩
  clear hb'
  rw [Hu.out]
  refine wpMix_c (fun K hK => ?_) hS
  go_simp
  refine (hrnode_any u c W3 Hul.out Hcl.out).mono ?_
  rintro e W4 ⟨rfl, hb'⟩
  refine hK _ _ ?_
  clear hK K
  replace hS := hS.trans (hb'.mono hS.size)
  refine ⟨hS, ?_⟩
  clear hb'
  rw [Ht.out]
  refine wpMix_v (by kernel_rfl) (.bool true) (fun s => run_eql26_t (.tmp 23) (.tmp 28) _ t t rfl rfl rfl Htl.out Htl.out rfl s.W) ?_
  simp only [Act.put]
  refine wpMix_s (fun K hK => ?_)
  go_simp
  refine hK _ ?_
  clear hK K
  refine wpMix_c (fun K hK => ?_) hS
  go_simp
  refine (Hof0.out W4).mono ?_
  rintro e W5 ⟨rfl, hb'⟩
  refine hK _ _ ?_
  clear hK K
  replace hS := hS.trans (hb'.mono hS.size)
  refine ⟨hS, ?_⟩
  clear hb'
  refine wpMix_c (fun K hK => ?_) hS
  go_simp
  refine (Hem.out W5).mono ?_
  rintro e W6 ⟨rfl, hb'⟩
  refine hK _ _ ?_
  clear hK K
  replace hS := hS.trans (hb'.mono hS.size)
  refine ⟨hS, ?_⟩
  clear hb'
  refine wpMix_v (by kernel_rfl) (.bool true) (fun s => run_eql26_t (.tmp 31) (.tmp 32) _ z z rfl rfl rfl Hzzl.out Hzzl.out rfl s.W) ?_
  simp only [Act.put]
  refine wpMix_s (fun K hK => ?_)
  go_simp
  refine hK _ ?_
  clear hK K
  refine wpMix_s (fun K hK => ?_)
  go_simp
  refine hK _ ?_
  clear hK K
  refine wpMix_s (fun K hK => ?_)
  go_simp
  refine hK _ ?_
  clear hK K
  refine wpMix_s (fun K hK => ?_)
  go_simp
  refine hK _ ?_
  clear hK K
  refine wpMix_s (fun K hK => ?_)
  go_simp
  refine hK _ ?_
  clear hK K
  refine wpMix_s (fun K hK => ?_)
  go_simp
  refine hK _ ?_
  clear hK K
  refine wpMix_s (fun K hK => ?_)
  go_simp
  refine hK _ ?_
  clear hK K
  refine wpMix_s (fun K hK => ?_)
  go_simp
  refine hK _ ?_
  clear hK K
  refine wpMix_c (fun K hK => ?_) hS
  go_simp
  refine hK _ _ ?_
  clear hK K
  refine mix_world (fun W => Below w6.heap.size w6 W ∧ Rs W (fun _ => True) (some ⟨W6.heap.size, 0, none⟩) 1 1 [(0, 2)]) ⟨hS.alloc hS.size _, Rs.lit W6 [(0, 2)] (by simp) 1 rfl⟩ (fun _ h => h.1) ?_
  clear hS
  rintro W7 ⟨hS, hL⟩
  refine wpMix_c (fun K hK => ?_) hS
  go_simp
  refine (samer_any [(0, 2)] Ap _ 1 cp 1 W7 (hK9.step hS).p hL (by decide)).mono ?_
  rintro e W8 ⟨rfl, hb'⟩
  refine hK _ _ ?_
  clear hK K
  replace hS := hS.trans (hb'.mono hS.size)
  refine ⟨hS, ?_⟩
  clear hb'
  clear hL
  refine wpMix_s (fun K hK => ?_)
  go_simp
  refine hK _ ?_
  clear hK K
  refine wpMix_s (fun K hK => ?_)
  go_simp
  refine hK _ ?_
  clear hK K
  refine wpMix_s (fun K hK => ?_)
  go_simp
  refine hK _ ?_
  clear hK K
  refine wpMix_s (fun K hK => ?_)
  go_simp
  refine hK _ ?_
  clear hK K
  refine wpMix_s (fun K hK => ?_)
  go_simp
  refine hK _ ?_
  clear hK K
  refine wpMix_s (fun K hK => ?_)
  go_simp
  refine hK _ ?_
  clear hK K
  refine wpMix_s (fun K hK => ?_)
  go_simp
  refine hK _ ?_
  clear hK K
  refine wpMix_s (fun K hK => ?_)
  go_simp
  refine hK _ ?_
  clear hK K
  refine wpMix_s (fun K hK => ?_)
  go_simp
  refine hK _ ?_
  clear hK K
  refine wpMix_s (fun K hK => ?_)
  go_simp
  refine hK _ ?_
  clear hK K
  refine wpMix_s (fun K hK => ?_)
  go_simp
  refine hK _ ?_
  clear hK K
  refine wpMix_c (fun K hK => ?_) hS
  go_simp
  refine hK _ _ ?_
  clear hK K
  refine mix_world (fun W => Below w6.heap.size w6 W ∧ Rs W (fun _ => True) (some ⟨W8.heap.size, 0, none⟩) 4 4 [(2, 3), (3, 4), (0, 2), (4, 7)]) ⟨hS.alloc hS.size _, Rs.lit W8 [(2, 3), (3, 4), (0, 2), (4, 7)] (by simp) 4 rfl⟩ (fun _ h => h.1) ?_
  clear hS
  rintro W9 ⟨hS, hL⟩
  refine wpMix_c (fun K hK => ?_) hS
  go_simp
  refine (samer_any [(2, 3), (3, 4), (0, 2), (4, 7)] As _ 4 cs 4 W9 (hK9.step hS).s hL (by decide)).mono ?_
  rintro e W10 ⟨rfl, hb'⟩
  refine hK _ _ ?_
  clear hK K
  replace hS := hS.trans (hb'.mono hS.size)
  refine ⟨hS, ?_⟩
  clear hb'
  clear hL
  refine wpMix_s (fun K hK => ?_)
  go_simp
  refine hK _ ?_
  clear hK K
  refine wpMix_s (fun K hK => ?_)
  go_simp
  refine hK _ ?_
  clear hK K
  refine wpMix_nil ?_
  intro _
  go_wp2_with fail
  go_ret
  exact ⟨rfl, hK9.bel.trans (hS.mono hK9.bel.size)⟩
end Go.Proofs.Ytgcbdnoniikboaa
/- notarylaw09.lent, kept: hashes with a mark behind them. -/
namespace Go.Proofs.Ytgcbdnoniikboaa
open Go Go.RowKit

/-- lent: one hash of a mark lies behind them -/
def markH : List UInt8 := oneHash 165
theorem length_markH : markH.length = 32 := rfl

set_option maxHeartbeats 1000000 in
set_option maxRecDepth 100000 in
theorem lent9_own (hs : List (List UInt8)) (A : Option Addr) (n c : Nat) (w : World) (h : Hs w (fun _ => True) A n c hs) (hmax : n ≤ 1099511627776) :
    Calls Try.prog 31 #[.slice A n c] w fun e w' => ∃ A' c', e = .returned (.slice A' n c') ∧ w'.ownsRow w.heap.size 34 32 (.slice A' (n + 1) c') (n + 1) (hcells (hs ++ [markH])) ∧ Hs w' (w.heap.size ≤ ·) A' (n + 1) c' (hs ++ [markH]) ∧ Below w.heap.size w w' := by
  have hroom := h.sl.room
  have hmx := h.sl.max
  unfold maxLen at hmx
  have hlen := h.len
  obtain ⟨v1, w1, hr1, ho1, hg1, -⟩ := append_slv (ty := 37) Try.underlying37 info26z (by simp [Value.cells]) (by decide) (World.ownsRow_nil w w.heap.size 34 32) h.sl (oneB _) (by unfold maxLen; omega) (by omega) (Nat.le_refl _)
  rw [List.nil_append, Nat.zero_add] at ho1
  obtain ⟨m, hm⟩ : ∃ m, markH = m := ⟨_, rfl⟩
  have hml : m.length = 32 := by rw [← hm]; rfl
  have hm32 : H32 [m] := by intro x hx; rw [List.mem_singleton.1 hx]; exact hml
  have B1 := (Below.refl w.heap.size w).grown hg1 (Nat.le_refl _) (fun k hk => by cases hk)
  have hbA : Below w1.heap.size w1 (w1.alloc (.cells (hcells [m]).toArray 34)) := (Below.refl _ _).alloc (Nat.le_refl _) _
  have ho2 := owns_step ho1 hbA
  have B2 := B1.trans (hbA.mono B1.size)
  obtain ⟨v3, w3, hr3, ho3, hg3, -⟩ := append_slv (ty := 37) Try.underlying37 info26z (by simp [Value.cells]) (by decide) ho2 (Hs.lit w1 [m] hm32 (by simp) 1 rfl).sl (oneB _) (by unfold maxLen; omega) (by omega) B2.size
  rw [← hcells_append] at ho3
  have B3 := B2.grown hg3 B2.size (fun k hk => (ho2.lt k hk).1)
  obtain ⟨A3, c3, rfl, hs3⟩ := Hs.of_owns ho3 (by rw [List.length_append, hlen]; rfl) (h.all.append hm32)
  have hr3' := hs3.sl.room
  have hs4 : Hs w3 (w.heap.size ≤ ·) A3 (n + 1) c3 (hs ++ [m]) := hs3.weak fun _ _ hx => hx.1
  rw [hm]
  have Hr1 := Lib.hid hr1
  have Hr3 := Lib.hid hr3
  have Hm := Lib.hid hm
  have Ho3 := Lib.hid ho3
  clear hr1 hr3 ho1 ho2 ho3 hg1 hg3 B1 B2 hbA h hm hs3
  go_enter Try.func31, Try.ntmps31
  go_wp2_with (first
    | ((with_reducible show wpList _ _ _ (⟨some 4, .call _, _, _, _, _⟩ :: _) _ _); refine wpList_run rfl v1 w1 (run_append_op (.const (.slice none 0 0)) (.tmp 3) 37 rfl _ _ rfl rfl Hr1.out) ?_; simp only [Act.put])
    | ((with_reducible show wpList _ _ _ (⟨some 5, .build _ _, _, _, _, _⟩ :: _) _ _); refine wpList_run0 rfl (.agg (m.map B).toArray) (by rw [← Hm.out]; kernel_rfl) ?_; simp only [Act.put])
    | ((with_reducible show wpList _ _ _ (⟨some 6, .buildSlice _ _ _, _, _, _, _⟩ :: _) _ _); refine wpList_run rfl _ _ (run_lit_op [m] hm32 (by simp) (by simp) 1 _ rfl (by simp [Act.eval]) rfl _) ?_; simp only [Act.put])
    | ((with_reducible show wpList _ _ _ (⟨some 7, .call _, _, _, _, _⟩ :: _) _ _); refine wpList_run rfl (.slice A3 (n + 1) c3) w3 (run_append_op (.tmp 4) (.tmp 6) 37 rfl _ _ rfl rfl Hr3.out) ?_; simp only [Act.put])
    | ((with_reducible show wpList _ _ _ (⟨some 10, .slice _ _ _ _ _, _, _, _, _⟩ :: _) _ _); refine wpList_run0 rfl (.slice A3 n c3) (run_slice_op_hi (.tmp 7) (.tmp 9) rfl A3 (n + 1) c3 n rfl rfl (by omega) _) ?_; simp only [Act.put]))
  go_ret
  exact ⟨A3, c3, rfl, Ho3.out, hs4, B3⟩
theorem lent9_any (hs : List (List UInt8)) (A : Option Addr) (n c : Nat) (w : World) (h : Hs w (fun _ => True) A n c hs) (hmax : n ≤ 1099511627776) :
    Calls Try.prog 31 #[.slice A n c] w fun e w' => ∃ A' c', e = .returned (.slice A' n c') ∧ Hs w' (w.heap.size ≤ ·) A' (n + 1) c' (hs ++ [markH]) ∧ Below w.heap.size w w' :=
  (lent9_own hs A n c w h hmax).mono fun _ _ ⟨A', c', h1, _, h2, h3⟩ => ⟨A', c', h1, h2, h3⟩

set_option maxHeartbeats 1000000 in
set_option maxRecDepth 100000 in
theorem kept9_any (hs : List (List UInt8)) (A A' : Option Addr) (n c c' : Nat) (w : World) (h : Hs w (fun _ => True) A (n + 1) c (hs ++ [markH])) (hb : Hs w (fun _ => True) A' n c' hs) (hmax : n ≤ 1099511627776) :
    Calls Try.prog 37 #[.slice A n c, .slice A' n c'] w fun e w' => e = .returned (.bool true) ∧ Below w.heap.size w w' := by
  have hroom := h.sl.room
  have hmx := h.sl.max
  unfold maxLen at hmx
  have hr2 := hb.sl.room
  have hmx2 := hb.sl.max
  unfold maxLen at hmx2
  have ht := h.take n (by omega)
  rw [show (hs ++ [markH]).take n = hs by rw [← hb.len]; simp] at ht
  have hsame := sameh_any hs A A' n c c' w ht hb (by omega)
  obtain ⟨b, o, rfl, -, -, -⟩ := h.at_ (by omega)
  have hld : ∀ W, Below w.heap.size w W → (Instr.loadAt 34 (.pointer (some ⟨b, o + n * 32, none⟩))).run Try.prog W = .ok (.agg (markH.map B).toArray) W := fun W hW => by
    obtain ⟨b', o', hA, -, -, hat⟩ := (h.step hW).at_ (by omega)
    cases hA
    have := hat n (by omega)
    rw [show (hs ++ [markH]).getD n [] = markH by rw [← hb.len]; simp [List.getD_eq_getElem?_getD]] at this
    exact this
  obtain ⟨m, hm⟩ : ∃ m, markH = m := ⟨_, rfl⟩
  have hml : m.length = 32 := by rw [← hm]; rfl
  rw [hm] at hld
  have hw1 : IntKind.i64.wrap ((n : Int) + 1) = (n : Int) + 1 := IntWalk.i64_in _ (by omega)
  have hnn : (n : Int) < (n : Int) + 1 := by omega
  have Hld := Lib.hid hld
  have Hm := Lib.hid hm
  have Hsame := Lib.hid hsame
  clear hld hm hsame ht h hb
  go_enter Try.func37, Try.ntmps37
  go_wp2_with fail
  refine Hsame.out.mono ?_
  rintro e w1 ⟨rfl, hb1⟩
  go_wp2_with (first
    | ((with_reducible show wpList _ _ _ (⟨some 13, .slice _ _ _ _ _, _, _, _, _⟩ :: _) _ _); refine wpList_runG (by kernel_rfl) (.slice (some ⟨b, o, none⟩) (n + 1) c) _ (run_slice_op_hi (.tmp 9) (.tmp 12) rfl (some ⟨b, o, none⟩) n c (n + 1) rfl rfl (by omega) _) ?_; simp only [Act.put])
    | ((with_reducible show wpList _ _ _ (⟨some 17, .load _ _, _, _, _, _⟩ :: _) _ _); refine wpList_runG (by kernel_rfl) (.agg (m.map B).toArray) _ (run_load_op 34 (.tmp 16) rfl b (o + n * 32) rfl _ (Hld.out _ hb1)) ?_; simp only [Act.put])
    | ((with_reducible show wpList _ _ _ (⟨some 18, .build _ _, _, _, _, _⟩ :: _) _ _); refine wpList_runG (by kernel_rfl) (.agg (m.map B).toArray) w1 (by rw [← Hm.out]; kernel_rfl) ?_; simp only [Act.put])
    | ((with_reducible show wpList _ _ _ (⟨some 19, .binOp _ _ _ _ _, _, _, _, _⟩ :: _) _ _); refine wpList_runG (by kernel_rfl) (.bool true) _ (run_eql26_t (.tmp 17) (.tmp 18) _ m m rfl rfl rfl hml hml rfl _) ?_; simp only [Act.put]))
  go_ret
  exact ⟨rfl, hb1⟩
end Go.Proofs.Ytgcbdnoniikboaa
