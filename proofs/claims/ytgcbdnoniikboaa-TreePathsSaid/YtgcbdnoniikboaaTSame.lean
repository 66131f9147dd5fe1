/- notaryref09.SameRanges, SameHashes: where two lists are alike. -/
import Derived.Test.YtgcbdnoniikboaaTPath
import Derived.Test.YtgcbdnoniikboaaHLit
namespace Go.Proofs.Ytgcbdnoniikboaa
open Go Go.RowKit

theorem underR : Try.prog.underlying 29 = some (.struct (Try.prog.fieldsOf 29)) := by kernel_rfl
theorem heldR : Try.prog.stoodInHeld 29 = false := by kernel_rfl
theorem guardR : Try.prog.eqGuardType Try.prog.depth 29 = false := by kernel_rfl
theorem run_neqR (a b c d : Int) (W : World) : (binOp .neq 29 (.agg #[.int .i64 a, .int .i64 b]) (.agg #[.int .i64 c, .int .i64 d])).run Try.prog W = .ok (.bool (!(a == c && b == d))) W := by
  have hf : (Try.prog.fieldsOf 29).toList = [{ name := "From", type := 2, offset := 0, embedded := false, tag := "", pkgPath := "", byteOffset := 0 }, { name := "To", type := 2, offset := 1, embedded := false, tag := "", pkgPath := "", byteOffset := 8 }] := by kernel_rfl
  rw [run_neq_struct, run_equalIn_agg W 9999 _ _ _ underR heldR, hf]
  simp [go_sem, part, Op.eqFields]
  by_cases h1 : a = c <;> by_cases h2 : b = d <;> simp [h1, h2]
theorem run_neqR_f {ρ : Operand → Value} {o : Oper} (x y : Operand) (ty : TypeId) (a b : Int) (ho : o.op = .binOp .neq 29 x y ty) (hx : ρ x = .agg #[.int .i64 a, .int .i64 b]) (hy : ρ y = .agg #[.int .i64 a, .int .i64 b]) (W : World) :
    (execOp ρ o).run Try.prog W = .ok (.value (.bool false)) W := by
  unfold execOp
  simp only [ho, hx, hy, run_eqGuard_agg W .neq 29 x y _ _ guardR, Sem.run_bind, Sem.run_pure, run_neqR, Result.andThen_ok]
  simp

structure SrC (w : World) (A A' : Option Addr) (n c c' : Nat) (l : List (Int × Int)) (W : World) : Prop where
  h1 : Rs W (fun _ => True) A n c l
  h2 : Rs W (fun _ => True) A' n c' l
  bel : Below w.heap.size w W
theorem SrC.drew {w W : World} {A A' : Option Addr} {n c c' : Nat} {l : List (Int × Int)} (h : SrC w A A' n c c' l W) : SrC w A A' n c c' l W.drew := ⟨h.h1.drew, h.h2.drew, h.bel.drew⟩

set_option maxHeartbeats 1000000 in
set_option maxRecDepth 100000 in
theorem samer_any (l : List (Int × Int)) (A A' : Option Addr) (n c c' : Nat) (w : World) (h1 : Rs w (fun _ => True) A n c l) (h2 : Rs w (fun _ => True) A' n c' l) (hn : n ≤ 4398046511104) :
    Calls Try.prog 27 #[.slice A n c, .slice A' n c'] w fun e w' => e = .returned (.bool true) ∧ Below w.heap.size w w' := by
  have hC0 : SrC w A A' n c c' l w := ⟨h1, h2, Below.refl _ _⟩
  clear h1 h2
  go_enter Try.func27, Try.ntmps27
  go_wp2_with fail
  go_loopw [5] (fun v wr => ∃ (q : Nat), q ≤ n ∧ v = .int .i64 q ∧ SrC w A A' n c c' l wr) (fun v _ => n - (intOf v).toNat)
  case atStart => exact ⟨0, by omega, rfl, hC0⟩
  case round =>
    clear hC0
    obtain ⟨q, hq, rfl, hC⟩ := hrel
    by_cases hlq : q < n
    · obtain ⟨b1, o1, hA1, -, -, -⟩ := hC.h1.at_ (by omega)
      obtain ⟨b2, o2, hA2, -, -, -⟩ := hC.h2.at_ (by omega)
      subst hA1 hA2
      obtain ⟨x, hx⟩ : ∃ x, l.getD q (0, 0) = x := ⟨_, rfl⟩
      have l1 : ∀ s : InC (SrC w (some ⟨b1, o1, none⟩) (some ⟨b2, o2, none⟩) n c c' l), (Instr.loadAt 29 (.pointer (some ⟨b1, o1 + q * 2, none⟩))).run Try.prog s.W = .ok (.agg #[.int .i64 x.1, .int .i64 x.2]) s.W := fun s => by
        rw [← hx]; exact s.ok.h1.load rfl q hlq
      have l2 : ∀ s : InC (SrC w (some ⟨b1, o1, none⟩) (some ⟨b2, o2, none⟩) n c c' l), (Instr.loadAt 29 (.pointer (some ⟨b2, o2 + q * 2, none⟩))).run Try.prog s.W = .ok (.agg #[.int .i64 x.1, .int .i64 x.2]) s.W := fun s => by
        rw [← hx]; exact s.ok.h2.load rfl q hlq
      have Hl1 := Lib.hid l1
      have Hl2 := Lib.hid l2
      clear hx l1 l2
      go_upto_region 6 with fail
      refine wp_region_mix (SrC w (some ⟨b1, o1, none⟩) (some ⟨b2, o2, none⟩) n c c' l) [(0, true), (1, true), (2, true), (3, true), (4, true), (5, true), (6, true), (7, true), (8, true)] (by kernel_rfl) (by kernel_rfl) hC.drew fun _ => ?_
      simp only [List.map_cons, List.map_nil, Array.getD_eq_getD_getElem?, List.getElem?_toArray, List.getElem?_cons_succ, List.getElem?_cons_zero, Option.getD_some]
      iterate 3 (refine wpMix_s (fun K hK => ?_); go_simp; refine hK _ ?_; clear hK K)
      refine wpMix_load (by kernel_rfl) 29 (.tmp 19) rfl b1 (o1 + q * 2) rfl #[.int .i64 x.1, .int .i64 x.2] Hl1.out ?_
      simp only [Act.put]
      iterate 3 (refine wpMix_s (fun K hK => ?_); go_simp; refine hK _ ?_; clear hK K)
      refine wpMix_load (by kernel_rfl) 29 (.tmp 23) rfl b2 (o2 + q * 2) rfl #[.int .i64 x.1, .int .i64 x.2] Hl2.out ?_
      simp only [Act.put]
      refine wpMix_v (by kernel_rfl) (.bool false) (fun s => run_neqR_f (.tmp 20) (.tmp 24) _ x.1 x.2 rfl rfl rfl s.W) ?_
      simp only [Act.put]
      refine wpMix_nil ?_
      intro hC1
      generalize wr.drew = W1 at hC1 ⊢
      go_wp2_with fail
      refine ⟨⟨q + 1, by omega, by go_num, hC1⟩, by simp [intOf]; omega⟩
    · have hqn : q = n := by omega
      subst hqn
      go_wp2_with fail
      go_ret
      exact ⟨rfl, hC.bel⟩

structure SmC (w : World) (A A' : Option Addr) (n c c' : Nat) (hs : List (List UInt8)) (W : World) : Prop where
  h1 : Hs W (fun _ => True) A n c hs
  h2 : Hs W (fun _ => True) A' n c' hs
  bel : Below w.heap.size w W
theorem SmC.drew {w W : World} {A A' : Option Addr} {n c c' : Nat} {hs : List (List UInt8)} (h : SmC w A A' n c c' hs W) : SmC w A A' n c c' hs W.drew := ⟨h.h1.drew, h.h2.drew, h.bel.drew⟩

set_option maxHeartbeats 1000000 in
set_option maxRecDepth 100000 in
theorem sameh_any (hs : List (List UInt8)) (A A' : Option Addr) (n c c' : Nat) (w : World) (h1 : Hs w (fun _ => True) A n c hs) (h2 : Hs w (fun _ => True) A' n c' hs) (hn : n ≤ 4398046511104) :
    Calls Try.prog 44 #[.slice A n c, .slice A' n c'] w fun e w' => e = .returned (.bool true) ∧ Below w.heap.size w w' := by
  have hlen := h1.len
  have hc1 := h1.sl.room
  have hc2 := h2.sl.room
  have hC0 : SmC w A A' n c c' hs w := ⟨h1, h2, Below.refl _ _⟩
  clear h1 h2
  have Hlen := Lib.hid hlen
  clear hlen
  go_enter Try.func44, Try.ntmps44
  go_wp2_with fail
  go_loopw [5] (fun v wr => ∃ (q : Nat), q ≤ n ∧ v = .int .i64 q ∧ SmC w A A' n c c' hs wr) (fun v _ => n - (intOf v).toNat)
  case atStart => exact ⟨0, by omega, rfl, hC0⟩
  case round =>
    clear hC0
    obtain ⟨q, hq, rfl, hC⟩ := hrel
    by_cases hlq : q < n
    · obtain ⟨b1, o1, hA1, -, -, -⟩ := hC.h1.at_ (by omega)
      obtain ⟨b2, o2, hA2, -, -, -⟩ := hC.h2.at_ (by omega)
      subst hA1 hA2
      obtain ⟨x, hx⟩ : ∃ x, hs.getD q [] = x := ⟨_, rfl⟩
      have hxl : x.length = 32 := by rw [← hx]; exact hC.h1.all.getD q (by rw [Hlen.out]; exact hlq)
      have l1 : ∀ s : InC (SmC w (some ⟨b1, o1, none⟩) (some ⟨b2, o2, none⟩) n c c' hs), (Instr.loadAt 34 (.pointer (some ⟨b1, o1 + q * 32, none⟩))).run Try.prog s.W = .ok (.agg (x.map B).toArray) s.W := fun s => by
        obtain ⟨b, o, hA, -, -, hld⟩ := s.ok.h1.at_ (by omega)
        cases hA
        rw [← hx]; exact hld q hlq
      have l2 : ∀ s : InC (SmC w (some ⟨b1, o1, none⟩) (some ⟨b2, o2, none⟩) n c c' hs), (Instr.loadAt 34 (.pointer (some ⟨b2, o2 + q * 32, none⟩))).run Try.prog s.W = .ok (.agg (x.map B).toArray) s.W := fun s => by
        obtain ⟨b, o, hA, -, -, hld⟩ := s.ok.h2.at_ (by omega)
        cases hA
        rw [← hx]; exact hld q hlq
      have Hx := Lib.hid hx
      have Hxl := Lib.hid hxl
      have Hl1 := Lib.hid l1
      have Hl2 := Lib.hid l2
      clear hx hxl l1 l2
      go_upto_region 6 with fail
      refine wp_region_mix (SmC w (some ⟨b1, o1, none⟩) (some ⟨b2, o2, none⟩) n c c' hs) [(0, true), (1, true), (2, true), (3, true), (4, true), (5, true), (6, true), (7, true), (8, true)] (by kernel_rfl) (by kernel_rfl) hC.drew fun _ => ?_
      simp only [List.map_cons, List.map_nil, Array.getD_eq_getD_getElem?, List.getElem?_toArray, List.getElem?_cons_succ, List.getElem?_cons_zero, Option.getD_some]
      iterate 3 (refine wpMix_s (fun K hK => ?_); go_simp; refine hK _ ?_; clear hK K)
      refine wpMix_load (by kernel_rfl) 34 (.tmp 19) rfl b1 (o1 + q * 32) rfl (x.map B).toArray Hl1.out ?_
      simp only [Act.put]
      iterate 3 (refine wpMix_s (fun K hK => ?_); go_simp; refine hK _ ?_; clear hK K)
      refine wpMix_load (by kernel_rfl) 34 (.tmp 23) rfl b2 (o2 + q * 32) rfl (x.map B).toArray Hl2.out ?_
      simp only [Act.put]
      refine wpMix_v (by kernel_rfl) (.bool false) (fun s => run_neq26_f (.tmp 20) (.tmp 24) _ x x rfl rfl rfl Hxl.out Hxl.out rfl s.W) ?_
      simp only [Act.put]
      refine wpMix_nil ?_
      intro hC1
      generalize wr.drew = W1 at hC1 ⊢
      go_wp2_with fail
      refine ⟨⟨q + 1, by omega, by go_num, hC1⟩, by simp [intOf]; omega⟩
    · have hqn : q = n := by omega
      subst hqn
      go_wp2_with fail
      go_ret
      exact ⟨rfl, hC.bel⟩
end Go.Proofs.Ytgcbdnoniikboaa
