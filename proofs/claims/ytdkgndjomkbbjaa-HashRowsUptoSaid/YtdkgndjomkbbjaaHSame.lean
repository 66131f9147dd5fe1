/- notaryref08.Same: where two rows are alike. -/
import Derived.Test.YtdkgndjomkbbjaaHWorks
namespace Go.Proofs.Ytdkgndjomkbbjaa
open Go Go.RowKit

structure SmC (w : World) (A A' : Option Addr) (n c c' : Nat) (hs : List (List UInt8)) (W : World) : Prop where
  h1 : Hs W (fun _ => True) A n c hs
  h2 : Hs W (fun _ => True) A' n c' hs
  bel : Below w.heap.size w W
theorem SmC.drew {w W : World} {A A' : Option Addr} {n c c' : Nat} {hs : List (List UInt8)} (h : SmC w A A' n c c' hs W) : SmC w A A' n c c' hs W.drew := ⟨h.h1.drew, h.h2.drew, h.bel.drew⟩

set_option maxHeartbeats 1000000 in
set_option maxRecDepth 100000 in
theorem same_any (hs : List (List UInt8)) (A A' : Option Addr) (n c c' : Nat) (w : World) (h1 : Hs w (fun _ => True) A n c hs) (h2 : Hs w (fun _ => True) A' n c' hs) (hn : n ≤ 4398046511104) :
    Calls Try.prog 53 #[.slice A n c, .slice A' n c'] w fun e w' => e = .returned (.bool true) ∧ Below w.heap.size w w' := by
  have hlen := h1.len
  have hc1 := h1.sl.room
  have hc2 := h2.sl.room
  have hC0 : SmC w A A' n c c' hs w := ⟨h1, h2, Below.refl _ _⟩
  clear h1 h2
  have Hlen := Lib.hid hlen
  clear hlen
  go_enter Try.func53, Try.ntmps53
  go_wp2_with fail
  go_loopw [5] (fun v wr => ∃ (q : Nat), q ≤ n ∧ v = .int .i64 q ∧ SmC w A A' n c c' hs wr) (fun v _ => n - (intOf v).toNat)
  case atStart => exact ⟨0, by omega, rfl, hC0⟩
  case round =>
    clear hC0
    obtain ⟨q, hq, rfl, hC⟩ := hrel
    by_cases hlq : q < n
    · obtain ⟨b1, o1, hA1, -, -, -⟩ := hC.h1.at_ (by omega)
      obtain ⟨b2, o2, hA2, -, -, -⟩ := hC.h2.at_ (by omega)
      subst hA1 hA2
      obtain ⟨x, hx⟩ : ∃ x, hs.getD q [] = x := ⟨_, rfl⟩
      have hxl : x.length = 32 := by rw [← hx]; exact hC.h1.all.getD q (by rw [Hlen.out]; exact hlq)
      have l1 : ∀ s : InC (SmC w (some ⟨b1, o1, none⟩) (some ⟨b2, o2, none⟩) n c c' hs), (Instr.loadAt 26 (.pointer (some ⟨b1, o1 + q * 32, none⟩))).run Try.prog s.W = .ok (.agg (x.map B).toArray) s.W := fun s => by
        obtain ⟨b, o, hA, -, -, hld⟩ := s.ok.h1.at_ (by omega)
        cases hA
        rw [← hx]; exact hld q hlq
      have l2 : ∀ s : InC (SmC w (some ⟨b1, o1, none⟩) (some ⟨b2, o2, none⟩) n c c' hs), (Instr.loadAt 26 (.pointer (some ⟨b2, o2 + q * 32, none⟩))).run Try.prog s.W = .ok (.agg (x.map B).toArray) s.W := fun s => by
        obtain ⟨b, o, hA, -, -, hld⟩ := s.ok.h2.at_ (by omega)
        cases hA
        rw [← hx]; exact hld q hlq
      have Hx := Lib.hid hx
      have Hxl := Lib.hid hxl
      have Hl1 := Lib.hid l1
      have Hl2 := Lib.hid l2
      clear hx hxl l1 l2
      go_upto_region 6 with fail
      refine wp_region_mix (SmC w (some ⟨b1, o1, none⟩) (some ⟨b2, o2, none⟩) n c c' hs) [(0, true), (1, true), (2, true), (3, true), (4, true), (5, true), (6, true), (7, true), (8, true)] (by kernel_rfl) (by kernel_rfl) hC.drew fun _ => ?_
      simp only [List.map_cons, List.map_nil, Array.getD_eq_getD_getElem?, List.getElem?_toArray, List.getElem?_cons_succ, List.getElem?_cons_zero, Option.getD_some]
      iterate 3 (refine wpMix_s (fun K hK => ?_); go_simp; refine hK _ ?_; clear hK K)
      refine wpMix_load (by kernel_rfl) 26 (.tmp 19) rfl b1 (o1 + q * 32) rfl (x.map B).toArray Hl1.out ?_
      simp only [Act.put]
      iterate 3 (refine wpMix_s (fun K hK => ?_); go_simp; refine hK _ ?_; clear hK K)
      refine wpMix_load (by kernel_rfl) 26 (.tmp 23) rfl b2 (o2 + q * 32) rfl (x.map B).toArray Hl2.out ?_
      simp only [Act.put]
      refine wpMix_v (by kernel_rfl) (.bool false) (fun s => run_neq26_f (.tmp 20) (.tmp 24) _ x x rfl rfl rfl Hxl.out Hxl.out rfl s.W) ?_
      simp only [Act.put]
      refine wpMix_nil ?_
      intro hC1
      generalize wr.drew = W1 at hC1 ⊢
      go_wp2_with fail
      refine ⟨⟨q + 1, by omega, by go_num, hC1⟩, by simp [intOf]; omega⟩
    · have hqn : q = n := by omega
      subst hqn
      go_wp2_with fail
      go_ret
      exact ⟨rfl, hC.bel⟩
end Go.Proofs.Ytdkgndjomkbbjaa
