/- cons.Check; notaryref12.Check. -/
import Derived.Test.YtobcfgbkhgkelaaQe130
import Derived.Test.YtobcfgbkhgkelaaQe112
import Derived.Test.YtobcfgbkhgkelaaQe128
namespace Go.Proofs.Ytobcfgbkhgkelaa
open Go Go.RowKit

theorem checkE_lo (m n : Int) (x y : List UInt8) (p : List (List UInt8)) (h : m < 0 ∨ n < m) : checkE m n x y p = 4 := if_pos h
theorem checkE_0 (n : Int) (x y : List UInt8) (p : List (List UInt8)) (h : 0 ≤ n) : checkE 0 n x y p = if x ≠ hEmpty ∨ p.length ≠ 0 ∨ (n = 0 ∧ y ≠ x) then 220 else 0 := by
  unfold checkE
  rw [if_neg (by omega), if_pos rfl]
theorem checkE_1 (m n : Int) (x y : List UInt8) (p : List (List UInt8)) (h : 1 ≤ m) (hn : m ≤ n) : checkE m n x y p = if (bothE m n x p).2 ≠ 0 ∨ (bothE m n x p).1.1 ≠ x ∨ (bothE m n x p).1.2 ≠ y then 220 else 0 := by
  unfold checkE
  rw [if_neg (by omega), if_neg (by omega)]

set_option maxHeartbeats 4000000 in
set_option maxRecDepth 100000 in
theorem ccheck_any (m n : Int) (x y : List UInt8) (p : List (List UInt8)) (A : Option Addr) (np c : Nat) (w : World) (hn : n ≤ 9223372036854775807) (hx : x.length = 32) (hy : y.length = 32) (h : Hs w (fun _ => True) A np c p) :
    Calls Try.prog 27 #[.int .i64 m, .int .i64 n, .agg (x.map B).toArray, .agg (y.map B).toArray, .slice A np c] w fun e w' => e = .returned (.int .i64 (checkE m n x y p)) ∧ Below w.heap.size w w' := by
  obtain ⟨w2, hw2⟩ : ∃ w2, (w.alloc (.cells (x.map B).toArray 26)).alloc (.cells (y.map B).toArray 26) = w2 := ⟨_, rfl⟩
  have hb0 : Below w.heap.size w w2 := by rw [← hw2]; exact ((Below.refl _ _).alloc (Nat.le_refl _) _).alloc (by simp) _
  have hsz2 : w2.heap.size = w.heap.size + 1 + 1 := by rw [← hw2]; simp
  have k7 : HV w2 w.heap.size x := ⟨by rw [← hw2]; exact (Blk.new _ _ _).alloc _, hx⟩
  have k8 : HV w2 (w.heap.size + 1) y := ⟨by rw [← hw2]; exact Blk.new' _ _ _ _ (by simp), hy⟩
  have h2 := h.step hb0
  have hlen := h.len
  have h32 := h.all
  have hroom := h.sl.room
  have hmx := h.sl.max
  unfold maxLen at hmx
  have Hw2 := Lib.hid hw2
  have Hx := Lib.hid hx
  have Hy := Lib.hid hy
  clear hw2 h hx hy
  by_cases hlo : m < 0 ∨ n < m
  · rw [checkE_lo m n x y p hlo]
    rcases Int.lt_or_le m 0 with hm | hm
    · clear hlo
      have hw2 := Hw2.out; go_enter Try.func27, Try.ntmps27
      go_wp2_with fail
      go_ret; exact ⟨rfl, hb0⟩
    · have hnm : n < m := by omega
      clear hlo
      have hw2 := Hw2.out; go_enter Try.func27, Try.ntmps27
      go_wp2_with fail
      go_ret; exact ⟨rfl, hb0⟩
  · have hm0 : ¬ m < 0 := by omega
    have hnm : ¬ n < m := by omega
    clear hlo
    by_cases hz : m = 0
    · subst hz
      rw [checkE_0 n x y p (by omega), hlen]
      have hE := length_hEmpty
      obtain ⟨em, hem⟩ : ∃ e, hEmpty = e := ⟨_, rfl⟩
      have he := fun W => hempty_any W
      rw [hem] at he hE ⊢
      have He := Lib.hid he
      have HE := Lib.hid hE
      clear he hE hem hm0
      by_cases hxe : x = em
      · by_cases hn0 : np = 0
        · by_cases hnz : n = 0
          · subst hnz
            by_cases hyx : y = x
            · rw [if_neg (by rintro (h | h | h); exact h hxe; exact h hn0; exact h.2 hyx)]
              subst hn0
              have Hxe := Lib.hid hxe
              clear hxe
              have Hyx := Lib.hid hyx
              clear hyx
              have hw2 := Hw2.out; go_enter Try.func27, Try.ntmps27
              go_wp2_with fail
              have hS : Below w2.heap.size w2 w2.drew := (Below.refl _ _).drew
              have l7 : ∀ s : InC (fun W => Below w2.heap.size w2 W), (Instr.loadAt 26 (.pointer (some ⟨w.heap.size, 0, none⟩))).run Try.prog s.W = .ok (.agg (x.map B).toArray) s.W := fun s => (k7.step s.ok).load
              have l8 : ∀ s : InC (fun W => Below w2.heap.size w2 W), (Instr.loadAt 26 (.pointer (some ⟨w.heap.size + 1, 0, none⟩))).run Try.prog s.W = .ok (.agg (y.map B).toArray) s.W := fun s => (k8.step s.ok).load
              have L7 := Lib.hid l7
              have L8 := Lib.hid l8
              clear l7 l8
              refine wp_region_mix (fun W => Below w2.heap.size w2 W) [(0, true), (1, false), (2, true), (3, true), (4, true), (5, true), (6, true), (7, true), (8, true), (9, true), (10, true), (11, true), (12, true), (13, true), (14, true), (15, true), (16, true)] (by kernel_rfl) (by kernel_rfl) hS fun _ => ?_
              simp only [List.map_cons, List.map_nil, Array.getD_eq_getD_getElem?, List.getElem?_toArray, List.getElem?_cons_succ, List.getElem?_cons_zero, Option.getD_some]
              generalize w2.drew = w3 at hS ⊢
              refine wpMix_load (by kernel_rfl) 26 (.tmp 7) rfl (w.heap.size) (0) rfl (x.map B).toArray (L7.out) ?_
              simp only [Act.put]
              refine wpMix_c (fun K hK => ?_) hS
              go_simp
              refine (He.out w3).mono ?_
              rintro e w3_1 ⟨rfl, hb'⟩
              refine hK _ _ ?_
              clear hK K
              replace hS := hS.trans (hb'.mono hS.size)
              refine ⟨hS, ?_⟩
              clear hb'
              refine wpMix_v (by kernel_rfl) (.bool false) (fun s => run_neq26_f (.tmp 23) (.tmp 24) _ x em rfl rfl rfl Hx.out HE.out Hxe.out s.W) ?_
              simp only [Act.put]
              refine wpMix_s (fun K hK => ?_)
              go_simp
              refine hK _ ?_
              clear hK K
              refine wpMix_s (fun K hK => ?_)
              go_simp
              refine hK _ ?_
              clear hK K
              refine wpMix_s (fun K hK => ?_)
              go_simp
              refine hK _ ?_
              clear hK K
              refine wpMix_s (fun K hK => ?_)
              go_simp
              refine hK _ ?_
              clear hK K
              refine wpMix_s (fun K hK => ?_)
              go_simp
              refine hK _ ?_
              clear hK K
              refine wpMix_s (fun K hK => ?_)
              go_simp
              refine hK _ ?_
              clear hK K
              refine wpMix_s (fun K hK => ?_)
              go_simp
              refine hK _ ?_
              clear hK K
              refine wpMix_s (fun K hK => ?_)
              go_simp
              refine hK _ ?_
              clear hK K
              refine wpMix_s (fun K hK => ?_)
              go_simp
              refine hK _ ?_
              clear hK K
              refine wpMix_load (by kernel_rfl) 26 (.tmp 8) rfl (w.heap.size + 1) (0) rfl (y.map B).toArray (L8.out) ?_
              simp only [Act.put]
              refine wpMix_load (by kernel_rfl) 26 (.tmp 7) rfl (w.heap.size) (0) rfl (x.map B).toArray (L7.out) ?_
              simp only [Act.put]
              refine wpMix_v (by kernel_rfl) (.bool false) (fun s => run_neq26_f (.tmp 35) (.tmp 36) _ y x rfl rfl rfl Hy.out Hx.out Hyx.out s.W) ?_
              simp only [Act.put]
              refine wpMix_s (fun K hK => ?_)
              go_simp
              refine hK _ ?_
              clear hK K
              refine wpMix_s (fun K hK => ?_)
              go_simp
              refine hK _ ?_
              clear hK K
              refine wpMix_nil ?_
              intro _
              go_wp2_with fail
              go_ret; exact ⟨rfl, hb0.trans (hS.mono (by omega))⟩

            · rw [if_pos (.inr (.inr ⟨rfl, hyx⟩))]
              subst hn0
              have Hxe := Lib.hid hxe
              clear hxe
              have Hyx := Lib.hid hyx
              clear hyx
              have hw2 := Hw2.out; go_enter Try.func27, Try.ntmps27
              go_wp2_with fail
              have hS : Below w2.heap.size w2 w2.drew := (Below.refl _ _).drew
              have l7 : ∀ s : InC (fun W => Below w2.heap.size w2 W), (Instr.loadAt 26 (.pointer (some ⟨w.heap.size, 0, none⟩))).run Try.prog s.W = .ok (.agg (x.map B).toArray) s.W := fun s => (k7.step s.ok).load
              have l8 : ∀ s : InC (fun W => Below w2.heap.size w2 W), (Instr.loadAt 26 (.pointer (some ⟨w.heap.size + 1, 0, none⟩))).run Try.prog s.W = .ok (.agg (y.map B).toArray) s.W := fun s => (k8.step s.ok).load
              have L7 := Lib.hid l7
              have L8 := Lib.hid l8
              clear l7 l8
              refine wp_region_mix (fun W => Below w2.heap.size w2 W) [(0, true), (1, false), (2, true), (3, true), (4, true), (5, true), (6, true), (7, true), (8, true), (9, true), (10, true), (11, true), (12, true), (13, true), (14, true), (15, true), (16, true)] (by kernel_rfl) (by kernel_rfl) hS fun _ => ?_
              simp only [List.map_cons, List.map_nil, Array.getD_eq_getD_getElem?, List.getElem?_toArray, List.getElem?_cons_succ, List.getElem?_cons_zero, Option.getD_some]
              generalize w2.drew = w3 at hS ⊢
              refine wpMix_load (by kernel_rfl) 26 (.tmp 7) rfl (w.heap.size) (0) rfl (x.map B).toArray (L7.out) ?_
              simp only [Act.put]
              refine wpMix_c (fun K hK => ?_) hS
              go_simp
              refine (He.out w3).mono ?_
              rintro e w3_1 ⟨rfl, hb'⟩
              refine hK _ _ ?_
              clear hK K
              replace hS := hS.trans (hb'.mono hS.size)
              refine ⟨hS, ?_⟩
              clear hb'
              refine wpMix_v (by kernel_rfl) (.bool false) (fun s => run_neq26_f (.tmp 23) (.tmp 24) _ x em rfl rfl rfl Hx.out HE.out Hxe.out s.W) ?_
              simp only [Act.put]
              refine wpMix_s (fun K hK => ?_)
              go_simp
              refine hK _ ?_
              clear hK K
              refine wpMix_s (fun K hK => ?_)
              go_simp
              refine hK _ ?_
              clear hK K
              refine wpMix_s (fun K hK => ?_)
              go_simp
              refine hK _ ?_
              clear hK K
              refine wpMix_s (fun K hK => ?_)
              go_simp
              refine hK _ ?_
              clear hK K
              refine wpMix_s (fun K hK => ?_)
              go_simp
              refine hK _ ?_
              clear hK K
              refine wpMix_s (fun K hK => ?_)
              go_simp
              refine hK _ ?_
              clear hK K
              refine wpMix_s (fun K hK => ?_)
              go_simp
              refine hK _ ?_
              clear hK K
              refine wpMix_s (fun K hK => ?_)
              go_simp
              refine hK _ ?_
              clear hK K
              refine wpMix_s (fun K hK => ?_)
              go_simp
              refine hK _ ?_
              clear hK K
              refine wpMix_load (by kernel_rfl) 26 (.tmp 8) rfl (w.heap.size + 1) (0) rfl (y.map B).toArray (L8.out) ?_
              simp only [Act.put]
              refine wpMix_load (by kernel_rfl) 26 (.tmp 7) rfl (w.heap.size) (0) rfl (x.map B).toArray (L7.out) ?_
              simp only [Act.put]
              refine wpMix_v (by kernel_rfl) (.bool true) (fun s => run_neq26_t (.tmp 35) (.tmp 36) _ y x rfl rfl rfl Hy.out Hx.out Hyx.out s.W) ?_
              simp only [Act.put]
              refine wpMix_s (fun K hK => ?_)
              go_simp
              refine hK _ ?_
              clear hK K
              refine wpMix_s (fun K hK => ?_)
              go_simp
              refine hK _ ?_
              clear hK K
              refine wpMix_nil ?_
              intro _
              go_wp2_with fail
              go_ret; exact ⟨rfl, hb0.trans (hS.mono (by omega))⟩

          · rw [if_neg (by rintro (h | h | h); exact h hxe; exact h hn0; exact hnz h.1)]
            subst hn0
            have hnf : (n == 0) = false := by simpa using hnz
            have Hxe := Lib.hid hxe
            clear hxe
            have hw2 := Hw2.out; go_enter Try.func27, Try.ntmps27
            go_wp2_with fail
            have hS : Below w2.heap.size w2 w2.drew := (Below.refl _ _).drew
            have l7 : ∀ s : InC (fun W => Below w2.heap.size w2 W), (Instr.loadAt 26 (.pointer (some ⟨w.heap.size, 0, none⟩))).run Try.prog s.W = .ok (.agg (x.map B).toArray) s.W := fun s => (k7.step s.ok).load
            have l8 : ∀ s : InC (fun W => Below w2.heap.size w2 W), (Instr.loadAt 26 (.pointer (some ⟨w.heap.size + 1, 0, none⟩))).run Try.prog s.W = .ok (.agg (y.map B).toArray) s.W := fun s => (k8.step s.ok).load
            have L7 := Lib.hid l7
            have L8 := Lib.hid l8
            clear l7 l8
            refine wp_region_mix (fun W => Below w2.heap.size w2 W) [(0, true), (1, false), (2, true), (3, true), (4, true), (5, true), (6, true), (7, true), (8, true), (9, true), (10, true), (11, true), (12, true), (13, true), (14, true), (15, true), (16, true)] (by kernel_rfl) (by kernel_rfl) hS fun _ => ?_
            simp only [List.map_cons, List.map_nil, Array.getD_eq_getD_getElem?, List.getElem?_toArray, List.getElem?_cons_succ, List.getElem?_cons_zero, Option.getD_some]
            generalize w2.drew = w3 at hS ⊢
            refine wpMix_load (by kernel_rfl) 26 (.tmp 7) rfl (w.heap.size) (0) rfl (x.map B).toArray (L7.out) ?_
            simp only [Act.put]
            refine wpMix_c (fun K hK => ?_) hS
            go_simp
            refine (He.out w3).mono ?_
            rintro e w3_1 ⟨rfl, hb'⟩
            refine hK _ _ ?_
            clear hK K
            replace hS := hS.trans (hb'.mono hS.size)
            refine ⟨hS, ?_⟩
            clear hb'
            refine wpMix_v (by kernel_rfl) (.bool false) (fun s => run_neq26_f (.tmp 23) (.tmp 24) _ x em rfl rfl rfl Hx.out HE.out Hxe.out s.W) ?_
            simp only [Act.put]
            refine wpMix_s (fun K hK => ?_)
            go_simp
            refine hK _ ?_
            clear hK K
            refine wpMix_s (fun K hK => ?_)
            go_simp
            refine hK _ ?_
            clear hK K
            refine wpMix_s (fun K hK => ?_)
            go_simp
            refine hK _ ?_
            clear hK K
            refine wpMix_s (fun K hK => ?_)
            go_simp
            refine hK _ ?_
            clear hK K
            refine wpMix_s (fun K hK => ?_)
            go_simp
            refine hK _ ?_
            clear hK K
            refine wpMix_s (fun K hK => ?_)
            go_simp
            refine hK _ ?_
            clear hK K
            refine wpMix_s (fun K hK => ?_)
            go_simp
            refine hK _ ?_
            clear hK K
            refine wpMix_s (fun K hK => ?_)
            go_simp
            refine hK _ ?_
            clear hK K
            refine wpMix_s (fun K hK => ?_)
            go_simp
            refine hK _ ?_
            clear hK K
            refine wpMix_s (fun K hK => ?_)
            go_simp
            refine hK _ ?_
            clear hK K
            refine wpMix_s (fun K hK => ?_)
            go_simp
            refine hK _ ?_
            clear hK K
            refine wpMix_s (fun K hK => ?_)
            go_simp
            refine hK _ ?_
            clear hK K
            refine wpMix_s (fun K hK => ?_)
            go_simp
            refine hK _ ?_
            clear hK K
            refine wpMix_s (fun K hK => ?_)
            go_simp
            refine hK _ ?_
            clear hK K
            refine wpMix_nil ?_
            intro _
            go_wp2_with fail
            go_ret; exact ⟨rfl, hb0.trans (hS.mono (by omega))⟩

        · rw [if_pos (.inr (.inl hn0))]
          have hnp : ((np : Int) != 0) = true := by simp; omega
          have Hxe := Lib.hid hxe
          clear hxe
          have hw2 := Hw2.out; go_enter Try.func27, Try.ntmps27
          go_wp2_with fail
          have hS : Below w2.heap.size w2 w2.drew := (Below.refl _ _).drew
          have l7 : ∀ s : InC (fun W => Below w2.heap.size w2 W), (Instr.loadAt 26 (.pointer (some ⟨w.heap.size, 0, none⟩))).run Try.prog s.W = .ok (.agg (x.map B).toArray) s.W := fun s => (k7.step s.ok).load
          have l8 : ∀ s : InC (fun W => Below w2.heap.size w2 W), (Instr.loadAt 26 (.pointer (some ⟨w.heap.size + 1, 0, none⟩))).run Try.prog s.W = .ok (.agg (y.map B).toArray) s.W := fun s => (k8.step s.ok).load
          have L7 := Lib.hid l7
          have L8 := Lib.hid l8
          clear l7 l8
          refine wp_region_mix (fun W => Below w2.heap.size w2 W) [(0, true), (1, false), (2, true), (3, true), (4, true), (5, true), (6, true), (7, true), (8, true), (9, true), (10, true), (11, true), (12, true), (13, true), (14, true), (15, true), (16, true)] (by kernel_rfl) (by kernel_rfl) hS fun _ => ?_
          simp only [List.map_cons, List.map_nil, Array.getD_eq_getD_getElem?, List.getElem?_toArray, List.getElem?_cons_succ, List.getElem?_cons_zero, Option.getD_some]
          generalize w2.drew = w3 at hS ⊢
          refine wpMix_load (by kernel_rfl) 26 (.tmp 7) rfl (w.heap.size) (0) rfl (x.map B).toArray (L7.out) ?_
          simp only [Act.put]
          refine wpMix_c (fun K hK => ?_) hS
          go_simp
          refine (He.out w3).mono ?_
          rintro e w3_1 ⟨rfl, hb'⟩
          refine hK _ _ ?_
          clear hK K
          replace hS := hS.trans (hb'.mono hS.size)
          refine ⟨hS, ?_⟩
          clear hb'
          refine wpMix_v (by kernel_rfl) (.bool false) (fun s => run_neq26_f (.tmp 23) (.tmp 24) _ x em rfl rfl rfl Hx.out HE.out Hxe.out s.W) ?_
          simp only [Act.put]
          refine wpMix_s (fun K hK => ?_)
          go_simp
          refine hK _ ?_
          clear hK K
          refine wpMix_s (fun K hK => ?_)
          go_simp
          refine hK _ ?_
          clear hK K
          refine wpMix_s (fun K hK => ?_)
          go_simp
          refine hK _ ?_
          clear hK K
          refine wpMix_s (fun K hK => ?_)
          go_simp
          refine hK _ ?_
          clear hK K
          refine wpMix_s (fun K hK => ?_)
          go_simp
          refine hK _ ?_
          clear hK K
          refine wpMix_s (fun K hK => ?_)
          go_simp
          refine hK _ ?_
          clear hK K
          refine wpMix_s (fun K hK => ?_)
          go_simp
          refine hK _ ?_
          clear hK K
          refine wpMix_s (fun K hK => ?_)
          go_simp
          refine hK _ ?_
          clear hK K
          refine wpMix_s (fun K hK => ?_)
          go_simp
          refine hK _ ?_
          clear hK K
          refine wpMix_s (fun K hK => ?_)
          go_simp
          refine hK _ ?_
          clear hK K
          refine wpMix_s (fun K hK => ?_)
          go_simp
          refine hK _ ?_
          clear hK K
          refine wpMix_s (fun K hK => ?_)
          go_simp
          refine hK _ ?_
          clear hK K
          refine wpMix_s (fun K hK => ?_)
          go_simp
          refine hK _ ?_
          clear hK K
          refine wpMix_s (fun K hK => ?_)
          go_simp
          refine hK _ ?_
          clear hK K
          refine wpMix_nil ?_
          intro _
          go_wp2_with fail
          go_ret; exact ⟨rfl, hb0.trans (hS.mono (by omega))⟩

      · rw [if_pos (.inl hxe)]
        have Hxe := Lib.hid hxe
        clear hxe
        have hw2 := Hw2.out; go_enter Try.func27, Try.ntmps27
        go_wp2_with fail
        have hS : Below w2.heap.size w2 w2.drew := (Below.refl _ _).drew
        have l7 : ∀ s : InC (fun W => Below w2.heap.size w2 W), (Instr.loadAt 26 (.pointer (some ⟨w.heap.size, 0, none⟩))).run Try.prog s.W = .ok (.agg (x.map B).toArray) s.W := fun s => (k7.step s.ok).load
        have l8 : ∀ s : InC (fun W => Below w2.heap.size w2 W), (Instr.loadAt 26 (.pointer (some ⟨w.heap.size + 1, 0, none⟩))).run Try.prog s.W = .ok (.agg (y.map B).toArray) s.W := fun s => (k8.step s.ok).load
        have L7 := Lib.hid l7
        have L8 := Lib.hid l8
        clear l7 l8
        refine wp_region_mix (fun W => Below w2.heap.size w2 W) [(0, true), (1, false), (2, true), (3, true), (4, true), (5, true), (6, true), (7, true), (8, true), (9, true), (10, true), (11, true), (12, true), (13, true), (14, true), (15, true), (16, true)] (by kernel_rfl) (by kernel_rfl) hS fun _ => ?_
        simp only [List.map_cons, List.map_nil, Array.getD_eq_getD_getElem?, List.getElem?_toArray, List.getElem?_cons_succ, List.getElem?_cons_zero, Option.getD_some]
        generalize w2.drew = w3 at hS ⊢
        refine wpMix_load (by kernel_rfl) 26 (.tmp 7) rfl (w.heap.size) (0) rfl (x.map B).toArray (L7.out) ?_
        simp only [Act.put]
        refine wpMix_c (fun K hK => ?_) hS
        go_simp
        refine (He.out w3).mono ?_
        rintro e w3_1 ⟨rfl, hb'⟩
        refine hK _ _ ?_
        clear hK K
        replace hS := hS.trans (hb'.mono hS.size)
        refine ⟨hS, ?_⟩
        clear hb'
        refine wpMix_v (by kernel_rfl) (.bool true) (fun s => run_neq26_t (.tmp 23) (.tmp 24) _ x em rfl rfl rfl Hx.out HE.out Hxe.out s.W) ?_
        simp only [Act.put]
        refine wpMix_s (fun K hK => ?_)
        go_simp
        refine hK _ ?_
        clear hK K
        refine wpMix_s (fun K hK => ?_)
        go_simp
        refine hK _ ?_
        clear hK K
        refine wpMix_s (fun K hK => ?_)
        go_simp
        refine hK _ ?_
        clear hK K
        refine wpMix_s (fun K hK => ?_)
        go_simp
        refine hK _ ?_
        clear hK K
        refine wpMix_s (fun K hK => ?_)
        go_simp
        refine hK _ ?_
        clear hK K
        refine wpMix_s (fun K hK => ?_)
        go_simp
        refine hK _ ?_
        clear hK K
        refine wpMix_s (fun K hK => ?_)
        go_simp
        refine hK _ ?_
        clear hK K
        refine wpMix_s (fun K hK => ?_)
        go_simp
        refine hK _ ?_
        clear hK K
        refine wpMix_s (fun K hK => ?_)
        go_simp
        refine hK _ ?_
        clear hK K
        refine wpMix_s (fun K hK => ?_)
        go_simp
        refine hK _ ?_
        clear hK K
        refine wpMix_s (fun K hK => ?_)
        go_simp
        refine hK _ ?_
        clear hK K
        refine wpMix_s (fun K hK => ?_)
        go_simp
        refine hK _ ?_
        clear hK K
        refine wpMix_s (fun K hK => ?_)
        go_simp
        refine hK _ ?_
        clear hK K
        refine wpMix_s (fun K hK => ?_)
        go_simp
        refine hK _ ?_
        clear hK K
        refine wpMix_nil ?_
        intro _
        go_wp2_with fail
        go_ret; exact ⟨rfl, hb0.trans (hS.mono (by omega))⟩

    · rw [checkE_1 m n x y p (by omega) (by omega)]
      have hmf : (m == 0) = false := by simpa using hz
      have hlb := length_bothE m n x p Hx.out h32
      have hbt := fun W (h : Hs W (fun _ => True) A np c p) => cbothE_any m n x p A np c W hn Hx.out h
      obtain ⟨⟨⟨r1, r2⟩, e0⟩, hbe⟩ : ∃ r, bothE m n x p = r := ⟨_, rfl⟩
      rw [hbe] at hlb hbt ⊢
      dsimp only at hlb hbt ⊢
      obtain ⟨hl1, hl2⟩ := hlb
      have Hl1 := Lib.hid hl1
      have Hl2 := Lib.hid hl2
      have Hbt := Lib.hid hbt
      clear hl1 hl2 hbt hbe hz
      by_cases he0 : e0 = 0
      · subst he0
        by_cases h1 : r1 = x
        · by_cases h2y : r2 = y
          · rw [if_neg (by rintro (h | h | h); exact h rfl; exact h h1; exact h h2y)]
            have Hh1 := Lib.hid h1
            clear h1
            have Hh2y := Lib.hid h2y
            clear h2y
            have hw2 := Hw2.out; go_enter Try.func27, Try.ntmps27
            go_wp2_with (first
              | fail
              | ((with_reducible show wpList _ _ _ (⟨some 43, .load _ _, _, _, _, _⟩ :: _) _ _); refine wpList_hload (.tmp 7) (by kernel_rfl) rfl k7 rfl ?_; simp only [Act.put]))
            refine (Hbt.out w2 h2).mono ?_
            rintro e W3 ⟨rfl, hb3⟩
            replace k7 := k7.step hb3
            replace k8 := k8.step hb3
            replace hb0 := hb0.trans (hb3.mono hb0.size)
            have hs3 := hb3.size
            clear hb3 h2
            go_wp2_with (first
              | ((with_reducible show wpList _ _ _ (⟨some 11, .alloc _, _, _, _, _⟩ :: _) _ _); refine wpList_hnew rfl rfl ?_; intro W4 ka hb4; simp only [Act.put]; replace k7 := k7.step hb4; replace k8 := k8.step hb4; replace hb0 := hb0.trans (hb4.mono hb0.size); have hlta := ka.lt; have hs4 := hb4.size)
              | ((with_reducible show wpList _ _ _ (⟨some 12, .alloc _, _, _, _, _⟩ :: _) _ _); refine wpList_hnew rfl rfl ?_; intro W5 kb hb5; simp only [Act.put]; replace k7 := k7.step hb5; replace k8 := k8.step hb5; replace ka := ka.step hb5; replace hb0 := hb0.trans (hb5.mono hb0.size); have hs5 := hb5.size)
              | ((with_reducible show wpList _ _ _ (⟨none, .store _ (.tmp 11) _, _, _, _, _⟩ :: _) _ _); refine wpList_hset2 (.tmp 11) (.tmp 46) rfl rfl ka rfl rfl Hl1.out ?_; intro W6 kas hb6 hoth6; simp only [Act.put]; replace k7 := hoth6 _ _ (by omega) k7; replace k8 := hoth6 _ _ (by omega) k8; replace kb := hoth6 _ _ (by omega) kb; replace hb0 := hb0.trans (hb6.mono (by omega)))
              | ((with_reducible show wpList _ _ _ (⟨none, .store _ (.tmp 12) _, _, _, _, _⟩ :: _) _ _); refine wpList_hset2 (.tmp 12) (.tmp 47) rfl rfl kb rfl rfl Hl2.out ?_; intro W7 kbs hb7 hoth7; simp only [Act.put]; replace k7 := hoth7 _ _ (by omega) k7; replace k8 := hoth7 _ _ (by omega) k8; replace kas := hoth7 _ _ (by omega) kas; replace hb0 := hb0.trans (hb7.mono (by omega)))
              | ((with_reducible show wpList _ _ _ (⟨some 52, .load _ _, _, _, _, _⟩ :: _) _ _); refine wpList_hload (.tmp 11) (by kernel_rfl) rfl kas rfl ?_; simp only [Act.put])
              | ((with_reducible show wpList _ _ _ (⟨some 53, .load _ _, _, _, _, _⟩ :: _) _ _); refine wpList_hload (.tmp 7) (by kernel_rfl) rfl k7 rfl ?_; simp only [Act.put])
              | ((with_reducible show wpList _ _ _ (⟨some 57, .load _ _, _, _, _, _⟩ :: _) _ _); refine wpList_hload (.tmp 12) (by kernel_rfl) rfl kbs rfl ?_; simp only [Act.put])
              | ((with_reducible show wpList _ _ _ (⟨some 58, .load _ _, _, _, _, _⟩ :: _) _ _); refine wpList_hload (.tmp 8) (by kernel_rfl) rfl k8 rfl ?_; simp only [Act.put])
              | ((with_reducible show wpList _ _ _ (⟨some 54, .binOp _ _ _ _ _, _, _, _, _⟩ :: _) _ _); refine wpList_runG (by kernel_rfl) (.bool false) _ (run_neq26_f (.tmp 52) (.tmp 53) _ r1 x rfl rfl rfl Hl1.out Hx.out Hh1.out _) ?_; simp only [Act.put])
              | ((with_reducible show wpList _ _ _ (⟨some 59, .binOp _ _ _ _ _, _, _, _, _⟩ :: _) _ _); refine wpList_runG (by kernel_rfl) (.bool false) _ (run_neq26_f (.tmp 57) (.tmp 58) _ r2 y rfl rfl rfl Hl2.out Hy.out Hh2y.out _) ?_; simp only [Act.put]))
            go_ret; exact ⟨rfl, hb0⟩

          · rw [if_pos (.inr (.inr h2y))]
            have Hh1 := Lib.hid h1
            clear h1
            have Hh2y := Lib.hid h2y
            clear h2y
            have hw2 := Hw2.out; go_enter Try.func27, Try.ntmps27
            go_wp2_with (first
              | fail
              | ((with_reducible show wpList _ _ _ (⟨some 43, .load _ _, _, _, _, _⟩ :: _) _ _); refine wpList_hload (.tmp 7) (by kernel_rfl) rfl k7 rfl ?_; simp only [Act.put]))
            refine (Hbt.out w2 h2).mono ?_
            rintro e W3 ⟨rfl, hb3⟩
            replace k7 := k7.step hb3
            replace k8 := k8.step hb3
            replace hb0 := hb0.trans (hb3.mono hb0.size)
            have hs3 := hb3.size
            clear hb3 h2
            go_wp2_with (first
              | ((with_reducible show wpList _ _ _ (⟨some 11, .alloc _, _, _, _, _⟩ :: _) _ _); refine wpList_hnew rfl rfl ?_; intro W4 ka hb4; simp only [Act.put]; replace k7 := k7.step hb4; replace k8 := k8.step hb4; replace hb0 := hb0.trans (hb4.mono hb0.size); have hlta := ka.lt; have hs4 := hb4.size)
              | ((with_reducible show wpList _ _ _ (⟨some 12, .alloc _, _, _, _, _⟩ :: _) _ _); refine wpList_hnew rfl rfl ?_; intro W5 kb hb5; simp only [Act.put]; replace k7 := k7.step hb5; replace k8 := k8.step hb5; replace ka := ka.step hb5; replace hb0 := hb0.trans (hb5.mono hb0.size); have hs5 := hb5.size)
              | ((with_reducible show wpList _ _ _ (⟨none, .store _ (.tmp 11) _, _, _, _, _⟩ :: _) _ _); refine wpList_hset2 (.tmp 11) (.tmp 46) rfl rfl ka rfl rfl Hl1.out ?_; intro W6 kas hb6 hoth6; simp only [Act.put]; replace k7 := hoth6 _ _ (by omega) k7; replace k8 := hoth6 _ _ (by omega) k8; replace kb := hoth6 _ _ (by omega) kb; replace hb0 := hb0.trans (hb6.mono (by omega)))
              | ((with_reducible show wpList _ _ _ (⟨none, .store _ (.tmp 12) _, _, _, _, _⟩ :: _) _ _); refine wpList_hset2 (.tmp 12) (.tmp 47) rfl rfl kb rfl rfl Hl2.out ?_; intro W7 kbs hb7 hoth7; simp only [Act.put]; replace k7 := hoth7 _ _ (by omega) k7; replace k8 := hoth7 _ _ (by omega) k8; replace kas := hoth7 _ _ (by omega) kas; replace hb0 := hb0.trans (hb7.mono (by omega)))
              | ((with_reducible show wpList _ _ _ (⟨some 52, .load _ _, _, _, _, _⟩ :: _) _ _); refine wpList_hload (.tmp 11) (by kernel_rfl) rfl kas rfl ?_; simp only [Act.put])
              | ((with_reducible show wpList _ _ _ (⟨some 53, .load _ _, _, _, _, _⟩ :: _) _ _); refine wpList_hload (.tmp 7) (by kernel_rfl) rfl k7 rfl ?_; simp only [Act.put])
              | ((with_reducible show wpList _ _ _ (⟨some 57, .load _ _, _, _, _, _⟩ :: _) _ _); refine wpList_hload (.tmp 12) (by kernel_rfl) rfl kbs rfl ?_; simp only [Act.put])
              | ((with_reducible show wpList _ _ _ (⟨some 58, .load _ _, _, _, _, _⟩ :: _) _ _); refine wpList_hload (.tmp 8) (by kernel_rfl) rfl k8 rfl ?_; simp only [Act.put])
              | ((with_reducible show wpList _ _ _ (⟨some 54, .binOp _ _ _ _ _, _, _, _, _⟩ :: _) _ _); refine wpList_runG (by kernel_rfl) (.bool false) _ (run_neq26_f (.tmp 52) (.tmp 53) _ r1 x rfl rfl rfl Hl1.out Hx.out Hh1.out _) ?_; simp only [Act.put])
              | ((with_reducible show wpList _ _ _ (⟨some 59, .binOp _ _ _ _ _, _, _, _, _⟩ :: _) _ _); refine wpList_runG (by kernel_rfl) (.bool true) _ (run_neq26_t (.tmp 57) (.tmp 58) _ r2 y rfl rfl rfl Hl2.out Hy.out Hh2y.out _) ?_; simp only [Act.put]))
            go_ret; exact ⟨rfl, hb0⟩

        · rw [if_pos (.inr (.inl h1))]
          have Hh1 := Lib.hid h1
          clear h1
          have hw2 := Hw2.out; go_enter Try.func27, Try.ntmps27
          go_wp2_with (first
            | fail
            | ((with_reducible show wpList _ _ _ (⟨some 43, .load _ _, _, _, _, _⟩ :: _) _ _); refine wpList_hload (.tmp 7) (by kernel_rfl) rfl k7 rfl ?_; simp only [Act.put]))
          refine (Hbt.out w2 h2).mono ?_
          rintro e W3 ⟨rfl, hb3⟩
          replace k7 := k7.step hb3
          replace k8 := k8.step hb3
          replace hb0 := hb0.trans (hb3.mono hb0.size)
          have hs3 := hb3.size
          clear hb3 h2
          go_wp2_with (first
            | ((with_reducible show wpList _ _ _ (⟨some 11, .alloc _, _, _, _, _⟩ :: _) _ _); refine wpList_hnew rfl rfl ?_; intro W4 ka hb4; simp only [Act.put]; replace k7 := k7.step hb4; replace k8 := k8.step hb4; replace hb0 := hb0.trans (hb4.mono hb0.size); have hlta := ka.lt; have hs4 := hb4.size)
            | ((with_reducible show wpList _ _ _ (⟨some 12, .alloc _, _, _, _, _⟩ :: _) _ _); refine wpList_hnew rfl rfl ?_; intro W5 kb hb5; simp only [Act.put]; replace k7 := k7.step hb5; replace k8 := k8.step hb5; replace ka := ka.step hb5; replace hb0 := hb0.trans (hb5.mono hb0.size); have hs5 := hb5.size)
            | ((with_reducible show wpList _ _ _ (⟨none, .store _ (.tmp 11) _, _, _, _, _⟩ :: _) _ _); refine wpList_hset2 (.tmp 11) (.tmp 46) rfl rfl ka rfl rfl Hl1.out ?_; intro W6 kas hb6 hoth6; simp only [Act.put]; replace k7 := hoth6 _ _ (by omega) k7; replace k8 := hoth6 _ _ (by omega) k8; replace kb := hoth6 _ _ (by omega) kb; replace hb0 := hb0.trans (hb6.mono (by omega)))
            | ((with_reducible show wpList _ _ _ (⟨none, .store _ (.tmp 12) _, _, _, _, _⟩ :: _) _ _); refine wpList_hset2 (.tmp 12) (.tmp 47) rfl rfl kb rfl rfl Hl2.out ?_; intro W7 kbs hb7 hoth7; simp only [Act.put]; replace k7 := hoth7 _ _ (by omega) k7; replace k8 := hoth7 _ _ (by omega) k8; replace kas := hoth7 _ _ (by omega) kas; replace hb0 := hb0.trans (hb7.mono (by omega)))
            | ((with_reducible show wpList _ _ _ (⟨some 52, .load _ _, _, _, _, _⟩ :: _) _ _); refine wpList_hload (.tmp 11) (by kernel_rfl) rfl kas rfl ?_; simp only [Act.put])
            | ((with_reducible show wpList _ _ _ (⟨some 53, .load _ _, _, _, _, _⟩ :: _) _ _); refine wpList_hload (.tmp 7) (by kernel_rfl) rfl k7 rfl ?_; simp only [Act.put])
            | ((with_reducible show wpList _ _ _ (⟨some 54, .binOp _ _ _ _ _, _, _, _, _⟩ :: _) _ _); refine wpList_runG (by kernel_rfl) (.bool true) _ (run_neq26_t (.tmp 52) (.tmp 53) _ r1 x rfl rfl rfl Hl1.out Hx.out Hh1.out _) ?_; simp only [Act.put]))
          go_ret; exact ⟨rfl, hb0⟩

      · rw [if_pos (.inl he0)]
        have hef : (e0 != 0) = true := by simpa using he0
        have hw2 := Hw2.out; go_enter Try.func27, Try.ntmps27
        go_wp2_with (first
          | fail
          | ((with_reducible show wpList _ _ _ (⟨some 43, .load _ _, _, _, _, _⟩ :: _) _ _); refine wpList_hload (.tmp 7) (by kernel_rfl) rfl k7 rfl ?_; simp only [Act.put]))
        refine (Hbt.out w2 h2).mono ?_
        rintro e W3 ⟨rfl, hb3⟩
        replace k7 := k7.step hb3
        replace k8 := k8.step hb3
        replace hb0 := hb0.trans (hb3.mono hb0.size)
        have hs3 := hb3.size
        clear hb3 h2
        go_wp2_with (first
          | ((with_reducible show wpList _ _ _ (⟨some 11, .alloc _, _, _, _, _⟩ :: _) _ _); refine wpList_hnew rfl rfl ?_; intro W4 ka hb4; simp only [Act.put]; replace k7 := k7.step hb4; replace k8 := k8.step hb4; replace hb0 := hb0.trans (hb4.mono hb0.size); have hlta := ka.lt; have hs4 := hb4.size)
          | ((with_reducible show wpList _ _ _ (⟨some 12, .alloc _, _, _, _, _⟩ :: _) _ _); refine wpList_hnew rfl rfl ?_; intro W5 kb hb5; simp only [Act.put]; replace k7 := k7.step hb5; replace k8 := k8.step hb5; replace ka := ka.step hb5; replace hb0 := hb0.trans (hb5.mono hb0.size); have hs5 := hb5.size)
          | ((with_reducible show wpList _ _ _ (⟨none, .store _ (.tmp 11) _, _, _, _, _⟩ :: _) _ _); refine wpList_hset2 (.tmp 11) (.tmp 46) rfl rfl ka rfl rfl Hl1.out ?_; intro W6 kas hb6 hoth6; simp only [Act.put]; replace k7 := hoth6 _ _ (by omega) k7; replace k8 := hoth6 _ _ (by omega) k8; replace kb := hoth6 _ _ (by omega) kb; replace hb0 := hb0.trans (hb6.mono (by omega)))
          | ((with_reducible show wpList _ _ _ (⟨none, .store _ (.tmp 12) _, _, _, _, _⟩ :: _) _ _); refine wpList_hset2 (.tmp 12) (.tmp 47) rfl rfl kb rfl rfl Hl2.out ?_; intro W7 kbs hb7 hoth7; simp only [Act.put]; replace k7 := hoth7 _ _ (by omega) k7; replace k8 := hoth7 _ _ (by omega) k8; replace kas := hoth7 _ _ (by omega) kas; replace hb0 := hb0.trans (hb7.mono (by omega))))
        go_ret; exact ⟨rfl, hb0⟩


end Go.Proofs.Ytobcfgbkhgkelaa
/- notaryref11.Split, Root, Len, Prove. -/
namespace Go.Proofs.Ytobcfgbkhgkelaa
open Go Go.RowKit

theorem r08nil (w : World) : Calls Try.prog 73 #[.slice none 0 0] w fun e w' => e = .returned (.agg (hEmpty.map B).toArray) ∧ Below w.heap.size w w' :=
  hrof_any [] none 0 0 w Sl.nil (by decide)

/-- a path, further on -/
theorem pathL_shift (k d : Nat) : ∀ (i a b : Nat), b - a ≤ d → pathL (i + k) (a + k) (b + k) = (pathL i a b).map fun x => (x.1 + k, x.2 + k) := by
  induction d with
  | zero => intro i a b h; rw [pathL_small _ _ _ (by omega), pathL_small _ _ _ (by omega)]; rfl
  | succ d ih =>
    intro i a b h
    by_cases h2 : b - a < 2
    · rw [pathL_small _ _ _ (by omega), pathL_small _ _ _ h2]; rfl
    · have hl := splitN_lt (b - a) (by omega)
      have hp := splitN_pos (b - a) (by omega)
      have e : b + k - (a + k) = b - a := by omega
      by_cases hi : i < a + splitN (b - a)
      · rw [pathL_left (i + k) (a + k) (b + k) (by omega) (by rw [e]; omega), pathL_left i a b (by omega) hi, e, show a + k + splitN (b - a) = a + splitN (b - a) + k by omega, ih i a (a + splitN (b - a)) (by omega)]
        simp
      · rw [pathL_right (i + k) (a + k) (b + k) (by omega) (by rw [e]; omega), pathL_right i a b (by omega) hi, e, show a + k + splitN (b - a) = a + splitN (b - a) + k by omega, ih i (a + splitN (b - a)) b (by omega)]
        simp
theorem stretchL_take (hs : List (List UInt8)) (k a b : Nat) (h : b ≤ k) : stretchL (hs.take k) a b = stretchL hs a b := by
  unfold stretchL
  rw [List.drop_take, List.take_take, Nat.min_eq_left (by omega)]
theorem stretchL_drop (hs : List (List UInt8)) (k a b : Nat) : stretchL (hs.drop k) a b = stretchL hs (a + k) (b + k) := by
  unfold stretchL
  rw [List.drop_drop, show b + k - (a + k) = b - a by omega, show k + a = a + k by omega]
/-- the proof of an entry that is there -/
def rootsN (hs : List (List UInt8)) (i : Nat) : List (List UInt8) := rootsL hs (pathL i 0 hs.length)
theorem rootsN_left (hs : List (List UInt8)) (i : Nat) (h2 : 2 ≤ hs.length) (hi : i < splitN hs.length) : rootsN hs i = rootsN (hs.take (splitN hs.length)) i ++ [rootL (hs.drop (splitN hs.length))] := by
  have hl := splitN_lt hs.length h2
  have hok := pathL_ok (splitN hs.length) i 0 (splitN hs.length) (by omega) (by omega) hi
  unfold rootsN
  rw [pathL_left i 0 hs.length (by omega) (by simpa using hi), List.length_take, Nat.min_eq_left (by omega), Nat.sub_zero, Nat.zero_add]
  unfold rootsL
  rw [List.map_append]
  congr 1
  · refine List.map_congr_left fun x hx => ?_
    exact (stretchL_take hs _ _ _ (hok.each x hx).2.2.1).symm
  · simp only [List.map_cons, List.map_nil]
    unfold stretchL
    rw [List.take_of_length_le (by rw [List.length_drop]; exact Nat.le_refl _)]
theorem rootsN_right (hs : List (List UInt8)) (i : Nat) (h2 : 2 ≤ hs.length) (hi : ¬ i < splitN hs.length) : rootsN hs i = rootsN (hs.drop (splitN hs.length)) (i - splitN hs.length) ++ [rootL (hs.take (splitN hs.length))] := by
  have hl := splitN_lt hs.length h2
  unfold rootsN
  rw [pathL_right i 0 hs.length (by omega) (by simpa using hi), List.length_drop, Nat.sub_zero, Nat.zero_add]
  have hsh := pathL_shift (splitN hs.length) (hs.length - splitN hs.length) (i - splitN hs.length) 0 (hs.length - splitN hs.length) (by omega)
  rw [show i - splitN hs.length + splitN hs.length = i by omega, Nat.zero_add, show hs.length - splitN hs.length + splitN hs.length = hs.length by omega] at hsh
  rw [hsh]
  unfold rootsL
  rw [List.map_append, List.map_map]
  congr 1
  · refine List.map_congr_left fun x hx => ?_
    exact (stretchL_drop hs _ _ _).symm
theorem rootsN_small (hs : List (List UInt8)) (i : Nat) (h : hs.length < 2) : rootsN hs i = [] := by
  unfold rootsN
  rw [pathL_small _ _ _ (by omega)]; rfl
theorem rootsN_all (hs : List (List UInt8)) (h : H32 hs) (i : Nat) : H32 (rootsN hs i) := rootsL_all hs h _
theorem length_rootsN (hs : List (List UInt8)) (i : Nat) : (rootsN hs i).length = (pathL i 0 hs.length).length := by simp [rootsN, rootsL]
theorem rootsP_nat (hs : List (List UInt8)) (i : Int) (h0 : 0 ≤ i) (h1 : i < hs.length) : rootsP hs i = rootsN hs i.toNat ∧ (pathA i hs.length).2 = 0 := by
  unfold rootsP rootsN pathA
  rw [if_neg (by omega)]
  exact ⟨by rw [Int.toNat_natCast], rfl⟩
end Go.Proofs.Ytobcfgbkhgkelaa
