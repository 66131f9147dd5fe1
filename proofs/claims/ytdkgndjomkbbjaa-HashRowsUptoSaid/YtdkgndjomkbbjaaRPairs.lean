/- notaryref08.Pairs, Top, Rows. -/
import Derived.Test.YtdkgndjomkbbjaaHDouble
import Derived.Test.YtdkgndjomkbbjaaSpoil
import Derived.Test.YtdkgndjomkbbjaaHash2
import Derived.Test.YtdkgndjomkbbjaaShare
namespace Go.Proofs.Ytdkgndjomkbbjaa
open Go Go.RowKit

structure RpC (w : World) (A : Option Addr) (n c : Nat) (hs ps : List (List UInt8)) (v : Value) (k : Nat) (W : World) : Prop where
  own : W.ownsRow w.heap.size 26 32 v k (hcells ps)
  src : Hs W (· < w.heap.size) A n c hs
  bel : Below w.heap.size w W
theorem RpC.step {w W W' : World} {A : Option Addr} {n c : Nat} {hs ps : List (List UInt8)} {v : Value} {k : Nat} (h : RpC w A n c hs ps v k W) (hb : Below W.heap.size W W') : RpC w A n c hs ps v k W' := ⟨owns_step h.own hb, h.src.step hb, h.bel.trans (hb.mono h.bel.size)⟩
theorem RpC.drew {w W : World} {A : Option Addr} {n c : Nat} {hs ps : List (List UInt8)} {v : Value} {k : Nat} (h : RpC w A n c hs ps v k W) : RpC w A n c hs ps v k W.drew := h.step (Below.refl _ _).drew

set_option maxHeartbeats 1000000 in
set_option maxRecDepth 100000 in
theorem rpairs_any (hs : List (List UInt8)) (A : Option Addr) (n c : Nat) (w : World) (h : Hs w (fun _ => True) A n c hs) (hn : n ≤ 4398046511104) :
    Calls Try.prog 72 #[.slice A n c] w fun e w' => ∃ A' c', e = .returned (.slice A' (n / 2) c') ∧ Hs w' (w.heap.size ≤ ·) A' (n / 2) c' (pairsL hs) ∧ Below w.heap.size w w' := by
  replace h := h.weak (Y := (· < w.heap.size)) fun _ hb _ => hb
  have hlen := h.len
  have hroom := h.sl.room
  have hmax := h.sl.max
  unfold maxLen at hmax
  have Hlen := Lib.hid hlen
  clear hlen
  have hC0 : RpC w A n c hs ((pairsL hs).take 0) (.slice none 0 0) 0 w := ⟨World.ownsRow_nil _ _ _ _, h, Below.refl _ _⟩
  clear h
  go_enter Try.func72, Try.ntmps72
  go_wp2_with fail
  go_loopw [3, 4] (fun v i wr => ∃ (m : Nat) (v' : Value), m ≤ n ∧ m % 2 = 0 ∧ i = .int .i64 m ∧ v' = v ∧ RpC w A n c hs ((pairsL hs).take (m / 2)) v' (m / 2) wr) (fun _ i _ => n - (intOf i).toNat)
  case atStart => exact ⟨0, _, by omega, rfl, rfl, rfl, hC0⟩
  case round =>
    clear hC0
    obtain ⟨m, v, hm, hm2, rfl, rfl, hC⟩ := hrel
    by_cases hlt : m + 1 < n
    · have hmlt : m < n := by omega
      obtain ⟨b, o, rfl, hb, -, -⟩ := hC.src.at_ (by omega)
      obtain ⟨ps, hps⟩ : ∃ ps, (pairsL hs).take (m / 2) = ps := ⟨_, rfl⟩
      rw [hps] at hC
      obtain ⟨l, hl⟩ : ∃ l, hs.getD m [] = l := ⟨_, rfl⟩
      obtain ⟨r, hr⟩ : ∃ r, hs.getD (m + 1) [] = r := ⟨_, rfl⟩
      have hll : l.length = 32 := by rw [← hl]; exact hC.src.all.getD _ (by rw [Hlen.out]; omega)
      have hrl : r.length = 32 := by rw [← hr]; exact hC.src.all.getD _ (by rw [Hlen.out]; omega)
      have hld : ∀ s : InC (fun W => Hs W (· < w.heap.size) (some ⟨b, o, none⟩) n c hs ∧ Below w.heap.size w W), (Instr.loadAt 26 (.pointer (some ⟨b, o + m * 32, none⟩))).run Try.prog s.W = .ok (.agg (l.map B).toArray) s.W ∧ (Instr.loadAt 26 (.pointer (some ⟨b, o + (m + 1) * 32, none⟩))).run Try.prog s.W = .ok (.agg (r.map B).toArray) s.W := fun s => by
        obtain ⟨b', o', hA, -, -, hat⟩ := s.ok.1.at_ (by omega)
        cases hA
        exact ⟨by rw [← hl]; exact hat m (by omega), by rw [← hr]; exact hat (m + 1) (by omega)⟩
      have hnd := fun W : World => hrnode_any l r W hll hrl
      obtain ⟨x, hx⟩ : ∃ x, hNode l r = x := ⟨_, rfl⟩
      have hxl : x.length = 32 := by rw [← hx]; exact length_hNode l r
      rw [hx] at hnd
      have htk : ps ++ [x] = (pairsL hs).take (m / 2 + 1) := by
        rw [pairsL_take hs (m / 2) (by rw [Hlen.out]; omega), hps, show 2 * (m / 2) = m by omega, hl, hr, hx]
      have Hld := Lib.hid hld
      have Hnd := Lib.hid hnd
      have Hxl := Lib.hid hxl
      have Htk := Lib.hid htk
      clear hps hl hr hll hrl hld hnd hx hxl htk
      go_wp2_with fail
      have hS0 : Hs wr.drew (· < w.heap.size) (some ⟨b, o, none⟩) n c hs ∧ Below w.heap.size w wr.drew := ⟨hC.src.drew, hC.bel.drew⟩
      have hC1 := hC.drew
      clear hC
      have hw1 : IntKind.i64.wrap ((m : Int) + 1) = (m : Int) + 1 := by rw [IntKind.wrap_i64]; omega
      have hw2 : (0 : Int) ≤ (m : Int) + 1 := by omega
      have hw3 : ((m : Int) + 1).toNat = m + 1 := by omega
      refine wp_region_mix (fun W => Hs W (· < w.heap.size) (some ⟨b, o, none⟩) n c hs ∧ Below w.heap.size w W) [(0, true), (1, true), (2, true), (3, true), (4, true), (5, true), (6, true), (7, true), (8, true), (9, true), (10, false), (11, false), (12, false), (13, true)] (by kernel_rfl) (by kernel_rfl) hS0 fun _ => ?_
      simp only [List.map_cons, List.map_nil, Array.getD_eq_getD_getElem?, List.getElem?_toArray, List.getElem?_cons_succ, List.getElem?_cons_zero, Option.getD_some]
      iterate 4 (refine wpMix_s (fun K hK => ?_); go_simp; refine hK _ ?_; clear hK K)
      refine wpMix_load (by kernel_rfl) 26 (.tmp 15) rfl b (o + m * 32) rfl (l.map B).toArray (fun s => (Hld.out s).1) ?_
      simp only [Act.put]
      iterate 4 (refine wpMix_s (fun K hK => ?_); go_simp; refine hK _ ?_; clear hK K)
      refine wpMix_load (by kernel_rfl) 26 (.tmp 20) rfl b (o + (m + 1) * 32) rfl (r.map B).toArray (fun s => (Hld.out s).2) ?_
      simp only [Act.put]
      refine wpMix_c (fun K hK => ?_) hS0
      go_simp
      refine (Hnd.out _).mono ?_
      rintro e W3 ⟨rfl, hbe⟩
      have hC3 := hC1.step hbe
      clear hC1 hS0
      refine hK _ _ ⟨⟨hC3.src, hC3.bel⟩, ?_⟩
      clear hK K hbe
      clear hw1 hw2 hw3
      have h32 : H32 [x] := by intro h hh; rw [List.mem_singleton.1 hh]; exact Hxl.out
      have hbA : Below W3.heap.size W3 (W3.alloc (.cells (hcells [x]).toArray 26)) := (Below.refl _ _).alloc (Nat.le_refl _) _
      have hC4 := hC3.step hbA
      obtain ⟨v3, w4, hr3, ho3, hg3, -⟩ := append_slv (ty := 57) Try.underlying57 info26z (by simp [Value.cells]) (by decide) hC4.own (Hs.lit W3 [x] h32 (by simp) 1 rfl).sl (oneB _) (by unfold maxLen; omega) (by omega) hC4.bel.size
      rw [← hcells_append, Htk.out] at ho3
      have hC5 : RpC w (some ⟨b, o, none⟩) n c hs ((pairsL hs).take (m / 2 + 1)) v3 (m / 2 + 1) w4 := ⟨ho3, hC4.src.grown hg3 fun b _ hb e => by have := (hC4.own.lt b e.symm).1; omega, hC4.bel.grown hg3 hC4.bel.size (fun k hk => (hC4.own.lt k hk).1)⟩
      have Hr3 := Lib.hid hr3
      clear hr3 ho3 hg3 hC3
      refine wpMix_run (by kernel_rfl) _ _ (run_lit_op [x] h32 (by simp) (by simp) 1 _ rfl (by simp [Act.eval]) rfl _) ⟨hC4.src, hC4.bel⟩ ?_
      simp only [Act.put]
      refine wpMix_run (by kernel_rfl) v3 w4 (run_append_op (.tmp 12) (.tmp 23) 57 rfl _ _ rfl rfl Hr3.out) ⟨hC5.src, hC5.bel⟩ ?_
      simp only [Act.put]
      refine wpMix_s (fun K hK => ?_)
      go_simp
      refine hK _ ?_
      clear hK K hC4
      refine wpMix_nil ?_
      intro _
      go_wp2_with fail
      go_roundw
      case rel => exact ⟨m + 2, v3, by omega, by omega, by go_num, rfl, by rw [show (m + 2) / 2 = m / 2 + 1 by omega]; exact hC5⟩
      case measure => simp [intOf]; omega
    · have hmn : m / 2 = n / 2 := by omega
      have ho := hC.own
      rw [hmn, List.take_of_length_le (by rw [length_pairsL, Hlen.out]; omega)] at ho
      obtain ⟨A2, c2, rfl, hs2⟩ := Hs.of_owns ho (by rw [length_pairsL, Hlen.out]) (pairsL_all hs)
      have hB := hC.bel
      clear hmn ho hC
      go_wp2_with fail
      go_ret
      exact ⟨A2, c2, rfl, hs2.weak fun _ _ hx => hx.1, hB⟩
end Go.Proofs.Ytdkgndjomkbbjaa
