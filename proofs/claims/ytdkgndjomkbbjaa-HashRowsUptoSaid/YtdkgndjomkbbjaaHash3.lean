/- hash.pairs. -/
import Derived.Test.YtdkgndjomkbbjaaHs
namespace Go.Proofs.Ytdkgndjomkbbjaa
open Go.RowKit

/-- the row over a row -/
def pairsL (hs : List (List UInt8)) : List (List UInt8) := (List.range (hs.length / 2)).map fun i => hNode (hs.getD (2 * i) []) (hs.getD (2 * i + 1) [])
theorem length_pairsL (hs : List (List UInt8)) : (pairsL hs).length = hs.length / 2 := by simp [pairsL]
theorem pairsL_all (hs : List (List UInt8)) : H32 (pairsL hs) := fun h hh => by
  obtain ⟨i, _, rfl⟩ := List.mem_map.1 hh
  exact length_hNode _ _
theorem pairsL_take (hs : List (List UInt8)) (k : Nat) (hk : k < hs.length / 2) : (pairsL hs).take (k + 1) = (pairsL hs).take k ++ [hNode (hs.getD (2 * k) []) (hs.getD (2 * k + 1) [])] := by
  rw [List.take_succ_eq_append_getElem (by rw [length_pairsL]; exact hk)]
  simp [pairsL]
/-- a row that is half full -/
def halfRow (ps : List (List UInt8)) (m : Nat) : Array Value := (hcells ps ++ (List.replicate ((m - ps.length) * 32) (0 : UInt8)).map B).toArray
theorem halfRow_size (ps : List (List UInt8)) (m : Nat) (h : H32 ps) (hm : ps.length ≤ m) : (halfRow ps m).size = m * 32 := by
  simp only [halfRow, List.size_toArray, List.length_append, hcells_len ps h, List.length_map, List.length_replicate]
  rw [← Nat.add_mul]; congr 1; omega
theorem halfRow_put (ps : List (List UInt8)) (m : Nat) (x : List UInt8) (h : H32 ps) (_hx : x.length = 32) (hm : ps.length < m) :
    ((halfRow ps m).toList.take (ps.length * 32) ++ (x.map B).toArray.toList ++ (halfRow ps m).toList.drop (ps.length * 32 + 32)).toArray = halfRow (ps ++ [x]) m := by
  have hl := hcells_len ps h
  simp only [halfRow]
  rw [← hl, List.take_left, List.drop_append, List.drop_eq_nil_of_le (by omega)]
  simp only [hcells_append, List.nil_append, List.length_append, List.length_singleton]
  rw [show (hcells ps).length + 32 - (hcells ps).length = 32 by omega, ← List.map_drop, List.drop_replicate]
  have e : (m - ps.length) * 32 - 32 = (m - (ps.length + 1)) * 32 := by omega
  rw [e]
  simp [hcells]

structure PrC (w : World) (A : Option Addr) (n c : Nat) (hs ps : List (List UInt8)) (W : World) : Prop where
  row : Blk W w.heap.size 26 (halfRow ps (n / 2))
  src : Hs W (· < w.heap.size) A n c hs
  bel : Below w.heap.size w W
theorem PrC.step {w W W' : World} {A : Option Addr} {n c : Nat} {hs ps : List (List UInt8)} (h : PrC w A n c hs ps W) (hb : Below W.heap.size W W') : PrC w A n c hs ps W' := ⟨h.row.below hb h.row.lt, h.src.step hb, h.bel.trans (hb.mono h.bel.size)⟩

set_option maxHeartbeats 1000000 in
set_option maxRecDepth 100000 in
theorem pairs_any (hs : List (List UInt8)) (A : Option Addr) (n c : Nat) (w : World) (h : Hs w (· < w.heap.size) A n c hs) (hn : n ≤ 4398046511104) :
    Calls Try.prog 74 #[.slice A n c] w fun e w' => ∃ g, e = .returned (.slice (some ⟨g, 0, none⟩) (n / 2) (n / 2)) ∧ w.heap.size ≤ g ∧ Blk w' g 26 (hcells (pairsL hs)).toArray ∧ Below w.heap.size w w' := by
  have hmk := run_make_hash w (n / 2) (by omega)
  rw [show (List.replicate (n / 2 * 32) (0 : UInt8)).map B = hcells [] ++ (List.replicate ((n / 2 - 0) * 32) (0 : UInt8)).map B from rfl] at hmk
  have hmk' : (Instr.makeSlice 57 (.int .i64 ((n : Int) / 2)) (.int .i64 ((n : Int) / 2))).run Try.prog w = .ok (.slice (some ⟨w.heap.size, 0, none⟩) (n / 2) (n / 2)) (w.alloc (.cells (halfRow [] (n / 2)) 26)) := by
    rw [show (n : Int) / 2 = ((n / 2 : Nat) : Int) by omega]; exact hmk
  obtain ⟨cs, hcs⟩ : ∃ cs, halfRow [] (n / 2) = cs := ⟨_, rfl⟩
  rw [hcs] at hmk'
  have hlen := h.len
  have Hcs := Lib.hid hcs
  have Hlen := Lib.hid hlen
  clear hmk hcs hlen
  have hnn : (0 : Int) ≤ (n : Int) := by omega
  have hnm : (n : Int) ≤ 4398046511104 := by omega
  go_enter Try.func74, Try.ntmps74
  go_wp2_with fail
  clear hmk'
  go_loopw [11] (fun i wr => ∃ k : Nat, k ≤ n / 2 ∧ i = .int .i64 k ∧ PrC w A n c hs ((pairsL hs).take k) wr) (fun i _ => n / 2 - (intOf i).toNat)
  case atStart => exact ⟨0, by omega, rfl, by rw [← Hcs.out]; exact Blk.new _ _ _, h.alloc _, (Below.refl _ _).alloc (Nat.le_refl _) _⟩
  case round =>
    obtain ⟨k, hk, rfl, hC⟩ := hrel
    by_cases hlt : k < n / 2
    · obtain ⟨b, o, rfl, hb, -, -⟩ := h.at_ (by omega)
      obtain ⟨ps, hps⟩ : ∃ ps, (pairsL hs).take k = ps := ⟨_, rfl⟩
      rw [hps] at hC
      have hpl : ps.length = k := by rw [← hps, List.length_take, length_pairsL, Hlen.out]; omega
      have hpa : H32 ps := by rw [← hps]; exact (pairsL_all hs).take k
      obtain ⟨l, hl⟩ : ∃ l, hs.getD (2 * k) [] = l := ⟨_, rfl⟩
      obtain ⟨r, hr⟩ : ∃ r, hs.getD (2 * k + 1) [] = r := ⟨_, rfl⟩
      have hll : l.length = 32 := by rw [← hl]; exact h.all.getD _ (by rw [Hlen.out]; omega)
      have hrl : r.length = 32 := by rw [← hr]; exact h.all.getD _ (by rw [Hlen.out]; omega)
      have hld : ∀ s : InC (PrC w (some ⟨b, o, none⟩) n c hs ps), (Instr.loadAt 26 (.pointer (some ⟨b, o + 2 * k * 32, none⟩))).run Try.prog s.W = .ok (.agg (l.map B).toArray) s.W ∧ (Instr.loadAt 26 (.pointer (some ⟨b, o + (2 * k + 1) * 32, none⟩))).run Try.prog s.W = .ok (.agg (r.map B).toArray) s.W := fun s => by
        obtain ⟨b', o', hA, -, -, hat⟩ := s.ok.src.at_ (by omega)
        cases hA
        exact ⟨by rw [← hl]; exact hat (2 * k) (by omega), by rw [← hr]; exact hat (2 * k + 1) (by omega)⟩
      have hnd := fun s : InC (PrC w (some ⟨b, o, none⟩) n c hs ps) => hnode_any l r s.W hll hrl
      obtain ⟨x, hx⟩ : ∃ x, hNode l r = x := ⟨_, rfl⟩
      have hxl : x.length = 32 := by rw [← hx]; exact length_hNode l r
      rw [hx] at hnd
      have hput := halfRow_put ps (n / 2) x hpa hxl (by omega)
      have hsz := halfRow_size ps (n / 2) hpa (by omega)
      have htk : ps ++ [x] = (pairsL hs).take (k + 1) := by rw [pairsL_take hs k (by rw [Hlen.out]; exact hlt), hps, hl, hr, hx]
      rw [hpl, htk] at hput
      have Hld := Lib.hid hld
      have Hnd := Lib.hid hnd
      have Hput := Lib.hid hput
      have Hsz := Lib.hid hsz
      have Hxl := Lib.hid hxl
      have hkn : (k : Int) < (n : Int) / 2 := by omega
      clear hps hpl hpa hl hr hll hrl hld hnd hx hxl hput hsz htk
      go_wp2_with fail
      refine wp_region_class_tail (PrC w (some ⟨b, o, none⟩) n c hs ps) 14 (by kernel_rfl) (by kernel_rfl) ⟨hC.row.drew, hC.src.drew, hC.bel.drew⟩ fun _ => ?_
      simp only [List.take_succ_cons, List.take_zero, List.drop_succ_cons, List.drop_zero]
      repeat (first | ((with_reducible refine wpQuiet_load rfl 26 (.tmp 19) rfl b (o + 2 * k * 32) rfl _ (fun s => (Hld.out s).1) ?_); simp only [Act.put, List.setIfInBounds_toArray, List.set_cons_succ, List.set_cons_zero]) | ((with_reducible refine wpQuiet_load rfl 26 (.tmp 25) rfl b (o + (2 * k + 1) * 32) rfl _ (fun s => (Hld.out s).2) ?_); simp only [Act.put, List.setIfInBounds_toArray, List.set_cons_succ, List.set_cons_zero]) | go_big_quiet_step ((go_at_call 36; refine (Hnd.out _).mono ?_; rintro e w' ⟨rfl, hbe⟩; exact ⟨rfl, ⟨_, PrC.step (InC.ok _) hbe⟩, rfl⟩)))
      refine wpQuiet_nil ?_
      intro W3 hC3
      go_wp2_with (refine wpList_store_agg rfl 26 (.tmp 28) (.tmp 27) rfl 32 size26 w.heap.size (k * 32) (x.map B).toArray rfl rfl (by simp [Hxl.out]) (oneCell_B _) 26 _ hC3.row (by rw [Hsz.out]; omega) ?_; rw [Hput.out]; simp only [Act.put]; refine wpList_world (PrC w (some ⟨b, o, none⟩) n c hs ((pairsL hs).take (k + 1))) ⟨hC3.row.setRow_ _, hC3.src.setRow _ _ (by simp), below_setRow hC3.bel (Nat.le_refl _) _⟩ ?_; intro W4 hC4)
      go_roundw
      case rel => exact ⟨k + 1, by omega, by go_num, hC4⟩
      case measure => simp [intOf]; omega
    · obtain rfl : k = n / 2 := by omega
      have hfull : halfRow ((pairsL hs).take (n / 2)) (n / 2) = (hcells (pairsL hs)).toArray := by
        rw [List.take_of_length_le (by rw [length_pairsL, Hlen.out]; omega), halfRow, length_pairsL, Hlen.out]
        simp
      have hrow := hC.row
      rw [hfull] at hrow
      have Hf := Lib.hid hfull
      clear hfull
      go_wp2_with fail
      go_ret
      exact ⟨w.heap.size, rfl, Nat.le_refl _, hrow, hC.bel⟩
end Go.Proofs.Ytdkgndjomkbbjaa
