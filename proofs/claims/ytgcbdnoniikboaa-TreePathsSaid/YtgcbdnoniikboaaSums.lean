/- sha.Sum over parts; Write. -/
import Derived.Test.YtgcbdnoniikboaaSum
namespace Go.Proofs.Ytgcbdnoniikboaa
open Go.RowKit

theorem flatten_take_succ (ls : List (List UInt8)) (k : Nat) (h : k < ls.length) : (ls.take (k + 1)).flatten = (ls.take k).flatten ++ ls[k] := by
  rw [List.take_succ_eq_append_getElem h, List.flatten_append]; simp
theorem flatten_take_le (ls : List (List UInt8)) (k : Nat) : (ls.take k).flatten.length ≤ ls.flatten.length := by
  have := congrArg (fun l => (List.flatten l).length) (List.take_append_drop k ls)
  simp only [List.flatten_append, List.length_append] at this
  omega

set_option maxHeartbeats 400000 in
set_option maxRecDepth 100000 in
theorem shasum_any (ls : List (List UInt8)) (A : Option Addr) (n c : Nat) (w : World) (hn : n = ls.length) (h : BsS w (· < w.heap.size) A ls) (hmax : n ≤ 9223372036854775807) (hl : ls.flatten.length ≤ 1152921504606846976) :
    Calls Try.prog 78 #[.slice A n c] w fun e w' => e = .returned (.agg ((sha256 ls.flatten).map B).toArray) ∧ Below w.heap.size w w' := by
  have Hn := Lib.hid hn
  clear hn
  obtain ⟨vs, hvs, hvl, hvi⟩ := h
  have Hvl := Lib.hid hvl
  have Hvi := Lib.hid hvi
  clear hvl hvi
  have hz : (w.alloc (.cells zeroHash 34)).heap.size = w.heap.size + 1 := by simp
  go_enter Try.func78, Try.ntmps78
  go_wp2_with (go_at_call 82; refine (new_any _).mono ?_; rintro e w1 ⟨g, rfl, hg, hsh, hb1⟩)
  have hgN : w.heap.size < g := by simp at hg; omega
  have hb0 : Below w.heap.size w w1 := ((Below.refl _ _).alloc (Nat.le_refl _) _).trans (hb1.mono (by simp))
  have hr0 : Blk w1 w.heap.size 34 ((List.replicate 32 0).map B).toArray := (Blk.new w 34 _).below hb1 (by simp)
  clear hb1 hg
  go_loopw [9] (fun i wr => ∃ k : Nat, k ≤ n ∧ i = .int .i64 k ∧ Sh wr g (Und.new.take (ls.take k).flatten) ∧ Blk wr w.heap.size 34 ((List.replicate 32 0).map B).toArray ∧ Below w.heap.size w wr) (fun i _ => n - (intOf i).toNat)
  case atStart => exact ⟨0, by omega, rfl, by simpa [Und.take_nil _ Und.new_ok] using hsh, hr0, hb0⟩
  case round =>
    clear hsh hr0 hb0
    obtain ⟨k, hk, rfl, hsh, hr, hb⟩ := hrel
    by_cases hlt : k < n
    · have hkl : k < ls.length := by have := Hn.out; omega
      obtain ⟨Ai, ci, hv, hc, hbi⟩ := Hvi.out k hkl
      obtain ⟨b0, o0, hA, hb0, _, hcell⟩ := hvs.at_ (by rw [Hvl.out]; omega)
      have hce : wr.cell? ⟨b0, o0 + k, none⟩ = some (.slice Ai (ls[k]).length ci) := by
        rw [hb.cell (p := ⟨b0, o0 + k, none⟩) hb0]; exact hcell k _ hv
      have hfl := flatten_take_succ ls k hkl
      have hfl2 := flatten_take_le ls (k + 1)
      have hll : (Und.new.take (ls.take k).flatten).len + (ls[k]).length < 9223372036854775808 := by
        rw [Und.take_len, show Und.new.len = 0 from rfl]
        rw [hfl, List.length_append] at hfl2
        omega
      have hbi2 : Bs wr (· ≠ g) Ai ((ls[k]).map B) := (hbi.below hb (fun _ _ h => h)).weak (fun b _ hx => by have : b < w.heap.size := hx; omega)
      have htk := take_any g _ (ls[k]) Ai ci wr hsh hbi2 hc hll
      rw [Und.take_take, ← hfl] at htk
      subst hA
      have Hfl := Lib.hid hfl
      clear hfl hfl2 hll hbi hbi2 hv
      generalize (ls[k]).length = m at *
      go_wp2_with (go_at_call 83; refine htk.mono ?_; rintro e w2 ⟨rfl, hsh2, hg2⟩)
      go_roundw
      case rel => exact ⟨k + 1, by omega, by go_num, hsh2, hr.grown hg2 (by simp; omega), hb.grown hg2 hb.size (by simp; omega)⟩
      case measure => simp [intOf]; omega
    · have hkn : k = ls.length := by have := Hn.out; omega
      rw [hkn, List.take_length] at hsh
      have hll : (Und.new.take ls.flatten).len ≤ 1152921504606846976 := by rw [Und.take_len, show Und.new.len = 0 from rfl]; omega
      have hs := sum_any g _ wr hsh hll
      rw [show (Und.new.take ls.flatten).sum = sha256 ls.flatten from rfl] at hs
      obtain ⟨r, hr5⟩ : ∃ r, sha256 ls.flatten = r := ⟨_, rfl⟩
      have hrl : r.length = 32 := by rw [← hr5]; exact length_sha256 _
      rw [hr5] at hs
      have Hrl := Lib.hid hrl
      have Hr5 := Lib.hid hr5
      clear hrl hr5 hkn hll
      go_wp2_with (first
        | (go_at_call 84; refine hs.mono ?_; rintro e w2 ⟨rfl, hb2⟩; have hr2 := hr.below hb2 hr.lt)
        | ((with_reducible show wpList _ _ _ (⟨none, .store _ _ _, _, _, _, _⟩ :: _) _ _); refine wpList_store_blk rfl 34 (.tmp 2) (.tmp 18) rfl 32 size26 w.heap.size (r.map B).toArray rfl rfl (by simp [Hrl.out]) (oneCell_B _) 34 _ hr2 (by simp) ?_))
      refine bodyPost_ret (results_cell_row rfl _ _ w.heap.size 34 (r.map B).toArray (0, 0) _ rfl (hr2.setRow_ _) Try.underlying34 rfl (by rw [show (r.map B).toArray.size = 32 by simp [Hrl.out]]; exact info26)) rfl ⟨by rw [Hr5.out], ?_⟩
      exact below_setRow (hb.trans (hb2.mono hb.size)) (Nat.le_refl _) _
end Go.Proofs.Ytgcbdnoniikboaa
