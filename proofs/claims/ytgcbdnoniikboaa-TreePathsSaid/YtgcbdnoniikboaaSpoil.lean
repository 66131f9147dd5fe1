/- A row of one's own, written over. -/
import Derived.Test.YtgcbdnoniikboaaHLit
namespace Go.Proofs.Ytgcbdnoniikboaa
open Go Go.RowKit

theorem put_take {α : Type} (cur vs : List α) (a s m : Nat) (hv : vs.length = s) (hm : a + s ≤ m) (hc : a + s ≤ cur.length) :
    (cur.take a ++ vs ++ cur.drop (a + s)).take m = (cur.take m).take a ++ vs ++ (cur.take m).drop (a + s) := by
  have h1 : (cur.take a ++ vs).length = a + s := by rw [List.length_append, List.length_take, hv]; omega
  rw [List.take_append, h1, List.take_of_length_le (by rw [h1]; exact hm), List.take_take, Nat.min_eq_left (by omega), List.drop_take]
/-- one element is written over -/
theorem owns_put {w : World} {base g n c s : Nat} {e : TypeId} {xs : List Value} (h : w.ownsRow base e s (.slice (some ⟨g, 0, none⟩) n c) n xs) (k : Nat) (hk : k < n) (vs : List Value) (hv : vs.length = s) :
    ∃ cur : Array Value, Blk w g e cur ∧ k * s + s ≤ cur.size ∧ base ≤ g ∧
      (w.setRow g (cur.toList.take (k * s) ++ vs ++ cur.toList.drop (k * s + s)).toArray).ownsRow base e s (.slice (some ⟨g, 0, none⟩) n c) n (xs.take (k * s) ++ vs ++ xs.drop (k * s + s)) := by
  have hl := h.1
  rcases h.2 with ⟨hv, _⟩ | ⟨g', cap, cur, hv', hbg, hg, hnc, hcm, hcs, ht⟩
  · cases hv
  · cases hv'
    have hks : k * s + s ≤ n * s := by rw [← Nat.succ_mul]; exact Nat.mul_le_mul_right _ hk
    have hns : n * s ≤ c * s := Nat.mul_le_mul_right _ hnc
    have hsz : k * s + s ≤ cur.size := by omega
    refine ⟨cur, hg, hsz, hbg, ?_, .inr ⟨g, c, _, rfl, hbg, Blk.setRow_ hg _, hnc, hcm, ?_, ?_⟩⟩
    · simp only [List.length_append, List.length_take, List.length_drop, hv, hl]; omega
    · simp only [List.size_toArray, List.length_append, List.length_take, List.length_drop, hv, Array.length_toList, hcs]; omega
    · rw [put_take cur.toList vs (k * s) s (n * s) hv hks (by simpa using hsz), ht]
theorem Hs.of_owns {w : World} {base n : Nat} {v : Value} {hs : List (List UInt8)} (h : w.ownsRow base 34 32 v n (hcells hs)) (hn : hs.length = n) (ha : H32 hs) :
    ∃ A c, v = .slice A n c ∧ Hs w (fun b => base ≤ b ∧ some b = v.ownBlock) A n c hs := by
  obtain ⟨A, c, hv, hs⟩ := owns_slv h
  exact ⟨A, c, hv, hs, hn, ha⟩
/-- the hash of one byte and nothing more -/
def oneHash (b : UInt8) : List UInt8 := b :: List.replicate 31 0
theorem length_oneHash (b : UInt8) : (oneHash b).length = 32 := by simp [oneHash]
end Go.Proofs.Ytgcbdnoniikboaa
