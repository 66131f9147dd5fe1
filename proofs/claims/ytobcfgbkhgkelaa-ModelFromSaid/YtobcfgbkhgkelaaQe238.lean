/- A row of bytes of one's own, whatever is in it. (As in AudSp, without chapter 13: not both in one seat.) -/
import Derived.Test.YtobcfgbkhgkelaaQe207
import Derived.Maps.Range
namespace Go.Proofs.Ytobcfgbkhgkelaa
open Go Go.RowKit

/-- a row of bytes of one's own, whatever is in it -/
def OwnAny (w : World) (base : Nat) (v : Value) (n : Nat) : Prop := ∃ xs, w.ownsRow base 5 1 v n xs
theorem OwnAny.setCell {w : World} {base n : Nat} {v : Value} (h : OwnAny w base v n) (g i : Nat) (u : Value) : OwnAny (w.setCell ⟨g, i, none⟩ u) base v n := by
  obtain ⟨xs, hl, h⟩ := h
  rcases h with h | ⟨g', cap, cur, rfl, hb, hg, hn, hc, hs, ht⟩
  · exact ⟨xs, hl, .inl h⟩
  · by_cases e : g' = g
    · subst e
      refine ⟨(cur.setIfInBounds i u).toList.take (n * 1), by simp [hs]; omega, .inr ⟨g', cap, _, rfl, hb, Blk.set_ hg i u, hn, hc, by simp [hs], rfl⟩⟩
    · exact ⟨xs, hl, .inr ⟨g', cap, cur, rfl, hb, Blk.apart hg e u, hn, hc, hs, ht⟩⟩
theorem OwnAny.at_ {w : World} {base n : Nat} {v : Value} (h : OwnAny w base v n) (hn : 0 < n) : ∃ g c, v = .slice (some ⟨g, 0, none⟩) n c ∧ base ≤ g ∧ g < w.heap.size ∧ n ≤ c ∧ c ≤ maxLen ∧ ∀ i, i < n → (∃ u, w.cell? ⟨g, i, none⟩ = some u) ∧ w.frozen? ⟨g, i, none⟩ = false := by
  obtain ⟨xs, hl, h⟩ := h
  rcases h with h | ⟨g', cap, cur, rfl, hb, hg, hn', hc, hs, ht⟩
  · omega
  · refine ⟨g', cap, rfl, hb, Blk.lt hg, hn', hc, fun i hi => ⟨⟨cur[i]'(by omega), ?_⟩, Blk.frozen hg i⟩⟩
    rw [Blk.cell hg, Array.getElem?_eq_getElem (by omega)]
theorem OwnAny.alloc {w : World} {base n : Nat} {v : Value} (h : OwnAny w base v n) (o : Obj) : OwnAny (w.alloc o) base v n := let ⟨xs, h⟩ := h; ⟨xs, h.alloc o⟩
theorem OwnAny.shape {w : World} {base n : Nat} {v : Value} (h : OwnAny w base v n) : ∃ A c, v = .slice A n c ∧ n ≤ c ∧ c ≤ maxLen ∧ (∀ a, A = some a → a.block < w.heap.size) := by
  obtain ⟨xs, hl, h⟩ := h
  rcases h with ⟨rfl, rfl⟩ | ⟨g', cap, cur, rfl, hb, hg, hn', hc, hs, ht⟩
  · exact ⟨none, 0, rfl, Nat.le_refl _, Nat.zero_le _, fun a e => by cases e⟩
  · exact ⟨_, cap, rfl, hn', hc, fun a e => by cases e; exact Blk.lt hg⟩

theorem OwnAny.step {w W : World} {base n : Nat} {v : Value} (h : OwnAny w base v n) (hb : Below w.heap.size w W) : OwnAny W base v n := let ⟨xs, h⟩ := h; ⟨xs, owns_step h hb⟩
/-- one more byte is put behind it -/
theorem OwnAny.app {a w : World} {base n : Nat} {v v1 : Value} (h : OwnAny w base v n) (hg : a.grownBy w v1.ownBlock) (hv : v.ownBlock = v1.ownBlock ∨ ∃ k, v.ownBlock = some k ∧ a.heap.size ≤ k) (x : UInt8) (hn : n ≤ 1099511627776) (hbase : base ≤ w.heap.size) :
    ∃ v' w', (Builtin.append_ #[22, 22] 22 #[v, .slice (some ⟨w.heap.size, 0, none⟩) 1 1]).run Try.prog (w.alloc (.cells #[B x] 5)) = .ok v' w' ∧ OwnAny w' base v' (n + 1) ∧ a.grownBy w' v1.ownBlock ∧ (v'.ownBlock = v1.ownBlock ∨ ∃ k, v'.ownBlock = some k ∧ a.heap.size ≤ k) := by
  obtain ⟨xs, h⟩ := h
  have hba : Below w.heap.size w (w.alloc (.cells #[B x] 5)) := (Below.refl _ _).alloc (Nat.le_refl _) _
  obtain ⟨v', w', hr, ho, hg', hv'⟩ := append_slv (ty := 22) Try.underlying22 info5 rfl (by decide) (owns_step h hba) (SlV.lit (s := 1) (n := 1) w (fun _ => True) 5 [B x] rfl (by decide) trivial) (by simp [Value.oneCell']) (by unfold maxLen; omega) (by omega) (Nat.le_trans hbase hba.size)
  refine ⟨v', w', hr, ⟨_, ho⟩, (grown_below hg hba).andThen hg' fun j hj => ?_, ?_⟩
  · rcases hv with hv | ⟨k, hv, hk⟩
    · rw [hv] at hj; exact .inr hj
    · rw [hv] at hj; cases hj; exact .inl hk
  · rcases hv' with hv' | ⟨k, hv', hk⟩
    · rw [hv']; exact hv
    · exact .inr ⟨k, hv', Nat.le_trans hg.size (Nat.le_trans hba.size hk)⟩
end Go.Proofs.Ytobcfgbkhgkelaa
