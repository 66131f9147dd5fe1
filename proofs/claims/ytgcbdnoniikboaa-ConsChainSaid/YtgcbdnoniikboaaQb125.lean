/- Drawing regions within a round. No program in sight. -/
import Derived.Test.YtgcbdnoniikboaaQb123
import Derived.Test.YtgcbdnoniikboaaQb106
namespace Go.Proofs.Ytgcbdnoniikboaa
open Go Go.RowKit

theorem wpAnyIn_of_any {F : Fence} (hF : Fence.Open F) {n : Nat} {P : Program} {md : Region.Mode} {ops : Array Oper} {Q : Exit → Act → World → Prop} (hd : noDefer ops.toList = true) (hout : ∀ a w, ¬ Q .outgrown a w) : ∀ (fuel : Nat) (listed : Array Bool) (a : Act) (w : World),
    wpAny P md ops (NoPanic Q) fuel listed a w → wpAnyIn F n P md ops (NoPanic Q) fuel listed a w
  | 0, _, _, _, h => h
  | fuel + 1, listed, a, w, h => by
    refine ⟨h.1, fun i hi => ?_⟩
    have h1 := h.2 i hi
    unfold wpOp at h1
    unfold wpOpIn
    split at h1
    · rename_i ho
      rw [ho]
      exact wpAnyIn_of_any hF hd hout fuel _ _ _ h1
    · rename_i o ho
      rw [ho]
      dsimp only
      have hm : o ∈ ops.toList := by
        obtain ⟨hl, he⟩ := Array.getElem?_eq_some_iff.1 ho
        rw [← he]
        simp
      split
      · rename_i hw
        rw [if_pos hw] at h1
        rcases h1 with h1 | ⟨_, a', w', h1⟩
        · refine Oper.wpIn_of_wp hF (noDefer_op hd o hm) (Oper.wp_mono (fun a w => wpAnyIn_of_any hF hd hout fuel _ a w) h1)
        · exact (hout a' w' h1).elim
      · rename_i hw
        rw [if_neg hw] at h1
        exact ⟨fun f _ => hF.fn_ f, wpAnyIn_of_any hF hd hout fuel _ _ _ h1⟩
theorem wpIn_region_begin {P : Program} {id : Nat} {Q : Exit → Act → World → Prop} {a : Act} {w : World} {l : List Oper} {F : Fence} {m : Nat} (hF : Fence.Open F) (hnd : noDefer l = true) (hout : ∀ a w, ¬ Q .outgrown a w) (S : World → Prop) (hm : P.follows .mixedOrders = true) (hS : S w.drew)
    (h : Nonempty (InC S) → wpAnyH P .any l.toArray (NoPanic Q) S l.length (Array.replicate l.length false) a w.drew) : (Code.region id l.toArray true).wpIn F m P Q a w := by
  refine wpIn_mono (Q := NoPanic Q) (wpIn_region_any hm (wpAnyIn_of_any hF (by simpa using hnd) hout _ _ _ _ ?_)) NoPanic.imp
  have := wpAny_of_held _ _ _ _ (h ⟨⟨_, hS⟩⟩)
  simpa using this
/-- .. where one order serves -/
theorem wpIn_region_mix0 {P : Program} {id : Nat} {Q : Exit → Act → World → Prop} {a : Act} {w : World} {l : List Oper} {F : Fence} {m : Nat} (hF : Fence.Open F) (hnd : noDefer l = true) (hout : ∀ a w, ¬ Q .outgrown a w) (S : World → Prop) (order : List (Nat × Bool)) (hm : P.follows .mixedOrders = true)
    (hB : (Region.noSelect l.toArray && (order.length == l.length) && ((mixTo l.toArray order (Array.replicate l.length false)).map fun x => (Region.ready .any l.toArray x).isEmpty).getD false) = true) (hS : S w.drew)
    (h : Nonempty (InC S) → wpMix0 P l.toArray S Q (fun a w => S w → Q .normal a w) (order.map fun x => (l.toArray.getD x.1 default, x.2)) a w.drew) : (Code.region id l.toArray true).wpIn F m P Q a w := by
  simp only [Bool.and_eq_true, beq_iff_eq] at hB
  obtain ⟨⟨hsel, hlen⟩, hmix⟩ := hB
  refine wpIn_region_begin hF hnd hout S hm hS fun hne => ?_
  cases hx : mixTo l.toArray order (Array.replicate l.length false) with
  | none => rw [hx] at hmix; cases hmix
  | some listed' =>
    rw [hx] at hmix
    have hmono : ∀ (m : List (Oper × Bool)) (K K' : Act → World → Prop) (hK : ∀ a w, K a w → K' a w) (a : Act) (w : World), wpMix0 P l.toArray S Q K m a w → wpMix0 P l.toArray S Q K' m a w := by
      intro m K K' hK
      induction m with
      | nil => exact fun a w h => hK a w h
      | cons x m ih =>
        obtain ⟨o, b⟩ := x
        intro a w h
        cases b with
        | true =>
          simp only [wpMix0] at h ⊢
          split
          · rename_i hw; rw [if_pos hw] at h; obtain ⟨v, h1, h2⟩ := h; exact ⟨v, h1, ih _ _ h2⟩
          · rename_i hw; rw [if_neg hw] at h; exact ih _ _ h
        | false =>
          simp only [wpMix0] at h ⊢
          split
          · rename_i hw; rw [if_pos hw] at h; exact Oper.wp_mono (fun a' w' ⟨h1, h2⟩ => ⟨h1, ih _ _ h2⟩) h
          · rename_i hw; rw [if_neg hw] at h; exact ih _ _ h
    have := wpAnyH_pre0 (P := P) (Q := Q) (S := S) hsel 0 listed' order (Array.replicate l.length false) a w.drew hx hS
      (hmono _ _ _ (fun a' w' h' hs => wpAnyH_end hmix (h' hs)) _ _ (h hne))
    rw [Nat.add_zero, hlen] at this
    exact this
theorem wpIn_region_mix {P : Program} {id : Nat} {Q : Exit → Act → World → Prop} {a : Act} {w : World} {l : List Oper} {F : Fence} {m : Nat} (hF : Fence.Open F) (hnd : noDefer l = true) (hout : ∀ a w, ¬ Q .outgrown a w) (S : World → Prop) (order : List (Nat × Bool)) (hm : P.follows .mixedOrders = true)
    (hB : (Region.noSelect l.toArray && (order.length == l.length) && ((mixTo l.toArray order (Array.replicate l.length false)).map fun x => (Region.ready .any l.toArray x).isEmpty).getD false) = true) (hS : S w.drew)
    (h : Nonempty (InC S) → wpMix P l.toArray S Q (fun a w => S w → Q .normal a w) (order.map fun x => (l.toArray.getD x.1 default, x.2)) a w.drew) : (Code.region id l.toArray true).wpIn F m P Q a w :=
  wpIn_region_mix0 hF hnd hout S order hm hB hS fun hne => (h hne).out

/-- THE LAW: a head in an order of one's own, in a class; a last operation, which may do whatever. -/
theorem wpIn_region_mix_last0 {P : Program} {id : Nat} {Q : Exit → Act → World → Prop} {a : Act} {w : World} {l : List Oper} {F : Fence} {m : Nat} (hF : Fence.Open F) (hnd : noDefer l = true) (hout : ∀ a w, ¬ Q .outgrown a w) (S : World → Prop) (n : Nat) (order : List (Nat × Bool)) (hm : P.follows .mixedOrders = true)
    (hB : (Region.noSelect l.toArray && (order.length == n) && (n + 1 == l.length) && (order.all fun x => (x.1 != n) && (!x.2 || waitsB .any l.toArray n x.1)) &&
      ((mixTo l.toArray order (Array.replicate l.length false)).map fun x => (Region.ready .any l.toArray x == [n]) && (Region.ready .any l.toArray (x.setIfInBounds n true)).isEmpty).getD false) = true) (hS : S w.drew)
    (h : Nonempty (InC S) → wpMix0 P l.toArray S Q (fun a w => S w → wpList P l.toArray (NoPanic Q) (l.drop n) a w) (order.map fun x => (l.toArray.getD x.1 default, x.2)) a w.drew) : (Code.region id l.toArray true).wpIn F m P Q a w := by
  simp only [Bool.and_eq_true, beq_iff_eq] at hB
  obtain ⟨⟨⟨⟨hsel, hlen⟩, hn⟩, hall⟩, hmix⟩ := hB
  refine wpIn_mono (Q := NoPanic Q) (wpIn_region_any hm (wpAnyIn_of_any hF (by simpa using hnd) hout _ _ _ _ ?_)) NoPanic.imp
  cases hx : mixTo l.toArray order (Array.replicate l.length false) with
  | none => rw [hx] at hmix; cases hmix
  | some listed' =>
    rw [hx] at hmix
    simp only [Option.map_some, Option.getD_some, Bool.and_eq_true, beq_iff_eq, List.isEmpty_iff] at hmix
    obtain ⟨hr1, hr2⟩ := hmix
    have hmono : ∀ (m : List (Oper × Bool)) (K K' : Act → World → Prop) (hK : ∀ a w, K a w → K' a w) (a : Act) (w : World), wpMix0 P l.toArray S Q K m a w → wpMix0 P l.toArray S Q K' m a w := by
      intro m K K' hK
      induction m with
      | nil => exact fun a w h => hK a w h
      | cons x m ih =>
        obtain ⟨o, b⟩ := x
        intro a w h
        cases b with
        | true =>
          simp only [wpMix0] at h ⊢
          split
          · rename_i hw; rw [if_pos hw] at h; obtain ⟨v, h1, h2⟩ := h; exact ⟨v, h1, ih _ _ h2⟩
          · rename_i hw; rw [if_neg hw] at h; exact ih _ _ h
        | false =>
          simp only [wpMix0] at h ⊢
          split
          · rename_i hw; rw [if_pos hw] at h; exact Oper.wp_mono (fun a' w' ⟨h1, h2⟩ => ⟨h1, ih _ _ h2⟩) h
          · rename_i hw; rw [if_neg hw] at h; exact ih _ _ h
    have hd : l.drop n = [l.getD n default] := by
      rw [List.drop_eq_getElem_cons (by omega), List.drop_eq_nil_of_le (by omega)]
      simp [List.getD_eq_getElem?_getD, show n < l.length by omega]
    have ho : l.toArray[n]? = some (l.getD n default) := by simp [List.getD_eq_getElem?_getD, List.getElem?_eq_getElem (show n < l.length by omega)]
    have := wpAnyK_pre (P := P) (Q := Q) (S := S) (k := n) hsel 1 listed' order (Array.replicate l.length false) a w.drew hx hall hS
      (hmono _ _ _ (fun a' w' h' hs => by
        have hl := h' hs
        rw [hd] at hl
        refine ⟨fun h0 => (by rw [h0] at hr1; cases hr1), fun j hj => ?_⟩
        rw [hr1] at hj
        obtain rfl : j = n := by simpa using hj
        unfold wpList at hl
        unfold wpOp
        simp only [ho]
        split
        · rename_i hw
          rw [if_pos hw] at hl
          exact hl.imp (Oper.wp_mono (fun a'' w'' hq => ⟨fun hne => absurd rfl hne, hr2, hq⟩)) (fun h => h)
        · rename_i hw
          rw [if_neg hw] at hl
          exact ⟨fun hne => absurd rfl hne, hr2, hl⟩) _ _ (h ⟨⟨_, hS⟩⟩))
    have := wpAny_of_K _ _ _ _ this
    rw [hlen, hn] at this
    simpa using this
theorem wpIn_region_mix_last {P : Program} {id : Nat} {Q : Exit → Act → World → Prop} {a : Act} {w : World} {l : List Oper} {F : Fence} {m : Nat} (hF : Fence.Open F) (hnd : noDefer l = true) (hout : ∀ a w, ¬ Q .outgrown a w) (S : World → Prop) (n : Nat) (order : List (Nat × Bool)) (hm : P.follows .mixedOrders = true)
    (hB : (Region.noSelect l.toArray && (order.length == n) && (n + 1 == l.length) && (order.all fun x => (x.1 != n) && (!x.2 || waitsB .any l.toArray n x.1)) &&
      ((mixTo l.toArray order (Array.replicate l.length false)).map fun x => (Region.ready .any l.toArray x == [n]) && (Region.ready .any l.toArray (x.setIfInBounds n true)).isEmpty).getD false) = true) (hS : S w.drew)
    (h : Nonempty (InC S) → wpMix P l.toArray S Q (fun a w => S w → wpList P l.toArray (NoPanic Q) (l.drop n) a w) (order.map fun x => (l.toArray.getD x.1 default, x.2)) a w.drew) : (Code.region id l.toArray true).wpIn F m P Q a w :=
  wpIn_region_mix_last0 hF hnd hout S n order hm hB hS fun hne => (h hne).out
end Go.Proofs.Ytgcbdnoniikboaa
