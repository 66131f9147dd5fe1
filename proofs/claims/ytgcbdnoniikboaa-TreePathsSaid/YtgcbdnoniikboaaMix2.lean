/- As Mix, with one operation at the end that waits for all others and may undo what the class says. No program in sight. -/
import Derived.Test.YtgcbdnoniikboaaMix
namespace Go.Proofs.Ytgcbdnoniikboaa
open Go

section
variable {P : Program} {ops : Array Oper} {Q : Exit → Act → World → Prop} {md : Region.Mode} {S : World → Prop} {k : Nat}

def wpAnyK (P : Program) (md : Region.Mode) (ops : Array Oper) (Q : Exit → Act → World → Prop) (S : World → Prop) (k : Nat) : Nat → Array Bool → Act → World → Prop
  | 0, listed, a, w => Region.ready md ops listed = [] ∧ Q .normal a w
  | fuel + 1, listed, a, w =>
    (Region.ready md ops listed = [] → Q .normal a w) ∧
    ∀ i ∈ Region.ready md ops listed, wpOp P ops Q i (fun a' w' => (i ≠ k → S w') ∧ wpAnyK P md ops Q S k fuel (listed.setIfInBounds i true) a' w') a w

theorem wpAny_of_K : ∀ (fuel : Nat) (listed : Array Bool) (a : Act) (w : World), wpAnyK P md ops Q S k fuel listed a w → wpAny P md ops Q fuel listed a w
  | 0, _, _, _, h => h
  | fuel + 1, _, _, _, h => ⟨h.1, fun i hi => wpOp_mono (fun a' w' h' => wpAny_of_K fuel _ a' w' h'.2) (h.2 i hi)⟩

/-- k waits for i -/
def waitsB (md : Region.Mode) (ops : Array Oper) (k i : Nat) : Bool := ((ops[k]?).map fun o => o.after.any fun e => Region.binds md e && e.on == i).getD false
theorem waits_spec {i : Nat} {ok : Oper} (hk : ops[k]? = some ok) (h : waitsB md ops k i = true) : ∃ e ∈ ok.after, Region.binds md e = true ∧ e.on = i := by
  simp only [waitsB, hk, Option.map_some, Option.getD_some, Array.any_eq_true', Bool.and_eq_true, beq_iff_eq] at h
  exact h

theorem wpAnyK_first {i : Nat} {oi : Oper} {v : Value} (hi : ops[i]? = some oi) (hsel : ∀ (j : Nat) (o : Oper) cs b, ops[j]? = some o → o.op ≠ .select cs b) (hik : i ≠ k) (hw : waitsB md ops k i = true)
    (hQ : ∀ c a w, Q (.panic c) (a.put oi.dst v) w → Q (.panic c) a w) :
    ∀ (fuel : Nat) (listed : Array Bool) (a : Act) (w : World),
      (∀ j oj, ops[j]? = some oj → j ≠ i → listed.getD j true = false → (∀ e ∈ oj.after, Region.binds md e = true → e.on ≠ i) → oi.apart ops oj = true) →
      i ∈ Region.ready md ops listed → YieldsIf P ops S oi v a → S w →
      wpAnyK P md ops Q S k fuel (listed.setIfInBounds i true) (a.put oi.dst v) w → wpAnyK P md ops Q S k (fuel + 1) listed a w := by
  intro fuel
  induction fuel with
  | zero =>
    intro listed a w _ hr hy hS H
    refine ⟨fun h => (by rw [h] at hr; cases hr), fun j hj => ?_⟩
    by_cases hji : j = i
    · subst hji; exact hy.wpOp hi hS ⟨fun _ => hS, H⟩
    · have := ready_mono hj hji
      rw [H.1] at this
      cases this
  | succ fuel ih =>
    intro listed a w hfree hr hy hS H
    refine ⟨fun h => (by rw [h] at hr; cases hr), fun j hj => ?_⟩
    by_cases hji : j = i
    · subst hji; exact hy.wpOp hi hS ⟨fun _ => hS, H⟩
    · have h1 := H.2 j (ready_mono hj hji)
      obtain ⟨hjun, oj, hoj, hall⟩ := mem_ready.1 hj
      have hnot : ∀ e ∈ oj.after, Region.binds md e = true → e.on ≠ i := fun e he hb heq => by
        have h1 := hall e he hb
        have h0 := (mem_ready.1 hr).1
        rw [heq] at h1
        rcases Nat.lt_or_ge i listed.size with h' | h'
        · simp [h'] at h0 h1; rw [h0] at h1; cases h1
        · simp [Array.getElem?_eq_none h'] at h1
      have hjk : j ≠ k := fun e => by
        subst e
        obtain ⟨e, he, hb, ho⟩ := waits_spec hoj hw
        exact hnot e he hb ho
      have h2 := wpOp_putIf hoj (hfree j oj hoj hji hjun hnot) (fun cs b => hsel i oi cs b hi) (fun cs b => hsel j oj cs b hoj) hQ hy h1
      have hfree' : ∀ m ok, ops[m]? = some ok → m ≠ i → (listed.setIfInBounds j true).getD m true = false →
          (∀ e ∈ ok.after, Region.binds md e = true → e.on ≠ i) → oi.apart ops ok = true := fun m ok hm hmi hun hno => by
        refine hfree m ok hm hmi ?_ hno
        by_cases hjm : j = m
        · subst hjm; exact hjun
        · rw [getD_set_ne true hjm] at hun; exact hun
      refine wpOp_mono (fun a' w' h3 => ⟨fun _ => h3.2.1 hjk, ih (listed.setIfInBounds j true) a' w' hfree' (ready_mono hr (Ne.symm hji)) h3.1 (h3.2.1 hjk) ?_⟩) h2
      rw [Array.setIfInBounds_comm _ _ hji]
      exact h3.2.2

theorem wpAnyK_pre (hsel : Region.noSelect ops = true) (f : Nat) (listed' : Array Bool) : ∀ (l : List (Nat × Bool)) (listed : Array Bool) (a : Act) (w : World), mixTo ops l listed = some listed' →
    (l.all fun x => (x.1 != k) && (!x.2 || waitsB .any ops k x.1)) = true → S w →
    wpMix0 P ops S Q (fun a w => S w → wpAnyK P .any ops (NoPanic Q) S k f listed' a w) (l.map fun x => (ops.getD x.1 default, x.2)) a w → wpAnyK P .any ops (NoPanic Q) S k (l.length + f) listed a w
  | [], listed, a, w, hB, _, hS, h => by
    simp only [mixTo, Option.some.injEq] at hB
    subst hB
    simpa using h hS
  | (i, true) :: l, listed, a, w, hB, hall, hS, h => by
    simp only [List.all_cons, Bool.and_eq_true, bne_iff_ne, Bool.not_true, Bool.false_or] at hall
    simp only [mixTo] at hB
    split at hB
    case isFalse => cases hB
    rename_i hB0
    simp only [Bool.and_eq_true] at hB0
    obtain ⟨hr, hf⟩ := hB0
    have hr' : i ∈ Region.ready .any ops listed := by simpa using hr
    obtain ⟨_, oi, hoi, _⟩ := mem_ready.1 hr'
    have hget : ops.getD i default = oi := by simp [hoi]
    simp only [List.map_cons, wpMix0, hget] at h
    have hy : ∃ v, YieldsIf P ops S oi v a ∧ wpMix0 P ops S Q (fun a w => S w → wpAnyK P .any ops (NoPanic Q) S k f listed' a w) (l.map fun x => (ops.getD x.1 default, x.2)) (a.put oi.dst v) w := by
      by_cases hw : Region.wanted oi (yielded ops a.tmps) = true
      · rw [if_pos hw] at h
        obtain ⟨v, h1, h2⟩ := h
        exact ⟨v, .inl ⟨hw, fun w' hw' => h1 ⟨w', hw'⟩⟩, h2⟩
      · rw [if_neg hw] at h
        exact ⟨undef, .inr ⟨by simpa using hw, rfl⟩, h⟩
    obtain ⟨v, hy, h2⟩ := hy
    have := wpAnyK_first hoi (Region.noSelect_spec hsel) hall.1.1 hall.1.2 (fun _ _ _ hp => hp) (l.length + f) listed a w (Region.free_spec hoi hf) hr' hy hS
      (wpAnyK_pre hsel f listed' l _ _ w hB hall.2 hS h2)
    rw [List.length_cons, show l.length + 1 + f = l.length + f + 1 by omega]
    exact this
  | (i, false) :: l, listed, a, w, hB, hall, hS, h => by
    simp only [List.all_cons, Bool.and_eq_true] at hall
    simp only [mixTo] at hB
    split at hB
    case isFalse => cases hB
    rename_i hB0
    have hr : Region.ready .any ops listed = [i] := by simpa using hB0
    have hr' : i ∈ Region.ready .any ops listed := by rw [hr]; simp
    obtain ⟨_, oi, hoi, _⟩ := mem_ready.1 hr'
    have hget : ops.getD i default = oi := by simp [hoi]
    simp only [List.map_cons, wpMix0, hget] at h
    rw [List.length_cons, show l.length + 1 + f = l.length + f + 1 by omega]
    refine ⟨fun h0 => (by rw [h0] at hr; cases hr), fun j hj => ?_⟩
    rw [hr] at hj
    obtain rfl : j = i := by simpa using hj
    unfold wpOp
    simp only [hoi]
    by_cases hw : Region.wanted oi (yielded ops a.tmps) = true
    · rw [if_pos hw] at h ⊢
      exact .inl (Oper.wp_mono (fun a' w' ⟨h1, h2⟩ => ⟨fun _ => h1, wpAnyK_pre hsel f listed' l _ a' w' hB hall.2 h1 h2⟩) h)
    · rw [if_neg hw] at h ⊢
      exact ⟨fun _ => hS, wpAnyK_pre hsel f listed' l _ _ w hB hall.2 hS h⟩
end

/-- THE LAW: a head in an order of one's own, in a class; a last operation, which may do whatever. -/
theorem wp_region_mix_last0 {P : Program} {id : Nat} {Q : Exit → Act → World → Prop} {a : Act} {w : World} {l : List Oper} (S : World → Prop) (n : Nat) (order : List (Nat × Bool)) (hm : P.follows .mixedOrders = true)
    (hB : (Region.noSelect l.toArray && (order.length == n) && (n + 1 == l.length) && (order.all fun x => (x.1 != n) && (!x.2 || waitsB .any l.toArray n x.1)) &&
      ((mixTo l.toArray order (Array.replicate l.length false)).map fun x => (Region.ready .any l.toArray x == [n]) && (Region.ready .any l.toArray (x.setIfInBounds n true)).isEmpty).getD false) = true) (hS : S w.drew)
    (h : Nonempty (InC S) → wpMix0 P l.toArray S Q (fun a w => S w → wpList P l.toArray (NoPanic Q) (l.drop n) a w) (order.map fun x => (l.toArray.getD x.1 default, x.2)) a w.drew) : (Code.region id l.toArray true).wp P Q a w := by
  simp only [Bool.and_eq_true, beq_iff_eq] at hB
  obtain ⟨⟨⟨⟨hsel, hlen⟩, hn⟩, hall⟩, hmix⟩ := hB
  refine Code.wp_mono (Q := NoPanic Q) NoPanic.imp (wp_region_any hm ?_)
  cases hx : mixTo l.toArray order (Array.replicate l.length false) with
  | none => rw [hx] at hmix; cases hmix
  | some listed' =>
    rw [hx] at hmix
    simp only [Option.map_some, Option.getD_some, Bool.and_eq_true, beq_iff_eq, List.isEmpty_iff] at hmix
    obtain ⟨hr1, hr2⟩ := hmix
    have hmono : ∀ (m : List (Oper × Bool)) (K K' : Act → World → Prop) (hK : ∀ a w, K a w → K' a w) (a : Act) (w : World), wpMix0 P l.toArray S Q K m a w → wpMix0 P l.toArray S Q K' m a w := by
      intro m K K' hK
      induction m with
      | nil => exact fun a w h => hK a w h
      | cons x m ih =>
        obtain ⟨o, b⟩ := x
        intro a w h
        cases b with
        | true =>
          simp only [wpMix0] at h ⊢
          split
          · rename_i hw; rw [if_pos hw] at h; obtain ⟨v, h1, h2⟩ := h; exact ⟨v, h1, ih _ _ h2⟩
          · rename_i hw; rw [if_neg hw] at h; exact ih _ _ h
        | false =>
          simp only [wpMix0] at h ⊢
          split
          · rename_i hw; rw [if_pos hw] at h; exact Oper.wp_mono (fun a' w' ⟨h1, h2⟩ => ⟨h1, ih _ _ h2⟩) h
          · rename_i hw; rw [if_neg hw] at h; exact ih _ _ h
    have hd : l.drop n = [l.getD n default] := by
      rw [List.drop_eq_getElem_cons (by omega), List.drop_eq_nil_of_le (by omega)]
      simp [List.getD_eq_getElem?_getD, show n < l.length by omega]
    have ho : l.toArray[n]? = some (l.getD n default) := by simp [List.getD_eq_getElem?_getD, List.getElem?_eq_getElem (show n < l.length by omega)]
    have := wpAnyK_pre (P := P) (Q := Q) (S := S) (k := n) hsel 1 listed' order (Array.replicate l.length false) a w.drew hx hall hS
      (hmono _ _ _ (fun a' w' h' hs => by
        have hl := h' hs
        rw [hd] at hl
        refine ⟨fun h0 => (by rw [h0] at hr1; cases hr1), fun j hj => ?_⟩
        rw [hr1] at hj
        obtain rfl : j = n := by simpa using hj
        unfold wpList at hl
        unfold wpOp
        simp only [ho]
        split
        · rename_i hw
          rw [if_pos hw] at hl
          exact hl.imp (Oper.wp_mono (fun a'' w'' hq => ⟨fun hne => absurd rfl hne, hr2, hq⟩)) (fun h => h)
        · rename_i hw
          rw [if_neg hw] at hl
          exact ⟨fun hne => absurd rfl hne, hr2, hl⟩) _ _ (h ⟨⟨_, hS⟩⟩))
    have := wpAny_of_K _ _ _ _ this
    rw [hlen, hn] at this
    simpa using this
theorem wp_region_mix_last {P : Program} {id : Nat} {Q : Exit → Act → World → Prop} {a : Act} {w : World} {l : List Oper} (S : World → Prop) (n : Nat) (order : List (Nat × Bool)) (hm : P.follows .mixedOrders = true)
    (hB : (Region.noSelect l.toArray && (order.length == n) && (n + 1 == l.length) && (order.all fun x => (x.1 != n) && (!x.2 || waitsB .any l.toArray n x.1)) &&
      ((mixTo l.toArray order (Array.replicate l.length false)).map fun x => (Region.ready .any l.toArray x == [n]) && (Region.ready .any l.toArray (x.setIfInBounds n true)).isEmpty).getD false) = true) (hS : S w.drew)
    (h : Nonempty (InC S) → wpMix P l.toArray S Q (fun a w => S w → wpList P l.toArray (NoPanic Q) (l.drop n) a w) (order.map fun x => (l.toArray.getD x.1 default, x.2)) a w.drew) : (Code.region id l.toArray true).wp P Q a w :=
  wp_region_mix_last0 S n order hm hB hS fun hne => (h hne).out
theorem np_normal {Q : Exit → Act → World → Prop} {a : Act} {w : World} (h : Q .normal a w) : NoPanic Q .normal a w := h
end Go.Proofs.Ytgcbdnoniikboaa
