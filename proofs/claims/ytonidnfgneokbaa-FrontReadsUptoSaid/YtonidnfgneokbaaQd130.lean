/- As MixT, where what is waited for lies farther back. No program in sight. -/
import Derived.Test.YtonidnfgneokbaaQd114
namespace Go.Proofs.Ytonidnfgneokbaa
open Go

section
variable {P : Program} {ops : Array Oper} {Q : Exit → Act → World → Prop} {md : Region.Mode} {S : World → Prop} {k : Nat}
def waitsT7 (md : Region.Mode) (ops : Array Oper) (k i : Nat) : Bool := waitsF md ops 6 k i
theorem waitsT_spec7 {listed : Array Bool} {j i : Nat} {oj : Oper} (hcl : Cl md ops listed) (hoj : ops[j]? = some oj) (hall : ∀ e ∈ oj.after, Region.binds md e = true → listed.getD e.on false = true) (h : waitsT7 md ops j i = true) : listed.getD i false = true :=
  waitsF_spec hcl 6 j oj hoj hall h

theorem wpAnyT_first7 {i : Nat} {oi : Oper} {v : Value} (hi : ops[i]? = some oi) (hsel : ∀ (j : Nat) (o : Oper) cs b, ops[j]? = some o → o.op ≠ .select cs b) (hw : ∀ j, k ≤ j → j < ops.size → waitsT7 md ops j i = true)
    (hQ : ∀ c a w, Q (.panic c) (a.put oi.dst v) w → Q (.panic c) a w) :
    ∀ (fuel : Nat) (listed : Array Bool) (a : Act) (w : World), Cl md ops listed →
      (∀ j oj, ops[j]? = some oj → j ≠ i → listed.getD j true = false → (∀ e ∈ oj.after, Region.binds md e = true → e.on ≠ i) → oi.apart ops oj = true) →
      i ∈ Region.ready md ops listed → YieldsIf P ops S oi v a → S w →
      wpAnyT P md ops Q S k fuel (listed.setIfInBounds i true) (a.put oi.dst v) w → wpAnyT P md ops Q S k (fuel + 1) listed a w := by
  intro fuel
  induction fuel with
  | zero =>
    intro listed a w _ _ hr hy hS H
    refine ⟨fun h => (by rw [h] at hr; cases hr), fun j hj => ?_⟩
    by_cases hji : j = i
    · subst hji; exact hy.wpOp hi hS ⟨fun _ => hS, H⟩
    · have := ready_mono hj hji
      rw [H.1] at this
      cases this
  | succ fuel ih =>
    intro listed a w hcl hfree hr hy hS H
    refine ⟨fun h => (by rw [h] at hr; cases hr), fun j hj => ?_⟩
    by_cases hji : j = i
    · subst hji; exact hy.wpOp hi hS ⟨fun _ => hS, H⟩
    · have h1 := H.2 j (ready_mono hj hji)
      obtain ⟨hjun, oj, hoj, hall⟩ := mem_ready.1 hj
      have hnot : ∀ e ∈ oj.after, Region.binds md e = true → e.on ≠ i := fun e he hb heq => by
        have h1 := hall e he hb
        have h0 := (mem_ready.1 hr).1
        rw [heq] at h1
        rcases Nat.lt_or_ge i listed.size with h' | h'
        · simp [h'] at h0 h1; rw [h0] at h1; cases h1
        · simp [Array.getElem?_eq_none h'] at h1
      have hjk : j < k := by
        rcases Nat.lt_or_ge j k with h' | h'
        · exact h'
        · exfalso
          have hl := waitsT_spec7 hcl hoj hall (hw j h' (Array.getElem?_eq_some_iff.1 hoj).1)
          have h0 := (mem_ready.1 hr).1
          rcases Nat.lt_or_ge i listed.size with h' | h'
          · simp [h'] at h0 hl; rw [h0] at hl; cases hl
          · simp [Array.getElem?_eq_none h'] at hl
      have h2 := wpOp_putIf hoj (hfree j oj hoj hji hjun hnot) (fun cs b => hsel i oi cs b hi) (fun cs b => hsel j oj cs b hoj) hQ hy h1
      have hfree' : ∀ m ok, ops[m]? = some ok → m ≠ i → (listed.setIfInBounds j true).getD m true = false →
          (∀ e ∈ ok.after, Region.binds md e = true → e.on ≠ i) → oi.apart ops ok = true := fun m ok hm hmi hun hno => by
        refine hfree m ok hm hmi ?_ hno
        by_cases hjm : j = m
        · subst hjm; exact hjun
        · rw [getD_set_ne true hjm] at hun; exact hun
      refine wpOp_mono (fun a' w' h3 => ⟨fun _ => h3.2.1 hjk, ih (listed.setIfInBounds j true) a' w' (hcl.put hj) hfree' (ready_mono hr (Ne.symm hji)) h3.1 (h3.2.1 hjk) ?_⟩) h2
      rw [Array.setIfInBounds_comm _ _ hji]
      exact h3.2.2

theorem wpAnyT_pre7 (hsel : Region.noSelect ops = true) (f : Nat) (listed' : Array Bool) : ∀ (l : List (Nat × Bool)) (listed : Array Bool) (a : Act) (w : World), mixTo ops l listed = some listed' →
    (l.all fun x => (decide (x.1 < k)) && (!x.2 || ((List.range ops.size).all fun j => decide (j < k) || waitsT7 .any ops j x.1))) = true → Cl .any ops listed → S w →
    wpMix0 P ops S Q (fun a w => S w → wpAnyT P .any ops (NoPanic Q) S k f listed' a w) (l.map fun x => (ops.getD x.1 default, x.2)) a w → wpAnyT P .any ops (NoPanic Q) S k (l.length + f) listed a w
  | [], listed, a, w, hB, _, _, hS, h => by
    simp only [mixTo, Option.some.injEq] at hB
    subst hB
    simpa using h hS
  | (i, true) :: l, listed, a, w, hB, hall, hcl, hS, h => by
    simp only [List.all_cons, Bool.and_eq_true, Bool.not_true, Bool.false_or] at hall
    simp only [mixTo] at hB
    split at hB
    case isFalse => cases hB
    rename_i hB0
    simp only [Bool.and_eq_true] at hB0
    obtain ⟨hr, hf⟩ := hB0
    have hr' : i ∈ Region.ready .any ops listed := by simpa using hr
    obtain ⟨_, oi, hoi, _⟩ := mem_ready.1 hr'
    have hget : ops.getD i default = oi := by simp [hoi]
    simp only [List.map_cons, wpMix0, hget] at h
    have hy : ∃ v, YieldsIf P ops S oi v a ∧ wpMix0 P ops S Q (fun a w => S w → wpAnyT P .any ops (NoPanic Q) S k f listed' a w) (l.map fun x => (ops.getD x.1 default, x.2)) (a.put oi.dst v) w := by
      by_cases hw : Region.wanted oi (yielded ops a.tmps) = true
      · rw [if_pos hw] at h
        obtain ⟨v, h1, h2⟩ := h
        exact ⟨v, .inl ⟨hw, fun w' hw' => h1 ⟨w', hw'⟩⟩, h2⟩
      · rw [if_neg hw] at h
        exact ⟨undef, .inr ⟨by simpa using hw, rfl⟩, h⟩
    obtain ⟨v, hy, h2⟩ := hy
    have := wpAnyT_first7 hoi (Region.noSelect_spec hsel) (fun j hkj hj => by have := List.all_eq_true.1 hall.1.2 j (List.mem_range.2 hj); simp only [Bool.or_eq_true, decide_eq_true_eq] at this; rcases this with h' | h'; exact absurd h' (by omega); exact h') (fun _ _ _ hp => hp) (l.length + f) listed a w hcl (Region.free_spec hoi hf) hr' hy hS
      (wpAnyT_pre7 hsel f listed' l _ _ w hB hall.2 (hcl.put hr') hS h2)
    rw [List.length_cons, show l.length + 1 + f = l.length + f + 1 by omega]
    exact this
  | (i, false) :: l, listed, a, w, hB, hall, hcl, hS, h => by
    simp only [List.all_cons, Bool.and_eq_true] at hall
    simp only [mixTo] at hB
    split at hB
    case isFalse => cases hB
    rename_i hB0
    have hr : Region.ready .any ops listed = [i] := by simpa using hB0
    have hr' : i ∈ Region.ready .any ops listed := by rw [hr]; simp
    obtain ⟨_, oi, hoi, _⟩ := mem_ready.1 hr'
    have hget : ops.getD i default = oi := by simp [hoi]
    simp only [List.map_cons, wpMix0, hget] at h
    rw [List.length_cons, show l.length + 1 + f = l.length + f + 1 by omega]
    refine ⟨fun h0 => (by rw [h0] at hr; cases hr), fun j hj => ?_⟩
    rw [hr] at hj
    obtain rfl : j = i := by simpa using hj
    unfold wpOp
    simp only [hoi]
    by_cases hw : Region.wanted oi (yielded ops a.tmps) = true
    · rw [if_pos hw] at h ⊢
      exact .inl (Oper.wp_mono (fun a' w' ⟨h1, h2⟩ => ⟨fun _ => h1, wpAnyT_pre7 hsel f listed' l _ a' w' hB hall.2 (hcl.put hr') h1 h2⟩) h)
    · rw [if_neg hw] at h ⊢
      exact ⟨fun _ => hS, wpAnyT_pre7 hsel f listed' l _ _ w hB hall.2 (hcl.put hr') hS h⟩
end


def mixTailOk7 (l : List Oper) (n : Nat) (order : List (Nat × Bool)) : Bool :=
  Region.noSelect l.toArray && (order.length == n) && (decide (n ≤ l.length)) && (order.all fun x => (decide (x.1 < n)) && (!x.2 || ((List.range l.toArray.size).all fun j => decide (j < n) || waitsT7 .any l.toArray j x.1))) &&
    ((mixTo l.toArray order (Array.replicate l.length false)).map fun x => tailOk l.toArray (l.length - n) n x).getD false
theorem wpAny_mix_tail7 {P : Program} {Q : Exit → Act → World → Prop} {a : Act} {w : World} {l : List Oper} (S : World → Prop) (n : Nat) (order : List (Nat × Bool)) (hB : mixTailOk7 l n order = true) (hS : S w.drew)
    (h : Nonempty (InC S) → wpMix0 P l.toArray S Q (fun a w => S w → wpList P l.toArray (NoPanic Q) (l.drop n) a w) (order.map fun x => (l.toArray.getD x.1 default, x.2)) a w.drew) :
    wpAny P .any l.toArray (NoPanic Q) l.length (Array.replicate l.length false) a w.drew := by
  unfold mixTailOk7 at hB
  simp only [Bool.and_eq_true, beq_iff_eq, decide_eq_true_eq] at hB
  obtain ⟨⟨⟨⟨hsel, hlen⟩, hn⟩, hall⟩, hmix⟩ := hB
  cases hx : mixTo l.toArray order (Array.replicate l.length false) with
  | none => rw [hx] at hmix; cases hmix
  | some listed' =>
    rw [hx] at hmix
    simp only [Option.map_some, Option.getD_some] at hmix
    have := wpAnyT_pre7 (P := P) (Q := Q) (S := S) (k := n) hsel (l.length - n) listed' order (Array.replicate l.length false) a w.drew hx hall (fun m om hm hl => by simp only [Array.getD_eq_getD_getElem?, Array.getElem?_replicate] at hl; split at hl <;> cases hl) hS
      (wpMix0_mono _ _ _ (fun a' w' h' hs => wpAnyT_tail _ n _ _ _ (Nat.le_refl _) (by omega) hmix (h' hs)) _ _ (h ⟨⟨_, hS⟩⟩))
    have := wpAny_of_T _ _ _ _ this
    rwa [hlen, show n + (l.length - n) = l.length by omega] at this
theorem wp_region_mix_tail7 {P : Program} {id : Nat} {Q : Exit → Act → World → Prop} {a : Act} {w : World} {l : List Oper} (S : World → Prop) (n : Nat) (order : List (Nat × Bool)) (hm : P.follows .mixedOrders = true) (hB : mixTailOk7 l n order = true) (hS : S w.drew)
    (h : Nonempty (InC S) → wpMix P l.toArray S Q (fun a w => S w → wpList P l.toArray (NoPanic Q) (l.drop n) a w) (order.map fun x => (l.toArray.getD x.1 default, x.2)) a w.drew) : (Code.region id l.toArray true).wp P Q a w := by
  refine Code.wp_mono (Q := NoPanic Q) NoPanic.imp (wp_region_any hm ?_)
  have := wpAny_mix_tail7 S n order hB hS fun hne => (h hne).out
  simpa using this
theorem wpIn_region_mix_tail7 {P : Program} {id : Nat} {Q : Exit → Act → World → Prop} {a : Act} {w : World} {l : List Oper} {F : Fence} {m : Nat} (hF : Fence.Open F) (hnd : noDefer l = true) (hout : ∀ a w, ¬ Q .outgrown a w) (S : World → Prop) (n : Nat) (order : List (Nat × Bool)) (hm : P.follows .mixedOrders = true) (hB : mixTailOk7 l n order = true) (hS : S w.drew)
    (h : Nonempty (InC S) → wpMix P l.toArray S Q (fun a w => S w → wpList P l.toArray (NoPanic Q) (l.drop n) a w) (order.map fun x => (l.toArray.getD x.1 default, x.2)) a w.drew) : (Code.region id l.toArray true).wpIn F m P Q a w := by
  refine wpIn_mono (Q := NoPanic Q) (wpIn_region_any hm (wpAnyIn_of_any hF (by simpa using hnd) hout _ _ _ _ ?_)) NoPanic.imp
  have := wpAny_mix_tail7 S n order hB hS fun hne => (h hne).out
  simpa using this
end Go.Proofs.Ytonidnfgneokbaa
