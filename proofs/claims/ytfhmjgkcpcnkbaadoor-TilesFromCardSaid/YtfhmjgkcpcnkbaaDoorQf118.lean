/- Drawing regions within a round. No program in sight. -/
import Derived.Test.YtfhmjgkcpcnkbaaDoorQf117
import Derived.Test.YtfhmjgkcpcnkbaaDoorQf106
import Derived.Test.YtfhmjgkcpcnkbaaDoorQf116
import Derived.Test.YtfhmjgkcpcnkbaaDoorQf114
import Derived.Test.YtfhmjgkcpcnkbaaDoorQf110
import Derived.Great.BuildSlice
import Derived.Test.YtfhmjgkcpcnkbaaDoorQf113
import Derived.Test.YtfhmjgkcpcnkbaaDoorQf107
namespace Go.Proofs.YtfhmjgkcpcnkbaaDoor
open Go Go.RowKit

theorem wpAnyIn_of_any {F : Fence} (hF : Fence.Open F) {n : Nat} {P : Program} {md : Region.Mode} {ops : Array Oper} {Q : Exit → Act → World → Prop} (hd : noDefer ops.toList = true) (hout : ∀ a w, ¬ Q .outgrown a w) : ∀ (fuel : Nat) (listed : Array Bool) (a : Act) (w : World),
    wpAny P md ops (NoPanic Q) fuel listed a w → wpAnyIn F n P md ops (NoPanic Q) fuel listed a w
  | 0, _, _, _, h => h
  | fuel + 1, listed, a, w, h => by
    refine ⟨h.1, fun i hi => ?_⟩
    have h1 := h.2 i hi
    unfold wpOp at h1
    unfold wpOpIn
    split at h1
    · rename_i ho
      rw [ho]
      exact wpAnyIn_of_any hF hd hout fuel _ _ _ h1
    · rename_i o ho
      rw [ho]
      dsimp only
      have hm : o ∈ ops.toList := by
        obtain ⟨hl, he⟩ := Array.getElem?_eq_some_iff.1 ho
        rw [← he]
        simp
      split
      · rename_i hw
        rw [if_pos hw] at h1
        rcases h1 with h1 | ⟨_, a', w', h1⟩
        · refine Oper.wpIn_of_wp hF (noDefer_op hd o hm) (Oper.wp_mono (fun a w => wpAnyIn_of_any hF hd hout fuel _ a w) h1)
        · exact (hout a' w' h1).elim
      · rename_i hw
        rw [if_neg hw] at h1
        exact ⟨fun f _ => hF.fn_ f, wpAnyIn_of_any hF hd hout fuel _ _ _ h1⟩
theorem wpIn_region_begin {P : Program} {id : Nat} {Q : Exit → Act → World → Prop} {a : Act} {w : World} {l : List Oper} {F : Fence} {m : Nat} (hF : Fence.Open F) (hnd : noDefer l = true) (hout : ∀ a w, ¬ Q .outgrown a w) (S : World → Prop) (hm : P.follows .mixedOrders = true) (hS : S w.drew)
    (h : Nonempty (InC S) → wpAnyH P .any l.toArray (NoPanic Q) S l.length (Array.replicate l.length false) a w.drew) : (Code.region id l.toArray true).wpIn F m P Q a w := by
  refine wpIn_mono (Q := NoPanic Q) (wpIn_region_any hm (wpAnyIn_of_any hF (by simpa using hnd) hout _ _ _ _ ?_)) NoPanic.imp
  have := wpAny_of_held _ _ _ _ (h ⟨⟨_, hS⟩⟩)
  simpa using this
/-- .. where one order serves -/
theorem wpIn_region_mix0 {P : Program} {id : Nat} {Q : Exit → Act → World → Prop} {a : Act} {w : World} {l : List Oper} {F : Fence} {m : Nat} (hF : Fence.Open F) (hnd : noDefer l = true) (hout : ∀ a w, ¬ Q .outgrown a w) (S : World → Prop) (order : List (Nat × Bool)) (hm : P.follows .mixedOrders = true)
    (hB : (Region.noSelect l.toArray && (order.length == l.length) && ((mixTo l.toArray order (Array.replicate l.length false)).map fun x => (Region.ready .any l.toArray x).isEmpty).getD false) = true) (hS : S w.drew)
    (h : Nonempty (InC S) → wpMix0 P l.toArray S Q (fun a w => S w → Q .normal a w) (order.map fun x => (l.toArray.getD x.1 default, x.2)) a w.drew) : (Code.region id l.toArray true).wpIn F m P Q a w := by
  simp only [Bool.and_eq_true, beq_iff_eq] at hB
  obtain ⟨⟨hsel, hlen⟩, hmix⟩ := hB
  refine wpIn_region_begin hF hnd hout S hm hS fun hne => ?_
  cases hx : mixTo l.toArray order (Array.replicate l.length false) with
  | none => rw [hx] at hmix; cases hmix
  | some listed' =>
    rw [hx] at hmix
    have hmono : ∀ (m : List (Oper × Bool)) (K K' : Act → World → Prop) (hK : ∀ a w, K a w → K' a w) (a : Act) (w : World), wpMix0 P l.toArray S Q K m a w → wpMix0 P l.toArray S Q K' m a w := by
      intro m K K' hK
      induction m with
      | nil => exact fun a w h => hK a w h
      | cons x m ih =>
        obtain ⟨o, b⟩ := x
        intro a w h
        cases b with
        | true =>
          simp only [wpMix0] at h ⊢
          split
          · rename_i hw; rw [if_pos hw] at h; obtain ⟨v, h1, h2⟩ := h; exact ⟨v, h1, ih _ _ h2⟩
          · rename_i hw; rw [if_neg hw] at h; exact ih _ _ h
        | false =>
          simp only [wpMix0] at h ⊢
          split
          · rename_i hw; rw [if_pos hw] at h; exact Oper.wp_mono (fun a' w' ⟨h1, h2⟩ => ⟨h1, ih _ _ h2⟩) h
          · rename_i hw; rw [if_neg hw] at h; exact ih _ _ h
    have := wpAnyH_pre0 (P := P) (Q := Q) (S := S) hsel 0 listed' order (Array.replicate l.length false) a w.drew hx hS
      (hmono _ _ _ (fun a' w' h' hs => wpAnyH_end hmix (h' hs)) _ _ (h hne))
    rw [Nat.add_zero, hlen] at this
    exact this
theorem wpIn_region_mix {P : Program} {id : Nat} {Q : Exit → Act → World → Prop} {a : Act} {w : World} {l : List Oper} {F : Fence} {m : Nat} (hF : Fence.Open F) (hnd : noDefer l = true) (hout : ∀ a w, ¬ Q .outgrown a w) (S : World → Prop) (order : List (Nat × Bool)) (hm : P.follows .mixedOrders = true)
    (hB : (Region.noSelect l.toArray && (order.length == l.length) && ((mixTo l.toArray order (Array.replicate l.length false)).map fun x => (Region.ready .any l.toArray x).isEmpty).getD false) = true) (hS : S w.drew)
    (h : Nonempty (InC S) → wpMix P l.toArray S Q (fun a w => S w → Q .normal a w) (order.map fun x => (l.toArray.getD x.1 default, x.2)) a w.drew) : (Code.region id l.toArray true).wpIn F m P Q a w :=
  wpIn_region_mix0 hF hnd hout S order hm hB hS fun hne => (h hne).out

/-- THE LAW: a head in an order of one's own, in a class; a last operation, which may do whatever. -/
theorem wpIn_region_mix_last0 {P : Program} {id : Nat} {Q : Exit → Act → World → Prop} {a : Act} {w : World} {l : List Oper} {F : Fence} {m : Nat} (hF : Fence.Open F) (hnd : noDefer l = true) (hout : ∀ a w, ¬ Q .outgrown a w) (S : World → Prop) (n : Nat) (order : List (Nat × Bool)) (hm : P.follows .mixedOrders = true)
    (hB : (Region.noSelect l.toArray && (order.length == n) && (n + 1 == l.length) && (order.all fun x => (x.1 != n) && (!x.2 || waitsB .any l.toArray n x.1)) &&
      ((mixTo l.toArray order (Array.replicate l.length false)).map fun x => (Region.ready .any l.toArray x == [n]) && (Region.ready .any l.toArray (x.setIfInBounds n true)).isEmpty).getD false) = true) (hS : S w.drew)
    (h : Nonempty (InC S) → wpMix0 P l.toArray S Q (fun a w => S w → wpList P l.toArray (NoPanic Q) (l.drop n) a w) (order.map fun x => (l.toArray.getD x.1 default, x.2)) a w.drew) : (Code.region id l.toArray true).wpIn F m P Q a w := by
  simp only [Bool.and_eq_true, beq_iff_eq] at hB
  obtain ⟨⟨⟨⟨hsel, hlen⟩, hn⟩, hall⟩, hmix⟩ := hB
  refine wpIn_mono (Q := NoPanic Q) (wpIn_region_any hm (wpAnyIn_of_any hF (by simpa using hnd) hout _ _ _ _ ?_)) NoPanic.imp
  cases hx : mixTo l.toArray order (Array.replicate l.length false) with
  | none => rw [hx] at hmix; cases hmix
  | some listed' =>
    rw [hx] at hmix
    simp only [Option.map_some, Option.getD_some, Bool.and_eq_true, beq_iff_eq, List.isEmpty_iff] at hmix
    obtain ⟨hr1, hr2⟩ := hmix
    have hmono : ∀ (m : List (Oper × Bool)) (K K' : Act → World → Prop) (hK : ∀ a w, K a w → K' a w) (a : Act) (w : World), wpMix0 P l.toArray S Q K m a w → wpMix0 P l.toArray S Q K' m a w := by
      intro m K K' hK
      induction m with
      | nil => exact fun a w h => hK a w h
      | cons x m ih =>
        obtain ⟨o, b⟩ := x
        intro a w h
        cases b with
        | true =>
          simp only [wpMix0] at h ⊢
          split
          · rename_i hw; rw [if_pos hw] at h; obtain ⟨v, h1, h2⟩ := h; exact ⟨v, h1, ih _ _ h2⟩
          · rename_i hw; rw [if_neg hw] at h; exact ih _ _ h
        | false =>
          simp only [wpMix0] at h ⊢
          split
          · rename_i hw; rw [if_pos hw] at h; exact Oper.wp_mono (fun a' w' ⟨h1, h2⟩ => ⟨h1, ih _ _ h2⟩) h
          · rename_i hw; rw [if_neg hw] at h; exact ih _ _ h
    have hd : l.drop n = [l.getD n default] := by
      rw [List.drop_eq_getElem_cons (by omega), List.drop_eq_nil_of_le (by omega)]
      simp [List.getD_eq_getElem?_getD, show n < l.length by omega]
    have ho : l.toArray[n]? = some (l.getD n default) := by simp [List.getD_eq_getElem?_getD, List.getElem?_eq_getElem (show n < l.length by omega)]
    have := wpAnyK_pre (P := P) (Q := Q) (S := S) (k := n) hsel 1 listed' order (Array.replicate l.length false) a w.drew hx hall hS
      (hmono _ _ _ (fun a' w' h' hs => by
        have hl := h' hs
        rw [hd] at hl
        refine ⟨fun h0 => (by rw [h0] at hr1; cases hr1), fun j hj => ?_⟩
        rw [hr1] at hj
        obtain rfl : j = n := by simpa using hj
        unfold wpList at hl
        unfold wpOp
        simp only [ho]
        split
        · rename_i hw
          rw [if_pos hw] at hl
          exact hl.imp (Oper.wp_mono (fun a'' w'' hq => ⟨fun hne => absurd rfl hne, hr2, hq⟩)) (fun h => h)
        · rename_i hw
          rw [if_neg hw] at hl
          exact ⟨fun hne => absurd rfl hne, hr2, hl⟩) _ _ (h ⟨⟨_, hS⟩⟩))
    have := wpAny_of_K _ _ _ _ this
    rw [hlen, hn] at this
    simpa using this
theorem wpIn_region_mix_last {P : Program} {id : Nat} {Q : Exit → Act → World → Prop} {a : Act} {w : World} {l : List Oper} {F : Fence} {m : Nat} (hF : Fence.Open F) (hnd : noDefer l = true) (hout : ∀ a w, ¬ Q .outgrown a w) (S : World → Prop) (n : Nat) (order : List (Nat × Bool)) (hm : P.follows .mixedOrders = true)
    (hB : (Region.noSelect l.toArray && (order.length == n) && (n + 1 == l.length) && (order.all fun x => (x.1 != n) && (!x.2 || waitsB .any l.toArray n x.1)) &&
      ((mixTo l.toArray order (Array.replicate l.length false)).map fun x => (Region.ready .any l.toArray x == [n]) && (Region.ready .any l.toArray (x.setIfInBounds n true)).isEmpty).getD false) = true) (hS : S w.drew)
    (h : Nonempty (InC S) → wpMix P l.toArray S Q (fun a w => S w → wpList P l.toArray (NoPanic Q) (l.drop n) a w) (order.map fun x => (l.toArray.getD x.1 default, x.2)) a w.drew) : (Code.region id l.toArray true).wpIn F m P Q a w :=
  wpIn_region_mix_last0 hF hnd hout S n order hm hB hS fun hne => (h hne).out
end Go.Proofs.YtfhmjgkcpcnkbaaDoor
/- As Mix2, with several operations at the end, each waiting for all others ahead of it. No program in sight. -/
namespace Go.Proofs.YtfhmjgkcpcnkbaaDoor
open Go

section
variable {P : Program} {ops : Array Oper} {Q : Exit → Act → World → Prop} {md : Region.Mode} {S : World → Prop} {k : Nat}

def wpAnyT (P : Program) (md : Region.Mode) (ops : Array Oper) (Q : Exit → Act → World → Prop) (S : World → Prop) (k : Nat) : Nat → Array Bool → Act → World → Prop
  | 0, listed, a, w => Region.ready md ops listed = [] ∧ Q .normal a w
  | fuel + 1, listed, a, w =>
    (Region.ready md ops listed = [] → Q .normal a w) ∧
    ∀ i ∈ Region.ready md ops listed, wpOp P ops Q i (fun a' w' => (i < k → S w') ∧ wpAnyT P md ops Q S k fuel (listed.setIfInBounds i true) a' w') a w

theorem wpAny_of_T : ∀ (fuel : Nat) (listed : Array Bool) (a : Act) (w : World), wpAnyT P md ops Q S k fuel listed a w → wpAny P md ops Q fuel listed a w
  | 0, _, _, _, h => h
  | fuel + 1, _, _, _, h => ⟨h.1, fun i hi => wpOp_mono (fun a' w' h' => wpAny_of_T fuel _ a' w' h'.2) (h.2 i hi)⟩

/-- what is listed is closed -/
def Cl (md : Region.Mode) (ops : Array Oper) (listed : Array Bool) : Prop := ∀ m om, ops[m]? = some om → listed.getD m false = true → ∀ e ∈ om.after, Region.binds md e = true → listed.getD e.on false = true
theorem getD_set_up {listed : Array Bool} {j x : Nat} (h : listed.getD x false = true) : (listed.setIfInBounds j true).getD x false = true := by
  simp only [Array.getD_eq_getD_getElem?, Array.getElem?_setIfInBounds] at h ⊢
  split
  · rename_i e
    subst e
    split
    · rfl
    · rename_i hx
      rw [Array.getElem?_eq_none (by omega)] at h
      exact h
  · exact h
theorem Cl.put {listed : Array Bool} {j : Nat} (h : Cl md ops listed) (hj : j ∈ Region.ready md ops listed) : Cl md ops (listed.setIfInBounds j true) := fun m om hm hl e he hb => by
  by_cases e' : j = m
  · subst e'
    obtain ⟨_, oj, hoj, hall⟩ := mem_ready.1 hj
    rw [hm] at hoj
    cases hoj
    exact getD_set_up (hall e he hb)
  · rw [getD_set_ne false e'] at hl
    exact getD_set_up (h m om hm hl e he hb)
/-- k waits for i, at once or over others -/
def waitsF (md : Region.Mode) (ops : Array Oper) : Nat → Nat → Nat → Bool
  | 0, k, i => waitsB md ops k i
  | f + 1, k, i => waitsB md ops k i || (List.range ops.size).any fun m => waitsB md ops k m && waitsF md ops f m i
def waitsT (md : Region.Mode) (ops : Array Oper) (k i : Nat) : Bool := waitsF md ops 3 k i
theorem waitsF_spec {listed : Array Bool} {i : Nat} (hcl : Cl md ops listed) : ∀ (f j : Nat) (oj : Oper), ops[j]? = some oj → (∀ e ∈ oj.after, Region.binds md e = true → listed.getD e.on false = true) → waitsF md ops f j i = true → listed.getD i false = true
  | 0, j, oj, hoj, hall, h => by
    obtain ⟨e, he, hb, ho⟩ := waits_spec hoj h
    rw [← ho]
    exact hall e he hb
  | f + 1, j, oj, hoj, hall, h => by
    simp only [waitsF, Bool.or_eq_true] at h
    rcases h with h | h
    · obtain ⟨e, he, hb, ho⟩ := waits_spec hoj h
      rw [← ho]
      exact hall e he hb
    · obtain ⟨m, hm, h⟩ := List.any_eq_true.1 h
      rw [Bool.and_eq_true] at h
      obtain ⟨e, he, hb, ho⟩ := waits_spec hoj h.1
      have hl := hall e he hb
      rw [ho] at hl
      have hms : m < ops.size := List.mem_range.1 hm
      exact waitsF_spec hcl f m _ (Array.getElem?_eq_getElem hms) (fun e2 he2 hb2 => hcl m _ (Array.getElem?_eq_getElem hms) hl e2 he2 hb2) h.2
theorem waitsT_spec {listed : Array Bool} {j i : Nat} {oj : Oper} (hcl : Cl md ops listed) (hoj : ops[j]? = some oj) (hall : ∀ e ∈ oj.after, Region.binds md e = true → listed.getD e.on false = true) (h : waitsT md ops j i = true) : listed.getD i false = true :=
  waitsF_spec hcl 3 j oj hoj hall h

theorem wpAnyT_first {i : Nat} {oi : Oper} {v : Value} (hi : ops[i]? = some oi) (hsel : ∀ (j : Nat) (o : Oper) cs b, ops[j]? = some o → o.op ≠ .select cs b) (hw : ∀ j, k ≤ j → j < ops.size → waitsT md ops j i = true)
    (hQ : ∀ c a w, Q (.panic c) (a.put oi.dst v) w → Q (.panic c) a w) :
    ∀ (fuel : Nat) (listed : Array Bool) (a : Act) (w : World), Cl md ops listed →
      (∀ j oj, ops[j]? = some oj → j ≠ i → listed.getD j true = false → (∀ e ∈ oj.after, Region.binds md e = true → e.on ≠ i) → oi.apart ops oj = true) →
      i ∈ Region.ready md ops listed → YieldsIf P ops S oi v a → S w →
      wpAnyT P md ops Q S k fuel (listed.setIfInBounds i true) (a.put oi.dst v) w → wpAnyT P md ops Q S k (fuel + 1) listed a w := by
  intro fuel
  induction fuel with
  | zero =>
    intro listed a w _ _ hr hy hS H
    refine ⟨fun h => (by rw [h] at hr; cases hr), fun j hj => ?_⟩
    by_cases hji : j = i
    · subst hji; exact hy.wpOp hi hS ⟨fun _ => hS, H⟩
    · have := ready_mono hj hji
      rw [H.1] at this
      cases this
  | succ fuel ih =>
    intro listed a w hcl hfree hr hy hS H
    refine ⟨fun h => (by rw [h] at hr; cases hr), fun j hj => ?_⟩
    by_cases hji : j = i
    · subst hji; exact hy.wpOp hi hS ⟨fun _ => hS, H⟩
    · have h1 := H.2 j (ready_mono hj hji)
      obtain ⟨hjun, oj, hoj, hall⟩ := mem_ready.1 hj
      have hnot : ∀ e ∈ oj.after, Region.binds md e = true → e.on ≠ i := fun e he hb heq => by
        have h1 := hall e he hb
        have h0 := (mem_ready.1 hr).1
        rw [heq] at h1
        rcases Nat.lt_or_ge i listed.size with h' | h'
        · simp [h'] at h0 h1; rw [h0] at h1; cases h1
        · simp [Array.getElem?_eq_none h'] at h1
      have hjk : j < k := by
        rcases Nat.lt_or_ge j k with h' | h'
        · exact h'
        · exfalso
          have hl := waitsT_spec hcl hoj hall (hw j h' (Array.getElem?_eq_some_iff.1 hoj).1)
          have h0 := (mem_ready.1 hr).1
          rcases Nat.lt_or_ge i listed.size with h' | h'
          · simp [h'] at h0 hl; rw [h0] at hl; cases hl
          · simp [Array.getElem?_eq_none h'] at hl
      have h2 := wpOp_putIf hoj (hfree j oj hoj hji hjun hnot) (fun cs b => hsel i oi cs b hi) (fun cs b => hsel j oj cs b hoj) hQ hy h1
      have hfree' : ∀ m ok, ops[m]? = some ok → m ≠ i → (listed.setIfInBounds j true).getD m true = false →
          (∀ e ∈ ok.after, Region.binds md e = true → e.on ≠ i) → oi.apart ops ok = true := fun m ok hm hmi hun hno => by
        refine hfree m ok hm hmi ?_ hno
        by_cases hjm : j = m
        · subst hjm; exact hjun
        · rw [getD_set_ne true hjm] at hun; exact hun
      refine wpOp_mono (fun a' w' h3 => ⟨fun _ => h3.2.1 hjk, ih (listed.setIfInBounds j true) a' w' (hcl.put hj) hfree' (ready_mono hr (Ne.symm hji)) h3.1 (h3.2.1 hjk) ?_⟩) h2
      rw [Array.setIfInBounds_comm _ _ hji]
      exact h3.2.2

theorem wpAnyT_pre (hsel : Region.noSelect ops = true) (f : Nat) (listed' : Array Bool) : ∀ (l : List (Nat × Bool)) (listed : Array Bool) (a : Act) (w : World), mixTo ops l listed = some listed' →
    (l.all fun x => (decide (x.1 < k)) && (!x.2 || ((List.range ops.size).all fun j => decide (j < k) || waitsT .any ops j x.1))) = true → Cl .any ops listed → S w →
    wpMix0 P ops S Q (fun a w => S w → wpAnyT P .any ops (NoPanic Q) S k f listed' a w) (l.map fun x => (ops.getD x.1 default, x.2)) a w → wpAnyT P .any ops (NoPanic Q) S k (l.length + f) listed a w
  | [], listed, a, w, hB, _, _, hS, h => by
    simp only [mixTo, Option.some.injEq] at hB
    subst hB
    simpa using h hS
  | (i, true) :: l, listed, a, w, hB, hall, hcl, hS, h => by
    simp only [List.all_cons, Bool.and_eq_true, Bool.not_true, Bool.false_or] at hall
    simp only [mixTo] at hB
    split at hB
    case isFalse => cases hB
    rename_i hB0
    simp only [Bool.and_eq_true] at hB0
    obtain ⟨hr, hf⟩ := hB0
    have hr' : i ∈ Region.ready .any ops listed := by simpa using hr
    obtain ⟨_, oi, hoi, _⟩ := mem_ready.1 hr'
    have hget : ops.getD i default = oi := by simp [hoi]
    simp only [List.map_cons, wpMix0, hget] at h
    have hy : ∃ v, YieldsIf P ops S oi v a ∧ wpMix0 P ops S Q (fun a w => S w → wpAnyT P .any ops (NoPanic Q) S k f listed' a w) (l.map fun x => (ops.getD x.1 default, x.2)) (a.put oi.dst v) w := by
      by_cases hw : Region.wanted oi (yielded ops a.tmps) = true
      · rw [if_pos hw] at h
        obtain ⟨v, h1, h2⟩ := h
        exact ⟨v, .inl ⟨hw, fun w' hw' => h1 ⟨w', hw'⟩⟩, h2⟩
      · rw [if_neg hw] at h
        exact ⟨undef, .inr ⟨by simpa using hw, rfl⟩, h⟩
    obtain ⟨v, hy, h2⟩ := hy
    have := wpAnyT_first hoi (Region.noSelect_spec hsel) (fun j hkj hj => by have := List.all_eq_true.1 hall.1.2 j (List.mem_range.2 hj); simp only [Bool.or_eq_true, decide_eq_true_eq] at this; rcases this with h' | h'; exact absurd h' (by omega); exact h') (fun _ _ _ hp => hp) (l.length + f) listed a w hcl (Region.free_spec hoi hf) hr' hy hS
      (wpAnyT_pre hsel f listed' l _ _ w hB hall.2 (hcl.put hr') hS h2)
    rw [List.length_cons, show l.length + 1 + f = l.length + f + 1 by omega]
    exact this
  | (i, false) :: l, listed, a, w, hB, hall, hcl, hS, h => by
    simp only [List.all_cons, Bool.and_eq_true] at hall
    simp only [mixTo] at hB
    split at hB
    case isFalse => cases hB
    rename_i hB0
    have hr : Region.ready .any ops listed = [i] := by simpa using hB0
    have hr' : i ∈ Region.ready .any ops listed := by rw [hr]; simp
    obtain ⟨_, oi, hoi, _⟩ := mem_ready.1 hr'
    have hget : ops.getD i default = oi := by simp [hoi]
    simp only [List.map_cons, wpMix0, hget] at h
    rw [List.length_cons, show l.length + 1 + f = l.length + f + 1 by omega]
    refine ⟨fun h0 => (by rw [h0] at hr; cases hr), fun j hj => ?_⟩
    rw [hr] at hj
    obtain rfl : j = i := by simpa using hj
    unfold wpOp
    simp only [hoi]
    by_cases hw : Region.wanted oi (yielded ops a.tmps) = true
    · rw [if_pos hw] at h ⊢
      exact .inl (Oper.wp_mono (fun a' w' ⟨h1, h2⟩ => ⟨fun _ => h1, wpAnyT_pre hsel f listed' l _ a' w' hB hall.2 (hcl.put hr') h1 h2⟩) h)
    · rw [if_neg hw] at h ⊢
      exact ⟨fun _ => hS, wpAnyT_pre hsel f listed' l _ _ w hB hall.2 (hcl.put hr') hS h⟩
end


/-- the tail comes up in its order -/
def tailOk (ops : Array Oper) : Nat → Nat → Array Bool → Bool
  | 0, _, listed => (Region.ready .any ops listed).isEmpty
  | d + 1, j, listed => (Region.ready .any ops listed == [j]) && tailOk ops d (j + 1) (listed.setIfInBounds j true)
theorem wpAnyT_tail {P : Program} {Q : Exit → Act → World → Prop} {S : World → Prop} {l : List Oper} {k : Nat} : ∀ (d j : Nat) (listed : Array Bool) (a : Act) (w : World), k ≤ j → j + d = l.length → tailOk l.toArray d j listed = true →
    wpList P l.toArray (NoPanic Q) (l.drop j) a w → wpAnyT P .any l.toArray (NoPanic Q) S k d listed a w
  | 0, j, listed, a, w, _, hl, hB, h => by
    rw [List.drop_eq_nil_of_le (by omega)] at h
    exact ⟨by simpa [tailOk] using hB, h⟩
  | d + 1, j, listed, a, w, hkj, hl, hB, h => by
    simp only [tailOk, Bool.and_eq_true, beq_iff_eq] at hB
    obtain ⟨hr, hB⟩ := hB
    have ho : l.toArray[j]? = some (l[j]'(by omega)) := by simp [List.getElem?_eq_getElem (show j < l.length by omega)]
    rw [List.drop_eq_getElem_cons (show j < l.length by omega)] at h
    refine ⟨fun h0 => (by rw [h0] at hr; cases hr), fun i hi => ?_⟩
    rw [hr] at hi
    obtain rfl : i = j := by simpa using hi
    unfold wpList at h
    unfold wpOp
    simp only [ho]
    split
    · rename_i hw
      rw [if_pos hw] at h
      exact h.imp (Oper.wp_mono (fun a'' w'' hq => ⟨fun hne => absurd hne (by omega), wpAnyT_tail d (i + 1) _ _ _ (by omega) (by omega) hB hq⟩)) (fun h => h)
    · rename_i hw
      rw [if_neg hw] at h
      exact ⟨fun hne => absurd hne (by omega), wpAnyT_tail d (i + 1) _ _ _ (by omega) (by omega) hB h⟩
theorem wpMix0_mono {P : Program} {ops : Array Oper} {Q : Exit → Act → World → Prop} {S : World → Prop} : ∀ (m : List (Oper × Bool)) (K K' : Act → World → Prop) (_ : ∀ a w, K a w → K' a w) (a : Act) (w : World), wpMix0 P ops S Q K m a w → wpMix0 P ops S Q K' m a w := by
  intro m K K' hK
  induction m with
  | nil => exact fun a w h => hK a w h
  | cons x m ih =>
    obtain ⟨o, b⟩ := x
    intro a w h
    cases b with
    | true =>
      simp only [wpMix0] at h ⊢
      split
      · rename_i hw; rw [if_pos hw] at h; obtain ⟨v, h1, h2⟩ := h; exact ⟨v, h1, ih _ _ h2⟩
      · rename_i hw; rw [if_neg hw] at h; exact ih _ _ h
    | false =>
      simp only [wpMix0] at h ⊢
      split
      · rename_i hw; rw [if_pos hw] at h; exact Oper.wp_mono (fun a' w' ⟨h1, h2⟩ => ⟨h1, ih _ _ h2⟩) h
      · rename_i hw; rw [if_neg hw] at h; exact ih _ _ h
/-- what is checked of an order and its tail -/
def mixTailOk (l : List Oper) (n : Nat) (order : List (Nat × Bool)) : Bool :=
  Region.noSelect l.toArray && (order.length == n) && (decide (n ≤ l.length)) && (order.all fun x => (decide (x.1 < n)) && (!x.2 || ((List.range l.toArray.size).all fun j => decide (j < n) || waitsT .any l.toArray j x.1))) &&
    ((mixTo l.toArray order (Array.replicate l.length false)).map fun x => tailOk l.toArray (l.length - n) n x).getD false
theorem wpAny_mix_tail {P : Program} {Q : Exit → Act → World → Prop} {a : Act} {w : World} {l : List Oper} (S : World → Prop) (n : Nat) (order : List (Nat × Bool)) (hB : mixTailOk l n order = true) (hS : S w.drew)
    (h : Nonempty (InC S) → wpMix0 P l.toArray S Q (fun a w => S w → wpList P l.toArray (NoPanic Q) (l.drop n) a w) (order.map fun x => (l.toArray.getD x.1 default, x.2)) a w.drew) :
    wpAny P .any l.toArray (NoPanic Q) l.length (Array.replicate l.length false) a w.drew := by
  unfold mixTailOk at hB
  simp only [Bool.and_eq_true, beq_iff_eq, decide_eq_true_eq] at hB
  obtain ⟨⟨⟨⟨hsel, hlen⟩, hn⟩, hall⟩, hmix⟩ := hB
  cases hx : mixTo l.toArray order (Array.replicate l.length false) with
  | none => rw [hx] at hmix; cases hmix
  | some listed' =>
    rw [hx] at hmix
    simp only [Option.map_some, Option.getD_some] at hmix
    have := wpAnyT_pre (P := P) (Q := Q) (S := S) (k := n) hsel (l.length - n) listed' order (Array.replicate l.length false) a w.drew hx hall (fun m om hm hl => by simp only [Array.getD_eq_getD_getElem?, Array.getElem?_replicate] at hl; split at hl <;> cases hl) hS
      (wpMix0_mono _ _ _ (fun a' w' h' hs => wpAnyT_tail _ n _ _ _ (Nat.le_refl _) (by omega) hmix (h' hs)) _ _ (h ⟨⟨_, hS⟩⟩))
    have := wpAny_of_T _ _ _ _ this
    rwa [hlen, show n + (l.length - n) = l.length by omega] at this
theorem wp_region_mix_tail {P : Program} {id : Nat} {Q : Exit → Act → World → Prop} {a : Act} {w : World} {l : List Oper} (S : World → Prop) (n : Nat) (order : List (Nat × Bool)) (hm : P.follows .mixedOrders = true) (hB : mixTailOk l n order = true) (hS : S w.drew)
    (h : Nonempty (InC S) → wpMix P l.toArray S Q (fun a w => S w → wpList P l.toArray (NoPanic Q) (l.drop n) a w) (order.map fun x => (l.toArray.getD x.1 default, x.2)) a w.drew) : (Code.region id l.toArray true).wp P Q a w := by
  refine Code.wp_mono (Q := NoPanic Q) NoPanic.imp (wp_region_any hm ?_)
  have := wpAny_mix_tail S n order hB hS fun hne => (h hne).out
  simpa using this
theorem wpIn_region_mix_tail {P : Program} {id : Nat} {Q : Exit → Act → World → Prop} {a : Act} {w : World} {l : List Oper} {F : Fence} {m : Nat} (hF : Fence.Open F) (hnd : noDefer l = true) (hout : ∀ a w, ¬ Q .outgrown a w) (S : World → Prop) (n : Nat) (order : List (Nat × Bool)) (hm : P.follows .mixedOrders = true) (hB : mixTailOk l n order = true) (hS : S w.drew)
    (h : Nonempty (InC S) → wpMix P l.toArray S Q (fun a w => S w → wpList P l.toArray (NoPanic Q) (l.drop n) a w) (order.map fun x => (l.toArray.getD x.1 default, x.2)) a w.drew) : (Code.region id l.toArray true).wpIn F m P Q a w := by
  refine wpIn_mono (Q := NoPanic Q) (wpIn_region_any hm (wpAnyIn_of_any hF (by simpa using hnd) hout _ _ _ _ ?_)) NoPanic.imp
  have := wpAny_mix_tail S n order hB hS fun hne => (h hne).out
  simpa using this
/-- three may come up: each is walked -/
theorem wpAnyH_fork3 {P : Program} {ops : Array Oper} {Q : Exit → Act → World → Prop} {S : World → Prop} {f i j m : Nat} {listed : Array Bool} {a : Act} {w : World} (hr : (Region.ready .any ops listed == [i, j, m]) = true) (hS : S w)
    (h1 : wpMix P ops S Q (fun a w => S w → wpAnyH P .any ops (NoPanic Q) S f (listed.setIfInBounds i true) a w) [(ops.getD i default, false)] a w)
    (h2 : wpMix P ops S Q (fun a w => S w → wpAnyH P .any ops (NoPanic Q) S f (listed.setIfInBounds j true) a w) [(ops.getD j default, false)] a w)
    (h3 : wpMix P ops S Q (fun a w => S w → wpAnyH P .any ops (NoPanic Q) S f (listed.setIfInBounds m true) a w) [(ops.getD m default, false)] a w) :
    wpAnyH P .any ops (NoPanic Q) S (f + 1) listed a w := by
  have hr' : Region.ready .any ops listed = [i, j, m] := by simpa using hr
  have one : ∀ k, k ∈ Region.ready .any ops listed → wpMix0 P ops S Q (fun a w => S w → wpAnyH P .any ops (NoPanic Q) S f (listed.setIfInBounds k true) a w) [(ops.getD k default, false)] a w →
      wpOp P ops (NoPanic Q) k (fun a' w' => S w' ∧ wpAnyH P .any ops (NoPanic Q) S f (listed.setIfInBounds k true) a' w') a w := fun k hk h => by
    obtain ⟨_, oi, hoi, _⟩ := mem_ready.1 hk
    have hget : ops.getD k default = oi := by simp [hoi]
    simp only [wpMix0, hget] at h
    unfold wpOp
    simp only [hoi]
    by_cases hw : Region.wanted oi (yielded ops a.tmps) = true
    · rw [if_pos hw] at h ⊢
      exact .inl (Oper.wp_mono (fun a' w' ⟨g1, g2⟩ => ⟨g1, g2 g1⟩) h)
    · rw [if_neg hw] at h ⊢
      exact ⟨hS, h hS⟩
  refine ⟨fun h0 => (by rw [h0] at hr'; cases hr'), fun k hk => ?_⟩
  have hk' := hk
  rw [hr'] at hk
  rcases List.mem_cons.1 hk with rfl | hk
  · exact one _ hk' h1.out
  · rcases List.mem_cons.1 hk with rfl | hk
    · exact one _ hk' h2.out
    · obtain rfl : k = m := by simpa using hk
      exact one _ hk' h3.out
end Go.Proofs.YtfhmjgkcpcnkbaaDoor
/- Loops over functions within a loop: the marks that they leave, taken up at the end. No program in sight. -/
namespace Go.Proofs.YtfhmjgkcpcnkbaaDoor
open Go Go.RowKit

def markOf (D : Nat) : Deferred := { target := .collected D, args := #[] }
/-- marks, all apart, not below N -/
structure MarksOk (N : Nat) (ds : List Nat) (w : World) : Prop where
  at_ : ∀ D ∈ ds, N ≤ D ∧ w.heap[D]? = some (.deferred (some []))
  nd : ds.Nodup
theorem MarksOk.nil (N : Nat) (w : World) : MarksOk N [] w := ⟨fun _ h => (by cases h), List.nodup_nil⟩
theorem MarksOk.lt {N : Nat} {ds : List Nat} {w : World} (h : MarksOk N ds w) : ∀ D ∈ ds, D < w.heap.size := fun D hD => (Array.getElem?_eq_some_iff.1 (h.at_ D hD).2).1
theorem MarksOk.step {N : Nat} {ds : List Nat} {w w' : World} (h : MarksOk N ds w) (hb : Below w.heap.size w w') : MarksOk N ds w' :=
  ⟨fun D hD => ⟨(h.at_ D hD).1, (hb.block D (h.lt D hD)).trans (h.at_ D hD).2⟩, h.nd⟩
theorem MarksOk.grown {N : Nat} {ds : List Nat} {w w' : World} {row : Option Nat} (h : MarksOk N ds w) (hg : w.grownBy w' row) (hr : ∀ D ∈ ds, some D ≠ row) : MarksOk N ds w' :=
  ⟨fun D hD => ⟨(h.at_ D hD).1, (hg.block D (h.lt D hD) (hr D hD)).trans (h.at_ D hD).2⟩, h.nd⟩
theorem MarksOk.cell {N : Nat} {ds : List Nat} {w : World} {g : Nat} {t : TypeId} {cs : Array Value} (h : MarksOk N ds w) (hg : Blk w g t cs) (u : Value) : MarksOk N ds (w.setCell ⟨g, 0, none⟩ u) :=
  h.grown (grownBy_setCell' w g u) fun D hD e => by
    have e : D = g := Option.some.inj e
    subst e
    have := (h.at_ D hD).2
    rw [show w.heap[D]? = _ from hg] at this
    cases this
theorem MarksOk.cons {N D : Nat} {ds : List Nat} {w : World} (h : MarksOk N ds w) (hN : N ≤ D) (hD : w.heap[D]? = some (.deferred (some []))) (hn : D ∉ ds) : MarksOk N (D :: ds) w :=
  ⟨fun D' h' => by
    rcases List.mem_cons.1 h' with rfl | h'
    · exact ⟨hN, hD⟩
    · exact h.at_ _ h', List.nodup_cons.2 ⟨hn, h.nd⟩⟩
/-- what the taking up of marks leaves: cells lie as they lay -/
structure Taken (N : Nat) (w w' : World) : Prop where
  bel : Below N w w'
  blk : ∀ g t cs, Blk w g t cs → Blk w' g t cs
theorem leaves_marks {F : Fence} {n : Nat} {P : Program} {fn : Func} {tmps : Array Value} {R : Ending → World → Prop} {N : Nat} : ∀ (ds : List Nat) (w : World), MarksOk N ds w → (∀ w', Taken N w w' → ∃ v, (results fn tmps).run P w' = .ok v w' ∧ R (.returned v) w') →
    LeavesInM F n P fn tmps R (ds.map markOf) .returning w
  | [], w, _, h => by
    obtain ⟨v, h1, h2⟩ := h w ⟨Below.refl _ _, fun _ _ _ h => h⟩
    exact ⟨v, h1, h2⟩
  | D :: ds, w, hm, h => by
    obtain ⟨hN, hD⟩ := hm.at_ D (by simp)
    have hnd := List.nodup_cons.1 hm.nd
    have hb : Below N w (w.putObj D (.deferred none)) := ⟨rfl, rfl, rfl, by simp, fun k hk => World.putObj_heap_other (by omega)⟩
    refine ⟨by simp, .inl ⟨D, _, rfl, run_takeDeferred hD, leaves_marks ds _ ⟨fun D' h' => ⟨(hm.at_ D' (by simp [h'])).1, (World.putObj_heap_other (k := D') (fun e => hnd.1 (by rw [← e]; exact h'))).trans (hm.at_ D' (by simp [h'])).2⟩, hnd.2⟩ fun w' ht => h w' ⟨hb.trans ht.bel, fun g t cs hk => ht.blk g t cs ?_⟩⟩⟩
    refine (World.putObj_heap_other (fun e => ?_)).trans hk
    subst e
    rw [show w.heap[g]? = _ from hk] at hD
    cases hD
/-- what a piece of code leaves, said in the frame's own words, and the rest once -/
theorem wp_share {P : Program} {c : Code} {Q : Exit → Act → World → Prop} {a : Act} {w : World} (R : Act → Act → World → Prop) (h1 : c.wp P (fun e a' w' => match e with | .normal => R a a' w' | _ => False) a w) (h2 : ∀ a' w', R a a' w' → Q .normal a' w') : c.wp P Q a w :=
  Code.wp_mono (fun e a' w' h => by cases e <;> first | exact h2 _ _ h | exact h.elim) h1
theorem wpIn_share {F : Fence} {n : Nat} {P : Program} {c : Code} {Q : Exit → Act → World → Prop} {a : Act} {w : World} (R : Act → Act → World → Prop) (h1 : c.wpIn F n P (fun e a' w' => match e with | .normal => R a a' w' | _ => False) a w) (h2 : ∀ a' w', R a a' w' → Q .normal a' w') : c.wpIn F n P Q a w :=
  wpIn_mono h1 (fun e a' w' h => by cases e <;> first | exact h2 _ _ h | exact h.elim)
/-- a loop's law, the slots that nobody wants left to one function -/
theorem wp_loop_us {P : Program} {c : Code} {Q : Exit → Act → World → Prop} {a : Act} {w : World} (J : (Nat → Value) → Act → World → Prop) (μ : Act → World → Nat) (h0 : J (fun j => a.tmps.toList.getD j undef) a w)
    (round : ∀ us a w, J us a w → c.wp P (Exit.then (fun a' w' => J (fun j => a'.tmps.toList.getD j undef) a' w' ∧ μ a' w' < μ a w) Q) a w) : (Code.loop c).wp P Q a w :=
  wp_loop (fun a w => ∃ us, J us a w) μ ⟨_, h0⟩ fun a w ⟨us, h⟩ => Code.wp_mono (fun e a' w' h => by cases e <;> first | exact ⟨⟨_, h.1⟩, h.2⟩ | exact h) (round us a w h)
/-- what a piece of code leaves, the slots that nobody wants left to one function -/
theorem wp_share_us {P : Program} {c : Code} {Q : Exit → Act → World → Prop} {a : Act} {w : World} (R : (Nat → Value) → Act → World → Prop) (h1 : c.wp P (fun e a' w' => match e with | .normal => R (fun j => a'.tmps.toList.getD j undef) a' w' | _ => False) a w) (h2 : ∀ us a' w', R us a' w' → Q .normal a' w') : c.wp P Q a w :=
  Code.wp_mono (fun e a' w' h => by cases e <;> first | exact h2 _ _ _ h | exact h.elim) h1
end Go.Proofs.YtfhmjgkcpcnkbaaDoor
/- Variables that hold a hash, in drawing regions; a literal of one stretch. -/
namespace Go.Proofs.YtfhmjgkcpcnkbaaDoor
open Go Go.RowKit

theorem HV.other {w : World} {g g' : Nat} {l : List UInt8} (h : HV w g' l) (hne : g' ≠ g) (cs : Array Value) : HV (w.setRow g cs) g' l := ⟨by
  have := setRow_other w g g' cs hne
  unfold Blk at *
  exact this.trans h.blk, h.len⟩
/-- a variable is written over -/
theorem wpList_hset2 {ops : Array Oper} {Q : Exit → Act → World → Prop} {o : Oper} {rest : List Oper} {a : Act} {w : World} {l l' : List UInt8} {g : Nat} (x y : Operand) (hg2 : o.guard = none) (ho2 : o.op = .store 48 x y) (k : HV w g l')
    (hx : a.eval x = .pointer (some ⟨g, 0, none⟩)) (hy : a.eval y = .agg (l.map B).toArray) (hl : l.length = 32)
    (h : ∀ W, HV W g l → Below g w W → (∀ g' m', g' ≠ g → HV w g' m' → HV W g' m') → wpList Tryd.prog ops Q rest (a.put o.dst undef) W) : wpList Tryd.prog ops Q (o :: rest) a w :=
  wpList_hset x y hg2 ho2 k hx hy hl fun W h1 h2 e => h W h1 h2 fun g' m' hne hk => by rw [e]; exact hk.other hne _
section
variable {ops : Array Oper} {Q : Exit → Act → World → Prop} {S : World → Prop} {R : Act → World → Prop} {o : Oper} {l : List (Oper × Bool)} {a : Act} {w : World}
set_option maxRecDepth 100000 in
theorem wpMix_hnew (hg : o.guard = none) (ho : o.op = .alloc 48) (hS : ∀ W, Below w.heap.size w W → S W)
    (h : ∀ W, HV W w.heap.size (List.replicate 32 0) → Below w.heap.size w W → wpMix Tryd.prog ops S Q R l (a.put o.dst (.pointer (some ⟨w.heap.size, 0, none⟩))) W) : wpMix Tryd.prog ops S Q R ((o, false) :: l) a w := by
  have hb : Below w.heap.size w (w.alloc (.cells zeroHash 48)) := (Below.refl _ _).alloc (Nat.le_refl _) _
  refine wpMix_run (by simp [Region.wanted, hg]) (.pointer (some ⟨w.heap.size, 0, none⟩)) (w.alloc (.cells zeroHash 48)) ?_ (hS _ hb) (h _ ⟨Blk.new w 48 zeroHash, rfl⟩ hb)
  unfold execOp
  rw [ho]
  rfl
theorem wpMix_hset3 {m m' : List UInt8} {g : Nat} (x y : Operand) (hg : o.guard = none) (ho : o.op = .store 48 x y) (k : HV w g m') (hx : a.eval x = .pointer (some ⟨g, 0, none⟩)) (hy : a.eval y = .agg (m.map B).toArray) (hl : m.length = 32)
    (hS : ∀ W, HV W g m → Below g w W → (∀ g' m', g' ≠ g → HV w g' m' → HV W g' m') → S W)
    (h : ∀ W, HV W g m → Below g w W → (∀ g' m', g' ≠ g → HV w g' m' → HV W g' m') → wpMix Tryd.prog ops S Q R l (a.put o.dst undef) W) : wpMix Tryd.prog ops S Q R ((o, false) :: l) a w := by
  have hb : Below g w (w.setRow g (m.map B).toArray) := below_setRow (Below.refl _ _) (Nat.le_refl _) _
  have hk : HV (w.setRow g (m.map B).toArray) g m := ⟨k.blk.setRow_ _, hl⟩
  exact wpMix_store_blk hg 48 x y ho 32 size26 g (m.map B).toArray hx hy (by simp [hl]) (oneCell_B _) 48 _ k.blk (by simp [k.len]) (hS _ hk hb fun g' m' hne hk => hk.other hne _) (h _ hk hb fun g' m' hne hk => hk.other hne _)
theorem wpMix_hset {m m' : List UInt8} {g : Nat} (x y : Operand) (hg : o.guard = none) (ho : o.op = .store 48 x y) (k : HV w g m') (hx : a.eval x = .pointer (some ⟨g, 0, none⟩)) (hy : a.eval y = .agg (m.map B).toArray) (hl : m.length = 32) (hS : ∀ W, Below g w W → S W)
    (h : ∀ W, HV W g m → Below g w W → (∀ g' m', g' ≠ g → HV w g' m' → HV W g' m') → wpMix Tryd.prog ops S Q R l (a.put o.dst undef) W) : wpMix Tryd.prog ops S Q R ((o, false) :: l) a w := by
  have hb : Below g w (w.setRow g (m.map B).toArray) := below_setRow (Below.refl _ _) (Nat.le_refl _) _
  exact wpMix_store_blk hg 48 x y ho 32 size26 g (m.map B).toArray hx hy (by simp [hl]) (oneCell_B _) 48 _ k.blk (by simp [k.len]) (hS _ hb) (h _ ⟨k.blk.setRow_ _, hl⟩ hb fun g' m' hne hk => hk.other hne _)
end
set_option maxRecDepth 100000 in
theorem run_litR_op {ρ : Operand → Value} {o : Oper} (x : Operand) (a b : Int) (ho : o.op = .buildSlice 107 1 #[(0, x)]) (hx : ρ x = .agg #[.int .i64 a, .int .i64 b]) (W : World) :
    (execOp ρ o).run Tryd.prog W = .ok (.value (.slice (some ⟨W.heap.size, 0, none⟩) 1 1)) (W.alloc (.cells #[.int .i64 a, .int .i64 b] 96)) := by
  unfold execOp
  simp only [ho, Sem.run_bind, Sem.run_pure, List.map_toArray, List.map_cons, List.map_nil, hx]
  kernel_rfl
end Go.Proofs.YtfhmjgkcpcnkbaaDoor
/- notaryref08.Pairs, Top, Rows. -/
namespace Go.Proofs.YtfhmjgkcpcnkbaaDoor
open Go Go.RowKit

structure RpC (w : World) (A : Option Addr) (n c : Nat) (hs ps : List (List UInt8)) (v : Value) (k : Nat) (W : World) : Prop where
  own : W.ownsRow w.heap.size 48 32 v k (hcells ps)
  src : Hs W (· < w.heap.size) A n c hs
  bel : Below w.heap.size w W
theorem RpC.step {w W W' : World} {A : Option Addr} {n c : Nat} {hs ps : List (List UInt8)} {v : Value} {k : Nat} (h : RpC w A n c hs ps v k W) (hb : Below W.heap.size W W') : RpC w A n c hs ps v k W' := ⟨owns_step h.own hb, h.src.step hb, h.bel.trans (hb.mono h.bel.size)⟩
theorem RpC.drew {w W : World} {A : Option Addr} {n c : Nat} {hs ps : List (List UInt8)} {v : Value} {k : Nat} (h : RpC w A n c hs ps v k W) : RpC w A n c hs ps v k W.drew := h.step (Below.refl _ _).drew

end Go.Proofs.YtfhmjgkcpcnkbaaDoor
/- notaryref08.Top, Rows. -/
namespace Go.Proofs.YtfhmjgkcpcnkbaaDoor
open Go Go.RowKit

theorem length_topL (hs : List (List UInt8)) (h : H32 hs) : (topL hs).length = 32 := by
  refine length_lastHead _ fun l hl => ?_
  unfold rowsL at hl
  have : ∀ (f : Nat) (hs : List (List UInt8)), H32 hs → ∀ l ∈ rowsF f hs, H32 l := by
    intro f
    induction f with
    | zero => intro hs _ l hl; cases hl
    | succ f ih =>
      intro hs hh l hl
      simp only [rowsF] at hl
      split at hl
      · cases hl
      · split at hl
        · rw [List.mem_singleton.1 hl]; exact hh
        · rcases List.mem_cons.1 hl with rfl | hl
          · exact hh
          · exact ih _ (pairsL_all hs) l hl
  exact this _ _ h l hl
theorem pow2_even (m : Nat) (h : m % 2 = 0) : pow2 (m / 2) = pow2 m := by
  have := pow2_double (m / 2)
  rw [show m / 2 + m / 2 = m by omega] at this
  exact this.symm
theorem pow2_odd (m : Nat) (h : m % 2 = 1) (h2 : 1 < m) : pow2 m = false := by
  cases hp : pow2 m with
  | false => rfl
  | true => have := (pow2_half m hp (by omega)).1; omega

theorem top_any (hs : List (List UInt8)) (A : Option Addr) (n c : Nat) (w : World) (h : Hs w (fun _ => True) A n c hs) (hn : n ≤ 4398046511104) :
    Calls Tryd.prog 70 #[.slice A n c] w fun e w' => e = .returned (.tuple #[.agg ((topR hs).1.map B).toArray, .int .i64 (topR hs).2]) ∧ Below w.heap.size w w' := by
  unfold topR
  cases hp : pow2 hs.length with
  | true => exact top_ok hs A n c w h (by rw [← h.len]; exact hp) hn
  | false => exact top_bad A n c w (by rw [← h.len]; exact hp) hn

end Go.Proofs.YtfhmjgkcpcnkbaaDoor
