/- As Mix2, with several operations at the end, each waiting for all others ahead of it. No program in sight. -/
import Derived.Test.YtgcbdnoniikboaaQb125
import Derived.Test.YtgcbdnoniikboaaQb126
namespace Go.Proofs.Ytgcbdnoniikboaa
open Go

section
variable {P : Program} {ops : Array Oper} {Q : Exit → Act → World → Prop} {md : Region.Mode} {S : World → Prop} {k : Nat}

def wpAnyT (P : Program) (md : Region.Mode) (ops : Array Oper) (Q : Exit → Act → World → Prop) (S : World → Prop) (k : Nat) : Nat → Array Bool → Act → World → Prop
  | 0, listed, a, w => Region.ready md ops listed = [] ∧ Q .normal a w
  | fuel + 1, listed, a, w =>
    (Region.ready md ops listed = [] → Q .normal a w) ∧
    ∀ i ∈ Region.ready md ops listed, wpOp P ops Q i (fun a' w' => (i < k → S w') ∧ wpAnyT P md ops Q S k fuel (listed.setIfInBounds i true) a' w') a w

theorem wpAny_of_T : ∀ (fuel : Nat) (listed : Array Bool) (a : Act) (w : World), wpAnyT P md ops Q S k fuel listed a w → wpAny P md ops Q fuel listed a w
  | 0, _, _, _, h => h
  | fuel + 1, _, _, _, h => ⟨h.1, fun i hi => wpOp_mono (fun a' w' h' => wpAny_of_T fuel _ a' w' h'.2) (h.2 i hi)⟩

/-- what is listed is closed -/
def Cl (md : Region.Mode) (ops : Array Oper) (listed : Array Bool) : Prop := ∀ m om, ops[m]? = some om → listed.getD m false = true → ∀ e ∈ om.after, Region.binds md e = true → listed.getD e.on false = true
theorem getD_set_up {listed : Array Bool} {j x : Nat} (h : listed.getD x false = true) : (listed.setIfInBounds j true).getD x false = true := by
  simp only [Array.getD_eq_getD_getElem?, Array.getElem?_setIfInBounds] at h ⊢
  split
  · rename_i e
    subst e
    split
    · rfl
    · rename_i hx
      rw [Array.getElem?_eq_none (by omega)] at h
      exact h
  · exact h
theorem Cl.put {listed : Array Bool} {j : Nat} (h : Cl md ops listed) (hj : j ∈ Region.ready md ops listed) : Cl md ops (listed.setIfInBounds j true) := fun m om hm hl e he hb => by
  by_cases e' : j = m
  · subst e'
    obtain ⟨_, oj, hoj, hall⟩ := mem_ready.1 hj
    rw [hm] at hoj
    cases hoj
    exact getD_set_up (hall e he hb)
  · rw [getD_set_ne false e'] at hl
    exact getD_set_up (h m om hm hl e he hb)
/-- k waits for i, at once or over others -/
def waitsF (md : Region.Mode) (ops : Array Oper) : Nat → Nat → Nat → Bool
  | 0, k, i => waitsB md ops k i
  | f + 1, k, i => waitsB md ops k i || (List.range ops.size).any fun m => waitsB md ops k m && waitsF md ops f m i
def waitsT (md : Region.Mode) (ops : Array Oper) (k i : Nat) : Bool := waitsF md ops 3 k i
theorem waitsF_spec {listed : Array Bool} {i : Nat} (hcl : Cl md ops listed) : ∀ (f j : Nat) (oj : Oper), ops[j]? = some oj → (∀ e ∈ oj.after, Region.binds md e = true → listed.getD e.on false = true) → waitsF md ops f j i = true → listed.getD i false = true
  | 0, j, oj, hoj, hall, h => by
    obtain ⟨e, he, hb, ho⟩ := waits_spec hoj h
    rw [← ho]
    exact hall e he hb
  | f + 1, j, oj, hoj, hall, h => by
    simp only [waitsF, Bool.or_eq_true] at h
    rcases h with h | h
    · obtain ⟨e, he, hb, ho⟩ := waits_spec hoj h
      rw [← ho]
      exact hall e he hb
    · obtain ⟨m, hm, h⟩ := List.any_eq_true.1 h
      rw [Bool.and_eq_true] at h
      obtain ⟨e, he, hb, ho⟩ := waits_spec hoj h.1
      have hl := hall e he hb
      rw [ho] at hl
      have hms : m < ops.size := List.mem_range.1 hm
      exact waitsF_spec hcl f m _ (Array.getElem?_eq_getElem hms) (fun e2 he2 hb2 => hcl m _ (Array.getElem?_eq_getElem hms) hl e2 he2 hb2) h.2
theorem waitsT_spec {listed : Array Bool} {j i : Nat} {oj : Oper} (hcl : Cl md ops listed) (hoj : ops[j]? = some oj) (hall : ∀ e ∈ oj.after, Region.binds md e = true → listed.getD e.on false = true) (h : waitsT md ops j i = true) : listed.getD i false = true :=
  waitsF_spec hcl 3 j oj hoj hall h

theorem wpAnyT_first {i : Nat} {oi : Oper} {v : Value} (hi : ops[i]? = some oi) (hsel : ∀ (j : Nat) (o : Oper) cs b, ops[j]? = some o → o.op ≠ .select cs b) (hw : ∀ j, k ≤ j → j < ops.size → waitsT md ops j i = true)
    (hQ : ∀ c a w, Q (.panic c) (a.put oi.dst v) w → Q (.panic c) a w) :
    ∀ (fuel : Nat) (listed : Array Bool) (a : Act) (w : World), Cl md ops listed →
      (∀ j oj, ops[j]? = some oj → j ≠ i → listed.getD j true = false → (∀ e ∈ oj.after, Region.binds md e = true → e.on ≠ i) → oi.apart ops oj = true) →
      i ∈ Region.ready md ops listed → YieldsIf P ops S oi v a → S w →
      wpAnyT P md ops Q S k fuel (listed.setIfInBounds i true) (a.put oi.dst v) w → wpAnyT P md ops Q S k (fuel + 1) listed a w := by
  intro fuel
  induction fuel with
  | zero =>
    intro listed a w _ _ hr hy hS H
    refine ⟨fun h => (by rw [h] at hr; cases hr), fun j hj => ?_⟩
    by_cases hji : j = i
    · subst hji; exact hy.wpOp hi hS ⟨fun _ => hS, H⟩
    · have := ready_mono hj hji
      rw [H.1] at this
      cases this
  | succ fuel ih =>
    intro listed a w hcl hfree hr hy hS H
    refine ⟨fun h => (by rw [h] at hr; cases hr), fun j hj => ?_⟩
    by_cases hji : j = i
    · subst hji; exact hy.wpOp hi hS ⟨fun _ => hS, H⟩
    · have h1 := H.2 j (ready_mono hj hji)
      obtain ⟨hjun, oj, hoj, hall⟩ := mem_ready.1 hj
      have hnot : ∀ e ∈ oj.after, Region.binds md e = true → e.on ≠ i := fun e he hb heq => by
        have h1 := hall e he hb
        have h0 := (mem_ready.1 hr).1
        rw [heq] at h1
        rcases Nat.lt_or_ge i listed.size with h' | h'
        · simp [h'] at h0 h1; rw [h0] at h1; cases h1
        · simp [Array.getElem?_eq_none h'] at h1
      have hjk : j < k := by
        rcases Nat.lt_or_ge j k with h' | h'
        · exact h'
        · exfalso
          have hl := waitsT_spec hcl hoj hall (hw j h' (Array.getElem?_eq_some_iff.1 hoj).1)
          have h0 := (mem_ready.1 hr).1
          rcases Nat.lt_or_ge i listed.size with h' | h'
          · simp [h'] at h0 hl; rw [h0] at hl; cases hl
          · simp [Array.getElem?_eq_none h'] at hl
      have h2 := wpOp_putIf hoj (hfree j oj hoj hji hjun hnot) (fun cs b => hsel i oi cs b hi) (fun cs b => hsel j oj cs b hoj) hQ hy h1
      have hfree' : ∀ m ok, ops[m]? = some ok → m ≠ i → (listed.setIfInBounds j true).getD m true = false →
          (∀ e ∈ ok.after, Region.binds md e = true → e.on ≠ i) → oi.apart ops ok = true := fun m ok hm hmi hun hno => by
        refine hfree m ok hm hmi ?_ hno
        by_cases hjm : j = m
        · subst hjm; exact hjun
        · rw [getD_set_ne true hjm] at hun; exact hun
      refine wpOp_mono (fun a' w' h3 => ⟨fun _ => h3.2.1 hjk, ih (listed.setIfInBounds j true) a' w' (hcl.put hj) hfree' (ready_mono hr (Ne.symm hji)) h3.1 (h3.2.1 hjk) ?_⟩) h2
      rw [Array.setIfInBounds_comm _ _ hji]
      exact h3.2.2

theorem wpAnyT_pre (hsel : Region.noSelect ops = true) (f : Nat) (listed' : Array Bool) : ∀ (l : List (Nat × Bool)) (listed : Array Bool) (a : Act) (w : World), mixTo ops l listed = some listed' →
    (l.all fun x => (decide (x.1 < k)) && (!x.2 || ((List.range ops.size).all fun j => decide (j < k) || waitsT .any ops j x.1))) = true → Cl .any ops listed → S w →
    wpMix0 P ops S Q (fun a w => S w → wpAnyT P .any ops (NoPanic Q) S k f listed' a w) (l.map fun x => (ops.getD x.1 default, x.2)) a w → wpAnyT P .any ops (NoPanic Q) S k (l.length + f) listed a w
  | [], listed, a, w, hB, _, _, hS, h => by
    simp only [mixTo, Option.some.injEq] at hB
    subst hB
    simpa using h hS
  | (i, true) :: l, listed, a, w, hB, hall, hcl, hS, h => by
    simp only [List.all_cons, Bool.and_eq_true, Bool.not_true, Bool.false_or] at hall
    simp only [mixTo] at hB
    split at hB
    case isFalse => cases hB
    rename_i hB0
    simp only [Bool.and_eq_true] at hB0
    obtain ⟨hr, hf⟩ := hB0
    have hr' : i ∈ Region.ready .any ops listed := by simpa using hr
    obtain ⟨_, oi, hoi, _⟩ := mem_ready.1 hr'
    have hget : ops.getD i default = oi := by simp [hoi]
    simp only [List.map_cons, wpMix0, hget] at h
    have hy : ∃ v, YieldsIf P ops S oi v a ∧ wpMix0 P ops S Q (fun a w => S w → wpAnyT P .any ops (NoPanic Q) S k f listed' a w) (l.map fun x => (ops.getD x.1 default, x.2)) (a.put oi.dst v) w := by
      by_cases hw : Region.wanted oi (yielded ops a.tmps) = true
      · rw [if_pos hw] at h
        obtain ⟨v, h1, h2⟩ := h
        exact ⟨v, .inl ⟨hw, fun w' hw' => h1 ⟨w', hw'⟩⟩, h2⟩
      · rw [if_neg hw] at h
        exact ⟨undef, .inr ⟨by simpa using hw, rfl⟩, h⟩
    obtain ⟨v, hy, h2⟩ := hy
    have := wpAnyT_first hoi (Region.noSelect_spec hsel) (fun j hkj hj => by have := List.all_eq_true.1 hall.1.2 j (List.mem_range.2 hj); simp only [Bool.or_eq_true, decide_eq_true_eq] at this; rcases this with h' | h'; exact absurd h' (by omega); exact h') (fun _ _ _ hp => hp) (l.length + f) listed a w hcl (Region.free_spec hoi hf) hr' hy hS
      (wpAnyT_pre hsel f listed' l _ _ w hB hall.2 (hcl.put hr') hS h2)
    rw [List.length_cons, show l.length + 1 + f = l.length + f + 1 by omega]
    exact this
  | (i, false) :: l, listed, a, w, hB, hall, hcl, hS, h => by
    simp only [List.all_cons, Bool.and_eq_true] at hall
    simp only [mixTo] at hB
    split at hB
    case isFalse => cases hB
    rename_i hB0
    have hr : Region.ready .any ops listed = [i] := by simpa using hB0
    have hr' : i ∈ Region.ready .any ops listed := by rw [hr]; simp
    obtain ⟨_, oi, hoi, _⟩ := mem_ready.1 hr'
    have hget : ops.getD i default = oi := by simp [hoi]
    simp only [List.map_cons, wpMix0, hget] at h
    rw [List.length_cons, show l.length + 1 + f = l.length + f + 1 by omega]
    refine ⟨fun h0 => (by rw [h0] at hr; cases hr), fun j hj => ?_⟩
    rw [hr] at hj
    obtain rfl : j = i := by simpa using hj
    unfold wpOp
    simp only [hoi]
    by_cases hw : Region.wanted oi (yielded ops a.tmps) = true
    · rw [if_pos hw] at h ⊢
      exact .inl (Oper.wp_mono (fun a' w' ⟨h1, h2⟩ => ⟨fun _ => h1, wpAnyT_pre hsel f listed' l _ a' w' hB hall.2 (hcl.put hr') h1 h2⟩) h)
    · rw [if_neg hw] at h ⊢
      exact ⟨fun _ => hS, wpAnyT_pre hsel f listed' l _ _ w hB hall.2 (hcl.put hr') hS h⟩
end


/-- the tail comes up in its order -/
def tailOk (ops : Array Oper) : Nat → Nat → Array Bool → Bool
  | 0, _, listed => (Region.ready .any ops listed).isEmpty
  | d + 1, j, listed => (Region.ready .any ops listed == [j]) && tailOk ops d (j + 1) (listed.setIfInBounds j true)
theorem wpAnyT_tail {P : Program} {Q : Exit → Act → World → Prop} {S : World → Prop} {l : List Oper} {k : Nat} : ∀ (d j : Nat) (listed : Array Bool) (a : Act) (w : World), k ≤ j → j + d = l.length → tailOk l.toArray d j listed = true →
    wpList P l.toArray (NoPanic Q) (l.drop j) a w → wpAnyT P .any l.toArray (NoPanic Q) S k d listed a w
  | 0, j, listed, a, w, _, hl, hB, h => by
    rw [List.drop_eq_nil_of_le (by omega)] at h
    exact ⟨by simpa [tailOk] using hB, h⟩
  | d + 1, j, listed, a, w, hkj, hl, hB, h => by
    simp only [tailOk, Bool.and_eq_true, beq_iff_eq] at hB
    obtain ⟨hr, hB⟩ := hB
    have ho : l.toArray[j]? = some (l[j]'(by omega)) := by simp [List.getElem?_eq_getElem (show j < l.length by omega)]
    rw [List.drop_eq_getElem_cons (show j < l.length by omega)] at h
    refine ⟨fun h0 => (by rw [h0] at hr; cases hr), fun i hi => ?_⟩
    rw [hr] at hi
    obtain rfl : i = j := by simpa using hi
    unfold wpList at h
    unfold wpOp
    simp only [ho]
    split
    · rename_i hw
      rw [if_pos hw] at h
      exact h.imp (Oper.wp_mono (fun a'' w'' hq => ⟨fun hne => absurd hne (by omega), wpAnyT_tail d (i + 1) _ _ _ (by omega) (by omega) hB hq⟩)) (fun h => h)
    · rename_i hw
      rw [if_neg hw] at h
      exact ⟨fun hne => absurd hne (by omega), wpAnyT_tail d (i + 1) _ _ _ (by omega) (by omega) hB h⟩
theorem wpMix0_mono {P : Program} {ops : Array Oper} {Q : Exit → Act → World → Prop} {S : World → Prop} : ∀ (m : List (Oper × Bool)) (K K' : Act → World → Prop) (_ : ∀ a w, K a w → K' a w) (a : Act) (w : World), wpMix0 P ops S Q K m a w → wpMix0 P ops S Q K' m a w := by
  intro m K K' hK
  induction m with
  | nil => exact fun a w h => hK a w h
  | cons x m ih =>
    obtain ⟨o, b⟩ := x
    intro a w h
    cases b with
    | true =>
      simp only [wpMix0] at h ⊢
      split
      · rename_i hw; rw [if_pos hw] at h; obtain ⟨v, h1, h2⟩ := h; exact ⟨v, h1, ih _ _ h2⟩
      · rename_i hw; rw [if_neg hw] at h; exact ih _ _ h
    | false =>
      simp only [wpMix0] at h ⊢
      split
      · rename_i hw; rw [if_pos hw] at h; exact Oper.wp_mono (fun a' w' ⟨h1, h2⟩ => ⟨h1, ih _ _ h2⟩) h
      · rename_i hw; rw [if_neg hw] at h; exact ih _ _ h
/-- what is checked of an order and its tail -/
def mixTailOk (l : List Oper) (n : Nat) (order : List (Nat × Bool)) : Bool :=
  Region.noSelect l.toArray && (order.length == n) && (decide (n ≤ l.length)) && (order.all fun x => (decide (x.1 < n)) && (!x.2 || ((List.range l.toArray.size).all fun j => decide (j < n) || waitsT .any l.toArray j x.1))) &&
    ((mixTo l.toArray order (Array.replicate l.length false)).map fun x => tailOk l.toArray (l.length - n) n x).getD false
theorem wpAny_mix_tail {P : Program} {Q : Exit → Act → World → Prop} {a : Act} {w : World} {l : List Oper} (S : World → Prop) (n : Nat) (order : List (Nat × Bool)) (hB : mixTailOk l n order = true) (hS : S w.drew)
    (h : Nonempty (InC S) → wpMix0 P l.toArray S Q (fun a w => S w → wpList P l.toArray (NoPanic Q) (l.drop n) a w) (order.map fun x => (l.toArray.getD x.1 default, x.2)) a w.drew) :
    wpAny P .any l.toArray (NoPanic Q) l.length (Array.replicate l.length false) a w.drew := by
  unfold mixTailOk at hB
  simp only [Bool.and_eq_true, beq_iff_eq, decide_eq_true_eq] at hB
  obtain ⟨⟨⟨⟨hsel, hlen⟩, hn⟩, hall⟩, hmix⟩ := hB
  cases hx : mixTo l.toArray order (Array.replicate l.length false) with
  | none => rw [hx] at hmix; cases hmix
  | some listed' =>
    rw [hx] at hmix
    simp only [Option.map_some, Option.getD_some] at hmix
    have := wpAnyT_pre (P := P) (Q := Q) (S := S) (k := n) hsel (l.length - n) listed' order (Array.replicate l.length false) a w.drew hx hall (fun m om hm hl => by simp only [Array.getD_eq_getD_getElem?, Array.getElem?_replicate] at hl; split at hl <;> cases hl) hS
      (wpMix0_mono _ _ _ (fun a' w' h' hs => wpAnyT_tail _ n _ _ _ (Nat.le_refl _) (by omega) hmix (h' hs)) _ _ (h ⟨⟨_, hS⟩⟩))
    have := wpAny_of_T _ _ _ _ this
    rwa [hlen, show n + (l.length - n) = l.length by omega] at this
theorem wp_region_mix_tail {P : Program} {id : Nat} {Q : Exit → Act → World → Prop} {a : Act} {w : World} {l : List Oper} (S : World → Prop) (n : Nat) (order : List (Nat × Bool)) (hm : P.follows .mixedOrders = true) (hB : mixTailOk l n order = true) (hS : S w.drew)
    (h : Nonempty (InC S) → wpMix P l.toArray S Q (fun a w => S w → wpList P l.toArray (NoPanic Q) (l.drop n) a w) (order.map fun x => (l.toArray.getD x.1 default, x.2)) a w.drew) : (Code.region id l.toArray true).wp P Q a w := by
  refine Code.wp_mono (Q := NoPanic Q) NoPanic.imp (wp_region_any hm ?_)
  have := wpAny_mix_tail S n order hB hS fun hne => (h hne).out
  simpa using this
theorem wpIn_region_mix_tail {P : Program} {id : Nat} {Q : Exit → Act → World → Prop} {a : Act} {w : World} {l : List Oper} {F : Fence} {m : Nat} (hF : Fence.Open F) (hnd : noDefer l = true) (hout : ∀ a w, ¬ Q .outgrown a w) (S : World → Prop) (n : Nat) (order : List (Nat × Bool)) (hm : P.follows .mixedOrders = true) (hB : mixTailOk l n order = true) (hS : S w.drew)
    (h : Nonempty (InC S) → wpMix P l.toArray S Q (fun a w => S w → wpList P l.toArray (NoPanic Q) (l.drop n) a w) (order.map fun x => (l.toArray.getD x.1 default, x.2)) a w.drew) : (Code.region id l.toArray true).wpIn F m P Q a w := by
  refine wpIn_mono (Q := NoPanic Q) (wpIn_region_any hm (wpAnyIn_of_any hF (by simpa using hnd) hout _ _ _ _ ?_)) NoPanic.imp
  have := wpAny_mix_tail S n order hB hS fun hne => (h hne).out
  simpa using this
/-- three may come up: each is walked -/
theorem wpAnyH_fork3 {P : Program} {ops : Array Oper} {Q : Exit → Act → World → Prop} {S : World → Prop} {f i j m : Nat} {listed : Array Bool} {a : Act} {w : World} (hr : (Region.ready .any ops listed == [i, j, m]) = true) (hS : S w)
    (h1 : wpMix P ops S Q (fun a w => S w → wpAnyH P .any ops (NoPanic Q) S f (listed.setIfInBounds i true) a w) [(ops.getD i default, false)] a w)
    (h2 : wpMix P ops S Q (fun a w => S w → wpAnyH P .any ops (NoPanic Q) S f (listed.setIfInBounds j true) a w) [(ops.getD j default, false)] a w)
    (h3 : wpMix P ops S Q (fun a w => S w → wpAnyH P .any ops (NoPanic Q) S f (listed.setIfInBounds m true) a w) [(ops.getD m default, false)] a w) :
    wpAnyH P .any ops (NoPanic Q) S (f + 1) listed a w := by
  have hr' : Region.ready .any ops listed = [i, j, m] := by simpa using hr
  have one : ∀ k, k ∈ Region.ready .any ops listed → wpMix0 P ops S Q (fun a w => S w → wpAnyH P .any ops (NoPanic Q) S f (listed.setIfInBounds k true) a w) [(ops.getD k default, false)] a w →
      wpOp P ops (NoPanic Q) k (fun a' w' => S w' ∧ wpAnyH P .any ops (NoPanic Q) S f (listed.setIfInBounds k true) a' w') a w := fun k hk h => by
    obtain ⟨_, oi, hoi, _⟩ := mem_ready.1 hk
    have hget : ops.getD k default = oi := by simp [hoi]
    simp only [wpMix0, hget] at h
    unfold wpOp
    simp only [hoi]
    by_cases hw : Region.wanted oi (yielded ops a.tmps) = true
    · rw [if_pos hw] at h ⊢
      exact .inl (Oper.wp_mono (fun a' w' ⟨g1, g2⟩ => ⟨g1, g2 g1⟩) h)
    · rw [if_neg hw] at h ⊢
      exact ⟨hS, h hS⟩
  refine ⟨fun h0 => (by rw [h0] at hr'; cases hr'), fun k hk => ?_⟩
  have hk' := hk
  rw [hr'] at hk
  rcases List.mem_cons.1 hk with rfl | hk
  · exact one _ hk' h1.out
  · rcases List.mem_cons.1 hk with rfl | hk
    · exact one _ hk' h2.out
    · obtain rfl : k = m := by simpa using hk
      exact one _ hk' h3.out
end Go.Proofs.Ytgcbdnoniikboaa
/- tree.Each. -/
namespace Go.Proofs.Ytgcbdnoniikboaa
open Go Go.RowKit

set_option maxHeartbeats 2000000 in
set_option maxRecDepth 100000 in
theorem each_any (hs : List (List UInt8)) (l : List (Int × Int)) (A : Option Addr) (n c : Nat) (Ar : Option Addr) (nr cr : Nat) (w : World) (h : Hs w (fun _ => True) A n c hs) (hr : Rs w (fun _ => True) Ar nr cr l) (hn : n ≤ 1099511627776) (hnr : nr ≤ 1099511627776) :
    Calls Try.prog 38 #[.slice A n c, .slice Ar nr cr] w fun e w' => ∃ (A' : Option Addr) (c' : Nat) (Ar' : Option Addr) (cr' : Nat), e = .returned (.func (.func 68) #[] #[.pointer (some ⟨w.heap.size + 1, 0, none⟩), .pointer (some ⟨w.heap.size, 0, none⟩)]) ∧
      Blk w' (w.heap.size + 1) 22 #[.slice Ar' nr cr'] ∧ Blk w' w.heap.size 37 #[.slice A' n c'] ∧ Hs w' (w.heap.size + 1 < ·) A' n c' hs ∧ Rs w' (w.heap.size + 1 < ·) Ar' nr cr' l ∧ Below w.heap.size w w' := by
  obtain ⟨w2, hw2⟩ : ∃ w2, (w.alloc (.cells #[.slice A n c] 37)).alloc (.cells #[.slice Ar nr cr] 22) = w2 := ⟨_, rfl⟩
  have hb2 : Below w.heap.size w w2 := by rw [← hw2]; exact ((Below.refl _ _).alloc (Nat.le_refl _) _).alloc (by simp) _
  have hsz : w2.heap.size = w.heap.size + 1 + 1 := by rw [← hw2]; simp
  have k2 : Blk w2 w.heap.size 37 #[.slice A n c] := by rw [← hw2]; exact (Blk.new _ _ _).alloc _
  have k3 : Blk w2 (w.heap.size + 1) 22 #[.slice Ar nr cr] := by rw [← hw2]; exact Blk.new' _ _ _ _ (by simp)
  have h2 := h.step hb2
  have hr2 := hr.step hb2
  have Hw2 := Lib.hid hw2
  clear hw2 h hr
  go_enter Try.func38, Try.ntmps38
  go_wp2_with fail
  rw [Hw2.out]
  have hh0 : Hs w2.drew (fun _ => True) A n c hs := h2.drew
  have hr0 : Rs w2.drew (fun _ => True) Ar nr cr l := hr2.drew
  have hsz0 : w2.drew.heap.size = w.heap.size + 1 + 1 := hsz
  have c2 : ∀ s : InC (fun W => Below w2.heap.size w2 W), s.W.cell? ⟨w.heap.size, 0, none⟩ = some (.slice A n c) := fun s => by rw [(k2.below s.ok (show w.heap.size < w2.heap.size by omega)).cell]; rfl
  have c3 : ∀ s : InC (fun W => Below w2.heap.size w2 W), s.W.cell? ⟨w.heap.size + 1, 0, none⟩ = some (.slice Ar nr cr) := fun s => by rw [(k3.below s.ok (show w.heap.size + 1 < w2.heap.size by omega)).cell]; rfl
  replace k2 : Blk w2.drew w.heap.size 37 #[.slice A n c] := k2
  replace k3 : Blk w2.drew (w.heap.size + 1) 22 #[.slice Ar nr cr] := k3
  clear h2 hr2
  have hS : Below w2.heap.size w2 w2.drew := (Below.refl _ _).drew
  refine wp_region_mix_tail (fun W => Below w2.heap.size w2 W) 4 [(0, true), (2, true), (1, false), (3, false)] (by kernel_rfl) (by kernel_rfl) hS fun _ => ?_
  simp only [List.map_cons, List.map_nil, Array.getD_eq_getD_getElem?, List.getElem?_toArray, List.getElem?_cons_succ, List.getElem?_cons_zero, Option.getD_some]
  generalize w2.drew = W0 at hS hh0 hr0 hsz0 k2 k3 ⊢
  refine wpMix_s (fun K hK => ?_)
  go_simp
  refine hK _ ?_
  clear hK K
  refine wpMix_s (fun K hK => ?_)
  go_simp
  refine hK _ ?_
  clear hK K
  refine wpMix_c (fun K hK => ?_) hS
  go_simp
  refine (cloneh_any hs A n c W0 hh0 hn).mono ?_
  rintro e W0_1 ⟨A1, c1, rfl, hh1, hb'⟩
  refine hK _ _ ?_
  clear hK K
  replace hS := hS.trans (hb'.mono hS.size)
  refine ⟨hS, ?_⟩
  have h3 := hr0.step hb'
  replace k2 := k2.step hb'
  replace k3 := k3.step hb'
  have hsW := hb'.size
  clear hb' hh0 hr0
  refine wpMix_c (fun K hK => ?_) hS
  go_simp
  refine (cloner_any l Ar nr cr W0_1 h3 hnr).mono ?_
  rintro e W0_2 ⟨A2, c2, rfl, hr1, hb'⟩
  refine hK _ _ ?_
  clear hK K
  replace hS := hS.trans (hb'.mono hS.size)
  refine ⟨hS, ?_⟩
  replace hh1 := hh1.step hb'
  replace k2 := k2.step hb'
  replace k3 := k3.step hb'
  have hsW2 := hb'.size
  clear hb' h3
  have d2 : W0_2.cell? ⟨w.heap.size, 0, none⟩ = some (.slice A n c) := by rw [k2.cell]; rfl
  have d3 : W0_2.cell? ⟨w.heap.size + 1, 0, none⟩ = some (.slice Ar nr cr) := by rw [k3.cell]; rfl
  have f2 := k2.frozen 0
  have f3 := k3.frozen 0
  refine wpMix_nil ?_
  intro _
  simp only [List.drop_succ_cons, List.drop_zero]
  generalize W0_2 = W9 at *
  go_wp2_with fail
  refine np_normal ?_
  have m2 : Blk ((W9.setCell ⟨w.heap.size, 0, none⟩ (.slice A1 n c1)).setCell ⟨w.heap.size + 1, 0, none⟩ (.slice A2 nr c2)) w.heap.size 37 #[.slice A1 n c1] := (k2.set_ 0 _).apart (by simp) _
  have m3 : Blk ((W9.setCell ⟨w.heap.size, 0, none⟩ (.slice A1 n c1)).setCell ⟨w.heap.size + 1, 0, none⟩ (.slice A2 nr c2)) (w.heap.size + 1) 22 #[.slice A2 nr c2] := (k3.apart (by simp) _).set_ 0 _
  have mh : Hs ((W9.setCell ⟨w.heap.size, 0, none⟩ (.slice A1 n c1)).setCell ⟨w.heap.size + 1, 0, none⟩ (.slice A2 nr c2)) (w.heap.size + 1 < ·) A1 n c1 hs :=
    ((hh1.weak (Y := (w.heap.size + 1 < ·)) fun b _ hb => by omega).grown (grownBy_setCell' W9 _ _) fun b _ hx e => by cases e; omega).grown (grownBy_setCell' _ _ _) fun b _ hx e => by cases e; omega
  have mr : Rs ((W9.setCell ⟨w.heap.size, 0, none⟩ (.slice A1 n c1)).setCell ⟨w.heap.size + 1, 0, none⟩ (.slice A2 nr c2)) (w.heap.size + 1 < ·) A2 nr c2 l :=
    ((hr1.weak (Y := (w.heap.size + 1 < ·)) fun b _ hb => by omega).grown (grownBy_setCell' W9 _ _) fun b _ hx e => by cases e; omega).grown (grownBy_setCell' _ _ _) fun b _ hx e => by cases e; omega
  have mb : Below w.heap.size w ((W9.setCell ⟨w.heap.size, 0, none⟩ (.slice A1 n c1)).setCell ⟨w.heap.size + 1, 0, none⟩ (.slice A2 nr c2)) := ((hb2.trans (hS.mono hb2.size)).setCell (by simp) _).setCell (by simp) _
  generalize (W9.setCell ⟨w.heap.size, 0, none⟩ (.slice A1 n c1)).setCell ⟨w.heap.size + 1, 0, none⟩ (.slice A2 nr c2) = W10 at *
  clear k2 k3 d2 d3 f2 f3 hh1 hr1 hS
  go_wp2_with fail
  go_ret
  exact ⟨_, _, _, _, rfl, m3, m2, mh, mr, mb⟩
end Go.Proofs.Ytgcbdnoniikboaa
/- Loops over functions within a loop: the marks that they leave, taken up at the end. No program in sight. -/
namespace Go.Proofs.Ytgcbdnoniikboaa
open Go Go.RowKit

def markOf (D : Nat) : Deferred := { target := .collected D, args := #[] }
/-- marks, all apart, not below N -/
structure MarksOk (N : Nat) (ds : List Nat) (w : World) : Prop where
  at_ : ∀ D ∈ ds, N ≤ D ∧ w.heap[D]? = some (.deferred (some []))
  nd : ds.Nodup
theorem MarksOk.nil (N : Nat) (w : World) : MarksOk N [] w := ⟨fun _ h => (by cases h), List.nodup_nil⟩
theorem MarksOk.lt {N : Nat} {ds : List Nat} {w : World} (h : MarksOk N ds w) : ∀ D ∈ ds, D < w.heap.size := fun D hD => (Array.getElem?_eq_some_iff.1 (h.at_ D hD).2).1
theorem MarksOk.step {N : Nat} {ds : List Nat} {w w' : World} (h : MarksOk N ds w) (hb : Below w.heap.size w w') : MarksOk N ds w' :=
  ⟨fun D hD => ⟨(h.at_ D hD).1, (hb.block D (h.lt D hD)).trans (h.at_ D hD).2⟩, h.nd⟩
theorem MarksOk.grown {N : Nat} {ds : List Nat} {w w' : World} {row : Option Nat} (h : MarksOk N ds w) (hg : w.grownBy w' row) (hr : ∀ D ∈ ds, some D ≠ row) : MarksOk N ds w' :=
  ⟨fun D hD => ⟨(h.at_ D hD).1, (hg.block D (h.lt D hD) (hr D hD)).trans (h.at_ D hD).2⟩, h.nd⟩
theorem MarksOk.cell {N : Nat} {ds : List Nat} {w : World} {g : Nat} {t : TypeId} {cs : Array Value} (h : MarksOk N ds w) (hg : Blk w g t cs) (u : Value) : MarksOk N ds (w.setCell ⟨g, 0, none⟩ u) :=
  h.grown (grownBy_setCell' w g u) fun D hD e => by
    have e : D = g := Option.some.inj e
    subst e
    have := (h.at_ D hD).2
    rw [show w.heap[D]? = _ from hg] at this
    cases this
theorem MarksOk.cons {N D : Nat} {ds : List Nat} {w : World} (h : MarksOk N ds w) (hN : N ≤ D) (hD : w.heap[D]? = some (.deferred (some []))) (hn : D ∉ ds) : MarksOk N (D :: ds) w :=
  ⟨fun D' h' => by
    rcases List.mem_cons.1 h' with rfl | h'
    · exact ⟨hN, hD⟩
    · exact h.at_ _ h', List.nodup_cons.2 ⟨hn, h.nd⟩⟩
/-- what the taking up of marks leaves: cells lie as they lay -/
structure Taken (N : Nat) (w w' : World) : Prop where
  bel : Below N w w'
  blk : ∀ g t cs, Blk w g t cs → Blk w' g t cs
theorem leaves_marks {F : Fence} {n : Nat} {P : Program} {fn : Func} {tmps : Array Value} {R : Ending → World → Prop} {N : Nat} : ∀ (ds : List Nat) (w : World), MarksOk N ds w → (∀ w', Taken N w w' → ∃ v, (results fn tmps).run P w' = .ok v w' ∧ R (.returned v) w') →
    LeavesInM F n P fn tmps R (ds.map markOf) .returning w
  | [], w, _, h => by
    obtain ⟨v, h1, h2⟩ := h w ⟨Below.refl _ _, fun _ _ _ h => h⟩
    exact ⟨v, h1, h2⟩
  | D :: ds, w, hm, h => by
    obtain ⟨hN, hD⟩ := hm.at_ D (by simp)
    have hnd := List.nodup_cons.1 hm.nd
    have hb : Below N w (w.putObj D (.deferred none)) := ⟨rfl, rfl, rfl, by simp, fun k hk => World.putObj_heap_other (by omega)⟩
    refine ⟨by simp, .inl ⟨D, _, rfl, run_takeDeferred hD, leaves_marks ds _ ⟨fun D' h' => ⟨(hm.at_ D' (by simp [h'])).1, (World.putObj_heap_other (k := D') (fun e => hnd.1 (by rw [← e]; exact h'))).trans (hm.at_ D' (by simp [h'])).2⟩, hnd.2⟩ fun w' ht => h w' ⟨hb.trans ht.bel, fun g t cs hk => ht.blk g t cs ?_⟩⟩⟩
    refine (World.putObj_heap_other (fun e => ?_)).trans hk
    subst e
    rw [show w.heap[g]? = _ from hk] at hD
    cases hD
/-- what a piece of code leaves, said in the frame's own words, and the rest once -/
theorem wp_share {P : Program} {c : Code} {Q : Exit → Act → World → Prop} {a : Act} {w : World} (R : Act → Act → World → Prop) (h1 : c.wp P (fun e a' w' => match e with | .normal => R a a' w' | _ => False) a w) (h2 : ∀ a' w', R a a' w' → Q .normal a' w') : c.wp P Q a w :=
  Code.wp_mono (fun e a' w' h => by cases e <;> first | exact h2 _ _ h | exact h.elim) h1
theorem wpIn_share {F : Fence} {n : Nat} {P : Program} {c : Code} {Q : Exit → Act → World → Prop} {a : Act} {w : World} (R : Act → Act → World → Prop) (h1 : c.wpIn F n P (fun e a' w' => match e with | .normal => R a a' w' | _ => False) a w) (h2 : ∀ a' w', R a a' w' → Q .normal a' w') : c.wpIn F n P Q a w :=
  wpIn_mono h1 (fun e a' w' h => by cases e <;> first | exact h2 _ _ h | exact h.elim)
/-- a loop's law, the slots that nobody wants left to one function -/
theorem wp_loop_us {P : Program} {c : Code} {Q : Exit → Act → World → Prop} {a : Act} {w : World} (J : (Nat → Value) → Act → World → Prop) (μ : Act → World → Nat) (h0 : J (fun j => a.tmps.toList.getD j undef) a w)
    (round : ∀ us a w, J us a w → c.wp P (Exit.then (fun a' w' => J (fun j => a'.tmps.toList.getD j undef) a' w' ∧ μ a' w' < μ a w) Q) a w) : (Code.loop c).wp P Q a w :=
  wp_loop (fun a w => ∃ us, J us a w) μ ⟨_, h0⟩ fun a w ⟨us, h⟩ => Code.wp_mono (fun e a' w' h => by cases e <;> first | exact ⟨⟨_, h.1⟩, h.2⟩ | exact h) (round us a w h)
/-- what a piece of code leaves, the slots that nobody wants left to one function -/
theorem wp_share_us {P : Program} {c : Code} {Q : Exit → Act → World → Prop} {a : Act} {w : World} (R : (Nat → Value) → Act → World → Prop) (h1 : c.wp P (fun e a' w' => match e with | .normal => R (fun j => a'.tmps.toList.getD j undef) a' w' | _ => False) a w) (h2 : ∀ us a' w', R us a' w' → Q .normal a' w') : c.wp P Q a w :=
  Code.wp_mono (fun e a' w' h => by cases e <;> first | exact h2 _ _ _ h | exact h.elim) h1
end Go.Proofs.Ytgcbdnoniikboaa
