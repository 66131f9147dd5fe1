/- A region that draws its order, walked once in an order of one's own: what only looks is taken first, what makes or writes memory comes in the one order that is left. No program in sight. -/
import Derived.Test.YtfhmjgkcpcnkbaaDoorQf104
import Derived.OrdersHeld
import Derived.Deep.RegionHeld3
import Derived.Laws.AppendOwn
import Derived.Laws.OwnMore
import Derived.Test.YtfhmjgkcpcnkbaaDoorQf105
import Derived.Laws.BytesArg
namespace Go.Proofs.YtfhmjgkcpcnkbaaDoor
open Go

section
variable {P : Program} {ops : Array Oper} {Q : Exit → Act → World → Prop} {S : World → Prop}

/-- the walk: 'true': an operation that yields its value in every world of which S holds and does nothing else; 'false': any other, behind which S holds; K: what is asked at the end -/
def wpMix0 (P : Program) (ops : Array Oper) (S : World → Prop) (Q : Exit → Act → World → Prop) (K : Act → World → Prop) : List (Oper × Bool) → Act → World → Prop
  | [], a, w => K a w
  | (o, true) :: l, a, w =>
    if Region.wanted o (yielded ops a.tmps) then ∃ v, (∀ s : InC S, (execOp a.eval o).run P s.W = .ok (.value v) s.W) ∧ wpMix0 P ops S Q K l (a.put o.dst v) w
    else wpMix0 P ops S Q K l (a.put o.dst undef) w
  | (o, false) :: l, a, w =>
    if Region.wanted o (yielded ops a.tmps) then o.wp P a w (fun a' w' => S w' ∧ wpMix0 P ops S Q K l a' w') (NoPanic Q)
    else wpMix0 P ops S Q K l (a.put o.dst undef) w

/-- the same, behind a name that nothing unfolds by itself -/
structure wpMix (P : Program) (ops : Array Oper) (S : World → Prop) (Q : Exit → Act → World → Prop) (K : Act → World → Prop) (l : List (Oper × Bool)) (a : Act) (w : World) : Prop where
  out : wpMix0 P ops S Q K l a w

/-- what has come up behind an order; none: it is no order in which this serves -/
def mixTo (ops : Array Oper) : List (Nat × Bool) → Array Bool → Option (Array Bool)
  | [], listed => some listed
  | (i, true) :: l, listed => if (Region.ready .any ops listed).contains i && Region.free .any ops listed i then mixTo ops l (listed.setIfInBounds i true) else none
  | (i, false) :: l, listed => if Region.ready .any ops listed == [i] then mixTo ops l (listed.setIfInBounds i true) else none

theorem wpAnyH_pre0 (hsel : Region.noSelect ops = true) (f : Nat) (listed' : Array Bool) : ∀ (l : List (Nat × Bool)) (listed : Array Bool) (a : Act) (w : World), mixTo ops l listed = some listed' → S w →
    wpMix0 P ops S Q (fun a w => S w → wpAnyH P .any ops (NoPanic Q) S f listed' a w) (l.map fun x => (ops.getD x.1 default, x.2)) a w → wpAnyH P .any ops (NoPanic Q) S (l.length + f) listed a w
  | [], listed, a, w, hB, hS, h => by
    simp only [mixTo, Option.some.injEq] at hB
    subst hB
    simpa using h hS
  | (i, true) :: l, listed, a, w, hB, hS, h => by
    simp only [mixTo] at hB
    split at hB
    case isFalse => cases hB
    rename_i hB0
    simp only [Bool.and_eq_true] at hB0
    obtain ⟨hr, hf⟩ := hB0
    have hr' : i ∈ Region.ready .any ops listed := by simpa using hr
    obtain ⟨_, oi, hoi, _⟩ := mem_ready.1 hr'
    have hget : ops.getD i default = oi := by simp [hoi]
    simp only [List.map_cons, wpMix0, hget] at h
    have hy : ∃ v, YieldsIf P ops S oi v a ∧ wpMix0 P ops S Q (fun a w => S w → wpAnyH P .any ops (NoPanic Q) S f listed' a w) (l.map fun x => (ops.getD x.1 default, x.2)) (a.put oi.dst v) w := by
      by_cases hw : Region.wanted oi (yielded ops a.tmps) = true
      · rw [if_pos hw] at h
        obtain ⟨v, h1, h2⟩ := h
        exact ⟨v, .inl ⟨hw, fun w' hw' => h1 ⟨w', hw'⟩⟩, h2⟩
      · rw [if_neg hw] at h
        exact ⟨undef, .inr ⟨by simpa using hw, rfl⟩, h⟩
    obtain ⟨v, hy, h2⟩ := hy
    have := wpAnyH_first hoi (Region.noSelect_spec hsel) (fun _ _ _ hp => hp) (l.length + f) listed a w (Region.free_spec hoi hf) hr' hy hS
      (wpAnyH_pre0 hsel f listed' l _ _ w hB hS h2)
    rw [List.length_cons, show l.length + 1 + f = l.length + f + 1 by omega]
    exact this
  | (i, false) :: l, listed, a, w, hB, hS, h => by
    simp only [mixTo] at hB
    split at hB
    case isFalse => cases hB
    rename_i hB0
    have hr : Region.ready .any ops listed = [i] := by simpa using hB0
    have hr' : i ∈ Region.ready .any ops listed := by rw [hr]; simp
    obtain ⟨_, oi, hoi, _⟩ := mem_ready.1 hr'
    have hget : ops.getD i default = oi := by simp [hoi]
    simp only [List.map_cons, wpMix0, hget] at h
    rw [List.length_cons, show l.length + 1 + f = l.length + f + 1 by omega]
    refine ⟨fun h0 => (by rw [h0] at hr; cases hr), fun j hj => ?_⟩
    rw [hr] at hj
    obtain rfl : j = i := by simpa using hj
    unfold wpOp
    simp only [hoi]
    by_cases hw : Region.wanted oi (yielded ops a.tmps) = true
    · rw [if_pos hw] at h ⊢
      exact .inl (Oper.wp_mono (fun a' w' ⟨h1, h2⟩ => ⟨h1, wpAnyH_pre0 hsel f listed' l _ a' w' hB h1 h2⟩) h)
    · rw [if_neg hw] at h ⊢
      exact ⟨hS, wpAnyH_pre0 hsel f listed' l _ _ w hB hS h⟩

theorem wpAnyH_pre (hsel : Region.noSelect ops = true) (f : Nat) (listed' : Array Bool) (l : List (Nat × Bool)) (listed : Array Bool) (a : Act) (w : World) (hm : mixTo ops l listed = some listed') (hS : S w)
    (h : wpMix P ops S Q (fun a w => S w → wpAnyH P .any ops (NoPanic Q) S f listed' a w) (l.map fun x => (ops.getD x.1 default, x.2)) a w) : wpAnyH P .any ops (NoPanic Q) S (l.length + f) listed a w :=
  wpAnyH_pre0 hsel f listed' l listed a w hm hS h.out

/-- two may come up: each is walked -/
theorem wpAnyH_fork0 {f i j : Nat} {listed : Array Bool} {a : Act} {w : World} (hr : (Region.ready .any ops listed == [i, j]) = true) (hS : S w)
    (h1 : wpMix0 P ops S Q (fun a w => S w → wpAnyH P .any ops (NoPanic Q) S f (listed.setIfInBounds i true) a w) [(ops.getD i default, false)] a w)
    (h2 : wpMix0 P ops S Q (fun a w => S w → wpAnyH P .any ops (NoPanic Q) S f (listed.setIfInBounds j true) a w) [(ops.getD j default, false)] a w) :
    wpAnyH P .any ops (NoPanic Q) S (f + 1) listed a w := by
  have hr' : Region.ready .any ops listed = [i, j] := by simpa using hr
  have one : ∀ k, k ∈ Region.ready .any ops listed → wpMix0 P ops S Q (fun a w => S w → wpAnyH P .any ops (NoPanic Q) S f (listed.setIfInBounds k true) a w) [(ops.getD k default, false)] a w →
      wpOp P ops (NoPanic Q) k (fun a' w' => S w' ∧ wpAnyH P .any ops (NoPanic Q) S f (listed.setIfInBounds k true) a' w') a w := fun k hk h => by
    obtain ⟨_, oi, hoi, _⟩ := mem_ready.1 hk
    have hget : ops.getD k default = oi := by simp [hoi]
    simp only [wpMix0, hget] at h
    unfold wpOp
    simp only [hoi]
    by_cases hw : Region.wanted oi (yielded ops a.tmps) = true
    · rw [if_pos hw] at h ⊢
      exact .inl (Oper.wp_mono (fun a' w' ⟨g1, g2⟩ => ⟨g1, g2 g1⟩) h)
    · rw [if_neg hw] at h ⊢
      exact ⟨hS, h hS⟩
  refine ⟨fun h0 => (by rw [h0] at hr'; cases hr'), fun k hk => ?_⟩
  have hk' := hk
  rw [hr'] at hk
  rcases List.mem_cons.1 hk with rfl | hk
  · exact one _ hk' h1
  · obtain rfl : k = j := by simpa using hk
    exact one _ hk' h2

theorem wpAnyH_fork {f i j : Nat} {listed : Array Bool} {a : Act} {w : World} (hr : (Region.ready .any ops listed == [i, j]) = true) (hS : S w)
    (h1 : wpMix P ops S Q (fun a w => S w → wpAnyH P .any ops (NoPanic Q) S f (listed.setIfInBounds i true) a w) [(ops.getD i default, false)] a w)
    (h2 : wpMix P ops S Q (fun a w => S w → wpAnyH P .any ops (NoPanic Q) S f (listed.setIfInBounds j true) a w) [(ops.getD j default, false)] a w) :
    wpAnyH P .any ops (NoPanic Q) S (f + 1) listed a w := wpAnyH_fork0 hr hS h1.out h2.out

theorem wpAnyH_end {listed : Array Bool} {a : Act} {w : World} (hr : (Region.ready .any ops listed).isEmpty = true) (h : Q .normal a w) : wpAnyH P .any ops (NoPanic Q) S 0 listed a w := ⟨by simpa using hr, h⟩

end

/-- THE LAW, open at its end: the order is one's own; its check is a computation. -/
theorem wp_region_begin {P : Program} {id : Nat} {Q : Exit → Act → World → Prop} {a : Act} {w : World} {l : List Oper} (S : World → Prop) (hm : P.follows .mixedOrders = true) (hS : S w.drew)
    (h : Nonempty (InC S) → wpAnyH P .any l.toArray (NoPanic Q) S l.length (Array.replicate l.length false) a w.drew) : (Code.region id l.toArray true).wp P Q a w := by
  refine Code.wp_mono (Q := NoPanic Q) NoPanic.imp (wp_region_any hm ?_)
  have := wpAny_of_held _ _ _ _ (h ⟨⟨_, hS⟩⟩)
  simpa using this
/-- .. where one order serves -/
theorem wp_region_mix0 {P : Program} {id : Nat} {Q : Exit → Act → World → Prop} {a : Act} {w : World} {l : List Oper} (S : World → Prop) (order : List (Nat × Bool)) (hm : P.follows .mixedOrders = true)
    (hB : (Region.noSelect l.toArray && (order.length == l.length) && ((mixTo l.toArray order (Array.replicate l.length false)).map fun x => (Region.ready .any l.toArray x).isEmpty).getD false) = true) (hS : S w.drew)
    (h : Nonempty (InC S) → wpMix0 P l.toArray S Q (fun a w => S w → Q .normal a w) (order.map fun x => (l.toArray.getD x.1 default, x.2)) a w.drew) : (Code.region id l.toArray true).wp P Q a w := by
  simp only [Bool.and_eq_true, beq_iff_eq] at hB
  obtain ⟨⟨hsel, hlen⟩, hmix⟩ := hB
  refine wp_region_begin S hm hS fun hne => ?_
  cases hx : mixTo l.toArray order (Array.replicate l.length false) with
  | none => rw [hx] at hmix; cases hmix
  | some listed' =>
    rw [hx] at hmix
    have hmono : ∀ (m : List (Oper × Bool)) (K K' : Act → World → Prop) (hK : ∀ a w, K a w → K' a w) (a : Act) (w : World), wpMix0 P l.toArray S Q K m a w → wpMix0 P l.toArray S Q K' m a w := by
      intro m K K' hK
      induction m with
      | nil => exact fun a w h => hK a w h
      | cons x m ih =>
        obtain ⟨o, b⟩ := x
        intro a w h
        cases b with
        | true =>
          simp only [wpMix0] at h ⊢
          split
          · rename_i hw; rw [if_pos hw] at h; obtain ⟨v, h1, h2⟩ := h; exact ⟨v, h1, ih _ _ h2⟩
          · rename_i hw; rw [if_neg hw] at h; exact ih _ _ h
        | false =>
          simp only [wpMix0] at h ⊢
          split
          · rename_i hw; rw [if_pos hw] at h; exact Oper.wp_mono (fun a' w' ⟨h1, h2⟩ => ⟨h1, ih _ _ h2⟩) h
          · rename_i hw; rw [if_neg hw] at h; exact ih _ _ h
    have := wpAnyH_pre0 (P := P) (Q := Q) (S := S) hsel 0 listed' order (Array.replicate l.length false) a w.drew hx hS
      (hmono _ _ _ (fun a' w' h' hs => wpAnyH_end hmix (h' hs)) _ _ (h hne))
    rw [Nat.add_zero, hlen] at this
    exact this
theorem wp_region_mix {P : Program} {id : Nat} {Q : Exit → Act → World → Prop} {a : Act} {w : World} {l : List Oper} (S : World → Prop) (order : List (Nat × Bool)) (hm : P.follows .mixedOrders = true)
    (hB : (Region.noSelect l.toArray && (order.length == l.length) && ((mixTo l.toArray order (Array.replicate l.length false)).map fun x => (Region.ready .any l.toArray x).isEmpty).getD false) = true) (hS : S w.drew)
    (h : Nonempty (InC S) → wpMix P l.toArray S Q (fun a w => S w → Q .normal a w) (order.map fun x => (l.toArray.getD x.1 default, x.2)) a w.drew) : (Code.region id l.toArray true).wp P Q a w :=
  wp_region_mix0 S order hm hB hS fun hne => (h hne).out

section
variable {P : Program} {ops : Array Oper} {Q : Exit → Act → World → Prop} {S : World → Prop} {R : Act → World → Prop} {o : Oper} {l : List (Oper × Bool)} {a : Act} {w : World}
theorem wpMix_nil (h : R a w) : wpMix P ops S Q R [] a w := ⟨h⟩
/-- one that only looks -/
theorem wpMix_s (h : ∀ K : Act → Prop, (∀ a, wpMix P ops S Q R l a w → K a) → if Region.wanted o (yielded ops a.tmps) then ∃ v, (∀ s : InC S, (execOp a.eval o).run P s.W = .ok (.value v) s.W) ∧ K (a.put o.dst v) else K (a.put o.dst undef)) :
    wpMix P ops S Q R ((o, true) :: l) a w := ⟨h (fun a => wpMix0 P ops S Q R l a w) (fun _ h => h.out)⟩
/-- .. whose value is known -/
theorem wpMix_v (hw : Region.wanted o (yielded ops a.tmps) = true) (v : Value) (hrun : ∀ s : InC S, (execOp a.eval o).run P s.W = .ok (.value v) s.W) (h : wpMix P ops S Q R l (a.put o.dst v) w) :
    wpMix P ops S Q R ((o, true) :: l) a w := by
  refine ⟨?_⟩
  unfold wpMix0
  rw [if_pos hw]
  exact ⟨v, hrun, h.out⟩
/-- any other -/
theorem wpMix_c (h : ∀ K : Act → World → Prop, (∀ a w, S w ∧ wpMix P ops S Q R l a w → K a w) → if Region.wanted o (yielded ops a.tmps) then o.wp P a w K (NoPanic Q) else K (a.put o.dst undef) w) (_hS : S w) :
    wpMix P ops S Q R ((o, false) :: l) a w := by
  refine ⟨?_⟩
  unfold wpMix0
  have := h (fun a' w' => S w' ∧ wpMix0 P ops S Q R l a' w') (fun _ _ h => ⟨h.1, h.2.out⟩)
  split
  · rename_i hw; rw [if_pos hw] at this; exact this
  · rename_i hw; rw [if_neg hw] at this; exact this.2
theorem wpMix_load (hgd : Region.wanted o (yielded ops a.tmps) = true) (ty : TypeId) (x : Operand) (ho : o.op = .load ty x) (g off : Nat)
    (hx : a.eval x = .pointer (some ⟨g, off, none⟩)) (vs : Array Value) (hrun : ∀ s : InC S, (Instr.loadAt ty (.pointer (some ⟨g, off, none⟩))).run P s.W = .ok (.agg vs) s.W)
    (h : wpMix P ops S Q R l (a.put o.dst (.agg vs)) w) : wpMix P ops S Q R ((o, true) :: l) a w :=
  wpMix_v hgd (.agg vs) (fun s => by
    unfold execOp
    simp only [ho, hx, Sem.run_bind, Sem.run_pure, hrun s, Result.andThen_ok]) h
/-- the world behind a step under a name of its own -/
theorem mix_world {P : Program} {ops : Array Oper} {S : World → Prop} {Q : Exit → Act → World → Prop} {R : Act → World → Prop} {l : List (Oper × Bool)} {a : Act} {w0 : World} (F : World → Prop) (h : F w0) (hS : ∀ w, F w → S w)
    (hr : ∀ w, F w → wpMix P ops S Q R l a w) : S w0 ∧ wpMix P ops S Q R l a w0 := ⟨hS _ h, hr _ h⟩
end
end Go.Proofs.YtfhmjgkcpcnkbaaDoor
/- As Mix, with one operation at the end that waits for all others and may undo what the class says. No program in sight. -/
namespace Go.Proofs.YtfhmjgkcpcnkbaaDoor
open Go

section
variable {P : Program} {ops : Array Oper} {Q : Exit → Act → World → Prop} {md : Region.Mode} {S : World → Prop} {k : Nat}

def wpAnyK (P : Program) (md : Region.Mode) (ops : Array Oper) (Q : Exit → Act → World → Prop) (S : World → Prop) (k : Nat) : Nat → Array Bool → Act → World → Prop
  | 0, listed, a, w => Region.ready md ops listed = [] ∧ Q .normal a w
  | fuel + 1, listed, a, w =>
    (Region.ready md ops listed = [] → Q .normal a w) ∧
    ∀ i ∈ Region.ready md ops listed, wpOp P ops Q i (fun a' w' => (i ≠ k → S w') ∧ wpAnyK P md ops Q S k fuel (listed.setIfInBounds i true) a' w') a w

theorem wpAny_of_K : ∀ (fuel : Nat) (listed : Array Bool) (a : Act) (w : World), wpAnyK P md ops Q S k fuel listed a w → wpAny P md ops Q fuel listed a w
  | 0, _, _, _, h => h
  | fuel + 1, _, _, _, h => ⟨h.1, fun i hi => wpOp_mono (fun a' w' h' => wpAny_of_K fuel _ a' w' h'.2) (h.2 i hi)⟩

/-- k waits for i -/
def waitsB (md : Region.Mode) (ops : Array Oper) (k i : Nat) : Bool := ((ops[k]?).map fun o => o.after.any fun e => Region.binds md e && e.on == i).getD false
theorem waits_spec {i : Nat} {ok : Oper} (hk : ops[k]? = some ok) (h : waitsB md ops k i = true) : ∃ e ∈ ok.after, Region.binds md e = true ∧ e.on = i := by
  simp only [waitsB, hk, Option.map_some, Option.getD_some, Array.any_eq_true', Bool.and_eq_true, beq_iff_eq] at h
  exact h

theorem wpAnyK_first {i : Nat} {oi : Oper} {v : Value} (hi : ops[i]? = some oi) (hsel : ∀ (j : Nat) (o : Oper) cs b, ops[j]? = some o → o.op ≠ .select cs b) (hik : i ≠ k) (hw : waitsB md ops k i = true)
    (hQ : ∀ c a w, Q (.panic c) (a.put oi.dst v) w → Q (.panic c) a w) :
    ∀ (fuel : Nat) (listed : Array Bool) (a : Act) (w : World),
      (∀ j oj, ops[j]? = some oj → j ≠ i → listed.getD j true = false → (∀ e ∈ oj.after, Region.binds md e = true → e.on ≠ i) → oi.apart ops oj = true) →
      i ∈ Region.ready md ops listed → YieldsIf P ops S oi v a → S w →
      wpAnyK P md ops Q S k fuel (listed.setIfInBounds i true) (a.put oi.dst v) w → wpAnyK P md ops Q S k (fuel + 1) listed a w := by
  intro fuel
  induction fuel with
  | zero =>
    intro listed a w _ hr hy hS H
    refine ⟨fun h => (by rw [h] at hr; cases hr), fun j hj => ?_⟩
    by_cases hji : j = i
    · subst hji; exact hy.wpOp hi hS ⟨fun _ => hS, H⟩
    · have := ready_mono hj hji
      rw [H.1] at this
      cases this
  | succ fuel ih =>
    intro listed a w hfree hr hy hS H
    refine ⟨fun h => (by rw [h] at hr; cases hr), fun j hj => ?_⟩
    by_cases hji : j = i
    · subst hji; exact hy.wpOp hi hS ⟨fun _ => hS, H⟩
    · have h1 := H.2 j (ready_mono hj hji)
      obtain ⟨hjun, oj, hoj, hall⟩ := mem_ready.1 hj
      have hnot : ∀ e ∈ oj.after, Region.binds md e = true → e.on ≠ i := fun e he hb heq => by
        have h1 := hall e he hb
        have h0 := (mem_ready.1 hr).1
        rw [heq] at h1
        rcases Nat.lt_or_ge i listed.size with h' | h'
        · simp [h'] at h0 h1; rw [h0] at h1; cases h1
        · simp [Array.getElem?_eq_none h'] at h1
      have hjk : j ≠ k := fun e => by
        subst e
        obtain ⟨e, he, hb, ho⟩ := waits_spec hoj hw
        exact hnot e he hb ho
      have h2 := wpOp_putIf hoj (hfree j oj hoj hji hjun hnot) (fun cs b => hsel i oi cs b hi) (fun cs b => hsel j oj cs b hoj) hQ hy h1
      have hfree' : ∀ m ok, ops[m]? = some ok → m ≠ i → (listed.setIfInBounds j true).getD m true = false →
          (∀ e ∈ ok.after, Region.binds md e = true → e.on ≠ i) → oi.apart ops ok = true := fun m ok hm hmi hun hno => by
        refine hfree m ok hm hmi ?_ hno
        by_cases hjm : j = m
        · subst hjm; exact hjun
        · rw [getD_set_ne true hjm] at hun; exact hun
      refine wpOp_mono (fun a' w' h3 => ⟨fun _ => h3.2.1 hjk, ih (listed.setIfInBounds j true) a' w' hfree' (ready_mono hr (Ne.symm hji)) h3.1 (h3.2.1 hjk) ?_⟩) h2
      rw [Array.setIfInBounds_comm _ _ hji]
      exact h3.2.2

theorem wpAnyK_pre (hsel : Region.noSelect ops = true) (f : Nat) (listed' : Array Bool) : ∀ (l : List (Nat × Bool)) (listed : Array Bool) (a : Act) (w : World), mixTo ops l listed = some listed' →
    (l.all fun x => (x.1 != k) && (!x.2 || waitsB .any ops k x.1)) = true → S w →
    wpMix0 P ops S Q (fun a w => S w → wpAnyK P .any ops (NoPanic Q) S k f listed' a w) (l.map fun x => (ops.getD x.1 default, x.2)) a w → wpAnyK P .any ops (NoPanic Q) S k (l.length + f) listed a w
  | [], listed, a, w, hB, _, hS, h => by
    simp only [mixTo, Option.some.injEq] at hB
    subst hB
    simpa using h hS
  | (i, true) :: l, listed, a, w, hB, hall, hS, h => by
    simp only [List.all_cons, Bool.and_eq_true, bne_iff_ne, Bool.not_true, Bool.false_or] at hall
    simp only [mixTo] at hB
    split at hB
    case isFalse => cases hB
    rename_i hB0
    simp only [Bool.and_eq_true] at hB0
    obtain ⟨hr, hf⟩ := hB0
    have hr' : i ∈ Region.ready .any ops listed := by simpa using hr
    obtain ⟨_, oi, hoi, _⟩ := mem_ready.1 hr'
    have hget : ops.getD i default = oi := by simp [hoi]
    simp only [List.map_cons, wpMix0, hget] at h
    have hy : ∃ v, YieldsIf P ops S oi v a ∧ wpMix0 P ops S Q (fun a w => S w → wpAnyK P .any ops (NoPanic Q) S k f listed' a w) (l.map fun x => (ops.getD x.1 default, x.2)) (a.put oi.dst v) w := by
      by_cases hw : Region.wanted oi (yielded ops a.tmps) = true
      · rw [if_pos hw] at h
        obtain ⟨v, h1, h2⟩ := h
        exact ⟨v, .inl ⟨hw, fun w' hw' => h1 ⟨w', hw'⟩⟩, h2⟩
      · rw [if_neg hw] at h
        exact ⟨undef, .inr ⟨by simpa using hw, rfl⟩, h⟩
    obtain ⟨v, hy, h2⟩ := hy
    have := wpAnyK_first hoi (Region.noSelect_spec hsel) hall.1.1 hall.1.2 (fun _ _ _ hp => hp) (l.length + f) listed a w (Region.free_spec hoi hf) hr' hy hS
      (wpAnyK_pre hsel f listed' l _ _ w hB hall.2 hS h2)
    rw [List.length_cons, show l.length + 1 + f = l.length + f + 1 by omega]
    exact this
  | (i, false) :: l, listed, a, w, hB, hall, hS, h => by
    simp only [List.all_cons, Bool.and_eq_true] at hall
    simp only [mixTo] at hB
    split at hB
    case isFalse => cases hB
    rename_i hB0
    have hr : Region.ready .any ops listed = [i] := by simpa using hB0
    have hr' : i ∈ Region.ready .any ops listed := by rw [hr]; simp
    obtain ⟨_, oi, hoi, _⟩ := mem_ready.1 hr'
    have hget : ops.getD i default = oi := by simp [hoi]
    simp only [List.map_cons, wpMix0, hget] at h
    rw [List.length_cons, show l.length + 1 + f = l.length + f + 1 by omega]
    refine ⟨fun h0 => (by rw [h0] at hr; cases hr), fun j hj => ?_⟩
    rw [hr] at hj
    obtain rfl : j = i := by simpa using hj
    unfold wpOp
    simp only [hoi]
    by_cases hw : Region.wanted oi (yielded ops a.tmps) = true
    · rw [if_pos hw] at h ⊢
      exact .inl (Oper.wp_mono (fun a' w' ⟨h1, h2⟩ => ⟨fun _ => h1, wpAnyK_pre hsel f listed' l _ a' w' hB hall.2 h1 h2⟩) h)
    · rw [if_neg hw] at h ⊢
      exact ⟨fun _ => hS, wpAnyK_pre hsel f listed' l _ _ w hB hall.2 hS h⟩
end

/-- THE LAW: a head in an order of one's own, in a class; a last operation, which may do whatever. -/
theorem wp_region_mix_last0 {P : Program} {id : Nat} {Q : Exit → Act → World → Prop} {a : Act} {w : World} {l : List Oper} (S : World → Prop) (n : Nat) (order : List (Nat × Bool)) (hm : P.follows .mixedOrders = true)
    (hB : (Region.noSelect l.toArray && (order.length == n) && (n + 1 == l.length) && (order.all fun x => (x.1 != n) && (!x.2 || waitsB .any l.toArray n x.1)) &&
      ((mixTo l.toArray order (Array.replicate l.length false)).map fun x => (Region.ready .any l.toArray x == [n]) && (Region.ready .any l.toArray (x.setIfInBounds n true)).isEmpty).getD false) = true) (hS : S w.drew)
    (h : Nonempty (InC S) → wpMix0 P l.toArray S Q (fun a w => S w → wpList P l.toArray (NoPanic Q) (l.drop n) a w) (order.map fun x => (l.toArray.getD x.1 default, x.2)) a w.drew) : (Code.region id l.toArray true).wp P Q a w := by
  simp only [Bool.and_eq_true, beq_iff_eq] at hB
  obtain ⟨⟨⟨⟨hsel, hlen⟩, hn⟩, hall⟩, hmix⟩ := hB
  refine Code.wp_mono (Q := NoPanic Q) NoPanic.imp (wp_region_any hm ?_)
  cases hx : mixTo l.toArray order (Array.replicate l.length false) with
  | none => rw [hx] at hmix; cases hmix
  | some listed' =>
    rw [hx] at hmix
    simp only [Option.map_some, Option.getD_some, Bool.and_eq_true, beq_iff_eq, List.isEmpty_iff] at hmix
    obtain ⟨hr1, hr2⟩ := hmix
    have hmono : ∀ (m : List (Oper × Bool)) (K K' : Act → World → Prop) (hK : ∀ a w, K a w → K' a w) (a : Act) (w : World), wpMix0 P l.toArray S Q K m a w → wpMix0 P l.toArray S Q K' m a w := by
      intro m K K' hK
      induction m with
      | nil => exact fun a w h => hK a w h
      | cons x m ih =>
        obtain ⟨o, b⟩ := x
        intro a w h
        cases b with
        | true =>
          simp only [wpMix0] at h ⊢
          split
          · rename_i hw; rw [if_pos hw] at h; obtain ⟨v, h1, h2⟩ := h; exact ⟨v, h1, ih _ _ h2⟩
          · rename_i hw; rw [if_neg hw] at h; exact ih _ _ h
        | false =>
          simp only [wpMix0] at h ⊢
          split
          · rename_i hw; rw [if_pos hw] at h; exact Oper.wp_mono (fun a' w' ⟨h1, h2⟩ => ⟨h1, ih _ _ h2⟩) h
          · rename_i hw; rw [if_neg hw] at h; exact ih _ _ h
    have hd : l.drop n = [l.getD n default] := by
      rw [List.drop_eq_getElem_cons (by omega), List.drop_eq_nil_of_le (by omega)]
      simp [List.getD_eq_getElem?_getD, show n < l.length by omega]
    have ho : l.toArray[n]? = some (l.getD n default) := by simp [List.getD_eq_getElem?_getD, List.getElem?_eq_getElem (show n < l.length by omega)]
    have := wpAnyK_pre (P := P) (Q := Q) (S := S) (k := n) hsel 1 listed' order (Array.replicate l.length false) a w.drew hx hall hS
      (hmono _ _ _ (fun a' w' h' hs => by
        have hl := h' hs
        rw [hd] at hl
        refine ⟨fun h0 => (by rw [h0] at hr1; cases hr1), fun j hj => ?_⟩
        rw [hr1] at hj
        obtain rfl : j = n := by simpa using hj
        unfold wpList at hl
        unfold wpOp
        simp only [ho]
        split
        · rename_i hw
          rw [if_pos hw] at hl
          exact hl.imp (Oper.wp_mono (fun a'' w'' hq => ⟨fun hne => absurd rfl hne, hr2, hq⟩)) (fun h => h)
        · rename_i hw
          rw [if_neg hw] at hl
          exact ⟨fun hne => absurd rfl hne, hr2, hl⟩) _ _ (h ⟨⟨_, hS⟩⟩))
    have := wpAny_of_K _ _ _ _ this
    rw [hlen, hn] at this
    simpa using this
theorem wp_region_mix_last {P : Program} {id : Nat} {Q : Exit → Act → World → Prop} {a : Act} {w : World} {l : List Oper} (S : World → Prop) (n : Nat) (order : List (Nat × Bool)) (hm : P.follows .mixedOrders = true)
    (hB : (Region.noSelect l.toArray && (order.length == n) && (n + 1 == l.length) && (order.all fun x => (x.1 != n) && (!x.2 || waitsB .any l.toArray n x.1)) &&
      ((mixTo l.toArray order (Array.replicate l.length false)).map fun x => (Region.ready .any l.toArray x == [n]) && (Region.ready .any l.toArray (x.setIfInBounds n true)).isEmpty).getD false) = true) (hS : S w.drew)
    (h : Nonempty (InC S) → wpMix P l.toArray S Q (fun a w => S w → wpList P l.toArray (NoPanic Q) (l.drop n) a w) (order.map fun x => (l.toArray.getD x.1 default, x.2)) a w.drew) : (Code.region id l.toArray true).wp P Q a w :=
  wp_region_mix_last0 S n order hm hB hS fun hne => (h hne).out
theorem np_normal {Q : Exit → Act → World → Prop} {a : Act} {w : World} (h : Q .normal a w) : NoPanic Q .normal a w := h
end Go.Proofs.YtfhmjgkcpcnkbaaDoor
/- Slices of elements of any size, read and appended to. No program in sight. -/
namespace Go.Proofs.YtfhmjgkcpcnkbaaDoor
open Go.RowKit

/-- the slice at A, n elements (of s cells each) of c, holds these cells; where it is nil, it has no room -/
structure SlV (w : World) (X : Nat → Prop) (A : Option Addr) (n c s : Nat) (l : List Value) : Prop where
  bs : Bs w X A l
  len : l.length = n * s
  room : n ≤ c
  nil : A = none → n = 0 ∧ c = 0
  max : c ≤ maxLen

section
variable {w w' : World} {X Y : Nat → Prop} {A : Option Addr} {n c s : Nat} {l : List Value}
theorem SlV.weak (h : SlV w X A n c s l) (hX : ∀ b, b < w.heap.size → X b → Y b) : SlV w Y A n c s l := ⟨h.bs.weak hX, h.len, h.room, h.nil, h.max⟩
theorem SlV.all (h : SlV w X A n c s l) : SlV w (fun _ => True) A n c s l := h.weak fun _ _ _ => trivial
theorem SlV.keep (h : SlV w X A n c s l) (hs : w.heap.size ≤ w'.heap.size) (hk : ∀ p : Addr, p.block < w.heap.size → X p.block → w'.cell? p = w.cell? p) : SlV w' X A n c s l := ⟨h.bs.keep hs hk, h.len, h.room, h.nil, h.max⟩
theorem SlV.below {N : Nat} (h : SlV w X A n c s l) (hb : Below N w w') (hX : ∀ b, b < w.heap.size → X b → b < N) : SlV w' X A n c s l := ⟨h.bs.below hb hX, h.len, h.room, h.nil, h.max⟩
theorem SlV.step (h : SlV w X A n c s l) (hb : Below w.heap.size w w') : SlV w' X A n c s l := h.below hb fun _ hb _ => hb
theorem SlV.alloc (h : SlV w X A n c s l) (o : Obj) : SlV (w.alloc o) X A n c s l := ⟨h.bs.alloc o, h.len, h.room, h.nil, h.max⟩
theorem SlV.drewN (h : SlV w X A n c s l) (k : Nat) : SlV (w.drewN k) X A n c s l := ⟨h.bs.drewN k, h.len, h.room, h.nil, h.max⟩
theorem SlV.drew (h : SlV w X A n c s l) : SlV w.drew X A n c s l := ⟨h.bs.drew, h.len, h.room, h.nil, h.max⟩
theorem SlV.grown {row : Option Nat} (h : SlV w X A n c s l) (hg : w.grownBy w' row) (hX : ∀ b, b < w.heap.size → X b → some b ≠ row) : SlV w' X A n c s l := ⟨h.bs.grown hg hX, h.len, h.room, h.nil, h.max⟩
theorem SlV.setCell (h : SlV w X A n c s l) {p : Addr} (u : Value) (hX : ¬ X p.block) : SlV (w.setCell p u) X A n c s l := ⟨h.bs.setCell u hX, h.len, h.room, h.nil, h.max⟩
theorem SlV.drop (h : SlV w X A n c s l) (k : Nat) (hk : k ≤ n) : SlV w X (if c = k then A else A.map (·.add (k * s))) (n - k) (c - k) s (l.drop (k * s)) := by
  refine ⟨?_, by rw [List.length_drop, h.len, Nat.sub_mul], by have := h.room; omega, fun hA => ?_, by have := h.max; omega⟩
  · exact h.bs.drop (c := c) (k := k) (s := s) (by rw [h.len]; exact Nat.mul_le_mul_right _ h.room)
  · by_cases hc : c = k
    · subst hc
      rw [if_pos rfl] at hA
      have := h.nil hA
      omega
    · rw [if_neg hc] at hA
      cases A with
      | none => have := h.nil rfl; omega
      | some a => cases hA
theorem SlV.take (h : SlV w X A n c s l) (k : Nat) (hk : k ≤ n) : SlV w X A k c s (l.take (k * s)) := by
  refine ⟨h.bs.take, ?_, by have := h.room; omega, fun hA => ?_, h.max⟩
  · rw [List.length_take, h.len]; exact Nat.min_eq_left (Nat.mul_le_mul_right _ hk)
  · have := h.nil hA; omega
theorem SlV.empty : SlV w X none 0 0 s [] := ⟨Bs.nil, by simp, Nat.le_refl _, fun _ => ⟨rfl, rfl⟩, Nat.zero_le _⟩
/-- where its cells lie -/
theorem SlV.at_ (h : SlV w X A n c s l) (hn : 0 < n) (hs : 0 < s) : ∃ b o, A = some ⟨b, o, none⟩ ∧ b < w.heap.size ∧ X b ∧ ∀ j v, l[j]? = some v → w.cell? ⟨b, o + j, none⟩ = some v :=
  h.bs.at_ (by rw [h.len]; exact Nat.mul_pos hn hs)
theorem SlV.lit (w : World) (X : Nat → Prop) (t : TypeId) (cs : List Value) (hl : cs.length = n * s) (hm : n ≤ maxLen) (hX : X w.heap.size) : SlV (w.alloc (.cells cs.toArray t)) X (some ⟨w.heap.size, 0, none⟩) n n s cs :=
  ⟨fun _ => ⟨w.heap.size, 0, rfl, by simp, hX, fun j v hv => by rw [Nat.zero_add, (Blk.new w t cs.toArray).cell]; simpa using hv⟩, hl, Nat.le_refl _, (fun h => by cases h), hm⟩
theorem SlV.of_blk {g : Nat} {t : TypeId} {cs : List Value} (h : Blk w g t cs.toArray) (hl : cs.length = n * s) (hm : n ≤ maxLen) (hX : X g) : SlV w X (some ⟨g, 0, none⟩) n n s cs :=
  ⟨fun _ => ⟨g, 0, rfl, h.lt, hX, fun j v hv => by rw [Nat.zero_add, h.cell]; simpa using hv⟩, hl, Nat.le_refl _, (fun h => by cases h), hm⟩

theorem owns_slv {base : Nat} {e : TypeId} {v : Value} (h : w.ownsRow base e s v n l) : ∃ A c, v = .slice A n c ∧ SlV w (fun b => base ≤ b ∧ some b = v.ownBlock) A n c s l := by
  rcases h.2 with ⟨hv, h0⟩ | ⟨g, cap, cur, hv, hg, hb, hnc, hcm, hcs, ht⟩
  · subst h0
    have hl := h.1
    rw [Nat.zero_mul] at hl
    have := List.eq_nil_of_length_eq_zero hl
    subst this
    exact ⟨none, 0, hv, SlV.empty⟩
  · refine ⟨_, cap, hv, fun _ => ⟨g, 0, rfl, ?_, ⟨hg, by rw [hv]; rfl⟩, fun j u hu => ?_⟩, h.1, hnc, by simp, hcm⟩
    · exact (show Blk w g _ cur from hb).lt
    · rw [Nat.zero_add, (show Blk w g _ cur from hb).cell, ← Array.getElem?_toList]
      rw [← ht] at hu
      rw [List.getElem?_take] at hu
      split at hu
      · exact hu
      · cases hu
theorem grown_of_below {w w' : World} (h : Below w.heap.size w w') (row : Option Nat) : w.grownBy w' row := ⟨h.os, h.tape, h.output, h.size, fun k hk _ => h.block k hk⟩
theorem owns_step {base : Nat} {e : TypeId} {size : Nat} {v : Value} {xs : List Value} (h : w.ownsRow base e size v n xs) (hb : Below w.heap.size w w') : w'.ownsRow base e size v n xs := by
  cases hv : v.ownBlock with
  | none => exact h.kept (grown_of_below hb none) (.inl hv)
  | some k => exact h.kept (grown_of_below hb none) (.inr (by rw [hv]; simp))
theorem owns_le {b b' : Nat} {e : TypeId} {v : Value} {xs : List Value} (h : w.ownsRow b e s v n xs) (hb : b' ≤ b) : w.ownsRow b' e s v n xs :=
  ⟨h.1, h.2.elim Or.inl (fun ⟨g, cap, cur, hv, hg, r⟩ => Or.inr ⟨g, cap, cur, hv, Nat.le_trans hb hg, r⟩)⟩
end

/-- what is appended to a row of one's own, whatever its elements -/
theorem append_slv {P : Program} {w : World} {base : Nat} {t ty e : TypeId} {z : Value} {size bytes : Nat} (ht : P.underlying t = some (.slice e)) (hinfo : (P.info? e).map (fun i => (i.zero, i.size, i.bytes)) = some (some z, size, bytes)) (hzs : z.cells.size = size) (hsz : 0 < size)
    {v : Value} {n : Nat} {xs : List Value} (hown : w.ownsRow base e size v n xs) {X : Nat → Prop} {A : Option Addr} {m c : Nat} {news : List Value} (h : SlV w X A m c size news) (h1 : ∀ u ∈ news, u.oneCell' = true)
    (hb : n + m ≤ maxLen) (hbytes : (n + m) * bytes ≤ 140737488355328) (hbase : base ≤ w.heap.size) :
    ∃ v' w', (Builtin.append_ #[t, t] ty #[v, .slice A m c]).run P w = .ok v' w' ∧ w'.ownsRow base e size v' (n + m) (xs ++ news) ∧ w.grownBy w' v.ownBlock ∧ (v'.ownBlock = v.ownBlock ∨ ∃ k, v'.ownBlock = some k ∧ w.heap.size ≤ k) := by
  obtain ⟨i, hi, hii⟩ := Option.map_eq_some_iff.1 hinfo
  simp only [Prod.mk.injEq] at hii
  obtain ⟨hz, hs, hby⟩ := hii
  cases A with
  | none =>
    obtain ⟨h0, h1⟩ := h.nil rfl
    subst h0; subst h1
    have hl := h.len
    rw [Nat.zero_mul] at hl
    obtain rfl := List.eq_nil_of_length_eq_zero hl
    exact ⟨v, w, run_append_owned_none (P := P) (w := w) base t ty e i size ht hi v n xs hown, by simpa using hown, ⟨rfl, rfl, rfl, Nat.le_refl _, fun _ _ _ => rfl⟩, .inl rfl⟩
  | some a =>
    have hcell : ∀ j u, news[j]? = some u → w.cell? (a.add j) = some u := fun j u hu => by
      have hne : news ≠ [] := fun e => by rw [e] at hu; cases hu
      obtain ⟨b, o, hA, _, _, hc⟩ := h.bs hne
      cases hA
      rw [addr_add]
      exact hc j u hu
    have hmaxLen : maxLen = 9223372036854775807 := rfl
    obtain ⟨v', w', hr, h2, h3, _⟩ := run_append_own (P := P) w base t ty e i z size bytes ht hi hz hs hby hzs hsz v n xs hown a m c news h.len hcell h1 hb hbytes hbase
    refine ⟨v', w', hr, h2, h3, ?_⟩
    subst hs; subst hby
    rcases hown.2 with ⟨rfl, rfl⟩ | ⟨g, cap, cur, rfl, hbg, hg, hnc, hcm, hcs, htake⟩
    · by_cases hm : m = 0
      · subst hm
        rcases h2.2 with ⟨rfl, _⟩ | ⟨g, cap, cur, rfl, hbg, hg, _⟩
        · exact .inl rfl
        · have hl := h.len
          rw [Nat.zero_mul] at hl
          obtain rfl := List.eq_nil_of_length_eq_zero hl
          have : (Builtin.append_ #[t, t] ty #[.slice none 0 0, .slice (some a) 0 c]).run P w = .ok (.slice none 0 0) w := by
            simp [Builtin.append_, run_underlying ht, sizeOf, typeInfo, hi, Builtin.lenOf, Builtin.firstCells, loadCells, loadCellsFrom]
          rw [this] at hr
          cases hr
      · have hr' := run_append_nil (P := P) w t ty e i z ht hi hz a m c news h.len hcell (by omega) (by omega) (by rw [Nat.zero_add] at hbytes; omega)
        rw [hr'] at hr
        cases hr
        exact .inr ⟨_, rfl, Nat.le_refl _⟩
    · by_cases hroom : n + m ≤ cap
      · have hfit : n * i.size + news.length ≤ cur.size := by rw [h.len, hcs, ← Nat.add_mul]; exact Nat.mul_le_mul_right _ hroom
        have hr' := run_append_room (P := P) w t ty e i ht hi g n cap cur hg a m c news h.len hcell h1 hroom hfit
        rw [hr'] at hr
        cases hr
        exact .inl rfl
      · have holds : ∀ j u, xs[j]? = some u → w.cell? ((⟨g, 0, none⟩ : Addr).add j) = some u := hown.cells (g := g) rfl
        have hr' := run_append_grow (P := P) w t ty e i z ht hi hz ⟨g, 0, none⟩ n cap xs hown.1 holds a m c news h.len hcell (by omega) (by omega) (growslice_fits (by omega) hbytes)
        rw [hr'] at hr
        cases hr
        exact .inr ⟨_, rfl, Nat.le_refl _⟩
theorem run_append_op {P : Program} {ρ : Operand → Value} {o : Oper} {w w' : World} {v : Value} (x y : Operand) (t : TypeId) (ho : o.op = .call { callee := .builtin .append, args := #[x, y], argTypes := #[t, t] }) (vx vy : Value) (hx : ρ x = vx) (hy : ρ y = vy)
    (h : (Builtin.append_ #[t, t] o.type #[vx, vy]).run P w = .ok v w') : (execOp ρ o).run P w = .ok (.value v) w' := by
  unfold execOp
  simp only [ho, resolve, invoke, builtin, Sem.run_bind, Sem.run_pure, Result.andThen_ok, List.map_toArray, List.map_cons, List.map_nil, hx, hy, h]
theorem run_copy_op {P : Program} {ρ : Operand → Value} {o : Oper} {w w' : World} {v : Value} (x y : Operand) (t : TypeId) (ho : o.op = .call { callee := .builtin .copy, args := #[x, y], argTypes := #[t, t] }) (vx vy : Value) (hx : ρ x = vx) (hy : ρ y = vy)
    (h : (Builtin.copy_ #[t, t] o.type #[vx, vy]).run P w = .ok v w') : (execOp ρ o).run P w = .ok (.value v) w' := by
  unfold execOp
  simp only [ho, resolve, invoke, builtin, Sem.run_bind, Sem.run_pure, Result.andThen_ok, List.map_toArray, List.map_cons, List.map_nil, hx, hy, h]
end Go.Proofs.YtfhmjgkcpcnkbaaDoor
/- notarylaw03.lent: bytes in memory of their own, a mark behind. -/
namespace Go.Proofs.YtfhmjgkcpcnkbaaDoor
open Go.RowKit

/-- the slice at A, n bytes of c, holds l; where it is nil, it has no room -/
structure Sl (w : World) (X : Nat → Prop) (A : Option Addr) (n c : Nat) (l : List UInt8) : Prop where
  bs : Bs w X A (l.map B)
  len : l.length = n
  room : n ≤ c
  none : A = none → n = 0 ∧ c = 0
  max : c ≤ maxLen

/-- bytes as a string -/
def bstr (l : List UInt8) : ByteArray := ⟨l.toArray⟩
theorem run_str {w : World} {X : Nat → Prop} {A : Option Addr} {n c : Nat} {l : List UInt8} (h : Sl w X A n c l) : (convert 104 9 (.slice A n c)).run Tryd.prog w = .ok (.string (bstr l)) w := by
  cases A with
  | none =>
    obtain ⟨h0, h1⟩ := h.none rfl
    have hl := h.len
    subst h0
    obtain rfl := List.eq_nil_of_length_eq_zero hl
    exact run_convert_bytes_nil w _ _ Tryd.underlying104 (by kernel_rfl) 0 c _ (by kernel_rfl)
  | some a =>
    have hcell : ∀ j u, (l.map B)[j]? = some u → w.cell? (a.add j) = some u := fun j u hu => by
      have hne : l.map B ≠ [] := fun e => by rw [e] at hu; cases hu
      obtain ⟨b, o, hA, _, _, hc⟩ := h.bs hne
      cases hA
      rw [addr_add]
      exact hc j u hu
    have hld := run_loadCells_list (P := Tryd.prog) w a (l.map B) hcell
    rw [List.length_map, h.len] at hld
    have hmm : (l.map B) = (l.map fun x => (x.toNat : Int)).map (Value.int .u8) := by rw [List.map_map]; rfl
    rw [hmm] at hld
    rw [run_convert_bytes_string w _ _ _ (some a) n c Tryd.underlying104 (show Tryd.prog.underlying 5 = some (.int .u8) by kernel_rfl) (by kernel_rfl), run_bytesToString w a n c _ hld, foldl_push_bytes, List.map_map]
    have : (fun n : Int => UInt8.ofNat n.toNat) ∘ (fun x : UInt8 => (x.toNat : Int)) = id := by funext x; simp
    rw [this, List.map_id]
    simp [bstr, ByteArray.empty, ByteArray.emptyWithCapacity]
    rfl
theorem run_eql_str (l m : List UInt8) (W : World) : (binOp .eql 9 (.string (bstr l)) (.string (bstr m))).run Tryd.prog W = .ok (.bool (l == m)) W := by
  have : ∀ l : List UInt8, (bstr l).toList = l := fun l => by rw [ByteArray.toList_eq]; rfl
  rw [binOp_string_eql, Sem.run_pure, this, this]

/-- a row of one's own, as 'append' leaves it, and its cells -/
structure Own (w : World) (g c : Nat) (l : List UInt8) (cur : Array Value) : Prop where
  blk : Blk w g 5 cur
  size : cur.size = c
  room : l.length ≤ c
  max : c ≤ maxLen
  pre : cur.toList.take l.length = l.map B

/-- what is appended to a row of one's own -/
theorem append_sl {w : World} {base : Nat} {v : Value} {xs l : List UInt8} {X : Nat → Prop} {A : Option Addr} {n c : Nat} (hown : w.ownsRow base 5 1 v xs.length (xs.map B)) (h : Sl w X A n c l) (hb : xs.length + n ≤ 140737488355328) (hbase : base ≤ w.heap.size) :
    ∃ v' w', (Builtin.append_ #[104, 104] 104 #[v, .slice A n c]).run Tryd.prog w = .ok v' w' ∧ w'.ownsRow base 5 1 v' (xs ++ l).length ((xs ++ l).map B) ∧ w.grownBy w' v.ownBlock := by
  obtain ⟨i, hi⟩ : ∃ i, Tryd.prog.info? 5 = some i := Option.isSome_iff_exists.1 (by kernel_rfl)
  have hz : i.zero = some (.int .u8 0) := by
    have : (Tryd.prog.info? 5).bind (·.zero) = some (.int .u8 0) := by kernel_rfl
    rw [hi] at this; exact this
  have hs : i.size = 1 := by
    have : (Tryd.prog.info? 5).map (·.size) = some 1 := by kernel_rfl
    rw [hi] at this; exact Option.some.inj this
  have hby : i.bytes = 1 := by
    have : (Tryd.prog.info? 5).map (·.bytes) = some 1 := by kernel_rfl
    rw [hi] at this; exact Option.some.inj this
  cases A with
  | none =>
    obtain ⟨h0, h1⟩ := h.none rfl
    have hl := h.len
    subst h0; subst h1
    obtain rfl := List.eq_nil_of_length_eq_zero hl
    have := run_append_owned_none (P := Tryd.prog) (w := w) base 104 104 5 i 1 Tryd.underlying104 hi v xs.length (xs.map B) hown
    exact ⟨v, w, this, by simpa using hown, ⟨rfl, rfl, rfl, Nat.le_refl _, fun _ _ _ => rfl⟩⟩
  | some a =>
    have hcell : ∀ j u, (l.map B)[j]? = some u → w.cell? (a.add j) = some u := fun j u hu => by
      have hne : l.map B ≠ [] := fun e => by rw [e] at hu; cases hu
      obtain ⟨b, o, hA, _, _, hc⟩ := h.bs hne
      cases hA
      rw [addr_add]
      exact hc j u hu
    have hlen := h.len
    obtain ⟨v', w', h1, h2, h3, _⟩ := run_append_own (P := Tryd.prog) w base 104 104 5 i (.int .u8 0) 1 1 Tryd.underlying104 hi hz hs hby rfl (by decide) v xs.length (xs.map B) hown a n c (l.map B) (by simpa using hlen) hcell (by simp [Value.oneCell']) (by simp only [maxLen]; omega) (by omega) hbase
    refine ⟨v', w', h1, ?_, h3⟩
    rw [List.length_append, List.map_append, hlen]
    exact h2

theorem Own.of_owns {w : World} {base : Nat} {v : Value} {xs : List UInt8} (h : w.ownsRow base 5 1 v xs.length (xs.map B)) (hx : 0 < xs.length) :
    ∃ g c cur, v = .slice (some ⟨g, 0, none⟩) xs.length c ∧ base ≤ g ∧ Own w g c xs cur := by
  rcases h.2 with ⟨_, h0⟩ | ⟨g, c, cur, rfl, hg, hb, hnc, hcm, hcs, ht⟩
  · omega
  · exact ⟨g, c, cur, rfl, hg, hb, by simpa using hcs, hnc, hcm, by simpa using ht⟩
end Go.Proofs.YtfhmjgkcpcnkbaaDoor
