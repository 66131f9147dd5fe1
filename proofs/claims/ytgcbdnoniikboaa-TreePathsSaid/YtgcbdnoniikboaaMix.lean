/- A region that draws its order, walked once in an order of one's own: what only looks is taken first, what makes or writes memory comes in the one order that is left. No program in sight. -/
import Derived.Test.YtgcbdnoniikboaaRegion
import Derived.OrdersHeld
import Derived.Deep.RegionHeld3
namespace Go.Proofs.Ytgcbdnoniikboaa
open Go

section
variable {P : Program} {ops : Array Oper} {Q : Exit → Act → World → Prop} {S : World → Prop}

/-- the walk: 'true': an operation that yields its value in every world of which S holds and does nothing else; 'false': any other, behind which S holds; K: what is asked at the end -/
def wpMix0 (P : Program) (ops : Array Oper) (S : World → Prop) (Q : Exit → Act → World → Prop) (K : Act → World → Prop) : List (Oper × Bool) → Act → World → Prop
  | [], a, w => K a w
  | (o, true) :: l, a, w =>
    if Region.wanted o (yielded ops a.tmps) then ∃ v, (∀ s : InC S, (execOp a.eval o).run P s.W = .ok (.value v) s.W) ∧ wpMix0 P ops S Q K l (a.put o.dst v) w
    else wpMix0 P ops S Q K l (a.put o.dst undef) w
  | (o, false) :: l, a, w =>
    if Region.wanted o (yielded ops a.tmps) then o.wp P a w (fun a' w' => S w' ∧ wpMix0 P ops S Q K l a' w') (NoPanic Q)
    else wpMix0 P ops S Q K l (a.put o.dst undef) w

/-- the same, behind a name that nothing unfolds by itself -/
structure wpMix (P : Program) (ops : Array Oper) (S : World → Prop) (Q : Exit → Act → World → Prop) (K : Act → World → Prop) (l : List (Oper × Bool)) (a : Act) (w : World) : Prop where
  out : wpMix0 P ops S Q K l a w

/-- what has come up behind an order; none: it is no order in which this serves -/
def mixTo (ops : Array Oper) : List (Nat × Bool) → Array Bool → Option (Array Bool)
  | [], listed => some listed
  | (i, true) :: l, listed => if (Region.ready .any ops listed).contains i && Region.free .any ops listed i then mixTo ops l (listed.setIfInBounds i true) else none
  | (i, false) :: l, listed => if Region.ready .any ops listed == [i] then mixTo ops l (listed.setIfInBounds i true) else none

theorem wpAnyH_pre0 (hsel : Region.noSelect ops = true) (f : Nat) (listed' : Array Bool) : ∀ (l : List (Nat × Bool)) (listed : Array Bool) (a : Act) (w : World), mixTo ops l listed = some listed' → S w →
    wpMix0 P ops S Q (fun a w => S w → wpAnyH P .any ops (NoPanic Q) S f listed' a w) (l.map fun x => (ops.getD x.1 default, x.2)) a w → wpAnyH P .any ops (NoPanic Q) S (l.length + f) listed a w
  | [], listed, a, w, hB, hS, h => by
    simp only [mixTo, Option.some.injEq] at hB
    subst hB
    simpa using h hS
  | (i, true) :: l, listed, a, w, hB, hS, h => by
    simp only [mixTo] at hB
    split at hB
    case isFalse => cases hB
    rename_i hB0
    simp only [Bool.and_eq_true] at hB0
    obtain ⟨hr, hf⟩ := hB0
    have hr' : i ∈ Region.ready .any ops listed := by simpa using hr
    obtain ⟨_, oi, hoi, _⟩ := mem_ready.1 hr'
    have hget : ops.getD i default = oi := by simp [hoi]
    simp only [List.map_cons, wpMix0, hget] at h
    have hy : ∃ v, YieldsIf P ops S oi v a ∧ wpMix0 P ops S Q (fun a w => S w → wpAnyH P .any ops (NoPanic Q) S f listed' a w) (l.map fun x => (ops.getD x.1 default, x.2)) (a.put oi.dst v) w := by
      by_cases hw : Region.wanted oi (yielded ops a.tmps) = true
      · rw [if_pos hw] at h
        obtain ⟨v, h1, h2⟩ := h
        exact ⟨v, .inl ⟨hw, fun w' hw' => h1 ⟨w', hw'⟩⟩, h2⟩
      · rw [if_neg hw] at h
        exact ⟨undef, .inr ⟨by simpa using hw, rfl⟩, h⟩
    obtain ⟨v, hy, h2⟩ := hy
    have := wpAnyH_first hoi (Region.noSelect_spec hsel) (fun _ _ _ hp => hp) (l.length + f) listed a w (Region.free_spec hoi hf) hr' hy hS
      (wpAnyH_pre0 hsel f listed' l _ _ w hB hS h2)
    rw [List.length_cons, show l.length + 1 + f = l.length + f + 1 by omega]
    exact this
  | (i, false) :: l, listed, a, w, hB, hS, h => by
    simp only [mixTo] at hB
    split at hB
    case isFalse => cases hB
    rename_i hB0
    have hr : Region.ready .any ops listed = [i] := by simpa using hB0
    have hr' : i ∈ Region.ready .any ops listed := by rw [hr]; simp
    obtain ⟨_, oi, hoi, _⟩ := mem_ready.1 hr'
    have hget : ops.getD i default = oi := by simp [hoi]
    simp only [List.map_cons, wpMix0, hget] at h
    rw [List.length_cons, show l.length + 1 + f = l.length + f + 1 by omega]
    refine ⟨fun h0 => (by rw [h0] at hr; cases hr), fun j hj => ?_⟩
    rw [hr] at hj
    obtain rfl : j = i := by simpa using hj
    unfold wpOp
    simp only [hoi]
    by_cases hw : Region.wanted oi (yielded ops a.tmps) = true
    · rw [if_pos hw] at h ⊢
      exact .inl (Oper.wp_mono (fun a' w' ⟨h1, h2⟩ => ⟨h1, wpAnyH_pre0 hsel f listed' l _ a' w' hB h1 h2⟩) h)
    · rw [if_neg hw] at h ⊢
      exact ⟨hS, wpAnyH_pre0 hsel f listed' l _ _ w hB hS h⟩

theorem wpAnyH_pre (hsel : Region.noSelect ops = true) (f : Nat) (listed' : Array Bool) (l : List (Nat × Bool)) (listed : Array Bool) (a : Act) (w : World) (hm : mixTo ops l listed = some listed') (hS : S w)
    (h : wpMix P ops S Q (fun a w => S w → wpAnyH P .any ops (NoPanic Q) S f listed' a w) (l.map fun x => (ops.getD x.1 default, x.2)) a w) : wpAnyH P .any ops (NoPanic Q) S (l.length + f) listed a w :=
  wpAnyH_pre0 hsel f listed' l listed a w hm hS h.out

/-- two may come up: each is walked -/
theorem wpAnyH_fork0 {f i j : Nat} {listed : Array Bool} {a : Act} {w : World} (hr : (Region.ready .any ops listed == [i, j]) = true) (hS : S w)
    (h1 : wpMix0 P ops S Q (fun a w => S w → wpAnyH P .any ops (NoPanic Q) S f (listed.setIfInBounds i true) a w) [(ops.getD i default, false)] a w)
    (h2 : wpMix0 P ops S Q (fun a w => S w → wpAnyH P .any ops (NoPanic Q) S f (listed.setIfInBounds j true) a w) [(ops.getD j default, false)] a w) :
    wpAnyH P .any ops (NoPanic Q) S (f + 1) listed a w := by
  have hr' : Region.ready .any ops listed = [i, j] := by simpa using hr
  have one : ∀ k, k ∈ Region.ready .any ops listed → wpMix0 P ops S Q (fun a w => S w → wpAnyH P .any ops (NoPanic Q) S f (listed.setIfInBounds k true) a w) [(ops.getD k default, false)] a w →
      wpOp P ops (NoPanic Q) k (fun a' w' => S w' ∧ wpAnyH P .any ops (NoPanic Q) S f (listed.setIfInBounds k true) a' w') a w := fun k hk h => by
    obtain ⟨_, oi, hoi, _⟩ := mem_ready.1 hk
    have hget : ops.getD k default = oi := by simp [hoi]
    simp only [wpMix0, hget] at h
    unfold wpOp
    simp only [hoi]
    by_cases hw : Region.wanted oi (yielded ops a.tmps) = true
    · rw [if_pos hw] at h ⊢
      exact .inl (Oper.wp_mono (fun a' w' ⟨g1, g2⟩ => ⟨g1, g2 g1⟩) h)
    · rw [if_neg hw] at h ⊢
      exact ⟨hS, h hS⟩
  refine ⟨fun h0 => (by rw [h0] at hr'; cases hr'), fun k hk => ?_⟩
  have hk' := hk
  rw [hr'] at hk
  rcases List.mem_cons.1 hk with rfl | hk
  · exact one _ hk' h1
  · obtain rfl : k = j := by simpa using hk
    exact one _ hk' h2

theorem wpAnyH_fork {f i j : Nat} {listed : Array Bool} {a : Act} {w : World} (hr : (Region.ready .any ops listed == [i, j]) = true) (hS : S w)
    (h1 : wpMix P ops S Q (fun a w => S w → wpAnyH P .any ops (NoPanic Q) S f (listed.setIfInBounds i true) a w) [(ops.getD i default, false)] a w)
    (h2 : wpMix P ops S Q (fun a w => S w → wpAnyH P .any ops (NoPanic Q) S f (listed.setIfInBounds j true) a w) [(ops.getD j default, false)] a w) :
    wpAnyH P .any ops (NoPanic Q) S (f + 1) listed a w := wpAnyH_fork0 hr hS h1.out h2.out

theorem wpAnyH_end {listed : Array Bool} {a : Act} {w : World} (hr : (Region.ready .any ops listed).isEmpty = true) (h : Q .normal a w) : wpAnyH P .any ops (NoPanic Q) S 0 listed a w := ⟨by simpa using hr, h⟩

end

/-- THE LAW, open at its end: the order is one's own; its check is a computation. -/
theorem wp_region_begin {P : Program} {id : Nat} {Q : Exit → Act → World → Prop} {a : Act} {w : World} {l : List Oper} (S : World → Prop) (hm : P.follows .mixedOrders = true) (hS : S w.drew)
    (h : Nonempty (InC S) → wpAnyH P .any l.toArray (NoPanic Q) S l.length (Array.replicate l.length false) a w.drew) : (Code.region id l.toArray true).wp P Q a w := by
  refine Code.wp_mono (Q := NoPanic Q) NoPanic.imp (wp_region_any hm ?_)
  have := wpAny_of_held _ _ _ _ (h ⟨⟨_, hS⟩⟩)
  simpa using this
/-- .. where one order serves -/
theorem wp_region_mix0 {P : Program} {id : Nat} {Q : Exit → Act → World → Prop} {a : Act} {w : World} {l : List Oper} (S : World → Prop) (order : List (Nat × Bool)) (hm : P.follows .mixedOrders = true)
    (hB : (Region.noSelect l.toArray && (order.length == l.length) && ((mixTo l.toArray order (Array.replicate l.length false)).map fun x => (Region.ready .any l.toArray x).isEmpty).getD false) = true) (hS : S w.drew)
    (h : Nonempty (InC S) → wpMix0 P l.toArray S Q (fun a w => S w → Q .normal a w) (order.map fun x => (l.toArray.getD x.1 default, x.2)) a w.drew) : (Code.region id l.toArray true).wp P Q a w := by
  simp only [Bool.and_eq_true, beq_iff_eq] at hB
  obtain ⟨⟨hsel, hlen⟩, hmix⟩ := hB
  refine wp_region_begin S hm hS fun hne => ?_
  cases hx : mixTo l.toArray order (Array.replicate l.length false) with
  | none => rw [hx] at hmix; cases hmix
  | some listed' =>
    rw [hx] at hmix
    have hmono : ∀ (m : List (Oper × Bool)) (K K' : Act → World → Prop) (hK : ∀ a w, K a w → K' a w) (a : Act) (w : World), wpMix0 P l.toArray S Q K m a w → wpMix0 P l.toArray S Q K' m a w := by
      intro m K K' hK
      induction m with
      | nil => exact fun a w h => hK a w h
      | cons x m ih =>
        obtain ⟨o, b⟩ := x
        intro a w h
        cases b with
        | true =>
          simp only [wpMix0] at h ⊢
          split
          · rename_i hw; rw [if_pos hw] at h; obtain ⟨v, h1, h2⟩ := h; exact ⟨v, h1, ih _ _ h2⟩
          · rename_i hw; rw [if_neg hw] at h; exact ih _ _ h
        | false =>
          simp only [wpMix0] at h ⊢
          split
          · rename_i hw; rw [if_pos hw] at h; exact Oper.wp_mono (fun a' w' ⟨h1, h2⟩ => ⟨h1, ih _ _ h2⟩) h
          · rename_i hw; rw [if_neg hw] at h; exact ih _ _ h
    have := wpAnyH_pre0 (P := P) (Q := Q) (S := S) hsel 0 listed' order (Array.replicate l.length false) a w.drew hx hS
      (hmono _ _ _ (fun a' w' h' hs => wpAnyH_end hmix (h' hs)) _ _ (h hne))
    rw [Nat.add_zero, hlen] at this
    exact this
theorem wp_region_mix {P : Program} {id : Nat} {Q : Exit → Act → World → Prop} {a : Act} {w : World} {l : List Oper} (S : World → Prop) (order : List (Nat × Bool)) (hm : P.follows .mixedOrders = true)
    (hB : (Region.noSelect l.toArray && (order.length == l.length) && ((mixTo l.toArray order (Array.replicate l.length false)).map fun x => (Region.ready .any l.toArray x).isEmpty).getD false) = true) (hS : S w.drew)
    (h : Nonempty (InC S) → wpMix P l.toArray S Q (fun a w => S w → Q .normal a w) (order.map fun x => (l.toArray.getD x.1 default, x.2)) a w.drew) : (Code.region id l.toArray true).wp P Q a w :=
  wp_region_mix0 S order hm hB hS fun hne => (h hne).out

section
variable {P : Program} {ops : Array Oper} {Q : Exit → Act → World → Prop} {S : World → Prop} {R : Act → World → Prop} {o : Oper} {l : List (Oper × Bool)} {a : Act} {w : World}
theorem wpMix_nil (h : R a w) : wpMix P ops S Q R [] a w := ⟨h⟩
/-- one that only looks -/
theorem wpMix_s (h : ∀ K : Act → Prop, (∀ a, wpMix P ops S Q R l a w → K a) → if Region.wanted o (yielded ops a.tmps) then ∃ v, (∀ s : InC S, (execOp a.eval o).run P s.W = .ok (.value v) s.W) ∧ K (a.put o.dst v) else K (a.put o.dst undef)) :
    wpMix P ops S Q R ((o, true) :: l) a w := ⟨h (fun a => wpMix0 P ops S Q R l a w) (fun _ h => h.out)⟩
/-- .. whose value is known -/
theorem wpMix_v (hw : Region.wanted o (yielded ops a.tmps) = true) (v : Value) (hrun : ∀ s : InC S, (execOp a.eval o).run P s.W = .ok (.value v) s.W) (h : wpMix P ops S Q R l (a.put o.dst v) w) :
    wpMix P ops S Q R ((o, true) :: l) a w := by
  refine ⟨?_⟩
  unfold wpMix0
  rw [if_pos hw]
  exact ⟨v, hrun, h.out⟩
/-- any other -/
theorem wpMix_c (h : ∀ K : Act → World → Prop, (∀ a w, S w ∧ wpMix P ops S Q R l a w → K a w) → if Region.wanted o (yielded ops a.tmps) then o.wp P a w K (NoPanic Q) else K (a.put o.dst undef) w) (_hS : S w) :
    wpMix P ops S Q R ((o, false) :: l) a w := by
  refine ⟨?_⟩
  unfold wpMix0
  have := h (fun a' w' => S w' ∧ wpMix0 P ops S Q R l a' w') (fun _ _ h => ⟨h.1, h.2.out⟩)
  split
  · rename_i hw; rw [if_pos hw] at this; exact this
  · rename_i hw; rw [if_neg hw] at this; exact this.2
theorem wpMix_load (hgd : Region.wanted o (yielded ops a.tmps) = true) (ty : TypeId) (x : Operand) (ho : o.op = .load ty x) (g off : Nat)
    (hx : a.eval x = .pointer (some ⟨g, off, none⟩)) (vs : Array Value) (hrun : ∀ s : InC S, (Instr.loadAt ty (.pointer (some ⟨g, off, none⟩))).run P s.W = .ok (.agg vs) s.W)
    (h : wpMix P ops S Q R l (a.put o.dst (.agg vs)) w) : wpMix P ops S Q R ((o, true) :: l) a w :=
  wpMix_v hgd (.agg vs) (fun s => by
    unfold execOp
    simp only [ho, hx, Sem.run_bind, Sem.run_pure, hrun s, Result.andThen_ok]) h
/-- the world behind a step under a name of its own -/
theorem mix_world {P : Program} {ops : Array Oper} {S : World → Prop} {Q : Exit → Act → World → Prop} {R : Act → World → Prop} {l : List (Oper × Bool)} {a : Act} {w0 : World} (F : World → Prop) (h : F w0) (hS : ∀ w, F w → S w)
    (hr : ∀ w, F w → wpMix P ops S Q R l a w) : S w0 ∧ wpMix P ops S Q R l a w0 := ⟨hS _ h, hr _ h⟩
end
end Go.Proofs.Ytgcbdnoniikboaa
