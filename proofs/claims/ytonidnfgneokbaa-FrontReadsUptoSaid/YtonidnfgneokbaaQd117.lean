/- A drawn region in which several makers may come in any order: each is walked once. No program in sight. -/
import Derived.Test.YtonidnfgneokbaaQd106
import Derived.Test.YtonidnfgneokbaaQd107
import Derived.Test.YtonidnfgneokbaaQd114
namespace Go.Proofs.Ytonidnfgneokbaa
open Go Go.RowKit

/-- these have come up -/
def setAll (L : Array Bool) (sub : List Nat) : Array Bool := sub.foldr (fun k L => L.setIfInBounds k true) L
theorem size_setAll (L : Array Bool) : ∀ sub : List Nat, (setAll L sub).size = L.size
  | [] => rfl
  | k :: sub => by
    show ((setAll L sub).setIfInBounds k true).size = L.size
    rw [Array.size_setIfInBounds, size_setAll L sub]
theorem setAll_get (L : Array Bool) (i : Nat) (hi : i < L.size) : ∀ sub : List Nat, (setAll L sub)[i]? = some (L[i] || sub.contains i)
  | [] => by simp [setAll, hi]
  | k :: sub => by
    show ((setAll L sub).setIfInBounds k true)[i]? = _
    rw [Array.getElem?_setIfInBounds]
    by_cases hk : k = i
    · subst hk
      rw [if_pos rfl, if_pos (by rw [size_setAll]; exact hi)]
      simp
    · rw [if_neg hk, setAll_get L i hi sub]
      have : (i == k) = false := by simpa using fun e => hk e.symm
      rw [List.contains_cons, this, Bool.false_or]
theorem setAll_same (L : Array Bool) (s t : List Nat) (h : ∀ i, s.contains i = t.contains i) : setAll L s = setAll L t := by
  apply Array.ext
  · rw [size_setAll, size_setAll]
  · intro i h1 h2
    have hi : i < L.size := by rwa [size_setAll] at h1
    have e1 := setAll_get L i hi s
    have e2 := setAll_get L i hi t
    rw [h i] at e1
    have := e1.trans e2.symm
    rw [Array.getElem?_eq_getElem h1, Array.getElem?_eq_getElem h2] at this
    exact Option.some.inj this
def subsL : List Nat → List (List Nat)
  | [] => [[]]
  | k :: l => subsL l ++ (subsL l).map (k :: ·)
theorem filter_subs (p : Nat → Bool) : ∀ l : List Nat, l.filter p ∈ subsL l
  | [] => by simp [subsL]
  | k :: l => by
    have := filter_subs p l
    rw [List.filter_cons]
    unfold subsL
    split
    · exact List.mem_append.2 (.inr (List.mem_map.2 ⟨_, this, rfl⟩))
    · exact List.mem_append.2 (.inl this)
/-- what each of them waits for has come up, too -/
def closedP (ops : Array Oper) (L : Array Bool) (k : Nat) : Bool := (ops.getD k default).after.toList.all fun e => !Region.binds .any e || L.getD e.on false
theorem closedP_step (ops : Array Oper) (L : Array Bool) (j k : Nat) (h : closedP ops L k = true) : closedP ops (L.setIfInBounds j true) k = true := by
  unfold closedP at *
  rw [List.all_eq_true] at *
  intro e he
  have := h e he
  rw [Bool.or_eq_true] at this ⊢
  rcases this with h1 | h1
  · exact .inl h1
  · right
    rw [Array.getD_eq_getD_getElem?] at h1 ⊢
    rw [Array.getElem?_setIfInBounds]
    split
    · rename_i h2
      split
      · rfl
      · rename_i h3
        rw [← h2, Array.getElem?_eq_none (by omega)] at h1
        cases h1
    · exact h1
/-- in every state that some of them have left, some more of them may come up, and none else -/
def makersOk (ops : Array Oper) (L : Array Bool) (ks : List Nat) (need : Nat → List Nat) : Bool :=
  (subsL ks).all fun s => ks.all s.contains || !(s.all fun k => closedP ops (setAll L s) k) || (!(Region.ready .any ops (setAll L s)).isEmpty && (Region.ready .any ops (setAll L s)).all fun k => ks.contains k && (need k).all s.contains)

def upd (us : Nat → Value) (s : Nat) (v : Value) : Nat → Value := fun j => if j = s then v else us j
theorem upd_same (us : Nat → Value) (s : Nat) (v : Value) : upd us s v s = v := if_pos rfl
theorem upd_other (us : Nat → Value) (s j : Nat) (v : Value) (h : j ≠ s) : upd us s v j = us j := if_neg h
abbrev ptrB (g : Nat) : Value := .pointer (some ⟨g, 0, none⟩)
/-- how many are left -/
def leftN (ks sub : List Nat) : Nat := (ks.filter fun k => !sub.contains k).length
theorem leftN_cons (sub : List Nat) (k : Nat) (hk : sub.contains k = false) : ∀ ks : List Nat, ks.Nodup → k ∈ ks → leftN ks (k :: sub) + 1 = leftN ks sub
  | [], _, h => by cases h
  | x :: ks, hn, h => by
    obtain ⟨hx, hn⟩ := List.nodup_cons.1 hn
    unfold leftN
    by_cases hxk : x = k
    · subst hxk
      have hrest : (ks.filter fun y => !(x :: sub).contains y) = ks.filter fun y => !sub.contains y := by
        apply List.filter_congr
        intro y hy
        have : (y == x) = false := by simp; rintro rfl; exact hx hy
        rw [List.contains_cons, this, Bool.false_or]
      rw [List.filter_cons, List.filter_cons, if_neg (by simp), if_pos (by rw [hk]; rfl), hrest]
      rfl
    · have hm : k ∈ ks := by
        rcases List.mem_cons.1 h with e | e
        · exact absurd e.symm hxk
        · exact e
      have := leftN_cons sub k hk ks hn hm
      unfold leftN at this
      have hxe : (x == k) = false := by simpa using hxk
      have e1 : (k :: sub).contains x = sub.contains x := by rw [List.contains_cons, hxe, Bool.false_or]
      rw [List.filter_cons, List.filter_cons, e1]
      split
      · simp only [List.length_cons]; omega
      · exact this
theorem leftN_zero (ks sub : List Nat) (h : leftN ks sub = 0) : ks.all sub.contains = true := by
  rw [List.all_eq_true]
  intro k hk
  unfold leftN at h
  have := List.eq_nil_of_length_eq_zero h
  have := List.filter_eq_nil_iff.1 this k hk
  simpa using this

section
variable {P : Program} {ops : Array Oper} {Q : Exit → Act → World → Prop} {S : World → Prop}
theorem wpAnyH_makers0 (mk : (Nat → Value) → Act) (L : Array Bool) (ks : List Nat) (need : Nat → List Nat) (slot : Nat → Nat) (fact : Nat → Value → World → Prop) (f1 : Nat)
    (hok : makersOk ops L ks need = true) (hnd : ks.Nodup) (hslot : ∀ k ∈ ks, ∀ k' ∈ ks, slot k = slot k' → k = k')
    (hstep : ∀ k ∈ ks, ∀ v W W', fact k v W → Below W.heap.size W W' → fact k v W') (hlt : ∀ k ∈ ks, ∀ g W, fact k (ptrB g) W → g < W.heap.size)
    (hrun : ∀ k ∈ ks, ∀ us W, S W → (∀ k' ∈ need k, fact k' (us (slot k')) W) →
      wpMix P ops S Q (fun a W' => ∃ v, a = mk (upd us (slot k) v) ∧ fact k v W' ∧ Below W.heap.size W W' ∧ ∀ g, v = ptrB g → W.heap.size ≤ g) [(ops.getD k default, false)] (mk us) W)
    (htail : ∀ us W, S W → (∀ k ∈ ks, fact k (us (slot k)) W) → (∀ k ∈ ks, ∀ k' ∈ ks, k ≠ k' → ∀ g, us (slot k) = ptrB g → us (slot k') ≠ ptrB g) → wpAnyH P .any ops (NoPanic Q) S f1 (setAll L ks) (mk us) W) :
    ∀ (n : Nat) (sub : List Nat) (us : Nat → Value) (W : World), leftN ks sub = n → (∀ k ∈ sub, k ∈ ks) → (∀ k ∈ sub, closedP ops (setAll L sub) k = true) → S W → (∀ k ∈ sub, fact k (us (slot k)) W) → (∀ k ∈ sub, ∀ k' ∈ sub, k ≠ k' → ∀ g, us (slot k) = ptrB g → us (slot k') ≠ ptrB g) →
      wpAnyH P .any ops (NoPanic Q) S (n + f1) (setAll L sub) (mk us) W
  | 0, sub, us, W, hn, hsub, _, hS, hf, ha => by
    have hall := leftN_zero ks sub hn
    rw [List.all_eq_true] at hall
    have hm : ∀ k ∈ ks, k ∈ sub := fun k hk => by simpa using hall k hk
    rw [setAll_same L sub ks (fun i => by
      by_cases hi : i ∈ sub
      · rw [List.contains_iff_mem.2 hi, List.contains_iff_mem.2 (hsub i hi)]
      · have hi' : i ∉ ks := fun h => hi (hm i h)
        rw [Bool.eq_false_iff.2 (fun h => hi (List.contains_iff_mem.1 h)), Bool.eq_false_iff.2 (fun h => hi' (List.contains_iff_mem.1 h))]), Nat.zero_add]
    exact htail us W hS (fun k hk => hf k (hm k hk)) (fun k hk k' hk' => ha k (hm k hk) k' (hm k' hk'))
  | n + 1, sub, us, W, hn, hsub, hcl, hS, hf, ha => by
    have hok' := hok
    unfold makersOk at hok'
    rw [List.all_eq_true] at hok'
    have hc := hok' _ (filter_subs (fun k => sub.contains k) ks)
    have hse : ∀ i, (ks.filter fun k => sub.contains k).contains i = sub.contains i := fun i => by
      by_cases hi : i ∈ sub
      · rw [List.contains_iff_mem.2 hi, List.contains_iff_mem.2 (List.mem_filter.2 ⟨hsub i hi, List.contains_iff_mem.2 hi⟩)]
      · rw [Bool.eq_false_iff.2 (fun h => hi (List.contains_iff_mem.1 h)), Bool.eq_false_iff.2 (fun h => hi (List.contains_iff_mem.1 (List.mem_filter.1 (List.contains_iff_mem.1 h)).2))]
    rw [setAll_same L _ sub hse] at hc
    have hnall : ks.all (ks.filter fun k => sub.contains k).contains = false := by
      rw [Bool.eq_false_iff]
      intro h
      rw [List.all_eq_true] at h
      unfold leftN at hn
      have h0 : (ks.filter fun k => !sub.contains k) = [] := List.filter_eq_nil_iff.2 fun k hk => by
        have := h k hk
        rw [hse] at this
        simp [List.contains_iff_mem.1 this]
      rw [h0] at hn
      cases hn
    have hclf : ((ks.filter fun k => sub.contains k).all fun k => closedP ops (setAll L sub) k) = true := by
      rw [List.all_eq_true]
      exact fun k hk => hcl k (List.contains_iff_mem.1 (List.mem_filter.1 hk).2)
    rw [hnall, hclf, Bool.not_true, Bool.or_false, Bool.false_or, Bool.and_eq_true] at hc
    obtain ⟨hne, hrd⟩ := hc
    rw [List.all_eq_true] at hrd
    rw [show n + 1 + f1 = n + f1 + 1 by omega]
    refine ⟨fun h0 => (by rw [h0] at hne; cases hne), fun k hk => ?_⟩
    have hk' := hrd k hk
    rw [Bool.and_eq_true, List.contains_iff_mem] at hk'
    obtain ⟨hks, hnd'⟩ := hk'
    rw [List.all_eq_true] at hnd'
    obtain ⟨hun, ok, hoi, hed⟩ := mem_ready.1 hk
    have hget : ops.getD k default = ok := by simp [hoi]
    have hkn : sub.contains k = false := by
      by_cases hkL : k < L.size
      · have := setAll_get L k hkL sub
        rw [Array.getD_eq_getD_getElem?, this] at hun
        simp only [Option.getD_some, Bool.or_eq_false_iff] at hun
        exact hun.2
      · rw [Array.getD_eq_getD_getElem?, Array.getElem?_eq_none (by rw [size_setAll]; omega)] at hun
        cases hun
    have hr := (hrun k hks us W hS (fun k' hk'' => hf k' (by
      have := hnd' k' hk''
      rw [hse] at this
      exact List.contains_iff_mem.1 this))).out
    have key : ∀ v W', S W' → fact k v W' → Below W.heap.size W W' → (∀ g, v = ptrB g → W.heap.size ≤ g) → wpAnyH P .any ops (NoPanic Q) S (n + f1) (setAll L (k :: sub)) (mk (upd us (slot k) v)) W' := fun v W' hS' hv hb hg => by
      have hother : ∀ k' ∈ sub, upd us (slot k) v (slot k') = us (slot k') := fun k' hk'' => upd_other _ _ _ _ (fun e => by
        have := hslot k' (hsub k' hk'') k hks e
        subst this
        rw [List.contains_iff_mem.2 hk''] at hkn
        cases hkn)
      refine wpAnyH_makers0 mk L ks need slot fact f1 hok hnd hslot hstep hlt hrun htail n (k :: sub) _ W' (by have := leftN_cons sub k hkn ks hnd hks; omega) ?_ ?_ hS' ?_ ?_
      · intro k' hk''
        rcases List.mem_cons.1 hk'' with rfl | hk''
        · exact hks
        · exact hsub k' hk''
      · intro k' hk''
        refine closedP_step ops (setAll L sub) k k' ?_
        rcases List.mem_cons.1 hk'' with rfl | hk''
        · unfold closedP
          rw [hget, List.all_eq_true]
          intro e he
          by_cases hb : Region.binds .any e = true
          · rw [hed e (by simpa using he) hb]; simp
          · simp [hb]
        · exact hcl k' hk''
      · intro k' hk''
        rcases List.mem_cons.1 hk'' with rfl | hk''
        · rw [upd_same]; exact hv
        · rw [hother k' hk'']; exact hstep k' (hsub k' hk'') _ _ _ (hf k' hk'') hb
      · intro k1 m1 k2 m2 hne' g hp hq
        rcases List.mem_cons.1 m1 with e1 | h1
        · rw [e1, upd_same] at hp
          rcases List.mem_cons.1 m2 with e2 | h2
          · exact hne' (e1.trans e2.symm)
          · rw [hother k2 h2] at hq
            have := hf k2 h2
            rw [hq] at this
            have := hlt k2 (hsub k2 h2) _ _ this
            have := hg g hp
            omega
        · rw [hother k1 h1] at hp
          rcases List.mem_cons.1 m2 with e2 | h2
          · rw [e2, upd_same] at hq
            have := hf k1 h1
            rw [hp] at this
            have := hlt k1 (hsub k1 h1) _ _ this
            have := hg g hq
            omega
          · rw [hother k2 h2] at hq
            exact ha k1 h1 k2 h2 hne' g hp hq
    simp only [wpMix0, hget] at hr
    unfold wpOp
    simp only [hoi]
    show (if Region.wanted ok (yielded ops (mk us).tmps) = true then _ else _)
    by_cases hw : Region.wanted ok (yielded ops (mk us).tmps) = true
    · rw [if_pos hw] at hr ⊢
      refine .inl (Oper.wp_mono (fun a' w' hh => ?_) hr)
      obtain ⟨g1, v, rfl, h1, h2, h3⟩ := hh
      exact ⟨g1, key v w' g1 h1 h2 h3⟩
    · rw [if_neg hw] at hr ⊢
      obtain ⟨v, ha', h1, h2, h3⟩ := hr
      rw [ha']
      exact ⟨hS, key v W hS h1 h2 h3⟩
theorem wpAnyH_makers (mk : (Nat → Value) → Act) (ks : List Nat) (need : Nat → List Nat) (slot : Nat → Nat) (fact : Nat → Value → World → Prop) (f1 : Nat) {L : Array Bool} {us : Nat → Value} {W : World}
    (hok : makersOk ops L ks need = true) (hnd : ks.Nodup) (hslot : ∀ k ∈ ks, ∀ k' ∈ ks, slot k = slot k' → k = k')
    (hstep : ∀ k ∈ ks, ∀ v W W', fact k v W → Below W.heap.size W W' → fact k v W') (hlt : ∀ k ∈ ks, ∀ g W, fact k (ptrB g) W → g < W.heap.size) (hS : S W)
    (hrun : ∀ k ∈ ks, ∀ us W, S W → (∀ k' ∈ need k, fact k' (us (slot k')) W) →
      wpMix P ops S Q (fun a W' => ∃ v, a = mk (upd us (slot k) v) ∧ fact k v W' ∧ Below W.heap.size W W' ∧ ∀ g, v = ptrB g → W.heap.size ≤ g) [(ops.getD k default, false)] (mk us) W)
    (htail : ∀ us W, S W → (∀ k ∈ ks, fact k (us (slot k)) W) → (∀ k ∈ ks, ∀ k' ∈ ks, k ≠ k' → ∀ g, us (slot k) = ptrB g → us (slot k') ≠ ptrB g) → wpAnyH P .any ops (NoPanic Q) S f1 (setAll L ks) (mk us) W) :
    wpAnyH P .any ops (NoPanic Q) S (leftN ks [] + f1) L (mk us) W :=
  wpAnyH_makers0 mk L ks need slot fact f1 hok hnd hslot hstep hlt hrun htail _ [] us W rfl (fun k h => by cases h) (fun k h => by cases h) hS (fun k h => by cases h) (fun k h => by cases h)
end
/-- what is known of a value that has come up -/
structure Fc where
  ok : Value → World → Prop
  step : ∀ v W W', ok v W → Below W.heap.size W W' → ok v W'
  lt : ∀ g W, ok (ptrB g) W → g < W.heap.size
def Fc.val (x : Value) (hx : ∀ g, x ≠ ptrB g) : Fc := ⟨fun v _ => v = x, fun _ _ _ h _ => h, fun g _ h => absurd h.symm (hx g)⟩
def putAll (a : Act) (us : Nat → Value) : List Nat → Act
  | [] => a
  | s :: l => (putAll a us l).put (some s) (us s)
theorem wpAnyH_many {P : Program} {ops : Array Oper} {Q : Exit → Act → World → Prop} {S : World → Prop} (ks : List Nat) (need : Nat → List Nat) (slot : Nat → Nat) (fc : Nat → Fc) (slots : List Nat) (f1 : Nat) {L : Array Bool} {a : Act} {W : World} (us0 : Nat → Value)
    (hok : makersOk ops L ks need = true) (hnd : ks.Nodup) (hslot : ∀ k ∈ ks, ∀ k' ∈ ks, slot k = slot k' → k = k') (h0 : putAll a us0 slots = a) (hS : S W)
    (hrun : ∀ k ∈ ks, ∀ us W, S W → (∀ k' ∈ need k, (fc k').ok (us (slot k')) W) →
      wpMix P ops S Q (fun a' W' => ∃ v, a' = putAll a (upd us (slot k) v) slots ∧ (fc k).ok v W' ∧ Below W.heap.size W W' ∧ ∀ g, v = ptrB g → W.heap.size ≤ g) [(ops.getD k default, false)] (putAll a us slots) W)
    (htail : ∀ us W, S W → (∀ k ∈ ks, (fc k).ok (us (slot k)) W) → (∀ k ∈ ks, ∀ k' ∈ ks, k ≠ k' → ∀ g, us (slot k) = ptrB g → us (slot k') ≠ ptrB g) → wpAnyH P .any ops (NoPanic Q) S f1 (setAll L ks) (putAll a us slots) W) :
    wpAnyH P .any ops (NoPanic Q) S (leftN ks [] + f1) L a W := by
  have := wpAnyH_makers (P := P) (Q := Q) (S := S) (fun us => putAll a us slots) ks need slot (fun k => (fc k).ok) f1 (us := us0) hok hnd hslot (fun k _ => (fc k).step) (fun k _ => (fc k).lt) hS hrun htail
  rwa [h0] at this
end Go.Proofs.Ytonidnfgneokbaa
/- A drawing region in a fence: operations that only look come first, in whatever order; then a tail in its order. No program in sight. -/
namespace Go.Proofs.Ytonidnfgneokbaa
open Go Go.RowKit

theorem wpAnyIn_tail {F : Fence} {n : Nat} {P : Program} {Q : Exit → Act → World → Prop} {l : List Oper} : ∀ (d j : Nat) (listed : Array Bool) (a : Act) (w : World), j + d = l.length → tailOk l.toArray d j listed = true →
    wpListIn F n P l.toArray Q (l.drop j) a w → wpAnyIn F n P .any l.toArray Q d listed a w
  | 0, j, listed, a, w, hl, hB, h => by
    rw [List.drop_eq_nil_of_le (by omega)] at h
    exact ⟨by simpa [tailOk] using hB, h⟩
  | d + 1, j, listed, a, w, hl, hB, h => by
    simp only [tailOk, Bool.and_eq_true, beq_iff_eq] at hB
    obtain ⟨hr, hB⟩ := hB
    have ho : l.toArray[j]? = some (l[j]'(by omega)) := by simp [List.getElem?_eq_getElem (show j < l.length by omega)]
    rw [List.drop_eq_getElem_cons (show j < l.length by omega)] at h
    refine ⟨fun h0 => (by rw [h0] at hr; cases hr), fun i hi => ?_⟩
    rw [hr] at hi
    obtain rfl : i = j := by simpa using hi
    unfold wpListIn at h
    unfold wpOpIn
    simp only [ho]
    split
    · rename_i hw
      rw [if_pos hw] at h
      exact Oper.wpIn_mono (fun a'' w'' hq => wpAnyIn_tail d (i + 1) _ _ _ (by omega) hB hq) h
    · rename_i hw
      rw [if_neg hw] at h
      exact ⟨h.1, wpAnyIn_tail d (i + 1) _ _ _ (by omega) hB h.2⟩
theorem wpOpIn_look {F : Fence} (hF : Fence.Open F) {n : Nat} {P : Program} {ops : Array Oper} {Q : Exit → Act → World → Prop} {i : Nat} {o : Oper} {a : Act} {w : World} {K : Act → World → Prop} {v : Value} (ho : ops[i]? = some o) (hw : Region.wanted o (yielded ops a.tmps) = true) (hd : noDefer [o] = true)
    (hr : (execOp a.eval o).run P w = .ok (.value v) w) (h : K (a.put o.dst v) w) : wpOpIn F n P ops Q i K a w := by
  unfold wpOpIn
  rw [ho]
  dsimp only
  rw [if_pos hw]
  refine Oper.wpIn_of_wp hF (noDefer_op hd o (List.mem_singleton.2 rfl)) ?_
  unfold Oper.wp
  rw [hr]
  exact h
theorem wpAnyIn_looks0 {F : Fence} {n : Nat} {P : Program} {ops : Array Oper} {Q : Exit → Act → World → Prop} {w : World} (mk : (Nat → Value) → Act) (L : Array Bool) (ks : List Nat) (need : Nat → List Nat) (slot : Nat → Nat) (val : Nat → Value) (f1 : Nat)
    (hok : makersOk ops L ks need = true) (hnd : ks.Nodup) (hslot : ∀ k ∈ ks, ∀ k' ∈ ks, slot k = slot k' → k = k')
    (hrun : ∀ k ∈ ks, ∀ us, (∀ k' ∈ need k, us (slot k') = val k') → ∀ K : Act → World → Prop, K (mk (upd us (slot k) (val k))) w → wpOpIn F n P ops Q k K (mk us) w)
    (htail : ∀ us, (∀ k ∈ ks, us (slot k) = val k) → wpAnyIn F n P .any ops Q f1 (setAll L ks) (mk us) w) :
    ∀ (m : Nat) (sub : List Nat) (us : Nat → Value), leftN ks sub = m → (∀ k ∈ sub, k ∈ ks) → (∀ k ∈ sub, closedP ops (setAll L sub) k = true) → (∀ k ∈ sub, us (slot k) = val k) → wpAnyIn F n P .any ops Q (m + f1) (setAll L sub) (mk us) w
  | 0, sub, us, hn, hsub, _, hf => by
    have hall := leftN_zero ks sub hn
    rw [List.all_eq_true] at hall
    have hm : ∀ k ∈ ks, k ∈ sub := fun k hk => by simpa using hall k hk
    rw [setAll_same L sub ks (fun i => by
      by_cases hi : i ∈ sub
      · rw [List.contains_iff_mem.2 hi, List.contains_iff_mem.2 (hsub i hi)]
      · have hi' : i ∉ ks := fun h => hi (hm i h)
        rw [Bool.eq_false_iff.2 (fun h => hi (List.contains_iff_mem.1 h)), Bool.eq_false_iff.2 (fun h => hi' (List.contains_iff_mem.1 h))]), Nat.zero_add]
    exact htail us fun k hk => hf k (hm k hk)
  | m + 1, sub, us, hn, hsub, hcl, hf => by
    have hok' := hok
    unfold makersOk at hok'
    rw [List.all_eq_true] at hok'
    have hc := hok' _ (filter_subs (fun k => sub.contains k) ks)
    have hse : ∀ i, (ks.filter fun k => sub.contains k).contains i = sub.contains i := fun i => by
      by_cases hi : i ∈ sub
      · rw [List.contains_iff_mem.2 hi, List.contains_iff_mem.2 (List.mem_filter.2 ⟨hsub i hi, List.contains_iff_mem.2 hi⟩)]
      · rw [Bool.eq_false_iff.2 (fun h => hi (List.contains_iff_mem.1 h)), Bool.eq_false_iff.2 (fun h => hi (List.contains_iff_mem.1 (List.mem_filter.1 (List.contains_iff_mem.1 h)).2))]
    rw [setAll_same L _ sub hse] at hc
    have hnall : ks.all (ks.filter fun k => sub.contains k).contains = false := by
      rw [Bool.eq_false_iff]
      intro h
      rw [List.all_eq_true] at h
      unfold leftN at hn
      have h0 : (ks.filter fun k => !sub.contains k) = [] := List.filter_eq_nil_iff.2 fun k hk => by
        have := h k hk
        rw [hse] at this
        simp [List.contains_iff_mem.1 this]
      rw [h0] at hn
      cases hn
    have hclf : ((ks.filter fun k => sub.contains k).all fun k => closedP ops (setAll L sub) k) = true := by
      rw [List.all_eq_true]
      exact fun k hk => hcl k (List.contains_iff_mem.1 (List.mem_filter.1 hk).2)
    rw [hnall, hclf, Bool.not_true, Bool.or_false, Bool.false_or, Bool.and_eq_true] at hc
    obtain ⟨hne, hrd⟩ := hc
    rw [List.all_eq_true] at hrd
    rw [show m + 1 + f1 = m + f1 + 1 by omega]
    refine ⟨fun h0 => (by rw [h0] at hne; cases hne), fun k hk => ?_⟩
    have hk' := hrd k hk
    rw [Bool.and_eq_true, List.contains_iff_mem] at hk'
    obtain ⟨hks, hnd'⟩ := hk'
    rw [List.all_eq_true] at hnd'
    obtain ⟨hun, ok, hoi, hed⟩ := mem_ready.1 hk
    have hget : ops.getD k default = ok := by simp [hoi]
    have hkn : sub.contains k = false := by
      by_cases hkL : k < L.size
      · have := setAll_get L k hkL sub
        rw [Array.getD_eq_getD_getElem?, this] at hun
        simp only [Option.getD_some, Bool.or_eq_false_iff] at hun
        exact hun.2
      · rw [Array.getD_eq_getD_getElem?, Array.getElem?_eq_none (by rw [size_setAll]; omega)] at hun
        cases hun
    have hr := hrun k hks us (fun k' hk'' => hf k' (by
      have := hnd' k' hk''
      rw [hse] at this
      exact List.contains_iff_mem.1 this))
    refine hr _ ?_
    have hother : ∀ k' ∈ sub, upd us (slot k) (val k) (slot k') = us (slot k') := fun k' hk'' => upd_other _ _ _ _ (fun e => by
      have := hslot k' (hsub k' hk'') k hks e
      subst this
      rw [List.contains_iff_mem.2 hk''] at hkn
      cases hkn)
    refine wpAnyIn_looks0 mk L ks need slot val f1 hok hnd hslot hrun htail m (k :: sub) _ (by have := leftN_cons sub k hkn ks hnd hks; omega) ?_ ?_ ?_
    · intro k' hk''
      rcases List.mem_cons.1 hk'' with rfl | hk''
      · exact hks
      · exact hsub k' hk''
    · intro k' hk''
      refine closedP_step ops (setAll L sub) k k' ?_
      rcases List.mem_cons.1 hk'' with rfl | hk''
      · unfold closedP
        rw [hget, List.all_eq_true]
        intro e he
        by_cases hb : Region.binds .any e = true
        · rw [hed e (by simpa using he) hb]; simp
        · simp [hb]
      · exact hcl k' hk''
    · intro k' hk''
      rcases List.mem_cons.1 hk'' with rfl | hk''
      · exact upd_same _ _ _
      · rw [hother k' hk'']; exact hf k' hk''
/-- THE LAW: what only looks, in whatever order; then the tail -/
theorem wpIn_region_looks {F : Fence} (hF : Fence.Open F) {m : Nat} {P : Program} {id : Nat} {Q : Exit → Act → World → Prop} {a : Act} {w : World} {l : List Oper} (mk : (Nat → Value) → Act) (ks : List Nat) (need : Nat → List Nat) (slot : Nat → Nat) (val : Nat → Value) (us0 : Nat → Value) (f1 : Nat)
    (hm : P.follows .mixedOrders = true) (hmk : mk us0 = a) (hok : makersOk l.toArray (Array.replicate l.length false) ks need = true) (hnd : ks.Nodup) (hslot : ∀ k ∈ ks, ∀ k' ∈ ks, slot k = slot k' → k = k')
    (hf : ks.length + f1 = l.length) (ht : tailOk l.toArray f1 ks.length (setAll (Array.replicate l.length false) ks) = true)
    (hrun : ∀ k ∈ ks, ∀ us, (∀ k' ∈ need k, us (slot k') = val k') → ∃ o, l.toArray[k]? = some o ∧ Region.wanted o (yielded l.toArray (mk us).tmps) = true ∧ noDefer [o] = true ∧ (execOp (mk us).eval o).run P w.drew = .ok (.value (val k)) w.drew ∧ (mk us).put o.dst (val k) = mk (upd us (slot k) (val k)))
    (htail : ∀ us, (∀ k ∈ ks, us (slot k) = val k) → wpListIn F m P l.toArray Q (l.drop ks.length) (mk us) w.drew) : (Code.region id l.toArray true).wpIn F m P Q a w := by
  refine wpIn_region_any hm ?_
  have hleft : leftN ks [] = ks.length := by
    unfold leftN
    simp
  have h := wpAnyIn_looks0 (F := F) (n := m) (P := P) (ops := l.toArray) (Q := Q) (w := w.drew) mk (Array.replicate l.length false) ks need slot val f1 hok hnd hslot
    (fun k hk us hu K hK => by
      obtain ⟨o, h1, h2, h3, h4, h5⟩ := hrun k hk us hu
      refine wpOpIn_look hF h1 h2 h3 h4 ?_
      rw [h5]
      exact hK)
    (fun us hu => wpAnyIn_tail f1 ks.length _ _ _ hf ht (htail us hu)) ks.length [] us0 hleft (fun _ h => by cases h) (fun _ h => by cases h) (fun _ h => by cases h)
  rw [hf, hmk] at h
  have hs : setAll (Array.replicate l.length false) [] = Array.replicate l.length false := rfl
  rw [hs] at h
  simpa using h
theorem wpIn_region_looksP {F : Fence} (hF : Fence.Open F) {m : Nat} {P : Program} {id : Nat} {Q : Exit → Act → World → Prop} {a : Act} {w : World} {l : List Oper} (ks : List Nat) (need : Nat → List Nat) (slot : Nat → Nat) (slots : List Nat) (val : Nat → Value) (f1 : Nat)
    (hm : P.follows .mixedOrders = true) (hmk : putAll a (fun j => a.tmps.getD j undef) slots = a) (hok : makersOk l.toArray (Array.replicate l.length false) ks need = true) (hnd : ks.Nodup) (hslot : ∀ k ∈ ks, ∀ k' ∈ ks, slot k = slot k' → k = k')
    (hf : ks.length + f1 = l.length) (ht : tailOk l.toArray f1 ks.length (setAll (Array.replicate l.length false) ks) = true)
    (hrun : ∀ k ∈ ks, ∀ us, (∀ k' ∈ need k, us (slot k') = val k') → ∃ o, l.toArray[k]? = some o ∧ Region.wanted o (yielded l.toArray (putAll a us slots).tmps) = true ∧ noDefer [o] = true ∧ (execOp (putAll a us slots).eval o).run P w.drew = .ok (.value (val k)) w.drew ∧ (putAll a us slots).put o.dst (val k) = putAll a (upd us (slot k) (val k)) slots)
    (htail : ∀ us, (∀ k ∈ ks, us (slot k) = val k) → wpListIn F m P l.toArray Q (l.drop ks.length) (putAll a us slots) w.drew) : (Code.region id l.toArray true).wpIn F m P Q a w :=
  wpIn_region_looks hF (fun us => putAll a us slots) ks need slot val (fun j => a.tmps.getD j undef) f1 hm hmk hok hnd hslot hf ht hrun htail
end Go.Proofs.Ytonidnfgneokbaa
