/- A drawn region in which several makers may come in any order: each is walked once. No program in sight. -/
import Derived.Test.YtonidnfgneokbaaQd206
import Derived.Test.YtonidnfgneokbaaQd207
import Derived.Test.YtonidnfgneokbaaQd214
import Derived.Test.YtonidnfgneokbaaQd215
namespace Go.Proofs.Ytonidnfgneokbaa
open Go Go.RowKit

/-- these have come up -/
def setAll (L : Array Bool) (sub : List Nat) : Array Bool := sub.foldr (fun k L => L.setIfInBounds k true) L
theorem size_setAll (L : Array Bool) : ∀ sub : List Nat, (setAll L sub).size = L.size
  | [] => rfl
  | k :: sub => by
    show ((setAll L sub).setIfInBounds k true).size = L.size
    rw [Array.size_setIfInBounds, size_setAll L sub]
theorem setAll_get (L : Array Bool) (i : Nat) (hi : i < L.size) : ∀ sub : List Nat, (setAll L sub)[i]? = some (L[i] || sub.contains i)
  | [] => by simp [setAll, hi]
  | k :: sub => by
    show ((setAll L sub).setIfInBounds k true)[i]? = _
    rw [Array.getElem?_setIfInBounds]
    by_cases hk : k = i
    · subst hk
      rw [if_pos rfl, if_pos (by rw [size_setAll]; exact hi)]
      simp
    · rw [if_neg hk, setAll_get L i hi sub]
      have : (i == k) = false := by simpa using fun e => hk e.symm
      rw [List.contains_cons, this, Bool.false_or]
theorem setAll_same (L : Array Bool) (s t : List Nat) (h : ∀ i, s.contains i = t.contains i) : setAll L s = setAll L t := by
  apply Array.ext
  · rw [size_setAll, size_setAll]
  · intro i h1 h2
    have hi : i < L.size := by rwa [size_setAll] at h1
    have e1 := setAll_get L i hi s
    have e2 := setAll_get L i hi t
    rw [h i] at e1
    have := e1.trans e2.symm
    rw [Array.getElem?_eq_getElem h1, Array.getElem?_eq_getElem h2] at this
    exact Option.some.inj this
def subsL : List Nat → List (List Nat)
  | [] => [[]]
  | k :: l => subsL l ++ (subsL l).map (k :: ·)
theorem filter_subs (p : Nat → Bool) : ∀ l : List Nat, l.filter p ∈ subsL l
  | [] => by simp [subsL]
  | k :: l => by
    have := filter_subs p l
    rw [List.filter_cons]
    unfold subsL
    split
    · exact List.mem_append.2 (.inr (List.mem_map.2 ⟨_, this, rfl⟩))
    · exact List.mem_append.2 (.inl this)
/-- what each of them waits for has come up, too -/
def closedP (ops : Array Oper) (L : Array Bool) (k : Nat) : Bool := (ops.getD k default).after.toList.all fun e => !Region.binds .any e || L.getD e.on false
theorem closedP_step (ops : Array Oper) (L : Array Bool) (j k : Nat) (h : closedP ops L k = true) : closedP ops (L.setIfInBounds j true) k = true := by
  unfold closedP at *
  rw [List.all_eq_true] at *
  intro e he
  have := h e he
  rw [Bool.or_eq_true] at this ⊢
  rcases this with h1 | h1
  · exact .inl h1
  · right
    rw [Array.getD_eq_getD_getElem?] at h1 ⊢
    rw [Array.getElem?_setIfInBounds]
    split
    · rename_i h2
      split
      · rfl
      · rename_i h3
        rw [← h2, Array.getElem?_eq_none (by omega)] at h1
        cases h1
    · exact h1
/-- in every state that some of them have left, some more of them may come up, and none else -/
def makersOk (ops : Array Oper) (L : Array Bool) (ks : List Nat) (need : Nat → List Nat) : Bool :=
  (subsL ks).all fun s => ks.all s.contains || !(s.all fun k => closedP ops (setAll L s) k) || (!(Region.ready .any ops (setAll L s)).isEmpty && (Region.ready .any ops (setAll L s)).all fun k => ks.contains k && (need k).all s.contains)

def upd (us : Nat → Value) (s : Nat) (v : Value) : Nat → Value := fun j => if j = s then v else us j
theorem upd_same (us : Nat → Value) (s : Nat) (v : Value) : upd us s v s = v := if_pos rfl
theorem upd_other (us : Nat → Value) (s j : Nat) (v : Value) (h : j ≠ s) : upd us s v j = us j := if_neg h
abbrev ptrB (g : Nat) : Value := .pointer (some ⟨g, 0, none⟩)
/-- how many are left -/
def leftN (ks sub : List Nat) : Nat := (ks.filter fun k => !sub.contains k).length
theorem leftN_cons (sub : List Nat) (k : Nat) (hk : sub.contains k = false) : ∀ ks : List Nat, ks.Nodup → k ∈ ks → leftN ks (k :: sub) + 1 = leftN ks sub
  | [], _, h => by cases h
  | x :: ks, hn, h => by
    obtain ⟨hx, hn⟩ := List.nodup_cons.1 hn
    unfold leftN
    by_cases hxk : x = k
    · subst hxk
      have hrest : (ks.filter fun y => !(x :: sub).contains y) = ks.filter fun y => !sub.contains y := by
        apply List.filter_congr
        intro y hy
        have : (y == x) = false := by simp; rintro rfl; exact hx hy
        rw [List.contains_cons, this, Bool.false_or]
      rw [List.filter_cons, List.filter_cons, if_neg (by simp), if_pos (by rw [hk]; rfl), hrest]
      rfl
    · have hm : k ∈ ks := by
        rcases List.mem_cons.1 h with e | e
        · exact absurd e.symm hxk
        · exact e
      have := leftN_cons sub k hk ks hn hm
      unfold leftN at this
      have hxe : (x == k) = false := by simpa using hxk
      have e1 : (k :: sub).contains x = sub.contains x := by rw [List.contains_cons, hxe, Bool.false_or]
      rw [List.filter_cons, List.filter_cons, e1]
      split
      · simp only [List.length_cons]; omega
      · exact this
theorem leftN_zero (ks sub : List Nat) (h : leftN ks sub = 0) : ks.all sub.contains = true := by
  rw [List.all_eq_true]
  intro k hk
  unfold leftN at h
  have := List.eq_nil_of_length_eq_zero h
  have := List.filter_eq_nil_iff.1 this k hk
  simpa using this

section
variable {P : Program} {ops : Array Oper} {Q : Exit → Act → World → Prop} {S : World → Prop}
theorem wpAnyH_makers0 (mk : (Nat → Value) → Act) (L : Array Bool) (ks : List Nat) (need : Nat → List Nat) (slot : Nat → Nat) (fact : Nat → Value → World → Prop) (f1 : Nat)
    (hok : makersOk ops L ks need = true) (hnd : ks.Nodup) (hslot : ∀ k ∈ ks, ∀ k' ∈ ks, slot k = slot k' → k = k')
    (hstep : ∀ k ∈ ks, ∀ v W W', fact k v W → Below W.heap.size W W' → fact k v W') (hlt : ∀ k ∈ ks, ∀ g W, fact k (ptrB g) W → g < W.heap.size)
    (hrun : ∀ k ∈ ks, ∀ us W, S W → (∀ k' ∈ need k, fact k' (us (slot k')) W) →
      wpMix P ops S Q (fun a W' => ∃ v, a = mk (upd us (slot k) v) ∧ fact k v W' ∧ Below W.heap.size W W' ∧ ∀ g, v = ptrB g → W.heap.size ≤ g) [(ops.getD k default, false)] (mk us) W)
    (htail : ∀ us W, S W → (∀ k ∈ ks, fact k (us (slot k)) W) → (∀ k ∈ ks, ∀ k' ∈ ks, k ≠ k' → ∀ g, us (slot k) = ptrB g → us (slot k') ≠ ptrB g) → wpAnyH P .any ops (NoPanic Q) S f1 (setAll L ks) (mk us) W) :
    ∀ (n : Nat) (sub : List Nat) (us : Nat → Value) (W : World), leftN ks sub = n → (∀ k ∈ sub, k ∈ ks) → (∀ k ∈ sub, closedP ops (setAll L sub) k = true) → S W → (∀ k ∈ sub, fact k (us (slot k)) W) → (∀ k ∈ sub, ∀ k' ∈ sub, k ≠ k' → ∀ g, us (slot k) = ptrB g → us (slot k') ≠ ptrB g) →
      wpAnyH P .any ops (NoPanic Q) S (n + f1) (setAll L sub) (mk us) W
  | 0, sub, us, W, hn, hsub, _, hS, hf, ha => by
    have hall := leftN_zero ks sub hn
    rw [List.all_eq_true] at hall
    have hm : ∀ k ∈ ks, k ∈ sub := fun k hk => by simpa using hall k hk
    rw [setAll_same L sub ks (fun i => by
      by_cases hi : i ∈ sub
      · rw [List.contains_iff_mem.2 hi, List.contains_iff_mem.2 (hsub i hi)]
      · have hi' : i ∉ ks := fun h => hi (hm i h)
        rw [Bool.eq_false_iff.2 (fun h => hi (List.contains_iff_mem.1 h)), Bool.eq_false_iff.2 (fun h => hi' (List.contains_iff_mem.1 h))]), Nat.zero_add]
    exact htail us W hS (fun k hk => hf k (hm k hk)) (fun k hk k' hk' => ha k (hm k hk) k' (hm k' hk'))
  | n + 1, sub, us, W, hn, hsub, hcl, hS, hf, ha => by
    have hok' := hok
    unfold makersOk at hok'
    rw [List.all_eq_true] at hok'
    have hc := hok' _ (filter_subs (fun k => sub.contains k) ks)
    have hse : ∀ i, (ks.filter fun k => sub.contains k).contains i = sub.contains i := fun i => by
      by_cases hi : i ∈ sub
      · rw [List.contains_iff_mem.2 hi, List.contains_iff_mem.2 (List.mem_filter.2 ⟨hsub i hi, List.contains_iff_mem.2 hi⟩)]
      · rw [Bool.eq_false_iff.2 (fun h => hi (List.contains_iff_mem.1 h)), Bool.eq_false_iff.2 (fun h => hi (List.contains_iff_mem.1 (List.mem_filter.1 (List.contains_iff_mem.1 h)).2))]
    rw [setAll_same L _ sub hse] at hc
    have hnall : ks.all (ks.filter fun k => sub.contains k).contains = false := by
      rw [Bool.eq_false_iff]
      intro h
      rw [List.all_eq_true] at h
      unfold leftN at hn
      have h0 : (ks.filter fun k => !sub.contains k) = [] := List.filter_eq_nil_iff.2 fun k hk => by
        have := h k hk
        rw [hse] at this
        simp [List.contains_iff_mem.1 this]
      rw [h0] at hn
      cases hn
    have hclf : ((ks.filter fun k => sub.contains k).all fun k => closedP ops (setAll L sub) k) = true := by
      rw [List.all_eq_true]
      exact fun k hk => hcl k (List.contains_iff_mem.1 (List.mem_filter.1 hk).2)
    rw [hnall, hclf, Bool.not_true, Bool.or_false, Bool.false_or, Bool.and_eq_true] at hc
    obtain ⟨hne, hrd⟩ := hc
    rw [List.all_eq_true] at hrd
    rw [show n + 1 + f1 = n + f1 + 1 by omega]
    refine ⟨fun h0 => (by rw [h0] at hne; cases hne), fun k hk => ?_⟩
    have hk' := hrd k hk
    rw [Bool.and_eq_true, List.contains_iff_mem] at hk'
    obtain ⟨hks, hnd'⟩ := hk'
    rw [List.all_eq_true] at hnd'
    obtain ⟨hun, ok, hoi, hed⟩ := mem_ready.1 hk
    have hget : ops.getD k default = ok := by simp [hoi]
    have hkn : sub.contains k = false := by
      by_cases hkL : k < L.size
      · have := setAll_get L k hkL sub
        rw [Array.getD_eq_getD_getElem?, this] at hun
        simp only [Option.getD_some, Bool.or_eq_false_iff] at hun
        exact hun.2
      · rw [Array.getD_eq_getD_getElem?, Array.getElem?_eq_none (by rw [size_setAll]; omega)] at hun
        cases hun
    have hr := (hrun k hks us W hS (fun k' hk'' => hf k' (by
      have := hnd' k' hk''
      rw [hse] at this
      exact List.contains_iff_mem.1 this))).out
    have key : ∀ v W', S W' → fact k v W' → Below W.heap.size W W' → (∀ g, v = ptrB g → W.heap.size ≤ g) → wpAnyH P .any ops (NoPanic Q) S (n + f1) (setAll L (k :: sub)) (mk (upd us (slot k) v)) W' := fun v W' hS' hv hb hg => by
      have hother : ∀ k' ∈ sub, upd us (slot k) v (slot k') = us (slot k') := fun k' hk'' => upd_other _ _ _ _ (fun e => by
        have := hslot k' (hsub k' hk'') k hks e
        subst this
        rw [List.contains_iff_mem.2 hk''] at hkn
        cases hkn)
      refine wpAnyH_makers0 mk L ks need slot fact f1 hok hnd hslot hstep hlt hrun htail n (k :: sub) _ W' (by have := leftN_cons sub k hkn ks hnd hks; omega) ?_ ?_ hS' ?_ ?_
      · intro k' hk''
        rcases List.mem_cons.1 hk'' with rfl | hk''
        · exact hks
        · exact hsub k' hk''
      · intro k' hk''
        refine closedP_step ops (setAll L sub) k k' ?_
        rcases List.mem_cons.1 hk'' with rfl | hk''
        · unfold closedP
          rw [hget, List.all_eq_true]
          intro e he
          by_cases hb : Region.binds .any e = true
          · rw [hed e (by simpa using he) hb]; simp
          · simp [hb]
        · exact hcl k' hk''
      · intro k' hk''
        rcases List.mem_cons.1 hk'' with rfl | hk''
        · rw [upd_same]; exact hv
        · rw [hother k' hk'']; exact hstep k' (hsub k' hk'') _ _ _ (hf k' hk'') hb
      · intro k1 m1 k2 m2 hne' g hp hq
        rcases List.mem_cons.1 m1 with e1 | h1
        · rw [e1, upd_same] at hp
          rcases List.mem_cons.1 m2 with e2 | h2
          · exact hne' (e1.trans e2.symm)
          · rw [hother k2 h2] at hq
            have := hf k2 h2
            rw [hq] at this
            have := hlt k2 (hsub k2 h2) _ _ this
            have := hg g hp
            omega
        · rw [hother k1 h1] at hp
          rcases List.mem_cons.1 m2 with e2 | h2
          · rw [e2, upd_same] at hq
            have := hf k1 h1
            rw [hp] at this
            have := hlt k1 (hsub k1 h1) _ _ this
            have := hg g hq
            omega
          · rw [hother k2 h2] at hq
            exact ha k1 h1 k2 h2 hne' g hp hq
    simp only [wpMix0, hget] at hr
    unfold wpOp
    simp only [hoi]
    show (if Region.wanted ok (yielded ops (mk us).tmps) = true then _ else _)
    by_cases hw : Region.wanted ok (yielded ops (mk us).tmps) = true
    · rw [if_pos hw] at hr ⊢
      refine .inl (Oper.wp_mono (fun a' w' hh => ?_) hr)
      obtain ⟨g1, v, rfl, h1, h2, h3⟩ := hh
      exact ⟨g1, key v w' g1 h1 h2 h3⟩
    · rw [if_neg hw] at hr ⊢
      obtain ⟨v, ha', h1, h2, h3⟩ := hr
      rw [ha']
      exact ⟨hS, key v W hS h1 h2 h3⟩
theorem wpAnyH_makers (mk : (Nat → Value) → Act) (ks : List Nat) (need : Nat → List Nat) (slot : Nat → Nat) (fact : Nat → Value → World → Prop) (f1 : Nat) {L : Array Bool} {us : Nat → Value} {W : World}
    (hok : makersOk ops L ks need = true) (hnd : ks.Nodup) (hslot : ∀ k ∈ ks, ∀ k' ∈ ks, slot k = slot k' → k = k')
    (hstep : ∀ k ∈ ks, ∀ v W W', fact k v W → Below W.heap.size W W' → fact k v W') (hlt : ∀ k ∈ ks, ∀ g W, fact k (ptrB g) W → g < W.heap.size) (hS : S W)
    (hrun : ∀ k ∈ ks, ∀ us W, S W → (∀ k' ∈ need k, fact k' (us (slot k')) W) →
      wpMix P ops S Q (fun a W' => ∃ v, a = mk (upd us (slot k) v) ∧ fact k v W' ∧ Below W.heap.size W W' ∧ ∀ g, v = ptrB g → W.heap.size ≤ g) [(ops.getD k default, false)] (mk us) W)
    (htail : ∀ us W, S W → (∀ k ∈ ks, fact k (us (slot k)) W) → (∀ k ∈ ks, ∀ k' ∈ ks, k ≠ k' → ∀ g, us (slot k) = ptrB g → us (slot k') ≠ ptrB g) → wpAnyH P .any ops (NoPanic Q) S f1 (setAll L ks) (mk us) W) :
    wpAnyH P .any ops (NoPanic Q) S (leftN ks [] + f1) L (mk us) W :=
  wpAnyH_makers0 mk L ks need slot fact f1 hok hnd hslot hstep hlt hrun htail _ [] us W rfl (fun k h => by cases h) (fun k h => by cases h) hS (fun k h => by cases h) (fun k h => by cases h)
end
/-- what is known of a value that has come up -/
structure Fc where
  ok : Value → World → Prop
  step : ∀ v W W', ok v W → Below W.heap.size W W' → ok v W'
  lt : ∀ g W, ok (ptrB g) W → g < W.heap.size
def Fc.val (x : Value) (hx : ∀ g, x ≠ ptrB g) : Fc := ⟨fun v _ => v = x, fun _ _ _ h _ => h, fun g _ h => absurd h.symm (hx g)⟩
def putAll (a : Act) (us : Nat → Value) : List Nat → Act
  | [] => a
  | s :: l => (putAll a us l).put (some s) (us s)
theorem wpAnyH_many {P : Program} {ops : Array Oper} {Q : Exit → Act → World → Prop} {S : World → Prop} (ks : List Nat) (need : Nat → List Nat) (slot : Nat → Nat) (fc : Nat → Fc) (slots : List Nat) (f1 : Nat) {L : Array Bool} {a : Act} {W : World} (us0 : Nat → Value)
    (hok : makersOk ops L ks need = true) (hnd : ks.Nodup) (hslot : ∀ k ∈ ks, ∀ k' ∈ ks, slot k = slot k' → k = k') (h0 : putAll a us0 slots = a) (hS : S W)
    (hrun : ∀ k ∈ ks, ∀ us W, S W → (∀ k' ∈ need k, (fc k').ok (us (slot k')) W) →
      wpMix P ops S Q (fun a' W' => ∃ v, a' = putAll a (upd us (slot k) v) slots ∧ (fc k).ok v W' ∧ Below W.heap.size W W' ∧ ∀ g, v = ptrB g → W.heap.size ≤ g) [(ops.getD k default, false)] (putAll a us slots) W)
    (htail : ∀ us W, S W → (∀ k ∈ ks, (fc k).ok (us (slot k)) W) → (∀ k ∈ ks, ∀ k' ∈ ks, k ≠ k' → ∀ g, us (slot k) = ptrB g → us (slot k') ≠ ptrB g) → wpAnyH P .any ops (NoPanic Q) S f1 (setAll L ks) (putAll a us slots) W) :
    wpAnyH P .any ops (NoPanic Q) S (leftN ks [] + f1) L a W := by
  have := wpAnyH_makers (P := P) (Q := Q) (S := S) (fun us => putAll a us slots) ks need slot (fun k => (fc k).ok) f1 (us := us0) hok hnd hslot (fun k _ => (fc k).step) (fun k _ => (fc k).lt) hS hrun htail
  rwa [h0] at this
end Go.Proofs.Ytonidnfgneokbaa
/- A drawing region in a fence: operations that only look come first, in whatever order; then a tail in its order. No program in sight. -/
namespace Go.Proofs.Ytonidnfgneokbaa
open Go Go.RowKit

theorem wpAnyIn_tail {F : Fence} {n : Nat} {P : Program} {Q : Exit → Act → World → Prop} {l : List Oper} : ∀ (d j : Nat) (listed : Array Bool) (a : Act) (w : World), j + d = l.length → tailOk l.toArray d j listed = true →
    wpListIn F n P l.toArray Q (l.drop j) a w → wpAnyIn F n P .any l.toArray Q d listed a w
  | 0, j, listed, a, w, hl, hB, h => by
    rw [List.drop_eq_nil_of_le (by omega)] at h
    exact ⟨by simpa [tailOk] using hB, h⟩
  | d + 1, j, listed, a, w, hl, hB, h => by
    simp only [tailOk, Bool.and_eq_true, beq_iff_eq] at hB
    obtain ⟨hr, hB⟩ := hB
    have ho : l.toArray[j]? = some (l[j]'(by omega)) := by simp [List.getElem?_eq_getElem (show j < l.length by omega)]
    rw [List.drop_eq_getElem_cons (show j < l.length by omega)] at h
    refine ⟨fun h0 => (by rw [h0] at hr; cases hr), fun i hi => ?_⟩
    rw [hr] at hi
    obtain rfl : i = j := by simpa using hi
    unfold wpListIn at h
    unfold wpOpIn
    simp only [ho]
    split
    · rename_i hw
      rw [if_pos hw] at h
      exact Oper.wpIn_mono (fun a'' w'' hq => wpAnyIn_tail d (i + 1) _ _ _ (by omega) hB hq) h
    · rename_i hw
      rw [if_neg hw] at h
      exact ⟨h.1, wpAnyIn_tail d (i + 1) _ _ _ (by omega) hB h.2⟩
theorem wpOpIn_look {F : Fence} (hF : Fence.Open F) {n : Nat} {P : Program} {ops : Array Oper} {Q : Exit → Act → World → Prop} {i : Nat} {o : Oper} {a : Act} {w : World} {K : Act → World → Prop} {v : Value} (ho : ops[i]? = some o) (hw : Region.wanted o (yielded ops a.tmps) = true) (hd : noDefer [o] = true)
    (hr : (execOp a.eval o).run P w = .ok (.value v) w) (h : K (a.put o.dst v) w) : wpOpIn F n P ops Q i K a w := by
  unfold wpOpIn
  rw [ho]
  dsimp only
  rw [if_pos hw]
  refine Oper.wpIn_of_wp hF (noDefer_op hd o (List.mem_singleton.2 rfl)) ?_
  unfold Oper.wp
  rw [hr]
  exact h
theorem wpAnyIn_looks0 {F : Fence} {n : Nat} {P : Program} {ops : Array Oper} {Q : Exit → Act → World → Prop} {w : World} (mk : (Nat → Value) → Act) (L : Array Bool) (ks : List Nat) (need : Nat → List Nat) (slot : Nat → Nat) (val : Nat → Value) (f1 : Nat)
    (hok : makersOk ops L ks need = true) (hnd : ks.Nodup) (hslot : ∀ k ∈ ks, ∀ k' ∈ ks, slot k = slot k' → k = k')
    (hrun : ∀ k ∈ ks, ∀ us, (∀ k' ∈ need k, us (slot k') = val k') → ∀ K : Act → World → Prop, K (mk (upd us (slot k) (val k))) w → wpOpIn F n P ops Q k K (mk us) w)
    (htail : ∀ us, (∀ k ∈ ks, us (slot k) = val k) → wpAnyIn F n P .any ops Q f1 (setAll L ks) (mk us) w) :
    ∀ (m : Nat) (sub : List Nat) (us : Nat → Value), leftN ks sub = m → (∀ k ∈ sub, k ∈ ks) → (∀ k ∈ sub, closedP ops (setAll L sub) k = true) → (∀ k ∈ sub, us (slot k) = val k) → wpAnyIn F n P .any ops Q (m + f1) (setAll L sub) (mk us) w
  | 0, sub, us, hn, hsub, _, hf => by
    have hall := leftN_zero ks sub hn
    rw [List.all_eq_true] at hall
    have hm : ∀ k ∈ ks, k ∈ sub := fun k hk => by simpa using hall k hk
    rw [setAll_same L sub ks (fun i => by
      by_cases hi : i ∈ sub
      · rw [List.contains_iff_mem.2 hi, List.contains_iff_mem.2 (hsub i hi)]
      · have hi' : i ∉ ks := fun h => hi (hm i h)
        rw [Bool.eq_false_iff.2 (fun h => hi (List.contains_iff_mem.1 h)), Bool.eq_false_iff.2 (fun h => hi' (List.contains_iff_mem.1 h))]), Nat.zero_add]
    exact htail us fun k hk => hf k (hm k hk)
  | m + 1, sub, us, hn, hsub, hcl, hf => by
    have hok' := hok
    unfold makersOk at hok'
    rw [List.all_eq_true] at hok'
    have hc := hok' _ (filter_subs (fun k => sub.contains k) ks)
    have hse : ∀ i, (ks.filter fun k => sub.contains k).contains i = sub.contains i := fun i => by
      by_cases hi : i ∈ sub
      · rw [List.contains_iff_mem.2 hi, List.contains_iff_mem.2 (List.mem_filter.2 ⟨hsub i hi, List.contains_iff_mem.2 hi⟩)]
      · rw [Bool.eq_false_iff.2 (fun h => hi (List.contains_iff_mem.1 h)), Bool.eq_false_iff.2 (fun h => hi (List.contains_iff_mem.1 (List.mem_filter.1 (List.contains_iff_mem.1 h)).2))]
    rw [setAll_same L _ sub hse] at hc
    have hnall : ks.all (ks.filter fun k => sub.contains k).contains = false := by
      rw [Bool.eq_false_iff]
      intro h
      rw [List.all_eq_true] at h
      unfold leftN at hn
      have h0 : (ks.filter fun k => !sub.contains k) = [] := List.filter_eq_nil_iff.2 fun k hk => by
        have := h k hk
        rw [hse] at this
        simp [List.contains_iff_mem.1 this]
      rw [h0] at hn
      cases hn
    have hclf : ((ks.filter fun k => sub.contains k).all fun k => closedP ops (setAll L sub) k) = true := by
      rw [List.all_eq_true]
      exact fun k hk => hcl k (List.contains_iff_mem.1 (List.mem_filter.1 hk).2)
    rw [hnall, hclf, Bool.not_true, Bool.or_false, Bool.false_or, Bool.and_eq_true] at hc
    obtain ⟨hne, hrd⟩ := hc
    rw [List.all_eq_true] at hrd
    rw [show m + 1 + f1 = m + f1 + 1 by omega]
    refine ⟨fun h0 => (by rw [h0] at hne; cases hne), fun k hk => ?_⟩
    have hk' := hrd k hk
    rw [Bool.and_eq_true, List.contains_iff_mem] at hk'
    obtain ⟨hks, hnd'⟩ := hk'
    rw [List.all_eq_true] at hnd'
    obtain ⟨hun, ok, hoi, hed⟩ := mem_ready.1 hk
    have hget : ops.getD k default = ok := by simp [hoi]
    have hkn : sub.contains k = false := by
      by_cases hkL : k < L.size
      · have := setAll_get L k hkL sub
        rw [Array.getD_eq_getD_getElem?, this] at hun
        simp only [Option.getD_some, Bool.or_eq_false_iff] at hun
        exact hun.2
      · rw [Array.getD_eq_getD_getElem?, Array.getElem?_eq_none (by rw [size_setAll]; omega)] at hun
        cases hun
    have hr := hrun k hks us (fun k' hk'' => hf k' (by
      have := hnd' k' hk''
      rw [hse] at this
      exact List.contains_iff_mem.1 this))
    refine hr _ ?_
    have hother : ∀ k' ∈ sub, upd us (slot k) (val k) (slot k') = us (slot k') := fun k' hk'' => upd_other _ _ _ _ (fun e => by
      have := hslot k' (hsub k' hk'') k hks e
      subst this
      rw [List.contains_iff_mem.2 hk''] at hkn
      cases hkn)
    refine wpAnyIn_looks0 mk L ks need slot val f1 hok hnd hslot hrun htail m (k :: sub) _ (by have := leftN_cons sub k hkn ks hnd hks; omega) ?_ ?_ ?_
    · intro k' hk''
      rcases List.mem_cons.1 hk'' with rfl | hk''
      · exact hks
      · exact hsub k' hk''
    · intro k' hk''
      refine closedP_step ops (setAll L sub) k k' ?_
      rcases List.mem_cons.1 hk'' with rfl | hk''
      · unfold closedP
        rw [hget, List.all_eq_true]
        intro e he
        by_cases hb : Region.binds .any e = true
        · rw [hed e (by simpa using he) hb]; simp
        · simp [hb]
      · exact hcl k' hk''
    · intro k' hk''
      rcases List.mem_cons.1 hk'' with rfl | hk''
      · exact upd_same _ _ _
      · rw [hother k' hk'']; exact hf k' hk''
/-- THE LAW: what only looks, in whatever order; then the tail -/
theorem wpIn_region_looks {F : Fence} (hF : Fence.Open F) {m : Nat} {P : Program} {id : Nat} {Q : Exit → Act → World → Prop} {a : Act} {w : World} {l : List Oper} (mk : (Nat → Value) → Act) (ks : List Nat) (need : Nat → List Nat) (slot : Nat → Nat) (val : Nat → Value) (us0 : Nat → Value) (f1 : Nat)
    (hm : P.follows .mixedOrders = true) (hmk : mk us0 = a) (hok : makersOk l.toArray (Array.replicate l.length false) ks need = true) (hnd : ks.Nodup) (hslot : ∀ k ∈ ks, ∀ k' ∈ ks, slot k = slot k' → k = k')
    (hf : ks.length + f1 = l.length) (ht : tailOk l.toArray f1 ks.length (setAll (Array.replicate l.length false) ks) = true)
    (hrun : ∀ k ∈ ks, ∀ us, (∀ k' ∈ need k, us (slot k') = val k') → ∃ o, l.toArray[k]? = some o ∧ Region.wanted o (yielded l.toArray (mk us).tmps) = true ∧ noDefer [o] = true ∧ (execOp (mk us).eval o).run P w.drew = .ok (.value (val k)) w.drew ∧ (mk us).put o.dst (val k) = mk (upd us (slot k) (val k)))
    (htail : ∀ us, (∀ k ∈ ks, us (slot k) = val k) → wpListIn F m P l.toArray Q (l.drop ks.length) (mk us) w.drew) : (Code.region id l.toArray true).wpIn F m P Q a w := by
  refine wpIn_region_any hm ?_
  have hleft : leftN ks [] = ks.length := by
    unfold leftN
    simp
  have h := wpAnyIn_looks0 (F := F) (n := m) (P := P) (ops := l.toArray) (Q := Q) (w := w.drew) mk (Array.replicate l.length false) ks need slot val f1 hok hnd hslot
    (fun k hk us hu K hK => by
      obtain ⟨o, h1, h2, h3, h4, h5⟩ := hrun k hk us hu
      refine wpOpIn_look hF h1 h2 h3 h4 ?_
      rw [h5]
      exact hK)
    (fun us hu => wpAnyIn_tail f1 ks.length _ _ _ hf ht (htail us hu)) ks.length [] us0 hleft (fun _ h => by cases h) (fun _ h => by cases h) (fun _ h => by cases h)
  rw [hf, hmk] at h
  have hs : setAll (Array.replicate l.length false) [] = Array.replicate l.length false := rfl
  rw [hs] at h
  simpa using h
theorem wpIn_region_looksP {F : Fence} (hF : Fence.Open F) {m : Nat} {P : Program} {id : Nat} {Q : Exit → Act → World → Prop} {a : Act} {w : World} {l : List Oper} (ks : List Nat) (need : Nat → List Nat) (slot : Nat → Nat) (slots : List Nat) (val : Nat → Value) (f1 : Nat)
    (hm : P.follows .mixedOrders = true) (hmk : putAll a (fun j => a.tmps.getD j undef) slots = a) (hok : makersOk l.toArray (Array.replicate l.length false) ks need = true) (hnd : ks.Nodup) (hslot : ∀ k ∈ ks, ∀ k' ∈ ks, slot k = slot k' → k = k')
    (hf : ks.length + f1 = l.length) (ht : tailOk l.toArray f1 ks.length (setAll (Array.replicate l.length false) ks) = true)
    (hrun : ∀ k ∈ ks, ∀ us, (∀ k' ∈ need k, us (slot k') = val k') → ∃ o, l.toArray[k]? = some o ∧ Region.wanted o (yielded l.toArray (putAll a us slots).tmps) = true ∧ noDefer [o] = true ∧ (execOp (putAll a us slots).eval o).run P w.drew = .ok (.value (val k)) w.drew ∧ (putAll a us slots).put o.dst (val k) = putAll a (upd us (slot k) (val k)) slots)
    (htail : ∀ us, (∀ k ∈ ks, us (slot k) = val k) → wpListIn F m P l.toArray Q (l.drop ks.length) (putAll a us slots) w.drew) : (Code.region id l.toArray true).wpIn F m P Q a w :=
  wpIn_region_looks hF (fun us => putAll a us slots) ks need slot val (fun j => a.tmps.getD j undef) f1 hm hmk hok hnd hslot hf ht hrun htail
end Go.Proofs.Ytonidnfgneokbaa
/- (*Front).All, and the function that it hands out. -/
namespace Go.Proofs.Ytonidnfgneokbaa
open Go Go.RowKit Go.Shelf
attribute [local go_sem] Oper.semAt_some

theorem pow_i64 (l : Nat) (hl : l ≤ 62) : IntKind.i64.wrap ((2 : Int) ^ l) = (2 : Int) ^ l := by
  have h : ((2 : Int) ^ l) = ((2 ^ l : Nat) : Int) := by simp
  have h2 : 2 ^ l ≤ 2 ^ 62 := Nat.pow_le_pow_right (by decide) hl
  obtain ⟨m, hm⟩ : ∃ m, 2 ^ l = m := ⟨_, rfl⟩
  rw [hm] at h h2
  rw [h, IntWalk.i64_in _ (by omega)]
theorem run_shl1_op {ρ : Operand → Value} {o : Oper} (x : Operand) (ty : TypeId) (l : Nat) (hl : l ≤ 62) (ho : o.op = .binOp .shl 2 (.const (.int .i64 1)) x ty) (hc : ρ (.const (.int .i64 1)) = .int .i64 1) (hx : ρ x = .int .i64 (l : Int)) (W : World) : (execOp ρ o).run Try.prog W = .ok (.value (.int .i64 ((2 : Int) ^ l))) W := by
  unfold execOp
  simp only [ho, hx, hc]
  go_simp
  exact pow_i64 l hl
theorem run_move_opF {P : Program} {ρ : Operand → Value} {o : Oper} (x : Operand) (ho : o.op = .move x) (v : Value) (hx : ρ x = v) (W : World) : (execOp ρ o).run P W = .ok (.value v) W := by
  unfold execOp
  simp only [ho, hx, Sem.run_pure]
theorem run_field_op {P : Program} {ρ : Operand → Value} {o : Oper} (T : TypeId) (x : Operand) (k : Nat) (ho : o.op = .fieldAddr T x k) (g off j : Nat) (hx : ρ x = .pointer (some ⟨g, off, none⟩)) (W : World) (h : (Instr.fieldAt T (.pointer (some ⟨g, off, none⟩)) k).run P W = .ok (.pointer (some ⟨g, j, none⟩)) W) : (execOp ρ o).run P W = .ok (.value (.pointer (some ⟨g, j, none⟩))) W := by
  unfold execOp
  simp only [ho, hx, Sem.run_bind, h, Result.andThen_ok, Sem.run_pure]
set_option maxRecDepth 100000 in
theorem wpList_fpvar {w : World} {ops : Array Oper} {rest : List Oper} {o1 o2 : Oper} {a : Act} {Q : Exit → Act → World → Prop} {n : Int} {l : List UInt8} (x y : Operand) (hg1 : o1.guard = none) (hg2 : o2.guard = none) (ho1 : o1.op = .alloc 156) (ho2 : o2.op = .store 156 x y)
    (hx : (a.put o1.dst (.pointer (some ⟨w.heap.size, 0, none⟩))).eval x = .pointer (some ⟨w.heap.size, 0, none⟩)) (hy : (a.put o1.dst (.pointer (some ⟨w.heap.size, 0, none⟩))).eval y = .agg (.int .i64 n :: l.map B).toArray) (hl : l.length = 32)
    (h : ∀ W, PcB W w.heap.size 156 n l → Below w.heap.size w W → wpList Try.prog ops Q rest ((a.put o1.dst (.pointer (some ⟨w.heap.size, 0, none⟩))).put o2.dst undef) W) : wpList Try.prog ops Q (o1 :: o2 :: rest) a w := by
  refine wpList_run hg1 (.pointer (some ⟨w.heap.size, 0, none⟩)) (w.alloc (.cells (.int .i64 0 :: (List.replicate 32 (0 : UInt8)).map B).toArray 156)) ?_ ?_
  · unfold execOp
    rw [ho1]
    rfl
  · refine wpList_store_blk hg2 156 x y ho2 33 sizeFp w.heap.size (.int .i64 n :: l.map B).toArray hx hy (by simp [hl]) (oneCell_pc n l) 156 _ (Blk.new w 156 _) (by simp) ?_
    exact h _ ⟨(Blk.new w 156 _).setRow_ _, hl⟩ (below_setRow ((Below.refl _ _).alloc (Nat.le_refl _) _) (Nat.le_refl _) _)
theorem KeepU.pcs {B n₁ : Nat} {U : Nat → Prop} {W W' : World} {X : Nat → Prop} {A : Option Addr} {n c : Nat} {q : List PcV} (h : KeepU B n₁ U W W') (hs : Pcs W X A n c q) (hm : ∀ b, b < W.heap.size → X b → b < n₁ ∧ ¬ U b) : Pcs W' X A n c q := ⟨h.slv hs.sl hm, hs.len, hs.all⟩

set_option maxHeartbeats 1000000 in
set_option maxRecDepth 100000 in
theorem fall_any (f : Value) (w : World) (hf : f.oneCell' = true) : Calls Try.prog 50 #[f] w fun e w' => e = .returned (.func (.func 118) #[] #[.pointer (some ⟨w.heap.size, 0, none⟩)]) ∧ Blk w' w.heap.size 61 #[f] ∧ Below w.heap.size w w' := by
  obtain ⟨w0, hw0⟩ : ∃ w0, w.alloc (.cells #[f] 61) = w0 := ⟨_, rfl⟩
  have hb0 : Below w.heap.size w w0 := by rw [← hw0]; exact (Below.refl _ _).alloc (Nat.le_refl _) _
  have k : Blk w0 w.heap.size 61 #[f] := by rw [← hw0]; exact Blk.new _ _ _
  have hc : f.cells = #[f] := by cases f <;> first | rfl | cases hf
  have Hw0 := Lib.hid hw0
  clear hw0
  go_enter Try.func50, Try.ntmps50
  go_wp2_with (rw [Hw0.out])
  go_ret
  exact ⟨rfl, k, hb0⟩
/-- a round is handed how many entries, and their root -/
def PartY (ps : FrV) (k : Nat) (vs : Array Value) : Prop := vs = #[.int .i64 ((2 : Int) ^ (ps.getD k (0, [])).1), .agg ((ps.getD k (0, [])).2.map B).toArray]

set_option maxRecDepth 100000 in
set_option maxHeartbeats 2000000 in
theorem fall1_seq (ps : FrV) (g bx : Nat) (U : Nat → Prop) (w : World) (hbox : Blk w bx 61 #[.pointer (some ⟨g, 0, none⟩)]) (h : FrO w g ps) (h62 : F62 ps) (hU : ∀ b, U b → b < w.heap.size) (hn : ps.length ≤ 1000) :
    SeqU Try.prog 118 #[.pointer (some ⟨bx, 0, none⟩)] ps.length U (fun _ k vs _ => PartY ps k vs) w := by
  intro ly J Jx W hW hJ hJx hY h0
  have hbox' := hbox.below hW hbox.lt
  replace h := h.step hW
  obtain ⟨A, n, c, hk, hP⟩ := h.ex
  have hlen : ps.length = n := by rw [← hP.len, length_fpc]
  have h32 := h.all
  have c1 : W.cell? ⟨bx, 0, none⟩ = some (.pointer (some ⟨g, 0, none⟩)) := by rw [hbox'.cell]; rfl
  have c2 : W.cell? ⟨g, 0, none⟩ = some (.slice A n c) := by rw [hk.cell]; rfl
  have hcl := clonep_any (fpc ps) A n c W hP (by omega)
  have hst := h0
  have hUW : ∀ b, U b → b < W.heap.size := fun b hb => Nat.lt_of_lt_of_le (hU b hb) hW.size
  have Hst := Lib.hid hst
  have HJ := Lib.hid hJ
  have HY := Lib.hid hY
  have Hcl := Lib.hid hcl
  have H32 := Lib.hid h32
  have H62 := Lib.hid h62
  clear hbox hJx hJ hY h hW h0 hst hk hP hcl h32 h62 hbox' hU
  subst hlen
  refine callsIn_of_wp Try.func118 rfl trivial ?_ rfl
  simp only [Try.ntmps118, List.size_toArray, List.length_cons, List.length_nil, Nat.reduceAdd, Nat.reduceSub, Array.replicate_succ, Array.replicate_zero, List.push_toArray, List.append_toArray, List.nil_append, List.cons_append]
  gi_wp2_with ((with_reducible show wpListIn _ _ _ _ _ (⟨some 11, .call _, _, _, _, _⟩ :: _) _ _); fail)
  refine ⟨trivial, callsIn_any openW (Hcl.out.mono ?_)⟩
  rintro e W1 ⟨v, rfl, ho, hb1⟩
  obtain ⟨A1, c1', rfl, hs⟩ := Pcs.of_owns ho (length_fpc ps) (fpc_32 _ H32.out)
  have hJ1 := HJ.out W1.heap.size 0 W W1 none (Hst.out _ hb1.size) (grown_of_below hb1 none) (fun r e => by cases e)
  have hs1 : Pcs W1 (fun b => W.heap.size ≤ b ∧ b < W1.heap.size) A1 ps.length c1' (fpc ps) := hs.weak fun b hb hx => ⟨hx.1, hb⟩
  have hz1 := hb1.size
  have hroom := hs1.sl.room
  have hmx := hs1.sl.max
  unfold maxLen at hmx
  clear ho hs c1 c2 hb1 Hcl Hst
  gi_wp2
  gi_loopw [4, 13] (fun _ i wr => ∃ k : Nat, k ≤ ps.length ∧ i = .int .i64 k ∧ W1.heap.size ≤ wr.heap.size ∧ J W1.heap.size k wr ∧ Pcs wr (fun b => W.heap.size ≤ b ∧ b < W1.heap.size) A1 ps.length c1' (fpc ps))
    (fun _ i _ => ps.length - (intOf i).toNat)
  case atStart => exact ⟨0, Nat.zero_le _, rfl, Nat.le_refl _, hJ1, hs1⟩
  case round =>
    clear hJ1 hs1
    obtain ⟨k, hk, rfl, hsz, hJs, hs⟩ := hrel
    by_cases hlt : k < ps.length
    · have hd : decide ((k : Int) < (ps.length : Int)) = true := by simp; omega
      obtain ⟨b, o, rfl, hbw, -⟩ := hs.at_ (by omega)
      have hld := hs.load aggFp sizeFp rfl k hlt
      rw [fpc_getD] at hld
      have h32k : (ps.getD k (0, [])).2.length = 32 := by
        rw [List.getD_eq_getElem?_getD, List.getElem?_eq_getElem hlt]
        exact H32.out _ (List.getElem_mem hlt)
      have h62k : (ps.getD k (0, [])).1 ≤ 62 := by
        rw [List.getD_eq_getElem?_getD, List.getElem?_eq_getElem hlt]
        exact H62.out _ (List.getElem_mem hlt)
      obtain ⟨⟨lv, x⟩, hx⟩ : ∃ x, ps.getD k (0, []) = x := ⟨_, rfl⟩
      rw [hx] at hld h32k h62k
      have hwk : IntKind.i64.wrap ((k : Int) + 1) = (k : Int) + 1 := IntWalk.i64_in _ (by omega)
      have Hx := Lib.hid hx
      have H32k := Lib.hid h32k
      clear hx h32k
      gi_wp2_with (first
        | ((with_reducible show wpListIn _ _ _ _ _ (⟨some 16, .load _ _, _, _, _, _⟩ :: _) _ _); refine wpListIn_of1 openW rfl ?_; refine wpList_cell 156 (.tmp 15) b (o + k * 33) (.agg (.int .i64 (lv : Int) :: x.map B).toArray) (by kernel_rfl) rfl rfl hld ?_; refine thenN_nil ?_; simp only [Act.put])
        | ((with_reducible show wpListIn _ _ _ _ _ (⟨some 4, .alloc _, _, _, _, _⟩ :: _) _ _); refine wpListIn_of2 openW rfl ?_; refine wpList_fpvar (.tmp 4) (.tmp 16) rfl rfl rfl rfl rfl rfl H32k.out ?_; intro W2 k4 hb2; refine thenN_nil ?_; simp only [Act.put]))
      have k4d : PcB W2.drew wr.heap.size 156 (lv : Int) x := ⟨k4.blk, k4.len⟩
      refine wpIn_region_looksP openW [0, 1, 2, 3, 4, 5] (fun k => if k = 2 then [1] else if k = 3 then [2] else if k = 5 then [4] else []) (fun k => k + 17) [17, 18, 19, 20, 21, 22]
        (fun k => if k = 0 then .func (.yield ly) #[] #[] else if k = 1 then .pointer (some ⟨wr.heap.size, 0, none⟩) else if k = 2 then .int .i64 (lv : Int) else if k = 3 then .int .i64 ((2 : Int) ^ lv) else if k = 4 then .pointer (some ⟨wr.heap.size, 1, none⟩) else .agg (x.map B).toArray) 2 (by kernel_rfl) (by kernel_rfl) (by kernel_rfl) (by decide) (by decide) rfl (by kernel_rfl) ?_ ?_
      · refine List.forall_mem_cons.2 ⟨fun us hn => ⟨_, rfl, by kernel_rfl, by kernel_rfl, run_move_opF (.tmp 0) rfl _ rfl _, by kernel_rfl⟩, List.forall_mem_cons.2 ⟨fun us hn => ⟨_, rfl, by kernel_rfl, by kernel_rfl, run_field_op 156 (.tmp 4) 0 rfl wr.heap.size 0 0 rfl _ (by kernel_rfl), by kernel_rfl⟩, List.forall_mem_cons.2 ⟨fun us hn => ⟨_, rfl, by kernel_rfl, by kernel_rfl, run_load_op 3 (.tmp 18) rfl wr.heap.size 0 (hn 1 (by simp)) _ (run_load_scalar (by kernel_rfl) k4d.num), by kernel_rfl⟩, List.forall_mem_cons.2 ⟨fun us hn => ⟨_, rfl, by kernel_rfl, by kernel_rfl, run_shl1_op (.tmp 19) _ lv h62k rfl rfl (hn 2 (by simp)) _, by kernel_rfl⟩, List.forall_mem_cons.2 ⟨fun us hn => ⟨_, rfl, by kernel_rfl, by kernel_rfl, run_field_op 156 (.tmp 4) 1 rfl wr.heap.size 0 1 rfl _ (by kernel_rfl), by kernel_rfl⟩, List.forall_mem_cons.2 ⟨fun us hn => ⟨_, rfl, by kernel_rfl, by kernel_rfl, run_load_op 25 (.tmp 21) rfl wr.heap.size 1 (hn 4 (by simp)) _ k4d.hash, by kernel_rfl⟩, fun _ h => by cases h⟩⟩⟩⟩⟩⟩
      intro us hu
      have e17 : us 17 = .func (.yield ly) #[] #[] := hu 0 (by simp)
      have e20 : us 20 = .int .i64 ((2 : Int) ^ lv) := hu 3 (by simp)
      have e22 : us 22 = .agg (x.map B).toArray := hu 5 (by simp)
      simp only [putAll, Act.put, List.setIfInBounds_toArray, List.set_cons_succ, List.set_cons_zero, List.length_cons, List.length_nil, List.drop_succ_cons, List.drop_zero]
      rw [e17, e20, e22]
      clear e17 e20 e22 hu k4 k4d
      have hJ2 := (HJ.out W1.heap.size k wr W2 none hJs (grown_of_below hb2 none) (fun r e => by cases e))
      have hJd := HJ.out W1.heap.size k W2 W2.drew none hJ2 (grown_of_below (Below.refl _ _).drew none) (fun r e => by cases e)
      obtain ⟨fn, tmps, assign, body, hy, hR⟩ := HY.out W1.heap.size k #[.int .i64 ((2 : Int) ^ lv), .agg (x.map B).toArray] W2.drew hz1 (Nat.le_trans hsz hb2.size) hlt hJd (by unfold PartY; rw [Hx.out])
      have hs2 := (hs.step hb2).step (Below.refl W2.heap.size W2).drew
      have hsz2 : W1.heap.size ≤ W2.drew.heap.size := Nat.le_trans hsz hb2.size
      generalize W2.drew = W3 at hy hR hs2 hsz2 ⊢
      clear hJ2 hJd hJs hb2 hs hld
      gi_wp2
      refine hR.mono ?_
      clear hR hy
      rintro e w4 (⟨rfl, hj4, hk4⟩ | ⟨rfl, hjx4, hk4⟩)
      · have hs4 := hk4.pcs hs2 fun b _ hb => ⟨hb.2, fun hu => by have := hUW b hu; omega⟩
        have hsz4 := hk4.size
        clear hk4 hs2
        gi_wp2
        exact ⟨⟨k + 1, by omega, by go_num, by omega, hj4, hs4⟩, by simp [intOf]; omega⟩
      · gi_wp2
        refine bodyPost_ret (by exact results_none rfl _ _ _) rfl ?_
        exact ⟨⟨_, rfl⟩, _, hz1, .inr ⟨k, hlt, hjx4⟩⟩
    · obtain rfl : k = ps.length := by omega
      have hd : decide ((ps.length : Int) < (ps.length : Int)) = false := by simp
      gi_wp2
      go_end0
      exact ⟨⟨_, rfl⟩, _, by omega, .inl hJs⟩
end Go.Proofs.Ytonidnfgneokbaa
