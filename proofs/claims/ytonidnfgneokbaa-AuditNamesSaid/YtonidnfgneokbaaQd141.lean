/- Makers in any order, among them some that only look, which are taken as soon as they may come. No program in sight. -/
import Derived.Test.YtonidnfgneokbaaQd127
namespace Go.Proofs.Ytonidnfgneokbaa
open Go Go.RowKit

/-- in every state that some of them have left: one that only looks may come; else some more of them may come up, and none else -/
def makersOkF (ops : Array Oper) (L : Array Bool) (ks : List Nat) (need : Nat → List Nat) (fo : Nat → Bool) : Bool :=
  Region.noSelect ops && (subsL ks).all fun s => ks.all s.contains || !(s.all fun k => closedP ops (setAll L s) k) ||
    match ks.find? (fun k => fo k && !s.contains k && (Region.ready .any ops (setAll L s)).contains k && Region.free .any ops (setAll L s) k) with
    | some k => (need k).all s.contains
    | none => !(Region.ready .any ops (setAll L s)).isEmpty && (Region.ready .any ops (setAll L s)).all fun k => ks.contains k && !fo k && (need k).all s.contains
section
variable {P : Program} {ops : Array Oper} {Q : Exit → Act → World → Prop} {S : World → Prop}
theorem wpAnyH_makersF0 (mk : (Nat → Value) → Act) (L : Array Bool) (ks : List Nat) (need : Nat → List Nat) (slot : Nat → Nat) (fact : Nat → Value → World → Prop) (f1 : Nat)
    (fo : Nat → Bool) (hok : makersOkF ops L ks need fo = true) (hnd : ks.Nodup) (hslot : ∀ k ∈ ks, ∀ k' ∈ ks, slot k = slot k' → k = k')
    (hstep : ∀ k ∈ ks, ∀ v W W', fact k v W → Below W.heap.size W W' → fact k v W') (hlt : ∀ k ∈ ks, ∀ g W, fact k (ptrB g) W → g < W.heap.size)
    (hrun : ∀ k ∈ ks, ∀ us W, S W → (∀ k' ∈ need k, fact k' (us (slot k')) W) →
      wpMix P ops S Q (fun a W' => ∃ v, a = mk (upd us (slot k) v) ∧ fact k v W' ∧ Below W.heap.size W W' ∧ ∀ g, v = ptrB g → W.heap.size ≤ g) [(ops.getD k default, fo k)] (mk us) W)
    (htail : ∀ us W, S W → (∀ k ∈ ks, fact k (us (slot k)) W) → (∀ k ∈ ks, ∀ k' ∈ ks, k ≠ k' → ∀ g, us (slot k) = ptrB g → us (slot k') ≠ ptrB g) → wpAnyH P .any ops (NoPanic Q) S f1 (setAll L ks) (mk us) W) :
    ∀ (n : Nat) (sub : List Nat) (us : Nat → Value) (W : World), leftN ks sub = n → (∀ k ∈ sub, k ∈ ks) → (∀ k ∈ sub, closedP ops (setAll L sub) k = true) → S W → (∀ k ∈ sub, fact k (us (slot k)) W) → (∀ k ∈ sub, ∀ k' ∈ sub, k ≠ k' → ∀ g, us (slot k) = ptrB g → us (slot k') ≠ ptrB g) →
      wpAnyH P .any ops (NoPanic Q) S (n + f1) (setAll L sub) (mk us) W
  | 0, sub, us, W, hn, hsub, _, hS, hf, ha => by
    have hall := leftN_zero ks sub hn
    rw [List.all_eq_true] at hall
    have hm : ∀ k ∈ ks, k ∈ sub := fun k hk => by simpa using hall k hk
    rw [setAll_same L sub ks (fun i => by
      by_cases hi : i ∈ sub
      · rw [List.contains_iff_mem.2 hi, List.contains_iff_mem.2 (hsub i hi)]
      · have hi' : i ∉ ks := fun h => hi (hm i h)
        rw [Bool.eq_false_iff.2 (fun h => hi (List.contains_iff_mem.1 h)), Bool.eq_false_iff.2 (fun h => hi' (List.contains_iff_mem.1 h))]), Nat.zero_add]
    exact htail us W hS (fun k hk => hf k (hm k hk)) (fun k hk k' hk' => ha k (hm k hk) k' (hm k' hk'))
  | n + 1, sub, us, W, hn, hsub, hcl, hS, hf, ha => by
    have hok' := hok
    unfold makersOkF at hok'
    rw [Bool.and_eq_true] at hok'
    obtain ⟨hsel, hok'⟩ := hok'
    rw [List.all_eq_true] at hok'
    have hc := hok' _ (filter_subs (fun k => sub.contains k) ks)
    have hse : ∀ i, (ks.filter fun k => sub.contains k).contains i = sub.contains i := fun i => by
      by_cases hi : i ∈ sub
      · rw [List.contains_iff_mem.2 hi, List.contains_iff_mem.2 (List.mem_filter.2 ⟨hsub i hi, List.contains_iff_mem.2 hi⟩)]
      · rw [Bool.eq_false_iff.2 (fun h => hi (List.contains_iff_mem.1 h)), Bool.eq_false_iff.2 (fun h => hi (List.contains_iff_mem.1 (List.mem_filter.1 (List.contains_iff_mem.1 h)).2))]
    rw [setAll_same L _ sub hse] at hc
    have hnall : ks.all (ks.filter fun k => sub.contains k).contains = false := by
      rw [Bool.eq_false_iff]
      intro h
      rw [List.all_eq_true] at h
      unfold leftN at hn
      have h0 : (ks.filter fun k => !sub.contains k) = [] := List.filter_eq_nil_iff.2 fun k hk => by
        have := h k hk
        rw [hse] at this
        simp [List.contains_iff_mem.1 this]
      rw [h0] at hn
      cases hn
    have hclf : ((ks.filter fun k => sub.contains k).all fun k => closedP ops (setAll L sub) k) = true := by
      rw [List.all_eq_true]
      exact fun k hk => hcl k (List.contains_iff_mem.1 (List.mem_filter.1 hk).2)
    rw [hnall, hclf, Bool.not_true, Bool.or_false, Bool.false_or] at hc
    have gen : ∀ k ∈ ks, k ∈ Region.ready .any ops (setAll L sub) → (∀ v W', S W' → fact k v W' → Below W.heap.size W W' → (∀ g, v = ptrB g → W.heap.size ≤ g) → wpAnyH P .any ops (NoPanic Q) S (n + f1) (setAll L (k :: sub)) (mk (upd us (slot k) v)) W') := fun k hks hk => by
      obtain ⟨hun, ok, hoi, hed⟩ := mem_ready.1 hk
      have hget : ops.getD k default = ok := by simp [hoi]
      have hkn : sub.contains k = false := by
        by_cases hkL : k < L.size
        · have := setAll_get L k hkL sub
          rw [Array.getD_eq_getD_getElem?, this] at hun
          simp only [Option.getD_some, Bool.or_eq_false_iff] at hun
          exact hun.2
        · rw [Array.getD_eq_getD_getElem?, Array.getElem?_eq_none (by rw [size_setAll]; omega)] at hun
          cases hun
      intro v W' hS' hv hb hg
      have hother : ∀ k' ∈ sub, upd us (slot k) v (slot k') = us (slot k') := fun k' hk'' => upd_other _ _ _ _ (fun e => by
        have := hslot k' (hsub k' hk'') k hks e
        subst this
        rw [List.contains_iff_mem.2 hk''] at hkn
        cases hkn)
      refine wpAnyH_makersF0 mk L ks need slot fact f1 fo hok hnd hslot hstep hlt hrun htail n (k :: sub) _ W' (by have := leftN_cons sub k hkn ks hnd hks; omega) ?_ ?_ hS' ?_ ?_
      · intro k' hk''
        rcases List.mem_cons.1 hk'' with rfl | hk''
        · exact hks
        · exact hsub k' hk''
      · intro k' hk''
        refine closedP_step ops (setAll L sub) k k' ?_
        rcases List.mem_cons.1 hk'' with rfl | hk''
        · unfold closedP
          rw [hget, List.all_eq_true]
          intro e he
          by_cases hb : Region.binds .any e = true
          · rw [hed e (by simpa using he) hb]; simp
          · simp [hb]
        · exact hcl k' hk''
      · intro k' hk''
        rcases List.mem_cons.1 hk'' with rfl | hk''
        · rw [upd_same]; exact hv
        · rw [hother k' hk'']; exact hstep k' (hsub k' hk'') _ _ _ (hf k' hk'') hb
      · intro k1 m1 k2 m2 hne' g hp hq
        rcases List.mem_cons.1 m1 with e1 | h1
        · rw [e1, upd_same] at hp
          rcases List.mem_cons.1 m2 with e2 | h2
          · exact hne' (e1.trans e2.symm)
          · rw [hother k2 h2] at hq
            have := hf k2 h2
            rw [hq] at this
            have := hlt k2 (hsub k2 h2) _ _ this
            have := hg g hp
            omega
        · rw [hother k1 h1] at hp
          rcases List.mem_cons.1 m2 with e2 | h2
          · rw [e2, upd_same] at hq
            have := hf k1 h1
            rw [hp] at this
            have := hlt k1 (hsub k1 h1) _ _ this
            have := hg g hq
            omega
          · rw [hother k2 h2] at hq
            exact ha k1 h1 k2 h2 hne' g hp hq
    cases hfd : ks.find? (fun k => fo k && !(ks.filter fun k => sub.contains k).contains k && (Region.ready .any ops (setAll L sub)).contains k && Region.free .any ops (setAll L sub) k) with
    | some k =>
      rw [hfd] at hc
      have hks := List.mem_of_find?_eq_some hfd
      have hpk := List.find?_some hfd
      simp only [Bool.and_eq_true] at hpk
      obtain ⟨⟨⟨hfo, _⟩, hrd⟩, hfree⟩ := hpk
      have hk : k ∈ Region.ready .any ops (setAll L sub) := List.contains_iff_mem.1 hrd
      have hc : (need k).all (ks.filter fun k => sub.contains k).contains = true := hc
      rw [List.all_eq_true] at hc
      have hr := (hrun k hks us W hS (fun k' hk'' => hf k' (by
        have := hc k' hk''
        rw [hse] at this
        exact List.contains_iff_mem.1 this))).out
      rw [hfo] at hr
      have key := gen k hks hk
      rw [show n + 1 + f1 = [(k, true)].length + (n + f1) by simp; omega]
      refine wpAnyH_pre0 hsel (n + f1) (setAll L (k :: sub)) [(k, true)] (setAll L sub) (mk us) W ?_ hS ?_
      · simp only [mixTo, hrd, hfree, Bool.and_self, if_true]
        rfl
      · simp only [List.map_cons, List.map_nil, wpMix0] at hr ⊢
        split
        · rename_i hw
          rw [if_pos hw] at hr
          obtain ⟨v, hv, v', ha', h1, h2, h3⟩ := hr
          exact ⟨v, hv, fun hs => by rw [ha']; exact key v' W hs h1 h2 h3⟩
        · rename_i hw
          rw [if_neg hw] at hr
          obtain ⟨v', ha', h1, h2, h3⟩ := hr
          exact fun hs => by rw [ha']; exact key v' W hs h1 h2 h3
    | none =>
      rw [hfd] at hc
      have hc : (!(Region.ready .any ops (setAll L sub)).isEmpty && (Region.ready .any ops (setAll L sub)).all fun k => ks.contains k && !fo k && (need k).all (ks.filter fun k => sub.contains k).contains) = true := hc
      rw [Bool.and_eq_true] at hc
      obtain ⟨hne, hrd⟩ := hc
      rw [List.all_eq_true] at hrd
      rw [show n + 1 + f1 = n + f1 + 1 by omega]
      refine ⟨fun h0 => (by rw [h0] at hne; cases hne), fun k hk => ?_⟩
      have hk' := hrd k hk
      rw [Bool.and_eq_true, Bool.and_eq_true, List.contains_iff_mem] at hk'
      obtain ⟨⟨hks, hfo⟩, hnd'⟩ := hk'
      have hfo : fo k = false := by simpa using hfo
      rw [List.all_eq_true] at hnd'
      obtain ⟨hun, ok, hoi, hed⟩ := mem_ready.1 hk
      have hget : ops.getD k default = ok := by simp [hoi]
      have key := gen k hks hk
      have hr := (hrun k hks us W hS (fun k' hk'' => hf k' (by
        have := hnd' k' hk''
        rw [hse] at this
        exact List.contains_iff_mem.1 this))).out
      rw [hfo] at hr
      simp only [wpMix0, hget] at hr
      unfold wpOp
      simp only [hoi]
      show (if Region.wanted ok (yielded ops (mk us).tmps) = true then _ else _)
      by_cases hw : Region.wanted ok (yielded ops (mk us).tmps) = true
      · rw [if_pos hw] at hr ⊢
        refine .inl (Oper.wp_mono (fun a' w' hh => ?_) hr)
        obtain ⟨g1, v, rfl, h1, h2, h3⟩ := hh
        exact ⟨g1, key v w' g1 h1 h2 h3⟩
      · rw [if_neg hw] at hr ⊢
        obtain ⟨v, ha', h1, h2, h3⟩ := hr
        rw [ha']
        exact ⟨hS, key v W hS h1 h2 h3⟩
end
theorem wpAnyH_manyF {P : Program} {ops : Array Oper} {Q : Exit → Act → World → Prop} {S : World → Prop} (ks : List Nat) (need : Nat → List Nat) (fo : Nat → Bool) (slot : Nat → Nat) (fc : Nat → Fc) (slots : List Nat) (f1 : Nat) {L : Array Bool} {a : Act} {W : World} (us0 : Nat → Value)
    (hok : makersOkF ops L ks need fo = true) (hnd : ks.Nodup) (hslot : ∀ k ∈ ks, ∀ k' ∈ ks, slot k = slot k' → k = k') (h0 : putAll a us0 slots = a) (hS : S W)
    (hrun : ∀ k ∈ ks, ∀ us W, S W → (∀ k' ∈ need k, (fc k').ok (us (slot k')) W) →
      wpMix P ops S Q (fun a' W' => ∃ v, a' = putAll a (upd us (slot k) v) slots ∧ (fc k).ok v W' ∧ Below W.heap.size W W' ∧ ∀ g, v = ptrB g → W.heap.size ≤ g) [(ops.getD k default, fo k)] (putAll a us slots) W)
    (htail : ∀ us W, S W → (∀ k ∈ ks, (fc k).ok (us (slot k)) W) → (∀ k ∈ ks, ∀ k' ∈ ks, k ≠ k' → ∀ g, us (slot k) = ptrB g → us (slot k') ≠ ptrB g) → wpAnyH P .any ops (NoPanic Q) S f1 (setAll L ks) (putAll a us slots) W) :
    wpAnyH P .any ops (NoPanic Q) S (leftN ks [] + f1) L a W := by
  have := wpAnyH_makersF0 (P := P) (Q := Q) (S := S) (fun us => putAll a us slots) L ks need slot (fun k => (fc k).ok) f1 fo hok hnd hslot (fun k _ => (fc k).step) (fun k _ => (fc k).lt) hrun htail _ [] us0 W rfl (fun k h => by cases h) (fun k h => by cases h) hS (fun k h => by cases h) (fun k h => by cases h)
  have e : putAll a us0 slots = a := h0
  simp only [e] at this
  exact this
end Go.Proofs.Ytonidnfgneokbaa
