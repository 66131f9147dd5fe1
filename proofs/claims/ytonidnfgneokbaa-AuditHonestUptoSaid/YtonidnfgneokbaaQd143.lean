/- Where two trees' roots lead to, out of a proof (plain). -/
import Derived.Test.YtonidnfgneokbaaQd131
import Derived.Test.YtonidnfgneokbaaQd142
import Derived.Test.YtonidnfgneokbaaQd127
import Derived.Test.YtonidnfgneokbaaQd114
namespace Go.Proofs.Ytonidnfgneokbaa
open Go

def bothE (H : Hf) (whole : Bool) (way : List Bool) (fi : List UInt8) (pf : List (List UInt8)) : List UInt8 := elderI H way (seedB whole way pf) (seedX whole way fi pf) way.length
def bothA (H : Hf) (whole : Bool) (way : List Bool) (fi : List UInt8) (pf : List (List UInt8)) : List UInt8 := atI H way (seedB whole way pf) (seedX whole way fi pf) way.length
theorem seedB_take (whole b : Bool) (way : List Bool) (pf : List (List UInt8)) : (seedB whole (b :: way) pf).take way.length = seedB (whole && !b) way (pf.take (cntW (whole && !b) way)) := by
  cases b with
  | true =>
    rw [Bool.not_true, Bool.and_false]
    unfold seedB cntW
    rw [ownW_true, ownW_part, if_pos rfl, if_pos rfl, if_pos rfl, List.drop_take, Nat.add_sub_cancel]
  | false =>
    rw [Bool.not_false, Bool.and_true]
    unfold seedB cntW
    rw [ownW_false]
    by_cases ho : ownW whole way = true
    · rw [if_pos ho, if_pos ho, if_pos ho, List.drop_take, Nat.add_sub_cancel]
    · rw [if_neg ho, if_neg ho, if_neg ho, Nat.add_zero]
theorem seedX_take (whole b : Bool) (way : List Bool) (fi : List UInt8) (pf : List (List UInt8)) : seedX whole (b :: way) fi pf = seedX (whole && !b) way fi (pf.take (cntW (whole && !b) way)) := by
  cases b with
  | true =>
    rw [Bool.not_true, Bool.and_false]
    unfold seedX cntW
    rw [ownW_true, ownW_part, if_pos rfl, if_pos rfl, if_pos rfl]
    rw [List.getD_eq_getElem?_getD, List.getD_eq_getElem?_getD, List.getElem?_take_of_lt (by omega)]
  | false =>
    rw [Bool.not_false, Bool.and_true]
    unfold seedX cntW
    rw [ownW_false]
    by_cases ho : ownW whole way = true
    · rw [if_pos ho, if_pos ho, if_pos ho]
      rw [List.getD_eq_getElem?_getD, List.getD_eq_getElem?_getD, List.getElem?_take_of_lt (by omega)]
    · rw [if_neg ho, if_neg ho]
theorem seedB_top (whole b : Bool) (way : List Bool) (pf : List (List UInt8)) : (seedB whole (b :: way) pf).getD way.length [] = pf.getD (cntW (whole && !b) way) [] := by
  cases b with
  | true =>
    rw [Bool.not_true, Bool.and_false]
    unfold seedB cntW
    rw [ownW_true, ownW_part, if_pos rfl, if_pos rfl, List.getD_eq_getElem?_getD, List.getD_eq_getElem?_getD, List.getElem?_drop, Nat.add_comm]
  | false =>
    rw [Bool.not_false, Bool.and_true]
    unfold seedB cntW
    rw [ownW_false]
    by_cases ho : ownW whole way = true
    · rw [if_pos ho, if_pos ho, List.getD_eq_getElem?_getD, List.getD_eq_getElem?_getD, List.getElem?_drop, Nat.add_comm]
    · rw [if_neg ho, if_neg ho, Nat.add_zero]
theorem bothE_left (H : Hf) (whole : Bool) (way : List Bool) (fi : List UInt8) (pf : List (List UInt8)) : bothE H whole (false :: way) fi pf = bothE H whole way fi (pf.take (cntW whole way)) := by
  have h1 := seedB_take whole false way pf
  have h2 := seedX_take whole false way fi pf
  rw [Bool.not_false, Bool.and_true] at h1 h2
  unfold bothE
  rw [List.length_cons, elderI_succ, List.length_cons, show way.length + 1 - 1 - way.length = 0 by omega, List.getD_cons_zero, if_neg (by simp), elderI_cons _ _ _ _ _ _ (Nat.le_refl _), h1, h2]
theorem bothE_right (H : Hf) (whole : Bool) (way : List Bool) (fi : List UInt8) (pf : List (List UInt8)) : bothE H whole (true :: way) fi pf = H (nodeD (pf.getD (cntW false way) [], bothE H false way fi (pf.take (cntW false way)))) := by
  have h1 := seedB_take whole true way pf
  have h2 := seedX_take whole true way fi pf
  have h3 := seedB_top whole true way pf
  rw [Bool.not_true, Bool.and_false] at h1 h2 h3
  unfold bothE
  rw [List.length_cons, elderI_succ, List.length_cons, show way.length + 1 - 1 - way.length = 0 by omega, List.getD_cons_zero, if_pos rfl, elderI_cons _ _ _ _ _ _ (Nat.le_refl _), h1, h2, h3]
theorem bothA_left (H : Hf) (whole : Bool) (way : List Bool) (fi : List UInt8) (pf : List (List UInt8)) : bothA H whole (false :: way) fi pf = H (nodeD (bothA H whole way fi (pf.take (cntW whole way)), pf.getD (cntW whole way) [])) := by
  have h1 := seedB_take whole false way pf
  have h2 := seedX_take whole false way fi pf
  have h3 := seedB_top whole false way pf
  rw [Bool.not_false, Bool.and_true] at h1 h2 h3
  unfold bothA
  rw [List.length_cons, atI_succ, prI_top, h1, h2, h3]
  rfl
theorem bothA_right (H : Hf) (whole : Bool) (way : List Bool) (fi : List UInt8) (pf : List (List UInt8)) : bothA H whole (true :: way) fi pf = H (nodeD (pf.getD (cntW false way) [], bothA H false way fi (pf.take (cntW false way)))) := by
  have h1 := seedB_take whole true way pf
  have h2 := seedX_take whole true way fi pf
  have h3 := seedB_top whole true way pf
  rw [Bool.not_true, Bool.and_false] at h1 h2 h3
  unfold bothA
  rw [List.length_cons, atI_succ, prI_top, h1, h2, h3]
  rfl
theorem bothE_end (H : Hf) (whole : Bool) (fi : List UInt8) (pf : List (List UInt8)) : bothE H whole [] fi pf = if whole = true then fi else pf.getD 0 [] := by
  cases whole <;> rfl
theorem bothA_end (H : Hf) (whole : Bool) (fi : List UInt8) (pf : List (List UInt8)) : bothA H whole [] fi pf = if whole = true then fi else pf.getD 0 [] := by
  cases whole <;> rfl
theorem length_bothE (H : Hf) (hH : ∀ l, (H l).length = 32) (whole : Bool) (way : List Bool) (fi : List UInt8) (pf : List (List UInt8)) (hf : fi.length = 32) (hp : ∀ x ∈ pf, x.length = 32) (h : pf.length = cntW whole way) : (bothE H whole way fi pf).length = 32 :=
  length_elderI H hH _ (seedX_len whole way fi pf hf hp h) _ _ _
theorem length_atW (H : Hf) (hH : ∀ l, (H l).length = 32) (a0 : List UInt8) (ha : a0.length = 32) (w : List Bool) (p : List (List UInt8)) (j : Nat) : (atI H w p a0 j).length = 32 := by cases j with | zero => exact ha | succ j => exact hH _
theorem length_bothA (H : Hf) (hH : ∀ l, (H l).length = 32) (whole : Bool) (way : List Bool) (fi : List UInt8) (pf : List (List UInt8)) (hf : fi.length = 32) (hp : ∀ x ∈ pf, x.length = 32) (h : pf.length = cntW whole way) : (bothA H whole way fi pf).length = 32 :=
  length_atW H hH _ (seedX_len whole way fi pf hf hp h) _ _ _
end Go.Proofs.Ytonidnfgneokbaa
/- Makers in any order, among them some that only look, which are taken as soon as they may come. No program in sight. -/
namespace Go.Proofs.Ytonidnfgneokbaa
open Go Go.RowKit

/-- in every state that some of them have left: one that only looks may come; else some more of them may come up, and none else -/
def makersOkF (ops : Array Oper) (L : Array Bool) (ks : List Nat) (need : Nat → List Nat) (fo : Nat → Bool) : Bool :=
  Region.noSelect ops && (subsL ks).all fun s => ks.all s.contains || !(s.all fun k => closedP ops (setAll L s) k) ||
    match ks.find? (fun k => fo k && !s.contains k && (Region.ready .any ops (setAll L s)).contains k && Region.free .any ops (setAll L s) k) with
    | some k => (need k).all s.contains
    | none => !(Region.ready .any ops (setAll L s)).isEmpty && (Region.ready .any ops (setAll L s)).all fun k => ks.contains k && !fo k && (need k).all s.contains
section
variable {P : Program} {ops : Array Oper} {Q : Exit → Act → World → Prop} {S : World → Prop}
theorem wpAnyH_makersF0 (mk : (Nat → Value) → Act) (L : Array Bool) (ks : List Nat) (need : Nat → List Nat) (slot : Nat → Nat) (fact : Nat → Value → World → Prop) (f1 : Nat)
    (fo : Nat → Bool) (hok : makersOkF ops L ks need fo = true) (hnd : ks.Nodup) (hslot : ∀ k ∈ ks, ∀ k' ∈ ks, slot k = slot k' → k = k')
    (hstep : ∀ k ∈ ks, ∀ v W W', fact k v W → Below W.heap.size W W' → fact k v W') (hlt : ∀ k ∈ ks, ∀ g W, fact k (ptrB g) W → g < W.heap.size)
    (hrun : ∀ k ∈ ks, ∀ us W, S W → (∀ k' ∈ need k, fact k' (us (slot k')) W) →
      wpMix P ops S Q (fun a W' => ∃ v, a = mk (upd us (slot k) v) ∧ fact k v W' ∧ Below W.heap.size W W' ∧ ∀ g, v = ptrB g → W.heap.size ≤ g) [(ops.getD k default, fo k)] (mk us) W)
    (htail : ∀ us W, S W → (∀ k ∈ ks, fact k (us (slot k)) W) → (∀ k ∈ ks, ∀ k' ∈ ks, k ≠ k' → ∀ g, us (slot k) = ptrB g → us (slot k') ≠ ptrB g) → wpAnyH P .any ops (NoPanic Q) S f1 (setAll L ks) (mk us) W) :
    ∀ (n : Nat) (sub : List Nat) (us : Nat → Value) (W : World), leftN ks sub = n → (∀ k ∈ sub, k ∈ ks) → (∀ k ∈ sub, closedP ops (setAll L sub) k = true) → S W → (∀ k ∈ sub, fact k (us (slot k)) W) → (∀ k ∈ sub, ∀ k' ∈ sub, k ≠ k' → ∀ g, us (slot k) = ptrB g → us (slot k') ≠ ptrB g) →
      wpAnyH P .any ops (NoPanic Q) S (n + f1) (setAll L sub) (mk us) W
  | 0, sub, us, W, hn, hsub, _, hS, hf, ha => by
    have hall := leftN_zero ks sub hn
    rw [List.all_eq_true] at hall
    have hm : ∀ k ∈ ks, k ∈ sub := fun k hk => by simpa using hall k hk
    rw [setAll_same L sub ks (fun i => by
      by_cases hi : i ∈ sub
      · rw [List.contains_iff_mem.2 hi, List.contains_iff_mem.2 (hsub i hi)]
      · have hi' : i ∉ ks := fun h => hi (hm i h)
        rw [Bool.eq_false_iff.2 (fun h => hi (List.contains_iff_mem.1 h)), Bool.eq_false_iff.2 (fun h => hi' (List.contains_iff_mem.1 h))]), Nat.zero_add]
    exact htail us W hS (fun k hk => hf k (hm k hk)) (fun k hk k' hk' => ha k (hm k hk) k' (hm k' hk'))
  | n + 1, sub, us, W, hn, hsub, hcl, hS, hf, ha => by
    have hok' := hok
    unfold makersOkF at hok'
    rw [Bool.and_eq_true] at hok'
    obtain ⟨hsel, hok'⟩ := hok'
    rw [List.all_eq_true] at hok'
    have hc := hok' _ (filter_subs (fun k => sub.contains k) ks)
    have hse : ∀ i, (ks.filter fun k => sub.contains k).contains i = sub.contains i := fun i => by
      by_cases hi : i ∈ sub
      · rw [List.contains_iff_mem.2 hi, List.contains_iff_mem.2 (List.mem_filter.2 ⟨hsub i hi, List.contains_iff_mem.2 hi⟩)]
      · rw [Bool.eq_false_iff.2 (fun h => hi (List.contains_iff_mem.1 h)), Bool.eq_false_iff.2 (fun h => hi (List.contains_iff_mem.1 (List.mem_filter.1 (List.contains_iff_mem.1 h)).2))]
    rw [setAll_same L _ sub hse] at hc
    have hnall : ks.all (ks.filter fun k => sub.contains k).contains = false := by
      rw [Bool.eq_false_iff]
      intro h
      rw [List.all_eq_true] at h
      unfold leftN at hn
      have h0 : (ks.filter fun k => !sub.contains k) = [] := List.filter_eq_nil_iff.2 fun k hk => by
        have := h k hk
        rw [hse] at this
        simp [List.contains_iff_mem.1 this]
      rw [h0] at hn
      cases hn
    have hclf : ((ks.filter fun k => sub.contains k).all fun k => closedP ops (setAll L sub) k) = true := by
      rw [List.all_eq_true]
      exact fun k hk => hcl k (List.contains_iff_mem.1 (List.mem_filter.1 hk).2)
    rw [hnall, hclf, Bool.not_true, Bool.or_false, Bool.false_or] at hc
    have gen : ∀ k ∈ ks, k ∈ Region.ready .any ops (setAll L sub) → (∀ v W', S W' → fact k v W' → Below W.heap.size W W' → (∀ g, v = ptrB g → W.heap.size ≤ g) → wpAnyH P .any ops (NoPanic Q) S (n + f1) (setAll L (k :: sub)) (mk (upd us (slot k) v)) W') := fun k hks hk => by
      obtain ⟨hun, ok, hoi, hed⟩ := mem_ready.1 hk
      have hget : ops.getD k default = ok := by simp [hoi]
      have hkn : sub.contains k = false := by
        by_cases hkL : k < L.size
        · have := setAll_get L k hkL sub
          rw [Array.getD_eq_getD_getElem?, this] at hun
          simp only [Option.getD_some, Bool.or_eq_false_iff] at hun
          exact hun.2
        · rw [Array.getD_eq_getD_getElem?, Array.getElem?_eq_none (by rw [size_setAll]; omega)] at hun
          cases hun
      intro v W' hS' hv hb hg
      have hother : ∀ k' ∈ sub, upd us (slot k) v (slot k') = us (slot k') := fun k' hk'' => upd_other _ _ _ _ (fun e => by
        have := hslot k' (hsub k' hk'') k hks e
        subst this
        rw [List.contains_iff_mem.2 hk''] at hkn
        cases hkn)
      refine wpAnyH_makersF0 mk L ks need slot fact f1 fo hok hnd hslot hstep hlt hrun htail n (k :: sub) _ W' (by have := leftN_cons sub k hkn ks hnd hks; omega) ?_ ?_ hS' ?_ ?_
      · intro k' hk''
        rcases List.mem_cons.1 hk'' with rfl | hk''
        · exact hks
        · exact hsub k' hk''
      · intro k' hk''
        refine closedP_step ops (setAll L sub) k k' ?_
        rcases List.mem_cons.1 hk'' with rfl | hk''
        · unfold closedP
          rw [hget, List.all_eq_true]
          intro e he
          by_cases hb : Region.binds .any e = true
          · rw [hed e (by simpa using he) hb]; simp
          · simp [hb]
        · exact hcl k' hk''
      · intro k' hk''
        rcases List.mem_cons.1 hk'' with rfl | hk''
        · rw [upd_same]; exact hv
        · rw [hother k' hk'']; exact hstep k' (hsub k' hk'') _ _ _ (hf k' hk'') hb
      · intro k1 m1 k2 m2 hne' g hp hq
        rcases List.mem_cons.1 m1 with e1 | h1
        · rw [e1, upd_same] at hp
          rcases List.mem_cons.1 m2 with e2 | h2
          · exact hne' (e1.trans e2.symm)
          · rw [hother k2 h2] at hq
            have := hf k2 h2
            rw [hq] at this
            have := hlt k2 (hsub k2 h2) _ _ this
            have := hg g hp
            omega
        · rw [hother k1 h1] at hp
          rcases List.mem_cons.1 m2 with e2 | h2
          · rw [e2, upd_same] at hq
            have := hf k1 h1
            rw [hp] at this
            have := hlt k1 (hsub k1 h1) _ _ this
            have := hg g hq
            omega
          · rw [hother k2 h2] at hq
            exact ha k1 h1 k2 h2 hne' g hp hq
    cases hfd : ks.find? (fun k => fo k && !(ks.filter fun k => sub.contains k).contains k && (Region.ready .any ops (setAll L sub)).contains k && Region.free .any ops (setAll L sub) k) with
    | some k =>
      rw [hfd] at hc
      have hks := List.mem_of_find?_eq_some hfd
      have hpk := List.find?_some hfd
      simp only [Bool.and_eq_true] at hpk
      obtain ⟨⟨⟨hfo, _⟩, hrd⟩, hfree⟩ := hpk
      have hk : k ∈ Region.ready .any ops (setAll L sub) := List.contains_iff_mem.1 hrd
      have hc : (need k).all (ks.filter fun k => sub.contains k).contains = true := hc
      rw [List.all_eq_true] at hc
      have hr := (hrun k hks us W hS (fun k' hk'' => hf k' (by
        have := hc k' hk''
        rw [hse] at this
        exact List.contains_iff_mem.1 this))).out
      rw [hfo] at hr
      have key := gen k hks hk
      rw [show n + 1 + f1 = [(k, true)].length + (n + f1) by simp; omega]
      refine wpAnyH_pre0 hsel (n + f1) (setAll L (k :: sub)) [(k, true)] (setAll L sub) (mk us) W ?_ hS ?_
      · simp only [mixTo, hrd, hfree, Bool.and_self, if_true]
        rfl
      · simp only [List.map_cons, List.map_nil, wpMix0] at hr ⊢
        split
        · rename_i hw
          rw [if_pos hw] at hr
          obtain ⟨v, hv, v', ha', h1, h2, h3⟩ := hr
          exact ⟨v, hv, fun hs => by rw [ha']; exact key v' W hs h1 h2 h3⟩
        · rename_i hw
          rw [if_neg hw] at hr
          obtain ⟨v', ha', h1, h2, h3⟩ := hr
          exact fun hs => by rw [ha']; exact key v' W hs h1 h2 h3
    | none =>
      rw [hfd] at hc
      have hc : (!(Region.ready .any ops (setAll L sub)).isEmpty && (Region.ready .any ops (setAll L sub)).all fun k => ks.contains k && !fo k && (need k).all (ks.filter fun k => sub.contains k).contains) = true := hc
      rw [Bool.and_eq_true] at hc
      obtain ⟨hne, hrd⟩ := hc
      rw [List.all_eq_true] at hrd
      rw [show n + 1 + f1 = n + f1 + 1 by omega]
      refine ⟨fun h0 => (by rw [h0] at hne; cases hne), fun k hk => ?_⟩
      have hk' := hrd k hk
      rw [Bool.and_eq_true, Bool.and_eq_true, List.contains_iff_mem] at hk'
      obtain ⟨⟨hks, hfo⟩, hnd'⟩ := hk'
      have hfo : fo k = false := by simpa using hfo
      rw [List.all_eq_true] at hnd'
      obtain ⟨hun, ok, hoi, hed⟩ := mem_ready.1 hk
      have hget : ops.getD k default = ok := by simp [hoi]
      have key := gen k hks hk
      have hr := (hrun k hks us W hS (fun k' hk'' => hf k' (by
        have := hnd' k' hk''
        rw [hse] at this
        exact List.contains_iff_mem.1 this))).out
      rw [hfo] at hr
      simp only [wpMix0, hget] at hr
      unfold wpOp
      simp only [hoi]
      show (if Region.wanted ok (yielded ops (mk us).tmps) = true then _ else _)
      by_cases hw : Region.wanted ok (yielded ops (mk us).tmps) = true
      · rw [if_pos hw] at hr ⊢
        refine .inl (Oper.wp_mono (fun a' w' hh => ?_) hr)
        obtain ⟨g1, v, rfl, h1, h2, h3⟩ := hh
        exact ⟨g1, key v w' g1 h1 h2 h3⟩
      · rw [if_neg hw] at hr ⊢
        obtain ⟨v, ha', h1, h2, h3⟩ := hr
        rw [ha']
        exact ⟨hS, key v W hS h1 h2 h3⟩
end
theorem wpAnyH_manyF {P : Program} {ops : Array Oper} {Q : Exit → Act → World → Prop} {S : World → Prop} (ks : List Nat) (need : Nat → List Nat) (fo : Nat → Bool) (slot : Nat → Nat) (fc : Nat → Fc) (slots : List Nat) (f1 : Nat) {L : Array Bool} {a : Act} {W : World} (us0 : Nat → Value)
    (hok : makersOkF ops L ks need fo = true) (hnd : ks.Nodup) (hslot : ∀ k ∈ ks, ∀ k' ∈ ks, slot k = slot k' → k = k') (h0 : putAll a us0 slots = a) (hS : S W)
    (hrun : ∀ k ∈ ks, ∀ us W, S W → (∀ k' ∈ need k, (fc k').ok (us (slot k')) W) →
      wpMix P ops S Q (fun a' W' => ∃ v, a' = putAll a (upd us (slot k) v) slots ∧ (fc k).ok v W' ∧ Below W.heap.size W W' ∧ ∀ g, v = ptrB g → W.heap.size ≤ g) [(ops.getD k default, fo k)] (putAll a us slots) W)
    (htail : ∀ us W, S W → (∀ k ∈ ks, (fc k).ok (us (slot k)) W) → (∀ k ∈ ks, ∀ k' ∈ ks, k ≠ k' → ∀ g, us (slot k) = ptrB g → us (slot k') ≠ ptrB g) → wpAnyH P .any ops (NoPanic Q) S f1 (setAll L ks) (putAll a us slots) W) :
    wpAnyH P .any ops (NoPanic Q) S (leftN ks [] + f1) L a W := by
  have := wpAnyH_makersF0 (P := P) (Q := Q) (S := S) (fun us => putAll a us slots) L ks need slot (fun k => (fc k).ok) f1 fo hok hnd hslot (fun k _ => (fc k).step) (fun k _ => (fc k).lt) hrun htail _ [] us0 W rfl (fun k h => by cases h) (fun k h => by cases h) hS (fun k h => by cases h) (fun k h => by cases h)
  have e : putAll a us0 slots = a := h0
  simp only [e] at this
  exact this
end Go.Proofs.Ytonidnfgneokbaa
/- As MixT, where what is waited for lies farther back. No program in sight. -/
namespace Go.Proofs.Ytonidnfgneokbaa
open Go

section
variable {P : Program} {ops : Array Oper} {Q : Exit → Act → World → Prop} {md : Region.Mode} {S : World → Prop} {k : Nat}
def waitsT7 (md : Region.Mode) (ops : Array Oper) (k i : Nat) : Bool := waitsF md ops 6 k i
theorem waitsT_spec7 {listed : Array Bool} {j i : Nat} {oj : Oper} (hcl : Cl md ops listed) (hoj : ops[j]? = some oj) (hall : ∀ e ∈ oj.after, Region.binds md e = true → listed.getD e.on false = true) (h : waitsT7 md ops j i = true) : listed.getD i false = true :=
  waitsF_spec hcl 6 j oj hoj hall h

theorem wpAnyT_first7 {i : Nat} {oi : Oper} {v : Value} (hi : ops[i]? = some oi) (hsel : ∀ (j : Nat) (o : Oper) cs b, ops[j]? = some o → o.op ≠ .select cs b) (hw : ∀ j, k ≤ j → j < ops.size → waitsT7 md ops j i = true)
    (hQ : ∀ c a w, Q (.panic c) (a.put oi.dst v) w → Q (.panic c) a w) :
    ∀ (fuel : Nat) (listed : Array Bool) (a : Act) (w : World), Cl md ops listed →
      (∀ j oj, ops[j]? = some oj → j ≠ i → listed.getD j true = false → (∀ e ∈ oj.after, Region.binds md e = true → e.on ≠ i) → oi.apart ops oj = true) →
      i ∈ Region.ready md ops listed → YieldsIf P ops S oi v a → S w →
      wpAnyT P md ops Q S k fuel (listed.setIfInBounds i true) (a.put oi.dst v) w → wpAnyT P md ops Q S k (fuel + 1) listed a w := by
  intro fuel
  induction fuel with
  | zero =>
    intro listed a w _ _ hr hy hS H
    refine ⟨fun h => (by rw [h] at hr; cases hr), fun j hj => ?_⟩
    by_cases hji : j = i
    · subst hji; exact hy.wpOp hi hS ⟨fun _ => hS, H⟩
    · have := ready_mono hj hji
      rw [H.1] at this
      cases this
  | succ fuel ih =>
    intro listed a w hcl hfree hr hy hS H
    refine ⟨fun h => (by rw [h] at hr; cases hr), fun j hj => ?_⟩
    by_cases hji : j = i
    · subst hji; exact hy.wpOp hi hS ⟨fun _ => hS, H⟩
    · have h1 := H.2 j (ready_mono hj hji)
      obtain ⟨hjun, oj, hoj, hall⟩ := mem_ready.1 hj
      have hnot : ∀ e ∈ oj.after, Region.binds md e = true → e.on ≠ i := fun e he hb heq => by
        have h1 := hall e he hb
        have h0 := (mem_ready.1 hr).1
        rw [heq] at h1
        rcases Nat.lt_or_ge i listed.size with h' | h'
        · simp [h'] at h0 h1; rw [h0] at h1; cases h1
        · simp [Array.getElem?_eq_none h'] at h1
      have hjk : j < k := by
        rcases Nat.lt_or_ge j k with h' | h'
        · exact h'
        · exfalso
          have hl := waitsT_spec7 hcl hoj hall (hw j h' (Array.getElem?_eq_some_iff.1 hoj).1)
          have h0 := (mem_ready.1 hr).1
          rcases Nat.lt_or_ge i listed.size with h' | h'
          · simp [h'] at h0 hl; rw [h0] at hl; cases hl
          · simp [Array.getElem?_eq_none h'] at hl
      have h2 := wpOp_putIf hoj (hfree j oj hoj hji hjun hnot) (fun cs b => hsel i oi cs b hi) (fun cs b => hsel j oj cs b hoj) hQ hy h1
      have hfree' : ∀ m ok, ops[m]? = some ok → m ≠ i → (listed.setIfInBounds j true).getD m true = false →
          (∀ e ∈ ok.after, Region.binds md e = true → e.on ≠ i) → oi.apart ops ok = true := fun m ok hm hmi hun hno => by
        refine hfree m ok hm hmi ?_ hno
        by_cases hjm : j = m
        · subst hjm; exact hjun
        · rw [getD_set_ne true hjm] at hun; exact hun
      refine wpOp_mono (fun a' w' h3 => ⟨fun _ => h3.2.1 hjk, ih (listed.setIfInBounds j true) a' w' (hcl.put hj) hfree' (ready_mono hr (Ne.symm hji)) h3.1 (h3.2.1 hjk) ?_⟩) h2
      rw [Array.setIfInBounds_comm _ _ hji]
      exact h3.2.2

theorem wpAnyT_pre7 (hsel : Region.noSelect ops = true) (f : Nat) (listed' : Array Bool) : ∀ (l : List (Nat × Bool)) (listed : Array Bool) (a : Act) (w : World), mixTo ops l listed = some listed' →
    (l.all fun x => (decide (x.1 < k)) && (!x.2 || ((List.range ops.size).all fun j => decide (j < k) || waitsT7 .any ops j x.1))) = true → Cl .any ops listed → S w →
    wpMix0 P ops S Q (fun a w => S w → wpAnyT P .any ops (NoPanic Q) S k f listed' a w) (l.map fun x => (ops.getD x.1 default, x.2)) a w → wpAnyT P .any ops (NoPanic Q) S k (l.length + f) listed a w
  | [], listed, a, w, hB, _, _, hS, h => by
    simp only [mixTo, Option.some.injEq] at hB
    subst hB
    simpa using h hS
  | (i, true) :: l, listed, a, w, hB, hall, hcl, hS, h => by
    simp only [List.all_cons, Bool.and_eq_true, Bool.not_true, Bool.false_or] at hall
    simp only [mixTo] at hB
    split at hB
    case isFalse => cases hB
    rename_i hB0
    simp only [Bool.and_eq_true] at hB0
    obtain ⟨hr, hf⟩ := hB0
    have hr' : i ∈ Region.ready .any ops listed := by simpa using hr
    obtain ⟨_, oi, hoi, _⟩ := mem_ready.1 hr'
    have hget : ops.getD i default = oi := by simp [hoi]
    simp only [List.map_cons, wpMix0, hget] at h
    have hy : ∃ v, YieldsIf P ops S oi v a ∧ wpMix0 P ops S Q (fun a w => S w → wpAnyT P .any ops (NoPanic Q) S k f listed' a w) (l.map fun x => (ops.getD x.1 default, x.2)) (a.put oi.dst v) w := by
      by_cases hw : Region.wanted oi (yielded ops a.tmps) = true
      · rw [if_pos hw] at h
        obtain ⟨v, h1, h2⟩ := h
        exact ⟨v, .inl ⟨hw, fun w' hw' => h1 ⟨w', hw'⟩⟩, h2⟩
      · rw [if_neg hw] at h
        exact ⟨undef, .inr ⟨by simpa using hw, rfl⟩, h⟩
    obtain ⟨v, hy, h2⟩ := hy
    have := wpAnyT_first7 hoi (Region.noSelect_spec hsel) (fun j hkj hj => by have := List.all_eq_true.1 hall.1.2 j (List.mem_range.2 hj); simp only [Bool.or_eq_true, decide_eq_true_eq] at this; rcases this with h' | h'; exact absurd h' (by omega); exact h') (fun _ _ _ hp => hp) (l.length + f) listed a w hcl (Region.free_spec hoi hf) hr' hy hS
      (wpAnyT_pre7 hsel f listed' l _ _ w hB hall.2 (hcl.put hr') hS h2)
    rw [List.length_cons, show l.length + 1 + f = l.length + f + 1 by omega]
    exact this
  | (i, false) :: l, listed, a, w, hB, hall, hcl, hS, h => by
    simp only [List.all_cons, Bool.and_eq_true] at hall
    simp only [mixTo] at hB
    split at hB
    case isFalse => cases hB
    rename_i hB0
    have hr : Region.ready .any ops listed = [i] := by simpa using hB0
    have hr' : i ∈ Region.ready .any ops listed := by rw [hr]; simp
    obtain ⟨_, oi, hoi, _⟩ := mem_ready.1 hr'
    have hget : ops.getD i default = oi := by simp [hoi]
    simp only [List.map_cons, wpMix0, hget] at h
    rw [List.length_cons, show l.length + 1 + f = l.length + f + 1 by omega]
    refine ⟨fun h0 => (by rw [h0] at hr; cases hr), fun j hj => ?_⟩
    rw [hr] at hj
    obtain rfl : j = i := by simpa using hj
    unfold wpOp
    simp only [hoi]
    by_cases hw : Region.wanted oi (yielded ops a.tmps) = true
    · rw [if_pos hw] at h ⊢
      exact .inl (Oper.wp_mono (fun a' w' ⟨h1, h2⟩ => ⟨fun _ => h1, wpAnyT_pre7 hsel f listed' l _ a' w' hB hall.2 (hcl.put hr') h1 h2⟩) h)
    · rw [if_neg hw] at h ⊢
      exact ⟨fun _ => hS, wpAnyT_pre7 hsel f listed' l _ _ w hB hall.2 (hcl.put hr') hS h⟩
end


def mixTailOk7 (l : List Oper) (n : Nat) (order : List (Nat × Bool)) : Bool :=
  Region.noSelect l.toArray && (order.length == n) && (decide (n ≤ l.length)) && (order.all fun x => (decide (x.1 < n)) && (!x.2 || ((List.range l.toArray.size).all fun j => decide (j < n) || waitsT7 .any l.toArray j x.1))) &&
    ((mixTo l.toArray order (Array.replicate l.length false)).map fun x => tailOk l.toArray (l.length - n) n x).getD false
theorem wpAny_mix_tail7 {P : Program} {Q : Exit → Act → World → Prop} {a : Act} {w : World} {l : List Oper} (S : World → Prop) (n : Nat) (order : List (Nat × Bool)) (hB : mixTailOk7 l n order = true) (hS : S w.drew)
    (h : Nonempty (InC S) → wpMix0 P l.toArray S Q (fun a w => S w → wpList P l.toArray (NoPanic Q) (l.drop n) a w) (order.map fun x => (l.toArray.getD x.1 default, x.2)) a w.drew) :
    wpAny P .any l.toArray (NoPanic Q) l.length (Array.replicate l.length false) a w.drew := by
  unfold mixTailOk7 at hB
  simp only [Bool.and_eq_true, beq_iff_eq, decide_eq_true_eq] at hB
  obtain ⟨⟨⟨⟨hsel, hlen⟩, hn⟩, hall⟩, hmix⟩ := hB
  cases hx : mixTo l.toArray order (Array.replicate l.length false) with
  | none => rw [hx] at hmix; cases hmix
  | some listed' =>
    rw [hx] at hmix
    simp only [Option.map_some, Option.getD_some] at hmix
    have := wpAnyT_pre7 (P := P) (Q := Q) (S := S) (k := n) hsel (l.length - n) listed' order (Array.replicate l.length false) a w.drew hx hall (fun m om hm hl => by simp only [Array.getD_eq_getD_getElem?, Array.getElem?_replicate] at hl; split at hl <;> cases hl) hS
      (wpMix0_mono _ _ _ (fun a' w' h' hs => wpAnyT_tail _ n _ _ _ (Nat.le_refl _) (by omega) hmix (h' hs)) _ _ (h ⟨⟨_, hS⟩⟩))
    have := wpAny_of_T _ _ _ _ this
    rwa [hlen, show n + (l.length - n) = l.length by omega] at this
theorem wp_region_mix_tail7 {P : Program} {id : Nat} {Q : Exit → Act → World → Prop} {a : Act} {w : World} {l : List Oper} (S : World → Prop) (n : Nat) (order : List (Nat × Bool)) (hm : P.follows .mixedOrders = true) (hB : mixTailOk7 l n order = true) (hS : S w.drew)
    (h : Nonempty (InC S) → wpMix P l.toArray S Q (fun a w => S w → wpList P l.toArray (NoPanic Q) (l.drop n) a w) (order.map fun x => (l.toArray.getD x.1 default, x.2)) a w.drew) : (Code.region id l.toArray true).wp P Q a w := by
  refine Code.wp_mono (Q := NoPanic Q) NoPanic.imp (wp_region_any hm ?_)
  have := wpAny_mix_tail7 S n order hB hS fun hne => (h hne).out
  simpa using this
theorem wpIn_region_mix_tail7 {P : Program} {id : Nat} {Q : Exit → Act → World → Prop} {a : Act} {w : World} {l : List Oper} {F : Fence} {m : Nat} (hF : Fence.Open F) (hnd : noDefer l = true) (hout : ∀ a w, ¬ Q .outgrown a w) (S : World → Prop) (n : Nat) (order : List (Nat × Bool)) (hm : P.follows .mixedOrders = true) (hB : mixTailOk7 l n order = true) (hS : S w.drew)
    (h : Nonempty (InC S) → wpMix P l.toArray S Q (fun a w => S w → wpList P l.toArray (NoPanic Q) (l.drop n) a w) (order.map fun x => (l.toArray.getD x.1 default, x.2)) a w.drew) : (Code.region id l.toArray true).wpIn F m P Q a w := by
  refine wpIn_mono (Q := NoPanic Q) (wpIn_region_any hm (wpAnyIn_of_any hF (by simpa using hnd) hout _ _ _ _ ?_)) NoPanic.imp
  have := wpAny_mix_tail7 S n order hB hS fun hne => (h hne).out
  simpa using this
end Go.Proofs.Ytonidnfgneokbaa
