/- Two lists with one root (plain). -/
import Derived.Test.YtonidnfgneokbaaQd130
namespace Go.Proofs.Ytonidnfgneokbaa
open Go

abbrev rtsA (H : Hf) (a : List (List UInt8)) : PairV := (rootA H (a.take (splitN a.length)), rootA H (a.drop (splitN a.length)))
/-- where two lists of one length are unlike, from the root down -/
def downF (H : Hf) : Nat → List (List UInt8) → List (List UInt8) → PairV
  | 0, a, b => (leafD (a.getD 0 []), leafD (b.getD 0 []))
  | f + 1, a, b => if a.length = 1 then (leafD (a.getD 0 []), leafD (b.getD 0 [])) else if rtsA H a ≠ rtsA H b then (nodeD (rtsA H a), nodeD (rtsA H b))
    else if a.take (splitN a.length) = b.take (splitN a.length) then downF H f (a.drop (splitN a.length)) (b.drop (splitN a.length)) else downF H f (a.take (splitN a.length)) (b.take (splitN a.length))
def downL (H : Hf) (a b : List (List UInt8)) : PairV := downF H a.length a b
theorem downF_s (H : Hf) (f : Nat) (a b : List (List UInt8)) : downF H (f + 1) a b = if a.length = 1 then (leafD (a.getD 0 []), leafD (b.getD 0 [])) else if rtsA H a ≠ rtsA H b then (nodeD (rtsA H a), nodeD (rtsA H b))
    else if a.take (splitN a.length) = b.take (splitN a.length) then downF H f (a.drop (splitN a.length)) (b.drop (splitN a.length)) else downF H f (a.take (splitN a.length)) (b.take (splitN a.length)) := rfl
theorem downF_enough (H : Hf) : ∀ (f g : Nat) (a b : List (List UInt8)), a.length ≤ f → a.length ≤ g → 1 ≤ a.length → downF H f a b = downF H g a b
  | 0, _, _, _, h, _, h1 => by omega
  | _, 0, _, _, _, h, h1 => by omega
  | f + 1, g + 1, a, b, h, h', h1 => by
    rw [downF_s, downF_s]
    by_cases hn : a.length = 1
    · rw [if_pos hn, if_pos hn]
    · have hl := splitN_lt a.length (by omega)
      have hp := splitN_pos a.length (by omega)
      rw [if_neg hn, if_neg hn, downF_enough H f g (a.drop _) (b.drop _) (by rw [List.length_drop]; omega) (by rw [List.length_drop]; omega) (by rw [List.length_drop]; omega), downF_enough H f g (a.take _) (b.take _) (by rw [List.length_take]; omega) (by rw [List.length_take]; omega) (by rw [List.length_take]; omega)]
theorem downL_one (H : Hf) (a b : List (List UInt8)) (h : a.length = 1) : downL H a b = (leafD (a.getD 0 []), leafD (b.getD 0 [])) := by
  unfold downL
  rw [h]
  show downF H (0 + 1) a b = _
  rw [downF_s, if_pos h]
theorem downL_more (H : Hf) (a b : List (List UInt8)) (h : 2 ≤ a.length) : downL H a b = if rtsA H a ≠ rtsA H b then (nodeD (rtsA H a), nodeD (rtsA H b))
    else if a.take (splitN a.length) = b.take (splitN a.length) then downL H (a.drop (splitN a.length)) (b.drop (splitN a.length)) else downL H (a.take (splitN a.length)) (b.take (splitN a.length)) := by
  have hl := splitN_lt a.length h
  have hp := splitN_pos a.length h
  unfold downL
  obtain ⟨f, hf⟩ : ∃ f, a.length = f + 1 := ⟨a.length - 1, by omega⟩
  have e : downF H a.length a b = downF H (f + 1) a b := by rw [← hf]
  rw [e, downF_s, if_neg (by omega), downF_enough H f (a.drop (splitN a.length)).length (a.drop _) (b.drop _) (by rw [List.length_drop]; omega) (Nat.le_refl _) (by rw [List.length_drop]; omega), downF_enough H f (a.take (splitN a.length)).length (a.take _) (b.take _) (by rw [List.length_take]; omega) (Nat.le_refl _) (by rw [List.length_take]; omega)]
/-- the answer to two lists -/
def listsC (H : Hf) (a b : List (List UInt8)) : PairV × Int :=
  if bigD a = true ∨ bigD b = true then (noC, 2) else if a.length ≠ b.length ∨ rootA H a ≠ rootA H b then (noC, 230) else if a = b then (noC, 231) else (downL H a b, 0)
theorem downL_is (H : Hf) (hH : ∀ l, (H l).length = 32) (n : Nat) : ∀ a b : List (List UInt8), a.length ≤ n → 1 ≤ a.length → a.length = b.length → rootA H a = rootA H b → a ≠ b → isC H (downL H a b) = true := by
  induction n with
  | zero => intro a b h h1; omega
  | succ n ih =>
    intro a b h h1 he hr hne
    by_cases hn : a.length = 1
    · rw [downL_one H a b hn]
      obtain ⟨x, rfl⟩ := List.length_eq_one_iff.1 hn
      obtain ⟨y, rfl⟩ := List.length_eq_one_iff.1 (he.symm.trans hn)
      rw [rootA_one H _ rfl, rootA_one H _ rfl] at hr
      exact isC_of H _ (fun e => hne (by rw [show x = y from leafD_inj e])) hr
    · have h2 : 2 ≤ a.length := by omega
      have hl := splitN_lt a.length h2
      have hp := splitN_pos a.length h2
      rw [downL_more H a b h2]
      rw [rootA_more H a h2, rootA_more H b (by omega), ← he] at hr
      have hb : rtsA H b = (rootA H (b.take (splitN a.length)), rootA H (b.drop (splitN a.length))) := by unfold rtsA; rw [← he]
      by_cases hq : rtsA H a ≠ rtsA H b
      · rw [if_pos hq]
        refine isC_of H _ (fun e => hq (nodeD_inj (length_rootA H hH _) (length_rootA H hH _) e)) ?_
        show H (nodeD (rtsA H a)) = H (nodeD (rtsA H b))
        rw [hb]
        exact hr
      · rw [if_neg hq]
        have hq : rtsA H a = rtsA H b := Decidable.not_not.1 hq
        rw [hb] at hq
        have e1 := congrArg Prod.fst hq
        have e2 := congrArg Prod.snd hq
        by_cases ht : a.take (splitN a.length) = b.take (splitN a.length)
        · rw [if_pos ht]
          refine ih _ _ (by rw [List.length_drop]; omega) (by rw [List.length_drop]; omega) (by rw [List.length_drop, List.length_drop, he]) e2 fun e => hne ?_
          rw [← List.take_append_drop (splitN a.length) a, ← List.take_append_drop (splitN a.length) b, ht, e]
        · rw [if_neg ht]
          exact ih _ _ (by rw [List.length_take]; omega) (by rw [List.length_take]; omega) (by rw [List.length_take, List.length_take, he]) e1 ht
theorem listsC_is (H : Hf) (hH : ∀ l, (H l).length = 32) (a b : List (List UInt8)) (h : (listsC H a b).2 = 0) : isC H (listsC H a b).1 = true := by
  unfold listsC at h ⊢
  split at h
  · cases h
  rename_i h1
  rw [if_neg h1]
  split at h
  · cases h
  rename_i h2
  rw [if_neg h2]
  split at h
  · cases h
  rename_i h3
  rw [if_neg h3]
  rw [not_or] at h2
  have hl : a.length = b.length := Decidable.not_not.1 h2.1
  refine downL_is H hH a.length a b (Nat.le_refl _) ?_ hl (Decidable.not_not.1 h2.2) h3
  rcases Nat.eq_zero_or_pos a.length with e | e
  · exact absurd ((List.length_eq_zero_iff.1 e).trans (List.length_eq_zero_iff.1 (hl.symm.trans e)).symm) h3
  · exact e
theorem downF_len (H : Hf) (hH : ∀ l, (H l).length = 32) : ∀ (f : Nat) (a b : List (List UInt8)), (∀ x ∈ a, x.length ≤ 4096) → (∀ x ∈ b, x.length ≤ 4096) → (downF H f a b).1.length ≤ 4097 ∧ (downF H f a b).2.length ≤ 4097
  | f, a, b, ha, hb => by
    have hleaf : ∀ l : List (List UInt8), (∀ x ∈ l, x.length ≤ 4096) → (leafD (l.getD 0 [])).length ≤ 4097 := fun l hl => by
      have : (l.getD 0 []).length ≤ 4096 := by
        rw [List.getD_eq_getElem?_getD]
        cases hr : l[0]? with
        | none => simp
        | some x => exact hl x (List.mem_of_getElem? hr)
      simp only [leafD, List.length_cons]; omega
    have hnode : ∀ l : List (List UInt8), (nodeD (rtsA H l)).length ≤ 4097 := fun l => by
      simp only [nodeD, List.length_cons, List.length_append, length_rootA H hH]; omega
    cases f with
    | zero => exact ⟨hleaf a ha, hleaf b hb⟩
    | succ f =>
      rw [downF_s]
      split
      · exact ⟨hleaf a ha, hleaf b hb⟩
      split
      · exact ⟨hnode a, hnode b⟩
      split
      · exact downF_len H hH f _ _ (fun x hx => ha x (List.mem_of_mem_drop hx)) (fun x hx => hb x (List.mem_of_mem_drop hx))
      · exact downF_len H hH f _ _ (fun x hx => ha x (List.mem_of_mem_take hx)) (fun x hx => hb x (List.mem_of_mem_take hx))
theorem listsC_len (H : Hf) (hH : ∀ l, (H l).length = 32) (a b : List (List UInt8)) : (listsC H a b).1.1.length ≤ 4097 ∧ (listsC H a b).1.2.length ≤ 4097 := by
  have h0 : (noC : PairV).1.length ≤ 4097 ∧ (noC : PairV).2.length ≤ 4097 := ⟨by decide, by decide⟩
  unfold listsC
  split
  · exact h0
  rename_i h1
  rw [not_or] at h1
  split
  · exact h0
  split
  · exact h0
  exact downF_len H hH _ a b (bigD_not a (by simpa using h1.1)).2 (bigD_not b (by simpa using h1.2)).2
end Go.Proofs.Ytonidnfgneokbaa
