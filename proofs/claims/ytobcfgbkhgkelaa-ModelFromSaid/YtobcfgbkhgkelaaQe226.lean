/- For audit.Incl: operations, and its answer (plain). -/
import Derived.Test.YtobcfgbkhgkelaaQe225
namespace Go.Proofs.Ytobcfgbkhgkelaa
open Go Go.RowKit Go.Shelf
attribute [local go_sem] Oper.semAt_some

theorem below_of_grown9 {n g : Nat} {w w' : World} (h : w.grownBy w' (some g)) (hn : n ≤ g) (hsz : n ≤ w.heap.size) : Below n w w' :=
  ⟨h.os, h.tape, h.output, h.size, fun k hk => h.block k (Nat.lt_of_lt_of_le hk hsz) (fun e => by have := Option.some.inj e; omega)⟩
theorem run_eqnil (f : Nat) (W : World) : (binOp .eql 94 (hval f) .nilFunc).run Try.prog W = .ok (.bool false) W := by
  have hu : Try.prog.underlying 94 = some (.func #[22] #[26] false) := by kernel_rfl
  have heq : (Op.equalIn (9999 + 1) 94 (hval f) .nilFunc).run Try.prog W = .ok false W := by
    generalize 9999 = D
    simp only [Op.equalIn, Sem.run_bind, run_underlying hu, Result.andThen_ok, Sem.run_pure]
  have e : (binOp .eql 94 (hval f) .nilFunc).run Try.prog W = ((Op.equalIn 10000 94 (hval f) .nilFunc).run Try.prog W).andThen fun b w' => .ok (.bool b) w' := by
    simp only [binOp, Op.equal, Op.maxDepth, Sem.run_bind, Sem.run_pure]
  rw [e, show (10000 : Nat) = 9999 + 1 from rfl, heq]
  rfl
theorem run_neqnil (f : Nat) (W : World) : (binOp .neq 94 (hval f) .nilFunc).run Try.prog W = .ok (.bool true) W := by
  have hu : Try.prog.underlying 94 = some (.func #[22] #[26] false) := by kernel_rfl
  have heq : (Op.equalIn (9999 + 1) 94 (hval f) .nilFunc).run Try.prog W = .ok false W := by
    generalize 9999 = D
    simp only [Op.equalIn, Sem.run_bind, run_underlying hu, Result.andThen_ok, Sem.run_pure]
  have e : (binOp .neq 94 (hval f) .nilFunc).run Try.prog W = ((Op.equalIn 10000 94 (hval f) .nilFunc).run Try.prog W).andThen fun b w' => .ok (.bool (!b)) w' := by
    simp only [binOp, Op.equal, Op.maxDepth, Sem.run_bind, Sem.run_pure]
  rw [e, show (10000 : Nat) = 9999 + 1 from rfl, heq]
  rfl
theorem run_eqnil_op {ρ : Operand → Value} {o : Oper} {f : Nat} (x y : Operand) (ty : TypeId) (ho : o.op = .binOp .eql 94 x y ty) (hx : ρ x = hval f) (hy : ρ y = .nilFunc) (W : World) : (execOp ρ o).run Try.prog W = .ok (.value (.bool false)) W := by
  have hg : eqGuard .eql 94 x y (hval f) .nilFunc = pure () := rfl
  unfold execOp
  simp only [ho, hx, hy, hg, Sem.run_bind, Sem.run_pure, run_eqnil, Result.andThen_ok]
theorem run_neqnil_op {ρ : Operand → Value} {o : Oper} {f : Nat} (x y : Operand) (ty : TypeId) (ho : o.op = .binOp .neq 94 x y ty) (hx : ρ x = hval f) (hy : ρ y = .nilFunc) (W : World) : (execOp ρ o).run Try.prog W = .ok (.value (.bool true)) W := by
  have hg : eqGuard .neq 94 x y (hval f) .nilFunc = pure () := rfl
  unfold execOp
  simp only [ho, hx, hy, hg, Sem.run_bind, Sem.run_pure, run_neqnil, Result.andThen_ok]
theorem inclC_2 (H : Hf) (d : List (List UInt8)) (i : Int) (e : List UInt8) (pf : List (List UInt8)) (h : bigD d = true ∨ 4096 < e.length) : inclC H d i e pf = (noC, 2) := by unfold inclC; rw [if_pos h]
theorem inclC_4 (H : Hf) (d : List (List UInt8)) (i : Int) (e : List UInt8) (pf : List (List UInt8)) (h : ¬ (bigD d = true ∨ 4096 < e.length)) (h2 : i < 0 ∨ (d.length : Int) ≤ i) : inclC H d i e pf = (noC, 4) := by unfold inclC; rw [if_neg h, if_pos h2]
/-- what is shown behind a function's body, as one word (the walk does not look into it) -/
structure BP (P : Program) (fn : Func) (R : Ending → World → Prop) (ex : Exit) (a : Act) (w : World) : Prop where
  out : bodyPost P fn R ex a w
theorem lieF_sub (H : Hf) : ∀ (way : List Bool) (sd : List PairV) (d : List (List UInt8)), ∀ x ∈ (lieF H way sd d).2, x ∈ d
  | [], sd, d => by cases sd <;> exact fun x hx => hx
  | b :: way, [], d => fun x hx => hx
  | b :: way, p :: sd, d => by
    unfold lieF
    split
    · intro x hx
      have h := lieF_sub H way sd _ x hx
      split at h
      · exact List.mem_of_mem_drop h
      · exact List.mem_of_mem_take h
    · exact fun x hx => hx
def inclM (H : Hf) (way : List Bool) (sd : List PairV) (d : List (List UInt8)) (e : List UInt8) : PairV × Int :=
  match lieF H way sd d with
  | (some (p, h), _) => ((nodeD p, nodeD h), 0)
  | (none, rest) => if e = rest.getD 0 [] then (noC, 231) else ((leafD e, leafD (rest.getD 0 [])), 0)
theorem inclC_n (H : Hf) (d : List (List UInt8)) (i : Nat) (e : List UInt8) (pf : List (List UInt8)) (h : ¬ (bigD d = true ∨ 4096 < e.length)) (h2 : i < d.length) : inclC H d i e pf =
    if pf.length ≠ (wayI i d.length).length then (noC, (230 : Int)) else if atI H (wayI i d.length) pf (H (leafD e)) pf.length ≠ rootA H d then (noC, 230)
    else inclM H (wayI i d.length) (saidL H (wayI i d.length) pf (H (leafD e))) d e := by
  unfold inclC
  rw [if_neg h, if_neg (by omega), Int.toNat_natCast]
  rfl
theorem bigD_not (d : List (List UInt8)) (h : bigD d = false) : d.length ≤ 65536 ∧ ∀ x ∈ d, x.length ≤ 4096 := by
  unfold bigD at h
  rw [Bool.or_eq_false_iff] at h
  refine ⟨by simpa using h.1, fun x hx => ?_⟩
  have := List.any_eq_false.1 h.2 x hx
  simpa using this

theorem run_extract_op {P : Program} {ρ : Operand → Value} {o : Oper} (x : Operand) (k : Nat) (ho : o.op = .extract x k) (t : Array Value) (hx : ρ x = .tuple t) (v : Value) (hv : t[k]? = some v) (W : World) : (execOp ρ o).run P W = .ok (.value v) W := by
  unfold execOp
  simp only [ho, hx, Instr.extract, hv, Sem.run_bind, Sem.run_pure, Result.andThen_ok]
theorem Prs.apart {w : World} {X : Nat → Prop} {A : Option Addr} {n c : Nat} {qs : List PairV} {g : Nat} {l : List UInt8} (h : Prs w X A n c qs) (k : HV w g l) : Prs w (fun b => X b ∧ b ≠ g) A n c qs := by
  refine ⟨⟨fun hne => ?_, h.sl.len, h.sl.room, h.sl.nil, h.sl.max⟩, h.len, h.all⟩
  obtain ⟨b, o, h1, h2, h3, h4⟩ := h.sl.bs hne
  refine ⟨b, o, h1, h2, ⟨h3, fun e => ?_⟩, h4⟩
  subst e
  have hlen := prcells_len qs h.all
  have hq : 0 < qs.length := by
    rcases Nat.eq_zero_or_pos qs.length with e | e
    · rw [List.length_eq_zero_iff.1 e] at hne; exact absurd rfl hne
    · exact e
  have h5 := h4 32 _ (List.getElem?_eq_getElem (by rw [hlen]; omega))
  rw [k.blk.cell, Array.getElem?_eq_none (by simp [k.len])] at h5
  cases h5
theorem Prs.grown {w w' : World} {X : Nat → Prop} {A : Option Addr} {n c : Nat} {qs : List PairV} {row : Option Nat} (h : Prs w X A n c qs) (hg : w.grownBy w' row) (hX : ∀ b, b < w.heap.size → X b → some b ≠ row) : Prs w' X A n c qs := ⟨h.sl.grown hg hX, h.len, h.all⟩
theorem wpMix_hsetG {w : World} {ops : Array Oper} {S : World → Prop} {Q : Exit → Act → World → Prop} {R : Act → World → Prop} {l : List (Oper × Bool)} {o : Oper} {a : Act} {m m' : List UInt8} {g : Nat} (x y : Operand) (hg : o.guard = none) (ho : o.op = .store 26 x y) (k : HV w g m') (hx : a.eval x = .pointer (some ⟨g, 0, none⟩)) (hy : a.eval y = .agg (m.map B).toArray) (hl : m.length = 32) (hS : ∀ W, Below g w W → S W)
    (h : ∀ W, HV W g m → Below g w W → w.grownBy W (some g) → wpMix Try.prog ops S Q R l (a.put o.dst undef) W) : wpMix Try.prog ops S Q R ((o, false) :: l) a w := by
  have hb : Below g w (w.setRow g (m.map B).toArray) := below_setRow (Below.refl _ _) (Nat.le_refl _) _
  exact wpMix_store_blk hg 26 x y ho 32 size26 g (m.map B).toArray hx hy (by simp [hl]) (oneCell_B _) 26 _ k.blk (by simp [k.len]) (hS _ hb) (h _ ⟨k.blk.setRow_ _, hl⟩ hb (grown_setRow (grown_of_below (Below.refl _ _) _) _))
def Fc.prs (N L : Nat) (sd : List PairV) : Fc := ⟨fun v W => ∃ A c, v = .slice A L c ∧ Prs W (N ≤ ·) A L c sd, fun _ _ _ ⟨A, c, h1, h2⟩ hb => ⟨A, c, h1, h2.step hb⟩, fun g W ⟨A, c, h1, _⟩ => by cases h1⟩
def Fc.said (N L : Nat) (sd : List PairV) (x : Value) : Fc := ⟨fun v W => ∃ A c, v = .tuple #[.slice A L c, x] ∧ Prs W (N ≤ ·) A L c sd, fun _ _ _ ⟨A, c, h1, h2⟩ hb => ⟨A, c, h1, h2.step hb⟩, fun g W ⟨A, c, h1, _⟩ => by cases h1⟩

end Go.Proofs.Ytobcfgbkhgkelaa
/- Two lists with one root (plain). -/
namespace Go.Proofs.Ytobcfgbkhgkelaa
open Go

abbrev rtsA (H : Hf) (a : List (List UInt8)) : PairV := (rootA H (a.take (splitN a.length)), rootA H (a.drop (splitN a.length)))
/-- where two lists of one length are unlike, from the root down -/
def downF (H : Hf) : Nat → List (List UInt8) → List (List UInt8) → PairV
  | 0, a, b => (leafD (a.getD 0 []), leafD (b.getD 0 []))
  | f + 1, a, b => if a.length = 1 then (leafD (a.getD 0 []), leafD (b.getD 0 [])) else if rtsA H a ≠ rtsA H b then (nodeD (rtsA H a), nodeD (rtsA H b))
    else if a.take (splitN a.length) = b.take (splitN a.length) then downF H f (a.drop (splitN a.length)) (b.drop (splitN a.length)) else downF H f (a.take (splitN a.length)) (b.take (splitN a.length))
def downL (H : Hf) (a b : List (List UInt8)) : PairV := downF H a.length a b
theorem downF_s (H : Hf) (f : Nat) (a b : List (List UInt8)) : downF H (f + 1) a b = if a.length = 1 then (leafD (a.getD 0 []), leafD (b.getD 0 [])) else if rtsA H a ≠ rtsA H b then (nodeD (rtsA H a), nodeD (rtsA H b))
    else if a.take (splitN a.length) = b.take (splitN a.length) then downF H f (a.drop (splitN a.length)) (b.drop (splitN a.length)) else downF H f (a.take (splitN a.length)) (b.take (splitN a.length)) := rfl
theorem downF_enough (H : Hf) : ∀ (f g : Nat) (a b : List (List UInt8)), a.length ≤ f → a.length ≤ g → 1 ≤ a.length → downF H f a b = downF H g a b
  | 0, _, _, _, h, _, h1 => by omega
  | _, 0, _, _, _, h, h1 => by omega
  | f + 1, g + 1, a, b, h, h', h1 => by
    rw [downF_s, downF_s]
    by_cases hn : a.length = 1
    · rw [if_pos hn, if_pos hn]
    · have hl := splitN_lt a.length (by omega)
      have hp := splitN_pos a.length (by omega)
      rw [if_neg hn, if_neg hn, downF_enough H f g (a.drop _) (b.drop _) (by rw [List.length_drop]; omega) (by rw [List.length_drop]; omega) (by rw [List.length_drop]; omega), downF_enough H f g (a.take _) (b.take _) (by rw [List.length_take]; omega) (by rw [List.length_take]; omega) (by rw [List.length_take]; omega)]
theorem downL_one (H : Hf) (a b : List (List UInt8)) (h : a.length = 1) : downL H a b = (leafD (a.getD 0 []), leafD (b.getD 0 [])) := by
  unfold downL
  rw [h]
  show downF H (0 + 1) a b = _
  rw [downF_s, if_pos h]
theorem downL_more (H : Hf) (a b : List (List UInt8)) (h : 2 ≤ a.length) : downL H a b = if rtsA H a ≠ rtsA H b then (nodeD (rtsA H a), nodeD (rtsA H b))
    else if a.take (splitN a.length) = b.take (splitN a.length) then downL H (a.drop (splitN a.length)) (b.drop (splitN a.length)) else downL H (a.take (splitN a.length)) (b.take (splitN a.length)) := by
  have hl := splitN_lt a.length h
  have hp := splitN_pos a.length h
  unfold downL
  obtain ⟨f, hf⟩ : ∃ f, a.length = f + 1 := ⟨a.length - 1, by omega⟩
  have e : downF H a.length a b = downF H (f + 1) a b := by rw [← hf]
  rw [e, downF_s, if_neg (by omega), downF_enough H f (a.drop (splitN a.length)).length (a.drop _) (b.drop _) (by rw [List.length_drop]; omega) (Nat.le_refl _) (by rw [List.length_drop]; omega), downF_enough H f (a.take (splitN a.length)).length (a.take _) (b.take _) (by rw [List.length_take]; omega) (Nat.le_refl _) (by rw [List.length_take]; omega)]
/-- the answer to two lists -/
def listsC (H : Hf) (a b : List (List UInt8)) : PairV × Int :=
  if bigD a = true ∨ bigD b = true then (noC, 2) else if a.length ≠ b.length ∨ rootA H a ≠ rootA H b then (noC, 230) else if a = b then (noC, 231) else (downL H a b, 0)
theorem downL_is (H : Hf) (hH : ∀ l, (H l).length = 32) (n : Nat) : ∀ a b : List (List UInt8), a.length ≤ n → 1 ≤ a.length → a.length = b.length → rootA H a = rootA H b → a ≠ b → isC H (downL H a b) = true := by
  induction n with
  | zero => intro a b h h1; omega
  | succ n ih =>
    intro a b h h1 he hr hne
    by_cases hn : a.length = 1
    · rw [downL_one H a b hn]
      obtain ⟨x, rfl⟩ := List.length_eq_one_iff.1 hn
      obtain ⟨y, rfl⟩ := List.length_eq_one_iff.1 (he.symm.trans hn)
      rw [rootA_one H _ rfl, rootA_one H _ rfl] at hr
      exact isC_of H _ (fun e => hne (by rw [show x = y from leafD_inj e])) hr
    · have h2 : 2 ≤ a.length := by omega
      have hl := splitN_lt a.length h2
      have hp := splitN_pos a.length h2
      rw [downL_more H a b h2]
      rw [rootA_more H a h2, rootA_more H b (by omega), ← he] at hr
      have hb : rtsA H b = (rootA H (b.take (splitN a.length)), rootA H (b.drop (splitN a.length))) := by unfold rtsA; rw [← he]
      by_cases hq : rtsA H a ≠ rtsA H b
      · rw [if_pos hq]
        refine isC_of H _ (fun e => hq (nodeD_inj (length_rootA H hH _) (length_rootA H hH _) e)) ?_
        show H (nodeD (rtsA H a)) = H (nodeD (rtsA H b))
        rw [hb]
        exact hr
      · rw [if_neg hq]
        have hq : rtsA H a = rtsA H b := Decidable.not_not.1 hq
        rw [hb] at hq
        have e1 := congrArg Prod.fst hq
        have e2 := congrArg Prod.snd hq
        by_cases ht : a.take (splitN a.length) = b.take (splitN a.length)
        · rw [if_pos ht]
          refine ih _ _ (by rw [List.length_drop]; omega) (by rw [List.length_drop]; omega) (by rw [List.length_drop, List.length_drop, he]) e2 fun e => hne ?_
          rw [← List.take_append_drop (splitN a.length) a, ← List.take_append_drop (splitN a.length) b, ht, e]
        · rw [if_neg ht]
          exact ih _ _ (by rw [List.length_take]; omega) (by rw [List.length_take]; omega) (by rw [List.length_take, List.length_take, he]) e1 ht
theorem listsC_is (H : Hf) (hH : ∀ l, (H l).length = 32) (a b : List (List UInt8)) (h : (listsC H a b).2 = 0) : isC H (listsC H a b).1 = true := by
  unfold listsC at h ⊢
  split at h
  · cases h
  rename_i h1
  rw [if_neg h1]
  split at h
  · cases h
  rename_i h2
  rw [if_neg h2]
  split at h
  · cases h
  rename_i h3
  rw [if_neg h3]
  rw [not_or] at h2
  have hl : a.length = b.length := Decidable.not_not.1 h2.1
  refine downL_is H hH a.length a b (Nat.le_refl _) ?_ hl (Decidable.not_not.1 h2.2) h3
  rcases Nat.eq_zero_or_pos a.length with e | e
  · exact absurd ((List.length_eq_zero_iff.1 e).trans (List.length_eq_zero_iff.1 (hl.symm.trans e)).symm) h3
  · exact e
theorem downF_len (H : Hf) (hH : ∀ l, (H l).length = 32) : ∀ (f : Nat) (a b : List (List UInt8)), (∀ x ∈ a, x.length ≤ 4096) → (∀ x ∈ b, x.length ≤ 4096) → (downF H f a b).1.length ≤ 4097 ∧ (downF H f a b).2.length ≤ 4097
  | f, a, b, ha, hb => by
    have hleaf : ∀ l : List (List UInt8), (∀ x ∈ l, x.length ≤ 4096) → (leafD (l.getD 0 [])).length ≤ 4097 := fun l hl => by
      have : (l.getD 0 []).length ≤ 4096 := by
        rw [List.getD_eq_getElem?_getD]
        cases hr : l[0]? with
        | none => simp
        | some x => exact hl x (List.mem_of_getElem? hr)
      simp only [leafD, List.length_cons]; omega
    have hnode : ∀ l : List (List UInt8), (nodeD (rtsA H l)).length ≤ 4097 := fun l => by
      simp only [nodeD, List.length_cons, List.length_append, length_rootA H hH]; omega
    cases f with
    | zero => exact ⟨hleaf a ha, hleaf b hb⟩
    | succ f =>
      rw [downF_s]
      split
      · exact ⟨hleaf a ha, hleaf b hb⟩
      split
      · exact ⟨hnode a, hnode b⟩
      split
      · exact downF_len H hH f _ _ (fun x hx => ha x (List.mem_of_mem_drop hx)) (fun x hx => hb x (List.mem_of_mem_drop hx))
      · exact downF_len H hH f _ _ (fun x hx => ha x (List.mem_of_mem_take hx)) (fun x hx => hb x (List.mem_of_mem_take hx))
theorem listsC_len (H : Hf) (hH : ∀ l, (H l).length = 32) (a b : List (List UInt8)) : (listsC H a b).1.1.length ≤ 4097 ∧ (listsC H a b).1.2.length ≤ 4097 := by
  have h0 : (noC : PairV).1.length ≤ 4097 ∧ (noC : PairV).2.length ≤ 4097 := ⟨by decide, by decide⟩
  unfold listsC
  split
  · exact h0
  rename_i h1
  rw [not_or] at h1
  split
  · exact h0
  split
  · exact h0
  exact downF_len H hH _ a b (bigD_not a (by simpa using h1.1)).2 (bigD_not b (by simpa using h1.2)).2
end Go.Proofs.Ytobcfgbkhgkelaa
/- Is it a clash; two clashes; which hash. -/
namespace Go.Proofs.Ytobcfgbkhgkelaa
open Go Go.RowKit Go.Shelf
attribute [local go_sem] Oper.semAt_some

theorem run_neqs_op {ρ : Operand → Value} {o : Oper} (x y : Operand) (ty : TypeId) (l m : List UInt8) (ho : o.op = .binOp .neq 9 x y ty) (hx : ρ x = .string (bstr l)) (hy : ρ y = .string (bstr m)) (W : World) :
    (execOp ρ o).run Try.prog W = .ok (.value (.bool (l != m))) W := by
  have h : (binOp .neq 9 (.string (bstr l)) (.string (bstr m))).run Try.prog W = .ok (.bool (l != m)) W := by
    have : ∀ l : List UInt8, (bstr l).toList = l := fun l => by rw [ByteArray.toList_eq]; rfl
    rw [binOp_string_neq, Sem.run_pure, this, this]; rfl
  unfold execOp
  simp only [ho, hx, hy, eqGuard_at_string, Sem.run_bind, Sem.run_pure, h, Result.andThen_ok]
theorem run_eqls_op {ρ : Operand → Value} {o : Oper} (x y : Operand) (ty : TypeId) (l m : List UInt8) (ho : o.op = .binOp .eql 9 x y ty) (hx : ρ x = .string (bstr l)) (hy : ρ y = .string (bstr m)) (W : World) :
    (execOp ρ o).run Try.prog W = .ok (.value (.bool (l == m))) W := by
  unfold execOp
  simp only [ho, hx, hy, eqGuard_at_string, Sem.run_bind, Sem.run_pure, run_eql_str, Result.andThen_ok]
end Go.Proofs.Ytobcfgbkhgkelaa
/- Two lists of entries: are they one? -/
namespace Go.Proofs.Ytobcfgbkhgkelaa
open Go Go.RowKit Go.Shelf
attribute [local go_sem] Oper.semAt_some

theorem drop_at (ls : List (List UInt8)) (k : Nat) (h : k < ls.length) : ls.drop k = ls.getD k [] :: ls.drop (k + 1) := by
  rw [List.drop_eq_getElem_cons h, List.getD_eq_getElem?_getD, List.getElem?_eq_getElem h]; rfl
theorem dec_cons (x y : List UInt8) (l m : List (List UInt8)) : decide (x :: l = y :: m) = (x == y && decide (l = m)) := by
  by_cases h : x = y
  · subst h; simp
  · simp [h]
set_option maxHeartbeats 2000000 in
set_option maxRecDepth 100000 in
theorem equalfn_any (ls ms : List (List UInt8)) (A A' : Option Addr) (n c n' c' : Nat) (w : World) (h : Es w (fun _ => True) A n c ls) (h' : Es w (fun _ => True) A' n' c' ms) : Calls Try.prog 50 #[.slice A n c, .slice A' n' c', .func (.func 51) #[] #[]] w fun e w' => e = .returned (.bool (decide (ls = ms))) ∧ w' = w := by
  have hroom := h.room
  have hmx := h.max
  unfold maxLen at hmx
  have hroom' := h'.room
  have hmx' := h'.max
  unfold maxLen at hmx'
  obtain ⟨r, hr⟩ : ∃ r, decide (ls = ms) = r := ⟨_, rfl⟩
  rw [hr]
  have hlen := h.len
  have hlen' := h'.len
  by_cases hnn : n = n'
  · subst hnn
    have Hr := Lib.hid hr
    have Hlen := Lib.hid hlen
    have Hlen' := Lib.hid hlen'
    have hn1 : (((n : Int)) != (n : Int)) = false := by simp
    clear hr hlen hlen'
    go_enter Try.func50, Try.ntmps50
    go_wp2_with fail
    go_loopw [7, 8, 9, 17] (fun _ _ _ v17 wr => ∃ k : Nat, k ≤ n ∧ v17 = .int .i64 (k : Int) ∧ decide (ls.drop k = ms.drop k) = r ∧ wr = w) (fun _ _ _ v17 _ => n - (intOf v17).toNat)
    case atStart => exact ⟨0, Nat.zero_le _, rfl, Hr.out, rfl⟩
    case round =>
      obtain ⟨k, hk, rfl, hf, rfl⟩ := hrel
      by_cases hkn : k < n
      · have hd : decide ((k : Int) < (n : Int)) = true := by simp; omega
        have hwk : IntKind.i64.wrap ((k : Int) + 1) = (k : Int) + 1 := IntWalk.i64_in _ (by omega)
        obtain ⟨b, o, rfl, -, -, hat⟩ := h.at_ (by omega)
        obtain ⟨Ai, ci, hc, hsl⟩ := hat k hkn
        obtain ⟨b', o', rfl, -, -, hat'⟩ := h'.at_ (by omega)
        obtain ⟨Ai', ci', hc', hsl'⟩ := hat' k hkn
        rw [drop_at ls k (by rw [Hlen.out]; exact hkn), drop_at ms k (by rw [Hlen'.out]; exact hkn), dec_cons] at hf
        have h1 := bequal_any (ls.getD k []) (ms.getD k []) Ai Ai' (ls.getD k []).length ci (ms.getD k []).length ci' wr hsl hsl'
        obtain ⟨x, hx⟩ : ∃ x, ls.getD k [] = x := ⟨_, rfl⟩
        obtain ⟨y, hy⟩ : ∃ x, ms.getD k [] = x := ⟨_, rfl⟩
        rw [hx] at hc h1 hf
        rw [hy] at hc' h1 hf
        obtain ⟨q, hq⟩ : ∃ q, (x == y) = q := ⟨_, rfl⟩
        rw [hq] at h1 hf
        have H1 := Lib.hid h1
        have Hf := Lib.hid hf
        clear h1 hf hq hx hy hat hat' hsl hsl'
        cases q with
        | true =>
          go_wp2_with (go_at_call 51; refine H1.out.mono ?_; rintro e w2 ⟨rfl, hww⟩; obtain rfl := hww.symm)
          go_roundw
          case rel => exact ⟨k + 1, by omega, by go_num, by simpa using Hf.out, by first | rfl | trivial⟩
          case measure => simp [intOf]; omega
        | false =>
          obtain rfl : false = r := by simpa using Hf.out
          go_wp2_with (go_at_call 51; refine H1.out.mono ?_; rintro e w2 ⟨rfl, hww⟩; obtain rfl := hww.symm)
          go_ret
          exact ⟨rfl, rfl⟩
      · obtain rfl : k = n := by omega
        have hd : decide ((k : Int) < (k : Int)) = false := by simp
        rw [List.drop_of_length_le (by rw [Hlen.out]; exact Nat.le_refl _), List.drop_of_length_le (by rw [Hlen'.out]; exact Nat.le_refl _)] at hf
        obtain rfl : true = r := by simpa using hf
        go_wp2_with fail
        go_ret
        exact ⟨rfl, rfl⟩
  · obtain rfl : false = r := by
      rw [← hr]
      exact (decide_eq_false fun e => hnn (by rw [← hlen, ← hlen', e])).symm
    have hn1 : (((n : Int)) != (n' : Int)) = true := by simp; omega
    have hn2 : ¬ (n : Int) = (n' : Int) := by omega
    clear hr
    go_enter Try.func50, Try.ntmps50
    go_wp2_with fail
    go_ret
    exact ⟨rfl, rfl⟩

end Go.Proofs.Ytobcfgbkhgkelaa
