/- A drawn region in which several makers may come in any order: each is walked once. No program in sight. -/
import Derived.Test.YtonidnfgneokbaaQd106
import Derived.Test.YtonidnfgneokbaaQd107
import Derived.Test.YtonidnfgneokbaaQd114
import Derived.Test.YtonidnfgneokbaaQd126
import Derived.Test.YtonidnfgneokbaaQd105
namespace Go.Proofs.Ytonidnfgneokbaa
open Go Go.RowKit

/-- these have come up -/
def setAll (L : Array Bool) (sub : List Nat) : Array Bool := sub.foldr (fun k L => L.setIfInBounds k true) L
theorem size_setAll (L : Array Bool) : ∀ sub : List Nat, (setAll L sub).size = L.size
  | [] => rfl
  | k :: sub => by
    show ((setAll L sub).setIfInBounds k true).size = L.size
    rw [Array.size_setIfInBounds, size_setAll L sub]
theorem setAll_get (L : Array Bool) (i : Nat) (hi : i < L.size) : ∀ sub : List Nat, (setAll L sub)[i]? = some (L[i] || sub.contains i)
  | [] => by simp [setAll, hi]
  | k :: sub => by
    show ((setAll L sub).setIfInBounds k true)[i]? = _
    rw [Array.getElem?_setIfInBounds]
    by_cases hk : k = i
    · subst hk
      rw [if_pos rfl, if_pos (by rw [size_setAll]; exact hi)]
      simp
    · rw [if_neg hk, setAll_get L i hi sub]
      have : (i == k) = false := by simpa using fun e => hk e.symm
      rw [List.contains_cons, this, Bool.false_or]
theorem setAll_same (L : Array Bool) (s t : List Nat) (h : ∀ i, s.contains i = t.contains i) : setAll L s = setAll L t := by
  apply Array.ext
  · rw [size_setAll, size_setAll]
  · intro i h1 h2
    have hi : i < L.size := by rwa [size_setAll] at h1
    have e1 := setAll_get L i hi s
    have e2 := setAll_get L i hi t
    rw [h i] at e1
    have := e1.trans e2.symm
    rw [Array.getElem?_eq_getElem h1, Array.getElem?_eq_getElem h2] at this
    exact Option.some.inj this
def subsL : List Nat → List (List Nat)
  | [] => [[]]
  | k :: l => subsL l ++ (subsL l).map (k :: ·)
theorem filter_subs (p : Nat → Bool) : ∀ l : List Nat, l.filter p ∈ subsL l
  | [] => by simp [subsL]
  | k :: l => by
    have := filter_subs p l
    rw [List.filter_cons]
    unfold subsL
    split
    · exact List.mem_append.2 (.inr (List.mem_map.2 ⟨_, this, rfl⟩))
    · exact List.mem_append.2 (.inl this)
/-- what each of them waits for has come up, too -/
def closedP (ops : Array Oper) (L : Array Bool) (k : Nat) : Bool := (ops.getD k default).after.toList.all fun e => !Region.binds .any e || L.getD e.on false
theorem closedP_step (ops : Array Oper) (L : Array Bool) (j k : Nat) (h : closedP ops L k = true) : closedP ops (L.setIfInBounds j true) k = true := by
  unfold closedP at *
  rw [List.all_eq_true] at *
  intro e he
  have := h e he
  rw [Bool.or_eq_true] at this ⊢
  rcases this with h1 | h1
  · exact .inl h1
  · right
    rw [Array.getD_eq_getD_getElem?] at h1 ⊢
    rw [Array.getElem?_setIfInBounds]
    split
    · rename_i h2
      split
      · rfl
      · rename_i h3
        rw [← h2, Array.getElem?_eq_none (by omega)] at h1
        cases h1
    · exact h1
/-- in every state that some of them have left, some more of them may come up, and none else -/
def makersOk (ops : Array Oper) (L : Array Bool) (ks : List Nat) (need : Nat → List Nat) : Bool :=
  (subsL ks).all fun s => ks.all s.contains || !(s.all fun k => closedP ops (setAll L s) k) || (!(Region.ready .any ops (setAll L s)).isEmpty && (Region.ready .any ops (setAll L s)).all fun k => ks.contains k && (need k).all s.contains)

def upd (us : Nat → Value) (s : Nat) (v : Value) : Nat → Value := fun j => if j = s then v else us j
theorem upd_same (us : Nat → Value) (s : Nat) (v : Value) : upd us s v s = v := if_pos rfl
theorem upd_other (us : Nat → Value) (s j : Nat) (v : Value) (h : j ≠ s) : upd us s v j = us j := if_neg h
abbrev ptrB (g : Nat) : Value := .pointer (some ⟨g, 0, none⟩)
/-- how many are left -/
def leftN (ks sub : List Nat) : Nat := (ks.filter fun k => !sub.contains k).length
theorem leftN_cons (sub : List Nat) (k : Nat) (hk : sub.contains k = false) : ∀ ks : List Nat, ks.Nodup → k ∈ ks → leftN ks (k :: sub) + 1 = leftN ks sub
  | [], _, h => by cases h
  | x :: ks, hn, h => by
    obtain ⟨hx, hn⟩ := List.nodup_cons.1 hn
    unfold leftN
    by_cases hxk : x = k
    · subst hxk
      have hrest : (ks.filter fun y => !(x :: sub).contains y) = ks.filter fun y => !sub.contains y := by
        apply List.filter_congr
        intro y hy
        have : (y == x) = false := by simp; rintro rfl; exact hx hy
        rw [List.contains_cons, this, Bool.false_or]
      rw [List.filter_cons, List.filter_cons, if_neg (by simp), if_pos (by rw [hk]; rfl), hrest]
      rfl
    · have hm : k ∈ ks := by
        rcases List.mem_cons.1 h with e | e
        · exact absurd e.symm hxk
        · exact e
      have := leftN_cons sub k hk ks hn hm
      unfold leftN at this
      have hxe : (x == k) = false := by simpa using hxk
      have e1 : (k :: sub).contains x = sub.contains x := by rw [List.contains_cons, hxe, Bool.false_or]
      rw [List.filter_cons, List.filter_cons, e1]
      split
      · simp only [List.length_cons]; omega
      · exact this
theorem leftN_zero (ks sub : List Nat) (h : leftN ks sub = 0) : ks.all sub.contains = true := by
  rw [List.all_eq_true]
  intro k hk
  unfold leftN at h
  have := List.eq_nil_of_length_eq_zero h
  have := List.filter_eq_nil_iff.1 this k hk
  simpa using this

section
variable {P : Program} {ops : Array Oper} {Q : Exit → Act → World → Prop} {S : World → Prop}
theorem wpAnyH_makers0 (mk : (Nat → Value) → Act) (L : Array Bool) (ks : List Nat) (need : Nat → List Nat) (slot : Nat → Nat) (fact : Nat → Value → World → Prop) (f1 : Nat)
    (hok : makersOk ops L ks need = true) (hnd : ks.Nodup) (hslot : ∀ k ∈ ks, ∀ k' ∈ ks, slot k = slot k' → k = k')
    (hstep : ∀ k ∈ ks, ∀ v W W', fact k v W → Below W.heap.size W W' → fact k v W') (hlt : ∀ k ∈ ks, ∀ g W, fact k (ptrB g) W → g < W.heap.size)
    (hrun : ∀ k ∈ ks, ∀ us W, S W → (∀ k' ∈ need k, fact k' (us (slot k')) W) →
      wpMix P ops S Q (fun a W' => ∃ v, a = mk (upd us (slot k) v) ∧ fact k v W' ∧ Below W.heap.size W W' ∧ ∀ g, v = ptrB g → W.heap.size ≤ g) [(ops.getD k default, false)] (mk us) W)
    (htail : ∀ us W, S W → (∀ k ∈ ks, fact k (us (slot k)) W) → (∀ k ∈ ks, ∀ k' ∈ ks, k ≠ k' → ∀ g, us (slot k) = ptrB g → us (slot k') ≠ ptrB g) → wpAnyH P .any ops (NoPanic Q) S f1 (setAll L ks) (mk us) W) :
    ∀ (n : Nat) (sub : List Nat) (us : Nat → Value) (W : World), leftN ks sub = n → (∀ k ∈ sub, k ∈ ks) → (∀ k ∈ sub, closedP ops (setAll L sub) k = true) → S W → (∀ k ∈ sub, fact k (us (slot k)) W) → (∀ k ∈ sub, ∀ k' ∈ sub, k ≠ k' → ∀ g, us (slot k) = ptrB g → us (slot k') ≠ ptrB g) →
      wpAnyH P .any ops (NoPanic Q) S (n + f1) (setAll L sub) (mk us) W
  | 0, sub, us, W, hn, hsub, _, hS, hf, ha => by
    have hall := leftN_zero ks sub hn
    rw [List.all_eq_true] at hall
    have hm : ∀ k ∈ ks, k ∈ sub := fun k hk => by simpa using hall k hk
    rw [setAll_same L sub ks (fun i => by
      by_cases hi : i ∈ sub
      · rw [List.contains_iff_mem.2 hi, List.contains_iff_mem.2 (hsub i hi)]
      · have hi' : i ∉ ks := fun h => hi (hm i h)
        rw [Bool.eq_false_iff.2 (fun h => hi (List.contains_iff_mem.1 h)), Bool.eq_false_iff.2 (fun h => hi' (List.contains_iff_mem.1 h))]), Nat.zero_add]
    exact htail us W hS (fun k hk => hf k (hm k hk)) (fun k hk k' hk' => ha k (hm k hk) k' (hm k' hk'))
  | n + 1, sub, us, W, hn, hsub, hcl, hS, hf, ha => by
    have hok' := hok
    unfold makersOk at hok'
    rw [List.all_eq_true] at hok'
    have hc := hok' _ (filter_subs (fun k => sub.contains k) ks)
    have hse : ∀ i, (ks.filter fun k => sub.contains k).contains i = sub.contains i := fun i => by
      by_cases hi : i ∈ sub
      · rw [List.contains_iff_mem.2 hi, List.contains_iff_mem.2 (List.mem_filter.2 ⟨hsub i hi, List.contains_iff_mem.2 hi⟩)]
      · rw [Bool.eq_false_iff.2 (fun h => hi (List.contains_iff_mem.1 h)), Bool.eq_false_iff.2 (fun h => hi (List.contains_iff_mem.1 (List.mem_filter.1 (List.contains_iff_mem.1 h)).2))]
    rw [setAll_same L _ sub hse] at hc
    have hnall : ks.all (ks.filter fun k => sub.contains k).contains = false := by
      rw [Bool.eq_false_iff]
      intro h
      rw [List.all_eq_true] at h
      unfold leftN at hn
      have h0 : (ks.filter fun k => !sub.contains k) = [] := List.filter_eq_nil_iff.2 fun k hk => by
        have := h k hk
        rw [hse] at this
        simp [List.contains_iff_mem.1 this]
      rw [h0] at hn
      cases hn
    have hclf : ((ks.filter fun k => sub.contains k).all fun k => closedP ops (setAll L sub) k) = true := by
      rw [List.all_eq_true]
      exact fun k hk => hcl k (List.contains_iff_mem.1 (List.mem_filter.1 hk).2)
    rw [hnall, hclf, Bool.not_true, Bool.or_false, Bool.false_or, Bool.and_eq_true] at hc
    obtain ⟨hne, hrd⟩ := hc
    rw [List.all_eq_true] at hrd
    rw [show n + 1 + f1 = n + f1 + 1 by omega]
    refine ⟨fun h0 => (by rw [h0] at hne; cases hne), fun k hk => ?_⟩
    have hk' := hrd k hk
    rw [Bool.and_eq_true, List.contains_iff_mem] at hk'
    obtain ⟨hks, hnd'⟩ := hk'
    rw [List.all_eq_true] at hnd'
    obtain ⟨hun, ok, hoi, hed⟩ := mem_ready.1 hk
    have hget : ops.getD k default = ok := by simp [hoi]
    have hkn : sub.contains k = false := by
      by_cases hkL : k < L.size
      · have := setAll_get L k hkL sub
        rw [Array.getD_eq_getD_getElem?, this] at hun
        simp only [Option.getD_some, Bool.or_eq_false_iff] at hun
        exact hun.2
      · rw [Array.getD_eq_getD_getElem?, Array.getElem?_eq_none (by rw [size_setAll]; omega)] at hun
        cases hun
    have hr := (hrun k hks us W hS (fun k' hk'' => hf k' (by
      have := hnd' k' hk''
      rw [hse] at this
      exact List.contains_iff_mem.1 this))).out
    have key : ∀ v W', S W' → fact k v W' → Below W.heap.size W W' → (∀ g, v = ptrB g → W.heap.size ≤ g) → wpAnyH P .any ops (NoPanic Q) S (n + f1) (setAll L (k :: sub)) (mk (upd us (slot k) v)) W' := fun v W' hS' hv hb hg => by
      have hother : ∀ k' ∈ sub, upd us (slot k) v (slot k') = us (slot k') := fun k' hk'' => upd_other _ _ _ _ (fun e => by
        have := hslot k' (hsub k' hk'') k hks e
        subst this
        rw [List.contains_iff_mem.2 hk''] at hkn
        cases hkn)
      refine wpAnyH_makers0 mk L ks need slot fact f1 hok hnd hslot hstep hlt hrun htail n (k :: sub) _ W' (by have := leftN_cons sub k hkn ks hnd hks; omega) ?_ ?_ hS' ?_ ?_
      · intro k' hk''
        rcases List.mem_cons.1 hk'' with rfl | hk''
        · exact hks
        · exact hsub k' hk''
      · intro k' hk''
        refine closedP_step ops (setAll L sub) k k' ?_
        rcases List.mem_cons.1 hk'' with rfl | hk''
        · unfold closedP
          rw [hget, List.all_eq_true]
          intro e he
          by_cases hb : Region.binds .any e = true
          · rw [hed e (by simpa using he) hb]; simp
          · simp [hb]
        · exact hcl k' hk''
      · intro k' hk''
        rcases List.mem_cons.1 hk'' with rfl | hk''
        · rw [upd_same]; exact hv
        · rw [hother k' hk'']; exact hstep k' (hsub k' hk'') _ _ _ (hf k' hk'') hb
      · intro k1 m1 k2 m2 hne' g hp hq
        rcases List.mem_cons.1 m1 with e1 | h1
        · rw [e1, upd_same] at hp
          rcases List.mem_cons.1 m2 with e2 | h2
          · exact hne' (e1.trans e2.symm)
          · rw [hother k2 h2] at hq
            have := hf k2 h2
            rw [hq] at this
            have := hlt k2 (hsub k2 h2) _ _ this
            have := hg g hp
            omega
        · rw [hother k1 h1] at hp
          rcases List.mem_cons.1 m2 with e2 | h2
          · rw [e2, upd_same] at hq
            have := hf k1 h1
            rw [hp] at this
            have := hlt k1 (hsub k1 h1) _ _ this
            have := hg g hq
            omega
          · rw [hother k2 h2] at hq
            exact ha k1 h1 k2 h2 hne' g hp hq
    simp only [wpMix0, hget] at hr
    unfold wpOp
    simp only [hoi]
    show (if Region.wanted ok (yielded ops (mk us).tmps) = true then _ else _)
    by_cases hw : Region.wanted ok (yielded ops (mk us).tmps) = true
    · rw [if_pos hw] at hr ⊢
      refine .inl (Oper.wp_mono (fun a' w' hh => ?_) hr)
      obtain ⟨g1, v, rfl, h1, h2, h3⟩ := hh
      exact ⟨g1, key v w' g1 h1 h2 h3⟩
    · rw [if_neg hw] at hr ⊢
      obtain ⟨v, ha', h1, h2, h3⟩ := hr
      rw [ha']
      exact ⟨hS, key v W hS h1 h2 h3⟩
theorem wpAnyH_makers (mk : (Nat → Value) → Act) (ks : List Nat) (need : Nat → List Nat) (slot : Nat → Nat) (fact : Nat → Value → World → Prop) (f1 : Nat) {L : Array Bool} {us : Nat → Value} {W : World}
    (hok : makersOk ops L ks need = true) (hnd : ks.Nodup) (hslot : ∀ k ∈ ks, ∀ k' ∈ ks, slot k = slot k' → k = k')
    (hstep : ∀ k ∈ ks, ∀ v W W', fact k v W → Below W.heap.size W W' → fact k v W') (hlt : ∀ k ∈ ks, ∀ g W, fact k (ptrB g) W → g < W.heap.size) (hS : S W)
    (hrun : ∀ k ∈ ks, ∀ us W, S W → (∀ k' ∈ need k, fact k' (us (slot k')) W) →
      wpMix P ops S Q (fun a W' => ∃ v, a = mk (upd us (slot k) v) ∧ fact k v W' ∧ Below W.heap.size W W' ∧ ∀ g, v = ptrB g → W.heap.size ≤ g) [(ops.getD k default, false)] (mk us) W)
    (htail : ∀ us W, S W → (∀ k ∈ ks, fact k (us (slot k)) W) → (∀ k ∈ ks, ∀ k' ∈ ks, k ≠ k' → ∀ g, us (slot k) = ptrB g → us (slot k') ≠ ptrB g) → wpAnyH P .any ops (NoPanic Q) S f1 (setAll L ks) (mk us) W) :
    wpAnyH P .any ops (NoPanic Q) S (leftN ks [] + f1) L (mk us) W :=
  wpAnyH_makers0 mk L ks need slot fact f1 hok hnd hslot hstep hlt hrun htail _ [] us W rfl (fun k h => by cases h) (fun k h => by cases h) hS (fun k h => by cases h) (fun k h => by cases h)
end
/-- what is known of a value that has come up -/
structure Fc where
  ok : Value → World → Prop
  step : ∀ v W W', ok v W → Below W.heap.size W W' → ok v W'
  lt : ∀ g W, ok (ptrB g) W → g < W.heap.size
def Fc.val (x : Value) (hx : ∀ g, x ≠ ptrB g) : Fc := ⟨fun v _ => v = x, fun _ _ _ h _ => h, fun g _ h => absurd h.symm (hx g)⟩
def putAll (a : Act) (us : Nat → Value) : List Nat → Act
  | [] => a
  | s :: l => (putAll a us l).put (some s) (us s)
theorem wpAnyH_many {P : Program} {ops : Array Oper} {Q : Exit → Act → World → Prop} {S : World → Prop} (ks : List Nat) (need : Nat → List Nat) (slot : Nat → Nat) (fc : Nat → Fc) (slots : List Nat) (f1 : Nat) {L : Array Bool} {a : Act} {W : World} (us0 : Nat → Value)
    (hok : makersOk ops L ks need = true) (hnd : ks.Nodup) (hslot : ∀ k ∈ ks, ∀ k' ∈ ks, slot k = slot k' → k = k') (h0 : putAll a us0 slots = a) (hS : S W)
    (hrun : ∀ k ∈ ks, ∀ us W, S W → (∀ k' ∈ need k, (fc k').ok (us (slot k')) W) →
      wpMix P ops S Q (fun a' W' => ∃ v, a' = putAll a (upd us (slot k) v) slots ∧ (fc k).ok v W' ∧ Below W.heap.size W W' ∧ ∀ g, v = ptrB g → W.heap.size ≤ g) [(ops.getD k default, false)] (putAll a us slots) W)
    (htail : ∀ us W, S W → (∀ k ∈ ks, (fc k).ok (us (slot k)) W) → (∀ k ∈ ks, ∀ k' ∈ ks, k ≠ k' → ∀ g, us (slot k) = ptrB g → us (slot k') ≠ ptrB g) → wpAnyH P .any ops (NoPanic Q) S f1 (setAll L ks) (putAll a us slots) W) :
    wpAnyH P .any ops (NoPanic Q) S (leftN ks [] + f1) L a W := by
  have := wpAnyH_makers (P := P) (Q := Q) (S := S) (fun us => putAll a us slots) ks need slot (fun k => (fc k).ok) f1 (us := us0) hok hnd hslot (fun k _ => (fc k).step) (fun k _ => (fc k).lt) hS hrun htail
  rwa [h0] at this
end Go.Proofs.Ytonidnfgneokbaa
/- A hash variable that comes up among others. -/
namespace Go.Proofs.Ytonidnfgneokbaa
open Go Go.RowKit

def Fc.hash (N : Nat) (l : List UInt8) : Fc := ⟨fun v W => ∃ g, v = ptrB g ∧ HV W g l ∧ N ≤ g, fun _ _ _ ⟨g, h1, h2, h3⟩ hb => ⟨g, h1, h2.step hb, h3⟩, fun g W ⟨g', h1, h2, _⟩ => by cases h1; exact h2.lt⟩
end Go.Proofs.Ytonidnfgneokbaa
/- Pairs held against each other; a pair's variable that comes up among others; clashes. -/
namespace Go.Proofs.Ytonidnfgneokbaa
open Go Go.RowKit Go.Shelf

theorem run_equalIn_hash (d : Nat) (xs ys : List UInt8) (hx : xs.length = 32) (hy : ys.length = 32) (W : World) : (Op.equalIn (d + 2) 25 (.agg (xs.map B).toArray) (.agg (ys.map B).toArray)).run Try.prog W = .ok (xs == ys) W :=
  run_equalIn_ints (P := Try.prog) (fun x : UInt8 => (x.toNat : Int)) eqB (t := 25) (e := 5) (N := 32) Try.underlying25 (by kernel_rfl) size25e agg25e d xs ys hx hy W
theorem part_hash (x y : List UInt8) (hx : x.length = 32) (hy : y.length = 32) (W : World) : (part 25 ((x ++ y).map B).toArray 0).run Try.prog W = .ok (.agg (x.map B).toArray) W ∧ (part 25 ((x ++ y).map B).toArray 32).run Try.prog W = .ok (.agg (y.map B).toArray) W := by
  have e1 : ((x ++ y).map B).toArray.extract 0 32 = (x.map B).toArray := by
    apply Array.ext_getElem?
    intro i
    simp only [Array.getElem?_extract, List.getElem?_toArray, List.map_append, List.size_toArray, List.length_append, List.length_map, hx, hy, Nat.zero_add]
    by_cases h : i < 32
    · rw [if_pos (by omega), List.getElem?_append_left (by rw [List.length_map, hx]; exact h)]
    · rw [if_neg (by omega), List.getElem?_eq_none (by rw [List.length_map, hx]; omega)]
  have e2 : ((x ++ y).map B).toArray.extract 32 (32 + 32) = (y.map B).toArray := by
    apply Array.ext_getElem?
    intro i
    simp only [Array.getElem?_extract, List.getElem?_toArray, List.map_append, List.size_toArray, List.length_append, List.length_map, hx, hy]
    by_cases h : i < 32
    · rw [if_pos (by omega), List.getElem?_append_right (by rw [List.length_map, hx]; omega), List.length_map, hx, show 32 + i - 32 = i by omega]
    · rw [if_neg (by omega), List.getElem?_eq_none (by rw [List.length_map, hy]; omega)]
  refine ⟨?_, ?_⟩
  · simp only [part, Sem.run_bind, agg26, size26, Result.andThen_ok, if_true, Sem.run_pure, Nat.zero_add]
    rw [e1]
  · simp only [part, Sem.run_bind, agg26, size26, Result.andThen_ok, if_true, Sem.run_pure]
    rw [e2]
theorem run_neq_pair (x y x' y' : List UInt8) (hx : x.length = 32) (hy : y.length = 32) (hx' : x'.length = 32) (hy' : y'.length = 32) (W : World) :
    (binOp .neq 139 (.agg ((x ++ y).map B).toArray) (.agg ((x' ++ y').map B).toArray)).run Try.prog W = .ok (.bool (!(x == x' && y == y'))) W := by
  have hu : Try.prog.underlying 139 = some (.array 2 25) := by kernel_rfl
  have heq : (Op.equalIn (9999 + 1) 139 (.agg ((x ++ y).map B).toArray) (.agg ((x' ++ y').map B).toArray)).run Try.prog W = .ok (x == x' && y == y') W := by
    have h1 := fun W => (part_hash x y hx hy W).1
    have h2 := fun W => (part_hash x y hx hy W).2
    have h3 := fun W => (part_hash x' y' hx' hy' W).1
    have h4 := fun W => (part_hash x' y' hx' hy' W).2
    have h5 := fun W => run_equalIn_hash 9997 x x' hx hx' W
    have h6 := fun W => run_equalIn_hash 9997 y y' hy hy' W
    generalize ((x ++ y).map B).toArray = U at h1 h2 ⊢
    generalize ((x' ++ y').map B).toArray = V at h3 h4 ⊢
    generalize hD : 9999 = D at *
    have h5 : ∀ W, (Op.equalIn D 25 (.agg (x.map B).toArray) (.agg (x'.map B).toArray)).run Try.prog W = .ok (x == x') W := by rw [← hD]; exact h5
    have h6 : ∀ W, (Op.equalIn D 25 (.agg (y.map B).toArray) (.agg (y'.map B).toArray)).run Try.prog W = .ok (y == y') W := by rw [← hD]; exact h6
    simp only [Op.equalIn, Sem.run_bind, run_underlying hu, Result.andThen_ok, size26, Std.Legacy.Range.forIn_eq_forIn_range', Std.Legacy.Range.size, Nat.sub_zero, Nat.add_sub_cancel, Nat.div_one, List.range'_succ, List.range'_zero, List.forIn_cons, List.forIn_nil, Nat.zero_mul, Nat.zero_add, Nat.one_mul, h1, h3, h5]
    cases x == x'
    · simp
    · cases hyy : y == y'
      · simp [h2, h4, h6]
        simpa using hyy
      · simp [h2, h4, h6]
        simpa using hyy
  rw [run_neq_struct]
  show ((Op.equalIn (9999 + 1) _ _ _).run _ _).andThen _ = _
  rw [heq]
  rfl
theorem run_neq_pair_op {ρ : Operand → Value} {o : Oper} (a b : Operand) (ty : TypeId) (z z' x y x' y' : List UInt8) (hz : x ++ y = z) (hz' : x' ++ y' = z') (ho : o.op = .binOp .neq 139 a b ty) (ha : ρ a = .agg (z.map B).toArray) (hb : ρ b = .agg (z'.map B).toArray) (hx : x.length = 32) (hy : y.length = 32) (hx' : x'.length = 32) (hy' : y'.length = 32) (v : Bool) (hv : (!(x == x' && y == y')) = v) (W : World) :
    (execOp ρ o).run Try.prog W = .ok (.value (.bool v)) W := by
  have hm : Try.prog.eqGuardType Try.prog.depth 139 = false := by kernel_rfl
  subst hz hz' hv
  unfold execOp
  simp only [ho, ha, hb, Sem.run_bind, Sem.run_pure, run_eqGuard_agg _ _ _ _ _ _ _ hm, run_neq_pair x y x' y' hx hy hx' hy' W, Result.andThen_ok]
section
variable {ops : Array Oper} {Q : Exit → Act → World → Prop} {S : World → Prop} {R : Act → World → Prop} {o : Oper} {l : List (Oper × Bool)} {a : Act} {w : World}
set_option maxRecDepth 100000 in
theorem wpMix_prnew (hg : o.guard = none) (ho : o.op = .alloc 139) (hS : ∀ W, Below w.heap.size w W → S W)
    (h : ∀ W, PV W w.heap.size (List.replicate 64 0) → Below w.heap.size w W → wpMix Try.prog ops S Q R l (a.put o.dst (.pointer (some ⟨w.heap.size, 0, none⟩))) W) : wpMix Try.prog ops S Q R ((o, false) :: l) a w := by
  have hb : Below w.heap.size w (w.alloc (.cells ((List.replicate 64 (0 : UInt8)).map B).toArray 139)) := (Below.refl _ _).alloc (Nat.le_refl _) _
  refine wpMix_run (by simp [Region.wanted, hg]) (.pointer (some ⟨w.heap.size, 0, none⟩)) (w.alloc (.cells ((List.replicate 64 (0 : UInt8)).map B).toArray 139)) ?_ (hS _ hb) (h _ ⟨Blk.new w 139 _, rfl⟩ hb)
  unfold execOp
  rw [ho]
  rfl
theorem wpMix_prset {m m' : List UInt8} {g : Nat} (x y : Operand) (hg : o.guard = none) (ho : o.op = .store 139 x y) (k : PV w g m') (hx : a.eval x = .pointer (some ⟨g, 0, none⟩)) (hy : a.eval y = .agg (m.map B).toArray) (hl : m.length = 64) (hS : ∀ W, Below g w W → S W)
    (h : ∀ W, PV W g m → Below g w W → wpMix Try.prog ops S Q R l (a.put o.dst undef) W) : wpMix Try.prog ops S Q R ((o, false) :: l) a w := by
  have hb : Below g w (w.setRow g (m.map B).toArray) := below_setRow (Below.refl _ _) (Nat.le_refl _) _
  exact wpMix_store_blk hg 139 x y ho 64 pairSize g (m.map B).toArray hx hy (by simp [hl]) (oneCell_B _) 139 _ k.blk (by simp [k.len]) (hS _ hb) (h _ ⟨k.blk.setRow_ _, hl⟩ hb)
end
def Fc.pair (N : Nat) (l : List UInt8) : Fc := ⟨fun v W => ∃ g, v = ptrB g ∧ PV W g l ∧ N ≤ g, fun _ _ _ ⟨g, h1, h2, h3⟩ hb => ⟨g, h1, h2.step hb, h3⟩, fun g W ⟨g', h1, h2, _⟩ => by cases h1; exact h2.blk.lt⟩
/-- bytes that are new, and stay -/
def Fc.bytes (N : Nat) (l : List UInt8) : Fc := ⟨fun v W => ∃ A c, v = .slice A l.length c ∧ W.ownsRow N 5 1 v l.length (l.map B), fun _ _ _ ⟨A, c, h1, h2⟩ hb => ⟨A, c, h1, owns_step h2 hb⟩, fun g W ⟨A, c, h1, _⟩ => by cases h1⟩

/-- a clash that is told: two rows of one's own -/
structure ClV (base : Nat) (c : PairV) (v : Value) (W : World) : Prop where
  ex : ∃ v1 v2, v = .agg #[v1, v2] ∧ W.ownsRow base 5 1 v1 c.1.length (c.1.map B) ∧ W.ownsRow base 5 1 v2 c.2.length (c.2.map B)
theorem ClV.step {base : Nat} {c : PairV} {v : Value} {W W' : World} (h : ClV base c v W) (hb : Below W.heap.size W W') : ClV base c v W' :=
  let ⟨v1, v2, h1, h2, h3⟩ := h.ex; ⟨v1, v2, h1, owns_step h2 hb, owns_step h3 hb⟩
theorem ClV.le {base b' : Nat} {c : PairV} {v : Value} {W : World} (h : ClV base c v W) (hb : b' ≤ base) : ClV b' c v W :=
  let ⟨v1, v2, h1, h2, h3⟩ := h.ex; ⟨v1, v2, h1, owns_le h2 hb, owns_le h3 hb⟩
abbrev zeroClash : Value := .agg #[.slice none 0 0, .slice none 0 0]
theorem ClV.zero (base : Nat) (W : World) : ClV base noC zeroClash W := ⟨_, _, rfl, World.ownsRow_nil _ _ _ _, World.ownsRow_nil _ _ _ _⟩
theorem clAgg : ∀ w : World, (isAgg 34).run Try.prog w = .ok true w := fun _ => by kernel_rfl
theorem clSize : ∀ w : World, (sizeOf 34).run Try.prog w = .ok 2 w := fun _ => by kernel_rfl
theorem cl_load {W : World} {g : Nat} {a b : Value} (k : Blk W g 34 #[a, b]) : (Instr.loadAt 34 (.pointer (some ⟨g, 0, none⟩))).run Try.prog W = .ok (.agg #[a, b]) W :=
  run_load_blk (clAgg _) (clSize _) g _ rfl k
end Go.Proofs.Ytonidnfgneokbaa
