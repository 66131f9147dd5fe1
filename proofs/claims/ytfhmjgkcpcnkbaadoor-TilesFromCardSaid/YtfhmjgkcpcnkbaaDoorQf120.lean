/- A drawn region in which several makers may come in any order: each is walked once. No program in sight. -/
import Derived.Test.YtfhmjgkcpcnkbaaDoorQf106
import Derived.Test.YtfhmjgkcpcnkbaaDoorQf107
import Derived.Test.YtfhmjgkcpcnkbaaDoorQf118
import Derived.Test.YtfhmjgkcpcnkbaaDoorQf119
import Derived.Test.YtfhmjgkcpcnkbaaDoorQf105
namespace Go.Proofs.YtfhmjgkcpcnkbaaDoor
open Go Go.RowKit

/-- these have come up -/
def setAll (L : Array Bool) (sub : List Nat) : Array Bool := sub.foldr (fun k L => L.setIfInBounds k true) L
theorem size_setAll (L : Array Bool) : ∀ sub : List Nat, (setAll L sub).size = L.size
  | [] => rfl
  | k :: sub => by
    show ((setAll L sub).setIfInBounds k true).size = L.size
    rw [Array.size_setIfInBounds, size_setAll L sub]
theorem setAll_get (L : Array Bool) (i : Nat) (hi : i < L.size) : ∀ sub : List Nat, (setAll L sub)[i]? = some (L[i] || sub.contains i)
  | [] => by simp [setAll, hi]
  | k :: sub => by
    show ((setAll L sub).setIfInBounds k true)[i]? = _
    rw [Array.getElem?_setIfInBounds]
    by_cases hk : k = i
    · subst hk
      rw [if_pos rfl, if_pos (by rw [size_setAll]; exact hi)]
      simp
    · rw [if_neg hk, setAll_get L i hi sub]
      have : (i == k) = false := by simpa using fun e => hk e.symm
      rw [List.contains_cons, this, Bool.false_or]
theorem setAll_same (L : Array Bool) (s t : List Nat) (h : ∀ i, s.contains i = t.contains i) : setAll L s = setAll L t := by
  apply Array.ext
  · rw [size_setAll, size_setAll]
  · intro i h1 h2
    have hi : i < L.size := by rwa [size_setAll] at h1
    have e1 := setAll_get L i hi s
    have e2 := setAll_get L i hi t
    rw [h i] at e1
    have := e1.trans e2.symm
    rw [Array.getElem?_eq_getElem h1, Array.getElem?_eq_getElem h2] at this
    exact Option.some.inj this
def subsL : List Nat → List (List Nat)
  | [] => [[]]
  | k :: l => subsL l ++ (subsL l).map (k :: ·)
theorem filter_subs (p : Nat → Bool) : ∀ l : List Nat, l.filter p ∈ subsL l
  | [] => by simp [subsL]
  | k :: l => by
    have := filter_subs p l
    rw [List.filter_cons]
    unfold subsL
    split
    · exact List.mem_append.2 (.inr (List.mem_map.2 ⟨_, this, rfl⟩))
    · exact List.mem_append.2 (.inl this)
/-- what each of them waits for has come up, too -/
def closedP (ops : Array Oper) (L : Array Bool) (k : Nat) : Bool := (ops.getD k default).after.toList.all fun e => !Region.binds .any e || L.getD e.on false
theorem closedP_step (ops : Array Oper) (L : Array Bool) (j k : Nat) (h : closedP ops L k = true) : closedP ops (L.setIfInBounds j true) k = true := by
  unfold closedP at *
  rw [List.all_eq_true] at *
  intro e he
  have := h e he
  rw [Bool.or_eq_true] at this ⊢
  rcases this with h1 | h1
  · exact .inl h1
  · right
    rw [Array.getD_eq_getD_getElem?] at h1 ⊢
    rw [Array.getElem?_setIfInBounds]
    split
    · rename_i h2
      split
      · rfl
      · rename_i h3
        rw [← h2, Array.getElem?_eq_none (by omega)] at h1
        cases h1
    · exact h1
/-- in every state that some of them have left, some more of them may come up, and none else -/
def makersOk (ops : Array Oper) (L : Array Bool) (ks : List Nat) (need : Nat → List Nat) : Bool :=
  (subsL ks).all fun s => ks.all s.contains || !(s.all fun k => closedP ops (setAll L s) k) || (!(Region.ready .any ops (setAll L s)).isEmpty && (Region.ready .any ops (setAll L s)).all fun k => ks.contains k && (need k).all s.contains)

def upd (us : Nat → Value) (s : Nat) (v : Value) : Nat → Value := fun j => if j = s then v else us j
theorem upd_same (us : Nat → Value) (s : Nat) (v : Value) : upd us s v s = v := if_pos rfl
theorem upd_other (us : Nat → Value) (s j : Nat) (v : Value) (h : j ≠ s) : upd us s v j = us j := if_neg h
abbrev ptrB (g : Nat) : Value := .pointer (some ⟨g, 0, none⟩)
/-- how many are left -/
def leftN (ks sub : List Nat) : Nat := (ks.filter fun k => !sub.contains k).length
theorem leftN_cons (sub : List Nat) (k : Nat) (hk : sub.contains k = false) : ∀ ks : List Nat, ks.Nodup → k ∈ ks → leftN ks (k :: sub) + 1 = leftN ks sub
  | [], _, h => by cases h
  | x :: ks, hn, h => by
    obtain ⟨hx, hn⟩ := List.nodup_cons.1 hn
    unfold leftN
    by_cases hxk : x = k
    · subst hxk
      have hrest : (ks.filter fun y => !(x :: sub).contains y) = ks.filter fun y => !sub.contains y := by
        apply List.filter_congr
        intro y hy
        have : (y == x) = false := by simp; rintro rfl; exact hx hy
        rw [List.contains_cons, this, Bool.false_or]
      rw [List.filter_cons, List.filter_cons, if_neg (by simp), if_pos (by rw [hk]; rfl), hrest]
      rfl
    · have hm : k ∈ ks := by
        rcases List.mem_cons.1 h with e | e
        · exact absurd e.symm hxk
        · exact e
      have := leftN_cons sub k hk ks hn hm
      unfold leftN at this
      have hxe : (x == k) = false := by simpa using hxk
      have e1 : (k :: sub).contains x = sub.contains x := by rw [List.contains_cons, hxe, Bool.false_or]
      rw [List.filter_cons, List.filter_cons, e1]
      split
      · simp only [List.length_cons]; omega
      · exact this
theorem leftN_zero (ks sub : List Nat) (h : leftN ks sub = 0) : ks.all sub.contains = true := by
  rw [List.all_eq_true]
  intro k hk
  unfold leftN at h
  have := List.eq_nil_of_length_eq_zero h
  have := List.filter_eq_nil_iff.1 this k hk
  simpa using this

section
variable {P : Program} {ops : Array Oper} {Q : Exit → Act → World → Prop} {S : World → Prop}
theorem wpAnyH_makers0 (mk : (Nat → Value) → Act) (L : Array Bool) (ks : List Nat) (need : Nat → List Nat) (slot : Nat → Nat) (fact : Nat → Value → World → Prop) (f1 : Nat)
    (hok : makersOk ops L ks need = true) (hnd : ks.Nodup) (hslot : ∀ k ∈ ks, ∀ k' ∈ ks, slot k = slot k' → k = k')
    (hstep : ∀ k ∈ ks, ∀ v W W', fact k v W → Below W.heap.size W W' → fact k v W') (hlt : ∀ k ∈ ks, ∀ g W, fact k (ptrB g) W → g < W.heap.size)
    (hrun : ∀ k ∈ ks, ∀ us W, S W → (∀ k' ∈ need k, fact k' (us (slot k')) W) →
      wpMix P ops S Q (fun a W' => ∃ v, a = mk (upd us (slot k) v) ∧ fact k v W' ∧ Below W.heap.size W W' ∧ ∀ g, v = ptrB g → W.heap.size ≤ g) [(ops.getD k default, false)] (mk us) W)
    (htail : ∀ us W, S W → (∀ k ∈ ks, fact k (us (slot k)) W) → (∀ k ∈ ks, ∀ k' ∈ ks, k ≠ k' → ∀ g, us (slot k) = ptrB g → us (slot k') ≠ ptrB g) → wpAnyH P .any ops (NoPanic Q) S f1 (setAll L ks) (mk us) W) :
    ∀ (n : Nat) (sub : List Nat) (us : Nat → Value) (W : World), leftN ks sub = n → (∀ k ∈ sub, k ∈ ks) → (∀ k ∈ sub, closedP ops (setAll L sub) k = true) → S W → (∀ k ∈ sub, fact k (us (slot k)) W) → (∀ k ∈ sub, ∀ k' ∈ sub, k ≠ k' → ∀ g, us (slot k) = ptrB g → us (slot k') ≠ ptrB g) →
      wpAnyH P .any ops (NoPanic Q) S (n + f1) (setAll L sub) (mk us) W
  | 0, sub, us, W, hn, hsub, _, hS, hf, ha => by
    have hall := leftN_zero ks sub hn
    rw [List.all_eq_true] at hall
    have hm : ∀ k ∈ ks, k ∈ sub := fun k hk => by simpa using hall k hk
    rw [setAll_same L sub ks (fun i => by
      by_cases hi : i ∈ sub
      · rw [List.contains_iff_mem.2 hi, List.contains_iff_mem.2 (hsub i hi)]
      · have hi' : i ∉ ks := fun h => hi (hm i h)
        rw [Bool.eq_false_iff.2 (fun h => hi (List.contains_iff_mem.1 h)), Bool.eq_false_iff.2 (fun h => hi' (List.contains_iff_mem.1 h))]), Nat.zero_add]
    exact htail us W hS (fun k hk => hf k (hm k hk)) (fun k hk k' hk' => ha k (hm k hk) k' (hm k' hk'))
  | n + 1, sub, us, W, hn, hsub, hcl, hS, hf, ha => by
    have hok' := hok
    unfold makersOk at hok'
    rw [List.all_eq_true] at hok'
    have hc := hok' _ (filter_subs (fun k => sub.contains k) ks)
    have hse : ∀ i, (ks.filter fun k => sub.contains k).contains i = sub.contains i := fun i => by
      by_cases hi : i ∈ sub
      · rw [List.contains_iff_mem.2 hi, List.contains_iff_mem.2 (List.mem_filter.2 ⟨hsub i hi, List.contains_iff_mem.2 hi⟩)]
      · rw [Bool.eq_false_iff.2 (fun h => hi (List.contains_iff_mem.1 h)), Bool.eq_false_iff.2 (fun h => hi (List.contains_iff_mem.1 (List.mem_filter.1 (List.contains_iff_mem.1 h)).2))]
    rw [setAll_same L _ sub hse] at hc
    have hnall : ks.all (ks.filter fun k => sub.contains k).contains = false := by
      rw [Bool.eq_false_iff]
      intro h
      rw [List.all_eq_true] at h
      unfold leftN at hn
      have h0 : (ks.filter fun k => !sub.contains k) = [] := List.filter_eq_nil_iff.2 fun k hk => by
        have := h k hk
        rw [hse] at this
        simp [List.contains_iff_mem.1 this]
      rw [h0] at hn
      cases hn
    have hclf : ((ks.filter fun k => sub.contains k).all fun k => closedP ops (setAll L sub) k) = true := by
      rw [List.all_eq_true]
      exact fun k hk => hcl k (List.contains_iff_mem.1 (List.mem_filter.1 hk).2)
    rw [hnall, hclf, Bool.not_true, Bool.or_false, Bool.false_or, Bool.and_eq_true] at hc
    obtain ⟨hne, hrd⟩ := hc
    rw [List.all_eq_true] at hrd
    rw [show n + 1 + f1 = n + f1 + 1 by omega]
    refine ⟨fun h0 => (by rw [h0] at hne; cases hne), fun k hk => ?_⟩
    have hk' := hrd k hk
    rw [Bool.and_eq_true, List.contains_iff_mem] at hk'
    obtain ⟨hks, hnd'⟩ := hk'
    rw [List.all_eq_true] at hnd'
    obtain ⟨hun, ok, hoi, hed⟩ := mem_ready.1 hk
    have hget : ops.getD k default = ok := by simp [hoi]
    have hkn : sub.contains k = false := by
      by_cases hkL : k < L.size
      · have := setAll_get L k hkL sub
        rw [Array.getD_eq_getD_getElem?, this] at hun
        simp only [Option.getD_some, Bool.or_eq_false_iff] at hun
        exact hun.2
      · rw [Array.getD_eq_getD_getElem?, Array.getElem?_eq_none (by rw [size_setAll]; omega)] at hun
        cases hun
    have hr := (hrun k hks us W hS (fun k' hk'' => hf k' (by
      have := hnd' k' hk''
      rw [hse] at this
      exact List.contains_iff_mem.1 this))).out
    have key : ∀ v W', S W' → fact k v W' → Below W.heap.size W W' → (∀ g, v = ptrB g → W.heap.size ≤ g) → wpAnyH P .any ops (NoPanic Q) S (n + f1) (setAll L (k :: sub)) (mk (upd us (slot k) v)) W' := fun v W' hS' hv hb hg => by
      have hother : ∀ k' ∈ sub, upd us (slot k) v (slot k') = us (slot k') := fun k' hk'' => upd_other _ _ _ _ (fun e => by
        have := hslot k' (hsub k' hk'') k hks e
        subst this
        rw [List.contains_iff_mem.2 hk''] at hkn
        cases hkn)
      refine wpAnyH_makers0 mk L ks need slot fact f1 hok hnd hslot hstep hlt hrun htail n (k :: sub) _ W' (by have := leftN_cons sub k hkn ks hnd hks; omega) ?_ ?_ hS' ?_ ?_
      · intro k' hk''
        rcases List.mem_cons.1 hk'' with rfl | hk''
        · exact hks
        · exact hsub k' hk''
      · intro k' hk''
        refine closedP_step ops (setAll L sub) k k' ?_
        rcases List.mem_cons.1 hk'' with rfl | hk''
        · unfold closedP
          rw [hget, List.all_eq_true]
          intro e he
          by_cases hb : Region.binds .any e = true
          · rw [hed e (by simpa using he) hb]; simp
          · simp [hb]
        · exact hcl k' hk''
      · intro k' hk''
        rcases List.mem_cons.1 hk'' with rfl | hk''
        · rw [upd_same]; exact hv
        · rw [hother k' hk'']; exact hstep k' (hsub k' hk'') _ _ _ (hf k' hk'') hb
      · intro k1 m1 k2 m2 hne' g hp hq
        rcases List.mem_cons.1 m1 with e1 | h1
        · rw [e1, upd_same] at hp
          rcases List.mem_cons.1 m2 with e2 | h2
          · exact hne' (e1.trans e2.symm)
          · rw [hother k2 h2] at hq
            have := hf k2 h2
            rw [hq] at this
            have := hlt k2 (hsub k2 h2) _ _ this
            have := hg g hp
            omega
        · rw [hother k1 h1] at hp
          rcases List.mem_cons.1 m2 with e2 | h2
          · rw [e2, upd_same] at hq
            have := hf k1 h1
            rw [hp] at this
            have := hlt k1 (hsub k1 h1) _ _ this
            have := hg g hq
            omega
          · rw [hother k2 h2] at hq
            exact ha k1 h1 k2 h2 hne' g hp hq
    simp only [wpMix0, hget] at hr
    unfold wpOp
    simp only [hoi]
    show (if Region.wanted ok (yielded ops (mk us).tmps) = true then _ else _)
    by_cases hw : Region.wanted ok (yielded ops (mk us).tmps) = true
    · rw [if_pos hw] at hr ⊢
      refine .inl (Oper.wp_mono (fun a' w' hh => ?_) hr)
      obtain ⟨g1, v, rfl, h1, h2, h3⟩ := hh
      exact ⟨g1, key v w' g1 h1 h2 h3⟩
    · rw [if_neg hw] at hr ⊢
      obtain ⟨v, ha', h1, h2, h3⟩ := hr
      rw [ha']
      exact ⟨hS, key v W hS h1 h2 h3⟩
theorem wpAnyH_makers (mk : (Nat → Value) → Act) (ks : List Nat) (need : Nat → List Nat) (slot : Nat → Nat) (fact : Nat → Value → World → Prop) (f1 : Nat) {L : Array Bool} {us : Nat → Value} {W : World}
    (hok : makersOk ops L ks need = true) (hnd : ks.Nodup) (hslot : ∀ k ∈ ks, ∀ k' ∈ ks, slot k = slot k' → k = k')
    (hstep : ∀ k ∈ ks, ∀ v W W', fact k v W → Below W.heap.size W W' → fact k v W') (hlt : ∀ k ∈ ks, ∀ g W, fact k (ptrB g) W → g < W.heap.size) (hS : S W)
    (hrun : ∀ k ∈ ks, ∀ us W, S W → (∀ k' ∈ need k, fact k' (us (slot k')) W) →
      wpMix P ops S Q (fun a W' => ∃ v, a = mk (upd us (slot k) v) ∧ fact k v W' ∧ Below W.heap.size W W' ∧ ∀ g, v = ptrB g → W.heap.size ≤ g) [(ops.getD k default, false)] (mk us) W)
    (htail : ∀ us W, S W → (∀ k ∈ ks, fact k (us (slot k)) W) → (∀ k ∈ ks, ∀ k' ∈ ks, k ≠ k' → ∀ g, us (slot k) = ptrB g → us (slot k') ≠ ptrB g) → wpAnyH P .any ops (NoPanic Q) S f1 (setAll L ks) (mk us) W) :
    wpAnyH P .any ops (NoPanic Q) S (leftN ks [] + f1) L (mk us) W :=
  wpAnyH_makers0 mk L ks need slot fact f1 hok hnd hslot hstep hlt hrun htail _ [] us W rfl (fun k h => by cases h) (fun k h => by cases h) hS (fun k h => by cases h) (fun k h => by cases h)
end
/-- what is known of a value that has come up -/
structure Fc where
  ok : Value → World → Prop
  step : ∀ v W W', ok v W → Below W.heap.size W W' → ok v W'
  lt : ∀ g W, ok (ptrB g) W → g < W.heap.size
def Fc.val (x : Value) (hx : ∀ g, x ≠ ptrB g) : Fc := ⟨fun v _ => v = x, fun _ _ _ h _ => h, fun g _ h => absurd h.symm (hx g)⟩
def putAll (a : Act) (us : Nat → Value) : List Nat → Act
  | [] => a
  | s :: l => (putAll a us l).put (some s) (us s)
theorem wpAnyH_many {P : Program} {ops : Array Oper} {Q : Exit → Act → World → Prop} {S : World → Prop} (ks : List Nat) (need : Nat → List Nat) (slot : Nat → Nat) (fc : Nat → Fc) (slots : List Nat) (f1 : Nat) {L : Array Bool} {a : Act} {W : World} (us0 : Nat → Value)
    (hok : makersOk ops L ks need = true) (hnd : ks.Nodup) (hslot : ∀ k ∈ ks, ∀ k' ∈ ks, slot k = slot k' → k = k') (h0 : putAll a us0 slots = a) (hS : S W)
    (hrun : ∀ k ∈ ks, ∀ us W, S W → (∀ k' ∈ need k, (fc k').ok (us (slot k')) W) →
      wpMix P ops S Q (fun a' W' => ∃ v, a' = putAll a (upd us (slot k) v) slots ∧ (fc k).ok v W' ∧ Below W.heap.size W W' ∧ ∀ g, v = ptrB g → W.heap.size ≤ g) [(ops.getD k default, false)] (putAll a us slots) W)
    (htail : ∀ us W, S W → (∀ k ∈ ks, (fc k).ok (us (slot k)) W) → (∀ k ∈ ks, ∀ k' ∈ ks, k ≠ k' → ∀ g, us (slot k) = ptrB g → us (slot k') ≠ ptrB g) → wpAnyH P .any ops (NoPanic Q) S f1 (setAll L ks) (putAll a us slots) W) :
    wpAnyH P .any ops (NoPanic Q) S (leftN ks [] + f1) L a W := by
  have := wpAnyH_makers (P := P) (Q := Q) (S := S) (fun us => putAll a us slots) ks need slot (fun k => (fc k).ok) f1 (us := us0) hok hnd hslot (fun k _ => (fc k).step) (fun k _ => (fc k).lt) hS hrun htail
  rwa [h0] at this
end Go.Proofs.YtfhmjgkcpcnkbaaDoor
/- A hash variable that comes up among others. -/
namespace Go.Proofs.YtfhmjgkcpcnkbaaDoor
open Go Go.RowKit

def Fc.hash (N : Nat) (l : List UInt8) : Fc := ⟨fun v W => ∃ g, v = ptrB g ∧ HV W g l ∧ N ≤ g, fun _ _ _ ⟨g, h1, h2, h3⟩ hb => ⟨g, h1, h2.step hb, h3⟩, fun g W ⟨g', h1, h2, _⟩ => by cases h1; exact h2.lt⟩
end Go.Proofs.YtfhmjgkcpcnkbaaDoor
/- Pairs held against each other; a pair's variable that comes up among others; clashes. -/
namespace Go.Proofs.YtfhmjgkcpcnkbaaDoor
open Go Go.RowKit Go.Shelf

theorem run_equalIn_hash (d : Nat) (xs ys : List UInt8) (hx : xs.length = 32) (hy : ys.length = 32) (W : World) : (Op.equalIn (d + 2) 48 (.agg (xs.map B).toArray) (.agg (ys.map B).toArray)).run Tryd.prog W = .ok (xs == ys) W :=
  run_equalIn_ints (P := Tryd.prog) (fun x : UInt8 => (x.toNat : Int)) eqB (t := 48) (e := 5) (N := 32) Tryd.underlying48 (by kernel_rfl) size25e agg25e d xs ys hx hy W
theorem part_hash (x y : List UInt8) (hx : x.length = 32) (hy : y.length = 32) (W : World) : (part 48 ((x ++ y).map B).toArray 0).run Tryd.prog W = .ok (.agg (x.map B).toArray) W ∧ (part 48 ((x ++ y).map B).toArray 32).run Tryd.prog W = .ok (.agg (y.map B).toArray) W := by
  have e1 : ((x ++ y).map B).toArray.extract 0 32 = (x.map B).toArray := by
    apply Array.ext_getElem?
    intro i
    simp only [Array.getElem?_extract, List.getElem?_toArray, List.map_append, List.size_toArray, List.length_append, List.length_map, hx, hy, Nat.zero_add]
    by_cases h : i < 32
    · rw [if_pos (by omega), List.getElem?_append_left (by rw [List.length_map, hx]; exact h)]
    · rw [if_neg (by omega), List.getElem?_eq_none (by rw [List.length_map, hx]; omega)]
  have e2 : ((x ++ y).map B).toArray.extract 32 (32 + 32) = (y.map B).toArray := by
    apply Array.ext_getElem?
    intro i
    simp only [Array.getElem?_extract, List.getElem?_toArray, List.map_append, List.size_toArray, List.length_append, List.length_map, hx, hy]
    by_cases h : i < 32
    · rw [if_pos (by omega), List.getElem?_append_right (by rw [List.length_map, hx]; omega), List.length_map, hx, show 32 + i - 32 = i by omega]
    · rw [if_neg (by omega), List.getElem?_eq_none (by rw [List.length_map, hy]; omega)]
  refine ⟨?_, ?_⟩
  · simp only [part, Sem.run_bind, agg26, size26, Result.andThen_ok, if_true, Sem.run_pure, Nat.zero_add]
    rw [e1]
  · simp only [part, Sem.run_bind, agg26, size26, Result.andThen_ok, if_true, Sem.run_pure]
    rw [e2]
section
variable {ops : Array Oper} {Q : Exit → Act → World → Prop} {S : World → Prop} {R : Act → World → Prop} {o : Oper} {l : List (Oper × Bool)} {a : Act} {w : World}
end
/-- bytes that are new, and stay -/
def Fc.bytes (N : Nat) (l : List UInt8) : Fc := ⟨fun v W => ∃ A c, v = .slice A l.length c ∧ W.ownsRow N 5 1 v l.length (l.map B), fun _ _ _ ⟨A, c, h1, h2⟩ hb => ⟨A, c, h1, owns_step h2 hb⟩, fun g W ⟨A, c, h1, _⟩ => by cases h1⟩

/-- a clash that is told: two rows of one's own -/
structure ClV (base : Nat) (c : PairV) (v : Value) (W : World) : Prop where
  ex : ∃ v1 v2, v = .agg #[v1, v2] ∧ W.ownsRow base 5 1 v1 c.1.length (c.1.map B) ∧ W.ownsRow base 5 1 v2 c.2.length (c.2.map B)
theorem ClV.step {base : Nat} {c : PairV} {v : Value} {W W' : World} (h : ClV base c v W) (hb : Below W.heap.size W W') : ClV base c v W' :=
  let ⟨v1, v2, h1, h2, h3⟩ := h.ex; ⟨v1, v2, h1, owns_step h2 hb, owns_step h3 hb⟩
theorem ClV.le {base b' : Nat} {c : PairV} {v : Value} {W : World} (h : ClV base c v W) (hb : b' ≤ base) : ClV b' c v W :=
  let ⟨v1, v2, h1, h2, h3⟩ := h.ex; ⟨v1, v2, h1, owns_le h2 hb, owns_le h3 hb⟩
abbrev zeroClash : Value := .agg #[.slice none 0 0, .slice none 0 0]
theorem ClV.zero (base : Nat) (W : World) : ClV base noC zeroClash W := ⟨_, _, rfl, World.ownsRow_nil _ _ _ _, World.ownsRow_nil _ _ _ _⟩
end Go.Proofs.YtfhmjgkcpcnkbaaDoor
/- tree.lie. -/
namespace Go.Proofs.YtfhmjgkcpcnkbaaDoor
open Go Go.RowKit Go.Shelf
attribute [local go_sem] Oper.semAt_some

section
variable {w : World} {ops : Array Oper} {rest : List Oper} {o : Oper} {a : Act} {Q : Exit → Act → World → Prop}
end
/-- the answer of tree.lie -/
def LieR (base : Nat) (r : Option (PairV × PairV) × List (List UInt8)) (e : Ending) (W : World) : Prop :=
  match r with
  | (some (p, h), _) => ∃ v, e = .returned (.tuple #[v, .slice none 0 0, .bool true]) ∧ ClV base (nodeD p, nodeD h) v W
  | (none, rest) => ∃ A n c, e = .returned (.tuple #[zeroClash, .slice A n c, .bool false]) ∧ Es W (fun _ => True) A n c rest
theorem lieF_step (H : Hf) (b : Bool) (way : List Bool) (p : PairV) (sd : List PairV) (d : List (List UInt8)) (h : p = (rootA H (d.take (splitN d.length)), rootA H (d.drop (splitN d.length)))) :
    lieF H (b :: way) (p :: sd) d = lieF H way sd (if b = true then d.drop (splitN d.length) else d.take (splitN d.length)) := by
  conv => lhs; unfold lieF
  rw [if_pos h]
theorem lieF_stop (H : Hf) (b : Bool) (way : List Bool) (p : PairV) (sd : List PairV) (d : List (List UInt8)) (h : p ≠ (rootA H (d.take (splitN d.length)), rootA H (d.drop (splitN d.length)))) :
    lieF H (b :: way) (p :: sd) d = (some (p, (rootA H (d.take (splitN d.length)), rootA H (d.drop (splitN d.length)))), d) := by
  conv => lhs; unfold lieF
  rw [if_neg h]
end Go.Proofs.YtfhmjgkcpcnkbaaDoor
/- Too much; bytes held against each other; is it a clash. -/
namespace Go.Proofs.YtfhmjgkcpcnkbaaDoor
open Go Go.RowKit Go.Shelf
attribute [local go_sem] Oper.semAt_some

def longB (x : List UInt8) : Bool := decide (4096 < x.length)
/-- where the first one is that is too long -/
def firstLong : List (List UInt8) → Nat → Int
  | [], _ => -1
  | x :: l, k => if longB x = true then (k : Int) else firstLong l (k + 1)
theorem firstLong_any : ∀ (l : List (List UInt8)) (k : Nat), decide ((0 : Int) ≤ firstLong l k) = l.any longB
  | [], k => by simp [firstLong]
  | x :: l, k => by
    unfold firstLong
    rw [List.any_cons]
    split
    · rename_i h; rw [h]; simp
    · rename_i h; rw [firstLong_any l (k + 1)]; simp [h]
end Go.Proofs.YtfhmjgkcpcnkbaaDoor
/- For audit.Incl: operations, and its answer (plain). -/
namespace Go.Proofs.YtfhmjgkcpcnkbaaDoor
open Go Go.RowKit Go.Shelf
attribute [local go_sem] Oper.semAt_some

theorem below_of_grown9 {n g : Nat} {w w' : World} (h : w.grownBy w' (some g)) (hn : n ≤ g) (hsz : n ≤ w.heap.size) : Below n w w' :=
  ⟨h.os, h.tape, h.output, h.size, fun k hk => h.block k (Nat.lt_of_lt_of_le hk hsz) (fun e => by have := Option.some.inj e; omega)⟩
theorem run_eqnil (f : Nat) (W : World) : (binOp .eql 97 (hval f) .nilFunc).run Tryd.prog W = .ok (.bool false) W := by
  have hu : Tryd.prog.underlying 97 = some (.func #[104] #[48] false) := by kernel_rfl
  have heq : (Op.equalIn (9999 + 1) 97 (hval f) .nilFunc).run Tryd.prog W = .ok false W := by
    generalize 9999 = D
    simp only [Op.equalIn, Sem.run_bind, run_underlying hu, Result.andThen_ok, Sem.run_pure]
  have e : (binOp .eql 97 (hval f) .nilFunc).run Tryd.prog W = ((Op.equalIn 10000 97 (hval f) .nilFunc).run Tryd.prog W).andThen fun b w' => .ok (.bool b) w' := by
    simp only [binOp, Op.equal, Op.maxDepth, Sem.run_bind, Sem.run_pure]
  rw [e, show (10000 : Nat) = 9999 + 1 from rfl, heq]
  rfl
theorem run_neqnil (f : Nat) (W : World) : (binOp .neq 97 (hval f) .nilFunc).run Tryd.prog W = .ok (.bool true) W := by
  have hu : Tryd.prog.underlying 97 = some (.func #[104] #[48] false) := by kernel_rfl
  have heq : (Op.equalIn (9999 + 1) 97 (hval f) .nilFunc).run Tryd.prog W = .ok false W := by
    generalize 9999 = D
    simp only [Op.equalIn, Sem.run_bind, run_underlying hu, Result.andThen_ok, Sem.run_pure]
  have e : (binOp .neq 97 (hval f) .nilFunc).run Tryd.prog W = ((Op.equalIn 10000 97 (hval f) .nilFunc).run Tryd.prog W).andThen fun b w' => .ok (.bool (!b)) w' := by
    simp only [binOp, Op.equal, Op.maxDepth, Sem.run_bind, Sem.run_pure]
  rw [e, show (10000 : Nat) = 9999 + 1 from rfl, heq]
  rfl
theorem run_eqnil_op {ρ : Operand → Value} {o : Oper} {f : Nat} (x y : Operand) (ty : TypeId) (ho : o.op = .binOp .eql 97 x y ty) (hx : ρ x = hval f) (hy : ρ y = .nilFunc) (W : World) : (execOp ρ o).run Tryd.prog W = .ok (.value (.bool false)) W := by
  have hg : eqGuard .eql 97 x y (hval f) .nilFunc = pure () := rfl
  unfold execOp
  simp only [ho, hx, hy, hg, Sem.run_bind, Sem.run_pure, run_eqnil, Result.andThen_ok]
theorem run_neqnil_op {ρ : Operand → Value} {o : Oper} {f : Nat} (x y : Operand) (ty : TypeId) (ho : o.op = .binOp .neq 97 x y ty) (hx : ρ x = hval f) (hy : ρ y = .nilFunc) (W : World) : (execOp ρ o).run Tryd.prog W = .ok (.value (.bool true)) W := by
  have hg : eqGuard .neq 97 x y (hval f) .nilFunc = pure () := rfl
  unfold execOp
  simp only [ho, hx, hy, hg, Sem.run_bind, Sem.run_pure, run_neqnil, Result.andThen_ok]
theorem inclC_2 (H : Hf) (d : List (List UInt8)) (i : Int) (e : List UInt8) (pf : List (List UInt8)) (h : bigD d = true ∨ 4096 < e.length) : inclC H d i e pf = (noC, 2) := by unfold inclC; rw [if_pos h]
theorem inclC_4 (H : Hf) (d : List (List UInt8)) (i : Int) (e : List UInt8) (pf : List (List UInt8)) (h : ¬ (bigD d = true ∨ 4096 < e.length)) (h2 : i < 0 ∨ (d.length : Int) ≤ i) : inclC H d i e pf = (noC, 4) := by unfold inclC; rw [if_neg h, if_pos h2]
/-- what is shown behind a function's body, as one word (the walk does not look into it) -/
structure BP (P : Program) (fn : Func) (R : Ending → World → Prop) (ex : Exit) (a : Act) (w : World) : Prop where
  out : bodyPost P fn R ex a w
theorem lieF_sub (H : Hf) : ∀ (way : List Bool) (sd : List PairV) (d : List (List UInt8)), ∀ x ∈ (lieF H way sd d).2, x ∈ d
  | [], sd, d => by cases sd <;> exact fun x hx => hx
  | b :: way, [], d => fun x hx => hx
  | b :: way, p :: sd, d => by
    unfold lieF
    split
    · intro x hx
      have h := lieF_sub H way sd _ x hx
      split at h
      · exact List.mem_of_mem_drop h
      · exact List.mem_of_mem_take h
    · exact fun x hx => hx
def inclM (H : Hf) (way : List Bool) (sd : List PairV) (d : List (List UInt8)) (e : List UInt8) : PairV × Int :=
  match lieF H way sd d with
  | (some (p, h), _) => ((nodeD p, nodeD h), 0)
  | (none, rest) => if e = rest.getD 0 [] then (noC, 231) else ((leafD e, leafD (rest.getD 0 [])), 0)
theorem inclC_n (H : Hf) (d : List (List UInt8)) (i : Nat) (e : List UInt8) (pf : List (List UInt8)) (h : ¬ (bigD d = true ∨ 4096 < e.length)) (h2 : i < d.length) : inclC H d i e pf =
    if pf.length ≠ (wayI i d.length).length then (noC, (230 : Int)) else if atI H (wayI i d.length) pf (H (leafD e)) pf.length ≠ rootA H d then (noC, 230)
    else inclM H (wayI i d.length) (saidL H (wayI i d.length) pf (H (leafD e))) d e := by
  unfold inclC
  rw [if_neg h, if_neg (by omega), Int.toNat_natCast]
  rfl
theorem bigD_not (d : List (List UInt8)) (h : bigD d = false) : d.length ≤ 65536 ∧ ∀ x ∈ d, x.length ≤ 4096 := by
  unfold bigD at h
  rw [Bool.or_eq_false_iff] at h
  refine ⟨by simpa using h.1, fun x hx => ?_⟩
  have := List.any_eq_false.1 h.2 x hx
  simpa using this

theorem run_extract_op {P : Program} {ρ : Operand → Value} {o : Oper} (x : Operand) (k : Nat) (ho : o.op = .extract x k) (t : Array Value) (hx : ρ x = .tuple t) (v : Value) (hv : t[k]? = some v) (W : World) : (execOp ρ o).run P W = .ok (.value v) W := by
  unfold execOp
  simp only [ho, hx, Instr.extract, hv, Sem.run_bind, Sem.run_pure, Result.andThen_ok]
theorem Prs.apart {w : World} {X : Nat → Prop} {A : Option Addr} {n c : Nat} {qs : List PairV} {g : Nat} {l : List UInt8} (h : Prs w X A n c qs) (k : HV w g l) : Prs w (fun b => X b ∧ b ≠ g) A n c qs := by
  refine ⟨⟨fun hne => ?_, h.sl.len, h.sl.room, h.sl.nil, h.sl.max⟩, h.len, h.all⟩
  obtain ⟨b, o, h1, h2, h3, h4⟩ := h.sl.bs hne
  refine ⟨b, o, h1, h2, ⟨h3, fun e => ?_⟩, h4⟩
  subst e
  have hlen := prcells_len qs h.all
  have hq : 0 < qs.length := by
    rcases Nat.eq_zero_or_pos qs.length with e | e
    · rw [List.length_eq_zero_iff.1 e] at hne; exact absurd rfl hne
    · exact e
  have h5 := h4 32 _ (List.getElem?_eq_getElem (by rw [hlen]; omega))
  rw [k.blk.cell, Array.getElem?_eq_none (by simp [k.len])] at h5
  cases h5
theorem Prs.grown {w w' : World} {X : Nat → Prop} {A : Option Addr} {n c : Nat} {qs : List PairV} {row : Option Nat} (h : Prs w X A n c qs) (hg : w.grownBy w' row) (hX : ∀ b, b < w.heap.size → X b → some b ≠ row) : Prs w' X A n c qs := ⟨h.sl.grown hg hX, h.len, h.all⟩
theorem wpMix_hsetG {w : World} {ops : Array Oper} {S : World → Prop} {Q : Exit → Act → World → Prop} {R : Act → World → Prop} {l : List (Oper × Bool)} {o : Oper} {a : Act} {m m' : List UInt8} {g : Nat} (x y : Operand) (hg : o.guard = none) (ho : o.op = .store 48 x y) (k : HV w g m') (hx : a.eval x = .pointer (some ⟨g, 0, none⟩)) (hy : a.eval y = .agg (m.map B).toArray) (hl : m.length = 32) (hS : ∀ W, Below g w W → S W)
    (h : ∀ W, HV W g m → Below g w W → w.grownBy W (some g) → wpMix Tryd.prog ops S Q R l (a.put o.dst undef) W) : wpMix Tryd.prog ops S Q R ((o, false) :: l) a w := by
  have hb : Below g w (w.setRow g (m.map B).toArray) := below_setRow (Below.refl _ _) (Nat.le_refl _) _
  exact wpMix_store_blk hg 48 x y ho 32 size26 g (m.map B).toArray hx hy (by simp [hl]) (oneCell_B _) 48 _ k.blk (by simp [k.len]) (hS _ hb) (h _ ⟨k.blk.setRow_ _, hl⟩ hb (grown_setRow (grown_of_below (Below.refl _ _) _) _))
def Fc.prs (N L : Nat) (sd : List PairV) : Fc := ⟨fun v W => ∃ A c, v = .slice A L c ∧ Prs W (N ≤ ·) A L c sd, fun _ _ _ ⟨A, c, h1, h2⟩ hb => ⟨A, c, h1, h2.step hb⟩, fun g W ⟨A, c, h1, _⟩ => by cases h1⟩
def Fc.said (N L : Nat) (sd : List PairV) (x : Value) : Fc := ⟨fun v W => ∃ A c, v = .tuple #[.slice A L c, x] ∧ Prs W (N ≤ ·) A L c sd, fun _ _ _ ⟨A, c, h1, h2⟩ hb => ⟨A, c, h1, h2.step hb⟩, fun g W ⟨A, c, h1, _⟩ => by cases h1⟩

end Go.Proofs.YtfhmjgkcpcnkbaaDoor
/- As MixT, where what is waited for lies farther back. No program in sight. -/
namespace Go.Proofs.YtfhmjgkcpcnkbaaDoor
open Go

section
variable {P : Program} {ops : Array Oper} {Q : Exit → Act → World → Prop} {md : Region.Mode} {S : World → Prop} {k : Nat}
def waitsT7 (md : Region.Mode) (ops : Array Oper) (k i : Nat) : Bool := waitsF md ops 6 k i
theorem waitsT_spec7 {listed : Array Bool} {j i : Nat} {oj : Oper} (hcl : Cl md ops listed) (hoj : ops[j]? = some oj) (hall : ∀ e ∈ oj.after, Region.binds md e = true → listed.getD e.on false = true) (h : waitsT7 md ops j i = true) : listed.getD i false = true :=
  waitsF_spec hcl 6 j oj hoj hall h

theorem wpAnyT_first7 {i : Nat} {oi : Oper} {v : Value} (hi : ops[i]? = some oi) (hsel : ∀ (j : Nat) (o : Oper) cs b, ops[j]? = some o → o.op ≠ .select cs b) (hw : ∀ j, k ≤ j → j < ops.size → waitsT7 md ops j i = true)
    (hQ : ∀ c a w, Q (.panic c) (a.put oi.dst v) w → Q (.panic c) a w) :
    ∀ (fuel : Nat) (listed : Array Bool) (a : Act) (w : World), Cl md ops listed →
      (∀ j oj, ops[j]? = some oj → j ≠ i → listed.getD j true = false → (∀ e ∈ oj.after, Region.binds md e = true → e.on ≠ i) → oi.apart ops oj = true) →
      i ∈ Region.ready md ops listed → YieldsIf P ops S oi v a → S w →
      wpAnyT P md ops Q S k fuel (listed.setIfInBounds i true) (a.put oi.dst v) w → wpAnyT P md ops Q S k (fuel + 1) listed a w := by
  intro fuel
  induction fuel with
  | zero =>
    intro listed a w _ _ hr hy hS H
    refine ⟨fun h => (by rw [h] at hr; cases hr), fun j hj => ?_⟩
    by_cases hji : j = i
    · subst hji; exact hy.wpOp hi hS ⟨fun _ => hS, H⟩
    · have := ready_mono hj hji
      rw [H.1] at this
      cases this
  | succ fuel ih =>
    intro listed a w hcl hfree hr hy hS H
    refine ⟨fun h => (by rw [h] at hr; cases hr), fun j hj => ?_⟩
    by_cases hji : j = i
    · subst hji; exact hy.wpOp hi hS ⟨fun _ => hS, H⟩
    · have h1 := H.2 j (ready_mono hj hji)
      obtain ⟨hjun, oj, hoj, hall⟩ := mem_ready.1 hj
      have hnot : ∀ e ∈ oj.after, Region.binds md e = true → e.on ≠ i := fun e he hb heq => by
        have h1 := hall e he hb
        have h0 := (mem_ready.1 hr).1
        rw [heq] at h1
        rcases Nat.lt_or_ge i listed.size with h' | h'
        · simp [h'] at h0 h1; rw [h0] at h1; cases h1
        · simp [Array.getElem?_eq_none h'] at h1
      have hjk : j < k := by
        rcases Nat.lt_or_ge j k with h' | h'
        · exact h'
        · exfalso
          have hl := waitsT_spec7 hcl hoj hall (hw j h' (Array.getElem?_eq_some_iff.1 hoj).1)
          have h0 := (mem_ready.1 hr).1
          rcases Nat.lt_or_ge i listed.size with h' | h'
          · simp [h'] at h0 hl; rw [h0] at hl; cases hl
          · simp [Array.getElem?_eq_none h'] at hl
      have h2 := wpOp_putIf hoj (hfree j oj hoj hji hjun hnot) (fun cs b => hsel i oi cs b hi) (fun cs b => hsel j oj cs b hoj) hQ hy h1
      have hfree' : ∀ m ok, ops[m]? = some ok → m ≠ i → (listed.setIfInBounds j true).getD m true = false →
          (∀ e ∈ ok.after, Region.binds md e = true → e.on ≠ i) → oi.apart ops ok = true := fun m ok hm hmi hun hno => by
        refine hfree m ok hm hmi ?_ hno
        by_cases hjm : j = m
        · subst hjm; exact hjun
        · rw [getD_set_ne true hjm] at hun; exact hun
      refine wpOp_mono (fun a' w' h3 => ⟨fun _ => h3.2.1 hjk, ih (listed.setIfInBounds j true) a' w' (hcl.put hj) hfree' (ready_mono hr (Ne.symm hji)) h3.1 (h3.2.1 hjk) ?_⟩) h2
      rw [Array.setIfInBounds_comm _ _ hji]
      exact h3.2.2

theorem wpAnyT_pre7 (hsel : Region.noSelect ops = true) (f : Nat) (listed' : Array Bool) : ∀ (l : List (Nat × Bool)) (listed : Array Bool) (a : Act) (w : World), mixTo ops l listed = some listed' →
    (l.all fun x => (decide (x.1 < k)) && (!x.2 || ((List.range ops.size).all fun j => decide (j < k) || waitsT7 .any ops j x.1))) = true → Cl .any ops listed → S w →
    wpMix0 P ops S Q (fun a w => S w → wpAnyT P .any ops (NoPanic Q) S k f listed' a w) (l.map fun x => (ops.getD x.1 default, x.2)) a w → wpAnyT P .any ops (NoPanic Q) S k (l.length + f) listed a w
  | [], listed, a, w, hB, _, _, hS, h => by
    simp only [mixTo, Option.some.injEq] at hB
    subst hB
    simpa using h hS
  | (i, true) :: l, listed, a, w, hB, hall, hcl, hS, h => by
    simp only [List.all_cons, Bool.and_eq_true, Bool.not_true, Bool.false_or] at hall
    simp only [mixTo] at hB
    split at hB
    case isFalse => cases hB
    rename_i hB0
    simp only [Bool.and_eq_true] at hB0
    obtain ⟨hr, hf⟩ := hB0
    have hr' : i ∈ Region.ready .any ops listed := by simpa using hr
    obtain ⟨_, oi, hoi, _⟩ := mem_ready.1 hr'
    have hget : ops.getD i default = oi := by simp [hoi]
    simp only [List.map_cons, wpMix0, hget] at h
    have hy : ∃ v, YieldsIf P ops S oi v a ∧ wpMix0 P ops S Q (fun a w => S w → wpAnyT P .any ops (NoPanic Q) S k f listed' a w) (l.map fun x => (ops.getD x.1 default, x.2)) (a.put oi.dst v) w := by
      by_cases hw : Region.wanted oi (yielded ops a.tmps) = true
      · rw [if_pos hw] at h
        obtain ⟨v, h1, h2⟩ := h
        exact ⟨v, .inl ⟨hw, fun w' hw' => h1 ⟨w', hw'⟩⟩, h2⟩
      · rw [if_neg hw] at h
        exact ⟨undef, .inr ⟨by simpa using hw, rfl⟩, h⟩
    obtain ⟨v, hy, h2⟩ := hy
    have := wpAnyT_first7 hoi (Region.noSelect_spec hsel) (fun j hkj hj => by have := List.all_eq_true.1 hall.1.2 j (List.mem_range.2 hj); simp only [Bool.or_eq_true, decide_eq_true_eq] at this; rcases this with h' | h'; exact absurd h' (by omega); exact h') (fun _ _ _ hp => hp) (l.length + f) listed a w hcl (Region.free_spec hoi hf) hr' hy hS
      (wpAnyT_pre7 hsel f listed' l _ _ w hB hall.2 (hcl.put hr') hS h2)
    rw [List.length_cons, show l.length + 1 + f = l.length + f + 1 by omega]
    exact this
  | (i, false) :: l, listed, a, w, hB, hall, hcl, hS, h => by
    simp only [List.all_cons, Bool.and_eq_true] at hall
    simp only [mixTo] at hB
    split at hB
    case isFalse => cases hB
    rename_i hB0
    have hr : Region.ready .any ops listed = [i] := by simpa using hB0
    have hr' : i ∈ Region.ready .any ops listed := by rw [hr]; simp
    obtain ⟨_, oi, hoi, _⟩ := mem_ready.1 hr'
    have hget : ops.getD i default = oi := by simp [hoi]
    simp only [List.map_cons, wpMix0, hget] at h
    rw [List.length_cons, show l.length + 1 + f = l.length + f + 1 by omega]
    refine ⟨fun h0 => (by rw [h0] at hr; cases hr), fun j hj => ?_⟩
    rw [hr] at hj
    obtain rfl : j = i := by simpa using hj
    unfold wpOp
    simp only [hoi]
    by_cases hw : Region.wanted oi (yielded ops a.tmps) = true
    · rw [if_pos hw] at h ⊢
      exact .inl (Oper.wp_mono (fun a' w' ⟨h1, h2⟩ => ⟨fun _ => h1, wpAnyT_pre7 hsel f listed' l _ a' w' hB hall.2 (hcl.put hr') h1 h2⟩) h)
    · rw [if_neg hw] at h ⊢
      exact ⟨fun _ => hS, wpAnyT_pre7 hsel f listed' l _ _ w hB hall.2 (hcl.put hr') hS h⟩
end


def mixTailOk7 (l : List Oper) (n : Nat) (order : List (Nat × Bool)) : Bool :=
  Region.noSelect l.toArray && (order.length == n) && (decide (n ≤ l.length)) && (order.all fun x => (decide (x.1 < n)) && (!x.2 || ((List.range l.toArray.size).all fun j => decide (j < n) || waitsT7 .any l.toArray j x.1))) &&
    ((mixTo l.toArray order (Array.replicate l.length false)).map fun x => tailOk l.toArray (l.length - n) n x).getD false
theorem wpAny_mix_tail7 {P : Program} {Q : Exit → Act → World → Prop} {a : Act} {w : World} {l : List Oper} (S : World → Prop) (n : Nat) (order : List (Nat × Bool)) (hB : mixTailOk7 l n order = true) (hS : S w.drew)
    (h : Nonempty (InC S) → wpMix0 P l.toArray S Q (fun a w => S w → wpList P l.toArray (NoPanic Q) (l.drop n) a w) (order.map fun x => (l.toArray.getD x.1 default, x.2)) a w.drew) :
    wpAny P .any l.toArray (NoPanic Q) l.length (Array.replicate l.length false) a w.drew := by
  unfold mixTailOk7 at hB
  simp only [Bool.and_eq_true, beq_iff_eq, decide_eq_true_eq] at hB
  obtain ⟨⟨⟨⟨hsel, hlen⟩, hn⟩, hall⟩, hmix⟩ := hB
  cases hx : mixTo l.toArray order (Array.replicate l.length false) with
  | none => rw [hx] at hmix; cases hmix
  | some listed' =>
    rw [hx] at hmix
    simp only [Option.map_some, Option.getD_some] at hmix
    have := wpAnyT_pre7 (P := P) (Q := Q) (S := S) (k := n) hsel (l.length - n) listed' order (Array.replicate l.length false) a w.drew hx hall (fun m om hm hl => by simp only [Array.getD_eq_getD_getElem?, Array.getElem?_replicate] at hl; split at hl <;> cases hl) hS
      (wpMix0_mono _ _ _ (fun a' w' h' hs => wpAnyT_tail _ n _ _ _ (Nat.le_refl _) (by omega) hmix (h' hs)) _ _ (h ⟨⟨_, hS⟩⟩))
    have := wpAny_of_T _ _ _ _ this
    rwa [hlen, show n + (l.length - n) = l.length by omega] at this
theorem wp_region_mix_tail7 {P : Program} {id : Nat} {Q : Exit → Act → World → Prop} {a : Act} {w : World} {l : List Oper} (S : World → Prop) (n : Nat) (order : List (Nat × Bool)) (hm : P.follows .mixedOrders = true) (hB : mixTailOk7 l n order = true) (hS : S w.drew)
    (h : Nonempty (InC S) → wpMix P l.toArray S Q (fun a w => S w → wpList P l.toArray (NoPanic Q) (l.drop n) a w) (order.map fun x => (l.toArray.getD x.1 default, x.2)) a w.drew) : (Code.region id l.toArray true).wp P Q a w := by
  refine Code.wp_mono (Q := NoPanic Q) NoPanic.imp (wp_region_any hm ?_)
  have := wpAny_mix_tail7 S n order hB hS fun hne => (h hne).out
  simpa using this
theorem wpIn_region_mix_tail7 {P : Program} {id : Nat} {Q : Exit → Act → World → Prop} {a : Act} {w : World} {l : List Oper} {F : Fence} {m : Nat} (hF : Fence.Open F) (hnd : noDefer l = true) (hout : ∀ a w, ¬ Q .outgrown a w) (S : World → Prop) (n : Nat) (order : List (Nat × Bool)) (hm : P.follows .mixedOrders = true) (hB : mixTailOk7 l n order = true) (hS : S w.drew)
    (h : Nonempty (InC S) → wpMix P l.toArray S Q (fun a w => S w → wpList P l.toArray (NoPanic Q) (l.drop n) a w) (order.map fun x => (l.toArray.getD x.1 default, x.2)) a w.drew) : (Code.region id l.toArray true).wpIn F m P Q a w := by
  refine wpIn_mono (Q := NoPanic Q) (wpIn_region_any hm (wpAnyIn_of_any hF (by simpa using hnd) hout _ _ _ _ ?_)) NoPanic.imp
  have := wpAny_mix_tail7 S n order hB hS fun hne => (h hne).out
  simpa using this
end Go.Proofs.YtfhmjgkcpcnkbaaDoor
