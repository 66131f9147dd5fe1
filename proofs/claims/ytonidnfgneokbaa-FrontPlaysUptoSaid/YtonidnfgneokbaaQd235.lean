/- For FrontPlays: three fronts and their answers, copies, what is read, which are the same. -/
import Derived.Test.YtonidnfgneokbaaQd233
import Derived.Test.YtonidnfgneokbaaQd234
import Derived.Test.YtonidnfgneokbaaQd210
namespace Go.Proofs.Ytonidnfgneokbaa
open Go Go.RowKit Go.Shelf
attribute [local go_sem] Oper.semAt_some

theorem copy_o (v : Value) (o : Option FrV) (w : World) (h : HasO w v o) : Calls Try.prog 63 #[v] w fun e w' => ∃ v', e = .returned v' ∧ HasO w' v' o ∧ (∀ b, AtB v' b → w.heap.size ≤ b) ∧ Below w.heap.size w w' := by
  rcases h with ⟨rfl, rfl⟩ | ⟨g, ps, rfl, rfl, h3, h4⟩
  · exact (fcopy_nil w).mono fun e w' ⟨h1, h2⟩ => ⟨_, h1, .inl ⟨rfl, rfl⟩, fun b hb => (by cases hb), by rw [h2]; exact Below.refl _ _⟩
  · exact (fcopy_any g ps w h3 h4).mono fun e w' ⟨g', h1, h2, h5, h6⟩ => ⟨_, h1, .inr ⟨g', ps, rfl, rfl, h5, h4⟩, fun b hb => by cases hb; exact h2, h6⟩
theorem rcopy_o (v : Value) (o : Option FrV) (w : World) (h : HasR w v o) : Calls Try.prog 57 #[v] w fun e w' => ∃ v', e = .returned v' ∧ HasR w' v' o ∧ (∀ b, AtB v' b → w.heap.size ≤ b) ∧ Below w.heap.size w w' := by
  rcases h with ⟨rfl, rfl⟩ | ⟨g, ps, rfl, rfl, h3, h4⟩
  · exact (rfcopy_nil w).mono fun e w' ⟨h1, h2⟩ => ⟨_, h1, .inl ⟨rfl, rfl⟩, fun b hb => (by cases hb), by rw [h2]; exact Below.refl _ _⟩
  · exact (rfcopy_any g ps w h3).mono fun e w' ⟨h1, h5, h6⟩ => ⟨_, h1, .inr ⟨_, ps, rfl, rfl, h5, h4⟩, fun b hb => by cases hb; exact Nat.le_refl _, h6⟩
def errO : Option FrV → Int | none => 200 | some _ => 0
theorem readF_nil : readF [] = (none, 200) := by
  rcases readF_two [] with ⟨ps, h⟩ | h
  · have := (readF_some [] ps (by rw [h])).2
    have hl := congrArg List.length this
    rw [length_bytesF _ (readF_some [] ps (by rw [h])).1.h32] at hl
    simp at hl
  · exact h
theorem readF_o {W : World} {v : Value} {o : Option FrV} (h : HasO W v o) : readF (bytesO o) = (o, errO o) := by
  rcases h with ⟨rfl, _⟩ | ⟨g, ps, rfl, _, _, h4⟩
  · exact readF_nil
  · exact readF_bytes ps h4
theorem FrOpt.hasO {W : World} {lo : Nat} {v : Value} {o : Option FrV} (h : FrOpt W lo v o) (hok : ∀ ps, o = some ps → FrOk ps) : HasO W v o ∧ ∀ b, AtB v b → lo ≤ b := by
  rcases h with ⟨rfl, rfl⟩ | ⟨g, ps, rfl, rfl, h3, h4⟩
  · exact ⟨.inl ⟨rfl, rfl⟩, fun b hb => by cases hb⟩
  · exact ⟨.inr ⟨g, ps, rfl, rfl, h4.fro, hok ps rfl⟩, fun b hb => by cases hb; exact h3⟩
theorem FrPOpt.hasR {W : World} {lo : Nat} {v : Value} {o : Option FrV} (h : FrPOpt W lo v o) (hok : ∀ ps, o = some ps → FrOk ps) : HasR W v o ∧ ∀ b, AtB v b → lo ≤ b := by
  rcases h with ⟨rfl, rfl⟩ | ⟨g, ps, rfl, rfl, h3, h4⟩
  · exact ⟨.inl ⟨rfl, rfl⟩, fun b hb => by cases hb⟩
  · exact ⟨.inr ⟨g, ps, rfl, rfl, h4.frp, hok ps rfl⟩, fun b hb => by cases hb; exact h3⟩
theorem HasO.ok' {W : World} {v : Value} {o : Option FrV} (h : HasO W v o) : ∀ ps, o = some ps → FrOk ps := fun ps e => by
  rcases h with ⟨rfl, _⟩ | ⟨g, qs, rfl, _, _, h4⟩
  · cases e
  · cases e; exact h4
theorem read_o (v : Value) (o : Option FrV) (w : World) (h : HasO w v o) (A : Option Addr) (n c : Nat) (w1 : World) (hs : Sl w1 (fun _ => True) A n c (bytesO o)) : Calls Try.prog 47 #[.slice A n c] w1 fun e w' => ∃ v', e = .returned (.tuple #[v', .int .i64 (errO o)]) ∧ HasO w' v' o ∧ (∀ b, AtB v' b → w1.heap.size ≤ b) ∧ Below w1.heap.size w1 w' := by
  have hn : n ≤ 1000000000 := by have := h.fewB; have := hs.len; omega
  have hc := fread_any (bytesO o) A n c w1 hs hn
  rw [readF_o h] at hc
  exact hc.mono fun e w' ⟨v', h1, h2, h3⟩ => ⟨v', h1, (h2.hasO h.ok').1, (h2.hasO h.ok').2, h3⟩
theorem rread_o (v : Value) (o : Option FrV) (w : World) (h : HasO w v o) (A : Option Addr) (n c : Nat) (w1 : World) (hs : Sl w1 (fun _ => True) A n c (bytesO o)) : Calls Try.prog 53 #[.slice A n c] w1 fun e w' => ∃ v', e = .returned (.tuple #[v', .int .i64 (errO o)]) ∧ HasR w' v' o ∧ (∀ b, AtB v' b → w1.heap.size ≤ b) ∧ Below w1.heap.size w1 w' := by
  have hn : n ≤ 1000000000 := by have := h.fewB; have := hs.len; omega
  have hc := rfread_any (bytesO o) A n c w1 hs hn
  rw [readF_o h] at hc
  exact hc.mono fun e w' ⟨v', h1, h2, h3⟩ => ⟨v', h1, (h2.hasR h.ok').1, (h2.hasR h.ok').2, h3⟩
def sameO : Option FrV → Option FrV → Bool | some a, some b => decide (a = b) | _, _ => false
theorem same_o (v v' : Value) (o o' : Option FrV) (w : World) (h : HasO w v o) (h' : HasO w v' o') : Calls Try.prog 52 #[v, v'] w fun e w' => e = .returned (.bool (sameO o o')) ∧ Below w.heap.size w w' := by
  rcases h with ⟨rfl, rfl⟩ | ⟨g, ps, rfl, rfl, h3, h4⟩
  · refine (fsame_nilL v' w ?_).mono fun e w' ⟨h1, h2⟩ => ⟨h1, by rw [h2]; exact Below.refl _ _⟩
    rcases h' with ⟨_, rfl⟩ | ⟨g, _, _, rfl, _⟩
    · exact .inl rfl
    · exact .inr ⟨g, rfl⟩
  · rcases h' with ⟨rfl, rfl⟩ | ⟨g', qs, rfl, rfl, h5, h6⟩
    · exact (fsame_nilR g w).mono fun e w' ⟨h1, h2⟩ => ⟨h1, by rw [h2]; exact Below.refl _ _⟩
    · exact fsame_any g g' ps qs w h3 h5
theorem rsame_o (v v' : Value) (o o' : Option FrV) (w : World) (h : HasR w v o) (h' : HasR w v' o') : Calls Try.prog 65 #[v, v'] w fun e w' => e = .returned (.bool (sameO o o')) ∧ Below w.heap.size w w' := by
  rcases h with ⟨rfl, rfl⟩ | ⟨g, ps, rfl, rfl, h3, h4⟩
  · refine rfsame_nilL v' w ?_
    rcases h' with ⟨_, rfl⟩ | ⟨g, _, _, rfl, _⟩
    · exact .inl rfl
    · exact .inr ⟨g, rfl⟩
  · rcases h' with ⟨rfl, rfl⟩ | ⟨g', qs, rfl, rfl, h5, h6⟩
    · exact rfsame_nilR g w
    · exact rfsame_any g g' ps qs w h3 h5
/-- a remainder by three, from 0 on -/
def plN (n : Int) : Nat := (n % 3).toNat
theorem plN_lt (n : Int) : plN n < 3 := by unfold plN; omega
set_option maxHeartbeats 2000000 in
set_option maxRecDepth 100000 in
theorem place_any (n : Int) (w : World) : Calls Try.prog 62 #[.int .i64 n] w fun e w' => e = .returned (.int .i64 (plN n : Int)) ∧ w' = w := by
  obtain ⟨r, hr⟩ : ∃ r, n.tmod 3 = r := ⟨_, rfl⟩
  have h1 : -3 < r := by rw [← hr]; exact Int.lt_tmod_of_pos n (by omega)
  have h2 : r < 3 := by rw [← hr]; exact Int.tmod_lt_of_pos n (by omega)
  have h3 : (plN n : Int) = if r < 0 then r + 3 else r := by
    unfold plN
    have := Int.tmod_def n 3
    have h4 := Int.mul_tdiv_add_tmod n 3
    rw [hr] at h4
    split <;> omega
  have Hr := Lib.hid hr
  rw [h3]
  clear hr h3
  by_cases h0 : r < 0
  · rw [if_pos h0]
    have hd : decide (r < 0) = true := by simpa using h0
    have hw : IntKind.i64.wrap (r + 3) = r + 3 := IntWalk.i64_in _ (by omega)
    go_enter Try.func62, Try.ntmps62
    go_wp2_with (rw [Hr.out])
    go_ret
    exact ⟨rfl, rfl⟩
  · rw [if_neg h0]
    have hd : decide (r < 0) = false := by simpa using h0
    go_enter Try.func62, Try.ntmps62
    go_wp2_with (rw [Hr.out])
    go_ret
    exact ⟨rfl, rfl⟩
/-- three things, the one at k another -/
def set3 {α : Type} (f : Nat → α) (k : Nat) (x : α) : Nat → α := fun i => if i = k then x else f i
theorem get3 (f : Nat → Value) (i : Nat) (h : i < 3) : (#[f 0, f 1, f 2] : Array Value)[i]? = some (f i) := by
  match i, h with
  | 0, _ => rfl
  | 1, _ => rfl
  | 2, _ => rfl
theorem put3 (f : Nat → Value) (i : Nat) (x : Value) (h : i < 3) : (#[f 0, f 1, f 2] : Array Value).setIfInBounds i x = #[set3 f i x 0, set3 f i x 1, set3 f i x 2] := by
  match i, h with
  | 0, _ => rfl
  | 1, _ => rfl
  | 2, _ => rfl
/-- three fronts, and the document's three -/
structure PlI (w : World) (g11 g12 : Nat) (tv rv : Nat → Value) (o : Nat → Option FrV) (W : World) : Prop where
  t : Blk W g11 101 #[tv 0, tv 1, tv 2]
  r : Blk W g12 102 #[rv 0, rv 1, rv 2]
  ho : ∀ i, i < 3 → HasO W (tv i) (o i)
  hr : ∀ i, i < 3 → HasR W (rv i) (o i)
  dt : ∀ i j, i < 3 → j < 3 → i ≠ j → ∀ b, AtB (tv i) b → ¬ AtB (tv j) b
  dr : ∀ i j, i < 3 → j < 3 → i ≠ j → ∀ b, AtB (rv i) b → ¬ AtB (rv j) b
  lt : ∀ i, i < 3 → ∀ b, AtB (tv i) b ∨ AtB (rv i) b → w.heap.size ≤ b
  bel : Below w.heap.size w W
  l1 : w.heap.size ≤ g11
  l2 : w.heap.size ≤ g12
theorem HasO.typ {W : World} {v : Value} {o : Option FrV} (h : HasO W v o) {b : Nat} (hb : AtB v b) : ∃ x, Blk W b 107 #[x] := by
  rcases h with ⟨_, rfl⟩ | ⟨g, ps, _, rfl, ⟨A, n, c, h1, _⟩, _⟩
  · cases hb
  · cases hb; exact ⟨_, h1⟩
theorem HasR.typ {W : World} {v : Value} {o : Option FrV} (h : HasR W v o) {b : Nat} (hb : AtB v b) : ∃ x, Blk W b 91 #[x] := by
  rcases h with ⟨_, rfl⟩ | ⟨g, ps, _, rfl, ⟨A, n, c, h1, _⟩, _⟩
  · cases hb
  · cases hb; exact ⟨_, h1⟩
theorem HasO.apartR {W : World} {v r : Value} {o o' : Option FrV} (h : HasO W v o) (h' : HasR W r o') : ∀ b, AtB v b → ¬ AtB r b := fun b hb hr => by
  obtain ⟨x, h1⟩ := h.typ hb
  obtain ⟨y, h2⟩ := h'.typ hr
  have e : W.heap[b]? = _ := h1
  rw [show W.heap[b]? = _ from h2] at e
  cases e
theorem HasO.ne3 {W : World} {v : Value} {o : Option FrV} (h : HasO W v o) {g : Nat} {T : TypeId} {x y z : Value} (k : Blk W g T #[x, y, z]) : ¬ AtB v g := fun hb => by
  obtain ⟨u, h1⟩ := h.typ hb
  have e : W.heap[g]? = _ := h1
  rw [show W.heap[g]? = _ from k] at e
  cases e
theorem HasR.ne3 {W : World} {v : Value} {o : Option FrV} (h : HasR W v o) {g : Nat} {T : TypeId} {x y z : Value} (k : Blk W g T #[x, y, z]) : ¬ AtB v g := fun hb => by
  obtain ⟨u, h1⟩ := h.typ hb
  have e : W.heap[g]? = _ := h1
  rw [show W.heap[g]? = _ from k] at e
  cases e
section
variable {w W W' : World} {g11 g12 : Nat} {tv rv : Nat → Value} {o : Nat → Option FrV}
theorem PlI.step (h : PlI w g11 g12 tv rv o W) (hb : Below W.heap.size W W') : PlI w g11 g12 tv rv o W' :=
  ⟨h.t.step hb, h.r.step hb, fun i hi => (h.ho i hi).step hb, fun i hi => (h.hr i hi).step hb, h.dt, h.dr, h.lt, h.bel.trans (hb.mono h.bel.size), h.l1, h.l2⟩
theorem PlI.notM (h : PlI w g11 g12 tv rv o W) (k : Nat) (hk : k < 3) : ¬ MfM (tv k) (rv k) g11 ∧ ¬ MfM (tv k) (rv k) g12 :=
  ⟨fun e => e.elim ((h.ho k hk).ne3 h.t) ((h.hr k hk).ne3 h.t), fun e => e.elim ((h.ho k hk).ne3 h.r) ((h.hr k hk).ne3 h.r)⟩
/-- one pair turns -/
theorem PlI.turn (h : PlI w g11 g12 tv rv o W) (k : Nat) (hk : k < 3) {q : Option FrV} (hkb : KB (MfM (tv k) (rv k)) W W') (h1 : HasO W' (tv k) q) (h2 : HasR W' (rv k) q) : PlI w g11 g12 tv rv (set3 o k q) W' := by
  have hM : SmallM (MfM (tv k) (rv k)) W := (h.ho k hk).both (h.hr k hk)
  obtain ⟨n1, n2⟩ := h.notM k hk
  refine ⟨hkb.blk h.t n1, hkb.blk h.r n2, fun i hi => ?_, fun i hi => ?_, h.dt, h.dr, h.lt, h.bel.trans (hkb.below (fun b hb => h.lt k hk b hb) h.bel.size), h.l1, h.l2⟩
  · by_cases e : i = k
    · subst e; rw [show set3 o i q i = q from if_pos rfl]; exact h1
    · rw [show set3 o k q i = o i from if_neg e]
      exact (h.ho i hi).kb hkb hM fun b hb hm => hm.elim (fun h' => h.dt i k hi hk e b hb h') fun h' => (h.ho i hi).apartR (h.hr k hk) b hb h'
  · by_cases e : i = k
    · subst e; rw [show set3 o i q i = q from if_pos rfl]; exact h2
    · rw [show set3 o k q i = o i from if_neg e]
      exact (h.hr i hi).kb hkb hM fun b hb hm => hm.elim (fun h' => (h.ho k hk).apartR (h.hr i hi) b h' hb) fun h' => h.dr i k hi hk e b hb h'
/-- another front takes a place -/
theorem PlI.putT (h : PlI w g11 g12 tv rv o W) (k : Nat) (hk : k < 3) {N : Nat} {v r : Value} {q : Option FrV} (h1 : HasO W v q) (h2 : HasR W r q) (hN : ∀ i, i < 3 → ∀ b, AtB (tv i) b ∨ AtB (rv i) b → b < N) (hv : ∀ b, AtB v b → N ≤ b) (hr : ∀ b, AtB r b → N ≤ b) (hw : w.heap.size ≤ N) :
    PlI w g11 g12 (set3 tv k v) (set3 rv k r) (set3 o k q) ((W.setCell ⟨g11, k, none⟩ v).setCell ⟨g12, k, none⟩ r) := by
  have hne : g11 ≠ g12 := fun e => by
    have e1 : W.heap[g11]? = _ := h.t
    rw [e, show W.heap[g12]? = _ from h.r] at e1
    injection e1 with e1
    injection e1 with _ e2 _
    exact absurd e2 (by decide)
  obtain ⟨W1, hW1⟩ : ∃ x, W.setCell ⟨g11, k, none⟩ v = x := ⟨_, rfl⟩
  have hg1 : W.grownBy W1 (some g11) := by rw [← hW1]; exact grown_setCell (grown_of_below (Below.refl _ _) _) k v
  have t1 : Blk W1 g11 101 #[set3 tv k v 0, set3 tv k v 1, set3 tv k v 2] := by rw [← hW1, ← put3 tv k v hk]; exact h.t.set_ k v
  have r1 : Blk W1 g12 102 #[rv 0, rv 1, rv 2] := h.r.grown hg1 (fun e => hne (Option.some.inj e).symm)
  rw [hW1]
  obtain ⟨W2, hW2⟩ : ∃ x, W1.setCell ⟨g12, k, none⟩ r = x := ⟨_, rfl⟩
  have hg2 : W1.grownBy W2 (some g12) := by rw [← hW2]; exact grown_setCell (grown_of_below (Below.refl _ _) _) k r
  have r2 : Blk W2 g12 102 #[set3 rv k r 0, set3 rv k r 1, set3 rv k r 2] := by rw [← hW2, ← put3 rv k r hk]; exact r1.set_ k r
  have t2 : Blk W2 g11 101 #[set3 tv k v 0, set3 tv k v 1, set3 tv k v 2] := t1.grown hg2 (fun e => hne (Option.some.inj e))
  rw [hW2]
  have hkb : KB (fun b => b = g11 ∨ b = g12) W W2 := (KB.of_grown hg1 fun r e => .inl (Option.some.inj e).symm).trans (KB.of_grown hg2 fun r e => .inr (Option.some.inj e).symm)
  have hM : SmallM (fun b => b = g11 ∨ b = g12) W := fun b hb => by
    rcases hb with rfl | rfl
    · exact ⟨_, _, h.t, by simp⟩
    · exact ⟨_, _, h.r, by simp⟩
  have ko : ∀ {v' : Value} {q' : Option FrV}, HasO W v' q' → HasO W2 v' q' := fun hh => hh.kb hkb hM fun b hb hm => hm.elim (fun e => by subst e; exact hh.ne3 h.t hb) fun e => by subst e; exact hh.ne3 h.r hb
  have kr : ∀ {v' : Value} {q' : Option FrV}, HasR W v' q' → HasR W2 v' q' := fun hh => hh.kb hkb hM fun b hb hm => hm.elim (fun e => by subst e; exact hh.ne3 h.t hb) fun e => by subst e; exact hh.ne3 h.r hb
  have hl1 := h.l1
  have hl2 := h.l2
  refine ⟨t2, r2, fun i hi => ?_, fun i hi => ?_, fun i j hi hj hij b hb hb' => ?_, fun i j hi hj hij b hb hb' => ?_, fun i hi b hb => ?_, h.bel.trans (hkb.below (fun b hb => by rcases hb with rfl | rfl <;> assumption) h.bel.size), hl1, hl2⟩
  · by_cases e : i = k
    · subst e; rw [show set3 tv i v i = v from if_pos rfl, show set3 o i q i = q from if_pos rfl]; exact ko h1
    · rw [show set3 tv k v i = tv i from if_neg e, show set3 o k q i = o i from if_neg e]; exact ko (h.ho i hi)
  · by_cases e : i = k
    · subst e; rw [show set3 rv i r i = r from if_pos rfl, show set3 o i q i = q from if_pos rfl]; exact kr h2
    · rw [show set3 rv k r i = rv i from if_neg e, show set3 o k q i = o i from if_neg e]; exact kr (h.hr i hi)
  · by_cases e : i = k
    · by_cases e' : j = k
      · omega
      · rw [show set3 tv k v i = v from if_pos e] at hb
        rw [show set3 tv k v j = tv j from if_neg e'] at hb'
        have := hv b hb
        have := hN j hj b (.inl hb')
        omega
    · rw [show set3 tv k v i = tv i from if_neg e] at hb
      by_cases e' : j = k
      · rw [show set3 tv k v j = v from if_pos e'] at hb'
        have := hv b hb'
        have := hN i hi b (.inl hb)
        omega
      · rw [show set3 tv k v j = tv j from if_neg e'] at hb'
        exact h.dt i j hi hj hij b hb hb'
  · by_cases e : i = k
    · by_cases e' : j = k
      · omega
      · rw [show set3 rv k r i = r from if_pos e] at hb
        rw [show set3 rv k r j = rv j from if_neg e'] at hb'
        have := hr b hb
        have := hN j hj b (.inr hb')
        omega
    · rw [show set3 rv k r i = rv i from if_neg e] at hb
      by_cases e' : j = k
      · rw [show set3 rv k r j = r from if_pos e'] at hb'
        have := hr b hb'
        have := hN i hi b (.inr hb)
        omega
      · rw [show set3 rv k r j = rv j from if_neg e'] at hb'
        exact h.dr i j hi hj hij b hb hb'
  · by_cases e : i = k
    · rw [show set3 tv k v i = v from if_pos e, show set3 rv k r i = r from if_pos e] at hb
      rcases hb with hb | hb
      · have := hv b hb; omega
      · have := hr b hb; omega
    · rw [show set3 tv k v i = tv i from if_neg e, show set3 rv k r i = rv i from if_neg e] at hb
      exact h.lt i hi b hb
theorem PlI.below_ (h : PlI w g11 g12 tv rv o W) : ∀ i, i < 3 → ∀ b, AtB (tv i) b ∨ AtB (rv i) b → b < W.heap.size := fun i hi _ hb => hb.elim (fun h' => (h.ho i hi).lt h') fun h' => (h.hr i hi).lt h'
theorem PlI.cellT (h : PlI w g11 g12 tv rv o W) (i : Nat) (hi : i < 3) : W.cell? ⟨g11, i, none⟩ = some (tv i) := by rw [h.t.cell]; exact get3 tv i hi
theorem PlI.cellR (h : PlI w g11 g12 tv rv o W) (i : Nat) (hi : i < 3) : W.cell? ⟨g12, i, none⟩ = some (rv i) := by rw [h.r.cell]; exact get3 rv i hi
end
end Go.Proofs.Ytonidnfgneokbaa
/- For FrontPlays: a script of steps in memory; pointers held against nil; a variable of many cells. -/
namespace Go.Proofs.Ytonidnfgneokbaa
open Go Go.RowKit Go.Shelf
attribute [local go_sem] Oper.semAt_some

/-- a step, as its cells lie and what they hold -/
structure StepD where
  kd : Int
  wh : Int
  tv : Int
  lv : Int
  N : Int
  eA : Option Addr
  en : Nat
  ec : Nat
  es : List (List UInt8)
  hA : Option Addr
  hn : Nat
  hc : Nat
  hs : List (List UInt8)
def StepD.cells (s : StepD) : Array Value := stepCells s.kd s.wh s.tv s.lv s.N s.eA s.en s.ec s.hA s.hn s.hc
theorem StepD.one (s : StepD) : ∀ v ∈ s.cells.toList, v.oneCell' = true := fun v hv => by
  simp only [StepD.cells, stepCells, List.mem_cons, List.not_mem_nil, or_false] at hv
  rcases hv with rfl | rfl | rfl | rfl | rfl | rfl | rfl <;> rfl
/-- a script in memory that was there -/
structure Scr (W : World) (A : Option Addr) (n c : Nat) (ss : List StepD) : Prop where
  at_ : ∀ i (h : i < ss.length), ∃ b o, A = some ⟨b, o, none⟩ ∧ b < W.heap.size ∧ ∀ j v, (ss[i]).cells[j]? = some v → W.cell? ⟨b, o + i * 7 + j, none⟩ = some v
  ins : ∀ s ∈ ss, Es W (· < W.heap.size) s.eA s.en s.ec s.es ∧ Hs W (· < W.heap.size) s.hA s.hn s.hc s.hs ∧ s.en ≤ 2097152 ∧ s.hn ≤ 1000000000 ∧ ∀ x ∈ s.es, x.length ≤ 1073741824
  len : ss.length = n
  room : n ≤ c
  max : c ≤ maxLen
theorem aggStep : ∀ w : World, (isAgg 96).run Try.prog w = .ok true w := fun _ => by kernel_rfl
theorem sizeStep : ∀ w : World, (sizeOf 96).run Try.prog w = .ok 7 w := fun _ => by kernel_rfl
theorem Scr.load {w W : World} {A : Option Addr} {n c : Nat} {ss : List StepD} (h : Scr w A n c ss) (hb : Below w.heap.size w W) (i : Nat) (hi : i < ss.length) {b o : Nat} (hA : A = some ⟨b, o, none⟩) :
    (Instr.loadAt 96 (.pointer (some ⟨b, o + i * 7, none⟩))).run Try.prog W = .ok (.agg (ss[i]).cells) W := by
  obtain ⟨b', o', e, hlt, hc⟩ := h.at_ i hi
  rw [hA] at e
  cases e
  have := run_load_agg (P := Try.prog) (aggStep W) (sizeStep W) b (o + i * 7) (ss[i]).cells.toList rfl fun j u hu => by
    rw [hb.cell (p := ⟨b, o + i * 7 + j, none⟩) hlt]
    exact hc j u (by rw [← Array.getElem?_toList]; exact hu)
  exact this
theorem load_step {W : World} {g : Nat} {s : StepD} (k : Blk W g 96 s.cells) : (Instr.loadAt 96 (.pointer (some ⟨g, 0, none⟩))).run Try.prog W = .ok (.agg s.cells) W := by
  have := run_load_agg (P := Try.prog) (aggStep W) (sizeStep W) g 0 s.cells.toList rfl fun j u hu => by
    rw [Nat.zero_add, k.cell, ← Array.getElem?_toList]
    exact hu
  exact this
section
variable {P : Program} {w : World} {ops : Array Oper} {rest : List Oper} {o1 o2 : Oper} {a : Act} {Q : Exit → Act → World → Prop}
/-- a variable of many cells is made and filled -/
theorem wpList_varA {T : TypeId} {zs cs : Array Value} (n : Nat) (x y : Operand) (hg1 : o1.guard = none) (hg2 : o2.guard = none) (hz : (execOp a.eval o1).run P w = .ok (.value (.pointer (some ⟨w.heap.size, 0, none⟩))) (w.alloc (.cells zs T))) (hsz : ∀ w : World, (sizeOf T).run P w = .ok n w) (ho2 : o2.op = .store T x y)
    (hx : (a.put o1.dst (.pointer (some ⟨w.heap.size, 0, none⟩))).eval x = .pointer (some ⟨w.heap.size, 0, none⟩)) (hy : (a.put o1.dst (.pointer (some ⟨w.heap.size, 0, none⟩))).eval y = .agg cs) (hn : cs.size = n) (hzs : zs.size = n) (hv : ∀ v ∈ cs.toList, v.oneCell' = true)
    (h : ∀ W, Blk W w.heap.size T cs → Below w.heap.size w W → wpList P ops Q rest ((a.put o1.dst (.pointer (some ⟨w.heap.size, 0, none⟩))).put o2.dst undef) W) : wpList P ops Q (o1 :: o2 :: rest) a w := by
  refine wpList_run hg1 (.pointer (some ⟨w.heap.size, 0, none⟩)) (w.alloc (.cells zs T)) hz ?_
  refine wpList_store_blk hg2 T x y ho2 n hsz w.heap.size cs hx hy hn hv T zs (Blk.new w T zs) hzs ?_
  exact h _ ((Blk.new w T zs).setRow_ _) (below_setRow ((Below.refl _ _).alloc (Nat.le_refl _) _) (Nat.le_refl _) _)
end
theorem run_put1 {P : Program} (ty : TypeId) (hsz : ∀ w : World, (sizeOf ty).run P w = .ok 1 w) (v : Value) (hv : v.oneCell' = true) (p : Addr) (w : World) (u : Value) (hc : w.cell? p = some u) (hf : w.frozen? p = false) :
    (Instr.storeAt ty (.pointer (some p)) v).run P w = .ok () (w.setCell p v) := by
  have h1 : (store p v).run P w = .ok () (w.setCell p v) := by rw [run_store _ _ _ _ _ hv, hc]; simp [hf]
  have hp : p.add 0 = p := rfl
  simp [Instr.storeAt, Instr.sureAddr, storeVar, one_cells hv, hsz, storeCells, Sem.run_bind, hp, h1]
theorem wpMix_put1 {P : Program} {ops : Array Oper} {S : World → Prop} {Q : Exit → Act → World → Prop} {R : Act → World → Prop} {o : Oper} {l : List (Oper × Bool)} {a : Act} {w : World} (hw : Region.wanted o (yielded ops a.tmps) = true) (ty : TypeId) (x y : Operand) (ho : o.op = .store ty x y) (hsz : ∀ w : World, (sizeOf ty).run P w = .ok 1 w)
    (p : Addr) (v : Value) (hx : a.eval x = .pointer (some p)) (hy : a.eval y = v) (hv : v.oneCell' = true) (u : Value) (hc : w.cell? p = some u) (hf : w.frozen? p = false) (hS : S (w.setCell p v))
    (h : wpMix P ops S Q R l (a.put o.dst undef) (w.setCell p v)) : wpMix P ops S Q R ((o, false) :: l) a w := by
  refine ⟨?_⟩
  unfold wpMix0
  rw [if_pos hw]
  unfold Oper.wp execOp
  simp only [ho, hx, hy, run_put1 ty hsz v hv p w u hc hf, Sem.run_bind, Sem.run_pure, Result.andThen_ok, Oper.upon]
  exact ⟨hS, h.out⟩
theorem wpList_put1i {P : Program} {w : World} {ops : Array Oper} {rest : List Oper} {o : Oper} {a : Act} {Q : Exit → Act → World → Prop} (hgd : o.guard = none) (ty : TypeId) (x y : Operand) (ho : o.op = .store ty x y) (hsz : ∀ w : World, (sizeOf ty).run P w = .ok 1 w)
    (p : Addr) (v : Value) (hx : a.eval x = .pointer (some p)) (hy : a.eval y = v) (hv : v.oneCell' = true) (u : Value) (hc : w.cell? p = some u) (hf : w.frozen? p = false) (h : wpList P ops Q rest (a.put o.dst undef) (w.setCell p v)) : wpList P ops Q (o :: rest) a w :=
  wpList_plain hgd fun _ hK => by
    unfold Oper.wp execOp
    simp only [ho, hx, hy, run_put1 ty hsz v hv p w u hc hf, Sem.run_bind, Sem.run_pure, Result.andThen_ok, Oper.upon]
    exact hK _ _ h
theorem nil_o {W : World} {v : Value} {o : Option FrV} (h : HasO W v o) {ρ : Operand → Value} {op : Oper} (x : Operand) (ty : TypeId) (ho : op.op = .binOp .eql 61 x (.const (.pointer none)) ty) (hx : ρ x = v) (hc : ρ (.const (.pointer none)) = .pointer none) (W' : World) :
    (execOp ρ op).run Try.prog W' = .ok (.value (.bool o.isNone)) W' := by
  unfold execOp
  simp only [ho, hx, hc]
  rcases h with ⟨rfl, rfl⟩ | ⟨g, ps, rfl, rfl, _, _⟩
  · kernel_rfl
  · kernel_rfl
theorem nil_r {W : World} {v : Value} {o : Option FrV} (h : HasR W v o) {ρ : Operand → Value} {op : Oper} (x : Operand) (ty : TypeId) (ho : op.op = .binOp .eql 79 x (.const (.pointer none)) ty) (hx : ρ x = v) (hc : ρ (.const (.pointer none)) = .pointer none) (W' : World) :
    (execOp ρ op).run Try.prog W' = .ok (.value (.bool o.isNone)) W' := by
  unfold execOp
  simp only [ho, hx, hc]
  rcases h with ⟨rfl, rfl⟩ | ⟨g, ps, rfl, rfl, _, _⟩
  · kernel_rfl
  · kernel_rfl
theorem sizeT3 : ∀ w : World, (sizeOf 101).run Try.prog w = .ok 3 w := fun _ => by kernel_rfl
theorem sizeR3 : ∀ w : World, (sizeOf 102).run Try.prog w = .ok 3 w := fun _ => by kernel_rfl
theorem build_t3 {W : World} {v : Value} {o : Option FrV} (h : HasO W v o) (g : Nat) {ρ : Operand → Value} {op : Oper} (x y : Operand) (ho : op.op = .build 101 #[(0, x), (1, y), (2, .const (.pointer none))]) (hx : ρ x = fptr g) (hy : ρ y = v) (hc : ρ (.const (.pointer none)) = .pointer none) (W' : World) :
    (execOp ρ op).run Try.prog W' = .ok (.value (.agg #[fptr g, v, .pointer none])) W' := by
  unfold execOp
  simp only [ho]
  simp only [List.map_toArray, List.map_cons, List.map_nil, hx, hy, hc]
  rcases h with ⟨rfl, rfl⟩ | ⟨g, ps, rfl, rfl, _, _⟩
  · kernel_rfl
  · kernel_rfl
theorem build_r3 {W : World} {v : Value} {o : Option FrV} (h : HasR W v o) (g : Nat) {ρ : Operand → Value} {op : Oper} (x y : Operand) (ho : op.op = .build 102 #[(0, x), (1, y), (2, .const (.pointer none))]) (hx : ρ x = fptr g) (hy : ρ y = v) (hc : ρ (.const (.pointer none)) = .pointer none) (W' : World) :
    (execOp ρ op).run Try.prog W' = .ok (.value (.agg #[fptr g, v, .pointer none])) W' := by
  unfold execOp
  simp only [ho]
  simp only [List.map_toArray, List.map_cons, List.map_nil, hx, hy, hc]
  rcases h with ⟨rfl, rfl⟩ | ⟨g, ps, rfl, rfl, _, _⟩
  · kernel_rfl
  · kernel_rfl
theorem HasO.neT {W : World} {v : Value} {o : Option FrV} (h : HasO W v o) {g : Nat} {T : TypeId} {cs : Array Value} (k : Blk W g T cs) (hT : T ≠ 107) : ¬ AtB v g := fun hb => by
  obtain ⟨u, h1⟩ := h.typ hb
  have e : W.heap[g]? = _ := h1
  rw [show W.heap[g]? = _ from k] at e
  injection e with e
  injection e with _ e2 _
  exact hT e2
theorem HasR.neT {W : World} {v : Value} {o : Option FrV} (h : HasR W v o) {g : Nat} {T : TypeId} {cs : Array Value} (k : Blk W g T cs) (hT : T ≠ 91) : ¬ AtB v g := fun hb => by
  obtain ⟨u, h1⟩ := h.typ hb
  have e : W.heap[g]? = _ := h1
  rw [show W.heap[g]? = _ from k] at e
  injection e with e
  injection e with _ e2 _
  exact hT e2
end Go.Proofs.Ytonidnfgneokbaa
/- A law's argument that is a script of steps, opened. -/
namespace Go.Proofs.Ytonidnfgneokbaa
open Go Go.RowKit Go.WideShapes Go.ChangeShapes Go.ChangeAt

section
variable {H : Type} {enc : TypeId × Value → H} {P : Program} {W : World} {base : Nat} {held : Bool}
theorem seven_of {α : Type} {xs : List α} (h : xs.length = 7) : ∃ a b c d e f g, xs = [a, b, c, d, e, f, g] := by
  match xs, h with
  | [a, b, c, d, e, f, g], _ => exact ⟨a, b, c, d, e, f, g, rfl⟩
theorem open_stepf {t eB eq_ eH q : TypeId} {f0 f1 f2 f3 f4 f5 f6 : Field} {fuel : Nat} {cs : List Value} {x : DataW H × List MemPlace} (ht : P.underlying t = some (.struct #[f0, f1, f2, f3, f4, f5, f6])) (o0 : f0.offset = 0) (o1 : f1.offset = 1) (o2 : f2.offset = 2) (o3 : f3.offset = 3) (o4 : f4.offset = 4) (o5 : f5.offset = 5) (o6 : f6.offset = 6)
    (u0 : P.underlying f0.type = some (.int .i64)) (u1 : P.underlying f1.type = some (.int .i64)) (u2 : P.underlying f2.type = some (.int .i64)) (u3 : P.underlying f3.type = some (.int .i64)) (u4 : P.underlying f4.type = some (.int .i64)) (u5 : P.underlying f5.type = some (.slice eB)) (uB : P.underlying eB = some (.slice eq_)) (ueq : P.underlying eq_ = some (.int .u8)) (u6 : P.underlying f6.type = some (.slice eH)) (uH : P.underlying eH = some (.array 32 q)) (hq : P.underlying q = some (.int .u8))
    (c0 : P.cellsOf f0.type = 1) (c1 : P.cellsOf f1.type = 1) (c2 : P.cellsOf f2.type = 1) (c3 : P.cellsOf f3.type = 1) (c4 : P.cellsOf f4.type = 1) (c5 : P.cellsOf f5.type = 1) (c6 : P.cellsOf f6.type = 1) (cB : P.cellsOf eB = 1) (ceq : P.cellsOf eq_ = 1) (cH : P.cellsOf eH = 32) (cq : P.cellsOf q = 1) (hct : P.cellsOf t = 7)
    (h : DataW.trod enc P W 0 (fun _ => true) held fuel t cs = some x) :
    ∃ s : StepD, (cs = s.cells.toList ∧ Es W (· < W.heap.size) s.eA s.en s.ec s.es ∧ Hs W (· < W.heap.size) s.hA s.hn s.hc s.hs) ∧ s.es.flatten.length + s.en + s.hn + 1 ≤ Rows.uptoBulk x.1 := by
  obtain ⟨xs, k, _, hx, hl, hlen, hf⟩ := DataW.trod_struct ht h
  obtain ⟨y0, y1, y2, y3, y4, y5, y6, rfl⟩ := seven_of (show xs.length = 7 from hlen)
  have g0 : _ = some y0 := hf 0 f0 rfl
  have g1 : _ = some y1 := hf 1 f1 rfl
  have g2 : _ = some y2 := hf 2 f2 rfl
  have g3 : _ = some y3 := hf 3 f3 rfl
  have g4 : _ = some y4 := hf 4 f4 rfl
  have g5 : _ = some y5 := hf 5 f5 rfl
  have g6 : _ = some y6 := hf 6 f6 rfl
  rw [o0, c0] at g0
  rw [o1, c1] at g1
  rw [o2, c2] at g2
  rw [o3, c3] at g3
  rw [o4, c4] at g4
  rw [o5, c5] at g5
  rw [o6, c6] at g6
  rw [hct] at hl
  obtain ⟨a0, e0, _⟩ := open_intf u0 g0
  obtain ⟨a1, e1, _⟩ := open_intf u1 g1
  obtain ⟨a2, e2, _⟩ := open_intf u2 g2
  obtain ⟨a3, e3, _⟩ := open_intf u3 g3
  obtain ⟨a4, e4, _⟩ := open_intf u4 g4
  obtain ⟨A5, n5, c5', vs, ls, e5, s5, b5⟩ := open_u8ss u5 uB ueq cB ceq g5
  obtain ⟨A6, n6, c6', hs, e6, s6, b6⟩ := open_hashes u6 uH hq cq cH g6
  refine ⟨⟨a0, a1, a2, a3, a4, A5, n5, c5', ls, A6, n6, c6', hs⟩, ⟨?_, s5.es, s6⟩, ?_⟩
  · match cs, hl with
    | [x0, x1, x2, x3, x4, x5, x6], _ =>
      simp only [List.drop_succ_cons, List.drop_zero, List.take_succ_cons, List.take_zero, List.cons.injEq, and_true] at e0 e1 e2 e3 e4 e5 e6
      rw [e0, e1, e2, e3, e4, e5, e6]
      rfl
  · rw [hx]
    simp only [List.map_cons, List.map_nil, Rows.uptoBulk, Rows.uptoBulkAll]
    omega
theorem flat7_at : ∀ (L : List (List Value)) (_ : ∀ cs ∈ L, cs.length = 7) (k j : Nat) (cs : List Value) (v : Value) (_ : L[k]? = some cs) (_ : cs[j]? = some v), L.flatten[k * 7 + j]? = some v
  | [], _, k, _, _, _, h, _ => by simp at h
  | c :: L, hl, 0, j, cs, v, h, hv => by
    simp only [List.getElem?_cons_zero, Option.some.injEq] at h
    subst h
    rw [List.flatten_cons, Nat.zero_mul, Nat.zero_add, List.getElem?_append_left (by rcases List.getElem?_eq_some_iff.1 hv with ⟨h, _⟩; exact h)]
    exact hv
  | c :: L, hl, k + 1, j, cs, v, h, hv => by
    have hc := hl c (by simp)
    rw [List.flatten_cons, List.getElem?_append_right (by omega), hc, show (k + 1) * 7 + j - 7 = k * 7 + j by omega]
    exact flat7_at L (fun x hx => hl x (by simp [hx])) k j cs v (by simpa using h) hv
theorem sum_mem_le {α : Type} (f : α → Nat) : ∀ (l : List α) (x : α), x ∈ l → f x ≤ (l.map f).sum
  | [], _, h => by cases h
  | y :: l, x, h => by
    rw [List.map_cons, List.sum_cons]
    rcases List.mem_cons.1 h with rfl | h
    · omega
    · have := sum_mem_le f l x h
      omega
theorem open_steps {t e eB eq_ eH q : TypeId} {f0 f1 f2 f3 f4 f5 f6 : Field} {fuel : Nat} {cs : List Value} {x : DataW H × List MemPlace} (hte : P.underlying t = some (.slice e)) (ht : P.underlying e = some (.struct #[f0, f1, f2, f3, f4, f5, f6])) (o0 : f0.offset = 0) (o1 : f1.offset = 1) (o2 : f2.offset = 2) (o3 : f3.offset = 3) (o4 : f4.offset = 4) (o5 : f5.offset = 5) (o6 : f6.offset = 6)
    (u0 : P.underlying f0.type = some (.int .i64)) (u1 : P.underlying f1.type = some (.int .i64)) (u2 : P.underlying f2.type = some (.int .i64)) (u3 : P.underlying f3.type = some (.int .i64)) (u4 : P.underlying f4.type = some (.int .i64)) (u5 : P.underlying f5.type = some (.slice eB)) (uB : P.underlying eB = some (.slice eq_)) (ueq : P.underlying eq_ = some (.int .u8)) (u6 : P.underlying f6.type = some (.slice eH)) (uH : P.underlying eH = some (.array 32 q)) (hq : P.underlying q = some (.int .u8))
    (c0 : P.cellsOf f0.type = 1) (c1 : P.cellsOf f1.type = 1) (c2 : P.cellsOf f2.type = 1) (c3 : P.cellsOf f3.type = 1) (c4 : P.cellsOf f4.type = 1) (c5 : P.cellsOf f5.type = 1) (c6 : P.cellsOf f6.type = 1) (cB : P.cellsOf eB = 1) (ceq : P.cellsOf eq_ = 1) (cH : P.cellsOf eH = 32) (cq : P.cellsOf q = 1) (hct : P.cellsOf e = 7)
    (h : DataW.trod enc P W 0 (fun _ => true) held fuel t cs = some x) (hb : Rows.uptoBulk x.1 ≤ 2097152) :
    ∃ (A : Option Addr) (n c : Nat) (ss : List StepD), cs = [Value.slice A n c] ∧ Scr W A n c ss := by
  obtain ⟨A, n, c, L, xs, h1, h2, h3, h4, h5, h6, h7⟩ := open_slR (fun (s : StepD) cs => cs = s.cells.toList ∧ Es W (· < W.heap.size) s.eA s.en s.ec s.es ∧ Hs W (· < W.heap.size) s.hA s.hn s.hc s.hs) (fun s => s.es.flatten.length + s.en + s.hn) hte hct (by decide) (fun fuel cs y hy _ => open_stepf ht o0 o1 o2 o3 o4 o5 o6 u0 u1 u2 u3 u4 u5 uB ueq u6 uH hq c0 c1 c2 c3 c4 c5 c6 cB ceq cH cq hct hy) h
  refine ⟨A, n, c, xs, h1, ⟨fun i hi => ?_, fun s hs => ?_, h4, h2.room, h2.max⟩⟩
  · have hiL : i < L.length := by omega
    obtain ⟨g1, _, _⟩ := h6 i xs[i] L[i] (List.getElem?_eq_getElem hi) (List.getElem?_eq_getElem hiL)
    have hne : L.flatten ≠ [] := fun e => by
      have := h2.len
      rw [e] at this
      simp at this
      omega
    obtain ⟨b, o, e1, e2, _, e4⟩ := h2.bs hne
    refine ⟨b, o, e1, e2, fun j v hv => ?_⟩
    rw [Nat.add_assoc]
    refine e4 _ v (flat7_at L h5 i j (xs[i]).cells.toList v (by rw [List.getElem?_eq_getElem hiL, g1]) ?_)
    rw [Array.getElem?_toList]
    exact hv
  · obtain ⟨i, hi, rfl⟩ := List.getElem_of_mem hs
    have hiL : i < L.length := by omega
    obtain ⟨_, g2, g3⟩ := h6 i xs[i] L[i] (List.getElem?_eq_getElem hi) (List.getElem?_eq_getElem hiL)
    have hsz := sum_mem_le (fun s : StepD => s.es.flatten.length + s.en + s.hn) xs xs[i] hs
    exact ⟨g2, g3, by omega, by omega, fun y hy => by have := mem_flat_le hy; omega⟩
end
end Go.Proofs.Ytonidnfgneokbaa
