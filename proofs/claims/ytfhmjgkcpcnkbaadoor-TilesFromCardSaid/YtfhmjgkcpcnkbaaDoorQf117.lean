/- A range over a function, any round of which may write its own blocks: what the iterator is promised ('KeepU'), its contract ('SeqU'), the loop over it; a round's operations walked as everywhere. No program in sight. -/
import Derived.Test.YtfhmjgkcpcnkbaaDoorQf112
import Derived.Test.YtfhmjgkcpcnkbaaDoorQf115
namespace Go.Proofs.YtfhmjgkcpcnkbaaDoor
open Go Go.RowKit

/-- what a round keeps: cells of blocks ahead of n₁ but for those of U; whatever is no cells, from B on -/
structure KeepU (B n₁ : Nat) (U : Nat → Prop) (W W' : World) : Prop where
  f : KeepsFrom B W W'
  os : W'.os = W.os
  tape : W'.tape = W.tape
  output : W'.output = W.output
  cells : ∀ k o, k < n₁ → ¬ U k → W.heap[k]? = some o → o.isCells = true → W'.heap[k]? = some o
section
variable {B n₁ : Nat} {U : Nat → Prop} {W W' W2 : World} {g : Nat} {t : TypeId} {cs : Array Value}
theorem KeepU.size (h : KeepU B n₁ U W W') : W.heap.size ≤ W'.heap.size := h.f.size
theorem KeepU.refl (B n₁ : Nat) (U : Nat → Prop) (W : World) : KeepU B n₁ U W W := ⟨KeepsFrom.refl _ _, rfl, rfl, rfl, fun _ _ _ _ h _ => h⟩
theorem KeepU.trans (h : KeepU B n₁ U W W') (k : KeepU B n₁ U W' W2) : KeepU B n₁ U W W2 :=
  ⟨h.f.trans k.f, k.os.trans h.os, k.tape.trans h.tape, k.output.trans h.output, fun i o hi hu ho hc => k.cells i o hi hu (h.cells i o hi hu ho hc) hc⟩
theorem KeepU.below (h : Below W.heap.size W W') : KeepU B n₁ U W W' :=
  ⟨KeepsFrom.of_grownBy (grown_of_below h none) (fun j e => by cases e), h.os, h.tape, h.output, fun k _ _ _ hk _ => (h.block k (Array.getElem?_eq_some_iff.1 hk).1).trans hk⟩
/-- a row of cells of one's own is written -/
theorem KeepU.grown {row : Option Nat} (h : W.grownBy W' row) (hr : ∀ r, row = some r → (n₁ ≤ r ∨ U r) ∧ ∃ o, W.heap[r]? = some o ∧ o.isCells = true) : KeepU B n₁ U W W' :=
  ⟨⟨h.size, fun k o _ hk ho => by
      refine (h.block k (Array.getElem?_eq_some_iff.1 hk).1 (fun e => ?_)).trans hk
      obtain ⟨_, o', ho', hc⟩ := hr k e.symm
      rw [hk] at ho'; cases ho'; rw [ho] at hc; cases hc⟩, h.os, h.tape, h.output,
    fun k o hk hu ho _ => (h.block k (Array.getElem?_eq_some_iff.1 ho).1 (fun e => by
      rcases (hr k e.symm).1 with h1 | h1
      · omega
      · exact hu h1)).trans ho⟩
theorem KeepU.setCell (hg : Blk W g t cs) (hm : n₁ ≤ g ∨ U g) (i : Nat) (u : Value) : KeepU B n₁ U W (W.setCell ⟨g, i, none⟩ u) :=
  KeepU.grown (row := some g) ⟨rfl, rfl, rfl, by simp [World.setCell], fun k _ hne => Below.heap_setCell W ⟨g, i, none⟩ u k (fun e => hne (by rw [e]))⟩ (fun r e => by cases e; exact ⟨hm, _, hg, rfl⟩)
theorem KeepU.setRow (hg : Blk W g t cs) (hm : n₁ ≤ g ∨ U g) (cs' : Array Value) : KeepU B n₁ U W (W.setRow g cs') :=
  KeepU.grown (row := some g) ⟨rfl, rfl, rfl, by simp, fun k _ hne => setRow_other W g k cs' (fun e => hne (by rw [e]))⟩ (fun r e => by cases e; exact ⟨hm, _, hg, rfl⟩)
theorem KeepU.blk (h : KeepU B n₁ U W W') (hb : Blk W g t cs) (hn : g < n₁) (hu : ¬ U g) : Blk W' g t cs := h.cells g _ hn hu hb rfl
theorem KeepU.cell {p : Addr} {v : Value} (h : KeepU B n₁ U W W') (hc : W.cell? p = some v) (hn : p.block < n₁) (hu : ¬ U p.block) : W'.cell? p = some v := by
  unfold World.cell? at hc ⊢
  cases ho : W.heap[p.block]? with
  | none => rw [ho] at hc; cases hc
  | some o =>
    rw [ho] at hc
    have hcells : o.isCells = true := by cases o <;> first | rfl | (simp at hc)
    rw [h.cells _ _ hn hu ho hcells]
    exact hc
theorem KeepU.slv {X : Nat → Prop} {A : Option Addr} {n c s : Nat} {l : List Value} (h : KeepU B n₁ U W W') (hs : SlV W X A n c s l) (hm : ∀ b, b < W.heap.size → X b → b < n₁ ∧ ¬ U b) : SlV W' X A n c s l :=
  ⟨fun hl => by
    obtain ⟨b, o, h1, h2, h3, h4⟩ := hs.bs hl
    exact ⟨b, o, h1, Nat.lt_of_lt_of_le h2 h.size, h3, fun j v hv => h.cell (h4 j v hv) (hm b h2 h3).1 (hm b h2 h3).2⟩, hs.len, hs.room, hs.nil, hs.max⟩
end
/-- one block that is no cells has turned -/
def Turn (B : Nat) (W W' : World) : Prop := ∃ r o o', B ≤ r ∧ W.heap[r]? = some o ∧ o.isCells = false ∧ W' = W.putObj r o'
section
variable {B : Nat} {W W' : World} {g : Nat} {t : TypeId} {cs : Array Value}
theorem Turn.own {β : Type} {I : β → World → Prop} {s : β} (h : Turn B W W') (hI : OwnFrom B I) (hs : I s W) : I s W' := by
  obtain ⟨r, o, o', h1, h2, h3, rfl⟩ := h
  exact hI.putObj o' hs h1 h2 h3
theorem Turn.size (h : Turn B W W') : W'.heap.size = W.heap.size := by
  obtain ⟨r, o, o', _, _, _, rfl⟩ := h
  simp
theorem Turn.keepC (h : Turn B W W') : KeepC (fun _ => False) W W' := by
  obtain ⟨r, o, o', _, h2, h3, rfl⟩ := h
  exact KeepC.putObj o' h2 h3
theorem Turn.blk (h : Turn B W W') (hb : Blk W g t cs) : Blk W' g t cs := h.keepC.blk hb (fun e => e)
theorem Turn.slv {X : Nat → Prop} {A : Option Addr} {n c s : Nat} {l : List Value} (h : Turn B W W') (hs : SlV W X A n c s l) : SlV W' X A n c s l := h.keepC.slv hs (fun _ _ _ e => e)
theorem Turn.below {N : Nat} {w : World} (h : Turn B W W') (hb : Below N w W) (hN : N ≤ B) : Below N w W' := by
  obtain ⟨r, o, o', h1, h2, h3, rfl⟩ := h
  exact hb.trans ⟨rfl, rfl, rfl, by simp, fun k hk => World.putObj_heap_other (by omega)⟩
theorem Turn.grown (h : Turn B W W') : ∃ r, B ≤ r ∧ W.grownBy W' (some r) ∧ ∃ o, W.heap[r]? = some o ∧ o.isCells = false := by
  obtain ⟨r, o, o', h1, h2, h3, rfl⟩ := h
  exact ⟨r, h1, grownBy_putObj' W r o', o, h2, h3⟩
theorem Turn.keepU {B' n₁ : Nat} {U : Nat → Prop} (h : Turn B W W') (hr : ∀ r, B ≤ r → B' ≤ r → False) : KeepU B' n₁ U W W' := by
  obtain ⟨r, o, o', h1, h2, h3, rfl⟩ := h
  exact ⟨⟨by simp, fun k o'' hk ho hc => (World.putObj_heap_other (fun e => hr k (by omega) hk)).trans ho⟩, rfl, rfl, rfl, fun k o'' _ _ ho hc => by
    refine (World.putObj_heap_other (fun e => ?_)).trans ho
    subst e; rw [h2] at ho; cases ho; rw [h3] at hc; cases hc⟩
theorem Turn.own_row {base e s : Nat} {v : Value} {n : Nat} {xs : List Value} (h : Turn B W W') (ho : W.ownsRow base e s v n xs) : W'.ownsRow base e s v n xs := by
  obtain ⟨r, _, hg, o, h2, h3⟩ := h.grown
  refine ho.kept hg ?_
  rcases ho.2 with ⟨rfl, _⟩ | ⟨g, cap, cur, rfl, _, hb, _⟩
  · exact .inl rfl
  · refine .inr fun e => ?_
    have e : g = r := Option.some.inj e
    subst e
    rw [show W.heap[g]? = _ from hb] at h2; cases h2; cases h3
end

theorem roundIn_any {n m : Nat} {P : Program} {l : Nat} {f : FuncId} {tmps : Array Value} {assign body : Code} {w : World} {R : Ending → World → Prop} (h : RoundIn Fence.wide n P l f tmps assign body w R) : RoundIn Fence.wide m P l f tmps assign body w R :=
  ⟨h.1, fun c cs _ => h.2 c cs (room_wide _)⟩

/-- the iterator's contract: N rounds; of the k-th one's values 'Y' is known -/
def SeqU (P : Program) (g : Nat) (lb : Array Value) (N : Nat) (U : Nat → Prop) (Y : Nat → Nat → Array Value → World → Prop) (w : World) : Prop :=
  ∀ (l : Nat) (J Jx : Nat → Nat → World → Prop) (W : World), Below w.heap.size w W → (∀ n₁, OwnFrom W.heap.size (J n₁)) → (∀ n₁, OwnFrom W.heap.size (Jx n₁)) →
    (∀ n₁ k vs W1, W.heap.size ≤ n₁ → n₁ ≤ W1.heap.size → k < N → J n₁ k W1 → Y n₁ k vs W1 → YieldAt Fence.wide 3 P l vs W1 fun e W' =>
      (e = .returned (.bool true) ∧ J n₁ (k + 1) W' ∧ KeepU W.heap.size n₁ U W1 W') ∨ (e = .returned (.bool false) ∧ Jx n₁ (k + 1) W' ∧ KeepsFrom W.heap.size W1 W')) →
    (∀ n₁, W.heap.size ≤ n₁ → J n₁ 0 W) →
    CallsIn Fence.wide 4 P g (#[.func (.yield l) #[] #[]] ++ lb) W fun e W' => (∃ v, e = .returned v) ∧ ∃ n₁, W.heap.size ≤ n₁ ∧ (J n₁ N W' ∨ ∃ k, k < N ∧ Jx n₁ (k + 1) W')

/-- how a round's body may be left -/
def postU (B n₁ : Nat) (U : Nat → Prop) (I : Nat → World → Prop) (Ix : Code → Nat → World → Prop) (k : Nat) (W : World) : Exit → Act → World → Prop
  | .normal, _, W' => KeepU B n₁ U W W' ∧ I k W'
  | .ret, _, W' => KeepsFrom B W W' ∧ Ix .ret k W'
  | .exit id, _, W' => KeepsFrom B W W' ∧ Ix (.exit id) k W'
  | .goto t, _, W' => KeepsFrom B W W' ∧ Ix (.goto t) k W'
  | .panic _, _, _ => False
  | .outgrown, _, _ => False

/-- the loop over it -/
theorem wp_range_U {P : Program} {w : World} {g : Operand} {ps : Array Tmp} {assign body : Code} {Q : Exit → Act → World → Prop} {a : Act}
    {gf : Nat} {lb : Array Value} (hg : a.eval g = .func (.func gf) #[] lb) (eg : ∀ args w, (callFunc gf args).run P w = .ok (.enter gf args) w)
    {N : Nat} {U : Nat → Prop} {Y : Nat → Nat → Array Value → World → Prop} (hseq : SeqU P gf lb N U Y w) (hps : ∀ n₁ k vs W, Y n₁ k vs W → vs.size = ps.size)
    (I : Nat → Nat → World → Prop) (Ix : Nat → Code → Nat → World → Prop) (hI : ∀ n₁, OwnFrom w.heap.size (I n₁)) (hIx : ∀ n₁ c, OwnFrom w.heap.size (Ix n₁ c)) (h0 : ∀ n₁, w.heap.size ≤ n₁ → I n₁ 0 w)
    (hround : ∀ (l n₁ k : Nat) (vs : Array Value) (W : World), w.heap.size ≤ l → l < n₁ → n₁ ≤ W.heap.size → k < N → I n₁ k W → Y n₁ k vs W →
      assign.wpIn (Fence.wide.inRound l) 3 P (Exit.then (fun a' W' => KeepU w.heap.size n₁ U W W' ∧ ∀ W2, Turn w.heap.size W' W2 → body.wpIn (Fence.wide.inRound l) 3 P (postU w.heap.size n₁ U (I n₁) (Ix n₁) (k + 1) W2) a' W2) (fun _ _ _ => False))
        { tmps := (ps.zip vs).foldl (fun t (p, v) => t.setIfInBounds p v) a.tmps, defers := [] } W)
    (hdone : ∀ (D n₁ : Nat) (W : World), w.heap.size ≤ D → D < n₁ → I n₁ N W → W.heap[D]? = some (.deferred (some [])) → Q .normal { a with defers := { target := .collected D, args := #[] } :: a.defers } W)
    (hstop : ∀ (D n₁ : Nat) (c : Code) (k : Nat) (W : World), w.heap.size ≤ D → D < n₁ → k < N → Ix n₁ c (k + 1) W → W.heap[D]? = some (.deferred (some [])) → c.wp P Q { a with defers := { target := .collected D, args := #[] } :: a.defers } W) :
    (Code.rangeFunc g ps assign body).wp P Q a w := by
  refine (wpIn_wide (n := 5)).1 ?_
  refine wpIn_rangeFunc ?_
  intro fn hfn
  obtain ⟨rec, hrec⟩ : ∃ rec : LoopState → Option Code → Loop, rec = fun st pe => { state := st, pending := pe, fn, tmps := a.tmps, params := ps, assign, body, defers := w.heap.size } := ⟨_, rfl⟩
  obtain ⟨W1, hW1⟩ : ∃ W1, (w.alloc (.deferred (some []))).alloc (.loop (rec .ready none)) = W1 := ⟨_, rfl⟩
  have hL1 : W1.heap[w.heap.size + 1]? = some (.loop (rec .ready none)) := by
    rw [← hW1]; have := World.alloc_heap_new (w.alloc (.deferred (some []))) (.loop (rec .ready none)); rwa [World.size_alloc] at this
  have hK1 : W1.heap[w.heap.size]? = some (.deferred (some [])) := by
    rw [← hW1]; exact (Below.heap_alloc _ _ _ (by simp)).trans (World.alloc_heap_new w _)
  have hb1 : Below w.heap.size w W1 := by rw [← hW1]; exact (((Below.refl _ w).alloc (Nat.le_refl _) _).alloc (by simp) _)
  have hsz1 : W1.heap.size = w.heap.size + 1 + 1 := by rw [← hW1]; simp
  have hI1 : ∀ n₁, W1.heap.size ≤ n₁ → I n₁ 0 W1 := fun n₁ hn => by rw [← hW1]; exact (hI n₁).alloc _ ((hI n₁).alloc _ (h0 n₁ (by omega)))
  refine ⟨w.heap.size + 1, [{ target := .collected w.heap.size, args := #[] }], W1, { target := .fn (.func gf) lb, args := #[.func (.yield (w.heap.size + 1)) #[] #[]] }, W1, gf,
    #[.func (.yield (w.heap.size + 1)) #[] #[]] ++ lb, W1, ?_, ?_, fun _ _ => trivial, ?_, (fun _ => by omega), ?_⟩
  · rw [← hW1, hrec]; exact run_enterLoop_outer _ _ _ _ _
  · simp only [resolve, hg]
    simp [go_sem]
  · simp [invoke, go_sem, eg]
  · have hup : ∀ {A : World} {row : Option Nat}, (∀ r, row = some r → W1.heap.size ≤ r ∧ ∃ o : Obj, A.heap[r]? = some o ∧ o.isCells = false) → (∀ r, row = some r → w.heap.size ≤ r ∧ ∃ o : Obj, A.heap[r]? = some o ∧ o.isCells = false) :=
      fun hr r e => ⟨by have := (hr r e).1; omega, (hr r e).2⟩
    have hst : ∀ {A B : World} {row : Option Nat} {r : Nat} {o : Obj}, A.grownBy B row → (∀ r, row = some r → W1.heap.size ≤ r ∧ ∃ o : Obj, A.heap[r]? = some o ∧ o.isCells = false) → r < W1.heap.size → A.heap[r]? = some o → B.heap[r]? = some o :=
      fun hg hr hlt ho => (hg.block _ (Array.getElem?_eq_some_iff.1 ho).1 (fun e => by have := (hr _ e.symm).1; omega)).trans ho
    refine (hseq (w.heap.size + 1)
      (fun n₁ k W => W1.heap.size ≤ n₁ ∧ I n₁ k W ∧ W.heap[w.heap.size + 1]? = some (.loop (rec .ready none)) ∧ W.heap[w.heap.size]? = some (.deferred (some [])))
      (fun n₁ k W => W1.heap.size ≤ n₁ ∧ ∃ c, Ix n₁ c k W ∧ W.heap[w.heap.size + 1]? = some (.loop (rec .done (some c))) ∧ W.heap[w.heap.size]? = some (.deferred (some [])))
      W1 hb1
      (fun n₁ s A B row hs hg' hr => ⟨hs.1, hI n₁ s A B row hs.2.1 hg' (hup hr), hst hg' hr (by omega) hs.2.2.1, hst hg' hr (by omega) hs.2.2.2⟩)
      (fun n₁ s A B row hs hg' hr => by
        obtain ⟨h1, c, hc, hl, hk⟩ := hs
        exact ⟨h1, c, hIx n₁ c s A B row hc hg' (hup hr), hst hg' hr (by omega) hl, hst hg' hr (by omega) hk⟩)
      ?_ (fun n₁ hn => ⟨hn, hI1 n₁ hn, hL1, hK1⟩)).mono ?_
    · rintro n₁ k vs W hn₁ hnW hkN ⟨-, hi, hl, hk⟩ hy0
      have hlt : w.heap.size + 1 < W.heap.size := (Array.getElem?_eq_some_iff.1 hl).1
      have hy := run_yield (P := P) (args := vs) hl (by rw [hrec]; exact hps n₁ k vs W hy0)
      rw [hrec] at hy
      refine ⟨fn, _, assign, body, hy, roundIn_of_wpIn trivial (wpIn_mono (hround (w.heap.size + 1) n₁ k vs W (by omega) (by omega) hnW hkN hi hy0) ?_)⟩
      clear hy
      rintro e a' Wa ha
      cases e with
      | normal =>
        obtain ⟨hka, hbody⟩ := ha
        replace hl := hka.f.same _ _ (by omega) hl rfl
        replace hk := hka.f.same _ _ (Nat.le_refl _) hk rfl
        replace hlt : w.heap.size + 1 < Wa.heap.size := (Array.getElem?_eq_some_iff.1 hl).1
        refine ⟨_, run_beginRound hl (by rw [hrec]), ?_⟩
        obtain ⟨W2, hW2⟩ : ∃ W2, Wa.putObj (w.heap.size + 1) (.loop { rec .ready none with state := .busy }) = W2 := ⟨_, rfl⟩
        have hl2 : W2.heap[w.heap.size + 1]? = some (.loop { rec .ready none with state := .busy }) := by rw [← hW2]; exact World.putObj_heap_same hlt
        have hk2 : W2.heap[w.heap.size]? = some (.deferred (some [])) := by rw [← hW2]; exact (World.putObj_heap_other (by omega)).trans hk
        have hturn : Turn w.heap.size Wa W2 := ⟨_, _, _, by omega, hl, rfl, hW2.symm⟩
        have hw2 : KeepU W1.heap.size n₁ U W W2 := by
          have h1 : KeepU W1.heap.size n₁ U W Wa := ⟨⟨hka.f.size, fun i o hi ho hc => hka.f.same i o (by omega) ho hc⟩, hka.os, hka.tape, hka.output, hka.cells⟩
          refine h1.trans ?_
          rw [← hW2]
          exact ⟨⟨by simp, fun i o hi ho hc => (World.putObj_heap_other (by omega)).trans ho⟩, rfl, rfl, rfl, fun i o _ _ ho hc => by
            refine (World.putObj_heap_other (fun e => ?_)).trans ho
            subst e; rw [hl] at ho; cases ho; cases hc⟩
        rw [hW2]
        refine wpIn_mono (hbody W2 hturn) ?_
        have fin : ∀ (jump : Option Code) (W3 : World), KeepsFrom w.heap.size W2 W3 →
            (Instr.endRound (w.heap.size + 1) jump).run P W3 = .ok (.bool jump.isNone) (W3.putObj (w.heap.size + 1) (.loop (rec (if jump.isNone then .ready else .done) jump))) ∧
            W3.heap[w.heap.size + 1]? = some (.loop { rec .ready none with state := .busy }) ∧
            (W3.putObj (w.heap.size + 1) (.loop (rec (if jump.isNone then .ready else .done) jump))).heap[w.heap.size + 1]? = some (.loop (rec (if jump.isNone then .ready else .done) jump)) ∧
            (W3.putObj (w.heap.size + 1) (.loop (rec (if jump.isNone then .ready else .done) jump))).heap[w.heap.size]? = some (.deferred (some [])) := fun jump W3 hk3 => by
          have hl3 := hk3.same _ _ (by omega) hl2 rfl
          have := run_endRound (P := P) jump hl3
          rw [hrec] at this ⊢
          exact ⟨this, by rw [hrec] at hl3; exact hl3, World.putObj_heap_same (Array.getElem?_eq_some_iff.1 hl3).1, (World.putObj_heap_other (by omega)).trans (hk3.same _ _ (Nat.le_refl _) hk2 rfl)⟩
        have kput : ∀ (W3 : World) (o' : Obj), W3.heap[w.heap.size + 1]? = some (.loop { rec .ready none with state := .busy }) → KeepU W1.heap.size n₁ U W3 (W3.putObj (w.heap.size + 1) o') := fun W3 o' hl3 =>
          ⟨⟨by simp, fun i o hi ho hc => (World.putObj_heap_other (by omega)).trans ho⟩, rfl, rfl, rfl, fun i o _ _ ho hc => by
            refine (World.putObj_heap_other (fun e => ?_)).trans ho
            subst e; rw [hl3] at ho; cases ho; cases hc⟩
        have out : ∀ (c : Code) (W3 : World), KeepsFrom w.heap.size W2 W3 → Ix n₁ c (k + 1) W3 → ∃ r w₂, (Instr.endRound (w.heap.size + 1) (some c)).run P W3 = .ok r w₂ ∧
            ((Ending.returned r = .returned (.bool true) ∧ (W1.heap.size ≤ n₁ ∧ I n₁ (k + 1) w₂ ∧ w₂.heap[w.heap.size + 1]? = some (.loop (rec .ready none)) ∧ w₂.heap[w.heap.size]? = some (.deferred (some []))) ∧ KeepU W1.heap.size n₁ U W w₂) ∨
            (Ending.returned r = .returned (.bool false) ∧ (W1.heap.size ≤ n₁ ∧ ∃ c, Ix n₁ c (k + 1) w₂ ∧ w₂.heap[w.heap.size + 1]? = some (.loop (rec .done (some c))) ∧ w₂.heap[w.heap.size]? = some (.deferred (some []))) ∧ KeepsFrom W1.heap.size W w₂)) := fun c W3 hk3 hi3 => by
          obtain ⟨hr, hl3, hl4, hk4⟩ := fin (some c) W3 hk3
          have hk3' : KeepsFrom W1.heap.size W2 W3 := ⟨hk3.size, fun i o hi ho hc => hk3.same i o (by omega) ho hc⟩
          exact ⟨_, _, hr, .inr ⟨rfl, ⟨hn₁, c, (hIx n₁ _).putObj _ hi3 (by omega) hl3 rfl, hl4, hk4⟩, (hw2.f.trans hk3').trans (kput W3 _ hl3).f⟩⟩
        rintro e a3 W3 hp
        cases e with
        | normal =>
          obtain ⟨hk3, hi3⟩ := hp
          obtain ⟨hr, hl3, hl4, hk4⟩ := fin none W3 hk3.f
          have hk3' : KeepU W1.heap.size n₁ U W2 W3 := ⟨⟨hk3.f.size, fun i o hi ho hc => hk3.f.same i o (by omega) ho hc⟩, hk3.os, hk3.tape, hk3.output, hk3.cells⟩
          exact ⟨_, _, hr, .inl ⟨rfl, ⟨hn₁, (hI n₁).putObj _ hi3 (by omega) hl3 rfl, hl4, hk4⟩, (hw2.trans hk3').trans (kput W3 _ hl3)⟩⟩
        | ret => exact out _ W3 hp.1 hp.2
        | exit id => exact out _ W3 hp.1 hp.2
        | goto t => exact out _ W3 hp.1 hp.2
        | panic ch => exact hp.elim
        | outgrown => exact hp.elim
      | ret => exact ha.elim
      | exit id => exact ha.elim
      | goto t => exact ha.elim
      | panic ch => exact ha.elim
      | outgrown => exact ha.elim
    · rintro e W2 ⟨⟨v, rfl⟩, n₁, hn₁, (⟨-, hi, hl, hk⟩ | ⟨k, hkN, -, c, hi, hl, hk⟩)⟩
      · exact ⟨none, _, by have := run_endLoop (P := P) hl (by rw [hrec]; simp); rw [hrec] at this; exact this, hdone _ n₁ _ (Nat.le_refl _) (by omega) ((hI n₁).putObj _ hi (by omega) hl rfl) ((World.putObj_heap_other (by omega)).trans hk)⟩
      · exact ⟨some c, _, by have := run_endLoop (P := P) hl (by rw [hrec]; simp); rw [hrec] at this; exact this, wpIn_wide.2 (hstop _ n₁ c k _ (Nat.le_refl _) (by omega) hkN ((hIx n₁ c).putObj _ hi (by omega) hl rfl) ((World.putObj_heap_other (by omega)).trans hk))⟩

/-! ### a round's operations, walked as everywhere -/

/-- a fence that keeps nothing out -/
def Fence.Open (F : Fence) : Prop := F = Fence.wide ∨ ∃ l, F = Fence.wide.inRound l
theorem openW : Fence.Open Fence.wide := .inl rfl
theorem openR (l : Nat) : Fence.Open (Fence.wide.inRound l) := .inr ⟨l, rfl⟩
theorem Fence.Open.fn_ {F : Fence} (h : Fence.Open F) (f : FuncId) : F.fn f := by rcases h with rfl | ⟨l, rfl⟩ <;> exact trivial
theorem rowsIn_any {F : Fence} (hF : Fence.Open F) {n : Nat} {P : Program} {row : String} {args : Array Value} {w : World} {R : Value → World → Prop} (h : Rows P row args w R) : RowsIn F n P row args w R :=
  fun c cs _ => let ⟨v, w', r, s⟩ := h c cs; ⟨v, w', r, by rcases hF with rfl | ⟨l, rfl⟩ <;> exact stepsIn_wide.2 s⟩
theorem callsIn_any {F : Fence} (hF : Fence.Open F) {n : Nat} {P : Program} {f : FuncId} {args : Array Value} {w : World} {R : Ending → World → Prop} (h : Calls P f args w R) : CallsIn F n P f args w R := by
  rcases hF with rfl | ⟨l, rfl⟩
  · exact callsIn_wide.2 h
  · exact CallsIn.inRound l (callsIn_wide.2 h)
theorem Oper.wpIn_of_wp {F : Fence} (hF : Fence.Open F) {n : Nat} {P : Program} {o : Oper} {a : Act} {w : World} {K : Act → World → Prop} {Q : Exit → Act → World → Prop} (hnd : ∀ c, o.op ≠ .defer c) (h : o.wp P a w K Q) : o.wpIn F n P a w K Q := by
  refine ⟨fun f _ => hF.fn_ f, ?_⟩
  rw [Oper.semAt_eq _ _ _ hnd]
  have hdep : F.depth = none := by rcases hF with rfl | ⟨l, rfl⟩ <;> rfl
  unfold Oper.wp at h
  generalize (execOp a.eval o).run P w = r at h ⊢
  cases r with
  | ok x w' =>
    cases x with
    | value v => exact h
    | skip => exact h
    | defer d => exact h
    | enter f args => exact ⟨(fun hd => by rw [hdep] at hd; cases hd), callsIn_any hF h⟩
    | row row args => exact ⟨(fun hd => by rw [hdep] at hd; cases hd), rowsIn_any hF h⟩
    | _ => exact h.elim
  | halt x w' =>
    cases x <;> first | exact h | exact h.elim
/-- no operation puts a call off -/
def noDefer (ops : List Oper) : Bool := ops.all fun o => match o.op with | .defer _ => false | _ => true
theorem noDefer_op {ops : List Oper} (h : noDefer ops = true) : ∀ o ∈ ops, ∀ c, o.op ≠ .defer c := fun o ho c e => by
  have := List.all_eq_true.1 h o ho
  rw [e] at this
  cases this
/-- behind these operations the others; nothing is let out -/
def thenN (next : Act → World → Prop) (Q : Exit → Act → World → Prop) : Exit → Act → World → Prop
  | .normal, a, w => next a w
  | .outgrown, _, _ => False
  | e, a, w => Q e a w
theorem wpListIn_ofL {F : Fence} (hF : Fence.Open F) {n : Nat} {P : Program} {ops : Array Oper} {Q : Exit → Act → World → Prop} {rest : List Oper} : ∀ (l1 : List Oper) (_ : noDefer l1 = true) (a : Act) (w : World),
    wpList P ops (thenN (wpListIn F n P ops Q rest) Q) l1 a w → wpListIn F n P ops Q (l1 ++ rest) a w
  | [], _, _, _, h => h
  | o :: l1, hd, a, w, h => by
    have hd1 : noDefer l1 = true := by simp only [noDefer, List.all_cons, Bool.and_eq_true] at hd ⊢; exact hd.2
    show (if Region.wanted o (yielded ops a.tmps) then o.wpIn F n P a w (wpListIn F n P ops Q (l1 ++ rest)) Q
      else (∀ f, o.about P w a.eval = some f → F.fn f) ∧ wpListIn F n P ops Q (l1 ++ rest) (a.put o.dst undef) w)
    unfold wpList at h
    split at h
    · rename_i hw
      rw [if_pos hw]
      rcases h with h | ⟨_, _, _, h⟩
      · have h1 := Oper.wpIn_of_wp hF (n := n) (noDefer_op hd o (by simp)) h
        have hQ : o.wpIn F n P a w (wpListIn F n P ops Q (l1 ++ rest)) (thenN (wpListIn F n P ops Q rest) Q) := Oper.wpIn_mono (fun a w => wpListIn_ofL hF l1 hd1 a w) h1
        refine ⟨hQ.1, ?_⟩
        have h2 := hQ.2
        generalize (o.semAt F.round a.eval).run P w = r at h2 ⊢
        cases r with
        | ok x w' =>
          cases x with
          | enter f args => exact ⟨h2.1, CallsIn.mono h2.2 (fun e w'' he => by
              cases e with
              | returned v => exact he
              | panicked ch => exact he
              | outgrown => obtain ⟨_, _, he⟩ := he; exact he.elim)⟩
          | round l' f tmps assign body => exact ⟨h2.1, RoundIn.mono h2.2 (fun e w'' he => by
              cases e with
              | returned v => exact he
              | panicked ch => exact he
              | outgrown => obtain ⟨_, _, he⟩ := he; exact he.elim)⟩
          | _ => exact h2
        | halt x w' =>
          cases x <;> exact h2
      · exact h.elim
    · rename_i hw
      rw [if_neg hw]
      exact ⟨fun f _ => hF.fn_ f, wpListIn_ofL hF l1 hd1 _ _ h⟩
theorem wpListIn_of1 {F : Fence} (hF : Fence.Open F) {n : Nat} {P : Program} {ops : Array Oper} {Q : Exit → Act → World → Prop} {o : Oper} {rest : List Oper} {a : Act} {w : World} (hd : noDefer [o] = true)
    (h : wpList P ops (thenN (wpListIn F n P ops Q rest) Q) [o] a w) : wpListIn F n P ops Q (o :: rest) a w := wpListIn_ofL hF [o] hd a w h
theorem wpListIn_of2 {F : Fence} (hF : Fence.Open F) {n : Nat} {P : Program} {ops : Array Oper} {Q : Exit → Act → World → Prop} {o o2 : Oper} {rest : List Oper} {a : Act} {w : World} (hd : noDefer [o, o2] = true)
    (h : wpList P ops (thenN (wpListIn F n P ops Q rest) Q) [o, o2] a w) : wpListIn F n P ops Q (o :: o2 :: rest) a w := wpListIn_ofL hF [o, o2] hd a w h
theorem thenN_nil {P : Program} {ops : Array Oper} {next : Act → World → Prop} {Q : Exit → Act → World → Prop} {a : Act} {w : World} (h : next a w) : wpList P ops (thenN next Q) [] a w := h
end Go.Proofs.YtfhmjgkcpcnkbaaDoor
