/- Regions that draw their order, in a class of worlds: one walk of the text's order serves every order; a tail in one forced order may write. (Derived/Deep/Quiet and Derived/StillTail, joined.) No program in sight. -/
import Derived.Test.YtfhmjgkcpcnkbaaDoorQf101
import Derived.BigQuiet
import Derived.Test.YtfhmjgkcpcnkbaaDoorQf103
import Derived.Deep.LoopGhost
namespace Go.Proofs.YtfhmjgkcpcnkbaaDoor
open Go

/-- a world of a class -/
structure InC (CC : World → Prop) where
  W : World
  ok : CC W

/-- A region that draws, every operation of which yields one value in all worlds of a class and leaves one of the class. -/
theorem wp_region_class {P : Program} {id : Nat} {Q : Exit → Act → World → Prop} {a : Act} {w : World} {l : List Oper} (CC : World → Prop) (hm : P.follows .mixedOrders = true) (hB : Region.lexB .any l.toArray = true) (hC : CC w.drew)
    (h : Nonempty (InC CC) → wpQuiet P l.toArray (fun W => ∃ s : InC CC, W = s.W) (fun a' => ∀ w', CC w' → Q .normal a' w') l a) : (Code.region id l.toArray true).wp P Q a w := by
  refine wp_region_quiet (C := fun W => ∃ s : InC CC, W = s.W) hm hB ⟨⟨w.drew, hC⟩, rfl⟩ ?_
  have hmono : ∀ (l : List Oper) (ops : Array Oper) (C : World → Prop) (A B : Act → Prop) (hAB : ∀ a, A a → B a) (a : Act), wpQuiet P ops C A l a → wpQuiet P ops C B l a := by
    intro l ops C A B hAB
    induction l with
    | nil => exact fun a h => hAB a h
    | cons o l ih =>
      intro a h
      unfold wpQuiet at h ⊢
      split
      · rename_i hw; rw [if_pos hw] at h; exact Oper.quiet_mono ih h
      · rename_i hw; rw [if_neg hw] at h; exact ih _ h
  exact hmono l _ _ _ _ (fun a' ha w' hw' => by obtain ⟨s, rfl⟩ := hw'; exact ha s.W s.ok) a (by simpa using h ⟨⟨_, hC⟩⟩)

section
variable {P : Program} {ops : Array Oper} {md : Region.Mode} {C : World → Prop}

def wpAnyM (P : Program) (md : Region.Mode) (ops : Array Oper) (C : World → Prop) (n : Nat) (L : Array Bool → Act → Prop) : Nat → Array Bool → Act → Prop
  | 0, listed, a => L listed a
  | f + 1, listed, a =>
    Region.ready md ops listed ≠ [] ∧ ∀ i ∈ Region.ready md ops listed, i < n ∧ qOp P ops C i (wpAnyM P md ops C n L f (listed.setIfInBounds i true)) a

theorem wpAny_of_headM {n g : Nat} {L : Array Bool → Act → Prop} {Q' : Exit → Act → World → Prop} (hL : ∀ listed a w, C w → L listed a → wpAny P md ops Q' g listed a w) :
    ∀ (f : Nat) (listed : Array Bool) (a : Act) (w : World), C w → wpAnyM P md ops C n L f listed a → wpAny P md ops Q' (f + g) listed a w
  | 0, listed, a, w, hw, h => by rw [Nat.zero_add]; exact hL _ _ _ hw h
  | f + 1, listed, a, w, hw, h => by
    rw [show f + 1 + g = (f + g) + 1 by omega]
    exact ⟨fun h0 => absurd h0 h.1, fun i hi => wpOp_of_qOp hw (fun a' w' hw' h' => wpAny_of_headM hL f _ a' w' hw' h') (h.2 i hi).2⟩

theorem wpAnyM_first {n i : Nat} {oi : Oper} {v : Value} {L : Array Bool → Act → Prop} (hi : ops[i]? = some oi) (hsel : ∀ (j : Nat) (o : Oper) cs b, ops[j]? = some o → o.op ≠ .select cs b)
    (hs : Region.sinkB md ops n = true) (hc : Region.chainB md ops n = true) (hn : n < ops.size) (hin : i < n)
    (hdone : ∀ listed a, L listed a → ∀ j ∈ Region.ready md ops listed, n ≤ j) :
    ∀ (f : Nat) (listed : Array Bool) (a : Act), HeadInv md ops n listed →
      (∀ j oj, ops[j]? = some oj → j ≠ i → listed.getD j true = false → (∀ e ∈ oj.after, Region.binds md e = true → e.on ≠ i) → oi.apart ops oj = true) →
      i ∈ Region.ready md ops listed → YieldsIn P ops C oi v a →
      wpAnyM P md ops C n L f (listed.setIfInBounds i true) (a.put oi.dst v) → wpAnyM P md ops C n L (f + 1) listed a := by
  intro f
  induction f with
  | zero =>
    intro listed a inv _ hr hy H
    have hun := (mem_ready.1 hr).1
    refine ⟨fun h => (by rw [h] at hr; cases hr), fun j hj => ?_⟩
    have hjn : j < n := by
      rcases Nat.lt_or_ge j n with h | h
      · exact h
      · exact absurd hj (tail_waits hs hc hn inv _ i rfl hin hun j h)
    refine ⟨hjn, ?_⟩
    by_cases hji : j = i
    · subst hji; exact hy.qOp hi H
    · have := hdone _ _ H j (ready_mono hj hji)
      omega
  | succ f ih =>
    intro listed a inv hfree hr hy H
    have hun := (mem_ready.1 hr).1
    refine ⟨fun h => (by rw [h] at hr; cases hr), fun j hj => ?_⟩
    have hjn : j < n := by
      rcases Nat.lt_or_ge j n with h | h
      · exact h
      · exact absurd hj (tail_waits hs hc hn inv _ i rfl hin hun j h)
    refine ⟨hjn, ?_⟩
    by_cases hji : j = i
    · subst hji; exact hy.qOp hi H
    · have h1 := (H.2 j (ready_mono hj hji)).2
      obtain ⟨hjun, oj, hoj, hall⟩ := mem_ready.1 hj
      have hnot : ∀ e ∈ oj.after, Region.binds md e = true → e.on ≠ i := fun e he hb heq => by
        have h1 := hall e he hb
        rw [heq, getD_both hun] at h1
        cases h1
      have h2 := qOp_put hoj (hfree j oj hoj hji hjun hnot) (fun cs b => hsel i oi cs b hi) (fun cs b => hsel j oj cs b hoj) hy h1
      have hfree' : ∀ k ok, ops[k]? = some ok → k ≠ i → (listed.setIfInBounds j true).getD k true = false →
          (∀ e ∈ ok.after, Region.binds md e = true → e.on ≠ i) → oi.apart ops ok = true := fun k ok hk hki hun hno => by
        refine hfree k ok hk hki ?_ hno
        by_cases hjk : j = k
        · subst hjk; exact hjun
        · rw [getD_set_ne true hjk] at hun; exact hun
      refine qOp_mono (fun a' h3 => ih (listed.setIfInBounds j true) a' (inv.set hj hjn) hfree' (ready_mono hr (Ne.symm hji)) h3.1 ?_) h2
      rw [Array.setIfInBounds_comm _ _ hji]
      exact h3.2

theorem wpAnyM_lex {n g : Nat} {Lq : Act → Prop} (hsel : Region.noSelect ops = true) (hs : Region.sinkB md ops n = true) (hc : Region.chainB md ops n = true) (hn : n < ops.size) :
    ∀ (l : List Oper) (k : Nat) (listed : Array Bool) (a : Act), (∀ j, j < l.length → l[j]? = ops[k + j]?) → k + l.length = n → HeadInv md ops n listed →
    Region.lexHead md ops g l.length k listed = true → wpQuiet P ops C Lq l a →
    wpAnyM P md ops C n (fun listed' a' => Region.seqB md ops g n listed' = true ∧ Lq a') l.length listed a
  | [], k, listed, a, _, hk, _, hB, h => by
    have : k = n := by simpa using hk
    subst this
    exact ⟨by simpa [Region.lexHead] using hB, h⟩
  | o :: l, k, listed, a, hl, hk, inv, hB, h => by
    have h0 : ops[k]? = some o := by simpa using (hl 0 (by simp)).symm
    simp only [List.length_cons, Region.lexHead, Bool.and_eq_true] at hB
    obtain ⟨⟨hr, hf⟩, hB'⟩ := hB
    have hkn : k < n := by simp only [List.length_cons] at hk; omega
    have hr' : k ∈ Region.ready md ops listed := by simpa using hr
    have hst : qOp P ops C k (wpQuiet P ops C Lq l) a := by unfold qOp; simp only [h0]; exact h
    obtain ⟨v, hy, hK⟩ := yieldsIn_of_qOp h0 hst
    exact wpAnyM_first h0 (Region.noSelect_spec hsel) hs hc hn hkn (fun listed' a' hL => seqB_ready hL.1) l.length listed a inv (Region.free_spec h0 hf) hr' hy
      (wpAnyM_lex hsel hs hc hn l (k + 1) _ _ (fun j hj => by have := hl (j + 1) (by simp; omega); simpa [Nat.add_assoc, Nat.add_comm 1 j] using this) (by simp only [List.length_cons] at hk; omega) (inv.set hr' hkn) hB' hK)
end

/-- The same with a tail of operations in one forced order, which may do whatever. -/
theorem wp_region_class_tail {P : Program} {id : Nat} {Q : Exit → Act → World → Prop} {a : Act} {w : World} {l : List Oper} (CC : World → Prop) (n : Nat) (hm : P.follows .mixedOrders = true) (hB : Region.lexTailB .any l.toArray n = true) (hC : CC w.drew)
    (h : Nonempty (InC CC) → wpQuiet P l.toArray (fun W => ∃ s : InC CC, W = s.W) (fun a' => ∀ w', CC w' → wpList P l.toArray Q (l.drop n) a' w') (l.take n) a) : (Code.region id l.toArray true).wp P Q a w := by
  simp only [Region.lexTailB, Bool.and_eq_true, decide_eq_true_eq] at hB
  obtain ⟨⟨⟨⟨hsel, hn⟩, hs⟩, hc⟩, hlex⟩ := hB
  have hn' : n < l.length := by simpa using hn
  have htl : (l.take n).length = n := by simp; omega
  have hdl : (l.drop n).length = l.toArray.size - n := by simp
  have inv0 : HeadInv .any l.toArray n (Array.replicate l.toArray.size false) :=
    ⟨by simp, fun j oj _ hl => (by rw [getD_replicate_false] at hl; cases hl), fun t _ ht => getD_in (by simpa using ht) (getD_replicate_false _ _)⟩
  have H := wpAnyM_lex (C := fun W => ∃ s : InC CC, W = s.W) (md := .any) (g := l.toArray.size - n) hsel hs hc hn (l.take n) 0 _ a (fun j hj => by
    have hj' : j < n := by rw [htl] at hj; exact hj
    simp [hj']) (by simpa using htl) inv0 (by rw [htl]; exact hlex) (h ⟨⟨_, hC⟩⟩)
  refine wp_region_any hm ?_
  have := wpAny_of_headM (C := fun W => ∃ s : InC CC, W = s.W) (Q' := Q) (g := l.toArray.size - n) (fun listed a' w' hw' hL => by
    obtain ⟨s, rfl⟩ := hw'
    have := wpAny_of_seq (md := .any) (Q' := Q) (l.drop n) n listed a' s.W (fun j => by simp [List.getElem?_drop]) (by rw [hdl]; exact hL.1) (hL.2 s.W s.ok)
    rwa [hdl] at this) _ _ _ w.drew ⟨⟨w.drew, hC⟩, rfl⟩ H
  rw [htl, show n + (l.toArray.size - n) = l.toArray.size by omega] at this
  exact this

/-- in such a region: an operation whose run is known in every world of the class -/
theorem wpQuiet_run {P : Program} {ops : Array Oper} {CC : World → Prop} {Q : Act → Prop} {o : Oper} {rest : List Oper} {a : Act} (hgd : o.guard = none) (v : Value)
    (hrun : ∀ s : InC CC, (execOp a.eval o).run P s.W = .ok (.value v) s.W) (h : wpQuiet P ops (fun W => ∃ s : InC CC, W = s.W) Q rest (a.put o.dst v)) :
    wpQuiet P ops (fun W => ∃ s : InC CC, W = s.W) Q (o :: rest) a := by
  unfold wpQuiet
  rw [if_pos (by simp [Region.wanted, hgd])]
  refine ⟨v, fun w hw => ?_, h⟩
  obtain ⟨s, rfl⟩ := hw
  unfold Oper.quietAt
  rw [hrun s]
  exact ⟨rfl, rfl⟩
/-- .. an array or a struct read whole -/
theorem wpQuiet_load {P : Program} {ops : Array Oper} {CC : World → Prop} {Q : Act → Prop} {o : Oper} {rest : List Oper} {a : Act} (hgd : o.guard = none) (ty : TypeId) (x : Operand) (ho : o.op = .load ty x) (g off : Nat)
    (hx : a.eval x = .pointer (some ⟨g, off, none⟩)) (vs : Array Value) (hrun : ∀ s : InC CC, (Instr.loadAt ty (.pointer (some ⟨g, off, none⟩))).run P s.W = .ok (.agg vs) s.W)
    (h : wpQuiet P ops (fun W => ∃ s : InC CC, W = s.W) Q rest (a.put o.dst (.agg vs))) : wpQuiet P ops (fun W => ∃ s : InC CC, W = s.W) Q (o :: rest) a :=
  wpQuiet_run hgd (.agg vs) (fun s => by
    unfold execOp
    simp only [ho, hx, Sem.run_bind, Sem.run_pure, hrun s, Result.andThen_ok]) h
/-- elsewhere -/
theorem wpList_load {P : Program} {w : World} {ops : Array Oper} {Q : Exit → Act → World → Prop} {o : Oper} {rest : List Oper} {a : Act} (hgd : o.guard = none) (ty : TypeId) (x : Operand) (ho : o.op = .load ty x) (g off : Nat)
    (hx : a.eval x = .pointer (some ⟨g, off, none⟩)) (vs : Array Value) (hrun : (Instr.loadAt ty (.pointer (some ⟨g, off, none⟩))).run P w = .ok (.agg vs) w)
    (h : wpList P ops Q rest (a.put o.dst (.agg vs)) w) : wpList P ops Q (o :: rest) a w :=
  wpList_run0 hgd (.agg vs) (by
    unfold execOp
    simp only [ho, hx, Sem.run_bind, Sem.run_pure, hrun, Result.andThen_ok]) h
end Go.Proofs.YtfhmjgkcpcnkbaaDoor
/- The methods of sha.Sha. -/
namespace Go.Proofs.YtfhmjgkcpcnkbaaDoor
open Go.RowKit

/-- a sum under way in memory: its 74 cells -/
def shaCells (st : List UInt32) (bk : List UInt8) (n : Nat) : List Value := st.map U ++ (bk.map B ++ [.int .i64 (n : Int), .bool true])
theorem length_shaCells {st : List UInt32} {bk : List UInt8} {n : Nat} (h1 : st.length = 8) (h2 : bk.length = 64) : (shaCells st bk n).length = 74 := by simp [shaCells, h1, h2]

theorem take_two {α : Type} (p x r : List α) (a m : Nat) (hp : p.length = a) (hx : x.length = m) : (p ++ (x ++ r)).take (a + m) = p ++ x := by
  subst hp; subst hx
  rw [← List.append_assoc, ← List.length_append, List.take_left]

/-- the object at block g is the sum under way u; its buffer is bk -/
structure ShB (w : World) (g : Nat) (u : Und) (bk : List UInt8) : Prop where
  blk : Blk w g 158 (shaCells u.st.list bk u.len).toArray
  len : bk.length = 64
  ok : u.ok
  pre : bk.take u.rest.length = u.rest
  lt : u.len < 9223372036854775808

/-- the same, whatever its buffer -/
def Sh (w : World) (g : Nat) (u : Und) : Prop := ∃ bk, ShB w g u bk

section
variable {w w' : World} {g : Nat} {u : Und} {bk : List UInt8}
theorem ShB.move (h : ShB w g u bk) (hb : Blk w' g 158 (shaCells u.st.list bk u.len).toArray) : ShB w' g u bk := ⟨hb, h.len, h.ok, h.pre, h.lt⟩
theorem ShB.size (h : ShB w g u bk) : (shaCells u.st.list bk u.len).toArray.size = 74 := by simpa using length_shaCells (length_list u.st) h.len
theorem ShB.cell_len (h : ShB w g u bk) : w.cell? ⟨g, 72, none⟩ = some (.int .i64 (u.len : Int)) := by
  rw [h.blk.cell]
  simp only [shaCells, List.getElem?_toArray]
  rw [List.getElem?_append_right (by simp [length_list]), List.getElem?_append_right (by simp [length_list, h.len])]
  simp [length_list, h.len]
theorem ShB.cell_made (h : ShB w g u bk) : w.cell? ⟨g, 73, none⟩ = some (.bool true) := by
  rw [h.blk.cell]
  simp only [shaCells, List.getElem?_toArray]
  rw [List.getElem?_append_right (by simp [length_list]), List.getElem?_append_right (by simp [length_list, h.len])]
  simp [length_list, h.len]
theorem ShB.cell_st (h : ShB w g u bk) (j : Nat) (v : Value) (hv : (u.st.list.map U)[j]? = some v) : w.cell? ⟨g, j, none⟩ = some v := by
  have hj : j < 8 := by
    have := (List.getElem?_eq_some_iff.1 hv).1
    simpa [length_list] using this
  rw [h.blk.cell]
  simp only [shaCells, List.getElem?_toArray]
  rw [List.getElem?_append_left (by simpa [length_list] using hj)]
  exact hv
theorem ShB.cell_bk (h : ShB w g u bk) (j : Nat) (v : Value) (hv : (bk.map B)[j]? = some v) : w.cell? ⟨g, 8 + j, none⟩ = some v := by
  have hj : j < 64 := by
    have := (List.getElem?_eq_some_iff.1 hv).1
    simpa [h.len] using this
  rw [h.blk.cell]
  simp only [shaCells, List.getElem?_toArray]
  rw [List.getElem?_append_right (by simp [length_list]), List.getElem?_append_left (by simp [length_list, h.len]; omega)]
  rw [← hv]
  simp [length_list]
/-- the length is written -/
theorem shaCells_len (st : List UInt32) (bk : List UInt8) (n m : Nat) (h1 : st.length = 8) (h2 : bk.length = 64) : (shaCells st bk n).toArray.setIfInBounds 72 (.int .i64 (m : Int)) = (shaCells st bk m).toArray := by
  simp only [List.setIfInBounds_toArray, shaCells]
  rw [List.set_append_right _ _ (by simp [h1]), List.set_append_right _ _ (by simp [h1, h2])]
  simp [h1, h2]
/-- bytes are laid into the buffer -/
theorem shaCells_copy (st : List UInt32) (bk x : List UInt8) (n a : Nat) (h1 : st.length = 8) (h2 : bk.length = 64) (h3 : a + x.length ≤ 64) :
    ((shaCells st bk n).toArray.toList.take (8 + a) ++ x.map B ++ (shaCells st bk n).toArray.toList.drop (8 + a + x.length)) = shaCells st (bk.take a ++ (x ++ bk.drop (a + x.length))) n := by
  simp only [shaCells]
  rw [List.take_append, List.drop_append]
  simp only [List.length_map, h1]
  rw [List.take_of_length_le (by simp [h1]), List.drop_eq_nil_of_le (by simp [h1]; omega), List.take_append, List.drop_append]
  simp only [List.length_map, h2]
  rw [show 8 + a - 8 = a by omega, show 8 + a + x.length - 8 = a + x.length by omega, show a - 64 = 0 by omega, show a + x.length - 64 = 0 by omega]
  simp
/-- the state is written -/
theorem shaCells_st (st st' : List UInt32) (bk : List UInt8) (n : Nat) (h1 : st.length = 8) : ((shaCells st bk n).toArray.toList.take 0 ++ (st'.map U).toArray.toList ++ (shaCells st bk n).toArray.toList.drop (0 + 8)) = shaCells st' bk n := by
  simp only [shaCells]
  rw [List.drop_append]
  simp [h1]
end

theorem size23 : ∀ w : World, (sizeOf (Tryd.prog.elem 104)).run Tryd.prog w = .ok 1 w := fun _ => by kernel_rfl
theorem sliceT23 : Tryd.prog.underlying 104 = some (.slice (Tryd.prog.elem 104)) := by kernel_rfl
theorem size34e : ∀ w : World, (sizeOf (Tryd.prog.elem 150)).run Tryd.prog w = .ok 1 w := fun _ => by kernel_rfl
theorem arrT34 : Tryd.prog.underlying 150 = some (.array (Tryd.prog.arrayLen 150) (Tryd.prog.elem 150)) := by kernel_rfl
theorem arrN34 : Tryd.prog.arrayLen 150 = 64 := by kernel_rfl
theorem size34 : ∀ w : World, (sizeOf 150).run Tryd.prog w = .ok 64 w := fun _ => by kernel_rfl
theorem agg34 : ∀ w : World, (isAgg 150).run Tryd.prog w = .ok true w := fun _ => by kernel_rfl
theorem one5 : (Tryd.prog.info? 5).map (·.size) = some 1 := by kernel_rfl
theorem oneB (l : List UInt8) : ∀ v ∈ l.map B, v.oneCell' = true := by simp [Value.oneCell']

set_option maxHeartbeats 400000 in
theorem none_any {w : World} {g : Nat} {u : Und} {bk : List UInt8} (h : ShB w g u bk) :
    Calls Tryd.prog 101 #[.pointer (some ⟨g, 0, none⟩)] w fun e w' => e = .returned (.bool false) ∧ w = w' := by
  have c := h.cell_made
  go_enter Tryd.func101, Tryd.ntmps101
  go_wp2
  go_ret
  exact ⟨rfl, rfl⟩

set_option maxHeartbeats 1000000 in
set_option maxRecDepth 100000 in
theorem take_any (g : Nat) (u : Und) (b : List UInt8) (A : Option Addr) (c : Nat) (w : World) (h : Sh w g u) (hb : Bs w (· ≠ g) A (b.map B)) (hc : b.length ≤ c) (hlen : u.len + b.length < 9223372036854775808) :
    Calls Tryd.prog 91 #[.pointer (some ⟨g, 0, none⟩), .slice A b.length c] w fun e w' => e = .returned (.tuple #[]) ∧ Sh w' g (u.take b) ∧ w.grownBy w' (some g) := by
  have hu0 : u.ok := h.choose_spec.ok
  go_enter Tryd.func91, Tryd.ntmps91
  go_wp2_with fail
  go_loopw [1] (fun i wr => ∃ (k : Nat) (A' : Option Addr) (n' c' : Nat), k ≤ b.length ∧ n' = b.length - k ∧ n' ≤ c' ∧ i = .slice A' n' c' ∧ Bs wr (· ≠ g) A' ((b.drop k).map B) ∧ Sh wr g (u.take (b.take k)) ∧ w.grownBy wr (some g))
    (fun i _ => sliceLen i)
  case atStart => exact ⟨0, A, b.length, c, by omega, by omega, hc, rfl, by simpa using hb, by simpa [Und.take_nil u hu0] using h, World.grownBy.refl w _⟩
  case round =>
    obtain ⟨k, A', n', c', hk, hn', hc', rfl, hb', ⟨bk, hsh⟩, hg⟩ := hrel
    have Hn := Lib.hid hn'
    clear hn'
    by_cases hpos : 0 < n'
    · obtain ⟨v, hv⟩ : ∃ v, u.take (b.take k) = v := ⟨_, rfl⟩
      rw [hv] at hsh
      have Hv := Lib.hid hv
      clear hv
      have hlv : v.len = u.len + k := by rw [← Hv.out, Und.take_len, List.length_take]; have := Hn.out; omega
      have hok : v.rest.length = v.len % 64 := hsh.ok
      obtain ⟨a, ha⟩ : ∃ a, v.rest.length = a := ⟨_, rfl⟩
      have ha2 : a < 64 := by omega
      obtain ⟨m, hm⟩ : ∃ m, Nat.min n' (64 - a) = m := ⟨_, rfl⟩
      have hm1 : m ≤ n' := by rw [← hm]; exact Nat.min_le_left _ _
      have hm2 : m ≤ 64 - a := by rw [← hm]; exact Nat.min_le_right _ _
      have hm3 : m = n' ∨ m = 64 - a := by rw [← hm]; rcases Nat.le_total n' (64 - a) with h | h <;> simp [h] <;> omega
      have e1 : (v.len : Int) % 64 = (a : Int) := by omega
      have c1 := hsh.cell_len
      have sl1 := fun W => run_slice_arr (P := Tryd.prog) arrT34 arrN34 size34e g 8 a ha2 W
      have sl2 := fun W => run_slice_low (P := Tryd.prog) sliceT23 size23 A' n' c' m hm1 W
      simp only [Nat.mul_one] at sl1 sl2
      have hbl : ((b.drop k).map B).length = n' := by rw [List.length_map, List.length_drop, Hn.out]
      have cp := run_copy_blk (P := Tryd.prog) 3 Tryd.underlying104 one5 g (8 + a) 158 _ (64 - a) (64 - a) (· ≠ g) A' ((b.drop k).map B) n' c' hsh.blk hbl hb' (by rw [hsh.size, hm]; omega) (oneB _)
      rw [hm] at cp
      obtain ⟨x, hx⟩ : ∃ x, (b.drop k).take m = x := ⟨_, rfl⟩
      have hxl : x.length = m := by rw [← hx, List.length_take, List.length_drop]; have := Hn.out; omega
      obtain ⟨bk1, hbk1⟩ : ∃ bk1, bk.take a ++ (x ++ bk.drop (a + m)) = bk1 := ⟨_, rfl⟩
      have hcopy : ((shaCells v.st.list bk v.len).toArray.toList.take (8 + a) ++ ((b.drop k).map B).take m ++ (shaCells v.st.list bk v.len).toArray.toList.drop (8 + a + m)) = shaCells v.st.list bk1 v.len := by
        have := shaCells_copy v.st.list bk x v.len a (length_list _) hsh.len (by omega)
        rw [hxl, hbk1, ← hx, List.map_take] at this
        exact this
      rw [hcopy] at cp
      have kbk1 : bk1.length = 64 := by rw [← hbk1]; simp [hsh.len, hxl]; omega
      obtain ⟨W1, hW1⟩ : ∃ W1, wr.setRow g (shaCells v.st.list bk1 v.len).toArray = W1 := ⟨_, rfl⟩
      rw [hW1] at cp
      have k1 : Blk W1 g 158 (shaCells v.st.list bk1 v.len).toArray := by rw [← hW1]; exact hsh.blk.setRow_ _
      have kg : w.grownBy W1 (some g) := by rw [← hW1]; exact grown_setRow hg _
      have kb : Bs W1 (· ≠ g) A' ((b.drop k).map B) := by rw [← hW1]; exact hb'.setRow_ _
      obtain ⟨A2, hA2⟩ : ∃ A2, (if c' = m then A' else A'.map (·.add m)) = A2 := ⟨_, rfl⟩
      rw [hA2] at sl2
      have kb2 : Bs W1 (· ≠ g) A2 ((b.drop (k + m)).map B) := by
        have := kb.drop (c := c') (k := m) (s := 1) (by rw [hbl]; omega)
        rw [Nat.mul_one, hA2, ← List.map_drop, List.drop_drop] at this
        exact this
      have c2 : W1.cell? ⟨g, 72, none⟩ = some (.int .i64 (v.len : Int)) := by
        rw [k1.cell]
        simp only [shaCells, List.getElem?_toArray]
        rw [List.getElem?_append_right (by simp [length_list]), List.getElem?_append_right (by simp [length_list, kbk1])]
        simp [length_list, kbk1]
      have f2 := k1.frozen 72
      have k2 : Blk (W1.setCell ⟨g, 72, none⟩ (.int .i64 ((v.len + m : Nat) : Int))) g 158 (shaCells v.st.list bk1 (v.len + m)).toArray := by
        have := k1.set_ 72 (.int .i64 ((v.len + m : Nat) : Int))
        rw [shaCells_len _ _ _ _ (length_list _) kbk1] at this
        exact this
      have kg2 : w.grownBy (W1.setCell ⟨g, 72, none⟩ (.int .i64 ((v.len + m : Nat) : Int))) (some g) := grown_setCell kg _ _
      have kb3 : Bs (W1.setCell ⟨g, 72, none⟩ (.int .i64 ((v.len + m : Nat) : Int))) (· ≠ g) A2 ((b.drop (k + m)).map B) := kb2.setCell _ (by simp)
      have hcast : ((v.len + m : Nat) : Int) = (v.len : Int) + (m : Int) := by omega
      have hrest : v.take x = u.take (b.take (k + m)) := by
        rw [← Hv.out, Und.take_take, ← hx]
        congr 1
        rw [List.take_add]
      have hlen2 : v.len + m < 9223372036854775808 := by have := Hn.out; omega
      have hmb : k + m ≤ b.length := by have := Hn.out; omega
      have htake : bk1.take (a + m) = v.rest ++ x := by
        have hp := hsh.pre
        rw [ha] at hp
        rw [← hbk1, ← hp]
        have e0 : (bk.take a).length = a := by rw [List.length_take, hsh.len]; omega
        exact take_two _ _ _ _ _ e0 hxl
      rw [hcast] at k2 kg2 kb3
      obtain ⟨W2, hW2⟩ : ∃ W2, W1.setCell ⟨g, 72, none⟩ (.int .i64 ((v.len : Int) + (m : Int))) = W2 := ⟨_, rfl⟩
      rw [hW2] at k2 kg2 kb3
      have Hm := Lib.hid hm3
      have Hhm := Lib.hid hm
      have Hha := Lib.hid ha
      have Hhok := Lib.hid hok
      have Hbl := Lib.hid hbl
      have Hlv := Lib.hid hlv
      have HW1 := Lib.hid hW1
      have HA2 := Lib.hid hA2
      have Hxl := Lib.hid hxl
      have Hbk1 := Lib.hid kbk1
      have Htake := Lib.hid htake
      have Hrest := Lib.hid hrest
      clear hm ha hok hbl hlv hW1 hA2 hcopy hcast hx hbk1 hxl kbk1 htake hrest hm3
      by_cases hfull : a + m = 64
      · have t1 : ((a : Int) + (m : Int) == 64) = true := by rw [beq_iff_eq]; omega
        have Hfull := Lib.hid hfull
        clear hfull
        obtain ⟨sl, hsl⟩ : ∃ sl, v.st.list = sl := ⟨_, rfl⟩
        rw [hsl] at k2
        have Hsl := Lib.hid hsl
        obtain ⟨CC, mk, un⟩ : ∃ CC : World → Prop, (∀ W, Blk W g 158 (shaCells sl bk1 (v.len + m)).toArray → Bs W (· ≠ g) A2 ((b.drop (k + m)).map B) → w.grownBy W (some g) → CC W) ∧
            (∀ W, CC W → Blk W g 158 (shaCells sl bk1 (v.len + m)).toArray ∧ Bs W (· ≠ g) A2 ((b.drop (k + m)).map B) ∧ w.grownBy W (some g)) := ⟨_, fun _ h1 h2 h3 => ⟨h1, h2, h3⟩, fun _ h => h⟩
        have l1 : ∀ s : InC CC, (Instr.loadAt 136 (.pointer (some ⟨g, 0, none⟩))).run Tryd.prog s.W = .ok (.agg (sl.map U).toArray) s.W := fun s => by
          refine run_load_agg (agg33 _) (size33 _) g 0 (sl.map U) (by rw [← hsl]; rfl) fun j u hu => ?_
          have hj : j < 8 := by have := (List.getElem?_eq_some_iff.1 hu).1; rw [← hsl] at this; simpa [length_list] using this
          rw [Nat.zero_add, (un _ s.ok).1.cell]
          simp only [shaCells, List.getElem?_toArray]
          rw [List.getElem?_append_left (by rw [← hsl]; simpa [length_list] using hj)]
          exact hu
        have l2 : ∀ s : InC CC, (Instr.loadAt 150 (.pointer (some ⟨g, 8, none⟩))).run Tryd.prog s.W = .ok (.agg (bk1.map B).toArray) s.W := fun s => by
          refine run_load_agg (agg34 _) (size34 _) g 8 (bk1.map B) (by simpa using Hbk1.out) fun j u hu => ?_
          have hj : j < 64 := by have := (List.getElem?_eq_some_iff.1 hu).1; simpa [Hbk1.out] using this
          rw [(un _ s.ok).1.cell]
          simp only [shaCells, List.getElem?_toArray]
          rw [List.getElem?_append_right (by rw [← hsl]; simp [length_list]), List.getElem?_append_left (by rw [← hsl]; simp [length_list, Hbk1.out]; omega), ← hu, ← hsl]
          simp [length_list]
        have hblock : ∀ W : World, Calls Tryd.prog 100 #[.agg (sl.map U).toArray, .agg (bk1.map B).toArray] W fun e w' => e = .returned (.agg ((v.st.block bk1).list.map U).toArray) ∧ Below W.heap.size W w' := fun W => by
          have := block_any sl bk1 W (by rw [← hsl]; rfl) Hbk1.out
          rw [show S8.of sl = v.st by rw [← hsl]; rfl] at this
          exact this
        have Hblock := Lib.hid hblock
        have Mk := Lib.hid mk
        have Un := Lib.hid un
        clear hsl hblock mk un
        go_wp2_with fail
        refine wp_region_class_tail CC 12 (by kernel_rfl) (by kernel_rfl) (Mk.out _ k2.drew kb3.drew (grown_drew kg2)) fun _ => ?_
        simp only [List.take_succ_cons, List.take_zero, List.drop_succ_cons, List.drop_zero]
        repeat (first | ((with_reducible refine wpQuiet_load rfl 136 (.tmp 39) rfl g 0 rfl _ l1 ?_); simp only [Act.put, List.setIfInBounds_toArray, List.set_cons_succ, List.set_cons_zero]) | ((with_reducible refine wpQuiet_load rfl 150 (.tmp 43) rfl g 8 rfl _ l2 ?_); simp only [Act.put, List.setIfInBounds_toArray, List.set_cons_succ, List.set_cons_zero]) | go_big_quiet_step ((go_at_call 100; refine (Hblock.out _).mono ?_; rintro e w' ⟨rfl, hbe⟩; refine ⟨rfl, ⟨_, Mk.out _ ((Un.out _ (InC.ok _)).1.below hbe (Un.out _ (InC.ok _)).1.lt) ((Un.out _ (InC.ok _)).2.1.below hbe fun _ h _ => h) (grown_below (Un.out _ (InC.ok _)).2.2 hbe)⟩, rfl⟩)))
        refine wpQuiet_nil ?_
        intro W3 hW3
        obtain ⟨k3, kb4, kg3⟩ := Un.out _ hW3
        go_wp2_with (refine wpList_store_agg rfl 136 (.tmp 47) (.tmp 45) rfl 8 size33 g 0 ((v.st.block bk1).list.map U).toArray rfl rfl rfl (oneCell_U _) 158 _ k3 ?_ ?_)
        · rw [List.size_toArray, length_shaCells (by rw [← Hsl.out]; rfl) Hbk1.out]; omega
        · have hst := shaCells_st sl (v.st.block bk1).list bk1 (v.len + m) (by rw [← Hsl.out]; rfl)
          rw [hst]
          have k4 := k3.setRow_ (shaCells (v.st.block bk1).list bk1 (v.len + m)).toArray
          have kg4 := grown_setRow kg3 (shaCells (v.st.block bk1).list bk1 (v.len + m)).toArray
          have kb5 := kb4.setRow_ (shaCells (v.st.block bk1).list bk1 (v.len + m)).toArray
          have hsh2 : Sh (W3.setRow g (shaCells (v.st.block bk1).list bk1 (v.len + m)).toArray) g (u.take (b.take (k + m))) := by
            have hbk : bk1 = v.rest ++ x := by rw [← Htake.out, Hfull.out, List.take_of_length_le (by rw [Hbk1.out]; omega)]
            rw [← Hrest.out, Und.take_full v x (by rw [Hha.out, Hxl.out]; exact Hfull.out), Hxl.out, ← hbk]
            refine ⟨bk1, k4, Hbk1.out, ?_, rfl, hlen2⟩
            unfold Und.ok
            have := Hhok.out
            have := Hha.out
            have := Hfull.out
            simp only [List.length_nil]
            omega
          clear hst
          simp only [Act.put]
          go_wp2_with fail
          go_roundw
          case rel => exact ⟨k + m, A2, _, _, by omega, by have := Hn.out; omega, by omega, rfl, kb5, hsh2, kg4⟩
          case measure =>
            show n' - m < n'
            have := Hfull.out
            omega
      · have t1 : ((a : Int) + (m : Int) == 64) = false := by rw [beq_eq_false_iff_ne]; omega
        have hsh2 : Sh W2 g (u.take (b.take (k + m))) := by
          rw [← Hrest.out, Und.take_short v x (by rw [Hha.out, Hxl.out]; omega), Hxl.out]
          refine ⟨bk1, k2, Hbk1.out, ?_, ?_, hlen2⟩
          · unfold Und.ok; simp only [List.length_append]; rw [Hha.out, Hxl.out]; have := Hhok.out; omega
          · simp only [List.length_append]; rw [Hha.out, Hxl.out]; exact Htake.out
        clear hfull
        go_wp2_with fail
        refine ⟨⟨k + m, A2, _, _, by have := Hn.out; omega, by have := Hn.out; omega, by omega, rfl, kb3, hsh2, kg2⟩, ?_⟩
        show n' - m < n'
        rcases Hm.out with h | h <;> omega
    · have hk0 : k = b.length := by have := Hn.out; omega
      have hfin : Sh wr g (u.take b) := by
        rw [hk0, List.take_length] at hsh
        exact ⟨bk, hsh⟩
      have hn0 : (n' : Int) = 0 := by omega
      clear hk0
      have Hn0 := Lib.hid hn0
      clear hn0
      go_wp2_with fail
      go_end0
      exact ⟨rfl, hfin, hg⟩
end Go.Proofs.YtfhmjgkcpcnkbaaDoor
/- sha.New, put, Sum, Write; sha.Sum. -/
namespace Go.Proofs.YtfhmjgkcpcnkbaaDoor
open Go.RowKit

set_option maxHeartbeats 1000000 in
set_option maxRecDepth 100000 in
theorem first_any (w : World) :
    Calls Tryd.prog 99 #[] w fun e w' => e = .returned (.agg (H256.map U).toArray) ∧ Below w.heap.size w w' := by
  go_enter Tryd.func99, Tryd.ntmps99
  go_wp2_with (first
    | (refine wpList_run0 (o := ⟨some 1, .build _ _, _, _, _, _⟩) rfl (.agg (H256.map U).toArray) (by kernel_rfl) ?_)
    | (refine wpList_store_blk rfl 136 (.tmp 0) (.tmp 1) rfl 8 size33 w.heap.size (H256.map U).toArray rfl (by kernel_rfl) (by rfl) (oneCell_U _) 136 _ (Blk.new _ _ _) (by rfl) ?_))
  refine bodyPost_ret (results_cell_row rfl _ _ w.heap.size 136 (H256.map U).toArray (0, 0) _ rfl ((Blk.new _ _ _).setRow_ _) Tryd.underlying136 rfl (by kernel_rfl)) rfl ⟨rfl, ?_⟩
  exact below_setRow ((Below.refl _ _).alloc (Nat.le_refl _) _) (Nat.le_refl _) _

set_option maxHeartbeats 1000000 in
set_option maxRecDepth 100000 in
theorem new_any (w : World) :
    Calls Tryd.prog 90 #[] w fun e w' => ∃ g, e = .returned (.pointer (some ⟨g, 0, none⟩)) ∧ w.heap.size ≤ g ∧ Sh w' g Und.new ∧ Below w.heap.size w w' := by
  obtain ⟨cs, hcs⟩ : ∃ cs, (shaCells H256 (List.replicate 64 0) 0).toArray = cs := ⟨_, rfl⟩
  obtain ⟨fs, hfs⟩ : ∃ fs, (H256.map U).toArray = fs := ⟨_, rfl⟩
  have hf := first_any w
  rw [hfs] at hf
  have Hfs := Lib.hid hfs
  have Hcs := Lib.hid hcs
  clear hcs hfs
  go_enter Tryd.func90, Tryd.ntmps90
  go_wp2_with (first
    | (go_at_call 99; refine hf.mono ?_; rintro e w1 ⟨rfl, hb1⟩)
    | (refine wpList_run0 (o := ⟨some 2, .build _ _, _, _, _, _⟩) rfl (.agg cs) (by rw [← Hcs.out, ← Hfs.out]; kernel_rfl) ?_)
    | (refine wpList_run (o := ⟨some 3, .box _ _, _, _, _, _⟩) rfl (.pointer (some ⟨w1.heap.size, 0, none⟩)) (w1.alloc (.cells cs 158)) (by rfl) ?_))
  go_ret
  refine ⟨w1.heap.size, rfl, hb1.size, ⟨List.replicate 64 0, ?_, by simp, rfl, rfl, by decide⟩, hb1.alloc hb1.size _⟩
  rw [show Und.new.st.list = H256 from rfl, show Und.new.len = 0 from rfl, Hcs.out]
  exact Blk.new _ _ _

/-- four bytes are laid -/
def setFour (L : List UInt8) (o : Nat) (x : UInt32) : List UInt8 := L.take o ++ (word4 x ++ L.drop (o + 4))
theorem length_setFour (L : List UInt8) (o : Nat) (x : UInt32) (h : o + 4 ≤ L.length) : (setFour L o x).length = L.length := by
  simp [setFour, length_word4]; omega
theorem set_chain (L : List UInt8) (o : Nat) (x : UInt32) (h : o + 4 ≤ L.length) :
    (((L.set o (x >>> 24).toUInt8).set (o + 1) (x >>> 16).toUInt8).set (o + 2) (x >>> 8).toUInt8).set (o + 3) x.toUInt8 = setFour L o x := by
  obtain ⟨p, q, hp, hq⟩ : ∃ p q, L = p ++ q ∧ p.length = o := ⟨L.take o, L.drop o, by simp, by simp; omega⟩
  subst hp; subst hq
  match q, h with
  | a :: b :: c :: d :: r, _ => simp [setFour, word4]
  | [], h => exact absurd h (by simp)
  | [_], h => simp at h
  | [_, _], h => simp at h
  | [_, _, _], h => simp at h
theorem byte24 (x : UInt32) : (x.toNat : Int) / (16777216 : Int) % (256 : Int) = (((x >>> 24).toUInt8).toNat : Int) := by
  have h := shr32 x 24 (by omega)
  rw [show (UInt32.ofNat 24) = 24 from rfl] at h
  rw [UInt32.toNat_toUInt8, Int.natCast_emod, ← h]; rfl
theorem byte24' (x : UInt32) : (x.toNat : Int) / (16777216 : Int) = (((x >>> 24).toUInt8).toNat : Int) := by
  rw [← byte24]
  have := u32_lt x
  omega
theorem byte16 (x : UInt32) : (x.toNat : Int) / (65536 : Int) % (256 : Int) = (((x >>> 16).toUInt8).toNat : Int) := by
  have h := shr32 x 16 (by omega)
  rw [show (UInt32.ofNat 16) = 16 from rfl] at h
  rw [UInt32.toNat_toUInt8, Int.natCast_emod, ← h]; rfl
theorem byte8 (x : UInt32) : (x.toNat : Int) / (256 : Int) % (256 : Int) = (((x >>> 8).toUInt8).toNat : Int) := by
  have h := shr32 x 8 (by omega)
  rw [show (UInt32.ofNat 8) = 8 from rfl] at h
  rw [UInt32.toNat_toUInt8, Int.natCast_emod, ← h]; rfl
theorem byte0 (x : UInt32) : (x.toNat : Int) % (256 : Int) = ((x.toUInt8).toNat : Int) := by
  rw [UInt32.toNat_toUInt8, Int.natCast_emod]; rfl

set_option maxHeartbeats 1000000 in
theorem put_any (g o n c : Nat) (t : TypeId) (L : List UInt8) (x : UInt32) (w : World) (h : Blk w g t (L.map B).toArray) (ho : o + 4 ≤ L.length) (hn : 4 ≤ n) :
    Calls Tryd.prog 102 #[.slice (some ⟨g, o, none⟩) n c, U x] w fun e w' => e = .returned (.tuple #[]) ∧ Blk w' g t ((setFour L o x).map B).toArray ∧ w.grownBy w' (some g) := by
  have hx := u32_lt x
  have c0 := (h.cell o).trans (cellB L o (by omega))
  have c1 := (h.cell (o + 1)).trans (cellB L (o + 1) (by omega))
  have c2 := (h.cell (o + 2)).trans (cellB L (o + 2) (by omega))
  have c3 := (h.cell (o + 3)).trans (cellB L (o + 3) (by omega))
  have f0 := h.frozen o
  have f1 := h.frozen (o + 1)
  have f2 := h.frozen (o + 2)
  have f3 := h.frozen (o + 3)
  go_enter Tryd.func102, Tryd.ntmps102
  go_wp2_with fail
  go_rounds 5
  go_end0
  refine ⟨rfl, ?_, ?_⟩
  · have := (((h.set_ o (B (x >>> 24).toUInt8)).set_ (o + 1) (B (x >>> 16).toUInt8)).set_ (o + 2) (B (x >>> 8).toUInt8)).set_ (o + 3) (B x.toUInt8)
    rw [setB, setB, setB, setB, set_chain L o x ho] at this
    rw [byte24', byte16, byte8, byte0]
    exact this
  · exact grown_setCell (grown_setCell (grown_setCell (grown_setCell (World.grownBy.refl w _) _ _) _ _) _ _) _ _
end Go.Proofs.YtfhmjgkcpcnkbaaDoor
