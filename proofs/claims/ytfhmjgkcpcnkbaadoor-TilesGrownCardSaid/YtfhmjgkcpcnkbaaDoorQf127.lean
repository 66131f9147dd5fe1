/- Parts side by side in memory; fronts; front.New, slices.Clone of parts. -/
import Derived.Test.YtfhmjgkcpcnkbaaDoorQf126
import Derived.Test.YtfhmjgkcpcnkbaaDoorQf110
import Derived.Test.YtfhmjgkcpcnkbaaDoorQf118
import Derived.Lib.LazyBuf
import Derived.Test.YtfhmjgkcpcnkbaaDoorQf114
import Derived.Test.YtfhmjgkcpcnkbaaDoorQf123
import Derived.Test.YtfhmjgkcpcnkbaaDoorQf107
import Derived.Lib.MinMax
namespace Go.Proofs.YtfhmjgkcpcnkbaaDoor
open Go Go.RowKit Go.Shelf
attribute [local go_sem] Oper.semAt_some

abbrev PcV := Int × List UInt8
def pcD : PcV := (0, [])
abbrev pccell (p : PcV) : List Value := Value.int .i64 p.1 :: p.2.map B
theorem oneCell_pc (n : Int) (l : List UInt8) : ∀ v ∈ (Value.int .i64 n :: l.map B).toArray.toList, v.oneCell' = true := by
  intro v hv
  simp only [List.mem_cons, List.mem_map] at hv
  rcases hv with rfl | ⟨b, _, rfl⟩ <;> rfl
theorem flat_atC {s : Nat} : ∀ (L : List (List Value)) (_ : ∀ cs ∈ L, cs.length = s) (k j : Nat) (v : Value) (_ : k < L.length) (_ : (L.getD k [])[j]? = some v), L.flatten[k * s + j]? = some v
  | cs :: L, hL, 0, j, v, _, h => by
    have h : cs[j]? = some v := h
    rw [List.flatten_cons, Nat.zero_mul, Nat.zero_add, List.getElem?_append_left (List.getElem?_eq_some_iff.1 h).1]
    exact h
  | cs :: L, hL, k + 1, j, v, hk, h => by
    have hc := hL cs (by simp)
    have := flat_atC L (fun x hx => hL x (by simp [hx])) k j v (by simpa using hk) h
    rw [List.flatten_cons, List.getElem?_append_right (by rw [hc, Nat.succ_mul]; omega), hc, show (k + 1) * s + j - s = k * s + j by rw [Nat.succ_mul]; omega]
    exact this
theorem flat_lenC {s : Nat} : ∀ (L : List (List Value)), (∀ cs ∈ L, cs.length = s) → L.flatten.length = L.length * s
  | [], _ => by simp
  | cs :: L, h => by
    rw [List.flatten_cons, List.length_append, h cs (by simp), flat_lenC L (fun x hx => h x (by simp [hx])), List.length_cons, Nat.succ_mul]
    omega
def pccells (ps : List PcV) : List Value := (ps.map pccell).flatten
def Pc32 (ps : List PcV) : Prop := ∀ p ∈ ps, p.2.length = 32
structure Pcs (w : World) (X : Nat → Prop) (A : Option Addr) (n c : Nat) (ps : List PcV) : Prop where
  sl : SlV w X A n c 33 (pccells ps)
  len : ps.length = n
  all : Pc32 ps
theorem pccells_append (a b : List PcV) : pccells (a ++ b) = pccells a ++ pccells b := by simp [pccells]
theorem Pc32.append {a b : List PcV} (h : Pc32 a) (k : Pc32 b) : Pc32 (a ++ b) := fun x hx => (List.mem_append.1 hx).elim (h x) (k x)
theorem Pc32.getD {ps : List PcV} (h : Pc32 ps) (k : Nat) (hk : k < ps.length) : (ps.getD k pcD).2.length = 32 := by
  rw [List.getD_eq_getElem?_getD, List.getElem?_eq_getElem hk]
  exact h _ (List.getElem_mem hk)
theorem Pc32.cell {ps : List PcV} (h : Pc32 ps) : ∀ cs ∈ ps.map pccell, cs.length = 33 := fun cs hc => by
  obtain ⟨p, hp, rfl⟩ := List.mem_map.1 hc
  simp [h p hp]
theorem pccells_len (ps : List PcV) (h : Pc32 ps) : (pccells ps).length = ps.length * 33 := by
  unfold pccells
  rw [flat_lenC _ h.cell, List.length_map]
theorem onePc (ps : List PcV) : ∀ v ∈ pccells ps, v.oneCell' = true := fun v hv => by
  obtain ⟨cs, h1, h2⟩ := List.mem_flatten.1 hv
  obtain ⟨p, _, rfl⟩ := List.mem_map.1 h1
  exact oneCell_pc p.1 p.2 v h2
section
variable {w w' : World} {X Y : Nat → Prop} {A : Option Addr} {n c : Nat} {ps : List PcV}
theorem Pcs.weak (h : Pcs w X A n c ps) (hX : ∀ b, b < w.heap.size → X b → Y b) : Pcs w Y A n c ps := ⟨h.sl.weak hX, h.len, h.all⟩
theorem Pcs.every (h : Pcs w X A n c ps) : Pcs w (fun _ => True) A n c ps := h.weak fun _ _ _ => trivial
theorem Pcs.step (h : Pcs w X A n c ps) (hb : Below w.heap.size w w') : Pcs w' X A n c ps := ⟨h.sl.step hb, h.len, h.all⟩
theorem Pcs.grown {row : Option Nat} (h : Pcs w X A n c ps) (hg : w.grownBy w' row) (hX : ∀ b, b < w.heap.size → X b → some b ≠ row) : Pcs w' X A n c ps := ⟨h.sl.grown hg hX, h.len, h.all⟩
theorem Pcs.empty : Pcs w X none 0 0 [] := ⟨SlV.empty, rfl, fun _ h => absurd h (by simp)⟩
theorem Pcs.of_owns {T : TypeId} {base : Nat} {v : Value} (h : w.ownsRow base T 33 v n (pccells ps)) (hn : ps.length = n) (ha : Pc32 ps) : ∃ A c, v = .slice A n c ∧ Pcs w (fun b => base ≤ b ∧ some b = v.ownBlock) A n c ps := by
  obtain ⟨A, c, hv, hs⟩ := owns_slv h
  exact ⟨A, c, hv, hs, hn, ha⟩
theorem Pcs.take (h : Pcs w X A n c ps) (k : Nat) (hk : k ≤ n) : Pcs w X A k c (ps.take k) := by
  refine ⟨?_, by rw [List.length_take, h.len]; omega, fun p hp => h.all p (List.mem_of_mem_take hp)⟩
  have e : pccells (ps.take k) = (pccells ps).take (k * 33) := by
    have h1 : pccells ps = pccells (ps.take k) ++ pccells (ps.drop k) := by rw [← pccells_append, List.take_append_drop]
    have h2 := pccells_len (ps.take k) fun p hp => h.all p (List.mem_of_mem_take hp)
    rw [List.length_take, h.len, Nat.min_eq_left hk] at h2
    obtain ⟨q, hq⟩ : ∃ q, pccells (ps.take k) = q := ⟨_, rfl⟩
    rw [hq] at h1 h2 ⊢
    rw [h1, List.take_append_of_le_length (by rw [h2]; exact Nat.le_refl _), List.take_of_length_le (by rw [h2]; exact Nat.le_refl _)]
  rw [e]
  exact h.sl.take k hk
theorem Pcs.at_ (h : Pcs w X A n c ps) (hn : 0 < n) : ∃ b o, A = some ⟨b, o, none⟩ ∧ b < w.heap.size ∧ X b := by
  obtain ⟨b, o, h1, h2, h3, -⟩ := h.sl.at_ hn (by decide)
  exact ⟨b, o, h1, h2, h3⟩
theorem Pcs.cell (h : Pcs w X A n c ps) {b o : Nat} (hA : A = some ⟨b, o, none⟩) (i : Nat) (hi : i < n) (j : Nat) (v : Value) (hv : (pccell (ps.getD i pcD))[j]? = some v) : w.cell? ⟨b, o + i * 33 + j, none⟩ = some v := by
  obtain ⟨b', o', e, -, -, h4⟩ := h.sl.at_ (by omega) (by decide)
  rw [hA] at e
  cases e
  rw [Nat.add_assoc]
  refine h4 _ v (flat_atC _ h.all.cell i j v (by rw [List.length_map, h.len]; exact hi) ?_)
  rw [List.getD_eq_getElem?_getD, List.getElem?_map, List.getElem?_eq_getElem (l := ps) (by rw [h.len]; exact hi)]
  rw [List.getD_eq_getElem?_getD, List.getElem?_eq_getElem (l := ps) (by rw [h.len]; exact hi)] at hv
  exact hv
theorem Pcs.num (h : Pcs w X A n c ps) {b o : Nat} (hA : A = some ⟨b, o, none⟩) (i : Nat) (hi : i < n) : w.cell? ⟨b, o + i * 33, none⟩ = some (.int .i64 (ps.getD i pcD).1) := h.cell hA i hi 0 _ rfl
theorem Pcs.hash (h : Pcs w X A n c ps) {b o : Nat} (hA : A = some ⟨b, o, none⟩) (i : Nat) (hi : i < n) : (Instr.loadAt 48 (.pointer (some ⟨b, o + i * 33 + 1, none⟩))).run Tryd.prog w = .ok (.agg ((ps.getD i pcD).2.map B).toArray) w :=
  run_load_agg (agg26 _) (size26 _) b (o + i * 33 + 1) ((ps.getD i pcD).2.map B) (by rw [List.length_map, h.all.getD i (by rw [h.len]; exact hi)]) fun j u hu => by
    rw [show o + i * 33 + 1 + j = o + i * 33 + (j + 1) by omega]
    exact h.cell hA i hi (j + 1) u (by rw [List.getElem?_cons_succ]; exact hu)
theorem Pcs.load {T : TypeId} (hT : ∀ w : World, (isAgg T).run Tryd.prog w = .ok true w) (hs : ∀ w : World, (sizeOf T).run Tryd.prog w = .ok 33 w) (h : Pcs w X A n c ps) {b o : Nat} (hA : A = some ⟨b, o, none⟩) (i : Nat) (hi : i < n) :
    (Instr.loadAt T (.pointer (some ⟨b, o + i * 33, none⟩))).run Tryd.prog w = .ok (.agg (.int .i64 (ps.getD i pcD).1 :: (ps.getD i pcD).2.map B).toArray) w :=
  run_load_agg (hT _) (hs _) b (o + i * 33) (pccell (ps.getD i pcD)) (by rw [List.length_cons, List.length_map, h.all.getD i (by rw [h.len]; exact hi)]) fun j u hu => h.cell hA i hi j u hu
/-- parts lie nowhere where less than 33 cells are -/
theorem Pcs.apart (h : Pcs w X A n c ps) {g : Nat} {T : TypeId} {cs : Array Value} (k : Blk w g T cs) (hk : cs.size < 33) : Pcs w (fun b => X b ∧ b ≠ g) A n c ps := by
  refine ⟨⟨fun hne => ?_, h.sl.len, h.sl.room, h.sl.nil, h.sl.max⟩, h.len, h.all⟩
  obtain ⟨b, o, h1, h2, h3, h4⟩ := h.sl.bs hne
  refine ⟨b, o, h1, h2, ⟨h3, fun e => ?_⟩, h4⟩
  subst e
  have hlen := pccells_len ps h.all
  have hq : 0 < ps.length := by
    rcases Nat.eq_zero_or_pos ps.length with e | e
    · rw [List.length_eq_zero_iff.1 e] at hne; exact absurd rfl hne
    · exact e
  have h5 := h4 32 _ (List.getElem?_eq_getElem (by rw [hlen]; omega))
  rw [k.cell, Array.getElem?_eq_none (by omega)] at h5
  cases h5
end
/-- a front's parts, as they lie -/
def fpc (ps : FrV) : List PcV := ps.map fun p => ((p.1 : Int), p.2)
theorem fpc_append (a b : FrV) : fpc (a ++ b) = fpc a ++ fpc b := by simp [fpc]
theorem length_fpc (ps : FrV) : (fpc ps).length = ps.length := by simp [fpc]
theorem fpc_32 (ps : FrV) (h : F32 ps) : Pc32 (fpc ps) := fun p hp => by
  obtain ⟨q, hq, rfl⟩ := List.mem_map.1 hp
  exact h q hq
theorem fpc_getD (ps : FrV) (i : Nat) : (fpc ps).getD i pcD = (((ps.getD i (0, [])).1 : Int), (ps.getD i (0, [])).2) := by
  unfold fpc
  rw [List.getD_eq_getElem?_getD, List.getElem?_map, List.getD_eq_getElem?_getD]
  cases ps[i]? <;> rfl
end Go.Proofs.YtfhmjgkcpcnkbaaDoor
/- What paths and steps cover. No program in sight. -/
namespace Go.Proofs.YtfhmjgkcpcnkbaaDoor

def spanSum (l : List (Nat × Nat)) : Nat := (l.map fun x => x.2 - x.1).sum
theorem spanSum_append (l m : List (Nat × Nat)) : spanSum (l ++ m) = spanSum l + spanSum m := by simp [spanSum]
theorem spanSum_one (x : Nat × Nat) : spanSum [x] = x.2 - x.1 := by simp [spanSum]
def apartR (x y : Nat × Nat) : Prop := x.2 ≤ y.1 ∨ y.2 ≤ x.1

structure PathOk (i a b : Nat) (l : List (Nat × Nat)) : Prop where
  each : ∀ x ∈ l, a ≤ x.1 ∧ x.1 < x.2 ∧ x.2 ≤ b ∧ (x.2 ≤ i ∨ i < x.1)
  sum : spanSum l + 1 = b - a
  apart : l.Pairwise apartR
theorem pathL_ok (d : Nat) : ∀ i a b : Nat, b - a ≤ d → a ≤ i → i < b → PathOk i a b (pathL i a b) := by
  induction d with
  | zero => intro i a b h h1 h2; omega
  | succ d ih =>
    intro i a b h h1 h2
    by_cases hb : b - a < 2
    · rw [pathL_small i a b hb]
      exact ⟨by simp, by simp [spanSum]; omega, List.Pairwise.nil⟩
    · have hl := splitN_lt (b - a) (by omega)
      have hp := splitN_pos (b - a) (by omega)
      by_cases hi : i < a + splitN (b - a)
      · rw [pathL_left i a b (by omega) hi]
        have hr := ih i a (a + splitN (b - a)) (by omega) h1 hi
        refine ⟨fun x hx => ?_, ?_, ?_⟩
        · rcases List.mem_append.1 hx with hx | hx
          · obtain ⟨g1, g2, g3, g4⟩ := hr.each x hx
            exact ⟨g1, g2, by omega, g4⟩
          · rw [List.mem_singleton.1 hx]
            exact ⟨by show a ≤ a + _; omega, by show a + _ < b; omega, Nat.le_refl _, .inr hi⟩
        · rw [spanSum_append, spanSum_one]
          have := hr.sum
          show spanSum _ + (b - (a + splitN (b - a))) + 1 = b - a
          omega
        · refine List.pairwise_append.2 ⟨hr.apart, List.pairwise_singleton _ _, fun x hx y hy => ?_⟩
          rw [List.mem_singleton.1 hy]
          exact .inl (hr.each x hx).2.2.1
      · rw [pathL_right i a b (by omega) hi]
        have hr := ih i (a + splitN (b - a)) b (by omega) (by omega) h2
        refine ⟨fun x hx => ?_, ?_, ?_⟩
        · rcases List.mem_append.1 hx with hx | hx
          · obtain ⟨g1, g2, g3, g4⟩ := hr.each x hx
            exact ⟨by omega, g2, g3, g4⟩
          · rw [List.mem_singleton.1 hx]
            exact ⟨Nat.le_refl _, by show a < a + _; omega, by show a + _ ≤ b; omega, .inl (by show a + _ ≤ i; omega)⟩
        · rw [spanSum_append, spanSum_one]
          have := hr.sum
          show spanSum _ + (a + splitN (b - a) - a) + 1 = b - a
          omega
        · refine List.pairwise_append.2 ⟨hr.apart, List.pairwise_singleton _ _, fun x hx y hy => ?_⟩
          rw [List.mem_singleton.1 hy]
          exact .inr (hr.each x hx).1
theorem pathL_len (d : Nat) : ∀ i a b : Nat, b - a ≤ 2 ^ d → (pathL i a b).length ≤ d := by
  induction d with
  | zero => intro i a b h; rw [pathL_small i a b (by omega)]; simp
  | succ d ih =>
    intro i a b h
    by_cases hb : b - a < 2
    · rw [pathL_small i a b hb]; simp
    · obtain ⟨j, h1, h2, h3⟩ := splitN_pow (b - a) (by omega)
      have hj : j ≤ d := by
        have : 2 ^ j < 2 ^ (d + 1) := by omega
        have := (Nat.pow_lt_pow_iff_right (a := 2) (by decide)).1 this
        omega
      have hjd : 2 ^ j ≤ 2 ^ d := Nat.pow_le_pow_right (by decide) hj
      have e : 2 ^ (j + 1) = 2 * 2 ^ j := by rw [Nat.pow_succ]; omega
      by_cases hi : i < a + splitN (b - a)
      · rw [pathL_left i a b (by omega) hi, List.length_append]
        have := ih i a (a + splitN (b - a)) (by omega)
        simp; omega
      · rw [pathL_right i a b (by omega) hi, List.length_append]
        have := ih i (a + splitN (b - a)) b (by omega)
        simp; omega

/-- from a stretch up, each time one that is beside it -/
def upP : Nat × Nat → List (Nat × Nat) → Option (Nat × Nat)
  | p, [] => some p
  | p, x :: l => if x.2 = p.1 then upP (x.1, p.2) l else if x.1 = p.2 then upP (p.1, x.2) l else none
theorem upP_snoc (x : Nat × Nat) : ∀ (l : List (Nat × Nat)) (p q : Nat × Nat), upP p l = some q → upP p (l ++ [x]) = upP q [x]
  | [], p, q, h => by cases h; rfl
  | y :: l, p, q, h => by
    simp only [List.cons_append, upP] at h ⊢
    split at h
    · rename_i g; rw [if_pos g]; exact upP_snoc x l _ q h
    · rename_i g
      split at h
      · rename_i g'; rw [if_neg g, if_pos g']; exact upP_snoc x l _ q h
      · cases h
theorem pathL_up (d : Nat) : ∀ i a b : Nat, b - a ≤ d → a ≤ i → i < b → upP (i, i + 1) (pathL i a b) = some (a, b) := by
  induction d with
  | zero => intro i a b h h1 h2; omega
  | succ d ih =>
    intro i a b h h1 h2
    by_cases hb : b - a < 2
    · rw [pathL_small i a b hb]
      have e1 : i = a := by omega
      have e2 : i + 1 = b := by omega
      rw [upP, e2, e1]
    · have hl := splitN_lt (b - a) (by omega)
      have hp := splitN_pos (b - a) (by omega)
      by_cases hi : i < a + splitN (b - a)
      · rw [pathL_left i a b (by omega) hi, upP_snoc _ _ _ _ (ih i a _ (by omega) h1 hi)]
        simp only [upP]
        rw [if_neg (by omega)]
        simp
      · rw [pathL_right i a b (by omega) hi, upP_snoc _ _ _ _ (ih i _ b (by omega) (by omega) h2)]
        simp [upP]

/-- what lies within [0, m), what behind -/
def withinSum (m : Nat) (l : List (Nat × Nat)) : Nat := spanSum (l.filter fun x => decide (x.2 ≤ m))
def behindSum (m : Nat) (l : List (Nat × Nat)) : Nat := spanSum (l.filter fun x => !decide (x.2 ≤ m))
theorem withinSum_append (m : Nat) (l k : List (Nat × Nat)) : withinSum m (l ++ k) = withinSum m l + withinSum m k := by simp [withinSum, spanSum_append]
theorem behindSum_append (m : Nat) (l k : List (Nat × Nat)) : behindSum m (l ++ k) = behindSum m l + behindSum m k := by simp [behindSum, spanSum_append]
theorem withinSum_one (m : Nat) (x : Nat × Nat) : withinSum m [x] = if x.2 ≤ m then x.2 - x.1 else 0 := by
  by_cases h : x.2 ≤ m <;> simp [withinSum, spanSum, h]
theorem behindSum_one (m : Nat) (x : Nat × Nat) : behindSum m [x] = if x.2 ≤ m then 0 else x.2 - x.1 := by
  by_cases h : x.2 ≤ m <;> simp [behindSum, spanSum, h]

structure StepsOk (m a n : Nat) (whole : Bool) (l : List (Nat × Nat)) : Prop where
  each : ∀ x ∈ l, a ≤ x.1 ∧ x.1 < x.2 ∧ x.2 ≤ a + n ∧ (x.2 ≤ a + m ∨ a + m ≤ x.1)
  apart : l.Pairwise apartR
  behind : behindSum (a + m) l = n - m
  within : withinSum (a + m) l = m ∨ (withinSum (a + m) l = 0 ∧ whole = true ∧ (m = n ∨ ∃ j, m = 2 ^ j))
theorem stepsL_ok (d : Nat) : ∀ (m a n : Nat) (whole : Bool), n ≤ d → 1 ≤ m → m ≤ n → StepsOk m a n whole (stepsL m a n whole) := by
  induction d with
  | zero => intro m a n whole h h1 h2; omega
  | succ d ih =>
    intro m a n whole h h1 h2
    by_cases hmn : m = n
    · subst hmn
      rw [stepsL_eq m a whole h1]
      cases whole with
      | true => exact ⟨by simp, by simp, by simp [behindSum, spanSum], .inr ⟨by simp [withinSum, spanSum], rfl, .inl rfl⟩⟩
      | false =>
        refine ⟨?_, by simp, ?_, .inl ?_⟩
        · simp only [Bool.false_eq_true, if_false, List.mem_singleton]
          rintro x rfl
          exact ⟨Nat.le_refl _, by show a < a + m; omega, Nat.le_refl _, .inl (Nat.le_refl _)⟩
        · simp [behindSum_one]
        · simp [withinSum_one]
    · have hl := splitN_lt n (by omega)
      have hp := splitN_pos n (by omega)
      by_cases hk : m ≤ splitN n
      · rw [stepsL_left m a n whole h1 (by omega) hk]
        have hr := ih m a (splitN n) whole (by omega) h1 hk
        have hx2 : ¬ a + n ≤ a + m := by omega
        refine ⟨fun x hx => ?_, ?_, ?_, ?_⟩
        · rcases List.mem_append.1 hx with hx | hx
          · obtain ⟨g1, g2, g3, g4⟩ := hr.each x hx
            exact ⟨g1, g2, by omega, g4⟩
          · rw [List.mem_singleton.1 hx]
            exact ⟨by show a ≤ a + splitN n; omega, by show a + splitN n < a + n; omega, Nat.le_refl _, .inr (by show a + m ≤ a + splitN n; omega)⟩
        · refine List.pairwise_append.2 ⟨hr.apart, List.pairwise_singleton _ _, fun x hx y hy => ?_⟩
          rw [List.mem_singleton.1 hy]
          exact .inl (hr.each x hx).2.2.1
        · rw [behindSum_append, behindSum_one, hr.behind, if_neg hx2]
          show splitN n - m + (a + n - (a + splitN n)) = n - m
          omega
        · rw [withinSum_append, withinSum_one, if_neg hx2]
          rcases hr.within with g | ⟨g1, g2, g3⟩
          · exact .inl (by omega)
          · refine .inr ⟨by omega, g2, .inr ?_⟩
            rcases g3 with g3 | g3
            · obtain ⟨j, hj, _, _⟩ := splitN_pow n (by omega)
              exact ⟨j, by omega⟩
            · exact g3
      · rw [stepsL_right m a n whole h1 (by omega) hk]
        have hr := ih (m - splitN n) (a + splitN n) (n - splitN n) false (by omega) (by omega) (by omega)
        have e : a + splitN n + (m - splitN n) = a + m := by omega
        have hx2 : a + splitN n ≤ a + m := by omega
        have hbe := hr.behind
        have hwi := hr.within
        rw [e] at hbe hwi
        refine ⟨fun x hx => ?_, ?_, ?_, ?_⟩
        · rcases List.mem_append.1 hx with hx | hx
          · obtain ⟨g1, g2, g3, g4⟩ := hr.each x hx
            exact ⟨by omega, g2, by omega, by omega⟩
          · rw [List.mem_singleton.1 hx]
            exact ⟨Nat.le_refl _, by show a < a + splitN n; omega, by show a + splitN n ≤ a + n; omega, .inl hx2⟩
        · refine List.pairwise_append.2 ⟨hr.apart, List.pairwise_singleton _ _, fun x hx y hy => ?_⟩
          rw [List.mem_singleton.1 hy]
          exact .inr (hr.each x hx).1
        · rw [behindSum_append, behindSum_one, if_pos hx2]
          clear hwi hr ih
          omega
        · rw [withinSum_append, withinSum_one, if_pos hx2]
          refine .inl ?_
          rcases hwi with g | ⟨_, g2, _⟩
          · rw [g]; show m - splitN n + (a + splitN n - a) = m; omega
          · cases g2
theorem stepsL_len (d : Nat) : ∀ (m a n : Nat) (whole : Bool), 1 ≤ m → m ≤ n → n ≤ 2 ^ d → (stepsL m a n whole).length ≤ d + 1 := by
  induction d with
  | zero =>
    intro m a n whole h1 h2 h
    obtain rfl : m = n := by omega
    rw [stepsL_eq m a whole h1]
    cases whole <;> simp
  | succ d ih =>
    intro m a n whole h1 h2 h
    by_cases hmn : m = n
    · subst hmn
      rw [stepsL_eq m a whole h1]
      cases whole <;> simp
    · obtain ⟨j, g1, g2, g3⟩ := splitN_pow n (by omega)
      have hj : j ≤ d := by
        have : 2 ^ j < 2 ^ (d + 1) := by omega
        have := (Nat.pow_lt_pow_iff_right (a := 2) (by decide)).1 this
        omega
      have hjd : 2 ^ j ≤ 2 ^ d := Nat.pow_le_pow_right (by decide) hj
      have e : 2 ^ (j + 1) = 2 * 2 ^ j := by rw [Nat.pow_succ]; omega
      by_cases hk : m ≤ splitN n
      · rw [stepsL_left m a n whole h1 (by omega) hk, List.length_append]
        have := ih m a (splitN n) whole h1 hk (by omega)
        simp; omega
      · rw [stepsL_right m a n whole h1 (by omega) hk, List.length_append]
        have := ih (m - splitN n) (a + splitN n) (n - splitN n) false (by omega) (by omega) (by omega)
        simp; omega
end Go.Proofs.YtfhmjgkcpcnkbaaDoor
/- tree.Path. -/
namespace Go.Proofs.YtfhmjgkcpcnkbaaDoor
open Go Go.RowKit

theorem natR_append (a b : List (Nat × Nat)) : natR (a ++ b) = natR a ++ natR b := by simp [natR]
theorem natR_length (a : List (Nat × Nat)) : (natR a).length = a.length := by simp [natR]

/-- where a number is no entry's -/
theorem tpath_bad (i n : Int) (w : World) (h : i < 0 ∨ n ≤ i) :
    Calls Tryd.prog 54 #[.int .i64 i, .int .i64 n] w fun e w' => e = .returned (.tuple #[.slice none 0 0, .int .i64 4]) ∧ w = w' := by
  by_cases h0 : i < 0
  · go_enter Tryd.func54, Tryd.ntmps54
    go_wp2_with fail
    go_ret2
    exact ⟨rfl, rfl⟩
  · have h1 : decide (n ≤ i) = true := by simp; omega
    have h0' : decide (i < 0) = false := by simp; omega
    go_enter Tryd.func54, Tryd.ntmps54
    go_wp2_with fail
    go_ret2
    exact ⟨rfl, rfl⟩

structure PtC (w : World) (os : List (Nat × Nat)) (v : Value) (W : World) : Prop where
  own : W.ownsRow w.heap.size 96 2 v os.length (rcells (natR os))
  bel : Below w.heap.size w W

set_option maxHeartbeats 2000000 in
set_option maxRecDepth 100000 in
theorem tpath_ok (i n : Nat) (w : World) (hi : i < n) (hn : n ≤ 9223372036854775807) :
    Calls Tryd.prog 54 #[.int .i64 (i : Int), .int .i64 (n : Int)] w fun e w' => ∃ v, e = .returned (.tuple #[v, .int .i64 0]) ∧ w'.ownsRow w.heap.size 96 2 v (pathL i 0 n).length (rcells (natR (pathL i 0 n))) ∧ Below w.heap.size w w' := by
  obtain ⟨p, hp⟩ : ∃ p, pathL i 0 n = p := ⟨_, rfl⟩
  have hpl : p.length ≤ 63 := by rw [← hp]; exact pathL_len 63 i 0 n (by omega)
  rw [hp]
  have Hp := Lib.hid hp
  clear hp
  have h0 : decide ((i : Int) < 0) = false := by simp
  have h1 : decide ((n : Int) ≤ (i : Int)) = false := by simp; omega
  have h1' : decide (n ≤ i) = false := by simp; omega
  go_enter Tryd.func54, Tryd.ntmps54
  go_wp2_with fail
  clear h0 h1 h1'
  go_loopw [6, 7, 8] (fun o f t wr => ∃ (a b : Nat) (v : Value) (os : List (Nat × Nat)), f = .int .i64 (a : Int) ∧ t = .int .i64 (b : Int) ∧ v = o ∧ a ≤ i ∧ i < b ∧ b ≤ n ∧ pathL i a b ++ os.reverse = p ∧ PtC w os v wr) (fun _ f t => fun _ => (intOf t - intOf f).toNat)
  case atStart => exact ⟨0, n, _, [], rfl, rfl, rfl, Nat.zero_le _, hi, Nat.le_refl _, by simpa using Hp.out, World.ownsRow_nil _ _ _ _, Below.refl _ _⟩
  case round =>
    obtain ⟨a, b, v, os, rfl, rfl, rfl, ha, hib, hbn, hpa, hC⟩ := hrel
    have hol : os.length ≤ 63 := by have := congrArg List.length hpa; rw [List.length_append, List.length_reverse] at this; omega
    by_cases hgt : 1 < b - a
    · have hd : decide ((1 : Int) < (b : Int) - (a : Int)) = true := by simp; omega
      have hsl := splitN_lt (b - a) (by omega)
      have hsp := splitN_pos (b - a) (by omega)
      have hpl' := pathL_left i a b (by omega)
      have hpr' := pathL_right i a b (by omega)
      have hspl := fun w => tsplit_any ((b : Int) - (a : Int)) w (by omega)
      rw [show ((b : Int) - (a : Int)).toNat = b - a by omega] at hspl
      obtain ⟨s, hs⟩ : ∃ s, splitN (b - a) = s := ⟨_, rfl⟩
      rw [hs] at hsl hsp hpl' hpr' hspl
      have Hpl := Lib.hid hpl'
      have Hpr := Lib.hid hpr'
      have Hspl := Lib.hid hspl
      have Hpa := Lib.hid hpa
      clear hs hpl' hpr' hspl hpa
      by_cases hlt : i < a + s
      · have hd2 : decide ((i : Int) < (a : Int) + (s : Int)) = true := by simp; omega
        obtain ⟨v', w', hr, ho, hg, -⟩ := append_r hC.own (((a + s : Nat) : Int), (b : Int)) (by omega) hC.bel.size
        rw [show natR os ++ [(((a + s : Nat) : Int), (b : Int))] = natR (os ++ [(a + s, b)]) by rw [natR_append]; rfl] at ho
        rw [show os.length + 1 = (os ++ [(a + s, b)]).length by simp] at ho
        rw [show ((a + s : Nat) : Int) = (a : Int) + (s : Int) by omega] at hr
        have hC2 : PtC w (os ++ [(a + s, b)]) v' w' := ⟨ho, hC.bel.grown hg hC.bel.size (fun k hk => (hC.own.lt k hk).1)⟩
        have Hr := Lib.hid hr
        clear hr ho hg hC
        go_wp2_with (first
          | (go_at_call 71; refine (Hspl.out _).mono ?_; rintro e w2 ⟨rfl, rfl⟩)
          | ((with_reducible show wpList _ _ _ (⟨some 36, .call _, _, _, _, _⟩ :: _) _ _); refine wpList_run rfl v' w' (run_append_op (.tmp 31) (.tmp 35) 107 rfl _ _ rfl rfl Hr.out) ?_; simp only [Act.put]))
        refine ⟨⟨a, a + s, v', os ++ [(a + s, b)], rfl, by go_num, rfl, ha, hlt, by omega, ?_, hC2⟩, ?_⟩
        · rw [← Hpa.out, Hpl.out hlt]; simp
        · simp [intOf]; omega
      · have hd2 : decide ((i : Int) < (a : Int) + (s : Int)) = false := by simp; omega
        obtain ⟨v', w', hr, ho, hg, -⟩ := append_r hC.own ((a : Int), ((a + s : Nat) : Int)) (by omega) hC.bel.size
        rw [show natR os ++ [((a : Int), ((a + s : Nat) : Int))] = natR (os ++ [(a, a + s)]) by rw [natR_append]; rfl] at ho
        rw [show os.length + 1 = (os ++ [(a, a + s)]).length by simp] at ho
        rw [show ((a + s : Nat) : Int) = (a : Int) + (s : Int) by omega] at hr
        have hC2 : PtC w (os ++ [(a, a + s)]) v' w' := ⟨ho, hC.bel.grown hg hC.bel.size (fun k hk => (hC.own.lt k hk).1)⟩
        have Hr := Lib.hid hr
        clear hr ho hg hC
        go_wp2_with (first
          | (go_at_call 71; refine (Hspl.out _).mono ?_; rintro e w2 ⟨rfl, rfl⟩)
          | ((with_reducible show wpList _ _ _ (⟨some 43, .call _, _, _, _, _⟩ :: _) _ _); refine wpList_run rfl v' w' (run_append_op (.tmp 38) (.tmp 42) 107 rfl _ _ rfl rfl Hr.out) ?_; simp only [Act.put]))
        refine ⟨⟨a + s, b, v', os ++ [(a, a + s)], by go_num, rfl, rfl, by omega, hib, hbn, ?_, hC2⟩, ?_⟩
        · rw [← Hpa.out, Hpr.out hlt]; simp
        · simp [intOf]; omega
    · have hd : decide ((1 : Int) < (b : Int) - (a : Int)) = false := by simp; omega
      have hos : os.reverse = p := by rw [← hpa, pathL_small i a b (by omega)]; rfl
      have hol2 : os.length = p.length := by rw [← hos, List.length_reverse]
      have hrev := rev_any (natR os) v os.length w.heap.size wr hC.own (natR_length os) (by omega)
      rw [show (natR os).reverse = natR p by rw [← hos]; simp [natR], hol2] at hrev
      have Hrev := Lib.hid hrev
      clear hos hpa hrev
      go_wp2_with fail
      refine Hrev.out.mono ?_
      rintro e w2 ⟨⟨r, rfl⟩, ho2, hg2⟩
      have hb2 := hC.bel.grown hg2 hC.bel.size (fun k hk => (hC.own.lt k hk).1)
      clear hol2
      go_wp2_with fail
      go_ret2
      exact ⟨_, rfl, ho2, hb2⟩
end Go.Proofs.YtfhmjgkcpcnkbaaDoor
/- notaryref09.SameRanges, SameHashes: where two lists are alike. -/
namespace Go.Proofs.YtfhmjgkcpcnkbaaDoor
open Go Go.RowKit

theorem underR : Tryd.prog.underlying 96 = some (.struct (Tryd.prog.fieldsOf 96)) := by kernel_rfl
theorem heldR : Tryd.prog.stoodInHeld 96 = false := by kernel_rfl
theorem guardR : Tryd.prog.eqGuardType Tryd.prog.depth 96 = false := by kernel_rfl
theorem run_neqR (a b c d : Int) (W : World) : (binOp .neq 96 (.agg #[.int .i64 a, .int .i64 b]) (.agg #[.int .i64 c, .int .i64 d])).run Tryd.prog W = .ok (.bool (!(a == c && b == d))) W := by
  have hf : (Tryd.prog.fieldsOf 96).toList = [{ name := "From", type := 2, offset := 0, embedded := false, tag := "", pkgPath := "", byteOffset := 0 }, { name := "To", type := 2, offset := 1, embedded := false, tag := "", pkgPath := "", byteOffset := 8 }] := by kernel_rfl
  rw [run_neq_struct, run_equalIn_agg W 9999 _ _ _ underR heldR, hf]
  simp [go_sem, part, Op.eqFields]
  by_cases h1 : a = c <;> by_cases h2 : b = d <;> simp [h1, h2]
theorem run_neqR_f {ρ : Operand → Value} {o : Oper} (x y : Operand) (ty : TypeId) (a b : Int) (ho : o.op = .binOp .neq 96 x y ty) (hx : ρ x = .agg #[.int .i64 a, .int .i64 b]) (hy : ρ y = .agg #[.int .i64 a, .int .i64 b]) (W : World) :
    (execOp ρ o).run Tryd.prog W = .ok (.value (.bool false)) W := by
  unfold execOp
  simp only [ho, hx, hy, run_eqGuard_agg W .neq 96 x y _ _ guardR, Sem.run_bind, Sem.run_pure, run_neqR, Result.andThen_ok]
  simp

structure SrC (w : World) (A A' : Option Addr) (n c c' : Nat) (l : List (Int × Int)) (W : World) : Prop where
  h1 : Rs W (fun _ => True) A n c l
  h2 : Rs W (fun _ => True) A' n c' l
  bel : Below w.heap.size w W
theorem SrC.drew {w W : World} {A A' : Option Addr} {n c c' : Nat} {l : List (Int × Int)} (h : SrC w A A' n c c' l W) : SrC w A A' n c c' l W.drew := ⟨h.h1.drew, h.h2.drew, h.bel.drew⟩

structure SmC (w : World) (A A' : Option Addr) (n c c' : Nat) (hs : List (List UInt8)) (W : World) : Prop where
  h1 : Hs W (fun _ => True) A n c hs
  h2 : Hs W (fun _ => True) A' n c' hs
  bel : Below w.heap.size w W
theorem SmC.drew {w W : World} {A A' : Option Addr} {n c c' : Nat} {hs : List (List UInt8)} (h : SmC w A A' n c c' hs W) : SmC w A A' n c c' hs W.drew := ⟨h.h1.drew, h.h2.drew, h.bel.drew⟩

end Go.Proofs.YtfhmjgkcpcnkbaaDoor
/- tiles: places in memory. -/
namespace Go.Proofs.YtfhmjgkcpcnkbaaDoor
open Go Go.RowKit
attribute [local go_sem] Oper.semAt_some

abbrev PlV := Nat × Nat × Nat
def plcell (p : PlV) : List Value := [.int .i64 (p.1 : Int), .int .i64 (p.2.1 : Int), .int .i64 (p.2.2 : Int)]
def plcells (l : List PlV) : List Value := (l.map plcell).flatten
theorem plcell3 (l : List PlV) : ∀ cs ∈ l.map plcell, cs.length = 3 := fun cs h => by obtain ⟨p, -, rfl⟩ := List.mem_map.1 h; rfl
theorem plcells_len (l : List PlV) : (plcells l).length = l.length * 3 := by unfold plcells; rw [flat_len _ (plcell3 l), List.length_map]
theorem plcells_append (a b : List PlV) : plcells (a ++ b) = plcells a ++ plcells b := by simp [plcells]
theorem plcells_one (p : PlV) : plcells [p] = plcell p := by simp [plcells]
theorem plcells_set (l : List PlV) (k : Nat) (p : PlV) (hk : k < l.length) : (plcells l).take (k * 3) ++ plcell p ++ (plcells l).drop (k * 3 + 3) = plcells (l.set k p) := by
  unfold plcells
  rw [List.map_set]
  have h1 : (l.map plcell) = (l.take k).map plcell ++ plcell l[k] :: (l.drop (k + 1)).map plcell := by
    rw [← List.map_cons, ← List.map_append, ← List.drop_eq_getElem_cons hk, List.take_append_drop]
  have h2 : ((l.take k).map plcell).flatten.length = k * 3 := by
    rw [flat_len _ (plcell3 _), List.length_map, List.length_take, Nat.min_eq_left (by omega)]
  have hk' : k < (l.map plcell).length := by rw [List.length_map]; exact hk
  rw [List.set_eq_take_append_cons_drop, if_pos hk', List.flatten_append, List.flatten_cons, ← List.map_take, ← List.map_drop]
  have h3 : (l.map plcell).flatten = ((l.take k).map plcell).flatten ++ (plcell l[k] ++ ((l.drop (k + 1)).map plcell).flatten) := by
    rw [h1, List.flatten_append, List.flatten_cons]
  rw [h3, List.take_left' h2, List.drop_append, h2, List.drop_of_length_le (by omega), List.nil_append, show k * 3 + 3 - k * 3 = 3 by omega, show (3 : Nat) = (plcell l[k]).length from rfl, List.drop_left, List.append_assoc]
theorem aggPl : ∀ w : World, (isAgg 30).run Tryd.prog w = .ok true w := fun _ => by kernel_rfl
theorem sizePl : ∀ w : World, (sizeOf 30).run Tryd.prog w = .ok 3 w := fun _ => by kernel_rfl
theorem infoPl : (Tryd.prog.info? 30).map (fun i => (i.zero, i.size, i.bytes)) = some (some (.agg #[.int .i64 0, .int .i64 0, .int .i64 0]), 3, 24) := by kernel_rfl
theorem one_pl (l : List PlV) : ∀ u ∈ plcells l, u.oneCell' = true := fun u hu => by
  obtain ⟨cs, h1, h2⟩ := List.mem_flatten.1 hu
  obtain ⟨p, -, rfl⟩ := List.mem_map.1 h1
  simp only [plcell, List.mem_cons, List.not_mem_nil, or_false] at h2
  rcases h2 with rfl | rfl | rfl <;> rfl
/-- a slice of places -/
structure Pls (W : World) (X : Nat → Prop) (A : Option Addr) (n c : Nat) (l : List PlV) : Prop where
  sl : SlV W X A n c 3 (plcells l)
  len : l.length = n
section
variable {W W' : World} {X Y : Nat → Prop} {A : Option Addr} {n c lo : Nat} {l : List PlV}
theorem Pls.weak (h : Pls W X A n c l) (hX : ∀ b, b < W.heap.size → X b → Y b) : Pls W Y A n c l := ⟨h.sl.weak hX, h.len⟩
theorem Pls.step (h : Pls W X A n c l) (hb : Below W.heap.size W W') : Pls W' X A n c l := ⟨h.sl.step hb, h.len⟩
theorem Pls.of_owns (h : W.ownsRow lo 30 3 (.slice A n c) n (plcells l)) (hl : l.length = n) : Pls W (lo ≤ ·) A n c l := by
  obtain ⟨A', c', hv, hs⟩ := owns_slv h
  cases hv
  exact ⟨hs.weak fun b _ hb => hb.1, hl⟩
theorem Pls.load (h : Pls W X A n c l) {b o : Nat} (hA : A = some ⟨b, o, none⟩) (i : Nat) (hi : i < n) : (Instr.loadAt 30 (.pointer (some ⟨b, o + i * 3, none⟩))).run Tryd.prog W = .ok (.agg (plcell (l.getD i (0, 0, 0))).toArray) W := by
  obtain ⟨b', o', e, -, -, h4⟩ := h.sl.at_ (by omega) (by decide)
  rw [hA] at e
  cases e
  refine run_load_agg (aggPl _) (sizePl _) b (o + i * 3) (plcell (l.getD i (0, 0, 0))) rfl fun j u hu => ?_
  rw [Nat.add_assoc]
  refine h4 _ u (flat_atC _ (plcell3 l) i j u (by rw [List.length_map, h.len]; exact hi) ?_)
  rw [List.getD_eq_getElem?_getD, List.getElem?_map, List.getElem?_eq_getElem (l := l) (by rw [h.len]; exact hi)]
  rw [List.getD_eq_getElem?_getD, List.getElem?_eq_getElem (l := l) (by rw [h.len]; exact hi)] at hu
  exact hu
/-- one place more -/
theorem app_place {v : Value} (h : W.ownsRow lo 30 3 v n (plcells l)) (hl : l.length = n) (hlo : lo ≤ W.heap.size) (hn : n ≤ 1000000) (p : PlV) :
    ∃ A' c' W', (Builtin.append_ #[22, 22] 22 #[v, .slice (some ⟨W.heap.size, 0, none⟩) 1 1]).run Tryd.prog (W.alloc (.cells (plcell p).toArray 30)) = .ok (.slice A' (n + 1) c') W' ∧
      W'.ownsRow lo 30 3 (.slice A' (n + 1) c') (n + 1) (plcells (l ++ [p])) ∧ Below lo W W' := by
  obtain ⟨W1, hW1⟩ : ∃ x, W.alloc (.cells (plcell p).toArray 30) = x := ⟨_, rfl⟩
  have hb1 : Below W.heap.size W W1 := by rw [← hW1]; exact (Below.refl _ _).alloc (Nat.le_refl _) _
  have k1 : Blk W1 W.heap.size 30 (plcell p).toArray := by rw [← hW1]; exact Blk.new _ _ _
  have hs : SlV W1 (fun _ => True) (some ⟨W.heap.size, 0, none⟩) 1 1 3 (plcell p) := SlV.of_blk (n := 1) (s := 3) k1 rfl (by decide) trivial
  rw [hW1]
  obtain ⟨v', W', hr, ho, hg, hv⟩ := append_slv (ty := 22) Tryd.underlying22 infoPl rfl (by decide) (owns_step h hb1) hs (by rw [← plcells_one]; exact one_pl _) (by unfold maxLen; omega) (by omega) (Nat.le_trans hlo hb1.size)
  rw [← plcells_one, ← plcells_append] at ho
  obtain ⟨A', c', rfl, -⟩ := owns_slv ho
  refine ⟨A', c', W', hr, ho, (hb1.mono hlo).trans ((Below.refl lo W1).grown hg (Nat.le_trans hlo hb1.size) fun k hk => ?_)⟩
  rcases h.2 with ⟨rfl, _⟩ | ⟨g, cap, cur, rfl, hg0, _⟩
  · cases hk
  · cases hk
    exact hg0
end
set_option maxRecDepth 100000 in
theorem run_litPl_op {ρ : Operand → Value} {o : Oper} (x : Operand) (a b c : Int) (ho : o.op = .buildSlice 22 1 #[(0, x)]) (hx : ρ x = .agg #[.int .i64 a, .int .i64 b, .int .i64 c]) (W : World) :
    (execOp ρ o).run Tryd.prog W = .ok (.value (.slice (some ⟨W.heap.size, 0, none⟩) 1 1)) (W.alloc (.cells #[.int .i64 a, .int .i64 b, .int .i64 c] 30)) := by
  unfold execOp
  simp only [ho, Sem.run_bind, Sem.run_pure, List.map_toArray, List.map_cons, List.map_nil, hx]
  kernel_rfl
theorem guardPl : Tryd.prog.eqGuardType Tryd.prog.depth 30 = false := by kernel_rfl
theorem underPl : Tryd.prog.underlying 30 = some (.struct (Tryd.prog.fieldsOf 30)) := by kernel_rfl
theorem heldPl : Tryd.prog.stoodInHeld 30 = false := by kernel_rfl
theorem run_neqPl (a b c : Int) (W : World) : (binOp .neq 30 (.agg #[.int .i64 a, .int .i64 b, .int .i64 c]) (.agg #[.int .i64 a, .int .i64 b, .int .i64 c])).run Tryd.prog W = .ok (.bool false) W := by
  have hf : (Tryd.prog.fieldsOf 30).toList = [{ name := "Level", type := 3, offset := 0, embedded := false, tag := "", pkgPath := "", byteOffset := 0 }, { name := "Index", type := 2, offset := 1, embedded := false, tag := "", pkgPath := "", byteOffset := 8 }, { name := "Width", type := 3, offset := 2, embedded := false, tag := "", pkgPath := "", byteOffset := 16 }] := by kernel_rfl
  rw [run_neq_struct, run_equalIn_agg W 9999 _ _ _ underPl heldPl, hf]
  simp [go_sem, part, Op.eqFields]
theorem run_neqPl_f {ρ : Operand → Value} {o : Oper} (x y : Operand) (ty : TypeId) (a b c : Int) (ho : o.op = .binOp .neq 30 x y ty) (hx : ρ x = .agg #[.int .i64 a, .int .i64 b, .int .i64 c]) (hy : ρ y = .agg #[.int .i64 a, .int .i64 b, .int .i64 c]) (W : World) :
    (execOp ρ o).run Tryd.prog W = .ok (.value (.bool false)) W := by
  unfold execOp
  simp only [ho, hx, hy, run_eqGuard_agg W .neq 30 x y _ _ guardPl, Sem.run_bind, Sem.run_pure, run_neqPl, Result.andThen_ok]
end Go.Proofs.YtfhmjgkcpcnkbaaDoor
