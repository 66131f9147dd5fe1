/- What stays where some blocks may turn: every block but those of M. (As in Lb0, without the fronts: not both in one seat.) -/
import Derived.Test.YtfhmjgkcpcnkbaaDoorQf107
import Derived.Maps.Range
import Derived.DeepKeys4
import Derived.WideKeyEntry
import Derived.Test.YtfhmjgkcpcnkbaaDoorQf110
namespace Go.Proofs.YtfhmjgkcpcnkbaaDoor
open Go Go.RowKit

/-- every block stays but those of M -/
structure KB (M : Nat → Prop) (W W' : World) : Prop where
  os : W'.os = W.os
  tape : W'.tape = W.tape
  output : W'.output = W.output
  size : W.heap.size ≤ W'.heap.size
  block : ∀ k, k < W.heap.size → ¬ M k → W'.heap[k]? = W.heap[k]?
section
variable {M M' : Nat → Prop} {W W' W2 w : World} {T : TypeId} {cs : Array Value} {g : Nat}
theorem KB.refl (M : Nat → Prop) (W : World) : KB M W W := ⟨rfl, rfl, rfl, Nat.le_refl _, fun _ _ _ => rfl⟩
theorem KB.trans (h : KB M W W') (k : KB M W' W2) : KB M W W2 :=
  ⟨k.os.trans h.os, k.tape.trans h.tape, k.output.trans h.output, Nat.le_trans h.size k.size, fun i hi hm => (k.block i (Nat.lt_of_lt_of_le hi h.size) hm).trans (h.block i hi hm)⟩
/-- what may turn behind the first step: the same, or what is new -/
theorem KB.then (h : KB M W W') (k : KB M' W' W2) (hM : ∀ b, b < W.heap.size → M' b → M b) : KB M W W2 :=
  ⟨k.os.trans h.os, k.tape.trans h.tape, k.output.trans h.output, Nat.le_trans h.size k.size, fun i hi hm => (k.block i (Nat.lt_of_lt_of_le hi h.size) fun hx => hm (hM i hi hx)).trans (h.block i hi hm)⟩
theorem KB.mono (h : KB M W W') (hM : ∀ b, M b → M' b) : KB M' W W' := ⟨h.os, h.tape, h.output, h.size, fun k hk hm => h.block k hk fun hx => hm (hM k hx)⟩
theorem KB.of_below (h : Below W.heap.size W W') : KB M W W' := ⟨h.os, h.tape, h.output, h.size, fun k hk _ => h.block k hk⟩
theorem KB.of_grown {row : Option Nat} (h : W.grownBy W' row) (hM : ∀ r, row = some r → M r) : KB M W W' :=
  ⟨h.os, h.tape, h.output, h.size, fun k hk hm => h.block k hk fun e => hm (hM k e.symm)⟩
theorem KB.below {N : Nat} (h : KB M W W') (hM : ∀ b, M b → N ≤ b) (hN : N ≤ W.heap.size) : Below N W W' :=
  ⟨h.os, h.tape, h.output, h.size, fun k hk => h.block k (by omega) fun hm => by have := hM k hm; omega⟩
theorem KB.blk (h : KB M W W') (hb : Blk W g T cs) (hm : ¬ M g) : Blk W' g T cs := (h.block g hb.lt hm).trans hb
theorem KB.slv {X : Nat → Prop} {A : Option Addr} {n c s : Nat} {l : List Value} (h : KB M W W') (hs : SlV W X A n c s l) (hm : ∀ b, b < W.heap.size → X b → ¬ M b) : SlV W' X A n c s l :=
  hs.keep h.size fun p hp hx => World.cell?_of_block (h.block p.block hp (hm _ hp hx))
theorem KB.slb {X : Nat → Prop} {A : Option Addr} {n c : Nat} {l : List UInt8} (h : KB M W W') (hs : Sl W X A n c l) (hm : ∀ b, b < W.heap.size → X b → ¬ M b) : Sl W' X A n c l :=
  ⟨hs.bs.keep h.size fun p hp hx => World.cell?_of_block (h.block p.block hp (hm _ hp hx)), hs.len, hs.room, hs.none, hs.max⟩
theorem KB.own {base n s : Nat} {e : TypeId} {v : Value} {xs : List Value} (h : KB M W W') (ho : W.ownsRow base e s v n xs) (hm : ∀ b, v.ownBlock = some b → ¬ M b) : W'.ownsRow base e s v n xs := by
  refine ⟨ho.1, ?_⟩
  rcases ho.2 with h0 | ⟨g, cap, cur, rfl, hb, hg, rest⟩
  · exact .inl h0
  · exact .inr ⟨g, cap, cur, rfl, hb, h.blk (cs := cur) hg (hm g rfl), rest⟩
end
end Go.Proofs.YtfhmjgkcpcnkbaaDoor
/- A map with pairs of numbers as keys and rows as elements, in memory: what stands where, as a function. -/
namespace Go.Proofs.YtfhmjgkcpcnkbaaDoor
open Go Go.RowKit Go.Maps Go.WideMaps Go.ChangeMaps
open Go.WideElems (Fit rd rg pl rd_key rd_val rg_of entry_then_store)

/-- a key -/
def kv (a b : Int) : Value := .agg #[.int .i64 a, .int .i64 b]
/-- a number that fits -/
def I64 (a : Int) : Prop := -9223372036854775808 ≤ a ∧ a ≤ 9223372036854775807
theorem I64.wf {a : Int} (h : I64 a) : (Lit.int .i64 a).wf = true := by
  have h1 := h.1
  have h2 := h.2
  have m1 : IntKind.min .i64 = -9223372036854775808 := by decide
  have m2 : IntKind.max .i64 = 9223372036854775807 := by decide
  unfold Lit.wf
  simp only [m1, m2, Bool.and_eq_true, decide_eq_true_eq]
  exact ⟨h1, h2⟩
theorem I64.of_wf {a : Int} (h : (Lit.int .i64 a).wf = true) : I64 a := by
  have m1 : IntKind.min .i64 = -9223372036854775808 := by decide
  have m2 : IntKind.max .i64 = 9223372036854775807 := by decide
  unfold Lit.wf at h
  simp only [m1, m2, Bool.and_eq_true, decide_eq_true_eq] at h
  exact h
theorem tcells : Tryd.prog.cellsOf 101 = 2 := by kernel_rfl
theorem tlaw : KeyLaw Tryd.prog 101 := deep_law_laid (m := 2) (by kernel_rfl) (by omega) (of_decide_eq_true (by kernel_rfl)) (by kernel_rfl) (by rw [Tryd.underlying101])
theorem tkeyed : Keyed Tryd.prog 101 := Keyed.of_law tlaw
def klit (a b : Int) : Lit := .string (keyBytes [.int .i64 a, .int .i64 b])
theorem tkey {a b : Int} (ha : I64 a) (hb : I64 b) : keyOf Tryd.prog 101 (kv a b) = some (klit a b) := by
  have hkt : Tryd.prog.keyType 101 = true := by kernel_rfl
  have hf : (kv a b).formed Tryd.prog 101 = true := by simp [kv, Value.formed, Tryd.underlying101, tcells]
  obtain ⟨d, hd⟩ : ∃ d, Tryd.prog.types.size = d + 1 := ⟨Tryd.prog.types.size - 1, by have : 0 < Tryd.prog.types.size := of_decide_eq_true (by kernel_rfl); omega⟩
  have c1 : Tryd.prog.cellsOf 2 = 1 := by kernel_rfl
  unfold keyOf
  simp only [Tryd.underlying101, hkt, hf, Bool.and_self, if_true, hd]
  simp [Program.keyLits, Tryd.underlying101, Tryd.underlying2, kv, Value.cells, tcells, c1, ha.wf, hb.wf, klit, List.range_succ]
theorem keyLits_two {P : Program} {k e : TypeId} {d : Nat} {x y : Value} {ls : List Lit} (hk : P.underlying k = some (.array 2 e)) (he : P.underlying e = some (.int .i64)) (c2 : P.cellsOf k = 2) (c1 : P.cellsOf e = 1) (h : P.keyLits (d + 1 + 1) k [x, y] = some ls) :
    ∃ a b, I64 a ∧ I64 b ∧ x = .int .i64 a ∧ y = .int .i64 b := by
  have one : ∀ (u : Value) (l : List Lit), P.keyLits (d + 1) e [u] = some l → ∃ a, I64 a ∧ u = .int .i64 a := by
    intro u l hu
    unfold Program.keyLits at hu
    rw [he] at hu
    split at hu <;> try simp_all
    obtain ⟨⟨h1, h2⟩, _⟩ := hu
    subst h1
    first | exact I64.of_wf h2 | (rename_i q n hq _; subst hq; exact I64.of_wf h2) | (rename_i q n hq; subst hq; exact I64.of_wf h2)
  unfold Program.keyLits at h
  rw [hk] at h
  simp only [List.length_cons, List.length_nil, c2, if_true, c1] at h
  obtain ⟨l2, h2, _⟩ := Option.map_eq_some_iff.1 h
  simp only [show List.range 2 = [0, 1] from rfl, List.mapM_cons, List.mapM_nil, Option.bind_eq_bind, Option.bind_eq_some_iff, Nat.zero_mul, Nat.one_mul, List.drop_zero, List.take_succ_cons, List.take_zero, List.drop_succ_cons] at h2
  obtain ⟨l0, h0, l1, ⟨l3, h3, _⟩, _⟩ := h2
  obtain ⟨a, ha, rfl⟩ := one _ _ h0
  obtain ⟨b, hb, rfl⟩ := one _ _ h3
  exact ⟨a, b, ha, hb, rfl, rfl⟩
theorem tkey_inv {v : Value} {l : Lit} (h : keyOf Tryd.prog 101 v = some l) : ∃ a b, I64 a ∧ I64 b ∧ v = kv a b := by
  obtain ⟨d, hd⟩ : ∃ d, Tryd.prog.types.size = d + 1 := ⟨Tryd.prog.types.size - 1, by have : 0 < Tryd.prog.types.size := of_decide_eq_true (by kernel_rfl); omega⟩
  have c1 : Tryd.prog.cellsOf 2 = 1 := by kernel_rfl
  unfold keyOf at h
  simp only [Tryd.underlying101, hd] at h
  split at h
  · rename_i hc
    simp only [Bool.and_eq_true] at hc
    have hf := hc.2
    cases v <;> simp [Value.formed, Tryd.underlying101, tcells] at hf
    rename_i cs
    obtain ⟨l⟩ := cs
    obtain ⟨x, y, rfl⟩ : ∃ x y, l = [x, y] := by
      rcases l with _ | ⟨x, _ | ⟨y, _ | ⟨z, l⟩⟩⟩
      · simp at hf
      · simp at hf
      · exact ⟨x, y, rfl⟩
      · simp at hf
    obtain ⟨ls, hl, _⟩ := Option.map_eq_some_iff.1 h
    obtain ⟨a, b, ha, hb, rfl, rfl⟩ := keyLits_two Tryd.underlying101 Tryd.underlying2 tcells c1 hl
    exact ⟨a, b, ha, hb, rfl⟩
  · cases h
/-- how an element is told: by itself -/
def tokR (v : Value) : Option (DataW Value × List MemPlace) := some (.held v, [])
abbrev nilS : Value := .slice none 0 0
/-- block m is a map of at most n entries: what f says -/
def MapF (W : World) (m n : Nat) (f : Int → Int → Option Value) : Prop :=
  ∃ es clock, W.heap[m]? = some (.map es clock) ∧ Fit Tryd.prog 101 tokR es clock ∧ es.size ≤ n ∧
    (∀ e ∈ es.toList, ∃ a b, I64 a ∧ I64 b ∧ e.key = kv a b ∧ f a b = some e.val) ∧ (∀ a b v, f a b = some v → ∃ e ∈ es.toList, e.key = kv a b ∧ e.val = v)
def updF (f : Int → Int → Option Value) (a b : Int) (v : Value) : Int → Int → Option Value := fun x y => if x = a ∧ y = b then some v else f x y
theorem kv_inj {a b a' b' : Int} (h : kv a b = kv a' b') : a = a' ∧ b = b' := by
  unfold kv at h
  simpa using h
section
variable {W W' : World} {m n : Nat} {f : Int → Int → Option Value} {a b : Int} {M : Nat → Prop}
theorem MapF.kb (h : MapF W m n f) (hk : KB M W W') (hm : ¬ M m) : MapF W' m n f := by
  obtain ⟨es, clock, hb, r⟩ := h
  exact ⟨es, clock, (hk.block m (Array.getElem?_eq_some_iff.1 hb).1 hm).trans hb, r⟩
theorem MapF.lt (h : MapF W m n f) : m < W.heap.size := by
  obtain ⟨es, clock, hb, _⟩ := h
  exact (Array.getElem?_eq_some_iff.1 hb).1
theorem MapF.step (h : MapF W m n f) (hb : Below W.heap.size W W') : MapF W' m n f := h.kb (M := fun _ => False) (KB.of_below hb) id
theorem MapF.made (W : World) : MapF (W.alloc (.map #[] 0)) W.heap.size 0 fun _ _ => none :=
  ⟨#[], 0, (MapKept.heap_alloc W _).1, ⟨by simp, MapKept.stamped_empty 0, by simp⟩, Nat.le_refl _, by simp, fun _ _ _ h => by cases h⟩
theorem tzero (W : World) : (zeroValue 36).run Tryd.prog W = .ok nilS W := by kernel_rfl
theorem MapF.none_iff (h : MapF W m n f) {es : Array MapEntry} {clock : Nat} (he : W.heap[m]? = some (.map es clock)) : (∀ e ∈ es.toList, e.key ≠ kv a b) → f a b = none := by
  obtain ⟨es', clock', hb', _, _, _, h2⟩ := h
  rw [he] at hb'
  cases hb'
  intro hno
  cases hf : f a b with
  | none => rfl
  | some v =>
    obtain ⟨e, hm, hk, _⟩ := h2 a b v hf
    exact absurd hk (hno e hm)
/-- m[k], and with ok -/
theorem MapF.look (h : MapF W m n f) (c : Bool) (ha : I64 a) (hb : I64 b) :
    (Instr.lookup 71 (.map (some m)) (kv a b) c).run Tryd.prog W = .ok (if c then .tuple #[(f a b).getD nilS, .bool (f a b).isSome] else (f a b).getD nilS) W := by
  have h0 := h
  obtain ⟨es, clock, hm, F, hs, h1, h2⟩ := h
  rcases fit_look c tkeyed Tryd.underlying71 (tzero W) hm F (tkey ha hb) with ⟨hr, hno, _⟩ | ⟨e0, y, he, hk, hr, _⟩
  · rw [hr, h0.none_iff hm hno]
    rfl
  · obtain ⟨a', b', _, _, hk', hf⟩ := h1 e0 he
    obtain ⟨rfl, rfl⟩ := kv_inj (hk'.symm.trans hk)
    rw [hr, hf]
    rfl
/-- what stands behind a store -/
theorem MapF.put (h : MapF W m n f) (hn : n < maxLen) (ha : I64 a) (hb : I64 b) (v : Value) :
    ∃ es' clock', (Instr.mapUpdate 71 (.map (some m)) (kv a b) v).run Tryd.prog W = .ok () (setBlock W m (.map es' clock')) ∧ Fit Tryd.prog 101 tokR es' clock' ∧ es'.size ≤ n + 1 ∧
      (∀ e ∈ es'.toList, ∃ x y, I64 x ∧ I64 y ∧ e.key = kv x y ∧ updF f a b v x y = some e.val) ∧ (∀ x y u, updF f a b v x y = some u → ∃ e ∈ es'.toList, e.key = kv x y ∧ e.val = u) := by
  obtain ⟨es, clock, hm, F, hs, h1, h2⟩ := h
  obtain ⟨es', clock', hr, F', hput, _, _, hwho⟩ := fit_store (R' := tokR) tkeyed Tryd.underlying71 hm F (Nat.lt_of_le_of_lt hs hn) (fun _ _ _ _ hz => hz) (tkey ha hb) (rfl : tokR v = some (.held v, []))
  have mem : ∀ p : Lit × DataW Value, p ∈ es'.toList.map (rg Tryd.prog 101 tokR) ↔ p = (klit a b, .held v) ∨ (p ∈ es.toList.map (rg Tryd.prog 101 tokR) ∧ notKey (klit a b) p = true) := by
    intro p
    rw [← mem_sorted (l := es'.toList.map _), hput]
    unfold putKey
    rw [mem_insert_iff, List.mem_filter, mem_sorted]
  have rgv : ∀ (u : MapEntry) (x y : Int), I64 x → I64 y → u.key = kv x y → rg Tryd.prog 101 tokR u = (klit x y, .held u.val) := by
    intro u x y hx hy hk
    have : rd Tryd.prog 101 tokR u = some (klit x y, .held u.val) := by
      obtain ⟨uk, uv, ub⟩ := u
      obtain rfl : uk = kv x y := hk
      exact WideElems.rd_mk (R := tokR) (tkey hx hy) (rfl : tokR uv = some (.held uv, []))
    simp only [WideElems.rg, this, Option.getD_some]
  refine ⟨es', clock', hr, F', ?_, fun e he => ?_, fun x y u hu => ?_⟩
  · have e1 : es'.size = ((es'.toList.map (rg Tryd.prog 101 tokR)).foldr DataW.insert []).length := by rw [length_sorted]; simp
    rw [e1, hput]
    unfold putKey
    rw [length_insert]
    have e2 := List.length_filter_le (notKey (klit a b)) ((es.toList.map (rg Tryd.prog 101 tokR)).foldr DataW.insert [])
    rw [length_sorted] at e2
    simp at e2
    omega
  · rcases hwho e he with ⟨he', hne⟩ | ⟨hk, hv⟩
    · obtain ⟨x, y, hx, hy, hk, hf⟩ := h1 e he'
      refine ⟨x, y, hx, hy, hk, ?_⟩
      unfold updF
      rw [if_neg (fun hc => hne (by rw [hk, hc.1, hc.2])), hf]
    · refine ⟨a, b, ha, hb, hk, ?_⟩
      unfold updF
      rw [if_pos ⟨rfl, rfl⟩, hv]
  · by_cases hc : x = a ∧ y = b
    · obtain ⟨rfl, rfl⟩ := hc
      unfold updF at hu
      rw [if_pos ⟨rfl, rfl⟩] at hu
      cases hu
      have h3 := (mem (klit x y, .held v)).2 (.inl rfl)
      obtain ⟨e, he, hee⟩ := List.mem_map.1 h3
      obtain ⟨lk, hlk⟩ := F'.keys e he
      obtain ⟨x', y', hx', hy', hk'⟩ := tkey_inv hlk
      rw [rgv e x' y' hx' hy' hk'] at hee
      simp only [Prod.mk.injEq, DataW.held.injEq] at hee
      refine ⟨e, he, ?_, hee.2⟩
      have := tkeyed.inj (tkey hx' hy') (hee.1 ▸ tkey ha hb)
      rw [hk', this]
    · have hf : f x y = some u := by unfold updF at hu; rwa [if_neg hc] at hu
      obtain ⟨e, he, hk, hv⟩ := h2 x y u hf
      obtain ⟨x1, y1, hx1, hy1, hk1, _⟩ := h1 e he
      obtain ⟨rfl, rfl⟩ := kv_inj (hk.symm.trans hk1)
      have hne : notKey (klit a b) (klit x y, DataW.held u) = true := by
        refine (notKey_iff (tkeyed.key (tkey ha hb))).2 fun e1 => hc ?_
        exact kv_inj (tkeyed.inj (tkey hx1 hy1) ((show klit x y = klit a b from e1) ▸ tkey ha hb))
      have h3 := (mem (klit x y, .held u)).2 (.inr ⟨List.mem_map.2 ⟨e, he, by rw [rgv e x y hx1 hy1 hk, hv]⟩, hne⟩)
      obtain ⟨e', he', hee⟩ := List.mem_map.1 h3
      obtain ⟨lk, hlk⟩ := F'.keys e' he'
      obtain ⟨x', y', hx', hy', hk'⟩ := tkey_inv hlk
      rw [rgv e' x' y' hx' hy' hk'] at hee
      simp only [Prod.mk.injEq, DataW.held.injEq] at hee
      refine ⟨e', he', ?_, hee.2⟩
      have := tkeyed.inj (tkey hx' hy') (hee.1 ▸ tkey hx1 hy1)
      rw [hk', this]
theorem kb_setBlock {es : Array MapEntry} {clock : Nat} {o' : Obj} (h : W.heap[m]? = some (.map es clock)) : KB (· = m) W (setBlock W m o') :=
  ⟨rfl, rfl, rfl, by simp [setBlock], fun i _ hi => heap_setBlock_other h _ fun e => hi e⟩
/-- m[k] = v -/
theorem MapF.store (h : MapF W m n f) (hn : n < maxLen) (ha : I64 a) (hb : I64 b) (v : Value) :
    ∃ W', (Instr.mapUpdate 71 (.map (some m)) (kv a b) v).run Tryd.prog W = .ok () W' ∧ MapF W' m (n + 1) (updF f a b v) ∧ KB (· = m) W W' ∧ W'.heap.size = W.heap.size := by
  obtain ⟨es', clock', hr, r1, r2, r3, r4⟩ := h.put hn ha hb v
  obtain ⟨es, clock, hm, _⟩ := h
  exact ⟨_, hr, ⟨es', clock', heap_setBlock_same hm _, r1, r2, r3, r4⟩, kb_setBlock hm, by simp [setBlock]⟩
/-- m[k] = g(m[k]): the entry is made ready -/
theorem MapF.entry (h : MapF W m n f) (hn : n < maxLen) (ha : I64 a) (hb : I64 b) :
    ∃ (st : Nat) (W1 : World), (Instr.mapEntry 71 (.map (some m)) (kv a b)).run Tryd.prog W = .ok (.tuple #[(f a b).getD nilS, .int .i64 st]) W1 ∧ KB (· = m) W W1 ∧ W1.heap.size = W.heap.size ∧
      ∀ (w2 : World) (v : Value), w2.heap[m]? = W1.heap[m]? → ∃ w3, (Instr.entryStore 71 (.map (some m)) (.int .i64 st) v).run Tryd.prog w2 = .ok () w3 ∧ MapF w3 m (n + 1) (updF f a b v) ∧ KB (· = m) w2 w3 ∧ w3.heap.size = w2.heap.size := by
  have h0 := h
  obtain ⟨es, clock, hm, F, hs, h1, h2⟩ := h
  obtain ⟨v0, st, es1, clock1, hr, hv, hst⟩ := entry_then_store tlaw Tryd.underlying71 (fun u => tzero u) hm F (tkey ha hb)
  have hv0 : v0 = (f a b).getD nilS := by
    rcases hv with ⟨e0, he, hk, rfl⟩ | ⟨hno, rfl⟩
    · obtain ⟨a', b', _, _, hk', hf⟩ := h1 e0 he
      obtain ⟨rfl, rfl⟩ := kv_inj (hk'.symm.trans hk)
      rw [hf]
      rfl
    · rw [h0.none_iff hm hno]
      rfl
  subst hv0
  refine ⟨st, _, hr, kb_setBlock hm, by simp [setBlock], fun w2 v hw2 => ?_⟩
  rw [heap_setBlock_same hm] at hw2
  obtain ⟨es', clock', hr1, hr2⟩ := hst w2 v hw2
  obtain ⟨es2, clock2, hr3, r1, r2, r3, r4⟩ := h0.put hn ha hb v
  rw [hr2] at hr3
  have he : setBlock W m (.map es' clock') = setBlock W m (.map es2 clock2) := by injection hr3
  have he2 : some (Obj.map es' clock') = some (.map es2 clock2) := by
    rw [← heap_setBlock_same hm (.map es' clock'), ← heap_setBlock_same hm (.map es2 clock2), he]
  cases he2
  exact ⟨_, hr1, ⟨es', clock', heap_setBlock_same hw2 _, r1, r2, r3, r4⟩, kb_setBlock hw2, by simp [setBlock]⟩
end
end Go.Proofs.YtfhmjgkcpcnkbaaDoor
/- hash.pairs. -/
namespace Go.Proofs.YtfhmjgkcpcnkbaaDoor
open Go.RowKit

/-- the row over a row -/
def pairsL (hs : List (List UInt8)) : List (List UInt8) := (List.range (hs.length / 2)).map fun i => hNode (hs.getD (2 * i) []) (hs.getD (2 * i + 1) [])
theorem length_pairsL (hs : List (List UInt8)) : (pairsL hs).length = hs.length / 2 := by simp [pairsL]
theorem pairsL_all (hs : List (List UInt8)) : H32 (pairsL hs) := fun h hh => by
  obtain ⟨i, _, rfl⟩ := List.mem_map.1 hh
  exact length_hNode _ _
theorem pairsL_take (hs : List (List UInt8)) (k : Nat) (hk : k < hs.length / 2) : (pairsL hs).take (k + 1) = (pairsL hs).take k ++ [hNode (hs.getD (2 * k) []) (hs.getD (2 * k + 1) [])] := by
  rw [List.take_succ_eq_append_getElem (by rw [length_pairsL]; exact hk)]
  simp [pairsL]
/-- a row that is half full -/
def halfRow (ps : List (List UInt8)) (m : Nat) : Array Value := (hcells ps ++ (List.replicate ((m - ps.length) * 32) (0 : UInt8)).map B).toArray
theorem halfRow_size (ps : List (List UInt8)) (m : Nat) (h : H32 ps) (hm : ps.length ≤ m) : (halfRow ps m).size = m * 32 := by
  simp only [halfRow, List.size_toArray, List.length_append, hcells_len ps h, List.length_map, List.length_replicate]
  rw [← Nat.add_mul]; congr 1; omega
theorem halfRow_put (ps : List (List UInt8)) (m : Nat) (x : List UInt8) (h : H32 ps) (_hx : x.length = 32) (hm : ps.length < m) :
    ((halfRow ps m).toList.take (ps.length * 32) ++ (x.map B).toArray.toList ++ (halfRow ps m).toList.drop (ps.length * 32 + 32)).toArray = halfRow (ps ++ [x]) m := by
  have hl := hcells_len ps h
  simp only [halfRow]
  rw [← hl, List.take_left, List.drop_append, List.drop_eq_nil_of_le (by omega)]
  simp only [hcells_append, List.nil_append, List.length_append, List.length_singleton]
  rw [show (hcells ps).length + 32 - (hcells ps).length = 32 by omega, ← List.map_drop, List.drop_replicate]
  have e : (m - ps.length) * 32 - 32 = (m - (ps.length + 1)) * 32 := by omega
  rw [e]
  simp [hcells]

structure PrC (w : World) (A : Option Addr) (n c : Nat) (hs ps : List (List UInt8)) (W : World) : Prop where
  row : Blk W w.heap.size 48 (halfRow ps (n / 2))
  src : Hs W (· < w.heap.size) A n c hs
  bel : Below w.heap.size w W
theorem PrC.step {w W W' : World} {A : Option Addr} {n c : Nat} {hs ps : List (List UInt8)} (h : PrC w A n c hs ps W) (hb : Below W.heap.size W W') : PrC w A n c hs ps W' := ⟨h.row.below hb h.row.lt, h.src.step hb, h.bel.trans (hb.mono h.bel.size)⟩

set_option maxHeartbeats 1000000 in
set_option maxRecDepth 100000 in
theorem pairs_any (hs : List (List UInt8)) (A : Option Addr) (n c : Nat) (w : World) (h : Hs w (· < w.heap.size) A n c hs) (hn : n ≤ 4398046511104) :
    Calls Tryd.prog 98 #[.slice A n c] w fun e w' => ∃ g, e = .returned (.slice (some ⟨g, 0, none⟩) (n / 2) (n / 2)) ∧ w.heap.size ≤ g ∧ Blk w' g 48 (hcells (pairsL hs)).toArray ∧ Below w.heap.size w w' := by
  have hmk := run_make_hash w (n / 2) (by omega)
  rw [show (List.replicate (n / 2 * 32) (0 : UInt8)).map B = hcells [] ++ (List.replicate ((n / 2 - 0) * 32) (0 : UInt8)).map B from rfl] at hmk
  have hmk' : (Instr.makeSlice 36 (.int .i64 ((n : Int) / 2)) (.int .i64 ((n : Int) / 2))).run Tryd.prog w = .ok (.slice (some ⟨w.heap.size, 0, none⟩) (n / 2) (n / 2)) (w.alloc (.cells (halfRow [] (n / 2)) 48)) := by
    rw [show (n : Int) / 2 = ((n / 2 : Nat) : Int) by omega]; exact hmk
  obtain ⟨cs, hcs⟩ : ∃ cs, halfRow [] (n / 2) = cs := ⟨_, rfl⟩
  rw [hcs] at hmk'
  have hlen := h.len
  have Hcs := Lib.hid hcs
  have Hlen := Lib.hid hlen
  clear hmk hcs hlen
  have hnn : (0 : Int) ≤ (n : Int) := by omega
  have hnm : (n : Int) ≤ 4398046511104 := by omega
  go_enter Tryd.func98, Tryd.ntmps98
  go_wp2_with fail
  clear hmk'
  go_loopw [11] (fun i wr => ∃ k : Nat, k ≤ n / 2 ∧ i = .int .i64 k ∧ PrC w A n c hs ((pairsL hs).take k) wr) (fun i _ => n / 2 - (intOf i).toNat)
  case atStart => exact ⟨0, by omega, rfl, by rw [← Hcs.out]; exact Blk.new _ _ _, h.alloc _, (Below.refl _ _).alloc (Nat.le_refl _) _⟩
  case round =>
    obtain ⟨k, hk, rfl, hC⟩ := hrel
    by_cases hlt : k < n / 2
    · obtain ⟨b, o, rfl, hb, -, -⟩ := h.at_ (by omega)
      obtain ⟨ps, hps⟩ : ∃ ps, (pairsL hs).take k = ps := ⟨_, rfl⟩
      rw [hps] at hC
      have hpl : ps.length = k := by rw [← hps, List.length_take, length_pairsL, Hlen.out]; omega
      have hpa : H32 ps := by rw [← hps]; exact (pairsL_all hs).take k
      obtain ⟨l, hl⟩ : ∃ l, hs.getD (2 * k) [] = l := ⟨_, rfl⟩
      obtain ⟨r, hr⟩ : ∃ r, hs.getD (2 * k + 1) [] = r := ⟨_, rfl⟩
      have hll : l.length = 32 := by rw [← hl]; exact h.all.getD _ (by rw [Hlen.out]; omega)
      have hrl : r.length = 32 := by rw [← hr]; exact h.all.getD _ (by rw [Hlen.out]; omega)
      have hld : ∀ s : InC (PrC w (some ⟨b, o, none⟩) n c hs ps), (Instr.loadAt 48 (.pointer (some ⟨b, o + 2 * k * 32, none⟩))).run Tryd.prog s.W = .ok (.agg (l.map B).toArray) s.W ∧ (Instr.loadAt 48 (.pointer (some ⟨b, o + (2 * k + 1) * 32, none⟩))).run Tryd.prog s.W = .ok (.agg (r.map B).toArray) s.W := fun s => by
        obtain ⟨b', o', hA, -, -, hat⟩ := s.ok.src.at_ (by omega)
        cases hA
        exact ⟨by rw [← hl]; exact hat (2 * k) (by omega), by rw [← hr]; exact hat (2 * k + 1) (by omega)⟩
      have hnd := fun s : InC (PrC w (some ⟨b, o, none⟩) n c hs ps) => hnode_any l r s.W hll hrl
      obtain ⟨x, hx⟩ : ∃ x, hNode l r = x := ⟨_, rfl⟩
      have hxl : x.length = 32 := by rw [← hx]; exact length_hNode l r
      rw [hx] at hnd
      have hput := halfRow_put ps (n / 2) x hpa hxl (by omega)
      have hsz := halfRow_size ps (n / 2) hpa (by omega)
      have htk : ps ++ [x] = (pairsL hs).take (k + 1) := by rw [pairsL_take hs k (by rw [Hlen.out]; exact hlt), hps, hl, hr, hx]
      rw [hpl, htk] at hput
      have Hld := Lib.hid hld
      have Hnd := Lib.hid hnd
      have Hput := Lib.hid hput
      have Hsz := Lib.hid hsz
      have Hxl := Lib.hid hxl
      have hkn : (k : Int) < (n : Int) / 2 := by omega
      clear hps hpl hpa hl hr hll hrl hld hnd hx hxl hput hsz htk
      go_wp2_with fail
      refine wp_region_class_tail (PrC w (some ⟨b, o, none⟩) n c hs ps) 14 (by kernel_rfl) (by kernel_rfl) ⟨hC.row.drew, hC.src.drew, hC.bel.drew⟩ fun _ => ?_
      simp only [List.take_succ_cons, List.take_zero, List.drop_succ_cons, List.drop_zero]
      repeat (first | ((with_reducible refine wpQuiet_load rfl 48 (.tmp 19) rfl b (o + 2 * k * 32) rfl _ (fun s => (Hld.out s).1) ?_); simp only [Act.put, List.setIfInBounds_toArray, List.set_cons_succ, List.set_cons_zero]) | ((with_reducible refine wpQuiet_load rfl 48 (.tmp 25) rfl b (o + (2 * k + 1) * 32) rfl _ (fun s => (Hld.out s).2) ?_); simp only [Act.put, List.setIfInBounds_toArray, List.set_cons_succ, List.set_cons_zero]) | go_big_quiet_step ((go_at_call 38; refine (Hnd.out _).mono ?_; rintro e w' ⟨rfl, hbe⟩; exact ⟨rfl, ⟨_, PrC.step (InC.ok _) hbe⟩, rfl⟩)))
      refine wpQuiet_nil ?_
      intro W3 hC3
      go_wp2_with (refine wpList_store_agg rfl 48 (.tmp 28) (.tmp 27) rfl 32 size26 w.heap.size (k * 32) (x.map B).toArray rfl rfl (by simp [Hxl.out]) (oneCell_B _) 48 _ hC3.row (by rw [Hsz.out]; omega) ?_; rw [Hput.out]; simp only [Act.put]; refine wpList_world (PrC w (some ⟨b, o, none⟩) n c hs ((pairsL hs).take (k + 1))) ⟨hC3.row.setRow_ _, hC3.src.setRow _ _ (by simp), below_setRow hC3.bel (Nat.le_refl _) _⟩ ?_; intro W4 hC4)
      go_roundw
      case rel => exact ⟨k + 1, by omega, by go_num, hC4⟩
      case measure => simp [intOf]; omega
    · obtain rfl : k = n / 2 := by omega
      have hfull : halfRow ((pairsL hs).take (n / 2)) (n / 2) = (hcells (pairsL hs)).toArray := by
        rw [List.take_of_length_le (by rw [length_pairsL, Hlen.out]; omega), halfRow, length_pairsL, Hlen.out]
        simp
      have hrow := hC.row
      rw [hfull] at hrow
      have Hf := Lib.hid hfull
      clear hfull
      go_wp2_with fail
      go_ret
      exact ⟨w.heap.size, rfl, Nat.le_refl _, hrow, hC.bel⟩
end Go.Proofs.YtfhmjgkcpcnkbaaDoor
