/- The plain law of tree.Roots: the whole stretches of one entry more. -/
import Derived.Test.YtobcfgbkhgkelaaQe212
import Derived.Test.YtobcfgbkhgkelaaQe207
import Derived.Maps.Range
import Derived.Test.YtobcfgbkhgkelaaQe211
import Derived.Test.YtobcfgbkhgkelaaQe201
import Derived.Test.YtobcfgbkhgkelaaQe210
namespace Go.Proofs.Ytobcfgbkhgkelaa
open Go Go.RowKit

theorem pow_split (d : Nat) : ∀ (m t a : Nat), m ≤ d → wholeL a (2 * m * 2 ^ t + 2 ^ t) = wholeL a (2 * m * 2 ^ t) ++ [(a + 2 * m * 2 ^ t, a + 2 * m * 2 ^ t + 2 ^ t)] := by
  induction d with
  | zero =>
    intro m t a h
    obtain rfl : m = 0 := by omega
    have hp := Nat.two_pow_pos t
    rw [show 2 * 0 * 2 ^ t = 0 by simp, Nat.zero_add, wholeL_zero, wholeL_more a _ (by omega), Nat.log2_two_pow, Nat.sub_self, wholeL_zero]
    rfl
  | succ d ih =>
    intro m t a h
    by_cases hm : m = 0
    · subst hm
      exact ih 0 t a (by omega)
    · have hp := Nat.two_pow_pos t
      have hpos : 2 * m * 2 ^ t ≠ 0 := Nat.mul_ne_zero (by omega) (by omega)
      obtain ⟨j, hj⟩ : ∃ j, (2 * m).log2 = j := ⟨_, rfl⟩
      have h2m : 2 * m ≠ 0 := by omega
      have j1 : 2 ^ j ≤ 2 * m := by rw [← hj]; exact Nat.log2_self_le h2m
      have j2 : 2 * m < 2 ^ (j + 1) := by rw [← hj]; exact Nat.lt_log2_self
      obtain ⟨i, rfl⟩ : ∃ i, j = i + 1 := by
        refine ⟨j - 1, ?_⟩
        rcases Nat.eq_zero_or_pos j with h0 | h0
        · subst h0; rw [show 2 ^ (0 + 1) = 2 from rfl] at j2; omega
        · omega
      have j3 : 2 * m + 2 ≤ 2 ^ (i + 1 + 1) := by rw [Nat.pow_succ] at j2 ⊢; omega
      have l1 : (2 * m * 2 ^ t).log2 = i + 1 + t := (Nat.log2_eq_iff hpos).2 ⟨by rw [Nat.pow_add]; exact Nat.mul_le_mul_right _ j1, by
        rw [show i + 1 + t + 1 = (i + 1 + 1) + t by omega, Nat.pow_add]; exact Nat.mul_lt_mul_of_pos_right j2 hp⟩
      have l2 : (2 * m * 2 ^ t + 2 ^ t).log2 = i + 1 + t := (Nat.log2_eq_iff (by omega)).2 ⟨Nat.le_trans (by rw [Nat.pow_add]; exact Nat.mul_le_mul_right _ j1) (Nat.le_add_right _ _), by
        rw [show i + 1 + t + 1 = (i + 1 + 1) + t by omega, Nat.pow_add]
        have := Nat.mul_le_mul_right (2 ^ t) j3
        rw [Nat.add_mul] at this
        omega⟩
      rw [wholeL_more a (2 * m * 2 ^ t + 2 ^ t) (by omega), wholeL_more a (2 * m * 2 ^ t) hpos, l1, l2]
      have hi2 : 2 ^ (i + 1 + t) = 2 * 2 ^ i * 2 ^ t := by rw [Nat.pow_add, Nat.pow_succ]; rw [Nat.mul_comm (2 ^ i) 2]
      have him : 2 ^ i ≤ m := by rw [Nat.pow_succ] at j1; omega
      have hsub : 2 * m * 2 ^ t - 2 ^ (i + 1 + t) = 2 * (m - 2 ^ i) * 2 ^ t := by
        rw [hi2, ← Nat.sub_mul, ← Nat.mul_sub]
      have hle : 2 ^ (i + 1 + t) ≤ 2 * m * 2 ^ t := by rw [hi2]; exact Nat.mul_le_mul_right _ (Nat.mul_le_mul_left _ him)
      have hi := ih (m - 2 ^ i) t (a + 2 ^ (i + 1 + t)) (by have := Nat.two_pow_pos i; omega)
      rw [Nat.sub_add_comm hle, hsub, hi, List.cons_append, ← hsub]
      congr 3
      rw [Prod.mk.injEq]
      constructor <;> omega
theorem whole_low (k t : Nat) (h : k % 2 = 0) : wholeL 0 (k * 2 ^ t + 2 ^ t) = wholeL 0 (k * 2 ^ t) ++ [(k * 2 ^ t, k * 2 ^ t + 2 ^ t)] := by
  have := pow_split (k / 2) (k / 2) t 0 (Nat.le_refl _)
  rw [show 2 * (k / 2) = k by omega, Nat.zero_add] at this
  exact this
/-- two stretches of a power's length, side by side -/
theorem stretch_join (hs : List (List UInt8)) (a t : Nat) (h : a + 2 ^ t + 2 ^ t ≤ hs.length) : stretchL hs a (a + 2 ^ t + 2 ^ t) = hNode (stretchL hs a (a + 2 ^ t)) (stretchL hs (a + 2 ^ t) (a + 2 ^ t + 2 ^ t)) := by
  have hp := Nat.two_pow_pos t
  have hs2 := splitN_eq (2 ^ t + 2 ^ t) t (by omega) (by rw [Nat.pow_succ]; omega)
  generalize 2 ^ t = p at *
  unfold stretchL
  rw [show a + p + p - a = p + p by omega, show a + p - a = p by omega, show a + p + p - (a + p) = p by omega]
  have hlen : ((hs.drop a).take (p + p)).length = p + p := by rw [List.length_take, List.length_drop]; omega
  rw [rootL_more ((hs.drop a).take (p + p)) (by rw [hlen]; omega), hlen, hs2, List.take_take, Nat.min_eq_left (by omega), List.drop_take, List.drop_drop, show p + p - p = p by omega]
theorem stretch_one (hs : List (List UInt8)) (i : Nat) (h : i < hs.length) : stretchL hs i (i + 1) = hs.getD i [] := by
  unfold stretchL
  rw [show i + 1 - i = 1 by omega, List.drop_eq_getElem_cons h, List.getD_eq_getElem?_getD, List.getElem?_eq_getElem h]
  rfl
/-- the roots of all heads -/
def headsL (hs : List (List UInt8)) (k : Nat) : List (List UInt8) := (List.range (k + 1)).map fun i => rootL (hs.take i)
theorem headsL_zero (hs : List (List UInt8)) : headsL hs 0 = [hEmpty] := rfl
theorem headsL_succ (hs : List (List UInt8)) (k : Nat) : headsL hs (k + 1) = headsL hs k ++ [rootL (hs.take (k + 1))] := by
  unfold headsL
  rw [List.range_succ, List.map_append]; rfl
theorem length_headsL (hs : List (List UInt8)) (k : Nat) : (headsL hs k).length = k + 1 := by simp [headsL]
theorem headsL_all (hs : List (List UInt8)) (h : H32 hs) (k : Nat) : H32 (headsL hs k) := fun x hx => by
  obtain ⟨i, _, rfl⟩ := List.mem_map.1 hx
  exact length_rootL _ (h.take i)
theorem headsL_getD (hs : List (List UInt8)) (k i : Nat) (h : i ≤ k) : (headsL hs k).getD i [] = rootL (hs.take i) := by
  rw [headsL, List.getD_eq_getElem?_getD, List.getElem?_map, List.getElem?_range (by omega)]; rfl
theorem foldR_head (hs : List (List UInt8)) (k : Nat) (h : k < hs.length) : foldR (rootsL hs (wholeL 0 (k + 1))) = rootL (hs.take (k + 1)) := by
  rw [foldR_whole (k + 1) (k + 1) 0 hs (Nat.le_refl _) (by omega) (by omega), List.drop_zero]
end Go.Proofs.Ytobcfgbkhgkelaa
/- The model in plain Lean. -/
namespace Go.Proofs.Ytobcfgbkhgkelaa

structure MoV where
  ents : List (List UInt8)
  seg : Int
  cap : Int
  queue : List (List UInt8)
  lastS : Int
  lastR : List UInt8
  has : Bool
  begun : List (List UInt8)
  ptS : Int
  ptR : List UInt8
  pointing : Bool
  only : Bool
def zero32 : List UInt8 := List.replicate 32 0
def MoV.new (seg cap : Int) : MoV := ⟨[], seg, cap, [], 0, zero32, false, [], 0, zero32, false, false⟩
/-- the leaves' hashes -/
def lvs (es : List (List UInt8)) : List (List UInt8) := es.map hLeaf
def MoV.root (m : MoV) (n : Nat) : List UInt8 := rootL ((lvs m.ents).take n)
def MoV.nowR (m : MoV) : List UInt8 := rootL (lvs m.ents)
def jobOk (seg cap : Int) : Bool := decide (1 ≤ seg) && decide (seg ≤ 4096) && decide (1 ≤ cap) && decide (cap ≤ 1024)
def MoV.put (m : MoV) (l : List (List UInt8)) : MoV := { m with ents := m.ents ++ l }
def MoV.submit (m : MoV) (e : List UInt8) : Int × MoV :=
  if m.only then (10, m) else if 4096 < e.length then (3, m) else if m.cap ≤ (m.queue.length : Int) then (5, m) else (0, { m with queue := m.queue ++ [e] })
def MoV.flush (m : MoV) : MoV := { m with ents := m.ents ++ m.queue, queue := [] }
def MoV.publish (m : MoV) : MoV := { m with lastS := (m.ents.length : Int), lastR := m.nowR, has := true }
theorem lvs_length (es : List (List UInt8)) : (lvs es).length = es.length := List.length_map _
theorem lvs_append (a b : List (List UInt8)) : lvs (a ++ b) = lvs a ++ lvs b := List.map_append
end Go.Proofs.Ytobcfgbkhgkelaa
/- What stays where some blocks may turn: every block but those of M. (As in Lb0, without the fronts: not both in one seat.) -/
namespace Go.Proofs.Ytobcfgbkhgkelaa
open Go Go.RowKit

/-- every block stays but those of M -/
structure KB (M : Nat → Prop) (W W' : World) : Prop where
  os : W'.os = W.os
  tape : W'.tape = W.tape
  output : W'.output = W.output
  size : W.heap.size ≤ W'.heap.size
  block : ∀ k, k < W.heap.size → ¬ M k → W'.heap[k]? = W.heap[k]?
section
variable {M M' : Nat → Prop} {W W' W2 w : World} {T : TypeId} {cs : Array Value} {g : Nat}
theorem KB.refl (M : Nat → Prop) (W : World) : KB M W W := ⟨rfl, rfl, rfl, Nat.le_refl _, fun _ _ _ => rfl⟩
theorem KB.trans (h : KB M W W') (k : KB M W' W2) : KB M W W2 :=
  ⟨k.os.trans h.os, k.tape.trans h.tape, k.output.trans h.output, Nat.le_trans h.size k.size, fun i hi hm => (k.block i (Nat.lt_of_lt_of_le hi h.size) hm).trans (h.block i hi hm)⟩
/-- what may turn behind the first step: the same, or what is new -/
theorem KB.then (h : KB M W W') (k : KB M' W' W2) (hM : ∀ b, b < W.heap.size → M' b → M b) : KB M W W2 :=
  ⟨k.os.trans h.os, k.tape.trans h.tape, k.output.trans h.output, Nat.le_trans h.size k.size, fun i hi hm => (k.block i (Nat.lt_of_lt_of_le hi h.size) fun hx => hm (hM i hi hx)).trans (h.block i hi hm)⟩
theorem KB.mono (h : KB M W W') (hM : ∀ b, M b → M' b) : KB M' W W' := ⟨h.os, h.tape, h.output, h.size, fun k hk hm => h.block k hk fun hx => hm (hM k hx)⟩
theorem KB.of_below (h : Below W.heap.size W W') : KB M W W' := ⟨h.os, h.tape, h.output, h.size, fun k hk _ => h.block k hk⟩
theorem KB.of_grown {row : Option Nat} (h : W.grownBy W' row) (hM : ∀ r, row = some r → M r) : KB M W W' :=
  ⟨h.os, h.tape, h.output, h.size, fun k hk hm => h.block k hk fun e => hm (hM k e.symm)⟩
theorem KB.below {N : Nat} (h : KB M W W') (hM : ∀ b, M b → N ≤ b) (hN : N ≤ W.heap.size) : Below N W W' :=
  ⟨h.os, h.tape, h.output, h.size, fun k hk => h.block k (by omega) fun hm => by have := hM k hm; omega⟩
theorem KB.blk (h : KB M W W') (hb : Blk W g T cs) (hm : ¬ M g) : Blk W' g T cs := (h.block g hb.lt hm).trans hb
theorem KB.slv {X : Nat → Prop} {A : Option Addr} {n c s : Nat} {l : List Value} (h : KB M W W') (hs : SlV W X A n c s l) (hm : ∀ b, b < W.heap.size → X b → ¬ M b) : SlV W' X A n c s l :=
  hs.keep h.size fun p hp hx => World.cell?_of_block (h.block p.block hp (hm _ hp hx))
theorem KB.slb {X : Nat → Prop} {A : Option Addr} {n c : Nat} {l : List UInt8} (h : KB M W W') (hs : Sl W X A n c l) (hm : ∀ b, b < W.heap.size → X b → ¬ M b) : Sl W' X A n c l :=
  ⟨hs.bs.keep h.size fun p hp hx => World.cell?_of_block (h.block p.block hp (hm _ hp hx)), hs.len, hs.room, hs.none, hs.max⟩
theorem KB.own {base n s : Nat} {e : TypeId} {v : Value} {xs : List Value} (h : KB M W W') (ho : W.ownsRow base e s v n xs) (hm : ∀ b, v.ownBlock = some b → ¬ M b) : W'.ownsRow base e s v n xs := by
  refine ⟨ho.1, ?_⟩
  rcases ho.2 with h0 | ⟨g, cap, cur, rfl, hb, hg, rest⟩
  · exact .inl h0
  · exact .inr ⟨g, cap, cur, rfl, hb, h.blk (cs := cur) hg (hm g rfl), rest⟩
end
end Go.Proofs.Ytobcfgbkhgkelaa
/- Trees over any hash; what a proof says, and where it lies (plain). -/
namespace Go.Proofs.Ytobcfgbkhgkelaa
open Go

abbrev Hf := List UInt8 → List UInt8
def leafD (e : List UInt8) : List UInt8 := 0 :: e
abbrev PairV := List UInt8 × List UInt8
def nodeD (p : PairV) : List UInt8 := 1 :: (p.1 ++ p.2)
theorem leafD_inj {e f : List UInt8} (h : leafD e = leafD f) : e = f := List.tail_eq_of_cons_eq h
theorem nodeD_inj {p q : PairV} (h1 : p.1.length = 32) (h2 : q.1.length = 32) (h : nodeD p = nodeD q) : p = q := by
  have h := List.tail_eq_of_cons_eq h
  obtain ⟨a, b⟩ := List.append_inj h (by rw [h1, h2])
  exact Prod.ext a b
theorem rootF_s (z : List UInt8) (node : List UInt8 → List UInt8 → List UInt8) (f : Nat) (hs : List (List UInt8)) : rootF z node (f + 1) hs = if hs.length = 0 then z else if hs.length = 1 then hs.headD z else node (rootF z node f (hs.take (splitN hs.length))) (rootF z node f (hs.drop (splitN hs.length))) := rfl
/-- the root of a list, by a hash -/
def rootA (H : Hf) (d : List (List UInt8)) : List UInt8 := rootF (H []) (fun x y => H (nodeD (x, y))) d.length (d.map fun e => H (leafD e))
theorem rootA_nil (H : Hf) : rootA H [] = H [] := rfl
theorem rootA_one (H : Hf) (d : List (List UInt8)) (h : d.length = 1) : rootA H d = H (leafD (d.getD 0 [])) := by
  obtain ⟨e, rfl⟩ := List.length_eq_one_iff.1 h
  rfl
theorem rootA_more (H : Hf) (d : List (List UInt8)) (h : 2 ≤ d.length) : rootA H d = H (nodeD (rootA H (d.take (splitN d.length)), rootA H (d.drop (splitN d.length)))) := by
  have hl := splitN_lt d.length h
  have hp := splitN_pos d.length h
  unfold rootA
  obtain ⟨f, hf⟩ : ∃ f, d.length = f + 1 := ⟨d.length - 1, by omega⟩
  rw [hf, rootF_s, List.length_map, if_neg (by omega), if_neg (by omega), ← List.map_take, ← List.map_drop]
  rw [hf] at hl hp
  rw [rootF_enough _ _ f (d.take (splitN d.length)).length ((d.take (splitN d.length)).map fun e => H (leafD e)) (by rw [List.length_map, List.length_take, hf]; omega) (by rw [List.length_map]; exact Nat.le_refl _),
    rootF_enough _ _ f (d.drop (splitN d.length)).length ((d.drop (splitN d.length)).map fun e => H (leafD e)) (by rw [List.length_map, List.length_drop, hf]; omega) (by rw [List.length_map]; exact Nat.le_refl _), hf]
theorem length_rootA (H : Hf) (hH : ∀ l, (H l).length = 32) (d : List (List UInt8)) : (rootA H d).length = 32 := by
  by_cases h0 : d.length = 0
  · rw [List.length_eq_zero_iff.1 h0, rootA_nil, hH]
  by_cases h1 : d.length = 1
  · rw [rootA_one H d h1, hH]
  · rw [rootA_more H d (by omega), hH]

/-- a way down: whether it goes to the right, at each node -/
def wayF (st rt : Nat → Nat → Bool) : Nat → Nat → Nat → List Bool
  | 0, _, _ => []
  | f + 1, s, n => if st s n = true then [] else if rt s (splitN n) = true then true :: wayF st rt f (s - splitN n) (n - splitN n) else false :: wayF st rt f s (splitN n)
theorem wayF_s (st rt : Nat → Nat → Bool) (f s n : Nat) : wayF st rt (f + 1) s n = if st s n = true then [] else if rt s (splitN n) = true then true :: wayF st rt f (s - splitN n) (n - splitN n) else false :: wayF st rt f s (splitN n) := rfl
def stI : Nat → Nat → Bool := fun _ n => n == 1
def rtI : Nat → Nat → Bool := fun s k => decide (k ≤ s)
def wayI (i n : Nat) : List Bool := wayF stI rtI n i n
theorem wayF_I : ∀ (f g i n : Nat), n ≤ f → n ≤ g → 1 ≤ n → i < n → wayF stI rtI f i n = wayF stI rtI g i n
  | 0, _, _, _, h, _, h1, _ => by omega
  | _, 0, _, _, _, h, h1, _ => by omega
  | f + 1, g + 1, i, n, h, h', h1, hi => by
    unfold wayF
    by_cases hn : stI i n = true
    · rw [if_pos hn, if_pos hn]
    · have hn2 : n ≠ 1 := fun e => hn (by rw [e]; rfl)
      have hl := splitN_lt n (by omega)
      have hp := splitN_pos n (by omega)
      rw [if_neg hn, if_neg hn]
      by_cases hr : rtI i (splitN n) = true
      · rw [if_pos hr, if_pos hr, wayF_I f g (i - splitN n) (n - splitN n) (by omega) (by omega) (by omega) (by omega)]
      · have : i < splitN n := by simpa [rtI] using hr
        rw [if_neg hr, if_neg hr, wayF_I f g i (splitN n) (by omega) (by omega) (by omega) (by omega)]
theorem wayI_one (i : Nat) : wayI i 1 = [] := rfl
theorem wayI_right (i n : Nat) (h : 2 ≤ n) (hi : i < n) (hk : splitN n ≤ i) : wayI i n = true :: wayI (i - splitN n) (n - splitN n) := by
  have hl := splitN_lt n h
  have hp := splitN_pos n h
  unfold wayI
  obtain ⟨f, hf⟩ : ∃ f, n = f + 1 := ⟨n - 1, by omega⟩
  conv => lhs; rw [show wayF stI rtI n i n = wayF stI rtI (f + 1) i n by rw [← hf]]
  rw [wayF_s, if_neg (by simp [stI]; omega), if_pos (by simp [rtI]; exact hk), wayF_I f (n - splitN n) _ _ (by omega) (by omega) (by omega) (by omega)]
theorem wayI_left (i n : Nat) (h : 2 ≤ n) (hk : i < splitN n) : wayI i n = false :: wayI i (splitN n) := by
  have hl := splitN_lt n h
  have hp := splitN_pos n h
  unfold wayI
  obtain ⟨f, hf⟩ : ∃ f, n = f + 1 := ⟨n - 1, by omega⟩
  conv => lhs; rw [show wayF stI rtI n i n = wayF stI rtI (f + 1) i n by rw [← hf]]
  rw [wayF_s, if_neg (by simp [stI]; omega), if_neg (by simp [rtI]; omega), wayF_I f (splitN n) _ _ (by omega) (by omega) (by omega) (by omega)]

def pairB (b : Bool) (x a : List UInt8) : PairV := if b then (x, a) else (a, x)
/-- what is put together, from the way's end up -/
def atI (H : Hf) (way : List Bool) (pf : List (List UInt8)) (a0 : List UInt8) : Nat → List UInt8
  | 0 => a0
  | i + 1 => H (nodeD (pairB (way.getD (way.length - 1 - i) false) (pf.getD i []) (atI H way pf a0 i)))
def prI (H : Hf) (way : List Bool) (pf : List (List UInt8)) (a0 : List UInt8) (i : Nat) : PairV := pairB (way.getD (way.length - 1 - i) false) (pf.getD i []) (atI H way pf a0 i)
theorem atI_succ (H : Hf) (way : List Bool) (pf : List (List UInt8)) (a0 : List UInt8) (i : Nat) : atI H way pf a0 (i + 1) = H (nodeD (prI H way pf a0 i)) := rfl
/-- what a proof says at each node on the way, from the root down -/
def saidL (H : Hf) (way : List Bool) (pf : List (List UInt8)) (a0 : List UInt8) : List PairV := (List.range way.length).map fun n => prI H way pf a0 (way.length - 1 - n)
theorem length_saidL (H : Hf) (way : List Bool) (pf : List (List UInt8)) (a0 : List UInt8) : (saidL H way pf a0).length = way.length := by simp [saidL]
theorem saidL_getD (H : Hf) (way : List Bool) (pf : List (List UInt8)) (a0 : List UInt8) (n : Nat) (d : PairV) (h : n < way.length) : (saidL H way pf a0).getD n d = prI H way pf a0 (way.length - 1 - n) := by
  unfold saidL
  rw [List.getD_eq_getElem?_getD, List.getElem?_map, List.getElem?_range h]
  rfl
theorem atI_cons (H : Hf) (b : Bool) (way : List Bool) (pf : List (List UInt8)) (a0 : List UInt8) : ∀ j, j ≤ way.length → atI H (b :: way) pf a0 j = atI H way (pf.take way.length) a0 j
  | 0, _ => rfl
  | j + 1, h => by
    unfold atI
    rw [atI_cons H b way pf a0 j (by omega), List.length_cons, show way.length + 1 - 1 - j = (way.length - 1 - j) + 1 by omega, List.getD_cons_succ]
    congr 3
    rw [List.getD_eq_getElem?_getD, List.getD_eq_getElem?_getD, List.getElem?_take_of_lt (by omega)]
theorem prI_cons (H : Hf) (b : Bool) (way : List Bool) (pf : List (List UInt8)) (a0 : List UInt8) (j : Nat) (h : j < way.length) : prI H (b :: way) pf a0 j = prI H way (pf.take way.length) a0 j := by
  unfold prI
  rw [atI_cons H b way pf a0 j (by omega), List.length_cons, show way.length + 1 - 1 - j = (way.length - 1 - j) + 1 by omega, List.getD_cons_succ]
  congr 1
  rw [List.getD_eq_getElem?_getD, List.getD_eq_getElem?_getD, List.getElem?_take_of_lt (by omega)]
theorem prI_top (H : Hf) (b : Bool) (way : List Bool) (pf : List (List UInt8)) (a0 : List UInt8) : prI H (b :: way) pf a0 way.length = pairB b (pf.getD way.length []) (atI H way (pf.take way.length) a0 way.length) := by
  unfold prI
  rw [atI_cons H b way pf a0 _ (Nat.le_refl _), List.length_cons, show way.length + 1 - 1 - way.length = 0 by omega]
  rfl
theorem saidL_cons (H : Hf) (b : Bool) (way : List Bool) (pf : List (List UInt8)) (a0 : List UInt8) : saidL H (b :: way) pf a0 = prI H (b :: way) pf a0 way.length :: saidL H way (pf.take way.length) a0 := by
  unfold saidL
  rw [List.length_cons, List.range_succ_eq_map, List.map_cons, List.map_map]
  congr 1
  apply List.map_congr_left
  intro n hn
  have hn := List.mem_range.1 hn
  show prI H (b :: way) pf a0 (way.length + 1 - 1 - (n + 1)) = _
  rw [show way.length + 1 - 1 - (n + 1) = way.length - 1 - n by omega]
  exact prI_cons H b way pf a0 _ (by omega)

/-- the first node, from the root down, where what is said is not what is hashed there -/
def lieF (H : Hf) : List Bool → List PairV → List (List UInt8) → Option (PairV × PairV) × List (List UInt8)
  | b :: way, p :: sd, d => if p = (rootA H (d.take (splitN d.length)), rootA H (d.drop (splitN d.length))) then lieF H way sd (if b = true then d.drop (splitN d.length) else d.take (splitN d.length))
    else (some (p, (rootA H (d.take (splitN d.length)), rootA H (d.drop (splitN d.length)))), d)
  | _, _, d => (none, d)
def bigD (d : List (List UInt8)) : Bool := decide (65536 < d.length) || d.any fun x => decide (4096 < x.length)
def noC : PairV := ([], [])
/-- the answer to a proof that an entry is in -/
def inclC (H : Hf) (d : List (List UInt8)) (i : Int) (e : List UInt8) (pf : List (List UInt8)) : PairV × Int :=
  if bigD d = true ∨ 4096 < e.length then (noC, 2) else if i < 0 ∨ (d.length : Int) ≤ i then (noC, 4)
  else if pf.length ≠ (wayI i.toNat d.length).length then (noC, 230)
  else if atI H (wayI i.toNat d.length) pf (H (leafD e)) pf.length ≠ rootA H d then (noC, 230)
  else match lieF H (wayI i.toNat d.length) (saidL H (wayI i.toNat d.length) pf (H (leafD e))) d with
    | (some (p, h), _) => ((nodeD p, nodeD h), 0)
    | (none, rest) => if e = rest.getD 0 [] then (noC, 231) else ((leafD e, leafD (rest.getD 0 [])), 0)
/-- is it a clash -/
def isC (H : Hf) (c : PairV) : Bool := !(c.1 == c.2) && H c.1 == H c.2
theorem isC_of (H : Hf) (c : PairV) (h1 : c.1 ≠ c.2) (h2 : H c.1 = H c.2) : isC H c = true := by
  unfold isC
  simp [h1, h2]
theorem lieF_end (H : Hf) : ∀ (way : List Bool) (sd : List PairV) (i : Nat) (d : List (List UInt8)), wayI i d.length = way → sd.length = way.length → i < d.length → (lieF H way sd d).1 = none → ∃ x, (lieF H way sd d).2 = [x]
  | [], sd, i, d, hw, _, hi, _ => by
    by_cases h1 : d.length = 1
    · obtain ⟨x, rfl⟩ := List.length_eq_one_iff.1 h1
      exact ⟨x, by cases sd <;> rfl⟩
    · exfalso
      by_cases hk : splitN d.length ≤ i
      · rw [wayI_right i d.length (by omega) hi hk] at hw; cases hw
      · rw [wayI_left i d.length (by omega) (by omega)] at hw; cases hw
  | b :: way, [], _, _, _, h, _, _ => by simp at h
  | b :: way, p :: sd, i, d, hw, h, hi, hn => by
    have hd : 2 ≤ d.length := by
      rcases Nat.lt_or_ge d.length 2 with h2 | h2
      · have : d.length = 1 := by omega
        rw [this] at hw
        cases hw
      · exact h2
    have hl := splitN_lt d.length hd
    unfold lieF at hn ⊢
    split at hn
    · rename_i hp
      rw [if_pos hp]
      by_cases hk : splitN d.length ≤ i
      · rw [wayI_right i d.length hd hi hk] at hw
        injection hw with h1 h2
        subst h1
        exact lieF_end H way sd (i - splitN d.length) _ (by rw [if_pos rfl, List.length_drop]; exact h2) (by simpa using h) (by rw [if_pos rfl, List.length_drop]; omega) hn
      · rw [wayI_left i d.length hd (by omega)] at hw
        injection hw with h1 h2
        subst h1
        have e : (d.take (splitN d.length)).length = splitN d.length := by rw [List.length_take]; omega
        exact lieF_end H way sd i _ (by rw [if_neg (by simp), e]; exact h2) (by simpa using h) (by rw [if_neg (by simp), e]; omega) hn
    · cases hn
/-- what is told is a clash: on the way down -/
theorem lieF_clash (H : Hf) (hH : ∀ l, (H l).length = 32) (a0 : List UInt8) (ha : a0.length = 32) : ∀ (way : List Bool) (pf : List (List UInt8)) (i : Nat) (d : List (List UInt8)), (∀ x ∈ pf, x.length = 32) → wayI i d.length = way → pf.length = way.length → i < d.length → atI H way pf a0 way.length = rootA H d →
    (∀ p h r, lieF H way (saidL H way pf a0) d = (some (p, h), r) → nodeD p ≠ nodeD h ∧ H (nodeD p) = H (nodeD h)) ∧ (∀ x, lieF H way (saidL H way pf a0) d = (none, [x]) → a0 = H (leafD x))
  | [], pf, i, d, _, hw, hl, hi, hr => by
    refine ⟨fun p h r e => (by cases e), fun x e => ?_⟩
    have : d = [x] := by cases e; rfl
    rw [this] at hr
    exact hr
  | b :: way, pf, i, d, hp, hw, hl, hi, hr => by
    have hd : 2 ≤ d.length := by
      rcases Nat.lt_or_ge d.length 2 with h2 | h2
      · have : d.length = 1 := by omega
        rw [this] at hw
        cases hw
      · exact h2
    have hlt := splitN_lt d.length hd
    have hat : ∀ w p j, (atI H w p a0 j).length = 32 := fun w p j => by cases j with | zero => exact ha | succ j => exact hH _
    have hx32 : (pf.getD way.length []).length = 32 := by
      rw [List.getD_eq_getElem?_getD, List.getElem?_eq_getElem (by rw [hl]; simp)]
      exact hp _ (List.getElem_mem _)
    rw [List.length_cons, atI_succ, rootA_more H d hd, prI_top] at hr
    rw [saidL_cons, prI_top]
    have hp1 : (pairB b (pf.getD way.length []) (atI H way (pf.take way.length) a0 way.length)).1.length = 32 := by
      unfold pairB
      split
      · exact hx32
      · exact hat _ _ _
    unfold lieF
    by_cases he : pairB b (pf.getD way.length []) (atI H way (pf.take way.length) a0 way.length) = (rootA H (d.take (splitN d.length)), rootA H (d.drop (splitN d.length)))
    · rw [if_pos he]
      have hp' : ∀ x ∈ pf.take way.length, x.length = 32 := fun x hx => hp x (List.mem_of_mem_take hx)
      have hl' : (pf.take way.length).length = way.length := by rw [List.length_take, hl]; simp
      by_cases hk : splitN d.length ≤ i
      · rw [wayI_right i d.length hd hi hk] at hw
        injection hw with h1 h2
        subst h1
        rw [if_pos rfl]
        have h3 : atI H way (pf.take way.length) a0 way.length = rootA H (d.drop (splitN d.length)) := congrArg Prod.snd he
        exact lieF_clash H hH a0 ha way (pf.take way.length) (i - splitN d.length) _ hp' (by rw [List.length_drop]; exact h2) hl' (by rw [List.length_drop]; omega) h3
      · rw [wayI_left i d.length hd (by omega)] at hw
        injection hw with h1 h2
        subst h1
        rw [if_neg (by simp)]
        have e : (d.take (splitN d.length)).length = splitN d.length := by rw [List.length_take]; omega
        have h3 : atI H way (pf.take way.length) a0 way.length = rootA H (d.take (splitN d.length)) := congrArg Prod.fst he
        exact lieF_clash H hH a0 ha way (pf.take way.length) i _ hp' (by rw [e]; exact h2) hl' (by rw [e]; omega) h3
    · rw [if_neg he]
      refine ⟨fun p h r e => ?_, fun x e => by cases e⟩
      cases e
      exact ⟨fun e => he (nodeD_inj hp1 (length_rootA H hH _) e), hr⟩
theorem inclC_is (H : Hf) (hH : ∀ l, (H l).length = 32) (d : List (List UInt8)) (i : Int) (e : List UInt8) (pf : List (List UInt8)) (hp : ∀ x ∈ pf, x.length = 32) (h : (inclC H d i e pf).2 = 0) : isC H (inclC H d i e pf).1 = true := by
  unfold inclC at h ⊢
  split at h
  · cases h
  rename_i h1
  rw [if_neg h1]
  split at h
  · cases h
  rename_i h2
  rw [if_neg h2]
  split at h
  · cases h
  rename_i h3
  rw [if_neg h3]
  split at h
  · cases h
  rename_i h4
  rw [if_neg h4]
  have hlen : pf.length = (wayI i.toNat d.length).length := by simpa using h3
  have hrt : atI H (wayI i.toNat d.length) pf (H (leafD e)) (wayI i.toNat d.length).length = rootA H d := by rw [← hlen]; simpa using h4
  have hi : i.toNat < d.length := by omega
  obtain ⟨c1, c2⟩ := lieF_clash H hH (H (leafD e)) (hH _) (wayI i.toNat d.length) pf i.toNat d hp rfl hlen hi hrt
  have hend := lieF_end H (wayI i.toNat d.length) (saidL H (wayI i.toNat d.length) pf (H (leafD e))) i.toNat d rfl (length_saidL _ _ _ _) hi
  obtain ⟨⟨o, r⟩, hq⟩ : ∃ q, lieF H (wayI i.toNat d.length) (saidL H (wayI i.toNat d.length) pf (H (leafD e))) d = q := ⟨_, rfl⟩
  rw [hq] at h c1 c2 hend ⊢
  cases o with
  | some q =>
    obtain ⟨p, k⟩ := q
    obtain ⟨g1, g2⟩ := c1 p k r rfl
    exact isC_of H _ g1 g2
  | none =>
    obtain ⟨x, hx⟩ := hend rfl
    have hx : r = [x] := hx
    subst hx
    dsimp only at h ⊢
    split at h
    · cases h
    rename_i h5
    rw [if_neg h5]
    exact isC_of H _ (fun e => h5 (leafD_inj e)) (c2 x rfl)
end Go.Proofs.Ytobcfgbkhgkelaa
/- An operation with a guard whose run is known. No program in sight. -/
namespace Go.Proofs.Ytobcfgbkhgkelaa
open Go Go.RowKit

theorem wpList_runG {P : Program} {w : World} {ops : Array Oper} {rest : List Oper} {o : Oper} {a : Act} {Q : Exit → Act → World → Prop} (hw : Region.wanted o (yielded ops a.tmps) = true) (v : Value) (w' : World) (hrun : (execOp a.eval o).run P w = .ok (.value v) w')
    (h : wpList P ops Q rest (a.put o.dst v) w') : wpList P ops Q (o :: rest) a w :=
  wpList_step fun K hK => by
    rw [if_pos hw]
    unfold Oper.wp
    rw [hrun]
    exact hK _ _ h
end Go.Proofs.Ytobcfgbkhgkelaa
/- Variables that hold a hash: one step for each, by what is known of their block. -/
namespace Go.Proofs.Ytobcfgbkhgkelaa
open Go Go.RowKit

/-- a block holds this hash -/
structure HV (w : World) (g : Nat) (l : List UInt8) : Prop where
  blk : Blk w g 26 (l.map B).toArray
  len : l.length = 32
theorem HV.step {w W : World} {g : Nat} {l : List UInt8} (h : HV w g l) (hb : Below w.heap.size w W) : HV W g l := ⟨h.blk.below hb h.blk.lt, h.len⟩
theorem HV.lt {w : World} {g : Nat} {l : List UInt8} (h : HV w g l) : g < w.heap.size := h.blk.lt
theorem HV.drew {w : World} {g : Nat} {l : List UInt8} (h : HV w g l) : HV w.drew g l := ⟨h.blk, h.len⟩
theorem HV.load {w : World} {g : Nat} {l : List UInt8} (h : HV w g l) : (Instr.loadAt 26 (.pointer (some ⟨g, 0, none⟩))).run Try.prog w = .ok (.agg (l.map B).toArray) w :=
  run_load_blk (agg26 _) (size26 _) g _ (by simp [h.len]) h.blk
theorem HV.far {w W : World} {g g' : Nat} {l : List UInt8} (h : HV w g l) (hb : Below g' w W) (hg : g < g') : HV W g l := ⟨h.blk.below hb hg, h.len⟩
theorem Blk.step {w W : World} {g : Nat} {t : TypeId} {cs : Array Value} (h : Blk w g t cs) (hb : Below w.heap.size w W) : Blk W g t cs := h.below hb h.lt

section
variable {w : World} {ops : Array Oper} {rest : List Oper} {o o1 o2 o3 : Oper} {a : Act} {Q : Exit → Act → World → Prop}
set_option maxRecDepth 100000 in
/-- a new variable, written at once -/
theorem wpList_hvar {l : List UInt8} (x y : Operand) (hg1 : o1.guard = none) (hg2 : o2.guard = none) (ho1 : o1.op = .alloc 26) (ho2 : o2.op = .store 26 x y)
    (hx : (a.put o1.dst (.pointer (some ⟨w.heap.size, 0, none⟩))).eval x = .pointer (some ⟨w.heap.size, 0, none⟩)) (hy : (a.put o1.dst (.pointer (some ⟨w.heap.size, 0, none⟩))).eval y = .agg (l.map B).toArray) (hl : l.length = 32)
    (h : ∀ W, HV W w.heap.size l → Below w.heap.size w W → wpList Try.prog ops Q rest ((a.put o1.dst (.pointer (some ⟨w.heap.size, 0, none⟩))).put o2.dst undef) W) : wpList Try.prog ops Q (o1 :: o2 :: rest) a w := by
  have hz : zeroHash.size = 32 := rfl
  refine wpList_run hg1 (.pointer (some ⟨w.heap.size, 0, none⟩)) (w.alloc (.cells zeroHash 26)) ?_ ?_
  · unfold execOp
    rw [ho1]
    rfl
  · refine wpList_store_blk hg2 26 x y ho2 32 size26 w.heap.size (l.map B).toArray hx hy (by simp [hl]) (oneCell_B _) 26 _ (Blk.new w 26 zeroHash) hz ?_
    exact h _ ⟨(Blk.new w 26 zeroHash).setRow_ _, hl⟩ (below_setRow ((Below.refl _ _).alloc (Nat.le_refl _) _) (Nat.le_refl _) _)
set_option maxRecDepth 100000 in
/-- a new variable, nought -/
theorem wpList_hnew (hg1 : o1.guard = none) (ho1 : o1.op = .alloc 26)
    (h : ∀ W, HV W w.heap.size (List.replicate 32 0) → Below w.heap.size w W → wpList Try.prog ops Q rest (a.put o1.dst (.pointer (some ⟨w.heap.size, 0, none⟩))) W) : wpList Try.prog ops Q (o1 :: rest) a w := by
  refine wpList_run hg1 (.pointer (some ⟨w.heap.size, 0, none⟩)) (w.alloc (.cells zeroHash 26)) ?_ (h _ ⟨Blk.new w 26 zeroHash, rfl⟩ ((Below.refl _ _).alloc (Nat.le_refl _) _))
  unfold execOp
  rw [ho1]
  rfl
/-- a variable is written over: all below it stays -/
theorem wpList_hset {l l' : List UInt8} {g : Nat} (x y : Operand) (hg2 : o.guard = none) (ho2 : o.op = .store 26 x y) (k : HV w g l')
    (hx : a.eval x = .pointer (some ⟨g, 0, none⟩)) (hy : a.eval y = .agg (l.map B).toArray) (hl : l.length = 32)
    (h : ∀ W, HV W g l → Below g w W → W = w.setRow g (l.map B).toArray → wpList Try.prog ops Q rest (a.put o.dst undef) W) : wpList Try.prog ops Q (o :: rest) a w :=
  wpList_store_blk hg2 26 x y ho2 32 size26 g (l.map B).toArray hx hy (by simp [hl]) (oneCell_B _) 26 _ k.blk (by simp [k.len])
    (h _ ⟨k.blk.setRow_ _, hl⟩ (below_setRow (Below.refl _ _) (Nat.le_refl _) _) rfl)
theorem wpList_hload {l : List UInt8} {g : Nat} (x : Operand) (hw : Region.wanted o (yielded ops a.tmps) = true) (ho : o.op = .load 26 x) (k : HV w g l) (hx : a.eval x = .pointer (some ⟨g, 0, none⟩))
    (h : wpList Try.prog ops Q rest (a.put o.dst (.agg (l.map B).toArray)) w) : wpList Try.prog ops Q (o :: rest) a w :=
  wpList_runG hw (.agg (l.map B).toArray) w (run_load_op 26 x ho g 0 hx _ k.load) h
/-- a scalar, by its cell -/
theorem wpList_cell {P : Program} (ty : TypeId) (x : Operand) (g off : Nat) (v : Value) (hw : Region.wanted o (yielded ops a.tmps) = true) (ho : o.op = .load ty x) (hx : a.eval x = .pointer (some ⟨g, off, none⟩))
    (hrun : (Instr.loadAt ty (.pointer (some ⟨g, off, none⟩))).run P w = .ok v w) (h : wpList P ops Q rest (a.put o.dst v) w) : wpList P ops Q (o :: rest) a w :=
  wpList_runG hw v w (run_load_op ty x ho g off hx _ hrun) h
end
theorem run_load_scalar {P : Program} {W : World} {ty : TypeId} {g o : Nat} {v : Value} (hagg : (isAgg ty).run P W = .ok false W) (h : W.cell? ⟨g, o, none⟩ = some v) : (Instr.loadAt ty (.pointer (some ⟨g, o, none⟩))).run P W = .ok v W := by
  simp [Instr.loadAt, Instr.sureAddr, loadVar, Sem.run_bind, hagg, Go.load, Sem.run, h]
theorem notagg64 : ∀ w : World, (isAgg 2).run Try.prog w = .ok false w := fun _ => by kernel_rfl
/-- hashes: one is put in the place of another -/
theorem hcells_set : ∀ (l : List (List UInt8)), H32 l → ∀ (k : Nat) (x : List UInt8), k < l.length → (hcells l).take (k * 32) ++ x.map B ++ (hcells l).drop (k * 32 + 32) = hcells (l.set k x) := by
  intro l h k x hk
  rw [hcells_take l h k (by omega), show k * 32 + 32 = (k + 1) * 32 by omega, hcells_drop l h (k + 1) (by omega), List.set_eq_take_append_cons_drop, if_pos hk, hcells_append]
  simp [hcells]
theorem H32.set {l : List (List UInt8)} (h : H32 l) (k : Nat) {x : List UInt8} (hx : x.length = 32) : H32 (l.set k x) := fun y hy => by
  rcases List.mem_or_eq_of_mem_set hy with h1 | rfl
  · exact h y h1
  · exact hx
theorem Hs.get {w : World} {X : Nat → Prop} {A : Option Addr} {n c : Nat} {hs : List (List UInt8)} (h : Hs w X A n c hs) {b o : Nat} (hA : A = some ⟨b, o, none⟩) (i : Nat) (hi : i < n) :
    (Instr.loadAt 26 (.pointer (some ⟨b, o + i * 32, none⟩))).run Try.prog w = .ok (.agg ((hs.getD i []).map B).toArray) w := by
  obtain ⟨b', o', hA', -, -, hat⟩ := h.at_ (by omega)
  rw [hA] at hA'
  cases hA'
  exact hat i hi
end Go.Proofs.Ytobcfgbkhgkelaa
