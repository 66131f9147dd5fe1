/- Trees over any hash; what a proof says, and where it lies (plain). -/
import Derived.Test.YtonidnfgneokbaaQd217
import Derived.Shelf.Strconv.Itoa0
import Derived.Test.YtonidnfgneokbaaQd210
import Derived.Test.YtonidnfgneokbaaQd211
import Derived.Test.YtonidnfgneokbaaQd214
namespace Go.Proofs.Ytonidnfgneokbaa
open Go

abbrev Hf := List UInt8 → List UInt8
def leafD (e : List UInt8) : List UInt8 := 0 :: e
abbrev PairV := List UInt8 × List UInt8
def nodeD (p : PairV) : List UInt8 := 1 :: (p.1 ++ p.2)
theorem leafD_inj {e f : List UInt8} (h : leafD e = leafD f) : e = f := List.tail_eq_of_cons_eq h
theorem nodeD_inj {p q : PairV} (h1 : p.1.length = 32) (h2 : q.1.length = 32) (h : nodeD p = nodeD q) : p = q := by
  have h := List.tail_eq_of_cons_eq h
  obtain ⟨a, b⟩ := List.append_inj h (by rw [h1, h2])
  exact Prod.ext a b
theorem rootF_s (z : List UInt8) (node : List UInt8 → List UInt8 → List UInt8) (f : Nat) (hs : List (List UInt8)) : rootF z node (f + 1) hs = if hs.length = 0 then z else if hs.length = 1 then hs.headD z else node (rootF z node f (hs.take (splitN hs.length))) (rootF z node f (hs.drop (splitN hs.length))) := rfl
/-- the root of a list, by a hash -/
def rootA (H : Hf) (d : List (List UInt8)) : List UInt8 := rootF (H []) (fun x y => H (nodeD (x, y))) d.length (d.map fun e => H (leafD e))
theorem rootA_nil (H : Hf) : rootA H [] = H [] := rfl
theorem rootA_one (H : Hf) (d : List (List UInt8)) (h : d.length = 1) : rootA H d = H (leafD (d.getD 0 [])) := by
  obtain ⟨e, rfl⟩ := List.length_eq_one_iff.1 h
  rfl
theorem rootA_more (H : Hf) (d : List (List UInt8)) (h : 2 ≤ d.length) : rootA H d = H (nodeD (rootA H (d.take (splitN d.length)), rootA H (d.drop (splitN d.length)))) := by
  have hl := splitN_lt d.length h
  have hp := splitN_pos d.length h
  unfold rootA
  obtain ⟨f, hf⟩ : ∃ f, d.length = f + 1 := ⟨d.length - 1, by omega⟩
  rw [hf, rootF_s, List.length_map, if_neg (by omega), if_neg (by omega), ← List.map_take, ← List.map_drop]
  rw [hf] at hl hp
  rw [rootF_enough _ _ f (d.take (splitN d.length)).length ((d.take (splitN d.length)).map fun e => H (leafD e)) (by rw [List.length_map, List.length_take, hf]; omega) (by rw [List.length_map]; exact Nat.le_refl _),
    rootF_enough _ _ f (d.drop (splitN d.length)).length ((d.drop (splitN d.length)).map fun e => H (leafD e)) (by rw [List.length_map, List.length_drop, hf]; omega) (by rw [List.length_map]; exact Nat.le_refl _), hf]
theorem length_rootA (H : Hf) (hH : ∀ l, (H l).length = 32) (d : List (List UInt8)) : (rootA H d).length = 32 := by
  by_cases h0 : d.length = 0
  · rw [List.length_eq_zero_iff.1 h0, rootA_nil, hH]
  by_cases h1 : d.length = 1
  · rw [rootA_one H d h1, hH]
  · rw [rootA_more H d (by omega), hH]

/-- a way down: whether it goes to the right, at each node -/
def wayF (st rt : Nat → Nat → Bool) : Nat → Nat → Nat → List Bool
  | 0, _, _ => []
  | f + 1, s, n => if st s n = true then [] else if rt s (splitN n) = true then true :: wayF st rt f (s - splitN n) (n - splitN n) else false :: wayF st rt f s (splitN n)
theorem wayF_s (st rt : Nat → Nat → Bool) (f s n : Nat) : wayF st rt (f + 1) s n = if st s n = true then [] else if rt s (splitN n) = true then true :: wayF st rt f (s - splitN n) (n - splitN n) else false :: wayF st rt f s (splitN n) := rfl
def stI : Nat → Nat → Bool := fun _ n => n == 1
def rtI : Nat → Nat → Bool := fun s k => decide (k ≤ s)
def wayI (i n : Nat) : List Bool := wayF stI rtI n i n
theorem wayF_I : ∀ (f g i n : Nat), n ≤ f → n ≤ g → 1 ≤ n → i < n → wayF stI rtI f i n = wayF stI rtI g i n
  | 0, _, _, _, h, _, h1, _ => by omega
  | _, 0, _, _, _, h, h1, _ => by omega
  | f + 1, g + 1, i, n, h, h', h1, hi => by
    unfold wayF
    by_cases hn : stI i n = true
    · rw [if_pos hn, if_pos hn]
    · have hn2 : n ≠ 1 := fun e => hn (by rw [e]; rfl)
      have hl := splitN_lt n (by omega)
      have hp := splitN_pos n (by omega)
      rw [if_neg hn, if_neg hn]
      by_cases hr : rtI i (splitN n) = true
      · rw [if_pos hr, if_pos hr, wayF_I f g (i - splitN n) (n - splitN n) (by omega) (by omega) (by omega) (by omega)]
      · have : i < splitN n := by simpa [rtI] using hr
        rw [if_neg hr, if_neg hr, wayF_I f g i (splitN n) (by omega) (by omega) (by omega) (by omega)]
theorem wayI_one (i : Nat) : wayI i 1 = [] := rfl
theorem wayI_right (i n : Nat) (h : 2 ≤ n) (hi : i < n) (hk : splitN n ≤ i) : wayI i n = true :: wayI (i - splitN n) (n - splitN n) := by
  have hl := splitN_lt n h
  have hp := splitN_pos n h
  unfold wayI
  obtain ⟨f, hf⟩ : ∃ f, n = f + 1 := ⟨n - 1, by omega⟩
  conv => lhs; rw [show wayF stI rtI n i n = wayF stI rtI (f + 1) i n by rw [← hf]]
  rw [wayF_s, if_neg (by simp [stI]; omega), if_pos (by simp [rtI]; exact hk), wayF_I f (n - splitN n) _ _ (by omega) (by omega) (by omega) (by omega)]
theorem wayI_left (i n : Nat) (h : 2 ≤ n) (hk : i < splitN n) : wayI i n = false :: wayI i (splitN n) := by
  have hl := splitN_lt n h
  have hp := splitN_pos n h
  unfold wayI
  obtain ⟨f, hf⟩ : ∃ f, n = f + 1 := ⟨n - 1, by omega⟩
  conv => lhs; rw [show wayF stI rtI n i n = wayF stI rtI (f + 1) i n by rw [← hf]]
  rw [wayF_s, if_neg (by simp [stI]; omega), if_neg (by simp [rtI]; omega), wayF_I f (splitN n) _ _ (by omega) (by omega) (by omega) (by omega)]

def pairB (b : Bool) (x a : List UInt8) : PairV := if b then (x, a) else (a, x)
/-- what is put together, from the way's end up -/
def atI (H : Hf) (way : List Bool) (pf : List (List UInt8)) (a0 : List UInt8) : Nat → List UInt8
  | 0 => a0
  | i + 1 => H (nodeD (pairB (way.getD (way.length - 1 - i) false) (pf.getD i []) (atI H way pf a0 i)))
def prI (H : Hf) (way : List Bool) (pf : List (List UInt8)) (a0 : List UInt8) (i : Nat) : PairV := pairB (way.getD (way.length - 1 - i) false) (pf.getD i []) (atI H way pf a0 i)
theorem atI_succ (H : Hf) (way : List Bool) (pf : List (List UInt8)) (a0 : List UInt8) (i : Nat) : atI H way pf a0 (i + 1) = H (nodeD (prI H way pf a0 i)) := rfl
/-- what a proof says at each node on the way, from the root down -/
def saidL (H : Hf) (way : List Bool) (pf : List (List UInt8)) (a0 : List UInt8) : List PairV := (List.range way.length).map fun n => prI H way pf a0 (way.length - 1 - n)
theorem length_saidL (H : Hf) (way : List Bool) (pf : List (List UInt8)) (a0 : List UInt8) : (saidL H way pf a0).length = way.length := by simp [saidL]
theorem saidL_getD (H : Hf) (way : List Bool) (pf : List (List UInt8)) (a0 : List UInt8) (n : Nat) (d : PairV) (h : n < way.length) : (saidL H way pf a0).getD n d = prI H way pf a0 (way.length - 1 - n) := by
  unfold saidL
  rw [List.getD_eq_getElem?_getD, List.getElem?_map, List.getElem?_range h]
  rfl
theorem atI_cons (H : Hf) (b : Bool) (way : List Bool) (pf : List (List UInt8)) (a0 : List UInt8) : ∀ j, j ≤ way.length → atI H (b :: way) pf a0 j = atI H way (pf.take way.length) a0 j
  | 0, _ => rfl
  | j + 1, h => by
    unfold atI
    rw [atI_cons H b way pf a0 j (by omega), List.length_cons, show way.length + 1 - 1 - j = (way.length - 1 - j) + 1 by omega, List.getD_cons_succ]
    congr 3
    rw [List.getD_eq_getElem?_getD, List.getD_eq_getElem?_getD, List.getElem?_take_of_lt (by omega)]
theorem prI_cons (H : Hf) (b : Bool) (way : List Bool) (pf : List (List UInt8)) (a0 : List UInt8) (j : Nat) (h : j < way.length) : prI H (b :: way) pf a0 j = prI H way (pf.take way.length) a0 j := by
  unfold prI
  rw [atI_cons H b way pf a0 j (by omega), List.length_cons, show way.length + 1 - 1 - j = (way.length - 1 - j) + 1 by omega, List.getD_cons_succ]
  congr 1
  rw [List.getD_eq_getElem?_getD, List.getD_eq_getElem?_getD, List.getElem?_take_of_lt (by omega)]
theorem prI_top (H : Hf) (b : Bool) (way : List Bool) (pf : List (List UInt8)) (a0 : List UInt8) : prI H (b :: way) pf a0 way.length = pairB b (pf.getD way.length []) (atI H way (pf.take way.length) a0 way.length) := by
  unfold prI
  rw [atI_cons H b way pf a0 _ (Nat.le_refl _), List.length_cons, show way.length + 1 - 1 - way.length = 0 by omega]
  rfl
theorem saidL_cons (H : Hf) (b : Bool) (way : List Bool) (pf : List (List UInt8)) (a0 : List UInt8) : saidL H (b :: way) pf a0 = prI H (b :: way) pf a0 way.length :: saidL H way (pf.take way.length) a0 := by
  unfold saidL
  rw [List.length_cons, List.range_succ_eq_map, List.map_cons, List.map_map]
  congr 1
  apply List.map_congr_left
  intro n hn
  have hn := List.mem_range.1 hn
  show prI H (b :: way) pf a0 (way.length + 1 - 1 - (n + 1)) = _
  rw [show way.length + 1 - 1 - (n + 1) = way.length - 1 - n by omega]
  exact prI_cons H b way pf a0 _ (by omega)

/-- the first node, from the root down, where what is said is not what is hashed there -/
def lieF (H : Hf) : List Bool → List PairV → List (List UInt8) → Option (PairV × PairV) × List (List UInt8)
  | b :: way, p :: sd, d => if p = (rootA H (d.take (splitN d.length)), rootA H (d.drop (splitN d.length))) then lieF H way sd (if b = true then d.drop (splitN d.length) else d.take (splitN d.length))
    else (some (p, (rootA H (d.take (splitN d.length)), rootA H (d.drop (splitN d.length)))), d)
  | _, _, d => (none, d)
def bigD (d : List (List UInt8)) : Bool := decide (65536 < d.length) || d.any fun x => decide (4096 < x.length)
def noC : PairV := ([], [])
/-- the answer to a proof that an entry is in -/
def inclC (H : Hf) (d : List (List UInt8)) (i : Int) (e : List UInt8) (pf : List (List UInt8)) : PairV × Int :=
  if bigD d = true ∨ 4096 < e.length then (noC, 2) else if i < 0 ∨ (d.length : Int) ≤ i then (noC, 4)
  else if pf.length ≠ (wayI i.toNat d.length).length then (noC, 230)
  else if atI H (wayI i.toNat d.length) pf (H (leafD e)) pf.length ≠ rootA H d then (noC, 230)
  else match lieF H (wayI i.toNat d.length) (saidL H (wayI i.toNat d.length) pf (H (leafD e))) d with
    | (some (p, h), _) => ((nodeD p, nodeD h), 0)
    | (none, rest) => if e = rest.getD 0 [] then (noC, 231) else ((leafD e, leafD (rest.getD 0 [])), 0)
/-- is it a clash -/
def isC (H : Hf) (c : PairV) : Bool := !(c.1 == c.2) && H c.1 == H c.2
theorem isC_of (H : Hf) (c : PairV) (h1 : c.1 ≠ c.2) (h2 : H c.1 = H c.2) : isC H c = true := by
  unfold isC
  simp [h1, h2]
theorem lieF_end (H : Hf) : ∀ (way : List Bool) (sd : List PairV) (i : Nat) (d : List (List UInt8)), wayI i d.length = way → sd.length = way.length → i < d.length → (lieF H way sd d).1 = none → ∃ x, (lieF H way sd d).2 = [x]
  | [], sd, i, d, hw, _, hi, _ => by
    by_cases h1 : d.length = 1
    · obtain ⟨x, rfl⟩ := List.length_eq_one_iff.1 h1
      exact ⟨x, by cases sd <;> rfl⟩
    · exfalso
      by_cases hk : splitN d.length ≤ i
      · rw [wayI_right i d.length (by omega) hi hk] at hw; cases hw
      · rw [wayI_left i d.length (by omega) (by omega)] at hw; cases hw
  | b :: way, [], _, _, _, h, _, _ => by simp at h
  | b :: way, p :: sd, i, d, hw, h, hi, hn => by
    have hd : 2 ≤ d.length := by
      rcases Nat.lt_or_ge d.length 2 with h2 | h2
      · have : d.length = 1 := by omega
        rw [this] at hw
        cases hw
      · exact h2
    have hl := splitN_lt d.length hd
    unfold lieF at hn ⊢
    split at hn
    · rename_i hp
      rw [if_pos hp]
      by_cases hk : splitN d.length ≤ i
      · rw [wayI_right i d.length hd hi hk] at hw
        injection hw with h1 h2
        subst h1
        exact lieF_end H way sd (i - splitN d.length) _ (by rw [if_pos rfl, List.length_drop]; exact h2) (by simpa using h) (by rw [if_pos rfl, List.length_drop]; omega) hn
      · rw [wayI_left i d.length hd (by omega)] at hw
        injection hw with h1 h2
        subst h1
        have e : (d.take (splitN d.length)).length = splitN d.length := by rw [List.length_take]; omega
        exact lieF_end H way sd i _ (by rw [if_neg (by simp), e]; exact h2) (by simpa using h) (by rw [if_neg (by simp), e]; omega) hn
    · cases hn
/-- what is told is a clash: on the way down -/
theorem lieF_clash (H : Hf) (hH : ∀ l, (H l).length = 32) (a0 : List UInt8) (ha : a0.length = 32) : ∀ (way : List Bool) (pf : List (List UInt8)) (i : Nat) (d : List (List UInt8)), (∀ x ∈ pf, x.length = 32) → wayI i d.length = way → pf.length = way.length → i < d.length → atI H way pf a0 way.length = rootA H d →
    (∀ p h r, lieF H way (saidL H way pf a0) d = (some (p, h), r) → nodeD p ≠ nodeD h ∧ H (nodeD p) = H (nodeD h)) ∧ (∀ x, lieF H way (saidL H way pf a0) d = (none, [x]) → a0 = H (leafD x))
  | [], pf, i, d, _, hw, hl, hi, hr => by
    refine ⟨fun p h r e => (by cases e), fun x e => ?_⟩
    have : d = [x] := by cases e; rfl
    rw [this] at hr
    exact hr
  | b :: way, pf, i, d, hp, hw, hl, hi, hr => by
    have hd : 2 ≤ d.length := by
      rcases Nat.lt_or_ge d.length 2 with h2 | h2
      · have : d.length = 1 := by omega
        rw [this] at hw
        cases hw
      · exact h2
    have hlt := splitN_lt d.length hd
    have hat : ∀ w p j, (atI H w p a0 j).length = 32 := fun w p j => by cases j with | zero => exact ha | succ j => exact hH _
    have hx32 : (pf.getD way.length []).length = 32 := by
      rw [List.getD_eq_getElem?_getD, List.getElem?_eq_getElem (by rw [hl]; simp)]
      exact hp _ (List.getElem_mem _)
    rw [List.length_cons, atI_succ, rootA_more H d hd, prI_top] at hr
    rw [saidL_cons, prI_top]
    have hp1 : (pairB b (pf.getD way.length []) (atI H way (pf.take way.length) a0 way.length)).1.length = 32 := by
      unfold pairB
      split
      · exact hx32
      · exact hat _ _ _
    unfold lieF
    by_cases he : pairB b (pf.getD way.length []) (atI H way (pf.take way.length) a0 way.length) = (rootA H (d.take (splitN d.length)), rootA H (d.drop (splitN d.length)))
    · rw [if_pos he]
      have hp' : ∀ x ∈ pf.take way.length, x.length = 32 := fun x hx => hp x (List.mem_of_mem_take hx)
      have hl' : (pf.take way.length).length = way.length := by rw [List.length_take, hl]; simp
      by_cases hk : splitN d.length ≤ i
      · rw [wayI_right i d.length hd hi hk] at hw
        injection hw with h1 h2
        subst h1
        rw [if_pos rfl]
        have h3 : atI H way (pf.take way.length) a0 way.length = rootA H (d.drop (splitN d.length)) := congrArg Prod.snd he
        exact lieF_clash H hH a0 ha way (pf.take way.length) (i - splitN d.length) _ hp' (by rw [List.length_drop]; exact h2) hl' (by rw [List.length_drop]; omega) h3
      · rw [wayI_left i d.length hd (by omega)] at hw
        injection hw with h1 h2
        subst h1
        rw [if_neg (by simp)]
        have e : (d.take (splitN d.length)).length = splitN d.length := by rw [List.length_take]; omega
        have h3 : atI H way (pf.take way.length) a0 way.length = rootA H (d.take (splitN d.length)) := congrArg Prod.fst he
        exact lieF_clash H hH a0 ha way (pf.take way.length) i _ hp' (by rw [e]; exact h2) hl' (by rw [e]; omega) h3
    · rw [if_neg he]
      refine ⟨fun p h r e => ?_, fun x e => by cases e⟩
      cases e
      exact ⟨fun e => he (nodeD_inj hp1 (length_rootA H hH _) e), hr⟩
theorem inclC_is (H : Hf) (hH : ∀ l, (H l).length = 32) (d : List (List UInt8)) (i : Int) (e : List UInt8) (pf : List (List UInt8)) (hp : ∀ x ∈ pf, x.length = 32) (h : (inclC H d i e pf).2 = 0) : isC H (inclC H d i e pf).1 = true := by
  unfold inclC at h ⊢
  split at h
  · cases h
  rename_i h1
  rw [if_neg h1]
  split at h
  · cases h
  rename_i h2
  rw [if_neg h2]
  split at h
  · cases h
  rename_i h3
  rw [if_neg h3]
  split at h
  · cases h
  rename_i h4
  rw [if_neg h4]
  have hlen : pf.length = (wayI i.toNat d.length).length := by simpa using h3
  have hrt : atI H (wayI i.toNat d.length) pf (H (leafD e)) (wayI i.toNat d.length).length = rootA H d := by rw [← hlen]; simpa using h4
  have hi : i.toNat < d.length := by omega
  obtain ⟨c1, c2⟩ := lieF_clash H hH (H (leafD e)) (hH _) (wayI i.toNat d.length) pf i.toNat d hp rfl hlen hi hrt
  have hend := lieF_end H (wayI i.toNat d.length) (saidL H (wayI i.toNat d.length) pf (H (leafD e))) i.toNat d rfl (length_saidL _ _ _ _) hi
  obtain ⟨⟨o, r⟩, hq⟩ : ∃ q, lieF H (wayI i.toNat d.length) (saidL H (wayI i.toNat d.length) pf (H (leafD e))) d = q := ⟨_, rfl⟩
  rw [hq] at h c1 c2 hend ⊢
  cases o with
  | some q =>
    obtain ⟨p, k⟩ := q
    obtain ⟨g1, g2⟩ := c1 p k r rfl
    exact isC_of H _ g1 g2
  | none =>
    obtain ⟨x, hx⟩ := hend rfl
    have hx : r = [x] := hx
    subst hx
    dsimp only at h ⊢
    split at h
    · cases h
    rename_i h5
    rw [if_neg h5]
    exact isC_of H _ (fun e => h5 (leafD_inj e)) (c2 x rfl)
end Go.Proofs.Ytonidnfgneokbaa
/- math/bits.Len64, by the shelf's contract. -/
namespace Go.Proofs.Ytonidnfgneokbaa
open Go Go.RowKit Go.Shelf

theorem bitLenAux_log2 : ∀ (f x : Nat), 0 < x → x < 2 ^ f → Lib.bitLenAux f x = x.log2 + 1
  | 0, x, h0, h => by simp at h; omega
  | f + 1, x, h0, h => by
    rw [Lib.bitLenAux, if_neg (by omega)]
    by_cases h2 : 2 ≤ x
    · rw [bitLenAux_log2 f (x / 2) (by omega) (by rw [Nat.pow_succ] at h; omega), Nat.log2_def x, if_pos h2]; omega
    · obtain rfl : x = 1 := by omega
      have : ∀ f, Lib.bitLenAux f 0 = 0 := fun f => by cases f <;> simp [Lib.bitLenAux]
      rw [show 1 / 2 = 0 from rfl, this]; rfl
end Go.Proofs.Ytonidnfgneokbaa
/- tree.Split, notaryref09.Split. -/
namespace Go.Proofs.Ytonidnfgneokbaa
open Go Go.RowKit

theorem log2_lt63 (x : Nat) (h : x < 2 ^ 63) (h0 : 0 < x) : x.log2 < 63 := (Nat.log2_lt (by omega)).2 h

theorem pow63_lt (j k : Nat) (h : j < k) (hk : k ≤ 63) : 2 ^ j < 9223372036854775808 := by
  have : 2 ^ j < 2 ^ 63 := Nat.pow_lt_pow_right (by decide) (by omega)
  simpa using this
set_option maxHeartbeats 400000 in
theorem rsplit_any (n : Int) (w : World) (hn : n ≤ 9223372036854775807) :
    Calls Try.prog 77 #[.int .i64 n] w fun e w' => e = .returned (.int .i64 (splitN n.toNat : Int)) ∧ w = w' := by
  by_cases h2 : n < 2
  · rw [splitN_small _ (by omega)]
    go_enter Try.func77, Try.ntmps77
    go_wp2_with fail
    go_ret
    exact ⟨rfl, rfl⟩
  · obtain ⟨m, rfl⟩ : ∃ m : Nat, n = (m : Int) := ⟨n.toNat, by omega⟩
    rw [Int.toNat_natCast]
    obtain ⟨s, hs⟩ : ∃ s, splitN m = s := ⟨_, rfl⟩
    have hsl := splitN_lt m (by omega)
    have Hs := Lib.hid hs
    rw [hs] at hsl ⊢
    clear hs
    go_enter Try.func77, Try.ntmps77
    go_wp2_with fail
    go_loop [3] (fun v => ∃ j k : Nat, 1 ≤ k ∧ k < m ∧ k = 2 ^ j ∧ v = .int .i64 (k : Int)) (fun v => m - (intOf v).toNat)
    case atStart => exact ⟨0, 1, by omega, by omega, rfl, rfl⟩
    case round =>
      obtain ⟨j, k, hk1, hkm, hk, rfl⟩ := hrel
      by_cases hlt : k < m - k
      · have Hk := Lib.hid hk
        clear hk
        have hd : decide ((k : Int) < (m : Int) - (k : Int)) = true := by simp; omega
        go_wp2_with fail
        go_round
        case rel => exact ⟨j + 1, 2 * k, by omega, by omega, by rw [Nat.pow_succ, Hk.out]; omega, by go_num⟩
        case measure => simp [intOf]; omega
      · have hks : s = k := by rw [← Hs.out, splitN_eq m j (by omega) (by rw [Nat.pow_succ]; omega), hk]
        subst hks
        clear hk
        have hd : decide ((s : Int) < (m : Int) - (s : Int)) = false := by simp; omega
        go_wp2_with fail
        go_ret
        exact ⟨rfl, rfl⟩
end Go.Proofs.Ytonidnfgneokbaa
/- Strings that are held against each other; a byte of a row of one's own is written. -/
namespace Go.Proofs.Ytonidnfgneokbaa
open Go Go.RowKit

theorem run_neq_strM (l m : List UInt8) (W : World) : (binOp .neq 9 (.string (bstr l)) (.string (bstr m))).run Try.prog W = .ok (.bool (l != m)) W := by
  have : ∀ l : List UInt8, (bstr l).toList = l := fun l => by rw [ByteArray.toList_eq]; rfl
  rw [binOp_string_neq, Sem.run_pure, this, this]; rfl
theorem run_neqstrM_f {ρ : Operand → Value} {o : Oper} (x y : Operand) (ty : TypeId) (l : List UInt8) (ho : o.op = .binOp .neq 9 x y ty) (hx : ρ x = .string (bstr l)) (hy : ρ y = .string (bstr l)) (W : World) :
    (execOp ρ o).run Try.prog W = .ok (.value (.bool false)) W := by
  unfold execOp
  simp only [ho, hx, hy, eqGuard_at_string, Sem.run_bind, Sem.run_pure, run_neq_strM, Result.andThen_ok, bne_self_eq_false]
theorem run_str_op {ρ : Operand → Value} {o : Oper} {W : World} {X : Nat → Prop} {A : Option Addr} {n c : Nat} {l : List UInt8} (x : Operand) (ho : o.op = .convert 23 9 x) (hx : ρ x = .slice A n c) (h : Sl W X A n c l) :
    (execOp ρ o).run Try.prog W = .ok (.value (.string (bstr l))) W := by
  unfold execOp
  simp only [ho, hx, run_str h, Sem.run_bind, Sem.run_pure, Result.andThen_ok]
theorem owns_setB {W : World} {base g n c : Nat} {e : TypeId} {xs : List Value} (h : W.ownsRow base e 1 (.slice (some ⟨g, 0, none⟩) n c) n xs) (k : Nat) (hk : k < n) (u : Value) :
    (∃ v, W.cell? ⟨g, k, none⟩ = some v) ∧ W.frozen? ⟨g, k, none⟩ = false ∧ ∃ xs', (W.setCell ⟨g, k, none⟩ u).ownsRow base e 1 (.slice (some ⟨g, 0, none⟩) n c) n xs' := by
  rcases h.2 with ⟨hv, _⟩ | ⟨g', cap, cur, hv, hbg, hg, hnc, hcm, hcs, ht⟩
  · cases hv
  · cases hv
    have hB : Blk W g e cur := hg
    have hkc : k < cur.size := by omega
    refine ⟨⟨cur[k], by rw [hB.cell, Array.getElem?_eq_getElem hkc]⟩, hB.frozen k, (cur.setIfInBounds k u).toList.take (n * 1), ?_, .inr ⟨g, c, cur.setIfInBounds k u, rfl, hbg, hB.set_ k u, hnc, hcm, by simpa using hcs, rfl⟩⟩
    rw [List.length_take]
    simp
    omega
end Go.Proofs.Ytonidnfgneokbaa
/- Slices of slices of bytes; what is hashed at a leaf and at a node (audit, notaryref13). -/
namespace Go.Proofs.Ytonidnfgneokbaa
open Go Go.RowKit Go.Shelf
attribute [local go_sem] Oper.semAt_some

theorem ret_hash {fn : Func} {p : Tmp} {tmps : Array Value} {W : World} {g : Nat} {l : List UInt8} (h : fn.results = #[.cell p 25]) (hp : tmps.getD p undef = .pointer (some ⟨g, 0, none⟩)) (k : HV W g l) : (results fn tmps).run Try.prog W = .ok (.agg (l.map B).toArray) W :=
  results_cell_row h tmps W g 25 (l.map B).toArray (0, 0) _ hp k.blk Try.underlying25 rfl (by rw [show (l.map B).toArray.size = 32 by simp [k.len]]; exact info26)

/-- slices of bytes, in a slice -/
structure Es (w : World) (X : Nat → Prop) (A : Option Addr) (n c : Nat) (ls : List (List UInt8)) : Prop where
  ex : ∃ vs, SlV w X A n c 1 vs ∧ ∀ i (h : i < ls.length), ∃ Ai ci, vs[i]? = some (.slice Ai (ls[i]).length ci) ∧ Sl w X Ai (ls[i]).length ci ls[i]
  len : ls.length = n
section
variable {w w' : World} {X Y : Nat → Prop} {A : Option Addr} {n c : Nat} {ls : List (List UInt8)}
theorem Es.room (h : Es w X A n c ls) : n ≤ c := let ⟨_, h1, _⟩ := h.ex; h1.room
theorem Es.max (h : Es w X A n c ls) : c ≤ maxLen := let ⟨_, h1, _⟩ := h.ex; h1.max
theorem Es.weak (h : Es w X A n c ls) (hX : ∀ b, b < w.heap.size → X b → Y b) : Es w Y A n c ls :=
  let ⟨vs, h1, h2⟩ := h.ex; ⟨⟨vs, h1.weak hX, fun i hi => let ⟨Ai, ci, g1, g2⟩ := h2 i hi; ⟨Ai, ci, g1, g2.weak hX⟩⟩, h.len⟩
theorem Es.all (h : Es w X A n c ls) : Es w (fun _ => True) A n c ls := h.weak fun _ _ _ => trivial
theorem Es.step (h : Es w X A n c ls) (hb : Below w.heap.size w w') : Es w' X A n c ls :=
  let ⟨vs, h1, h2⟩ := h.ex; ⟨⟨vs, h1.step hb, fun i hi => let ⟨Ai, ci, g1, g2⟩ := h2 i hi; ⟨Ai, ci, g1, g2.step hb⟩⟩, h.len⟩
theorem Es.below {N : Nat} (h : Es w X A n c ls) (hb : Below N w w') (hX : ∀ b, b < w.heap.size → X b → b < N) : Es w' X A n c ls :=
  let ⟨vs, h1, h2⟩ := h.ex; ⟨⟨vs, h1.below hb hX, fun i hi => let ⟨Ai, ci, g1, g2⟩ := h2 i hi; ⟨Ai, ci, g1, g2.below hb hX⟩⟩, h.len⟩
theorem Es.take (h : Es w X A n c ls) (k : Nat) (hk : k ≤ n) : Es w X A k c (ls.take k) := by
  obtain ⟨vs, h1, h2⟩ := h.ex
  refine ⟨⟨vs.take (k * 1), h1.take k hk, fun i hi => ?_⟩, by rw [List.length_take, h.len]; omega⟩
  have hi' : i < k ∧ i < ls.length := by rw [List.length_take] at hi; omega
  obtain ⟨Ai, ci, g1, g2⟩ := h2 i hi'.2
  rw [List.getElem_take]
  exact ⟨Ai, ci, by rw [List.getElem?_take_of_lt (by omega)]; exact g1, g2⟩
theorem Es.drop (h : Es w X A n c ls) (k : Nat) (hk : k ≤ n) : Es w X (if c = k then A else A.map (·.add (k * 1))) (n - k) (c - k) (ls.drop k) := by
  obtain ⟨vs, h1, h2⟩ := h.ex
  refine ⟨⟨vs.drop (k * 1), h1.drop k hk, fun i hi => ?_⟩, by rw [List.length_drop, h.len]⟩
  have hi' : k + i < ls.length := by rw [List.length_drop] at hi; omega
  obtain ⟨Ai, ci, g1, g2⟩ := h2 (k + i) hi'
  rw [List.getElem_drop]
  exact ⟨Ai, ci, by rw [List.getElem?_drop, Nat.mul_one]; exact g1, g2⟩
/-- one of them -/
theorem Es.at_ (h : Es w X A n c ls) (hn : 0 < n) : ∃ b o, A = some ⟨b, o, none⟩ ∧ b < w.heap.size ∧ X b ∧ ∀ k, k < n → ∃ Ai ci, w.cell? ⟨b, o + k, none⟩ = some (.slice Ai (ls.getD k []).length ci) ∧ Sl w X Ai (ls.getD k []).length ci (ls.getD k []) := by
  obtain ⟨vs, h1, h2⟩ := h.ex
  obtain ⟨b, o, e, hb, hx, h4⟩ := h1.at_ hn (by decide)
  refine ⟨b, o, e, hb, hx, fun k hk => ?_⟩
  obtain ⟨Ai, ci, g1, g2⟩ := h2 k (by rw [h.len]; exact hk)
  have hg : ls.getD k [] = ls[k]'(by rw [h.len]; exact hk) := by rw [List.getD_eq_getElem?_getD, List.getElem?_eq_getElem (by rw [h.len]; exact hk)]; rfl
  rw [hg]
  exact ⟨Ai, ci, h4 k _ g1, g2⟩
theorem SlS.es {vs : List Value} (h : SlS w A n c vs ls) : Es w (· < w.heap.size) A n c ls := ⟨⟨vs, h.out, h.ins⟩, h.len⟩
end
theorem sizeBs : ∀ w : World, (sizeOf (Try.prog.elem 22)).run Try.prog w = .ok 1 w := fun _ => by kernel_rfl
theorem sliceBs : Try.prog.underlying 22 = some (.slice (Try.prog.elem 22)) := by kernel_rfl
theorem run_slice_hiB {ρ : Operand → Value} {o : Oper} (x y : Operand) (ho : o.op = .slice 22 x none (some y) none) (A : Option Addr) (n c k : Nat) (hx : ρ x = .slice A n c) (hy : ρ y = .int .i64 (k : Int)) (hk : k ≤ c) (W : World) :
    (execOp ρ o).run Try.prog W = .ok (.value (.slice A k c)) W := by
  unfold execOp
  simp only [ho, hx, hy, Option.map_some, Option.map_none, run_slice_high sliceBs sizeBs A n c k hk W, Sem.run_bind, Sem.run_pure, Result.andThen_ok]
theorem run_slice_loB {ρ : Operand → Value} {o : Oper} (x y : Operand) (ho : o.op = .slice 22 x (some y) none none) (A : Option Addr) (n c k : Nat) (hx : ρ x = .slice A n c) (hy : ρ y = .int .i64 (k : Int)) (hk : k ≤ n) (W : World) :
    (execOp ρ o).run Try.prog W = .ok (.value (.slice (if c = k then A else A.map (·.add (k * 1))) (n - k) (c - k))) W := by
  unfold execOp
  simp only [ho, hx, hy, Option.map_some, Option.map_none, run_slice_low sliceBs sizeBs A n c k hk W, Sem.run_bind, Sem.run_pure, Result.andThen_ok]

/-- a byte ahead of bytes, in a row of one's own -/
theorem ahead_byte (x : UInt8) (w : World) (l : List UInt8) (A : Option Addr) (n c : Nat) (h : Sl w (fun _ => True) A n c l) (hn : n ≤ 1099511627776) :
    ∃ v w', (Builtin.append_ #[23, 23] 23 #[.slice (some ⟨w.heap.size, 0, none⟩) 1 1, .slice A n c]).run Try.prog (w.alloc (.cells #[B x] 5)) = .ok v w' ∧ Fresh w w' v (x :: l) := by
  have hb : Below w.heap.size w (w.alloc (.cells #[B x] 5)) := (Below.refl _ _).alloc (Nat.le_refl _) _
  have ho : (w.alloc (.cells #[B x] 5)).ownsRow w.heap.size 5 1 (.slice (some ⟨w.heap.size, 0, none⟩) 1 1) ([x] : List UInt8).length (([x] : List UInt8).map B) := World.ownsRow_lit w #[B x] 1 (Nat.le_refl _) (by decide) rfl
  obtain ⟨v, w', h1, h2, h3⟩ := append_sl ho (h.step hb) (by simp; omega) hb.size
  exact ⟨v, w', h1, h2, hb.grown h3 hb.size (fun k hk => (ho.lt k hk).1)⟩

set_option maxHeartbeats 1000000 in
set_option maxRecDepth 100000 in
theorem aleaf_any (l : List UInt8) (A : Option Addr) (n c : Nat) (w : World) (h : Sl w (fun _ => True) A n c l) (hn : n ≤ 1099511627776) :
    Calls Try.prog 89 #[.slice A n c] w fun e w' => ∃ v, e = .returned v ∧ Fresh w w' v (leafD l) := by
  obtain ⟨v1, w1, hr, hf⟩ := ahead_byte 0 w l A n c h hn
  have Hr := Lib.hid hr
  clear hr h
  go_enter Try.func89, Try.ntmps89
  go_wp2_with (first
    | ((with_reducible show wpList _ _ _ (⟨some 3, .buildSlice _ _ _, _, _, _, _⟩ :: _) _ _); refine wpList_run rfl (.slice (some ⟨w.heap.size, 0, none⟩) 1 1) (w.alloc (.cells #[B 0] 5)) (by kernel_rfl) ?_; simp only [Act.put])
    | ((with_reducible show wpList _ _ _ (⟨some 5, .call _, _, _, _, _⟩ :: _) _ _); refine wpList_run rfl v1 w1 (run_append_op (.tmp 3) (.tmp 4) 23 rfl _ _ rfl rfl Hr.out) ?_; simp only [Act.put]))
  go_ret
  exact ⟨_, rfl, hf⟩

set_option maxHeartbeats 1000000 in
set_option maxRecDepth 100000 in
theorem rleaf_any (l : List UInt8) (A : Option Addr) (n c : Nat) (w : World) (h : Sl w (fun _ => True) A n c l) (hn : n ≤ 1099511627776) :
    Calls Try.prog 79 #[.slice A n c] w fun e w' => ∃ v, e = .returned v ∧ Fresh w w' v (leafD l) := by
  obtain ⟨v1, w1, hr, hf⟩ := ahead_byte 0 w l A n c h hn
  have Hr := Lib.hid hr
  clear hr h
  go_enter Try.func79, Try.ntmps79
  go_wp2_with (first
    | ((with_reducible show wpList _ _ _ (⟨some 3, .buildSlice _ _ _, _, _, _, _⟩ :: _) _ _); refine wpList_run rfl (.slice (some ⟨w.heap.size, 0, none⟩) 1 1) (w.alloc (.cells #[B 0] 5)) (by kernel_rfl) ?_; simp only [Act.put])
    | ((with_reducible show wpList _ _ _ (⟨some 5, .call _, _, _, _, _⟩ :: _) _ _); refine wpList_run rfl v1 w1 (run_append_op (.tmp 3) (.tmp 4) 23 rfl _ _ rfl rfl Hr.out) ?_; simp only [Act.put]))
  go_ret
  exact ⟨_, rfl, hf⟩
end Go.Proofs.Ytonidnfgneokbaa
/- (*Front).Leaf, Append, Grow. -/
namespace Go.Proofs.Ytonidnfgneokbaa
open Go Go.RowKit Go.Shelf
attribute [local go_sem] Oper.semAt_some

abbrev fptr (g : Nat) : Value := .pointer (some ⟨g, 0, none⟩)
/-- hashes lie nowhere where one cell is -/
theorem Hs.apart {w : World} {X : Nat → Prop} {A : Option Addr} {n c : Nat} {hs : List (List UInt8)} (h : Hs w X A n c hs) {g : Nat} {T : TypeId} {cs : Array Value} (k : Blk w g T cs) (hk : cs.size < 32) : Hs w (fun b => X b ∧ b ≠ g) A n c hs := by
  refine ⟨⟨fun hne => ?_, h.sl.len, h.sl.room, h.sl.nil, h.sl.max⟩, h.len, h.all⟩
  obtain ⟨b, o, h1, h2, h3, h4⟩ := h.sl.bs hne
  refine ⟨b, o, h1, h2, ⟨h3, fun e => ?_⟩, h4⟩
  subst e
  have hlen := hcells_len hs h.all
  have hq : 0 < hs.length := by
    rcases Nat.eq_zero_or_pos hs.length with e | e
    · rw [List.length_eq_zero_iff.1 e] at hne; exact absurd rfl hne
    · exact e
  have h5 := h4 31 _ (List.getElem?_eq_getElem (by rw [hlen]; omega))
  rw [k.cell, Array.getElem?_eq_none (by omega)] at h5
  cases h5
theorem FrO.small {w : World} {g : Nat} {ps : FrV} (h : FrO w g ps) : ∃ (T : TypeId) (cs : Array Value), Blk w g T cs ∧ cs.size = 1 := by
  obtain ⟨A, n, c, hk, -⟩ := h.ex
  exact ⟨_, _, hk, rfl⟩
theorem fsize_some {g : Nat} {ps : FrV} {w : World} (h : FrO w g ps) (ho : FrOk ps) : Calls Try.prog 43 #[fptr g] w fun e w' => e = .returned (.int .i64 (szF ps : Int)) ∧ Below w.heap.size w w' :=
  fsize_any (fptr g) ps w rfl (allOk_some h ho.h62 (by have := ho.len; omega)) ho.dec ho.top
theorem grown_refl (w : World) (row : Option Nat) : w.grownBy w row := ⟨rfl, rfl, rfl, Nat.le_refl _, fun _ _ _ => rfl⟩
theorem grown_same {w W W' : World} {g : Nat} (h1 : w.grownBy W (some g)) (h2 : W.grownBy W' (some g)) : w.grownBy W' (some g) :=
  ⟨h2.os.trans h1.os, h2.tape.trans h1.tape, h2.output.trans h1.output, Nat.le_trans h1.size h2.size, fun k hk hne => (h2.block k (Nat.lt_of_lt_of_le hk h1.size) hne).trans (h1.block k hk hne)⟩

theorem explode32 (l : List UInt8) (h : l.length = 32) : ∃ a0 a1 a2 a3 a4 a5 a6 a7 a8 a9 a10 a11 a12 a13 a14 a15 a16 a17 a18 a19 a20 a21 a22 a23 a24 a25 a26 a27 a28 a29 a30 a31 : UInt8, l = [a0, a1, a2, a3, a4, a5, a6, a7, a8, a9, a10, a11, a12, a13, a14, a15, a16, a17, a18, a19, a20, a21, a22, a23, a24, a25, a26, a27, a28, a29, a30, a31] := by
  match l, h with
  | [a0, a1, a2, a3, a4, a5, a6, a7, a8, a9, a10, a11, a12, a13, a14, a15, a16, a17, a18, a19, a20, a21, a22, a23, a24, a25, a26, a27, a28, a29, a30, a31], _ => exact ⟨_, _, _, _, _, _, _, _, _, _, _, _, _, _, _, _, _, _, _, _, _, _, _, _, _, _, _, _, _, _, _, _, rfl⟩
theorem builtFp (n : Int) (l : List UInt8) (h : l.length = 32) : Try.prog.built 156 [(0, .int .i64 n), (1, .agg (l.map B).toArray)] = some (.int .i64 n :: l.map B).toArray := by
  obtain ⟨a0, a1, a2, a3, a4, a5, a6, a7, a8, a9, a10, a11, a12, a13, a14, a15, a16, a17, a18, a19, a20, a21, a22, a23, a24, a25, a26, a27, a28, a29, a30, a31, rfl⟩ := explode32 l h
  kernel_rfl
theorem run_build_fp (lv : Int) (x : List UInt8) (hx : x.length = 32) (W : World) : (Instr.build 156 #[(0, .int .i64 lv), (1, .agg (x.map B).toArray)]).run Try.prog W = .ok (.agg (Value.int .i64 lv :: x.map B).toArray) W := by
  exact run_build W 156 _ _ (builtFp lv x hx)
theorem run_build_fp_op (lv : Int) (x : List UInt8) (hx : x.length = 32) {ρ : Operand → Value} {o : Oper} (y z : Operand) (ho : o.op = .build 156 #[(0, y), (1, z)]) (hy : ρ y = .int .i64 lv) (hz : ρ z = .agg (x.map B).toArray) (W : World) : (execOp ρ o).run Try.prog W = .ok (.value (.agg (Value.int .i64 lv :: x.map B).toArray)) W := by
  unfold execOp
  have hm : (#[(0, y), (1, z)] : Array (Nat × Operand)).map (fun (i, x) => (i, ρ x)) = #[(0, .int .i64 lv), (1, .agg (x.map B).toArray)] := by simp [hy, hz]
  simp only [ho, Sem.run_bind, Sem.run_pure, hm, run_build_fp lv x hx W, Result.andThen_ok]
set_option maxHeartbeats 4000000 in
set_option maxRecDepth 100000 in
theorem fleaf_nil (A : Option Addr) (n c : Nat) (w : World) : Calls Try.prog 49 #[.pointer none, .slice A n c] w fun e w' => e = .returned (.int .i64 1) ∧ w' = w := by
  go_enter Try.func49, Try.ntmps49
  go_wp2_with fail
  go_ret
  exact ⟨rfl, rfl⟩
set_option maxHeartbeats 4000000 in
set_option maxRecDepth 100000 in
theorem fleaf_any (g : Nat) (ps : FrV) (hs : List (List UInt8)) (A : Option Addr) (n c : Nat) (w : World) (h : FrO w g ps) (ho : FrOk ps) (hh : Hs w (fun _ => True) A n c hs) (hn : n ≤ 1099511627776) :
    Calls Try.prog 49 #[fptr g, .slice A n c] w fun e w' => e = .returned (.int .i64 (leafE ps hs).2) ∧ FrO w' g (leafE ps hs).1 ∧ w.grownBy w' (some g) := by
  have hlen := hh.len
  have hroom := hh.sl.room
  have hmx := hh.sl.max
  unfold maxLen at hmx
  have h32 := hh.all
  have hsz := fsize_some h ho
  have htop := ho.top
  obtain ⟨sz, hsze⟩ : ∃ s, szF ps = s := ⟨_, rfl⟩
  rw [hsze] at hsz htop
  have Hsz := Lib.hid hsz
  have hw1 : IntKind.i64.wrap (9223372036854775807 - (sz : Int)) = 9223372036854775807 - (sz : Int) := IntWalk.i64_in _ (by omega)
  unfold leafE
  rw [hsze, hlen]
  have Hlen := Lib.hid hlen
  have H32 := Lib.hid h32
  have Hsze := Lib.hid hsze
  have Ho := Lib.hid ho
  clear hsz hlen h32 hsze ho
  by_cases hb : 9223372036854775807 < sz + n
  · rw [if_pos hb]
    have hd : decide (9223372036854775807 - (sz : Int) < (n : Int)) = true := by simp; omega
    have hd' : 9223372036854775807 - (sz : Int) < (n : Int) := by omega
    go_enter Try.func49, Try.ntmps49
    go_wp2_with (go_at_call 43; refine Hsz.out.mono ?_; rintro e w1 ⟨rfl, hb1⟩)
    go_ret
    exact ⟨rfl, h.step hb1, grown_of_below hb1 _⟩
  · rw [if_neg hb]
    have hd : decide (9223372036854775807 - (sz : Int) < (n : Int)) = false := by simp; omega
    have hd' : ¬ 9223372036854775807 - (sz : Int) < (n : Int) := by omega
    obtain ⟨res, hres⟩ : ∃ r, leafF ps hs = r := ⟨_, rfl⟩
    rw [hres]
    have Hres := Lib.hid hres
    clear hres
    go_enter Try.func49, Try.ntmps49
    go_wp2_with (go_at_call 43; refine Hsz.out.mono ?_; rintro e w1 ⟨rfl, hb1⟩)
    obtain ⟨T, cs, hk1, hcs⟩ := (h.step hb1).small
    have hh1 := ((hh.step hb1).apart hk1 (by omega)).weak (Y := fun b => b ≠ g ∧ b < w1.heap.size) fun b hb hx => ⟨hx.2, hb⟩
    have h1 := h.step hb1
    have hg1 := grown_of_below hb1 (some g)
    clear h hh hk1 hcs T cs hb1 hd hd' hw1
    go_loopw [6, 19] (fun _ i wr => ∃ k : Nat, k ≤ n ∧ i = .int .i64 k ∧ FrO wr g (leafF ps (hs.take k)) ∧ w.grownBy wr (some g) ∧ Hs wr (fun b => b ≠ g ∧ b < w1.heap.size) A n c hs) (fun _ i _ => n - (intOf i).toNat)
    case atStart => exact ⟨0, Nat.zero_le _, rfl, h1, hg1, hh1⟩
    case round =>
      clear h1 hg1 hh1
      obtain ⟨k, hk, rfl, hF, hg, hH⟩ := hrel
      by_cases hlt : k < n
      · have hd : decide ((k : Int) < (n : Int)) = true := by simp; omega
        have hwk : IntKind.i64.wrap ((k : Int) + 1) = (k : Int) + 1 := IntWalk.i64_in _ (by omega)
        obtain ⟨b, o, rfl, -, -, -⟩ := hH.at_ (by omega)
        have hget := hH.get rfl k hlt
        have hx32 := H32.out.getD k (by rw [Hlen.out]; exact hlt)
        have hsn := leafF_snoc ps (hs.take k) (hs.getD k [])
        rw [← take_snocF hs k (by rw [Hlen.out]; exact hlt)] at hsn
        have hok := Ho.out.leafF (hs.take k) (fun x hx => H32.out x (List.mem_of_mem_take hx)) (by rw [Hsze.out, List.length_take, Hlen.out]; omega)
        obtain ⟨x, hx⟩ : ∃ x, hs.getD k [] = x := ⟨_, rfl⟩
        obtain ⟨cur, hcur⟩ : ∃ x, leafF ps (hs.take k) = x := ⟨_, rfl⟩
        rw [hx] at hget hx32 hsn
        rw [hcur] at hsn hok hF
        have hcm := fun W (hF : FrO W g cur) => fcome_any g cur (0, x) W hF hx32 (Nat.zero_le _) (by have := hok.len; omega)
        have Hget := Lib.hid hget
        have Hx32 := Lib.hid hx32
        have Hsn := Lib.hid hsn
        have Hcm := Lib.hid hcm
        clear hget hx32 hsn hcm hx hcur hok
        go_wp2_with (first
          | ((with_reducible show wpList _ _ _ (⟨some 22, .load _ _, _, _, _, _⟩ :: _) _ _); refine wpList_run0 rfl (.agg (x.map B).toArray) (run_load_op 25 (.tmp 21) rfl b (o + k * 32) rfl _ Hget.out) ?_; simp only [Act.put])
          | ((with_reducible show wpList _ _ _ (⟨some 6, .alloc _, _, _, _, _⟩ :: _) _ _); refine wpList_hvar (.tmp 6) (.tmp 22) rfl rfl rfl rfl rfl rfl Hx32.out ?_; intro w2 k6 hb2; simp only [Act.put])
          | ((with_reducible show wpList _ _ _ (⟨some 24, .load _ _, _, _, _, _⟩ :: _) _ _); refine wpList_hload (.tmp 6) (by kernel_rfl) rfl k6 rfl ?_; simp only [Act.put])
          | ((with_reducible show wpList _ _ _ (⟨some 25, .build _ _, _, _, _, _⟩ :: _) _ _); refine wpList_run0 rfl (.agg (Value.int .i64 ((0 : Nat) : Int) :: x.map B).toArray) (run_build_fp_op 0 x Hx32.out (.const (.int .i64 0)) (.tmp 24) rfl rfl rfl _) ?_; simp only [Act.put])
          | (go_at_call 117; refine (Hcm.out w2 (hF.step hb2)).mono ?_; rintro e w3 ⟨rfl, hF3, hg3⟩))
        go_roundw
        case rel => exact ⟨k + 1, by omega, by go_num, by rw [Hsn.out]; exact hF3, grown_same (grown_same hg (grown_of_below hb2 (some g))) hg3, (hH.step hb2).grown hg3 (fun b _ hx e => hx.1 (Option.some.inj e))⟩
        case measure => simp [intOf]; omega
      · obtain rfl : k = n := by omega
        have hd : decide ((k : Int) < (k : Int)) = false := by simp
        rw [List.take_of_length_le (by rw [Hlen.out]; exact Nat.le_refl _), Hres.out] at hF
        go_wp2_with fail
        go_ret
        exact ⟨rfl, hF, hg⟩
end Go.Proofs.Ytonidnfgneokbaa
