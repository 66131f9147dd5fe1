/- Trees over any hash; what a proof says, and where it lies (plain). -/
import Derived.Test.YtfhmjgkcpcnkbaaDoorQf114
import Derived.Test.YtfhmjgkcpcnkbaaDoorQf110
import Derived.Test.YtfhmjgkcpcnkbaaDoorQf116
import Derived.Test.YtfhmjgkcpcnkbaaDoorQf118
import Derived.Lib.AppendZeros
import Derived.Test.YtfhmjgkcpcnkbaaDoorQf115
import Derived.Test.YtfhmjgkcpcnkbaaDoorQf107
namespace Go.Proofs.YtfhmjgkcpcnkbaaDoor
open Go

abbrev Hf := List UInt8 → List UInt8
def leafD (e : List UInt8) : List UInt8 := 0 :: e
abbrev PairV := List UInt8 × List UInt8
def nodeD (p : PairV) : List UInt8 := 1 :: (p.1 ++ p.2)
theorem leafD_inj {e f : List UInt8} (h : leafD e = leafD f) : e = f := List.tail_eq_of_cons_eq h
theorem nodeD_inj {p q : PairV} (h1 : p.1.length = 32) (h2 : q.1.length = 32) (h : nodeD p = nodeD q) : p = q := by
  have h := List.tail_eq_of_cons_eq h
  obtain ⟨a, b⟩ := List.append_inj h (by rw [h1, h2])
  exact Prod.ext a b
theorem rootF_s (z : List UInt8) (node : List UInt8 → List UInt8 → List UInt8) (f : Nat) (hs : List (List UInt8)) : rootF z node (f + 1) hs = if hs.length = 0 then z else if hs.length = 1 then hs.headD z else node (rootF z node f (hs.take (splitN hs.length))) (rootF z node f (hs.drop (splitN hs.length))) := rfl
/-- the root of a list, by a hash -/
def rootA (H : Hf) (d : List (List UInt8)) : List UInt8 := rootF (H []) (fun x y => H (nodeD (x, y))) d.length (d.map fun e => H (leafD e))
theorem rootA_nil (H : Hf) : rootA H [] = H [] := rfl
theorem rootA_one (H : Hf) (d : List (List UInt8)) (h : d.length = 1) : rootA H d = H (leafD (d.getD 0 [])) := by
  obtain ⟨e, rfl⟩ := List.length_eq_one_iff.1 h
  rfl
theorem rootA_more (H : Hf) (d : List (List UInt8)) (h : 2 ≤ d.length) : rootA H d = H (nodeD (rootA H (d.take (splitN d.length)), rootA H (d.drop (splitN d.length)))) := by
  have hl := splitN_lt d.length h
  have hp := splitN_pos d.length h
  unfold rootA
  obtain ⟨f, hf⟩ : ∃ f, d.length = f + 1 := ⟨d.length - 1, by omega⟩
  rw [hf, rootF_s, List.length_map, if_neg (by omega), if_neg (by omega), ← List.map_take, ← List.map_drop]
  rw [hf] at hl hp
  rw [rootF_enough _ _ f (d.take (splitN d.length)).length ((d.take (splitN d.length)).map fun e => H (leafD e)) (by rw [List.length_map, List.length_take, hf]; omega) (by rw [List.length_map]; exact Nat.le_refl _),
    rootF_enough _ _ f (d.drop (splitN d.length)).length ((d.drop (splitN d.length)).map fun e => H (leafD e)) (by rw [List.length_map, List.length_drop, hf]; omega) (by rw [List.length_map]; exact Nat.le_refl _), hf]
theorem length_rootA (H : Hf) (hH : ∀ l, (H l).length = 32) (d : List (List UInt8)) : (rootA H d).length = 32 := by
  by_cases h0 : d.length = 0
  · rw [List.length_eq_zero_iff.1 h0, rootA_nil, hH]
  by_cases h1 : d.length = 1
  · rw [rootA_one H d h1, hH]
  · rw [rootA_more H d (by omega), hH]

/-- a way down: whether it goes to the right, at each node -/
def wayF (st rt : Nat → Nat → Bool) : Nat → Nat → Nat → List Bool
  | 0, _, _ => []
  | f + 1, s, n => if st s n = true then [] else if rt s (splitN n) = true then true :: wayF st rt f (s - splitN n) (n - splitN n) else false :: wayF st rt f s (splitN n)
theorem wayF_s (st rt : Nat → Nat → Bool) (f s n : Nat) : wayF st rt (f + 1) s n = if st s n = true then [] else if rt s (splitN n) = true then true :: wayF st rt f (s - splitN n) (n - splitN n) else false :: wayF st rt f s (splitN n) := rfl
def stI : Nat → Nat → Bool := fun _ n => n == 1
def rtI : Nat → Nat → Bool := fun s k => decide (k ≤ s)
def wayI (i n : Nat) : List Bool := wayF stI rtI n i n
theorem wayF_I : ∀ (f g i n : Nat), n ≤ f → n ≤ g → 1 ≤ n → i < n → wayF stI rtI f i n = wayF stI rtI g i n
  | 0, _, _, _, h, _, h1, _ => by omega
  | _, 0, _, _, _, h, h1, _ => by omega
  | f + 1, g + 1, i, n, h, h', h1, hi => by
    unfold wayF
    by_cases hn : stI i n = true
    · rw [if_pos hn, if_pos hn]
    · have hn2 : n ≠ 1 := fun e => hn (by rw [e]; rfl)
      have hl := splitN_lt n (by omega)
      have hp := splitN_pos n (by omega)
      rw [if_neg hn, if_neg hn]
      by_cases hr : rtI i (splitN n) = true
      · rw [if_pos hr, if_pos hr, wayF_I f g (i - splitN n) (n - splitN n) (by omega) (by omega) (by omega) (by omega)]
      · have : i < splitN n := by simpa [rtI] using hr
        rw [if_neg hr, if_neg hr, wayF_I f g i (splitN n) (by omega) (by omega) (by omega) (by omega)]
theorem wayI_one (i : Nat) : wayI i 1 = [] := rfl
theorem wayI_right (i n : Nat) (h : 2 ≤ n) (hi : i < n) (hk : splitN n ≤ i) : wayI i n = true :: wayI (i - splitN n) (n - splitN n) := by
  have hl := splitN_lt n h
  have hp := splitN_pos n h
  unfold wayI
  obtain ⟨f, hf⟩ : ∃ f, n = f + 1 := ⟨n - 1, by omega⟩
  conv => lhs; rw [show wayF stI rtI n i n = wayF stI rtI (f + 1) i n by rw [← hf]]
  rw [wayF_s, if_neg (by simp [stI]; omega), if_pos (by simp [rtI]; exact hk), wayF_I f (n - splitN n) _ _ (by omega) (by omega) (by omega) (by omega)]
theorem wayI_left (i n : Nat) (h : 2 ≤ n) (hk : i < splitN n) : wayI i n = false :: wayI i (splitN n) := by
  have hl := splitN_lt n h
  have hp := splitN_pos n h
  unfold wayI
  obtain ⟨f, hf⟩ : ∃ f, n = f + 1 := ⟨n - 1, by omega⟩
  conv => lhs; rw [show wayF stI rtI n i n = wayF stI rtI (f + 1) i n by rw [← hf]]
  rw [wayF_s, if_neg (by simp [stI]; omega), if_neg (by simp [rtI]; omega), wayF_I f (splitN n) _ _ (by omega) (by omega) (by omega) (by omega)]

def pairB (b : Bool) (x a : List UInt8) : PairV := if b then (x, a) else (a, x)
/-- what is put together, from the way's end up -/
def atI (H : Hf) (way : List Bool) (pf : List (List UInt8)) (a0 : List UInt8) : Nat → List UInt8
  | 0 => a0
  | i + 1 => H (nodeD (pairB (way.getD (way.length - 1 - i) false) (pf.getD i []) (atI H way pf a0 i)))
def prI (H : Hf) (way : List Bool) (pf : List (List UInt8)) (a0 : List UInt8) (i : Nat) : PairV := pairB (way.getD (way.length - 1 - i) false) (pf.getD i []) (atI H way pf a0 i)
theorem atI_succ (H : Hf) (way : List Bool) (pf : List (List UInt8)) (a0 : List UInt8) (i : Nat) : atI H way pf a0 (i + 1) = H (nodeD (prI H way pf a0 i)) := rfl
/-- what a proof says at each node on the way, from the root down -/
def saidL (H : Hf) (way : List Bool) (pf : List (List UInt8)) (a0 : List UInt8) : List PairV := (List.range way.length).map fun n => prI H way pf a0 (way.length - 1 - n)
theorem length_saidL (H : Hf) (way : List Bool) (pf : List (List UInt8)) (a0 : List UInt8) : (saidL H way pf a0).length = way.length := by simp [saidL]
theorem saidL_getD (H : Hf) (way : List Bool) (pf : List (List UInt8)) (a0 : List UInt8) (n : Nat) (d : PairV) (h : n < way.length) : (saidL H way pf a0).getD n d = prI H way pf a0 (way.length - 1 - n) := by
  unfold saidL
  rw [List.getD_eq_getElem?_getD, List.getElem?_map, List.getElem?_range h]
  rfl
theorem atI_cons (H : Hf) (b : Bool) (way : List Bool) (pf : List (List UInt8)) (a0 : List UInt8) : ∀ j, j ≤ way.length → atI H (b :: way) pf a0 j = atI H way (pf.take way.length) a0 j
  | 0, _ => rfl
  | j + 1, h => by
    unfold atI
    rw [atI_cons H b way pf a0 j (by omega), List.length_cons, show way.length + 1 - 1 - j = (way.length - 1 - j) + 1 by omega, List.getD_cons_succ]
    congr 3
    rw [List.getD_eq_getElem?_getD, List.getD_eq_getElem?_getD, List.getElem?_take_of_lt (by omega)]
theorem prI_cons (H : Hf) (b : Bool) (way : List Bool) (pf : List (List UInt8)) (a0 : List UInt8) (j : Nat) (h : j < way.length) : prI H (b :: way) pf a0 j = prI H way (pf.take way.length) a0 j := by
  unfold prI
  rw [atI_cons H b way pf a0 j (by omega), List.length_cons, show way.length + 1 - 1 - j = (way.length - 1 - j) + 1 by omega, List.getD_cons_succ]
  congr 1
  rw [List.getD_eq_getElem?_getD, List.getD_eq_getElem?_getD, List.getElem?_take_of_lt (by omega)]
theorem prI_top (H : Hf) (b : Bool) (way : List Bool) (pf : List (List UInt8)) (a0 : List UInt8) : prI H (b :: way) pf a0 way.length = pairB b (pf.getD way.length []) (atI H way (pf.take way.length) a0 way.length) := by
  unfold prI
  rw [atI_cons H b way pf a0 _ (Nat.le_refl _), List.length_cons, show way.length + 1 - 1 - way.length = 0 by omega]
  rfl
theorem saidL_cons (H : Hf) (b : Bool) (way : List Bool) (pf : List (List UInt8)) (a0 : List UInt8) : saidL H (b :: way) pf a0 = prI H (b :: way) pf a0 way.length :: saidL H way (pf.take way.length) a0 := by
  unfold saidL
  rw [List.length_cons, List.range_succ_eq_map, List.map_cons, List.map_map]
  congr 1
  apply List.map_congr_left
  intro n hn
  have hn := List.mem_range.1 hn
  show prI H (b :: way) pf a0 (way.length + 1 - 1 - (n + 1)) = _
  rw [show way.length + 1 - 1 - (n + 1) = way.length - 1 - n by omega]
  exact prI_cons H b way pf a0 _ (by omega)

/-- the first node, from the root down, where what is said is not what is hashed there -/
def lieF (H : Hf) : List Bool → List PairV → List (List UInt8) → Option (PairV × PairV) × List (List UInt8)
  | b :: way, p :: sd, d => if p = (rootA H (d.take (splitN d.length)), rootA H (d.drop (splitN d.length))) then lieF H way sd (if b = true then d.drop (splitN d.length) else d.take (splitN d.length))
    else (some (p, (rootA H (d.take (splitN d.length)), rootA H (d.drop (splitN d.length)))), d)
  | _, _, d => (none, d)
def bigD (d : List (List UInt8)) : Bool := decide (65536 < d.length) || d.any fun x => decide (4096 < x.length)
def noC : PairV := ([], [])
/-- the answer to a proof that an entry is in -/
def inclC (H : Hf) (d : List (List UInt8)) (i : Int) (e : List UInt8) (pf : List (List UInt8)) : PairV × Int :=
  if bigD d = true ∨ 4096 < e.length then (noC, 2) else if i < 0 ∨ (d.length : Int) ≤ i then (noC, 4)
  else if pf.length ≠ (wayI i.toNat d.length).length then (noC, 230)
  else if atI H (wayI i.toNat d.length) pf (H (leafD e)) pf.length ≠ rootA H d then (noC, 230)
  else match lieF H (wayI i.toNat d.length) (saidL H (wayI i.toNat d.length) pf (H (leafD e))) d with
    | (some (p, h), _) => ((nodeD p, nodeD h), 0)
    | (none, rest) => if e = rest.getD 0 [] then (noC, 231) else ((leafD e, leafD (rest.getD 0 [])), 0)
/-- is it a clash -/
def isC (H : Hf) (c : PairV) : Bool := !(c.1 == c.2) && H c.1 == H c.2
theorem isC_of (H : Hf) (c : PairV) (h1 : c.1 ≠ c.2) (h2 : H c.1 = H c.2) : isC H c = true := by
  unfold isC
  simp [h1, h2]
theorem lieF_end (H : Hf) : ∀ (way : List Bool) (sd : List PairV) (i : Nat) (d : List (List UInt8)), wayI i d.length = way → sd.length = way.length → i < d.length → (lieF H way sd d).1 = none → ∃ x, (lieF H way sd d).2 = [x]
  | [], sd, i, d, hw, _, hi, _ => by
    by_cases h1 : d.length = 1
    · obtain ⟨x, rfl⟩ := List.length_eq_one_iff.1 h1
      exact ⟨x, by cases sd <;> rfl⟩
    · exfalso
      by_cases hk : splitN d.length ≤ i
      · rw [wayI_right i d.length (by omega) hi hk] at hw; cases hw
      · rw [wayI_left i d.length (by omega) (by omega)] at hw; cases hw
  | b :: way, [], _, _, _, h, _, _ => by simp at h
  | b :: way, p :: sd, i, d, hw, h, hi, hn => by
    have hd : 2 ≤ d.length := by
      rcases Nat.lt_or_ge d.length 2 with h2 | h2
      · have : d.length = 1 := by omega
        rw [this] at hw
        cases hw
      · exact h2
    have hl := splitN_lt d.length hd
    unfold lieF at hn ⊢
    split at hn
    · rename_i hp
      rw [if_pos hp]
      by_cases hk : splitN d.length ≤ i
      · rw [wayI_right i d.length hd hi hk] at hw
        injection hw with h1 h2
        subst h1
        exact lieF_end H way sd (i - splitN d.length) _ (by rw [if_pos rfl, List.length_drop]; exact h2) (by simpa using h) (by rw [if_pos rfl, List.length_drop]; omega) hn
      · rw [wayI_left i d.length hd (by omega)] at hw
        injection hw with h1 h2
        subst h1
        have e : (d.take (splitN d.length)).length = splitN d.length := by rw [List.length_take]; omega
        exact lieF_end H way sd i _ (by rw [if_neg (by simp), e]; exact h2) (by simpa using h) (by rw [if_neg (by simp), e]; omega) hn
    · cases hn
/-- what is told is a clash: on the way down -/
theorem lieF_clash (H : Hf) (hH : ∀ l, (H l).length = 32) (a0 : List UInt8) (ha : a0.length = 32) : ∀ (way : List Bool) (pf : List (List UInt8)) (i : Nat) (d : List (List UInt8)), (∀ x ∈ pf, x.length = 32) → wayI i d.length = way → pf.length = way.length → i < d.length → atI H way pf a0 way.length = rootA H d →
    (∀ p h r, lieF H way (saidL H way pf a0) d = (some (p, h), r) → nodeD p ≠ nodeD h ∧ H (nodeD p) = H (nodeD h)) ∧ (∀ x, lieF H way (saidL H way pf a0) d = (none, [x]) → a0 = H (leafD x))
  | [], pf, i, d, _, hw, hl, hi, hr => by
    refine ⟨fun p h r e => (by cases e), fun x e => ?_⟩
    have : d = [x] := by cases e; rfl
    rw [this] at hr
    exact hr
  | b :: way, pf, i, d, hp, hw, hl, hi, hr => by
    have hd : 2 ≤ d.length := by
      rcases Nat.lt_or_ge d.length 2 with h2 | h2
      · have : d.length = 1 := by omega
        rw [this] at hw
        cases hw
      · exact h2
    have hlt := splitN_lt d.length hd
    have hat : ∀ w p j, (atI H w p a0 j).length = 32 := fun w p j => by cases j with | zero => exact ha | succ j => exact hH _
    have hx32 : (pf.getD way.length []).length = 32 := by
      rw [List.getD_eq_getElem?_getD, List.getElem?_eq_getElem (by rw [hl]; simp)]
      exact hp _ (List.getElem_mem _)
    rw [List.length_cons, atI_succ, rootA_more H d hd, prI_top] at hr
    rw [saidL_cons, prI_top]
    have hp1 : (pairB b (pf.getD way.length []) (atI H way (pf.take way.length) a0 way.length)).1.length = 32 := by
      unfold pairB
      split
      · exact hx32
      · exact hat _ _ _
    unfold lieF
    by_cases he : pairB b (pf.getD way.length []) (atI H way (pf.take way.length) a0 way.length) = (rootA H (d.take (splitN d.length)), rootA H (d.drop (splitN d.length)))
    · rw [if_pos he]
      have hp' : ∀ x ∈ pf.take way.length, x.length = 32 := fun x hx => hp x (List.mem_of_mem_take hx)
      have hl' : (pf.take way.length).length = way.length := by rw [List.length_take, hl]; simp
      by_cases hk : splitN d.length ≤ i
      · rw [wayI_right i d.length hd hi hk] at hw
        injection hw with h1 h2
        subst h1
        rw [if_pos rfl]
        have h3 : atI H way (pf.take way.length) a0 way.length = rootA H (d.drop (splitN d.length)) := congrArg Prod.snd he
        exact lieF_clash H hH a0 ha way (pf.take way.length) (i - splitN d.length) _ hp' (by rw [List.length_drop]; exact h2) hl' (by rw [List.length_drop]; omega) h3
      · rw [wayI_left i d.length hd (by omega)] at hw
        injection hw with h1 h2
        subst h1
        rw [if_neg (by simp)]
        have e : (d.take (splitN d.length)).length = splitN d.length := by rw [List.length_take]; omega
        have h3 : atI H way (pf.take way.length) a0 way.length = rootA H (d.take (splitN d.length)) := congrArg Prod.fst he
        exact lieF_clash H hH a0 ha way (pf.take way.length) i _ hp' (by rw [e]; exact h2) hl' (by rw [e]; omega) h3
    · rw [if_neg he]
      refine ⟨fun p h r e => ?_, fun x e => by cases e⟩
      cases e
      exact ⟨fun e => he (nodeD_inj hp1 (length_rootA H hH _) e), hr⟩
theorem inclC_is (H : Hf) (hH : ∀ l, (H l).length = 32) (d : List (List UInt8)) (i : Int) (e : List UInt8) (pf : List (List UInt8)) (hp : ∀ x ∈ pf, x.length = 32) (h : (inclC H d i e pf).2 = 0) : isC H (inclC H d i e pf).1 = true := by
  unfold inclC at h ⊢
  split at h
  · cases h
  rename_i h1
  rw [if_neg h1]
  split at h
  · cases h
  rename_i h2
  rw [if_neg h2]
  split at h
  · cases h
  rename_i h3
  rw [if_neg h3]
  split at h
  · cases h
  rename_i h4
  rw [if_neg h4]
  have hlen : pf.length = (wayI i.toNat d.length).length := by simpa using h3
  have hrt : atI H (wayI i.toNat d.length) pf (H (leafD e)) (wayI i.toNat d.length).length = rootA H d := by rw [← hlen]; simpa using h4
  have hi : i.toNat < d.length := by omega
  obtain ⟨c1, c2⟩ := lieF_clash H hH (H (leafD e)) (hH _) (wayI i.toNat d.length) pf i.toNat d hp rfl hlen hi hrt
  have hend := lieF_end H (wayI i.toNat d.length) (saidL H (wayI i.toNat d.length) pf (H (leafD e))) i.toNat d rfl (length_saidL _ _ _ _) hi
  obtain ⟨⟨o, r⟩, hq⟩ : ∃ q, lieF H (wayI i.toNat d.length) (saidL H (wayI i.toNat d.length) pf (H (leafD e))) d = q := ⟨_, rfl⟩
  rw [hq] at h c1 c2 hend ⊢
  cases o with
  | some q =>
    obtain ⟨p, k⟩ := q
    obtain ⟨g1, g2⟩ := c1 p k r rfl
    exact isC_of H _ g1 g2
  | none =>
    obtain ⟨x, hx⟩ := hend rfl
    have hx : r = [x] := hx
    subst hx
    dsimp only at h ⊢
    split at h
    · cases h
    rename_i h5
    rw [if_neg h5]
    exact isC_of H _ (fun e => h5 (leafD_inj e)) (c2 x rfl)
end Go.Proofs.YtfhmjgkcpcnkbaaDoor
/- Strings that are held against each other; a byte of a row of one's own is written. -/
namespace Go.Proofs.YtfhmjgkcpcnkbaaDoor
open Go Go.RowKit

theorem run_neq_strM (l m : List UInt8) (W : World) : (binOp .neq 9 (.string (bstr l)) (.string (bstr m))).run Tryd.prog W = .ok (.bool (l != m)) W := by
  have : ∀ l : List UInt8, (bstr l).toList = l := fun l => by rw [ByteArray.toList_eq]; rfl
  rw [binOp_string_neq, Sem.run_pure, this, this]; rfl
theorem run_neqstrM_f {ρ : Operand → Value} {o : Oper} (x y : Operand) (ty : TypeId) (l : List UInt8) (ho : o.op = .binOp .neq 9 x y ty) (hx : ρ x = .string (bstr l)) (hy : ρ y = .string (bstr l)) (W : World) :
    (execOp ρ o).run Tryd.prog W = .ok (.value (.bool false)) W := by
  unfold execOp
  simp only [ho, hx, hy, eqGuard_at_string, Sem.run_bind, Sem.run_pure, run_neq_strM, Result.andThen_ok, bne_self_eq_false]
theorem run_str_op {ρ : Operand → Value} {o : Oper} {W : World} {X : Nat → Prop} {A : Option Addr} {n c : Nat} {l : List UInt8} (x : Operand) (ho : o.op = .convert 104 9 x) (hx : ρ x = .slice A n c) (h : Sl W X A n c l) :
    (execOp ρ o).run Tryd.prog W = .ok (.value (.string (bstr l))) W := by
  unfold execOp
  simp only [ho, hx, run_str h, Sem.run_bind, Sem.run_pure, Result.andThen_ok]
theorem owns_setB {W : World} {base g n c : Nat} {e : TypeId} {xs : List Value} (h : W.ownsRow base e 1 (.slice (some ⟨g, 0, none⟩) n c) n xs) (k : Nat) (hk : k < n) (u : Value) :
    (∃ v, W.cell? ⟨g, k, none⟩ = some v) ∧ W.frozen? ⟨g, k, none⟩ = false ∧ ∃ xs', (W.setCell ⟨g, k, none⟩ u).ownsRow base e 1 (.slice (some ⟨g, 0, none⟩) n c) n xs' := by
  rcases h.2 with ⟨hv, _⟩ | ⟨g', cap, cur, hv, hbg, hg, hnc, hcm, hcs, ht⟩
  · cases hv
  · cases hv
    have hB : Blk W g e cur := hg
    have hkc : k < cur.size := by omega
    refine ⟨⟨cur[k], by rw [hB.cell, Array.getElem?_eq_getElem hkc]⟩, hB.frozen k, (cur.setIfInBounds k u).toList.take (n * 1), ?_, .inr ⟨g, c, cur.setIfInBounds k u, rfl, hbg, hB.set_ k u, hnc, hcm, by simpa using hcs, rfl⟩⟩
    rw [List.length_take]
    simp
    omega
end Go.Proofs.YtfhmjgkcpcnkbaaDoor
/- Slices of slices of bytes; what is hashed at a leaf and at a node (audit, notaryref13). -/
namespace Go.Proofs.YtfhmjgkcpcnkbaaDoor
open Go Go.RowKit Go.Shelf
attribute [local go_sem] Oper.semAt_some

theorem ret_hash {fn : Func} {p : Tmp} {tmps : Array Value} {W : World} {g : Nat} {l : List UInt8} (h : fn.results = #[.cell p 48]) (hp : tmps.getD p undef = .pointer (some ⟨g, 0, none⟩)) (k : HV W g l) : (results fn tmps).run Tryd.prog W = .ok (.agg (l.map B).toArray) W :=
  results_cell_row h tmps W g 48 (l.map B).toArray (0, 0) _ hp k.blk Tryd.underlying48 rfl (by rw [show (l.map B).toArray.size = 32 by simp [k.len]]; exact info26)

/-- slices of bytes, in a slice -/
structure Es (w : World) (X : Nat → Prop) (A : Option Addr) (n c : Nat) (ls : List (List UInt8)) : Prop where
  ex : ∃ vs, SlV w X A n c 1 vs ∧ ∀ i (h : i < ls.length), ∃ Ai ci, vs[i]? = some (.slice Ai (ls[i]).length ci) ∧ Sl w X Ai (ls[i]).length ci ls[i]
  len : ls.length = n
section
variable {w w' : World} {X Y : Nat → Prop} {A : Option Addr} {n c : Nat} {ls : List (List UInt8)}
theorem Es.room (h : Es w X A n c ls) : n ≤ c := let ⟨_, h1, _⟩ := h.ex; h1.room
theorem Es.max (h : Es w X A n c ls) : c ≤ maxLen := let ⟨_, h1, _⟩ := h.ex; h1.max
theorem Es.weak (h : Es w X A n c ls) (hX : ∀ b, b < w.heap.size → X b → Y b) : Es w Y A n c ls :=
  let ⟨vs, h1, h2⟩ := h.ex; ⟨⟨vs, h1.weak hX, fun i hi => let ⟨Ai, ci, g1, g2⟩ := h2 i hi; ⟨Ai, ci, g1, g2.weak hX⟩⟩, h.len⟩
theorem Es.all (h : Es w X A n c ls) : Es w (fun _ => True) A n c ls := h.weak fun _ _ _ => trivial
theorem Es.step (h : Es w X A n c ls) (hb : Below w.heap.size w w') : Es w' X A n c ls :=
  let ⟨vs, h1, h2⟩ := h.ex; ⟨⟨vs, h1.step hb, fun i hi => let ⟨Ai, ci, g1, g2⟩ := h2 i hi; ⟨Ai, ci, g1, g2.step hb⟩⟩, h.len⟩
theorem Es.below {N : Nat} (h : Es w X A n c ls) (hb : Below N w w') (hX : ∀ b, b < w.heap.size → X b → b < N) : Es w' X A n c ls :=
  let ⟨vs, h1, h2⟩ := h.ex; ⟨⟨vs, h1.below hb hX, fun i hi => let ⟨Ai, ci, g1, g2⟩ := h2 i hi; ⟨Ai, ci, g1, g2.below hb hX⟩⟩, h.len⟩
theorem Es.take (h : Es w X A n c ls) (k : Nat) (hk : k ≤ n) : Es w X A k c (ls.take k) := by
  obtain ⟨vs, h1, h2⟩ := h.ex
  refine ⟨⟨vs.take (k * 1), h1.take k hk, fun i hi => ?_⟩, by rw [List.length_take, h.len]; omega⟩
  have hi' : i < k ∧ i < ls.length := by rw [List.length_take] at hi; omega
  obtain ⟨Ai, ci, g1, g2⟩ := h2 i hi'.2
  rw [List.getElem_take]
  exact ⟨Ai, ci, by rw [List.getElem?_take_of_lt (by omega)]; exact g1, g2⟩
theorem Es.drop (h : Es w X A n c ls) (k : Nat) (hk : k ≤ n) : Es w X (if c = k then A else A.map (·.add (k * 1))) (n - k) (c - k) (ls.drop k) := by
  obtain ⟨vs, h1, h2⟩ := h.ex
  refine ⟨⟨vs.drop (k * 1), h1.drop k hk, fun i hi => ?_⟩, by rw [List.length_drop, h.len]⟩
  have hi' : k + i < ls.length := by rw [List.length_drop] at hi; omega
  obtain ⟨Ai, ci, g1, g2⟩ := h2 (k + i) hi'
  rw [List.getElem_drop]
  exact ⟨Ai, ci, by rw [List.getElem?_drop, Nat.mul_one]; exact g1, g2⟩
/-- one of them -/
theorem Es.at_ (h : Es w X A n c ls) (hn : 0 < n) : ∃ b o, A = some ⟨b, o, none⟩ ∧ b < w.heap.size ∧ X b ∧ ∀ k, k < n → ∃ Ai ci, w.cell? ⟨b, o + k, none⟩ = some (.slice Ai (ls.getD k []).length ci) ∧ Sl w X Ai (ls.getD k []).length ci (ls.getD k []) := by
  obtain ⟨vs, h1, h2⟩ := h.ex
  obtain ⟨b, o, e, hb, hx, h4⟩ := h1.at_ hn (by decide)
  refine ⟨b, o, e, hb, hx, fun k hk => ?_⟩
  obtain ⟨Ai, ci, g1, g2⟩ := h2 k (by rw [h.len]; exact hk)
  have hg : ls.getD k [] = ls[k]'(by rw [h.len]; exact hk) := by rw [List.getD_eq_getElem?_getD, List.getElem?_eq_getElem (by rw [h.len]; exact hk)]; rfl
  rw [hg]
  exact ⟨Ai, ci, h4 k _ g1, g2⟩
theorem SlS.es {vs : List Value} (h : SlS w A n c vs ls) : Es w (· < w.heap.size) A n c ls := ⟨⟨vs, h.out, h.ins⟩, h.len⟩
end
theorem sizeBs : ∀ w : World, (sizeOf (Tryd.prog.elem 75)).run Tryd.prog w = .ok 1 w := fun _ => by kernel_rfl
theorem sliceBs : Tryd.prog.underlying 75 = some (.slice (Tryd.prog.elem 75)) := by kernel_rfl
theorem run_slice_hiB {ρ : Operand → Value} {o : Oper} (x y : Operand) (ho : o.op = .slice 75 x none (some y) none) (A : Option Addr) (n c k : Nat) (hx : ρ x = .slice A n c) (hy : ρ y = .int .i64 (k : Int)) (hk : k ≤ c) (W : World) :
    (execOp ρ o).run Tryd.prog W = .ok (.value (.slice A k c)) W := by
  unfold execOp
  simp only [ho, hx, hy, Option.map_some, Option.map_none, run_slice_high sliceBs sizeBs A n c k hk W, Sem.run_bind, Sem.run_pure, Result.andThen_ok]
theorem run_slice_loB {ρ : Operand → Value} {o : Oper} (x y : Operand) (ho : o.op = .slice 75 x (some y) none none) (A : Option Addr) (n c k : Nat) (hx : ρ x = .slice A n c) (hy : ρ y = .int .i64 (k : Int)) (hk : k ≤ n) (W : World) :
    (execOp ρ o).run Tryd.prog W = .ok (.value (.slice (if c = k then A else A.map (·.add (k * 1))) (n - k) (c - k))) W := by
  unfold execOp
  simp only [ho, hx, hy, Option.map_some, Option.map_none, run_slice_low sliceBs sizeBs A n c k hk W, Sem.run_bind, Sem.run_pure, Result.andThen_ok]

/-- a byte ahead of bytes, in a row of one's own -/
theorem ahead_byte (x : UInt8) (w : World) (l : List UInt8) (A : Option Addr) (n c : Nat) (h : Sl w (fun _ => True) A n c l) (hn : n ≤ 1099511627776) :
    ∃ v w', (Builtin.append_ #[104, 104] 104 #[.slice (some ⟨w.heap.size, 0, none⟩) 1 1, .slice A n c]).run Tryd.prog (w.alloc (.cells #[B x] 5)) = .ok v w' ∧ Fresh w w' v (x :: l) := by
  have hb : Below w.heap.size w (w.alloc (.cells #[B x] 5)) := (Below.refl _ _).alloc (Nat.le_refl _) _
  have ho : (w.alloc (.cells #[B x] 5)).ownsRow w.heap.size 5 1 (.slice (some ⟨w.heap.size, 0, none⟩) 1 1) ([x] : List UInt8).length (([x] : List UInt8).map B) := World.ownsRow_lit w #[B x] 1 (Nat.le_refl _) (by decide) rfl
  obtain ⟨v, w', h1, h2, h3⟩ := append_sl ho (h.step hb) (by simp; omega) hb.size
  exact ⟨v, w', h1, h2, hb.grown h3 hb.size (fun k hk => (ho.lt k hk).1)⟩

end Go.Proofs.YtfhmjgkcpcnkbaaDoor
/- slices.Grow, slices.Concat; what is hashed at a node. -/
namespace Go.Proofs.YtfhmjgkcpcnkbaaDoor
open Go Go.RowKit Go.Shelf
attribute [local go_sem] Oper.semAt_some

theorem run_append2_op {P : Program} {ρ : Operand → Value} {o : Oper} {w w' : World} {v : Value} (x y : Operand) (t u : TypeId) (ho : o.op = .call { callee := .builtin .append, args := #[x, y], argTypes := #[t, u] }) (vx vy : Value) (hx : ρ x = vx) (hy : ρ y = vy)
    (h : (Builtin.append_ #[t, u] o.type #[vx, vy]).run P w = .ok v w') : (execOp ρ o).run P w = .ok (.value v) w' := by
  unfold execOp
  simp only [ho, resolve, invoke, builtin, Sem.run_bind, Sem.run_pure, Result.andThen_ok, List.map_toArray, List.map_cons, List.map_nil, hx, hy, h]
theorem sizeB8 : ∀ w : World, (sizeOf (Tryd.prog.elem 104)).run Tryd.prog w = .ok 1 w := fun _ => by kernel_rfl
theorem sliceB8 : Tryd.prog.underlying 104 = some (.slice (Tryd.prog.elem 104)) := by kernel_rfl
theorem run_slice_hi8 {ρ : Operand → Value} {o : Oper} (x y : Operand) (ho : o.op = .slice 104 x none (some y) none) (A : Option Addr) (n c k : Nat) (hx : ρ x = .slice A n c) (hy : ρ y = .int .i64 (k : Int)) (hk : k ≤ c) (W : World) :
    (execOp ρ o).run Tryd.prog W = .ok (.value (.slice A k c)) W := by
  unfold execOp
  simp only [ho, hx, hy, Option.map_some, Option.map_none, run_slice_high sliceB8 sizeB8 A n c k hk W, Sem.run_bind, Sem.run_pure, Result.andThen_ok]

theorem flatB_succ (ls : List (List UInt8)) (k : Nat) (h : k < ls.length) : (ls.take (k + 1)).flatten = (ls.take k).flatten ++ ls.getD k [] := by
  rw [List.take_add_one, List.getElem?_eq_getElem h, List.flatten_append, List.getD_eq_getElem?_getD, List.getElem?_eq_getElem h]
  simp
theorem flatB_le (ls : List (List UInt8)) (k : Nat) : (ls.take k).flatten.length ≤ ls.flatten.length := by
  conv => rhs; rw [← List.take_append_drop k ls, List.flatten_append, List.length_append]
  omega
end Go.Proofs.YtfhmjgkcpcnkbaaDoor
/- What is hashed at a node; a hash that is handed in. -/
namespace Go.Proofs.YtfhmjgkcpcnkbaaDoor
open Go Go.RowKit Go.Shelf
attribute [local go_sem] Oper.semAt_some

theorem slice_allO (g o : Nat) (W : World) : (Instr.sliceAt 48 (.pointer (some ⟨g, o, none⟩)) none none none).run Tryd.prog W = .ok (.slice (some ⟨g, o, none⟩) 32 32) W := by
  rw [run_sliceAt_array_all W _ _ arrT26, size26e, arrN26]
  simp [slicedAt, Result.andThen, Addr.add]
theorem run_slice_allO {ρ : Operand → Value} {o : Oper} (x : Operand) (ho : o.op = .slice 48 x none none none) (g off : Nat) (hx : ρ x = .pointer (some ⟨g, off, none⟩)) (W : World) : (execOp ρ o).run Tryd.prog W = .ok (.value (.slice (some ⟨g, off, none⟩) 32 32)) W := by
  unfold execOp
  simp only [ho, hx, Option.map_none, slice_allO, Sem.run_bind, Sem.run_pure, Result.andThen_ok]
/-- bytes that lie in a block -/
theorem Sl.of_blk {W : World} {g o : Nat} {t : TypeId} {C : Array Value} (h : Blk W g t C) (l : List UInt8) (n : Nat) (hn : l.length = n) (hm : n ≤ maxLen) (hc : ∀ j v, (l.map B)[j]? = some v → C[o + j]? = some v) : Sl W (fun _ => True) (some ⟨g, o, .none⟩) n n l :=
  ⟨fun _ => ⟨g, o, rfl, h.lt, trivial, fun j v hv => by rw [h.cell]; exact hc j v hv⟩, hn, Nat.le_refl _, (fun e => by cases e), hm⟩
theorem Sl.of_hv {W : World} {g : Nat} {l : List UInt8} (h : HV W g l) : Sl W (fun _ => True) (some ⟨g, 0, .none⟩) 32 32 l :=
  Sl.of_blk h.blk l 32 h.len (by decide) fun j v hv => by rw [Nat.zero_add, List.getElem?_toArray]; exact hv
/-- a byte, and two pieces behind it -/
theorem two_after (x : UInt8) (w : World) (l r : List UInt8) (A A' : Option Addr) (n c n' c' : Nat) (h : Sl w (fun _ => True) A n c l) (h' : Sl w (fun _ => True) A' n' c' r) (hn : n ≤ 1099511627776) (hn' : n' ≤ 1099511627776) :
    ∃ v1 w1 v2 w2, (Builtin.append_ #[104, 104] 104 #[.slice (some ⟨w.heap.size, 0, none⟩) 1 1, .slice A n c]).run Tryd.prog (w.alloc (.cells #[B x] 5)) = .ok v1 w1 ∧
      (Builtin.append_ #[104, 104] 104 #[v1, .slice A' n' c']).run Tryd.prog w1 = .ok v2 w2 ∧ Below w.heap.size w (w.alloc (.cells #[B x] 5)) ∧ Below w.heap.size w w1 ∧ Fresh w w2 v2 (x :: (l ++ r)) := by
  obtain ⟨v1, w1, h1, h2, h3⟩ := ahead_byte x w l A n c h hn
  have hl := h.len
  obtain ⟨v2, w2, g1, g2, g3⟩ := append_sl h2 (h'.step h3) (by simp; omega) h3.size
  exact ⟨v1, w1, v2, w2, h1, g1, (Below.refl _ _).alloc (Nat.le_refl _) _, h3, g2, h3.grown g3 h3.size (fun k hk => (h2.lt k hk).1)⟩

theorem Es.lit3 (W : World) (a b c : Value) (ls : List (List UInt8)) (hl : ls.length = 3) (ha : ∃ A k, a = .slice A (ls.getD 0 []).length k ∧ Sl W (fun _ => True) A (ls.getD 0 []).length k (ls.getD 0 [])) (hb : ∃ A k, b = .slice A (ls.getD 1 []).length k ∧ Sl W (fun _ => True) A (ls.getD 1 []).length k (ls.getD 1 [])) (hc : ∃ A k, c = .slice A (ls.getD 2 []).length k ∧ Sl W (fun _ => True) A (ls.getD 2 []).length k (ls.getD 2 [])) :
    Es (W.alloc (.cells #[a, b, c] 104)) (fun _ => True) (some ⟨W.heap.size, 0, none⟩) 3 3 ls := by
  refine ⟨⟨[a, b, c], SlV.lit (s := 1) W (fun _ => True) 104 [a, b, c] rfl (by decide) trivial, fun i hi => ?_⟩, hl⟩
  obtain ⟨x, y, z, rfl⟩ : ∃ x y z, ls = [x, y, z] := by
    match ls, hl with
    | [x, y, z], _ => exact ⟨x, y, z, rfl⟩
  match i, hi with
  | 0, _ => obtain ⟨A, k, rfl, h⟩ := ha; exact ⟨A, k, rfl, h.alloc _⟩
  | 1, _ => obtain ⟨A, k, rfl, h⟩ := hb; exact ⟨A, k, rfl, h.alloc _⟩
  | 2, _ => obtain ⟨A, k, rfl, h⟩ := hc; exact ⟨A, k, rfl, h.alloc _⟩
/-- a function that hashes bytes -/
structure HFn (f : Nat) (H : Hf) : Prop where
  enter : ∀ args w, (callFunc f args).run Tryd.prog w = .ok (.enter f args) w
  len : ∀ l, (H l).length = 32
  call : ∀ (l : List UInt8) (A : Option Addr) (n c : Nat) (w : World), Sl w (fun _ => True) A n c l → n ≤ 1099511627776 → Calls Tryd.prog f #[.slice A n c] w fun e w' => e = .returned (.agg ((H l).map B).toArray) ∧ Below w.heap.size w w'
abbrev hval (f : Nat) : Value := .func (.func f) #[] #[]
end Go.Proofs.YtfhmjgkcpcnkbaaDoor
/- audit.split, tree.root. -/
namespace Go.Proofs.YtfhmjgkcpcnkbaaDoor
open Go Go.RowKit Go.Shelf
attribute [local go_sem] Oper.semAt_some

end Go.Proofs.YtfhmjgkcpcnkbaaDoor
/- notaryref13.Hash, and the five hashes. -/
namespace Go.Proofs.YtfhmjgkcpcnkbaaDoor
open Go Go.RowKit Go.Shelf
attribute [local go_sem] Oper.semAt_some

/-- hashes, strong and weak -/
def hashK (k : Int) (l : List UInt8) : List UInt8 :=
  if k = 1 then (List.replicate 32 0).set 0 ((sha256 l).getD 0 0) else if k = 2 then (List.replicate 32 0).set 0 ((sha256 l).getD 0 0 % 4) else if k = 3 then List.replicate 32 0
  else if k = 4 then ((List.replicate 32 0).set 0 ((sha256 l).getD 0 0)).set 1 ((sha256 l).getD 1 0) else sha256 l
theorem length_hashK (k : Int) (l : List UInt8) : (hashK k l).length = 32 := by
  unfold hashK
  split
  · simp
  · split
    · simp
    · split
      · simp
      · split
        · simp
        · exact length_sha256 l
theorem u8_rem4 (x : UInt8) : Int.tmod (x.toNat : Int) 4 = (((x % 4).toNat : Nat) : Int) := by
  rw [UInt8.toNat_mod]
  exact (Int.ofNat_tmod x.toNat 4).symm

end Go.Proofs.YtfhmjgkcpcnkbaaDoor
/- The functions that hash, handed in; notaryref13.Root. -/
namespace Go.Proofs.YtfhmjgkcpcnkbaaDoor
open Go Go.RowKit Go.Shelf
attribute [local go_sem] Oper.semAt_some
theorem enter_fn {P : Program} {f : FuncId} {fn : Func} (hf : P.funcs[f]? = some fn) (hname : (fn.name == "runtime.NumGoroutine") = false) (hb : fn.body.isSome = true) (args : Array Value) (w : World) : (callFunc f args).run P w = .ok (.enter f args) w := by
  have h1 : fn.name ≠ "runtime.NumGoroutine" := by simpa using hname
  obtain ⟨c, hc⟩ := Option.isSome_iff_exists.1 hb
  simp [callFunc, hf, h1, hc]

end Go.Proofs.YtfhmjgkcpcnkbaaDoor
/- notaryref13.Root, deep, up. -/
namespace Go.Proofs.YtfhmjgkcpcnkbaaDoor
open Go Go.RowKit Go.Shelf
attribute [local go_sem] Oper.semAt_some

theorem wayF_le (st rt : Nat → Nat → Bool) : ∀ f s n, (wayF st rt f s n).length ≤ f
  | 0, _, _ => Nat.le_refl _
  | f + 1, s, n => by
    rw [wayF_s]
    split
    · exact Nat.zero_le _
    · split
      · have := wayF_le st rt f (s - splitN n) (n - splitN n); rw [List.length_cons]; omega
      · have := wayF_le st rt f s (splitN n); rw [List.length_cons]; omega
end Go.Proofs.YtfhmjgkcpcnkbaaDoor
/- notaryref13.up. -/
namespace Go.Proofs.YtfhmjgkcpcnkbaaDoor
open Go Go.RowKit Go.Shelf
attribute [local go_sem] Oper.semAt_some

theorem length_atI (H : Hf) (hH : ∀ l, (H l).length = 32) (a0 : List UInt8) (ha : a0.length = 32) (w : List Bool) (p : List (List UInt8)) (j : Nat) : (atI H w p a0 j).length = 32 := by cases j with | zero => exact ha | succ j => exact hH _
end Go.Proofs.YtfhmjgkcpcnkbaaDoor
/- audit.steps: the way to an entry. -/
namespace Go.Proofs.YtfhmjgkcpcnkbaaDoor
open Go Go.RowKit Go.Shelf
attribute [local go_sem] Oper.semAt_some

theorem infoBool : (Tryd.prog.info? 4).map (fun i => (i.zero, i.size, i.bytes)) = some (some (.bool false), 1, 1) := by kernel_rfl
abbrev bcells (l : List Bool) : List Value := l.map Value.bool
theorem oneBool (l : List Bool) : ∀ v ∈ bcells l, v.oneCell' = true := fun v hv => by obtain ⟨b, _, rfl⟩ := List.mem_map.1 hv; rfl
/-- one block may change, and what is new -/
theorem grown_trans9 {a w w' : World} {g : Nat} {row : Option Nat} (h : a.grownBy w (some g)) (h2 : w.grownBy w' row) (hr : ∀ j, row = some j → a.heap.size ≤ j) : a.grownBy w' (some g) :=
  ⟨h2.os.trans h.os, h2.tape.trans h.tape, h2.output.trans h.output, Nat.le_trans h.size h2.size, fun k hk hne => (h2.block k (Nat.lt_of_lt_of_le hk h.size) (fun e => by have := hr k e.symm; omega)).trans (h.block k hk hne)⟩
end Go.Proofs.YtfhmjgkcpcnkbaaDoor
/- Slices of pairs; tree.said. -/
namespace Go.Proofs.YtfhmjgkcpcnkbaaDoor
open Go Go.RowKit Go.Shelf
attribute [local go_sem] Oper.semAt_some

/-- elements of s cells, side by side: one is found -/
theorem flatl_at {s : Nat} : ∀ (L : List (List Value)) (_ : ∀ cs ∈ L, cs.length = s) (k j : Nat) (v : Value) (_ : k < L.length) (_ : (L.getD k [])[j]? = some v), L.flatten[k * s + j]? = some v
  | cs :: L, hL, 0, j, v, _, h => by
    have h : cs[j]? = some v := h
    rw [List.flatten_cons, Nat.zero_mul, Nat.zero_add, List.getElem?_append_left (List.getElem?_eq_some_iff.1 h).1]
    exact h
  | cs :: L, hL, k + 1, j, v, hk, h => by
    have hc := hL cs (by simp)
    have := flatl_at L (fun x hx => hL x (by simp [hx])) k j v (by simpa using hk) h
    rw [List.flatten_cons, List.getElem?_append_right (by rw [hc, Nat.succ_mul]; omega), hc, show (k + 1) * s + j - s = k * s + j by rw [Nat.succ_mul]; omega]
    exact this
/-- one is put in the place of another -/
theorem flatl_set {s : Nat} : ∀ (L : List (List Value)) (_ : ∀ cs ∈ L, cs.length = s) (k : Nat) (x : List Value) (_ : k < L.length), L.flatten.take (k * s) ++ x ++ L.flatten.drop (k * s + s) = (L.set k x).flatten
  | cs :: L, hL, 0, x, _ => by
    have hc := hL cs (by simp)
    rw [List.flatten_cons, Nat.zero_mul, Nat.zero_add, List.take_zero, List.nil_append, List.drop_left' hc, List.set_cons_zero, List.flatten_cons]
  | cs :: L, hL, k + 1, x, hk => by
    have hc := hL cs (by simp)
    have := flatl_set L (fun x hx => hL x (by simp [hx])) k x (by simpa using hk)
    rw [List.set_cons_succ, List.flatten_cons, List.flatten_cons, ← this, show (k + 1) * s = s + k * s by rw [Nat.succ_mul]; omega, show s + k * s + s = s + (k * s + s) by omega]
    rw [← hc, List.take_length_add_append, List.drop_length_add_append, hc]
    simp [List.append_assoc]
abbrev pcell (q : PairV) : List Value := (q.1 ++ q.2).map B
def prcells (qs : List PairV) : List Value := (qs.map pcell).flatten
def Q32 (qs : List PairV) : Prop := ∀ q ∈ qs, q.1.length = 32 ∧ q.2.length = 32
abbrev pairD : PairV := ([], [])
theorem Q32.cell {qs : List PairV} (h : Q32 qs) : ∀ cs ∈ qs.map pcell, cs.length = 64 := fun cs hc => by
  obtain ⟨q, hq, rfl⟩ := List.mem_map.1 hc
  obtain ⟨h1, h2⟩ := h q hq
  simp [h1, h2]
theorem Q32.getD {qs : List PairV} (h : Q32 qs) (k : Nat) (hk : k < qs.length) : (qs.getD k pairD).1.length = 32 ∧ (qs.getD k pairD).2.length = 32 := by
  rw [List.getD_eq_getElem?_getD, List.getElem?_eq_getElem hk]
  exact h _ (List.getElem_mem hk)
theorem Q32.set {qs : List PairV} (h : Q32 qs) (k : Nat) {q : PairV} (hq : q.1.length = 32 ∧ q.2.length = 32) : Q32 (qs.set k q) := fun x hx => by
  rcases List.mem_or_eq_of_mem_set hx with h1 | rfl
  · exact h x h1
  · exact hq
theorem prcells_len (qs : List PairV) (h : Q32 qs) : (prcells qs).length = qs.length * 64 := by
  unfold prcells
  rw [flat_len _ h.cell, List.length_map]
theorem prcells_set (qs : List PairV) (h : Q32 qs) (k : Nat) (q : PairV) (hk : k < qs.length) : (prcells qs).take (k * 64) ++ pcell q ++ (prcells qs).drop (k * 64 + 64) = prcells (qs.set k q) := by
  unfold prcells
  rw [flatl_set _ h.cell k (pcell q) (by rw [List.length_map]; exact hk), List.map_set]
structure Prs (w : World) (X : Nat → Prop) (A : Option Addr) (n c : Nat) (qs : List PairV) : Prop where
  sl : SlV w X A n c 64 (prcells qs)
  len : qs.length = n
  all : Q32 qs
section
variable {w w' : World} {X Y : Nat → Prop} {A : Option Addr} {n c : Nat} {qs : List PairV}
theorem Prs.weak (h : Prs w X A n c qs) (hX : ∀ b, b < w.heap.size → X b → Y b) : Prs w Y A n c qs := ⟨h.sl.weak hX, h.len, h.all⟩
theorem Prs.step (h : Prs w X A n c qs) (hb : Below w.heap.size w w') : Prs w' X A n c qs := ⟨h.sl.step hb, h.len, h.all⟩
theorem Prs.at_ (h : Prs w X A n c qs) (hn : 0 < n) : ∃ b o, A = some ⟨b, o, none⟩ ∧ b < w.heap.size ∧ X b := by
  obtain ⟨b, o, h1, h2, h3, -⟩ := h.sl.at_ hn (by decide)
  exact ⟨b, o, h1, h2, h3⟩
end
abbrev pairZ : PairV := (List.replicate 32 0, List.replicate 32 0)
theorem prcells_zero : ∀ m : Nat, prcells (List.replicate m pairZ) = (List.replicate (m * 64) (0 : UInt8)).map B
  | 0 => rfl
  | m + 1 => by
    have := prcells_zero m
    unfold prcells at this ⊢
    rw [List.replicate_succ, List.map_cons, List.flatten_cons, this, show (m + 1) * 64 = 64 + m * 64 by omega, ← List.replicate_append_replicate, List.map_append]
    rfl
theorem ret_tmp_hash {fn : Func} {u p : Tmp} {tmps : Array Value} {W : World} {g : Nat} {l : List UInt8} (h : fn.results = #[.tmp u, .cell p 48]) (hp : tmps.getD p undef = .pointer (some ⟨g, 0, none⟩)) (k : HV W g l) : (results fn tmps).run Tryd.prog W = .ok (.tuple #[tmps.getD u undef, .agg (l.map B).toArray]) W := by
  have hp' : tmps[p]?.getD undef = .pointer (some ⟨g, 0, none⟩) := by simpa using hp
  simp [results, h, hp', asAddr, run_loadVar_row W g 48 48 (l.map B).toArray (0, 0) _ k.blk Tryd.underlying48 rfl (by rw [show (l.map B).toArray.size = 32 by simp [k.len]]; exact info26)]
section
variable {w : World} {ops : Array Oper} {rest : List Oper} {o : Oper} {a : Act} {Q : Exit → Act → World → Prop}
end

theorem run_make13_op {P : Program} {ρ : Operand → Value} {o : Oper} {w w' : World} {v : Value} {S : TypeId} (x y : Operand) (ho : o.op = .makeSlice S x y) (vx vy : Value) (hx : ρ x = vx) (hy : ρ y = vy) (h : (Instr.makeSlice S vx vy).run P w = .ok v w') : (execOp ρ o).run P w = .ok (.value v) w' := by
  unfold execOp
  simp only [ho, hx, hy, Sem.run_bind, Sem.run_pure, h, Result.andThen_ok]
section
variable {w W W' : World} {f : Nat} {H : Hf} {way : List Bool} {pf : List (List UInt8)} {a0 x : List UInt8} {L go i : Nat}
end
end Go.Proofs.YtfhmjgkcpcnkbaaDoor
