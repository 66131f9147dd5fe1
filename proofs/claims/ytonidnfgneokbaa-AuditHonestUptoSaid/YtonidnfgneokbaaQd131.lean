/- Ways down a tree, of any make; how a proof that one tree goes on another is gone through (plain). -/
import Derived.Test.YtonidnfgneokbaaQd130
import Derived.Test.YtonidnfgneokbaaQd128
namespace Go.Proofs.Ytonidnfgneokbaa
open Go

/-- a way that a tree of so many has -/
def fitsW : List Bool → Nat → Prop
  | [], n => 1 ≤ n
  | b :: way, n => 2 ≤ n ∧ fitsW way (if b = true then n - splitN n else splitN n)
theorem fitsW_pos : ∀ (way : List Bool) (n : Nat), fitsW way n → 1 ≤ n
  | [], _, h => h
  | _ :: _, _, h => by have := h.1; omega
/-- the way to an entry is such -/
theorem fitsW_I : ∀ (n i : Nat), 1 ≤ n → i < n → fitsW (wayI i n) n := by
  intro n
  induction n using Nat.strongRecOn with
  | ind n ih =>
    intro i h1 hi
    by_cases hn : n = 1
    · subst hn; rw [wayI_one]; exact h1
    · have h2 : 2 ≤ n := by omega
      have hlt := splitN_lt n h2
      have hp := splitN_pos n h2
      by_cases hk : splitN n ≤ i
      · rw [wayI_right i n h2 hi hk]
        exact ⟨h2, by rw [if_pos rfl]; exact ih _ (by omega) _ (by omega) (by omega)⟩
      · rw [wayI_left i n h2 (by omega)]
        exact ⟨h2, by rw [if_neg (by simp)]; exact ih _ (by omega) _ hp (by omega)⟩
def stC : Nat → Nat → Bool := fun s n => n == s
def rtC : Nat → Nat → Bool := fun s k => decide (k < s)
def wayC (m n : Nat) : List Bool := wayF stC rtC n m n
theorem wayF_C : ∀ (f g m n : Nat), n ≤ f → n ≤ g → 1 ≤ m → m ≤ n → wayF stC rtC f m n = wayF stC rtC g m n
  | 0, _, _, _, h, _, h1, hm => by omega
  | _, 0, _, _, _, h, h1, hm => by omega
  | f + 1, g + 1, m, n, h, h', h1, hm => by
    rw [wayF_s, wayF_s]
    by_cases hn : stC m n = true
    · rw [if_pos hn, if_pos hn]
    · have hn2 : n ≠ m := fun e => hn (by rw [e]; simp [stC])
      have hl := splitN_lt n (by omega)
      have hp := splitN_pos n (by omega)
      rw [if_neg hn, if_neg hn]
      by_cases hr : rtC m (splitN n) = true
      · have : splitN n < m := by simpa [rtC] using hr
        rw [if_pos hr, if_pos hr, wayF_C f g (m - splitN n) (n - splitN n) (by omega) (by omega) (by omega) (by omega)]
      · have : m ≤ splitN n := by simpa [rtC] using hr
        rw [if_neg hr, if_neg hr, wayF_C f g m (splitN n) (by omega) (by omega) h1 this]
theorem wayC_end (m : Nat) (h : 1 ≤ m) : wayC m m = [] := by
  unfold wayC
  obtain ⟨f, hf⟩ : ∃ f, m = f + 1 := ⟨m - 1, by omega⟩
  conv => lhs; rw [show wayF stC rtC m m m = wayF stC rtC (f + 1) m m by rw [← hf]]
  rw [wayF_s, if_pos (by simp [stC])]
theorem wayC_right (m n : Nat) (hm : m < n) (hk : splitN n < m) : wayC m n = true :: wayC (m - splitN n) (n - splitN n) := by
  have h2 : 2 ≤ n := by omega
  have hl := splitN_lt n h2
  have hp := splitN_pos n h2
  unfold wayC
  obtain ⟨f, hf⟩ : ∃ f, n = f + 1 := ⟨n - 1, by omega⟩
  conv => lhs; rw [show wayF stC rtC n m n = wayF stC rtC (f + 1) m n by rw [← hf]]
  rw [wayF_s, if_neg (by simp [stC]; omega), if_pos (by simp [rtC]; exact hk), wayF_C f (n - splitN n) _ _ (by omega) (by omega) (by omega) (by omega)]
theorem wayC_left (m n : Nat) (h1 : 1 ≤ m) (hm : m < n) (hk : m ≤ splitN n) : wayC m n = false :: wayC m (splitN n) := by
  have h2 : 2 ≤ n := by omega
  have hl := splitN_lt n h2
  have hp := splitN_pos n h2
  unfold wayC
  obtain ⟨f, hf⟩ : ∃ f, n = f + 1 := ⟨n - 1, by omega⟩
  conv => lhs; rw [show wayF stC rtC n m n = wayF stC rtC (f + 1) m n by rw [← hf]]
  rw [wayF_s, if_neg (by simp [stC]; omega), if_neg (by simp [rtC]; omega), wayF_C f (splitN n) _ _ (by omega) (by omega) h1 hk]
theorem fitsW_C : ∀ (n m : Nat), 1 ≤ m → m ≤ n → fitsW (wayC m n) n := by
  intro n
  induction n using Nat.strongRecOn with
  | ind n ih =>
    intro m h1 hm
    by_cases hn : m = n
    · subst hn; rw [wayC_end m h1]; exact h1
    · have h2 : 2 ≤ n := by omega
      have hlt := splitN_lt n h2
      have hp := splitN_pos n h2
      by_cases hk : m ≤ splitN n
      · rw [wayC_left m n h1 (by omega) hk]
        exact ⟨h2, by rw [if_neg (by simp)]; exact ih _ hlt _ h1 hk⟩
      · rw [wayC_right m n (by omega) (by omega)]
        exact ⟨h2, by rw [if_pos rfl]; exact ih _ (by omega) _ (by omega) (by omega)⟩
/-- what is told is a clash, on any way -/
theorem lieF_clashW (H : Hf) (hH : ∀ l, (H l).length = 32) (a0 : List UInt8) (ha : a0.length = 32) : ∀ (way : List Bool) (pf : List (List UInt8)) (d : List (List UInt8)), (∀ x ∈ pf, x.length = 32) → fitsW way d.length → pf.length = way.length → atI H way pf a0 way.length = rootA H d →
    ∀ p h r, lieF H way (saidL H way pf a0) d = (some (p, h), r) → nodeD p ≠ nodeD h ∧ H (nodeD p) = H (nodeD h)
  | [], pf, d, _, _, _, _, p, h, r, e => by cases e
  | b :: way, pf, d, hp, hw, hl, hr, p, h, r, e => by
    have hd : 2 ≤ d.length := hw.1
    have hlt := splitN_lt d.length hd
    have hat : ∀ w p j, (atI H w p a0 j).length = 32 := fun w p j => by cases j with | zero => exact ha | succ j => exact hH _
    have hx32 : (pf.getD way.length []).length = 32 := by
      rw [List.getD_eq_getElem?_getD, List.getElem?_eq_getElem (by rw [hl]; simp)]
      exact hp _ (List.getElem_mem _)
    rw [List.length_cons, atI_succ, rootA_more H d hd, prI_top] at hr
    rw [saidL_cons, prI_top] at e
    have hp1 : (pairB b (pf.getD way.length []) (atI H way (pf.take way.length) a0 way.length)).1.length = 32 := by
      unfold pairB
      split
      · exact hx32
      · exact hat _ _ _
    unfold lieF at e
    by_cases he : pairB b (pf.getD way.length []) (atI H way (pf.take way.length) a0 way.length) = (rootA H (d.take (splitN d.length)), rootA H (d.drop (splitN d.length)))
    · rw [if_pos he] at e
      have hp' : ∀ x ∈ pf.take way.length, x.length = 32 := fun x hx => hp x (List.mem_of_mem_take hx)
      have hl' : (pf.take way.length).length = way.length := by rw [List.length_take, hl]; simp
      have hw2 := hw.2
      cases b with
      | true =>
        rw [if_pos rfl] at e hw2
        exact lieF_clashW H hH a0 ha way (pf.take way.length) _ hp' (by rw [List.length_drop]; exact hw2) hl' (congrArg Prod.snd he) p h r e
      | false =>
        rw [if_neg (by simp)] at e hw2
        exact lieF_clashW H hH a0 ha way (pf.take way.length) _ hp' (by rw [List.length_take, Nat.min_eq_left (by omega)]; exact hw2) hl' (congrArg Prod.fst he) p h r e
    · rw [if_neg he] at e
      cases e
      exact ⟨fun e => he (nodeD_inj hp1 (length_rootA H hH _) e), hr⟩
end Go.Proofs.Ytonidnfgneokbaa
/- A proof that one tree goes on another: the answer to it (plain). -/
namespace Go.Proofs.Ytonidnfgneokbaa
open Go

/-- the root of the first tree: where the way goes to the right, what is to the left belongs to it -/
def elderI (H : Hf) (way : List Bool) (pf : List (List UInt8)) (a0 : List UInt8) : Nat → List UInt8
  | 0 => a0
  | i + 1 => if way.getD (way.length - 1 - i) false = true then H (nodeD (pf.getD i [], elderI H way pf a0 i)) else elderI H way pf a0 i
theorem elderI_succ (H : Hf) (way : List Bool) (pf : List (List UInt8)) (a0 : List UInt8) (i : Nat) : elderI H way pf a0 (i + 1) = if way.getD (way.length - 1 - i) false = true then H (nodeD (pf.getD i [], elderI H way pf a0 i)) else elderI H way pf a0 i := rfl
theorem length_elderI (H : Hf) (hH : ∀ l, (H l).length = 32) (a0 : List UInt8) (ha : a0.length = 32) (w : List Bool) (p : List (List UInt8)) : ∀ j, (elderI H w p a0 j).length = 32
  | 0 => ha
  | j + 1 => by
    rw [elderI_succ]
    split
    · exact hH _
    · exact length_elderI H hH a0 ha w p j
theorem elderI_cons (H : Hf) (b : Bool) (way : List Bool) (pf : List (List UInt8)) (a0 : List UInt8) : ∀ j, j ≤ way.length → elderI H (b :: way) pf a0 j = elderI H way (pf.take way.length) a0 j
  | 0, _ => rfl
  | j + 1, h => by
    rw [elderI_succ, elderI_succ, elderI_cons H b way pf a0 j (by omega), List.length_cons, show way.length + 1 - 1 - j = (way.length - 1 - j) + 1 by omega, List.getD_cons_succ]
    rw [show (pf.take way.length).getD j [] = pf.getD j [] by rw [List.getD_eq_getElem?_getD, List.getD_eq_getElem?_getD, List.getElem?_take_of_lt (by omega)]]
/-- does the way begin with a hash of its own (else the first tree's root is where it begins) -/
def ownW (whole : Bool) (way : List Bool) : Bool := !whole || way.contains true
def seedX (whole : Bool) (way : List Bool) (first : List UInt8) (pf : List (List UInt8)) : List UInt8 := if ownW whole way = true then pf.getD 0 [] else first
def seedB (whole : Bool) (way : List Bool) (pf : List (List UInt8)) : List (List UInt8) := if ownW whole way = true then pf.drop 1 else pf
def cntW (whole : Bool) (way : List Bool) : Nat := way.length + if ownW whole way = true then 1 else 0
theorem ownW_false (whole : Bool) (way : List Bool) : ownW whole (false :: way) = ownW whole way := by
  unfold ownW
  cases whole <;> simp
theorem ownW_true (whole : Bool) (way : List Bool) : ownW whole (true :: way) = true := by
  unfold ownW
  simp
theorem ownW_part (way : List Bool) : ownW false way = true := rfl
theorem seedB_len (whole : Bool) (way : List Bool) (pf : List (List UInt8)) (h : pf.length = cntW whole way) : (seedB whole way pf).length = way.length := by
  unfold seedB cntW at *
  split
  · rename_i h1; rw [if_pos h1] at h; rw [List.length_drop]; omega
  · rename_i h1; rw [if_neg h1] at h; omega
theorem seedX_len (whole : Bool) (way : List Bool) (first : List UInt8) (pf : List (List UInt8)) (hf : first.length = 32) (hp : ∀ x ∈ pf, x.length = 32) (h : pf.length = cntW whole way) : (seedX whole way first pf).length = 32 := by
  unfold seedX cntW at *
  split
  · rename_i h1
    rw [if_pos h1] at h
    rw [List.getD_eq_getElem?_getD, List.getElem?_eq_getElem (by omega)]
    exact hp _ (List.getElem_mem _)
  · exact hf
theorem seedB_mem (whole : Bool) (way : List Bool) (pf : List (List UInt8)) (hp : ∀ x ∈ pf, x.length = 32) : ∀ x ∈ seedB whole way pf, x.length = 32 := by
  unfold seedB
  split
  · exact fun x hx => hp x (List.mem_of_mem_drop hx)
  · exact hp
/-- the answer to a proof that one tree goes on another -/
def consM (H : Hf) (way : List Bool) (sd : List PairV) (d : List (List UInt8)) : PairV × Int :=
  match lieF H way sd d with
  | (some (p, h), _) => ((nodeD p, nodeD h), 0)
  | (none, _) => (noC, 231)
def consC (H : Hf) (d : List (List UInt8)) (m : Int) (first : List UInt8) (pf : List (List UInt8)) : PairV × Int :=
  if bigD d = true then (noC, 2) else if m < 1 ∨ (d.length : Int) < m then (noC, 4)
  else if pf.length ≠ cntW true (wayC m.toNat d.length) then (noC, 230)
  else if atI H (wayC m.toNat d.length) (seedB true (wayC m.toNat d.length) pf) (seedX true (wayC m.toNat d.length) first pf) (wayC m.toNat d.length).length ≠ rootA H d ∨ elderI H (wayC m.toNat d.length) (seedB true (wayC m.toNat d.length) pf) (seedX true (wayC m.toNat d.length) first pf) (wayC m.toNat d.length).length ≠ first then (noC, 230)
  else consM H (wayC m.toNat d.length) (saidL H (wayC m.toNat d.length) (seedB true (wayC m.toNat d.length) pf) (seedX true (wayC m.toNat d.length) first pf)) d
theorem consC_is (H : Hf) (hH : ∀ l, (H l).length = 32) (d : List (List UInt8)) (m : Int) (first : List UInt8) (pf : List (List UInt8)) (hf : first.length = 32) (hp : ∀ x ∈ pf, x.length = 32) (h : (consC H d m first pf).2 = 0) : isC H (consC H d m first pf).1 = true := by
  unfold consC at h ⊢
  split at h
  · cases h
  rename_i h1
  rw [if_neg h1]
  split at h
  · cases h
  rename_i h2
  rw [if_neg h2]
  split at h
  · cases h
  rename_i h3
  rw [if_neg h3]
  split at h
  · cases h
  rename_i h4
  rw [if_neg h4]
  rw [not_or] at h2 h4
  have h3 := Decidable.not_not.1 h3
  have hr := Decidable.not_not.1 h4.1
  have hfit := fitsW_C d.length m.toNat (by omega) (by omega)
  obtain ⟨way, hway⟩ : ∃ way, wayC m.toNat d.length = way := ⟨_, rfl⟩
  rw [hway] at h h3 hr hfit ⊢
  have hc := lieF_clashW H hH (seedX true way first pf) (seedX_len true way first pf hf hp h3) way (seedB true way pf) d (seedB_mem true way pf hp) hfit (seedB_len true way pf h3) hr
  unfold consM at h ⊢
  obtain ⟨⟨o, r⟩, hq⟩ : ∃ q, lieF H way (saidL H way (seedB true way pf) (seedX true way first pf)) d = q := ⟨_, rfl⟩
  rw [hq] at h hc ⊢
  cases o with
  | some q =>
    obtain ⟨p, k⟩ := q
    obtain ⟨g1, g2⟩ := hc p k r rfl
    exact isC_of H _ g1 g2
  | none => cases h
end Go.Proofs.Ytonidnfgneokbaa
/- The proofs of the definition do not lie (plain). -/
namespace Go.Proofs.Ytonidnfgneokbaa
open Go

theorem splitN_keep (m n : Nat) (h : splitN n < m) (hn : m ≤ n) (h2 : 2 ≤ n) : splitN m = splitN n := by
  obtain ⟨j, h1, h3, h4⟩ := splitN_pow n h2
  rw [h1]
  exact splitN_eq m j (by omega) (by omega)
/-- what lies beside a way, from its end up -/
def besideW (H : Hf) : List Bool → List (List UInt8) → List (List UInt8)
  | [], _ => []
  | b :: way, d => besideW H way (if b = true then d.drop (splitN d.length) else d.take (splitN d.length)) ++ [rootA H (if b = true then d.take (splitN d.length) else d.drop (splitN d.length))]
/-- the node at a way's end -/
def endW : List Bool → List (List UInt8) → List (List UInt8)
  | [], d => d
  | b :: way, d => endW way (if b = true then d.drop (splitN d.length) else d.take (splitN d.length))
theorem length_besideW (H : Hf) : ∀ (way : List Bool) (d : List (List UInt8)), (besideW H way d).length = way.length
  | [], _ => rfl
  | b :: way, d => by
    unfold besideW
    rw [List.length_append, length_besideW H way]
    rfl
theorem besideW_all (H : Hf) (hH : ∀ l, (H l).length = 32) : ∀ (way : List Bool) (d : List (List UInt8)), ∀ x ∈ besideW H way d, x.length = 32
  | [], _, x, hx => by cases hx
  | b :: way, d, x, hx => by
    unfold besideW at hx
    rcases List.mem_append.1 hx with h | h
    · exact besideW_all H hH way _ x h
    · rw [List.mem_singleton.1 h]; exact length_rootA H hH _
theorem endW_sub : ∀ (way : List Bool) (d : List (List UInt8)), ∀ x ∈ endW way d, x ∈ d
  | [], _, x, hx => hx
  | b :: way, d, x, hx => by
    unfold endW at hx
    have h := endW_sub way _ x hx
    split at h
    · exact List.mem_of_mem_drop h
    · exact List.mem_of_mem_take h
theorem besideW_take (H : Hf) (b : Bool) (way : List Bool) (d : List (List UInt8)) : (besideW H (b :: way) d).take way.length = besideW H way (if b = true then d.drop (splitN d.length) else d.take (splitN d.length)) := by
  conv => lhs; unfold besideW
  rw [List.take_append_of_le_length (by rw [length_besideW]; exact Nat.le_refl _), List.take_of_length_le (by rw [length_besideW]; exact Nat.le_refl _)]
theorem besideW_top (H : Hf) (b : Bool) (way : List Bool) (d : List (List UInt8)) : (besideW H (b :: way) d).getD way.length [] = rootA H (if b = true then d.take (splitN d.length) else d.drop (splitN d.length)) := by
  unfold besideW
  rw [List.getD_eq_getElem?_getD, List.getElem?_append_right (by rw [length_besideW]; exact Nat.le_refl _), length_besideW, Nat.sub_self]
  rfl
theorem endW_t (way : List Bool) (d : List (List UInt8)) : endW (true :: way) d = endW way (d.drop (splitN d.length)) := rfl
theorem endW_f (way : List Bool) (d : List (List UInt8)) : endW (false :: way) d = endW way (d.take (splitN d.length)) := rfl
theorem besideW_take_t (H : Hf) (way : List Bool) (d : List (List UInt8)) : (besideW H (true :: way) d).take way.length = besideW H way (d.drop (splitN d.length)) := besideW_take H true way d
theorem besideW_take_f (H : Hf) (way : List Bool) (d : List (List UInt8)) : (besideW H (false :: way) d).take way.length = besideW H way (d.take (splitN d.length)) := besideW_take H false way d
theorem besideW_top_t (H : Hf) (way : List Bool) (d : List (List UInt8)) : (besideW H (true :: way) d).getD way.length [] = rootA H (d.take (splitN d.length)) := besideW_top H true way d
theorem honest_at (H : Hf) : ∀ (way : List Bool) (d : List (List UInt8)), fitsW way d.length → atI H way (besideW H way d) (rootA H (endW way d)) way.length = rootA H d ∧ lieF H way (saidL H way (besideW H way d) (rootA H (endW way d))) d = (none, endW way d)
  | [], d, _ => ⟨rfl, by unfold lieF; rfl⟩
  | b :: way, d, hw => by
    have hd : 2 ≤ d.length := hw.1
    have hlt := splitN_lt d.length hd
    have hw2 : fitsW way (if b = true then d.drop (splitN d.length) else d.take (splitN d.length)).length := by
      have h := hw.2
      cases b with
      | true => rw [if_pos rfl] at h ⊢; rw [List.length_drop]; exact h
      | false => rw [if_neg (by simp)] at h ⊢; rw [List.length_take, Nat.min_eq_left (by omega)]; exact h
    obtain ⟨h1, h2⟩ := honest_at H way _ hw2
    have hp : prI H (b :: way) (besideW H (b :: way) d) (rootA H (endW (b :: way) d)) way.length = (rootA H (d.take (splitN d.length)), rootA H (d.drop (splitN d.length))) := by
      rw [prI_top, besideW_take, besideW_top]
      show pairB b _ (atI H way _ (rootA H (endW way _)) way.length) = _
      rw [h1]
      cases b <;> rfl
    refine ⟨?_, ?_⟩
    · rw [List.length_cons, atI_succ, hp, ← rootA_more H d hd]
    · rw [saidL_cons, lieF_step H b way _ _ d hp, besideW_take]
      exact h2
/-- the way to an entry ends at it -/
theorem endW_I : ∀ (n i : Nat) (d : List (List UInt8)), d.length = n → i < n → endW (wayI i n) d = [d.getD i []] := by
  intro n
  induction n using Nat.strongRecOn with
  | ind n ih =>
    intro i d hd hi
    by_cases h1 : n = 1
    · subst h1
      obtain ⟨x, rfl⟩ := List.length_eq_one_iff.1 hd
      have : i = 0 := by omega
      subst this
      rfl
    · have h2 : 2 ≤ n := by omega
      have hlt := splitN_lt n h2
      have hp := splitN_pos n h2
      by_cases hk : splitN n ≤ i
      · rw [wayI_right i n h2 hi hk]
        rw [endW_t, hd, ih (n - splitN n) (by omega) (i - splitN n) (d.drop (splitN n)) (by rw [List.length_drop, hd]) (by omega)]
        rw [List.getD_eq_getElem?_getD, List.getD_eq_getElem?_getD, List.getElem?_drop, show splitN n + (i - splitN n) = i by omega]
      · rw [wayI_left i n h2 (by omega)]
        rw [endW_f, hd, ih (splitN n) hlt i (d.take (splitN n)) (by rw [List.length_take, hd]; omega) (by omega)]
        rw [List.getD_eq_getElem?_getD, List.getD_eq_getElem?_getD, List.getElem?_take_of_lt (by omega)]
/-- an honest proof that an entry is in -/
theorem honest_I (H : Hf) (d : List (List UInt8)) (i : Nat) (hi : i < d.length) (hb : bigD d = false) : inclC H d (i : Int) (d.getD i []) (besideW H (wayI i d.length) d) = (noC, 231) := by
  have hb2 := bigD_not d hb
  have he : (d.getD i []).length ≤ 4096 := by
    rw [List.getD_eq_getElem?_getD, List.getElem?_eq_getElem hi]
    exact hb2.2 _ (List.getElem_mem _)
  have hend := endW_I d.length i d rfl hi
  have hr1 : rootA H (endW (wayI i d.length) d) = H (leafD (d.getD i [])) := by rw [hend, rootA_one H _ rfl]; rfl
  obtain ⟨h1, h2⟩ := honest_at H (wayI i d.length) d (fitsW_I d.length i (by omega) hi)
  rw [hr1] at h1 h2
  rw [inclC_n H d i _ _ (by rw [hb, not_or]; exact ⟨by simp, by omega⟩) hi, if_neg (fun h => h (length_besideW H _ d)), length_besideW, if_neg (fun h => h h1)]
  unfold inclM
  rw [h2, hend]
  show (if d.getD i [] = d.getD i [] then _ else _) = _
  rw [if_pos rfl]
/-- the root of the first tree, out of an honest proof -/
theorem honest_elder (H : Hf) : ∀ (n m : Nat) (d : List (List UInt8)), d.length = n → 1 ≤ m → m ≤ n → elderI H (wayC m n) (besideW H (wayC m n) d) (rootA H (endW (wayC m n) d)) (wayC m n).length = rootA H (d.take m) := by
  intro n
  induction n using Nat.strongRecOn with
  | ind n ih =>
    intro m d hd h1 hm
    by_cases hn : m = n
    · subst hn
      rw [wayC_end m h1, List.take_of_length_le (by omega)]
      rfl
    · have h2 : 2 ≤ n := by omega
      have hlt := splitN_lt n h2
      have hp := splitN_pos n h2
      by_cases hk : m ≤ splitN n
      · rw [wayC_left m n h1 (by omega) hk, List.length_cons, elderI_succ, List.length_cons, show (wayC m (splitN n)).length + 1 - 1 - (wayC m (splitN n)).length = 0 by omega, List.getD_cons_zero, if_neg (by simp), elderI_cons _ _ _ _ _ _ (Nat.le_refl _), besideW_take_f, endW_f, hd, ih (splitN n) hlt m (d.take (splitN n)) (by rw [List.length_take, hd]; omega) h1 hk, List.take_take, Nat.min_eq_left hk]
      · rw [wayC_right m n (by omega) (by omega), List.length_cons, elderI_succ, List.length_cons, show (wayC (m - splitN n) (n - splitN n)).length + 1 - 1 - (wayC (m - splitN n) (n - splitN n)).length = 0 by omega, List.getD_cons_zero, if_pos rfl, elderI_cons _ _ _ _ _ _ (Nat.le_refl _), besideW_take_t, besideW_top_t, endW_t, hd, ih (n - splitN n) (by omega) (m - splitN n) (d.drop (splitN n)) (by rw [List.length_drop, hd]) (by omega) (by omega)]
        have hlm : (d.take m).length = m := by rw [List.length_take, hd]; omega
        rw [rootA_more H (d.take m) (by rw [hlm]; omega), hlm, splitN_keep m n (by omega) hm h2, List.take_take, Nat.min_eq_left (by omega), List.drop_take]
/-- where a way never turns to the right, it ends at the first entries -/
theorem endW_left : ∀ (n m : Nat) (d : List (List UInt8)), d.length = n → 1 ≤ m → m ≤ n → (wayC m n).contains true = false → endW (wayC m n) d = d.take m := by
  intro n
  induction n using Nat.strongRecOn with
  | ind n ih =>
    intro m d hd h1 hm hc
    by_cases hn : m = n
    · subst hn
      rw [wayC_end m h1, List.take_of_length_le (by omega)]
      rfl
    · have h2 : 2 ≤ n := by omega
      have hlt := splitN_lt n h2
      have hp := splitN_pos n h2
      by_cases hk : m ≤ splitN n
      · rw [wayC_left m n h1 (by omega) hk] at hc ⊢
        rw [endW_f, hd, ih (splitN n) hlt m (d.take (splitN n)) (by rw [List.length_take, hd]; omega) h1 hk (by simpa using hc), List.take_take, Nat.min_eq_left hk]
      · rw [wayC_right m n (by omega) (by omega)] at hc
        simp at hc
/-- an honest proof that one tree goes on another -/
def linkL (H : Hf) (whole : Bool) (m : Nat) (d : List (List UInt8)) : List (List UInt8) :=
  (if ownW whole (wayC m d.length) = true then [rootA H (endW (wayC m d.length) d)] else []) ++ besideW H (wayC m d.length) d
theorem besideW_t (H : Hf) (way : List Bool) (d : List (List UInt8)) : besideW H (true :: way) d = besideW H way (d.drop (splitN d.length)) ++ [rootA H (d.take (splitN d.length))] := rfl
theorem besideW_f (H : Hf) (way : List Bool) (d : List (List UInt8)) : besideW H (false :: way) d = besideW H way (d.take (splitN d.length)) ++ [rootA H (d.drop (splitN d.length))] := rfl
theorem linkL_end (H : Hf) (whole : Bool) (d : List (List UInt8)) (h : 1 ≤ d.length) : linkL H whole d.length d = if whole = true then [] else [rootA H d] := by
  unfold linkL
  rw [wayC_end d.length h]
  cases whole <;> rfl
theorem linkL_left (H : Hf) (whole : Bool) (m : Nat) (d : List (List UInt8)) (h1 : 1 ≤ m) (hm : m < d.length) (hk : m ≤ splitN d.length) : linkL H whole m d = linkL H whole m (d.take (splitN d.length)) ++ [rootA H (d.drop (splitN d.length))] := by
  have hlt := splitN_lt d.length (by omega)
  have e : (d.take (splitN d.length)).length = splitN d.length := by rw [List.length_take]; omega
  unfold linkL
  rw [e, wayC_left m d.length h1 hm hk, ownW_false, besideW_f, endW_f, List.append_assoc]
theorem linkL_right (H : Hf) (whole : Bool) (m : Nat) (d : List (List UInt8)) (hm : m < d.length) (hk : splitN d.length < m) : linkL H whole m d = linkL H false (m - splitN d.length) (d.drop (splitN d.length)) ++ [rootA H (d.take (splitN d.length))] := by
  unfold linkL
  rw [List.length_drop, wayC_right m d.length hm hk, ownW_true, ownW_part, besideW_t, endW_t, if_pos rfl, List.append_assoc]
theorem length_linkL (H : Hf) (whole : Bool) (m : Nat) (d : List (List UInt8)) : (linkL H whole m d).length ≤ d.length + 1 := by
  have := wayF_le stC rtC d.length m d.length
  unfold linkL
  rw [List.length_append, length_besideW]
  unfold wayC
  split <;> simp <;> omega
theorem linkL_all (H : Hf) (hH : ∀ l, (H l).length = 32) (whole : Bool) (m : Nat) (d : List (List UInt8)) : ∀ x ∈ linkL H whole m d, x.length = 32 := by
  intro x hx
  unfold linkL at hx
  rcases List.mem_append.1 hx with h | h
  · split at h
    · rw [List.mem_singleton.1 h]; exact length_rootA H hH _
    · cases h
  · exact besideW_all H hH _ _ x h
theorem honest_C (H : Hf) (d : List (List UInt8)) (m : Nat) (h1 : 1 ≤ m) (hm : m ≤ d.length) (hb : bigD d = false) : consC H d (m : Int) (rootA H (d.take m)) (linkL H true m d) = (noC, 231) := by
  have hlen : (linkL H true m d).length = cntW true (wayC m d.length) := by
    unfold linkL cntW
    rw [List.length_append, length_besideW]
    split <;> simp <;> omega
  have hB : seedB true (wayC m d.length) (linkL H true m d) = besideW H (wayC m d.length) d := by
    unfold seedB linkL
    split <;> rfl
  have hX : seedX true (wayC m d.length) (rootA H (d.take m)) (linkL H true m d) = rootA H (endW (wayC m d.length) d) := by
    unfold seedX linkL
    by_cases ho : ownW true (wayC m d.length) = true
    · rw [if_pos ho, if_pos ho]; rfl
    · rw [if_neg ho]
      have hc : (wayC m d.length).contains true = false := by simpa [ownW] using ho
      rw [endW_left d.length m d rfl h1 hm hc]
  obtain ⟨g1, g2⟩ := honest_at H (wayC m d.length) d (fitsW_C d.length m h1 hm)
  have g3 := honest_elder H d.length m d rfl h1 hm
  unfold consC
  rw [Int.toNat_natCast, if_neg (by rw [hb]; simp), if_neg (by omega), if_neg (by rw [hlen]; simp), hB, hX, g1, g3, if_neg (by simp)]
  unfold consM
  rw [g2]
end Go.Proofs.Ytonidnfgneokbaa
