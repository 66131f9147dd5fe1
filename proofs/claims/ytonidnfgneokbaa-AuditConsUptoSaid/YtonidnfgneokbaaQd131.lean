/- Ways down a tree, of any make; how a proof that one tree goes on another is gone through (plain). -/
import Derived.Test.YtonidnfgneokbaaQd130
namespace Go.Proofs.Ytonidnfgneokbaa
open Go

/-- a way that a tree of so many has -/
def fitsW : List Bool → Nat → Prop
  | [], n => 1 ≤ n
  | b :: way, n => 2 ≤ n ∧ fitsW way (if b = true then n - splitN n else splitN n)
theorem fitsW_pos : ∀ (way : List Bool) (n : Nat), fitsW way n → 1 ≤ n
  | [], _, h => h
  | _ :: _, _, h => by have := h.1; omega
/-- the way to an entry is such -/
theorem fitsW_I : ∀ (n i : Nat), 1 ≤ n → i < n → fitsW (wayI i n) n := by
  intro n
  induction n using Nat.strongRecOn with
  | ind n ih =>
    intro i h1 hi
    by_cases hn : n = 1
    · subst hn; rw [wayI_one]; exact h1
    · have h2 : 2 ≤ n := by omega
      have hlt := splitN_lt n h2
      have hp := splitN_pos n h2
      by_cases hk : splitN n ≤ i
      · rw [wayI_right i n h2 hi hk]
        exact ⟨h2, by rw [if_pos rfl]; exact ih _ (by omega) _ (by omega) (by omega)⟩
      · rw [wayI_left i n h2 (by omega)]
        exact ⟨h2, by rw [if_neg (by simp)]; exact ih _ (by omega) _ hp (by omega)⟩
def stC : Nat → Nat → Bool := fun s n => n == s
def rtC : Nat → Nat → Bool := fun s k => decide (k < s)
def wayC (m n : Nat) : List Bool := wayF stC rtC n m n
theorem wayF_C : ∀ (f g m n : Nat), n ≤ f → n ≤ g → 1 ≤ m → m ≤ n → wayF stC rtC f m n = wayF stC rtC g m n
  | 0, _, _, _, h, _, h1, hm => by omega
  | _, 0, _, _, _, h, h1, hm => by omega
  | f + 1, g + 1, m, n, h, h', h1, hm => by
    rw [wayF_s, wayF_s]
    by_cases hn : stC m n = true
    · rw [if_pos hn, if_pos hn]
    · have hn2 : n ≠ m := fun e => hn (by rw [e]; simp [stC])
      have hl := splitN_lt n (by omega)
      have hp := splitN_pos n (by omega)
      rw [if_neg hn, if_neg hn]
      by_cases hr : rtC m (splitN n) = true
      · have : splitN n < m := by simpa [rtC] using hr
        rw [if_pos hr, if_pos hr, wayF_C f g (m - splitN n) (n - splitN n) (by omega) (by omega) (by omega) (by omega)]
      · have : m ≤ splitN n := by simpa [rtC] using hr
        rw [if_neg hr, if_neg hr, wayF_C f g m (splitN n) (by omega) (by omega) h1 this]
theorem wayC_end (m : Nat) (h : 1 ≤ m) : wayC m m = [] := by
  unfold wayC
  obtain ⟨f, hf⟩ : ∃ f, m = f + 1 := ⟨m - 1, by omega⟩
  conv => lhs; rw [show wayF stC rtC m m m = wayF stC rtC (f + 1) m m by rw [← hf]]
  rw [wayF_s, if_pos (by simp [stC])]
theorem wayC_right (m n : Nat) (hm : m < n) (hk : splitN n < m) : wayC m n = true :: wayC (m - splitN n) (n - splitN n) := by
  have h2 : 2 ≤ n := by omega
  have hl := splitN_lt n h2
  have hp := splitN_pos n h2
  unfold wayC
  obtain ⟨f, hf⟩ : ∃ f, n = f + 1 := ⟨n - 1, by omega⟩
  conv => lhs; rw [show wayF stC rtC n m n = wayF stC rtC (f + 1) m n by rw [← hf]]
  rw [wayF_s, if_neg (by simp [stC]; omega), if_pos (by simp [rtC]; exact hk), wayF_C f (n - splitN n) _ _ (by omega) (by omega) (by omega) (by omega)]
theorem wayC_left (m n : Nat) (h1 : 1 ≤ m) (hm : m < n) (hk : m ≤ splitN n) : wayC m n = false :: wayC m (splitN n) := by
  have h2 : 2 ≤ n := by omega
  have hl := splitN_lt n h2
  have hp := splitN_pos n h2
  unfold wayC
  obtain ⟨f, hf⟩ : ∃ f, n = f + 1 := ⟨n - 1, by omega⟩
  conv => lhs; rw [show wayF stC rtC n m n = wayF stC rtC (f + 1) m n by rw [← hf]]
  rw [wayF_s, if_neg (by simp [stC]; omega), if_neg (by simp [rtC]; omega), wayF_C f (splitN n) _ _ (by omega) (by omega) h1 hk]
theorem fitsW_C : ∀ (n m : Nat), 1 ≤ m → m ≤ n → fitsW (wayC m n) n := by
  intro n
  induction n using Nat.strongRecOn with
  | ind n ih =>
    intro m h1 hm
    by_cases hn : m = n
    · subst hn; rw [wayC_end m h1]; exact h1
    · have h2 : 2 ≤ n := by omega
      have hlt := splitN_lt n h2
      have hp := splitN_pos n h2
      by_cases hk : m ≤ splitN n
      · rw [wayC_left m n h1 (by omega) hk]
        exact ⟨h2, by rw [if_neg (by simp)]; exact ih _ hlt _ h1 hk⟩
      · rw [wayC_right m n (by omega) (by omega)]
        exact ⟨h2, by rw [if_pos rfl]; exact ih _ (by omega) _ (by omega) (by omega)⟩
/-- what is told is a clash, on any way -/
theorem lieF_clashW (H : Hf) (hH : ∀ l, (H l).length = 32) (a0 : List UInt8) (ha : a0.length = 32) : ∀ (way : List Bool) (pf : List (List UInt8)) (d : List (List UInt8)), (∀ x ∈ pf, x.length = 32) → fitsW way d.length → pf.length = way.length → atI H way pf a0 way.length = rootA H d →
    ∀ p h r, lieF H way (saidL H way pf a0) d = (some (p, h), r) → nodeD p ≠ nodeD h ∧ H (nodeD p) = H (nodeD h)
  | [], pf, d, _, _, _, _, p, h, r, e => by cases e
  | b :: way, pf, d, hp, hw, hl, hr, p, h, r, e => by
    have hd : 2 ≤ d.length := hw.1
    have hlt := splitN_lt d.length hd
    have hat : ∀ w p j, (atI H w p a0 j).length = 32 := fun w p j => by cases j with | zero => exact ha | succ j => exact hH _
    have hx32 : (pf.getD way.length []).length = 32 := by
      rw [List.getD_eq_getElem?_getD, List.getElem?_eq_getElem (by rw [hl]; simp)]
      exact hp _ (List.getElem_mem _)
    rw [List.length_cons, atI_succ, rootA_more H d hd, prI_top] at hr
    rw [saidL_cons, prI_top] at e
    have hp1 : (pairB b (pf.getD way.length []) (atI H way (pf.take way.length) a0 way.length)).1.length = 32 := by
      unfold pairB
      split
      · exact hx32
      · exact hat _ _ _
    unfold lieF at e
    by_cases he : pairB b (pf.getD way.length []) (atI H way (pf.take way.length) a0 way.length) = (rootA H (d.take (splitN d.length)), rootA H (d.drop (splitN d.length)))
    · rw [if_pos he] at e
      have hp' : ∀ x ∈ pf.take way.length, x.length = 32 := fun x hx => hp x (List.mem_of_mem_take hx)
      have hl' : (pf.take way.length).length = way.length := by rw [List.length_take, hl]; simp
      have hw2 := hw.2
      cases b with
      | true =>
        rw [if_pos rfl] at e hw2
        exact lieF_clashW H hH a0 ha way (pf.take way.length) _ hp' (by rw [List.length_drop]; exact hw2) hl' (congrArg Prod.snd he) p h r e
      | false =>
        rw [if_neg (by simp)] at e hw2
        exact lieF_clashW H hH a0 ha way (pf.take way.length) _ hp' (by rw [List.length_take, Nat.min_eq_left (by omega)]; exact hw2) hl' (congrArg Prod.fst he) p h r e
    · rw [if_neg he] at e
      cases e
      exact ⟨fun e => he (nodeD_inj hp1 (length_rootA H hH _) e), hr⟩
end Go.Proofs.Ytonidnfgneokbaa
/- A proof that one tree goes on another: the answer to it (plain). -/
namespace Go.Proofs.Ytonidnfgneokbaa
open Go

/-- the root of the first tree: where the way goes to the right, what is to the left belongs to it -/
def elderI (H : Hf) (way : List Bool) (pf : List (List UInt8)) (a0 : List UInt8) : Nat → List UInt8
  | 0 => a0
  | i + 1 => if way.getD (way.length - 1 - i) false = true then H (nodeD (pf.getD i [], elderI H way pf a0 i)) else elderI H way pf a0 i
theorem elderI_succ (H : Hf) (way : List Bool) (pf : List (List UInt8)) (a0 : List UInt8) (i : Nat) : elderI H way pf a0 (i + 1) = if way.getD (way.length - 1 - i) false = true then H (nodeD (pf.getD i [], elderI H way pf a0 i)) else elderI H way pf a0 i := rfl
theorem length_elderI (H : Hf) (hH : ∀ l, (H l).length = 32) (a0 : List UInt8) (ha : a0.length = 32) (w : List Bool) (p : List (List UInt8)) : ∀ j, (elderI H w p a0 j).length = 32
  | 0 => ha
  | j + 1 => by
    rw [elderI_succ]
    split
    · exact hH _
    · exact length_elderI H hH a0 ha w p j
theorem elderI_cons (H : Hf) (b : Bool) (way : List Bool) (pf : List (List UInt8)) (a0 : List UInt8) : ∀ j, j ≤ way.length → elderI H (b :: way) pf a0 j = elderI H way (pf.take way.length) a0 j
  | 0, _ => rfl
  | j + 1, h => by
    rw [elderI_succ, elderI_succ, elderI_cons H b way pf a0 j (by omega), List.length_cons, show way.length + 1 - 1 - j = (way.length - 1 - j) + 1 by omega, List.getD_cons_succ]
    rw [show (pf.take way.length).getD j [] = pf.getD j [] by rw [List.getD_eq_getElem?_getD, List.getD_eq_getElem?_getD, List.getElem?_take_of_lt (by omega)]]
/-- does the way begin with a hash of its own (else the first tree's root is where it begins) -/
def ownW (whole : Bool) (way : List Bool) : Bool := !whole || way.contains true
def seedX (whole : Bool) (way : List Bool) (first : List UInt8) (pf : List (List UInt8)) : List UInt8 := if ownW whole way = true then pf.getD 0 [] else first
def seedB (whole : Bool) (way : List Bool) (pf : List (List UInt8)) : List (List UInt8) := if ownW whole way = true then pf.drop 1 else pf
def cntW (whole : Bool) (way : List Bool) : Nat := way.length + if ownW whole way = true then 1 else 0
theorem ownW_false (whole : Bool) (way : List Bool) : ownW whole (false :: way) = ownW whole way := by
  unfold ownW
  cases whole <;> simp
theorem ownW_true (whole : Bool) (way : List Bool) : ownW whole (true :: way) = true := by
  unfold ownW
  simp
theorem ownW_part (way : List Bool) : ownW false way = true := rfl
theorem seedB_len (whole : Bool) (way : List Bool) (pf : List (List UInt8)) (h : pf.length = cntW whole way) : (seedB whole way pf).length = way.length := by
  unfold seedB cntW at *
  split
  · rename_i h1; rw [if_pos h1] at h; rw [List.length_drop]; omega
  · rename_i h1; rw [if_neg h1] at h; omega
theorem seedX_len (whole : Bool) (way : List Bool) (first : List UInt8) (pf : List (List UInt8)) (hf : first.length = 32) (hp : ∀ x ∈ pf, x.length = 32) (h : pf.length = cntW whole way) : (seedX whole way first pf).length = 32 := by
  unfold seedX cntW at *
  split
  · rename_i h1
    rw [if_pos h1] at h
    rw [List.getD_eq_getElem?_getD, List.getElem?_eq_getElem (by omega)]
    exact hp _ (List.getElem_mem _)
  · exact hf
theorem seedB_mem (whole : Bool) (way : List Bool) (pf : List (List UInt8)) (hp : ∀ x ∈ pf, x.length = 32) : ∀ x ∈ seedB whole way pf, x.length = 32 := by
  unfold seedB
  split
  · exact fun x hx => hp x (List.mem_of_mem_drop hx)
  · exact hp
/-- the answer to a proof that one tree goes on another -/
def consM (H : Hf) (way : List Bool) (sd : List PairV) (d : List (List UInt8)) : PairV × Int :=
  match lieF H way sd d with
  | (some (p, h), _) => ((nodeD p, nodeD h), 0)
  | (none, _) => (noC, 231)
def consC (H : Hf) (d : List (List UInt8)) (m : Int) (first : List UInt8) (pf : List (List UInt8)) : PairV × Int :=
  if bigD d = true then (noC, 2) else if m < 1 ∨ (d.length : Int) < m then (noC, 4)
  else if pf.length ≠ cntW true (wayC m.toNat d.length) then (noC, 230)
  else if atI H (wayC m.toNat d.length) (seedB true (wayC m.toNat d.length) pf) (seedX true (wayC m.toNat d.length) first pf) (wayC m.toNat d.length).length ≠ rootA H d ∨ elderI H (wayC m.toNat d.length) (seedB true (wayC m.toNat d.length) pf) (seedX true (wayC m.toNat d.length) first pf) (wayC m.toNat d.length).length ≠ first then (noC, 230)
  else consM H (wayC m.toNat d.length) (saidL H (wayC m.toNat d.length) (seedB true (wayC m.toNat d.length) pf) (seedX true (wayC m.toNat d.length) first pf)) d
theorem consC_is (H : Hf) (hH : ∀ l, (H l).length = 32) (d : List (List UInt8)) (m : Int) (first : List UInt8) (pf : List (List UInt8)) (hf : first.length = 32) (hp : ∀ x ∈ pf, x.length = 32) (h : (consC H d m first pf).2 = 0) : isC H (consC H d m first pf).1 = true := by
  unfold consC at h ⊢
  split at h
  · cases h
  rename_i h1
  rw [if_neg h1]
  split at h
  · cases h
  rename_i h2
  rw [if_neg h2]
  split at h
  · cases h
  rename_i h3
  rw [if_neg h3]
  split at h
  · cases h
  rename_i h4
  rw [if_neg h4]
  rw [not_or] at h2 h4
  have h3 := Decidable.not_not.1 h3
  have hr := Decidable.not_not.1 h4.1
  have hfit := fitsW_C d.length m.toNat (by omega) (by omega)
  obtain ⟨way, hway⟩ : ∃ way, wayC m.toNat d.length = way := ⟨_, rfl⟩
  rw [hway] at h h3 hr hfit ⊢
  have hc := lieF_clashW H hH (seedX true way first pf) (seedX_len true way first pf hf hp h3) way (seedB true way pf) d (seedB_mem true way pf hp) hfit (seedB_len true way pf h3) hr
  unfold consM at h ⊢
  obtain ⟨⟨o, r⟩, hq⟩ : ∃ q, lieF H way (saidL H way (seedB true way pf) (seedX true way first pf)) d = q := ⟨_, rfl⟩
  rw [hq] at h hc ⊢
  cases o with
  | some q =>
    obtain ⟨p, k⟩ := q
    obtain ⟨g1, g2⟩ := hc p k r rfl
    exact isC_of H _ g1 g2
  | none => cases h
end Go.Proofs.Ytonidnfgneokbaa
