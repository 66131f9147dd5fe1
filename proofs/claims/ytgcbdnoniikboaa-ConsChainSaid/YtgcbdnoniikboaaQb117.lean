/- The plain law of layer 9: splits, roots, whole stretches, paths, steps. No program in sight. -/
import Derived.Test.YtgcbdnoniikboaaQb116
import Derived.Test.YtgcbdnoniikboaaQb110
namespace Go.Proofs.Ytgcbdnoniikboaa

/-- where a list of n is split -/
def splitN (n : Nat) : Nat := if n < 2 then 0 else 2 ^ Nat.log2 (n - 1)
theorem splitN_small (n : Nat) (h : n < 2) : splitN n = 0 := if_pos h
theorem splitN_eq (n j : Nat) (h1 : 2 ^ j < n) (h2 : n ≤ 2 ^ (j + 1)) : splitN n = 2 ^ j := by
  have hp : 0 < 2 ^ j := Nat.two_pow_pos j
  have : (n - 1).log2 = j := (Nat.log2_eq_iff (by omega)).2 ⟨by omega, by omega⟩
  rw [splitN, if_neg (by omega), this]
theorem splitN_pow (n : Nat) (h : 2 ≤ n) : ∃ j, splitN n = 2 ^ j ∧ 2 ^ j < n ∧ n ≤ 2 ^ (j + 1) := by
  refine ⟨(n - 1).log2, by rw [splitN, if_neg (by omega)], ?_, ?_⟩
  · have := Nat.log2_self_le (n := n - 1) (by omega); omega
  · have := Nat.lt_log2_self (n := n - 1); omega
theorem splitN_lt (n : Nat) (h : 2 ≤ n) : splitN n < n := by obtain ⟨j, h1, h2, _⟩ := splitN_pow n h; omega
theorem splitN_pos (n : Nat) (h : 2 ≤ n) : 1 ≤ splitN n := by obtain ⟨j, h1, _, _⟩ := splitN_pow n h; have := Nat.two_pow_pos j; omega
theorem splitN_half (n : Nat) (h : 2 ≤ n) : n ≤ 2 * splitN n := by obtain ⟨j, h1, _, h3⟩ := splitN_pow n h; rw [Nat.pow_succ] at h3; omega
theorem splitN_le (n : Nat) : splitN n ≤ n := by
  by_cases h : 2 ≤ n
  · have := splitN_lt n h; omega
  · rw [splitN_small n (by omega)]; omega

/-- the root of a list, by whatever is told for none and for a node -/
def rootF (z : List UInt8) (node : List UInt8 → List UInt8 → List UInt8) : Nat → List (List UInt8) → List UInt8
  | 0, _ => z
  | f + 1, hs => if hs.length = 0 then z else if hs.length = 1 then hs.headD z else node (rootF z node f (hs.take (splitN hs.length))) (rootF z node f (hs.drop (splitN hs.length)))
theorem rootF_enough (z : List UInt8) (node : List UInt8 → List UInt8 → List UInt8) : ∀ (f g : Nat) (hs : List (List UInt8)), hs.length ≤ f → hs.length ≤ g → rootF z node f hs = rootF z node g hs
  | 0, 0, _, _, _ => rfl
  | 0, g + 1, hs, h, _ => by
    have : hs.length = 0 := by omega
    simp [rootF, this]
  | f + 1, 0, hs, _, h => by
    have : hs.length = 0 := by omega
    simp [rootF, this]
  | f + 1, g + 1, hs, h1, h2 => by
    simp only [rootF]
    split
    · rfl
    · split
      · rfl
      · have hl := splitN_lt hs.length (by omega)
        have hp := splitN_pos hs.length (by omega)
        rw [rootF_enough z node f g _ (by rw [List.length_take]; omega) (by rw [List.length_take]; omega), rootF_enough z node f g _ (by rw [List.length_drop]; omega) (by rw [List.length_drop]; omega)]

/-- a path's stretches -/
def pathF : Nat → Nat → Nat → Nat → List (Nat × Nat)
  | 0, _, _, _ => []
  | f + 1, i, a, b => if b - a < 2 then [] else if i < a + splitN (b - a) then pathF f i a (a + splitN (b - a)) ++ [(a + splitN (b - a), b)] else pathF f i (a + splitN (b - a)) b ++ [(a, a + splitN (b - a))]
theorem pathF_enough : ∀ (f g i a b : Nat), b - a ≤ f → b - a ≤ g → pathF f i a b = pathF g i a b
  | 0, 0, _, _, _, _, _ => rfl
  | 0, g + 1, i, a, b, h, _ => by simp [pathF, show b - a < 2 by omega]
  | f + 1, 0, i, a, b, _, h => by simp [pathF, show b - a < 2 by omega]
  | f + 1, g + 1, i, a, b, h1, h2 => by
    simp only [pathF]
    split
    · rfl
    · have hl := splitN_lt (b - a) (by omega)
      have hp := splitN_pos (b - a) (by omega)
      rw [pathF_enough f g i a (a + splitN (b - a)) (by omega) (by omega), pathF_enough f g i (a + splitN (b - a)) b (by omega) (by omega)]
def pathL (i a b : Nat) : List (Nat × Nat) := pathF (b - a) i a b
theorem pathL_small (i a b : Nat) (h : b - a < 2) : pathL i a b = [] := by
  unfold pathL
  rw [pathF_enough (b - a) (b - a + 1) i a b (Nat.le_refl _) (by omega)]
  simp [pathF, h]
theorem pathL_left (i a b : Nat) (h : 2 ≤ b - a) (hi : i < a + splitN (b - a)) : pathL i a b = pathL i a (a + splitN (b - a)) ++ [(a + splitN (b - a), b)] := by
  have hl := splitN_lt (b - a) h
  unfold pathL
  rw [pathF_enough (b - a) (b - a + 1) i a b (Nat.le_refl _) (by omega)]
  rw [pathF, if_neg (by omega), if_pos hi, pathF_enough (b - a) (a + splitN (b - a) - a) i a _ (by omega) (by omega)]
theorem pathL_right (i a b : Nat) (h : 2 ≤ b - a) (hi : ¬ i < a + splitN (b - a)) : pathL i a b = pathL i (a + splitN (b - a)) b ++ [(a, a + splitN (b - a))] := by
  have hp := splitN_pos (b - a) h
  unfold pathL
  rw [pathF_enough (b - a) (b - a + 1) i a b (Nat.le_refl _) (by omega)]
  rw [pathF, if_neg (by omega), if_neg hi, pathF_enough (b - a) (b - (a + splitN (b - a))) i _ b (by omega) (by omega)]

/-- steps: of m in the stretch from a of n -/
def stepsF : Nat → Nat → Nat → Nat → Bool → List (Nat × Nat)
  | 0, _, _, _, _ => []
  | f + 1, m, a, n, whole =>
    if m = n then (if whole then [] else [(a, a + n)])
    else if m ≤ splitN n then stepsF f m a (splitN n) whole ++ [(a + splitN n, a + n)] else stepsF f (m - splitN n) (a + splitN n) (n - splitN n) false ++ [(a, a + splitN n)]
theorem stepsF_enough : ∀ (f g m a n : Nat) (whole : Bool), 1 ≤ m → m ≤ n → n ≤ f → n ≤ g → stepsF f m a n whole = stepsF g m a n whole
  | 0, _, _, _, _, _, h1, h2, h3, _ => by omega
  | _ + 1, 0, _, _, _, _, h1, h2, _, h4 => by omega
  | f + 1, g + 1, m, a, n, whole, h1, h2, h3, h4 => by
    simp only [stepsF]
    split
    · rfl
    · have hl := splitN_lt n (by omega)
      have hp := splitN_pos n (by omega)
      split
      · rw [stepsF_enough f g m a (splitN n) whole h1 (by assumption) (by omega) (by omega)]
      · rw [stepsF_enough f g (m - splitN n) (a + splitN n) (n - splitN n) false (by omega) (by omega) (by omega) (by omega)]
def stepsL (m a n : Nat) (whole : Bool) : List (Nat × Nat) := stepsF n m a n whole
theorem stepsL_eq (m a : Nat) (whole : Bool) (h : 1 ≤ m) : stepsL m a m whole = if whole then [] else [(a, a + m)] := by
  unfold stepsL
  obtain ⟨k, rfl⟩ : ∃ k, m = k + 1 := ⟨m - 1, by omega⟩
  simp [stepsF]
theorem stepsL_left (m a n : Nat) (whole : Bool) (h : 1 ≤ m) (hn : m < n) (hk : m ≤ splitN n) : stepsL m a n whole = stepsL m a (splitN n) whole ++ [(a + splitN n, a + n)] := by
  have hl := splitN_lt n (by omega)
  unfold stepsL
  rw [stepsF_enough n (n + 1) m a n whole h (by omega) (Nat.le_refl _) (by omega), stepsF, if_neg (by omega), if_pos hk, stepsF_enough n (splitN n) m a _ whole h hk (by omega) (Nat.le_refl _)]
theorem stepsL_right (m a n : Nat) (whole : Bool) (h : 1 ≤ m) (hn : m < n) (hk : ¬ m ≤ splitN n) : stepsL m a n whole = stepsL (m - splitN n) (a + splitN n) (n - splitN n) false ++ [(a, a + splitN n)] := by
  have hp := splitN_pos n (by omega)
  unfold stepsL
  rw [stepsF_enough n (n + 1) m a n whole h (by omega) (Nat.le_refl _) (by omega), stepsF, if_neg (by omega), if_neg hk, stepsF_enough n (n - splitN n) (m - splitN n) _ _ false (by omega) (by omega) (by omega) (Nat.le_refl _)]

/-- the whole stretches from a on -/
def wholeF : Nat → Nat → Nat → List (Nat × Nat)
  | 0, _, _ => []
  | f + 1, a, n => if n = 0 then [] else (a, a + 2 ^ n.log2) :: wholeF f (a + 2 ^ n.log2) (n - 2 ^ n.log2)
theorem pow_log2_le (n : Nat) (h : n ≠ 0) : 2 ^ n.log2 ≤ n := Nat.log2_self_le h
theorem wholeF_enough : ∀ (f g a n : Nat), n ≤ f → n ≤ g → wholeF f a n = wholeF g a n
  | 0, 0, _, _, _, _ => rfl
  | 0, g + 1, a, n, h, _ => by simp [wholeF, show n = 0 by omega]
  | f + 1, 0, a, n, _, h => by simp [wholeF, show n = 0 by omega]
  | f + 1, g + 1, a, n, h1, h2 => by
    simp only [wholeF]
    split
    · rfl
    · have := Nat.two_pow_pos n.log2
      rw [wholeF_enough f g _ (n - 2 ^ n.log2) (by omega) (by omega)]
def wholeL (a n : Nat) : List (Nat × Nat) := wholeF n a n
theorem wholeL_zero (a : Nat) : wholeL a 0 = [] := rfl
theorem wholeL_more (a n : Nat) (h : n ≠ 0) : wholeL a n = (a, a + 2 ^ n.log2) :: wholeL (a + 2 ^ n.log2) (n - 2 ^ n.log2) := by
  have := Nat.two_pow_pos n.log2
  unfold wholeL
  rw [wholeF_enough n (n + 1) a n (Nat.le_refl _) (by omega), wholeF, if_neg h, wholeF_enough n (n - 2 ^ n.log2) _ _ (by omega) (Nat.le_refl _)]
end Go.Proofs.Ytgcbdnoniikboaa
/- tree.Split, notaryref09.Split. -/
namespace Go.Proofs.Ytgcbdnoniikboaa
open Go Go.RowKit

theorem log2_lt63 (x : Nat) (h : x < 2 ^ 63) (h0 : 0 < x) : x.log2 < 63 := (Nat.log2_lt (by omega)).2 h

theorem pow63_lt (j k : Nat) (h : j < k) (hk : k ≤ 63) : 2 ^ j < 9223372036854775808 := by
  have : 2 ^ j < 2 ^ 63 := Nat.pow_lt_pow_right (by decide) (by omega)
  simpa using this
set_option maxHeartbeats 400000 in
theorem tsplit_any (n : Int) (w : World) (hn : n ≤ 9223372036854775807) :
    Calls Try.prog 25 #[.int .i64 n] w fun e w' => e = .returned (.int .i64 (splitN n.toNat : Int)) ∧ w = w' := by
  by_cases h2 : n < 2
  · rw [splitN_small _ (by omega)]
    go_enter Try.func25, Try.ntmps25
    go_wp2_with fail
    go_ret
    exact ⟨rfl, rfl⟩
  · obtain ⟨m, rfl⟩ : ∃ m : Nat, n = (m : Int) := ⟨n.toNat, by omega⟩
    obtain ⟨j, hj⟩ : ∃ j, (m - 1).log2 = j := ⟨_, rfl⟩
    have hj63 : j < 63 := by rw [← hj]; exact log2_lt63 _ (by omega) (by omega)
    have hs : splitN m = 2 ^ j := by rw [splitN, if_neg (by omega), hj]
    have hl := fun w => len64_any (m - 1) w (by omega) (by omega)
    rw [hj] at hl
    rw [show (((m - 1 : Nat)) : Int) = (m : Int) - 1 by omega] at hl
    rw [Int.toNat_natCast, hs]
    have hw1 : IntKind.i64.wrap ((m : Int) - 1) = (m : Int) - 1 := by rw [IntKind.wrap_i64]; omega
    have hw2 : IntKind.u64.wrap ((m : Int) - 1) = (m : Int) - 1 := by rw [IntKind.wrap_u64]; omega
    have Hl := Lib.hid hl
    have Hs := Lib.hid hs
    have Hj := Lib.hid hj
    clear hl hs hj
    go_enter Try.func25, Try.ntmps25
    go_wp2_with (go_at_call 62; refine (Hl.out _).mono ?_; rintro e w' ⟨rfl, rfl⟩)
    go_ret
    have hp := pow63_lt j 63 hj63 (Nat.le_refl _)
    have e : ((2 ^ j : Nat) : Int) = (2 : Int) ^ j := by simp
    refine ⟨?_, rfl⟩
    show Ending.returned (.int .i64 (wrap64 ((2 : Int) ^ j))) = _
    rw [← e]
    generalize 2 ^ j = k at hp ⊢
    rw [IntWalk.wrap64_in _ (by omega)]

set_option maxHeartbeats 400000 in
theorem rsplit_any (n : Int) (w : World) (hn : n ≤ 9223372036854775807) :
    Calls Try.prog 26 #[.int .i64 n] w fun e w' => e = .returned (.int .i64 (splitN n.toNat : Int)) ∧ w = w' := by
  by_cases h2 : n < 2
  · rw [splitN_small _ (by omega)]
    go_enter Try.func26, Try.ntmps26
    go_wp2_with fail
    go_ret
    exact ⟨rfl, rfl⟩
  · obtain ⟨m, rfl⟩ : ∃ m : Nat, n = (m : Int) := ⟨n.toNat, by omega⟩
    rw [Int.toNat_natCast]
    obtain ⟨s, hs⟩ : ∃ s, splitN m = s := ⟨_, rfl⟩
    have hsl := splitN_lt m (by omega)
    have Hs := Lib.hid hs
    rw [hs] at hsl ⊢
    clear hs
    go_enter Try.func26, Try.ntmps26
    go_wp2_with fail
    go_loop [3] (fun v => ∃ j k : Nat, 1 ≤ k ∧ k < m ∧ k = 2 ^ j ∧ v = .int .i64 (k : Int)) (fun v => m - (intOf v).toNat)
    case atStart => exact ⟨0, 1, by omega, by omega, rfl, rfl⟩
    case round =>
      obtain ⟨j, k, hk1, hkm, hk, rfl⟩ := hrel
      by_cases hlt : k < m - k
      · have Hk := Lib.hid hk
        clear hk
        have hd : decide ((k : Int) < (m : Int) - (k : Int)) = true := by simp; omega
        go_wp2_with fail
        go_round
        case rel => exact ⟨j + 1, 2 * k, by omega, by omega, by rw [Nat.pow_succ, Hk.out]; omega, by go_num⟩
        case measure => simp [intOf]; omega
      · have hks : s = k := by rw [← Hs.out, splitN_eq m j (by omega) (by rw [Nat.pow_succ]; omega), hk]
        subst hks
        clear hk
        have hd : decide ((s : Int) < (m : Int) - (s : Int)) = false := by simp; omega
        go_wp2_with fail
        go_ret
        exact ⟨rfl, rfl⟩
end Go.Proofs.Ytgcbdnoniikboaa
/- tree.Of, notaryref09.Of, notaryref08.Empty. -/
namespace Go.Proofs.Ytgcbdnoniikboaa
open Go Go.RowKit

theorem sizeHs : ∀ w : World, (sizeOf (Try.prog.elem 37)).run Try.prog w = .ok 32 w := fun _ => by kernel_rfl
theorem sliceHs : Try.prog.underlying 37 = some (.slice (Try.prog.elem 37)) := by kernel_rfl
/-- the root of a list of leaves' hashes -/
def rootL (hs : List (List UInt8)) : List UInt8 := rootF hEmpty hNode hs.length hs
theorem rootL_nil : rootL [] = hEmpty := rfl
theorem rootL_one (x : List UInt8) : rootL [x] = x := rfl
theorem rootL_more (hs : List (List UInt8)) (h : 2 ≤ hs.length) : rootL hs = hNode (rootL (hs.take (splitN hs.length))) (rootL (hs.drop (splitN hs.length))) := by
  unfold rootL
  rw [rootF_enough _ _ hs.length (hs.length + 1) hs (Nat.le_refl _) (by omega), rootF, if_neg (by omega), if_neg (by omega)]
  rw [rootF_enough _ _ hs.length (hs.take (splitN hs.length)).length _ (by rw [List.length_take]; omega) (Nat.le_refl _), rootF_enough _ _ hs.length (hs.drop (splitN hs.length)).length _ (by rw [List.length_drop]; omega) (Nat.le_refl _)]
theorem length_rootL (hs : List (List UInt8)) (h : H32 hs) : (rootL hs).length = 32 := by
  by_cases h2 : 2 ≤ hs.length
  · rw [rootL_more hs h2]; exact length_hNode _ _
  · match hs, h, h2 with
    | [], _, _ => exact length_hEmpty
    | [x], h, _ => exact h x (by simp)
    | _ :: _ :: _, _, h2 => exact absurd (by simp) h2
theorem run_slice_op_hi {ρ : Operand → Value} {o : Oper} (x y : Operand) (ho : o.op = .slice 37 x none (some y) none) (A : Option Addr) (n c k : Nat) (hx : ρ x = .slice A n c) (hy : ρ y = .int .i64 (k : Int)) (hk : k ≤ c) (W : World) :
    (execOp ρ o).run Try.prog W = .ok (.value (.slice A k c)) W := by
  unfold execOp
  simp only [ho, hx, hy, Option.map_some, Option.map_none, run_slice_high sliceHs sizeHs A n c k hk W, Sem.run_bind, Sem.run_pure, Result.andThen_ok]
theorem run_slice_op_lo {ρ : Operand → Value} {o : Oper} (x y : Operand) (ho : o.op = .slice 37 x (some y) none none) (A : Option Addr) (n c k : Nat) (hx : ρ x = .slice A n c) (hy : ρ y = .int .i64 (k : Int)) (hk : k ≤ n) (W : World) :
    (execOp ρ o).run Try.prog W = .ok (.value (.slice (if c = k then A else A.map (·.add (k * 32))) (n - k) (c - k))) W := by
  unfold execOp
  simp only [ho, hx, hy, Option.map_some, Option.map_none, run_slice_low sliceHs sizeHs A n c k hk W, Sem.run_bind, Sem.run_pure, Result.andThen_ok]

set_option maxHeartbeats 400000 in
set_option maxRecDepth 100000 in
theorem rempty_any (w : World) :
    Calls Try.prog 56 #[] w fun e w' => e = .returned (.agg (hEmpty.map B).toArray) ∧ Below w.heap.size w w' := by
  obtain ⟨r, hr⟩ : ∃ r, hEmpty = r := ⟨_, rfl⟩
  have hrl : r.length = 32 := by rw [← hr]; exact length_hEmpty
  obtain ⟨zs, hzs⟩ : ∃ zs, zeroHash = zs := ⟨_, rfl⟩
  have hzl : zs.size = 32 := by rw [← hzs]; rfl
  have hof := fun W => hrof_any [] none 0 0 W Sl.nil (by decide)
  rw [show sha256 [] = r from hr] at hof
  rw [hr]
  have hb := (Below.refl w.heap.size w).alloc (Nat.le_refl _) (.cells zs 34)
  have k0 := Blk.new w 34 zs
  have Hof := Lib.hid hof
  have Hzs := Lib.hid hzs
  have Hrl := Lib.hid hrl
  clear hof hzs hrl hr
  go_enter Try.func56, Try.ntmps56
  go_wp2_with (first
    | ((with_reducible show wpList _ _ _ (⟨some 0, .alloc _, _, _, _, _⟩ :: _) _ _); refine wpList_run rfl (.pointer (some ⟨w.heap.size, 0, none⟩)) (w.alloc (.cells zs 34)) (by rw [← Hzs.out]; rfl) ?_; simp only [Act.put])
    | (go_at_call 65; refine (Hof.out _).mono ?_; rintro e w1 ⟨rfl, hb1⟩; have k1 := k0.below hb1 (by simp); have B1 := hb.trans (hb1.mono (by simp)))
    | ((with_reducible show wpList _ _ _ (⟨none, .store _ _ _, _, _, _, _⟩ :: _) _ _); refine wpList_store_blk rfl 34 (.tmp 0) (.tmp 1) rfl 32 size26 w.heap.size (r.map B).toArray rfl rfl (by simp [Hrl.out]) (oneCell_B _) 34 _ k1 hzl ?_; simp only [Act.put]))
  refine bodyPost_ret (results_cell_row rfl _ _ w.heap.size 34 (r.map B).toArray (0, 0) _ rfl (k1.setRow_ _) Try.underlying34 rfl (by rw [show (r.map B).toArray.size = 32 by simp [Hrl.out]]; exact info26)) rfl ⟨rfl, ?_⟩
  exact below_setRow B1 (Nat.le_refl _) _

set_option maxHeartbeats 2000000 in
set_option maxRecDepth 100000 in
theorem tof_rec (d : Nat) : ∀ (hs : List (List UInt8)) (A : Option Addr) (n c : Nat) (w : World), n ≤ d → Hs w (fun _ => True) A n c hs → n ≤ 4398046511104 →
    Calls Try.prog 28 #[.slice A n c] w fun e w' => e = .returned (.agg ((rootL hs).map B).toArray) ∧ Below w.heap.size w w' := by
  induction d using Nat.strongRecOn with
  | ind d ih =>
  intro hs A n c w hnd h hn
  obtain ⟨zs, hzs⟩ : ∃ zs, zeroHash = zs := ⟨_, rfl⟩
  have hzl : zs.size = 32 := by rw [← hzs]; rfl
  have hlen := h.len
  have hroom := h.sl.room
  have hmax := h.sl.max
  unfold maxLen at hmax
  have hb0 := (Below.refl w.heap.size w).alloc (Nat.le_refl _) (.cells zs 34)
  have k0 := Blk.new w 34 zs
  have h0 := h.step hb0
  obtain ⟨r, hr⟩ : ∃ r, rootL hs = r := ⟨_, rfl⟩
  have hrl : r.length = 32 := by rw [← hr]; exact length_rootL hs h.all
  rw [hr]
  have Hzs := Lib.hid hzs
  have Hrl := Lib.hid hrl
  have Hr := Lib.hid hr
  have Hlen := Lib.hid hlen
  clear hzs hrl hr hlen
  by_cases hn0 : n = 0
  · subst hn0
    have hnil : hs = [] := List.eq_nil_of_length_eq_zero Hlen.out
    subst hnil
    obtain rfl : r = hEmpty := Hr.out.symm
    clear ih h h0
    go_enter Try.func28, Try.ntmps28
    go_wp2_with (first
      | ((with_reducible show wpList _ _ _ (⟨some 2, .alloc _, _, _, _, _⟩ :: _) _ _); refine wpList_run rfl (.pointer (some ⟨w.heap.size, 0, none⟩)) (w.alloc (.cells zs 34)) (by rw [← Hzs.out]; rfl) ?_; simp only [Act.put])
      | (go_at_call 63; refine (hempty_any _).mono ?_; rintro e w1 ⟨rfl, hb1⟩; have k1 := k0.below hb1 (by simp); have B1 := hb0.trans (hb1.mono (by simp)))
      | ((with_reducible show wpList _ _ _ (⟨none, .store _ _ _, _, _, _, _⟩ :: _) _ _); refine wpList_store_blk rfl 34 (.tmp 2) (.tmp 21) rfl 32 size26 w.heap.size (hEmpty.map B).toArray rfl rfl (by simp [Hrl.out]) (oneCell_B _) 34 _ k1 hzl ?_; simp only [Act.put]))
    refine bodyPost_ret (results_cell_row rfl _ _ w.heap.size 34 (hEmpty.map B).toArray (0, 0) _ rfl (k1.setRow_ _) Try.underlying34 rfl (by rw [show (hEmpty.map B).toArray.size = 32 by simp [Hrl.out]]; exact info26)) rfl ⟨rfl, ?_⟩
    exact below_setRow B1 (Nat.le_refl _) _
  by_cases hn1 : n = 1
  · subst hn1
    obtain ⟨x, rfl⟩ := List.length_eq_one_iff.1 Hlen.out
    obtain rfl : r = x := Hr.out.symm
    obtain ⟨b, o, rfl, -, -, hat⟩ := h0.at_ (by omega)
    have hld : (Instr.loadAt 34 (.pointer (some ⟨b, o, none⟩))).run Try.prog (w.alloc (.cells zs 34)) = .ok (.agg (r.map B).toArray) (w.alloc (.cells zs 34)) := hat 0 (by omega)
    have Hld := Lib.hid hld
    clear ih h h0 hat hld
    go_enter Try.func28, Try.ntmps28
    go_wp2_with (first
      | ((with_reducible show wpList _ _ _ (⟨some 2, .alloc _, _, _, _, _⟩ :: _) _ _); refine wpList_run rfl (.pointer (some ⟨w.heap.size, 0, none⟩)) (w.alloc (.cells zs 34)) (by rw [← Hzs.out]; rfl) ?_; simp only [Act.put])
      | ((with_reducible show wpList _ _ _ (⟨some 26, .load _ _, _, _, _, _⟩ :: _) _ _); refine wpList_load rfl 34 (.tmp 25) rfl b o rfl (r.map B).toArray Hld.out ?_; simp only [Act.put])
      | ((with_reducible show wpList _ _ _ (⟨none, .store _ _ _, _, _, _, _⟩ :: _) _ _); refine wpList_store_blk rfl 34 (.tmp 2) (.tmp 26) rfl 32 size26 w.heap.size (r.map B).toArray rfl rfl (by simp [Hrl.out]) (oneCell_B _) 34 _ k0 hzl ?_; simp only [Act.put]))
    refine bodyPost_ret (results_cell_row rfl _ _ w.heap.size 34 (r.map B).toArray (0, 0) _ rfl (k0.setRow_ _) Try.underlying34 rfl (by rw [show (r.map B).toArray.size = 32 by simp [Hrl.out]]; exact info26)) rfl ⟨rfl, ?_⟩
    exact below_setRow hb0 (Nat.le_refl _) _
  have hne0 : ((n : Int) == 0) = false := by simp; omega
  have hne1 : ((n : Int) == 1) = false := by simp; omega
  have hmore := rootL_more hs (by rw [Hlen.out]; omega)
  rw [Hlen.out, Hr.out] at hmore
  have hspl := fun w => tsplit_any (n : Int) w (by omega)
  rw [Int.toNat_natCast] at hspl
  have hsl := splitN_lt n (by omega)
  have hsp := splitN_pos n (by omega)
  obtain ⟨s, hs'⟩ : ∃ s, splitN n = s := ⟨_, rfl⟩
  rw [hs'] at hmore hspl hsl hsp
  have hL := fun W (hW : Below (w.alloc (.cells zs 34)).heap.size (w.alloc (.cells zs 34)) W) => ih s (by omega) (hs.take s) A s c W (Nat.le_refl _) ((h0.step hW).take s (by omega)) (by omega)
  have hR := fun W (hW : Below (w.alloc (.cells zs 34)).heap.size (w.alloc (.cells zs 34)) W) => ih (n - s) (by omega) (hs.drop s) _ (n - s) (c - s) W (Nat.le_refl _) ((h0.step hW).drop s (by omega)) (by omega)
  obtain ⟨x, hx⟩ : ∃ x, rootL (hs.take s) = x := ⟨_, rfl⟩
  obtain ⟨y, hy⟩ : ∃ y, rootL (hs.drop s) = y := ⟨_, rfl⟩
  have hxl : x.length = 32 := by rw [← hx]; exact length_rootL _ (h.all.take s)
  have hyl : y.length = 32 := by rw [← hy]; exact length_rootL _ (h.all.drop s)
  rw [hx] at hL hmore
  rw [hy] at hR hmore
  have hN := fun W => hnode_any x y W hxl hyl
  rw [← hmore] at hN
  have Hspl := Lib.hid hspl
  have HL := Lib.hid hL
  have HR := Lib.hid hR
  have HN := Lib.hid hN
  clear hspl hL hR hN hx hy hxl hyl hmore hs' ih h
  go_enter Try.func28, Try.ntmps28
  go_wp2_with (first
    | ((with_reducible show wpList _ _ _ (⟨some 2, .alloc _, _, _, _, _⟩ :: _) _ _); refine wpList_run rfl (.pointer (some ⟨w.heap.size, 0, none⟩)) (w.alloc (.cells zs 34)) (by rw [← Hzs.out]; rfl) ?_; simp only [Act.put])
    | (go_at_call 25; refine (Hspl.out _).mono ?_; rintro e w1 ⟨rfl, rfl⟩))
  generalize w.alloc (.cells zs 34) = w1 at hb0 k0 h0 HL HR ⊢
  have hS : Below w1.heap.size w1 w1.drew := (Below.refl _ _).drew
  refine wp_region_mix_last (fun W => Below w1.heap.size w1 W) 9 [(0, true), (1, true), (2, true), (4, true), (5, true), (6, true), (3, false), (7, false), (8, false)] (by kernel_rfl) (by kernel_rfl) hS fun _ => ?_
  simp only [List.map_cons, List.map_nil, Array.getD_eq_getD_getElem?, List.getElem?_toArray, List.getElem?_cons_succ, List.getElem?_cons_zero, Option.getD_some]
  generalize w1.drew = W0 at hS ⊢
  refine wpMix_s (fun K hK => ?_)
  go_simp
  refine hK _ ?_
  clear hK K
  refine wpMix_s (fun K hK => ?_)
  go_simp
  refine hK _ ?_
  clear hK K
  refine wpMix_v (by kernel_rfl) (.slice A s c) (fun u => run_slice_op_hi (.tmp 10) (.tmp 11) rfl A n c s rfl rfl (by omega) u.W) ?_
  simp only [Act.put]
  refine wpMix_s (fun K hK => ?_)
  go_simp
  refine hK _ ?_
  clear hK K
  refine wpMix_s (fun K hK => ?_)
  go_simp
  refine hK _ ?_
  clear hK K
  refine wpMix_v (by kernel_rfl) (.slice (if c = s then A else A.map (·.add (s * 32))) (n - s) (c - s)) (fun u => run_slice_op_lo (.tmp 14) (.tmp 15) rfl A n c s rfl rfl (by omega) u.W) ?_
  simp only [Act.put]
  refine wpMix_c (fun K hK => ?_) hS
  go_simp
  refine (HL.out W0 hS).mono ?_
  rintro e W1 ⟨rfl, hb'⟩
  refine hK _ _ ?_
  clear hK K
  replace hS := hS.trans (hb'.mono hS.size)
  refine ⟨hS, ?_⟩
  clear hb'
  refine wpMix_c (fun K hK => ?_) hS
  go_simp
  refine (HR.out W1 hS).mono ?_
  rintro e W2 ⟨rfl, hb'⟩
  refine hK _ _ ?_
  clear hK K
  replace hS := hS.trans (hb'.mono hS.size)
  refine ⟨hS, ?_⟩
  clear hb'
  refine wpMix_c (fun K hK => ?_) hS
  go_simp
  refine (HN.out W2).mono ?_
  rintro e W3 ⟨rfl, hb'⟩
  refine hK _ _ ?_
  clear hK K
  replace hS := hS.trans (hb'.mono hS.size)
  refine ⟨hS, ?_⟩
  clear hb'
  refine wpMix_nil ?_
  intro _
  simp only [List.drop_succ_cons, List.drop_zero]
  have k3 := k0.below hS k0.lt
  go_wp2_with ((with_reducible show wpList _ _ _ (⟨none, .store _ _ _, _, _, _, _⟩ :: _) _ _); refine wpList_store_blk rfl 34 (.tmp 2) (.tmp 18) rfl 32 size26 w.heap.size (r.map B).toArray rfl rfl (by simp [Hrl.out]) (oneCell_B _) 34 _ k3 hzl ?_; simp only [Act.put])
  refine np_normal ?_
  go_wp2_with fail
  refine bodyPost_ret (results_cell_row rfl _ _ w.heap.size 34 (r.map B).toArray (0, 0) _ rfl (k3.setRow_ _) Try.underlying34 rfl (by rw [show (r.map B).toArray.size = 32 by simp [Hrl.out]]; exact info26)) rfl ⟨rfl, ?_⟩
  exact below_setRow (hb0.trans (hS.mono hb0.size)) (Nat.le_refl _) _
set_option maxHeartbeats 2000000 in
set_option maxRecDepth 100000 in
theorem rof_rec (d : Nat) : ∀ (hs : List (List UInt8)) (A : Option Addr) (n c : Nat) (w : World), n ≤ d → Hs w (fun _ => True) A n c hs → n ≤ 4398046511104 →
    Calls Try.prog 19 #[.slice A n c] w fun e w' => e = .returned (.agg ((rootL hs).map B).toArray) ∧ Below w.heap.size w w' := by
  induction d using Nat.strongRecOn with
  | ind d ih =>
  intro hs A n c w hnd h hn
  obtain ⟨zs, hzs⟩ : ∃ zs, zeroHash = zs := ⟨_, rfl⟩
  have hzl : zs.size = 32 := by rw [← hzs]; rfl
  have hlen := h.len
  have hroom := h.sl.room
  have hmax := h.sl.max
  unfold maxLen at hmax
  have hb0 := (Below.refl w.heap.size w).alloc (Nat.le_refl _) (.cells zs 34)
  have k0 := Blk.new w 34 zs
  have h0 := h.step hb0
  obtain ⟨r, hr⟩ : ∃ r, rootL hs = r := ⟨_, rfl⟩
  have hrl : r.length = 32 := by rw [← hr]; exact length_rootL hs h.all
  rw [hr]
  have Hzs := Lib.hid hzs
  have Hrl := Lib.hid hrl
  have Hr := Lib.hid hr
  have Hlen := Lib.hid hlen
  clear hzs hrl hr hlen
  by_cases hn0 : n = 0
  · subst hn0
    have hnil : hs = [] := List.eq_nil_of_length_eq_zero Hlen.out
    subst hnil
    obtain rfl : r = hEmpty := Hr.out.symm
    clear ih h h0
    go_enter Try.func19, Try.ntmps19
    go_wp2_with (first
      | ((with_reducible show wpList _ _ _ (⟨some 2, .alloc _, _, _, _, _⟩ :: _) _ _); refine wpList_run rfl (.pointer (some ⟨w.heap.size, 0, none⟩)) (w.alloc (.cells zs 34)) (by rw [← Hzs.out]; rfl) ?_; simp only [Act.put])
      | (go_at_call 56; refine (rempty_any _).mono ?_; rintro e w1 ⟨rfl, hb1⟩; have k1 := k0.below hb1 (by simp); have B1 := hb0.trans (hb1.mono (by simp)))
      | ((with_reducible show wpList _ _ _ (⟨none, .store _ _ _, _, _, _, _⟩ :: _) _ _); refine wpList_store_blk rfl 34 (.tmp 2) (.tmp 7) rfl 32 size26 w.heap.size (hEmpty.map B).toArray rfl rfl (by simp [Hrl.out]) (oneCell_B _) 34 _ k1 hzl ?_; simp only [Act.put]))
    refine bodyPost_ret (results_cell_row rfl _ _ w.heap.size 34 (hEmpty.map B).toArray (0, 0) _ rfl (k1.setRow_ _) Try.underlying34 rfl (by rw [show (hEmpty.map B).toArray.size = 32 by simp [Hrl.out]]; exact info26)) rfl ⟨rfl, ?_⟩
    exact below_setRow B1 (Nat.le_refl _) _
  by_cases hn1 : n = 1
  · subst hn1
    obtain ⟨x, rfl⟩ := List.length_eq_one_iff.1 Hlen.out
    obtain rfl : r = x := Hr.out.symm
    obtain ⟨b, o, rfl, -, -, hat⟩ := h0.at_ (by omega)
    have hld : (Instr.loadAt 34 (.pointer (some ⟨b, o, none⟩))).run Try.prog (w.alloc (.cells zs 34)) = .ok (.agg (r.map B).toArray) (w.alloc (.cells zs 34)) := hat 0 (by omega)
    have Hld := Lib.hid hld
    clear ih h h0 hat hld
    go_enter Try.func19, Try.ntmps19
    go_wp2_with (first
      | ((with_reducible show wpList _ _ _ (⟨some 2, .alloc _, _, _, _, _⟩ :: _) _ _); refine wpList_run rfl (.pointer (some ⟨w.heap.size, 0, none⟩)) (w.alloc (.cells zs 34)) (by rw [← Hzs.out]; rfl) ?_; simp only [Act.put])
      | ((with_reducible show wpList _ _ _ (⟨some 13, .load _ _, _, _, _, _⟩ :: _) _ _); refine wpList_load rfl 34 (.tmp 12) rfl b o rfl (r.map B).toArray Hld.out ?_; simp only [Act.put])
      | ((with_reducible show wpList _ _ _ (⟨none, .store _ _ _, _, _, _, _⟩ :: _) _ _); refine wpList_store_blk rfl 34 (.tmp 2) (.tmp 13) rfl 32 size26 w.heap.size (r.map B).toArray rfl rfl (by simp [Hrl.out]) (oneCell_B _) 34 _ k0 hzl ?_; simp only [Act.put]))
    refine bodyPost_ret (results_cell_row rfl _ _ w.heap.size 34 (r.map B).toArray (0, 0) _ rfl (k0.setRow_ _) Try.underlying34 rfl (by rw [show (r.map B).toArray.size = 32 by simp [Hrl.out]]; exact info26)) rfl ⟨rfl, ?_⟩
    exact below_setRow hb0 (Nat.le_refl _) _
  have hne0 : ((n : Int) == 0) = false := by simp; omega
  have hne1 : ((n : Int) == 1) = false := by simp; omega
  have hmore := rootL_more hs (by rw [Hlen.out]; omega)
  rw [Hlen.out, Hr.out] at hmore
  have hspl := fun w => rsplit_any (n : Int) w (by omega)
  rw [Int.toNat_natCast] at hspl
  have hsl := splitN_lt n (by omega)
  have hsp := splitN_pos n (by omega)
  obtain ⟨s, hs'⟩ : ∃ s, splitN n = s := ⟨_, rfl⟩
  rw [hs'] at hmore hspl hsl hsp
  have hL := fun W (hW : Below (w.alloc (.cells zs 34)).heap.size (w.alloc (.cells zs 34)) W) => ih s (by omega) (hs.take s) A s c W (Nat.le_refl _) ((h0.step hW).take s (by omega)) (by omega)
  have hR := fun W (hW : Below (w.alloc (.cells zs 34)).heap.size (w.alloc (.cells zs 34)) W) => ih (n - s) (by omega) (hs.drop s) _ (n - s) (c - s) W (Nat.le_refl _) ((h0.step hW).drop s (by omega)) (by omega)
  obtain ⟨x, hx⟩ : ∃ x, rootL (hs.take s) = x := ⟨_, rfl⟩
  obtain ⟨y, hy⟩ : ∃ y, rootL (hs.drop s) = y := ⟨_, rfl⟩
  have hxl : x.length = 32 := by rw [← hx]; exact length_rootL _ (h.all.take s)
  have hyl : y.length = 32 := by rw [← hy]; exact length_rootL _ (h.all.drop s)
  rw [hx] at hL hmore
  rw [hy] at hR hmore
  have hN := fun W => hrnode_any x y W hxl hyl
  rw [← hmore] at hN
  have Hspl := Lib.hid hspl
  have HL := Lib.hid hL
  have HR := Lib.hid hR
  have HN := Lib.hid hN
  clear hspl hL hR hN hx hy hxl hyl hmore hs' ih h
  go_enter Try.func19, Try.ntmps19
  go_wp2_with (first
    | ((with_reducible show wpList _ _ _ (⟨some 2, .alloc _, _, _, _, _⟩ :: _) _ _); refine wpList_run rfl (.pointer (some ⟨w.heap.size, 0, none⟩)) (w.alloc (.cells zs 34)) (by rw [← Hzs.out]; rfl) ?_; simp only [Act.put])
    | (go_at_call 26; refine (Hspl.out _).mono ?_; rintro e w1 ⟨rfl, rfl⟩))
  generalize w.alloc (.cells zs 34) = w1 at hb0 k0 h0 HL HR ⊢
  have hS : Below w1.heap.size w1 w1.drew := (Below.refl _ _).drew
  refine wp_region_mix_last (fun W => Below w1.heap.size w1 W) 9 [(0, true), (1, true), (2, true), (4, true), (5, true), (6, true), (3, false), (7, false), (8, false)] (by kernel_rfl) (by kernel_rfl) hS fun _ => ?_
  simp only [List.map_cons, List.map_nil, Array.getD_eq_getD_getElem?, List.getElem?_toArray, List.getElem?_cons_succ, List.getElem?_cons_zero, Option.getD_some]
  generalize w1.drew = W0 at hS ⊢
  refine wpMix_s (fun K hK => ?_)
  go_simp
  refine hK _ ?_
  clear hK K
  refine wpMix_s (fun K hK => ?_)
  go_simp
  refine hK _ ?_
  clear hK K
  refine wpMix_v (by kernel_rfl) (.slice A s c) (fun u => run_slice_op_hi (.tmp 17) (.tmp 18) rfl A n c s rfl rfl (by omega) u.W) ?_
  simp only [Act.put]
  refine wpMix_s (fun K hK => ?_)
  go_simp
  refine hK _ ?_
  clear hK K
  refine wpMix_s (fun K hK => ?_)
  go_simp
  refine hK _ ?_
  clear hK K
  refine wpMix_v (by kernel_rfl) (.slice (if c = s then A else A.map (·.add (s * 32))) (n - s) (c - s)) (fun u => run_slice_op_lo (.tmp 21) (.tmp 22) rfl A n c s rfl rfl (by omega) u.W) ?_
  simp only [Act.put]
  refine wpMix_c (fun K hK => ?_) hS
  go_simp
  refine (HL.out W0 hS).mono ?_
  rintro e W1 ⟨rfl, hb'⟩
  refine hK _ _ ?_
  clear hK K
  replace hS := hS.trans (hb'.mono hS.size)
  refine ⟨hS, ?_⟩
  clear hb'
  refine wpMix_c (fun K hK => ?_) hS
  go_simp
  refine (HR.out W1 hS).mono ?_
  rintro e W2 ⟨rfl, hb'⟩
  refine hK _ _ ?_
  clear hK K
  replace hS := hS.trans (hb'.mono hS.size)
  refine ⟨hS, ?_⟩
  clear hb'
  refine wpMix_c (fun K hK => ?_) hS
  go_simp
  refine (HN.out W2).mono ?_
  rintro e W3 ⟨rfl, hb'⟩
  refine hK _ _ ?_
  clear hK K
  replace hS := hS.trans (hb'.mono hS.size)
  refine ⟨hS, ?_⟩
  clear hb'
  refine wpMix_nil ?_
  intro _
  simp only [List.drop_succ_cons, List.drop_zero]
  have k3 := k0.below hS k0.lt
  go_wp2_with ((with_reducible show wpList _ _ _ (⟨none, .store _ _ _, _, _, _, _⟩ :: _) _ _); refine wpList_store_blk rfl 34 (.tmp 2) (.tmp 25) rfl 32 size26 w.heap.size (r.map B).toArray rfl rfl (by simp [Hrl.out]) (oneCell_B _) 34 _ k3 hzl ?_; simp only [Act.put])
  refine np_normal ?_
  go_wp2_with fail
  refine bodyPost_ret (results_cell_row rfl _ _ w.heap.size 34 (r.map B).toArray (0, 0) _ rfl (k3.setRow_ _) Try.underlying34 rfl (by rw [show (r.map B).toArray.size = 32 by simp [Hrl.out]]; exact info26)) rfl ⟨rfl, ?_⟩
  exact below_setRow (hb0.trans (hS.mono hb0.size)) (Nat.le_refl _) _
theorem tof_any (hs : List (List UInt8)) (A : Option Addr) (n c : Nat) (w : World) (h : Hs w (fun _ => True) A n c hs) (hn : n ≤ 4398046511104) :
    Calls Try.prog 28 #[.slice A n c] w fun e w' => e = .returned (.agg ((rootL hs).map B).toArray) ∧ Below w.heap.size w w' := tof_rec n hs A n c w (Nat.le_refl _) h hn
theorem rof_any (hs : List (List UInt8)) (A : Option Addr) (n c : Nat) (w : World) (h : Hs w (fun _ => True) A n c hs) (hn : n ≤ 4398046511104) :
    Calls Try.prog 19 #[.slice A n c] w fun e w' => e = .returned (.agg ((rootL hs).map B).toArray) ∧ Below w.heap.size w w' := rof_rec n hs A n c w (Nat.le_refl _) h hn
end Go.Proofs.Ytgcbdnoniikboaa
/- The fold of the whole stretches' roots; tree.Stretch. -/
namespace Go.Proofs.Ytgcbdnoniikboaa
open Go Go.RowKit

/-- the root of the stretch from a to b -/
def stretchL (hs : List (List UInt8)) (a b : Nat) : List UInt8 := rootL ((hs.drop a).take (b - a))
theorem length_stretchL (hs : List (List UInt8)) (a b : Nat) (h : H32 hs) : (stretchL hs a b).length = 32 := length_rootL _ ((h.drop a).take _)
def foldR : List (List UInt8) → List UInt8
  | [] => hEmpty
  | [x] => x
  | x :: y :: t => hNode x (foldR (y :: t))
theorem foldR_cons (x : List UInt8) (l : List (List UInt8)) (h : l ≠ []) : foldR (x :: l) = hNode x (foldR l) := by
  cases l with
  | nil => exact absurd rfl h
  | cons y t => rfl
theorem length_foldR (x : List UInt8) (l : List (List UInt8)) (h : H32 (x :: l)) : (foldR (x :: l)).length = 32 := by
  cases l with
  | nil => exact h x (by simp)
  | cons y t => exact length_hNode _ _
def rootsL (hs : List (List UInt8)) (l : List (Nat × Nat)) : List (List UInt8) := l.map fun s => stretchL hs s.1 s.2
theorem rootsL_all (hs : List (List UInt8)) (h : H32 hs) (l : List (Nat × Nat)) : H32 (rootsL hs l) := fun x hx => by
  obtain ⟨s, _, rfl⟩ := List.mem_map.1 hx
  exact length_stretchL hs _ _ h
theorem wholeL_ne (a n : Nat) (h : n ≠ 0) : wholeL a n ≠ [] := by rw [wholeL_more a n h]; simp
theorem foldR_whole (d : Nat) : ∀ (n a : Nat) (hs : List (List UInt8)), n ≤ d → n ≠ 0 → a + n ≤ hs.length → foldR (rootsL hs (wholeL a n)) = rootL ((hs.drop a).take n) := by
  induction d with
  | zero => intro n a hs h h0; omega
  | succ d ih =>
    intro n a hs h h0 hl
    have hp := Nat.two_pow_pos n.log2
    have h1 := Nat.log2_self_le h0
    have h2 := Nat.lt_log2_self (n := n)
    have hsp := splitN_eq n n.log2
    rw [Nat.pow_succ] at h2 hsp
    rw [wholeL_more a n h0, rootsL, List.map_cons]
    generalize 2 ^ n.log2 = p at *
    by_cases hnp : n = p
    · subst hnp
      rw [Nat.sub_self, wholeL_zero]
      show stretchL hs a (a + n) = _
      rw [stretchL, Nat.add_sub_cancel_left]
    · have hs2 := hsp (by omega) (by omega)
      have hne : (wholeL (a + p) (n - p)).map (fun s => stretchL hs s.1 s.2) ≠ [] := by
        have := wholeL_ne (a + p) (n - p) (by omega)
        simpa using this
      have hi := ih (n - p) (a + p) hs (by omega) (by omega) (by omega)
      rw [rootsL] at hi
      have hlen : ((hs.drop a).take n).length = n := by rw [List.length_take, List.length_drop]; omega
      rw [foldR_cons _ _ hne, hi, rootL_more ((hs.drop a).take n) (by rw [hlen]; omega), hlen, hs2, List.take_take, Nat.min_eq_left (by omega), List.drop_take, List.drop_drop]
      show hNode (stretchL hs a (a + p)) _ = _
      rw [stretchL, Nat.add_sub_cancel_left]
theorem foldR_roots (hs : List (List UInt8)) (h : hs ≠ []) : foldR (rootsL hs (wholeL 0 hs.length)) = rootL hs := by
  have := foldR_whole hs.length hs.length 0 hs (Nat.le_refl _) (by simpa using h) (by omega)
  rw [this, List.drop_zero, List.take_length]
/-- from the back -/
theorem foldR_drop (l : List (List UInt8)) (i : Nat) (h : i + 1 < l.length) : foldR (l.drop i) = hNode (l.getD i []) (foldR (l.drop (i + 1))) := by
  rw [List.drop_eq_getElem_cons (by omega), foldR_cons _ _ (by intro e; have := congrArg List.length e; rw [List.length_drop, List.length_nil] at this; omega), List.getD_eq_getElem?_getD, List.getElem?_eq_getElem (by omega)]
  rfl
theorem foldR_last (l : List (List UInt8)) (n : Nat) (h : l.length = n + 1) : foldR (l.drop n) = l.getD n [] := by
  rw [List.drop_eq_getElem_cons (by omega), List.drop_of_length_le (by omega), List.getD_eq_getElem?_getD, List.getElem?_eq_getElem (by omega)]
  rfl

theorem tuple_cellT {fn : Func} {p u : Tmp} {ty t : TypeId} {P : Program} (h : fn.results = #[.cell p ty, .tmp u]) (tmps : Array Value) (w : World) (g : Nat) (cs : Array Value) (N : Nat) (el : TypeId)
    (hp : tmps.getD p undef = .pointer (some ⟨g, 0, none⟩)) (hg : Blk w g t cs) (hu : P.underlying ty = some (.array N el)) (hi : (P.info? ty).map (·.size) = some cs.size) :
    (results fn tmps).run P w = .ok (.tuple #[.agg cs, tmps.getD u undef]) w := by
  rw [results_cell_tmp h, hp]
  show ((loadVar ty ⟨g, 0, none⟩).run P w).andThen (fun v w₂ => Result.ok (Value.tuple #[v, tmps.getD u undef]) w₂) = _
  rw [run_loadVar_row w g t ty cs (0, 0) _ hg hu rfl hi]
  rfl
/-- 's[a:b]' -/
theorem run_slice_op_both {ρ : Operand → Value} {o : Oper} (x y z : Operand) (ho : o.op = .slice 37 x (some y) (some z) none) (A : Option Addr) (n c a b : Nat) (hx : ρ x = .slice A n c) (hy : ρ y = .int .i64 (a : Int)) (hz : ρ z = .int .i64 (b : Int)) (hab : a ≤ b) (hb : b ≤ c) (W : World) :
    (execOp ρ o).run Try.prog W = .ok (.value (.slice (if c = a then A else A.map (·.add (a * 32))) (b - a) (c - a))) W := by
  unfold execOp
  simp only [ho, hx, hy, hz, Option.map_some, Option.map_none]
  simp only [run_sliceAt_slice W 37 _ _ _ _ sliceHs, run_slice_lh W 37 A n c sliceHs .i64 .i64 (a : Int) (b : Int) (by omega) (by omega) (by omega), sizeHs, Sem.run_bind, Sem.run_pure, Result.andThen_ok, sliced, Int.toNat_natCast]

set_option maxHeartbeats 2000000 in
set_option maxRecDepth 100000 in
theorem tstretch_ok (hs : List (List UInt8)) (A : Option Addr) (n c : Nat) (w : World) (a b : Nat) (h : Hs w (fun _ => True) A n c hs) (hn : n ≤ 4398046511104) (hab : a < b) (hb : b ≤ n) :
    Calls Try.prog 32 #[.slice A n c, .agg #[.int .i64 (a : Int), .int .i64 (b : Int)]] w fun e w' => e = .returned (.tuple #[.agg ((stretchL hs a b).map B).toArray, .int .i64 0]) ∧ Below w.heap.size w w' := by
  obtain ⟨zs, hzs⟩ : ∃ zs, zeroHash = zs := ⟨_, rfl⟩
  have hzl : zs.size = 32 := by rw [← hzs]; rfl
  have hroom := h.sl.room
  have hmax := h.sl.max
  unfold maxLen at hmax
  have hbx := (Below.refl w.heap.size w).alloc (Nat.le_refl _) (.cells #[.int .i64 (a : Int), .int .i64 (b : Int)] 29)
  have x0 := Blk.new w 29 #[.int .i64 (a : Int), .int .i64 (b : Int)]
  have hb0 := hbx.alloc hbx.size (.cells zs 34)
  have k0 := Blk.new (w.alloc (.cells #[.int .i64 (a : Int), .int .i64 (b : Int)] 29)) 34 zs
  have x1 := x0.alloc (.cells zs 34)
  have h0 := (h.step hb0).drop a (by omega)
  rw [if_neg (by omega)] at h0
  have h1 := h0.take (b - a) (by omega)
  have hof := fun W (hW : Below ((w.alloc (.cells #[.int .i64 (a : Int), .int .i64 (b : Int)] 29)).alloc (.cells zs 34)).heap.size ((w.alloc (.cells #[.int .i64 (a : Int), .int .i64 (b : Int)] 29)).alloc (.cells zs 34)) W) => tof_any ((hs.drop a).take (b - a)) _ (b - a) (c - a) W (h1.step hW) (by omega)
  obtain ⟨r, hr⟩ : ∃ r, stretchL hs a b = r := ⟨_, rfl⟩
  have hrl : r.length = 32 := by rw [← hr]; exact length_stretchL hs _ _ h.all
  rw [show rootL ((hs.drop a).take (b - a)) = r from hr] at hof
  rw [hr]
  have e0 : ((w.alloc (.cells #[.int .i64 (a : Int), .int .i64 (b : Int)] 29)).alloc (.cells zs 34)).cell? ⟨w.heap.size, 0, none⟩ = some (.int .i64 (a : Int)) := by rw [x1.cell]; rfl
  have e1 : ((w.alloc (.cells #[.int .i64 (a : Int), .int .i64 (b : Int)] 29)).alloc (.cells zs 34)).cell? ⟨w.heap.size, 1, none⟩ = some (.int .i64 (b : Int)) := by rw [x1.cell]; rfl
  have Hof := Lib.hid hof
  have Hzs := Lib.hid hzs
  have Hrl := Lib.hid hrl
  have d0 : decide ((a : Int) < 0) = false := by simp
  have d1 : decide ((b : Int) ≤ (a : Int)) = false := by simp; omega
  have d1' : decide (b ≤ a) = false := by simp; omega
  have d2 : decide ((n : Int) < (b : Int)) = false := by simp; omega
  have d2' : decide (n < b) = false := by simp; omega
  clear hof hzs hrl hr h h0 h1 x0 x1 hbx
  go_enter Try.func32, Try.ntmps32
  go_wp2_with (first
    | ((with_reducible show wpList _ _ _ (⟨some 4, .alloc _, _, _, _, _⟩ :: _) _ _); refine wpList_run rfl (.pointer (some ⟨(w.alloc (.cells #[.int .i64 (a : Int), .int .i64 (b : Int)] 29)).heap.size, 0, none⟩)) ((w.alloc (.cells #[.int .i64 (a : Int), .int .i64 (b : Int)] 29)).alloc (.cells zs 34)) (by rw [← Hzs.out]; rfl) ?_; simp only [Act.put]))
  refine (Hof.out _ (Below.refl _ _)).mono ?_
  rintro e w2 ⟨rfl, hb2⟩
  have k2 := k0.below hb2 k0.lt
  rw [show (w.alloc (.cells #[.int .i64 (a : Int), .int .i64 (b : Int)] 29)).heap.size = w.heap.size + 1 by simp] at k2
  have B2 := hb0.trans (hb2.mono hb0.size)
  clear e0 e1 d0 d1 d1' d2 d2' Hof
  go_wp2_with ((with_reducible show wpList _ _ _ (⟨none, .store _ _ _, _, _, _, _⟩ :: _) _ _); refine wpList_store_blk rfl 34 (.tmp 4) (.tmp 30) rfl 32 size26 (w.heap.size + 1) (r.map B).toArray rfl rfl (by simp [Hrl.out]) (oneCell_B _) 34 _ k2 hzl ?_; simp only [Act.put])
  refine bodyPost_ret (tuple_cellT rfl _ _ (w.heap.size + 1) (r.map B).toArray _ _ rfl (k2.setRow_ _) Try.underlying34 (by rw [show (r.map B).toArray.size = 32 by simp [Hrl.out]]; exact info26)) rfl ⟨rfl, ?_⟩
  exact below_setRow B2 (by omega) _

set_option maxHeartbeats 2000000 in
set_option maxRecDepth 100000 in
theorem tstretch_bad (A : Option Addr) (n c : Nat) (w : World) (a b : Int) (hbad : a < 0 ∨ b ≤ a ∨ n < b) :
    Calls Try.prog 32 #[.slice A n c, .agg #[.int .i64 a, .int .i64 b]] w fun e w' => e = .returned (.tuple #[.agg zeroHash, .int .i64 4]) ∧ Below w.heap.size w w' := by
  obtain ⟨zs, hzs⟩ : ∃ zs, zeroHash = zs := ⟨_, rfl⟩
  have hzl : zs.size = 32 := by rw [← hzs]; rfl
  have hz1 : ∀ v ∈ zs.toList, v.oneCell' = true := by rw [← hzs]; exact oneCell_B _
  rw [hzs]
  have hbx := (Below.refl w.heap.size w).alloc (Nat.le_refl _) (.cells #[.int .i64 a, .int .i64 b] 29)
  have x0 := Blk.new w 29 #[.int .i64 a, .int .i64 b]
  have hb0 := hbx.alloc hbx.size (.cells zs 34)
  have k0 := Blk.new (w.alloc (.cells #[.int .i64 a, .int .i64 b] 29)) 34 zs
  have x1 := x0.alloc (.cells zs 34)
  rw [show (w.alloc (.cells #[.int .i64 a, .int .i64 b] 29)).heap.size = w.heap.size + 1 by simp] at k0
  have e0 : ((w.alloc (.cells #[.int .i64 a, .int .i64 b] 29)).alloc (.cells zs 34)).cell? ⟨w.heap.size, 0, none⟩ = some (.int .i64 a) := by rw [x1.cell]; rfl
  have e1 : ((w.alloc (.cells #[.int .i64 a, .int .i64 b] 29)).alloc (.cells zs 34)).cell? ⟨w.heap.size, 1, none⟩ = some (.int .i64 b) := by rw [x1.cell]; rfl
  have Hzs := Lib.hid hzs
  have Hz1 := Lib.hid hz1
  clear hzs hz1 x0 x1 hbx
  have hd : (decide (a < 0) = true) ∨ (decide (a < 0) = false ∧ decide (b ≤ a) = true) ∨ (decide (a < 0) = false ∧ decide (b ≤ a) = false ∧ decide ((n : Int) < b) = true) := by
    by_cases h1 : a < 0
    · exact .inl (decide_eq_true h1)
    · by_cases h2 : b ≤ a
      · exact .inr (.inl ⟨decide_eq_false h1, decide_eq_true h2⟩)
      · exact .inr (.inr ⟨decide_eq_false h1, decide_eq_false h2, decide_eq_true (by omega)⟩)
  clear hbad
  go_enter Try.func32, Try.ntmps32
  rcases hd with d1 | ⟨d1, d2⟩ | ⟨d1, d2, d3⟩
  all_goals
    go_wp2_with (first
      | ((with_reducible show wpList _ _ _ (⟨some 4, .alloc _, _, _, _, _⟩ :: _) _ _); refine wpList_run rfl (.pointer (some ⟨(w.alloc (.cells #[.int .i64 a, .int .i64 b] 29)).heap.size, 0, none⟩)) ((w.alloc (.cells #[.int .i64 a, .int .i64 b] 29)).alloc (.cells zs 34)) (by rw [← Hzs.out]; rfl) ?_; simp only [Act.put])
      | ((with_reducible show wpList _ _ _ (⟨some 23, .build _ _, _, _, _, _⟩ :: _) _ _); refine wpList_run0 rfl (.agg zs) (by rw [← Hzs.out]; kernel_rfl) ?_; simp only [Act.put])
      | ((with_reducible show wpList _ _ _ (⟨none, .store _ _ _, _, _, _, _⟩ :: _) _ _); refine wpList_store_blk rfl 34 (.tmp 4) (.tmp 23) rfl 32 size26 (w.heap.size + 1) zs rfl rfl hzl Hz1.out 34 _ k0 hzl ?_; simp only [Act.put]))
    refine bodyPost_ret (tuple_cellT rfl _ _ (w.heap.size + 1) zs _ _ rfl (k0.setRow_ _) Try.underlying34 (by rw [hzl]; exact info26)) rfl ⟨rfl, ?_⟩
    exact below_setRow hb0 (by omega) _
end Go.Proofs.Ytgcbdnoniikboaa
