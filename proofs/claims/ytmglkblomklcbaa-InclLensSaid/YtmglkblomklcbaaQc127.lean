/- notaryref11.Len, Prove. -/
import Derived.Test.YtmglkblomklcbaaQc126
namespace Go.Proofs.Ytmglkblomklcbaa
open Go Go.RowKit

theorem length_pathL_left (i n : Nat) (h2 : 2 ≤ n) (hi : i < splitN n) : (pathL i 0 n).length = (pathL i 0 (splitN n)).length + 1 := by
  rw [pathL_left i 0 n (by omega) (by simpa using hi), List.length_append, Nat.zero_add, Nat.sub_zero]; rfl
theorem length_pathL_right (i n : Nat) (h2 : 2 ≤ n) (hi : ¬ i < splitN n) : (pathL i 0 n).length = (pathL (i - splitN n) 0 (n - splitN n)).length + 1 := by
  have hl := splitN_lt n h2
  have hsh := pathL_shift (splitN n) (n - splitN n) (i - splitN n) 0 (n - splitN n) (by omega)
  rw [show i - splitN n + splitN n = i by omega, Nat.zero_add, show n - splitN n + splitN n = n by omega] at hsh
  rw [pathL_right i 0 n (by omega) (by simpa using hi), List.length_append, Nat.zero_add, Nat.sub_zero, hsh, List.length_map]; rfl

set_option maxHeartbeats 1000000 in
set_option maxRecDepth 100000 in
theorem r11len_any (i n : Int) (w : World) (hn : n ≤ 9223372036854775807) :
    Calls Try.prog 14 #[.int .i64 i, .int .i64 n] w fun e w' => e = .returned (.tuple #[.int .i64 ((pathA i n).1.length : Int), .int .i64 (pathA i n).2]) ∧ w = w' := by
  unfold pathA
  by_cases h0 : i < 0
  · rw [if_pos (.inl h0)]
    have h0' : decide (i < 0) = true := by simp; exact h0
    go_enter Try.func14, Try.ntmps14
    go_wp2_with fail
    go_ret2
    exact ⟨rfl, rfl⟩
  by_cases h1 : n ≤ i
  · rw [if_pos (.inr h1)]
    have h0' : decide (i < 0) = false := by simp; omega
    have h1' : decide (n ≤ i) = true := by simp; omega
    go_enter Try.func14, Try.ntmps14
    go_wp2_with fail
    go_ret2
    exact ⟨rfl, rfl⟩
  rw [if_neg (by omega)]
  dsimp only
  obtain ⟨i, rfl⟩ : ∃ k : Nat, i = (k : Int) := ⟨i.toNat, by omega⟩
  obtain ⟨n, rfl⟩ : ∃ k : Nat, n = (k : Int) := ⟨n.toNat, by omega⟩
  rw [Int.toNat_natCast, Int.toNat_natCast]
  have hpl := pathL_len 63 i 0 n (by omega)
  obtain ⟨t, ht⟩ : ∃ t, (pathL i 0 n).length = t := ⟨_, rfl⟩
  rw [ht] at hpl ⊢
  have Ht := Lib.hid ht
  have h0' : decide ((i : Int) < 0) = false := by simp
  have h1' : decide ((n : Int) ≤ (i : Int)) = false := by simp; omega
  have h1'' : decide (n ≤ i) = false := by simp; omega
  clear ht
  go_enter Try.func14, Try.ntmps14
  go_wp2_with fail
  go_loop [0, 1, 6] (fun a b c => ∃ i' n' m : Nat, i' < n' ∧ n' ≤ 9223372036854775807 ∧ a = .int .i64 (i' : Int) ∧ b = .int .i64 (n' : Int) ∧ c = .int .i64 (m : Int) ∧ m + (pathL i' 0 n').length = t) (fun _ b _ => (intOf b).toNat)
  case atStart => exact ⟨i, n, 0, by omega, by omega, rfl, rfl, rfl, by rw [Nat.zero_add]; exact Ht.out⟩
  case round =>
    obtain ⟨i', n', m, hin, hn', rfl, rfl, rfl, hm⟩ := hrel
    have Hm := Lib.hid hm
    have hmt : m ≤ t := by omega
    clear hm
    by_cases h2 : n' < 2
    · have hd : decide ((1 : Int) < (n' : Int)) = false := by simp; omega
      have hmt' : m = t := by have := Hm.out; rw [pathL_small _ _ _ (by omega)] at this; simpa using this
      subst hmt'
      go_wp2_with fail
      go_ret2
      exact ⟨rfl, rfl⟩
    · have hd : decide ((1 : Int) < (n' : Int)) = true := by simp; omega
      have hspl := fun W => r11split_any (n' : Int) W (by omega) (by omega)
      rw [Int.toNat_natCast] at hspl
      have hsl := splitN_lt n' (by omega)
      have hsp := splitN_pos n' (by omega)
      have hle := length_pathL_left i' n' (by omega)
      have hri := length_pathL_right i' n' (by omega)
      obtain ⟨s, hs⟩ : ∃ s, splitN n' = s := ⟨_, rfl⟩
      rw [hs] at hspl hsl hsp hle hri
      have Hspl := Lib.hid hspl
      clear hspl hs
      by_cases hi : i' < s
      · have hd2 : decide ((i' : Int) < (s : Int)) = true := by simp; omega
        have hle := hle hi
        have Hle := Lib.hid hle
        have hmt2 : m + 1 ≤ t := by have := Hm.out; omega
        have hw : IntKind.i64.wrap ((m : Int) + 1) = ((m + 1 : Nat) : Int) := by rw [IntWalk.i64_in _ (by omega)]; omega
        clear hle hri
        go_wp2_with (go_at_call 39; refine (Hspl.out _).mono ?_; rintro e w1 ⟨rfl, rfl⟩)
        go_round
        case rel => exact ⟨i', s, m + 1, hi, by omega, rfl, rfl, by go_num, by have := Hm.out; have := Hle.out; omega⟩
        case measure => simp [intOf]; omega
      · have hd2 : decide ((i' : Int) < (s : Int)) = false := by simp; omega
        have hri := hri hi
        have Hri := Lib.hid hri
        have hmt2 : m + 1 ≤ t := by have := Hm.out; omega
        have hw : IntKind.i64.wrap ((m : Int) + 1) = ((m + 1 : Nat) : Int) := by rw [IntWalk.i64_in _ (by omega)]; omega
        have hw1 : IntKind.i64.wrap ((i' : Int) - (s : Int)) = ((i' - s : Nat) : Int) := by rw [IntWalk.i64_in _ (by omega)]; omega
        have hw2 : IntKind.i64.wrap ((n' : Int) - (s : Int)) = ((n' - s : Nat) : Int) := by rw [IntWalk.i64_in _ (by omega)]; omega
        clear hle hri
        go_wp2_with (go_at_call 39; refine (Hspl.out _).mono ?_; rintro e w1 ⟨rfl, rfl⟩)
        go_round
        case rel => exact ⟨i' - s, n' - s, m + 1, by omega, by omega, by go_num, by go_num, by go_num, by have := Hm.out; have := Hri.out; omega⟩
        case measure => simp [intOf]; omega

set_option maxHeartbeats 4000000 in
set_option maxRecDepth 100000 in
theorem r11prove_rec (d : Nat) : ∀ (hs : List (List UInt8)) (A : Option Addr) (n c : Nat) (w : World) (i : Nat), n ≤ d → i < n → Hs w (fun _ => True) A n c hs → n ≤ 1099511627776 →
    Calls Try.prog 12 #[.slice A n c, .int .i64 (i : Int)] w fun e w' => ∃ v, e = .returned (.tuple #[v, .int .i64 0]) ∧ w'.ownsRow w.heap.size 45 32 v (rootsN hs i).length (hcells (rootsN hs i)) ∧ Below w.heap.size w w' := by
  induction d with
  | zero => intro hs A n c w i h h1; omega
  | succ d ih =>
    intro hs A n c w i hd hi h hn
    have hlen := h.len
    have h32 := h.all
    have hroom := h.sl.room
    have hmx := h.sl.max
    unfold maxLen at hmx
    have h0' : decide ((i : Int) < 0) = false := by simp
    have h1' : decide ((n : Int) ≤ (i : Int)) = false := by simp; omega
    have h1'' : decide (n ≤ i) = false := by simp; omega
    have hrl : (rootsN hs i).length ≤ 63 := by rw [length_rootsN]; exact pathL_len 63 i 0 _ (by omega)
    have Hlen := Lib.hid hlen
    have H32h := Lib.hid h32
    clear hlen h32
    by_cases hn1 : n = 1
    · subst hn1
      rw [rootsN_small hs i (by rw [Hlen.out]; omega)]
      clear ih h
      go_enter Try.func12, Try.ntmps12
      go_wp2_with fail
      refine bodyPost_ret (results_tmp2 rfl _ _ _) rfl ⟨_, rfl, World.ownsRow_nil _ _ _ _, Below.refl _ _⟩
    have hne1 : ((n : Int) == 1) = false := by simp; omega
    have hspl := fun W => r11split_any (n : Int) W (by omega) (by omega)
    rw [Int.toNat_natCast] at hspl
    have hsl := splitN_lt n (by omega)
    have hsp := splitN_pos n (by omega)
    have hle := rootsN_left hs i (by rw [Hlen.out]; omega)
    have hri := rootsN_right hs i (by rw [Hlen.out]; omega)
    rw [Hlen.out] at hle hri
    obtain ⟨s, hs'⟩ : ∃ s, splitN n = s := ⟨_, rfl⟩
    rw [hs'] at hspl hsl hsp hle hri
    have Hspl := Lib.hid hspl
    clear hspl hs'
    have hT := fun W (hW : Below w.heap.size w W) => (((h.weak fun b hb _ => hb : Hs w (· < w.heap.size) A n c hs).step hW).take s (by omega)).weak (Y := fun _ => True) fun _ _ _ => trivial
    have hD := fun W (hW : Below w.heap.size w W) => (((h.weak fun b hb _ => hb : Hs w (· < w.heap.size) A n c hs).step hW).drop s (by omega)).weak (Y := fun _ => True) fun _ _ _ => trivial
    clear h
    obtain ⟨Ax, hAx⟩ : ∃ Ax, (if c = s then A else A.map (·.add (s * 32))) = Ax := ⟨_, rfl⟩
    rw [hAx] at hD
    have HAx := Lib.hid hAx
    clear hAx
    by_cases hlt : i < s
    · have hd2 : decide ((i : Int) < (s : Int)) = true := by simp; omega
      have hp := hle hlt
      rw [hp] at hrl ⊢
      have hic := ih (hs.take s) A s c w i (by omega) hlt (hT w (Below.refl _ _)) (by omega)
      have hro := fun W (hW : Below w.heap.size w W) => r11root_any (hs.drop s) _ (n - s) (c - s) W (hD W hW) (by omega)
      have hzl := length_rootL (hs.drop s) (H32h.out.drop s)
      obtain ⟨q, hq⟩ : ∃ q, rootsN (hs.take s) i = q := ⟨_, rfl⟩
      obtain ⟨z, hz⟩ : ∃ z, rootL (hs.drop s) = z := ⟨_, rfl⟩
      rw [hq] at hic hrl ⊢
      rw [hz] at hro hzl hrl ⊢
      rw [List.length_append] at hrl
      have Hic := Lib.hid hic
      have Hro := Lib.hid hro
      have Hzl := Lib.hid hzl
      clear hic hro hzl hq hz hT hD hle hri hp ih
      go_enter Try.func12, Try.ntmps12
      go_wp2_with (first
        | (go_at_call 39; refine (Hspl.out _).mono ?_; rintro e w1 ⟨rfl, rfl⟩)
        | ((with_reducible show wpList _ _ _ (⟨some 31, .slice _ _ _ _ _, _, _, _, _⟩ :: _) _ _); refine wpList_run0 rfl (.slice A s c) (run_slice_op_hi (.tmp 29) (.tmp 30) rfl A n c s rfl rfl (by omega) _) ?_; simp only [Act.put]))
      refine Hic.out.mono ?_
      rintro e w1 ⟨v, rfl, ho, hb1⟩
      go_wp2_with ((with_reducible show wpList _ _ _ (⟨some 39, .slice _ _ _ _ _, _, _, _, _⟩ :: _) _ _); refine wpList_run0 rfl (.slice Ax (n - s) (c - s)) (by rw [← HAx.out]; exact run_slice_op_lo (.tmp 37) (.tmp 38) rfl A n c s rfl rfl (by omega) _) ?_; simp only [Act.put])
      refine (Hro.out w1 hb1).mono ?_
      rintro e w2 ⟨rfl, hb2⟩
      have hb02 := hb1.trans (hb2.mono hb1.size)
      obtain ⟨v', W9, hr9, hv9, hg9, -⟩ := append_hR (owns_step ho hb2) z Hzl.out (by omega) hb02.size
      have hb9 := hb02.grown hg9 hb02.size (fun r e => (ho.lt r e).1)
      have Hr9 := Lib.hid hr9
      clear hr9 ho hb1 hb2
      go_wp2_with (first
        | ((with_reducible show wpList _ _ _ (⟨some 41, .buildSlice _ _ _, _, _, _, _⟩ :: _) _ _); refine wpList_run rfl _ _ (run_litH_op z Hzl.out (.tmp 40) rfl rfl _) ?_; simp only [Act.put])
        | ((with_reducible show wpList _ _ _ (⟨some 42, .call _, _, _, _, _⟩ :: _) _ _); refine wpList_run rfl _ W9 (run_append_op (.tmp 36) (.tmp 41) 22 rfl _ _ rfl rfl Hr9.out) ?_; simp only [Act.put]))
      refine bodyPost_ret (results_tmp2 rfl _ _ _) rfl ⟨_, rfl, hv9, hb9⟩
    · have hd2 : decide ((i : Int) < (s : Int)) = false := by simp; omega
      have hp := hri hlt
      rw [hp] at hrl ⊢
      have hic := ih (hs.drop s) _ (n - s) (c - s) w (i - s) (by omega) (by omega) (hD w (Below.refl _ _)) (by omega)
      rw [show ((i - s : Nat) : Int) = (i : Int) - (s : Int) by omega] at hic
      have hw1 : IntKind.i64.wrap ((i : Int) - (s : Int)) = (i : Int) - (s : Int) := IntWalk.i64_in _ (by omega)
      have hro := fun W (hW : Below w.heap.size w W) => r11root_any (hs.take s) A s c W (hT W hW) (by omega)
      have hzl := length_rootL (hs.take s) (H32h.out.take s)
      obtain ⟨q, hq⟩ : ∃ q, rootsN (hs.drop s) (i - s) = q := ⟨_, rfl⟩
      obtain ⟨z, hz⟩ : ∃ z, rootL (hs.take s) = z := ⟨_, rfl⟩
      rw [hq] at hic hrl ⊢
      rw [hz] at hro hzl hrl ⊢
      rw [List.length_append] at hrl
      have Hic := Lib.hid hic
      have Hro := Lib.hid hro
      have Hzl := Lib.hid hzl
      clear hic hro hzl hq hz hT hD hle hri hp ih
      go_enter Try.func12, Try.ntmps12
      go_wp2_with (first
        | (go_at_call 39; refine (Hspl.out _).mono ?_; rintro e w1 ⟨rfl, rfl⟩)
        | ((with_reducible show wpList _ _ _ (⟨some 46, .slice _ _ _ _ _, _, _, _, _⟩ :: _) _ _); refine wpList_run0 rfl (.slice Ax (n - s) (c - s)) (by rw [← HAx.out]; exact run_slice_op_lo (.tmp 44) (.tmp 45) rfl A n c s rfl rfl (by omega) _) ?_; simp only [Act.put]))
      refine Hic.out.mono ?_
      rintro e w1 ⟨v, rfl, ho, hb1⟩
      go_wp2_with ((with_reducible show wpList _ _ _ (⟨some 56, .slice _ _ _ _ _, _, _, _, _⟩ :: _) _ _); refine wpList_run0 rfl (.slice A s c) (run_slice_op_hi (.tmp 54) (.tmp 55) rfl A n c s rfl rfl (by omega) _) ?_; simp only [Act.put])
      refine (Hro.out w1 hb1).mono ?_
      rintro e w2 ⟨rfl, hb2⟩
      have hb02 := hb1.trans (hb2.mono hb1.size)
      obtain ⟨v', W9, hr9, hv9, hg9, -⟩ := append_hR (owns_step ho hb2) z Hzl.out (by omega) hb02.size
      have hb9 := hb02.grown hg9 hb02.size (fun r e => (ho.lt r e).1)
      have Hr9 := Lib.hid hr9
      clear hr9 ho hb1 hb2
      go_wp2_with (first
        | ((with_reducible show wpList _ _ _ (⟨some 58, .buildSlice _ _ _, _, _, _, _⟩ :: _) _ _); refine wpList_run rfl _ _ (run_litH_op z Hzl.out (.tmp 57) rfl rfl _) ?_; simp only [Act.put])
        | ((with_reducible show wpList _ _ _ (⟨some 59, .call _, _, _, _, _⟩ :: _) _ _); refine wpList_run rfl _ W9 (run_append_op (.tmp 53) (.tmp 58) 22 rfl _ _ rfl rfl Hr9.out) ?_; simp only [Act.put]))
      refine bodyPost_ret (results_tmp2 rfl _ _ _) rfl ⟨_, rfl, hv9, hb9⟩

set_option maxHeartbeats 1000000 in
set_option maxRecDepth 100000 in
theorem r11prove_any (hs : List (List UInt8)) (A : Option Addr) (n c : Nat) (w : World) (i : Int) (h : Hs w (fun _ => True) A n c hs) (hn : n ≤ 1099511627776) :
    Calls Try.prog 12 #[.slice A n c, .int .i64 i] w fun e w' => ∃ v, e = .returned (.tuple #[v, .int .i64 (pathA i hs.length).2]) ∧ w'.ownsRow w.heap.size 45 32 v (rootsP hs i).length (hcells (rootsP hs i)) ∧ Below w.heap.size w w' := by
  have hlen := h.len
  by_cases h0 : i < 0
  · have hpa : pathA i hs.length = ([], 4) := by unfold pathA; rw [if_pos (.inl h0)]
    have hr : rootsP hs i = [] := rootsP_bad hs i (by rw [hpa]; decide)
    rw [hpa, hr]
    dsimp only
    have h0' : decide (i < 0) = true := by simp; exact h0
    clear h hlen hpa hr
    go_enter Try.func12, Try.ntmps12
    go_wp2_with fail
    refine bodyPost_ret (results_tmp2 rfl _ _ _) rfl ⟨_, rfl, World.ownsRow_nil _ _ _ _, Below.refl _ _⟩
  by_cases h1 : (n : Int) ≤ i
  · have hpa : pathA i hs.length = ([], 4) := by unfold pathA; rw [if_pos (.inr (by omega))]
    have hr : rootsP hs i = [] := rootsP_bad hs i (by rw [hpa]; decide)
    rw [hpa, hr]
    dsimp only
    have h0' : decide (i < 0) = false := by simp; omega
    have h1' : decide ((n : Int) ≤ i) = true := by simp; omega
    clear h hlen hpa hr
    go_enter Try.func12, Try.ntmps12
    go_wp2_with fail
    refine bodyPost_ret (results_tmp2 rfl _ _ _) rfl ⟨_, rfl, World.ownsRow_nil _ _ _ _, Below.refl _ _⟩
  obtain ⟨e1, e2⟩ := rootsP_nat hs i (by omega) (by omega)
  rw [e1, e2]
  have := r11prove_rec n hs A n c w i.toNat (Nat.le_refl _) (by omega) h hn
  rwa [show ((i.toNat : Nat) : Int) = i by omega] at this
end Go.Proofs.Ytmglkblomklcbaa
/- notarylaw11.InclLens. -/
namespace Go.Proofs.Ytmglkblomklcbaa
open Go Go.RowKit

set_option maxHeartbeats 1000000 in
set_option maxRecDepth 100000 in
theorem incllens_any (i n : Int) (w : World) (hn : n ≤ 9223372036854775807) :
    Calls Try.prog 4 #[.int .i64 i, .int .i64 n] w fun e w' => e = .returned (.bool true) ∧ Below w.heap.size w w' := by
  have h1 := fun W => ilen_any i n W hn
  have h2 := fun W => r11len_any i n W hn
  obtain ⟨⟨ls, e0⟩, hse⟩ : ∃ s, pathA i n = s := ⟨_, rfl⟩
  rw [hse] at h1 h2
  dsimp only at h1 h2
  obtain ⟨m, hm⟩ : ∃ m, ls.length = m := ⟨_, rfl⟩
  rw [hm] at h1 h2
  have H1 := Lib.hid h1
  have H2 := Lib.hid h2
  clear h1 h2 hse hm
  go_enter Try.func4, Try.ntmps4
  go_wp2_with fail
  refine (H1.out w).mono ?_
  rintro e w1 ⟨rfl, hb1⟩
  go_wp2_with (first
    | (go_at_call 14; refine (H2.out _).mono ?_; rintro e w0 ⟨rfl, rfl⟩)
    | (go_at_call 15; refine (num11_any _ _).mono ?_; rintro e w0 ⟨rfl, rfl⟩)
    | (go_at_call 9; refine (works11_any _).mono ?_; rintro e w2 ⟨rfl, hb2⟩))
  go_ret
  exact ⟨rfl, hb1.trans (hb2.mono hb1.size)⟩
end Go.Proofs.Ytmglkblomklcbaa
