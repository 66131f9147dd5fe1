/- notaryref11.Len, Prove. -/
import Derived.Test.YtmglkblomklcbaaQc123
import Derived.Test.YtmglkblomklcbaaQc125
namespace Go.Proofs.Ytmglkblomklcbaa
open Go Go.RowKit

theorem length_pathL_left (i n : Nat) (h2 : 2 ≤ n) (hi : i < splitN n) : (pathL i 0 n).length = (pathL i 0 (splitN n)).length + 1 := by
  rw [pathL_left i 0 n (by omega) (by simpa using hi), List.length_append, Nat.zero_add, Nat.sub_zero]; rfl
theorem length_pathL_right (i n : Nat) (h2 : 2 ≤ n) (hi : ¬ i < splitN n) : (pathL i 0 n).length = (pathL (i - splitN n) 0 (n - splitN n)).length + 1 := by
  have hl := splitN_lt n h2
  have hsh := pathL_shift (splitN n) (n - splitN n) (i - splitN n) 0 (n - splitN n) (by omega)
  rw [show i - splitN n + splitN n = i by omega, Nat.zero_add, show n - splitN n + splitN n = n by omega] at hsh
  rw [pathL_right i 0 n (by omega) (by simpa using hi), List.length_append, Nat.zero_add, Nat.sub_zero, hsh, List.length_map]; rfl

set_option maxHeartbeats 1000000 in
set_option maxRecDepth 100000 in
theorem r11len_any (i n : Int) (w : World) (hn : n ≤ 9223372036854775807) :
    Calls Try.prog 14 #[.int .i64 i, .int .i64 n] w fun e w' => e = .returned (.tuple #[.int .i64 ((pathA i n).1.length : Int), .int .i64 (pathA i n).2]) ∧ w = w' := by
  unfold pathA
  by_cases h0 : i < 0
  · rw [if_pos (.inl h0)]
    have h0' : decide (i < 0) = true := by simp; exact h0
    go_enter Try.func14, Try.ntmps14
    go_wp2_with fail
    go_ret2
    exact ⟨rfl, rfl⟩
  by_cases h1 : n ≤ i
  · rw [if_pos (.inr h1)]
    have h0' : decide (i < 0) = false := by simp; omega
    have h1' : decide (n ≤ i) = true := by simp; omega
    go_enter Try.func14, Try.ntmps14
    go_wp2_with fail
    go_ret2
    exact ⟨rfl, rfl⟩
  rw [if_neg (by omega)]
  dsimp only
  obtain ⟨i, rfl⟩ : ∃ k : Nat, i = (k : Int) := ⟨i.toNat, by omega⟩
  obtain ⟨n, rfl⟩ : ∃ k : Nat, n = (k : Int) := ⟨n.toNat, by omega⟩
  rw [Int.toNat_natCast, Int.toNat_natCast]
  have hpl := pathL_len 63 i 0 n (by omega)
  obtain ⟨t, ht⟩ : ∃ t, (pathL i 0 n).length = t := ⟨_, rfl⟩
  rw [ht] at hpl ⊢
  have Ht := Lib.hid ht
  have h0' : decide ((i : Int) < 0) = false := by simp
  have h1' : decide ((n : Int) ≤ (i : Int)) = false := by simp; omega
  have h1'' : decide (n ≤ i) = false := by simp; omega
  clear ht
  go_enter Try.func14, Try.ntmps14
  go_wp2_with fail
  go_loop [0, 1, 6] (fun a b c => ∃ i' n' m : Nat, i' < n' ∧ n' ≤ 9223372036854775807 ∧ a = .int .i64 (i' : Int) ∧ b = .int .i64 (n' : Int) ∧ c = .int .i64 (m : Int) ∧ m + (pathL i' 0 n').length = t) (fun _ b _ => (intOf b).toNat)
  case atStart => exact ⟨i, n, 0, by omega, by omega, rfl, rfl, rfl, by rw [Nat.zero_add]; exact Ht.out⟩
  case round =>
    obtain ⟨i', n', m, hin, hn', rfl, rfl, rfl, hm⟩ := hrel
    have Hm := Lib.hid hm
    have hmt : m ≤ t := by omega
    clear hm
    by_cases h2 : n' < 2
    · have hd : decide ((1 : Int) < (n' : Int)) = false := by simp; omega
      have hmt' : m = t := by have := Hm.out; rw [pathL_small _ _ _ (by omega)] at this; simpa using this
      subst hmt'
      go_wp2_with fail
      go_ret2
      exact ⟨rfl, rfl⟩
    · have hd : decide ((1 : Int) < (n' : Int)) = true := by simp; omega
      have hspl := fun W => r11split_any (n' : Int) W (by omega) (by omega)
      rw [Int.toNat_natCast] at hspl
      have hsl := splitN_lt n' (by omega)
      have hsp := splitN_pos n' (by omega)
      have hle := length_pathL_left i' n' (by omega)
      have hri := length_pathL_right i' n' (by omega)
      obtain ⟨s, hs⟩ : ∃ s, splitN n' = s := ⟨_, rfl⟩
      rw [hs] at hspl hsl hsp hle hri
      have Hspl := Lib.hid hspl
      clear hspl hs
      by_cases hi : i' < s
      · have hd2 : decide ((i' : Int) < (s : Int)) = true := by simp; omega
        have hle := hle hi
        have Hle := Lib.hid hle
        have hmt2 : m + 1 ≤ t := by have := Hm.out; omega
        have hw : IntKind.i64.wrap ((m : Int) + 1) = ((m + 1 : Nat) : Int) := by rw [IntWalk.i64_in _ (by omega)]; omega
        clear hle hri
        go_wp2_with (go_at_call 39; refine (Hspl.out _).mono ?_; rintro e w1 ⟨rfl, rfl⟩)
        go_round
        case rel => exact ⟨i', s, m + 1, hi, by omega, rfl, rfl, by go_num, by have := Hm.out; have := Hle.out; omega⟩
        case measure => simp [intOf]; omega
      · have hd2 : decide ((i' : Int) < (s : Int)) = false := by simp; omega
        have hri := hri hi
        have Hri := Lib.hid hri
        have hmt2 : m + 1 ≤ t := by have := Hm.out; omega
        have hw : IntKind.i64.wrap ((m : Int) + 1) = ((m + 1 : Nat) : Int) := by rw [IntWalk.i64_in _ (by omega)]; omega
        have hw1 : IntKind.i64.wrap ((i' : Int) - (s : Int)) = ((i' - s : Nat) : Int) := by rw [IntWalk.i64_in _ (by omega)]; omega
        have hw2 : IntKind.i64.wrap ((n' : Int) - (s : Int)) = ((n' - s : Nat) : Int) := by rw [IntWalk.i64_in _ (by omega)]; omega
        clear hle hri
        go_wp2_with (go_at_call 39; refine (Hspl.out _).mono ?_; rintro e w1 ⟨rfl, rfl⟩)
        go_round
        case rel => exact ⟨i' - s, n' - s, m + 1, by omega, by omega, by go_num, by go_num, by go_num, by have := Hm.out; have := Hri.out; omega⟩
        case measure => simp [intOf]; omega

set_option maxHeartbeats 4000000 in
set_option maxRecDepth 100000 in
theorem r11prove_rec (d : Nat) : ∀ (hs : List (List UInt8)) (A : Option Addr) (n c : Nat) (w : World) (i : Nat), n ≤ d → i < n → Hs w (fun _ => True) A n c hs → n ≤ 1099511627776 →
    Calls Try.prog 12 #[.slice A n c, .int .i64 (i : Int)] w fun e w' => ∃ v, e = .returned (.tuple #[v, .int .i64 0]) ∧ w'.ownsRow w.heap.size 45 32 v (rootsN hs i).length (hcells (rootsN hs i)) ∧ Below w.heap.size w w' := by
  induction d with
  | zero => intro hs A n c w i h h1; omega
  | succ d ih =>
    intro hs A n c w i hd hi h hn
    have hlen := h.len
    have h32 := h.all
    have hroom := h.sl.room
    have hmx := h.sl.max
    unfold maxLen at hmx
    have h0' : decide ((i : Int) < 0) = false := by simp
    have h1' : decide ((n : Int) ≤ (i : Int)) = false := by simp; omega
    have h1'' : decide (n ≤ i) = false := by simp; omega
    have hrl : (rootsN hs i).length ≤ 63 := by rw [length_rootsN]; exact pathL_len 63 i 0 _ (by omega)
    have Hlen := Lib.hid hlen
    have H32h := Lib.hid h32
    clear hlen h32
    by_cases hn1 : n = 1
    · subst hn1
      rw [rootsN_small hs i (by rw [Hlen.out]; omega)]
      clear ih h
      go_enter Try.func12, Try.ntmps12
      go_wp2_with fail
      refine bodyPost_ret (results_tmp2 rfl _ _ _) rfl ⟨_, rfl, World.ownsRow_nil _ _ _ _, Below.refl _ _⟩
    have hne1 : ((n : Int) == 1) = false := by simp; omega
    have hspl := fun W => r11split_any (n : Int) W (by omega) (by omega)
    rw [Int.toNat_natCast] at hspl
    have hsl := splitN_lt n (by omega)
    have hsp := splitN_pos n (by omega)
    have hle := rootsN_left hs i (by rw [Hlen.out]; omega)
    have hri := rootsN_right hs i (by rw [Hlen.out]; omega)
    rw [Hlen.out] at hle hri
    obtain ⟨s, hs'⟩ : ∃ s, splitN n = s := ⟨_, rfl⟩
    rw [hs'] at hspl hsl hsp hle hri
    have Hspl := Lib.hid hspl
    clear hspl hs'
    have hT := fun W (hW : Below w.heap.size w W) => (((h.weak fun b hb _ => hb : Hs w (· < w.heap.size) A n c hs).step hW).take s (by omega)).weak (Y := fun _ => True) fun _ _ _ => trivial
    have hD := fun W (hW : Below w.heap.size w W) => (((h.weak fun b hb _ => hb : Hs w (· < w.heap.size) A n c hs).step hW).drop s (by omega)).weak (Y := fun _ => True) fun _ _ _ => trivial
    clear h
    obtain ⟨Ax, hAx⟩ : ∃ Ax, (if c = s then A else A.map (·.add (s * 32))) = Ax := ⟨_, rfl⟩
    rw [hAx] at hD
    have HAx := Lib.hid hAx
    clear hAx
    by_cases hlt : i < s
    · have hd2 : decide ((i : Int) < (s : Int)) = true := by simp; omega
      have hp := hle hlt
      rw [hp] at hrl ⊢
      have hic := ih (hs.take s) A s c w i (by omega) hlt (hT w (Below.refl _ _)) (by omega)
      have hro := fun W (hW : Below w.heap.size w W) => r11root_any (hs.drop s) _ (n - s) (c - s) W (hD W hW) (by omega)
      have hzl := length_rootL (hs.drop s) (H32h.out.drop s)
      obtain ⟨q, hq⟩ : ∃ q, rootsN (hs.take s) i = q := ⟨_, rfl⟩
      obtain ⟨z, hz⟩ : ∃ z, rootL (hs.drop s) = z := ⟨_, rfl⟩
      rw [hq] at hic hrl ⊢
      rw [hz] at hro hzl hrl ⊢
      rw [List.length_append] at hrl
      have Hic := Lib.hid hic
      have Hro := Lib.hid hro
      have Hzl := Lib.hid hzl
      clear hic hro hzl hq hz hT hD hle hri hp ih
      go_enter Try.func12, Try.ntmps12
      go_wp2_with (first
        | (go_at_call 39; refine (Hspl.out _).mono ?_; rintro e w1 ⟨rfl, rfl⟩)
        | ((with_reducible show wpList _ _ _ (⟨some 31, .slice _ _ _ _ _, _, _, _, _⟩ :: _) _ _); refine wpList_run0 rfl (.slice A s c) (run_slice_op_hi (.tmp 29) (.tmp 30) rfl A n c s rfl rfl (by omega) _) ?_; simp only [Act.put]))
      refine Hic.out.mono ?_
      rintro e w1 ⟨v, rfl, ho, hb1⟩
      go_wp2_with ((with_reducible show wpList _ _ _ (⟨some 39, .slice _ _ _ _ _, _, _, _, _⟩ :: _) _ _); refine wpList_run0 rfl (.slice Ax (n - s) (c - s)) (by rw [← HAx.out]; exact run_slice_op_lo (.tmp 37) (.tmp 38) rfl A n c s rfl rfl (by omega) _) ?_; simp only [Act.put])
      refine (Hro.out w1 hb1).mono ?_
      rintro e w2 ⟨rfl, hb2⟩
      have hb02 := hb1.trans (hb2.mono hb1.size)
      obtain ⟨v', W9, hr9, hv9, hg9, -⟩ := append_hR (owns_step ho hb2) z Hzl.out (by omega) hb02.size
      have hb9 := hb02.grown hg9 hb02.size (fun r e => (ho.lt r e).1)
      have Hr9 := Lib.hid hr9
      clear hr9 ho hb1 hb2
      go_wp2_with (first
        | ((with_reducible show wpList _ _ _ (⟨some 41, .buildSlice _ _ _, _, _, _, _⟩ :: _) _ _); refine wpList_run rfl _ _ (run_litH_op z Hzl.out (.tmp 40) rfl rfl _) ?_; simp only [Act.put])
        | ((with_reducible show wpList _ _ _ (⟨some 42, .call _, _, _, _, _⟩ :: _) _ _); refine wpList_run rfl _ W9 (run_append_op (.tmp 36) (.tmp 41) 22 rfl _ _ rfl rfl Hr9.out) ?_; simp only [Act.put]))
      refine bodyPost_ret (results_tmp2 rfl _ _ _) rfl ⟨_, rfl, hv9, hb9⟩
    · have hd2 : decide ((i : Int) < (s : Int)) = false := by simp; omega
      have hp := hri hlt
      rw [hp] at hrl ⊢
      have hic := ih (hs.drop s) _ (n - s) (c - s) w (i - s) (by omega) (by omega) (hD w (Below.refl _ _)) (by omega)
      rw [show ((i - s : Nat) : Int) = (i : Int) - (s : Int) by omega] at hic
      have hw1 : IntKind.i64.wrap ((i : Int) - (s : Int)) = (i : Int) - (s : Int) := IntWalk.i64_in _ (by omega)
      have hro := fun W (hW : Below w.heap.size w W) => r11root_any (hs.take s) A s c W (hT W hW) (by omega)
      have hzl := length_rootL (hs.take s) (H32h.out.take s)
      obtain ⟨q, hq⟩ : ∃ q, rootsN (hs.drop s) (i - s) = q := ⟨_, rfl⟩
      obtain ⟨z, hz⟩ : ∃ z, rootL (hs.take s) = z := ⟨_, rfl⟩
      rw [hq] at hic hrl ⊢
      rw [hz] at hro hzl hrl ⊢
      rw [List.length_append] at hrl
      have Hic := Lib.hid hic
      have Hro := Lib.hid hro
      have Hzl := Lib.hid hzl
      clear hic hro hzl hq hz hT hD hle hri hp ih
      go_enter Try.func12, Try.ntmps12
      go_wp2_with (first
        | (go_at_call 39; refine (Hspl.out _).mono ?_; rintro e w1 ⟨rfl, rfl⟩)
        | ((with_reducible show wpList _ _ _ (⟨some 46, .slice _ _ _ _ _, _, _, _, _⟩ :: _) _ _); refine wpList_run0 rfl (.slice Ax (n - s) (c - s)) (by rw [← HAx.out]; exact run_slice_op_lo (.tmp 44) (.tmp 45) rfl A n c s rfl rfl (by omega) _) ?_; simp only [Act.put]))
      refine Hic.out.mono ?_
      rintro e w1 ⟨v, rfl, ho, hb1⟩
      go_wp2_with ((with_reducible show wpList _ _ _ (⟨some 56, .slice _ _ _ _ _, _, _, _, _⟩ :: _) _ _); refine wpList_run0 rfl (.slice A s c) (run_slice_op_hi (.tmp 54) (.tmp 55) rfl A n c s rfl rfl (by omega) _) ?_; simp only [Act.put])
      refine (Hro.out w1 hb1).mono ?_
      rintro e w2 ⟨rfl, hb2⟩
      have hb02 := hb1.trans (hb2.mono hb1.size)
      obtain ⟨v', W9, hr9, hv9, hg9, -⟩ := append_hR (owns_step ho hb2) z Hzl.out (by omega) hb02.size
      have hb9 := hb02.grown hg9 hb02.size (fun r e => (ho.lt r e).1)
      have Hr9 := Lib.hid hr9
      clear hr9 ho hb1 hb2
      go_wp2_with (first
        | ((with_reducible show wpList _ _ _ (⟨some 58, .buildSlice _ _ _, _, _, _, _⟩ :: _) _ _); refine wpList_run rfl _ _ (run_litH_op z Hzl.out (.tmp 57) rfl rfl _) ?_; simp only [Act.put])
        | ((with_reducible show wpList _ _ _ (⟨some 59, .call _, _, _, _, _⟩ :: _) _ _); refine wpList_run rfl _ W9 (run_append_op (.tmp 53) (.tmp 58) 22 rfl _ _ rfl rfl Hr9.out) ?_; simp only [Act.put]))
      refine bodyPost_ret (results_tmp2 rfl _ _ _) rfl ⟨_, rfl, hv9, hb9⟩

set_option maxHeartbeats 1000000 in
set_option maxRecDepth 100000 in
theorem r11prove_any (hs : List (List UInt8)) (A : Option Addr) (n c : Nat) (w : World) (i : Int) (h : Hs w (fun _ => True) A n c hs) (hn : n ≤ 1099511627776) :
    Calls Try.prog 12 #[.slice A n c, .int .i64 i] w fun e w' => ∃ v, e = .returned (.tuple #[v, .int .i64 (pathA i hs.length).2]) ∧ w'.ownsRow w.heap.size 45 32 v (rootsP hs i).length (hcells (rootsP hs i)) ∧ Below w.heap.size w w' := by
  have hlen := h.len
  by_cases h0 : i < 0
  · have hpa : pathA i hs.length = ([], 4) := by unfold pathA; rw [if_pos (.inl h0)]
    have hr : rootsP hs i = [] := rootsP_bad hs i (by rw [hpa]; decide)
    rw [hpa, hr]
    dsimp only
    have h0' : decide (i < 0) = true := by simp; exact h0
    clear h hlen hpa hr
    go_enter Try.func12, Try.ntmps12
    go_wp2_with fail
    refine bodyPost_ret (results_tmp2 rfl _ _ _) rfl ⟨_, rfl, World.ownsRow_nil _ _ _ _, Below.refl _ _⟩
  by_cases h1 : (n : Int) ≤ i
  · have hpa : pathA i hs.length = ([], 4) := by unfold pathA; rw [if_pos (.inr (by omega))]
    have hr : rootsP hs i = [] := rootsP_bad hs i (by rw [hpa]; decide)
    rw [hpa, hr]
    dsimp only
    have h0' : decide (i < 0) = false := by simp; omega
    have h1' : decide ((n : Int) ≤ i) = true := by simp; omega
    clear h hlen hpa hr
    go_enter Try.func12, Try.ntmps12
    go_wp2_with fail
    refine bodyPost_ret (results_tmp2 rfl _ _ _) rfl ⟨_, rfl, World.ownsRow_nil _ _ _ _, Below.refl _ _⟩
  obtain ⟨e1, e2⟩ := rootsP_nat hs i (by omega) (by omega)
  rw [e1, e2]
  have := r11prove_rec n hs A n c w i.toNat (Nat.le_refl _) (by omega) h hn
  rwa [show ((i.toNat : Nat) : Int) = i by omega] at this
end Go.Proofs.Ytmglkblomklcbaa
/- notaryref11.up. -/
namespace Go.Proofs.Ytmglkblomklcbaa
open Go Go.RowKit

theorem owns_litS {T S : TypeId} {base : Nat} (W : World) (s : StepV) (hs : s.2.length = 32) (hb : base ≤ W.heap.size) : (W.alloc (.cells (scell s).toArray T)).ownsRow base T 34 (.slice (some ⟨W.heap.size, 0, none⟩) 1 1) 1 (scells [s]) := by
  have hl := length_scell s hs
  rw [scells_one]
  exact ⟨by rw [hl], .inr ⟨W.heap.size, 1, (scell s).toArray, rfl, hb, Blk.new W T _, Nat.le_refl _, by unfold maxLen; omega, by simp [hl], List.take_of_length_le (by simp [hl])⟩⟩

set_option maxHeartbeats 8000000 in
set_option maxRecDepth 100000 in
theorem r11up_rec (leaf : List UInt8) (i : Nat) (hlf : leaf.length = 32) (d : Nat) : ∀ (a b : Nat) (p : List (List UInt8)) (A : Option Addr) (np c : Nat) (w : World), b - a ≤ d → a ≤ i → i < b → b ≤ 9223372036854775807 → (pathL i a b).length = np → Hs w (fun _ => True) A np c p →
    Calls Try.prog 43 #[.agg (leaf.map B).toArray, .int .i64 (i : Int), .int .i64 (a : Int), .int .i64 (b : Int), .slice A np c] w fun e w' =>
      ∃ v, e = .returned v ∧ w'.ownsRow w.heap.size 92 34 v (upL leaf i a b p).length (scells (upL leaf i a b p)) ∧ Below w.heap.size w w' := by
  induction d with
  | zero => intro a b p A np c w h h1 h2; omega
  | succ d ih =>
    intro a b p A np c w hd h1 h2 hb hnp h
    have hlp : (pathL i a b).length ≤ 63 := pathL_len 63 i a b (by omega)
    have hplen := h.len
    have hp32 := h.all
    have hroom := h.sl.room
    have hmx := h.sl.max
    unfold maxLen at hmx
    have hw1 : IntKind.i64.wrap ((b : Int) - (a : Int)) = (b : Int) - a := IntWalk.i64_in _ (by omega)
    obtain ⟨w1, hw1e⟩ : ∃ w1, w.alloc (.cells (leaf.map B).toArray 45) = w1 := ⟨_, rfl⟩
    have hb1 : Below w.heap.size w w1 := by rw [← hw1e]; exact (Below.refl _ _).alloc (Nat.le_refl _) _
    have k5 : HV w1 w.heap.size leaf := ⟨by rw [← hw1e]; exact Blk.new _ _ _, hlf⟩
    have hl5 := k5.lt
    have Hw1e := Lib.hid hw1e
    have Hlf := Lib.hid hlf
    have Hplen := Lib.hid hplen
    have Hp32 := Lib.hid hp32
    clear hw1e hlf hplen hp32
    by_cases hs : b - a < 2
    · rw [upL_small leaf i a b p hs]
      have hd1 : ((b : Int) - (a : Int) == 1) = true := by simp; omega
      clear ih h hnp hlp
      go_enter Try.func43, Try.ntmps43
      go_wp2_with (first
        | ((with_reducible show wpList _ _ _ (⟨some 23, .load _ _, _, _, _, _⟩ :: _) _ _); rw [Hw1e.out]; refine wpList_hload (.tmp 5) (by kernel_rfl) rfl k5 rfl ?_; simp only [Act.put])
        | ((with_reducible show wpList _ _ _ (⟨some 24, .build _ _, _, _, _, _⟩ :: _) _ _); refine wpList_run0 rfl (.agg (scell ((a, b), leaf)).toArray) (run_build_st stepT2 (.tmp 22) (.tmp 23) a b leaf Hlf.out rfl rfl rfl _) ?_; simp only [Act.put])
        | ((with_reducible show wpList _ _ _ (⟨some 25, .buildSlice _ _ _, _, _, _, _⟩ :: _) _ _); refine wpList_run rfl _ _ (run_litS_op stepT2 ((a, b), leaf) Hlf.out (.tmp 24) rfl rfl _) ?_; simp only [Act.put]))
      go_ret
      exact ⟨_, rfl, owns_litS (S := 54) w1 _ Hlf.out hb1.size, hb1.alloc hb1.size _⟩
    · have hd1 : ((b : Int) - (a : Int) == 1) = false := by simp; omega
      have hsp := fun W => r11split_any ((b : Int) - a) W (by omega) (by omega)
      rw [show ((b : Int) - a).toNat = b - a by omega] at hsp
      obtain ⟨k, hk⟩ : ∃ k, splitN (b - a) = k := ⟨_, rfl⟩
      have hk1 := splitN_pos (b - a) (by omega)
      have hk2 := splitN_lt (b - a) (by omega)
      have hw3 : IntKind.i64.wrap ((a : Int) + (k : Int)) = (a : Int) + k := IntWalk.i64_in _ (by omega)
      by_cases hi : i < a + splitN (b - a)
      · have hpa := pathL_left i a b (by omega) hi
        have hpl : (pathL i a b).length = (pathL i a (a + splitN (b - a))).length + 1 := by rw [hpa, List.length_append]; rfl
        have hup := upL_left leaf i a b p (by omega) hi
        rw [hk] at hpl hup hi hsp
        obtain ⟨m, hm⟩ : ∃ m, (pathL i a (a + k)).length = m := ⟨_, rfl⟩
        obtain rfl : np = m + 1 := by omega
        rw [hup]
        have hdl : p.dropLast = p.take m := by rw [List.dropLast_eq_take, Hplen.out, Nat.add_sub_cancel]
        have hgl : p.getD (p.length - 1) [] = p.getD m [] := by rw [Hplen.out, Nat.add_sub_cancel]
        rw [hdl, hgl]
        have hq1 : (upL leaf i a (a + k) (p.take m)).length = m + 1 := by rw [← hm]; exact length_upL leaf (b - a) i a (a + k) (p.take (pathL i a (a + k)).length) (by omega) (by omega) (by omega)
        have hq32 : S32 (upL leaf i a (a + k) (p.take m)) := upL_all leaf Hlf.out (b - a) i a (a + k) (p.take m) (by omega)
        have hz : (lastH (upL leaf i a (a + k) (p.take m))).length = 32 := by
          obtain ⟨l, x, e⟩ := upL_last leaf i a (a + k) (p.take m)
          have := hq32 ((a, (a + k)), x) (by rw [e]; simp)
          rw [e, lastH_snoc]
          exact this
        have hsrc := h.weak (Y := (· < w.heap.size)) fun b hb _ => hb
        have hic := fun W (hW : Below w.heap.size w W) => ih a (a + k) (p.take m) A m c W (by omega) (by omega) (by omega) (by omega) hm (((hsrc.step hW).take m (by omega)).weak fun _ _ _ => trivial)
        rw [show ((a + k : Nat) : Int) = (a : Int) + k by omega] at hic
        obtain ⟨y, hy⟩ : ∃ y, p.getD m [] = y := ⟨_, rfl⟩
        have hyl : y.length = 32 := by rw [← hy]; exact Hp32.out.getD m (by rw [Hplen.out]; omega)
        rw [hy]
        obtain ⟨q1, hqe⟩ : ∃ q, upL leaf i a (a + k) (p.take m) = q := ⟨_, rfl⟩
        rw [hqe] at hq1 hq32 hz hic ⊢
        obtain ⟨z, hze⟩ : ∃ z, lastH q1 = z := ⟨_, rfl⟩
        have hat := lastH_at q1 m hq1
        rw [hze] at hz hat ⊢
        have hwm : IntKind.i64.wrap (m : Int) = (m : Int) := IntWalk.i64_in _ (by omega)
        have hmm : (m : Int) < (m : Int) + 1 := by omega
        have hki : (i : Int) < (a : Int) + (k : Int) := by omega
        obtain ⟨pb, po, hpA, -, -, -⟩ := hsrc.at_ (by omega)
        subst hpA
        have hp1 := hsrc.step hb1
        have hld := hp1.get rfl m (by omega)
        rw [hy] at hld
        have hm63 : m ≤ 63 := by omega
        have Hic := Lib.hid hic
        have Hyl := Lib.hid hyl
        have Hz := Lib.hid hz
        have Hq1 := Lib.hid hq1
        have Hq32 := Lib.hid hq32
        have Hat := Lib.hid hat
        have Hsp := Lib.hid hsp
        have Hld := Lib.hid hld
        clear hic hy hyl hz hq1 hq32 hqe hze hat hup hpl hm hsp ih hk hpa hnp hlp h hdl hgl hld hsrc hp1
        go_enter Try.func43, Try.ntmps43
        go_wp2_with (first
          | ((with_reducible show wpList _ _ _ (⟨some 26, .move _, _, _, _, _⟩ :: _) _ _); fail)
          | (go_at_call 39; refine (Hsp.out _).mono ?_; rintro e w0 ⟨rfl, rfl⟩; rw [Hw1e.out])
          | ((with_reducible show wpList _ _ _ (⟨some 37, .load _ _, _, _, _, _⟩ :: _) _ _); refine wpList_runG (by kernel_rfl) (.agg (y.map B).toArray) _ (run_load_op 45 (.tmp 36) rfl _ _ rfl _ Hld.out) ?_; simp only [Act.put])
          | ((with_reducible show wpList _ _ _ (⟨some 12, .alloc _, _, _, _, _⟩ :: _) _ _); refine wpList_hvar (.tmp 12) (.tmp 37) rfl rfl rfl rfl rfl rfl Hyl.out ?_; intro W2 k12 hb2; simp only [Act.put]; have k52 := k5.step hb2; have hb02 := hb1.trans (hb2.mono hb1.size); have hs2 := hb2.size; have hl12 := k12.lt)
          | ((with_reducible show wpList _ _ _ (⟨some 42, .slice _ _ _ _ _, _, _, _, _⟩ :: _) _ _); refine wpList_run0 rfl (.slice (some ⟨pb, po, none⟩) m c) (run_slice_op_hi (.tmp 38) (.tmp 41) rfl _ (m + 1) c m rfl rfl (by omega) _) ?_; simp only [Act.put])
          | ((with_reducible show wpList _ _ _ (⟨some 15, .alloc _, _, _, _, _⟩ :: _) _ _); refine wpList_hnew rfl rfl ?_; intro W3 k15 hb3; simp only [Act.put]; have k53 := k52.step hb3; have k123 := k12.step hb3; have hb03 := hb02.trans (hb3.mono hb02.size); have hs3 := hb3.size; have hl15 := k15.lt)
          | ((with_reducible show wpList _ _ _ (⟨some 46, .load _ _, _, _, _, _⟩ :: _) _ _); refine wpList_hload (.tmp 5) (by kernel_rfl) rfl k53 rfl ?_; simp only [Act.put]))
        refine (Hic.out _ hb03).mono ?_
        rintro e W4 ⟨v1, rfl, ho, hb4⟩
        have hov := ho
        rw [Hq1.out] at ho
        obtain ⟨g1, c1, rfl⟩ := owns_some ho (by omega)
        obtain ⟨A1, c1', hv, hst⟩ := St.of_owns ho Hq1.out Hq32.out
        cases hv
        obtain ⟨b1, o1, hA, -, -, hlds⟩ := hst.at_ (by omega)
        cases hA
        have hroom1 := hst.sl.room
        have hmx1 := hst.sl.max
        unfold maxLen at hmx1
        have k124 := k123.step hb4
        have k154 := k15.step hb4
        have hb04 := hb03.trans (hb4.mono hb03.size)
        have hs4 := hb4.size
        clear k5 k52 k53 k12 k123 k15 hb1 hb2 hb3 hb02 hb03 hb4 hov hlds
        have lel : ∀ s : InC (fun W => Below W4.heap.size W4 W), (Instr.loadAt 45 (.pointer (some ⟨g1, m * 34 + 2, none⟩))).run Try.prog s.W = .ok (.agg (z.map B).toArray) s.W := fun s => by
          obtain ⟨b2, o2, hA, -, -, hl⟩ := (hst.step s.ok).at_ (by omega)
          cases hA
          have := (hl m (by omega)).1
          rwa [Hat.out, Nat.zero_add] at this
        have l12 : ∀ s : InC (fun W => Below W4.heap.size W4 W), (Instr.loadAt 45 (.pointer (some ⟨w1.heap.size, 0, none⟩))).run Try.prog s.W = .ok (.agg (y.map B).toArray) s.W := fun s => (k124.step s.ok).load
        have Lel := Lib.hid lel
        have L12 := Lib.hid l12
        clear lel l12 hst
        go_wp2_with fail
        have hS : Below W4.heap.size W4 W4.drew := (Below.refl _ _).drew
        refine wp_region_mix_tail (fun W => Below W4.heap.size W4 W) 9 [(0, true), (1, true), (2, true), (3, true), (4, true), (5, true), (6, true), (7, true), (8, false)] (by kernel_rfl) (by kernel_rfl) hS fun _ => ?_
        simp only [List.map_cons, List.map_nil, Array.getD_eq_getD_getElem?, List.getElem?_toArray, List.getElem?_cons_succ, List.getElem?_cons_zero, Option.getD_some]
        generalize W4.drew = W5 at hS ⊢
        refine wpMix_s (fun K hK => ?_)
        go_simp
        refine hK _ ?_
        clear hK K
        refine wpMix_s (fun K hK => ?_)
        go_simp
        refine hK _ ?_
        clear hK K
        refine wpMix_s (fun K hK => ?_)
        go_simp
        refine hK _ ?_
        clear hK K
        refine wpMix_s (fun K hK => ?_)
        go_simp
        refine hK _ ?_
        clear hK K
        refine wpMix_s (fun K hK => ?_)
        go_simp
        refine hK _ ?_
        clear hK K
        refine wpMix_s (fun K hK => ?_)
        go_simp
        refine hK _ ?_
        clear hK K
        refine wpMix_load (by kernel_rfl) 45 (.tmp 57) rfl (g1) (m * 34 + 2) rfl (z.map B).toArray (Lel.out) ?_
        simp only [Act.put]
        refine wpMix_load (by kernel_rfl) 45 (.tmp 12) rfl (w1.heap.size) (0) rfl (y.map B).toArray (L12.out) ?_
        simp only [Act.put]
        refine wpMix_c (fun K hK => ?_) hS
        go_simp
        refine (hrnode_any z y W5 Hz.out Hyl.out).mono ?_
        rintro e W5_1 ⟨rfl, hb'⟩
        refine hK _ _ ?_
        clear hK K
        replace hS := hS.trans (hb'.mono hS.size)
        refine ⟨hS, ?_⟩
        clear hb'
        refine wpMix_nil ?_
        intro _
        simp only [List.drop_succ_cons, List.drop_zero]
        generalize W5_1 = W6 at *
        have k156 := k154.step hS
        have ho6 := owns_step ho hS
        have hb06 := hb04.trans (hS.mono hb04.size)
        have hs6 := hS.size
        clear k154 ho k124 hb04 hS
        go_wp2_with ((with_reducible show wpList _ _ _ (⟨none, .store _ (.tmp 15) _, _, _, _, _⟩ :: _) _ _); refine wpList_hset (.tmp 15) (.tmp 60) rfl rfl k156 rfl rfl (length_hNode _ _) ?_; intro W7 k157 hb7 hx; have hg7 : W6.grownBy W7 (some W2.heap.size) := (by rw [hx]; exact ⟨rfl, rfl, rfl, by simp, fun k _ hne => setRow_other W6 _ k _ (fun e => hne (by rw [e]))⟩); clear hx; simp only [Act.put])
        refine np_normal ?_
        have hg1 := (ho6.lt g1 rfl).1
        have ho7 := ho6.kept hg7 (.inr (fun e => by have e : g1 = W2.heap.size := Option.some.inj e; omega))
        have hb07 := hb06.grown hg7 hb06.size (fun r e => by cases e; omega)
        have hs7 := hb7.size
        obtain ⟨v8, W8, hr8, ho8, hg8, -⟩ := append_st stepT2 ho7 ((a, b), hNode z y) (length_hNode _ _) (by omega) (by omega)
        have hb08 := hb07.grown hg8 hb07.size (fun r e => by have := (ho7.lt r e).1; omega)
        have Hr8 := Lib.hid hr8
        clear hr8 ho6 ho7 hb06 hb07 hg7 hb7 hg8
        go_wp2_with (first
          | ((with_reducible show wpList _ _ _ (⟨some 80, .load _ _, _, _, _, _⟩ :: _) _ _); refine wpList_hload (.tmp 15) (by kernel_rfl) rfl k157 rfl ?_; simp only [Act.put])
          | ((with_reducible show wpList _ _ _ (⟨some 81, .build _ _, _, _, _, _⟩ :: _) _ _); refine wpList_run0 rfl (.agg (scell ((a, b), hNode z y)).toArray) (run_build_st stepT2 (.tmp 79) (.tmp 80) a b (hNode z y) (length_hNode _ _) rfl rfl rfl _) ?_; simp only [Act.put])
          | ((with_reducible show wpList _ _ _ (⟨some 82, .buildSlice _ _ _, _, _, _, _⟩ :: _) _ _); refine wpList_run rfl _ _ (run_litS_op stepT2 ((a, b), hNode z y) (length_hNode _ _) (.tmp 81) rfl rfl _) ?_; simp only [Act.put])
          | ((with_reducible show wpList _ _ _ (⟨some 83, .call _, _, _, _, _⟩ :: _) _ _); refine wpList_run rfl v8 W8 (run_append_op (.tmp 76) (.tmp 82) 54 rfl _ _ rfl rfl Hr8.out) ?_; simp only [Act.put]))
        go_ret
        exact ⟨_, rfl, by rw [List.length_append, Hq1.out]; exact owns_le ho8 (by omega), hb08⟩
      · have hpa := pathL_right i a b (by omega) hi
        have hpl : (pathL i a b).length = (pathL i (a + splitN (b - a)) b).length + 1 := by rw [hpa, List.length_append]; rfl
        have hup := upL_right leaf i a b p (by omega) hi
        rw [hk] at hpl hup hi hsp
        obtain ⟨m, hm⟩ : ∃ m, (pathL i (a + k) b).length = m := ⟨_, rfl⟩
        obtain rfl : np = m + 1 := by omega
        rw [hup]
        have hdl : p.dropLast = p.take m := by rw [List.dropLast_eq_take, Hplen.out, Nat.add_sub_cancel]
        have hgl : p.getD (p.length - 1) [] = p.getD m [] := by rw [Hplen.out, Nat.add_sub_cancel]
        rw [hdl, hgl]
        have hq1 : (upL leaf i (a + k) b (p.take m)).length = m + 1 := by rw [← hm]; exact length_upL leaf (b - a) i (a + k) b (p.take (pathL i (a + k) b).length) (by omega) (by omega) (by omega)
        have hq32 : S32 (upL leaf i (a + k) b (p.take m)) := upL_all leaf Hlf.out (b - a) i (a + k) b (p.take m) (by omega)
        have hz : (lastH (upL leaf i (a + k) b (p.take m))).length = 32 := by
          obtain ⟨l, x, e⟩ := upL_last leaf i (a + k) b (p.take m)
          have := hq32 (((a + k), b), x) (by rw [e]; simp)
          rw [e, lastH_snoc]
          exact this
        have hsrc := h.weak (Y := (· < w.heap.size)) fun b hb _ => hb
        have hic := fun W (hW : Below w.heap.size w W) => ih (a + k) b (p.take m) A m c W (by omega) (by omega) (by omega) (by omega) hm (((hsrc.step hW).take m (by omega)).weak fun _ _ _ => trivial)
        rw [show ((a + k : Nat) : Int) = (a : Int) + k by omega] at hic
        obtain ⟨y, hy⟩ : ∃ y, p.getD m [] = y := ⟨_, rfl⟩
        have hyl : y.length = 32 := by rw [← hy]; exact Hp32.out.getD m (by rw [Hplen.out]; omega)
        rw [hy]
        obtain ⟨q1, hqe⟩ : ∃ q, upL leaf i (a + k) b (p.take m) = q := ⟨_, rfl⟩
        rw [hqe] at hq1 hq32 hz hic ⊢
        obtain ⟨z, hze⟩ : ∃ z, lastH q1 = z := ⟨_, rfl⟩
        have hat := lastH_at q1 m hq1
        rw [hze] at hz hat ⊢
        have hwm : IntKind.i64.wrap (m : Int) = (m : Int) := IntWalk.i64_in _ (by omega)
        have hmm : (m : Int) < (m : Int) + 1 := by omega
        have hki : ¬ (i : Int) < (a : Int) + (k : Int) := by omega
        obtain ⟨pb, po, hpA, -, -, -⟩ := hsrc.at_ (by omega)
        subst hpA
        have hp1 := hsrc.step hb1
        have hld := hp1.get rfl m (by omega)
        rw [hy] at hld
        have hm63 : m ≤ 63 := by omega
        have Hic := Lib.hid hic
        have Hyl := Lib.hid hyl
        have Hz := Lib.hid hz
        have Hq1 := Lib.hid hq1
        have Hq32 := Lib.hid hq32
        have Hat := Lib.hid hat
        have Hsp := Lib.hid hsp
        have Hld := Lib.hid hld
        clear hic hy hyl hz hq1 hq32 hqe hze hat hup hpl hm hsp ih hk hpa hnp hlp h hdl hgl hld hsrc hp1
        go_enter Try.func43, Try.ntmps43
        go_wp2_with (first
          | ((with_reducible show wpList _ _ _ (⟨some 26, .move _, _, _, _, _⟩ :: _) _ _); fail)
          | (go_at_call 39; refine (Hsp.out _).mono ?_; rintro e w0 ⟨rfl, rfl⟩; rw [Hw1e.out])
          | ((with_reducible show wpList _ _ _ (⟨some 37, .load _ _, _, _, _, _⟩ :: _) _ _); refine wpList_runG (by kernel_rfl) (.agg (y.map B).toArray) _ (run_load_op 45 (.tmp 36) rfl _ _ rfl _ Hld.out) ?_; simp only [Act.put])
          | ((with_reducible show wpList _ _ _ (⟨some 12, .alloc _, _, _, _, _⟩ :: _) _ _); refine wpList_hvar (.tmp 12) (.tmp 37) rfl rfl rfl rfl rfl rfl Hyl.out ?_; intro W2 k12 hb2; simp only [Act.put]; have k52 := k5.step hb2; have hb02 := hb1.trans (hb2.mono hb1.size); have hs2 := hb2.size; have hl12 := k12.lt)
          | ((with_reducible show wpList _ _ _ (⟨some 42, .slice _ _ _ _ _, _, _, _, _⟩ :: _) _ _); refine wpList_run0 rfl (.slice (some ⟨pb, po, none⟩) m c) (run_slice_op_hi (.tmp 38) (.tmp 41) rfl _ (m + 1) c m rfl rfl (by omega) _) ?_; simp only [Act.put])
          | ((with_reducible show wpList _ _ _ (⟨some 15, .alloc _, _, _, _, _⟩ :: _) _ _); refine wpList_hnew rfl rfl ?_; intro W3 k15 hb3; simp only [Act.put]; have k53 := k52.step hb3; have k123 := k12.step hb3; have hb03 := hb02.trans (hb3.mono hb02.size); have hs3 := hb3.size; have hl15 := k15.lt)
          | ((with_reducible show wpList _ _ _ (⟨some 61, .load _ _, _, _, _, _⟩ :: _) _ _); refine wpList_hload (.tmp 5) (by kernel_rfl) rfl k53 rfl ?_; simp only [Act.put]))
        refine (Hic.out _ hb03).mono ?_
        rintro e W4 ⟨v1, rfl, ho, hb4⟩
        have hov := ho
        rw [Hq1.out] at ho
        obtain ⟨g1, c1, rfl⟩ := owns_some ho (by omega)
        obtain ⟨A1, c1', hv, hst⟩ := St.of_owns ho Hq1.out Hq32.out
        cases hv
        obtain ⟨b1, o1, hA, -, -, hlds⟩ := hst.at_ (by omega)
        cases hA
        have hroom1 := hst.sl.room
        have hmx1 := hst.sl.max
        unfold maxLen at hmx1
        have k124 := k123.step hb4
        have k154 := k15.step hb4
        have hb04 := hb03.trans (hb4.mono hb03.size)
        have hs4 := hb4.size
        clear k5 k52 k53 k12 k123 k15 hb1 hb2 hb3 hb02 hb03 hb4 hov hlds
        have lel : ∀ s : InC (fun W => Below W4.heap.size W4 W), (Instr.loadAt 45 (.pointer (some ⟨g1, m * 34 + 2, none⟩))).run Try.prog s.W = .ok (.agg (z.map B).toArray) s.W := fun s => by
          obtain ⟨b2, o2, hA, -, -, hl⟩ := (hst.step s.ok).at_ (by omega)
          cases hA
          have := (hl m (by omega)).1
          rwa [Hat.out, Nat.zero_add] at this
        have l12 : ∀ s : InC (fun W => Below W4.heap.size W4 W), (Instr.loadAt 45 (.pointer (some ⟨w1.heap.size, 0, none⟩))).run Try.prog s.W = .ok (.agg (y.map B).toArray) s.W := fun s => (k124.step s.ok).load
        have Lel := Lib.hid lel
        have L12 := Lib.hid l12
        clear lel l12 hst
        go_wp2_with fail
        have hS : Below W4.heap.size W4 W4.drew := (Below.refl _ _).drew
        refine wp_region_mix_tail (fun W => Below W4.heap.size W4 W) 9 [(0, true), (1, true), (2, true), (3, true), (4, true), (5, true), (6, true), (7, true), (8, false)] (by kernel_rfl) (by kernel_rfl) hS fun _ => ?_
        simp only [List.map_cons, List.map_nil, Array.getD_eq_getD_getElem?, List.getElem?_toArray, List.getElem?_cons_succ, List.getElem?_cons_zero, Option.getD_some]
        generalize W4.drew = W5 at hS ⊢
        refine wpMix_load (by kernel_rfl) 45 (.tmp 12) rfl (w1.heap.size) (0) rfl (y.map B).toArray (L12.out) ?_
        simp only [Act.put]
        refine wpMix_s (fun K hK => ?_)
        go_simp
        refine hK _ ?_
        clear hK K
        refine wpMix_s (fun K hK => ?_)
        go_simp
        refine hK _ ?_
        clear hK K
        refine wpMix_s (fun K hK => ?_)
        go_simp
        refine hK _ ?_
        clear hK K
        refine wpMix_s (fun K hK => ?_)
        go_simp
        refine hK _ ?_
        clear hK K
        refine wpMix_s (fun K hK => ?_)
        go_simp
        refine hK _ ?_
        clear hK K
        refine wpMix_s (fun K hK => ?_)
        go_simp
        refine hK _ ?_
        clear hK K
        refine wpMix_load (by kernel_rfl) 45 (.tmp 73) rfl (g1) (m * 34 + 2) rfl (z.map B).toArray (Lel.out) ?_
        simp only [Act.put]
        refine wpMix_c (fun K hK => ?_) hS
        go_simp
        refine (hrnode_any y z W5 Hyl.out Hz.out).mono ?_
        rintro e W5_1 ⟨rfl, hb'⟩
        refine hK _ _ ?_
        clear hK K
        replace hS := hS.trans (hb'.mono hS.size)
        refine ⟨hS, ?_⟩
        clear hb'
        refine wpMix_nil ?_
        intro _
        simp only [List.drop_succ_cons, List.drop_zero]
        generalize W5_1 = W6 at *
        have k156 := k154.step hS
        have ho6 := owns_step ho hS
        have hb06 := hb04.trans (hS.mono hb04.size)
        have hs6 := hS.size
        clear k154 ho k124 hb04 hS
        go_wp2_with ((with_reducible show wpList _ _ _ (⟨none, .store _ (.tmp 15) _, _, _, _, _⟩ :: _) _ _); refine wpList_hset (.tmp 15) (.tmp 75) rfl rfl k156 rfl rfl (length_hNode _ _) ?_; intro W7 k157 hb7 hx; have hg7 : W6.grownBy W7 (some W2.heap.size) := (by rw [hx]; exact ⟨rfl, rfl, rfl, by simp, fun k _ hne => setRow_other W6 _ k _ (fun e => hne (by rw [e]))⟩); clear hx; simp only [Act.put])
        refine np_normal ?_
        have hg1 := (ho6.lt g1 rfl).1
        have ho7 := ho6.kept hg7 (.inr (fun e => by have e : g1 = W2.heap.size := Option.some.inj e; omega))
        have hb07 := hb06.grown hg7 hb06.size (fun r e => by cases e; omega)
        have hs7 := hb7.size
        obtain ⟨v8, W8, hr8, ho8, hg8, -⟩ := append_st stepT2 ho7 ((a, b), hNode y z) (length_hNode _ _) (by omega) (by omega)
        have hb08 := hb07.grown hg8 hb07.size (fun r e => by have := (ho7.lt r e).1; omega)
        have Hr8 := Lib.hid hr8
        clear hr8 ho6 ho7 hb06 hb07 hg7 hb7 hg8
        go_wp2_with (first
          | ((with_reducible show wpList _ _ _ (⟨some 80, .load _ _, _, _, _, _⟩ :: _) _ _); refine wpList_hload (.tmp 15) (by kernel_rfl) rfl k157 rfl ?_; simp only [Act.put])
          | ((with_reducible show wpList _ _ _ (⟨some 81, .build _ _, _, _, _, _⟩ :: _) _ _); refine wpList_run0 rfl (.agg (scell ((a, b), hNode y z)).toArray) (run_build_st stepT2 (.tmp 79) (.tmp 80) a b (hNode y z) (length_hNode _ _) rfl rfl rfl _) ?_; simp only [Act.put])
          | ((with_reducible show wpList _ _ _ (⟨some 82, .buildSlice _ _ _, _, _, _, _⟩ :: _) _ _); refine wpList_run rfl _ _ (run_litS_op stepT2 ((a, b), hNode y z) (length_hNode _ _) (.tmp 81) rfl rfl _) ?_; simp only [Act.put])
          | ((with_reducible show wpList _ _ _ (⟨some 83, .call _, _, _, _, _⟩ :: _) _ _); refine wpList_run rfl v8 W8 (run_append_op (.tmp 76) (.tmp 82) 54 rfl _ _ rfl rfl Hr8.out) ?_; simp only [Act.put]))
        go_ret
        exact ⟨_, rfl, by rw [List.length_append, Hq1.out]; exact owns_le ho8 (by omega), hb08⟩
end Go.Proofs.Ytmglkblomklcbaa
