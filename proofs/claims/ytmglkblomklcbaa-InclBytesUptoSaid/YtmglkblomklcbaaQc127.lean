/- notaryref11.Len, Prove. -/
import Derived.Test.YtmglkblomklcbaaQc126
import Derived.Test.YtmglkblomklcbaaQc125
import Derived.Laws.Cover3
namespace Go.Proofs.Ytmglkblomklcbaa
open Go Go.RowKit

theorem length_pathL_left (i n : Nat) (h2 : 2 ≤ n) (hi : i < splitN n) : (pathL i 0 n).length = (pathL i 0 (splitN n)).length + 1 := by
  rw [pathL_left i 0 n (by omega) (by simpa using hi), List.length_append, Nat.zero_add, Nat.sub_zero]; rfl
theorem length_pathL_right (i n : Nat) (h2 : 2 ≤ n) (hi : ¬ i < splitN n) : (pathL i 0 n).length = (pathL (i - splitN n) 0 (n - splitN n)).length + 1 := by
  have hl := splitN_lt n h2
  have hsh := pathL_shift (splitN n) (n - splitN n) (i - splitN n) 0 (n - splitN n) (by omega)
  rw [show i - splitN n + splitN n = i by omega, Nat.zero_add, show n - splitN n + splitN n = n by omega] at hsh
  rw [pathL_right i 0 n (by omega) (by simpa using hi), List.length_append, Nat.zero_add, Nat.sub_zero, hsh, List.length_map]; rfl

set_option maxHeartbeats 1000000 in
set_option maxRecDepth 100000 in
theorem r11len_any (i n : Int) (w : World) (hn : n ≤ 9223372036854775807) :
    Calls Try.prog 14 #[.int .i64 i, .int .i64 n] w fun e w' => e = .returned (.tuple #[.int .i64 ((pathA i n).1.length : Int), .int .i64 (pathA i n).2]) ∧ w = w' := by
  unfold pathA
  by_cases h0 : i < 0
  · rw [if_pos (.inl h0)]
    have h0' : decide (i < 0) = true := by simp; exact h0
    go_enter Try.func14, Try.ntmps14
    go_wp2_with fail
    go_ret2
    exact ⟨rfl, rfl⟩
  by_cases h1 : n ≤ i
  · rw [if_pos (.inr h1)]
    have h0' : decide (i < 0) = false := by simp; omega
    have h1' : decide (n ≤ i) = true := by simp; omega
    go_enter Try.func14, Try.ntmps14
    go_wp2_with fail
    go_ret2
    exact ⟨rfl, rfl⟩
  rw [if_neg (by omega)]
  dsimp only
  obtain ⟨i, rfl⟩ : ∃ k : Nat, i = (k : Int) := ⟨i.toNat, by omega⟩
  obtain ⟨n, rfl⟩ : ∃ k : Nat, n = (k : Int) := ⟨n.toNat, by omega⟩
  rw [Int.toNat_natCast, Int.toNat_natCast]
  have hpl := pathL_len 63 i 0 n (by omega)
  obtain ⟨t, ht⟩ : ∃ t, (pathL i 0 n).length = t := ⟨_, rfl⟩
  rw [ht] at hpl ⊢
  have Ht := Lib.hid ht
  have h0' : decide ((i : Int) < 0) = false := by simp
  have h1' : decide ((n : Int) ≤ (i : Int)) = false := by simp; omega
  have h1'' : decide (n ≤ i) = false := by simp; omega
  clear ht
  go_enter Try.func14, Try.ntmps14
  go_wp2_with fail
  go_loop [0, 1, 6] (fun a b c => ∃ i' n' m : Nat, i' < n' ∧ n' ≤ 9223372036854775807 ∧ a = .int .i64 (i' : Int) ∧ b = .int .i64 (n' : Int) ∧ c = .int .i64 (m : Int) ∧ m + (pathL i' 0 n').length = t) (fun _ b _ => (intOf b).toNat)
  case atStart => exact ⟨i, n, 0, by omega, by omega, rfl, rfl, rfl, by rw [Nat.zero_add]; exact Ht.out⟩
  case round =>
    obtain ⟨i', n', m, hin, hn', rfl, rfl, rfl, hm⟩ := hrel
    have Hm := Lib.hid hm
    have hmt : m ≤ t := by omega
    clear hm
    by_cases h2 : n' < 2
    · have hd : decide ((1 : Int) < (n' : Int)) = false := by simp; omega
      have hmt' : m = t := by have := Hm.out; rw [pathL_small _ _ _ (by omega)] at this; simpa using this
      subst hmt'
      go_wp2_with fail
      go_ret2
      exact ⟨rfl, rfl⟩
    · have hd : decide ((1 : Int) < (n' : Int)) = true := by simp; omega
      have hspl := fun W => r11split_any (n' : Int) W (by omega) (by omega)
      rw [Int.toNat_natCast] at hspl
      have hsl := splitN_lt n' (by omega)
      have hsp := splitN_pos n' (by omega)
      have hle := length_pathL_left i' n' (by omega)
      have hri := length_pathL_right i' n' (by omega)
      obtain ⟨s, hs⟩ : ∃ s, splitN n' = s := ⟨_, rfl⟩
      rw [hs] at hspl hsl hsp hle hri
      have Hspl := Lib.hid hspl
      clear hspl hs
      by_cases hi : i' < s
      · have hd2 : decide ((i' : Int) < (s : Int)) = true := by simp; omega
        have hle := hle hi
        have Hle := Lib.hid hle
        have hmt2 : m + 1 ≤ t := by have := Hm.out; omega
        have hw : IntKind.i64.wrap ((m : Int) + 1) = ((m + 1 : Nat) : Int) := by rw [IntWalk.i64_in _ (by omega)]; omega
        clear hle hri
        go_wp2_with (go_at_call 39; refine (Hspl.out _).mono ?_; rintro e w1 ⟨rfl, rfl⟩)
        go_round
        case rel => exact ⟨i', s, m + 1, hi, by omega, rfl, rfl, by go_num, by have := Hm.out; have := Hle.out; omega⟩
        case measure => simp [intOf]; omega
      · have hd2 : decide ((i' : Int) < (s : Int)) = false := by simp; omega
        have hri := hri hi
        have Hri := Lib.hid hri
        have hmt2 : m + 1 ≤ t := by have := Hm.out; omega
        have hw : IntKind.i64.wrap ((m : Int) + 1) = ((m + 1 : Nat) : Int) := by rw [IntWalk.i64_in _ (by omega)]; omega
        have hw1 : IntKind.i64.wrap ((i' : Int) - (s : Int)) = ((i' - s : Nat) : Int) := by rw [IntWalk.i64_in _ (by omega)]; omega
        have hw2 : IntKind.i64.wrap ((n' : Int) - (s : Int)) = ((n' - s : Nat) : Int) := by rw [IntWalk.i64_in _ (by omega)]; omega
        clear hle hri
        go_wp2_with (go_at_call 39; refine (Hspl.out _).mono ?_; rintro e w1 ⟨rfl, rfl⟩)
        go_round
        case rel => exact ⟨i' - s, n' - s, m + 1, by omega, by omega, by go_num, by go_num, by go_num, by have := Hm.out; have := Hri.out; omega⟩
        case measure => simp [intOf]; omega

set_option maxHeartbeats 4000000 in
set_option maxRecDepth 100000 in
theorem r11prove_rec (d : Nat) : ∀ (hs : List (List UInt8)) (A : Option Addr) (n c : Nat) (w : World) (i : Nat), n ≤ d → i < n → Hs w (fun _ => True) A n c hs → n ≤ 1099511627776 →
    Calls Try.prog 12 #[.slice A n c, .int .i64 (i : Int)] w fun e w' => ∃ v, e = .returned (.tuple #[v, .int .i64 0]) ∧ w'.ownsRow w.heap.size 45 32 v (rootsN hs i).length (hcells (rootsN hs i)) ∧ Below w.heap.size w w' := by
  induction d with
  | zero => intro hs A n c w i h h1; omega
  | succ d ih =>
    intro hs A n c w i hd hi h hn
    have hlen := h.len
    have h32 := h.all
    have hroom := h.sl.room
    have hmx := h.sl.max
    unfold maxLen at hmx
    have h0' : decide ((i : Int) < 0) = false := by simp
    have h1' : decide ((n : Int) ≤ (i : Int)) = false := by simp; omega
    have h1'' : decide (n ≤ i) = false := by simp; omega
    have hrl : (rootsN hs i).length ≤ 63 := by rw [length_rootsN]; exact pathL_len 63 i 0 _ (by omega)
    have Hlen := Lib.hid hlen
    have H32h := Lib.hid h32
    clear hlen h32
    by_cases hn1 : n = 1
    · subst hn1
      rw [rootsN_small hs i (by rw [Hlen.out]; omega)]
      clear ih h
      go_enter Try.func12, Try.ntmps12
      go_wp2_with fail
      refine bodyPost_ret (results_tmp2 rfl _ _ _) rfl ⟨_, rfl, World.ownsRow_nil _ _ _ _, Below.refl _ _⟩
    have hne1 : ((n : Int) == 1) = false := by simp; omega
    have hspl := fun W => r11split_any (n : Int) W (by omega) (by omega)
    rw [Int.toNat_natCast] at hspl
    have hsl := splitN_lt n (by omega)
    have hsp := splitN_pos n (by omega)
    have hle := rootsN_left hs i (by rw [Hlen.out]; omega)
    have hri := rootsN_right hs i (by rw [Hlen.out]; omega)
    rw [Hlen.out] at hle hri
    obtain ⟨s, hs'⟩ : ∃ s, splitN n = s := ⟨_, rfl⟩
    rw [hs'] at hspl hsl hsp hle hri
    have Hspl := Lib.hid hspl
    clear hspl hs'
    have hT := fun W (hW : Below w.heap.size w W) => (((h.weak fun b hb _ => hb : Hs w (· < w.heap.size) A n c hs).step hW).take s (by omega)).weak (Y := fun _ => True) fun _ _ _ => trivial
    have hD := fun W (hW : Below w.heap.size w W) => (((h.weak fun b hb _ => hb : Hs w (· < w.heap.size) A n c hs).step hW).drop s (by omega)).weak (Y := fun _ => True) fun _ _ _ => trivial
    clear h
    obtain ⟨Ax, hAx⟩ : ∃ Ax, (if c = s then A else A.map (·.add (s * 32))) = Ax := ⟨_, rfl⟩
    rw [hAx] at hD
    have HAx := Lib.hid hAx
    clear hAx
    by_cases hlt : i < s
    · have hd2 : decide ((i : Int) < (s : Int)) = true := by simp; omega
      have hp := hle hlt
      rw [hp] at hrl ⊢
      have hic := ih (hs.take s) A s c w i (by omega) hlt (hT w (Below.refl _ _)) (by omega)
      have hro := fun W (hW : Below w.heap.size w W) => r11root_any (hs.drop s) _ (n - s) (c - s) W (hD W hW) (by omega)
      have hzl := length_rootL (hs.drop s) (H32h.out.drop s)
      obtain ⟨q, hq⟩ : ∃ q, rootsN (hs.take s) i = q := ⟨_, rfl⟩
      obtain ⟨z, hz⟩ : ∃ z, rootL (hs.drop s) = z := ⟨_, rfl⟩
      rw [hq] at hic hrl ⊢
      rw [hz] at hro hzl hrl ⊢
      rw [List.length_append] at hrl
      have Hic := Lib.hid hic
      have Hro := Lib.hid hro
      have Hzl := Lib.hid hzl
      clear hic hro hzl hq hz hT hD hle hri hp ih
      go_enter Try.func12, Try.ntmps12
      go_wp2_with (first
        | (go_at_call 39; refine (Hspl.out _).mono ?_; rintro e w1 ⟨rfl, rfl⟩)
        | ((with_reducible show wpList _ _ _ (⟨some 31, .slice _ _ _ _ _, _, _, _, _⟩ :: _) _ _); refine wpList_run0 rfl (.slice A s c) (run_slice_op_hi (.tmp 29) (.tmp 30) rfl A n c s rfl rfl (by omega) _) ?_; simp only [Act.put]))
      refine Hic.out.mono ?_
      rintro e w1 ⟨v, rfl, ho, hb1⟩
      go_wp2_with ((with_reducible show wpList _ _ _ (⟨some 39, .slice _ _ _ _ _, _, _, _, _⟩ :: _) _ _); refine wpList_run0 rfl (.slice Ax (n - s) (c - s)) (by rw [← HAx.out]; exact run_slice_op_lo (.tmp 37) (.tmp 38) rfl A n c s rfl rfl (by omega) _) ?_; simp only [Act.put])
      refine (Hro.out w1 hb1).mono ?_
      rintro e w2 ⟨rfl, hb2⟩
      have hb02 := hb1.trans (hb2.mono hb1.size)
      obtain ⟨v', W9, hr9, hv9, hg9, -⟩ := append_hR (owns_step ho hb2) z Hzl.out (by omega) hb02.size
      have hb9 := hb02.grown hg9 hb02.size (fun r e => (ho.lt r e).1)
      have Hr9 := Lib.hid hr9
      clear hr9 ho hb1 hb2
      go_wp2_with (first
        | ((with_reducible show wpList _ _ _ (⟨some 41, .buildSlice _ _ _, _, _, _, _⟩ :: _) _ _); refine wpList_run rfl _ _ (run_litH_op z Hzl.out (.tmp 40) rfl rfl _) ?_; simp only [Act.put])
        | ((with_reducible show wpList _ _ _ (⟨some 42, .call _, _, _, _, _⟩ :: _) _ _); refine wpList_run rfl _ W9 (run_append_op (.tmp 36) (.tmp 41) 22 rfl _ _ rfl rfl Hr9.out) ?_; simp only [Act.put]))
      refine bodyPost_ret (results_tmp2 rfl _ _ _) rfl ⟨_, rfl, hv9, hb9⟩
    · have hd2 : decide ((i : Int) < (s : Int)) = false := by simp; omega
      have hp := hri hlt
      rw [hp] at hrl ⊢
      have hic := ih (hs.drop s) _ (n - s) (c - s) w (i - s) (by omega) (by omega) (hD w (Below.refl _ _)) (by omega)
      rw [show ((i - s : Nat) : Int) = (i : Int) - (s : Int) by omega] at hic
      have hw1 : IntKind.i64.wrap ((i : Int) - (s : Int)) = (i : Int) - (s : Int) := IntWalk.i64_in _ (by omega)
      have hro := fun W (hW : Below w.heap.size w W) => r11root_any (hs.take s) A s c W (hT W hW) (by omega)
      have hzl := length_rootL (hs.take s) (H32h.out.take s)
      obtain ⟨q, hq⟩ : ∃ q, rootsN (hs.drop s) (i - s) = q := ⟨_, rfl⟩
      obtain ⟨z, hz⟩ : ∃ z, rootL (hs.take s) = z := ⟨_, rfl⟩
      rw [hq] at hic hrl ⊢
      rw [hz] at hro hzl hrl ⊢
      rw [List.length_append] at hrl
      have Hic := Lib.hid hic
      have Hro := Lib.hid hro
      have Hzl := Lib.hid hzl
      clear hic hro hzl hq hz hT hD hle hri hp ih
      go_enter Try.func12, Try.ntmps12
      go_wp2_with (first
        | (go_at_call 39; refine (Hspl.out _).mono ?_; rintro e w1 ⟨rfl, rfl⟩)
        | ((with_reducible show wpList _ _ _ (⟨some 46, .slice _ _ _ _ _, _, _, _, _⟩ :: _) _ _); refine wpList_run0 rfl (.slice Ax (n - s) (c - s)) (by rw [← HAx.out]; exact run_slice_op_lo (.tmp 44) (.tmp 45) rfl A n c s rfl rfl (by omega) _) ?_; simp only [Act.put]))
      refine Hic.out.mono ?_
      rintro e w1 ⟨v, rfl, ho, hb1⟩
      go_wp2_with ((with_reducible show wpList _ _ _ (⟨some 56, .slice _ _ _ _ _, _, _, _, _⟩ :: _) _ _); refine wpList_run0 rfl (.slice A s c) (run_slice_op_hi (.tmp 54) (.tmp 55) rfl A n c s rfl rfl (by omega) _) ?_; simp only [Act.put])
      refine (Hro.out w1 hb1).mono ?_
      rintro e w2 ⟨rfl, hb2⟩
      have hb02 := hb1.trans (hb2.mono hb1.size)
      obtain ⟨v', W9, hr9, hv9, hg9, -⟩ := append_hR (owns_step ho hb2) z Hzl.out (by omega) hb02.size
      have hb9 := hb02.grown hg9 hb02.size (fun r e => (ho.lt r e).1)
      have Hr9 := Lib.hid hr9
      clear hr9 ho hb1 hb2
      go_wp2_with (first
        | ((with_reducible show wpList _ _ _ (⟨some 58, .buildSlice _ _ _, _, _, _, _⟩ :: _) _ _); refine wpList_run rfl _ _ (run_litH_op z Hzl.out (.tmp 57) rfl rfl _) ?_; simp only [Act.put])
        | ((with_reducible show wpList _ _ _ (⟨some 59, .call _, _, _, _, _⟩ :: _) _ _); refine wpList_run rfl _ W9 (run_append_op (.tmp 53) (.tmp 58) 22 rfl _ _ rfl rfl Hr9.out) ?_; simp only [Act.put]))
      refine bodyPost_ret (results_tmp2 rfl _ _ _) rfl ⟨_, rfl, hv9, hb9⟩

set_option maxHeartbeats 1000000 in
set_option maxRecDepth 100000 in
theorem r11prove_any (hs : List (List UInt8)) (A : Option Addr) (n c : Nat) (w : World) (i : Int) (h : Hs w (fun _ => True) A n c hs) (hn : n ≤ 1099511627776) :
    Calls Try.prog 12 #[.slice A n c, .int .i64 i] w fun e w' => ∃ v, e = .returned (.tuple #[v, .int .i64 (pathA i hs.length).2]) ∧ w'.ownsRow w.heap.size 45 32 v (rootsP hs i).length (hcells (rootsP hs i)) ∧ Below w.heap.size w w' := by
  have hlen := h.len
  by_cases h0 : i < 0
  · have hpa : pathA i hs.length = ([], 4) := by unfold pathA; rw [if_pos (.inl h0)]
    have hr : rootsP hs i = [] := rootsP_bad hs i (by rw [hpa]; decide)
    rw [hpa, hr]
    dsimp only
    have h0' : decide (i < 0) = true := by simp; exact h0
    clear h hlen hpa hr
    go_enter Try.func12, Try.ntmps12
    go_wp2_with fail
    refine bodyPost_ret (results_tmp2 rfl _ _ _) rfl ⟨_, rfl, World.ownsRow_nil _ _ _ _, Below.refl _ _⟩
  by_cases h1 : (n : Int) ≤ i
  · have hpa : pathA i hs.length = ([], 4) := by unfold pathA; rw [if_pos (.inr (by omega))]
    have hr : rootsP hs i = [] := rootsP_bad hs i (by rw [hpa]; decide)
    rw [hpa, hr]
    dsimp only
    have h0' : decide (i < 0) = false := by simp; omega
    have h1' : decide ((n : Int) ≤ i) = true := by simp; omega
    clear h hlen hpa hr
    go_enter Try.func12, Try.ntmps12
    go_wp2_with fail
    refine bodyPost_ret (results_tmp2 rfl _ _ _) rfl ⟨_, rfl, World.ownsRow_nil _ _ _ _, Below.refl _ _⟩
  obtain ⟨e1, e2⟩ := rootsP_nat hs i (by omega) (by omega)
  rw [e1, e2]
  have := r11prove_rec n hs A n c w i.toNat (Nat.le_refl _) (by omega) h hn
  rwa [show ((i.toNat : Nat) : Int) = i by omega] at this
end Go.Proofs.Ytmglkblomklcbaa
/- incl.Read. -/
namespace Go.Proofs.Ytmglkblomklcbaa
open Go Go.RowKit

def chunkL (b : List UInt8) (k : Nat) : List UInt8 := (b.drop (32 * k)).take 32
def chunksL (b : List UInt8) (m : Nat) : List (List UInt8) := (List.range m).map (chunkL b)
def readA (b : List UInt8) (i n : Int) : List (List UInt8) × Int :=
  if (pathA i n).2 ≠ 0 then ([], (pathA i n).2) else if b.length ≠ 32 * (pathA i n).1.length then ([], 210) else (chunksL b (pathA i n).1.length, 0)
theorem length_chunksL (b : List UInt8) (m : Nat) : (chunksL b m).length = m := by simp [chunksL]
theorem length_chunkL (b : List UInt8) (k : Nat) (h : 32 * k + 32 ≤ b.length) : (chunkL b k).length = 32 := by unfold chunkL; rw [List.length_take, List.length_drop]; omega
theorem chunksL_succ (b : List UInt8) (k : Nat) : chunksL b (k + 1) = chunksL b k ++ [chunkL b k] := by simp [chunksL, List.range_succ]
theorem chunksL_all (b : List UInt8) (m : Nat) (h : 32 * m ≤ b.length) : H32 (chunksL b m) := by
  intro x hx
  obtain ⟨k, hk, rfl⟩ := List.mem_map.1 hx
  have := List.mem_range.1 hk
  exact length_chunkL b k (by omega)
theorem readA_all (b : List UInt8) (i n : Int) : H32 (readA b i n).1 := by
  unfold readA
  split
  · exact fun _ h => (by cases h)
  · split
    · exact fun _ h => (by cases h)
    · exact chunksL_all b _ (by omega)
theorem run_slice_op_lowT {P : Program} {T : TypeId} {s : Nat} (ht : P.underlying T = some (.slice (P.elem T))) (hs : ∀ W : World, (sizeOf (P.elem T)).run P W = .ok s W) {ρ : Operand → Value} {o : Oper} (x y : Operand) (ho : o.op = .slice T x (some y) none none) (A : Option Addr) (n c k : Nat) (hx : ρ x = .slice A n c) (hy : ρ y = .int .i64 (k : Int)) (hk : k ≤ n) (W : World) :
    (execOp ρ o).run P W = .ok (.value (.slice (if c = k then A else A.map (·.add (k * s))) (n - k) (c - k))) W := by
  unfold execOp
  simp only [ho, hx, hy, Option.map_some, Option.map_none, run_slice_low ht hs A n c k hk W, Sem.run_bind, Sem.run_pure, Result.andThen_ok]
theorem run_toArray_op {ρ : Operand → Value} {o : Oper} (x : Operand) (ho : o.op = .sliceToArrayPointer 45 x) (a : Addr) (n c : Nat) (hx : ρ x = .slice (some a) n c) (hn : 32 ≤ n) (W : World) : (execOp ρ o).run Try.prog W = .ok (.value (.pointer (some a))) W := by
  unfold execOp
  simp only [ho, hx, run_arrayAt (P := Try.prog) (w := W) 45 5 32 (some a) n c (by kernel_rfl) hn, Sem.run_bind, Sem.run_pure, Result.andThen_ok]

structure IrI (w : World) (b : List UInt8) (A : Option Addr) (n c base : Nat) (q : List (List UInt8)) (v : Value) (W : World) : Prop where
  src : Sl W (· < base) A n c b
  own : W.ownsRow base 45 32 v q.length (hcells q)
  bel : Below base w W
  sz : base ≤ W.heap.size

set_option maxHeartbeats 2000000 in
set_option maxRecDepth 100000 in
theorem iread_any (b : List UInt8) (A : Option Addr) (nb c : Nat) (w : World) (i n : Int) (hn : n ≤ 9223372036854775807) (h : Sl w (fun _ => True) A nb c b) :
    Calls Try.prog 32 #[.slice A nb c, .int .i64 i, .int .i64 n] w fun e w' => ∃ v, e = .returned (.tuple #[v, .int .i64 (readA b i n).2]) ∧ w'.ownsRow w.heap.size 45 32 v (readA b i n).1.length (hcells (readA b i n).1) ∧ Below w.heap.size w w' := by
  have hlen := h.len
  have hroom := h.room
  have hmx := h.max
  unfold maxLen at hmx
  have hil := fun W => ilen_any i n W hn
  have hpl := pathA_len i n hn
  unfold readA
  obtain ⟨⟨ls, e0⟩, hse⟩ : ∃ s, pathA i n = s := ⟨_, rfl⟩
  rw [hse] at hil hpl ⊢
  dsimp only at hil hpl ⊢
  obtain ⟨m, hm⟩ : ∃ m, ls.length = m := ⟨_, rfl⟩
  rw [hm] at hil hpl ⊢
  have hw32 : IntKind.i64.wrap (32 * (m : Int)) = 32 * (m : Int) := IntWalk.i64_in _ (by omega)
  have hsrc := h.weak (Y := (· < w.heap.size)) fun b hb _ => hb
  have Hil := Lib.hid hil
  have Hlen := Lib.hid hlen
  clear hil hse hm h
  by_cases h0 : e0 = 0
  · subst h0
    rw [if_neg (by simp)]
    by_cases hl : b.length = 32 * m
    · rw [if_neg (by simp [hl]), length_chunksL]
      dsimp only
      have hnb : nb = 32 * m := by omega
      have hne : ((nb : Int) != 32 * (m : Int)) = false := by simp; omega
      have Hl := Lib.hid hl
      have Hnb := Lib.hid hnb
      clear hl hlen hnb
      go_enter Try.func32, Try.ntmps32
      go_wp2_with fail
      refine (Hil.out w).mono ?_
      rintro e w1 ⟨rfl, hb1⟩
      have hC0 : IrI w b A nb c w.heap.size [] (.slice none 0 0) w1 := ⟨hsrc.step hb1, World.ownsRow_nil _ _ _ _, hb1, hb1.size⟩
      clear hsrc hb1
      go_wp2_with fail
      go_loopw [10, 27] (fun v i wr => ∃ k : Nat, k ≤ m ∧ i = .int .i64 k ∧ IrI w b A nb c w.heap.size (chunksL b k) v wr) (fun _ i _ => m - (intOf i).toNat)
      case atStart => exact ⟨0, Nat.zero_le _, rfl, hC0⟩
      case round =>
        clear hC0
        obtain ⟨k, hk, rfl, hC⟩ := hrel
        by_cases hkn : k < m
        · obtain ⟨g, o, rfl, hg, hgx, -⟩ := hC.src.cells (by have := Hnb.out; omega)
          have hd := hC.src.drop (32 * k) (by have := Hnb.out; omega)
          have hnb := Hnb.out
          have hzl := length_chunkL b k (by rw [Hl.out]; omega)
          have hld : (Instr.loadAt 45 (.pointer (some ⟨g, o + 32 * k, none⟩))).run Try.prog wr = .ok (.agg ((chunkL b k).map B).toArray) wr :=
            run_load_agg (agg26 _) (size26 _) g (o + 32 * k) ((chunkL b k).map B) (by rw [List.length_map, hzl]) fun j u hu => by
              obtain ⟨g', o', hA, -, -, hc⟩ := hC.src.bs.at_ (by rw [List.length_map, hC.src.len]; omega)
              cases hA
              rw [Nat.add_assoc]
              refine hc _ u ?_
              unfold chunkL at hu
              rw [List.map_take, List.map_drop] at hu
              rw [List.getElem?_take] at hu
              split at hu
              · rwa [List.getElem?_drop] at hu
              · cases hu
          have htk := chunksL_succ b k
          have hlq := length_chunksL b k
          have hw3 : IntKind.i64.wrap (32 * (k : Int)) = ((32 * k : Nat) : Int) := by rw [IntWalk.i64_in _ (by omega)]; omega
          have hck : ¬ c = 32 * k := by omega
          generalize chunkL b k = z at hld hzl htk
          generalize chunksL b k = q at *
          obtain ⟨v3, W3, hr3, ho3, hg3, -⟩ := append_hR hC.own z hzl (by omega) hC.sz
          have Hr3 := Lib.hid hr3
          have Hld := Lib.hid hld
          have Hzl := Lib.hid hzl
          have Htk := Lib.hid htk
          clear hld hzl htk hr3 hd hlq hnb hne
          go_wp2_with (first
            | ((with_reducible show wpList _ _ _ (⟨some 34, .slice _ _ _ _ _, _, _, _, _⟩ :: _) _ _); refine wpList_run0 rfl _ (run_slice_op_lowT (s := 1) (by kernel_rfl) (fun _ => by kernel_rfl) (.tmp 31) (.tmp 33) rfl _ nb c (32 * k) rfl rfl (by have := Hnb.out; omega) _) ?_; rw [if_neg hck]; simp only [Act.put, Option.map_some, addr_add, Nat.mul_one])
            | ((with_reducible show wpList _ _ _ (⟨some 35, .sliceToArrayPointer _ _, _, _, _, _⟩ :: _) _ _); refine wpList_run0 rfl _ (run_toArray_op (.tmp 34) rfl _ _ _ rfl (by have := Hnb.out; omega) _) ?_; simp only [Act.put])
            | ((with_reducible show wpList _ _ _ (⟨some 36, .load _ _, _, _, _, _⟩ :: _) _ _); refine wpList_runG (by kernel_rfl) (.agg (z.map B).toArray) _ (run_load_op 45 (.tmp 35) rfl _ _ rfl _ Hld.out) ?_; simp only [Act.put])
            | ((with_reducible show wpList _ _ _ (⟨some 37, .buildSlice _ _ _, _, _, _, _⟩ :: _) _ _); refine wpList_run rfl _ _ (run_litH_op z Hzl.out (.tmp 36) rfl rfl _) ?_; simp only [Act.put])
            | ((with_reducible show wpList _ _ _ (⟨some 38, .call _, _, _, _, _⟩ :: _) _ _); refine wpList_run rfl v3 W3 (run_append_op (.tmp 30) (.tmp 37) 22 rfl _ _ rfl rfl Hr3.out) ?_; simp only [Act.put]))
          have hb3 : Below w.heap.size wr W3 := (Below.refl _ _).grown hg3 hC.sz (fun r e => (hC.own.lt r e).1)
          refine ⟨⟨k + 1, by omega, by go_num, ?_⟩, by simp [intOf]; omega⟩
          rw [Htk.out]
          exact ⟨hC.src.below hb3 (fun _ _ h => h), ho3, hC.bel.trans hb3, Nat.le_trans hC.sz hb3.size⟩
        · obtain rfl : k = m := by omega
          go_wp2_with fail
          have hlq := length_chunksL b k
          refine bodyPost_ret (results_tmp2 rfl _ _ _) rfl ⟨_, rfl, ?_, hC.bel⟩
          have := hC.own
          rwa [hlq] at this
    · rw [if_pos hl]
      dsimp only
      have hne : ((nb : Int) != 32 * (m : Int)) = true := by simp; omega
      clear hl hlen
      go_enter Try.func32, Try.ntmps32
      go_wp2_with fail
      refine (Hil.out w).mono ?_
      rintro e w1 ⟨rfl, hb1⟩
      go_wp2_with fail
      refine bodyPost_ret (results_tmp2 rfl _ _ _) rfl ⟨_, rfl, World.ownsRow_nil _ _ _ _, hb1⟩
  · rw [if_pos h0]
    dsimp only
    have hne : (e0 != 0) = true := by simpa using h0
    clear h0 hlen
    go_enter Try.func32, Try.ntmps32
    go_wp2_with fail
    refine (Hil.out w).mono ?_
    rintro e w1 ⟨rfl, hb1⟩
    go_wp2_with fail
    refine bodyPost_ret (results_tmp2 rfl _ _ _) rfl ⟨_, rfl, World.ownsRow_nil _ _ _ _, hb1⟩
end Go.Proofs.Ytmglkblomklcbaa
/- notaryref11.Bytes, Read. -/
namespace Go.Proofs.Ytmglkblomklcbaa
open Go Go.RowKit

/-- one byte more -/
theorem append_u1 {w : World} {base : Nat} {v : Value} {q : List UInt8} (h : w.ownsRow base 5 1 v q.length (q.map B)) (x : UInt8) (hn : q.length ≤ 70368744177664) (hb : base ≤ w.heap.size) :
    ∃ v' w', (Builtin.append_ #[71, 71] 71 #[v, .slice (some ⟨w.heap.size, 0, none⟩) 1 1]).run Try.prog (w.alloc (.cells #[.int .u8 (x.toNat : Int)] 5)) = .ok v' w' ∧
      w'.ownsRow base 5 1 v' (q ++ [x]).length ((q ++ [x]).map B) ∧ w.grownBy w' v.ownBlock := by
  have hA : Below w.heap.size w (w.alloc (.cells #[.int .u8 (x.toNat : Int)] 5)) := (Below.refl _ _).alloc (Nat.le_refl _) _
  have hs : Sl (w.alloc (.cells #[.int .u8 (x.toNat : Int)] 5)) (fun _ => True) (some ⟨w.heap.size, 0, none⟩) 1 1 [x] :=
    ⟨fun _ => ⟨w.heap.size, 0, rfl, by simp, trivial, fun j u hu => by rw [Nat.zero_add, (Blk.new w _ _).cell, List.getElem?_toArray]; exact hu⟩, rfl, Nat.le_refl _, (fun e => by cases e), by unfold maxLen; omega⟩
  obtain ⟨v', w', h1, h2, h3⟩ := append_sl (owns_step h hA) hs (by omega) (Nat.le_trans hb hA.size)
  exact ⟨v', w', h1, h2, ⟨h3.os, h3.tape, h3.output, Nat.le_trans hA.size h3.size, fun k hk hne => (h3.block k (Nat.lt_of_lt_of_le hk hA.size) hne).trans (hA.block k hk)⟩⟩
theorem take_snocB (l : List UInt8) (k : Nat) (h : k < l.length) : l.take (k + 1) = l.take k ++ [l.getD k 0] := by
  rw [List.take_succ_eq_append_getElem h, List.getD_eq_getElem?_getD, List.getElem?_eq_getElem h]; rfl
theorem Hs.cellB {w : World} {X : Nat → Prop} {n c : Nat} {hs : List (List UInt8)} {b o : Nat} (h : Hs w X (some ⟨b, o, none⟩) n c hs) (i k : Nat) (hi : i < n) (hk : k < 32) : w.cell? ⟨b, o + i * 32 + k, none⟩ = some (.int .u8 (((hs.getD i []).getD k 0).toNat : Int)) := by
  obtain ⟨b', o', hA, -, -, h4⟩ := h.sl.at_ (by omega) (by decide)
  cases hA
  have hl := h.all.getD i (by rw [h.len]; exact hi)
  rw [Nat.add_assoc]
  refine h4 _ _ (hcells_get hs h.all i (by rw [h.len]; exact hi) k _ ?_)
  generalize hs.getD i [] = z at hl ⊢
  rw [List.getElem?_map, List.getD_eq_getElem?_getD, List.getElem?_eq_getElem (by omega)]
  rfl

set_option maxHeartbeats 2000000 in
set_option maxRecDepth 100000 in
theorem r11bytes_any (p : List (List UInt8)) (A : Option Addr) (n c : Nat) (w : World) (h : Hs w (fun _ => True) A n c p) (hn : n ≤ 1099511627776) :
    Calls Try.prog 34 #[.slice A n c] w fun e w' => ∃ v, e = .returned v ∧ Fresh w w' v p.flatten := by
  have hlen := h.len
  have h32 := h.all
  have hroom := h.sl.room
  have hmx := h.sl.max
  unfold maxLen at hmx
  have hC0 : IbI w p A n c [] (.slice none 0 0) w := ⟨h.weak fun b hb _ => hb, World.ownsRow_nil _ _ _ _, Below.refl _ _⟩
  have Hlen := Lib.hid hlen
  have H32h := Lib.hid h32
  clear h hlen h32
  go_enter Try.func34, Try.ntmps34
  go_wp2_with fail
  go_loopw [3, 4] (fun v i wr => ∃ k : Nat, k ≤ n ∧ i = .int .i64 k ∧ IbI w p A n c (p.take k).flatten v wr) (fun _ i _ => n - (intOf i).toNat)
  case atStart => exact ⟨0, Nat.zero_le _, rfl, hC0⟩
  case round =>
    clear hC0
    obtain ⟨k, hk, rfl, hC⟩ := hrel
    by_cases hkn : k < n
    · obtain ⟨b, o, rfl, -, -, -⟩ := hC.src.at_ (by omega)
      have hzl := H32h.out.getD k (by rw [Hlen.out]; exact hkn)
      have htk := flatten_snoc p k (by rw [Hlen.out]; exact hkn)
      have hql : ((p.take k).flatten).length ≤ 35184372088832 := by rw [length_flatten32 _ (H32h.out.take k), List.length_take, Hlen.out]; omega
      have hce := fun W (h : Hs W (· < w.heap.size) (some ⟨b, o, none⟩) n c p) j (hj : j < 32) => h.cellB k j hkn hj
      generalize p.getD k [] = z at hzl htk hce
      generalize (p.take k).flatten = q at *
      have Hzl := Lib.hid hzl
      have Htk := Lib.hid htk
      have Hce := Lib.hid hce
      have hw1 : IntKind.i64.wrap ((k : Int) + 1) = ((k + 1 : Nat) : Int) := by rw [IntWalk.i64_in _ (by omega)]; omega
      clear hzl htk hce
      go_wp2_with fail
      go_loopw [3, 5] (fun v j wr => ∃ m : Nat, m ≤ 32 ∧ j = .int .i64 m ∧ IbI w p (some ⟨b, o, none⟩) n c (q ++ z.take m) v wr) (fun _ j _ => 32 - (intOf j).toNat)
      case atStart => exact ⟨0, by omega, rfl, by rw [List.take_zero, List.append_nil]; exact hC⟩
      case round =>
        clear hC
        obtain ⟨m, hm, rfl, hC⟩ := hrel
        by_cases hm32 : m < 32
        · have hc := Hce.out _ hC.src m hm32
          have htm := take_snocB z m (by rw [Hzl.out]; exact hm32)
          have hql2 : (q ++ z.take m).length ≤ 35184372088832 + 32 := by rw [List.length_append, List.length_take]; omega
          have hap : q ++ z.take (m + 1) = (q ++ z.take m) ++ [z.getD m 0] := by rw [htm, List.append_assoc]
          generalize z.getD m 0 = x at hc hap
          generalize q ++ z.take m = q2 at *
          obtain ⟨v3, W3, hr3, ho3, hg3⟩ := append_u1 hC.own x (by omega) hC.bel.size
          have hb3 : Below w.heap.size _ W3 := (Below.refl w.heap.size _).grown hg3 hC.bel.size (fun r e => (hC.own.lt r e).1)
          have hC3 : IbI w p (some ⟨b, o, none⟩) n c (q2 ++ [x]) v3 W3 := ⟨⟨hC.src.sl.below hb3 (fun _ _ h => h), hC.src.len, hC.src.all⟩, ho3, hC.bel.trans hb3⟩
          have Hr3 := Lib.hid hr3
          have Hap := Lib.hid hap
          have hd : decide ((m : Int) < 32) = true := by simp; omega
          have hw2 : IntKind.i64.wrap ((m : Int) + 1) = ((m + 1 : Nat) : Int) := by rw [IntWalk.i64_in _ (by omega)]; omega
          clear hr3 hap ho3 hg3 hb3 htm hC hql2
          go_wp2_with ((with_reducible show wpList _ _ _ (⟨some 24, .call _, _, _, _, _⟩ :: _) _ _); refine wpList_run rfl v3 W3 (run_append_op (.tmp 16) (.tmp 23) 71 rfl _ _ rfl rfl Hr3.out) ?_; simp only [Act.put])
          refine ⟨⟨m + 1, by omega, by go_num, by rw [Hap.out]; exact hC3⟩, by simp [intOf]; omega⟩
        · obtain rfl : m = 32 := by omega
          have hd : decide ((32 : Int) < 32) = false := by decide
          rw [List.take_of_length_le (by rw [Hzl.out]; exact Nat.le_refl _)] at hC
          go_wp2_with fail
          refine ⟨⟨k + 1, by omega, by go_num, by rw [Htk.out]; exact hC⟩, by simp [intOf]; omega⟩
    · obtain rfl : k = n := by omega
      go_wp2_with fail
      rw [List.take_of_length_le (by rw [Hlen.out]; exact Nat.le_refl _)] at hC
      go_ret
      exact ⟨_, rfl, hC.own, hC.bel⟩

theorem hv_setB {W : World} {g : Nat} {l : List UInt8} (h : HV W g l) (j : Nat) (x : UInt8) : HV (W.setCell ⟨g, j, none⟩ (.int .u8 (x.toNat : Int))) g (l.set j x) := by
  refine ⟨?_, by rw [List.length_set]; exact h.len⟩
  have h1 := h.blk.set_ j (B x)
  have e : (l.map B).toArray.setIfInBounds j (B x) = ((l.set j x).map B).toArray := by simp [List.map_set]
  rw [e] at h1
  exact h1
/-- a hash that is filled byte by byte -/
theorem fill_step (z : List UInt8) (hz : z.length = 32) (m : Nat) (hm : m < 32) : (z.take m ++ List.replicate (32 - m) 0).set m (z.getD m 0) = z.take (m + 1) ++ List.replicate (32 - (m + 1)) 0 := by
  rw [take_snocB z m (by omega), List.set_append_right _ _ (by rw [List.length_take]; omega), List.length_take, Nat.min_eq_left (by omega), Nat.sub_self, show 32 - m = 32 - (m + 1) + 1 by omega, List.replicate_succ]
  simp
structure IfI (w : World) (b : List UInt8) (A : Option Addr) (n c base g : Nat) (q : List (List UInt8)) (v : Value) (l : List UInt8) (W : World) : Prop where
  i : IrI w b A n c base q v W
  h : HV W g l
  ge : base ≤ g
  ne : v.ownBlock ≠ some g

set_option maxHeartbeats 2000000 in
set_option maxRecDepth 100000 in
theorem r11read_any (b : List UInt8) (A : Option Addr) (nb c : Nat) (w : World) (i n : Int) (hn : n ≤ 9223372036854775807) (h : Sl w (fun _ => True) A nb c b) :
    Calls Try.prog 33 #[.slice A nb c, .int .i64 i, .int .i64 n] w fun e w' => ∃ v, e = .returned (.tuple #[v, .int .i64 (readA b i n).2]) ∧ w'.ownsRow w.heap.size 45 32 v (readA b i n).1.length (hcells (readA b i n).1) ∧ Below w.heap.size w w' := by
  have hlen := h.len
  have hroom := h.room
  have hmx := h.max
  unfold maxLen at hmx
  have hil := fun W => r11len_any i n W hn
  have hpl := pathA_len i n hn
  unfold readA
  obtain ⟨⟨ls, e0⟩, hse⟩ : ∃ s, pathA i n = s := ⟨_, rfl⟩
  rw [hse] at hil hpl ⊢
  dsimp only at hil hpl ⊢
  obtain ⟨m, hm⟩ : ∃ m, ls.length = m := ⟨_, rfl⟩
  rw [hm] at hil hpl ⊢
  have hw32 : IntKind.i64.wrap (32 * (m : Int)) = 32 * (m : Int) := IntWalk.i64_in _ (by omega)
  have hsrc := h.weak (Y := (· < w.heap.size)) fun b hb _ => hb
  have Hil := Lib.hid hil
  have Hlen := Lib.hid hlen
  clear hil hse hm h
  by_cases h0 : e0 = 0
  · subst h0
    rw [if_neg (by simp)]
    by_cases hl : b.length = 32 * m
    · rw [if_neg (by simp [hl]), length_chunksL]
      dsimp only
      have hnb : nb = 32 * m := by omega
      have hne : ((nb : Int) != 32 * (m : Int)) = false := by simp; omega
      have Hl := Lib.hid hl
      have Hnb := Lib.hid hnb
      clear hl hlen hnb
      have hC0 : IrI w b A nb c w.heap.size [] (.slice none 0 0) w := ⟨hsrc, World.ownsRow_nil _ _ _ _, Below.refl _ _, Nat.le_refl _⟩
      clear hsrc
      go_enter Try.func33, Try.ntmps33
      go_wp2_with (go_at_call 14; refine (Hil.out _).mono ?_; rintro e w0 ⟨rfl, rfl⟩)
      go_loopw [10, 11] (fun v i wr => ∃ k : Nat, k ≤ m ∧ i = .int .i64 k ∧ IrI w b A nb c w.heap.size (chunksL b k) v wr) (fun _ i _ => m - (intOf i).toNat)
      case atStart => exact ⟨0, Nat.zero_le _, rfl, hC0⟩
      case round =>
        clear hC0
        obtain ⟨k, hk, rfl, hC⟩ := hrel
        by_cases hkn : k < m
        · obtain ⟨g, o, rfl, hg, hgx, -⟩ := hC.src.cells (by have := Hnb.out; omega)
          have hnb := Hnb.out
          have hzl := length_chunkL b k (by rw [Hl.out]; omega)
          have hce : ∀ W, Sl W (· < w.heap.size) (some ⟨g, o, none⟩) nb c b → ∀ j, j < 32 → W.cell? ⟨g, o + (32 * k + j), none⟩ = some (.int .u8 (((chunkL b k).getD j 0).toNat : Int)) := fun W h j hj => by
            obtain ⟨g', o', hA, -, -, hc⟩ := h.cells (by omega)
            cases hA
            rw [hc (32 * k + j) (by omega)]
            unfold chunkL
            rw [List.getD_eq_getElem?_getD, List.getD_eq_getElem?_getD, List.getElem?_take, if_pos hj, List.getElem?_drop]
          have htk := chunksL_succ b k
          have hlq := length_chunksL b k
          have hdk : decide ((k : Int) < (m : Int)) = true := by simp; omega
          have hw3 : IntKind.i64.wrap (32 * (k : Int)) = ((32 * k : Nat) : Int) := by rw [IntWalk.i64_in _ (by omega)]; omega
          have hw1 : IntKind.i64.wrap ((k : Int) + 1) = ((k + 1 : Nat) : Int) := by rw [IntWalk.i64_in _ (by omega)]; omega
          generalize chunkL b k = z at hzl htk hce
          generalize chunksL b k = q at *
          have Hzl := Lib.hid hzl
          have Htk := Lib.hid htk
          have Hce := Lib.hid hce
          have Hlq := Lib.hid hlq
          clear hzl htk hce hlq hnb hne
          go_wp2_with ((with_reducible show wpList _ _ _ (⟨some 12, .alloc _, _, _, _, _⟩ :: _) _ _); refine wpList_hnew rfl rfl ?_; intro W2 k12 hb2; simp only [Act.put]; have hI : IfI w b (some ⟨g, o, none⟩) nb c w.heap.size wr.heap.size q _ (z.take 0 ++ List.replicate (32 - 0) 0) W2 := ⟨⟨hC.src.step hb2, owns_step hC.own hb2, hC.bel.trans (hb2.mono hC.sz), Nat.le_trans hC.sz hb2.size⟩, k12, hC.sz, fun e => Nat.lt_irrefl _ (hC.own.lt _ e).2⟩; clear hC k12 hb2)
          generalize wr.heap.size = g12 at hI ⊢
          go_loopw [13] (fun j wr => ∃ m : Nat, m ≤ 32 ∧ j = .int .i64 m ∧ IfI w b (some ⟨g, o, none⟩) nb c w.heap.size g12 q u10 (z.take m ++ List.replicate (32 - m) 0) wr) (fun j _ => 32 - (intOf j).toNat)
          case atStart => exact ⟨0, by omega, rfl, hI⟩
          case round =>
            clear hI
            obtain ⟨j, hj, rfl, hC⟩ := hrel
            by_cases hj32 : j < 32
            · have hc := Hce.out _ hC.i.src j hj32
              have hf := fill_step z Hzl.out j hj32
              obtain ⟨vc, hfc⟩ : ∃ v, wr.cell? ⟨g12, j, none⟩ = some v := ⟨_, by rw [hC.h.blk.cell, List.getElem?_toArray, List.getElem?_map, List.getElem?_eq_getElem (by rw [hC.h.len]; exact hj32), Option.map_some]⟩
              have hff := hC.h.blk.frozen j
              have hd : decide ((j : Int) < 32) = true := by simp; omega
              have hw2 : IntKind.i64.wrap ((j : Int) + 1) = ((j + 1 : Nat) : Int) := by rw [IntWalk.i64_in _ (by omega)]; omega
              have hw4 : IntKind.i64.wrap (32 * (k : Int) + (j : Int)) = ((32 * k + j : Nat) : Int) := by rw [IntWalk.i64_in _ (by have := Hnb.out; omega)]; omega
              have hlt : 32 * k + j < nb := by have := Hnb.out; omega
              have hlt2 : 32 * (k : Int) + (j : Int) < (nb : Int) := by omega
              have hge2 : (0 : Int) ≤ 32 * (k : Int) + (j : Int) := by omega
              have hnat : (32 * (k : Int) + (j : Int)).toNat = 32 * k + j := by omega
              have hset := hv_setB hC.h j (z.getD j 0)
              rw [hf] at hset
              have hst : ∀ u : Value, IrI w b (some ⟨g, o, none⟩) nb c w.heap.size q u10 (wr.setCell ⟨g12, j, none⟩ u) := fun u =>
                ⟨hC.i.src.grown (grown_setCell (grown_of_below (Below.refl _ _) _) j u) (fun b _ hb e => by have := Option.some.inj e; have := hC.ge; omega),
                 hC.i.own.kept (grown_setCell (grown_of_below (Below.refl _ _) _) j u) (.inr hC.ne), hC.i.bel.setCell (by exact hC.ge) u, by simpa [World.setCell] using hC.i.sz⟩
              have hst := hst (.int .u8 ((z.getD j 0).toNat : Int))
              have hIf : IfI w b (some ⟨g, o, none⟩) nb c w.heap.size g12 q u10 (z.take (j + 1) ++ List.replicate (32 - (j + 1)) 0) (wr.setCell ⟨g12, j, none⟩ (.int .u8 ((z.getD j 0).toNat : Int))) := ⟨hst, hset, hC.ge, hC.ne⟩
              have HIf := Lib.hid hIf
              clear hset hst hf hIf hC
              generalize z.getD j 0 = x at *
              go_wp2_with fail
              refine ⟨⟨j + 1, by omega, by go_num, ?_⟩, by simp [intOf]; omega⟩
              exact HIf.out
            · obtain rfl : j = 32 := by omega
              have hd : decide ((32 : Int) < 32) = false := by decide
              have hz32 : z.take 32 ++ List.replicate (32 - 32) 0 = z := by rw [List.take_of_length_le (by rw [Hzl.out]; exact Nat.le_refl _)]; simp
              rw [hz32] at hC
              have k12 := hC.h
              obtain ⟨v3, W3, hr3, ho3, hg3, -⟩ := append_hR hC.i.own z Hzl.out (by have := Hlq.out; omega) hC.i.sz
              have hb3 : Below w.heap.size wr W3 := (Below.refl _ _).grown hg3 hC.i.sz (fun r e => (hC.i.own.lt r e).1)
              have hI3 : IrI w b (some ⟨g, o, none⟩) nb c w.heap.size (q ++ [z]) v3 W3 := ⟨hC.i.src.below hb3 (fun _ _ h => h), ho3, hC.i.bel.trans hb3, Nat.le_trans hC.i.sz hb3.size⟩
              have Hr3 := Lib.hid hr3
              clear hr3 ho3 hg3 hb3 hC hz32
              go_wp2_with (first
                | ((with_reducible show wpList _ _ _ (⟨some 47, .load _ _, _, _, _, _⟩ :: _) _ _); refine wpList_hload (.tmp 12) (by kernel_rfl) rfl k12 rfl ?_; simp only [Act.put])
                | ((with_reducible show wpList _ _ _ (⟨some 48, .buildSlice _ _ _, _, _, _, _⟩ :: _) _ _); refine wpList_run rfl _ _ (run_litH_op z Hzl.out (.tmp 47) rfl rfl _) ?_; simp only [Act.put])
                | ((with_reducible show wpList _ _ _ (⟨some 49, .call _, _, _, _, _⟩ :: _) _ _); refine wpList_run rfl v3 W3 (run_append_op (.tmp 46) (.tmp 48) 22 rfl _ _ rfl rfl Hr3.out) ?_; simp only [Act.put]))
              refine ⟨⟨k + 1, by omega, by go_num, by rw [Htk.out]; exact hI3⟩, by simp [intOf]; omega⟩
        · obtain rfl : k = m := by omega
          go_wp2_with fail
          have hlq := length_chunksL b k
          refine bodyPost_ret (results_tmp2 rfl _ _ _) rfl ⟨_, rfl, ?_, hC.bel⟩
          have := hC.own
          rwa [hlq] at this
    · rw [if_pos hl]
      dsimp only
      have hne : ((nb : Int) != 32 * (m : Int)) = true := by simp; omega
      clear hl hlen
      go_enter Try.func33, Try.ntmps33
      go_wp2_with (go_at_call 14; refine (Hil.out _).mono ?_; rintro e w0 ⟨rfl, rfl⟩)
      refine bodyPost_ret (results_tmp2 rfl _ _ _) rfl ⟨_, rfl, World.ownsRow_nil _ _ _ _, Below.refl _ _⟩
  · rw [if_pos h0]
    dsimp only
    have hne : (e0 != 0) = true := by simpa using h0
    clear h0 hlen
    go_enter Try.func33, Try.ntmps33
    go_wp2_with (go_at_call 14; refine (Hil.out _).mono ?_; rintro e w0 ⟨rfl, rfl⟩)
    refine bodyPost_ret (results_tmp2 rfl _ _ _) rfl ⟨_, rfl, World.ownsRow_nil _ _ _ _, Below.refl _ _⟩
end Go.Proofs.Ytmglkblomklcbaa
