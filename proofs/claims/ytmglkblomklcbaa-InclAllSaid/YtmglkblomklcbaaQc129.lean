/- notarylaw11.spoilt. -/
import Derived.Test.YtmglkblomklcbaaQc112
import Derived.Test.YtmglkblomklcbaaQc120
import Derived.Test.YtmglkblomklcbaaQc119
import Derived.Test.YtmglkblomklcbaaQc123
namespace Go.Proofs.Ytmglkblomklcbaa
open Go Go.RowKit

/-- a row of one's own turns, or a new one takes its place -/
structure SpI (w : World) (base : Nat) (v0 : Value) (m : Nat) (v : Value) (W : World) : Prop where
  own : ∃ xs, W.ownsRow base 45 32 v m xs
  g : w.grownBy W v0.ownBlock
  at_ : v.ownBlock = v0.ownBlock ∨ ∃ r, v.ownBlock = some r ∧ w.heap.size ≤ r
theorem SpI.next {w W W' : World} {base m m' : Nat} {v0 v v' : Value} {xs : List Value} (h : SpI w base v0 m v W) (ho : W'.ownsRow base 45 32 v' m' xs) (hg : W.grownBy W' v.ownBlock) (ha : v'.ownBlock = v.ownBlock ∨ ∃ r, v'.ownBlock = some r ∧ W.heap.size ≤ r) : SpI w base v0 m' v' W' := by
  refine ⟨⟨xs, ho⟩, ⟨hg.os.trans h.g.os, hg.tape.trans h.g.tape, hg.output.trans h.g.output, Nat.le_trans h.g.size hg.size, fun k hk hne => (hg.block k (Nat.lt_of_lt_of_le hk h.g.size) (fun e => ?_)).trans (h.g.block k hk hne)⟩, ?_⟩
  · rcases h.at_ with e2 | ⟨r, e2, hr⟩
    · exact hne (e.trans e2)
    · rw [e2] at e
      have := Option.some.inj e
      omega
  · rcases ha with e | ⟨r, e, hr⟩
    · rcases h.at_ with e2 | ⟨r, e2, hr⟩
      · exact .inl (e.trans e2)
      · exact .inr ⟨r, e.trans e2, hr⟩
    · exact .inr ⟨r, e, Nat.le_trans h.g.size hr⟩

set_option maxHeartbeats 2000000 in
set_option maxRecDepth 100000 in
theorem spoilt11_any (w : World) (base n : Nat) (v : Value) (xs : List Value) (h : w.ownsRow base 45 32 v n xs) (hb : base ≤ w.heap.size) (hn : n ≤ 1099511627776) :
    Calls Try.prog 18 #[v] w fun e w' => e = .returned (.tuple #[]) ∧ w.grownBy w' v.ownBlock := by
  have hI : SpI w base v n v w := ⟨⟨xs, h⟩, ⟨rfl, rfl, rfl, Nat.le_refl _, fun _ _ _ => rfl⟩, .inl rfl⟩
  obtain ⟨A, c, rfl⟩ : ∃ A c, v = .slice A n c := by
    obtain ⟨A, c, e, -⟩ := owns_slv h
    exact ⟨A, c, e⟩
  obtain ⟨x9, hx9⟩ : ∃ x, oneHash 9 = x := ⟨_, rfl⟩
  have h9 : x9.length = 32 := by rw [← hx9]; exact length_oneHash _
  obtain ⟨x8, hx8⟩ : ∃ x, oneHash 8 = x := ⟨_, rfl⟩
  have h8 : x8.length = 32 := by rw [← hx8]; exact length_oneHash _
  have h832 : H32 [x8] := fun h hh => by rw [List.mem_singleton.1 hh]; exact h8
  have Hx9 := Lib.hid hx9
  have H9 := Lib.hid h9
  have Hx8 := Lib.hid hx8
  have H832 := Lib.hid h832
  clear h hx9 h9 hx8 h8 h832
  go_enter Try.func18, Try.ntmps18
  go_wp2_with fail
  go_loopw [2] (fun i wr => ∃ k : Nat, k ≤ n ∧ i = .int .i64 k ∧ SpI w base (.slice A n c) n (.slice A n c) wr) (fun i _ => n - (intOf i).toNat)
  case atStart => exact ⟨0, Nat.zero_le _, rfl, hI⟩
  case round =>
    clear hI
    obtain ⟨k, hk, rfl, hC⟩ := hrel
    by_cases hkn : k < n
    · have hd : decide ((k : Int) < (n : Int)) = true := by simp; omega
      obtain ⟨ys, ho⟩ := hC.own
      obtain ⟨g, c', e⟩ := owns_some ho (by omega)
      cases e
      obtain ⟨cur, hk2, hsz, hbg, ho2⟩ := owns_put ho k hkn (x9.map B) (by rw [List.length_map]; exact H9.out)
      have hg2 : wr.grownBy (wr.setRow g (cur.toList.take (k * 32) ++ x9.map B ++ cur.toList.drop (k * 32 + 32)).toArray) (some g) := ⟨rfl, rfl, rfl, by simp, fun i _ hne => setRow_other wr g i _ (fun e => hne (by rw [e]))⟩
      have hC2 := hC.next ho2 hg2 (.inl rfl)
      have HC2 := Lib.hid hC2
      clear ho ho2 hg2 hC hC2
      go_wp2_with (first
        | ((with_reducible show wpList _ _ _ (⟨some 12, .build _ _, _, _, _, _⟩ :: _) _ _); refine wpList_run0 rfl (.agg (x9.map B).toArray) (by rw [← Hx9.out]; kernel_rfl) ?_; simp only [Act.put])
        | ((with_reducible show wpList _ _ _ (⟨none, .store _ _ _, _, _, _, _⟩ :: _) _ _); refine wpList_store_agg rfl 45 (.tmp 13) (.tmp 12) rfl 32 size26 g (k * 32) (x9.map B).toArray (by simp [Act.eval]) rfl (by simp [H9.out]) (oneCell_B _) 45 cur hk2 hsz ?_; simp only [Act.put]))
      refine ⟨⟨k + 1, by omega, by go_num, by simpa only [List.append_assoc] using HC2.out⟩, by simp [intOf]; omega⟩
    · obtain rfl : k = n := by omega
      have hd : decide ((k : Int) < (k : Int)) = false := by simp
      go_wp2_with fail
      go_loopw [0, 3] (fun v i wr => ∃ j : Nat, j ≤ 5 ∧ i = .int .i64 j ∧ SpI w base (.slice A k c) (k + j) v wr) (fun _ i _ => 5 - (intOf i).toNat)
      case atStart => exact ⟨0, by omega, rfl, hC⟩
      case round =>
        clear hC hd
        obtain ⟨j, hj, rfl, hC⟩ := hrel
        by_cases hj5 : j < 5
        · have hd : decide ((j : Int) < 5) = true := by simp; omega
          obtain ⟨ys, ho⟩ := hC.own
          have hbA := Nat.le_trans hb hC.g.size
          have hA := (Below.refl wr.heap.size wr).alloc (Nat.le_refl _) (.cells (hcells [x8]).toArray 45)
          obtain ⟨v3, W3, hr3, ho3, hg3, ha3⟩ := append_slv (ty := 22) Try.underlying22 info26z (by simp [Value.cells]) (by decide) (owns_step ho hA) (Hs.lit wr [x8] H832.out (by simp) 1 rfl).sl (oneB _) (by unfold maxLen; omega) (by omega) (Nat.le_trans hbA hA.size)
          have hgA := grown_of_below hA none
          have hg4 : wr.grownBy W3 u0.ownBlock := ⟨hg3.os.trans hA.os, hg3.tape.trans hA.tape, hg3.output.trans hA.output, Nat.le_trans hA.size hg3.size, fun k hk hne => (hg3.block k (Nat.lt_of_lt_of_le hk hA.size) hne).trans (hA.block k hk)⟩
          have hC3 := hC.next ho3 hg4 (by
            rcases ha3 with e | ⟨r, e, hr⟩
            · exact .inl e
            · exact .inr ⟨r, e, Nat.le_trans hA.size hr⟩)
          have Hr3 := Lib.hid hr3
          have HC3 := Lib.hid hC3
          clear hr3 ho3 hg3 ha3 ho hC hC3 hA hgA hg4
          go_wp2_with (first
            | ((with_reducible show wpList _ _ _ (⟨some 19, .build _ _, _, _, _, _⟩ :: _) _ _); refine wpList_run0 rfl (.agg (x8.map B).toArray) (by rw [← Hx8.out]; kernel_rfl) ?_; simp only [Act.put])
            | ((with_reducible show wpList _ _ _ (⟨some 20, .buildSlice _ _ _, _, _, _, _⟩ :: _) _ _); refine wpList_run rfl _ _ (run_lit_op [x8] H832.out (by simp) (by simp) 1 _ rfl (by simp [Act.eval]) rfl _) ?_; simp only [Act.put])
            | ((with_reducible show wpList _ _ _ (⟨some 21, .call _, _, _, _, _⟩ :: _) _ _); refine wpList_run rfl v3 W3 (run_append_op (.tmp 18) (.tmp 20) 22 rfl _ _ rfl rfl Hr3.out) ?_; simp only [Act.put]))
          refine ⟨⟨j + 1, by omega, by go_num, HC3.out⟩, by simp [intOf]; omega⟩
        · obtain rfl : j = 5 := by omega
          have hd : decide ((5 : Int) < 5) = false := by decide
          go_wp2_with fail
          exact bodyPost_end (by exact results_none rfl _ _ _) rfl ⟨rfl, hC.g⟩
end Go.Proofs.Ytmglkblomklcbaa
/- notaryref11.Len, Prove. -/
namespace Go.Proofs.Ytmglkblomklcbaa
open Go Go.RowKit

theorem length_pathL_left (i n : Nat) (h2 : 2 ≤ n) (hi : i < splitN n) : (pathL i 0 n).length = (pathL i 0 (splitN n)).length + 1 := by
  rw [pathL_left i 0 n (by omega) (by simpa using hi), List.length_append, Nat.zero_add, Nat.sub_zero]; rfl
theorem length_pathL_right (i n : Nat) (h2 : 2 ≤ n) (hi : ¬ i < splitN n) : (pathL i 0 n).length = (pathL (i - splitN n) 0 (n - splitN n)).length + 1 := by
  have hl := splitN_lt n h2
  have hsh := pathL_shift (splitN n) (n - splitN n) (i - splitN n) 0 (n - splitN n) (by omega)
  rw [show i - splitN n + splitN n = i by omega, Nat.zero_add, show n - splitN n + splitN n = n by omega] at hsh
  rw [pathL_right i 0 n (by omega) (by simpa using hi), List.length_append, Nat.zero_add, Nat.sub_zero, hsh, List.length_map]; rfl

set_option maxHeartbeats 1000000 in
set_option maxRecDepth 100000 in
theorem r11len_any (i n : Int) (w : World) (hn : n ≤ 9223372036854775807) :
    Calls Try.prog 14 #[.int .i64 i, .int .i64 n] w fun e w' => e = .returned (.tuple #[.int .i64 ((pathA i n).1.length : Int), .int .i64 (pathA i n).2]) ∧ w = w' := by
  unfold pathA
  by_cases h0 : i < 0
  · rw [if_pos (.inl h0)]
    have h0' : decide (i < 0) = true := by simp; exact h0
    go_enter Try.func14, Try.ntmps14
    go_wp2_with fail
    go_ret2
    exact ⟨rfl, rfl⟩
  by_cases h1 : n ≤ i
  · rw [if_pos (.inr h1)]
    have h0' : decide (i < 0) = false := by simp; omega
    have h1' : decide (n ≤ i) = true := by simp; omega
    go_enter Try.func14, Try.ntmps14
    go_wp2_with fail
    go_ret2
    exact ⟨rfl, rfl⟩
  rw [if_neg (by omega)]
  dsimp only
  obtain ⟨i, rfl⟩ : ∃ k : Nat, i = (k : Int) := ⟨i.toNat, by omega⟩
  obtain ⟨n, rfl⟩ : ∃ k : Nat, n = (k : Int) := ⟨n.toNat, by omega⟩
  rw [Int.toNat_natCast, Int.toNat_natCast]
  have hpl := pathL_len 63 i 0 n (by omega)
  obtain ⟨t, ht⟩ : ∃ t, (pathL i 0 n).length = t := ⟨_, rfl⟩
  rw [ht] at hpl ⊢
  have Ht := Lib.hid ht
  have h0' : decide ((i : Int) < 0) = false := by simp
  have h1' : decide ((n : Int) ≤ (i : Int)) = false := by simp; omega
  have h1'' : decide (n ≤ i) = false := by simp; omega
  clear ht
  go_enter Try.func14, Try.ntmps14
  go_wp2_with fail
  go_loop [0, 1, 6] (fun a b c => ∃ i' n' m : Nat, i' < n' ∧ n' ≤ 9223372036854775807 ∧ a = .int .i64 (i' : Int) ∧ b = .int .i64 (n' : Int) ∧ c = .int .i64 (m : Int) ∧ m + (pathL i' 0 n').length = t) (fun _ b _ => (intOf b).toNat)
  case atStart => exact ⟨i, n, 0, by omega, by omega, rfl, rfl, rfl, by rw [Nat.zero_add]; exact Ht.out⟩
  case round =>
    obtain ⟨i', n', m, hin, hn', rfl, rfl, rfl, hm⟩ := hrel
    have Hm := Lib.hid hm
    have hmt : m ≤ t := by omega
    clear hm
    by_cases h2 : n' < 2
    · have hd : decide ((1 : Int) < (n' : Int)) = false := by simp; omega
      have hmt' : m = t := by have := Hm.out; rw [pathL_small _ _ _ (by omega)] at this; simpa using this
      subst hmt'
      go_wp2_with fail
      go_ret2
      exact ⟨rfl, rfl⟩
    · have hd : decide ((1 : Int) < (n' : Int)) = true := by simp; omega
      have hspl := fun W => r11split_any (n' : Int) W (by omega) (by omega)
      rw [Int.toNat_natCast] at hspl
      have hsl := splitN_lt n' (by omega)
      have hsp := splitN_pos n' (by omega)
      have hle := length_pathL_left i' n' (by omega)
      have hri := length_pathL_right i' n' (by omega)
      obtain ⟨s, hs⟩ : ∃ s, splitN n' = s := ⟨_, rfl⟩
      rw [hs] at hspl hsl hsp hle hri
      have Hspl := Lib.hid hspl
      clear hspl hs
      by_cases hi : i' < s
      · have hd2 : decide ((i' : Int) < (s : Int)) = true := by simp; omega
        have hle := hle hi
        have Hle := Lib.hid hle
        have hmt2 : m + 1 ≤ t := by have := Hm.out; omega
        have hw : IntKind.i64.wrap ((m : Int) + 1) = ((m + 1 : Nat) : Int) := by rw [IntWalk.i64_in _ (by omega)]; omega
        clear hle hri
        go_wp2_with (go_at_call 39; refine (Hspl.out _).mono ?_; rintro e w1 ⟨rfl, rfl⟩)
        go_round
        case rel => exact ⟨i', s, m + 1, hi, by omega, rfl, rfl, by go_num, by have := Hm.out; have := Hle.out; omega⟩
        case measure => simp [intOf]; omega
      · have hd2 : decide ((i' : Int) < (s : Int)) = false := by simp; omega
        have hri := hri hi
        have Hri := Lib.hid hri
        have hmt2 : m + 1 ≤ t := by have := Hm.out; omega
        have hw : IntKind.i64.wrap ((m : Int) + 1) = ((m + 1 : Nat) : Int) := by rw [IntWalk.i64_in _ (by omega)]; omega
        have hw1 : IntKind.i64.wrap ((i' : Int) - (s : Int)) = ((i' - s : Nat) : Int) := by rw [IntWalk.i64_in _ (by omega)]; omega
        have hw2 : IntKind.i64.wrap ((n' : Int) - (s : Int)) = ((n' - s : Nat) : Int) := by rw [IntWalk.i64_in _ (by omega)]; omega
        clear hle hri
        go_wp2_with (go_at_call 39; refine (Hspl.out _).mono ?_; rintro e w1 ⟨rfl, rfl⟩)
        go_round
        case rel => exact ⟨i' - s, n' - s, m + 1, by omega, by omega, by go_num, by go_num, by go_num, by have := Hm.out; have := Hri.out; omega⟩
        case measure => simp [intOf]; omega

set_option maxHeartbeats 4000000 in
set_option maxRecDepth 100000 in
theorem r11prove_rec (d : Nat) : ∀ (hs : List (List UInt8)) (A : Option Addr) (n c : Nat) (w : World) (i : Nat), n ≤ d → i < n → Hs w (fun _ => True) A n c hs → n ≤ 1099511627776 →
    Calls Try.prog 12 #[.slice A n c, .int .i64 (i : Int)] w fun e w' => ∃ v, e = .returned (.tuple #[v, .int .i64 0]) ∧ w'.ownsRow w.heap.size 45 32 v (rootsN hs i).length (hcells (rootsN hs i)) ∧ Below w.heap.size w w' := by
  induction d with
  | zero => intro hs A n c w i h h1; omega
  | succ d ih =>
    intro hs A n c w i hd hi h hn
    have hlen := h.len
    have h32 := h.all
    have hroom := h.sl.room
    have hmx := h.sl.max
    unfold maxLen at hmx
    have h0' : decide ((i : Int) < 0) = false := by simp
    have h1' : decide ((n : Int) ≤ (i : Int)) = false := by simp; omega
    have h1'' : decide (n ≤ i) = false := by simp; omega
    have hrl : (rootsN hs i).length ≤ 63 := by rw [length_rootsN]; exact pathL_len 63 i 0 _ (by omega)
    have Hlen := Lib.hid hlen
    have H32h := Lib.hid h32
    clear hlen h32
    by_cases hn1 : n = 1
    · subst hn1
      rw [rootsN_small hs i (by rw [Hlen.out]; omega)]
      clear ih h
      go_enter Try.func12, Try.ntmps12
      go_wp2_with fail
      refine bodyPost_ret (results_tmp2 rfl _ _ _) rfl ⟨_, rfl, World.ownsRow_nil _ _ _ _, Below.refl _ _⟩
    have hne1 : ((n : Int) == 1) = false := by simp; omega
    have hspl := fun W => r11split_any (n : Int) W (by omega) (by omega)
    rw [Int.toNat_natCast] at hspl
    have hsl := splitN_lt n (by omega)
    have hsp := splitN_pos n (by omega)
    have hle := rootsN_left hs i (by rw [Hlen.out]; omega)
    have hri := rootsN_right hs i (by rw [Hlen.out]; omega)
    rw [Hlen.out] at hle hri
    obtain ⟨s, hs'⟩ : ∃ s, splitN n = s := ⟨_, rfl⟩
    rw [hs'] at hspl hsl hsp hle hri
    have Hspl := Lib.hid hspl
    clear hspl hs'
    have hT := fun W (hW : Below w.heap.size w W) => (((h.weak fun b hb _ => hb : Hs w (· < w.heap.size) A n c hs).step hW).take s (by omega)).weak (Y := fun _ => True) fun _ _ _ => trivial
    have hD := fun W (hW : Below w.heap.size w W) => (((h.weak fun b hb _ => hb : Hs w (· < w.heap.size) A n c hs).step hW).drop s (by omega)).weak (Y := fun _ => True) fun _ _ _ => trivial
    clear h
    obtain ⟨Ax, hAx⟩ : ∃ Ax, (if c = s then A else A.map (·.add (s * 32))) = Ax := ⟨_, rfl⟩
    rw [hAx] at hD
    have HAx := Lib.hid hAx
    clear hAx
    by_cases hlt : i < s
    · have hd2 : decide ((i : Int) < (s : Int)) = true := by simp; omega
      have hp := hle hlt
      rw [hp] at hrl ⊢
      have hic := ih (hs.take s) A s c w i (by omega) hlt (hT w (Below.refl _ _)) (by omega)
      have hro := fun W (hW : Below w.heap.size w W) => r11root_any (hs.drop s) _ (n - s) (c - s) W (hD W hW) (by omega)
      have hzl := length_rootL (hs.drop s) (H32h.out.drop s)
      obtain ⟨q, hq⟩ : ∃ q, rootsN (hs.take s) i = q := ⟨_, rfl⟩
      obtain ⟨z, hz⟩ : ∃ z, rootL (hs.drop s) = z := ⟨_, rfl⟩
      rw [hq] at hic hrl ⊢
      rw [hz] at hro hzl hrl ⊢
      rw [List.length_append] at hrl
      have Hic := Lib.hid hic
      have Hro := Lib.hid hro
      have Hzl := Lib.hid hzl
      clear hic hro hzl hq hz hT hD hle hri hp ih
      go_enter Try.func12, Try.ntmps12
      go_wp2_with (first
        | (go_at_call 39; refine (Hspl.out _).mono ?_; rintro e w1 ⟨rfl, rfl⟩)
        | ((with_reducible show wpList _ _ _ (⟨some 31, .slice _ _ _ _ _, _, _, _, _⟩ :: _) _ _); refine wpList_run0 rfl (.slice A s c) (run_slice_op_hi (.tmp 29) (.tmp 30) rfl A n c s rfl rfl (by omega) _) ?_; simp only [Act.put]))
      refine Hic.out.mono ?_
      rintro e w1 ⟨v, rfl, ho, hb1⟩
      go_wp2_with ((with_reducible show wpList _ _ _ (⟨some 39, .slice _ _ _ _ _, _, _, _, _⟩ :: _) _ _); refine wpList_run0 rfl (.slice Ax (n - s) (c - s)) (by rw [← HAx.out]; exact run_slice_op_lo (.tmp 37) (.tmp 38) rfl A n c s rfl rfl (by omega) _) ?_; simp only [Act.put])
      refine (Hro.out w1 hb1).mono ?_
      rintro e w2 ⟨rfl, hb2⟩
      have hb02 := hb1.trans (hb2.mono hb1.size)
      obtain ⟨v', W9, hr9, hv9, hg9, -⟩ := append_hR (owns_step ho hb2) z Hzl.out (by omega) hb02.size
      have hb9 := hb02.grown hg9 hb02.size (fun r e => (ho.lt r e).1)
      have Hr9 := Lib.hid hr9
      clear hr9 ho hb1 hb2
      go_wp2_with (first
        | ((with_reducible show wpList _ _ _ (⟨some 41, .buildSlice _ _ _, _, _, _, _⟩ :: _) _ _); refine wpList_run rfl _ _ (run_litH_op z Hzl.out (.tmp 40) rfl rfl _) ?_; simp only [Act.put])
        | ((with_reducible show wpList _ _ _ (⟨some 42, .call _, _, _, _, _⟩ :: _) _ _); refine wpList_run rfl _ W9 (run_append_op (.tmp 36) (.tmp 41) 22 rfl _ _ rfl rfl Hr9.out) ?_; simp only [Act.put]))
      refine bodyPost_ret (results_tmp2 rfl _ _ _) rfl ⟨_, rfl, hv9, hb9⟩
    · have hd2 : decide ((i : Int) < (s : Int)) = false := by simp; omega
      have hp := hri hlt
      rw [hp] at hrl ⊢
      have hic := ih (hs.drop s) _ (n - s) (c - s) w (i - s) (by omega) (by omega) (hD w (Below.refl _ _)) (by omega)
      rw [show ((i - s : Nat) : Int) = (i : Int) - (s : Int) by omega] at hic
      have hw1 : IntKind.i64.wrap ((i : Int) - (s : Int)) = (i : Int) - (s : Int) := IntWalk.i64_in _ (by omega)
      have hro := fun W (hW : Below w.heap.size w W) => r11root_any (hs.take s) A s c W (hT W hW) (by omega)
      have hzl := length_rootL (hs.take s) (H32h.out.take s)
      obtain ⟨q, hq⟩ : ∃ q, rootsN (hs.drop s) (i - s) = q := ⟨_, rfl⟩
      obtain ⟨z, hz⟩ : ∃ z, rootL (hs.take s) = z := ⟨_, rfl⟩
      rw [hq] at hic hrl ⊢
      rw [hz] at hro hzl hrl ⊢
      rw [List.length_append] at hrl
      have Hic := Lib.hid hic
      have Hro := Lib.hid hro
      have Hzl := Lib.hid hzl
      clear hic hro hzl hq hz hT hD hle hri hp ih
      go_enter Try.func12, Try.ntmps12
      go_wp2_with (first
        | (go_at_call 39; refine (Hspl.out _).mono ?_; rintro e w1 ⟨rfl, rfl⟩)
        | ((with_reducible show wpList _ _ _ (⟨some 46, .slice _ _ _ _ _, _, _, _, _⟩ :: _) _ _); refine wpList_run0 rfl (.slice Ax (n - s) (c - s)) (by rw [← HAx.out]; exact run_slice_op_lo (.tmp 44) (.tmp 45) rfl A n c s rfl rfl (by omega) _) ?_; simp only [Act.put]))
      refine Hic.out.mono ?_
      rintro e w1 ⟨v, rfl, ho, hb1⟩
      go_wp2_with ((with_reducible show wpList _ _ _ (⟨some 56, .slice _ _ _ _ _, _, _, _, _⟩ :: _) _ _); refine wpList_run0 rfl (.slice A s c) (run_slice_op_hi (.tmp 54) (.tmp 55) rfl A n c s rfl rfl (by omega) _) ?_; simp only [Act.put])
      refine (Hro.out w1 hb1).mono ?_
      rintro e w2 ⟨rfl, hb2⟩
      have hb02 := hb1.trans (hb2.mono hb1.size)
      obtain ⟨v', W9, hr9, hv9, hg9, -⟩ := append_hR (owns_step ho hb2) z Hzl.out (by omega) hb02.size
      have hb9 := hb02.grown hg9 hb02.size (fun r e => (ho.lt r e).1)
      have Hr9 := Lib.hid hr9
      clear hr9 ho hb1 hb2
      go_wp2_with (first
        | ((with_reducible show wpList _ _ _ (⟨some 58, .buildSlice _ _ _, _, _, _, _⟩ :: _) _ _); refine wpList_run rfl _ _ (run_litH_op z Hzl.out (.tmp 57) rfl rfl _) ?_; simp only [Act.put])
        | ((with_reducible show wpList _ _ _ (⟨some 59, .call _, _, _, _, _⟩ :: _) _ _); refine wpList_run rfl _ W9 (run_append_op (.tmp 53) (.tmp 58) 22 rfl _ _ rfl rfl Hr9.out) ?_; simp only [Act.put]))
      refine bodyPost_ret (results_tmp2 rfl _ _ _) rfl ⟨_, rfl, hv9, hb9⟩

set_option maxHeartbeats 1000000 in
set_option maxRecDepth 100000 in
theorem r11prove_any (hs : List (List UInt8)) (A : Option Addr) (n c : Nat) (w : World) (i : Int) (h : Hs w (fun _ => True) A n c hs) (hn : n ≤ 1099511627776) :
    Calls Try.prog 12 #[.slice A n c, .int .i64 i] w fun e w' => ∃ v, e = .returned (.tuple #[v, .int .i64 (pathA i hs.length).2]) ∧ w'.ownsRow w.heap.size 45 32 v (rootsP hs i).length (hcells (rootsP hs i)) ∧ Below w.heap.size w w' := by
  have hlen := h.len
  by_cases h0 : i < 0
  · have hpa : pathA i hs.length = ([], 4) := by unfold pathA; rw [if_pos (.inl h0)]
    have hr : rootsP hs i = [] := rootsP_bad hs i (by rw [hpa]; decide)
    rw [hpa, hr]
    dsimp only
    have h0' : decide (i < 0) = true := by simp; exact h0
    clear h hlen hpa hr
    go_enter Try.func12, Try.ntmps12
    go_wp2_with fail
    refine bodyPost_ret (results_tmp2 rfl _ _ _) rfl ⟨_, rfl, World.ownsRow_nil _ _ _ _, Below.refl _ _⟩
  by_cases h1 : (n : Int) ≤ i
  · have hpa : pathA i hs.length = ([], 4) := by unfold pathA; rw [if_pos (.inr (by omega))]
    have hr : rootsP hs i = [] := rootsP_bad hs i (by rw [hpa]; decide)
    rw [hpa, hr]
    dsimp only
    have h0' : decide (i < 0) = false := by simp; omega
    have h1' : decide ((n : Int) ≤ i) = true := by simp; omega
    clear h hlen hpa hr
    go_enter Try.func12, Try.ntmps12
    go_wp2_with fail
    refine bodyPost_ret (results_tmp2 rfl _ _ _) rfl ⟨_, rfl, World.ownsRow_nil _ _ _ _, Below.refl _ _⟩
  obtain ⟨e1, e2⟩ := rootsP_nat hs i (by omega) (by omega)
  rw [e1, e2]
  have := r11prove_rec n hs A n c w i.toNat (Nat.le_refl _) (by omega) h hn
  rwa [show ((i.toNat : Nat) : Int) = i by omega] at this
end Go.Proofs.Ytmglkblomklcbaa
