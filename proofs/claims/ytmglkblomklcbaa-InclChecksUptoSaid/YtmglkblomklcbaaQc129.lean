/- notaryref11.Split, Root, Len, Prove. -/
import Derived.Test.YtmglkblomklcbaaQc123
namespace Go.Proofs.Ytmglkblomklcbaa
open Go Go.RowKit

set_option maxHeartbeats 400000 in
theorem r11split_any (n : Int) (w : World) (h2 : 2 ≤ n) (hn : n ≤ 9223372036854775807) :
    Calls Try.prog 39 #[.int .i64 n] w fun e w' => e = .returned (.int .i64 (splitN n.toNat : Int)) ∧ w = w' := by
  obtain ⟨m, rfl⟩ : ∃ m : Nat, n = (m : Int) := ⟨n.toNat, by omega⟩
  rw [Int.toNat_natCast]
  obtain ⟨s, hs⟩ : ∃ s, splitN m = s := ⟨_, rfl⟩
  have hsl := splitN_lt m (by omega)
  have Hs := Lib.hid hs
  rw [hs] at hsl ⊢
  clear hs
  go_enter Try.func39, Try.ntmps39
  go_wp2_with fail
  go_loop [3] (fun v => ∃ j k : Nat, 1 ≤ k ∧ k < m ∧ k = 2 ^ j ∧ v = .int .i64 (k : Int)) (fun v => m - (intOf v).toNat)
  case atStart => exact ⟨0, 1, by omega, by omega, rfl, rfl⟩
  case round =>
    obtain ⟨j, k, hk1, hkm, hk, rfl⟩ := hrel
    by_cases hlt : k < m - k
    · have Hk := Lib.hid hk
      clear hk
      have hd : decide ((k : Int) < (m : Int) - (k : Int)) = true := by simp; omega
      go_wp2_with fail
      go_round
      case rel => exact ⟨j + 1, 2 * k, by omega, by omega, by rw [Nat.pow_succ, Hk.out]; omega, by go_num⟩
      case measure => simp [intOf]; omega
    · have hks : s = k := by rw [← Hs.out, splitN_eq m j (by omega) (by rw [Nat.pow_succ]; omega), hk]
      subst hks
      clear hk
      have hd : decide ((s : Int) < (m : Int) - (s : Int)) = false := by simp; omega
      go_wp2_with fail
      go_ret
      exact ⟨rfl, rfl⟩
theorem r08nil (w : World) : Calls Try.prog 54 #[.slice none 0 0] w fun e w' => e = .returned (.agg (hEmpty.map B).toArray) ∧ Below w.heap.size w w' :=
  hrof_any [] none 0 0 w Sl.nil (by decide)

set_option maxHeartbeats 2000000 in
set_option maxRecDepth 100000 in
theorem r11root_rec (d : Nat) : ∀ (hs : List (List UInt8)) (A : Option Addr) (n c : Nat) (w : World), n ≤ d → Hs w (fun _ => True) A n c hs → n ≤ 4398046511104 →
    Calls Try.prog 40 #[.slice A n c] w fun e w' => e = .returned (.agg ((rootL hs).map B).toArray) ∧ Below w.heap.size w w' := by
  induction d using Nat.strongRecOn with
  | ind d ih =>
  intro hs A n c w hnd h hn
  obtain ⟨zs, hzs⟩ : ∃ zs, zeroHash = zs := ⟨_, rfl⟩
  have hzl : zs.size = 32 := by rw [← hzs]; rfl
  have hlen := h.len
  have hroom := h.sl.room
  have hmax := h.sl.max
  unfold maxLen at hmax
  have hb0 := (Below.refl w.heap.size w).alloc (Nat.le_refl _) (.cells zs 45)
  have k0 := Blk.new w 45 zs
  have h0 := h.step hb0
  obtain ⟨r, hr⟩ : ∃ r, rootL hs = r := ⟨_, rfl⟩
  have hrl : r.length = 32 := by rw [← hr]; exact length_rootL hs h.all
  rw [hr]
  have Hzs := Lib.hid hzs
  have Hrl := Lib.hid hrl
  have Hr := Lib.hid hr
  have Hlen := Lib.hid hlen
  clear hzs hrl hr hlen
  by_cases hn0 : n = 0
  · subst hn0
    have hnil : hs = [] := List.eq_nil_of_length_eq_zero Hlen.out
    subst hnil
    obtain rfl : r = hEmpty := Hr.out.symm
    clear ih h h0
    go_enter Try.func40, Try.ntmps40
    go_wp2_with (first
      | ((with_reducible show wpList _ _ _ (⟨some 2, .alloc _, _, _, _, _⟩ :: _) _ _); refine wpList_run rfl (.pointer (some ⟨w.heap.size, 0, none⟩)) (w.alloc (.cells zs 45)) (by rw [← Hzs.out]; rfl) ?_; simp only [Act.put])
      | (go_at_call 54; refine (r08nil _).mono ?_; rintro e w1 ⟨rfl, hb1⟩; have k1 := k0.below hb1 (by simp); have B1 := hb0.trans (hb1.mono (by simp)))
      | ((with_reducible show wpList _ _ _ (⟨none, .store _ _ _, _, _, _, _⟩ :: _) _ _); refine wpList_store_blk rfl 45 (.tmp 2) (.tmp 9) rfl 32 size26 w.heap.size (hEmpty.map B).toArray rfl rfl (by simp [Hrl.out]) (oneCell_B _) 45 _ k1 hzl ?_; simp only [Act.put]))
    refine bodyPost_ret (results_cell_row rfl _ _ w.heap.size 45 (hEmpty.map B).toArray (0, 0) _ rfl (k1.setRow_ _) Try.underlying45 rfl (by rw [show (hEmpty.map B).toArray.size = 32 by simp [Hrl.out]]; exact info26)) rfl ⟨rfl, ?_⟩
    exact below_setRow B1 (Nat.le_refl _) _
  by_cases hn1 : n = 1
  · subst hn1
    obtain ⟨x, rfl⟩ := List.length_eq_one_iff.1 Hlen.out
    obtain rfl : r = x := Hr.out.symm
    obtain ⟨b, o, rfl, -, -, hat⟩ := h0.at_ (by omega)
    have hld : (Instr.loadAt 45 (.pointer (some ⟨b, o, none⟩))).run Try.prog (w.alloc (.cells zs 45)) = .ok (.agg (r.map B).toArray) (w.alloc (.cells zs 45)) := hat 0 (by omega)
    have Hld := Lib.hid hld
    clear ih h h0 hat hld
    go_enter Try.func40, Try.ntmps40
    go_wp2_with (first
      | ((with_reducible show wpList _ _ _ (⟨some 2, .alloc _, _, _, _, _⟩ :: _) _ _); refine wpList_run rfl (.pointer (some ⟨w.heap.size, 0, none⟩)) (w.alloc (.cells zs 45)) (by rw [← Hzs.out]; rfl) ?_; simp only [Act.put])
      | ((with_reducible show wpList _ _ _ (⟨some 14, .load _ _, _, _, _, _⟩ :: _) _ _); refine wpList_load rfl 45 (.tmp 13) rfl b o rfl (r.map B).toArray Hld.out ?_; simp only [Act.put])
      | ((with_reducible show wpList _ _ _ (⟨none, .store _ _ _, _, _, _, _⟩ :: _) _ _); refine wpList_store_blk rfl 45 (.tmp 2) (.tmp 14) rfl 32 size26 w.heap.size (r.map B).toArray rfl rfl (by simp [Hrl.out]) (oneCell_B _) 45 _ k0 hzl ?_; simp only [Act.put]))
    refine bodyPost_ret (results_cell_row rfl _ _ w.heap.size 45 (r.map B).toArray (0, 0) _ rfl (k0.setRow_ _) Try.underlying45 rfl (by rw [show (r.map B).toArray.size = 32 by simp [Hrl.out]]; exact info26)) rfl ⟨rfl, ?_⟩
    exact below_setRow hb0 (Nat.le_refl _) _
  have hne0 : ((n : Int) == 0) = false := by simp; omega
  have hne1 : ((n : Int) == 1) = false := by simp; omega
  have hmore := rootL_more hs (by rw [Hlen.out]; omega)
  rw [Hlen.out, Hr.out] at hmore
  have hspl := fun w => r11split_any (n : Int) w (by omega) (by omega)
  rw [Int.toNat_natCast] at hspl
  have hsl := splitN_lt n (by omega)
  have hsp := splitN_pos n (by omega)
  obtain ⟨s, hs'⟩ : ∃ s, splitN n = s := ⟨_, rfl⟩
  rw [hs'] at hmore hspl hsl hsp
  have hL := fun W (hW : Below (w.alloc (.cells zs 45)).heap.size (w.alloc (.cells zs 45)) W) => ih s (by omega) (hs.take s) A s c W (Nat.le_refl _) ((h0.step hW).take s (by omega)) (by omega)
  have hR := fun W (hW : Below (w.alloc (.cells zs 45)).heap.size (w.alloc (.cells zs 45)) W) => ih (n - s) (by omega) (hs.drop s) _ (n - s) (c - s) W (Nat.le_refl _) ((h0.step hW).drop s (by omega)) (by omega)
  obtain ⟨x, hx⟩ : ∃ x, rootL (hs.take s) = x := ⟨_, rfl⟩
  obtain ⟨y, hy⟩ : ∃ y, rootL (hs.drop s) = y := ⟨_, rfl⟩
  have hxl : x.length = 32 := by rw [← hx]; exact length_rootL _ (h.all.take s)
  have hyl : y.length = 32 := by rw [← hy]; exact length_rootL _ (h.all.drop s)
  rw [hx] at hL hmore
  rw [hy] at hR hmore
  have hN := fun W => hrnode_any x y W hxl hyl
  rw [← hmore] at hN
  have Hspl := Lib.hid hspl
  have HL := Lib.hid hL
  have HR := Lib.hid hR
  have HN := Lib.hid hN
  clear hspl hL hR hN hx hy hxl hyl hmore hs' ih h
  go_enter Try.func40, Try.ntmps40
  go_wp2_with (first
    | ((with_reducible show wpList _ _ _ (⟨some 2, .alloc _, _, _, _, _⟩ :: _) _ _); refine wpList_run rfl (.pointer (some ⟨w.heap.size, 0, none⟩)) (w.alloc (.cells zs 45)) (by rw [← Hzs.out]; rfl) ?_; simp only [Act.put])
    | (go_at_call 39; refine (Hspl.out _).mono ?_; rintro e w1 ⟨rfl, rfl⟩))
  generalize w.alloc (.cells zs 45) = w1 at hb0 k0 h0 HL HR ⊢
  have hS : Below w1.heap.size w1 w1.drew := (Below.refl _ _).drew
  refine wp_region_mix_last (fun W => Below w1.heap.size w1 W) 9 [(0, true), (1, true), (2, true), (4, true), (5, true), (6, true), (3, false), (7, false), (8, false)] (by kernel_rfl) (by kernel_rfl) hS fun _ => ?_
  simp only [List.map_cons, List.map_nil, Array.getD_eq_getD_getElem?, List.getElem?_toArray, List.getElem?_cons_succ, List.getElem?_cons_zero, Option.getD_some]
  generalize w1.drew = W0 at hS ⊢
  refine wpMix_s (fun K hK => ?_)
  go_simp
  refine hK _ ?_
  clear hK K
  refine wpMix_s (fun K hK => ?_)
  go_simp
  refine hK _ ?_
  clear hK K
  refine wpMix_v (by kernel_rfl) (.slice A s c) (fun u => run_slice_op_hi (.tmp 17) (.tmp 18) rfl A n c s rfl rfl (by omega) u.W) ?_
  simp only [Act.put]
  refine wpMix_s (fun K hK => ?_)
  go_simp
  refine hK _ ?_
  clear hK K
  refine wpMix_s (fun K hK => ?_)
  go_simp
  refine hK _ ?_
  clear hK K
  refine wpMix_v (by kernel_rfl) (.slice (if c = s then A else A.map (·.add (s * 32))) (n - s) (c - s)) (fun u => run_slice_op_lo (.tmp 21) (.tmp 22) rfl A n c s rfl rfl (by omega) u.W) ?_
  simp only [Act.put]
  refine wpMix_c (fun K hK => ?_) hS
  go_simp
  refine (HL.out W0 hS).mono ?_
  rintro e W1 ⟨rfl, hb'⟩
  refine hK _ _ ?_
  clear hK K
  replace hS := hS.trans (hb'.mono hS.size)
  refine ⟨hS, ?_⟩
  clear hb'
  refine wpMix_c (fun K hK => ?_) hS
  go_simp
  refine (HR.out W1 hS).mono ?_
  rintro e W2 ⟨rfl, hb'⟩
  refine hK _ _ ?_
  clear hK K
  replace hS := hS.trans (hb'.mono hS.size)
  refine ⟨hS, ?_⟩
  clear hb'
  refine wpMix_c (fun K hK => ?_) hS
  go_simp
  refine (HN.out W2).mono ?_
  rintro e W3 ⟨rfl, hb'⟩
  refine hK _ _ ?_
  clear hK K
  replace hS := hS.trans (hb'.mono hS.size)
  refine ⟨hS, ?_⟩
  clear hb'
  refine wpMix_nil ?_
  intro _
  simp only [List.drop_succ_cons, List.drop_zero]
  have k3 := k0.below hS k0.lt
  go_wp2_with ((with_reducible show wpList _ _ _ (⟨none, .store _ _ _, _, _, _, _⟩ :: _) _ _); refine wpList_store_blk rfl 45 (.tmp 2) (.tmp 25) rfl 32 size26 w.heap.size (r.map B).toArray rfl rfl (by simp [Hrl.out]) (oneCell_B _) 45 _ k3 hzl ?_; simp only [Act.put])
  refine np_normal ?_
  go_wp2_with fail
  refine bodyPost_ret (results_cell_row rfl _ _ w.heap.size 45 (r.map B).toArray (0, 0) _ rfl (k3.setRow_ _) Try.underlying45 rfl (by rw [show (r.map B).toArray.size = 32 by simp [Hrl.out]]; exact info26)) rfl ⟨rfl, ?_⟩
  exact below_setRow (hb0.trans (hS.mono hb0.size)) (Nat.le_refl _) _
theorem r11root_any (hs : List (List UInt8)) (A : Option Addr) (n c : Nat) (w : World) (h : Hs w (fun _ => True) A n c hs) (hn : n ≤ 4398046511104) :
    Calls Try.prog 40 #[.slice A n c] w fun e w' => e = .returned (.agg ((rootL hs).map B).toArray) ∧ Below w.heap.size w w' := r11root_rec n hs A n c w (Nat.le_refl _) h hn

/-- a path, further on -/
theorem pathL_shift (k d : Nat) : ∀ (i a b : Nat), b - a ≤ d → pathL (i + k) (a + k) (b + k) = (pathL i a b).map fun x => (x.1 + k, x.2 + k) := by
  induction d with
  | zero => intro i a b h; rw [pathL_small _ _ _ (by omega), pathL_small _ _ _ (by omega)]; rfl
  | succ d ih =>
    intro i a b h
    by_cases h2 : b - a < 2
    · rw [pathL_small _ _ _ (by omega), pathL_small _ _ _ h2]; rfl
    · have hl := splitN_lt (b - a) (by omega)
      have hp := splitN_pos (b - a) (by omega)
      have e : b + k - (a + k) = b - a := by omega
      by_cases hi : i < a + splitN (b - a)
      · rw [pathL_left (i + k) (a + k) (b + k) (by omega) (by rw [e]; omega), pathL_left i a b (by omega) hi, e, show a + k + splitN (b - a) = a + splitN (b - a) + k by omega, ih i a (a + splitN (b - a)) (by omega)]
        simp
      · rw [pathL_right (i + k) (a + k) (b + k) (by omega) (by rw [e]; omega), pathL_right i a b (by omega) hi, e, show a + k + splitN (b - a) = a + splitN (b - a) + k by omega, ih i (a + splitN (b - a)) b (by omega)]
        simp
theorem stretchL_take (hs : List (List UInt8)) (k a b : Nat) (h : b ≤ k) : stretchL (hs.take k) a b = stretchL hs a b := by
  unfold stretchL
  rw [List.drop_take, List.take_take, Nat.min_eq_left (by omega)]
theorem stretchL_drop (hs : List (List UInt8)) (k a b : Nat) : stretchL (hs.drop k) a b = stretchL hs (a + k) (b + k) := by
  unfold stretchL
  rw [List.drop_drop, show b + k - (a + k) = b - a by omega, show k + a = a + k by omega]
/-- the proof of an entry that is there -/
def rootsN (hs : List (List UInt8)) (i : Nat) : List (List UInt8) := rootsL hs (pathL i 0 hs.length)
theorem rootsN_left (hs : List (List UInt8)) (i : Nat) (h2 : 2 ≤ hs.length) (hi : i < splitN hs.length) : rootsN hs i = rootsN (hs.take (splitN hs.length)) i ++ [rootL (hs.drop (splitN hs.length))] := by
  have hl := splitN_lt hs.length h2
  have hok := pathL_ok (splitN hs.length) i 0 (splitN hs.length) (by omega) (by omega) hi
  unfold rootsN
  rw [pathL_left i 0 hs.length (by omega) (by simpa using hi), List.length_take, Nat.min_eq_left (by omega), Nat.sub_zero, Nat.zero_add]
  unfold rootsL
  rw [List.map_append]
  congr 1
  · refine List.map_congr_left fun x hx => ?_
    exact (stretchL_take hs _ _ _ (hok.each x hx).2.2.1).symm
  · simp only [List.map_cons, List.map_nil]
    unfold stretchL
    rw [List.take_of_length_le (by rw [List.length_drop]; exact Nat.le_refl _)]
theorem rootsN_right (hs : List (List UInt8)) (i : Nat) (h2 : 2 ≤ hs.length) (hi : ¬ i < splitN hs.length) : rootsN hs i = rootsN (hs.drop (splitN hs.length)) (i - splitN hs.length) ++ [rootL (hs.take (splitN hs.length))] := by
  have hl := splitN_lt hs.length h2
  unfold rootsN
  rw [pathL_right i 0 hs.length (by omega) (by simpa using hi), List.length_drop, Nat.sub_zero, Nat.zero_add]
  have hsh := pathL_shift (splitN hs.length) (hs.length - splitN hs.length) (i - splitN hs.length) 0 (hs.length - splitN hs.length) (by omega)
  rw [show i - splitN hs.length + splitN hs.length = i by omega, Nat.zero_add, show hs.length - splitN hs.length + splitN hs.length = hs.length by omega] at hsh
  rw [hsh]
  unfold rootsL
  rw [List.map_append, List.map_map]
  congr 1
  · refine List.map_congr_left fun x hx => ?_
    exact (stretchL_drop hs _ _ _).symm
theorem rootsN_small (hs : List (List UInt8)) (i : Nat) (h : hs.length < 2) : rootsN hs i = [] := by
  unfold rootsN
  rw [pathL_small _ _ _ (by omega)]; rfl
theorem rootsN_all (hs : List (List UInt8)) (h : H32 hs) (i : Nat) : H32 (rootsN hs i) := rootsL_all hs h _
theorem length_rootsN (hs : List (List UInt8)) (i : Nat) : (rootsN hs i).length = (pathL i 0 hs.length).length := by simp [rootsN, rootsL]
theorem rootsP_nat (hs : List (List UInt8)) (i : Int) (h0 : 0 ≤ i) (h1 : i < hs.length) : rootsP hs i = rootsN hs i.toNat ∧ (pathA i hs.length).2 = 0 := by
  unfold rootsP rootsN pathA
  rw [if_neg (by omega)]
  exact ⟨by rw [Int.toNat_natCast], rfl⟩
end Go.Proofs.Ytmglkblomklcbaa
/- notaryref11.Len, Prove. -/
namespace Go.Proofs.Ytmglkblomklcbaa
open Go Go.RowKit

theorem length_pathL_left (i n : Nat) (h2 : 2 ≤ n) (hi : i < splitN n) : (pathL i 0 n).length = (pathL i 0 (splitN n)).length + 1 := by
  rw [pathL_left i 0 n (by omega) (by simpa using hi), List.length_append, Nat.zero_add, Nat.sub_zero]; rfl
theorem length_pathL_right (i n : Nat) (h2 : 2 ≤ n) (hi : ¬ i < splitN n) : (pathL i 0 n).length = (pathL (i - splitN n) 0 (n - splitN n)).length + 1 := by
  have hl := splitN_lt n h2
  have hsh := pathL_shift (splitN n) (n - splitN n) (i - splitN n) 0 (n - splitN n) (by omega)
  rw [show i - splitN n + splitN n = i by omega, Nat.zero_add, show n - splitN n + splitN n = n by omega] at hsh
  rw [pathL_right i 0 n (by omega) (by simpa using hi), List.length_append, Nat.zero_add, Nat.sub_zero, hsh, List.length_map]; rfl

set_option maxHeartbeats 1000000 in
set_option maxRecDepth 100000 in
theorem r11len_any (i n : Int) (w : World) (hn : n ≤ 9223372036854775807) :
    Calls Try.prog 14 #[.int .i64 i, .int .i64 n] w fun e w' => e = .returned (.tuple #[.int .i64 ((pathA i n).1.length : Int), .int .i64 (pathA i n).2]) ∧ w = w' := by
  unfold pathA
  by_cases h0 : i < 0
  · rw [if_pos (.inl h0)]
    have h0' : decide (i < 0) = true := by simp; exact h0
    go_enter Try.func14, Try.ntmps14
    go_wp2_with fail
    go_ret2
    exact ⟨rfl, rfl⟩
  by_cases h1 : n ≤ i
  · rw [if_pos (.inr h1)]
    have h0' : decide (i < 0) = false := by simp; omega
    have h1' : decide (n ≤ i) = true := by simp; omega
    go_enter Try.func14, Try.ntmps14
    go_wp2_with fail
    go_ret2
    exact ⟨rfl, rfl⟩
  rw [if_neg (by omega)]
  dsimp only
  obtain ⟨i, rfl⟩ : ∃ k : Nat, i = (k : Int) := ⟨i.toNat, by omega⟩
  obtain ⟨n, rfl⟩ : ∃ k : Nat, n = (k : Int) := ⟨n.toNat, by omega⟩
  rw [Int.toNat_natCast, Int.toNat_natCast]
  have hpl := pathL_len 63 i 0 n (by omega)
  obtain ⟨t, ht⟩ : ∃ t, (pathL i 0 n).length = t := ⟨_, rfl⟩
  rw [ht] at hpl ⊢
  have Ht := Lib.hid ht
  have h0' : decide ((i : Int) < 0) = false := by simp
  have h1' : decide ((n : Int) ≤ (i : Int)) = false := by simp; omega
  have h1'' : decide (n ≤ i) = false := by simp; omega
  clear ht
  go_enter Try.func14, Try.ntmps14
  go_wp2_with fail
  go_loop [0, 1, 6] (fun a b c => ∃ i' n' m : Nat, i' < n' ∧ n' ≤ 9223372036854775807 ∧ a = .int .i64 (i' : Int) ∧ b = .int .i64 (n' : Int) ∧ c = .int .i64 (m : Int) ∧ m + (pathL i' 0 n').length = t) (fun _ b _ => (intOf b).toNat)
  case atStart => exact ⟨i, n, 0, by omega, by omega, rfl, rfl, rfl, by rw [Nat.zero_add]; exact Ht.out⟩
  case round =>
    obtain ⟨i', n', m, hin, hn', rfl, rfl, rfl, hm⟩ := hrel
    have Hm := Lib.hid hm
    have hmt : m ≤ t := by omega
    clear hm
    by_cases h2 : n' < 2
    · have hd : decide ((1 : Int) < (n' : Int)) = false := by simp; omega
      have hmt' : m = t := by have := Hm.out; rw [pathL_small _ _ _ (by omega)] at this; simpa using this
      subst hmt'
      go_wp2_with fail
      go_ret2
      exact ⟨rfl, rfl⟩
    · have hd : decide ((1 : Int) < (n' : Int)) = true := by simp; omega
      have hspl := fun W => r11split_any (n' : Int) W (by omega) (by omega)
      rw [Int.toNat_natCast] at hspl
      have hsl := splitN_lt n' (by omega)
      have hsp := splitN_pos n' (by omega)
      have hle := length_pathL_left i' n' (by omega)
      have hri := length_pathL_right i' n' (by omega)
      obtain ⟨s, hs⟩ : ∃ s, splitN n' = s := ⟨_, rfl⟩
      rw [hs] at hspl hsl hsp hle hri
      have Hspl := Lib.hid hspl
      clear hspl hs
      by_cases hi : i' < s
      · have hd2 : decide ((i' : Int) < (s : Int)) = true := by simp; omega
        have hle := hle hi
        have Hle := Lib.hid hle
        have hmt2 : m + 1 ≤ t := by have := Hm.out; omega
        have hw : IntKind.i64.wrap ((m : Int) + 1) = ((m + 1 : Nat) : Int) := by rw [IntWalk.i64_in _ (by omega)]; omega
        clear hle hri
        go_wp2_with (go_at_call 39; refine (Hspl.out _).mono ?_; rintro e w1 ⟨rfl, rfl⟩)
        go_round
        case rel => exact ⟨i', s, m + 1, hi, by omega, rfl, rfl, by go_num, by have := Hm.out; have := Hle.out; omega⟩
        case measure => simp [intOf]; omega
      · have hd2 : decide ((i' : Int) < (s : Int)) = false := by simp; omega
        have hri := hri hi
        have Hri := Lib.hid hri
        have hmt2 : m + 1 ≤ t := by have := Hm.out; omega
        have hw : IntKind.i64.wrap ((m : Int) + 1) = ((m + 1 : Nat) : Int) := by rw [IntWalk.i64_in _ (by omega)]; omega
        have hw1 : IntKind.i64.wrap ((i' : Int) - (s : Int)) = ((i' - s : Nat) : Int) := by rw [IntWalk.i64_in _ (by omega)]; omega
        have hw2 : IntKind.i64.wrap ((n' : Int) - (s : Int)) = ((n' - s : Nat) : Int) := by rw [IntWalk.i64_in _ (by omega)]; omega
        clear hle hri
        go_wp2_with (go_at_call 39; refine (Hspl.out _).mono ?_; rintro e w1 ⟨rfl, rfl⟩)
        go_round
        case rel => exact ⟨i' - s, n' - s, m + 1, by omega, by omega, by go_num, by go_num, by go_num, by have := Hm.out; have := Hri.out; omega⟩
        case measure => simp [intOf]; omega

set_option maxHeartbeats 4000000 in
set_option maxRecDepth 100000 in
theorem r11prove_rec (d : Nat) : ∀ (hs : List (List UInt8)) (A : Option Addr) (n c : Nat) (w : World) (i : Nat), n ≤ d → i < n → Hs w (fun _ => True) A n c hs → n ≤ 1099511627776 →
    Calls Try.prog 12 #[.slice A n c, .int .i64 (i : Int)] w fun e w' => ∃ v, e = .returned (.tuple #[v, .int .i64 0]) ∧ w'.ownsRow w.heap.size 45 32 v (rootsN hs i).length (hcells (rootsN hs i)) ∧ Below w.heap.size w w' := by
  induction d with
  | zero => intro hs A n c w i h h1; omega
  | succ d ih =>
    intro hs A n c w i hd hi h hn
    have hlen := h.len
    have h32 := h.all
    have hroom := h.sl.room
    have hmx := h.sl.max
    unfold maxLen at hmx
    have h0' : decide ((i : Int) < 0) = false := by simp
    have h1' : decide ((n : Int) ≤ (i : Int)) = false := by simp; omega
    have h1'' : decide (n ≤ i) = false := by simp; omega
    have hrl : (rootsN hs i).length ≤ 63 := by rw [length_rootsN]; exact pathL_len 63 i 0 _ (by omega)
    have Hlen := Lib.hid hlen
    have H32h := Lib.hid h32
    clear hlen h32
    by_cases hn1 : n = 1
    · subst hn1
      rw [rootsN_small hs i (by rw [Hlen.out]; omega)]
      clear ih h
      go_enter Try.func12, Try.ntmps12
      go_wp2_with fail
      refine bodyPost_ret (results_tmp2 rfl _ _ _) rfl ⟨_, rfl, World.ownsRow_nil _ _ _ _, Below.refl _ _⟩
    have hne1 : ((n : Int) == 1) = false := by simp; omega
    have hspl := fun W => r11split_any (n : Int) W (by omega) (by omega)
    rw [Int.toNat_natCast] at hspl
    have hsl := splitN_lt n (by omega)
    have hsp := splitN_pos n (by omega)
    have hle := rootsN_left hs i (by rw [Hlen.out]; omega)
    have hri := rootsN_right hs i (by rw [Hlen.out]; omega)
    rw [Hlen.out] at hle hri
    obtain ⟨s, hs'⟩ : ∃ s, splitN n = s := ⟨_, rfl⟩
    rw [hs'] at hspl hsl hsp hle hri
    have Hspl := Lib.hid hspl
    clear hspl hs'
    have hT := fun W (hW : Below w.heap.size w W) => (((h.weak fun b hb _ => hb : Hs w (· < w.heap.size) A n c hs).step hW).take s (by omega)).weak (Y := fun _ => True) fun _ _ _ => trivial
    have hD := fun W (hW : Below w.heap.size w W) => (((h.weak fun b hb _ => hb : Hs w (· < w.heap.size) A n c hs).step hW).drop s (by omega)).weak (Y := fun _ => True) fun _ _ _ => trivial
    clear h
    obtain ⟨Ax, hAx⟩ : ∃ Ax, (if c = s then A else A.map (·.add (s * 32))) = Ax := ⟨_, rfl⟩
    rw [hAx] at hD
    have HAx := Lib.hid hAx
    clear hAx
    by_cases hlt : i < s
    · have hd2 : decide ((i : Int) < (s : Int)) = true := by simp; omega
      have hp := hle hlt
      rw [hp] at hrl ⊢
      have hic := ih (hs.take s) A s c w i (by omega) hlt (hT w (Below.refl _ _)) (by omega)
      have hro := fun W (hW : Below w.heap.size w W) => r11root_any (hs.drop s) _ (n - s) (c - s) W (hD W hW) (by omega)
      have hzl := length_rootL (hs.drop s) (H32h.out.drop s)
      obtain ⟨q, hq⟩ : ∃ q, rootsN (hs.take s) i = q := ⟨_, rfl⟩
      obtain ⟨z, hz⟩ : ∃ z, rootL (hs.drop s) = z := ⟨_, rfl⟩
      rw [hq] at hic hrl ⊢
      rw [hz] at hro hzl hrl ⊢
      rw [List.length_append] at hrl
      have Hic := Lib.hid hic
      have Hro := Lib.hid hro
      have Hzl := Lib.hid hzl
      clear hic hro hzl hq hz hT hD hle hri hp ih
      go_enter Try.func12, Try.ntmps12
      go_wp2_with (first
        | (go_at_call 39; refine (Hspl.out _).mono ?_; rintro e w1 ⟨rfl, rfl⟩)
        | ((with_reducible show wpList _ _ _ (⟨some 31, .slice _ _ _ _ _, _, _, _, _⟩ :: _) _ _); refine wpList_run0 rfl (.slice A s c) (run_slice_op_hi (.tmp 29) (.tmp 30) rfl A n c s rfl rfl (by omega) _) ?_; simp only [Act.put]))
      refine Hic.out.mono ?_
      rintro e w1 ⟨v, rfl, ho, hb1⟩
      go_wp2_with ((with_reducible show wpList _ _ _ (⟨some 39, .slice _ _ _ _ _, _, _, _, _⟩ :: _) _ _); refine wpList_run0 rfl (.slice Ax (n - s) (c - s)) (by rw [← HAx.out]; exact run_slice_op_lo (.tmp 37) (.tmp 38) rfl A n c s rfl rfl (by omega) _) ?_; simp only [Act.put])
      refine (Hro.out w1 hb1).mono ?_
      rintro e w2 ⟨rfl, hb2⟩
      have hb02 := hb1.trans (hb2.mono hb1.size)
      obtain ⟨v', W9, hr9, hv9, hg9, -⟩ := append_hR (owns_step ho hb2) z Hzl.out (by omega) hb02.size
      have hb9 := hb02.grown hg9 hb02.size (fun r e => (ho.lt r e).1)
      have Hr9 := Lib.hid hr9
      clear hr9 ho hb1 hb2
      go_wp2_with (first
        | ((with_reducible show wpList _ _ _ (⟨some 41, .buildSlice _ _ _, _, _, _, _⟩ :: _) _ _); refine wpList_run rfl _ _ (run_litH_op z Hzl.out (.tmp 40) rfl rfl _) ?_; simp only [Act.put])
        | ((with_reducible show wpList _ _ _ (⟨some 42, .call _, _, _, _, _⟩ :: _) _ _); refine wpList_run rfl _ W9 (run_append_op (.tmp 36) (.tmp 41) 22 rfl _ _ rfl rfl Hr9.out) ?_; simp only [Act.put]))
      refine bodyPost_ret (results_tmp2 rfl _ _ _) rfl ⟨_, rfl, hv9, hb9⟩
    · have hd2 : decide ((i : Int) < (s : Int)) = false := by simp; omega
      have hp := hri hlt
      rw [hp] at hrl ⊢
      have hic := ih (hs.drop s) _ (n - s) (c - s) w (i - s) (by omega) (by omega) (hD w (Below.refl _ _)) (by omega)
      rw [show ((i - s : Nat) : Int) = (i : Int) - (s : Int) by omega] at hic
      have hw1 : IntKind.i64.wrap ((i : Int) - (s : Int)) = (i : Int) - (s : Int) := IntWalk.i64_in _ (by omega)
      have hro := fun W (hW : Below w.heap.size w W) => r11root_any (hs.take s) A s c W (hT W hW) (by omega)
      have hzl := length_rootL (hs.take s) (H32h.out.take s)
      obtain ⟨q, hq⟩ : ∃ q, rootsN (hs.drop s) (i - s) = q := ⟨_, rfl⟩
      obtain ⟨z, hz⟩ : ∃ z, rootL (hs.take s) = z := ⟨_, rfl⟩
      rw [hq] at hic hrl ⊢
      rw [hz] at hro hzl hrl ⊢
      rw [List.length_append] at hrl
      have Hic := Lib.hid hic
      have Hro := Lib.hid hro
      have Hzl := Lib.hid hzl
      clear hic hro hzl hq hz hT hD hle hri hp ih
      go_enter Try.func12, Try.ntmps12
      go_wp2_with (first
        | (go_at_call 39; refine (Hspl.out _).mono ?_; rintro e w1 ⟨rfl, rfl⟩)
        | ((with_reducible show wpList _ _ _ (⟨some 46, .slice _ _ _ _ _, _, _, _, _⟩ :: _) _ _); refine wpList_run0 rfl (.slice Ax (n - s) (c - s)) (by rw [← HAx.out]; exact run_slice_op_lo (.tmp 44) (.tmp 45) rfl A n c s rfl rfl (by omega) _) ?_; simp only [Act.put]))
      refine Hic.out.mono ?_
      rintro e w1 ⟨v, rfl, ho, hb1⟩
      go_wp2_with ((with_reducible show wpList _ _ _ (⟨some 56, .slice _ _ _ _ _, _, _, _, _⟩ :: _) _ _); refine wpList_run0 rfl (.slice A s c) (run_slice_op_hi (.tmp 54) (.tmp 55) rfl A n c s rfl rfl (by omega) _) ?_; simp only [Act.put])
      refine (Hro.out w1 hb1).mono ?_
      rintro e w2 ⟨rfl, hb2⟩
      have hb02 := hb1.trans (hb2.mono hb1.size)
      obtain ⟨v', W9, hr9, hv9, hg9, -⟩ := append_hR (owns_step ho hb2) z Hzl.out (by omega) hb02.size
      have hb9 := hb02.grown hg9 hb02.size (fun r e => (ho.lt r e).1)
      have Hr9 := Lib.hid hr9
      clear hr9 ho hb1 hb2
      go_wp2_with (first
        | ((with_reducible show wpList _ _ _ (⟨some 58, .buildSlice _ _ _, _, _, _, _⟩ :: _) _ _); refine wpList_run rfl _ _ (run_litH_op z Hzl.out (.tmp 57) rfl rfl _) ?_; simp only [Act.put])
        | ((with_reducible show wpList _ _ _ (⟨some 59, .call _, _, _, _, _⟩ :: _) _ _); refine wpList_run rfl _ W9 (run_append_op (.tmp 53) (.tmp 58) 22 rfl _ _ rfl rfl Hr9.out) ?_; simp only [Act.put]))
      refine bodyPost_ret (results_tmp2 rfl _ _ _) rfl ⟨_, rfl, hv9, hb9⟩

set_option maxHeartbeats 1000000 in
set_option maxRecDepth 100000 in
theorem r11prove_any (hs : List (List UInt8)) (A : Option Addr) (n c : Nat) (w : World) (i : Int) (h : Hs w (fun _ => True) A n c hs) (hn : n ≤ 1099511627776) :
    Calls Try.prog 12 #[.slice A n c, .int .i64 i] w fun e w' => ∃ v, e = .returned (.tuple #[v, .int .i64 (pathA i hs.length).2]) ∧ w'.ownsRow w.heap.size 45 32 v (rootsP hs i).length (hcells (rootsP hs i)) ∧ Below w.heap.size w w' := by
  have hlen := h.len
  by_cases h0 : i < 0
  · have hpa : pathA i hs.length = ([], 4) := by unfold pathA; rw [if_pos (.inl h0)]
    have hr : rootsP hs i = [] := rootsP_bad hs i (by rw [hpa]; decide)
    rw [hpa, hr]
    dsimp only
    have h0' : decide (i < 0) = true := by simp; exact h0
    clear h hlen hpa hr
    go_enter Try.func12, Try.ntmps12
    go_wp2_with fail
    refine bodyPost_ret (results_tmp2 rfl _ _ _) rfl ⟨_, rfl, World.ownsRow_nil _ _ _ _, Below.refl _ _⟩
  by_cases h1 : (n : Int) ≤ i
  · have hpa : pathA i hs.length = ([], 4) := by unfold pathA; rw [if_pos (.inr (by omega))]
    have hr : rootsP hs i = [] := rootsP_bad hs i (by rw [hpa]; decide)
    rw [hpa, hr]
    dsimp only
    have h0' : decide (i < 0) = false := by simp; omega
    have h1' : decide ((n : Int) ≤ i) = true := by simp; omega
    clear h hlen hpa hr
    go_enter Try.func12, Try.ntmps12
    go_wp2_with fail
    refine bodyPost_ret (results_tmp2 rfl _ _ _) rfl ⟨_, rfl, World.ownsRow_nil _ _ _ _, Below.refl _ _⟩
  obtain ⟨e1, e2⟩ := rootsP_nat hs i (by omega) (by omega)
  rw [e1, e2]
  have := r11prove_rec n hs A n c w i.toNat (Nat.le_refl _) (by omega) h hn
  rwa [show ((i.toNat : Nat) : Int) = i by omega] at this
end Go.Proofs.Ytmglkblomklcbaa
