/- notaryref11.Split, Root, Len, Prove. -/
import Derived.Test.YtfhmjgkcpcnkbaaDoorQf129
import Derived.Test.YtfhmjgkcpcnkbaaDoorQf125
import Derived.Test.YtfhmjgkcpcnkbaaDoorQf124
namespace Go.Proofs.YtfhmjgkcpcnkbaaDoor
open Go Go.RowKit

set_option maxHeartbeats 400000 in
theorem r11split_any (n : Int) (w : World) (h2 : 2 ≤ n) (hn : n ≤ 9223372036854775807) :
    Calls Tryd.prog 44 #[.int .i64 n] w fun e w' => e = .returned (.int .i64 (splitN n.toNat : Int)) ∧ w = w' := by
  obtain ⟨m, rfl⟩ : ∃ m : Nat, n = (m : Int) := ⟨n.toNat, by omega⟩
  rw [Int.toNat_natCast]
  obtain ⟨s, hs⟩ : ∃ s, splitN m = s := ⟨_, rfl⟩
  have hsl := splitN_lt m (by omega)
  have Hs := Lib.hid hs
  rw [hs] at hsl ⊢
  clear hs
  go_enter Tryd.func44, Tryd.ntmps44
  go_wp2_with fail
  go_loop [3] (fun v => ∃ j k : Nat, 1 ≤ k ∧ k < m ∧ k = 2 ^ j ∧ v = .int .i64 (k : Int)) (fun v => m - (intOf v).toNat)
  case atStart => exact ⟨0, 1, by omega, by omega, rfl, rfl⟩
  case round =>
    obtain ⟨j, k, hk1, hkm, hk, rfl⟩ := hrel
    by_cases hlt : k < m - k
    · have Hk := Lib.hid hk
      clear hk
      have hd : decide ((k : Int) < (m : Int) - (k : Int)) = true := by simp; omega
      go_wp2_with fail
      go_round
      case rel => exact ⟨j + 1, 2 * k, by omega, by omega, by rw [Nat.pow_succ, Hk.out]; omega, by go_num⟩
      case measure => simp [intOf]; omega
    · have hks : s = k := by rw [← Hs.out, splitN_eq m j (by omega) (by rw [Nat.pow_succ]; omega), hk]
      subst hks
      clear hk
      have hd : decide ((s : Int) < (m : Int) - (s : Int)) = false := by simp; omega
      go_wp2_with fail
      go_ret
      exact ⟨rfl, rfl⟩
theorem r08nil (w : World) : Calls Tryd.prog 43 #[.slice none 0 0] w fun e w' => e = .returned (.agg (hEmpty.map B).toArray) ∧ Below w.heap.size w w' :=
  hrof_any [] none 0 0 w Sl.nil (by decide)

set_option maxHeartbeats 2000000 in
set_option maxRecDepth 100000 in
theorem r11root_rec (d : Nat) : ∀ (hs : List (List UInt8)) (A : Option Addr) (n c : Nat) (w : World), n ≤ d → Hs w (fun _ => True) A n c hs → n ≤ 4398046511104 →
    Calls Tryd.prog 19 #[.slice A n c] w fun e w' => e = .returned (.agg ((rootL hs).map B).toArray) ∧ Below w.heap.size w w' := by
  induction d using Nat.strongRecOn with
  | ind d ih =>
  intro hs A n c w hnd h hn
  obtain ⟨zs, hzs⟩ : ∃ zs, zeroHash = zs := ⟨_, rfl⟩
  have hzl : zs.size = 32 := by rw [← hzs]; rfl
  have hlen := h.len
  have hroom := h.sl.room
  have hmax := h.sl.max
  unfold maxLen at hmax
  have hb0 := (Below.refl w.heap.size w).alloc (Nat.le_refl _) (.cells zs 48)
  have k0 := Blk.new w 48 zs
  have h0 := h.step hb0
  obtain ⟨r, hr⟩ : ∃ r, rootL hs = r := ⟨_, rfl⟩
  have hrl : r.length = 32 := by rw [← hr]; exact length_rootL hs h.all
  rw [hr]
  have Hzs := Lib.hid hzs
  have Hrl := Lib.hid hrl
  have Hr := Lib.hid hr
  have Hlen := Lib.hid hlen
  clear hzs hrl hr hlen
  by_cases hn0 : n = 0
  · subst hn0
    have hnil : hs = [] := List.eq_nil_of_length_eq_zero Hlen.out
    subst hnil
    obtain rfl : r = hEmpty := Hr.out.symm
    clear ih h h0
    go_enter Tryd.func19, Tryd.ntmps19
    go_wp2_with (first
      | ((with_reducible show wpList _ _ _ (⟨some 2, .alloc _, _, _, _, _⟩ :: _) _ _); refine wpList_run rfl (.pointer (some ⟨w.heap.size, 0, none⟩)) (w.alloc (.cells zs 48)) (by rw [← Hzs.out]; rfl) ?_; simp only [Act.put])
      | (go_at_call 43; refine (r08nil _).mono ?_; rintro e w1 ⟨rfl, hb1⟩; have k1 := k0.below hb1 (by simp); have B1 := hb0.trans (hb1.mono (by simp)))
      | ((with_reducible show wpList _ _ _ (⟨none, .store _ _ _, _, _, _, _⟩ :: _) _ _); refine wpList_store_blk rfl 48 (.tmp 2) (.tmp 9) rfl 32 size26 w.heap.size (hEmpty.map B).toArray rfl rfl (by simp [Hrl.out]) (oneCell_B _) 48 _ k1 hzl ?_; simp only [Act.put]))
    refine bodyPost_ret (results_cell_row rfl _ _ w.heap.size 48 (hEmpty.map B).toArray (0, 0) _ rfl (k1.setRow_ _) Tryd.underlying48 rfl (by rw [show (hEmpty.map B).toArray.size = 32 by simp [Hrl.out]]; exact info26)) rfl ⟨rfl, ?_⟩
    exact below_setRow B1 (Nat.le_refl _) _
  by_cases hn1 : n = 1
  · subst hn1
    obtain ⟨x, rfl⟩ := List.length_eq_one_iff.1 Hlen.out
    obtain rfl : r = x := Hr.out.symm
    obtain ⟨b, o, rfl, -, -, hat⟩ := h0.at_ (by omega)
    have hld : (Instr.loadAt 48 (.pointer (some ⟨b, o, none⟩))).run Tryd.prog (w.alloc (.cells zs 48)) = .ok (.agg (r.map B).toArray) (w.alloc (.cells zs 48)) := hat 0 (by omega)
    have Hld := Lib.hid hld
    clear ih h h0 hat hld
    go_enter Tryd.func19, Tryd.ntmps19
    go_wp2_with (first
      | ((with_reducible show wpList _ _ _ (⟨some 2, .alloc _, _, _, _, _⟩ :: _) _ _); refine wpList_run rfl (.pointer (some ⟨w.heap.size, 0, none⟩)) (w.alloc (.cells zs 48)) (by rw [← Hzs.out]; rfl) ?_; simp only [Act.put])
      | ((with_reducible show wpList _ _ _ (⟨some 14, .load _ _, _, _, _, _⟩ :: _) _ _); refine wpList_load rfl 48 (.tmp 13) rfl b o rfl (r.map B).toArray Hld.out ?_; simp only [Act.put])
      | ((with_reducible show wpList _ _ _ (⟨none, .store _ _ _, _, _, _, _⟩ :: _) _ _); refine wpList_store_blk rfl 48 (.tmp 2) (.tmp 14) rfl 32 size26 w.heap.size (r.map B).toArray rfl rfl (by simp [Hrl.out]) (oneCell_B _) 48 _ k0 hzl ?_; simp only [Act.put]))
    refine bodyPost_ret (results_cell_row rfl _ _ w.heap.size 48 (r.map B).toArray (0, 0) _ rfl (k0.setRow_ _) Tryd.underlying48 rfl (by rw [show (r.map B).toArray.size = 32 by simp [Hrl.out]]; exact info26)) rfl ⟨rfl, ?_⟩
    exact below_setRow hb0 (Nat.le_refl _) _
  have hne0 : ((n : Int) == 0) = false := by simp; omega
  have hne1 : ((n : Int) == 1) = false := by simp; omega
  have hmore := rootL_more hs (by rw [Hlen.out]; omega)
  rw [Hlen.out, Hr.out] at hmore
  have hspl := fun w => r11split_any (n : Int) w (by omega) (by omega)
  rw [Int.toNat_natCast] at hspl
  have hsl := splitN_lt n (by omega)
  have hsp := splitN_pos n (by omega)
  obtain ⟨s, hs'⟩ : ∃ s, splitN n = s := ⟨_, rfl⟩
  rw [hs'] at hmore hspl hsl hsp
  have hL := fun W (hW : Below (w.alloc (.cells zs 48)).heap.size (w.alloc (.cells zs 48)) W) => ih s (by omega) (hs.take s) A s c W (Nat.le_refl _) ((h0.step hW).take s (by omega)) (by omega)
  have hR := fun W (hW : Below (w.alloc (.cells zs 48)).heap.size (w.alloc (.cells zs 48)) W) => ih (n - s) (by omega) (hs.drop s) _ (n - s) (c - s) W (Nat.le_refl _) ((h0.step hW).drop s (by omega)) (by omega)
  obtain ⟨x, hx⟩ : ∃ x, rootL (hs.take s) = x := ⟨_, rfl⟩
  obtain ⟨y, hy⟩ : ∃ y, rootL (hs.drop s) = y := ⟨_, rfl⟩
  have hxl : x.length = 32 := by rw [← hx]; exact length_rootL _ (h.all.take s)
  have hyl : y.length = 32 := by rw [← hy]; exact length_rootL _ (h.all.drop s)
  rw [hx] at hL hmore
  rw [hy] at hR hmore
  have hN := fun W => hrnode_any x y W hxl hyl
  rw [← hmore] at hN
  have Hspl := Lib.hid hspl
  have HL := Lib.hid hL
  have HR := Lib.hid hR
  have HN := Lib.hid hN
  clear hspl hL hR hN hx hy hxl hyl hmore hs' ih h
  go_enter Tryd.func19, Tryd.ntmps19
  go_wp2_with (first
    | ((with_reducible show wpList _ _ _ (⟨some 2, .alloc _, _, _, _, _⟩ :: _) _ _); refine wpList_run rfl (.pointer (some ⟨w.heap.size, 0, none⟩)) (w.alloc (.cells zs 48)) (by rw [← Hzs.out]; rfl) ?_; simp only [Act.put])
    | (go_at_call 44; refine (Hspl.out _).mono ?_; rintro e w1 ⟨rfl, rfl⟩))
  generalize w.alloc (.cells zs 48) = w1 at hb0 k0 h0 HL HR ⊢
  have hS : Below w1.heap.size w1 w1.drew := (Below.refl _ _).drew
  refine wp_region_mix_last (fun W => Below w1.heap.size w1 W) 9 [(0, true), (1, true), (2, true), (4, true), (5, true), (6, true), (3, false), (7, false), (8, false)] (by kernel_rfl) (by kernel_rfl) hS fun _ => ?_
  simp only [List.map_cons, List.map_nil, Array.getD_eq_getD_getElem?, List.getElem?_toArray, List.getElem?_cons_succ, List.getElem?_cons_zero, Option.getD_some]
  generalize w1.drew = W0 at hS ⊢
  refine wpMix_s (fun K hK => ?_)
  go_simp
  refine hK _ ?_
  clear hK K
  refine wpMix_s (fun K hK => ?_)
  go_simp
  refine hK _ ?_
  clear hK K
  refine wpMix_v (by kernel_rfl) (.slice A s c) (fun u => run_slice_op_hi (.tmp 17) (.tmp 18) rfl A n c s rfl rfl (by omega) u.W) ?_
  simp only [Act.put]
  refine wpMix_s (fun K hK => ?_)
  go_simp
  refine hK _ ?_
  clear hK K
  refine wpMix_s (fun K hK => ?_)
  go_simp
  refine hK _ ?_
  clear hK K
  refine wpMix_v (by kernel_rfl) (.slice (if c = s then A else A.map (·.add (s * 32))) (n - s) (c - s)) (fun u => run_slice_op_lo (.tmp 21) (.tmp 22) rfl A n c s rfl rfl (by omega) u.W) ?_
  simp only [Act.put]
  refine wpMix_c (fun K hK => ?_) hS
  go_simp
  refine (HL.out W0 hS).mono ?_
  rintro e W1 ⟨rfl, hb'⟩
  refine hK _ _ ?_
  clear hK K
  replace hS := hS.trans (hb'.mono hS.size)
  refine ⟨hS, ?_⟩
  clear hb'
  refine wpMix_c (fun K hK => ?_) hS
  go_simp
  refine (HR.out W1 hS).mono ?_
  rintro e W2 ⟨rfl, hb'⟩
  refine hK _ _ ?_
  clear hK K
  replace hS := hS.trans (hb'.mono hS.size)
  refine ⟨hS, ?_⟩
  clear hb'
  refine wpMix_c (fun K hK => ?_) hS
  go_simp
  refine (HN.out W2).mono ?_
  rintro e W3 ⟨rfl, hb'⟩
  refine hK _ _ ?_
  clear hK K
  replace hS := hS.trans (hb'.mono hS.size)
  refine ⟨hS, ?_⟩
  clear hb'
  refine wpMix_nil ?_
  intro _
  simp only [List.drop_succ_cons, List.drop_zero]
  have k3 := k0.below hS k0.lt
  go_wp2_with ((with_reducible show wpList _ _ _ (⟨none, .store _ _ _, _, _, _, _⟩ :: _) _ _); refine wpList_store_blk rfl 48 (.tmp 2) (.tmp 25) rfl 32 size26 w.heap.size (r.map B).toArray rfl rfl (by simp [Hrl.out]) (oneCell_B _) 48 _ k3 hzl ?_; simp only [Act.put])
  refine np_normal ?_
  go_wp2_with fail
  refine bodyPost_ret (results_cell_row rfl _ _ w.heap.size 48 (r.map B).toArray (0, 0) _ rfl (k3.setRow_ _) Tryd.underlying48 rfl (by rw [show (r.map B).toArray.size = 32 by simp [Hrl.out]]; exact info26)) rfl ⟨rfl, ?_⟩
  exact below_setRow (hb0.trans (hS.mono hb0.size)) (Nat.le_refl _) _
theorem r11root_any (hs : List (List UInt8)) (A : Option Addr) (n c : Nat) (w : World) (h : Hs w (fun _ => True) A n c hs) (hn : n ≤ 4398046511104) :
    Calls Tryd.prog 19 #[.slice A n c] w fun e w' => e = .returned (.agg ((rootL hs).map B).toArray) ∧ Below w.heap.size w w' := r11root_rec n hs A n c w (Nat.le_refl _) h hn

/-- a path, further on -/
theorem pathL_shift (k d : Nat) : ∀ (i a b : Nat), b - a ≤ d → pathL (i + k) (a + k) (b + k) = (pathL i a b).map fun x => (x.1 + k, x.2 + k) := by
  induction d with
  | zero => intro i a b h; rw [pathL_small _ _ _ (by omega), pathL_small _ _ _ (by omega)]; rfl
  | succ d ih =>
    intro i a b h
    by_cases h2 : b - a < 2
    · rw [pathL_small _ _ _ (by omega), pathL_small _ _ _ h2]; rfl
    · have hl := splitN_lt (b - a) (by omega)
      have hp := splitN_pos (b - a) (by omega)
      have e : b + k - (a + k) = b - a := by omega
      by_cases hi : i < a + splitN (b - a)
      · rw [pathL_left (i + k) (a + k) (b + k) (by omega) (by rw [e]; omega), pathL_left i a b (by omega) hi, e, show a + k + splitN (b - a) = a + splitN (b - a) + k by omega, ih i a (a + splitN (b - a)) (by omega)]
        simp
      · rw [pathL_right (i + k) (a + k) (b + k) (by omega) (by rw [e]; omega), pathL_right i a b (by omega) hi, e, show a + k + splitN (b - a) = a + splitN (b - a) + k by omega, ih i (a + splitN (b - a)) b (by omega)]
        simp
theorem stretchL_take (hs : List (List UInt8)) (k a b : Nat) (h : b ≤ k) : stretchL (hs.take k) a b = stretchL hs a b := by
  unfold stretchL
  rw [List.drop_take, List.take_take, Nat.min_eq_left (by omega)]
theorem stretchL_drop (hs : List (List UInt8)) (k a b : Nat) : stretchL (hs.drop k) a b = stretchL hs (a + k) (b + k) := by
  unfold stretchL
  rw [List.drop_drop, show b + k - (a + k) = b - a by omega, show k + a = a + k by omega]
/-- the proof of an entry that is there -/
def rootsN (hs : List (List UInt8)) (i : Nat) : List (List UInt8) := rootsL hs (pathL i 0 hs.length)
theorem rootsN_left (hs : List (List UInt8)) (i : Nat) (h2 : 2 ≤ hs.length) (hi : i < splitN hs.length) : rootsN hs i = rootsN (hs.take (splitN hs.length)) i ++ [rootL (hs.drop (splitN hs.length))] := by
  have hl := splitN_lt hs.length h2
  have hok := pathL_ok (splitN hs.length) i 0 (splitN hs.length) (by omega) (by omega) hi
  unfold rootsN
  rw [pathL_left i 0 hs.length (by omega) (by simpa using hi), List.length_take, Nat.min_eq_left (by omega), Nat.sub_zero, Nat.zero_add]
  unfold rootsL
  rw [List.map_append]
  congr 1
  · refine List.map_congr_left fun x hx => ?_
    exact (stretchL_take hs _ _ _ (hok.each x hx).2.2.1).symm
  · simp only [List.map_cons, List.map_nil]
    unfold stretchL
    rw [List.take_of_length_le (by rw [List.length_drop]; exact Nat.le_refl _)]
theorem rootsN_right (hs : List (List UInt8)) (i : Nat) (h2 : 2 ≤ hs.length) (hi : ¬ i < splitN hs.length) : rootsN hs i = rootsN (hs.drop (splitN hs.length)) (i - splitN hs.length) ++ [rootL (hs.take (splitN hs.length))] := by
  have hl := splitN_lt hs.length h2
  unfold rootsN
  rw [pathL_right i 0 hs.length (by omega) (by simpa using hi), List.length_drop, Nat.sub_zero, Nat.zero_add]
  have hsh := pathL_shift (splitN hs.length) (hs.length - splitN hs.length) (i - splitN hs.length) 0 (hs.length - splitN hs.length) (by omega)
  rw [show i - splitN hs.length + splitN hs.length = i by omega, Nat.zero_add, show hs.length - splitN hs.length + splitN hs.length = hs.length by omega] at hsh
  rw [hsh]
  unfold rootsL
  rw [List.map_append, List.map_map]
  congr 1
  · refine List.map_congr_left fun x hx => ?_
    exact (stretchL_drop hs _ _ _).symm
theorem rootsN_small (hs : List (List UInt8)) (i : Nat) (h : hs.length < 2) : rootsN hs i = [] := by
  unfold rootsN
  rw [pathL_small _ _ _ (by omega)]; rfl
theorem rootsN_all (hs : List (List UInt8)) (h : H32 hs) (i : Nat) : H32 (rootsN hs i) := rootsL_all hs h _
theorem length_rootsN (hs : List (List UInt8)) (i : Nat) : (rootsN hs i).length = (pathL i 0 hs.length).length := by simp [rootsN, rootsL]
theorem rootsP_nat (hs : List (List UInt8)) (i : Int) (h0 : 0 ≤ i) (h1 : i < hs.length) : rootsP hs i = rootsN hs i.toNat ∧ (pathA i hs.length).2 = 0 := by
  unfold rootsP rootsN pathA
  rw [if_neg (by omega)]
  exact ⟨by rw [Int.toNat_natCast], rfl⟩
end Go.Proofs.YtfhmjgkcpcnkbaaDoor
/- notaryref14.Tile. -/
namespace Go.Proofs.YtfhmjgkcpcnkbaaDoor
open Go Go.RowKit
attribute [local go_sem] Oper.semAt_some

theorem tileG_none (h : Nat) (L : HL) (a b : Int) (hab : a < 0 ∨ b < 0) : tileG h L a b = [] := by
  unfold tileG
  rw [if_neg (by omega)]
theorem tileG_high (h : Nat) (L : HL) (a b : Int) (hn : L.length < 9223372036854775808) (ha : 62 < a) (h1 : 1 ≤ h) : tileG h L a b = [] := by
  unfold tileG
  split
  · have h2 : lvT h a.toNat L = [] := by
      apply List.eq_nil_of_length_eq_zero
      rw [lvT_len]
      exact cT_zero h a.toNat L.length hn (Nat.lt_of_lt_of_le (by omega : 62 < a.toNat) (Nat.le_mul_of_pos_left _ h1))
    rw [h2]
    unfold ck
    simp
  · rfl
theorem tileG_over (h : Nat) (L : HL) (l j : Nat) (hj : cT h l L.length / 2 ^ h < j) : tileG h L (l : Int) (j : Int) = [] := by
  rw [tileG_nat]
  unfold ck
  rw [List.drop_of_length_le, List.take_nil]
  rw [lvT_len]
  have h1 := Nat.lt_div_mul_add (a := cT h l L.length) (b := 2 ^ h) (Nat.two_pow_pos h)
  have h2 := Nat.mul_le_mul_right (2 ^ h) hj
  rw [Nat.succ_mul] at h2
  omega
theorem tileG_length (h : Nat) (L : HL) (l j : Nat) : (tileG h L (l : Int) (j : Int)).length = min (2 ^ h) (cT h l L.length - j * 2 ^ h) := by
  rw [tileG_nat]
  unfold ck
  rw [List.length_take, List.length_drop, lvT_len]
theorem tileG_get (h : Nat) (L : HL) (l j k : Nat) (hk : k < (tileG h L (l : Int) (j : Int)).length) : (tileG h L (l : Int) (j : Int)).getD k [] = rootL ((L.drop ((j * 2 ^ h + k) * 2 ^ (h * l))).take (2 ^ (h * l))) := by
  have hk2 : k < (ck (2 ^ h) j (lvT h l L)).length := by rw [← tileG_nat]; exact hk
  rw [tileG_nat, List.getD_eq_getElem?_getD, List.getElem?_eq_getElem hk2]
  simp only [Option.getD_some]
  obtain ⟨h1, h2⟩ := ck_get (2 ^ h) j (lvT h l L) k hk2
  rw [h2, lvT_get]
  rfl
set_option maxHeartbeats 8000000 in
set_option maxRecDepth 100000 in
theorem rtile_any (L : HL) (A : Option Addr) (n c h : Nat) (lv ix : Int) (w : World) (hL : Hs w (fun _ => True) A n c L) (h1 : 1 ≤ h) (h8 : h ≤ 8) (hn : n ≤ 100000) :
    Calls Tryd.prog 48 #[.slice A n c, .int .i64 (h : Int), .int .i64 lv, .int .i64 ix] w fun e w' => ∃ v, e = .returned v ∧ w'.ownsRow w.heap.size 48 32 v (tileG h L lv ix).length (hcells (tileG h L lv ix)) ∧ Below w.heap.size w w' := by
  have hlen := hL.len
  have hroom := hL.sl.room
  have hmx := hL.sl.max
  unfold maxLen at hmx
  by_cases hl0 : lv < 0
  · rw [tileG_none h L lv ix (.inl hl0)]
    have d : decide (lv < 0) = true := by simpa using hl0
    clear hL hlen hl0
    go_enter Tryd.func48, Tryd.ntmps48
    go_wp2_with fail
    go_ret
    exact ⟨_, rfl, World.ownsRow_nil _ _ _ _, Below.refl _ _⟩
  have d : decide (lv < 0) = false := by simpa using hl0
  by_cases hi0 : ix < 0
  · rw [tileG_none h L lv ix (.inr hi0)]
    have d2 : decide (ix < 0) = true := by simpa using hi0
    clear hL hlen hl0 hi0
    go_enter Tryd.func48, Tryd.ntmps48
    go_wp2_with fail
    go_ret
    exact ⟨_, rfl, World.ownsRow_nil _ _ _ _, Below.refl _ _⟩
  have d2 : decide (ix < 0) = false := by simpa using hi0
  by_cases hl62 : 62 < lv
  · rw [tileG_high h L lv ix (by omega) hl62 h1]
    have d3 : decide (62 < lv) = true := by simpa using hl62
    clear hL hlen hl0 hi0 hl62
    go_enter Tryd.func48, Tryd.ntmps48
    go_wp2_with fail
    go_ret
    exact ⟨_, rfl, World.ownsRow_nil _ _ _ _, Below.refl _ _⟩
  have d3 : decide (62 < lv) = false := by simpa using hl62
  obtain ⟨l, rfl⟩ : ∃ l : Nat, lv = l := ⟨lv.toNat, by omega⟩
  obtain ⟨j, rfl⟩ : ∃ j : Nat, ix = j := ⟨ix.toNat, by omega⟩
  have d3n : decide (62 < l) = false := by simp; omega
  have hcn := rcount_any h l n w h1 h8 (by omega) (by omega)
  have hwh := rwhole14_any h w h8
  have hwd := rwidth_any h l w h1 h8 (by omega)
  have hov := tileG_over h L l j
  have hgl := tileG_length h L l j
  have hget := tileG_get h L l j
  have h32 := tileG_32 h L hL.all l j
  have hcnn : cT h l L.length ≤ L.length := cT_le _ _ _
  have hcu : cT h l L.length * 2 ^ (h * l) ≤ L.length := Nat.div_mul_le_self _ _
  have hw62 : h * l ≤ 62 → widthT h l = 2 ^ (h * l) := fun hc => if_pos hc
  have hc0 : ¬ h * l ≤ 62 → cT h l L.length = 0 := fun hc => cT_zero h l L.length (by omega) (by omega)
  obtain ⟨cn, hcne⟩ : ∃ x, cT h l L.length = x := ⟨_, rfl⟩
  obtain ⟨s2, hs2⟩ : ∃ x, 2 ^ h = x := ⟨_, rfl⟩
  have hsp : 2 ≤ s2 := by rw [← hs2]; exact Nat.le_trans (by decide) (Nat.pow_le_pow_right (n := 2) (by decide) h1)
  have hs8 : s2 ≤ 256 := by rw [← hs2]; exact Nat.pow_le_pow_right (n := 2) (by decide) (show h ≤ 8 from h8)
  obtain ⟨wd, hwde⟩ : ∃ x, widthT h l = x := ⟨_, rfl⟩
  obtain ⟨G, hG⟩ : ∃ G, tileG h L (l : Int) (j : Int) = G := ⟨_, rfl⟩
  rw [hlen] at hcnn hcu
  rw [hlen] at hcne hov hgl hc0
  rw [hcne] at hcn hov hgl hc0 hcnn hcu
  rw [hs2] at hwh hov hgl hget
  rw [hwde] at hwd hw62
  rw [hG] at hov hgl hget h32 ⊢
  obtain ⟨gl, hgle⟩ : ∃ x, G.length = x := ⟨_, rfl⟩
  have Hcn := Lib.hid hcn
  have Hwh := Lib.hid hwh
  have Hwd := Lib.hid hwd
  have HL := Lib.hid hL
  have Hlen := Lib.hid hlen
  clear hcn hwh hwd hL hlen hG hl0 hi0 hl62
  obtain ⟨q, hq⟩ : ∃ x, cn / s2 = x := ⟨_, rfl⟩
  have hqv : (cn : Int) / (s2 : Int) = (q : Int) := by rw [← hq]; rfl
  have hqle : q ≤ cn := by rw [← hq]; exact Nat.div_le_self _ _
  have hwq : IntKind.i64.wrap (q : Int) = (q : Int) := IntWalk.i64_in _ (by omega)
  have hs0' : (s2 : Int) ≠ 0 := by omega
  rw [hq] at hov
  by_cases hjq : q < j
  · have e : G = [] := hov hjq
    subst e
    have dj : decide ((q : Int) < (j : Int)) = true := by simp; omega
    have djn : decide (q < j) = true := by simp; omega
    clear hov hgl hget h32 hcu hw62 hc0
    go_enter Tryd.func48, Tryd.ntmps48
    go_wp2_with (first
    | (go_at_call 59; refine Hcn.out.mono ?_; rintro e w2 ⟨rfl, hw⟩; obtain rfl := hw.symm; clear hw)
    | (go_at_call 60; refine Hwh.out.mono ?_; rintro e w2 ⟨rfl, hw⟩; obtain rfl := hw.symm; clear hw)
    | (go_at_call 65; refine Hwd.out.mono ?_; rintro e w2 ⟨rfl, hw⟩; obtain rfl := hw.symm; clear hw))
    go_ret
    exact ⟨_, rfl, World.ownsRow_nil _ _ _ _, Below.refl _ _⟩
  have dj : decide ((q : Int) < (j : Int)) = false := by simp; omega
  have djn : decide (q < j) = false := by simp; omega
  have hjs : j * s2 ≤ cn := by
    have h2 := Nat.div_mul_le_self cn s2
    rw [hq] at h2
    exact Nat.le_trans (Nat.mul_le_mul_right s2 (by omega)) h2
  obtain ⟨j0, hj0⟩ : ∃ x, j * s2 = x := ⟨_, rfl⟩
  rw [hj0] at hgl hjs
  rw [hgle] at hgl ⊢
  have hmj : IntKind.i64.wrap ((j : Int) * (s2 : Int)) = (j0 : Int) := by rw [← Int.natCast_mul, hj0, IntWalk.i64_in _ (by omega)]
  obtain ⟨jp, hjp⟩ : ∃ x, j + 1 = x := ⟨_, rfl⟩
  have hwjp : IntKind.i64.wrap ((j : Int) + 1) = (jp : Int) := by rw [IntWalk.i64_in _ (by omega)]; omega
  obtain ⟨j1, hj1⟩ : ∃ x, jp * s2 = x := ⟨_, rfl⟩
  have hj1e : j1 = j0 + s2 := by rw [← hj1, ← hjp, Nat.succ_mul, hj0]
  have hmj1 : IntKind.i64.wrap ((jp : Int) * (s2 : Int)) = (j1 : Int) := by rw [← Int.natCast_mul, hj1, IntWalk.i64_in _ (by omega)]
  have hget2 : ∀ k, k < gl → G.getD k [] = rootL ((L.drop ((j0 + k) * 2 ^ (h * l))).take (2 ^ (h * l))) := fun k hk => by rw [hget k (by omega), hj0]
  have hg256 : gl ≤ 256 := by omega
  have Hget := Lib.hid hget2
  have Hj1e := Lib.hid hj1e
  have Hgl := Lib.hid hgl
  have H32 := Lib.hid h32
  have Hgle := Lib.hid hgle
  have Hcu := Lib.hid hcu
  have Hw62 := Lib.hid hw62
  have Hc0 := Lib.hid hc0
  clear hov hget hget2 h32 hgle hcu hw62 hc0 hj0 hjp hj1 hq hj1e hgl
  go_enter Tryd.func48, Tryd.ntmps48
  go_wp2_with (first
    | (go_at_call 59; refine Hcn.out.mono ?_; rintro e w2 ⟨rfl, hw⟩; obtain rfl := hw.symm; clear hw)
    | (go_at_call 60; refine Hwh.out.mono ?_; rintro e w2 ⟨rfl, hw⟩; obtain rfl := hw.symm; clear hw)
    | (go_at_call 65; refine Hwd.out.mono ?_; rintro e w2 ⟨rfl, hw⟩; obtain rfl := hw.symm; clear hw))
  go_loopw [11, 13] (fun v11 v13 wr => ∃ k : Nat, k ≤ gl ∧ v13 = .int .i64 ((j0 + k : Nat) : Int) ∧ wr.ownsRow w.heap.size 48 32 v11 k (hcells (G.take k)) ∧ Below w.heap.size w wr) (fun _ v13 _ => j0 + gl - (intOf v13).toNat)
  case atStart => exact ⟨0, Nat.zero_le _, by rw [Nat.add_zero], World.ownsRow_nil _ _ _ _, Below.refl _ _⟩
  case round =>
    obtain ⟨k, hk, rfl, ho, hb⟩ := hrel
    have hz := hb.size
    have hj1e := Hj1e.out
    have hgl := Hgl.out
    obtain ⟨i, hi⟩ : ∃ i, j0 + k = i := ⟨_, rfl⟩
    rw [hi]
    by_cases hkg : k < gl
    · have e1 : decide ((i : Int) < (cn : Int)) = true := by simp; omega
      have e1n : decide (i < cn) = true := by simp; omega
      have e2 : decide ((i : Int) < (j1 : Int)) = true := by simp; omega
      have e2n : decide (i < j1) = true := by simp; omega
      have hc62 : h * l ≤ 62 := Classical.byContradiction fun hc => by have := Hc0.out hc; omega
      have hwd2 := Hw62.out hc62
      have hcu2 := Hcu.out
      rw [← hwd2] at hcu2
      have hiu : (i + 1) * wd ≤ n := Nat.le_trans (Nat.mul_le_mul_right wd (by omega)) hcu2
      obtain ⟨iu, hiue⟩ : ∃ x, i * wd = x := ⟨_, rfl⟩
      have hiu1 : (i + 1) * wd = iu + wd := by rw [Nat.succ_mul, hiue]
      rw [hiu1] at hiu
      have hm1 : IntKind.i64.wrap ((i : Int) * (wd : Int)) = (iu : Int) := by rw [← Int.natCast_mul, hiue, IntWalk.i64_in _ (by omega)]
      obtain ⟨ip, hip⟩ : ∃ x, i + 1 = x := ⟨_, rfl⟩
      have hwi : IntKind.i64.wrap ((i : Int) + 1) = (ip : Int) := by rw [IntWalk.i64_in _ (by omega)]; omega
      obtain ⟨iv, hive⟩ : ∃ x, iu + wd = x := ⟨_, rfl⟩
      have hm2 : IntKind.i64.wrap ((ip : Int) * (wd : Int)) = (iv : Int) := by rw [← Int.natCast_mul, ← hip, hiu1, hive, IntWalk.i64_in _ (by omega)]
      have hgk := Hget.out k hkg
      rw [hi, ← hwd2, hiue] at hgk
      have hr32 := H32.out.getD k (by rw [Hgle.out]; exact hkg)
      have htk := take_snocT G k (by rw [Hgle.out]; exact hkg)
      obtain ⟨r, hr⟩ : ∃ r, G.getD k [] = r := ⟨_, rfl⟩
      rw [hr] at hgk hr32 htk
      obtain ⟨A', hA'⟩ : ∃ x, (if c = iu then A else A.map (·.add (iu * 32))) = x := ⟨_, rfl⟩
      obtain ⟨cq, hcq⟩ : ∃ x, c - iu = x := ⟨_, rfl⟩
      have hHt : Hs wr (fun _ => True) A' wd cq ((L.drop iu).take wd) := by
        have h9 := ((HL.out.step hb).take iv (by omega)).drop iu (by omega)
        rw [List.drop_take, show iv - iu = wd by omega, hA', hcq] at h9
        exact h9
      have hsop := fun (ρ : Operand → Value) (o : Oper) (ho : o.op = .slice 36 (.tmp 56) (some (.tmp 59)) (some (.tmp 63)) none) (hx : ρ (.tmp 56) = .slice A n c) (hy : ρ (.tmp 59) = .int .i64 (iu : Int)) (hz : ρ (.tmp 63) = .int .i64 (iv : Int)) (W : World) => run_slice_op_bothH (.tmp 56) (.tmp 59) (.tmp 63) ho A n c iu iv wd hx hy hz (by omega) (by omega) W
      rw [hA', hcq] at hsop
      have hroot := r11root_any ((L.drop iu).take wd) A' wd cq wr hHt (by omega)
      rw [← hgk] at hroot
      obtain ⟨A0, c0, rfl, hs0v⟩ := owns_slv ho
      have hrm := hs0v.room
      have h1r : (∀ y ∈ ([r] : List (List UInt8)), y.length = 32) := fun y hy => by rw [List.mem_singleton.1 hy]; exact hr32
      have Hsop := Lib.hid hsop
      have Hroot := Lib.hid hroot
      have Htk := Lib.hid htk
      have H1r := Lib.hid h1r
      have Ho := Lib.hid ho
      have Hb := Lib.hid hb
      have Hip := Lib.hid hip
      have Hi := Lib.hid hi
      clear hsop hroot htk h1r ho hb hgk hr hHt hA' hcq hs0v hiue hive hip hi hiu1 hr32 hcu2 hwd2 hj1e hgl
      go_wp2_with (first
        | ((with_reducible show wpList _ _ _ (⟨some 64, .slice _ _ _ _ _, _, _, _, _⟩ :: _) _ _); refine wpList_run0 rfl (.slice A' wd cq) (Hsop.out _ _ rfl rfl rfl rfl _) ?_; simp only [Act.put, List.setIfInBounds_toArray, List.set_cons_succ, List.set_cons_zero]))
      refine Hroot.out.mono ?_
      rintro e w3 ⟨rfl, hb3⟩
      have ho3 := owns_step Ho.out hb3
      have hA := (Below.refl w3.heap.size w3).alloc (Nat.le_refl _) (.cells (hcells [r]).toArray 48)
      obtain ⟨v4, w4, hr4, ho4, hg4, -⟩ := append_slv (ty := 36) Tryd.underlying36 info26z (by simp [Value.cells]) (by decide) (owns_step ho3 hA) (Hs.lit w3 [r] H1r.out (by simp) 1 rfl).sl (fun u hu => by obtain ⟨y, -, rfl⟩ := List.mem_map.1 hu; rfl) (by unfold maxLen; omega) (by omega) (Nat.le_trans (Nat.le_trans hz hb3.size) hA.size)
      rw [← hcells_append, ← Htk.out] at ho4
      have hb4 : Below w.heap.size w w4 := ((Hb.out.trans (hb3.mono hz)).trans (hA.mono (Nat.le_trans hz hb3.size))).grown hg4 (Nat.le_trans (Nat.le_trans hz hb3.size) hA.size) (fun j hj => by
        rcases Ho.out.2 with ⟨e9, _⟩ | ⟨g, cap, cur, e9, hg0, _⟩
        · rw [e9] at hj; cases hj
        · rw [e9] at hj; cases hj; exact hg0)
      have Hr4 := Lib.hid hr4
      have Ho4 := Lib.hid ho4
      have Hb4 := Lib.hid hb4
      clear hb3 ho3 hA hr4 ho4 hg4 hb4 Hroot
      go_wp2_with (first
        | ((with_reducible show wpList _ _ _ (⟨some 66, .buildSlice _ _ _, _, _, _, _⟩ :: _) _ _); refine wpList_run rfl _ _ (run_lit_op [r] H1r.out (by simp) (by simp) 1 _ rfl (by simp [Act.eval]) rfl _) ?_; simp only [Act.put, List.setIfInBounds_toArray, List.set_cons_succ, List.set_cons_zero])
        | ((with_reducible show wpList _ _ _ (⟨some 67, .call _, _, _, _, _⟩ :: _) _ _); refine wpList_run rfl v4 w4 (run_append_op (.tmp 55) (.tmp 66) 36 rfl _ _ rfl rfl Hr4.out) ?_; simp only [Act.put, List.setIfInBounds_toArray, List.set_cons_succ, List.set_cons_zero]))
      go_roundw
      case rel => exact ⟨k + 1, by omega, by congr 1; have := Hip.out; have := Hi.out; omega, Ho4.out, Hb4.out⟩
      case measure => have := Hip.out; have := Hi.out; simp [intOf]; omega
    · obtain rfl : k = gl := by omega
      have hend : ¬ (i < cn ∧ i < j1) := by omega
      have htk : G.take k = G := List.take_of_length_le (by rw [Hgle.out]; exact Nat.le_refl _)
      rw [htk] at ho
      have Ho := Lib.hid ho
      have Hb := Lib.hid hb
      have Hi := Lib.hid hi
      clear htk ho hb hi
      by_cases hic : i < cn
      · have e1 : decide ((i : Int) < (cn : Int)) = true := by simp; omega
        have e1n : decide (i < cn) = true := by simp; omega
        have e2 : decide ((i : Int) < (j1 : Int)) = false := by simp; omega
        have e2n : decide (i < j1) = false := by simp; omega
        clear hend hic hj1e hgl
        go_wp2_with fail
        go_ret
        exact ⟨_, rfl, Ho.out, Hb.out⟩
      · have e1 : decide ((i : Int) < (cn : Int)) = false := by simp; omega
        have e1n : decide (i < cn) = false := by simp; omega
        clear hend hic hj1e hgl
        go_wp2_with fail
        go_ret
        exact ⟨_, rfl, Ho.out, Hb.out⟩
end Go.Proofs.YtfhmjgkcpcnkbaaDoor
