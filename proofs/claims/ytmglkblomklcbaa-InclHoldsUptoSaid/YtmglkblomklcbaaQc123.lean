/- notaryref11.Split, Root, Len, Prove. -/
import Derived.Test.YtmglkblomklcbaaQc122
import Derived.Test.YtmglkblomklcbaaQc113
import Derived.Test.YtmglkblomklcbaaQc120
import Derived.Laws.Tables
import Derived.Test.YtmglkblomklcbaaQc112
import Derived.Test.YtmglkblomklcbaaQc119
import Derived.Test.YtmglkblomklcbaaQc121
namespace Go.Proofs.Ytmglkblomklcbaa
open Go Go.RowKit

set_option maxHeartbeats 400000 in
theorem r11split_any (n : Int) (w : World) (h2 : 2 ≤ n) (hn : n ≤ 9223372036854775807) :
    Calls Try.prog 39 #[.int .i64 n] w fun e w' => e = .returned (.int .i64 (splitN n.toNat : Int)) ∧ w = w' := by
  obtain ⟨m, rfl⟩ : ∃ m : Nat, n = (m : Int) := ⟨n.toNat, by omega⟩
  rw [Int.toNat_natCast]
  obtain ⟨s, hs⟩ : ∃ s, splitN m = s := ⟨_, rfl⟩
  have hsl := splitN_lt m (by omega)
  have Hs := Lib.hid hs
  rw [hs] at hsl ⊢
  clear hs
  go_enter Try.func39, Try.ntmps39
  go_wp2_with fail
  go_loop [3] (fun v => ∃ j k : Nat, 1 ≤ k ∧ k < m ∧ k = 2 ^ j ∧ v = .int .i64 (k : Int)) (fun v => m - (intOf v).toNat)
  case atStart => exact ⟨0, 1, by omega, by omega, rfl, rfl⟩
  case round =>
    obtain ⟨j, k, hk1, hkm, hk, rfl⟩ := hrel
    by_cases hlt : k < m - k
    · have Hk := Lib.hid hk
      clear hk
      have hd : decide ((k : Int) < (m : Int) - (k : Int)) = true := by simp; omega
      go_wp2_with fail
      go_round
      case rel => exact ⟨j + 1, 2 * k, by omega, by omega, by rw [Nat.pow_succ, Hk.out]; omega, by go_num⟩
      case measure => simp [intOf]; omega
    · have hks : s = k := by rw [← Hs.out, splitN_eq m j (by omega) (by rw [Nat.pow_succ]; omega), hk]
      subst hks
      clear hk
      have hd : decide ((s : Int) < (m : Int) - (s : Int)) = false := by simp; omega
      go_wp2_with fail
      go_ret
      exact ⟨rfl, rfl⟩
theorem r08nil (w : World) : Calls Try.prog 54 #[.slice none 0 0] w fun e w' => e = .returned (.agg (hEmpty.map B).toArray) ∧ Below w.heap.size w w' :=
  hrof_any [] none 0 0 w Sl.nil (by decide)

set_option maxHeartbeats 2000000 in
set_option maxRecDepth 100000 in
theorem r11root_rec (d : Nat) : ∀ (hs : List (List UInt8)) (A : Option Addr) (n c : Nat) (w : World), n ≤ d → Hs w (fun _ => True) A n c hs → n ≤ 4398046511104 →
    Calls Try.prog 40 #[.slice A n c] w fun e w' => e = .returned (.agg ((rootL hs).map B).toArray) ∧ Below w.heap.size w w' := by
  induction d using Nat.strongRecOn with
  | ind d ih =>
  intro hs A n c w hnd h hn
  obtain ⟨zs, hzs⟩ : ∃ zs, zeroHash = zs := ⟨_, rfl⟩
  have hzl : zs.size = 32 := by rw [← hzs]; rfl
  have hlen := h.len
  have hroom := h.sl.room
  have hmax := h.sl.max
  unfold maxLen at hmax
  have hb0 := (Below.refl w.heap.size w).alloc (Nat.le_refl _) (.cells zs 45)
  have k0 := Blk.new w 45 zs
  have h0 := h.step hb0
  obtain ⟨r, hr⟩ : ∃ r, rootL hs = r := ⟨_, rfl⟩
  have hrl : r.length = 32 := by rw [← hr]; exact length_rootL hs h.all
  rw [hr]
  have Hzs := Lib.hid hzs
  have Hrl := Lib.hid hrl
  have Hr := Lib.hid hr
  have Hlen := Lib.hid hlen
  clear hzs hrl hr hlen
  by_cases hn0 : n = 0
  · subst hn0
    have hnil : hs = [] := List.eq_nil_of_length_eq_zero Hlen.out
    subst hnil
    obtain rfl : r = hEmpty := Hr.out.symm
    clear ih h h0
    go_enter Try.func40, Try.ntmps40
    go_wp2_with (first
      | ((with_reducible show wpList _ _ _ (⟨some 2, .alloc _, _, _, _, _⟩ :: _) _ _); refine wpList_run rfl (.pointer (some ⟨w.heap.size, 0, none⟩)) (w.alloc (.cells zs 45)) (by rw [← Hzs.out]; rfl) ?_; simp only [Act.put])
      | (go_at_call 54; refine (r08nil _).mono ?_; rintro e w1 ⟨rfl, hb1⟩; have k1 := k0.below hb1 (by simp); have B1 := hb0.trans (hb1.mono (by simp)))
      | ((with_reducible show wpList _ _ _ (⟨none, .store _ _ _, _, _, _, _⟩ :: _) _ _); refine wpList_store_blk rfl 45 (.tmp 2) (.tmp 9) rfl 32 size26 w.heap.size (hEmpty.map B).toArray rfl rfl (by simp [Hrl.out]) (oneCell_B _) 45 _ k1 hzl ?_; simp only [Act.put]))
    refine bodyPost_ret (results_cell_row rfl _ _ w.heap.size 45 (hEmpty.map B).toArray (0, 0) _ rfl (k1.setRow_ _) Try.underlying45 rfl (by rw [show (hEmpty.map B).toArray.size = 32 by simp [Hrl.out]]; exact info26)) rfl ⟨rfl, ?_⟩
    exact below_setRow B1 (Nat.le_refl _) _
  by_cases hn1 : n = 1
  · subst hn1
    obtain ⟨x, rfl⟩ := List.length_eq_one_iff.1 Hlen.out
    obtain rfl : r = x := Hr.out.symm
    obtain ⟨b, o, rfl, -, -, hat⟩ := h0.at_ (by omega)
    have hld : (Instr.loadAt 45 (.pointer (some ⟨b, o, none⟩))).run Try.prog (w.alloc (.cells zs 45)) = .ok (.agg (r.map B).toArray) (w.alloc (.cells zs 45)) := hat 0 (by omega)
    have Hld := Lib.hid hld
    clear ih h h0 hat hld
    go_enter Try.func40, Try.ntmps40
    go_wp2_with (first
      | ((with_reducible show wpList _ _ _ (⟨some 2, .alloc _, _, _, _, _⟩ :: _) _ _); refine wpList_run rfl (.pointer (some ⟨w.heap.size, 0, none⟩)) (w.alloc (.cells zs 45)) (by rw [← Hzs.out]; rfl) ?_; simp only [Act.put])
      | ((with_reducible show wpList _ _ _ (⟨some 14, .load _ _, _, _, _, _⟩ :: _) _ _); refine wpList_load rfl 45 (.tmp 13) rfl b o rfl (r.map B).toArray Hld.out ?_; simp only [Act.put])
      | ((with_reducible show wpList _ _ _ (⟨none, .store _ _ _, _, _, _, _⟩ :: _) _ _); refine wpList_store_blk rfl 45 (.tmp 2) (.tmp 14) rfl 32 size26 w.heap.size (r.map B).toArray rfl rfl (by simp [Hrl.out]) (oneCell_B _) 45 _ k0 hzl ?_; simp only [Act.put]))
    refine bodyPost_ret (results_cell_row rfl _ _ w.heap.size 45 (r.map B).toArray (0, 0) _ rfl (k0.setRow_ _) Try.underlying45 rfl (by rw [show (r.map B).toArray.size = 32 by simp [Hrl.out]]; exact info26)) rfl ⟨rfl, ?_⟩
    exact below_setRow hb0 (Nat.le_refl _) _
  have hne0 : ((n : Int) == 0) = false := by simp; omega
  have hne1 : ((n : Int) == 1) = false := by simp; omega
  have hmore := rootL_more hs (by rw [Hlen.out]; omega)
  rw [Hlen.out, Hr.out] at hmore
  have hspl := fun w => r11split_any (n : Int) w (by omega) (by omega)
  rw [Int.toNat_natCast] at hspl
  have hsl := splitN_lt n (by omega)
  have hsp := splitN_pos n (by omega)
  obtain ⟨s, hs'⟩ : ∃ s, splitN n = s := ⟨_, rfl⟩
  rw [hs'] at hmore hspl hsl hsp
  have hL := fun W (hW : Below (w.alloc (.cells zs 45)).heap.size (w.alloc (.cells zs 45)) W) => ih s (by omega) (hs.take s) A s c W (Nat.le_refl _) ((h0.step hW).take s (by omega)) (by omega)
  have hR := fun W (hW : Below (w.alloc (.cells zs 45)).heap.size (w.alloc (.cells zs 45)) W) => ih (n - s) (by omega) (hs.drop s) _ (n - s) (c - s) W (Nat.le_refl _) ((h0.step hW).drop s (by omega)) (by omega)
  obtain ⟨x, hx⟩ : ∃ x, rootL (hs.take s) = x := ⟨_, rfl⟩
  obtain ⟨y, hy⟩ : ∃ y, rootL (hs.drop s) = y := ⟨_, rfl⟩
  have hxl : x.length = 32 := by rw [← hx]; exact length_rootL _ (h.all.take s)
  have hyl : y.length = 32 := by rw [← hy]; exact length_rootL _ (h.all.drop s)
  rw [hx] at hL hmore
  rw [hy] at hR hmore
  have hN := fun W => hrnode_any x y W hxl hyl
  rw [← hmore] at hN
  have Hspl := Lib.hid hspl
  have HL := Lib.hid hL
  have HR := Lib.hid hR
  have HN := Lib.hid hN
  clear hspl hL hR hN hx hy hxl hyl hmore hs' ih h
  go_enter Try.func40, Try.ntmps40
  go_wp2_with (first
    | ((with_reducible show wpList _ _ _ (⟨some 2, .alloc _, _, _, _, _⟩ :: _) _ _); refine wpList_run rfl (.pointer (some ⟨w.heap.size, 0, none⟩)) (w.alloc (.cells zs 45)) (by rw [← Hzs.out]; rfl) ?_; simp only [Act.put])
    | (go_at_call 39; refine (Hspl.out _).mono ?_; rintro e w1 ⟨rfl, rfl⟩))
  generalize w.alloc (.cells zs 45) = w1 at hb0 k0 h0 HL HR ⊢
  have hS : Below w1.heap.size w1 w1.drew := (Below.refl _ _).drew
  refine wp_region_mix_last (fun W => Below w1.heap.size w1 W) 9 [(0, true), (1, true), (2, true), (4, true), (5, true), (6, true), (3, false), (7, false), (8, false)] (by kernel_rfl) (by kernel_rfl) hS fun _ => ?_
  simp only [List.map_cons, List.map_nil, Array.getD_eq_getD_getElem?, List.getElem?_toArray, List.getElem?_cons_succ, List.getElem?_cons_zero, Option.getD_some]
  generalize w1.drew = W0 at hS ⊢
  refine wpMix_s (fun K hK => ?_)
  go_simp
  refine hK _ ?_
  clear hK K
  refine wpMix_s (fun K hK => ?_)
  go_simp
  refine hK _ ?_
  clear hK K
  refine wpMix_v (by kernel_rfl) (.slice A s c) (fun u => run_slice_op_hi (.tmp 17) (.tmp 18) rfl A n c s rfl rfl (by omega) u.W) ?_
  simp only [Act.put]
  refine wpMix_s (fun K hK => ?_)
  go_simp
  refine hK _ ?_
  clear hK K
  refine wpMix_s (fun K hK => ?_)
  go_simp
  refine hK _ ?_
  clear hK K
  refine wpMix_v (by kernel_rfl) (.slice (if c = s then A else A.map (·.add (s * 32))) (n - s) (c - s)) (fun u => run_slice_op_lo (.tmp 21) (.tmp 22) rfl A n c s rfl rfl (by omega) u.W) ?_
  simp only [Act.put]
  refine wpMix_c (fun K hK => ?_) hS
  go_simp
  refine (HL.out W0 hS).mono ?_
  rintro e W1 ⟨rfl, hb'⟩
  refine hK _ _ ?_
  clear hK K
  replace hS := hS.trans (hb'.mono hS.size)
  refine ⟨hS, ?_⟩
  clear hb'
  refine wpMix_c (fun K hK => ?_) hS
  go_simp
  refine (HR.out W1 hS).mono ?_
  rintro e W2 ⟨rfl, hb'⟩
  refine hK _ _ ?_
  clear hK K
  replace hS := hS.trans (hb'.mono hS.size)
  refine ⟨hS, ?_⟩
  clear hb'
  refine wpMix_c (fun K hK => ?_) hS
  go_simp
  refine (HN.out W2).mono ?_
  rintro e W3 ⟨rfl, hb'⟩
  refine hK _ _ ?_
  clear hK K
  replace hS := hS.trans (hb'.mono hS.size)
  refine ⟨hS, ?_⟩
  clear hb'
  refine wpMix_nil ?_
  intro _
  simp only [List.drop_succ_cons, List.drop_zero]
  have k3 := k0.below hS k0.lt
  go_wp2_with ((with_reducible show wpList _ _ _ (⟨none, .store _ _ _, _, _, _, _⟩ :: _) _ _); refine wpList_store_blk rfl 45 (.tmp 2) (.tmp 25) rfl 32 size26 w.heap.size (r.map B).toArray rfl rfl (by simp [Hrl.out]) (oneCell_B _) 45 _ k3 hzl ?_; simp only [Act.put])
  refine np_normal ?_
  go_wp2_with fail
  refine bodyPost_ret (results_cell_row rfl _ _ w.heap.size 45 (r.map B).toArray (0, 0) _ rfl (k3.setRow_ _) Try.underlying45 rfl (by rw [show (r.map B).toArray.size = 32 by simp [Hrl.out]]; exact info26)) rfl ⟨rfl, ?_⟩
  exact below_setRow (hb0.trans (hS.mono hb0.size)) (Nat.le_refl _) _
theorem r11root_any (hs : List (List UInt8)) (A : Option Addr) (n c : Nat) (w : World) (h : Hs w (fun _ => True) A n c hs) (hn : n ≤ 4398046511104) :
    Calls Try.prog 40 #[.slice A n c] w fun e w' => e = .returned (.agg ((rootL hs).map B).toArray) ∧ Below w.heap.size w w' := r11root_rec n hs A n c w (Nat.le_refl _) h hn

/-- a path, further on -/
theorem pathL_shift (k d : Nat) : ∀ (i a b : Nat), b - a ≤ d → pathL (i + k) (a + k) (b + k) = (pathL i a b).map fun x => (x.1 + k, x.2 + k) := by
  induction d with
  | zero => intro i a b h; rw [pathL_small _ _ _ (by omega), pathL_small _ _ _ (by omega)]; rfl
  | succ d ih =>
    intro i a b h
    by_cases h2 : b - a < 2
    · rw [pathL_small _ _ _ (by omega), pathL_small _ _ _ h2]; rfl
    · have hl := splitN_lt (b - a) (by omega)
      have hp := splitN_pos (b - a) (by omega)
      have e : b + k - (a + k) = b - a := by omega
      by_cases hi : i < a + splitN (b - a)
      · rw [pathL_left (i + k) (a + k) (b + k) (by omega) (by rw [e]; omega), pathL_left i a b (by omega) hi, e, show a + k + splitN (b - a) = a + splitN (b - a) + k by omega, ih i a (a + splitN (b - a)) (by omega)]
        simp
      · rw [pathL_right (i + k) (a + k) (b + k) (by omega) (by rw [e]; omega), pathL_right i a b (by omega) hi, e, show a + k + splitN (b - a) = a + splitN (b - a) + k by omega, ih i (a + splitN (b - a)) b (by omega)]
        simp
theorem stretchL_take (hs : List (List UInt8)) (k a b : Nat) (h : b ≤ k) : stretchL (hs.take k) a b = stretchL hs a b := by
  unfold stretchL
  rw [List.drop_take, List.take_take, Nat.min_eq_left (by omega)]
theorem stretchL_drop (hs : List (List UInt8)) (k a b : Nat) : stretchL (hs.drop k) a b = stretchL hs (a + k) (b + k) := by
  unfold stretchL
  rw [List.drop_drop, show b + k - (a + k) = b - a by omega, show k + a = a + k by omega]
/-- the proof of an entry that is there -/
def rootsN (hs : List (List UInt8)) (i : Nat) : List (List UInt8) := rootsL hs (pathL i 0 hs.length)
theorem rootsN_left (hs : List (List UInt8)) (i : Nat) (h2 : 2 ≤ hs.length) (hi : i < splitN hs.length) : rootsN hs i = rootsN (hs.take (splitN hs.length)) i ++ [rootL (hs.drop (splitN hs.length))] := by
  have hl := splitN_lt hs.length h2
  have hok := pathL_ok (splitN hs.length) i 0 (splitN hs.length) (by omega) (by omega) hi
  unfold rootsN
  rw [pathL_left i 0 hs.length (by omega) (by simpa using hi), List.length_take, Nat.min_eq_left (by omega), Nat.sub_zero, Nat.zero_add]
  unfold rootsL
  rw [List.map_append]
  congr 1
  · refine List.map_congr_left fun x hx => ?_
    exact (stretchL_take hs _ _ _ (hok.each x hx).2.2.1).symm
  · simp only [List.map_cons, List.map_nil]
    unfold stretchL
    rw [List.take_of_length_le (by rw [List.length_drop]; exact Nat.le_refl _)]
theorem rootsN_right (hs : List (List UInt8)) (i : Nat) (h2 : 2 ≤ hs.length) (hi : ¬ i < splitN hs.length) : rootsN hs i = rootsN (hs.drop (splitN hs.length)) (i - splitN hs.length) ++ [rootL (hs.take (splitN hs.length))] := by
  have hl := splitN_lt hs.length h2
  unfold rootsN
  rw [pathL_right i 0 hs.length (by omega) (by simpa using hi), List.length_drop, Nat.sub_zero, Nat.zero_add]
  have hsh := pathL_shift (splitN hs.length) (hs.length - splitN hs.length) (i - splitN hs.length) 0 (hs.length - splitN hs.length) (by omega)
  rw [show i - splitN hs.length + splitN hs.length = i by omega, Nat.zero_add, show hs.length - splitN hs.length + splitN hs.length = hs.length by omega] at hsh
  rw [hsh]
  unfold rootsL
  rw [List.map_append, List.map_map]
  congr 1
  · refine List.map_congr_left fun x hx => ?_
    exact (stretchL_drop hs _ _ _).symm
theorem rootsN_small (hs : List (List UInt8)) (i : Nat) (h : hs.length < 2) : rootsN hs i = [] := by
  unfold rootsN
  rw [pathL_small _ _ _ (by omega)]; rfl
theorem rootsN_all (hs : List (List UInt8)) (h : H32 hs) (i : Nat) : H32 (rootsN hs i) := rootsL_all hs h _
theorem length_rootsN (hs : List (List UInt8)) (i : Nat) : (rootsN hs i).length = (pathL i 0 hs.length).length := by simp [rootsN, rootsL]
theorem rootsP_nat (hs : List (List UInt8)) (i : Int) (h0 : 0 ≤ i) (h1 : i < hs.length) : rootsP hs i = rootsN hs i.toNat ∧ (pathA i hs.length).2 = 0 := by
  unfold rootsP rootsN pathA
  rw [if_neg (by omega)]
  exact ⟨by rw [Int.toNat_natCast], rfl⟩
end Go.Proofs.Ytmglkblomklcbaa
/- A range with a hash, as a value, a variable, in a slice. -/
namespace Go.Proofs.Ytmglkblomklcbaa
open Go Go.RowKit

def scell (s : StepV) : List Value := [.int .i64 (s.1.1 : Int), .int .i64 (s.1.2 : Int)] ++ s.2.map B
def scells (l : List StepV) : List Value := l.flatMap scell
def S32 (l : List StepV) : Prop := ∀ s ∈ l, s.2.length = 32
theorem length_scell (s : StepV) (h : s.2.length = 32) : (scell s).length = 34 := by simp [scell, h]
theorem scells_nil : scells [] = [] := rfl
theorem scells_one (s : StepV) : scells [s] = scell s := by simp [scells]
theorem scells_append (a b : List StepV) : scells (a ++ b) = scells a ++ scells b := by simp [scells]
theorem S32.append {a b : List StepV} (h : S32 a) (k : S32 b) : S32 (a ++ b) := fun x hx => (List.mem_append.1 hx).elim (h x) (k x)
theorem S32.one {s : StepV} (h : s.2.length = 32) : S32 [s] := fun x hx => by rw [List.mem_singleton.1 hx]; exact h
theorem scells_len : ∀ l : List StepV, S32 l → (scells l).length = l.length * 34
  | [], _ => rfl
  | s :: l, h => by
    have h1 := scells_len l (fun x hx => h x (by simp [hx]))
    have h2 := length_scell s (h s (by simp))
    simp only [scells, List.flatMap_cons, List.length_append, List.length_cons] at *
    omega
theorem oneS (l : List StepV) : ∀ v ∈ scells l, v.oneCell' = true := by
  intro v hv
  obtain ⟨s, _, hv⟩ := List.mem_flatMap.1 hv
  simp only [scell, List.mem_append, List.mem_cons, List.not_mem_nil, or_false] at hv
  rcases hv with (rfl | rfl) | hv
  · rfl
  · rfl
  · obtain ⟨b, _, rfl⟩ := List.mem_map.1 hv
    rfl
theorem oneSc (s : StepV) : ∀ v ∈ (scell s).toArray.toList, v.oneCell' = true := by
  have := oneS [s]
  rw [scells_one] at this
  simpa using this
theorem scells_at (l : List StepV) (h : S32 l) (k : Nat) (hk : k < l.length) (j : Nat) (v : Value) (hv : (scell (l.getD k ((0, 0), [])))[j]? = some v) : (scells l)[k * 34 + j]? = some v := by
  have e : l = l.take k ++ l.getD k ((0, 0), []) :: l.drop (k + 1) := by
    rw [List.getD_eq_getElem?_getD, List.getElem?_eq_getElem hk, Option.getD_some, ← List.drop_eq_getElem_cons hk, List.take_append_drop]
  have hl : (scells (l.take k)).length = k * 34 := by rw [scells_len _ (fun x hx => h x (List.mem_of_mem_take hx)), List.length_take, Nat.min_eq_left (Nat.le_of_lt hk)]
  generalize l.getD k ((0, 0), []) = s at e hv
  rw [e, scells_append, List.getElem?_append_right (by omega), hl, Nat.add_sub_cancel_left, scells, List.flatMap_cons, List.getElem?_append_left (List.getElem?_eq_some_iff.1 hv).1]
  exact hv
theorem explode32 (l : List UInt8) (h : l.length = 32) : ∃ a0 a1 a2 a3 a4 a5 a6 a7 a8 a9 a10 a11 a12 a13 a14 a15 a16 a17 a18 a19 a20 a21 a22 a23 a24 a25 a26 a27 a28 a29 a30 a31 : UInt8, l = [a0, a1, a2, a3, a4, a5, a6, a7, a8, a9, a10, a11, a12, a13, a14, a15, a16, a17, a18, a19, a20, a21, a22, a23, a24, a25, a26, a27, a28, a29, a30, a31] := by
  match l, h with
  | [a0, a1, a2, a3, a4, a5, a6, a7, a8, a9, a10, a11, a12, a13, a14, a15, a16, a17, a18, a19, a20, a21, a22, a23, a24, a25, a26, a27, a28, a29, a30, a31], _ => exact ⟨_, _, _, _, _, _, _, _, _, _, _, _, _, _, _, _, _, _, _, _, _, _, _, _, _, _, _, _, _, _, _, _, rfl⟩

/-- a type of such pairs, the type of its slices -/
structure StepT (T S : TypeId) : Prop where
  agg : ∀ w : World, (isAgg T).run Try.prog w = .ok true w
  size : ∀ w : World, (sizeOf T).run Try.prog w = .ok 34 w
  info : (Try.prog.info? T).map (fun i => (i.zero, i.size, i.bytes)) = some (some (.agg (scell ((0, 0), List.replicate 32 0)).toArray), 34, 48)
  slice : Try.prog.underlying S = some (.slice T)
  elem : Try.prog.elem S = T
  made : ∀ (a b : Nat) (l : List UInt8), l.length = 32 → Try.prog.built T [(0, .agg #[.int .i64 (a : Int), .int .i64 (b : Int)]), (1, .agg (l.map B).toArray)] = some (scell ((a, b), l)).toArray
theorem stepT1 : StepT 90 86 := ⟨fun _ => by kernel_rfl, fun _ => by kernel_rfl, by kernel_rfl, by kernel_rfl, by kernel_rfl, fun a b l h => by
  obtain ⟨a0, a1, a2, a3, a4, a5, a6, a7, a8, a9, a10, a11, a12, a13, a14, a15, a16, a17, a18, a19, a20, a21, a22, a23, a24, a25, a26, a27, a28, a29, a30, a31, rfl⟩ := explode32 l h
  kernel_rfl⟩
theorem stepT2 : StepT 92 54 := ⟨fun _ => by kernel_rfl, fun _ => by kernel_rfl, by kernel_rfl, by kernel_rfl, by kernel_rfl, fun a b l h => by
  obtain ⟨a0, a1, a2, a3, a4, a5, a6, a7, a8, a9, a10, a11, a12, a13, a14, a15, a16, a17, a18, a19, a20, a21, a22, a23, a24, a25, a26, a27, a28, a29, a30, a31, rfl⟩ := explode32 l h
  kernel_rfl⟩

theorem run_build_op {ρ : Operand → Value} {o : Oper} {T : TypeId} {ps : Array (Nat × Operand)} {cs : Array Value} (ho : o.op = .build T ps) (h : Try.prog.built T ((ps.map fun (i, x) => (i, ρ x)).toList) = some cs) (W : World) : (execOp ρ o).run Try.prog W = .ok (.value (.agg cs)) W := by
  unfold execOp
  simp only [ho, Sem.run_bind, Sem.run_pure, run_build W T _ cs h, Result.andThen_ok]
theorem run_build_st {T S : TypeId} (hT : StepT T S) {ρ : Operand → Value} {o : Oper} (x y : Operand) (a b : Nat) (l : List UInt8) (hl : l.length = 32) (ho : o.op = .build T #[(0, x), (1, y)]) (hx : ρ x = .agg #[.int .i64 (a : Int), .int .i64 (b : Int)]) (hy : ρ y = .agg (l.map B).toArray) (W : World) :
    (execOp ρ o).run Try.prog W = .ok (.value (.agg (scell ((a, b), l)).toArray)) W :=
  run_build_op ho (by
    have e : (#[(0, x), (1, y)].map fun (i, x) => (i, ρ x)).toList = [(0, .agg #[.int .i64 (a : Int), .int .i64 (b : Int)]), (1, .agg (l.map B).toArray)] := by simp [hx, hy]
    rw [e]
    exact hT.made a b l hl) W

/-- a variable that holds such a pair -/
structure SV (T : TypeId) (w : World) (g : Nat) (s : StepV) : Prop where
  blk : Blk w g T (scell s).toArray
  len : s.2.length = 32
section
variable {T S : TypeId} {w W : World} {g : Nat} {s : StepV}
theorem SV.step (h : SV T w g s) (hb : Below w.heap.size w W) : SV T W g s := ⟨h.blk.step hb, h.len⟩
theorem SV.lt (h : SV T w g s) : g < w.heap.size := h.blk.lt
theorem SV.drew (h : SV T w g s) : SV T w.drew g s := ⟨h.blk, h.len⟩
theorem SV.far {n : Nat} (h : SV T w g s) (hb : Below n w W) (hn : g < n) : SV T W g s := ⟨h.blk.below hb hn, h.len⟩
theorem SV.grown {row : Option Nat} (h : SV T w g s) (hg : w.grownBy W row) (hr : some g ≠ row) : SV T W g s := ⟨h.blk.grown hg hr, h.len⟩
theorem SV.load (hT : StepT T S) (h : SV T w g s) : (Instr.loadAt T (.pointer (some ⟨g, 0, none⟩))).run Try.prog w = .ok (.agg (scell s).toArray) w :=
  run_load_blk (hT.agg _) (hT.size _) g _ (by simp [length_scell s h.len]) h.blk
theorem SV.hash (h : SV T w g s) : (Instr.loadAt 45 (.pointer (some ⟨g, 2, none⟩))).run Try.prog w = .ok (.agg (s.2.map B).toArray) w :=
  run_load_agg (agg26 _) (size26 _) g 2 (s.2.map B) (by simp [h.len]) fun j u hu => by
    rw [h.blk.cell, List.getElem?_toArray]
    show ([Value.int .i64 (s.1.1 : Int), .int .i64 (s.1.2 : Int)] ++ s.2.map B)[2 + j]? = some u
    rw [List.getElem?_append_right (by simp)]
    simpa using hu
theorem SV.range (h : SV T w g s) : (Instr.loadAt 68 (.pointer (some ⟨g, 0, none⟩))).run Try.prog w = .ok (.agg #[.int .i64 (s.1.1 : Int), .int .i64 (s.1.2 : Int)]) w :=
  run_load_agg (aggR _) (sizeR _) g 0 [.int .i64 (s.1.1 : Int), .int .i64 (s.1.2 : Int)] rfl fun j u hu => by
    rw [h.blk.cell, List.getElem?_toArray, Nat.zero_add]
    show ([Value.int .i64 (s.1.1 : Int), .int .i64 (s.1.2 : Int)] ++ s.2.map B)[j]? = some u
    rw [List.getElem?_append_left (List.getElem?_eq_some_iff.1 hu).1]
    exact hu
end
section
variable {T S : TypeId} {w : World} {ops : Array Oper} {rest : List Oper} {o o1 o2 : Oper} {a : Act} {Q : Exit → Act → World → Prop} {s : StepV}
theorem run_alloc_st (hT : StepT T S) {ρ : Operand → Value} (ho : o.op = .alloc T) (w : World) : (execOp ρ o).run Try.prog w = .ok (.value (.pointer (some ⟨w.heap.size, 0, none⟩))) (w.alloc (.cells (scell ((0, 0), List.replicate 32 0)).toArray T)) := by
  obtain ⟨i, hi, hii⟩ := Option.map_eq_some_iff.1 hT.info
  simp only [Prod.mk.injEq] at hii
  unfold execOp
  rw [ho]
  simp [Instr.alloc, Sem.run_bind, zeroValue, typeInfo, hi, hii.1, newVar, newRow, Value.cells]
theorem wpList_snew (hT : StepT T S) (hg : o.guard = none) (ho : o.op = .alloc T) (h : ∀ W, SV T W w.heap.size ((0, 0), List.replicate 32 0) → Below w.heap.size w W → wpList Try.prog ops Q rest (a.put o.dst (.pointer (some ⟨w.heap.size, 0, none⟩))) W) : wpList Try.prog ops Q (o :: rest) a w :=
  wpList_run hg _ _ (run_alloc_st hT ho w) (h _ ⟨Blk.new w T _, rfl⟩ ((Below.refl _ _).alloc (Nat.le_refl _) _))
/-- such a variable is written over -/
theorem wpList_sset (hT : StepT T S) {g : Nat} {s' : StepV} (x y : Operand) (hg : o.guard = none) (ho : o.op = .store T x y) (k : SV T w g s') (hx : a.eval x = .pointer (some ⟨g, 0, none⟩)) (hy : a.eval y = .agg (scell s).toArray) (hl : s.2.length = 32)
    (h : ∀ W, SV T W g s → w.grownBy W (some g) → wpList Try.prog ops Q rest (a.put o.dst undef) W) : wpList Try.prog ops Q (o :: rest) a w :=
  wpList_store_blk hg T x y ho 34 hT.size g (scell s).toArray hx hy (by simp [length_scell s hl]) (oneSc s) T _ k.blk (by simp [length_scell s' k.len]) (h _ ⟨k.blk.setRow_ _, hl⟩ ⟨rfl, rfl, rfl, by simp, fun i _ hne => setRow_other w g i _ (fun e => hne (by rw [e]))⟩)
/-- a new one, written at once -/
theorem wpList_svar (hT : StepT T S) (x y : Operand) (hg1 : o1.guard = none) (hg2 : o2.guard = none) (ho1 : o1.op = .alloc T) (ho2 : o2.op = .store T x y)
    (hx : (a.put o1.dst (.pointer (some ⟨w.heap.size, 0, none⟩))).eval x = .pointer (some ⟨w.heap.size, 0, none⟩)) (hy : (a.put o1.dst (.pointer (some ⟨w.heap.size, 0, none⟩))).eval y = .agg (scell s).toArray) (hl : s.2.length = 32)
    (h : ∀ W, SV T W w.heap.size s → Below w.heap.size w W → wpList Try.prog ops Q rest ((a.put o1.dst (.pointer (some ⟨w.heap.size, 0, none⟩))).put o2.dst undef) W) : wpList Try.prog ops Q (o1 :: o2 :: rest) a w :=
  wpList_snew hT hg1 ho1 fun W k hb => wpList_sset hT x y hg2 ho2 k hx hy hl fun W' k' hg => h W' k' (hb.grown hg hb.size fun r e => by cases e; exact Nat.le_refl _)
/-- its hash is written over -/
theorem wpList_shash {g : Nat} {l : List UInt8} (x y : Operand) (hg : o.guard = none) (ho : o.op = .store 45 x y) (k : SV T w g s) (hx : a.eval x = .pointer (some ⟨g, 2, none⟩)) (hy : a.eval y = .agg (l.map B).toArray) (hl : l.length = 32)
    (h : ∀ W, SV T W g (s.1, l) → w.grownBy W (some g) → wpList Try.prog ops Q rest (a.put o.dst undef) W) : wpList Try.prog ops Q (o :: rest) a w := by
  refine wpList_store_agg hg 45 x y ho 32 size26 g 2 (l.map B).toArray hx hy (by simp [hl]) (oneCell_B _) T _ k.blk (by simp [length_scell s k.len]) ?_
  refine h _ ⟨?_, hl⟩ ⟨rfl, rfl, rfl, by simp, fun i _ hne => setRow_other w g i _ (fun e => hne (by rw [e]))⟩
  have e : (((scell s).toArray.toList.take 2 ++ (l.map B).toArray.toList ++ (scell s).toArray.toList.drop (2 + 32)).toArray) = (scell (s.1, l)).toArray := by
    have h1 : (scell s).drop 34 = [] := List.drop_eq_nil_of_le (by rw [length_scell s k.len]; exact Nat.le_refl _)
    show (((scell s).take 2 ++ l.map B ++ (scell s).drop 34).toArray) = _
    rw [h1]
    simp [scell]
  rw [e]
  exact k.blk.setRow_ _
end
/-- one more behind a row of one's own -/
theorem append_st {T S : TypeId} (hT : StepT T S) {w : World} {base n : Nat} {v : Value} {q : List StepV} (hown : w.ownsRow base T 34 v n (scells q)) (s : StepV) (hs : s.2.length = 32) (hn : n ≤ 1000000) (hbase : base ≤ w.heap.size) :
    ∃ v' w', (Builtin.append_ #[S, S] S #[v, .slice (some ⟨w.heap.size, 0, none⟩) 1 1]).run Try.prog (w.alloc (.cells (scell s).toArray T)) = .ok v' w' ∧ w'.ownsRow base T 34 v' (n + 1) (scells (q ++ [s])) ∧ w.grownBy w' v.ownBlock ∧ (v'.ownBlock = v.ownBlock ∨ ∃ k, v'.ownBlock = some k ∧ w.heap.size ≤ k) := by
  have hb : Below w.heap.size w (w.alloc (.cells (scell s).toArray T)) := (Below.refl _ _).alloc (Nat.le_refl _) _
  have hz : (Value.agg (scell ((0, 0), List.replicate 32 0)).toArray).cells.size = 34 := rfl
  obtain ⟨v', w', h1, h2, h3, h4⟩ := append_slv (P := Try.prog) (ty := S) hT.slice hT.info hz (by decide) (owns_step hown hb) (SlV.lit w (fun _ => True) T (scell s) (n := 1) (s := 34) (by rw [length_scell s hs]) (by unfold maxLen; omega) trivial) (by have := oneSc s; simpa using this) (by unfold maxLen; omega) (by omega) (Nat.le_trans hbase hb.size)
  refine ⟨v', w', h1, by rw [scells_append, scells_one]; exact h2, ⟨h3.os, h3.tape, h3.output, Nat.le_trans hb.size h3.size, fun k hk hne => (h3.block k (Nat.lt_of_lt_of_le hk hb.size) hne).trans (hb.block k hk)⟩, ?_⟩
  rcases h4 with h4 | ⟨k, h4, h5⟩
  · exact .inl h4
  · exact .inr ⟨k, h4, Nat.le_trans hb.size h5⟩
/-- a literal of one -/
theorem run_litS_op {T S : TypeId} (hT : StepT T S) {ρ : Operand → Value} {o : Oper} (s : StepV) (hs : s.2.length = 32) (y : Operand) (ho : o.op = .buildSlice S 1 #[(0, y)]) (hy : ρ y = .agg (scell s).toArray) (W : World) :
    (execOp ρ o).run Try.prog W = .ok (.value (.slice (some ⟨W.heap.size, 0, none⟩) 1 1)) (W.alloc (.cells (scell s).toArray T)) := by
  obtain ⟨i, hi, hii⟩ := Option.map_eq_some_iff.1 hT.info
  simp only [Prod.mk.injEq] at hii
  obtain ⟨hz, hsz, -⟩ := hii
  have := run_buildSlice (P := Try.prog) W S T 1 #[(0, .agg (scell s).toArray)] (scell s).toArray i _ hT.slice hi hz (by rw [hsz]; omega) (by rw [hsz]; omega) (by
    have hw := Great.fill_whole (s := 34) (by decide) [Value.agg (scell s).toArray] ((Array.range (1 * 34)).map ((Value.agg (scell ((0, 0), List.replicate 32 0)).toArray).cells[· % (Value.agg (scell ((0, 0), List.replicate 32 0)).toArray).cells.size]!)) (by intro v hv; rw [List.mem_singleton.1 hv]; simp [Value.cells, length_scell s hs]) (by simp)
    rw [hsz]
    exact hw.trans (by simp [Value.cells]))
  unfold execOp
  simp only [ho, Sem.run_bind, Sem.run_pure, show (#[(0, y)].map fun (x : Nat × Operand) => (x.1, ρ x.2)) = #[(0, .agg (scell s).toArray)] by simp [hy], this, Result.andThen_ok]
end Go.Proofs.Ytmglkblomklcbaa
/- The two roots that are put together out of a proof (plain). -/
namespace Go.Proofs.Ytmglkblomklcbaa
open Go Go.RowKit

/-- back through the steps of m in a stretch of n: the two hashes -/
def bothF : Nat → Nat → Nat → Bool → List UInt8 → List (List UInt8) → List UInt8 × List UInt8
  | 0, _, _, _, x, _ => (x, x)
  | f + 1, m, n, whole, x, p =>
    if m = n then (if whole then (x, x) else (p.getD 0 [], p.getD 0 []))
    else if m ≤ splitN n then ((bothF f m (splitN n) whole x p.dropLast).1, hNode (bothF f m (splitN n) whole x p.dropLast).2 (p.getD (p.length - 1) []))
    else (hNode (p.getD (p.length - 1) []) (bothF f (m - splitN n) (n - splitN n) false x p.dropLast).1, hNode (p.getD (p.length - 1) []) (bothF f (m - splitN n) (n - splitN n) false x p.dropLast).2)
theorem bothF_enough : ∀ (f g m n : Nat) (whole : Bool) (x : List UInt8) (p : List (List UInt8)), 1 ≤ m → m ≤ n → n ≤ f → n ≤ g → bothF f m n whole x p = bothF g m n whole x p
  | 0, _, _, _, _, _, _, h1, h2, h3, _ => by omega
  | _ + 1, 0, _, _, _, _, _, h1, h2, _, h4 => by omega
  | f + 1, g + 1, m, n, whole, x, p, h1, h2, h3, h4 => by
    simp only [bothF]
    split
    · rfl
    · have hl := splitN_lt n (by omega)
      have hp := splitN_pos n (by omega)
      split
      · rename_i h
        rw [bothF_enough f g m (splitN n) whole x _ h1 h (by omega) (by omega)]
      · rw [bothF_enough f g (m - splitN n) (n - splitN n) false x _ (by omega) (by omega) (by omega) (by omega)]
def bothL (m n : Nat) (whole : Bool) (x : List UInt8) (p : List (List UInt8)) : List UInt8 × List UInt8 := bothF n m n whole x p
theorem bothL_eq (m : Nat) (whole : Bool) (x : List UInt8) (p : List (List UInt8)) (h : 1 ≤ m) : bothL m m whole x p = if whole then (x, x) else (p.getD 0 [], p.getD 0 []) := by
  obtain ⟨k, rfl⟩ : ∃ k, m = k + 1 := ⟨m - 1, by omega⟩
  unfold bothL
  simp only [bothF, if_true]
theorem bothL_left (m n : Nat) (whole : Bool) (x : List UInt8) (p : List (List UInt8)) (h : 1 ≤ m) (hn : m < n) (hk : m ≤ splitN n) : bothL m n whole x p = ((bothL m (splitN n) whole x p.dropLast).1, hNode (bothL m (splitN n) whole x p.dropLast).2 (p.getD (p.length - 1) [])) := by
  have hl := splitN_lt n (by omega)
  unfold bothL
  rw [bothF_enough n (n + 1) m n whole x p h (by omega) (Nat.le_refl _) (by omega), bothF, if_neg (by omega), if_pos hk, bothF_enough n (splitN n) m (splitN n) whole x _ h hk (by omega) (Nat.le_refl _)]
theorem bothL_right (m n : Nat) (whole : Bool) (x : List UInt8) (p : List (List UInt8)) (h : 1 ≤ m) (hn : m < n) (hk : ¬ m ≤ splitN n) : bothL m n whole x p = (hNode (p.getD (p.length - 1) []) (bothL (m - splitN n) (n - splitN n) false x p.dropLast).1, hNode (p.getD (p.length - 1) []) (bothL (m - splitN n) (n - splitN n) false x p.dropLast).2) := by
  have hp := splitN_pos n (by omega)
  unfold bothL
  rw [bothF_enough n (n + 1) m n whole x p h (by omega) (Nat.le_refl _) (by omega), bothF, if_neg (by omega), if_neg hk, bothF_enough n (n - splitN n) (m - splitN n) (n - splitN n) false x _ (by omega) (by omega) (by omega) (Nat.le_refl _)]
/-- how many hashes are taken -/
def cntS (m n : Nat) (whole : Bool) : Nat := (stepsL m 0 n whole).length
theorem stepsL_cnt (d : Nat) : ∀ (m a b n : Nat) (whole : Bool), n ≤ d → 1 ≤ m → m ≤ n → (stepsL m a n whole).length = (stepsL m b n whole).length := by
  induction d with
  | zero => intro m a b n whole h h1 h2; omega
  | succ d ih =>
    intro m a b n whole h h1 h2
    by_cases hmn : m = n
    · subst hmn
      rw [stepsL_eq m a whole h1, stepsL_eq m b whole h1]
      split <;> rfl
    · have hl := splitN_lt n (by omega)
      have hp := splitN_pos n (by omega)
      by_cases hk : m ≤ splitN n
      · rw [stepsL_left m a n whole h1 (by omega) hk, stepsL_left m b n whole h1 (by omega) hk, List.length_append, List.length_append, ih m a b (splitN n) whole (by omega) h1 hk]; rfl
      · rw [stepsL_right m a n whole h1 (by omega) hk, stepsL_right m b n whole h1 (by omega) hk, List.length_append, List.length_append, ih (m - splitN n) (a + splitN n) (b + splitN n) (n - splitN n) false (by omega) (by omega) (by omega)]; rfl
theorem cntS_eq (m : Nat) (whole : Bool) (h : 1 ≤ m) : cntS m m whole = if whole then 0 else 1 := by
  unfold cntS
  rw [stepsL_eq m 0 whole h]
  split <;> rfl
theorem cntS_left (m n : Nat) (whole : Bool) (h : 1 ≤ m) (hn : m < n) (hk : m ≤ splitN n) : cntS m n whole = cntS m (splitN n) whole + 1 := by
  unfold cntS
  rw [stepsL_left m 0 n whole h hn hk, List.length_append]; rfl
theorem cntS_right (m n : Nat) (whole : Bool) (h : 1 ≤ m) (hn : m < n) (hk : ¬ m ≤ splitN n) : cntS m n whole = cntS (m - splitN n) (n - splitN n) false + 1 := by
  have hp := splitN_pos n (by omega)
  unfold cntS
  rw [stepsL_right m 0 n whole h hn hk, List.length_append, stepsL_cnt n (m - splitN n) (0 + splitN n) 0 (n - splitN n) false (by omega) (by omega) (by omega)]; rfl
theorem length_bothL (d : Nat) : ∀ (m n : Nat) (whole : Bool) (x : List UInt8) (p : List (List UInt8)), n ≤ d → 1 ≤ m → m ≤ n → x.length = 32 → H32 p → p.length = cntS m n whole → (bothL m n whole x p).1.length = 32 ∧ (bothL m n whole x p).2.length = 32 := by
  induction d with
  | zero => intro m n whole x p h h1 h2; omega
  | succ d ih =>
    intro m n whole x p h h1 h2 hx hp hc
    by_cases hmn : m = n
    · subst hmn
      rw [cntS_eq m whole h1] at hc
      rw [bothL_eq m whole x p h1]
      split
      · exact ⟨hx, hx⟩
      · rename_i hw
        rw [if_neg hw] at hc
        have := hp.getD 0 (by omega)
        exact ⟨this, this⟩
    · have hl := splitN_lt n (by omega)
      have hps := splitN_pos n (by omega)
      have hpd : H32 p.dropLast := by rw [List.dropLast_eq_take]; exact hp.take _
      by_cases hk : m ≤ splitN n
      · rw [cntS_left m n whole h1 (by omega) hk] at hc
        rw [bothL_left m n whole x p h1 (by omega) hk]
        exact ⟨(ih m (splitN n) whole x _ (by omega) h1 hk hx hpd (by rw [List.length_dropLast]; omega)).1, length_hNode _ _⟩
      · rw [bothL_right m n whole x p h1 (by omega) hk]
        exact ⟨length_hNode _ _, length_hNode _ _⟩
end Go.Proofs.Ytmglkblomklcbaa
/- notaryref12.both. -/
namespace Go.Proofs.Ytmglkblomklcbaa
open Go Go.RowKit

theorem results_cells2 {fn : Func} {p q : Tmp} {ty : TypeId} (h : fn.results = #[.cell p ty, .cell q ty]) (tmps : Array Value) (P : Program) (w : World) :
    (results fn tmps).run P w =
      ((asAddr (tmps.getD p undef)).run P w).andThen fun a w₁ => ((loadVar ty a).run P w₁).andThen fun v w₂ => ((asAddr (tmps.getD q undef)).run P w₂).andThen fun b w₃ => ((loadVar ty b).run P w₃).andThen fun u w₄ => .ok (.tuple #[v, u]) w₄ := by
  simp only [results, h]
  simp [Sem.run_bind, Result.andThen]
theorem tuple_cells2 {fn : Func} {p q : Tmp} (h : fn.results = #[.cell p 45, .cell q 45]) (tmps : Array Value) (w : World) (g g' : Nat) (x y : List UInt8)
    (hp : tmps.getD p undef = .pointer (some ⟨g, 0, none⟩)) (hq : tmps.getD q undef = .pointer (some ⟨g', 0, none⟩)) (hx : HV w g x) (hy : HV w g' y) :
    (results fn tmps).run Try.prog w = .ok (.tuple #[.agg (x.map B).toArray, .agg (y.map B).toArray]) w := by
  have l1 := run_loadVar_row (P := Try.prog) w g _ 45 _ (0, 0) _ hx.blk Try.underlying45 rfl (by rw [show (x.map B).toArray.size = 32 by simp [hx.len]]; exact info26)
  have l2 := run_loadVar_row (P := Try.prog) w g' _ 45 _ (0, 0) _ hy.blk Try.underlying45 rfl (by rw [show (y.map B).toArray.size = 32 by simp [hy.len]]; exact info26)
  rw [results_cells2 h, hp, hq]
  simp only [asAddr, Sem.run_pure, Result.andThen_ok, l1, l2]

end Go.Proofs.Ytmglkblomklcbaa
/- What cons.Both hands out: a function that takes the next hash, one that goes back through the steps. -/
namespace Go.Proofs.Ytmglkblomklcbaa
open Go Go.RowKit

theorem results_cell1 {fn : Func} {p : Tmp} (h : fn.results = #[.cell p 45]) (tmps : Array Value) (w : World) (g : Nat) (x : List UInt8) (hp : tmps.getD p undef = .pointer (some ⟨g, 0, none⟩)) (hx : HV w g x) :
    (results fn tmps).run Try.prog w = .ok (.agg (x.map B).toArray) w := by
  have l1 := run_loadVar_row (P := Try.prog) w g _ 45 _ (0, 0) _ hx.blk Try.underlying45 rfl (by rw [show (x.map B).toArray.size = 32 by simp [hx.len]]; exact info26)
  have hp' : tmps[p]?.getD undef = .pointer (some ⟨g, 0, none⟩) := by simpa using hp
  simp only [results, h]
  simp [hp', asAddr, l1]
theorem HV.grown {w W : World} {g : Nat} {l : List UInt8} {row : Option Nat} (h : HV w g l) (hg : w.grownBy W row) (hne : some g ≠ row) : HV W g l := ⟨h.blk.grown hg hne, h.len⟩
section
variable {M : Nat} {x : List UInt8} {p : List (List UInt8)} {A : Option Addr} {np c g4 g6 g7 g13 g14 g15 N j : Nat} {W W' : World}
end
theorem grownBy_below {A B C : World} {r : Option Nat} (h : A.grownBy B r) (k : Below A.heap.size B C) : A.grownBy C r :=
  ⟨k.os.trans h.os, k.tape.trans h.tape, k.output.trans h.output, Nat.le_trans h.size k.size, fun i hi hn => (k.block i hi).trans (h.block i hi hn)⟩
theorem grownBy_trans {A B C : World} {g : Nat} (h : A.grownBy B (some g)) (k : B.grownBy C (some g)) : A.grownBy C (some g) :=
  ⟨k.os.trans h.os, k.tape.trans h.tape, k.output.trans h.output, Nat.le_trans h.size k.size, fun i hi hn => (k.block i (Nat.lt_of_lt_of_le hi h.size) hn).trans (h.block i hi hn)⟩

section
variable {M : Nat} {x : List UInt8} {p : List (List UInt8)} {A : Option Addr} {np c g4 g6 g7 g13 g14 g15 N j : Nat} {w W W' : World}
end
theorem last_take (p : List (List UInt8)) (j e : Nat) (h : j + e < p.length) : ((p.drop j).take (e + 1)).dropLast = (p.drop j).take e ∧ ((p.drop j).take (e + 1)).getD (((p.drop j).take (e + 1)).length - 1) [] = p.getD (j + e) [] := by
  have hl : ((p.drop j).take (e + 1)).length = e + 1 := by rw [List.length_take, List.length_drop]; omega
  constructor
  · rw [List.dropLast_eq_take, hl, List.take_take]
    congr 1
    omega
  · rw [hl, Nat.add_sub_cancel, List.getD_eq_getElem?_getD, List.getElem?_take, if_pos (by omega), List.getElem?_drop, List.getD_eq_getElem?_getD]
end Go.Proofs.Ytmglkblomklcbaa
/- What cons.Both and cons.Check answer (plain). -/
namespace Go.Proofs.Ytmglkblomklcbaa
open Go Go.RowKit

def bothE (m n : Int) (x : List UInt8) (p : List (List UInt8)) : (List UInt8 × List UInt8) × Int :=
  if m < 1 ∨ n < m then ((zeroL, zeroL), 4) else if (stepsA m n).1.length ≠ p.length then ((zeroL, zeroL), 220) else (bothL m.toNat n.toNat true x p, 0)
def checkE (m n : Int) (x y : List UInt8) (p : List (List UInt8)) : Int :=
  if m < 0 ∨ n < m then 4 else if m = 0 then (if x ≠ hEmpty ∨ p.length ≠ 0 ∨ (n = 0 ∧ y ≠ x) then 220 else 0)
  else if (bothE m n x p).2 ≠ 0 ∨ (bothE m n x p).1.1 ≠ x ∨ (bothE m n x p).1.2 ≠ y then 220 else 0
theorem stepsA_cnt (m n : Int) (h1 : 1 ≤ m) (h2 : m ≤ n) : (stepsA m n).1.length = cntS m.toNat n.toNat true := by
  unfold stepsA
  rw [if_neg (by omega), if_neg (by omega)]
  rfl
theorem bothE_bad (m n : Int) (x : List UInt8) (p : List (List UInt8)) (h : m < 1 ∨ n < m) : bothE m n x p = ((zeroL, zeroL), 4) := if_pos h
theorem bothE_size (m n : Int) (x : List UInt8) (p : List (List UInt8)) (h : ¬ (m < 1 ∨ n < m)) (hs : (stepsA m n).1.length ≠ p.length) : bothE m n x p = ((zeroL, zeroL), 220) := by unfold bothE; rw [if_neg h, if_pos hs]
theorem bothE_ok (m n : Int) (x : List UInt8) (p : List (List UInt8)) (h : ¬ (m < 1 ∨ n < m)) (hs : (stepsA m n).1.length = p.length) : bothE m n x p = (bothL m.toNat n.toNat true x p, 0) := by unfold bothE; rw [if_neg h, if_neg (by simpa using hs)]
theorem length_bothE (m n : Int) (x : List UInt8) (p : List (List UInt8)) (hx : x.length = 32) (hp : H32 p) : (bothE m n x p).1.1.length = 32 ∧ (bothE m n x p).1.2.length = 32 := by
  by_cases h : m < 1 ∨ n < m
  · rw [bothE_bad m n x p h]; exact ⟨rfl, rfl⟩
  · by_cases hs : (stepsA m n).1.length = p.length
    · rw [bothE_ok m n x p h hs]
      exact length_bothL n.toNat m.toNat n.toNat true x p (Nat.le_refl _) (by omega) (by omega) hx hp (by rw [← hs, stepsA_cnt m n (by omega) (by omega)])
    · rw [bothE_size m n x p h hs]; exact ⟨rfl, rfl⟩
theorem bothE_e (m n : Int) (x : List UInt8) (p : List (List UInt8)) : (bothE m n x p).2 = 0 ∨ (bothE m n x p).2 = 4 ∨ (bothE m n x p).2 = 220 := by
  unfold bothE
  split
  · exact .inr (.inl rfl)
  · split
    · exact .inr (.inr rfl)
    · exact .inl rfl
end Go.Proofs.Ytmglkblomklcbaa
/- cons.Size; notaryref12.Prove. -/
namespace Go.Proofs.Ytmglkblomklcbaa
open Go Go.RowKit

structure RpI (w : World) (hs : List (List UInt8)) (A : Option Addr) (n c : Nat) (As : Option Addr) (ns cs b1 : Nat) (ls : List (Nat × Nat)) (q : List (List UInt8)) (v : Value) (W : World) : Prop where
  src : Hs W (· < w.heap.size) A n c hs
  st : Rs W (· < b1) As ns cs (natR ls)
  own : W.ownsRow b1 45 32 v q.length (hcells q)
  bel : Below w.heap.size w W
  le : w.heap.size ≤ b1
  sz : b1 ≤ W.heap.size

end Go.Proofs.Ytmglkblomklcbaa
/- cons.Both; notaryref12.Both. -/
namespace Go.Proofs.Ytmglkblomklcbaa
open Go Go.RowKit

theorem results_cells2t {fn : Func} {p q u : Tmp} {ty : TypeId} (h : fn.results = #[.cell p ty, .cell q ty, .tmp u]) (tmps : Array Value) (P : Program) (w : World) :
    (results fn tmps).run P w =
      ((asAddr (tmps.getD p undef)).run P w).andThen fun a w₁ => ((loadVar ty a).run P w₁).andThen fun v w₂ => ((asAddr (tmps.getD q undef)).run P w₂).andThen fun b w₃ => ((loadVar ty b).run P w₃).andThen fun z w₄ => .ok (.tuple #[v, z, tmps.getD u undef]) w₄ := by
  simp only [results, h]
  simp [Sem.run_bind, Result.andThen]
theorem tuple_cells2t {fn : Func} {p q u : Tmp} (h : fn.results = #[.cell p 45, .cell q 45, .tmp u]) (tmps : Array Value) (w : World) (g g' : Nat) (x y : List UInt8)
    (hp : tmps.getD p undef = .pointer (some ⟨g, 0, none⟩)) (hq : tmps.getD q undef = .pointer (some ⟨g', 0, none⟩)) (hx : HV w g x) (hy : HV w g' y) :
    (results fn tmps).run Try.prog w = .ok (.tuple #[.agg (x.map B).toArray, .agg (y.map B).toArray, tmps.getD u undef]) w := by
  have l1 := run_loadVar_row (P := Try.prog) w g _ 45 _ (0, 0) _ hx.blk Try.underlying45 rfl (by rw [show (x.map B).toArray.size = 32 by simp [hx.len]]; exact info26)
  have l2 := run_loadVar_row (P := Try.prog) w g' _ 45 _ (0, 0) _ hy.blk Try.underlying45 rfl (by rw [show (y.map B).toArray.size = 32 by simp [hy.len]]; exact info26)
  rw [results_cells2t h, hp, hq]
  simp only [asAddr, Sem.run_pure, Result.andThen_ok, l1, l2]
theorem length_zeroL : zeroL.length = 32 := rfl
theorem below_of_grownBy {n g : Nat} {w w' : World} (h : w.grownBy w' (some g)) (hn : n ≤ g) (hsz : n ≤ w.heap.size) : Below n w w' :=
  ⟨h.os, h.tape, h.output, h.size, fun k hk => h.block k (Nat.lt_of_lt_of_le hk hsz) (fun e => by have := Option.some.inj e; omega)⟩

end Go.Proofs.Ytmglkblomklcbaa
