/- tree.Of, notaryref09.Of, notaryref08.Empty. -/
import Derived.Test.YtfhmjgkcpcnkbaaDoorQf114
import Derived.Test.YtfhmjgkcpcnkbaaDoorQf113
import Derived.Test.YtfhmjgkcpcnkbaaDoorQf111
import Derived.Test.YtfhmjgkcpcnkbaaDoorQf101
namespace Go.Proofs.YtfhmjgkcpcnkbaaDoor
open Go Go.RowKit

theorem sizeHs : ∀ w : World, (sizeOf (Tryd.prog.elem 36)).run Tryd.prog w = .ok 32 w := fun _ => by kernel_rfl
theorem sliceHs : Tryd.prog.underlying 36 = some (.slice (Tryd.prog.elem 36)) := by kernel_rfl
/-- the root of a list of leaves' hashes -/
def rootL (hs : List (List UInt8)) : List UInt8 := rootF hEmpty hNode hs.length hs
theorem rootL_nil : rootL [] = hEmpty := rfl
theorem rootL_one (x : List UInt8) : rootL [x] = x := rfl
theorem rootL_more (hs : List (List UInt8)) (h : 2 ≤ hs.length) : rootL hs = hNode (rootL (hs.take (splitN hs.length))) (rootL (hs.drop (splitN hs.length))) := by
  unfold rootL
  rw [rootF_enough _ _ hs.length (hs.length + 1) hs (Nat.le_refl _) (by omega), rootF, if_neg (by omega), if_neg (by omega)]
  rw [rootF_enough _ _ hs.length (hs.take (splitN hs.length)).length _ (by rw [List.length_take]; omega) (Nat.le_refl _), rootF_enough _ _ hs.length (hs.drop (splitN hs.length)).length _ (by rw [List.length_drop]; omega) (Nat.le_refl _)]
theorem length_rootL (hs : List (List UInt8)) (h : H32 hs) : (rootL hs).length = 32 := by
  by_cases h2 : 2 ≤ hs.length
  · rw [rootL_more hs h2]; exact length_hNode _ _
  · match hs, h, h2 with
    | [], _, _ => exact length_hEmpty
    | [x], h, _ => exact h x (by simp)
    | _ :: _ :: _, _, h2 => exact absurd (by simp) h2
theorem run_slice_op_hi {ρ : Operand → Value} {o : Oper} (x y : Operand) (ho : o.op = .slice 36 x none (some y) none) (A : Option Addr) (n c k : Nat) (hx : ρ x = .slice A n c) (hy : ρ y = .int .i64 (k : Int)) (hk : k ≤ c) (W : World) :
    (execOp ρ o).run Tryd.prog W = .ok (.value (.slice A k c)) W := by
  unfold execOp
  simp only [ho, hx, hy, Option.map_some, Option.map_none, run_slice_high sliceHs sizeHs A n c k hk W, Sem.run_bind, Sem.run_pure, Result.andThen_ok]
theorem run_slice_op_lo {ρ : Operand → Value} {o : Oper} (x y : Operand) (ho : o.op = .slice 36 x (some y) none none) (A : Option Addr) (n c k : Nat) (hx : ρ x = .slice A n c) (hy : ρ y = .int .i64 (k : Int)) (hk : k ≤ n) (W : World) :
    (execOp ρ o).run Tryd.prog W = .ok (.value (.slice (if c = k then A else A.map (·.add (k * 32))) (n - k) (c - k))) W := by
  unfold execOp
  simp only [ho, hx, hy, Option.map_some, Option.map_none, run_slice_low sliceHs sizeHs A n c k hk W, Sem.run_bind, Sem.run_pure, Result.andThen_ok]

set_option maxHeartbeats 2000000 in
set_option maxRecDepth 100000 in
theorem tof_rec (d : Nat) : ∀ (hs : List (List UInt8)) (A : Option Addr) (n c : Nat) (w : World), n ≤ d → Hs w (fun _ => True) A n c hs → n ≤ 4398046511104 →
    Calls Tryd.prog 58 #[.slice A n c] w fun e w' => e = .returned (.agg ((rootL hs).map B).toArray) ∧ Below w.heap.size w w' := by
  induction d using Nat.strongRecOn with
  | ind d ih =>
  intro hs A n c w hnd h hn
  obtain ⟨zs, hzs⟩ : ∃ zs, zeroHash = zs := ⟨_, rfl⟩
  have hzl : zs.size = 32 := by rw [← hzs]; rfl
  have hlen := h.len
  have hroom := h.sl.room
  have hmax := h.sl.max
  unfold maxLen at hmax
  have hb0 := (Below.refl w.heap.size w).alloc (Nat.le_refl _) (.cells zs 48)
  have k0 := Blk.new w 48 zs
  have h0 := h.step hb0
  obtain ⟨r, hr⟩ : ∃ r, rootL hs = r := ⟨_, rfl⟩
  have hrl : r.length = 32 := by rw [← hr]; exact length_rootL hs h.all
  rw [hr]
  have Hzs := Lib.hid hzs
  have Hrl := Lib.hid hrl
  have Hr := Lib.hid hr
  have Hlen := Lib.hid hlen
  clear hzs hrl hr hlen
  by_cases hn0 : n = 0
  · subst hn0
    have hnil : hs = [] := List.eq_nil_of_length_eq_zero Hlen.out
    subst hnil
    obtain rfl : r = hEmpty := Hr.out.symm
    clear ih h h0
    go_enter Tryd.func58, Tryd.ntmps58
    go_wp2_with (first
      | ((with_reducible show wpList _ _ _ (⟨some 2, .alloc _, _, _, _, _⟩ :: _) _ _); refine wpList_run rfl (.pointer (some ⟨w.heap.size, 0, none⟩)) (w.alloc (.cells zs 48)) (by rw [← Hzs.out]; rfl) ?_; simp only [Act.put])
      | (go_at_call 41; refine (hempty_any _).mono ?_; rintro e w1 ⟨rfl, hb1⟩; have k1 := k0.below hb1 (by simp); have B1 := hb0.trans (hb1.mono (by simp)))
      | ((with_reducible show wpList _ _ _ (⟨none, .store _ _ _, _, _, _, _⟩ :: _) _ _); refine wpList_store_blk rfl 48 (.tmp 2) (.tmp 21) rfl 32 size26 w.heap.size (hEmpty.map B).toArray rfl rfl (by simp [Hrl.out]) (oneCell_B _) 48 _ k1 hzl ?_; simp only [Act.put]))
    refine bodyPost_ret (results_cell_row rfl _ _ w.heap.size 48 (hEmpty.map B).toArray (0, 0) _ rfl (k1.setRow_ _) Tryd.underlying48 rfl (by rw [show (hEmpty.map B).toArray.size = 32 by simp [Hrl.out]]; exact info26)) rfl ⟨rfl, ?_⟩
    exact below_setRow B1 (Nat.le_refl _) _
  by_cases hn1 : n = 1
  · subst hn1
    obtain ⟨x, rfl⟩ := List.length_eq_one_iff.1 Hlen.out
    obtain rfl : r = x := Hr.out.symm
    obtain ⟨b, o, rfl, -, -, hat⟩ := h0.at_ (by omega)
    have hld : (Instr.loadAt 48 (.pointer (some ⟨b, o, none⟩))).run Tryd.prog (w.alloc (.cells zs 48)) = .ok (.agg (r.map B).toArray) (w.alloc (.cells zs 48)) := hat 0 (by omega)
    have Hld := Lib.hid hld
    clear ih h h0 hat hld
    go_enter Tryd.func58, Tryd.ntmps58
    go_wp2_with (first
      | ((with_reducible show wpList _ _ _ (⟨some 2, .alloc _, _, _, _, _⟩ :: _) _ _); refine wpList_run rfl (.pointer (some ⟨w.heap.size, 0, none⟩)) (w.alloc (.cells zs 48)) (by rw [← Hzs.out]; rfl) ?_; simp only [Act.put])
      | ((with_reducible show wpList _ _ _ (⟨some 26, .load _ _, _, _, _, _⟩ :: _) _ _); refine wpList_load rfl 48 (.tmp 25) rfl b o rfl (r.map B).toArray Hld.out ?_; simp only [Act.put])
      | ((with_reducible show wpList _ _ _ (⟨none, .store _ _ _, _, _, _, _⟩ :: _) _ _); refine wpList_store_blk rfl 48 (.tmp 2) (.tmp 26) rfl 32 size26 w.heap.size (r.map B).toArray rfl rfl (by simp [Hrl.out]) (oneCell_B _) 48 _ k0 hzl ?_; simp only [Act.put]))
    refine bodyPost_ret (results_cell_row rfl _ _ w.heap.size 48 (r.map B).toArray (0, 0) _ rfl (k0.setRow_ _) Tryd.underlying48 rfl (by rw [show (r.map B).toArray.size = 32 by simp [Hrl.out]]; exact info26)) rfl ⟨rfl, ?_⟩
    exact below_setRow hb0 (Nat.le_refl _) _
  have hne0 : ((n : Int) == 0) = false := by simp; omega
  have hne1 : ((n : Int) == 1) = false := by simp; omega
  have hmore := rootL_more hs (by rw [Hlen.out]; omega)
  rw [Hlen.out, Hr.out] at hmore
  have hspl := fun w => tsplit_any (n : Int) w (by omega)
  rw [Int.toNat_natCast] at hspl
  have hsl := splitN_lt n (by omega)
  have hsp := splitN_pos n (by omega)
  obtain ⟨s, hs'⟩ : ∃ s, splitN n = s := ⟨_, rfl⟩
  rw [hs'] at hmore hspl hsl hsp
  have hL := fun W (hW : Below (w.alloc (.cells zs 48)).heap.size (w.alloc (.cells zs 48)) W) => ih s (by omega) (hs.take s) A s c W (Nat.le_refl _) ((h0.step hW).take s (by omega)) (by omega)
  have hR := fun W (hW : Below (w.alloc (.cells zs 48)).heap.size (w.alloc (.cells zs 48)) W) => ih (n - s) (by omega) (hs.drop s) _ (n - s) (c - s) W (Nat.le_refl _) ((h0.step hW).drop s (by omega)) (by omega)
  obtain ⟨x, hx⟩ : ∃ x, rootL (hs.take s) = x := ⟨_, rfl⟩
  obtain ⟨y, hy⟩ : ∃ y, rootL (hs.drop s) = y := ⟨_, rfl⟩
  have hxl : x.length = 32 := by rw [← hx]; exact length_rootL _ (h.all.take s)
  have hyl : y.length = 32 := by rw [← hy]; exact length_rootL _ (h.all.drop s)
  rw [hx] at hL hmore
  rw [hy] at hR hmore
  have hN := fun W => hnode_any x y W hxl hyl
  rw [← hmore] at hN
  have Hspl := Lib.hid hspl
  have HL := Lib.hid hL
  have HR := Lib.hid hR
  have HN := Lib.hid hN
  clear hspl hL hR hN hx hy hxl hyl hmore hs' ih h
  go_enter Tryd.func58, Tryd.ntmps58
  go_wp2_with (first
    | ((with_reducible show wpList _ _ _ (⟨some 2, .alloc _, _, _, _, _⟩ :: _) _ _); refine wpList_run rfl (.pointer (some ⟨w.heap.size, 0, none⟩)) (w.alloc (.cells zs 48)) (by rw [← Hzs.out]; rfl) ?_; simp only [Act.put])
    | (go_at_call 71; refine (Hspl.out _).mono ?_; rintro e w1 ⟨rfl, rfl⟩))
  generalize w.alloc (.cells zs 48) = w1 at hb0 k0 h0 HL HR ⊢
  have hS : Below w1.heap.size w1 w1.drew := (Below.refl _ _).drew
  refine wp_region_mix_last (fun W => Below w1.heap.size w1 W) 9 [(0, true), (1, true), (2, true), (4, true), (5, true), (6, true), (3, false), (7, false), (8, false)] (by kernel_rfl) (by kernel_rfl) hS fun _ => ?_
  simp only [List.map_cons, List.map_nil, Array.getD_eq_getD_getElem?, List.getElem?_toArray, List.getElem?_cons_succ, List.getElem?_cons_zero, Option.getD_some]
  generalize w1.drew = W0 at hS ⊢
  refine wpMix_s (fun K hK => ?_)
  go_simp
  refine hK _ ?_
  clear hK K
  refine wpMix_s (fun K hK => ?_)
  go_simp
  refine hK _ ?_
  clear hK K
  refine wpMix_v (by kernel_rfl) (.slice A s c) (fun u => run_slice_op_hi (.tmp 10) (.tmp 11) rfl A n c s rfl rfl (by omega) u.W) ?_
  simp only [Act.put]
  refine wpMix_s (fun K hK => ?_)
  go_simp
  refine hK _ ?_
  clear hK K
  refine wpMix_s (fun K hK => ?_)
  go_simp
  refine hK _ ?_
  clear hK K
  refine wpMix_v (by kernel_rfl) (.slice (if c = s then A else A.map (·.add (s * 32))) (n - s) (c - s)) (fun u => run_slice_op_lo (.tmp 14) (.tmp 15) rfl A n c s rfl rfl (by omega) u.W) ?_
  simp only [Act.put]
  refine wpMix_c (fun K hK => ?_) hS
  go_simp
  refine (HL.out W0 hS).mono ?_
  rintro e W1 ⟨rfl, hb'⟩
  refine hK _ _ ?_
  clear hK K
  replace hS := hS.trans (hb'.mono hS.size)
  refine ⟨hS, ?_⟩
  clear hb'
  refine wpMix_c (fun K hK => ?_) hS
  go_simp
  refine (HR.out W1 hS).mono ?_
  rintro e W2 ⟨rfl, hb'⟩
  refine hK _ _ ?_
  clear hK K
  replace hS := hS.trans (hb'.mono hS.size)
  refine ⟨hS, ?_⟩
  clear hb'
  refine wpMix_c (fun K hK => ?_) hS
  go_simp
  refine (HN.out W2).mono ?_
  rintro e W3 ⟨rfl, hb'⟩
  refine hK _ _ ?_
  clear hK K
  replace hS := hS.trans (hb'.mono hS.size)
  refine ⟨hS, ?_⟩
  clear hb'
  refine wpMix_nil ?_
  intro _
  simp only [List.drop_succ_cons, List.drop_zero]
  have k3 := k0.below hS k0.lt
  go_wp2_with ((with_reducible show wpList _ _ _ (⟨none, .store _ _ _, _, _, _, _⟩ :: _) _ _); refine wpList_store_blk rfl 48 (.tmp 2) (.tmp 18) rfl 32 size26 w.heap.size (r.map B).toArray rfl rfl (by simp [Hrl.out]) (oneCell_B _) 48 _ k3 hzl ?_; simp only [Act.put])
  refine np_normal ?_
  go_wp2_with fail
  refine bodyPost_ret (results_cell_row rfl _ _ w.heap.size 48 (r.map B).toArray (0, 0) _ rfl (k3.setRow_ _) Tryd.underlying48 rfl (by rw [show (r.map B).toArray.size = 32 by simp [Hrl.out]]; exact info26)) rfl ⟨rfl, ?_⟩
  exact below_setRow (hb0.trans (hS.mono hb0.size)) (Nat.le_refl _) _
theorem tof_any (hs : List (List UInt8)) (A : Option Addr) (n c : Nat) (w : World) (h : Hs w (fun _ => True) A n c hs) (hn : n ≤ 4398046511104) :
    Calls Tryd.prog 58 #[.slice A n c] w fun e w' => e = .returned (.agg ((rootL hs).map B).toArray) ∧ Below w.heap.size w w' := tof_rec n hs A n c w (Nat.le_refl _) h hn
end Go.Proofs.YtfhmjgkcpcnkbaaDoor
/- Tiles, in plain Lean: how many hashes a level has; which tiles grow. -/
namespace Go.Proofs.YtfhmjgkcpcnkbaaDoor

/-- how many hashes a level has -/
def cT (h l n : Nat) : Nat := n / 2 ^ (h * l)
theorem cT_mono (h l : Nat) {m n : Nat} (hmn : m ≤ n) : cT h l m ≤ cT h l n := Nat.div_le_div_right hmn
theorem cT_zero (h l n : Nat) (hn : n < 9223372036854775808) (hl : 62 < h * l) : cT h l n = 0 := by
  unfold cT
  refine Nat.div_eq_of_lt (Nat.lt_of_lt_of_le hn ?_)
  have := Nat.pow_le_pow_right (n := 2) (by decide) (show 63 ≤ h * l from hl)
  exact Nat.le_trans (by decide) this
theorem cT_succ (h l n : Nat) : cT h (l + 1) n = cT h l n / 2 ^ h := by
  unfold cT
  rw [Nat.mul_succ, Nat.pow_add, Nat.div_div_eq_div_mul]
theorem cT_dec (h l n : Nat) (hh : 1 ≤ h) (hc : 0 < cT h l n) : cT h (l + 1) n < cT h l n := by
  rw [cT_succ]
  refine Nat.div_lt_self hc ?_
  have := Nat.pow_le_pow_right (n := 2) (by decide) hh
  omega
theorem cT_later (h l n d : Nat) (hc : cT h l n = 0) : cT h (l + d) n = 0 := by
  induction d with
  | zero => exact hc
  | succ d ih => rw [← Nat.add_assoc, cT_succ, ih, Nat.zero_div]
theorem cT_le (h l n : Nat) : cT h l n ≤ n := Nat.div_le_self _ _
/-- the tiles of a level that grow: level, number, width -/
def gL (h m n l : Nat) : List (Nat × Nat × Nat) :=
  if cT h l m < cT h l n then (List.range ((cT h l n - 1) / 2 ^ h + 1 - cT h l m / 2 ^ h)).map fun j => (l, cT h l m / 2 ^ h + j, min (2 ^ h) (cT h l n - (cT h l m / 2 ^ h + j) * 2 ^ h)) else []
/-- of the first k levels -/
def gA (h m n k : Nat) : List (Nat × Nat × Nat) := (List.range k).flatMap (gL h m n)
theorem gA_succ (h m n k : Nat) : gA h m n (k + 1) = gA h m n k ++ gL h m n k := by
  unfold gA
  rw [List.range_succ, List.flatMap_append, List.flatMap_singleton]
theorem gL_none (h m n l : Nat) (hc : cT h l n = 0) : gL h m n l = [] := by
  unfold gL
  rw [hc, if_neg (Nat.not_lt_zero _)]
theorem gL_same (h m n l : Nat) (hc : cT h l m = cT h l n) : gL h m n l = [] := by
  unfold gL
  rw [hc, if_neg (Nat.lt_irrefl _)]
theorem gA_end (h m n k d : Nat) (hc : cT h k n = 0) : gA h m n (k + d) = gA h m n k := by
  induction d with
  | zero => rfl
  | succ d ih => rw [← Nat.add_assoc, gA_succ, ih, gL_none h m n (k + d) (cT_later h k n d hc), List.append_nil]
/-- all levels -/
def gR (h m n : Nat) : List (Nat × Nat × Nat) := gA h m n 63
theorem gA_full (h m n k : Nat) (hk : k ≤ 63) (hc : cT h k n = 0) : gA h m n k = gR h m n := by
  have := gA_end h m n k (63 - k) hc
  rw [show k + (63 - k) = 63 by omega] at this
  exact this.symm
theorem gA_le (h m n k d : Nat) : (gA h m n k).length ≤ (gA h m n (k + d)).length := by
  induction d with
  | zero => exact Nat.le_refl _
  | succ d ih => rw [← Nat.add_assoc, gA_succ, List.length_append]; omega
theorem gA_leR (h m n k : Nat) (hk : k ≤ 63) : (gA h m n k).length ≤ (gR h m n).length := by
  have := gA_le h m n k (63 - k)
  rw [show k + (63 - k) = 63 by omega] at this
  exact this
theorem gL_len (h m n l : Nat) (hc : cT h l m < cT h l n) : (gL h m n l).length = (cT h l n - 1) / 2 ^ h + 1 - cT h l m / 2 ^ h := by
  unfold gL
  rw [if_pos hc, List.length_map, List.length_range]
/-- a level with hashes is among the first 63 -/
theorem cT_lev (h l n : Nat) (hh : 1 ≤ h) (hn : n < 9223372036854775808) (hc : 0 < cT h l n) : h * l ≤ 62 ∧ l ≤ 62 := by
  have h1 : h * l ≤ 62 := by
    apply Classical.byContradiction
    intro hne
    have := cT_zero h l n hn (by omega)
    omega
  refine ⟨h1, Nat.le_trans ?_ h1⟩
  exact Nat.le_mul_of_pos_left l hh
/-- what Grown answers: the places, the error -/
def grownA (h m n : Nat) : List (Nat × Nat × Nat) × Int := if (gR h m n).length ≤ 65536 then (gR h m n, 0) else ([], 3)
end Go.Proofs.YtfhmjgkcpcnkbaaDoor
/- Tiles, in plain Lean: the levels of a list of hashes, its tiles, and what one hash more changes. -/
namespace Go.Proofs.YtfhmjgkcpcnkbaaDoor
open Go Go.RowKit
abbrev HL := List (List UInt8)

theorem rootL_pow2 (k : Nat) (a b : HL) (ha : a.length = 2 ^ k) (hb : b.length = 2 ^ k) : rootL (a ++ b) = hNode (rootL a) (rootL b) := by
  have hp := Nat.two_pow_pos k
  have h2 : 2 ^ (k + 1) = 2 ^ k + 2 ^ k := by rw [Nat.pow_succ]; omega
  have hl : (a ++ b).length = 2 ^ k + 2 ^ k := by rw [List.length_append, ha, hb]
  rw [rootL_more (a ++ b) (by rw [hl]; omega), hl, splitN_eq (2 ^ k + 2 ^ k) k (by omega) (by omega), ← ha, List.take_left, List.drop_left]
theorem pow2_two (k : Nat) : pow2 (2 ^ k) = true := by
  induction k with
  | zero => rfl
  | succ k ih => rw [show 2 ^ (k + 1) = 2 ^ k + 2 ^ k by rw [Nat.pow_succ]; omega, pow2_double]; exact ih
theorem topL_append : ∀ (k : Nat) (a b : HL), a.length = 2 ^ k → b.length = 2 ^ k → topL (a ++ b) = hNode (topL a) (topL b)
  | 0, a, b, ha, hb => by
    obtain ⟨x, rfl⟩ := List.length_eq_one_iff.1 ha
    obtain ⟨y, rfl⟩ := List.length_eq_one_iff.1 hb
    rw [topL_one, topL_one, topL_more _ (by simp)]
    have : pairsL ([x] ++ [y]) = [hNode x y] := by simp [pairsL]
    rw [this, topL_one]
  | k + 1, a, b, ha, hb => by
    have hp := Nat.two_pow_pos k
    have h2 : 2 ^ (k + 1) = 2 ^ k + 2 ^ k := by rw [Nat.pow_succ]; omega
    rw [topL_more (a ++ b) (by rw [List.length_append]; omega), topL_more a (by omega), topL_more b (by omega), pairsL_append a b (by omega)]
    exact topL_append k _ _ (by rw [length_pairsL]; omega) (by rw [length_pairsL]; omega)
theorem topL_root : ∀ (k : Nat) (l : HL), l.length = 2 ^ k → topL l = rootL l
  | 0, l, h => by
    obtain ⟨x, rfl⟩ := List.length_eq_one_iff.1 h
    rw [topL_one, rootL_one]
  | k + 1, l, h => by
    have h2 : 2 ^ (k + 1) = 2 ^ k + 2 ^ k := by rw [Nat.pow_succ]; omega
    rw [← List.take_append_drop (2 ^ k) l]
    have h3 : (l.take (2 ^ k)).length = 2 ^ k := by rw [List.length_take]; omega
    have h4 : (l.drop (2 ^ k)).length = 2 ^ k := by rw [List.length_drop]; omega
    rw [topL_append k _ _ h3 h4, rootL_pow2 k _ _ h3 h4, topL_root k _ h3, topL_root k _ h4]
/-- the j-th stretch of s -/
def ck (s j : Nat) (L : HL) : HL := (L.drop (j * s)).take s
theorem ck_len (s j : Nat) (L : HL) (h : (j + 1) * s ≤ L.length) : (ck s j L).length = s := by
  unfold ck
  rw [List.length_take, List.length_drop]
  rw [Nat.add_mul] at h
  omega
theorem ck_pre (s j : Nat) (L M : HL) (h : (j + 1) * s ≤ L.length) : ck s j (L ++ M) = ck s j L := by
  unfold ck
  rw [Nat.add_mul] at h
  rw [List.drop_append_of_le_length (by omega), List.take_append_of_le_length (by rw [List.length_drop]; omega)]
theorem ck_get (s b : Nat) (M : HL) (i : Nat) (h1 : i < (ck s b M).length) : ∃ h2 : b * s + i < M.length, (ck s b M)[i] = M[b * s + i] :=
  ⟨by unfold ck at h1; rw [List.length_take, List.length_drop] at h1; omega, by simp [ck]⟩
theorem ck_two (s j : Nat) (L : HL) : ck (s + s) j L = ck s (2 * j) L ++ ck s (2 * j + 1) L := by
  unfold ck
  rw [List.take_add, List.drop_drop, show j * (s + s) = 2 * j * s by rw [Nat.mul_add, Nat.mul_comm 2 j, Nat.mul_assoc, Nat.two_mul, Nat.mul_add], show (2 * j + 1) * s = 2 * j * s + s by rw [Nat.add_mul, Nat.one_mul]]
/-- the root of stretches' roots is the root of them together -/
theorem root_chunks (t : Nat) (L : HL) : ∀ (k c : Nat), (c + 1) * (2 ^ k * 2 ^ t) ≤ L.length → rootL ((List.range (2 ^ k)).map fun i => rootL (ck (2 ^ t) (c * 2 ^ k + i) L)) = rootL (ck (2 ^ k * 2 ^ t) c L)
  | 0, c, _ => by simp [rootL_one]
  | k + 1, c, h => by
    have h2 : 2 ^ (k + 1) = 2 ^ k + 2 ^ k := by rw [Nat.pow_succ]; omega
    have e1 : 2 ^ (k + 1) * 2 ^ t = 2 ^ k * 2 ^ t + 2 ^ k * 2 ^ t := by rw [h2, Nat.add_mul]
    rw [e1] at h ⊢
    have e2 : (c + 1) * (2 ^ k * 2 ^ t + 2 ^ k * 2 ^ t) = (2 * c + 1 + 1) * (2 ^ k * 2 ^ t) := by
      rw [Nat.mul_add, ← Nat.add_mul]; congr 1; omega
    have h3 : (2 * c + 1) * (2 ^ k * 2 ^ t) ≤ (2 * c + 1 + 1) * (2 ^ k * 2 ^ t) := Nat.mul_le_mul_right _ (by omega)
    rw [e2] at h
    rw [ck_two, rootL_pow2 (k + t) _ _ (by rw [ck_len _ _ _ (by omega), Nat.pow_add]) (by rw [ck_len _ _ _ h, Nat.pow_add])]
    rw [← root_chunks t L k (2 * c) (by omega), ← root_chunks t L k (2 * c + 1) h]
    rw [h2, List.range_add, List.map_append, List.map_map, rootL_pow2 k _ _ (by simp) (by simp)]
    have f1 : ∀ i, c * (2 ^ k + 2 ^ k) + i = 2 * c * 2 ^ k + i := fun i => by rw [Nat.mul_add, Nat.mul_assoc, Nat.two_mul]
    have f2 : ∀ i, c * (2 ^ k + 2 ^ k) + (2 ^ k + i) = (2 * c + 1) * 2 ^ k + i := fun i => by rw [f1, Nat.add_mul, Nat.one_mul]; omega
    simp only [f1, Function.comp_def]
    congr 2
    refine List.map_congr_left fun i _ => ?_
    rw [← f1, f2]
/-- the hashes of a level -/
def lvT (h l : Nat) (L : HL) : HL := (List.range (cT h l L.length)).map fun j => rootL (ck (2 ^ (h * l)) j L)
theorem lvT_len (h l : Nat) (L : HL) : (lvT h l L).length = cT h l L.length := by simp [lvT]
theorem lvT_get (h l : Nat) (L : HL) (j : Nat) (hj : j < (lvT h l L).length) : (lvT h l L)[j] = rootL (ck (2 ^ (h * l)) j L) := by simp [lvT]
theorem lvT_zero (h : Nat) (L : HL) : lvT h 0 L = L := by
  apply List.ext_getElem
  · rw [lvT_len]; unfold cT; simp
  · intro i h1 h2
    rw [lvT_get]
    have : ck (2 ^ (h * 0)) i L = [L[i]] := by
      unfold ck
      rw [Nat.mul_zero, Nat.pow_zero, Nat.mul_one, List.drop_eq_getElem_cons h2, List.take_succ_cons, List.take_zero]
    rw [this, rootL_one]
theorem lvT_32 (h l : Nat) (L : HL) (hL : H32 L) : H32 (lvT h l L) := fun x hx => by
  obtain ⟨j, _, rfl⟩ := List.mem_map.1 hx
  exact length_rootL _ ((hL.drop _).take _)
theorem mul_le_of_lt_div {j n s : Nat} (h : j < n / s) : (j + 1) * s ≤ n := Nat.le_trans (Nat.mul_le_mul_right _ h) (Nat.div_mul_le_self n s)
/-- one hash more: of a level whose stretch is now whole -/
theorem lvT_full (h l : Nat) (L : HL) (x : List UInt8) (hd : 2 ^ (h * l) ∣ L.length + 1) : lvT h l (L ++ [x]) = lvT h l L ++ [rootL (ck (2 ^ (h * l)) (cT h l L.length) (L ++ [x]))] := by
  have hp := Nat.two_pow_pos (h * l)
  have e : (L.length + 1) / 2 ^ (h * l) = L.length / 2 ^ (h * l) + 1 := by
    obtain ⟨q, hq⟩ := hd
    generalize 2 ^ (h * l) = s at hp hq
    rw [hq, Nat.mul_div_cancel_left _ hp]
    rcases q with _ | q
    · omega
    · have : L.length = s * q + (s - 1) := by rw [Nat.mul_succ] at hq; omega
      rw [this, Nat.mul_add_div hp, Nat.div_eq_of_lt (by omega)]
  unfold lvT cT
  rw [List.length_append, List.length_singleton, e, List.range_succ, List.map_append, List.map_singleton]
  congr 1
  refine List.map_congr_left fun j hj => ?_
  rw [ck_pre _ _ _ _ (mul_le_of_lt_div (List.mem_range.1 hj))]
/-- .. of any other level -/
theorem lvT_same (h l : Nat) (L : HL) (x : List UInt8) (hd : ¬ 2 ^ (h * l) ∣ L.length + 1) : lvT h l (L ++ [x]) = lvT h l L := by
  have e : (L.length + 1) / 2 ^ (h * l) = L.length / 2 ^ (h * l) := by rw [Nat.succ_div, if_neg hd, Nat.add_zero]
  unfold lvT cT
  rw [List.length_append, List.length_singleton, e]
  refine List.map_congr_left fun j hj => ?_
  rw [ck_pre _ _ _ _ (mul_le_of_lt_div (List.mem_range.1 hj))]
/-- one hash more in a list of tiles -/
theorem ck_snoc (s : Nat) (hs : 0 < s) (M : HL) (y : List UInt8) (b : Nat) : ck s b (M ++ [y]) = if b = M.length / s then ck s b M ++ [y] else ck s b M := by
  unfold ck
  by_cases hb : b = M.length / s
  · rw [if_pos hb]
    have h1 := Nat.div_mul_le_self M.length s
    have h2 := Nat.lt_div_mul_add (a := M.length) hs
    subst hb
    rw [List.drop_append_of_le_length h1, List.take_of_length_le (by rw [List.length_append, List.length_drop, List.length_singleton]; omega), List.take_of_length_le (by rw [List.length_drop]; omega)]
  · rw [if_neg hb]
    by_cases hl : b < M.length / s
    · have := mul_le_of_lt_div hl
      rw [Nat.add_mul] at this
      rw [List.drop_append_of_le_length (by omega), List.take_append_of_le_length (by rw [List.length_drop]; omega)]
    · have h3 : M.length / s + 1 ≤ b := by omega
      have h4 := Nat.mul_le_mul_right s h3
      have h2 := Nat.lt_div_mul_add (a := M.length) hs
      rw [Nat.add_mul, Nat.one_mul] at h4
      rw [List.drop_of_length_le (by rw [List.length_append, List.length_singleton]; omega), List.drop_of_length_le (by omega)]
theorem ck_last_len (s : Nat) (hs : 0 < s) (M : HL) : (ck s (M.length / s) M).length = M.length % s := by
  unfold ck
  have h1 := Nat.div_add_mod M.length s
  have h2 := Nat.mod_lt M.length hs
  rw [Nat.mul_comm] at h1
  rw [List.length_take, List.length_drop]
  omega
/-- the root of a whole tile -/
theorem tile_root (h l b : Nat) (L : HL) (hb : (b + 1) * 2 ^ h ≤ cT h l L.length) : rootL (ck (2 ^ h) b (lvT h l L)) = rootL (ck (2 ^ (h * (l + 1))) b L) := by
  have hp := Nat.two_pow_pos (h * l)
  have e : 2 ^ (h * (l + 1)) = 2 ^ h * 2 ^ (h * l) := by rw [← Nat.pow_add]; congr 1; rw [Nat.mul_succ]; omega
  have hle : (b + 1) * (2 ^ h * 2 ^ (h * l)) ≤ L.length := by
    rw [← Nat.mul_assoc]
    exact Nat.le_trans (Nat.mul_le_mul_right _ hb) (Nat.div_mul_le_self _ _)
  rw [e, ← root_chunks (h * l) L h b hle]
  congr 1
  apply List.ext_getElem
  · rw [ck_len _ _ _ (by rw [lvT_len]; exact hb)]; simp
  · intro i h1 h2
    obtain ⟨h3, h4⟩ := ck_get (2 ^ h) b (lvT h l L) i h1
    rw [List.getElem_map, List.getElem_range, h4, lvT_get]
/-- the tiles of a list: level, number -/
def tileG (h : Nat) (L : HL) (a b : Int) : HL := if 0 ≤ a ∧ 0 ≤ b then ck (2 ^ h) b.toNat (lvT h a.toNat L) else []
theorem tileG_32 (h : Nat) (L : HL) (hL : H32 L) (a b : Int) : H32 (tileG h L a b) := by
  unfold tileG
  split
  · exact (((lvT_32 h _ L hL).drop _).take _)
  · intro x hx; cases hx
theorem tileG_nat (h : Nat) (L : HL) (a b : Nat) : tileG h L a b = ck (2 ^ h) b (lvT h a L) := by
  unfold tileG
  rw [if_pos ⟨Int.natCast_nonneg _, Int.natCast_nonneg _⟩]
  rfl
theorem tileG_nil (h : Nat) (a b : Int) : tileG h [] a b = [] := by
  unfold tileG
  split
  · have : lvT h a.toNat [] = [] := by unfold lvT cT; simp
    rw [this]
    unfold ck
    simp
  · rfl
/-- tiles, one of them turned -/
def updG (G : Int → Int → HL) (a b : Int) (r : HL) : Int → Int → HL := fun x y => if x = a ∧ y = b then r else G x y
/-- a hash is put onto a level, and what it makes whole onto the next one -/
def pushG (h : Nat) : Nat → (Int → Int → HL) → Nat → Nat → List UInt8 → (Int → Int → HL)
  | 0, G, _, _, _ => G
  | k + 1, G, l, n, x =>
    if (G l (n / 2 ^ h : Nat) ++ [x]).length = 2 ^ h then pushG h k (updG G l (n / 2 ^ h : Nat) (G l (n / 2 ^ h : Nat) ++ [x])) (l + 1) (n / 2 ^ h) (topL (G l (n / 2 ^ h : Nat) ++ [x]))
    else updG G l (n / 2 ^ h : Nat) (G l (n / 2 ^ h : Nat) ++ [x])
/-- the lower levels of one list, the upper ones of another -/
def mixG (h l : Nat) (L L' : HL) (a b : Int) : HL := if a < (l : Int) then tileG h L' a b else tileG h L a b
theorem mix_step (h l : Nat) (L : HL) (x : List UInt8) (hd : 2 ^ (h * l) ∣ L.length + 1) :
    updG (mixG h l L (L ++ [x])) l (cT h l L.length / 2 ^ h : Nat) (mixG h l L (L ++ [x]) l (cT h l L.length / 2 ^ h : Nat) ++ [rootL (ck (2 ^ (h * l)) (cT h l L.length) (L ++ [x]))]) = mixG h (l + 1) L (L ++ [x]) := by
  have hp := Nat.two_pow_pos h
  funext a b
  unfold updG mixG
  by_cases ha : a = (l : Int)
  · subst ha
    rw [if_neg (Int.lt_irrefl _), if_pos (by omega : (l : Int) < ((l + 1 : Nat) : Int))]
    unfold tileG
    rw [lvT_full h l L x hd |> (fun e => by simpa using e) |> fun (e : lvT h (l : Int).toNat (L ++ [x]) = lvT h (l : Int).toNat L ++ [rootL (ck (2 ^ (h * l)) (cT h l L.length) (L ++ [x]))]) => e]
    by_cases hb0 : 0 ≤ b
    · obtain ⟨bn, rfl⟩ : ∃ bn : Nat, b = bn := ⟨b.toNat, by omega⟩
      have hl0 : (0 : Int) ≤ l := Int.natCast_nonneg _
      simp only [hl0, Int.natCast_nonneg, and_self, if_true, Int.toNat_natCast, true_and, Int.natCast_inj]
      rw [ck_snoc _ hp, lvT_len]
      by_cases hbn : bn = cT h l L.length / 2 ^ h
      · rw [if_pos hbn, if_pos hbn, hbn]
      · rw [if_neg hbn, if_neg hbn, if_neg (by omega)]
    · have hn : ¬ ((0 : Int) ≤ l ∧ 0 ≤ b) := fun hc => hb0 hc.2
      have hn2 : ¬ ((l : Int) = l ∧ b = ((cT h l L.length / 2 ^ h : Nat) : Int)) := fun hc => hb0 (by rw [hc.2]; exact Int.natCast_nonneg _)
      rw [if_neg hn, if_neg hn2, if_neg (Int.lt_irrefl _), if_neg hn]
  · rw [if_neg (fun hc => ha hc.1)]
    by_cases hlt : a < (l : Int)
    · rw [if_pos hlt, if_pos (by omega)]
    · rw [if_neg hlt, if_neg (by omega)]
theorem mix_done (h l : Nat) (L : HL) (x : List UInt8) (hd : ¬ 2 ^ (h * l) ∣ L.length + 1) : mixG h l L (L ++ [x]) = tileG h (L ++ [x]) := by
  funext a b
  unfold mixG
  by_cases hlt : a < (l : Int)
  · rw [if_pos hlt]
  · rw [if_neg hlt]
    unfold tileG
    split
    · rename_i hc
      have hal : l ≤ a.toNat := by omega
      rw [lvT_same]
      intro hdv
      exact hd (Nat.dvd_trans (Nat.pow_dvd_pow 2 (Nat.mul_le_mul_left h hal)) hdv)
    · rfl
theorem push_mix (h : Nat) (hh : 1 ≤ h) (L : HL) (x : List UInt8) : ∀ (k l : Nat), 2 ^ (h * l) ∣ L.length + 1 → cT h l L.length < 2 ^ k →
    pushG h (k + 1) (mixG h l L (L ++ [x])) l (cT h l L.length) (rootL (ck (2 ^ (h * l)) (cT h l L.length) (L ++ [x]))) = tileG h (L ++ [x])
  | k, l, hd, hk => by
    have hp := Nat.two_pow_pos h
    have e1 : 2 ^ (h * (l + 1)) = 2 ^ (h * l) * 2 ^ h := by rw [← Nat.pow_add]; congr 1
    have hfull := lvT_full h l L x hd
    have hcl : cT h l (L ++ [x]).length = cT h l L.length + 1 := by rw [← lvT_len, hfull, List.length_append, lvT_len]; rfl
    have hrow : mixG h l L (L ++ [x]) l (cT h l L.length / 2 ^ h : Nat) ++ [rootL (ck (2 ^ (h * l)) (cT h l L.length) (L ++ [x]))] = ck (2 ^ h) (cT h l L.length / 2 ^ h) (lvT h l (L ++ [x])) := by
      unfold mixG
      rw [if_neg (Int.lt_irrefl _), tileG_nat, hfull, ck_snoc _ hp, lvT_len, if_pos rfl]
    have hlen : (mixG h l L (L ++ [x]) l (cT h l L.length / 2 ^ h : Nat) ++ [rootL (ck (2 ^ (h * l)) (cT h l L.length) (L ++ [x]))]).length = cT h l L.length % 2 ^ h + 1 := by
      unfold mixG
      rw [if_neg (Int.lt_irrefl _), tileG_nat, List.length_append]
      have := ck_last_len (2 ^ h) hp (lvT h l L)
      rw [lvT_len] at this
      rw [this]
      rfl
    have hml := Nat.mod_lt (cT h l L.length) hp
    have hdm := Nat.div_add_mod (cT h l L.length) (2 ^ h)
    have hcm : (L.length + 1) = 2 ^ (h * l) * (cT h l L.length + 1) := by
      obtain ⟨q, hq⟩ := hd
      have : cT h l (L ++ [x]).length = q := by
        unfold cT
        rw [List.length_append, List.length_singleton, hq, Nat.mul_div_cancel_left _ (Nat.two_pow_pos _)]
      rw [hcl] at this
      rw [hq, this]
    rw [pushG, hlen, mix_step h l L x hd]
    by_cases hw : cT h l L.length % 2 ^ h + 1 = 2 ^ h
    · rw [if_pos hw]
      have hd' : 2 ^ (h * (l + 1)) ∣ L.length + 1 := by
        rw [e1, hcm]
        refine Nat.mul_dvd_mul_left _ ⟨cT h l L.length / 2 ^ h + 1, ?_⟩
        rw [Nat.mul_succ]
        omega
      have hx : topL (mixG h l L (L ++ [x]) l (cT h l L.length / 2 ^ h : Nat) ++ [rootL (ck (2 ^ (h * l)) (cT h l L.length) (L ++ [x]))]) = rootL (ck (2 ^ (h * (l + 1))) (cT h (l + 1) L.length) (L ++ [x])) := by
        rw [topL_root h _ (by rw [hlen, hw]), hrow, cT_succ, tile_root]
        rw [hcl, Nat.add_mul, Nat.one_mul, Nat.mul_comm]
        omega
      rw [hx, ← cT_succ]
      cases k with
      | zero =>
        have h0 : cT h l L.length = 0 := by omega
        rw [h0, Nat.zero_mod] at hw
        have := Nat.pow_le_pow_right (n := 2) (by decide) hh
        omega
      | succ k =>
        refine push_mix h hh L x k (l + 1) hd' ?_
        rw [cT_succ]
        have h2 : 2 ^ 1 ≤ 2 ^ h := Nat.pow_le_pow_right (by decide) hh
        have h3 : cT h l L.length / 2 ^ h ≤ cT h l L.length / 2 := Nat.div_le_div_left (by omega) (by decide)
        have h4 : 2 ^ (k + 1) = 2 ^ k * 2 := Nat.pow_succ _ _
        omega
    · rw [if_neg hw]
      refine mix_done h (l + 1) L x ?_
      rw [e1, hcm]
      intro hdv
      have := Nat.dvd_of_mul_dvd_mul_left (Nat.two_pow_pos _) hdv
      have hm0 := Nat.mod_eq_zero_of_dvd this
      rw [Nat.add_mod] at hm0
      have hb1 : 2 ^ 1 ≤ 2 ^ h := Nat.pow_le_pow_right (by decide) hh
      rw [Nat.mod_eq_of_lt (show 1 < 2 ^ h by omega), Nat.mod_eq_of_lt (by omega)] at hm0
      omega
/-- THE PLAIN LAW OF push: one hash more -/
theorem push_tiles (h k : Nat) (hh : 1 ≤ h) (L : HL) (x : List UInt8) (hk : L.length < 2 ^ k) : pushG h (k + 1) (tileG h L) 0 L.length x = tileG h (L ++ [x]) := by
  have := push_mix h hh L x k 0 (by simp) (by unfold cT; simpa using hk)
  have hc : cT h 0 L.length = L.length := by unfold cT; simp
  have hx : rootL (ck (2 ^ (h * 0)) L.length (L ++ [x])) = x := by
    unfold ck
    simp [rootL_one]
  have hm : mixG h 0 L (L ++ [x]) = tileG h L := by
    funext a b
    unfold mixG
    by_cases ha : a < ((0 : Nat) : Int)
    · rw [if_pos ha]
      unfold tileG
      rw [if_neg (by omega), if_neg (by omega)]
    · rw [if_neg ha]
  rw [hc, hx, hm] at this
  exact this
end Go.Proofs.YtfhmjgkcpcnkbaaDoor
/- A tree in tiles, in memory. -/
namespace Go.Proofs.YtfhmjgkcpcnkbaaDoor
open Go Go.RowKit

/-- rows of hashes, each in memory of its own -/
structure TiRows (lo : Nat) (f : Int → Int → Option Value) (G : Int → Int → HL) (W : World) : Prop where
  row : ∀ a b v, f a b = some v → W.ownsRow lo 48 32 v (G a b).length (hcells (G a b)) ∧ G a b ≠ []
  none : ∀ a b, f a b = none → G a b = []
  all : ∀ a b, H32 (G a b)
  apart : ∀ a b a' b' v v' k, f a b = some v → f a' b' = some v' → v.ownBlock = some k → v'.ownBlock = some k → a = a' ∧ b = b'
/-- where the rows lie, and the map -/
def TiR (m : Nat) (f : Int → Int → Option Value) (b : Nat) : Prop := b = m ∨ ∃ x y v, f x y = some v ∧ v.ownBlock = some b
def TiW (p m : Nat) (f : Int → Int → Option Value) (b : Nat) : Prop := b = p ∨ TiR m f b
def tiArr (h sz m : Nat) : Array Value := #[.int .i64 (h : Int), .int .i64 (sz : Int), .map (some m)]
structure TiM (lo p m N h sz : Nat) (f : Int → Int → Option Value) (G : Int → Int → HL) (W : World) : Prop where
  blk : Blk W p 73 (tiArr h sz m)
  map : MapF W m N f
  rows : TiRows lo f G W
  lowp : lo ≤ p
  lowm : lo ≤ m
section
variable {W W' : World} {lo p m N h0 sz : Nat} {f : Int → Int → Option Value} {G : Int → Int → HL} {M : Nat → Prop} {a b : Int}
theorem own_nmap {lo n s k : Nat} {e : TypeId} {v : Value} {xs : List Value} (ho : W.ownsRow lo e s v n xs) (hk : v.ownBlock = some k) {es : Array MapEntry} {clock : Nat} (hm : W.heap[k]? = some (.map es clock)) : False := by
  rcases ho.2 with ⟨rfl, _⟩ | ⟨g, cap, cur, rfl, _, hg, _⟩
  · cases hk
  · obtain rfl : g = k := Option.some.inj hk
    rw [hm] at hg
    cases hg
theorem own_blkty {lo n s k : Nat} {e T : TypeId} {v : Value} {xs : List Value} {cs : Array Value} (ho : W.ownsRow lo e s v n xs) (hb : Blk W k T cs) (hT : e ≠ T) : v.ownBlock ≠ some k := by
  intro hk
  rcases ho.2 with ⟨rfl, _⟩ | ⟨g, cap, cur, rfl, _, hg, _⟩
  · cases hk
  · obtain rfl : g = k := Option.some.inj hk
    rw [show W.heap[g]? = _ from hb] at hg
    injection hg with hg
    injection hg with _ h2
    exact hT h2.symm
theorem own_some {lo n s : Nat} {e : TypeId} {v : Value} {xs : List Value} (ho : W.ownsRow lo e s v n xs) (hn : n ≠ 0) : ∃ k, v.ownBlock = some k := by
  rcases ho.2 with ⟨_, h0⟩ | ⟨g, cap, cur, rfl, _⟩
  · exact absurd h0 hn
  · exact ⟨g, rfl⟩
theorem TiRows.get (h : TiRows lo f G W) (a b : Int) : W.ownsRow lo 48 32 ((f a b).getD nilS) (G a b).length (hcells (G a b)) := by
  cases hf : f a b with
  | none =>
    rw [h.none a b hf]
    exact World.ownsRow_nil _ _ _ _
  | some v => exact (h.row a b v hf).1
theorem TiRows.kb (h : TiRows lo f G W) (hk : KB M W W') (hM : ∀ k x y v, f x y = some v → v.ownBlock = some k → ¬ M k) : TiRows lo f G W' :=
  ⟨fun a b v hf => ⟨hk.own (h.row a b v hf).1 fun k hb => hM k a b v hf hb, (h.row a b v hf).2⟩, h.none, h.all, h.apart⟩
theorem TiM.ltR (h : TiM lo p m N h0 sz f G W) (k : Nat) (hk : TiW p m f k) : lo ≤ k ∧ k < W.heap.size := by
  rcases hk with rfl | rfl | ⟨x, y, v, hf, hv⟩
  · exact ⟨h.lowp, h.blk.lt⟩
  · exact ⟨h.lowm, h.map.lt⟩
  · exact (h.rows.row x y v hf).1.lt k hv
theorem TiM.kb (h : TiM lo p m N h0 sz f G W) (hk : KB M W W') (hM : ∀ k, TiW p m f k → ¬ M k) : TiM lo p m N h0 sz f G W' :=
  ⟨hk.blk h.blk (hM p (.inl rfl)), h.map.kb hk (hM m (.inr (.inl rfl))), h.rows.kb hk fun k x y v hf hv => hM k (.inr (.inr ⟨x, y, v, hf, hv⟩)), h.lowp, h.lowm⟩
theorem TiM.step (h : TiM lo p m N h0 sz f G W) (hb : Below W.heap.size W W') : TiM lo p m N h0 sz f G W' := h.kb (M := fun _ => False) (KB.of_below hb) fun _ _ h => h
theorem TiM.size (h : TiM lo p m N h0 sz f G W) {N' : Nat} (hN : N ≤ N') : TiM lo p m N' h0 sz f G W :=
  ⟨h.blk, let ⟨es, c, h1, h2, h3, h4⟩ := h.map; ⟨es, c, h1, h2, Nat.le_trans h3 hN, h4⟩, h.rows, h.lowp, h.lowm⟩
/-- one hash more in a row: what is appended, and the rows behind it -/
theorem TiRows.app (h : TiRows lo f G W) (a b : Int) (x : List UInt8) (hx : x.length = 32) {A : Option Addr} {c : Nat} (hs : SlV W (fun _ => True) A 1 c 32 (x.map B)) (hlo : lo ≤ W.heap.size) (hn : (G a b).length ≤ 1000000) :
    ∃ v' W', (Builtin.append_ #[36, 36] 36 #[(f a b).getD nilS, .slice A 1 c]).run Tryd.prog W = .ok v' W' ∧ TiRows lo (updF f a b v') (updG G a b (G a b ++ [x])) W' ∧ W.grownBy W' ((f a b).getD nilS).ownBlock ∧
      ∀ k, (∃ u w v, updF f a b v' u w = some v ∧ v.ownBlock = some k) → (∃ u w v, f u w = some v ∧ v.ownBlock = some k) ∨ W.heap.size ≤ k := by
  have info : (Tryd.prog.info? 48).map (fun i => (i.zero, i.size, i.bytes)) = some (some (.agg zeroHash), 32, 32) := by kernel_rfl
  obtain ⟨v', W', hr, ho, hg, hv⟩ := append_slv (ty := 36) Tryd.underlying36 info rfl (by decide) (h.get a b) hs (oneCell_B x) (by unfold maxLen; omega) (by omega) hlo
  have hcx : hcells (G a b) ++ x.map B = hcells (G a b ++ [x]) := by rw [hcells_append]; simp [hcells]
  rw [hcx] at ho
  have hne : ∀ u w v, f u w = some v → ¬ (u = a ∧ w = b) → v.ownBlock ≠ ((f a b).getD nilS).ownBlock := by
    intro u w v hf hc e
    obtain ⟨k, hk⟩ := own_some (h.row u w v hf).1 (fun e0 => (h.row u w v hf).2 (List.eq_nil_of_length_eq_zero e0))
    rw [hk] at e
    cases hab : f a b with
    | none => rw [hab] at e; cases e
    | some v0 =>
      rw [hab] at e
      exact hc (h.apart u w a b v v0 k hf hab hk e.symm)
  have hold : ∀ k, v'.ownBlock = some k → (∃ v0, f a b = some v0 ∧ v0.ownBlock = some k) ∨ W.heap.size ≤ k := by
    intro k hk
    rcases hv with hv | ⟨k', hv, hk'⟩
    · cases hab : f a b with
      | none => rw [hab, hk] at hv; cases hv
      | some v0 => rw [hab, hk] at hv; exact .inl ⟨v0, rfl, hv.symm⟩
    · rw [hv] at hk
      cases hk
      exact .inr hk'
  refine ⟨v', W', hr, ⟨fun u w v hf => ?_, fun u w hf => ?_, fun u w => ?_, ?_⟩, hg, ?_⟩
  · unfold updF at hf
    unfold updG
    by_cases hc : u = a ∧ w = b
    · rw [if_pos hc] at hf ⊢
      cases hf
      exact ⟨by rw [List.length_append]; exact ho, by simp⟩
    · rw [if_neg hc] at hf ⊢
      exact ⟨(h.row u w v hf).1.kept hg (.inr (hne u w v hf hc)), (h.row u w v hf).2⟩
  · unfold updF at hf
    unfold updG
    by_cases hc : u = a ∧ w = b
    · rw [if_pos hc] at hf
      cases hf
    · rw [if_neg hc] at hf ⊢
      exact h.none u w hf
  · unfold updG
    split
    · exact (h.all a b).append fun y hy => by rw [List.mem_singleton.1 hy]; exact hx
    · exact h.all u w
  · have two : ∀ u w v k, ¬ (u = a ∧ w = b) → f u w = some v → v.ownBlock = some k → v'.ownBlock = some k → False := by
      intro u w v k hc hf hk hk'
      rcases hold k hk' with ⟨v0, hf0, hk0⟩ | hge
      · exact hc (h.apart u w a b v v0 k hf hf0 hk hk0)
      · have := ((h.row u w v hf).1.lt k hk).2
        omega
    intro u w u' w' v1 v2 k h1 h2 k1 k2
    unfold updF at h1 h2
    by_cases c1 : u = a ∧ w = b
    · by_cases c2 : u' = a ∧ w' = b
      · exact ⟨c1.1.trans c2.1.symm, c1.2.trans c2.2.symm⟩
      · rw [if_pos c1] at h1
        rw [if_neg c2] at h2
        cases h1
        exact (two u' w' v2 k c2 h2 k2 k1).elim
    · rw [if_neg c1] at h1
      by_cases c2 : u' = a ∧ w' = b
      · rw [if_pos c2] at h2
        cases h2
        exact (two u w v1 k c1 h1 k1 k2).elim
      · rw [if_neg c2] at h2
        exact h.apart u w u' w' v1 v2 k h1 h2 k1 k2
  · rintro k ⟨u, w, v, hf, hk⟩
    unfold updF at hf
    by_cases hc : u = a ∧ w = b
    · rw [if_pos hc] at hf
      cases hf
      rcases hold k hk with ⟨v0, hf0, hk0⟩ | hge
      · exact .inl ⟨a, b, v0, hf0, hk0⟩
      · exact .inr hge
    · rw [if_neg hc] at hf
      exact .inl ⟨u, w, v, hf, hk⟩
end
end Go.Proofs.YtfhmjgkcpcnkbaaDoor
/- An operation with a guard whose run is known. No program in sight. -/
namespace Go.Proofs.YtfhmjgkcpcnkbaaDoor
open Go Go.RowKit

theorem wpList_runG {P : Program} {w : World} {ops : Array Oper} {rest : List Oper} {o : Oper} {a : Act} {Q : Exit → Act → World → Prop} (hw : Region.wanted o (yielded ops a.tmps) = true) (v : Value) (w' : World) (hrun : (execOp a.eval o).run P w = .ok (.value v) w')
    (h : wpList P ops Q rest (a.put o.dst v) w') : wpList P ops Q (o :: rest) a w :=
  wpList_step fun K hK => by
    rw [if_pos hw]
    unfold Oper.wp
    rw [hrun]
    exact hK _ _ h
end Go.Proofs.YtfhmjgkcpcnkbaaDoor
