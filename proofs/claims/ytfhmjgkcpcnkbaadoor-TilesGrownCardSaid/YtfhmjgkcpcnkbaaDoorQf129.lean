/- The fold of the whole stretches' roots; tree.Stretch. -/
import Derived.Test.YtfhmjgkcpcnkbaaDoorQf115
import Derived.Test.YtfhmjgkcpcnkbaaDoorQf110
import Derived.Test.YtfhmjgkcpcnkbaaDoorQf127
import Derived.Test.YtfhmjgkcpcnkbaaDoorQf114
import Derived.Test.YtfhmjgkcpcnkbaaDoorQf126
import Derived.Test.YtfhmjgkcpcnkbaaDoorQf128
namespace Go.Proofs.YtfhmjgkcpcnkbaaDoor
open Go Go.RowKit

/-- the root of the stretch from a to b -/
def stretchL (hs : List (List UInt8)) (a b : Nat) : List UInt8 := rootL ((hs.drop a).take (b - a))
theorem length_stretchL (hs : List (List UInt8)) (a b : Nat) (h : H32 hs) : (stretchL hs a b).length = 32 := length_rootL _ ((h.drop a).take _)
def foldR : List (List UInt8) → List UInt8
  | [] => hEmpty
  | [x] => x
  | x :: y :: t => hNode x (foldR (y :: t))
theorem foldR_cons (x : List UInt8) (l : List (List UInt8)) (h : l ≠ []) : foldR (x :: l) = hNode x (foldR l) := by
  cases l with
  | nil => exact absurd rfl h
  | cons y t => rfl
theorem length_foldR (x : List UInt8) (l : List (List UInt8)) (h : H32 (x :: l)) : (foldR (x :: l)).length = 32 := by
  cases l with
  | nil => exact h x (by simp)
  | cons y t => exact length_hNode _ _
def rootsL (hs : List (List UInt8)) (l : List (Nat × Nat)) : List (List UInt8) := l.map fun s => stretchL hs s.1 s.2
theorem rootsL_all (hs : List (List UInt8)) (h : H32 hs) (l : List (Nat × Nat)) : H32 (rootsL hs l) := fun x hx => by
  obtain ⟨s, _, rfl⟩ := List.mem_map.1 hx
  exact length_stretchL hs _ _ h
theorem wholeL_ne (a n : Nat) (h : n ≠ 0) : wholeL a n ≠ [] := by rw [wholeL_more a n h]; simp
theorem foldR_whole (d : Nat) : ∀ (n a : Nat) (hs : List (List UInt8)), n ≤ d → n ≠ 0 → a + n ≤ hs.length → foldR (rootsL hs (wholeL a n)) = rootL ((hs.drop a).take n) := by
  induction d with
  | zero => intro n a hs h h0; omega
  | succ d ih =>
    intro n a hs h h0 hl
    have hp := Nat.two_pow_pos n.log2
    have h1 := Nat.log2_self_le h0
    have h2 := Nat.lt_log2_self (n := n)
    have hsp := splitN_eq n n.log2
    rw [Nat.pow_succ] at h2 hsp
    rw [wholeL_more a n h0, rootsL, List.map_cons]
    generalize 2 ^ n.log2 = p at *
    by_cases hnp : n = p
    · subst hnp
      rw [Nat.sub_self, wholeL_zero]
      show stretchL hs a (a + n) = _
      rw [stretchL, Nat.add_sub_cancel_left]
    · have hs2 := hsp (by omega) (by omega)
      have hne : (wholeL (a + p) (n - p)).map (fun s => stretchL hs s.1 s.2) ≠ [] := by
        have := wholeL_ne (a + p) (n - p) (by omega)
        simpa using this
      have hi := ih (n - p) (a + p) hs (by omega) (by omega) (by omega)
      rw [rootsL] at hi
      have hlen : ((hs.drop a).take n).length = n := by rw [List.length_take, List.length_drop]; omega
      rw [foldR_cons _ _ hne, hi, rootL_more ((hs.drop a).take n) (by rw [hlen]; omega), hlen, hs2, List.take_take, Nat.min_eq_left (by omega), List.drop_take, List.drop_drop]
      show hNode (stretchL hs a (a + p)) _ = _
      rw [stretchL, Nat.add_sub_cancel_left]
theorem foldR_roots (hs : List (List UInt8)) (h : hs ≠ []) : foldR (rootsL hs (wholeL 0 hs.length)) = rootL hs := by
  have := foldR_whole hs.length hs.length 0 hs (Nat.le_refl _) (by simpa using h) (by omega)
  rw [this, List.drop_zero, List.take_length]
/-- from the back -/
theorem foldR_drop (l : List (List UInt8)) (i : Nat) (h : i + 1 < l.length) : foldR (l.drop i) = hNode (l.getD i []) (foldR (l.drop (i + 1))) := by
  rw [List.drop_eq_getElem_cons (by omega), foldR_cons _ _ (by intro e; have := congrArg List.length e; rw [List.length_drop, List.length_nil] at this; omega), List.getD_eq_getElem?_getD, List.getElem?_eq_getElem (by omega)]
  rfl
theorem foldR_last (l : List (List UInt8)) (n : Nat) (h : l.length = n + 1) : foldR (l.drop n) = l.getD n [] := by
  rw [List.drop_eq_getElem_cons (by omega), List.drop_of_length_le (by omega), List.getD_eq_getElem?_getD, List.getElem?_eq_getElem (by omega)]
  rfl

theorem tuple_cellT {fn : Func} {p u : Tmp} {ty t : TypeId} {P : Program} (h : fn.results = #[.cell p ty, .tmp u]) (tmps : Array Value) (w : World) (g : Nat) (cs : Array Value) (N : Nat) (el : TypeId)
    (hp : tmps.getD p undef = .pointer (some ⟨g, 0, none⟩)) (hg : Blk w g t cs) (hu : P.underlying ty = some (.array N el)) (hi : (P.info? ty).map (·.size) = some cs.size) :
    (results fn tmps).run P w = .ok (.tuple #[.agg cs, tmps.getD u undef]) w := by
  rw [results_cell_tmp h, hp]
  show ((loadVar ty ⟨g, 0, none⟩).run P w).andThen (fun v w₂ => Result.ok (Value.tuple #[v, tmps.getD u undef]) w₂) = _
  rw [run_loadVar_row w g t ty cs (0, 0) _ hg hu rfl hi]
  rfl
/-- 's[a:b]' -/
theorem run_slice_op_both {ρ : Operand → Value} {o : Oper} (x y z : Operand) (ho : o.op = .slice 36 x (some y) (some z) none) (A : Option Addr) (n c a b : Nat) (hx : ρ x = .slice A n c) (hy : ρ y = .int .i64 (a : Int)) (hz : ρ z = .int .i64 (b : Int)) (hab : a ≤ b) (hb : b ≤ c) (W : World) :
    (execOp ρ o).run Tryd.prog W = .ok (.value (.slice (if c = a then A else A.map (·.add (a * 32))) (b - a) (c - a))) W := by
  unfold execOp
  simp only [ho, hx, hy, hz, Option.map_some, Option.map_none]
  simp only [run_sliceAt_slice W 36 _ _ _ _ sliceHs, run_slice_lh W 36 A n c sliceHs .i64 .i64 (a : Int) (b : Int) (by omega) (by omega) (by omega), sizeHs, Sem.run_bind, Sem.run_pure, Result.andThen_ok, sliced, Int.toNat_natCast]

set_option maxHeartbeats 2000000 in
set_option maxRecDepth 100000 in
theorem tstretch_ok (hs : List (List UInt8)) (A : Option Addr) (n c : Nat) (w : World) (a b : Nat) (h : Hs w (fun _ => True) A n c hs) (hn : n ≤ 4398046511104) (hab : a < b) (hb : b ≤ n) :
    Calls Tryd.prog 77 #[.slice A n c, .agg #[.int .i64 (a : Int), .int .i64 (b : Int)]] w fun e w' => e = .returned (.tuple #[.agg ((stretchL hs a b).map B).toArray, .int .i64 0]) ∧ Below w.heap.size w w' := by
  obtain ⟨zs, hzs⟩ : ∃ zs, zeroHash = zs := ⟨_, rfl⟩
  have hzl : zs.size = 32 := by rw [← hzs]; rfl
  have hroom := h.sl.room
  have hmax := h.sl.max
  unfold maxLen at hmax
  have hbx := (Below.refl w.heap.size w).alloc (Nat.le_refl _) (.cells #[.int .i64 (a : Int), .int .i64 (b : Int)] 96)
  have x0 := Blk.new w 96 #[.int .i64 (a : Int), .int .i64 (b : Int)]
  have hb0 := hbx.alloc hbx.size (.cells zs 48)
  have k0 := Blk.new (w.alloc (.cells #[.int .i64 (a : Int), .int .i64 (b : Int)] 96)) 48 zs
  have x1 := x0.alloc (.cells zs 48)
  have h0 := (h.step hb0).drop a (by omega)
  rw [if_neg (by omega)] at h0
  have h1 := h0.take (b - a) (by omega)
  have hof := fun W (hW : Below ((w.alloc (.cells #[.int .i64 (a : Int), .int .i64 (b : Int)] 96)).alloc (.cells zs 48)).heap.size ((w.alloc (.cells #[.int .i64 (a : Int), .int .i64 (b : Int)] 96)).alloc (.cells zs 48)) W) => tof_any ((hs.drop a).take (b - a)) _ (b - a) (c - a) W (h1.step hW) (by omega)
  obtain ⟨r, hr⟩ : ∃ r, stretchL hs a b = r := ⟨_, rfl⟩
  have hrl : r.length = 32 := by rw [← hr]; exact length_stretchL hs _ _ h.all
  rw [show rootL ((hs.drop a).take (b - a)) = r from hr] at hof
  rw [hr]
  have e0 : ((w.alloc (.cells #[.int .i64 (a : Int), .int .i64 (b : Int)] 96)).alloc (.cells zs 48)).cell? ⟨w.heap.size, 0, none⟩ = some (.int .i64 (a : Int)) := by rw [x1.cell]; rfl
  have e1 : ((w.alloc (.cells #[.int .i64 (a : Int), .int .i64 (b : Int)] 96)).alloc (.cells zs 48)).cell? ⟨w.heap.size, 1, none⟩ = some (.int .i64 (b : Int)) := by rw [x1.cell]; rfl
  have Hof := Lib.hid hof
  have Hzs := Lib.hid hzs
  have Hrl := Lib.hid hrl
  have d0 : decide ((a : Int) < 0) = false := by simp
  have d1 : decide ((b : Int) ≤ (a : Int)) = false := by simp; omega
  have d1' : decide (b ≤ a) = false := by simp; omega
  have d2 : decide ((n : Int) < (b : Int)) = false := by simp; omega
  have d2' : decide (n < b) = false := by simp; omega
  clear hof hzs hrl hr h h0 h1 x0 x1 hbx
  go_enter Tryd.func77, Tryd.ntmps77
  go_wp2_with (first
    | ((with_reducible show wpList _ _ _ (⟨some 4, .alloc _, _, _, _, _⟩ :: _) _ _); refine wpList_run rfl (.pointer (some ⟨(w.alloc (.cells #[.int .i64 (a : Int), .int .i64 (b : Int)] 96)).heap.size, 0, none⟩)) ((w.alloc (.cells #[.int .i64 (a : Int), .int .i64 (b : Int)] 96)).alloc (.cells zs 48)) (by rw [← Hzs.out]; rfl) ?_; simp only [Act.put]))
  refine (Hof.out _ (Below.refl _ _)).mono ?_
  rintro e w2 ⟨rfl, hb2⟩
  have k2 := k0.below hb2 k0.lt
  rw [show (w.alloc (.cells #[.int .i64 (a : Int), .int .i64 (b : Int)] 96)).heap.size = w.heap.size + 1 by simp] at k2
  have B2 := hb0.trans (hb2.mono hb0.size)
  clear e0 e1 d0 d1 d1' d2 d2' Hof
  go_wp2_with ((with_reducible show wpList _ _ _ (⟨none, .store _ _ _, _, _, _, _⟩ :: _) _ _); refine wpList_store_blk rfl 48 (.tmp 4) (.tmp 30) rfl 32 size26 (w.heap.size + 1) (r.map B).toArray rfl rfl (by simp [Hrl.out]) (oneCell_B _) 48 _ k2 hzl ?_; simp only [Act.put])
  refine bodyPost_ret (tuple_cellT rfl _ _ (w.heap.size + 1) (r.map B).toArray _ _ rfl (k2.setRow_ _) Tryd.underlying48 (by rw [show (r.map B).toArray.size = 32 by simp [Hrl.out]]; exact info26)) rfl ⟨rfl, ?_⟩
  exact below_setRow B2 (by omega) _

set_option maxHeartbeats 2000000 in
set_option maxRecDepth 100000 in
theorem tstretch_bad (A : Option Addr) (n c : Nat) (w : World) (a b : Int) (hbad : a < 0 ∨ b ≤ a ∨ n < b) :
    Calls Tryd.prog 77 #[.slice A n c, .agg #[.int .i64 a, .int .i64 b]] w fun e w' => e = .returned (.tuple #[.agg zeroHash, .int .i64 4]) ∧ Below w.heap.size w w' := by
  obtain ⟨zs, hzs⟩ : ∃ zs, zeroHash = zs := ⟨_, rfl⟩
  have hzl : zs.size = 32 := by rw [← hzs]; rfl
  have hz1 : ∀ v ∈ zs.toList, v.oneCell' = true := by rw [← hzs]; exact oneCell_B _
  rw [hzs]
  have hbx := (Below.refl w.heap.size w).alloc (Nat.le_refl _) (.cells #[.int .i64 a, .int .i64 b] 96)
  have x0 := Blk.new w 96 #[.int .i64 a, .int .i64 b]
  have hb0 := hbx.alloc hbx.size (.cells zs 48)
  have k0 := Blk.new (w.alloc (.cells #[.int .i64 a, .int .i64 b] 96)) 48 zs
  have x1 := x0.alloc (.cells zs 48)
  rw [show (w.alloc (.cells #[.int .i64 a, .int .i64 b] 96)).heap.size = w.heap.size + 1 by simp] at k0
  have e0 : ((w.alloc (.cells #[.int .i64 a, .int .i64 b] 96)).alloc (.cells zs 48)).cell? ⟨w.heap.size, 0, none⟩ = some (.int .i64 a) := by rw [x1.cell]; rfl
  have e1 : ((w.alloc (.cells #[.int .i64 a, .int .i64 b] 96)).alloc (.cells zs 48)).cell? ⟨w.heap.size, 1, none⟩ = some (.int .i64 b) := by rw [x1.cell]; rfl
  have Hzs := Lib.hid hzs
  have Hz1 := Lib.hid hz1
  clear hzs hz1 x0 x1 hbx
  have hd : (decide (a < 0) = true) ∨ (decide (a < 0) = false ∧ decide (b ≤ a) = true) ∨ (decide (a < 0) = false ∧ decide (b ≤ a) = false ∧ decide ((n : Int) < b) = true) := by
    by_cases h1 : a < 0
    · exact .inl (decide_eq_true h1)
    · by_cases h2 : b ≤ a
      · exact .inr (.inl ⟨decide_eq_false h1, decide_eq_true h2⟩)
      · exact .inr (.inr ⟨decide_eq_false h1, decide_eq_false h2, decide_eq_true (by omega)⟩)
  clear hbad
  go_enter Tryd.func77, Tryd.ntmps77
  rcases hd with d1 | ⟨d1, d2⟩ | ⟨d1, d2, d3⟩
  all_goals
    go_wp2_with (first
      | ((with_reducible show wpList _ _ _ (⟨some 4, .alloc _, _, _, _, _⟩ :: _) _ _); refine wpList_run rfl (.pointer (some ⟨(w.alloc (.cells #[.int .i64 a, .int .i64 b] 96)).heap.size, 0, none⟩)) ((w.alloc (.cells #[.int .i64 a, .int .i64 b] 96)).alloc (.cells zs 48)) (by rw [← Hzs.out]; rfl) ?_; simp only [Act.put])
      | ((with_reducible show wpList _ _ _ (⟨some 23, .build _ _, _, _, _, _⟩ :: _) _ _); refine wpList_run0 rfl (.agg zs) (by rw [← Hzs.out]; kernel_rfl) ?_; simp only [Act.put])
      | ((with_reducible show wpList _ _ _ (⟨none, .store _ _ _, _, _, _, _⟩ :: _) _ _); refine wpList_store_blk rfl 48 (.tmp 4) (.tmp 23) rfl 32 size26 (w.heap.size + 1) zs rfl rfl hzl Hz1.out 48 _ k0 hzl ?_; simp only [Act.put]))
    refine bodyPost_ret (tuple_cellT rfl _ _ (w.heap.size + 1) zs _ _ rfl (k0.setRow_ _) Tryd.underlying48 (by rw [hzl]; exact info26)) rfl ⟨rfl, ?_⟩
    exact below_setRow hb0 (by omega) _
end Go.Proofs.YtfhmjgkcpcnkbaaDoor
/- The plain law of tree.Roots: the whole stretches of one entry more. -/
namespace Go.Proofs.YtfhmjgkcpcnkbaaDoor
open Go Go.RowKit

theorem pow_split (d : Nat) : ∀ (m t a : Nat), m ≤ d → wholeL a (2 * m * 2 ^ t + 2 ^ t) = wholeL a (2 * m * 2 ^ t) ++ [(a + 2 * m * 2 ^ t, a + 2 * m * 2 ^ t + 2 ^ t)] := by
  induction d with
  | zero =>
    intro m t a h
    obtain rfl : m = 0 := by omega
    have hp := Nat.two_pow_pos t
    rw [show 2 * 0 * 2 ^ t = 0 by simp, Nat.zero_add, wholeL_zero, wholeL_more a _ (by omega), Nat.log2_two_pow, Nat.sub_self, wholeL_zero]
    rfl
  | succ d ih =>
    intro m t a h
    by_cases hm : m = 0
    · subst hm
      exact ih 0 t a (by omega)
    · have hp := Nat.two_pow_pos t
      have hpos : 2 * m * 2 ^ t ≠ 0 := Nat.mul_ne_zero (by omega) (by omega)
      obtain ⟨j, hj⟩ : ∃ j, (2 * m).log2 = j := ⟨_, rfl⟩
      have h2m : 2 * m ≠ 0 := by omega
      have j1 : 2 ^ j ≤ 2 * m := by rw [← hj]; exact Nat.log2_self_le h2m
      have j2 : 2 * m < 2 ^ (j + 1) := by rw [← hj]; exact Nat.lt_log2_self
      obtain ⟨i, rfl⟩ : ∃ i, j = i + 1 := by
        refine ⟨j - 1, ?_⟩
        rcases Nat.eq_zero_or_pos j with h0 | h0
        · subst h0; rw [show 2 ^ (0 + 1) = 2 from rfl] at j2; omega
        · omega
      have j3 : 2 * m + 2 ≤ 2 ^ (i + 1 + 1) := by rw [Nat.pow_succ] at j2 ⊢; omega
      have l1 : (2 * m * 2 ^ t).log2 = i + 1 + t := (Nat.log2_eq_iff hpos).2 ⟨by rw [Nat.pow_add]; exact Nat.mul_le_mul_right _ j1, by
        rw [show i + 1 + t + 1 = (i + 1 + 1) + t by omega, Nat.pow_add]; exact Nat.mul_lt_mul_of_pos_right j2 hp⟩
      have l2 : (2 * m * 2 ^ t + 2 ^ t).log2 = i + 1 + t := (Nat.log2_eq_iff (by omega)).2 ⟨Nat.le_trans (by rw [Nat.pow_add]; exact Nat.mul_le_mul_right _ j1) (Nat.le_add_right _ _), by
        rw [show i + 1 + t + 1 = (i + 1 + 1) + t by omega, Nat.pow_add]
        have := Nat.mul_le_mul_right (2 ^ t) j3
        rw [Nat.add_mul] at this
        omega⟩
      rw [wholeL_more a (2 * m * 2 ^ t + 2 ^ t) (by omega), wholeL_more a (2 * m * 2 ^ t) hpos, l1, l2]
      have hi2 : 2 ^ (i + 1 + t) = 2 * 2 ^ i * 2 ^ t := by rw [Nat.pow_add, Nat.pow_succ]; rw [Nat.mul_comm (2 ^ i) 2]
      have him : 2 ^ i ≤ m := by rw [Nat.pow_succ] at j1; omega
      have hsub : 2 * m * 2 ^ t - 2 ^ (i + 1 + t) = 2 * (m - 2 ^ i) * 2 ^ t := by
        rw [hi2, ← Nat.sub_mul, ← Nat.mul_sub]
      have hle : 2 ^ (i + 1 + t) ≤ 2 * m * 2 ^ t := by rw [hi2]; exact Nat.mul_le_mul_right _ (Nat.mul_le_mul_left _ him)
      have hi := ih (m - 2 ^ i) t (a + 2 ^ (i + 1 + t)) (by have := Nat.two_pow_pos i; omega)
      rw [Nat.sub_add_comm hle, hsub, hi, List.cons_append, ← hsub]
      congr 3
      rw [Prod.mk.injEq]
      constructor <;> omega
theorem whole_low (k t : Nat) (h : k % 2 = 0) : wholeL 0 (k * 2 ^ t + 2 ^ t) = wholeL 0 (k * 2 ^ t) ++ [(k * 2 ^ t, k * 2 ^ t + 2 ^ t)] := by
  have := pow_split (k / 2) (k / 2) t 0 (Nat.le_refl _)
  rw [show 2 * (k / 2) = k by omega, Nat.zero_add] at this
  exact this
/-- two stretches of a power's length, side by side -/
theorem stretch_join (hs : List (List UInt8)) (a t : Nat) (h : a + 2 ^ t + 2 ^ t ≤ hs.length) : stretchL hs a (a + 2 ^ t + 2 ^ t) = hNode (stretchL hs a (a + 2 ^ t)) (stretchL hs (a + 2 ^ t) (a + 2 ^ t + 2 ^ t)) := by
  have hp := Nat.two_pow_pos t
  have hs2 := splitN_eq (2 ^ t + 2 ^ t) t (by omega) (by rw [Nat.pow_succ]; omega)
  generalize 2 ^ t = p at *
  unfold stretchL
  rw [show a + p + p - a = p + p by omega, show a + p - a = p by omega, show a + p + p - (a + p) = p by omega]
  have hlen : ((hs.drop a).take (p + p)).length = p + p := by rw [List.length_take, List.length_drop]; omega
  rw [rootL_more ((hs.drop a).take (p + p)) (by rw [hlen]; omega), hlen, hs2, List.take_take, Nat.min_eq_left (by omega), List.drop_take, List.drop_drop, show p + p - p = p by omega]
theorem stretch_one (hs : List (List UInt8)) (i : Nat) (h : i < hs.length) : stretchL hs i (i + 1) = hs.getD i [] := by
  unfold stretchL
  rw [show i + 1 - i = 1 by omega, List.drop_eq_getElem_cons h, List.getD_eq_getElem?_getD, List.getElem?_eq_getElem h]
  rfl
/-- the roots of all heads -/
def headsL (hs : List (List UInt8)) (k : Nat) : List (List UInt8) := (List.range (k + 1)).map fun i => rootL (hs.take i)
theorem headsL_zero (hs : List (List UInt8)) : headsL hs 0 = [hEmpty] := rfl
theorem headsL_succ (hs : List (List UInt8)) (k : Nat) : headsL hs (k + 1) = headsL hs k ++ [rootL (hs.take (k + 1))] := by
  unfold headsL
  rw [List.range_succ, List.map_append]; rfl
theorem length_headsL (hs : List (List UInt8)) (k : Nat) : (headsL hs k).length = k + 1 := by simp [headsL]
theorem headsL_all (hs : List (List UInt8)) (h : H32 hs) (k : Nat) : H32 (headsL hs k) := fun x hx => by
  obtain ⟨i, _, rfl⟩ := List.mem_map.1 hx
  exact length_rootL _ (h.take i)
theorem headsL_getD (hs : List (List UInt8)) (k i : Nat) (h : i ≤ k) : (headsL hs k).getD i [] = rootL (hs.take i) := by
  rw [headsL, List.getD_eq_getElem?_getD, List.getElem?_map, List.getElem?_range (by omega)]; rfl
theorem foldR_head (hs : List (List UInt8)) (k : Nat) (h : k < hs.length) : foldR (rootsL hs (wholeL 0 (k + 1))) = rootL (hs.take (k + 1)) := by
  rw [foldR_whole (k + 1) (k + 1) 0 hs (Nat.le_refl _) (by omega) (by omega), List.drop_zero]
end Go.Proofs.YtfhmjgkcpcnkbaaDoor
/- tree.Whole, notaryref09.Whole. -/
namespace Go.Proofs.YtfhmjgkcpcnkbaaDoor
open Go Go.RowKit

theorem bit_one (n i : Nat) (h : n / 2 ^ i % 2 = 1) : n % 2 ^ (i + 1) = 2 ^ i + n % 2 ^ i := by
  rw [Nat.mod_pow_succ, h, Nat.mul_one, Nat.add_comm]
theorem bit_zero (n i : Nat) (h : n / 2 ^ i % 2 = 0) : n % 2 ^ (i + 1) = n % 2 ^ i := by
  rw [Nat.mod_pow_succ, h, Nat.mul_zero, Nat.add_zero]
theorem wholeL_bit (a n i : Nat) (h : n / 2 ^ i % 2 = 1) : wholeL a (n % 2 ^ (i + 1)) = (a, a + 2 ^ i) :: wholeL (a + 2 ^ i) (n % 2 ^ i) := by
  have hp := Nat.two_pow_pos i
  have hlt : n % 2 ^ i < 2 ^ i := Nat.mod_lt _ hp
  rw [bit_one n i h]
  have hlog : (2 ^ i + n % 2 ^ i).log2 = i := (Nat.log2_eq_iff (by omega)).2 ⟨by omega, by rw [Nat.pow_succ]; omega⟩
  rw [wholeL_more a _ (by omega), hlog, Nat.add_sub_cancel_left]

theorem i64_and_one (a : Nat) (ha : a < 9223372036854775808) : bits .and .i64 (a : Int) 1 = ((a % 2 : Nat) : Int) := by
  have e : a &&& 1 = a % 2 := Nat.and_one_is_mod a
  show IntKind.i64.wrap ((BitVec.ofInt 64 (a : Int) &&& BitVec.ofInt 64 ((1 : Nat) : Int)).toNat : Int) = _
  rw [BitVec.toNat_and, ofInt_u64 a (by omega), ofInt_u64 1 (by omega), e, IntKind.wrap_i64]
  omega
theorem wholeL_len (d : Nat) : ∀ a n : Nat, n < 2 ^ d → (wholeL a n).length ≤ d + 1 := by
  induction d with
  | zero => intro a n h; rw [show n = 0 by omega, wholeL_zero]; simp
  | succ d ih =>
    intro a n h
    by_cases hn : n = 0
    · subst hn; rw [wholeL_zero]; simp
    · rw [wholeL_more a n hn, List.length_cons]
      have h1 := Nat.log2_self_le hn
      have h2 := Nat.lt_log2_self (n := n)
      have hl : n.log2 ≤ d := by
        have : n.log2 < d + 1 := (Nat.log2_lt hn).2 h
        omega
      have h3 : 2 ^ n.log2 ≤ 2 ^ d := Nat.pow_le_pow_right (by decide) hl
      rw [Nat.pow_succ] at h2
      have := ih (a + 2 ^ n.log2) (n - 2 ^ n.log2) (by omega)
      omega

/-- the greatest power of two that is not above n -/
theorem log2_of_pow (n j : Nat) (h1 : 2 ^ j ≤ n) (h2 : n < 2 ^ (j + 1)) : n.log2 = j := (Nat.log2_eq_iff (by have := Nat.two_pow_pos j; omega)).2 ⟨h1, h2⟩

end Go.Proofs.YtfhmjgkcpcnkbaaDoor
/- tree.Roots. -/
namespace Go.Proofs.YtfhmjgkcpcnkbaaDoor
open Go Go.RowKit

theorem owns_some {w : World} {base n s : Nat} {e : TypeId} {v : Value} {xs : List Value} (h : w.ownsRow base e s v n xs) (hn : 0 < n) : ∃ g c, v = .slice (some ⟨g, 0, none⟩) n c := by
  rcases h.2 with ⟨hv, h0⟩ | ⟨g', cap, cur, hv', _⟩
  · omega
  · exact ⟨g', cap, hv'⟩
theorem owns_fewerT {w : World} {base g n m c s : Nat} {e : TypeId} {xs : List Value} (h : w.ownsRow base e s (.slice (some ⟨g, 0, none⟩) m c) m xs) (hn : n ≤ m) :
    w.ownsRow base e s (.slice (some ⟨g, 0, none⟩) n c) n (xs.take (n * s)) := by
  have hl := h.1
  have hns : n * s ≤ m * s := Nat.mul_le_mul_right _ hn
  refine ⟨by rw [List.length_take, hl]; omega, ?_⟩
  rcases h.2 with ⟨hv, _⟩ | ⟨g', cap, cur, hv', hbg, hg, hnc, hcm, hcs, ht⟩
  · cases hv
  · cases hv'
    exact .inr ⟨g, c, cur, rfl, hbg, hg, by omega, hcm, hcs, by rw [← ht, List.take_take, Nat.min_eq_left hns]⟩
/-- one hash more -/
theorem append_hR {w : World} {base : Nat} {v : Value} {l : List (List UInt8)} (h : w.ownsRow base 48 32 v l.length (hcells l)) (x : List UInt8) (hx : x.length = 32) (hn : l.length ≤ 1000000000) (hb : base ≤ w.heap.size) :
    ∃ v' w', (Builtin.append_ #[36, 36] 36 #[v, .slice (some ⟨w.heap.size, 0, none⟩) 1 1]).run Tryd.prog (w.alloc (.cells (hcells [x]).toArray 48)) = .ok v' w' ∧
      w'.ownsRow base 48 32 v' (l ++ [x]).length (hcells (l ++ [x])) ∧ w.grownBy w' v.ownBlock ∧ (v'.ownBlock = v.ownBlock ∨ ∃ k, v'.ownBlock = some k ∧ w.heap.size ≤ k) := by
  have h32 : H32 [x] := by intro h hh; rw [List.mem_singleton.1 hh]; exact hx
  have hbA : Below w.heap.size w (w.alloc (.cells (hcells [x]).toArray 48)) := (Below.refl _ _).alloc (Nat.le_refl _) _
  obtain ⟨v', w', hr, ho, hg, hf⟩ := append_slv (ty := 36) Tryd.underlying36 info26z (by simp [Value.cells]) (by decide) (owns_step h hbA) (Hs.lit w [x] h32 (by simp) 1 rfl).sl (oneB _) (by unfold maxLen; omega) (by omega) (Nat.le_trans hb hbA.size)
  rw [← hcells_append] at ho
  refine ⟨v', w', hr, by rw [List.length_append]; exact ho, ⟨hg.os, hg.tape, hg.output, Nat.le_trans hbA.size hg.size, fun k hk hne => ?_⟩, ?_⟩
  · rw [hg.block k (Nat.lt_of_lt_of_le hk hbA.size) hne, hbA.block k hk]
  · rcases hf with hf | ⟨k, hf, hk⟩
    · exact .inl hf
    · exact .inr ⟨k, hf, by have := hbA.size; omega⟩

/-- between two rounds of the carry -/
def CarryP (hs : List (List UInt8)) (i k t : Nat) (ss : List (List UInt8)) (x : List UInt8) : Prop := k * 2 ^ t + 2 ^ t = i + 1 ∧ ss = rootsL hs (wholeL 0 (k * 2 ^ t)) ∧ x = stretchL hs (k * 2 ^ t) (k * 2 ^ t + 2 ^ t)
theorem CarryP.start (hs : List (List UInt8)) (i : Nat) (h : i < hs.length) : CarryP hs i i 0 (rootsL hs (wholeL 0 i)) (hs.getD i []) := by
  refine ⟨by rw [Nat.pow_zero, Nat.mul_one], by rw [Nat.pow_zero, Nat.mul_one], ?_⟩
  rw [Nat.pow_zero, Nat.mul_one, stretch_one hs i h]
theorem CarryP.next {hs : List (List UInt8)} {i k t : Nat} {ss : List (List UInt8)} {x : List UInt8} (h : CarryP hs i k t ss x) (hk : k % 2 = 1) (hi : i < hs.length) : ∃ ss' y, ss = ss' ++ [y] ∧ CarryP hs i (k / 2) (t + 1) ss' (hNode y x) := by
  obtain ⟨h1, h2, h3⟩ := h
  have hl := whole_low (k - 1) t (by omega)
  have e0 : k * 2 ^ t = (k - 1) * 2 ^ t + 2 ^ t := by
    conv => lhs; rw [show k = (k - 1) + 1 by omega, Nat.add_mul, Nat.one_mul]
  have e1 : k / 2 * 2 ^ (t + 1) = (k - 1) * 2 ^ t := by
    rw [Nat.pow_succ, Nat.mul_comm (2 ^ t) 2, ← Nat.mul_assoc, show k / 2 * 2 = k - 1 by omega]
  have e2 : 2 ^ (t + 1) = 2 ^ t + 2 ^ t := by rw [Nat.pow_succ]; omega
  rw [e0] at h1 h2 h3
  rw [hl, rootsL, List.map_append] at h2
  refine ⟨_, _, h2, ?_⟩
  unfold CarryP
  rw [e1, e2]
  refine ⟨by omega, rfl, ?_⟩
  rw [h3, ← Nat.add_assoc]
  exact (stretch_join hs ((k - 1) * 2 ^ t) t (by omega)).symm
theorem CarryP.done {hs : List (List UInt8)} {i k t : Nat} {ss : List (List UInt8)} {x : List UInt8} (h : CarryP hs i k t ss x) (hk : k % 2 = 0) : ss ++ [x] = rootsL hs (wholeL 0 (i + 1)) := by
  obtain ⟨h1, h2, h3⟩ := h
  have hl := whole_low k t hk
  rw [h1] at hl h3
  rw [hl, rootsL, List.map_append, h2, h3]
  rfl
theorem CarryP.len {hs : List (List UInt8)} {i k t : Nat} {ss : List (List UInt8)} {x : List UInt8} (h : CarryP hs i k t ss x) (h32 : H32 hs) : x.length = 32 := by rw [h.2.2]; exact length_stretchL hs _ _ h32
theorem CarryP.all {hs : List (List UInt8)} {i k t : Nat} {ss : List (List UInt8)} {x : List UInt8} (h : CarryP hs i k t ss x) (h32 : H32 hs) : H32 ss := by rw [h.2.1]; exact rootsL_all hs h32 _

structure RtC (w : World) (A : Option Addr) (n c : Nat) (hs : List (List UInt8)) (ov : Value) (os : List (List UInt8)) (sv : Value) (ss : List (List UInt8)) (W : World) : Prop where
  src : Hs W (fun b => b < w.heap.size) A n c hs
  out : W.ownsRow w.heap.size 48 32 ov os.length (hcells os)
  st : W.ownsRow w.heap.size 48 32 sv ss.length (hcells ss)
  ne : ∀ b, sv.ownBlock = some b → ov.ownBlock = some b → False
  bel : Below w.heap.size w W
section
variable {w : World} {A : Option Addr} {n c : Nat} {hs : List (List UInt8)} {ov sv : Value} {os ss : List (List UInt8)} {W W' : World}
theorem RtC.step (h : RtC w A n c hs ov os sv ss W) (hb : Below W.heap.size W W') : RtC w A n c hs ov os sv ss W' :=
  ⟨h.src.step hb, owns_step h.out hb, owns_step h.st hb, h.ne, h.bel.trans (hb.mono h.bel.size)⟩
theorem RtC.drew (h : RtC w A n c hs ov os sv ss W) : RtC w A n c hs ov os sv ss W.drew := h.step (Below.refl _ _).drew
theorem RtC.appSt (h : RtC w A n c hs ov os sv ss W) {v' : Value} {x : List UInt8} (hg : W.grownBy W' sv.ownBlock) (hf : v'.ownBlock = sv.ownBlock ∨ ∃ k, v'.ownBlock = some k ∧ W.heap.size ≤ k)
    (ho : W'.ownsRow w.heap.size 48 32 v' (ss ++ [x]).length (hcells (ss ++ [x]))) : RtC w A n c hs ov os v' (ss ++ [x]) W' := by
  refine ⟨h.src.grown hg ?_, h.out.kept hg ?_, ho, ?_, h.bel.grown hg h.bel.size fun k hk => (h.st.lt k hk).1⟩
  · intro b _ hx e; have := (h.st.lt _ e.symm).1; omega
  · cases e : ov.ownBlock with
    | none => exact .inl rfl
    | some b => exact .inr fun e2 => h.ne b e2.symm e
  · intro b h1 h2
    rcases hf with hf | ⟨k, hf, hk⟩
    · exact h.ne b (hf ▸ h1) h2
    · rw [hf] at h1; cases h1; have := (h.out.lt _ h2).2; omega
theorem RtC.appOut (h : RtC w A n c hs ov os sv ss W) {v' : Value} {x : List UInt8} (hg : W.grownBy W' ov.ownBlock) (hf : v'.ownBlock = ov.ownBlock ∨ ∃ k, v'.ownBlock = some k ∧ W.heap.size ≤ k)
    (ho : W'.ownsRow w.heap.size 48 32 v' (os ++ [x]).length (hcells (os ++ [x]))) : RtC w A n c hs v' (os ++ [x]) sv ss W' := by
  refine ⟨h.src.grown hg ?_, ho, h.st.kept hg ?_, ?_, h.bel.grown hg h.bel.size fun k hk => (h.out.lt k hk).1⟩
  · intro b _ hx e; have := (h.out.lt _ e.symm).1; omega
  · cases e : sv.ownBlock with
    | none => exact .inl rfl
    | some b => exact .inr fun e2 => h.ne b e e2.symm
  · intro b h1 h2
    rcases hf with hf | ⟨k, hf, hk⟩
    · exact h.ne b h1 (hf ▸ h2)
    · rw [hf] at h2; cases h2; have := (h.st.lt _ h1).2; omega
theorem RtC.setRow (h : RtC w A n c hs ov os sv ss W) {g : Nat} (cs : Array Value) (hg : w.heap.size ≤ g) (h1 : sv.ownBlock ≠ some g) (h2 : ov.ownBlock ≠ some g) : RtC w A n c hs ov os sv ss (W.setRow g cs) := by
  have hgr : W.grownBy (W.setRow g cs) (some g) := grown_setRow ⟨rfl, rfl, rfl, Nat.le_refl _, fun _ _ _ => rfl⟩ cs
  exact ⟨h.src.setRow g cs (by omega), h.out.kept hgr (.inr h2), h.st.kept hgr (.inr h1), h.ne, below_setRow h.bel hg _⟩
/-- the last of the stack goes -/
theorem RtC.pop {g p c' : Nat} {y : List UInt8} (h : RtC w A n c hs ov os (.slice (some ⟨g, 0, none⟩) (p + 1) c') (ss ++ [y]) W) (hl : ss.length = p) (h32 : H32 (ss ++ [y])) : RtC w A n c hs ov os (.slice (some ⟨g, 0, none⟩) p c') ss W := by
  refine ⟨h.src, h.out, ?_, fun b h1 h2 => h.ne b h1 h2, h.bel⟩
  have h1 := h.st
  rw [show (ss ++ [y]).length = p + 1 by rw [List.length_append, hl]; rfl] at h1
  have h2 := owns_fewerT (n := p) h1 (by omega)
  rw [hcells_take _ h32 p (by rw [List.length_append, hl]; simp), show (ss ++ [y]).take p = ss by rw [← hl]; simp] at h2
  rw [hl]
  exact h2
end

end Go.Proofs.YtfhmjgkcpcnkbaaDoor
/- The law TilesGrown. -/
namespace Go.Proofs.YtfhmjgkcpcnkbaaDoor
open Go Go.RowKit
attribute [local go_sem] Oper.semAt_some

theorem grownA_le (h m n : Nat) : (grownA h m n).1.length ≤ 65536 := by
  unfold grownA
  split
  · assumption
  · simp
theorem pl_load_at {W : World} {X : Nat → Prop} {A : Option Addr} {n c : Nat} {l : List PlV} {xs : List Value} (hs : SlV W X A n c 3 xs) (hl : l.length = n) {b o : Nat} (hA : A = some ⟨b, o, none⟩) (i : Nat) (hi : i < n) (hx : xs.drop (i * 3) = (plcells l).drop (i * 3)) :
    (Instr.loadAt 30 (.pointer (some ⟨b, o + i * 3, none⟩))).run Tryd.prog W = .ok (.agg (plcell (l.getD i (0, 0, 0))).toArray) W := by
  obtain ⟨b', o', e, -, -, h4⟩ := hs.at_ (by omega) (by decide)
  rw [hA] at e
  cases e
  refine run_load_agg (aggPl _) (sizePl _) b (o + i * 3) (plcell (l.getD i (0, 0, 0))) rfl fun j u hu => ?_
  rw [Nat.add_assoc]
  refine h4 _ u ?_
  rw [← List.getElem?_drop, hx, List.getElem?_drop]
  refine flat_atC _ (plcell3 l) i j u (by rw [List.length_map, hl]; exact hi) ?_
  rw [List.getD_eq_getElem?_getD, List.getElem?_map, List.getElem?_eq_getElem (l := l) (by rw [hl]; exact hi)]
  rw [List.getD_eq_getElem?_getD, List.getElem?_eq_getElem (l := l) (by rw [hl]; exact hi)] at hu
  exact hu
theorem drop_put (xs vs : List Value) (l : List PlV) (k : Nat) (hv : vs.length = 3) (hk : k * 3 + 3 ≤ xs.length) (hx : xs.drop (k * 3) = (plcells l).drop (k * 3)) : (xs.take (k * 3) ++ vs ++ xs.drop (k * 3 + 3)).drop ((k + 1) * 3) = (plcells l).drop ((k + 1) * 3) := by
  have h1 : (xs.take (k * 3) ++ vs).length = (k + 1) * 3 := by rw [List.length_append, List.length_take, hv]; omega
  rw [List.drop_left' h1, ← List.drop_drop, hx, List.drop_drop, show k * 3 + 3 = (k + 1) * 3 by omega]
theorem grown_any (z a b : Int) (hb63 : b ≤ 9223372036854775807) : ∃ (l : List PlV) (en : Int), l.length ≤ 65536 ∧
    (∀ V, Calls Tryd.prog 7 #[.int .i64 z, .int .i64 a, .int .i64 b] V fun e w' => ∃ v, e = .returned (.tuple #[v, .int .i64 en]) ∧ w'.ownsRow V.heap.size 30 3 v l.length (plcells l) ∧ Below V.heap.size V w') ∧
    (∀ V, Calls Tryd.prog 8 #[.int .i64 z, .int .i64 a, .int .i64 b] V fun e w' => ∃ v, e = .returned (.tuple #[v, .int .i64 en]) ∧ w'.ownsRow V.heap.size 30 3 v l.length (plcells l) ∧ Below V.heap.size V w') := by
  by_cases hbad : z < 1 ∨ 8 < z ∨ a < 0 ∨ b < a
  · refine ⟨[], 2, by simp, fun V => (tgrown_bad z a b V hbad).mono ?_, fun V => (rgrown_bad z a b V hbad).mono ?_⟩
    · rintro e w' ⟨rfl, hw⟩
      obtain rfl := hw.symm
      exact ⟨_, rfl, World.ownsRow_nil _ _ _ _, Below.refl _ _⟩
    · rintro e w' ⟨rfl, hw⟩
      obtain rfl := hw.symm
      exact ⟨_, rfl, World.ownsRow_nil _ _ _ _, Below.refl _ _⟩
  · obtain ⟨h, rfl⟩ : ∃ h : Nat, z = h := ⟨z.toNat, by omega⟩
    obtain ⟨m, rfl⟩ : ∃ h : Nat, a = h := ⟨a.toNat, by omega⟩
    obtain ⟨n, rfl⟩ : ∃ h : Nat, b = h := ⟨b.toNat, by omega⟩
    exact ⟨(grownA h m n).1, (grownA h m n).2, grownA_le h m n, fun V => tgrown_any h m n V (by omega) (by omega) (by omega) (by omega), fun V => rgrown_any h m n V (by omega) (by omega) (by omega) (by omega)⟩
set_option maxHeartbeats 8000000 in
set_option maxRecDepth 100000 in
theorem tilesGrown_any (z a b : Int) (w : World) (hT : Tab w) (hb63 : b ≤ 9223372036854775807) :
    Calls Tryd.prog 3 #[.int .i64 z, .int .i64 a, .int .i64 b] w fun e w' => e = .returned (.bool true) ∧ Below w.heap.size w w' := by
  obtain ⟨l, en, hl65, hG, hR⟩ := grown_any z a b hb63
  have h0s := hT.lt
  have HG := Lib.hid hG
  have HR := Lib.hid hR
  have HT := Lib.hid hT
  obtain ⟨n, hn⟩ : ∃ n, l.length = n := ⟨_, rfl⟩
  have Hn := Lib.hid hn
  rw [hn] at hl65
  clear hG hR hT hn
  go_enter Tryd.func3, Tryd.ntmps3
  go_wp2_with fail
  refine (HG.out _).mono ?_
  rintro e w1 ⟨v1, rfl, ho1, hb1⟩
  have Ho1 := Lib.hid ho1
  clear ho1
  go_wp2_with fail
  refine (HG.out _).mono ?_
  rintro e w2 ⟨v2, rfl, ho2, hb2⟩
  have Ho2 := Lib.hid ho2
  clear ho2
  go_wp2_with fail
  refine (HR.out _).mono ?_
  rintro e w3 ⟨v3, rfl, ho3, hb3⟩
  have ho1 := Ho1.out
  have ho2 := Ho2.out
  rw [Hn.out] at ho1 ho2 ho3
  have hlt1 := fun k hk => (ho1.lt k hk).2
  replace ho1 := owns_step (owns_step ho1 hb2) hb3
  replace ho2 := owns_step ho2 hb3
  obtain ⟨A1, c1, rfl, hs1⟩ := owns_slv ho1
  obtain ⟨A2, c2, rfl, -⟩ := owns_slv ho2
  obtain ⟨A3, c3, rfl, -⟩ := owns_slv ho3
  have hp2 := (Pls.of_owns ho2 Hn.out)
  have hp3 := (Pls.of_owns ho3 Hn.out).weak (Y := fun b => w1.heap.size ≤ b) fun b _ hb => Nat.le_trans hb2.size hb
  have hB := (hb1.trans (hb2.mono hb1.size)).trans (hb3.mono (Nat.le_trans hb1.size hb2.size))
  have hr1 := hs1.room
  have hm1 := hs1.max
  have hr2 := hp2.sl.room
  have hm2 := hp2.sl.max
  have hr3 := hp3.sl.room
  have hm3 := hp3.sl.max
  unfold maxLen at hm1 hm2 hm3
  have Hlt1 := Lib.hid hlt1
  have Hp2 := Lib.hid hp2
  have Hp3 := Lib.hid hp3
  have HB := Lib.hid hB
  have HO1 := Lib.hid ho1
  have hz1 := hb1.size
  clear hlt1 hp2 hp3 hB ho1 ho2 ho3 hs1 hb1 hb2 hb3 Ho1 Ho2 HG HR
  go_wp2_with (go_at_call 9; refine (num14_any _ _).mono ?_; rintro e w4 ⟨rfl, hw⟩; obtain rfl := hw)
  go_loopw [13] (fun v13 wr => ∃ (i : Nat) (xs : List Value), i ≤ n ∧ v13 = .int .i64 (i : Int) ∧ wr.ownsRow w.heap.size 30 3 (.slice A1 n c1) n xs ∧ xs.drop (i * 3) = (plcells l).drop (i * 3) ∧ Pls wr (fun b => w1.heap.size ≤ b) A2 n c2 l ∧ Pls wr (fun b => w1.heap.size ≤ b) A3 n c3 l ∧ Below w.heap.size w wr) (fun v13 _ => n - (intOf v13).toNat)
  case atStart => exact ⟨0, _, Nat.zero_le _, rfl, HO1.out, rfl, Hp2.out, Hp3.out, HB.out⟩
  case round =>
    clear HO1 Hp2 Hp3 HB
    obtain ⟨i, xs, hi, rfl, ho, hx, hp2, hp3, hb⟩ := hrel
    by_cases hin : i < n
    · have hd : decide ((i : Int) < (n : Int)) = true := by simp; omega
      have hwi : IntKind.i64.wrap ((i : Int) + 1) = (i : Int) + 1 := IntWalk.i64_in _ (by omega)
      obtain ⟨g, c', e⟩ := owns_some ho (by omega)
      cases e
      obtain ⟨b3, o3, rfl, -, -, -⟩ := hp3.sl.at_ (by omega) (by decide)
      obtain ⟨A1', c1', he1, hs1⟩ := owns_slv ho
      cases he1
      have hg1 := Hlt1.out g rfl
      have hld1 := fun V (hV : Below wr.heap.size wr V) => pl_load_at (hs1.step hV) Hn.out rfl i hin hx
      have hld3 := fun V (hV : Below wr.heap.size wr V) => (hp3.step hV).load rfl i hin
      obtain ⟨q, hq⟩ : ∃ q, l.getD i (0, 0, 0) = q := ⟨_, rfl⟩
      rw [hq] at hld1 hld3
      simp only [Nat.zero_add] at hld1
      have Hld1 := Lib.hid hld1
      have Hld3 := Lib.hid hld3
      have Ho := Lib.hid ho
      have Hx := Lib.hid hx
      have Hp2 := Lib.hid hp2
      have Hp3 := Lib.hid hp3
      have Hb := Lib.hid hb
      have hS : Below wr.heap.size wr wr.drew := (Below.refl _ _).drew
      clear hld1 hld3 hs1 ho hx hp2 hp3 hb hq
      go_upto_region 9 with fail
      refine wp_region_mix (fun V => Below wr.heap.size wr V) [(0, true), (1, true), (2, true), (3, true), (4, true), (5, true), (6, true), (7, true), (8, true)] (by kernel_rfl) (by kernel_rfl) hS fun _ => ?_
      simp only [List.map_cons, List.map_nil, Array.getD_eq_getD_getElem?, List.getElem?_toArray, List.getElem?_cons_succ, List.getElem?_cons_zero, Option.getD_some]
      generalize wr.drew = V0 at hS ⊢
      refine wpMix_s (fun K hK => ?_)
      go_simp
      refine hK _ ?_
      clear hK K
      refine wpMix_s (fun K hK => ?_)
      go_simp
      refine hK _ ?_
      clear hK K
      refine wpMix_s (fun K hK => ?_)
      go_simp
      refine hK _ ?_
      clear hK K
      refine wpMix_load (by kernel_rfl) 30 (.tmp 62) rfl (g) (i * 3) rfl (plcell q).toArray (fun s => Hld1.out s.W s.ok) ?_
      simp only [Act.put, List.setIfInBounds_toArray, List.set_cons_succ, List.set_cons_zero]
      refine wpMix_s (fun K hK => ?_)
      go_simp
      refine hK _ ?_
      clear hK K
      refine wpMix_s (fun K hK => ?_)
      go_simp
      refine hK _ ?_
      clear hK K
      refine wpMix_s (fun K hK => ?_)
      go_simp
      refine hK _ ?_
      clear hK K
      refine wpMix_load (by kernel_rfl) 30 (.tmp 66) rfl (b3) (o3 + i * 3) rfl (plcell q).toArray (fun s => Hld3.out s.W s.ok) ?_
      simp only [Act.put, List.setIfInBounds_toArray, List.set_cons_succ, List.set_cons_zero]
      refine wpMix_v (by kernel_rfl) (.bool false) (fun s => run_neqPl_f (.tmp 63) (.tmp 67) _ (q.1 : Int) (q.2.1 : Int) (q.2.2 : Int) rfl rfl rfl s.W) ?_
      simp only [Act.put, List.setIfInBounds_toArray, List.set_cons_succ, List.set_cons_zero]
      refine wpMix_nil ?_
      intro _
      have ho2 := owns_step Ho.out hS
      have hlx := ho2.1
      obtain ⟨cur, hk2, hsz, hbg, ho4⟩ := owns_put ho2 i hin [Value.int .i64 (-7), Value.int .i64 0, Value.int .i64 0] rfl
      have hdr := drop_put xs [Value.int .i64 (-7), Value.int .i64 0, Value.int .i64 0] l i rfl (by rw [hlx]; omega) Hx.out
      have hp2 := Hp2.out.step hS
      have hp3 := Hp3.out.step hS
      have hb4 := Hb.out.trans (hS.mono Hb.out.size)
      have hkr : ∀ cs, KB (fun b => b = g) V0 (V0.setRow g cs) := fun cs => KB.of_grown (row := some g) ⟨rfl, rfl, rfl, by simp, fun i _ hne => setRow_other V0 g i _ (fun e => hne (by rw [e]))⟩ fun r e => (Option.some.inj e).symm
      obtain ⟨W5, hW5⟩ : ∃ x, V0.setRow g (cur.toList.take (i * 3) ++ [Value.int .i64 (-7), Value.int .i64 0, Value.int .i64 0] ++ cur.toList.drop (i * 3 + 3)).toArray = x := ⟨_, rfl⟩
      have hk5 : KB (fun b => b = g) V0 W5 := by rw [← hW5]; exact hkr _
      rw [hW5] at ho4
      have Ho4 := Lib.hid ho4
      have Hdr := Lib.hid hdr
      have Hp2' := Lib.hid (show Pls W5 (fun b => w1.heap.size ≤ b) A2 n c2 l from ⟨hk5.slv hp2.sl fun b _ hb e => by have hb : w1.heap.size ≤ b := hb; omega, hp2.len⟩)
      have Hp3' := Lib.hid (show Pls W5 (fun b => w1.heap.size ≤ b) (some ⟨b3, o3, none⟩) n c3 l from ⟨hk5.slv hp3.sl fun b _ hb e => by have hb : w1.heap.size ≤ b := hb; omega, hp3.len⟩)
      have Hb4 := Lib.hid (hb4.trans (hk5.below (fun b e => by omega) hb4.size))
      have HW5 := Lib.hid hW5
      clear hS ho2 ho4 hdr hp2 hp3 hb4 hkr hW5 hk5 Ho Hx Hp2 Hp3 Hb Hld1 Hld3
      go_wp2_with (first
        | ((with_reducible show wpList _ _ _ (⟨some 71, .build _ _, _, _, _, _⟩ :: _) _ _); refine wpList_run0 rfl (.agg #[Value.int .i64 (-7), Value.int .i64 0, Value.int .i64 0]) (by kernel_rfl) ?_; simp only [Act.put, List.setIfInBounds_toArray, List.set_cons_succ, List.set_cons_zero])
        | ((with_reducible show wpList _ _ _ (⟨none, .store _ _ _, _, _, _, _⟩ :: _) _ _); refine wpList_store_agg rfl 30 (.tmp 72) (.tmp 71) rfl 3 sizePl g (i * 3) #[Value.int .i64 (-7), Value.int .i64 0, Value.int .i64 0] (by simp [Act.eval]) rfl rfl (by intro v hv; simp only [List.mem_cons, List.not_mem_nil, or_false] at hv; rcases hv with rfl | rfl | rfl <;> rfl) 30 cur hk2 hsz ?_; simp only [Act.put]; rw [HW5.out]))
      go_roundw
      case rel => exact ⟨i + 1, _, by omega, by go_num, Ho4.out, Hdr.out, Hp2'.out, Hp3'.out, Hb4.out⟩
      case measure => simp [intOf]; omega
    · obtain rfl : i = n := by omega
      have hd : decide ((i : Int) < (i : Int)) = false := by simp
      have Hp2 := Lib.hid hp2
      have Hp3 := Lib.hid hp3
      have Hb := Lib.hid hb
      clear ho hx hp2 hp3 hb
      go_wp2_with fail
      go_loopw [14] (fun v14 wr => ∃ j : Nat, j ≤ i ∧ v14 = .int .i64 (j : Int) ∧ Pls wr (fun b => w1.heap.size ≤ b) A2 i c2 l ∧ Pls wr (fun b => w1.heap.size ≤ b) A3 i c3 l ∧ Below w.heap.size w wr) (fun v14 _ => i - (intOf v14).toNat)
      case atStart => exact ⟨0, Nat.zero_le _, rfl, Hp2.out, Hp3.out, Hb.out⟩
      case round =>
        clear Hp2 Hp3 Hb hd hin
        obtain ⟨j, hj, rfl, hp2, hp3, hb⟩ := hrel
        by_cases hji : j < i
        · have hd : decide ((j : Int) < (i : Int)) = true := by simp; omega
          have hwj : IntKind.i64.wrap ((j : Int) + 1) = (j : Int) + 1 := IntWalk.i64_in _ (by omega)
          obtain ⟨b2, o2, rfl, -, -, -⟩ := hp2.sl.at_ (by omega) (by decide)
          obtain ⟨b3, o3, rfl, -, -, -⟩ := hp3.sl.at_ (by omega) (by decide)
          have hld2 := fun V (hV : Below wr.heap.size wr V) => (hp2.step hV).load rfl j hji
          have hld3 := fun V (hV : Below wr.heap.size wr V) => (hp3.step hV).load rfl j hji
          obtain ⟨q, hq⟩ : ∃ q, l.getD j (0, 0, 0) = q := ⟨_, rfl⟩
          rw [hq] at hld2 hld3
          have Hld2 := Lib.hid hld2
          have Hld3 := Lib.hid hld3
          have Hp2 := Lib.hid hp2
          have Hp3 := Lib.hid hp3
          have Hb := Lib.hid hb
          have hS : Below wr.heap.size wr wr.drew := (Below.refl _ _).drew
          clear hld2 hld3 hp2 hp3 hb hq
          go_upto_region 15 with fail
          refine wp_region_mix (fun V => Below wr.heap.size wr V) [(0, true), (1, true), (2, true), (3, true), (4, true), (5, true), (6, true), (7, true), (8, true)] (by kernel_rfl) (by kernel_rfl) hS fun _ => ?_
          simp only [List.map_cons, List.map_nil, Array.getD_eq_getD_getElem?, List.getElem?_toArray, List.getElem?_cons_succ, List.getElem?_cons_zero, Option.getD_some]
          generalize wr.drew = V0 at hS ⊢
          refine wpMix_s (fun K hK => ?_)
          go_simp
          refine hK _ ?_
          clear hK K
          refine wpMix_s (fun K hK => ?_)
          go_simp
          refine hK _ ?_
          clear hK K
          refine wpMix_s (fun K hK => ?_)
          go_simp
          refine hK _ ?_
          clear hK K
          refine wpMix_load (by kernel_rfl) 30 (.tmp 81) rfl (b2) (o2 + j * 3) rfl (plcell q).toArray (fun s => Hld2.out s.W s.ok) ?_
          simp only [Act.put, List.setIfInBounds_toArray, List.set_cons_succ, List.set_cons_zero]
          refine wpMix_s (fun K hK => ?_)
          go_simp
          refine hK _ ?_
          clear hK K
          refine wpMix_s (fun K hK => ?_)
          go_simp
          refine hK _ ?_
          clear hK K
          refine wpMix_s (fun K hK => ?_)
          go_simp
          refine hK _ ?_
          clear hK K
          refine wpMix_load (by kernel_rfl) 30 (.tmp 85) rfl (b3) (o3 + j * 3) rfl (plcell q).toArray (fun s => Hld3.out s.W s.ok) ?_
          simp only [Act.put, List.setIfInBounds_toArray, List.set_cons_succ, List.set_cons_zero]
          refine wpMix_v (by kernel_rfl) (.bool false) (fun s => run_neqPl_f (.tmp 82) (.tmp 86) _ (q.1 : Int) (q.2.1 : Int) (q.2.2 : Int) rfl rfl rfl s.W) ?_
          simp only [Act.put, List.setIfInBounds_toArray, List.set_cons_succ, List.set_cons_zero]
          refine wpMix_nil ?_
          intro _
          have Hp2' := Lib.hid (Hp2.out.step hS)
          have Hp3' := Lib.hid (Hp3.out.step hS)
          have Hb' := Lib.hid (Hb.out.trans (hS.mono Hb.out.size))
          clear hS Hp2 Hp3 Hb Hld2 Hld3
          go_wp2_with fail
          go_roundw
          case rel => exact ⟨j + 1, by omega, by go_num, Hp2'.out, Hp3'.out, Hb'.out⟩
          case measure => simp [intOf]; omega
        · obtain rfl : j = i := by omega
          have hd : decide ((j : Int) < (j : Int)) = false := by simp
          have Hb := Lib.hid hb
          have hw := works14_any wr (HT.out.below hb h0s)
          have Hw := Lib.hid hw
          clear hp2 hp3 hb hw
          go_wp2_with fail
          refine Hw.out.mono ?_
          rintro e w9 ⟨rfl, hb9⟩
          have Hb9 := Lib.hid hb9
          clear hb9
          go_wp2_with fail
          go_ret
          exact ⟨rfl, Hb.out.trans (Hb9.out.mono Hb.out.size)⟩
end Go.Proofs.YtfhmjgkcpcnkbaaDoor
