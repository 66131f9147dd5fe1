/- The fold of the whole stretches' roots; tree.Stretch. -/
import Derived.Test.YtmglkblomklcbaaQc112
import Derived.Test.YtmglkblomklcbaaQc110
import Derived.Test.YtmglkblomklcbaaQc101
import Derived.Test.YtmglkblomklcbaaQc111
namespace Go.Proofs.Ytmglkblomklcbaa
open Go Go.RowKit

/-- the root of the stretch from a to b -/
def stretchL (hs : List (List UInt8)) (a b : Nat) : List UInt8 := rootL ((hs.drop a).take (b - a))
theorem length_stretchL (hs : List (List UInt8)) (a b : Nat) (h : H32 hs) : (stretchL hs a b).length = 32 := length_rootL _ ((h.drop a).take _)
def foldR : List (List UInt8) → List UInt8
  | [] => hEmpty
  | [x] => x
  | x :: y :: t => hNode x (foldR (y :: t))
theorem foldR_cons (x : List UInt8) (l : List (List UInt8)) (h : l ≠ []) : foldR (x :: l) = hNode x (foldR l) := by
  cases l with
  | nil => exact absurd rfl h
  | cons y t => rfl
theorem length_foldR (x : List UInt8) (l : List (List UInt8)) (h : H32 (x :: l)) : (foldR (x :: l)).length = 32 := by
  cases l with
  | nil => exact h x (by simp)
  | cons y t => exact length_hNode _ _
def rootsL (hs : List (List UInt8)) (l : List (Nat × Nat)) : List (List UInt8) := l.map fun s => stretchL hs s.1 s.2
theorem rootsL_all (hs : List (List UInt8)) (h : H32 hs) (l : List (Nat × Nat)) : H32 (rootsL hs l) := fun x hx => by
  obtain ⟨s, _, rfl⟩ := List.mem_map.1 hx
  exact length_stretchL hs _ _ h
theorem wholeL_ne (a n : Nat) (h : n ≠ 0) : wholeL a n ≠ [] := by rw [wholeL_more a n h]; simp
theorem foldR_whole (d : Nat) : ∀ (n a : Nat) (hs : List (List UInt8)), n ≤ d → n ≠ 0 → a + n ≤ hs.length → foldR (rootsL hs (wholeL a n)) = rootL ((hs.drop a).take n) := by
  induction d with
  | zero => intro n a hs h h0; omega
  | succ d ih =>
    intro n a hs h h0 hl
    have hp := Nat.two_pow_pos n.log2
    have h1 := Nat.log2_self_le h0
    have h2 := Nat.lt_log2_self (n := n)
    have hsp := splitN_eq n n.log2
    rw [Nat.pow_succ] at h2 hsp
    rw [wholeL_more a n h0, rootsL, List.map_cons]
    generalize 2 ^ n.log2 = p at *
    by_cases hnp : n = p
    · subst hnp
      rw [Nat.sub_self, wholeL_zero]
      show stretchL hs a (a + n) = _
      rw [stretchL, Nat.add_sub_cancel_left]
    · have hs2 := hsp (by omega) (by omega)
      have hne : (wholeL (a + p) (n - p)).map (fun s => stretchL hs s.1 s.2) ≠ [] := by
        have := wholeL_ne (a + p) (n - p) (by omega)
        simpa using this
      have hi := ih (n - p) (a + p) hs (by omega) (by omega) (by omega)
      rw [rootsL] at hi
      have hlen : ((hs.drop a).take n).length = n := by rw [List.length_take, List.length_drop]; omega
      rw [foldR_cons _ _ hne, hi, rootL_more ((hs.drop a).take n) (by rw [hlen]; omega), hlen, hs2, List.take_take, Nat.min_eq_left (by omega), List.drop_take, List.drop_drop]
      show hNode (stretchL hs a (a + p)) _ = _
      rw [stretchL, Nat.add_sub_cancel_left]
theorem foldR_roots (hs : List (List UInt8)) (h : hs ≠ []) : foldR (rootsL hs (wholeL 0 hs.length)) = rootL hs := by
  have := foldR_whole hs.length hs.length 0 hs (Nat.le_refl _) (by simpa using h) (by omega)
  rw [this, List.drop_zero, List.take_length]
/-- from the back -/
theorem foldR_drop (l : List (List UInt8)) (i : Nat) (h : i + 1 < l.length) : foldR (l.drop i) = hNode (l.getD i []) (foldR (l.drop (i + 1))) := by
  rw [List.drop_eq_getElem_cons (by omega), foldR_cons _ _ (by intro e; have := congrArg List.length e; rw [List.length_drop, List.length_nil] at this; omega), List.getD_eq_getElem?_getD, List.getElem?_eq_getElem (by omega)]
  rfl
theorem foldR_last (l : List (List UInt8)) (n : Nat) (h : l.length = n + 1) : foldR (l.drop n) = l.getD n [] := by
  rw [List.drop_eq_getElem_cons (by omega), List.drop_of_length_le (by omega), List.getD_eq_getElem?_getD, List.getElem?_eq_getElem (by omega)]
  rfl

theorem tuple_cellT {fn : Func} {p u : Tmp} {ty t : TypeId} {P : Program} (h : fn.results = #[.cell p ty, .tmp u]) (tmps : Array Value) (w : World) (g : Nat) (cs : Array Value) (N : Nat) (el : TypeId)
    (hp : tmps.getD p undef = .pointer (some ⟨g, 0, none⟩)) (hg : Blk w g t cs) (hu : P.underlying ty = some (.array N el)) (hi : (P.info? ty).map (·.size) = some cs.size) :
    (results fn tmps).run P w = .ok (.tuple #[.agg cs, tmps.getD u undef]) w := by
  rw [results_cell_tmp h, hp]
  show ((loadVar ty ⟨g, 0, none⟩).run P w).andThen (fun v w₂ => Result.ok (Value.tuple #[v, tmps.getD u undef]) w₂) = _
  rw [run_loadVar_row w g t ty cs (0, 0) _ hg hu rfl hi]
  rfl
/-- 's[a:b]' -/
theorem run_slice_op_both {ρ : Operand → Value} {o : Oper} (x y z : Operand) (ho : o.op = .slice 22 x (some y) (some z) none) (A : Option Addr) (n c a b : Nat) (hx : ρ x = .slice A n c) (hy : ρ y = .int .i64 (a : Int)) (hz : ρ z = .int .i64 (b : Int)) (hab : a ≤ b) (hb : b ≤ c) (W : World) :
    (execOp ρ o).run Try.prog W = .ok (.value (.slice (if c = a then A else A.map (·.add (a * 32))) (b - a) (c - a))) W := by
  unfold execOp
  simp only [ho, hx, hy, hz, Option.map_some, Option.map_none]
  simp only [run_sliceAt_slice W 22 _ _ _ _ sliceHs, run_slice_lh W 22 A n c sliceHs .i64 .i64 (a : Int) (b : Int) (by omega) (by omega) (by omega), sizeHs, Sem.run_bind, Sem.run_pure, Result.andThen_ok, sliced, Int.toNat_natCast]

set_option maxHeartbeats 2000000 in
set_option maxRecDepth 100000 in
theorem tstretch_ok (hs : List (List UInt8)) (A : Option Addr) (n c : Nat) (w : World) (a b : Nat) (h : Hs w (fun _ => True) A n c hs) (hn : n ≤ 4398046511104) (hab : a < b) (hb : b ≤ n) :
    Calls Try.prog 30 #[.slice A n c, .agg #[.int .i64 (a : Int), .int .i64 (b : Int)]] w fun e w' => e = .returned (.tuple #[.agg ((stretchL hs a b).map B).toArray, .int .i64 0]) ∧ Below w.heap.size w w' := by
  obtain ⟨zs, hzs⟩ : ∃ zs, zeroHash = zs := ⟨_, rfl⟩
  have hzl : zs.size = 32 := by rw [← hzs]; rfl
  have hroom := h.sl.room
  have hmax := h.sl.max
  unfold maxLen at hmax
  have hbx := (Below.refl w.heap.size w).alloc (Nat.le_refl _) (.cells #[.int .i64 (a : Int), .int .i64 (b : Int)] 68)
  have x0 := Blk.new w 68 #[.int .i64 (a : Int), .int .i64 (b : Int)]
  have hb0 := hbx.alloc hbx.size (.cells zs 45)
  have k0 := Blk.new (w.alloc (.cells #[.int .i64 (a : Int), .int .i64 (b : Int)] 68)) 45 zs
  have x1 := x0.alloc (.cells zs 45)
  have h0 := (h.step hb0).drop a (by omega)
  rw [if_neg (by omega)] at h0
  have h1 := h0.take (b - a) (by omega)
  have hof := fun W (hW : Below ((w.alloc (.cells #[.int .i64 (a : Int), .int .i64 (b : Int)] 68)).alloc (.cells zs 45)).heap.size ((w.alloc (.cells #[.int .i64 (a : Int), .int .i64 (b : Int)] 68)).alloc (.cells zs 45)) W) => tof_any ((hs.drop a).take (b - a)) _ (b - a) (c - a) W (h1.step hW) (by omega)
  obtain ⟨r, hr⟩ : ∃ r, stretchL hs a b = r := ⟨_, rfl⟩
  have hrl : r.length = 32 := by rw [← hr]; exact length_stretchL hs _ _ h.all
  rw [show rootL ((hs.drop a).take (b - a)) = r from hr] at hof
  rw [hr]
  have e0 : ((w.alloc (.cells #[.int .i64 (a : Int), .int .i64 (b : Int)] 68)).alloc (.cells zs 45)).cell? ⟨w.heap.size, 0, none⟩ = some (.int .i64 (a : Int)) := by rw [x1.cell]; rfl
  have e1 : ((w.alloc (.cells #[.int .i64 (a : Int), .int .i64 (b : Int)] 68)).alloc (.cells zs 45)).cell? ⟨w.heap.size, 1, none⟩ = some (.int .i64 (b : Int)) := by rw [x1.cell]; rfl
  have Hof := Lib.hid hof
  have Hzs := Lib.hid hzs
  have Hrl := Lib.hid hrl
  have d0 : decide ((a : Int) < 0) = false := by simp
  have d1 : decide ((b : Int) ≤ (a : Int)) = false := by simp; omega
  have d1' : decide (b ≤ a) = false := by simp; omega
  have d2 : decide ((n : Int) < (b : Int)) = false := by simp; omega
  have d2' : decide (n < b) = false := by simp; omega
  clear hof hzs hrl hr h h0 h1 x0 x1 hbx
  go_enter Try.func30, Try.ntmps30
  go_wp2_with (first
    | ((with_reducible show wpList _ _ _ (⟨some 4, .alloc _, _, _, _, _⟩ :: _) _ _); refine wpList_run rfl (.pointer (some ⟨(w.alloc (.cells #[.int .i64 (a : Int), .int .i64 (b : Int)] 68)).heap.size, 0, none⟩)) ((w.alloc (.cells #[.int .i64 (a : Int), .int .i64 (b : Int)] 68)).alloc (.cells zs 45)) (by rw [← Hzs.out]; rfl) ?_; simp only [Act.put]))
  refine (Hof.out _ (Below.refl _ _)).mono ?_
  rintro e w2 ⟨rfl, hb2⟩
  have k2 := k0.below hb2 k0.lt
  rw [show (w.alloc (.cells #[.int .i64 (a : Int), .int .i64 (b : Int)] 68)).heap.size = w.heap.size + 1 by simp] at k2
  have B2 := hb0.trans (hb2.mono hb0.size)
  clear e0 e1 d0 d1 d1' d2 d2' Hof
  go_wp2_with ((with_reducible show wpList _ _ _ (⟨none, .store _ _ _, _, _, _, _⟩ :: _) _ _); refine wpList_store_blk rfl 45 (.tmp 4) (.tmp 30) rfl 32 size26 (w.heap.size + 1) (r.map B).toArray rfl rfl (by simp [Hrl.out]) (oneCell_B _) 45 _ k2 hzl ?_; simp only [Act.put])
  refine bodyPost_ret (tuple_cellT rfl _ _ (w.heap.size + 1) (r.map B).toArray _ _ rfl (k2.setRow_ _) Try.underlying45 (by rw [show (r.map B).toArray.size = 32 by simp [Hrl.out]]; exact info26)) rfl ⟨rfl, ?_⟩
  exact below_setRow B2 (by omega) _

set_option maxHeartbeats 2000000 in
set_option maxRecDepth 100000 in
theorem tstretch_bad (A : Option Addr) (n c : Nat) (w : World) (a b : Int) (hbad : a < 0 ∨ b ≤ a ∨ n < b) :
    Calls Try.prog 30 #[.slice A n c, .agg #[.int .i64 a, .int .i64 b]] w fun e w' => e = .returned (.tuple #[.agg zeroHash, .int .i64 4]) ∧ Below w.heap.size w w' := by
  obtain ⟨zs, hzs⟩ : ∃ zs, zeroHash = zs := ⟨_, rfl⟩
  have hzl : zs.size = 32 := by rw [← hzs]; rfl
  have hz1 : ∀ v ∈ zs.toList, v.oneCell' = true := by rw [← hzs]; exact oneCell_B _
  rw [hzs]
  have hbx := (Below.refl w.heap.size w).alloc (Nat.le_refl _) (.cells #[.int .i64 a, .int .i64 b] 68)
  have x0 := Blk.new w 68 #[.int .i64 a, .int .i64 b]
  have hb0 := hbx.alloc hbx.size (.cells zs 45)
  have k0 := Blk.new (w.alloc (.cells #[.int .i64 a, .int .i64 b] 68)) 45 zs
  have x1 := x0.alloc (.cells zs 45)
  rw [show (w.alloc (.cells #[.int .i64 a, .int .i64 b] 68)).heap.size = w.heap.size + 1 by simp] at k0
  have e0 : ((w.alloc (.cells #[.int .i64 a, .int .i64 b] 68)).alloc (.cells zs 45)).cell? ⟨w.heap.size, 0, none⟩ = some (.int .i64 a) := by rw [x1.cell]; rfl
  have e1 : ((w.alloc (.cells #[.int .i64 a, .int .i64 b] 68)).alloc (.cells zs 45)).cell? ⟨w.heap.size, 1, none⟩ = some (.int .i64 b) := by rw [x1.cell]; rfl
  have Hzs := Lib.hid hzs
  have Hz1 := Lib.hid hz1
  clear hzs hz1 x0 x1 hbx
  have hd : (decide (a < 0) = true) ∨ (decide (a < 0) = false ∧ decide (b ≤ a) = true) ∨ (decide (a < 0) = false ∧ decide (b ≤ a) = false ∧ decide ((n : Int) < b) = true) := by
    by_cases h1 : a < 0
    · exact .inl (decide_eq_true h1)
    · by_cases h2 : b ≤ a
      · exact .inr (.inl ⟨decide_eq_false h1, decide_eq_true h2⟩)
      · exact .inr (.inr ⟨decide_eq_false h1, decide_eq_false h2, decide_eq_true (by omega)⟩)
  clear hbad
  go_enter Try.func30, Try.ntmps30
  rcases hd with d1 | ⟨d1, d2⟩ | ⟨d1, d2, d3⟩
  all_goals
    go_wp2_with (first
      | ((with_reducible show wpList _ _ _ (⟨some 4, .alloc _, _, _, _, _⟩ :: _) _ _); refine wpList_run rfl (.pointer (some ⟨(w.alloc (.cells #[.int .i64 a, .int .i64 b] 68)).heap.size, 0, none⟩)) ((w.alloc (.cells #[.int .i64 a, .int .i64 b] 68)).alloc (.cells zs 45)) (by rw [← Hzs.out]; rfl) ?_; simp only [Act.put])
      | ((with_reducible show wpList _ _ _ (⟨some 23, .build _ _, _, _, _, _⟩ :: _) _ _); refine wpList_run0 rfl (.agg zs) (by rw [← Hzs.out]; kernel_rfl) ?_; simp only [Act.put])
      | ((with_reducible show wpList _ _ _ (⟨none, .store _ _ _, _, _, _, _⟩ :: _) _ _); refine wpList_store_blk rfl 45 (.tmp 4) (.tmp 23) rfl 32 size26 (w.heap.size + 1) zs rfl rfl hzl Hz1.out 45 _ k0 hzl ?_; simp only [Act.put]))
    refine bodyPost_ret (tuple_cellT rfl _ _ (w.heap.size + 1) zs _ _ rfl (k0.setRow_ _) Try.underlying45 (by rw [hzl]; exact info26)) rfl ⟨rfl, ?_⟩
    exact below_setRow hb0 (by omega) _
end Go.Proofs.Ytmglkblomklcbaa
/- The way up from a leaf (plain). -/
namespace Go.Proofs.Ytmglkblomklcbaa
open Go Go.RowKit

abbrev StepV := (Nat × Nat) × List UInt8
def lastH (l : List StepV) : List UInt8 := (l.getLastD ((0, 0), [])).2
theorem lastH_snoc (l : List StepV) (x : StepV) : lastH (l ++ [x]) = x.2 := by simp [lastH]
/-- the way of the entry i of the stretch from a to b, by a proof -/
def upF : Nat → List UInt8 → Nat → Nat → Nat → List (List UInt8) → List StepV
  | 0, leaf, _, a, b, _ => [((a, b), leaf)]
  | f + 1, leaf, i, a, b, p =>
    if b - a < 2 then [((a, b), leaf)]
    else if i < a + splitN (b - a) then upF f leaf i a (a + splitN (b - a)) p.dropLast ++ [((a, b), hNode (lastH (upF f leaf i a (a + splitN (b - a)) p.dropLast)) (p.getD (p.length - 1) []))]
    else upF f leaf i (a + splitN (b - a)) b p.dropLast ++ [((a, b), hNode (p.getD (p.length - 1) []) (lastH (upF f leaf i (a + splitN (b - a)) b p.dropLast)))]
theorem upF_enough : ∀ (f g : Nat) (leaf : List UInt8) (i a b : Nat) (p : List (List UInt8)), b - a ≤ f → b - a ≤ g → upF f leaf i a b p = upF g leaf i a b p
  | 0, 0, _, _, _, _, _, _, _ => rfl
  | 0, g + 1, _, _, _, _, _, h, _ => by simp only [upF]; rw [if_pos (by omega)]
  | f + 1, 0, _, _, _, _, _, _, h => by simp only [upF]; rw [if_pos (by omega)]
  | f + 1, g + 1, leaf, i, a, b, p, h1, h2 => by
    simp only [upF]
    split
    · rfl
    · rename_i h3
      have hl := splitN_lt (b - a) (by omega)
      have hp := splitN_pos (b - a) (by omega)
      rw [upF_enough f g leaf i a (a + splitN (b - a)) _ (by omega) (by omega), upF_enough f g leaf i (a + splitN (b - a)) b _ (by omega) (by omega)]
def upL (leaf : List UInt8) (i a b : Nat) (p : List (List UInt8)) : List StepV := upF (b - a) leaf i a b p
theorem upL_small (leaf : List UInt8) (i a b : Nat) (p : List (List UInt8)) (h : b - a < 2) : upL leaf i a b p = [((a, b), leaf)] := by
  unfold upL
  rw [upF_enough (b - a) (b - a + 1) leaf i a b p (Nat.le_refl _) (by omega), upF, if_pos h]
theorem upL_left (leaf : List UInt8) (i a b : Nat) (p : List (List UInt8)) (h : 2 ≤ b - a) (hi : i < a + splitN (b - a)) : upL leaf i a b p = upL leaf i a (a + splitN (b - a)) p.dropLast ++ [((a, b), hNode (lastH (upL leaf i a (a + splitN (b - a)) p.dropLast)) (p.getD (p.length - 1) []))] := by
  have hl := splitN_lt (b - a) (by omega)
  unfold upL
  rw [upF_enough (b - a) (b - a + 1) leaf i a b p (Nat.le_refl _) (by omega), upF, if_neg (by omega), if_pos hi, upF_enough (b - a) (a + splitN (b - a) - a) leaf i a (a + splitN (b - a)) _ (by omega) (Nat.le_refl _)]
theorem upL_right (leaf : List UInt8) (i a b : Nat) (p : List (List UInt8)) (h : 2 ≤ b - a) (hi : ¬ i < a + splitN (b - a)) : upL leaf i a b p = upL leaf i (a + splitN (b - a)) b p.dropLast ++ [((a, b), hNode (p.getD (p.length - 1) []) (lastH (upL leaf i (a + splitN (b - a)) b p.dropLast)))] := by
  have hp := splitN_pos (b - a) (by omega)
  unfold upL
  rw [upF_enough (b - a) (b - a + 1) leaf i a b p (Nat.le_refl _) (by omega), upF, if_neg (by omega), if_neg hi, upF_enough (b - a) (b - (a + splitN (b - a))) leaf i (a + splitN (b - a)) b _ (by omega) (Nat.le_refl _)]
/-- as many steps as hashes, and one -/
theorem length_upL (leaf : List UInt8) (d : Nat) : ∀ (i a b : Nat) (p : List (List UInt8)), b - a ≤ d → a ≤ i → i < b → (upL leaf i a b p).length = (pathL i a b).length + 1 := by
  induction d with
  | zero => intro i a b p h h1 h2; omega
  | succ d ih =>
    intro i a b p h h1 h2
    by_cases hs : b - a < 2
    · rw [upL_small leaf i a b p hs, pathL_small i a b hs]; rfl
    · have hl := splitN_lt (b - a) (by omega)
      have hp := splitN_pos (b - a) (by omega)
      by_cases hi : i < a + splitN (b - a)
      · rw [upL_left leaf i a b p (by omega) hi, pathL_left i a b (by omega) hi, List.length_append, List.length_append, ih i a (a + splitN (b - a)) _ (by omega) h1 hi]; rfl
      · rw [upL_right leaf i a b p (by omega) hi, pathL_right i a b (by omega) hi, List.length_append, List.length_append, ih i (a + splitN (b - a)) b _ (by omega) (by omega) h2]; rfl
theorem upL_all (leaf : List UInt8) (hlf : leaf.length = 32) (d : Nat) : ∀ (i a b : Nat) (p : List (List UInt8)), b - a ≤ d → ∀ s ∈ upL leaf i a b p, s.2.length = 32 := by
  induction d with
  | zero => intro i a b p h s hs; rw [upL_small leaf i a b p (by omega)] at hs; rw [List.mem_singleton.1 hs]; exact hlf
  | succ d ih =>
    intro i a b p h s hs
    by_cases h2 : b - a < 2
    · rw [upL_small leaf i a b p h2] at hs; rw [List.mem_singleton.1 hs]; exact hlf
    · have hl := splitN_lt (b - a) (by omega)
      have hp := splitN_pos (b - a) (by omega)
      by_cases hi : i < a + splitN (b - a)
      · rw [upL_left leaf i a b p (by omega) hi] at hs
        rcases List.mem_append.1 hs with h1 | h1
        · exact ih i a (a + splitN (b - a)) _ (by omega) s h1
        · rw [List.mem_singleton.1 h1]; exact length_hNode _ _
      · rw [upL_right leaf i a b p (by omega) hi] at hs
        rcases List.mem_append.1 hs with h1 | h1
        · exact ih i (a + splitN (b - a)) b _ (by omega) s h1
        · rw [List.mem_singleton.1 h1]; exact length_hNode _ _
/-- the last step is the whole stretch -/
theorem upL_last (leaf : List UInt8) (i a b : Nat) (p : List (List UInt8)) : ∃ l x, upL leaf i a b p = l ++ [((a, b), x)] := by
  by_cases h2 : b - a < 2
  · exact ⟨[], leaf, upL_small leaf i a b p h2⟩
  · by_cases hi : i < a + splitN (b - a)
    · exact ⟨_, _, upL_left leaf i a b p (by omega) hi⟩
    · exact ⟨_, _, upL_right leaf i a b p (by omega) hi⟩
def rootsP (hs : List (List UInt8)) (i : Int) : List (List UInt8) := rootsL hs (pathA i hs.length).1
/-- what incl.way and the document's Up answer -/
def wayA (leaf : List UInt8) (i n : Int) (p : List (List UInt8)) : List StepV × Int :=
  if (pathA i n).2 ≠ 0 then ([], (pathA i n).2) else if (pathA i n).1.length ≠ p.length then ([], 210) else (upL leaf i.toNat 0 n.toNat p, 0)
/-- the root that a proof leads to -/
def fromA (leaf : List UInt8) (i n : Int) (p : List (List UInt8)) : List UInt8 × Int :=
  if (wayA leaf i n p).2 ≠ 0 then (List.replicate 32 0, (wayA leaf i n p).2) else (lastH (wayA leaf i n p).1, 0)
def takenA (leaf : List UInt8) (i n : Int) (root : List UInt8) (p : List (List UInt8)) : Int :=
  if (fromA leaf i n p).2 ≠ 0 then (fromA leaf i n p).2 else if (fromA leaf i n p).1 ≠ root then 210 else 0
/-- the proof leads to the root -/
theorem upL_roots (hs : List (List UInt8)) (d : Nat) : ∀ (i a b : Nat), b - a ≤ d → a ≤ i → i < b → b ≤ hs.length → ∀ s ∈ upL (hs.getD i []) i a b (rootsL hs (pathL i a b)), s.2 = stretchL hs s.1.1 s.1.2 ∧ a ≤ s.1.1 ∧ s.1.2 ≤ b := by
  induction d with
  | zero => intro i a b h h1 h2; omega
  | succ d ih =>
    intro i a b h h1 h2 hb s hs'
    by_cases h3 : b - a < 2
    · rw [upL_small _ i a b _ h3] at hs'
      rw [List.mem_singleton.1 hs']
      refine ⟨?_, Nat.le_refl _, Nat.le_refl _⟩
      show hs.getD i [] = stretchL hs a b
      unfold stretchL
      obtain rfl : a = i := by omega
      rw [show b - a = 1 by omega, List.drop_eq_getElem_cons (by omega), List.getD_eq_getElem?_getD, List.getElem?_eq_getElem (by omega)]
      rfl
    · have hl := splitN_lt (b - a) (by omega)
      have hp := splitN_pos (b - a) (by omega)
      have hsp : stretchL hs a b = hNode (stretchL hs a (a + splitN (b - a))) (stretchL hs (a + splitN (b - a)) b) := by
        unfold stretchL
        have hlen : ((hs.drop a).take (b - a)).length = b - a := by rw [List.length_take, List.length_drop]; omega
        rw [rootL_more ((hs.drop a).take (b - a)) (by rw [hlen]; omega), hlen, List.take_take, Nat.min_eq_left (by omega), List.drop_take, List.drop_drop, show a + splitN (b - a) - a = splitN (b - a) by omega, show b - (a + splitN (b - a)) = b - a - splitN (b - a) by omega]
      have snoc : ∀ (l : List (Nat × Nat)) (x : Nat × Nat), rootsL hs (l ++ [x]) = rootsL hs l ++ [stretchL hs x.1 x.2] := fun l x => by simp [rootsL]
      have lst : ∀ (l : List (List UInt8)) (x : List UInt8), (l ++ [x]).getD ((l ++ [x]).length - 1) [] = x := fun l x => by simp [List.getD_eq_getElem?_getD]
      have hlast : ∀ (i a b : Nat), b - a ≤ d → a ≤ i → i < b → b ≤ hs.length → lastH (upL (hs.getD i []) i a b (rootsL hs (pathL i a b))) = stretchL hs a b := fun i a b h1 h2 h3 h4 => by
        obtain ⟨l, x, e⟩ := upL_last (hs.getD i []) i a b (rootsL hs (pathL i a b))
        have := (ih i a b h1 h2 h3 h4 ((a, b), x) (by rw [e]; simp)).1
        rw [e, lastH_snoc]
        exact this
      by_cases hi : i < a + splitN (b - a)
      · rw [upL_left _ i a b _ (by omega) hi, pathL_left i a b (by omega) hi, snoc, List.dropLast_concat, lst, hlast i a (a + splitN (b - a)) (by omega) h1 hi (by omega)] at hs'
        rcases List.mem_append.1 hs' with h4 | h4
        · obtain ⟨e1, e2, e3⟩ := ih i a (a + splitN (b - a)) (by omega) h1 hi (by omega) s h4
          exact ⟨e1, e2, by omega⟩
        · rw [List.mem_singleton.1 h4]
          exact ⟨hsp.symm, Nat.le_refl _, Nat.le_refl _⟩
      · rw [upL_right _ i a b _ (by omega) hi, pathL_right i a b (by omega) hi, snoc, List.dropLast_concat, lst, hlast i (a + splitN (b - a)) b (by omega) (by omega) h2 hb] at hs'
        rcases List.mem_append.1 hs' with h4 | h4
        · obtain ⟨e1, e2, e3⟩ := ih i (a + splitN (b - a)) b (by omega) (by omega) h2 hb s h4
          exact ⟨e1, by omega, e3⟩
        · rw [List.mem_singleton.1 h4]
          exact ⟨hsp.symm, Nat.le_refl _, Nat.le_refl _⟩
end Go.Proofs.Ytmglkblomklcbaa
/- An operation with a guard whose run is known. No program in sight. -/
namespace Go.Proofs.Ytmglkblomklcbaa
open Go Go.RowKit

theorem wpList_runG {P : Program} {w : World} {ops : Array Oper} {rest : List Oper} {o : Oper} {a : Act} {Q : Exit → Act → World → Prop} (hw : Region.wanted o (yielded ops a.tmps) = true) (v : Value) (w' : World) (hrun : (execOp a.eval o).run P w = .ok (.value v) w')
    (h : wpList P ops Q rest (a.put o.dst v) w') : wpList P ops Q (o :: rest) a w :=
  wpList_step fun K hK => by
    rw [if_pos hw]
    unfold Oper.wp
    rw [hrun]
    exact hK _ _ h
end Go.Proofs.Ytmglkblomklcbaa
/- Variables that hold a hash: one step for each, by what is known of their block. -/
namespace Go.Proofs.Ytmglkblomklcbaa
open Go Go.RowKit

/-- a block holds this hash -/
structure HV (w : World) (g : Nat) (l : List UInt8) : Prop where
  blk : Blk w g 45 (l.map B).toArray
  len : l.length = 32
theorem HV.step {w W : World} {g : Nat} {l : List UInt8} (h : HV w g l) (hb : Below w.heap.size w W) : HV W g l := ⟨h.blk.below hb h.blk.lt, h.len⟩
theorem HV.lt {w : World} {g : Nat} {l : List UInt8} (h : HV w g l) : g < w.heap.size := h.blk.lt
theorem HV.drew {w : World} {g : Nat} {l : List UInt8} (h : HV w g l) : HV w.drew g l := ⟨h.blk, h.len⟩
theorem HV.load {w : World} {g : Nat} {l : List UInt8} (h : HV w g l) : (Instr.loadAt 45 (.pointer (some ⟨g, 0, none⟩))).run Try.prog w = .ok (.agg (l.map B).toArray) w :=
  run_load_blk (agg26 _) (size26 _) g _ (by simp [h.len]) h.blk
theorem HV.far {w W : World} {g g' : Nat} {l : List UInt8} (h : HV w g l) (hb : Below g' w W) (hg : g < g') : HV W g l := ⟨h.blk.below hb hg, h.len⟩
theorem Blk.step {w W : World} {g : Nat} {t : TypeId} {cs : Array Value} (h : Blk w g t cs) (hb : Below w.heap.size w W) : Blk W g t cs := h.below hb h.lt

section
variable {w : World} {ops : Array Oper} {rest : List Oper} {o o1 o2 o3 : Oper} {a : Act} {Q : Exit → Act → World → Prop}
set_option maxRecDepth 100000 in
/-- a new variable, written at once -/
theorem wpList_hvar {l : List UInt8} (x y : Operand) (hg1 : o1.guard = none) (hg2 : o2.guard = none) (ho1 : o1.op = .alloc 45) (ho2 : o2.op = .store 45 x y)
    (hx : (a.put o1.dst (.pointer (some ⟨w.heap.size, 0, none⟩))).eval x = .pointer (some ⟨w.heap.size, 0, none⟩)) (hy : (a.put o1.dst (.pointer (some ⟨w.heap.size, 0, none⟩))).eval y = .agg (l.map B).toArray) (hl : l.length = 32)
    (h : ∀ W, HV W w.heap.size l → Below w.heap.size w W → wpList Try.prog ops Q rest ((a.put o1.dst (.pointer (some ⟨w.heap.size, 0, none⟩))).put o2.dst undef) W) : wpList Try.prog ops Q (o1 :: o2 :: rest) a w := by
  have hz : zeroHash.size = 32 := rfl
  refine wpList_run hg1 (.pointer (some ⟨w.heap.size, 0, none⟩)) (w.alloc (.cells zeroHash 45)) ?_ ?_
  · unfold execOp
    rw [ho1]
    rfl
  · refine wpList_store_blk hg2 45 x y ho2 32 size26 w.heap.size (l.map B).toArray hx hy (by simp [hl]) (oneCell_B _) 45 _ (Blk.new w 45 zeroHash) hz ?_
    exact h _ ⟨(Blk.new w 45 zeroHash).setRow_ _, hl⟩ (below_setRow ((Below.refl _ _).alloc (Nat.le_refl _) _) (Nat.le_refl _) _)
set_option maxRecDepth 100000 in
/-- a new variable, nought -/
theorem wpList_hnew (hg1 : o1.guard = none) (ho1 : o1.op = .alloc 45)
    (h : ∀ W, HV W w.heap.size (List.replicate 32 0) → Below w.heap.size w W → wpList Try.prog ops Q rest (a.put o1.dst (.pointer (some ⟨w.heap.size, 0, none⟩))) W) : wpList Try.prog ops Q (o1 :: rest) a w := by
  refine wpList_run hg1 (.pointer (some ⟨w.heap.size, 0, none⟩)) (w.alloc (.cells zeroHash 45)) ?_ (h _ ⟨Blk.new w 45 zeroHash, rfl⟩ ((Below.refl _ _).alloc (Nat.le_refl _) _))
  unfold execOp
  rw [ho1]
  rfl
/-- a variable is written over: all below it stays -/
theorem wpList_hset {l l' : List UInt8} {g : Nat} (x y : Operand) (hg2 : o.guard = none) (ho2 : o.op = .store 45 x y) (k : HV w g l')
    (hx : a.eval x = .pointer (some ⟨g, 0, none⟩)) (hy : a.eval y = .agg (l.map B).toArray) (hl : l.length = 32)
    (h : ∀ W, HV W g l → Below g w W → W = w.setRow g (l.map B).toArray → wpList Try.prog ops Q rest (a.put o.dst undef) W) : wpList Try.prog ops Q (o :: rest) a w :=
  wpList_store_blk hg2 45 x y ho2 32 size26 g (l.map B).toArray hx hy (by simp [hl]) (oneCell_B _) 45 _ k.blk (by simp [k.len])
    (h _ ⟨k.blk.setRow_ _, hl⟩ (below_setRow (Below.refl _ _) (Nat.le_refl _) _) rfl)
theorem wpList_hload {l : List UInt8} {g : Nat} (x : Operand) (hw : Region.wanted o (yielded ops a.tmps) = true) (ho : o.op = .load 45 x) (k : HV w g l) (hx : a.eval x = .pointer (some ⟨g, 0, none⟩))
    (h : wpList Try.prog ops Q rest (a.put o.dst (.agg (l.map B).toArray)) w) : wpList Try.prog ops Q (o :: rest) a w :=
  wpList_runG hw (.agg (l.map B).toArray) w (run_load_op 45 x ho g 0 hx _ k.load) h
/-- a scalar, by its cell -/
theorem wpList_cell {P : Program} (ty : TypeId) (x : Operand) (g off : Nat) (v : Value) (hw : Region.wanted o (yielded ops a.tmps) = true) (ho : o.op = .load ty x) (hx : a.eval x = .pointer (some ⟨g, off, none⟩))
    (hrun : (Instr.loadAt ty (.pointer (some ⟨g, off, none⟩))).run P w = .ok v w) (h : wpList P ops Q rest (a.put o.dst v) w) : wpList P ops Q (o :: rest) a w :=
  wpList_runG hw v w (run_load_op ty x ho g off hx _ hrun) h
end
theorem run_load_scalar {P : Program} {W : World} {ty : TypeId} {g o : Nat} {v : Value} (hagg : (isAgg ty).run P W = .ok false W) (h : W.cell? ⟨g, o, none⟩ = some v) : (Instr.loadAt ty (.pointer (some ⟨g, o, none⟩))).run P W = .ok v W := by
  simp [Instr.loadAt, Instr.sureAddr, loadVar, Sem.run_bind, hagg, Go.load, Sem.run, h]
theorem notagg64 : ∀ w : World, (isAgg 2).run Try.prog w = .ok false w := fun _ => by kernel_rfl
/-- hashes: one is put in the place of another -/
theorem hcells_set : ∀ (l : List (List UInt8)), H32 l → ∀ (k : Nat) (x : List UInt8), k < l.length → (hcells l).take (k * 32) ++ x.map B ++ (hcells l).drop (k * 32 + 32) = hcells (l.set k x) := by
  intro l h k x hk
  rw [hcells_take l h k (by omega), show k * 32 + 32 = (k + 1) * 32 by omega, hcells_drop l h (k + 1) (by omega), List.set_eq_take_append_cons_drop, if_pos hk, hcells_append]
  simp [hcells]
theorem H32.set {l : List (List UInt8)} (h : H32 l) (k : Nat) {x : List UInt8} (hx : x.length = 32) : H32 (l.set k x) := fun y hy => by
  rcases List.mem_or_eq_of_mem_set hy with h1 | rfl
  · exact h y h1
  · exact hx
theorem Hs.get {w : World} {X : Nat → Prop} {A : Option Addr} {n c : Nat} {hs : List (List UInt8)} (h : Hs w X A n c hs) {b o : Nat} (hA : A = some ⟨b, o, none⟩) (i : Nat) (hi : i < n) :
    (Instr.loadAt 45 (.pointer (some ⟨b, o + i * 32, none⟩))).run Try.prog w = .ok (.agg ((hs.getD i []).map B).toArray) w := by
  obtain ⟨b', o', hA', -, -, hat⟩ := h.at_ (by omega)
  rw [hA] at hA'
  cases hA'
  exact hat i hi
end Go.Proofs.Ytmglkblomklcbaa
