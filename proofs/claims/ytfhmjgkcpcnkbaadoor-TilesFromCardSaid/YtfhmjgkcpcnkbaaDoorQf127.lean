/- The fold of the whole stretches' roots; tree.Stretch. -/
import Derived.Test.YtfhmjgkcpcnkbaaDoorQf115
import Derived.Test.YtfhmjgkcpcnkbaaDoorQf110
import Derived.Test.YtfhmjgkcpcnkbaaDoorQf109
import Derived.Test.YtfhmjgkcpcnkbaaDoorQf125
import Derived.Laws.EntriesVeiled
namespace Go.Proofs.YtfhmjgkcpcnkbaaDoor
open Go Go.RowKit

/-- the root of the stretch from a to b -/
def stretchL (hs : List (List UInt8)) (a b : Nat) : List UInt8 := rootL ((hs.drop a).take (b - a))
theorem length_stretchL (hs : List (List UInt8)) (a b : Nat) (h : H32 hs) : (stretchL hs a b).length = 32 := length_rootL _ ((h.drop a).take _)
def foldR : List (List UInt8) → List UInt8
  | [] => hEmpty
  | [x] => x
  | x :: y :: t => hNode x (foldR (y :: t))
theorem foldR_cons (x : List UInt8) (l : List (List UInt8)) (h : l ≠ []) : foldR (x :: l) = hNode x (foldR l) := by
  cases l with
  | nil => exact absurd rfl h
  | cons y t => rfl
theorem length_foldR (x : List UInt8) (l : List (List UInt8)) (h : H32 (x :: l)) : (foldR (x :: l)).length = 32 := by
  cases l with
  | nil => exact h x (by simp)
  | cons y t => exact length_hNode _ _
def rootsL (hs : List (List UInt8)) (l : List (Nat × Nat)) : List (List UInt8) := l.map fun s => stretchL hs s.1 s.2
theorem rootsL_all (hs : List (List UInt8)) (h : H32 hs) (l : List (Nat × Nat)) : H32 (rootsL hs l) := fun x hx => by
  obtain ⟨s, _, rfl⟩ := List.mem_map.1 hx
  exact length_stretchL hs _ _ h
theorem wholeL_ne (a n : Nat) (h : n ≠ 0) : wholeL a n ≠ [] := by rw [wholeL_more a n h]; simp
theorem foldR_whole (d : Nat) : ∀ (n a : Nat) (hs : List (List UInt8)), n ≤ d → n ≠ 0 → a + n ≤ hs.length → foldR (rootsL hs (wholeL a n)) = rootL ((hs.drop a).take n) := by
  induction d with
  | zero => intro n a hs h h0; omega
  | succ d ih =>
    intro n a hs h h0 hl
    have hp := Nat.two_pow_pos n.log2
    have h1 := Nat.log2_self_le h0
    have h2 := Nat.lt_log2_self (n := n)
    have hsp := splitN_eq n n.log2
    rw [Nat.pow_succ] at h2 hsp
    rw [wholeL_more a n h0, rootsL, List.map_cons]
    generalize 2 ^ n.log2 = p at *
    by_cases hnp : n = p
    · subst hnp
      rw [Nat.sub_self, wholeL_zero]
      show stretchL hs a (a + n) = _
      rw [stretchL, Nat.add_sub_cancel_left]
    · have hs2 := hsp (by omega) (by omega)
      have hne : (wholeL (a + p) (n - p)).map (fun s => stretchL hs s.1 s.2) ≠ [] := by
        have := wholeL_ne (a + p) (n - p) (by omega)
        simpa using this
      have hi := ih (n - p) (a + p) hs (by omega) (by omega) (by omega)
      rw [rootsL] at hi
      have hlen : ((hs.drop a).take n).length = n := by rw [List.length_take, List.length_drop]; omega
      rw [foldR_cons _ _ hne, hi, rootL_more ((hs.drop a).take n) (by rw [hlen]; omega), hlen, hs2, List.take_take, Nat.min_eq_left (by omega), List.drop_take, List.drop_drop]
      show hNode (stretchL hs a (a + p)) _ = _
      rw [stretchL, Nat.add_sub_cancel_left]
theorem foldR_roots (hs : List (List UInt8)) (h : hs ≠ []) : foldR (rootsL hs (wholeL 0 hs.length)) = rootL hs := by
  have := foldR_whole hs.length hs.length 0 hs (Nat.le_refl _) (by simpa using h) (by omega)
  rw [this, List.drop_zero, List.take_length]
/-- from the back -/
theorem foldR_drop (l : List (List UInt8)) (i : Nat) (h : i + 1 < l.length) : foldR (l.drop i) = hNode (l.getD i []) (foldR (l.drop (i + 1))) := by
  rw [List.drop_eq_getElem_cons (by omega), foldR_cons _ _ (by intro e; have := congrArg List.length e; rw [List.length_drop, List.length_nil] at this; omega), List.getD_eq_getElem?_getD, List.getElem?_eq_getElem (by omega)]
  rfl
theorem foldR_last (l : List (List UInt8)) (n : Nat) (h : l.length = n + 1) : foldR (l.drop n) = l.getD n [] := by
  rw [List.drop_eq_getElem_cons (by omega), List.drop_of_length_le (by omega), List.getD_eq_getElem?_getD, List.getElem?_eq_getElem (by omega)]
  rfl

theorem tuple_cellT {fn : Func} {p u : Tmp} {ty t : TypeId} {P : Program} (h : fn.results = #[.cell p ty, .tmp u]) (tmps : Array Value) (w : World) (g : Nat) (cs : Array Value) (N : Nat) (el : TypeId)
    (hp : tmps.getD p undef = .pointer (some ⟨g, 0, none⟩)) (hg : Blk w g t cs) (hu : P.underlying ty = some (.array N el)) (hi : (P.info? ty).map (·.size) = some cs.size) :
    (results fn tmps).run P w = .ok (.tuple #[.agg cs, tmps.getD u undef]) w := by
  rw [results_cell_tmp h, hp]
  show ((loadVar ty ⟨g, 0, none⟩).run P w).andThen (fun v w₂ => Result.ok (Value.tuple #[v, tmps.getD u undef]) w₂) = _
  rw [run_loadVar_row w g t ty cs (0, 0) _ hg hu rfl hi]
  rfl
/-- 's[a:b]' -/
theorem run_slice_op_both {ρ : Operand → Value} {o : Oper} (x y z : Operand) (ho : o.op = .slice 36 x (some y) (some z) none) (A : Option Addr) (n c a b : Nat) (hx : ρ x = .slice A n c) (hy : ρ y = .int .i64 (a : Int)) (hz : ρ z = .int .i64 (b : Int)) (hab : a ≤ b) (hb : b ≤ c) (W : World) :
    (execOp ρ o).run Tryd.prog W = .ok (.value (.slice (if c = a then A else A.map (·.add (a * 32))) (b - a) (c - a))) W := by
  unfold execOp
  simp only [ho, hx, hy, hz, Option.map_some, Option.map_none]
  simp only [run_sliceAt_slice W 36 _ _ _ _ sliceHs, run_slice_lh W 36 A n c sliceHs .i64 .i64 (a : Int) (b : Int) (by omega) (by omega) (by omega), sizeHs, Sem.run_bind, Sem.run_pure, Result.andThen_ok, sliced, Int.toNat_natCast]

set_option maxHeartbeats 2000000 in
set_option maxRecDepth 100000 in
theorem tstretch_ok (hs : List (List UInt8)) (A : Option Addr) (n c : Nat) (w : World) (a b : Nat) (h : Hs w (fun _ => True) A n c hs) (hn : n ≤ 4398046511104) (hab : a < b) (hb : b ≤ n) :
    Calls Tryd.prog 77 #[.slice A n c, .agg #[.int .i64 (a : Int), .int .i64 (b : Int)]] w fun e w' => e = .returned (.tuple #[.agg ((stretchL hs a b).map B).toArray, .int .i64 0]) ∧ Below w.heap.size w w' := by
  obtain ⟨zs, hzs⟩ : ∃ zs, zeroHash = zs := ⟨_, rfl⟩
  have hzl : zs.size = 32 := by rw [← hzs]; rfl
  have hroom := h.sl.room
  have hmax := h.sl.max
  unfold maxLen at hmax
  have hbx := (Below.refl w.heap.size w).alloc (Nat.le_refl _) (.cells #[.int .i64 (a : Int), .int .i64 (b : Int)] 96)
  have x0 := Blk.new w 96 #[.int .i64 (a : Int), .int .i64 (b : Int)]
  have hb0 := hbx.alloc hbx.size (.cells zs 48)
  have k0 := Blk.new (w.alloc (.cells #[.int .i64 (a : Int), .int .i64 (b : Int)] 96)) 48 zs
  have x1 := x0.alloc (.cells zs 48)
  have h0 := (h.step hb0).drop a (by omega)
  rw [if_neg (by omega)] at h0
  have h1 := h0.take (b - a) (by omega)
  have hof := fun W (hW : Below ((w.alloc (.cells #[.int .i64 (a : Int), .int .i64 (b : Int)] 96)).alloc (.cells zs 48)).heap.size ((w.alloc (.cells #[.int .i64 (a : Int), .int .i64 (b : Int)] 96)).alloc (.cells zs 48)) W) => tof_any ((hs.drop a).take (b - a)) _ (b - a) (c - a) W (h1.step hW) (by omega)
  obtain ⟨r, hr⟩ : ∃ r, stretchL hs a b = r := ⟨_, rfl⟩
  have hrl : r.length = 32 := by rw [← hr]; exact length_stretchL hs _ _ h.all
  rw [show rootL ((hs.drop a).take (b - a)) = r from hr] at hof
  rw [hr]
  have e0 : ((w.alloc (.cells #[.int .i64 (a : Int), .int .i64 (b : Int)] 96)).alloc (.cells zs 48)).cell? ⟨w.heap.size, 0, none⟩ = some (.int .i64 (a : Int)) := by rw [x1.cell]; rfl
  have e1 : ((w.alloc (.cells #[.int .i64 (a : Int), .int .i64 (b : Int)] 96)).alloc (.cells zs 48)).cell? ⟨w.heap.size, 1, none⟩ = some (.int .i64 (b : Int)) := by rw [x1.cell]; rfl
  have Hof := Lib.hid hof
  have Hzs := Lib.hid hzs
  have Hrl := Lib.hid hrl
  have d0 : decide ((a : Int) < 0) = false := by simp
  have d1 : decide ((b : Int) ≤ (a : Int)) = false := by simp; omega
  have d1' : decide (b ≤ a) = false := by simp; omega
  have d2 : decide ((n : Int) < (b : Int)) = false := by simp; omega
  have d2' : decide (n < b) = false := by simp; omega
  clear hof hzs hrl hr h h0 h1 x0 x1 hbx
  go_enter Tryd.func77, Tryd.ntmps77
  go_wp2_with (first
    | ((with_reducible show wpList _ _ _ (⟨some 4, .alloc _, _, _, _, _⟩ :: _) _ _); refine wpList_run rfl (.pointer (some ⟨(w.alloc (.cells #[.int .i64 (a : Int), .int .i64 (b : Int)] 96)).heap.size, 0, none⟩)) ((w.alloc (.cells #[.int .i64 (a : Int), .int .i64 (b : Int)] 96)).alloc (.cells zs 48)) (by rw [← Hzs.out]; rfl) ?_; simp only [Act.put]))
  refine (Hof.out _ (Below.refl _ _)).mono ?_
  rintro e w2 ⟨rfl, hb2⟩
  have k2 := k0.below hb2 k0.lt
  rw [show (w.alloc (.cells #[.int .i64 (a : Int), .int .i64 (b : Int)] 96)).heap.size = w.heap.size + 1 by simp] at k2
  have B2 := hb0.trans (hb2.mono hb0.size)
  clear e0 e1 d0 d1 d1' d2 d2' Hof
  go_wp2_with ((with_reducible show wpList _ _ _ (⟨none, .store _ _ _, _, _, _, _⟩ :: _) _ _); refine wpList_store_blk rfl 48 (.tmp 4) (.tmp 30) rfl 32 size26 (w.heap.size + 1) (r.map B).toArray rfl rfl (by simp [Hrl.out]) (oneCell_B _) 48 _ k2 hzl ?_; simp only [Act.put])
  refine bodyPost_ret (tuple_cellT rfl _ _ (w.heap.size + 1) (r.map B).toArray _ _ rfl (k2.setRow_ _) Tryd.underlying48 (by rw [show (r.map B).toArray.size = 32 by simp [Hrl.out]]; exact info26)) rfl ⟨rfl, ?_⟩
  exact below_setRow B2 (by omega) _

set_option maxHeartbeats 2000000 in
set_option maxRecDepth 100000 in
theorem tstretch_bad (A : Option Addr) (n c : Nat) (w : World) (a b : Int) (hbad : a < 0 ∨ b ≤ a ∨ n < b) :
    Calls Tryd.prog 77 #[.slice A n c, .agg #[.int .i64 a, .int .i64 b]] w fun e w' => e = .returned (.tuple #[.agg zeroHash, .int .i64 4]) ∧ Below w.heap.size w w' := by
  obtain ⟨zs, hzs⟩ : ∃ zs, zeroHash = zs := ⟨_, rfl⟩
  have hzl : zs.size = 32 := by rw [← hzs]; rfl
  have hz1 : ∀ v ∈ zs.toList, v.oneCell' = true := by rw [← hzs]; exact oneCell_B _
  rw [hzs]
  have hbx := (Below.refl w.heap.size w).alloc (Nat.le_refl _) (.cells #[.int .i64 a, .int .i64 b] 96)
  have x0 := Blk.new w 96 #[.int .i64 a, .int .i64 b]
  have hb0 := hbx.alloc hbx.size (.cells zs 48)
  have k0 := Blk.new (w.alloc (.cells #[.int .i64 a, .int .i64 b] 96)) 48 zs
  have x1 := x0.alloc (.cells zs 48)
  rw [show (w.alloc (.cells #[.int .i64 a, .int .i64 b] 96)).heap.size = w.heap.size + 1 by simp] at k0
  have e0 : ((w.alloc (.cells #[.int .i64 a, .int .i64 b] 96)).alloc (.cells zs 48)).cell? ⟨w.heap.size, 0, none⟩ = some (.int .i64 a) := by rw [x1.cell]; rfl
  have e1 : ((w.alloc (.cells #[.int .i64 a, .int .i64 b] 96)).alloc (.cells zs 48)).cell? ⟨w.heap.size, 1, none⟩ = some (.int .i64 b) := by rw [x1.cell]; rfl
  have Hzs := Lib.hid hzs
  have Hz1 := Lib.hid hz1
  clear hzs hz1 x0 x1 hbx
  have hd : (decide (a < 0) = true) ∨ (decide (a < 0) = false ∧ decide (b ≤ a) = true) ∨ (decide (a < 0) = false ∧ decide (b ≤ a) = false ∧ decide ((n : Int) < b) = true) := by
    by_cases h1 : a < 0
    · exact .inl (decide_eq_true h1)
    · by_cases h2 : b ≤ a
      · exact .inr (.inl ⟨decide_eq_false h1, decide_eq_true h2⟩)
      · exact .inr (.inr ⟨decide_eq_false h1, decide_eq_false h2, decide_eq_true (by omega)⟩)
  clear hbad
  go_enter Tryd.func77, Tryd.ntmps77
  rcases hd with d1 | ⟨d1, d2⟩ | ⟨d1, d2, d3⟩
  all_goals
    go_wp2_with (first
      | ((with_reducible show wpList _ _ _ (⟨some 4, .alloc _, _, _, _, _⟩ :: _) _ _); refine wpList_run rfl (.pointer (some ⟨(w.alloc (.cells #[.int .i64 a, .int .i64 b] 96)).heap.size, 0, none⟩)) ((w.alloc (.cells #[.int .i64 a, .int .i64 b] 96)).alloc (.cells zs 48)) (by rw [← Hzs.out]; rfl) ?_; simp only [Act.put])
      | ((with_reducible show wpList _ _ _ (⟨some 23, .build _ _, _, _, _, _⟩ :: _) _ _); refine wpList_run0 rfl (.agg zs) (by rw [← Hzs.out]; kernel_rfl) ?_; simp only [Act.put])
      | ((with_reducible show wpList _ _ _ (⟨none, .store _ _ _, _, _, _, _⟩ :: _) _ _); refine wpList_store_blk rfl 48 (.tmp 4) (.tmp 23) rfl 32 size26 (w.heap.size + 1) zs rfl rfl hzl Hz1.out 48 _ k0 hzl ?_; simp only [Act.put]))
    refine bodyPost_ret (tuple_cellT rfl _ _ (w.heap.size + 1) zs _ _ rfl (k0.setRow_ _) Tryd.underlying48 (by rw [hzl]; exact info26)) rfl ⟨rfl, ?_⟩
    exact below_setRow hb0 (by omega) _
end Go.Proofs.YtfhmjgkcpcnkbaaDoor
/- notaryref09.Stretch, tree.Node, notaryref09.Node. -/
namespace Go.Proofs.YtfhmjgkcpcnkbaaDoor
open Go Go.RowKit

def zeroL : List UInt8 := List.replicate 32 0
def stretchR (hs : List (List UInt8)) (a b : Int) : List UInt8 × Int := if 0 ≤ a ∧ a < b ∧ b ≤ hs.length then (stretchL hs a.toNat b.toNat, 0) else (zeroL, 4)
theorem length_stretchR (hs : List (List UInt8)) (a b : Int) (h : H32 hs) : (stretchR hs a b).1.length = 32 := by
  unfold stretchR
  split
  · exact length_stretchL hs _ _ h
  · rfl
theorem tstretch_any (hs : List (List UInt8)) (A : Option Addr) (n c : Nat) (w : World) (a b : Int) (h : Hs w (fun _ => True) A n c hs) (hn : n ≤ 4398046511104) :
    Calls Tryd.prog 77 #[.slice A n c, .agg #[.int .i64 a, .int .i64 b]] w fun e w' => e = .returned (.tuple #[.agg ((stretchR hs a b).1.map B).toArray, .int .i64 (stretchR hs a b).2]) ∧ Below w.heap.size w w' := by
  have hl := h.len
  unfold stretchR
  by_cases hc : 0 ≤ a ∧ a < b ∧ b ≤ hs.length
  · rw [if_pos hc]
    obtain ⟨x, rfl⟩ : ∃ x : Nat, a = (x : Int) := ⟨a.toNat, by omega⟩
    obtain ⟨y, rfl⟩ : ∃ y : Nat, b = (y : Int) := ⟨b.toNat, by omega⟩
    rw [Int.toNat_natCast, Int.toNat_natCast]
    exact tstretch_ok hs A n c w x y h hn (by omega) (by omega)
  · rw [if_neg hc]
    exact tstretch_bad A n c w a b (by omega)
/-- a node by its level and its index -/
def nodeR (hs : List (List UInt8)) (lv ix : Int) : List UInt8 × Int :=
  if 0 ≤ lv ∧ lv ≤ 62 ∧ 0 ≤ ix ∧ ix.toNat ≤ hs.length / 2 ^ lv.toNat then stretchR hs ((ix.toNat * 2 ^ lv.toNat : Nat) : Int) ((ix.toNat * 2 ^ lv.toNat + 2 ^ lv.toNat : Nat) : Int) else (zeroL, 4)
theorem length_nodeR (hs : List (List UInt8)) (lv ix : Int) (h : H32 hs) : (nodeR hs lv ix).1.length = 32 := by
  unfold nodeR
  split
  · exact length_stretchR hs _ _ h
  · rfl

end Go.Proofs.YtfhmjgkcpcnkbaaDoor
/- The stretches that are in a list, in their order (plain). -/
namespace Go.Proofs.YtfhmjgkcpcnkbaaDoor
open Go Go.RowKit

def okR (hs : List (List UInt8)) (x : Int × Int) : Bool := decide ((stretchR hs x.1 x.2).2 = 0)
def goodL (hs : List (List UInt8)) (l : List (Int × Int)) : List (Int × Int) := l.filter (okR hs)
def cntL (hs : List (List UInt8)) (l : List (Int × Int)) (k : Nat) : Nat := (goodL hs (l.take k)).length
theorem cntL_zero (hs : List (List UInt8)) (l : List (Int × Int)) : cntL hs l 0 = 0 := rfl
theorem cntL_all (hs : List (List UInt8)) (l : List (Int × Int)) : cntL hs l l.length = (goodL hs l).length := by unfold cntL; rw [List.take_length]
theorem take_snoc (l : List (Int × Int)) (k : Nat) (h : k < l.length) : l.take (k + 1) = l.take k ++ [l.getD k (0, 0)] := by
  rw [List.take_succ_eq_append_getElem h, List.getD_eq_getElem?_getD, List.getElem?_eq_getElem h]; rfl
theorem cntL_ok (hs : List (List UInt8)) (l : List (Int × Int)) (k : Nat) (h : k < l.length) (ho : (stretchR hs (l.getD k (0, 0)).1 (l.getD k (0, 0)).2).2 = 0) : cntL hs l (k + 1) = cntL hs l k + 1 := by
  unfold cntL goodL
  rw [take_snoc l k h, List.filter_append, List.length_append, List.filter_cons_of_pos (by unfold okR; exact decide_eq_true ho)]
  rfl
theorem cntL_bad (hs : List (List UInt8)) (l : List (Int × Int)) (k : Nat) (h : k < l.length) (ho : (stretchR hs (l.getD k (0, 0)).1 (l.getD k (0, 0)).2).2 ≠ 0) : cntL hs l (k + 1) = cntL hs l k := by
  unfold cntL goodL
  rw [take_snoc l k h, List.filter_append, List.length_append, List.filter_cons_of_neg (by unfold okR; simpa using ho)]
  rfl
theorem goodL_at (hs : List (List UInt8)) (l : List (Int × Int)) (k : Nat) (h : k < l.length) (ho : (stretchR hs (l.getD k (0, 0)).1 (l.getD k (0, 0)).2).2 = 0) : cntL hs l k < (goodL hs l).length ∧ (goodL hs l).getD (cntL hs l k) (0, 0) = l.getD k (0, 0) := by
  have e : goodL hs l = goodL hs (l.take k) ++ l.getD k (0, 0) :: goodL hs (l.drop (k + 1)) := by
    conv => lhs; rw [← List.take_append_drop k l, List.drop_eq_getElem_cons h]
    have hg : l[k] = l.getD k (0, 0) := by rw [List.getD_eq_getElem?_getD, List.getElem?_eq_getElem h]; rfl
    unfold goodL
    rw [hg, List.filter_append, List.filter_cons_of_pos (by unfold okR; exact decide_eq_true ho)]
  unfold cntL
  rw [e]
  constructor
  · rw [List.length_append, List.length_cons]; omega
  · rw [List.getD_eq_getElem?_getD, List.getElem?_append_right (Nat.le_refl _), Nat.sub_self]; rfl
theorem goodL_mem (hs : List (List UInt8)) (l : List (Int × Int)) (k : Nat) (h : k < (goodL hs l).length) : (stretchR hs ((goodL hs l).getD k (0, 0)).1 ((goodL hs l).getD k (0, 0)).2).2 = 0 := by
  have hm : (goodL hs l).getD k (0, 0) ∈ goodL hs l := by rw [List.getD_eq_getElem?_getD, List.getElem?_eq_getElem h]; exact List.getElem_mem h
  have := (List.mem_filter.1 hm).2
  exact of_decide_eq_true this
theorem goodL_le (hs : List (List UInt8)) (l : List (Int × Int)) : (goodL hs l).length ≤ l.length := List.length_filter_le _ _
theorem goodL_pick (hs : List (List UInt8)) (l : List (Int × Int)) (k : Nat) (h : k < l.length) (ho : (stretchR hs (l.getD k (0, 0)).1 (l.getD k (0, 0)).2).2 = 0) : goodL hs (l.take (k + 1)) = goodL hs (l.take k) ++ [l.getD k (0, 0)] := by
  unfold goodL
  rw [take_snoc l k h, List.filter_append, List.filter_cons_of_pos (by unfold okR; exact decide_eq_true ho)]
  rfl
theorem goodL_skip (hs : List (List UInt8)) (l : List (Int × Int)) (k : Nat) (h : k < l.length) (ho : (stretchR hs (l.getD k (0, 0)).1 (l.getD k (0, 0)).2).2 ≠ 0) : goodL hs (l.take (k + 1)) = goodL hs (l.take k) := by
  unfold goodL
  rw [take_snoc l k h, List.filter_append, List.filter_cons_of_neg (by unfold okR; simpa using ho)]
  simp
/-- a good stretch's root, by the reference's words -/
theorem good_of (hs : List (List UInt8)) (a b : Int) (h : (stretchR hs a b).2 = 0) : 0 ≤ a ∧ a < b ∧ b ≤ hs.length ∧ (stretchR hs a b).1 = stretchL hs a.toNat b.toNat := by
  unfold stretchR at h ⊢
  split at h
  · rename_i hc
    rw [if_pos hc]
    exact ⟨hc.1, hc.2.1, hc.2.2, rfl⟩
  · cases h
end Go.Proofs.YtfhmjgkcpcnkbaaDoor
/- tree.Steps and the function within it. -/
namespace Go.Proofs.YtfhmjgkcpcnkbaaDoor
open Go Go.RowKit

/-- what is known within Steps: the number, the function, what has been told -/
structure DnC (w : World) (M : Nat) (v : Value) (os : List (Nat × Nat)) (W : World) : Prop where
  bm : Blk W w.heap.size 2 #[.int .i64 (M : Int)]
  bo : Blk W (w.heap.size + 1) 107 #[v]
  bd : Blk W (w.heap.size + 1 + 1) 131 #[.func (.func 78) #[] #[.pointer (some ⟨w.heap.size, 0, none⟩), .pointer (some ⟨w.heap.size + 1, 0, none⟩), .pointer (some ⟨w.heap.size + 1 + 1, 0, none⟩)]]
  own : W.ownsRow (w.heap.size + 1 + 1 + 1) 96 2 v os.length (rcells (natR os))
  bel : Below w.heap.size w W
/-- one stretch more is told -/
theorem DnC.app {w W : World} {M : Nat} {v : Value} {os : List (Nat × Nat)} (h : DnC w M v os W) (x : Nat × Nat) (hl : os.length ≤ 1000) :
    ∃ A' m' c' w', (Builtin.append_ #[107, 107] 107 #[v, .slice (some ⟨W.heap.size, 0, none⟩) 1 1]).run Tryd.prog (W.alloc (.cells #[.int .i64 (x.1 : Int), .int .i64 (x.2 : Int)] 96)) = .ok (.slice A' m' c') w' ∧
      w'.cell? ⟨w.heap.size + 1, 0, none⟩ = some v ∧ w'.frozen? ⟨w.heap.size + 1, 0, none⟩ = false ∧ DnC w M (.slice A' m' c') (os ++ [x]) (w'.setCell ⟨w.heap.size + 1, 0, none⟩ (.slice A' m' c')) := by
  have hlt : w.heap.size + 1 + 1 < W.heap.size := h.bd.lt
  obtain ⟨v', w', hr, ho, hg, hf⟩ := append_r h.own ((x.1 : Int), (x.2 : Int)) (by omega) (by omega)
  rw [show natR os ++ [((x.1 : Int), (x.2 : Int))] = natR (os ++ [x]) by rw [natR_append]; rfl, show os.length + 1 = (os ++ [x]).length by simp] at ho
  have hne : ∀ g, g < w.heap.size + 1 + 1 + 1 → some g ≠ v.ownBlock := fun g hg e => by have := (h.own.lt g e.symm).1; omega
  have bo' := h.bo.grown hg (hne _ (by omega))
  have hne' : ∀ g, g < w.heap.size + 1 + 1 + 1 → some g ≠ v'.ownBlock := fun g hg e => by have := (ho.lt g e.symm).1; omega
  have bel' := h.bel.grown hg h.bel.size (fun k hk => by have := (h.own.lt k hk).1; omega)
  obtain ⟨A', c', rfl, -⟩ := owns_slv ho
  refine ⟨A', _, c', w', hr, by rw [bo'.cell]; rfl, bo'.frozen 0, ⟨(h.bm.grown hg (hne _ (by omega))).apart (by omega) _, bo'.set_ 0 _, (h.bd.grown hg (hne _ (by omega))).apart (by omega) _, ?_, bel'.setCell (by show w.heap.size ≤ w.heap.size + 1; omega) _⟩⟩
  exact ho.kept (grown_setCell (w := w') (w' := w') (g := w.heap.size + 1) ⟨rfl, rfl, rfl, Nat.le_refl _, fun _ _ _ => rfl⟩ 0 _) (.inr (hne' _ (by omega)).symm)

set_option maxHeartbeats 2000000 in
set_option maxRecDepth 100000 in
theorem down_any (w : World) (M : Nat) (d : Nat) : ∀ (a t : Nat) (whole : Bool) (v : Value) (os : List (Nat × Nat)) (W : World), t - a ≤ d → a < M → M ≤ t → t ≤ 9223372036854775807 → os.length + (stepsL (M - a) a (t - a) whole).length ≤ 1000 → DnC w M v os W →
    Calls Tryd.prog 78 #[.int .i64 (a : Int), .int .i64 (t : Int), .bool whole, .pointer (some ⟨w.heap.size, 0, none⟩), .pointer (some ⟨w.heap.size + 1, 0, none⟩), .pointer (some ⟨w.heap.size + 1 + 1, 0, none⟩)] W
      fun e W' => (∃ r, e = .returned r) ∧ ∃ v', DnC w M v' (os ++ stepsL (M - a) a (t - a) whole) W' := by
  induction d with
  | zero => intro a t whole v os W h h1 h2; omega
  | succ d ih =>
    intro a t whole v os W hd ha hM ht hl hC
    have c2 : W.cell? ⟨w.heap.size, 0, none⟩ = some (.int .i64 (M : Int)) := by rw [hC.bm.cell]; rfl
    have c3 : W.cell? ⟨w.heap.size + 1, 0, none⟩ = some v := by rw [hC.bo.cell]; rfl
    have c4 : W.cell? ⟨w.heap.size + 1 + 1, 0, none⟩ = some (.func (.func 78) #[] #[.pointer (some ⟨w.heap.size, 0, none⟩), .pointer (some ⟨w.heap.size + 1, 0, none⟩), .pointer (some ⟨w.heap.size + 1 + 1, 0, none⟩)]) := by rw [hC.bd.cell]; rfl
    have hspl := fun w => tsplit_any ((t : Int) - (a : Int)) w (by omega)
    rw [show ((t : Int) - (a : Int)).toNat = t - a by omega] at hspl
    have hta : a + (t - a) = t := by omega
    by_cases hMt : M = t
    · subst hMt
      have hsle := splitN_le (M - a)
      obtain ⟨s, hs⟩ : ∃ s, splitN (M - a) = s := ⟨_, rfl⟩
      rw [hs] at hspl hsle
      have Hspl := Lib.hid hspl
      clear hspl hs
      have hst := stepsL_eq (M - a) a whole (by omega)
      rw [hta] at hst
      have hst' := hst
      have hsp0 : s ≤ M - a := hsle
      have Hst := Lib.hid hst
      clear hst hta hst'
      cases whole with
      | true =>
        go_enter Tryd.func78, Tryd.ntmps78
        go_wp2_with (go_at_call 71; refine (Hspl.out _).mono ?_; rintro e w2 ⟨rfl, rfl⟩)
        go_end0
        exact ⟨⟨_, rfl⟩, v, by rw [Hst.out]; simpa using hC⟩
      | false =>
        obtain ⟨A', m', c', w', hr, g1, g2, hC'⟩ := hC.app (a, M) (by omega)
        have Hr := Lib.hid hr
        clear hr
        go_enter Tryd.func78, Tryd.ntmps78
        go_wp2_with (first
          | (go_at_call 71; refine (Hspl.out _).mono ?_; rintro e w2 ⟨rfl, rfl⟩)
          | ((with_reducible show wpList _ _ _ (⟨some 37, .call _, _, _, _, _⟩ :: _) _ _); refine wpList_run rfl _ w' (run_append_op (.tmp 32) (.tmp 36) 107 rfl _ _ rfl rfl Hr.out) ?_; simp only [Act.put]))
        go_end0
        exact ⟨⟨_, rfl⟩, _, by rw [Hst.out]; exact hC'⟩
    · have hsl := splitN_lt (t - a) (by omega)
      have hsp := splitN_pos (t - a) (by omega)
      have hleft := stepsL_left (M - a) a (t - a) whole (by omega) (by omega)
      have hright := stepsL_right (M - a) a (t - a) whole (by omega) (by omega)
      rw [hta] at hleft
      have hbe : ((M : Int) == (t : Int)) = false := by simp; omega
      obtain ⟨s, hs⟩ : ∃ s, splitN (t - a) = s := ⟨_, rfl⟩
      rw [hs] at hspl hsl hsp hleft hright
      have Hspl := Lib.hid hspl
      clear hspl hs hta hMt
      by_cases hk : M ≤ a + s
      · have hst := hleft (by omega)
        rw [hst, List.length_append, List.length_singleton] at hl
        have hih := ih a (a + s) whole v os W (by omega) ha hk (by omega) (by rw [show a + s - a = s by omega]; omega) hC
        rw [show a + s - a = s by omega, show ((a + s : Nat) : Int) = (a : Int) + (s : Int) by omega] at hih
        have hd2 : decide ((M : Int) ≤ (a : Int) + (s : Int)) = true := by simp; omega
        have Hst := Lib.hid hst
        have Hih := Lib.hid hih
        clear hst hih hleft hright ih hC
        go_enter Tryd.func78, Tryd.ntmps78
        go_wp2_with (go_at_call 71; refine (Hspl.out _).mono ?_; rintro e w2 ⟨rfl, rfl⟩)
        refine Hih.out.mono ?_
        rintro e W2 ⟨⟨r, rfl⟩, v2, hC2⟩
        obtain ⟨A', m', c', w', hr, g1, g2, hC'⟩ := hC2.app (a + s, t) (by rw [List.length_append]; omega)
        rw [show ((a + s : Nat) : Int) = (a : Int) + (s : Int) by omega] at hr
        have c5 : W2.cell? ⟨w.heap.size + 1, 0, none⟩ = some v2 := by rw [hC2.bo.cell]; rfl
        rw [List.append_assoc, ← Hst.out] at hC'
        have Hr := Lib.hid hr
        clear hr c2 c3 c4 Hih
        go_wp2_with ((with_reducible show wpList _ _ _ (⟨some 52, .call _, _, _, _, _⟩ :: _) _ _); refine wpList_run rfl _ w' (run_append_op (.tmp 47) (.tmp 51) 107 rfl _ _ rfl rfl Hr.out) ?_; simp only [Act.put])
        go_end0
        exact ⟨⟨_, rfl⟩, _, hC'⟩
      · have hst := hright (by omega)
        rw [hst, List.length_append, List.length_singleton] at hl
        have hih := ih (a + s) t false v os W (by omega) (by omega) hM ht (by rw [show M - (a + s) = M - a - s by omega, show t - (a + s) = t - a - s by omega]; omega) hC
        rw [show M - (a + s) = M - a - s by omega, show t - (a + s) = t - a - s by omega, show ((a + s : Nat) : Int) = (a : Int) + (s : Int) by omega] at hih
        have hd2 : decide ((M : Int) ≤ (a : Int) + (s : Int)) = false := by simp; omega
        have Hst := Lib.hid hst
        have Hih := Lib.hid hih
        clear hst hih hleft hright ih hC
        go_enter Tryd.func78, Tryd.ntmps78
        go_wp2_with (go_at_call 71; refine (Hspl.out _).mono ?_; rintro e w2 ⟨rfl, rfl⟩)
        refine Hih.out.mono ?_
        rintro e W2 ⟨⟨r, rfl⟩, v2, hC2⟩
        obtain ⟨A', m', c', w', hr, g1, g2, hC'⟩ := hC2.app (a, a + s) (by rw [List.length_append]; omega)
        rw [show ((a + s : Nat) : Int) = (a : Int) + (s : Int) by omega] at hr
        have c5 : W2.cell? ⟨w.heap.size + 1, 0, none⟩ = some v2 := by rw [hC2.bo.cell]; rfl
        rw [List.append_assoc, ← Hst.out] at hC'
        have Hr := Lib.hid hr
        clear hr c2 c3 c4 Hih
        go_wp2_with ((with_reducible show wpList _ _ _ (⟨some 25, .call _, _, _, _, _⟩ :: _) _ _); refine wpList_run rfl _ w' (run_append_op (.tmp 20) (.tmp 24) 107 rfl _ _ rfl rfl Hr.out) ?_; simp only [Act.put])
        go_end0
        exact ⟨⟨_, rfl⟩, _, hC'⟩
end Go.Proofs.YtfhmjgkcpcnkbaaDoor
/- tree.Steps. -/
namespace Go.Proofs.YtfhmjgkcpcnkbaaDoor
open Go Go.RowKit

theorem tsteps_bad (m n : Int) (w : World) (h : m < 0 ∨ n < m) :
    Calls Tryd.prog 57 #[.int .i64 m, .int .i64 n] w fun e w' => e = .returned (.tuple #[.slice none 0 0, .int .i64 4]) ∧ Below w.heap.size w w' := by
  have hb := (Below.refl w.heap.size w).alloc (Nat.le_refl _) (.cells #[.int .i64 m] 2)
  by_cases h0 : m < 0
  · have h0' : decide (m < 0) = true := by simp; exact h0
    go_enter Tryd.func57, Tryd.ntmps57
    go_wp2_with fail
    go_ret2
    exact ⟨rfl, hb⟩
  · have h1 : decide (n < m) = true := by simp; omega
    have h0' : decide (m < 0) = false := by simp; omega
    go_enter Tryd.func57, Tryd.ntmps57
    go_wp2_with fail
    go_ret2
    exact ⟨rfl, hb⟩
theorem tsteps_zero (n : Int) (w : World) (h : 0 ≤ n) :
    Calls Tryd.prog 57 #[.int .i64 0, .int .i64 n] w fun e w' => e = .returned (.tuple #[.slice none 0 0, .int .i64 0]) ∧ Below w.heap.size w w' := by
  have hb := (Below.refl w.heap.size w).alloc (Nat.le_refl _) (.cells #[.int .i64 0] 2)
  have h1 : decide (n < 0) = false := by simp; omega
  go_enter Tryd.func57, Tryd.ntmps57
  go_wp2_with fail
  go_ret2
  exact ⟨rfl, hb⟩
set_option maxHeartbeats 1000000 in
set_option maxRecDepth 100000 in
theorem tsteps_ok (m n : Nat) (w : World) (h1 : 1 ≤ m) (h2 : m ≤ n) (hn : n ≤ 9223372036854775807) :
    Calls Tryd.prog 57 #[.int .i64 (m : Int), .int .i64 (n : Int)] w fun e w' => ∃ v, e = .returned (.tuple #[v, .int .i64 0]) ∧ w'.ownsRow w.heap.size 96 2 v (stepsL m 0 n true).length (rcells (natR (stepsL m 0 n true))) ∧ Below w.heap.size w w' := by
  have hlen : (stepsL m 0 n true).length ≤ 64 := stepsL_len 63 m 0 n true h1 h2 (by omega)
  have key := fun W (h : DnC w m (.slice none 0 0) [] W) => down_any w m n 0 n true (.slice none 0 0) [] W (by omega) (by omega) h2 hn (by simp; omega) h
  simp only [Nat.sub_zero, List.nil_append] at key
  have h0 : decide ((m : Int) < 0) = false := by simp
  have h0' : decide ((n : Int) < (m : Int)) = false := by simp; omega
  have h0'' : decide (n < m) = false := by simp; omega
  have hz : ((m : Int) == 0) = false := by simp; omega
  have Key := Lib.hid key
  clear key
  go_enter Tryd.func57, Tryd.ntmps57
  go_wp2_with fail
  refine (Key.out _ ⟨(((Blk.new _ _ _).alloc _).alloc _), (Blk.new' _ _ _ _ (by simp)).alloc _, Blk.new' _ _ _ _ (by simp), World.ownsRow_nil _ _ _ _, (((Below.refl _ _).alloc (Nat.le_refl _) _).alloc (by simp) _).alloc (by simp; omega) _⟩).mono ?_
  rintro e W ⟨⟨r, rfl⟩, v, hC⟩
  have c6 : W.cell? ⟨w.heap.size + 1, 0, none⟩ = some v := by rw [hC.bo.cell]; rfl
  go_wp2_with fail
  go_ret2
  exact ⟨v, rfl, owns_le hC.own (by omega), hC.bel⟩
end Go.Proofs.YtfhmjgkcpcnkbaaDoor
/- notarylaw09.known. -/
namespace Go.Proofs.YtfhmjgkcpcnkbaaDoor
open Go Go.RowKit

theorem rootL_three (a b c : List UInt8) : rootL [a, b, c] = hNode (hNode a b) c := by
  rw [rootL_more _ (by simp), show splitN [a, b, c].length = 2 from (by decide : splitN 3 = 2)]
  show hNode (rootL [a, b]) (rootL [c]) = _
  rw [rootL_more [a, b] (by simp), show splitN [a, b].length = 1 from (by decide : splitN 2 = 1)]
  rfl
theorem path23 : pathL 2 0 3 = [(0, 2)] := by decide
theorem steps37 : stepsL 3 0 7 true = [(2, 3), (3, 4), (0, 2), (4, 7)] := by decide

structure KnC (w : World) (a b c : List UInt8) (Ap : Option Addr) (cp : Nat) (As : Option Addr) (cs : Nat) (W : World) : Prop where
  k1 : Blk W w.heap.size 48 (a.map B).toArray
  k2 : Blk W (w.heap.size + 1) 48 (b.map B).toArray
  k3 : Blk W (w.heap.size + 1 + 1) 48 (c.map B).toArray
  p : Rs W (fun _ => True) Ap 1 cp [(0, 2)]
  s : Rs W (fun _ => True) As 4 cs [(2, 3), (3, 4), (0, 2), (4, 7)]
  bel : Below w.heap.size w W
theorem KnC.step {w W W' : World} {a b c : List UInt8} {Ap As : Option Addr} {cp cs : Nat} (h : KnC w a b c Ap cp As cs W) (hb : Below W.heap.size W W') : KnC w a b c Ap cp As cs W' :=
  ⟨h.k1.below hb h.k1.lt, h.k2.below hb h.k2.lt, h.k3.below hb h.k3.lt, h.p.step hb, h.s.step hb, h.bel.trans (hb.mono h.bel.size)⟩

end Go.Proofs.YtfhmjgkcpcnkbaaDoor
/- tree.Whole, notaryref09.Whole. -/
namespace Go.Proofs.YtfhmjgkcpcnkbaaDoor
open Go Go.RowKit

theorem bit_one (n i : Nat) (h : n / 2 ^ i % 2 = 1) : n % 2 ^ (i + 1) = 2 ^ i + n % 2 ^ i := by
  rw [Nat.mod_pow_succ, h, Nat.mul_one, Nat.add_comm]
theorem bit_zero (n i : Nat) (h : n / 2 ^ i % 2 = 0) : n % 2 ^ (i + 1) = n % 2 ^ i := by
  rw [Nat.mod_pow_succ, h, Nat.mul_zero, Nat.add_zero]
theorem wholeL_bit (a n i : Nat) (h : n / 2 ^ i % 2 = 1) : wholeL a (n % 2 ^ (i + 1)) = (a, a + 2 ^ i) :: wholeL (a + 2 ^ i) (n % 2 ^ i) := by
  have hp := Nat.two_pow_pos i
  have hlt : n % 2 ^ i < 2 ^ i := Nat.mod_lt _ hp
  rw [bit_one n i h]
  have hlog : (2 ^ i + n % 2 ^ i).log2 = i := (Nat.log2_eq_iff (by omega)).2 ⟨by omega, by rw [Nat.pow_succ]; omega⟩
  rw [wholeL_more a _ (by omega), hlog, Nat.add_sub_cancel_left]

theorem i64_and_one (a : Nat) (ha : a < 9223372036854775808) : bits .and .i64 (a : Int) 1 = ((a % 2 : Nat) : Int) := by
  have e : a &&& 1 = a % 2 := Nat.and_one_is_mod a
  show IntKind.i64.wrap ((BitVec.ofInt 64 (a : Int) &&& BitVec.ofInt 64 ((1 : Nat) : Int)).toNat : Int) = _
  rw [BitVec.toNat_and, ofInt_u64 a (by omega), ofInt_u64 1 (by omega), e, IntKind.wrap_i64]
  omega
theorem wholeL_len (d : Nat) : ∀ a n : Nat, n < 2 ^ d → (wholeL a n).length ≤ d + 1 := by
  induction d with
  | zero => intro a n h; rw [show n = 0 by omega, wholeL_zero]; simp
  | succ d ih =>
    intro a n h
    by_cases hn : n = 0
    · subst hn; rw [wholeL_zero]; simp
    · rw [wholeL_more a n hn, List.length_cons]
      have h1 := Nat.log2_self_le hn
      have h2 := Nat.lt_log2_self (n := n)
      have hl : n.log2 ≤ d := by
        have : n.log2 < d + 1 := (Nat.log2_lt hn).2 h
        omega
      have h3 : 2 ^ n.log2 ≤ 2 ^ d := Nat.pow_le_pow_right (by decide) hl
      rw [Nat.pow_succ] at h2
      have := ih (a + 2 ^ n.log2) (n - 2 ^ n.log2) (by omega)
      omega

/-- the greatest power of two that is not above n -/
theorem log2_of_pow (n j : Nat) (h1 : 2 ^ j ≤ n) (h2 : n < 2 ^ (j + 1)) : n.log2 = j := (Nat.log2_eq_iff (by have := Nat.two_pow_pos j; omega)).2 ⟨h1, h2⟩

end Go.Proofs.YtfhmjgkcpcnkbaaDoor
/- notaryref09.path, Path, steps, Steps. -/
namespace Go.Proofs.YtfhmjgkcpcnkbaaDoor
open Go Go.RowKit

/-- one stretch more, behind what a call has told -/
theorem PtC.app {w W : World} {os : List (Nat × Nat)} {v : Value} (h : PtC w os v W) (x : Nat × Nat) (hl : os.length ≤ 1000) :
    ∃ v' w', (Builtin.append_ #[107, 107] 107 #[v, .slice (some ⟨W.heap.size, 0, none⟩) 1 1]).run Tryd.prog (W.alloc (.cells #[.int .i64 (x.1 : Int), .int .i64 (x.2 : Int)] 96)) = .ok v' w' ∧ PtC w (os ++ [x]) v' w' := by
  obtain ⟨v', w', hr, ho, hg, -⟩ := append_r h.own ((x.1 : Int), (x.2 : Int)) (by omega) h.bel.size
  rw [show natR os ++ [((x.1 : Int), (x.2 : Int))] = natR (os ++ [x]) by rw [natR_append]; rfl, show os.length + 1 = (os ++ [x]).length by simp] at ho
  exact ⟨v', w', hr, ho, h.bel.grown hg h.bel.size (fun k hk => (h.own.lt k hk).1)⟩

end Go.Proofs.YtfhmjgkcpcnkbaaDoor
/- notarylaw09.TreeNumbers. -/
namespace Go.Proofs.YtfhmjgkcpcnkbaaDoor
open Go Go.RowKit

/-- the path of a number, or the refusal -/
def pathA (i n : Int) : List (Nat × Nat) × Int := if i < 0 ∨ n ≤ i then ([], 4) else (pathL i.toNat 0 n.toNat, 0)
def stepsA (m n : Int) : List (Nat × Nat) × Int := if m < 0 ∨ n < m then ([], 4) else if m = 0 then ([], 0) else (stepsL m.toNat 0 n.toNat true, 0)
theorem pathA_len (i n : Int) (hn : n ≤ 9223372036854775807) : (pathA i n).1.length ≤ 64 := by
  unfold pathA
  split
  · simp
  · have := pathL_len 63 i.toNat 0 n.toNat (by omega)
    simp only; omega
theorem stepsA_len (i n : Int) (hn : n ≤ 9223372036854775807) : (stepsA i n).1.length ≤ 64 := by
  unfold stepsA
  split
  · simp
  · split
    · simp
    · exact stepsL_len 63 i.toNat 0 n.toNat true (by omega) (by omega) (by omega)
theorem PtC.none_ {w w' : World} (h : Below w.heap.size w w') : PtC w [] (.slice none 0 0) w' := ⟨World.ownsRow_nil _ _ _ _, h⟩
theorem tpathA_any (i n : Int) (w : World) (hn : n ≤ 9223372036854775807) :
    Calls Tryd.prog 54 #[.int .i64 i, .int .i64 n] w fun e w' => ∃ v, e = .returned (.tuple #[v, .int .i64 (pathA i n).2]) ∧ PtC w (pathA i n).1 v w' := by
  unfold pathA
  by_cases h : i < 0 ∨ n ≤ i
  · rw [if_pos h]
    exact (tpath_bad i n w h).mono fun e w' ⟨he, hw⟩ => ⟨_, he, by subst hw; exact PtC.none_ (Below.refl _ _)⟩
  · rw [if_neg h]
    have := tpath_ok i.toNat n.toNat w (by omega) (by omega)
    rw [show ((i.toNat : Nat) : Int) = i by omega, show ((n.toNat : Nat) : Int) = n by omega] at this
    exact this.mono fun e w' ⟨v, he, h1, h2⟩ => ⟨v, he, h1, h2⟩
theorem tstepsA_any (i n : Int) (w : World) (hn : n ≤ 9223372036854775807) :
    Calls Tryd.prog 57 #[.int .i64 i, .int .i64 n] w fun e w' => ∃ v, e = .returned (.tuple #[v, .int .i64 (stepsA i n).2]) ∧ PtC w (stepsA i n).1 v w' := by
  unfold stepsA
  by_cases h : i < 0 ∨ n < i
  · rw [if_pos h]
    exact (tsteps_bad i n w h).mono fun e w' ⟨he, hw⟩ => ⟨_, he, PtC.none_ hw⟩
  · rw [if_neg h]
    by_cases h0 : i = 0
    · subst h0
      rw [if_pos rfl]
      exact (tsteps_zero n w (by omega)).mono fun e w' ⟨he, hw⟩ => ⟨_, he, PtC.none_ hw⟩
    · rw [if_neg h0]
      have := tsteps_ok i.toNat n.toNat w (by omega) (by omega) (by omega)
      rw [show ((i.toNat : Nat) : Int) = i by omega, show ((n.toNat : Nat) : Int) = n by omega] at this
      exact this.mono fun e w' ⟨v, he, h1, h2⟩ => ⟨v, he, h1, h2⟩
/-- what a call has told, between two marks of memory -/
structure IvR (W : World) (lo hi : Nat) (v : Value) (os : List (Nat × Nat)) : Prop where
  own : W.ownsRow lo 96 2 v os.length (rcells (natR os))
  lt : ∀ g, v.ownBlock = some g → g < hi
theorem IvR.of_pt {w W : World} {os : List (Nat × Nat)} {v : Value} (h : PtC w os v W) : IvR W w.heap.size W.heap.size v os := ⟨h.own, fun g hg => (h.own.lt g hg).2⟩
theorem IvR.step {W W' : World} {lo hi : Nat} {v : Value} {os : List (Nat × Nat)} (h : IvR W lo hi v os) (hb : Below W.heap.size W W') : IvR W' lo hi v os := ⟨owns_step h.own hb, h.lt⟩
theorem IvR.grown {W W' : World} {lo hi : Nat} {v : Value} {os : List (Nat × Nat)} {row : Option Nat} (h : IvR W lo hi v os) (hg : W.grownBy W' row) (hr : ∀ g, row = some g → g < lo ∨ hi ≤ g) : IvR W' lo hi v os := by
  refine ⟨h.own.kept hg ?_, h.lt⟩
  cases hv : v.ownBlock with
  | none => exact .inl rfl
  | some g =>
    refine .inr fun e => ?_
    have h1 := (h.own.lt g hv).1
    have h2 := h.lt g hv
    have := hr g e.symm
    omega
theorem IvR.rs {W : World} {lo hi : Nat} {v : Value} {os : List (Nat × Nat)} (h : IvR W lo hi v os) : ∃ A c, v = .slice A os.length c ∧ Rs W (fun _ => True) A os.length c (natR os) := by
  obtain ⟨A, c, hv, hs⟩ := Rs.of_owns h.own (natR_length os)
  exact ⟨A, c, hv, hs.weak fun _ _ _ => trivial⟩

end Go.Proofs.YtfhmjgkcpcnkbaaDoor
/- The roots of the stretches that show that one list goes on another (plain). -/
namespace Go.Proofs.YtfhmjgkcpcnkbaaDoor
open Go Go.RowKit

theorem stepsA_each (m : Int) (n : Nat) : ∀ x ∈ (stepsA m n).1, x.1 < x.2 ∧ x.2 ≤ n := by
  intro x hx
  unfold stepsA at hx
  split at hx
  · cases hx
  · rename_i h1
    split at hx
    · cases hx
    · rename_i h2
      have := (stepsL_ok n m.toNat 0 n true (Nat.le_refl _) (by omega) (by omega)).each x (by simpa using hx)
      omega
theorem stretchR_nat (hs : List (List UInt8)) (a b : Nat) (h1 : a < b) (h2 : b ≤ hs.length) : stretchR hs (a : Int) (b : Int) = (stretchL hs a b, 0) := by
  unfold stretchR
  rw [if_pos ⟨by omega, by omega, by omega⟩, Int.toNat_natCast, Int.toNat_natCast]
theorem steps_good (hs : List (List UInt8)) (m : Int) : goodL hs (natR (stepsA m hs.length).1) = natR (stepsA m hs.length).1 := by
  unfold goodL
  rw [List.filter_eq_self]
  intro y hy
  unfold natR at hy
  obtain ⟨x, hx, rfl⟩ := List.mem_map.1 hy
  obtain ⟨h1, h2⟩ := stepsA_each m hs.length x hx
  unfold okR
  rw [stretchR_nat hs x.1 x.2 h1 h2]
  rfl
def rootsS (hs : List (List UInt8)) (m : Int) : List (List UInt8) := rootsL hs (stepsA m hs.length).1
theorem length_natR (l : List (Nat × Nat)) : (natR l).length = l.length := by simp [natR]
theorem length_rootsS (hs : List (List UInt8)) (m : Int) : (rootsS hs m).length = (stepsA m hs.length).1.length := by simp [rootsS, rootsL]
theorem rootsS_all (hs : List (List UInt8)) (h : H32 hs) (m : Int) : H32 (rootsS hs m) := rootsL_all hs h _
theorem rootsS_at (hs : List (List UInt8)) (m : Int) (k : Nat) (h : k < (stepsA m hs.length).1.length) : (stretchR hs ((natR (stepsA m hs.length).1).getD k (0, 0)).1 ((natR (stepsA m hs.length).1).getD k (0, 0)).2).1 = (rootsS hs m).getD k [] := by
  obtain ⟨h1, h2⟩ := stepsA_each m hs.length _ (List.getElem_mem h)
  unfold natR rootsS rootsL
  rw [List.getD_eq_getElem?_getD, List.getElem?_map, List.getD_eq_getElem?_getD, List.getElem?_map, List.getElem?_eq_getElem h]
  simp only [Option.map_some, Option.getD_some]
  rw [stretchR_nat hs _ _ h1 h2]
theorem take_snocH (l : List (List UInt8)) (k : Nat) (h : k < l.length) : l.take (k + 1) = l.take k ++ [l.getD k []] := by
  rw [List.take_succ_eq_append_getElem h, List.getD_eq_getElem?_getD, List.getElem?_eq_getElem h]; rfl
theorem rootsS_bad (hs : List (List UInt8)) (m : Int) (h : (stepsA m hs.length).2 ≠ 0) : rootsS hs m = [] := by
  unfold rootsS stepsA at *
  split
  · rfl
  · rename_i h1
    rw [if_neg h1] at h
    split at h <;> exact absurd rfl h
theorem stepsA_e (m n : Int) : (stepsA m n).2 = 0 ∨ (stepsA m n).2 = 4 := by
  unfold stepsA
  split
  · exact .inr rfl
  · split <;> exact .inl rfl
end Go.Proofs.YtfhmjgkcpcnkbaaDoor
