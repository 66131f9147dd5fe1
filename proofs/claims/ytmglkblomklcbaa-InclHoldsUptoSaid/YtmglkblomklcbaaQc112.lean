/- tree.Of, notaryref09.Of, notaryref08.Empty. -/
import Derived.Test.YtmglkblomklcbaaQc111
import Derived.Test.YtmglkblomklcbaaQc110
import Derived.Test.YtmglkblomklcbaaQc109
namespace Go.Proofs.Ytmglkblomklcbaa
open Go Go.RowKit

theorem sizeHs : ∀ w : World, (sizeOf (Try.prog.elem 22)).run Try.prog w = .ok 32 w := fun _ => by kernel_rfl
theorem sliceHs : Try.prog.underlying 22 = some (.slice (Try.prog.elem 22)) := by kernel_rfl
/-- the root of a list of leaves' hashes -/
def rootL (hs : List (List UInt8)) : List UInt8 := rootF hEmpty hNode hs.length hs
theorem rootL_nil : rootL [] = hEmpty := rfl
theorem rootL_one (x : List UInt8) : rootL [x] = x := rfl
theorem rootL_more (hs : List (List UInt8)) (h : 2 ≤ hs.length) : rootL hs = hNode (rootL (hs.take (splitN hs.length))) (rootL (hs.drop (splitN hs.length))) := by
  unfold rootL
  rw [rootF_enough _ _ hs.length (hs.length + 1) hs (Nat.le_refl _) (by omega), rootF, if_neg (by omega), if_neg (by omega)]
  rw [rootF_enough _ _ hs.length (hs.take (splitN hs.length)).length _ (by rw [List.length_take]; omega) (Nat.le_refl _), rootF_enough _ _ hs.length (hs.drop (splitN hs.length)).length _ (by rw [List.length_drop]; omega) (Nat.le_refl _)]
theorem length_rootL (hs : List (List UInt8)) (h : H32 hs) : (rootL hs).length = 32 := by
  by_cases h2 : 2 ≤ hs.length
  · rw [rootL_more hs h2]; exact length_hNode _ _
  · match hs, h, h2 with
    | [], _, _ => exact length_hEmpty
    | [x], h, _ => exact h x (by simp)
    | _ :: _ :: _, _, h2 => exact absurd (by simp) h2
theorem run_slice_op_hi {ρ : Operand → Value} {o : Oper} (x y : Operand) (ho : o.op = .slice 22 x none (some y) none) (A : Option Addr) (n c k : Nat) (hx : ρ x = .slice A n c) (hy : ρ y = .int .i64 (k : Int)) (hk : k ≤ c) (W : World) :
    (execOp ρ o).run Try.prog W = .ok (.value (.slice A k c)) W := by
  unfold execOp
  simp only [ho, hx, hy, Option.map_some, Option.map_none, run_slice_high sliceHs sizeHs A n c k hk W, Sem.run_bind, Sem.run_pure, Result.andThen_ok]
theorem run_slice_op_lo {ρ : Operand → Value} {o : Oper} (x y : Operand) (ho : o.op = .slice 22 x (some y) none none) (A : Option Addr) (n c k : Nat) (hx : ρ x = .slice A n c) (hy : ρ y = .int .i64 (k : Int)) (hk : k ≤ n) (W : World) :
    (execOp ρ o).run Try.prog W = .ok (.value (.slice (if c = k then A else A.map (·.add (k * 32))) (n - k) (c - k))) W := by
  unfold execOp
  simp only [ho, hx, hy, Option.map_some, Option.map_none, run_slice_low sliceHs sizeHs A n c k hk W, Sem.run_bind, Sem.run_pure, Result.andThen_ok]

set_option maxHeartbeats 2000000 in
set_option maxRecDepth 100000 in
theorem tof_rec (d : Nat) : ∀ (hs : List (List UInt8)) (A : Option Addr) (n c : Nat) (w : World), n ≤ d → Hs w (fun _ => True) A n c hs → n ≤ 4398046511104 →
    Calls Try.prog 46 #[.slice A n c] w fun e w' => e = .returned (.agg ((rootL hs).map B).toArray) ∧ Below w.heap.size w w' := by
  induction d using Nat.strongRecOn with
  | ind d ih =>
  intro hs A n c w hnd h hn
  obtain ⟨zs, hzs⟩ : ∃ zs, zeroHash = zs := ⟨_, rfl⟩
  have hzl : zs.size = 32 := by rw [← hzs]; rfl
  have hlen := h.len
  have hroom := h.sl.room
  have hmax := h.sl.max
  unfold maxLen at hmax
  have hb0 := (Below.refl w.heap.size w).alloc (Nat.le_refl _) (.cells zs 45)
  have k0 := Blk.new w 45 zs
  have h0 := h.step hb0
  obtain ⟨r, hr⟩ : ∃ r, rootL hs = r := ⟨_, rfl⟩
  have hrl : r.length = 32 := by rw [← hr]; exact length_rootL hs h.all
  rw [hr]
  have Hzs := Lib.hid hzs
  have Hrl := Lib.hid hrl
  have Hr := Lib.hid hr
  have Hlen := Lib.hid hlen
  clear hzs hrl hr hlen
  by_cases hn0 : n = 0
  · subst hn0
    have hnil : hs = [] := List.eq_nil_of_length_eq_zero Hlen.out
    subst hnil
    obtain rfl : r = hEmpty := Hr.out.symm
    clear ih h h0
    go_enter Try.func46, Try.ntmps46
    go_wp2_with (first
      | ((with_reducible show wpList _ _ _ (⟨some 2, .alloc _, _, _, _, _⟩ :: _) _ _); refine wpList_run rfl (.pointer (some ⟨w.heap.size, 0, none⟩)) (w.alloc (.cells zs 45)) (by rw [← Hzs.out]; rfl) ?_; simp only [Act.put])
      | (go_at_call 57; refine (hempty_any _).mono ?_; rintro e w1 ⟨rfl, hb1⟩; have k1 := k0.below hb1 (by simp); have B1 := hb0.trans (hb1.mono (by simp)))
      | ((with_reducible show wpList _ _ _ (⟨none, .store _ _ _, _, _, _, _⟩ :: _) _ _); refine wpList_store_blk rfl 45 (.tmp 2) (.tmp 21) rfl 32 size26 w.heap.size (hEmpty.map B).toArray rfl rfl (by simp [Hrl.out]) (oneCell_B _) 45 _ k1 hzl ?_; simp only [Act.put]))
    refine bodyPost_ret (results_cell_row rfl _ _ w.heap.size 45 (hEmpty.map B).toArray (0, 0) _ rfl (k1.setRow_ _) Try.underlying45 rfl (by rw [show (hEmpty.map B).toArray.size = 32 by simp [Hrl.out]]; exact info26)) rfl ⟨rfl, ?_⟩
    exact below_setRow B1 (Nat.le_refl _) _
  by_cases hn1 : n = 1
  · subst hn1
    obtain ⟨x, rfl⟩ := List.length_eq_one_iff.1 Hlen.out
    obtain rfl : r = x := Hr.out.symm
    obtain ⟨b, o, rfl, -, -, hat⟩ := h0.at_ (by omega)
    have hld : (Instr.loadAt 45 (.pointer (some ⟨b, o, none⟩))).run Try.prog (w.alloc (.cells zs 45)) = .ok (.agg (r.map B).toArray) (w.alloc (.cells zs 45)) := hat 0 (by omega)
    have Hld := Lib.hid hld
    clear ih h h0 hat hld
    go_enter Try.func46, Try.ntmps46
    go_wp2_with (first
      | ((with_reducible show wpList _ _ _ (⟨some 2, .alloc _, _, _, _, _⟩ :: _) _ _); refine wpList_run rfl (.pointer (some ⟨w.heap.size, 0, none⟩)) (w.alloc (.cells zs 45)) (by rw [← Hzs.out]; rfl) ?_; simp only [Act.put])
      | ((with_reducible show wpList _ _ _ (⟨some 26, .load _ _, _, _, _, _⟩ :: _) _ _); refine wpList_load rfl 45 (.tmp 25) rfl b o rfl (r.map B).toArray Hld.out ?_; simp only [Act.put])
      | ((with_reducible show wpList _ _ _ (⟨none, .store _ _ _, _, _, _, _⟩ :: _) _ _); refine wpList_store_blk rfl 45 (.tmp 2) (.tmp 26) rfl 32 size26 w.heap.size (r.map B).toArray rfl rfl (by simp [Hrl.out]) (oneCell_B _) 45 _ k0 hzl ?_; simp only [Act.put]))
    refine bodyPost_ret (results_cell_row rfl _ _ w.heap.size 45 (r.map B).toArray (0, 0) _ rfl (k0.setRow_ _) Try.underlying45 rfl (by rw [show (r.map B).toArray.size = 32 by simp [Hrl.out]]; exact info26)) rfl ⟨rfl, ?_⟩
    exact below_setRow hb0 (Nat.le_refl _) _
  have hne0 : ((n : Int) == 0) = false := by simp; omega
  have hne1 : ((n : Int) == 1) = false := by simp; omega
  have hmore := rootL_more hs (by rw [Hlen.out]; omega)
  rw [Hlen.out, Hr.out] at hmore
  have hspl := fun w => tsplit_any (n : Int) w (by omega)
  rw [Int.toNat_natCast] at hspl
  have hsl := splitN_lt n (by omega)
  have hsp := splitN_pos n (by omega)
  obtain ⟨s, hs'⟩ : ∃ s, splitN n = s := ⟨_, rfl⟩
  rw [hs'] at hmore hspl hsl hsp
  have hL := fun W (hW : Below (w.alloc (.cells zs 45)).heap.size (w.alloc (.cells zs 45)) W) => ih s (by omega) (hs.take s) A s c W (Nat.le_refl _) ((h0.step hW).take s (by omega)) (by omega)
  have hR := fun W (hW : Below (w.alloc (.cells zs 45)).heap.size (w.alloc (.cells zs 45)) W) => ih (n - s) (by omega) (hs.drop s) _ (n - s) (c - s) W (Nat.le_refl _) ((h0.step hW).drop s (by omega)) (by omega)
  obtain ⟨x, hx⟩ : ∃ x, rootL (hs.take s) = x := ⟨_, rfl⟩
  obtain ⟨y, hy⟩ : ∃ y, rootL (hs.drop s) = y := ⟨_, rfl⟩
  have hxl : x.length = 32 := by rw [← hx]; exact length_rootL _ (h.all.take s)
  have hyl : y.length = 32 := by rw [← hy]; exact length_rootL _ (h.all.drop s)
  rw [hx] at hL hmore
  rw [hy] at hR hmore
  have hN := fun W => hnode_any x y W hxl hyl
  rw [← hmore] at hN
  have Hspl := Lib.hid hspl
  have HL := Lib.hid hL
  have HR := Lib.hid hR
  have HN := Lib.hid hN
  clear hspl hL hR hN hx hy hxl hyl hmore hs' ih h
  go_enter Try.func46, Try.ntmps46
  go_wp2_with (first
    | ((with_reducible show wpList _ _ _ (⟨some 2, .alloc _, _, _, _, _⟩ :: _) _ _); refine wpList_run rfl (.pointer (some ⟨w.heap.size, 0, none⟩)) (w.alloc (.cells zs 45)) (by rw [← Hzs.out]; rfl) ?_; simp only [Act.put])
    | (go_at_call 48; refine (Hspl.out _).mono ?_; rintro e w1 ⟨rfl, rfl⟩))
  generalize w.alloc (.cells zs 45) = w1 at hb0 k0 h0 HL HR ⊢
  have hS : Below w1.heap.size w1 w1.drew := (Below.refl _ _).drew
  refine wp_region_mix_last (fun W => Below w1.heap.size w1 W) 9 [(0, true), (1, true), (2, true), (4, true), (5, true), (6, true), (3, false), (7, false), (8, false)] (by kernel_rfl) (by kernel_rfl) hS fun _ => ?_
  simp only [List.map_cons, List.map_nil, Array.getD_eq_getD_getElem?, List.getElem?_toArray, List.getElem?_cons_succ, List.getElem?_cons_zero, Option.getD_some]
  generalize w1.drew = W0 at hS ⊢
  refine wpMix_s (fun K hK => ?_)
  go_simp
  refine hK _ ?_
  clear hK K
  refine wpMix_s (fun K hK => ?_)
  go_simp
  refine hK _ ?_
  clear hK K
  refine wpMix_v (by kernel_rfl) (.slice A s c) (fun u => run_slice_op_hi (.tmp 10) (.tmp 11) rfl A n c s rfl rfl (by omega) u.W) ?_
  simp only [Act.put]
  refine wpMix_s (fun K hK => ?_)
  go_simp
  refine hK _ ?_
  clear hK K
  refine wpMix_s (fun K hK => ?_)
  go_simp
  refine hK _ ?_
  clear hK K
  refine wpMix_v (by kernel_rfl) (.slice (if c = s then A else A.map (·.add (s * 32))) (n - s) (c - s)) (fun u => run_slice_op_lo (.tmp 14) (.tmp 15) rfl A n c s rfl rfl (by omega) u.W) ?_
  simp only [Act.put]
  refine wpMix_c (fun K hK => ?_) hS
  go_simp
  refine (HL.out W0 hS).mono ?_
  rintro e W1 ⟨rfl, hb'⟩
  refine hK _ _ ?_
  clear hK K
  replace hS := hS.trans (hb'.mono hS.size)
  refine ⟨hS, ?_⟩
  clear hb'
  refine wpMix_c (fun K hK => ?_) hS
  go_simp
  refine (HR.out W1 hS).mono ?_
  rintro e W2 ⟨rfl, hb'⟩
  refine hK _ _ ?_
  clear hK K
  replace hS := hS.trans (hb'.mono hS.size)
  refine ⟨hS, ?_⟩
  clear hb'
  refine wpMix_c (fun K hK => ?_) hS
  go_simp
  refine (HN.out W2).mono ?_
  rintro e W3 ⟨rfl, hb'⟩
  refine hK _ _ ?_
  clear hK K
  replace hS := hS.trans (hb'.mono hS.size)
  refine ⟨hS, ?_⟩
  clear hb'
  refine wpMix_nil ?_
  intro _
  simp only [List.drop_succ_cons, List.drop_zero]
  have k3 := k0.below hS k0.lt
  go_wp2_with ((with_reducible show wpList _ _ _ (⟨none, .store _ _ _, _, _, _, _⟩ :: _) _ _); refine wpList_store_blk rfl 45 (.tmp 2) (.tmp 18) rfl 32 size26 w.heap.size (r.map B).toArray rfl rfl (by simp [Hrl.out]) (oneCell_B _) 45 _ k3 hzl ?_; simp only [Act.put])
  refine np_normal ?_
  go_wp2_with fail
  refine bodyPost_ret (results_cell_row rfl _ _ w.heap.size 45 (r.map B).toArray (0, 0) _ rfl (k3.setRow_ _) Try.underlying45 rfl (by rw [show (r.map B).toArray.size = 32 by simp [Hrl.out]]; exact info26)) rfl ⟨rfl, ?_⟩
  exact below_setRow (hb0.trans (hS.mono hb0.size)) (Nat.le_refl _) _
theorem tof_any (hs : List (List UInt8)) (A : Option Addr) (n c : Nat) (w : World) (h : Hs w (fun _ => True) A n c hs) (hn : n ≤ 4398046511104) :
    Calls Try.prog 46 #[.slice A n c] w fun e w' => e = .returned (.agg ((rootL hs).map B).toArray) ∧ Below w.heap.size w w' := tof_rec n hs A n c w (Nat.le_refl _) h hn
end Go.Proofs.Ytmglkblomklcbaa
/- The fold of the whole stretches' roots; tree.Stretch. -/
namespace Go.Proofs.Ytmglkblomklcbaa
open Go Go.RowKit

/-- the root of the stretch from a to b -/
def stretchL (hs : List (List UInt8)) (a b : Nat) : List UInt8 := rootL ((hs.drop a).take (b - a))
theorem length_stretchL (hs : List (List UInt8)) (a b : Nat) (h : H32 hs) : (stretchL hs a b).length = 32 := length_rootL _ ((h.drop a).take _)
def foldR : List (List UInt8) → List UInt8
  | [] => hEmpty
  | [x] => x
  | x :: y :: t => hNode x (foldR (y :: t))
theorem foldR_cons (x : List UInt8) (l : List (List UInt8)) (h : l ≠ []) : foldR (x :: l) = hNode x (foldR l) := by
  cases l with
  | nil => exact absurd rfl h
  | cons y t => rfl
theorem length_foldR (x : List UInt8) (l : List (List UInt8)) (h : H32 (x :: l)) : (foldR (x :: l)).length = 32 := by
  cases l with
  | nil => exact h x (by simp)
  | cons y t => exact length_hNode _ _
def rootsL (hs : List (List UInt8)) (l : List (Nat × Nat)) : List (List UInt8) := l.map fun s => stretchL hs s.1 s.2
theorem rootsL_all (hs : List (List UInt8)) (h : H32 hs) (l : List (Nat × Nat)) : H32 (rootsL hs l) := fun x hx => by
  obtain ⟨s, _, rfl⟩ := List.mem_map.1 hx
  exact length_stretchL hs _ _ h
theorem wholeL_ne (a n : Nat) (h : n ≠ 0) : wholeL a n ≠ [] := by rw [wholeL_more a n h]; simp
theorem foldR_whole (d : Nat) : ∀ (n a : Nat) (hs : List (List UInt8)), n ≤ d → n ≠ 0 → a + n ≤ hs.length → foldR (rootsL hs (wholeL a n)) = rootL ((hs.drop a).take n) := by
  induction d with
  | zero => intro n a hs h h0; omega
  | succ d ih =>
    intro n a hs h h0 hl
    have hp := Nat.two_pow_pos n.log2
    have h1 := Nat.log2_self_le h0
    have h2 := Nat.lt_log2_self (n := n)
    have hsp := splitN_eq n n.log2
    rw [Nat.pow_succ] at h2 hsp
    rw [wholeL_more a n h0, rootsL, List.map_cons]
    generalize 2 ^ n.log2 = p at *
    by_cases hnp : n = p
    · subst hnp
      rw [Nat.sub_self, wholeL_zero]
      show stretchL hs a (a + n) = _
      rw [stretchL, Nat.add_sub_cancel_left]
    · have hs2 := hsp (by omega) (by omega)
      have hne : (wholeL (a + p) (n - p)).map (fun s => stretchL hs s.1 s.2) ≠ [] := by
        have := wholeL_ne (a + p) (n - p) (by omega)
        simpa using this
      have hi := ih (n - p) (a + p) hs (by omega) (by omega) (by omega)
      rw [rootsL] at hi
      have hlen : ((hs.drop a).take n).length = n := by rw [List.length_take, List.length_drop]; omega
      rw [foldR_cons _ _ hne, hi, rootL_more ((hs.drop a).take n) (by rw [hlen]; omega), hlen, hs2, List.take_take, Nat.min_eq_left (by omega), List.drop_take, List.drop_drop]
      show hNode (stretchL hs a (a + p)) _ = _
      rw [stretchL, Nat.add_sub_cancel_left]
theorem foldR_roots (hs : List (List UInt8)) (h : hs ≠ []) : foldR (rootsL hs (wholeL 0 hs.length)) = rootL hs := by
  have := foldR_whole hs.length hs.length 0 hs (Nat.le_refl _) (by simpa using h) (by omega)
  rw [this, List.drop_zero, List.take_length]
/-- from the back -/
theorem foldR_drop (l : List (List UInt8)) (i : Nat) (h : i + 1 < l.length) : foldR (l.drop i) = hNode (l.getD i []) (foldR (l.drop (i + 1))) := by
  rw [List.drop_eq_getElem_cons (by omega), foldR_cons _ _ (by intro e; have := congrArg List.length e; rw [List.length_drop, List.length_nil] at this; omega), List.getD_eq_getElem?_getD, List.getElem?_eq_getElem (by omega)]
  rfl
theorem foldR_last (l : List (List UInt8)) (n : Nat) (h : l.length = n + 1) : foldR (l.drop n) = l.getD n [] := by
  rw [List.drop_eq_getElem_cons (by omega), List.drop_of_length_le (by omega), List.getD_eq_getElem?_getD, List.getElem?_eq_getElem (by omega)]
  rfl

theorem tuple_cellT {fn : Func} {p u : Tmp} {ty t : TypeId} {P : Program} (h : fn.results = #[.cell p ty, .tmp u]) (tmps : Array Value) (w : World) (g : Nat) (cs : Array Value) (N : Nat) (el : TypeId)
    (hp : tmps.getD p undef = .pointer (some ⟨g, 0, none⟩)) (hg : Blk w g t cs) (hu : P.underlying ty = some (.array N el)) (hi : (P.info? ty).map (·.size) = some cs.size) :
    (results fn tmps).run P w = .ok (.tuple #[.agg cs, tmps.getD u undef]) w := by
  rw [results_cell_tmp h, hp]
  show ((loadVar ty ⟨g, 0, none⟩).run P w).andThen (fun v w₂ => Result.ok (Value.tuple #[v, tmps.getD u undef]) w₂) = _
  rw [run_loadVar_row w g t ty cs (0, 0) _ hg hu rfl hi]
  rfl
/-- 's[a:b]' -/
theorem run_slice_op_both {ρ : Operand → Value} {o : Oper} (x y z : Operand) (ho : o.op = .slice 22 x (some y) (some z) none) (A : Option Addr) (n c a b : Nat) (hx : ρ x = .slice A n c) (hy : ρ y = .int .i64 (a : Int)) (hz : ρ z = .int .i64 (b : Int)) (hab : a ≤ b) (hb : b ≤ c) (W : World) :
    (execOp ρ o).run Try.prog W = .ok (.value (.slice (if c = a then A else A.map (·.add (a * 32))) (b - a) (c - a))) W := by
  unfold execOp
  simp only [ho, hx, hy, hz, Option.map_some, Option.map_none]
  simp only [run_sliceAt_slice W 22 _ _ _ _ sliceHs, run_slice_lh W 22 A n c sliceHs .i64 .i64 (a : Int) (b : Int) (by omega) (by omega) (by omega), sizeHs, Sem.run_bind, Sem.run_pure, Result.andThen_ok, sliced, Int.toNat_natCast]

set_option maxHeartbeats 2000000 in
set_option maxRecDepth 100000 in
theorem tstretch_ok (hs : List (List UInt8)) (A : Option Addr) (n c : Nat) (w : World) (a b : Nat) (h : Hs w (fun _ => True) A n c hs) (hn : n ≤ 4398046511104) (hab : a < b) (hb : b ≤ n) :
    Calls Try.prog 30 #[.slice A n c, .agg #[.int .i64 (a : Int), .int .i64 (b : Int)]] w fun e w' => e = .returned (.tuple #[.agg ((stretchL hs a b).map B).toArray, .int .i64 0]) ∧ Below w.heap.size w w' := by
  obtain ⟨zs, hzs⟩ : ∃ zs, zeroHash = zs := ⟨_, rfl⟩
  have hzl : zs.size = 32 := by rw [← hzs]; rfl
  have hroom := h.sl.room
  have hmax := h.sl.max
  unfold maxLen at hmax
  have hbx := (Below.refl w.heap.size w).alloc (Nat.le_refl _) (.cells #[.int .i64 (a : Int), .int .i64 (b : Int)] 68)
  have x0 := Blk.new w 68 #[.int .i64 (a : Int), .int .i64 (b : Int)]
  have hb0 := hbx.alloc hbx.size (.cells zs 45)
  have k0 := Blk.new (w.alloc (.cells #[.int .i64 (a : Int), .int .i64 (b : Int)] 68)) 45 zs
  have x1 := x0.alloc (.cells zs 45)
  have h0 := (h.step hb0).drop a (by omega)
  rw [if_neg (by omega)] at h0
  have h1 := h0.take (b - a) (by omega)
  have hof := fun W (hW : Below ((w.alloc (.cells #[.int .i64 (a : Int), .int .i64 (b : Int)] 68)).alloc (.cells zs 45)).heap.size ((w.alloc (.cells #[.int .i64 (a : Int), .int .i64 (b : Int)] 68)).alloc (.cells zs 45)) W) => tof_any ((hs.drop a).take (b - a)) _ (b - a) (c - a) W (h1.step hW) (by omega)
  obtain ⟨r, hr⟩ : ∃ r, stretchL hs a b = r := ⟨_, rfl⟩
  have hrl : r.length = 32 := by rw [← hr]; exact length_stretchL hs _ _ h.all
  rw [show rootL ((hs.drop a).take (b - a)) = r from hr] at hof
  rw [hr]
  have e0 : ((w.alloc (.cells #[.int .i64 (a : Int), .int .i64 (b : Int)] 68)).alloc (.cells zs 45)).cell? ⟨w.heap.size, 0, none⟩ = some (.int .i64 (a : Int)) := by rw [x1.cell]; rfl
  have e1 : ((w.alloc (.cells #[.int .i64 (a : Int), .int .i64 (b : Int)] 68)).alloc (.cells zs 45)).cell? ⟨w.heap.size, 1, none⟩ = some (.int .i64 (b : Int)) := by rw [x1.cell]; rfl
  have Hof := Lib.hid hof
  have Hzs := Lib.hid hzs
  have Hrl := Lib.hid hrl
  have d0 : decide ((a : Int) < 0) = false := by simp
  have d1 : decide ((b : Int) ≤ (a : Int)) = false := by simp; omega
  have d1' : decide (b ≤ a) = false := by simp; omega
  have d2 : decide ((n : Int) < (b : Int)) = false := by simp; omega
  have d2' : decide (n < b) = false := by simp; omega
  clear hof hzs hrl hr h h0 h1 x0 x1 hbx
  go_enter Try.func30, Try.ntmps30
  go_wp2_with (first
    | ((with_reducible show wpList _ _ _ (⟨some 4, .alloc _, _, _, _, _⟩ :: _) _ _); refine wpList_run rfl (.pointer (some ⟨(w.alloc (.cells #[.int .i64 (a : Int), .int .i64 (b : Int)] 68)).heap.size, 0, none⟩)) ((w.alloc (.cells #[.int .i64 (a : Int), .int .i64 (b : Int)] 68)).alloc (.cells zs 45)) (by rw [← Hzs.out]; rfl) ?_; simp only [Act.put]))
  refine (Hof.out _ (Below.refl _ _)).mono ?_
  rintro e w2 ⟨rfl, hb2⟩
  have k2 := k0.below hb2 k0.lt
  rw [show (w.alloc (.cells #[.int .i64 (a : Int), .int .i64 (b : Int)] 68)).heap.size = w.heap.size + 1 by simp] at k2
  have B2 := hb0.trans (hb2.mono hb0.size)
  clear e0 e1 d0 d1 d1' d2 d2' Hof
  go_wp2_with ((with_reducible show wpList _ _ _ (⟨none, .store _ _ _, _, _, _, _⟩ :: _) _ _); refine wpList_store_blk rfl 45 (.tmp 4) (.tmp 30) rfl 32 size26 (w.heap.size + 1) (r.map B).toArray rfl rfl (by simp [Hrl.out]) (oneCell_B _) 45 _ k2 hzl ?_; simp only [Act.put])
  refine bodyPost_ret (tuple_cellT rfl _ _ (w.heap.size + 1) (r.map B).toArray _ _ rfl (k2.setRow_ _) Try.underlying45 (by rw [show (r.map B).toArray.size = 32 by simp [Hrl.out]]; exact info26)) rfl ⟨rfl, ?_⟩
  exact below_setRow B2 (by omega) _

set_option maxHeartbeats 2000000 in
set_option maxRecDepth 100000 in
theorem tstretch_bad (A : Option Addr) (n c : Nat) (w : World) (a b : Int) (hbad : a < 0 ∨ b ≤ a ∨ n < b) :
    Calls Try.prog 30 #[.slice A n c, .agg #[.int .i64 a, .int .i64 b]] w fun e w' => e = .returned (.tuple #[.agg zeroHash, .int .i64 4]) ∧ Below w.heap.size w w' := by
  obtain ⟨zs, hzs⟩ : ∃ zs, zeroHash = zs := ⟨_, rfl⟩
  have hzl : zs.size = 32 := by rw [← hzs]; rfl
  have hz1 : ∀ v ∈ zs.toList, v.oneCell' = true := by rw [← hzs]; exact oneCell_B _
  rw [hzs]
  have hbx := (Below.refl w.heap.size w).alloc (Nat.le_refl _) (.cells #[.int .i64 a, .int .i64 b] 68)
  have x0 := Blk.new w 68 #[.int .i64 a, .int .i64 b]
  have hb0 := hbx.alloc hbx.size (.cells zs 45)
  have k0 := Blk.new (w.alloc (.cells #[.int .i64 a, .int .i64 b] 68)) 45 zs
  have x1 := x0.alloc (.cells zs 45)
  rw [show (w.alloc (.cells #[.int .i64 a, .int .i64 b] 68)).heap.size = w.heap.size + 1 by simp] at k0
  have e0 : ((w.alloc (.cells #[.int .i64 a, .int .i64 b] 68)).alloc (.cells zs 45)).cell? ⟨w.heap.size, 0, none⟩ = some (.int .i64 a) := by rw [x1.cell]; rfl
  have e1 : ((w.alloc (.cells #[.int .i64 a, .int .i64 b] 68)).alloc (.cells zs 45)).cell? ⟨w.heap.size, 1, none⟩ = some (.int .i64 b) := by rw [x1.cell]; rfl
  have Hzs := Lib.hid hzs
  have Hz1 := Lib.hid hz1
  clear hzs hz1 x0 x1 hbx
  have hd : (decide (a < 0) = true) ∨ (decide (a < 0) = false ∧ decide (b ≤ a) = true) ∨ (decide (a < 0) = false ∧ decide (b ≤ a) = false ∧ decide ((n : Int) < b) = true) := by
    by_cases h1 : a < 0
    · exact .inl (decide_eq_true h1)
    · by_cases h2 : b ≤ a
      · exact .inr (.inl ⟨decide_eq_false h1, decide_eq_true h2⟩)
      · exact .inr (.inr ⟨decide_eq_false h1, decide_eq_false h2, decide_eq_true (by omega)⟩)
  clear hbad
  go_enter Try.func30, Try.ntmps30
  rcases hd with d1 | ⟨d1, d2⟩ | ⟨d1, d2, d3⟩
  all_goals
    go_wp2_with (first
      | ((with_reducible show wpList _ _ _ (⟨some 4, .alloc _, _, _, _, _⟩ :: _) _ _); refine wpList_run rfl (.pointer (some ⟨(w.alloc (.cells #[.int .i64 a, .int .i64 b] 68)).heap.size, 0, none⟩)) ((w.alloc (.cells #[.int .i64 a, .int .i64 b] 68)).alloc (.cells zs 45)) (by rw [← Hzs.out]; rfl) ?_; simp only [Act.put])
      | ((with_reducible show wpList _ _ _ (⟨some 23, .build _ _, _, _, _, _⟩ :: _) _ _); refine wpList_run0 rfl (.agg zs) (by rw [← Hzs.out]; kernel_rfl) ?_; simp only [Act.put])
      | ((with_reducible show wpList _ _ _ (⟨none, .store _ _ _, _, _, _, _⟩ :: _) _ _); refine wpList_store_blk rfl 45 (.tmp 4) (.tmp 23) rfl 32 size26 (w.heap.size + 1) zs rfl rfl hzl Hz1.out 45 _ k0 hzl ?_; simp only [Act.put]))
    refine bodyPost_ret (tuple_cellT rfl _ _ (w.heap.size + 1) zs _ _ rfl (k0.setRow_ _) Try.underlying45 (by rw [hzl]; exact info26)) rfl ⟨rfl, ?_⟩
    exact below_setRow hb0 (by omega) _
end Go.Proofs.Ytmglkblomklcbaa
/- notaryref09.Stretch, tree.Node, notaryref09.Node. -/
namespace Go.Proofs.Ytmglkblomklcbaa
open Go Go.RowKit

def zeroL : List UInt8 := List.replicate 32 0
def stretchR (hs : List (List UInt8)) (a b : Int) : List UInt8 × Int := if 0 ≤ a ∧ a < b ∧ b ≤ hs.length then (stretchL hs a.toNat b.toNat, 0) else (zeroL, 4)
theorem length_stretchR (hs : List (List UInt8)) (a b : Int) (h : H32 hs) : (stretchR hs a b).1.length = 32 := by
  unfold stretchR
  split
  · exact length_stretchL hs _ _ h
  · rfl
theorem tstretch_any (hs : List (List UInt8)) (A : Option Addr) (n c : Nat) (w : World) (a b : Int) (h : Hs w (fun _ => True) A n c hs) (hn : n ≤ 4398046511104) :
    Calls Try.prog 30 #[.slice A n c, .agg #[.int .i64 a, .int .i64 b]] w fun e w' => e = .returned (.tuple #[.agg ((stretchR hs a b).1.map B).toArray, .int .i64 (stretchR hs a b).2]) ∧ Below w.heap.size w w' := by
  have hl := h.len
  unfold stretchR
  by_cases hc : 0 ≤ a ∧ a < b ∧ b ≤ hs.length
  · rw [if_pos hc]
    obtain ⟨x, rfl⟩ : ∃ x : Nat, a = (x : Int) := ⟨a.toNat, by omega⟩
    obtain ⟨y, rfl⟩ : ∃ y : Nat, b = (y : Int) := ⟨b.toNat, by omega⟩
    rw [Int.toNat_natCast, Int.toNat_natCast]
    exact tstretch_ok hs A n c w x y h hn (by omega) (by omega)
  · rw [if_neg hc]
    exact tstretch_bad A n c w a b (by omega)
/-- a node by its level and its index -/
def nodeR (hs : List (List UInt8)) (lv ix : Int) : List UInt8 × Int :=
  if 0 ≤ lv ∧ lv ≤ 62 ∧ 0 ≤ ix ∧ ix.toNat ≤ hs.length / 2 ^ lv.toNat then stretchR hs ((ix.toNat * 2 ^ lv.toNat : Nat) : Int) ((ix.toNat * 2 ^ lv.toNat + 2 ^ lv.toNat : Nat) : Int) else (zeroL, 4)
theorem length_nodeR (hs : List (List UInt8)) (lv ix : Int) (h : H32 hs) : (nodeR hs lv ix).1.length = 32 := by
  unfold nodeR
  split
  · exact length_stretchR hs _ _ h
  · rfl

end Go.Proofs.Ytmglkblomklcbaa
/- The stretches that are in a list, in their order (plain). -/
namespace Go.Proofs.Ytmglkblomklcbaa
open Go Go.RowKit

def okR (hs : List (List UInt8)) (x : Int × Int) : Bool := decide ((stretchR hs x.1 x.2).2 = 0)
def goodL (hs : List (List UInt8)) (l : List (Int × Int)) : List (Int × Int) := l.filter (okR hs)
def cntL (hs : List (List UInt8)) (l : List (Int × Int)) (k : Nat) : Nat := (goodL hs (l.take k)).length
theorem cntL_zero (hs : List (List UInt8)) (l : List (Int × Int)) : cntL hs l 0 = 0 := rfl
theorem cntL_all (hs : List (List UInt8)) (l : List (Int × Int)) : cntL hs l l.length = (goodL hs l).length := by unfold cntL; rw [List.take_length]
theorem take_snoc (l : List (Int × Int)) (k : Nat) (h : k < l.length) : l.take (k + 1) = l.take k ++ [l.getD k (0, 0)] := by
  rw [List.take_succ_eq_append_getElem h, List.getD_eq_getElem?_getD, List.getElem?_eq_getElem h]; rfl
theorem cntL_ok (hs : List (List UInt8)) (l : List (Int × Int)) (k : Nat) (h : k < l.length) (ho : (stretchR hs (l.getD k (0, 0)).1 (l.getD k (0, 0)).2).2 = 0) : cntL hs l (k + 1) = cntL hs l k + 1 := by
  unfold cntL goodL
  rw [take_snoc l k h, List.filter_append, List.length_append, List.filter_cons_of_pos (by unfold okR; exact decide_eq_true ho)]
  rfl
theorem cntL_bad (hs : List (List UInt8)) (l : List (Int × Int)) (k : Nat) (h : k < l.length) (ho : (stretchR hs (l.getD k (0, 0)).1 (l.getD k (0, 0)).2).2 ≠ 0) : cntL hs l (k + 1) = cntL hs l k := by
  unfold cntL goodL
  rw [take_snoc l k h, List.filter_append, List.length_append, List.filter_cons_of_neg (by unfold okR; simpa using ho)]
  rfl
theorem goodL_at (hs : List (List UInt8)) (l : List (Int × Int)) (k : Nat) (h : k < l.length) (ho : (stretchR hs (l.getD k (0, 0)).1 (l.getD k (0, 0)).2).2 = 0) : cntL hs l k < (goodL hs l).length ∧ (goodL hs l).getD (cntL hs l k) (0, 0) = l.getD k (0, 0) := by
  have e : goodL hs l = goodL hs (l.take k) ++ l.getD k (0, 0) :: goodL hs (l.drop (k + 1)) := by
    conv => lhs; rw [← List.take_append_drop k l, List.drop_eq_getElem_cons h]
    have hg : l[k] = l.getD k (0, 0) := by rw [List.getD_eq_getElem?_getD, List.getElem?_eq_getElem h]; rfl
    unfold goodL
    rw [hg, List.filter_append, List.filter_cons_of_pos (by unfold okR; exact decide_eq_true ho)]
  unfold cntL
  rw [e]
  constructor
  · rw [List.length_append, List.length_cons]; omega
  · rw [List.getD_eq_getElem?_getD, List.getElem?_append_right (Nat.le_refl _), Nat.sub_self]; rfl
theorem goodL_mem (hs : List (List UInt8)) (l : List (Int × Int)) (k : Nat) (h : k < (goodL hs l).length) : (stretchR hs ((goodL hs l).getD k (0, 0)).1 ((goodL hs l).getD k (0, 0)).2).2 = 0 := by
  have hm : (goodL hs l).getD k (0, 0) ∈ goodL hs l := by rw [List.getD_eq_getElem?_getD, List.getElem?_eq_getElem h]; exact List.getElem_mem h
  have := (List.mem_filter.1 hm).2
  exact of_decide_eq_true this
theorem goodL_le (hs : List (List UInt8)) (l : List (Int × Int)) : (goodL hs l).length ≤ l.length := List.length_filter_le _ _
theorem goodL_pick (hs : List (List UInt8)) (l : List (Int × Int)) (k : Nat) (h : k < l.length) (ho : (stretchR hs (l.getD k (0, 0)).1 (l.getD k (0, 0)).2).2 = 0) : goodL hs (l.take (k + 1)) = goodL hs (l.take k) ++ [l.getD k (0, 0)] := by
  unfold goodL
  rw [take_snoc l k h, List.filter_append, List.filter_cons_of_pos (by unfold okR; exact decide_eq_true ho)]
  rfl
theorem goodL_skip (hs : List (List UInt8)) (l : List (Int × Int)) (k : Nat) (h : k < l.length) (ho : (stretchR hs (l.getD k (0, 0)).1 (l.getD k (0, 0)).2).2 ≠ 0) : goodL hs (l.take (k + 1)) = goodL hs (l.take k) := by
  unfold goodL
  rw [take_snoc l k h, List.filter_append, List.filter_cons_of_neg (by unfold okR; simpa using ho)]
  simp
/-- a good stretch's root, by the reference's words -/
theorem good_of (hs : List (List UInt8)) (a b : Int) (h : (stretchR hs a b).2 = 0) : 0 ≤ a ∧ a < b ∧ b ≤ hs.length ∧ (stretchR hs a b).1 = stretchL hs a.toNat b.toNat := by
  unfold stretchR at h ⊢
  split at h
  · rename_i hc
    rw [if_pos hc]
    exact ⟨hc.1, hc.2.1, hc.2.2, rfl⟩
  · cases h
end Go.Proofs.Ytmglkblomklcbaa
/- What paths and steps cover. No program in sight. -/
namespace Go.Proofs.Ytmglkblomklcbaa

def spanSum (l : List (Nat × Nat)) : Nat := (l.map fun x => x.2 - x.1).sum
theorem spanSum_append (l m : List (Nat × Nat)) : spanSum (l ++ m) = spanSum l + spanSum m := by simp [spanSum]
theorem spanSum_one (x : Nat × Nat) : spanSum [x] = x.2 - x.1 := by simp [spanSum]
def apartR (x y : Nat × Nat) : Prop := x.2 ≤ y.1 ∨ y.2 ≤ x.1

structure PathOk (i a b : Nat) (l : List (Nat × Nat)) : Prop where
  each : ∀ x ∈ l, a ≤ x.1 ∧ x.1 < x.2 ∧ x.2 ≤ b ∧ (x.2 ≤ i ∨ i < x.1)
  sum : spanSum l + 1 = b - a
  apart : l.Pairwise apartR
theorem pathL_ok (d : Nat) : ∀ i a b : Nat, b - a ≤ d → a ≤ i → i < b → PathOk i a b (pathL i a b) := by
  induction d with
  | zero => intro i a b h h1 h2; omega
  | succ d ih =>
    intro i a b h h1 h2
    by_cases hb : b - a < 2
    · rw [pathL_small i a b hb]
      exact ⟨by simp, by simp [spanSum]; omega, List.Pairwise.nil⟩
    · have hl := splitN_lt (b - a) (by omega)
      have hp := splitN_pos (b - a) (by omega)
      by_cases hi : i < a + splitN (b - a)
      · rw [pathL_left i a b (by omega) hi]
        have hr := ih i a (a + splitN (b - a)) (by omega) h1 hi
        refine ⟨fun x hx => ?_, ?_, ?_⟩
        · rcases List.mem_append.1 hx with hx | hx
          · obtain ⟨g1, g2, g3, g4⟩ := hr.each x hx
            exact ⟨g1, g2, by omega, g4⟩
          · rw [List.mem_singleton.1 hx]
            exact ⟨by show a ≤ a + _; omega, by show a + _ < b; omega, Nat.le_refl _, .inr hi⟩
        · rw [spanSum_append, spanSum_one]
          have := hr.sum
          show spanSum _ + (b - (a + splitN (b - a))) + 1 = b - a
          omega
        · refine List.pairwise_append.2 ⟨hr.apart, List.pairwise_singleton _ _, fun x hx y hy => ?_⟩
          rw [List.mem_singleton.1 hy]
          exact .inl (hr.each x hx).2.2.1
      · rw [pathL_right i a b (by omega) hi]
        have hr := ih i (a + splitN (b - a)) b (by omega) (by omega) h2
        refine ⟨fun x hx => ?_, ?_, ?_⟩
        · rcases List.mem_append.1 hx with hx | hx
          · obtain ⟨g1, g2, g3, g4⟩ := hr.each x hx
            exact ⟨by omega, g2, g3, g4⟩
          · rw [List.mem_singleton.1 hx]
            exact ⟨Nat.le_refl _, by show a < a + _; omega, by show a + _ ≤ b; omega, .inl (by show a + _ ≤ i; omega)⟩
        · rw [spanSum_append, spanSum_one]
          have := hr.sum
          show spanSum _ + (a + splitN (b - a) - a) + 1 = b - a
          omega
        · refine List.pairwise_append.2 ⟨hr.apart, List.pairwise_singleton _ _, fun x hx y hy => ?_⟩
          rw [List.mem_singleton.1 hy]
          exact .inr (hr.each x hx).1
theorem pathL_len (d : Nat) : ∀ i a b : Nat, b - a ≤ 2 ^ d → (pathL i a b).length ≤ d := by
  induction d with
  | zero => intro i a b h; rw [pathL_small i a b (by omega)]; simp
  | succ d ih =>
    intro i a b h
    by_cases hb : b - a < 2
    · rw [pathL_small i a b hb]; simp
    · obtain ⟨j, h1, h2, h3⟩ := splitN_pow (b - a) (by omega)
      have hj : j ≤ d := by
        have : 2 ^ j < 2 ^ (d + 1) := by omega
        have := (Nat.pow_lt_pow_iff_right (a := 2) (by decide)).1 this
        omega
      have hjd : 2 ^ j ≤ 2 ^ d := Nat.pow_le_pow_right (by decide) hj
      have e : 2 ^ (j + 1) = 2 * 2 ^ j := by rw [Nat.pow_succ]; omega
      by_cases hi : i < a + splitN (b - a)
      · rw [pathL_left i a b (by omega) hi, List.length_append]
        have := ih i a (a + splitN (b - a)) (by omega)
        simp; omega
      · rw [pathL_right i a b (by omega) hi, List.length_append]
        have := ih i (a + splitN (b - a)) b (by omega)
        simp; omega

/-- from a stretch up, each time one that is beside it -/
def upP : Nat × Nat → List (Nat × Nat) → Option (Nat × Nat)
  | p, [] => some p
  | p, x :: l => if x.2 = p.1 then upP (x.1, p.2) l else if x.1 = p.2 then upP (p.1, x.2) l else none
theorem upP_snoc (x : Nat × Nat) : ∀ (l : List (Nat × Nat)) (p q : Nat × Nat), upP p l = some q → upP p (l ++ [x]) = upP q [x]
  | [], p, q, h => by cases h; rfl
  | y :: l, p, q, h => by
    simp only [List.cons_append, upP] at h ⊢
    split at h
    · rename_i g; rw [if_pos g]; exact upP_snoc x l _ q h
    · rename_i g
      split at h
      · rename_i g'; rw [if_neg g, if_pos g']; exact upP_snoc x l _ q h
      · cases h
theorem pathL_up (d : Nat) : ∀ i a b : Nat, b - a ≤ d → a ≤ i → i < b → upP (i, i + 1) (pathL i a b) = some (a, b) := by
  induction d with
  | zero => intro i a b h h1 h2; omega
  | succ d ih =>
    intro i a b h h1 h2
    by_cases hb : b - a < 2
    · rw [pathL_small i a b hb]
      have e1 : i = a := by omega
      have e2 : i + 1 = b := by omega
      rw [upP, e2, e1]
    · have hl := splitN_lt (b - a) (by omega)
      have hp := splitN_pos (b - a) (by omega)
      by_cases hi : i < a + splitN (b - a)
      · rw [pathL_left i a b (by omega) hi, upP_snoc _ _ _ _ (ih i a _ (by omega) h1 hi)]
        simp only [upP]
        rw [if_neg (by omega)]
        simp
      · rw [pathL_right i a b (by omega) hi, upP_snoc _ _ _ _ (ih i _ b (by omega) (by omega) h2)]
        simp [upP]

/-- what lies within [0, m), what behind -/
def withinSum (m : Nat) (l : List (Nat × Nat)) : Nat := spanSum (l.filter fun x => decide (x.2 ≤ m))
def behindSum (m : Nat) (l : List (Nat × Nat)) : Nat := spanSum (l.filter fun x => !decide (x.2 ≤ m))
theorem withinSum_append (m : Nat) (l k : List (Nat × Nat)) : withinSum m (l ++ k) = withinSum m l + withinSum m k := by simp [withinSum, spanSum_append]
theorem behindSum_append (m : Nat) (l k : List (Nat × Nat)) : behindSum m (l ++ k) = behindSum m l + behindSum m k := by simp [behindSum, spanSum_append]
theorem withinSum_one (m : Nat) (x : Nat × Nat) : withinSum m [x] = if x.2 ≤ m then x.2 - x.1 else 0 := by
  by_cases h : x.2 ≤ m <;> simp [withinSum, spanSum, h]
theorem behindSum_one (m : Nat) (x : Nat × Nat) : behindSum m [x] = if x.2 ≤ m then 0 else x.2 - x.1 := by
  by_cases h : x.2 ≤ m <;> simp [behindSum, spanSum, h]

structure StepsOk (m a n : Nat) (whole : Bool) (l : List (Nat × Nat)) : Prop where
  each : ∀ x ∈ l, a ≤ x.1 ∧ x.1 < x.2 ∧ x.2 ≤ a + n ∧ (x.2 ≤ a + m ∨ a + m ≤ x.1)
  apart : l.Pairwise apartR
  behind : behindSum (a + m) l = n - m
  within : withinSum (a + m) l = m ∨ (withinSum (a + m) l = 0 ∧ whole = true ∧ (m = n ∨ ∃ j, m = 2 ^ j))
theorem stepsL_ok (d : Nat) : ∀ (m a n : Nat) (whole : Bool), n ≤ d → 1 ≤ m → m ≤ n → StepsOk m a n whole (stepsL m a n whole) := by
  induction d with
  | zero => intro m a n whole h h1 h2; omega
  | succ d ih =>
    intro m a n whole h h1 h2
    by_cases hmn : m = n
    · subst hmn
      rw [stepsL_eq m a whole h1]
      cases whole with
      | true => exact ⟨by simp, by simp, by simp [behindSum, spanSum], .inr ⟨by simp [withinSum, spanSum], rfl, .inl rfl⟩⟩
      | false =>
        refine ⟨?_, by simp, ?_, .inl ?_⟩
        · simp only [Bool.false_eq_true, if_false, List.mem_singleton]
          rintro x rfl
          exact ⟨Nat.le_refl _, by show a < a + m; omega, Nat.le_refl _, .inl (Nat.le_refl _)⟩
        · simp [behindSum_one]
        · simp [withinSum_one]
    · have hl := splitN_lt n (by omega)
      have hp := splitN_pos n (by omega)
      by_cases hk : m ≤ splitN n
      · rw [stepsL_left m a n whole h1 (by omega) hk]
        have hr := ih m a (splitN n) whole (by omega) h1 hk
        have hx2 : ¬ a + n ≤ a + m := by omega
        refine ⟨fun x hx => ?_, ?_, ?_, ?_⟩
        · rcases List.mem_append.1 hx with hx | hx
          · obtain ⟨g1, g2, g3, g4⟩ := hr.each x hx
            exact ⟨g1, g2, by omega, g4⟩
          · rw [List.mem_singleton.1 hx]
            exact ⟨by show a ≤ a + splitN n; omega, by show a + splitN n < a + n; omega, Nat.le_refl _, .inr (by show a + m ≤ a + splitN n; omega)⟩
        · refine List.pairwise_append.2 ⟨hr.apart, List.pairwise_singleton _ _, fun x hx y hy => ?_⟩
          rw [List.mem_singleton.1 hy]
          exact .inl (hr.each x hx).2.2.1
        · rw [behindSum_append, behindSum_one, hr.behind, if_neg hx2]
          show splitN n - m + (a + n - (a + splitN n)) = n - m
          omega
        · rw [withinSum_append, withinSum_one, if_neg hx2]
          rcases hr.within with g | ⟨g1, g2, g3⟩
          · exact .inl (by omega)
          · refine .inr ⟨by omega, g2, .inr ?_⟩
            rcases g3 with g3 | g3
            · obtain ⟨j, hj, _, _⟩ := splitN_pow n (by omega)
              exact ⟨j, by omega⟩
            · exact g3
      · rw [stepsL_right m a n whole h1 (by omega) hk]
        have hr := ih (m - splitN n) (a + splitN n) (n - splitN n) false (by omega) (by omega) (by omega)
        have e : a + splitN n + (m - splitN n) = a + m := by omega
        have hx2 : a + splitN n ≤ a + m := by omega
        have hbe := hr.behind
        have hwi := hr.within
        rw [e] at hbe hwi
        refine ⟨fun x hx => ?_, ?_, ?_, ?_⟩
        · rcases List.mem_append.1 hx with hx | hx
          · obtain ⟨g1, g2, g3, g4⟩ := hr.each x hx
            exact ⟨by omega, g2, by omega, by omega⟩
          · rw [List.mem_singleton.1 hx]
            exact ⟨Nat.le_refl _, by show a < a + splitN n; omega, by show a + splitN n ≤ a + n; omega, .inl hx2⟩
        · refine List.pairwise_append.2 ⟨hr.apart, List.pairwise_singleton _ _, fun x hx y hy => ?_⟩
          rw [List.mem_singleton.1 hy]
          exact .inr (hr.each x hx).1
        · rw [behindSum_append, behindSum_one, if_pos hx2]
          clear hwi hr ih
          omega
        · rw [withinSum_append, withinSum_one, if_pos hx2]
          refine .inl ?_
          rcases hwi with g | ⟨_, g2, _⟩
          · rw [g]; show m - splitN n + (a + splitN n - a) = m; omega
          · cases g2
theorem stepsL_len (d : Nat) : ∀ (m a n : Nat) (whole : Bool), 1 ≤ m → m ≤ n → n ≤ 2 ^ d → (stepsL m a n whole).length ≤ d + 1 := by
  induction d with
  | zero =>
    intro m a n whole h1 h2 h
    obtain rfl : m = n := by omega
    rw [stepsL_eq m a whole h1]
    cases whole <;> simp
  | succ d ih =>
    intro m a n whole h1 h2 h
    by_cases hmn : m = n
    · subst hmn
      rw [stepsL_eq m a whole h1]
      cases whole <;> simp
    · obtain ⟨j, g1, g2, g3⟩ := splitN_pow n (by omega)
      have hj : j ≤ d := by
        have : 2 ^ j < 2 ^ (d + 1) := by omega
        have := (Nat.pow_lt_pow_iff_right (a := 2) (by decide)).1 this
        omega
      have hjd : 2 ^ j ≤ 2 ^ d := Nat.pow_le_pow_right (by decide) hj
      have e : 2 ^ (j + 1) = 2 * 2 ^ j := by rw [Nat.pow_succ]; omega
      by_cases hk : m ≤ splitN n
      · rw [stepsL_left m a n whole h1 (by omega) hk, List.length_append]
        have := ih m a (splitN n) whole h1 hk (by omega)
        simp; omega
      · rw [stepsL_right m a n whole h1 (by omega) hk, List.length_append]
        have := ih (m - splitN n) (a + splitN n) (n - splitN n) false (by omega) (by omega) (by omega)
        simp; omega
end Go.Proofs.Ytmglkblomklcbaa
