/- notaryref08.Of, Leaf, Node; notarylaw08.lent, kept, long, num. -/
import Derived.Test.YtobcfgbkhgkelaaQe210
import Derived.Test.YtobcfgbkhgkelaaQe211
namespace Go.Proofs.Ytobcfgbkhgkelaa
open Go.RowKit

set_option maxHeartbeats 400000 in
set_option maxRecDepth 100000 in
theorem hrof_any (b : List UInt8) (A : Option Addr) (n c : Nat) (w : World) (h : Sl w (fun _ => True) A n c b) (hmax : n ≤ 1099511627776) :
    Calls Try.prog 73 #[.slice A n c] w fun e w' => e = .returned (.agg ((sha256 b).map B).toArray) ∧ Below w.heap.size w w' := by
  obtain ⟨r, hr⟩ : ∃ r, sha256 b = r := ⟨_, rfl⟩
  have hrl : r.length = 32 := by rw [← hr]; exact length_sha256 _
  have hs := fun o => rsum_any b A n c (w.alloc o) (h.alloc o) hmax
  rw [hr] at hs ⊢
  have Hs := Lib.hid hs
  have Hrl := Lib.hid hrl
  clear hs hrl hr h
  go_enter Try.func73, Try.ntmps73
  go_wp2_with (first
    | (go_at_call 91; refine (Hs.out _).mono ?_; rintro e w1 ⟨rfl, hb1⟩; have k1 := (Blk.new w _ _).below hb1 (by simp); have B1 := ((Below.refl w.heap.size w).alloc (Nat.le_refl _) _).trans (hb1.mono (by simp)))
    | ((with_reducible show wpList _ _ _ (⟨none, .store _ _ _, _, _, _, _⟩ :: _) _ _); refine wpList_store_blk rfl 26 (.tmp 2) (.tmp 4) rfl 32 size26 w.heap.size (r.map B).toArray rfl rfl (by simp [Hrl.out]) (oneCell_B _) 26 _ k1 (by rfl) ?_; simp only [Act.put]))
  refine bodyPost_ret (results_cell_row rfl _ _ w.heap.size 26 (r.map B).toArray (0, 0) _ rfl (k1.setRow_ _) Try.underlying26 rfl (by rw [show (r.map B).toArray.size = 32 by simp [Hrl.out]]; exact info26)) rfl ⟨rfl, ?_⟩
  exact below_setRow B1 (Nat.le_refl _) _

set_option maxHeartbeats 400000 in
set_option maxRecDepth 100000 in
theorem hrleaf_any (l : List UInt8) (A : Option Addr) (n c : Nat) (w : World) (h : Sl w (fun _ => True) A n c l) (hmax : n < 1099511627776) :
    Calls Try.prog 52 #[.slice A n c] w fun e w' => e = .returned (.agg ((hLeaf l).map B).toArray) ∧ Below w.heap.size w w' := by
  obtain ⟨r, hr⟩ : ∃ r, hLeaf l = r := ⟨_, rfl⟩
  have hrl : r.length = 32 := by rw [← hr]; exact length_hLeaf l
  rw [hr]
  have hll := h.len
  have Hrl := Lib.hid hrl
  have Hr := Lib.hid hr
  have Hll := Lib.hid hll
  clear hrl hr hll
  go_enter Try.func52, Try.ntmps52
  go_upto_region 1 with fail
  refine wp_world (fun W => Blk W w.heap.size 26 ((List.replicate 32 0).map B).toArray ∧ Below w.heap.size w W ∧ Sl W (fun _ => True) A n c l ∧ w.heap.size < W.heap.size) ⟨?_, ?_, ?_, ?_⟩ ?_
  · exact Blk.new _ _ _
  · exact (Below.refl _ _).alloc (Nat.le_refl _) _
  · exact h.alloc _
  · simp
  clear h
  rintro W1 ⟨k1, B1, s1, hW1⟩
  have ho1 : (W1.alloc (.cells #[.int .u8 0] 5)).ownsRow W1.heap.size 5 1 (.slice (some ⟨W1.heap.size, 0, none⟩) 1 1) ([0] : List UInt8).length (([0] : List UInt8).map B) := World.ownsRow_lit W1 #[.int .u8 0] 1 (Nat.le_refl _) (by decide) rfl
  obtain ⟨v2, w2, hr2, ho2, hg2⟩ := append_sl ho1 (s1.alloc _) (by simp; omega) (by simp)
  have b2 : Below W1.heap.size W1 w2 := below_append ((Below.refl _ _).alloc (Nat.le_refl _) _) ho1 hg2 (Nat.le_refl _) (by simp)
  obtain ⟨A2, c2, rfl, hs2⟩ := owns_sl ho2
  have k2 := k1.below b2 k1.lt
  have B2 := B1.trans (b2.mono B1.size)
  have hof := hrof_any ([0] ++ l) A2 _ c2 w2 hs2.all (by simp [Hll.out]; omega)
  rw [show sha256 ([0] ++ l) = r from Hr.out] at hof
  have Hr2 := Lib.hid hr2
  have Hof := Lib.hid hof
  clear hr2 ho1 ho2 hg2 hs2 hof s1 hW1
  go_wp2_with (first
    | ((with_reducible show wpList _ _ _ (⟨some 5, .call _, _, _, _, _⟩ :: _) _ _); refine wpList_run rfl _ w2 (run_append_op (.tmp 3) (.tmp 4) 22 rfl _ _ rfl rfl Hr2.out) ?_; simp only [Act.put])
    | (go_at_call 73; refine Hof.out.mono ?_; rintro e w3 ⟨rfl, hb3⟩; have k3 := k2.below hb3 k2.lt; have B3 := B2.trans (hb3.mono B2.size))
    | ((with_reducible show wpList _ _ _ (⟨none, .store _ _ _, _, _, _, _⟩ :: _) _ _); refine wpList_store_blk rfl 26 (.tmp 2) (.tmp 6) rfl 32 size26 w.heap.size (r.map B).toArray rfl rfl (by simp [Hrl.out]) (oneCell_B _) 26 _ k3 (by rfl) ?_; simp only [Act.put]))
  refine bodyPost_ret (results_cell_row rfl _ _ w.heap.size 26 (r.map B).toArray (0, 0) _ rfl (k3.setRow_ _) Try.underlying26 rfl (by rw [show (r.map B).toArray.size = 32 by simp [Hrl.out]]; exact info26)) rfl ⟨rfl, ?_⟩
  exact below_setRow B3 (Nat.le_refl _) _

/-- in the loops of Node -/
structure RnC (w : World) (lv rv zs : Array Value) (v : Value) (xs : List UInt8) (W : World) : Prop where
  l : Blk W w.heap.size 26 lv
  r : Blk W (w.heap.size + 1) 26 rv
  z : Blk W (w.heap.size + 2) 26 zs
  own : W.ownsRow (w.heap.size + 3) 5 1 v xs.length (xs.map B)
  bel : Below w.heap.size w W
  big : w.heap.size + 2 < W.heap.size
theorem RnC.app {w W : World} {lv rv zs : Array Value} {v : Value} {xs : List UInt8} (h : RnC w lv rv zs v xs W) (x : UInt8) (hl : xs.length ≤ 100) : ∃ v' W', (Builtin.append_ #[22, 22] 22 #[v, .slice (some ⟨W.heap.size, 0, none⟩) 1 1]).run Try.prog (W.alloc (.cells #[B x] 5)) = .ok v' W' ∧ RnC w lv rv zs v' (xs ++ [x]) W' := by
  have hb := h.big
  obtain ⟨v', W', hr, ho, hg⟩ := append_sl (h.own.alloc (.cells ([x].map B).toArray 5)) (sl_lit W [x] 1 rfl (by decide)) (by omega) (by simp; omega)
  have hlt : ∀ k, v.ownBlock = some k → w.heap.size + 3 ≤ k := fun k hk => (h.own.lt k hk).1
  refine ⟨v', W', hr, (h.l.alloc _).grown hg fun e => ?_, (h.r.alloc _).grown hg fun e => ?_, (h.z.alloc _).grown hg fun e => ?_, ho, (h.bel.alloc h.bel.size _).grown hg (by simp; omega) fun k hk => ?_, by have := hg.size; simp at this; omega⟩
  · have := hlt _ e.symm; omega
  · have := hlt _ e.symm; omega
  · have := hlt _ e.symm; omega
  · have := hlt k hk; omega

set_option maxHeartbeats 1000000 in
set_option maxRecDepth 100000 in
theorem hrnode_any (l r : List UInt8) (w : World) (hl : l.length = 32) (hr : r.length = 32) :
    Calls Try.prog 56 #[.agg (l.map B).toArray, .agg (r.map B).toArray] w fun e w' => e = .returned (.agg ((hNode l r).map B).toArray) ∧ Below w.heap.size w w' := by
  obtain ⟨x, hx⟩ : ∃ x, hNode l r = x := ⟨_, rfl⟩
  have hxl : x.length = 32 := by rw [← hx]; exact length_hNode l r
  obtain ⟨zs, hzs⟩ : ∃ zs, zeroHash = zs := ⟨_, rfl⟩
  obtain ⟨lv, hlv⟩ : ∃ lv, (l.map B).toArray = lv := ⟨_, rfl⟩
  obtain ⟨rv, hrv⟩ : ∃ rv, (r.map B).toArray = rv := ⟨_, rfl⟩
  have hzl : zs.size = 32 := by rw [← hzs]; rfl
  rw [hx, hlv, hrv]
  have Hx := Lib.hid hx
  have Hxl := Lib.hid hxl
  have Hzs := Lib.hid hzs
  have Hlv := Lib.hid hlv
  have Hrv := Lib.hid hrv
  have Hl := Lib.hid hl
  have Hr := Lib.hid hr
  clear hx hxl hzs hlv hrv hl hr
  go_enter Try.func56, Try.ntmps56
  go_upto_region 1 with fail
  refine wp_world (fun W => Blk W w.heap.size 26 lv ∧ Blk W (w.heap.size + 1) 26 rv ∧ Blk W (w.heap.size + 2) 26 zs ∧ Below w.heap.size w W ∧ W.heap.size = w.heap.size + 3) ⟨?_, ?_, ?_, ?_, ?_⟩ ?_
  · exact ((Blk.new _ _ _).alloc _).alloc _
  · exact (Blk.new' _ _ _ _ (by simp)).alloc _
  · rw [← Hzs.out]; exact Blk.new' _ _ _ _ (by simp)
  · exact (((Below.refl _ _).alloc (Nat.le_refl _) _).alloc (by simp) _).alloc (by simp; omega) _
  · simp
  rintro W1 ⟨kl, kr, kz, B1, hW1⟩
  have HW := Lib.hid hW1
  clear hW1
  go_wp2_with fail
  go_loopw [5, 6] (fun s5 i wr => ∃ (v : Value) (k : Nat), v = s5 ∧ k ≤ 32 ∧ i = .int .i64 k ∧ RnC w lv rv zs v (1 :: l.take k) wr) (fun _ i => fun _ => 32 - (intOf i).toNat)
  case atStart =>
    refine ⟨_, 0, rfl, by omega, rfl, kl.alloc _, kr.alloc _, kz.alloc _, ?_, B1.alloc B1.size _, by have := HW.out; simp; omega⟩
    exact World.ownsRow_lit W1 #[.int .u8 1] 1 (by have := HW.out; omega) (by decide) rfl
  case round =>
    obtain ⟨v, k, rfl, hk, rfl, hC⟩ := hrel
    by_cases hlt : k < 32
    · obtain ⟨y, hy⟩ : ∃ y, l.getD k 0 = y := ⟨_, rfl⟩
      have cy : wr.cell? ⟨w.heap.size, k, none⟩ = some (B y) := by rw [hC.l.cell, ← Hlv.out, ← hy]; exact cellB l k (by rw [Hl.out]; exact hlt)
      obtain ⟨v2, w2, hr2, hC2⟩ := hC.app y (by rw [List.length_cons, List.length_take]; omega)
      have hsn : 1 :: l.take k ++ [y] = 1 :: l.take (k + 1) := by
        rw [List.take_succ_eq_append_getElem (by rw [Hl.out]; exact hlt), ← hy, List.getD_eq_getElem?_getD, List.getElem?_eq_getElem (by rw [Hl.out]; exact hlt)]; rfl
      rw [hsn] at hC2
      have Hr2 := Lib.hid hr2
      clear hr2 hsn hy hC
      go_wp2_with ((with_reducible show wpList _ _ _ (⟨some 18, .call _, _, _, _, _⟩ :: _) _ _); refine wpList_run rfl _ w2 (run_append_op (.tmp 13) (.tmp 17) 22 rfl _ _ rfl rfl Hr2.out) ?_; simp only [Act.put])
      go_roundw
      case rel => exact ⟨_, k + 1, rfl, by omega, by go_num, hC2⟩
      case measure => simp [intOf]; omega
    · obtain rfl : k = 32 := by omega
      rw [List.take_of_length_le (by rw [Hl.out]; omega)] at hC
      clear kl kr kz B1
      go_wp2_with fail
      go_loopw [5, 7] (fun s5 i wr => ∃ (v : Value) (k : Nat), v = s5 ∧ k ≤ 32 ∧ i = .int .i64 k ∧ RnC w lv rv zs v (1 :: (l ++ r.take k)) wr) (fun _ i => fun _ => 32 - (intOf i).toNat)
      case atStart => exact ⟨_, 0, rfl, by omega, rfl, by rw [List.take_zero, List.append_nil]; exact hC⟩
      case round =>
        clear hC
        obtain ⟨v, k, rfl, hk, rfl, hC⟩ := hrel
        by_cases hlt : k < 32
        · obtain ⟨y, hy⟩ : ∃ y, r.getD k 0 = y := ⟨_, rfl⟩
          have cy : wr.cell? ⟨w.heap.size + 1, k, none⟩ = some (B y) := by rw [hC.r.cell, ← Hrv.out, ← hy]; exact cellB r k (by rw [Hr.out]; exact hlt)
          obtain ⟨v2, w2, hr2, hC2⟩ := hC.app y (by rw [List.length_cons, List.length_append, List.length_take, Hl.out]; omega)
          have hsn : 1 :: (l ++ r.take k) ++ [y] = 1 :: (l ++ r.take (k + 1)) := by
            rw [List.take_succ_eq_append_getElem (by rw [Hr.out]; exact hlt), ← hy, List.getD_eq_getElem?_getD, List.getElem?_eq_getElem (by rw [Hr.out]; exact hlt)]; simp
          rw [hsn] at hC2
          have Hr2 := Lib.hid hr2
          clear hr2 hsn hy hC
          go_wp2_with ((with_reducible show wpList _ _ _ (⟨some 28, .call _, _, _, _, _⟩ :: _) _ _); refine wpList_run rfl _ w2 (run_append_op (.tmp 23) (.tmp 27) 22 rfl _ _ rfl rfl Hr2.out) ?_; simp only [Act.put])
          go_roundw
          case rel => ((repeat apply Exists.intro); exact ⟨⟨_, k + 1, rfl, by omega, by go_num, hC2⟩, rfl⟩)
          case measure => simp [intOf]; omega
        · obtain rfl : k = 32 := by omega
          rw [List.take_of_length_le (by rw [Hr.out]; omega)] at hC
          obtain ⟨A2, c2, rfl, hs2⟩ := owns_sl hC.own
          have hlen : (1 :: (l ++ r)).length = 65 := by rw [List.length_cons, List.length_append, Hl.out, Hr.out]
          rw [hlen] at hs2 ⊢
          have hof := hrof_any (1 :: (l ++ r)) A2 65 c2 wr hs2.all (by decide)
          rw [show sha256 (1 :: (l ++ r)) = x from Hx.out] at hof
          have kz2 := hC.z
          have B2 := hC.bel
          have Hof := Lib.hid hof
          clear hof hs2 hC hlen
          go_wp2_with (first
            | (go_at_call 73; refine Hof.out.mono ?_; rintro e w3 ⟨rfl, hb3⟩; have k3 := kz2.below hb3 kz2.lt; have B3 := B2.trans (hb3.mono B2.size))
            | ((with_reducible show wpList _ _ _ (⟨none, .store _ _ _, _, _, _, _⟩ :: _) _ _); refine wpList_store_blk rfl 26 (.tmp 4) (.tmp 30) rfl 32 size26 (w.heap.size + 2) (x.map B).toArray rfl rfl (by simp [Hxl.out]) (oneCell_B _) 26 _ k3 hzl ?_; simp only [Act.put]))
          refine bodyPost_ret (results_cell_row rfl _ _ (w.heap.size + 2) 26 (x.map B).toArray (0, 0) _ rfl (k3.setRow_ _) Try.underlying26 rfl (by rw [show (x.map B).toArray.size = 32 by simp [Hxl.out]]; exact info26)) rfl ⟨rfl, ?_⟩
          exact below_setRow B3 (by omega) _
end Go.Proofs.Ytobcfgbkhgkelaa
/- tree.Of, notaryref09.Of, notaryref08.Empty. -/
namespace Go.Proofs.Ytobcfgbkhgkelaa
open Go Go.RowKit

theorem sizeHs : ∀ w : World, (sizeOf (Try.prog.elem 33)).run Try.prog w = .ok 32 w := fun _ => by kernel_rfl
theorem sliceHs : Try.prog.underlying 33 = some (.slice (Try.prog.elem 33)) := by kernel_rfl
/-- the root of a list of leaves' hashes -/
def rootL (hs : List (List UInt8)) : List UInt8 := rootF hEmpty hNode hs.length hs
theorem rootL_nil : rootL [] = hEmpty := rfl
theorem rootL_one (x : List UInt8) : rootL [x] = x := rfl
theorem rootL_more (hs : List (List UInt8)) (h : 2 ≤ hs.length) : rootL hs = hNode (rootL (hs.take (splitN hs.length))) (rootL (hs.drop (splitN hs.length))) := by
  unfold rootL
  rw [rootF_enough _ _ hs.length (hs.length + 1) hs (Nat.le_refl _) (by omega), rootF, if_neg (by omega), if_neg (by omega)]
  rw [rootF_enough _ _ hs.length (hs.take (splitN hs.length)).length _ (by rw [List.length_take]; omega) (Nat.le_refl _), rootF_enough _ _ hs.length (hs.drop (splitN hs.length)).length _ (by rw [List.length_drop]; omega) (Nat.le_refl _)]
theorem length_rootL (hs : List (List UInt8)) (h : H32 hs) : (rootL hs).length = 32 := by
  by_cases h2 : 2 ≤ hs.length
  · rw [rootL_more hs h2]; exact length_hNode _ _
  · match hs, h, h2 with
    | [], _, _ => exact length_hEmpty
    | [x], h, _ => exact h x (by simp)
    | _ :: _ :: _, _, h2 => exact absurd (by simp) h2
theorem run_slice_op_hi {ρ : Operand → Value} {o : Oper} (x y : Operand) (ho : o.op = .slice 33 x none (some y) none) (A : Option Addr) (n c k : Nat) (hx : ρ x = .slice A n c) (hy : ρ y = .int .i64 (k : Int)) (hk : k ≤ c) (W : World) :
    (execOp ρ o).run Try.prog W = .ok (.value (.slice A k c)) W := by
  unfold execOp
  simp only [ho, hx, hy, Option.map_some, Option.map_none, run_slice_high sliceHs sizeHs A n c k hk W, Sem.run_bind, Sem.run_pure, Result.andThen_ok]
theorem run_slice_op_lo {ρ : Operand → Value} {o : Oper} (x y : Operand) (ho : o.op = .slice 33 x (some y) none none) (A : Option Addr) (n c k : Nat) (hx : ρ x = .slice A n c) (hy : ρ y = .int .i64 (k : Int)) (hk : k ≤ n) (W : World) :
    (execOp ρ o).run Try.prog W = .ok (.value (.slice (if c = k then A else A.map (·.add (k * 32))) (n - k) (c - k))) W := by
  unfold execOp
  simp only [ho, hx, hy, Option.map_some, Option.map_none, run_slice_low sliceHs sizeHs A n c k hk W, Sem.run_bind, Sem.run_pure, Result.andThen_ok]

set_option maxHeartbeats 400000 in
set_option maxRecDepth 100000 in
theorem rempty_any (w : World) :
    Calls Try.prog 54 #[] w fun e w' => e = .returned (.agg (hEmpty.map B).toArray) ∧ Below w.heap.size w w' := by
  obtain ⟨r, hr⟩ : ∃ r, hEmpty = r := ⟨_, rfl⟩
  have hrl : r.length = 32 := by rw [← hr]; exact length_hEmpty
  obtain ⟨zs, hzs⟩ : ∃ zs, zeroHash = zs := ⟨_, rfl⟩
  have hzl : zs.size = 32 := by rw [← hzs]; rfl
  have hof := fun W => hrof_any [] none 0 0 W Sl.nil (by decide)
  rw [show sha256 [] = r from hr] at hof
  rw [hr]
  have hb := (Below.refl w.heap.size w).alloc (Nat.le_refl _) (.cells zs 26)
  have k0 := Blk.new w 26 zs
  have Hof := Lib.hid hof
  have Hzs := Lib.hid hzs
  have Hrl := Lib.hid hrl
  clear hof hzs hrl hr
  go_enter Try.func54, Try.ntmps54
  go_wp2_with (first
    | ((with_reducible show wpList _ _ _ (⟨some 0, .alloc _, _, _, _, _⟩ :: _) _ _); refine wpList_run rfl (.pointer (some ⟨w.heap.size, 0, none⟩)) (w.alloc (.cells zs 26)) (by rw [← Hzs.out]; rfl) ?_; simp only [Act.put])
    | (go_at_call 73; refine (Hof.out _).mono ?_; rintro e w1 ⟨rfl, hb1⟩; have k1 := k0.below hb1 (by simp); have B1 := hb.trans (hb1.mono (by simp)))
    | ((with_reducible show wpList _ _ _ (⟨none, .store _ _ _, _, _, _, _⟩ :: _) _ _); refine wpList_store_blk rfl 26 (.tmp 0) (.tmp 1) rfl 32 size26 w.heap.size (r.map B).toArray rfl rfl (by simp [Hrl.out]) (oneCell_B _) 26 _ k1 hzl ?_; simp only [Act.put]))
  refine bodyPost_ret (results_cell_row rfl _ _ w.heap.size 26 (r.map B).toArray (0, 0) _ rfl (k1.setRow_ _) Try.underlying26 rfl (by rw [show (r.map B).toArray.size = 32 by simp [Hrl.out]]; exact info26)) rfl ⟨rfl, ?_⟩
  exact below_setRow B1 (Nat.le_refl _) _

set_option maxHeartbeats 2000000 in
set_option maxRecDepth 100000 in
theorem tof_rec (d : Nat) : ∀ (hs : List (List UInt8)) (A : Option Addr) (n c : Nat) (w : World), n ≤ d → Hs w (fun _ => True) A n c hs → n ≤ 4398046511104 →
    Calls Try.prog 111 #[.slice A n c] w fun e w' => e = .returned (.agg ((rootL hs).map B).toArray) ∧ Below w.heap.size w w' := by
  induction d using Nat.strongRecOn with
  | ind d ih =>
  intro hs A n c w hnd h hn
  obtain ⟨zs, hzs⟩ : ∃ zs, zeroHash = zs := ⟨_, rfl⟩
  have hzl : zs.size = 32 := by rw [← hzs]; rfl
  have hlen := h.len
  have hroom := h.sl.room
  have hmax := h.sl.max
  unfold maxLen at hmax
  have hb0 := (Below.refl w.heap.size w).alloc (Nat.le_refl _) (.cells zs 26)
  have k0 := Blk.new w 26 zs
  have h0 := h.step hb0
  obtain ⟨r, hr⟩ : ∃ r, rootL hs = r := ⟨_, rfl⟩
  have hrl : r.length = 32 := by rw [← hr]; exact length_rootL hs h.all
  rw [hr]
  have Hzs := Lib.hid hzs
  have Hrl := Lib.hid hrl
  have Hr := Lib.hid hr
  have Hlen := Lib.hid hlen
  clear hzs hrl hr hlen
  by_cases hn0 : n = 0
  · subst hn0
    have hnil : hs = [] := List.eq_nil_of_length_eq_zero Hlen.out
    subst hnil
    obtain rfl : r = hEmpty := Hr.out.symm
    clear ih h h0
    go_enter Try.func111, Try.ntmps111
    go_wp2_with (first
      | ((with_reducible show wpList _ _ _ (⟨some 2, .alloc _, _, _, _, _⟩ :: _) _ _); refine wpList_run rfl (.pointer (some ⟨w.heap.size, 0, none⟩)) (w.alloc (.cells zs 26)) (by rw [← Hzs.out]; rfl) ?_; simp only [Act.put])
      | (go_at_call 57; refine (hempty_any _).mono ?_; rintro e w1 ⟨rfl, hb1⟩; have k1 := k0.below hb1 (by simp); have B1 := hb0.trans (hb1.mono (by simp)))
      | ((with_reducible show wpList _ _ _ (⟨none, .store _ _ _, _, _, _, _⟩ :: _) _ _); refine wpList_store_blk rfl 26 (.tmp 2) (.tmp 21) rfl 32 size26 w.heap.size (hEmpty.map B).toArray rfl rfl (by simp [Hrl.out]) (oneCell_B _) 26 _ k1 hzl ?_; simp only [Act.put]))
    refine bodyPost_ret (results_cell_row rfl _ _ w.heap.size 26 (hEmpty.map B).toArray (0, 0) _ rfl (k1.setRow_ _) Try.underlying26 rfl (by rw [show (hEmpty.map B).toArray.size = 32 by simp [Hrl.out]]; exact info26)) rfl ⟨rfl, ?_⟩
    exact below_setRow B1 (Nat.le_refl _) _
  by_cases hn1 : n = 1
  · subst hn1
    obtain ⟨x, rfl⟩ := List.length_eq_one_iff.1 Hlen.out
    obtain rfl : r = x := Hr.out.symm
    obtain ⟨b, o, rfl, -, -, hat⟩ := h0.at_ (by omega)
    have hld : (Instr.loadAt 26 (.pointer (some ⟨b, o, none⟩))).run Try.prog (w.alloc (.cells zs 26)) = .ok (.agg (r.map B).toArray) (w.alloc (.cells zs 26)) := hat 0 (by omega)
    have Hld := Lib.hid hld
    clear ih h h0 hat hld
    go_enter Try.func111, Try.ntmps111
    go_wp2_with (first
      | ((with_reducible show wpList _ _ _ (⟨some 2, .alloc _, _, _, _, _⟩ :: _) _ _); refine wpList_run rfl (.pointer (some ⟨w.heap.size, 0, none⟩)) (w.alloc (.cells zs 26)) (by rw [← Hzs.out]; rfl) ?_; simp only [Act.put])
      | ((with_reducible show wpList _ _ _ (⟨some 26, .load _ _, _, _, _, _⟩ :: _) _ _); refine wpList_load rfl 26 (.tmp 25) rfl b o rfl (r.map B).toArray Hld.out ?_; simp only [Act.put])
      | ((with_reducible show wpList _ _ _ (⟨none, .store _ _ _, _, _, _, _⟩ :: _) _ _); refine wpList_store_blk rfl 26 (.tmp 2) (.tmp 26) rfl 32 size26 w.heap.size (r.map B).toArray rfl rfl (by simp [Hrl.out]) (oneCell_B _) 26 _ k0 hzl ?_; simp only [Act.put]))
    refine bodyPost_ret (results_cell_row rfl _ _ w.heap.size 26 (r.map B).toArray (0, 0) _ rfl (k0.setRow_ _) Try.underlying26 rfl (by rw [show (r.map B).toArray.size = 32 by simp [Hrl.out]]; exact info26)) rfl ⟨rfl, ?_⟩
    exact below_setRow hb0 (Nat.le_refl _) _
  have hne0 : ((n : Int) == 0) = false := by simp; omega
  have hne1 : ((n : Int) == 1) = false := by simp; omega
  have hmore := rootL_more hs (by rw [Hlen.out]; omega)
  rw [Hlen.out, Hr.out] at hmore
  have hspl := fun w => tsplit_any (n : Int) w (by omega)
  rw [Int.toNat_natCast] at hspl
  have hsl := splitN_lt n (by omega)
  have hsp := splitN_pos n (by omega)
  obtain ⟨s, hs'⟩ : ∃ s, splitN n = s := ⟨_, rfl⟩
  rw [hs'] at hmore hspl hsl hsp
  have hL := fun W (hW : Below (w.alloc (.cells zs 26)).heap.size (w.alloc (.cells zs 26)) W) => ih s (by omega) (hs.take s) A s c W (Nat.le_refl _) ((h0.step hW).take s (by omega)) (by omega)
  have hR := fun W (hW : Below (w.alloc (.cells zs 26)).heap.size (w.alloc (.cells zs 26)) W) => ih (n - s) (by omega) (hs.drop s) _ (n - s) (c - s) W (Nat.le_refl _) ((h0.step hW).drop s (by omega)) (by omega)
  obtain ⟨x, hx⟩ : ∃ x, rootL (hs.take s) = x := ⟨_, rfl⟩
  obtain ⟨y, hy⟩ : ∃ y, rootL (hs.drop s) = y := ⟨_, rfl⟩
  have hxl : x.length = 32 := by rw [← hx]; exact length_rootL _ (h.all.take s)
  have hyl : y.length = 32 := by rw [← hy]; exact length_rootL _ (h.all.drop s)
  rw [hx] at hL hmore
  rw [hy] at hR hmore
  have hN := fun W => hnode_any x y W hxl hyl
  rw [← hmore] at hN
  have Hspl := Lib.hid hspl
  have HL := Lib.hid hL
  have HR := Lib.hid hR
  have HN := Lib.hid hN
  clear hspl hL hR hN hx hy hxl hyl hmore hs' ih h
  go_enter Try.func111, Try.ntmps111
  go_wp2_with (first
    | ((with_reducible show wpList _ _ _ (⟨some 2, .alloc _, _, _, _, _⟩ :: _) _ _); refine wpList_run rfl (.pointer (some ⟨w.heap.size, 0, none⟩)) (w.alloc (.cells zs 26)) (by rw [← Hzs.out]; rfl) ?_; simp only [Act.put])
    | (go_at_call 80; refine (Hspl.out _).mono ?_; rintro e w1 ⟨rfl, rfl⟩))
  generalize w.alloc (.cells zs 26) = w1 at hb0 k0 h0 HL HR ⊢
  have hS : Below w1.heap.size w1 w1.drew := (Below.refl _ _).drew
  refine wp_region_mix_last (fun W => Below w1.heap.size w1 W) 9 [(0, true), (1, true), (2, true), (4, true), (5, true), (6, true), (3, false), (7, false), (8, false)] (by kernel_rfl) (by kernel_rfl) hS fun _ => ?_
  simp only [List.map_cons, List.map_nil, Array.getD_eq_getD_getElem?, List.getElem?_toArray, List.getElem?_cons_succ, List.getElem?_cons_zero, Option.getD_some]
  generalize w1.drew = W0 at hS ⊢
  refine wpMix_s (fun K hK => ?_)
  go_simp
  refine hK _ ?_
  clear hK K
  refine wpMix_s (fun K hK => ?_)
  go_simp
  refine hK _ ?_
  clear hK K
  refine wpMix_v (by kernel_rfl) (.slice A s c) (fun u => run_slice_op_hi (.tmp 10) (.tmp 11) rfl A n c s rfl rfl (by omega) u.W) ?_
  simp only [Act.put]
  refine wpMix_s (fun K hK => ?_)
  go_simp
  refine hK _ ?_
  clear hK K
  refine wpMix_s (fun K hK => ?_)
  go_simp
  refine hK _ ?_
  clear hK K
  refine wpMix_v (by kernel_rfl) (.slice (if c = s then A else A.map (·.add (s * 32))) (n - s) (c - s)) (fun u => run_slice_op_lo (.tmp 14) (.tmp 15) rfl A n c s rfl rfl (by omega) u.W) ?_
  simp only [Act.put]
  refine wpMix_c (fun K hK => ?_) hS
  go_simp
  refine (HL.out W0 hS).mono ?_
  rintro e W1 ⟨rfl, hb'⟩
  refine hK _ _ ?_
  clear hK K
  replace hS := hS.trans (hb'.mono hS.size)
  refine ⟨hS, ?_⟩
  clear hb'
  refine wpMix_c (fun K hK => ?_) hS
  go_simp
  refine (HR.out W1 hS).mono ?_
  rintro e W2 ⟨rfl, hb'⟩
  refine hK _ _ ?_
  clear hK K
  replace hS := hS.trans (hb'.mono hS.size)
  refine ⟨hS, ?_⟩
  clear hb'
  refine wpMix_c (fun K hK => ?_) hS
  go_simp
  refine (HN.out W2).mono ?_
  rintro e W3 ⟨rfl, hb'⟩
  refine hK _ _ ?_
  clear hK K
  replace hS := hS.trans (hb'.mono hS.size)
  refine ⟨hS, ?_⟩
  clear hb'
  refine wpMix_nil ?_
  intro _
  simp only [List.drop_succ_cons, List.drop_zero]
  have k3 := k0.below hS k0.lt
  go_wp2_with ((with_reducible show wpList _ _ _ (⟨none, .store _ _ _, _, _, _, _⟩ :: _) _ _); refine wpList_store_blk rfl 26 (.tmp 2) (.tmp 18) rfl 32 size26 w.heap.size (r.map B).toArray rfl rfl (by simp [Hrl.out]) (oneCell_B _) 26 _ k3 hzl ?_; simp only [Act.put])
  refine np_normal ?_
  go_wp2_with fail
  refine bodyPost_ret (results_cell_row rfl _ _ w.heap.size 26 (r.map B).toArray (0, 0) _ rfl (k3.setRow_ _) Try.underlying26 rfl (by rw [show (r.map B).toArray.size = 32 by simp [Hrl.out]]; exact info26)) rfl ⟨rfl, ?_⟩
  exact below_setRow (hb0.trans (hS.mono hb0.size)) (Nat.le_refl _) _
set_option maxHeartbeats 2000000 in
set_option maxRecDepth 100000 in
theorem rof_rec (d : Nat) : ∀ (hs : List (List UInt8)) (A : Option Addr) (n c : Nat) (w : World), n ≤ d → Hs w (fun _ => True) A n c hs → n ≤ 4398046511104 →
    Calls Try.prog 26 #[.slice A n c] w fun e w' => e = .returned (.agg ((rootL hs).map B).toArray) ∧ Below w.heap.size w w' := by
  induction d using Nat.strongRecOn with
  | ind d ih =>
  intro hs A n c w hnd h hn
  obtain ⟨zs, hzs⟩ : ∃ zs, zeroHash = zs := ⟨_, rfl⟩
  have hzl : zs.size = 32 := by rw [← hzs]; rfl
  have hlen := h.len
  have hroom := h.sl.room
  have hmax := h.sl.max
  unfold maxLen at hmax
  have hb0 := (Below.refl w.heap.size w).alloc (Nat.le_refl _) (.cells zs 26)
  have k0 := Blk.new w 26 zs
  have h0 := h.step hb0
  obtain ⟨r, hr⟩ : ∃ r, rootL hs = r := ⟨_, rfl⟩
  have hrl : r.length = 32 := by rw [← hr]; exact length_rootL hs h.all
  rw [hr]
  have Hzs := Lib.hid hzs
  have Hrl := Lib.hid hrl
  have Hr := Lib.hid hr
  have Hlen := Lib.hid hlen
  clear hzs hrl hr hlen
  by_cases hn0 : n = 0
  · subst hn0
    have hnil : hs = [] := List.eq_nil_of_length_eq_zero Hlen.out
    subst hnil
    obtain rfl : r = hEmpty := Hr.out.symm
    clear ih h h0
    go_enter Try.func26, Try.ntmps26
    go_wp2_with (first
      | ((with_reducible show wpList _ _ _ (⟨some 2, .alloc _, _, _, _, _⟩ :: _) _ _); refine wpList_run rfl (.pointer (some ⟨w.heap.size, 0, none⟩)) (w.alloc (.cells zs 26)) (by rw [← Hzs.out]; rfl) ?_; simp only [Act.put])
      | (go_at_call 54; refine (rempty_any _).mono ?_; rintro e w1 ⟨rfl, hb1⟩; have k1 := k0.below hb1 (by simp); have B1 := hb0.trans (hb1.mono (by simp)))
      | ((with_reducible show wpList _ _ _ (⟨none, .store _ _ _, _, _, _, _⟩ :: _) _ _); refine wpList_store_blk rfl 26 (.tmp 2) (.tmp 7) rfl 32 size26 w.heap.size (hEmpty.map B).toArray rfl rfl (by simp [Hrl.out]) (oneCell_B _) 26 _ k1 hzl ?_; simp only [Act.put]))
    refine bodyPost_ret (results_cell_row rfl _ _ w.heap.size 26 (hEmpty.map B).toArray (0, 0) _ rfl (k1.setRow_ _) Try.underlying26 rfl (by rw [show (hEmpty.map B).toArray.size = 32 by simp [Hrl.out]]; exact info26)) rfl ⟨rfl, ?_⟩
    exact below_setRow B1 (Nat.le_refl _) _
  by_cases hn1 : n = 1
  · subst hn1
    obtain ⟨x, rfl⟩ := List.length_eq_one_iff.1 Hlen.out
    obtain rfl : r = x := Hr.out.symm
    obtain ⟨b, o, rfl, -, -, hat⟩ := h0.at_ (by omega)
    have hld : (Instr.loadAt 26 (.pointer (some ⟨b, o, none⟩))).run Try.prog (w.alloc (.cells zs 26)) = .ok (.agg (r.map B).toArray) (w.alloc (.cells zs 26)) := hat 0 (by omega)
    have Hld := Lib.hid hld
    clear ih h h0 hat hld
    go_enter Try.func26, Try.ntmps26
    go_wp2_with (first
      | ((with_reducible show wpList _ _ _ (⟨some 2, .alloc _, _, _, _, _⟩ :: _) _ _); refine wpList_run rfl (.pointer (some ⟨w.heap.size, 0, none⟩)) (w.alloc (.cells zs 26)) (by rw [← Hzs.out]; rfl) ?_; simp only [Act.put])
      | ((with_reducible show wpList _ _ _ (⟨some 13, .load _ _, _, _, _, _⟩ :: _) _ _); refine wpList_load rfl 26 (.tmp 12) rfl b o rfl (r.map B).toArray Hld.out ?_; simp only [Act.put])
      | ((with_reducible show wpList _ _ _ (⟨none, .store _ _ _, _, _, _, _⟩ :: _) _ _); refine wpList_store_blk rfl 26 (.tmp 2) (.tmp 13) rfl 32 size26 w.heap.size (r.map B).toArray rfl rfl (by simp [Hrl.out]) (oneCell_B _) 26 _ k0 hzl ?_; simp only [Act.put]))
    refine bodyPost_ret (results_cell_row rfl _ _ w.heap.size 26 (r.map B).toArray (0, 0) _ rfl (k0.setRow_ _) Try.underlying26 rfl (by rw [show (r.map B).toArray.size = 32 by simp [Hrl.out]]; exact info26)) rfl ⟨rfl, ?_⟩
    exact below_setRow hb0 (Nat.le_refl _) _
  have hne0 : ((n : Int) == 0) = false := by simp; omega
  have hne1 : ((n : Int) == 1) = false := by simp; omega
  have hmore := rootL_more hs (by rw [Hlen.out]; omega)
  rw [Hlen.out, Hr.out] at hmore
  have hspl := fun w => rsplit_any (n : Int) w (by omega)
  rw [Int.toNat_natCast] at hspl
  have hsl := splitN_lt n (by omega)
  have hsp := splitN_pos n (by omega)
  obtain ⟨s, hs'⟩ : ∃ s, splitN n = s := ⟨_, rfl⟩
  rw [hs'] at hmore hspl hsl hsp
  have hL := fun W (hW : Below (w.alloc (.cells zs 26)).heap.size (w.alloc (.cells zs 26)) W) => ih s (by omega) (hs.take s) A s c W (Nat.le_refl _) ((h0.step hW).take s (by omega)) (by omega)
  have hR := fun W (hW : Below (w.alloc (.cells zs 26)).heap.size (w.alloc (.cells zs 26)) W) => ih (n - s) (by omega) (hs.drop s) _ (n - s) (c - s) W (Nat.le_refl _) ((h0.step hW).drop s (by omega)) (by omega)
  obtain ⟨x, hx⟩ : ∃ x, rootL (hs.take s) = x := ⟨_, rfl⟩
  obtain ⟨y, hy⟩ : ∃ y, rootL (hs.drop s) = y := ⟨_, rfl⟩
  have hxl : x.length = 32 := by rw [← hx]; exact length_rootL _ (h.all.take s)
  have hyl : y.length = 32 := by rw [← hy]; exact length_rootL _ (h.all.drop s)
  rw [hx] at hL hmore
  rw [hy] at hR hmore
  have hN := fun W => hrnode_any x y W hxl hyl
  rw [← hmore] at hN
  have Hspl := Lib.hid hspl
  have HL := Lib.hid hL
  have HR := Lib.hid hR
  have HN := Lib.hid hN
  clear hspl hL hR hN hx hy hxl hyl hmore hs' ih h
  go_enter Try.func26, Try.ntmps26
  go_wp2_with (first
    | ((with_reducible show wpList _ _ _ (⟨some 2, .alloc _, _, _, _, _⟩ :: _) _ _); refine wpList_run rfl (.pointer (some ⟨w.heap.size, 0, none⟩)) (w.alloc (.cells zs 26)) (by rw [← Hzs.out]; rfl) ?_; simp only [Act.put])
    | (go_at_call 55; refine (Hspl.out _).mono ?_; rintro e w1 ⟨rfl, rfl⟩))
  generalize w.alloc (.cells zs 26) = w1 at hb0 k0 h0 HL HR ⊢
  have hS : Below w1.heap.size w1 w1.drew := (Below.refl _ _).drew
  refine wp_region_mix_last (fun W => Below w1.heap.size w1 W) 9 [(0, true), (1, true), (2, true), (4, true), (5, true), (6, true), (3, false), (7, false), (8, false)] (by kernel_rfl) (by kernel_rfl) hS fun _ => ?_
  simp only [List.map_cons, List.map_nil, Array.getD_eq_getD_getElem?, List.getElem?_toArray, List.getElem?_cons_succ, List.getElem?_cons_zero, Option.getD_some]
  generalize w1.drew = W0 at hS ⊢
  refine wpMix_s (fun K hK => ?_)
  go_simp
  refine hK _ ?_
  clear hK K
  refine wpMix_s (fun K hK => ?_)
  go_simp
  refine hK _ ?_
  clear hK K
  refine wpMix_v (by kernel_rfl) (.slice A s c) (fun u => run_slice_op_hi (.tmp 17) (.tmp 18) rfl A n c s rfl rfl (by omega) u.W) ?_
  simp only [Act.put]
  refine wpMix_s (fun K hK => ?_)
  go_simp
  refine hK _ ?_
  clear hK K
  refine wpMix_s (fun K hK => ?_)
  go_simp
  refine hK _ ?_
  clear hK K
  refine wpMix_v (by kernel_rfl) (.slice (if c = s then A else A.map (·.add (s * 32))) (n - s) (c - s)) (fun u => run_slice_op_lo (.tmp 21) (.tmp 22) rfl A n c s rfl rfl (by omega) u.W) ?_
  simp only [Act.put]
  refine wpMix_c (fun K hK => ?_) hS
  go_simp
  refine (HL.out W0 hS).mono ?_
  rintro e W1 ⟨rfl, hb'⟩
  refine hK _ _ ?_
  clear hK K
  replace hS := hS.trans (hb'.mono hS.size)
  refine ⟨hS, ?_⟩
  clear hb'
  refine wpMix_c (fun K hK => ?_) hS
  go_simp
  refine (HR.out W1 hS).mono ?_
  rintro e W2 ⟨rfl, hb'⟩
  refine hK _ _ ?_
  clear hK K
  replace hS := hS.trans (hb'.mono hS.size)
  refine ⟨hS, ?_⟩
  clear hb'
  refine wpMix_c (fun K hK => ?_) hS
  go_simp
  refine (HN.out W2).mono ?_
  rintro e W3 ⟨rfl, hb'⟩
  refine hK _ _ ?_
  clear hK K
  replace hS := hS.trans (hb'.mono hS.size)
  refine ⟨hS, ?_⟩
  clear hb'
  refine wpMix_nil ?_
  intro _
  simp only [List.drop_succ_cons, List.drop_zero]
  have k3 := k0.below hS k0.lt
  go_wp2_with ((with_reducible show wpList _ _ _ (⟨none, .store _ _ _, _, _, _, _⟩ :: _) _ _); refine wpList_store_blk rfl 26 (.tmp 2) (.tmp 25) rfl 32 size26 w.heap.size (r.map B).toArray rfl rfl (by simp [Hrl.out]) (oneCell_B _) 26 _ k3 hzl ?_; simp only [Act.put])
  refine np_normal ?_
  go_wp2_with fail
  refine bodyPost_ret (results_cell_row rfl _ _ w.heap.size 26 (r.map B).toArray (0, 0) _ rfl (k3.setRow_ _) Try.underlying26 rfl (by rw [show (r.map B).toArray.size = 32 by simp [Hrl.out]]; exact info26)) rfl ⟨rfl, ?_⟩
  exact below_setRow (hb0.trans (hS.mono hb0.size)) (Nat.le_refl _) _
theorem tof_any (hs : List (List UInt8)) (A : Option Addr) (n c : Nat) (w : World) (h : Hs w (fun _ => True) A n c hs) (hn : n ≤ 4398046511104) :
    Calls Try.prog 111 #[.slice A n c] w fun e w' => e = .returned (.agg ((rootL hs).map B).toArray) ∧ Below w.heap.size w w' := tof_rec n hs A n c w (Nat.le_refl _) h hn
theorem rof_any (hs : List (List UInt8)) (A : Option Addr) (n c : Nat) (w : World) (h : Hs w (fun _ => True) A n c hs) (hn : n ≤ 4398046511104) :
    Calls Try.prog 26 #[.slice A n c] w fun e w' => e = .returned (.agg ((rootL hs).map B).toArray) ∧ Below w.heap.size w w' := rof_rec n hs A n c w (Nat.le_refl _) h hn
end Go.Proofs.Ytobcfgbkhgkelaa
/- The fold of the whole stretches' roots; tree.Stretch. -/
namespace Go.Proofs.Ytobcfgbkhgkelaa
open Go Go.RowKit

/-- the root of the stretch from a to b -/
def stretchL (hs : List (List UInt8)) (a b : Nat) : List UInt8 := rootL ((hs.drop a).take (b - a))
theorem length_stretchL (hs : List (List UInt8)) (a b : Nat) (h : H32 hs) : (stretchL hs a b).length = 32 := length_rootL _ ((h.drop a).take _)
def foldR : List (List UInt8) → List UInt8
  | [] => hEmpty
  | [x] => x
  | x :: y :: t => hNode x (foldR (y :: t))
theorem foldR_cons (x : List UInt8) (l : List (List UInt8)) (h : l ≠ []) : foldR (x :: l) = hNode x (foldR l) := by
  cases l with
  | nil => exact absurd rfl h
  | cons y t => rfl
theorem length_foldR (x : List UInt8) (l : List (List UInt8)) (h : H32 (x :: l)) : (foldR (x :: l)).length = 32 := by
  cases l with
  | nil => exact h x (by simp)
  | cons y t => exact length_hNode _ _
def rootsL (hs : List (List UInt8)) (l : List (Nat × Nat)) : List (List UInt8) := l.map fun s => stretchL hs s.1 s.2
theorem rootsL_all (hs : List (List UInt8)) (h : H32 hs) (l : List (Nat × Nat)) : H32 (rootsL hs l) := fun x hx => by
  obtain ⟨s, _, rfl⟩ := List.mem_map.1 hx
  exact length_stretchL hs _ _ h
theorem wholeL_ne (a n : Nat) (h : n ≠ 0) : wholeL a n ≠ [] := by rw [wholeL_more a n h]; simp
theorem foldR_whole (d : Nat) : ∀ (n a : Nat) (hs : List (List UInt8)), n ≤ d → n ≠ 0 → a + n ≤ hs.length → foldR (rootsL hs (wholeL a n)) = rootL ((hs.drop a).take n) := by
  induction d with
  | zero => intro n a hs h h0; omega
  | succ d ih =>
    intro n a hs h h0 hl
    have hp := Nat.two_pow_pos n.log2
    have h1 := Nat.log2_self_le h0
    have h2 := Nat.lt_log2_self (n := n)
    have hsp := splitN_eq n n.log2
    rw [Nat.pow_succ] at h2 hsp
    rw [wholeL_more a n h0, rootsL, List.map_cons]
    generalize 2 ^ n.log2 = p at *
    by_cases hnp : n = p
    · subst hnp
      rw [Nat.sub_self, wholeL_zero]
      show stretchL hs a (a + n) = _
      rw [stretchL, Nat.add_sub_cancel_left]
    · have hs2 := hsp (by omega) (by omega)
      have hne : (wholeL (a + p) (n - p)).map (fun s => stretchL hs s.1 s.2) ≠ [] := by
        have := wholeL_ne (a + p) (n - p) (by omega)
        simpa using this
      have hi := ih (n - p) (a + p) hs (by omega) (by omega) (by omega)
      rw [rootsL] at hi
      have hlen : ((hs.drop a).take n).length = n := by rw [List.length_take, List.length_drop]; omega
      rw [foldR_cons _ _ hne, hi, rootL_more ((hs.drop a).take n) (by rw [hlen]; omega), hlen, hs2, List.take_take, Nat.min_eq_left (by omega), List.drop_take, List.drop_drop]
      show hNode (stretchL hs a (a + p)) _ = _
      rw [stretchL, Nat.add_sub_cancel_left]
theorem foldR_roots (hs : List (List UInt8)) (h : hs ≠ []) : foldR (rootsL hs (wholeL 0 hs.length)) = rootL hs := by
  have := foldR_whole hs.length hs.length 0 hs (Nat.le_refl _) (by simpa using h) (by omega)
  rw [this, List.drop_zero, List.take_length]
/-- from the back -/
theorem foldR_drop (l : List (List UInt8)) (i : Nat) (h : i + 1 < l.length) : foldR (l.drop i) = hNode (l.getD i []) (foldR (l.drop (i + 1))) := by
  rw [List.drop_eq_getElem_cons (by omega), foldR_cons _ _ (by intro e; have := congrArg List.length e; rw [List.length_drop, List.length_nil] at this; omega), List.getD_eq_getElem?_getD, List.getElem?_eq_getElem (by omega)]
  rfl
theorem foldR_last (l : List (List UInt8)) (n : Nat) (h : l.length = n + 1) : foldR (l.drop n) = l.getD n [] := by
  rw [List.drop_eq_getElem_cons (by omega), List.drop_of_length_le (by omega), List.getD_eq_getElem?_getD, List.getElem?_eq_getElem (by omega)]
  rfl

theorem tuple_cellT {fn : Func} {p u : Tmp} {ty t : TypeId} {P : Program} (h : fn.results = #[.cell p ty, .tmp u]) (tmps : Array Value) (w : World) (g : Nat) (cs : Array Value) (N : Nat) (el : TypeId)
    (hp : tmps.getD p undef = .pointer (some ⟨g, 0, none⟩)) (hg : Blk w g t cs) (hu : P.underlying ty = some (.array N el)) (hi : (P.info? ty).map (·.size) = some cs.size) :
    (results fn tmps).run P w = .ok (.tuple #[.agg cs, tmps.getD u undef]) w := by
  rw [results_cell_tmp h, hp]
  show ((loadVar ty ⟨g, 0, none⟩).run P w).andThen (fun v w₂ => Result.ok (Value.tuple #[v, tmps.getD u undef]) w₂) = _
  rw [run_loadVar_row w g t ty cs (0, 0) _ hg hu rfl hi]
  rfl
/-- 's[a:b]' -/
theorem run_slice_op_both {ρ : Operand → Value} {o : Oper} (x y z : Operand) (ho : o.op = .slice 33 x (some y) (some z) none) (A : Option Addr) (n c a b : Nat) (hx : ρ x = .slice A n c) (hy : ρ y = .int .i64 (a : Int)) (hz : ρ z = .int .i64 (b : Int)) (hab : a ≤ b) (hb : b ≤ c) (W : World) :
    (execOp ρ o).run Try.prog W = .ok (.value (.slice (if c = a then A else A.map (·.add (a * 32))) (b - a) (c - a))) W := by
  unfold execOp
  simp only [ho, hx, hy, hz, Option.map_some, Option.map_none]
  simp only [run_sliceAt_slice W 33 _ _ _ _ sliceHs, run_slice_lh W 33 A n c sliceHs .i64 .i64 (a : Int) (b : Int) (by omega) (by omega) (by omega), sizeHs, Sem.run_bind, Sem.run_pure, Result.andThen_ok, sliced, Int.toNat_natCast]

set_option maxHeartbeats 2000000 in
set_option maxRecDepth 100000 in
theorem tstretch_ok (hs : List (List UInt8)) (A : Option Addr) (n c : Nat) (w : World) (a b : Nat) (h : Hs w (fun _ => True) A n c hs) (hn : n ≤ 4398046511104) (hab : a < b) (hb : b ≤ n) :
    Calls Try.prog 96 #[.slice A n c, .agg #[.int .i64 (a : Int), .int .i64 (b : Int)]] w fun e w' => e = .returned (.tuple #[.agg ((stretchL hs a b).map B).toArray, .int .i64 0]) ∧ Below w.heap.size w w' := by
  obtain ⟨zs, hzs⟩ : ∃ zs, zeroHash = zs := ⟨_, rfl⟩
  have hzl : zs.size = 32 := by rw [← hzs]; rfl
  have hroom := h.sl.room
  have hmax := h.sl.max
  unfold maxLen at hmax
  have hbx := (Below.refl w.heap.size w).alloc (Nat.le_refl _) (.cells #[.int .i64 (a : Int), .int .i64 (b : Int)] 121)
  have x0 := Blk.new w 121 #[.int .i64 (a : Int), .int .i64 (b : Int)]
  have hb0 := hbx.alloc hbx.size (.cells zs 26)
  have k0 := Blk.new (w.alloc (.cells #[.int .i64 (a : Int), .int .i64 (b : Int)] 121)) 26 zs
  have x1 := x0.alloc (.cells zs 26)
  have h0 := (h.step hb0).drop a (by omega)
  rw [if_neg (by omega)] at h0
  have h1 := h0.take (b - a) (by omega)
  have hof := fun W (hW : Below ((w.alloc (.cells #[.int .i64 (a : Int), .int .i64 (b : Int)] 121)).alloc (.cells zs 26)).heap.size ((w.alloc (.cells #[.int .i64 (a : Int), .int .i64 (b : Int)] 121)).alloc (.cells zs 26)) W) => tof_any ((hs.drop a).take (b - a)) _ (b - a) (c - a) W (h1.step hW) (by omega)
  obtain ⟨r, hr⟩ : ∃ r, stretchL hs a b = r := ⟨_, rfl⟩
  have hrl : r.length = 32 := by rw [← hr]; exact length_stretchL hs _ _ h.all
  rw [show rootL ((hs.drop a).take (b - a)) = r from hr] at hof
  rw [hr]
  have e0 : ((w.alloc (.cells #[.int .i64 (a : Int), .int .i64 (b : Int)] 121)).alloc (.cells zs 26)).cell? ⟨w.heap.size, 0, none⟩ = some (.int .i64 (a : Int)) := by rw [x1.cell]; rfl
  have e1 : ((w.alloc (.cells #[.int .i64 (a : Int), .int .i64 (b : Int)] 121)).alloc (.cells zs 26)).cell? ⟨w.heap.size, 1, none⟩ = some (.int .i64 (b : Int)) := by rw [x1.cell]; rfl
  have Hof := Lib.hid hof
  have Hzs := Lib.hid hzs
  have Hrl := Lib.hid hrl
  have d0 : decide ((a : Int) < 0) = false := by simp
  have d1 : decide ((b : Int) ≤ (a : Int)) = false := by simp; omega
  have d1' : decide (b ≤ a) = false := by simp; omega
  have d2 : decide ((n : Int) < (b : Int)) = false := by simp; omega
  have d2' : decide (n < b) = false := by simp; omega
  clear hof hzs hrl hr h h0 h1 x0 x1 hbx
  go_enter Try.func96, Try.ntmps96
  go_wp2_with (first
    | ((with_reducible show wpList _ _ _ (⟨some 4, .alloc _, _, _, _, _⟩ :: _) _ _); refine wpList_run rfl (.pointer (some ⟨(w.alloc (.cells #[.int .i64 (a : Int), .int .i64 (b : Int)] 121)).heap.size, 0, none⟩)) ((w.alloc (.cells #[.int .i64 (a : Int), .int .i64 (b : Int)] 121)).alloc (.cells zs 26)) (by rw [← Hzs.out]; rfl) ?_; simp only [Act.put]))
  refine (Hof.out _ (Below.refl _ _)).mono ?_
  rintro e w2 ⟨rfl, hb2⟩
  have k2 := k0.below hb2 k0.lt
  rw [show (w.alloc (.cells #[.int .i64 (a : Int), .int .i64 (b : Int)] 121)).heap.size = w.heap.size + 1 by simp] at k2
  have B2 := hb0.trans (hb2.mono hb0.size)
  clear e0 e1 d0 d1 d1' d2 d2' Hof
  go_wp2_with ((with_reducible show wpList _ _ _ (⟨none, .store _ _ _, _, _, _, _⟩ :: _) _ _); refine wpList_store_blk rfl 26 (.tmp 4) (.tmp 30) rfl 32 size26 (w.heap.size + 1) (r.map B).toArray rfl rfl (by simp [Hrl.out]) (oneCell_B _) 26 _ k2 hzl ?_; simp only [Act.put])
  refine bodyPost_ret (tuple_cellT rfl _ _ (w.heap.size + 1) (r.map B).toArray _ _ rfl (k2.setRow_ _) Try.underlying26 (by rw [show (r.map B).toArray.size = 32 by simp [Hrl.out]]; exact info26)) rfl ⟨rfl, ?_⟩
  exact below_setRow B2 (by omega) _

set_option maxHeartbeats 2000000 in
set_option maxRecDepth 100000 in
theorem tstretch_bad (A : Option Addr) (n c : Nat) (w : World) (a b : Int) (hbad : a < 0 ∨ b ≤ a ∨ n < b) :
    Calls Try.prog 96 #[.slice A n c, .agg #[.int .i64 a, .int .i64 b]] w fun e w' => e = .returned (.tuple #[.agg zeroHash, .int .i64 4]) ∧ Below w.heap.size w w' := by
  obtain ⟨zs, hzs⟩ : ∃ zs, zeroHash = zs := ⟨_, rfl⟩
  have hzl : zs.size = 32 := by rw [← hzs]; rfl
  have hz1 : ∀ v ∈ zs.toList, v.oneCell' = true := by rw [← hzs]; exact oneCell_B _
  rw [hzs]
  have hbx := (Below.refl w.heap.size w).alloc (Nat.le_refl _) (.cells #[.int .i64 a, .int .i64 b] 121)
  have x0 := Blk.new w 121 #[.int .i64 a, .int .i64 b]
  have hb0 := hbx.alloc hbx.size (.cells zs 26)
  have k0 := Blk.new (w.alloc (.cells #[.int .i64 a, .int .i64 b] 121)) 26 zs
  have x1 := x0.alloc (.cells zs 26)
  rw [show (w.alloc (.cells #[.int .i64 a, .int .i64 b] 121)).heap.size = w.heap.size + 1 by simp] at k0
  have e0 : ((w.alloc (.cells #[.int .i64 a, .int .i64 b] 121)).alloc (.cells zs 26)).cell? ⟨w.heap.size, 0, none⟩ = some (.int .i64 a) := by rw [x1.cell]; rfl
  have e1 : ((w.alloc (.cells #[.int .i64 a, .int .i64 b] 121)).alloc (.cells zs 26)).cell? ⟨w.heap.size, 1, none⟩ = some (.int .i64 b) := by rw [x1.cell]; rfl
  have Hzs := Lib.hid hzs
  have Hz1 := Lib.hid hz1
  clear hzs hz1 x0 x1 hbx
  have hd : (decide (a < 0) = true) ∨ (decide (a < 0) = false ∧ decide (b ≤ a) = true) ∨ (decide (a < 0) = false ∧ decide (b ≤ a) = false ∧ decide ((n : Int) < b) = true) := by
    by_cases h1 : a < 0
    · exact .inl (decide_eq_true h1)
    · by_cases h2 : b ≤ a
      · exact .inr (.inl ⟨decide_eq_false h1, decide_eq_true h2⟩)
      · exact .inr (.inr ⟨decide_eq_false h1, decide_eq_false h2, decide_eq_true (by omega)⟩)
  clear hbad
  go_enter Try.func96, Try.ntmps96
  rcases hd with d1 | ⟨d1, d2⟩ | ⟨d1, d2, d3⟩
  all_goals
    go_wp2_with (first
      | ((with_reducible show wpList _ _ _ (⟨some 4, .alloc _, _, _, _, _⟩ :: _) _ _); refine wpList_run rfl (.pointer (some ⟨(w.alloc (.cells #[.int .i64 a, .int .i64 b] 121)).heap.size, 0, none⟩)) ((w.alloc (.cells #[.int .i64 a, .int .i64 b] 121)).alloc (.cells zs 26)) (by rw [← Hzs.out]; rfl) ?_; simp only [Act.put])
      | ((with_reducible show wpList _ _ _ (⟨some 23, .build _ _, _, _, _, _⟩ :: _) _ _); refine wpList_run0 rfl (.agg zs) (by rw [← Hzs.out]; kernel_rfl) ?_; simp only [Act.put])
      | ((with_reducible show wpList _ _ _ (⟨none, .store _ _ _, _, _, _, _⟩ :: _) _ _); refine wpList_store_blk rfl 26 (.tmp 4) (.tmp 23) rfl 32 size26 (w.heap.size + 1) zs rfl rfl hzl Hz1.out 26 _ k0 hzl ?_; simp only [Act.put]))
    refine bodyPost_ret (tuple_cellT rfl _ _ (w.heap.size + 1) zs _ _ rfl (k0.setRow_ _) Try.underlying26 (by rw [hzl]; exact info26)) rfl ⟨rfl, ?_⟩
    exact below_setRow hb0 (by omega) _
end Go.Proofs.Ytobcfgbkhgkelaa
