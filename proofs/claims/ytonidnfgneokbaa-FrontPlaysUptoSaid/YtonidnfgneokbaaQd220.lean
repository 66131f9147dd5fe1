/- notaryref08.Of, Leaf, Node; notarylaw08.lent, kept, long, num. -/
import Derived.Test.YtonidnfgneokbaaQd210
import Derived.Test.YtonidnfgneokbaaQd219
import Derived.Test.YtonidnfgneokbaaQd211
import Derived.Test.YtonidnfgneokbaaQd218
import Derived.Test.YtonidnfgneokbaaQd205
namespace Go.Proofs.Ytonidnfgneokbaa
open Go.RowKit

set_option maxHeartbeats 400000 in
set_option maxRecDepth 100000 in
theorem hrof_any (b : List UInt8) (A : Option Addr) (n c : Nat) (w : World) (h : Sl w (fun _ => True) A n c b) (hmax : n ≤ 1099511627776) :
    Calls Try.prog 102 #[.slice A n c] w fun e w' => e = .returned (.agg ((sha256 b).map B).toArray) ∧ Below w.heap.size w w' := by
  obtain ⟨r, hr⟩ : ∃ r, sha256 b = r := ⟨_, rfl⟩
  have hrl : r.length = 32 := by rw [← hr]; exact length_sha256 _
  have hs := fun o => rsum_any b A n c (w.alloc o) (h.alloc o) hmax
  rw [hr] at hs ⊢
  have Hs := Lib.hid hs
  have Hrl := Lib.hid hrl
  clear hs hrl hr h
  go_enter Try.func102, Try.ntmps102
  go_wp2_with (first
    | (go_at_call 141; refine (Hs.out _).mono ?_; rintro e w1 ⟨rfl, hb1⟩; have k1 := (Blk.new w _ _).below hb1 (by simp); have B1 := ((Below.refl w.heap.size w).alloc (Nat.le_refl _) _).trans (hb1.mono (by simp)))
    | ((with_reducible show wpList _ _ _ (⟨none, .store _ _ _, _, _, _, _⟩ :: _) _ _); refine wpList_store_blk rfl 25 (.tmp 2) (.tmp 4) rfl 32 size26 w.heap.size (r.map B).toArray rfl rfl (by simp [Hrl.out]) (oneCell_B _) 25 _ k1 (by rfl) ?_; simp only [Act.put]))
  refine bodyPost_ret (results_cell_row rfl _ _ w.heap.size 25 (r.map B).toArray (0, 0) _ rfl (k1.setRow_ _) Try.underlying25 rfl (by rw [show (r.map B).toArray.size = 32 by simp [Hrl.out]]; exact info26)) rfl ⟨rfl, ?_⟩
  exact below_setRow B1 (Nat.le_refl _) _

set_option maxHeartbeats 400000 in
set_option maxRecDepth 100000 in
theorem hrleaf_any (l : List UInt8) (A : Option Addr) (n c : Nat) (w : World) (h : Sl w (fun _ => True) A n c l) (hmax : n < 1099511627776) :
    Calls Try.prog 66 #[.slice A n c] w fun e w' => e = .returned (.agg ((hLeaf l).map B).toArray) ∧ Below w.heap.size w w' := by
  obtain ⟨r, hr⟩ : ∃ r, hLeaf l = r := ⟨_, rfl⟩
  have hrl : r.length = 32 := by rw [← hr]; exact length_hLeaf l
  rw [hr]
  have hll := h.len
  have Hrl := Lib.hid hrl
  have Hr := Lib.hid hr
  have Hll := Lib.hid hll
  clear hrl hr hll
  go_enter Try.func66, Try.ntmps66
  go_upto_region 1 with fail
  refine wp_world (fun W => Blk W w.heap.size 25 ((List.replicate 32 0).map B).toArray ∧ Below w.heap.size w W ∧ Sl W (fun _ => True) A n c l ∧ w.heap.size < W.heap.size) ⟨?_, ?_, ?_, ?_⟩ ?_
  · exact Blk.new _ _ _
  · exact (Below.refl _ _).alloc (Nat.le_refl _) _
  · exact h.alloc _
  · simp
  clear h
  rintro W1 ⟨k1, B1, s1, hW1⟩
  have ho1 : (W1.alloc (.cells #[.int .u8 0] 5)).ownsRow W1.heap.size 5 1 (.slice (some ⟨W1.heap.size, 0, none⟩) 1 1) ([0] : List UInt8).length (([0] : List UInt8).map B) := World.ownsRow_lit W1 #[.int .u8 0] 1 (Nat.le_refl _) (by decide) rfl
  obtain ⟨v2, w2, hr2, ho2, hg2⟩ := append_sl ho1 (s1.alloc _) (by simp; omega) (by simp)
  have b2 : Below W1.heap.size W1 w2 := below_append ((Below.refl _ _).alloc (Nat.le_refl _) _) ho1 hg2 (Nat.le_refl _) (by simp)
  obtain ⟨A2, c2, rfl, hs2⟩ := owns_sl ho2
  have k2 := k1.below b2 k1.lt
  have B2 := B1.trans (b2.mono B1.size)
  have hof := hrof_any ([0] ++ l) A2 _ c2 w2 hs2.all (by simp [Hll.out]; omega)
  rw [show sha256 ([0] ++ l) = r from Hr.out] at hof
  have Hr2 := Lib.hid hr2
  have Hof := Lib.hid hof
  clear hr2 ho1 ho2 hg2 hs2 hof s1 hW1
  go_wp2_with (first
    | ((with_reducible show wpList _ _ _ (⟨some 5, .call _, _, _, _, _⟩ :: _) _ _); refine wpList_run rfl _ w2 (run_append_op (.tmp 3) (.tmp 4) 23 rfl _ _ rfl rfl Hr2.out) ?_; simp only [Act.put])
    | (go_at_call 102; refine Hof.out.mono ?_; rintro e w3 ⟨rfl, hb3⟩; have k3 := k2.below hb3 k2.lt; have B3 := B2.trans (hb3.mono B2.size))
    | ((with_reducible show wpList _ _ _ (⟨none, .store _ _ _, _, _, _, _⟩ :: _) _ _); refine wpList_store_blk rfl 25 (.tmp 2) (.tmp 6) rfl 32 size26 w.heap.size (r.map B).toArray rfl rfl (by simp [Hrl.out]) (oneCell_B _) 25 _ k3 (by rfl) ?_; simp only [Act.put]))
  refine bodyPost_ret (results_cell_row rfl _ _ w.heap.size 25 (r.map B).toArray (0, 0) _ rfl (k3.setRow_ _) Try.underlying25 rfl (by rw [show (r.map B).toArray.size = 32 by simp [Hrl.out]]; exact info26)) rfl ⟨rfl, ?_⟩
  exact below_setRow B3 (Nat.le_refl _) _

/-- in the loops of Node -/
structure RnC (w : World) (lv rv zs : Array Value) (v : Value) (xs : List UInt8) (W : World) : Prop where
  l : Blk W w.heap.size 25 lv
  r : Blk W (w.heap.size + 1) 25 rv
  z : Blk W (w.heap.size + 2) 25 zs
  own : W.ownsRow (w.heap.size + 3) 5 1 v xs.length (xs.map B)
  bel : Below w.heap.size w W
  big : w.heap.size + 2 < W.heap.size
theorem RnC.app {w W : World} {lv rv zs : Array Value} {v : Value} {xs : List UInt8} (h : RnC w lv rv zs v xs W) (x : UInt8) (hl : xs.length ≤ 100) : ∃ v' W', (Builtin.append_ #[23, 23] 23 #[v, .slice (some ⟨W.heap.size, 0, none⟩) 1 1]).run Try.prog (W.alloc (.cells #[B x] 5)) = .ok v' W' ∧ RnC w lv rv zs v' (xs ++ [x]) W' := by
  have hb := h.big
  obtain ⟨v', W', hr, ho, hg⟩ := append_sl (h.own.alloc (.cells ([x].map B).toArray 5)) (sl_lit W [x] 1 rfl (by decide)) (by omega) (by simp; omega)
  have hlt : ∀ k, v.ownBlock = some k → w.heap.size + 3 ≤ k := fun k hk => (h.own.lt k hk).1
  refine ⟨v', W', hr, (h.l.alloc _).grown hg fun e => ?_, (h.r.alloc _).grown hg fun e => ?_, (h.z.alloc _).grown hg fun e => ?_, ho, (h.bel.alloc h.bel.size _).grown hg (by simp; omega) fun k hk => ?_, by have := hg.size; simp at this; omega⟩
  · have := hlt _ e.symm; omega
  · have := hlt _ e.symm; omega
  · have := hlt _ e.symm; omega
  · have := hlt k hk; omega

set_option maxHeartbeats 1000000 in
set_option maxRecDepth 100000 in
theorem hrnode_any (l r : List UInt8) (w : World) (hl : l.length = 32) (hr : r.length = 32) :
    Calls Try.prog 103 #[.agg (l.map B).toArray, .agg (r.map B).toArray] w fun e w' => e = .returned (.agg ((hNode l r).map B).toArray) ∧ Below w.heap.size w w' := by
  obtain ⟨x, hx⟩ : ∃ x, hNode l r = x := ⟨_, rfl⟩
  have hxl : x.length = 32 := by rw [← hx]; exact length_hNode l r
  obtain ⟨zs, hzs⟩ : ∃ zs, zeroHash = zs := ⟨_, rfl⟩
  obtain ⟨lv, hlv⟩ : ∃ lv, (l.map B).toArray = lv := ⟨_, rfl⟩
  obtain ⟨rv, hrv⟩ : ∃ rv, (r.map B).toArray = rv := ⟨_, rfl⟩
  have hzl : zs.size = 32 := by rw [← hzs]; rfl
  rw [hx, hlv, hrv]
  have Hx := Lib.hid hx
  have Hxl := Lib.hid hxl
  have Hzs := Lib.hid hzs
  have Hlv := Lib.hid hlv
  have Hrv := Lib.hid hrv
  have Hl := Lib.hid hl
  have Hr := Lib.hid hr
  clear hx hxl hzs hlv hrv hl hr
  go_enter Try.func103, Try.ntmps103
  go_upto_region 1 with fail
  refine wp_world (fun W => Blk W w.heap.size 25 lv ∧ Blk W (w.heap.size + 1) 25 rv ∧ Blk W (w.heap.size + 2) 25 zs ∧ Below w.heap.size w W ∧ W.heap.size = w.heap.size + 3) ⟨?_, ?_, ?_, ?_, ?_⟩ ?_
  · exact ((Blk.new _ _ _).alloc _).alloc _
  · exact (Blk.new' _ _ _ _ (by simp)).alloc _
  · rw [← Hzs.out]; exact Blk.new' _ _ _ _ (by simp)
  · exact (((Below.refl _ _).alloc (Nat.le_refl _) _).alloc (by simp) _).alloc (by simp; omega) _
  · simp
  rintro W1 ⟨kl, kr, kz, B1, hW1⟩
  have HW := Lib.hid hW1
  clear hW1
  go_wp2_with fail
  go_loopw [5, 6] (fun s5 i wr => ∃ (v : Value) (k : Nat), v = s5 ∧ k ≤ 32 ∧ i = .int .i64 k ∧ RnC w lv rv zs v (1 :: l.take k) wr) (fun _ i => fun _ => 32 - (intOf i).toNat)
  case atStart =>
    refine ⟨_, 0, rfl, by omega, rfl, kl.alloc _, kr.alloc _, kz.alloc _, ?_, B1.alloc B1.size _, by have := HW.out; simp; omega⟩
    exact World.ownsRow_lit W1 #[.int .u8 1] 1 (by have := HW.out; omega) (by decide) rfl
  case round =>
    obtain ⟨v, k, rfl, hk, rfl, hC⟩ := hrel
    by_cases hlt : k < 32
    · obtain ⟨y, hy⟩ : ∃ y, l.getD k 0 = y := ⟨_, rfl⟩
      have cy : wr.cell? ⟨w.heap.size, k, none⟩ = some (B y) := by rw [hC.l.cell, ← Hlv.out, ← hy]; exact cellB l k (by rw [Hl.out]; exact hlt)
      obtain ⟨v2, w2, hr2, hC2⟩ := hC.app y (by rw [List.length_cons, List.length_take]; omega)
      have hsn : 1 :: l.take k ++ [y] = 1 :: l.take (k + 1) := by
        rw [List.take_succ_eq_append_getElem (by rw [Hl.out]; exact hlt), ← hy, List.getD_eq_getElem?_getD, List.getElem?_eq_getElem (by rw [Hl.out]; exact hlt)]; rfl
      rw [hsn] at hC2
      have Hr2 := Lib.hid hr2
      clear hr2 hsn hy hC
      go_wp2_with ((with_reducible show wpList _ _ _ (⟨some 18, .call _, _, _, _, _⟩ :: _) _ _); refine wpList_run rfl _ w2 (run_append_op (.tmp 13) (.tmp 17) 23 rfl _ _ rfl rfl Hr2.out) ?_; simp only [Act.put])
      go_roundw
      case rel => exact ⟨_, k + 1, rfl, by omega, by go_num, hC2⟩
      case measure => simp [intOf]; omega
    · obtain rfl : k = 32 := by omega
      rw [List.take_of_length_le (by rw [Hl.out]; omega)] at hC
      clear kl kr kz B1
      go_wp2_with fail
      go_loopw [5, 7] (fun s5 i wr => ∃ (v : Value) (k : Nat), v = s5 ∧ k ≤ 32 ∧ i = .int .i64 k ∧ RnC w lv rv zs v (1 :: (l ++ r.take k)) wr) (fun _ i => fun _ => 32 - (intOf i).toNat)
      case atStart => exact ⟨_, 0, rfl, by omega, rfl, by rw [List.take_zero, List.append_nil]; exact hC⟩
      case round =>
        clear hC
        obtain ⟨v, k, rfl, hk, rfl, hC⟩ := hrel
        by_cases hlt : k < 32
        · obtain ⟨y, hy⟩ : ∃ y, r.getD k 0 = y := ⟨_, rfl⟩
          have cy : wr.cell? ⟨w.heap.size + 1, k, none⟩ = some (B y) := by rw [hC.r.cell, ← Hrv.out, ← hy]; exact cellB r k (by rw [Hr.out]; exact hlt)
          obtain ⟨v2, w2, hr2, hC2⟩ := hC.app y (by rw [List.length_cons, List.length_append, List.length_take, Hl.out]; omega)
          have hsn : 1 :: (l ++ r.take k) ++ [y] = 1 :: (l ++ r.take (k + 1)) := by
            rw [List.take_succ_eq_append_getElem (by rw [Hr.out]; exact hlt), ← hy, List.getD_eq_getElem?_getD, List.getElem?_eq_getElem (by rw [Hr.out]; exact hlt)]; simp
          rw [hsn] at hC2
          have Hr2 := Lib.hid hr2
          clear hr2 hsn hy hC
          go_wp2_with ((with_reducible show wpList _ _ _ (⟨some 28, .call _, _, _, _, _⟩ :: _) _ _); refine wpList_run rfl _ w2 (run_append_op (.tmp 23) (.tmp 27) 23 rfl _ _ rfl rfl Hr2.out) ?_; simp only [Act.put])
          go_roundw
          case rel => ((repeat apply Exists.intro); exact ⟨⟨_, k + 1, rfl, by omega, by go_num, hC2⟩, rfl⟩)
          case measure => simp [intOf]; omega
        · obtain rfl : k = 32 := by omega
          rw [List.take_of_length_le (by rw [Hr.out]; omega)] at hC
          obtain ⟨A2, c2, rfl, hs2⟩ := owns_sl hC.own
          have hlen : (1 :: (l ++ r)).length = 65 := by rw [List.length_cons, List.length_append, Hl.out, Hr.out]
          rw [hlen] at hs2 ⊢
          have hof := hrof_any (1 :: (l ++ r)) A2 65 c2 wr hs2.all (by decide)
          rw [show sha256 (1 :: (l ++ r)) = x from Hx.out] at hof
          have kz2 := hC.z
          have B2 := hC.bel
          have Hof := Lib.hid hof
          clear hof hs2 hC hlen
          go_wp2_with (first
            | (go_at_call 102; refine Hof.out.mono ?_; rintro e w3 ⟨rfl, hb3⟩; have k3 := kz2.below hb3 kz2.lt; have B3 := B2.trans (hb3.mono B2.size))
            | ((with_reducible show wpList _ _ _ (⟨none, .store _ _ _, _, _, _, _⟩ :: _) _ _); refine wpList_store_blk rfl 25 (.tmp 4) (.tmp 30) rfl 32 size26 (w.heap.size + 2) (x.map B).toArray rfl rfl (by simp [Hxl.out]) (oneCell_B _) 25 _ k3 hzl ?_; simp only [Act.put]))
          refine bodyPost_ret (results_cell_row rfl _ _ (w.heap.size + 2) 25 (x.map B).toArray (0, 0) _ rfl (k3.setRow_ _) Try.underlying25 rfl (by rw [show (x.map B).toArray.size = 32 by simp [Hxl.out]]; exact info26)) rfl ⟨rfl, ?_⟩
          exact below_setRow B3 (by omega) _
end Go.Proofs.Ytonidnfgneokbaa
/- tree.Of, notaryref09.Of, notaryref08.Empty. -/
namespace Go.Proofs.Ytonidnfgneokbaa
open Go Go.RowKit

theorem sizeHs : ∀ w : World, (sizeOf (Try.prog.elem 26)).run Try.prog w = .ok 32 w := fun _ => by kernel_rfl
theorem sliceHs : Try.prog.underlying 26 = some (.slice (Try.prog.elem 26)) := by kernel_rfl
/-- the root of a list of leaves' hashes -/
def rootL (hs : List (List UInt8)) : List UInt8 := rootF hEmpty hNode hs.length hs
theorem rootL_nil : rootL [] = hEmpty := rfl
theorem rootL_one (x : List UInt8) : rootL [x] = x := rfl
theorem rootL_more (hs : List (List UInt8)) (h : 2 ≤ hs.length) : rootL hs = hNode (rootL (hs.take (splitN hs.length))) (rootL (hs.drop (splitN hs.length))) := by
  unfold rootL
  rw [rootF_enough _ _ hs.length (hs.length + 1) hs (Nat.le_refl _) (by omega), rootF, if_neg (by omega), if_neg (by omega)]
  rw [rootF_enough _ _ hs.length (hs.take (splitN hs.length)).length _ (by rw [List.length_take]; omega) (Nat.le_refl _), rootF_enough _ _ hs.length (hs.drop (splitN hs.length)).length _ (by rw [List.length_drop]; omega) (Nat.le_refl _)]
theorem length_rootL (hs : List (List UInt8)) (h : H32 hs) : (rootL hs).length = 32 := by
  by_cases h2 : 2 ≤ hs.length
  · rw [rootL_more hs h2]; exact length_hNode _ _
  · match hs, h, h2 with
    | [], _, _ => exact length_hEmpty
    | [x], h, _ => exact h x (by simp)
    | _ :: _ :: _, _, h2 => exact absurd (by simp) h2
theorem run_slice_op_hi {ρ : Operand → Value} {o : Oper} (x y : Operand) (ho : o.op = .slice 26 x none (some y) none) (A : Option Addr) (n c k : Nat) (hx : ρ x = .slice A n c) (hy : ρ y = .int .i64 (k : Int)) (hk : k ≤ c) (W : World) :
    (execOp ρ o).run Try.prog W = .ok (.value (.slice A k c)) W := by
  unfold execOp
  simp only [ho, hx, hy, Option.map_some, Option.map_none, run_slice_high sliceHs sizeHs A n c k hk W, Sem.run_bind, Sem.run_pure, Result.andThen_ok]
theorem run_slice_op_lo {ρ : Operand → Value} {o : Oper} (x y : Operand) (ho : o.op = .slice 26 x (some y) none none) (A : Option Addr) (n c k : Nat) (hx : ρ x = .slice A n c) (hy : ρ y = .int .i64 (k : Int)) (hk : k ≤ n) (W : World) :
    (execOp ρ o).run Try.prog W = .ok (.value (.slice (if c = k then A else A.map (·.add (k * 32))) (n - k) (c - k))) W := by
  unfold execOp
  simp only [ho, hx, hy, Option.map_some, Option.map_none, run_slice_low sliceHs sizeHs A n c k hk W, Sem.run_bind, Sem.run_pure, Result.andThen_ok]

set_option maxHeartbeats 400000 in
set_option maxRecDepth 100000 in
theorem rempty_any (w : World) :
    Calls Try.prog 108 #[] w fun e w' => e = .returned (.agg (hEmpty.map B).toArray) ∧ Below w.heap.size w w' := by
  obtain ⟨r, hr⟩ : ∃ r, hEmpty = r := ⟨_, rfl⟩
  have hrl : r.length = 32 := by rw [← hr]; exact length_hEmpty
  obtain ⟨zs, hzs⟩ : ∃ zs, zeroHash = zs := ⟨_, rfl⟩
  have hzl : zs.size = 32 := by rw [← hzs]; rfl
  have hof := fun W => hrof_any [] none 0 0 W Sl.nil (by decide)
  rw [show sha256 [] = r from hr] at hof
  rw [hr]
  have hb := (Below.refl w.heap.size w).alloc (Nat.le_refl _) (.cells zs 25)
  have k0 := Blk.new w 25 zs
  have Hof := Lib.hid hof
  have Hzs := Lib.hid hzs
  have Hrl := Lib.hid hrl
  clear hof hzs hrl hr
  go_enter Try.func108, Try.ntmps108
  go_wp2_with (first
    | ((with_reducible show wpList _ _ _ (⟨some 0, .alloc _, _, _, _, _⟩ :: _) _ _); refine wpList_run rfl (.pointer (some ⟨w.heap.size, 0, none⟩)) (w.alloc (.cells zs 25)) (by rw [← Hzs.out]; rfl) ?_; simp only [Act.put])
    | (go_at_call 102; refine (Hof.out _).mono ?_; rintro e w1 ⟨rfl, hb1⟩; have k1 := k0.below hb1 (by simp); have B1 := hb.trans (hb1.mono (by simp)))
    | ((with_reducible show wpList _ _ _ (⟨none, .store _ _ _, _, _, _, _⟩ :: _) _ _); refine wpList_store_blk rfl 25 (.tmp 0) (.tmp 1) rfl 32 size26 w.heap.size (r.map B).toArray rfl rfl (by simp [Hrl.out]) (oneCell_B _) 25 _ k1 hzl ?_; simp only [Act.put]))
  refine bodyPost_ret (results_cell_row rfl _ _ w.heap.size 25 (r.map B).toArray (0, 0) _ rfl (k1.setRow_ _) Try.underlying25 rfl (by rw [show (r.map B).toArray.size = 32 by simp [Hrl.out]]; exact info26)) rfl ⟨rfl, ?_⟩
  exact below_setRow B1 (Nat.le_refl _) _

set_option maxHeartbeats 2000000 in
set_option maxRecDepth 100000 in
theorem rof_rec (d : Nat) : ∀ (hs : List (List UInt8)) (A : Option Addr) (n c : Nat) (w : World), n ≤ d → Hs w (fun _ => True) A n c hs → n ≤ 4398046511104 →
    Calls Try.prog 46 #[.slice A n c] w fun e w' => e = .returned (.agg ((rootL hs).map B).toArray) ∧ Below w.heap.size w w' := by
  induction d using Nat.strongRecOn with
  | ind d ih =>
  intro hs A n c w hnd h hn
  obtain ⟨zs, hzs⟩ : ∃ zs, zeroHash = zs := ⟨_, rfl⟩
  have hzl : zs.size = 32 := by rw [← hzs]; rfl
  have hlen := h.len
  have hroom := h.sl.room
  have hmax := h.sl.max
  unfold maxLen at hmax
  have hb0 := (Below.refl w.heap.size w).alloc (Nat.le_refl _) (.cells zs 25)
  have k0 := Blk.new w 25 zs
  have h0 := h.step hb0
  obtain ⟨r, hr⟩ : ∃ r, rootL hs = r := ⟨_, rfl⟩
  have hrl : r.length = 32 := by rw [← hr]; exact length_rootL hs h.all
  rw [hr]
  have Hzs := Lib.hid hzs
  have Hrl := Lib.hid hrl
  have Hr := Lib.hid hr
  have Hlen := Lib.hid hlen
  clear hzs hrl hr hlen
  by_cases hn0 : n = 0
  · subst hn0
    have hnil : hs = [] := List.eq_nil_of_length_eq_zero Hlen.out
    subst hnil
    obtain rfl : r = hEmpty := Hr.out.symm
    clear ih h h0
    go_enter Try.func46, Try.ntmps46
    go_wp2_with (first
      | ((with_reducible show wpList _ _ _ (⟨some 2, .alloc _, _, _, _, _⟩ :: _) _ _); refine wpList_run rfl (.pointer (some ⟨w.heap.size, 0, none⟩)) (w.alloc (.cells zs 25)) (by rw [← Hzs.out]; rfl) ?_; simp only [Act.put])
      | (go_at_call 108; refine (rempty_any _).mono ?_; rintro e w1 ⟨rfl, hb1⟩; have k1 := k0.below hb1 (by simp); have B1 := hb0.trans (hb1.mono (by simp)))
      | ((with_reducible show wpList _ _ _ (⟨none, .store _ _ _, _, _, _, _⟩ :: _) _ _); refine wpList_store_blk rfl 25 (.tmp 2) (.tmp 7) rfl 32 size26 w.heap.size (hEmpty.map B).toArray rfl rfl (by simp [Hrl.out]) (oneCell_B _) 25 _ k1 hzl ?_; simp only [Act.put]))
    refine bodyPost_ret (results_cell_row rfl _ _ w.heap.size 25 (hEmpty.map B).toArray (0, 0) _ rfl (k1.setRow_ _) Try.underlying25 rfl (by rw [show (hEmpty.map B).toArray.size = 32 by simp [Hrl.out]]; exact info26)) rfl ⟨rfl, ?_⟩
    exact below_setRow B1 (Nat.le_refl _) _
  by_cases hn1 : n = 1
  · subst hn1
    obtain ⟨x, rfl⟩ := List.length_eq_one_iff.1 Hlen.out
    obtain rfl : r = x := Hr.out.symm
    obtain ⟨b, o, rfl, -, -, hat⟩ := h0.at_ (by omega)
    have hld : (Instr.loadAt 25 (.pointer (some ⟨b, o, none⟩))).run Try.prog (w.alloc (.cells zs 25)) = .ok (.agg (r.map B).toArray) (w.alloc (.cells zs 25)) := hat 0 (by omega)
    have Hld := Lib.hid hld
    clear ih h h0 hat hld
    go_enter Try.func46, Try.ntmps46
    go_wp2_with (first
      | ((with_reducible show wpList _ _ _ (⟨some 2, .alloc _, _, _, _, _⟩ :: _) _ _); refine wpList_run rfl (.pointer (some ⟨w.heap.size, 0, none⟩)) (w.alloc (.cells zs 25)) (by rw [← Hzs.out]; rfl) ?_; simp only [Act.put])
      | ((with_reducible show wpList _ _ _ (⟨some 13, .load _ _, _, _, _, _⟩ :: _) _ _); refine wpList_load rfl 25 (.tmp 12) rfl b o rfl (r.map B).toArray Hld.out ?_; simp only [Act.put])
      | ((with_reducible show wpList _ _ _ (⟨none, .store _ _ _, _, _, _, _⟩ :: _) _ _); refine wpList_store_blk rfl 25 (.tmp 2) (.tmp 13) rfl 32 size26 w.heap.size (r.map B).toArray rfl rfl (by simp [Hrl.out]) (oneCell_B _) 25 _ k0 hzl ?_; simp only [Act.put]))
    refine bodyPost_ret (results_cell_row rfl _ _ w.heap.size 25 (r.map B).toArray (0, 0) _ rfl (k0.setRow_ _) Try.underlying25 rfl (by rw [show (r.map B).toArray.size = 32 by simp [Hrl.out]]; exact info26)) rfl ⟨rfl, ?_⟩
    exact below_setRow hb0 (Nat.le_refl _) _
  have hne0 : ((n : Int) == 0) = false := by simp; omega
  have hne1 : ((n : Int) == 1) = false := by simp; omega
  have hmore := rootL_more hs (by rw [Hlen.out]; omega)
  rw [Hlen.out, Hr.out] at hmore
  have hspl := fun w => rsplit_any (n : Int) w (by omega)
  rw [Int.toNat_natCast] at hspl
  have hsl := splitN_lt n (by omega)
  have hsp := splitN_pos n (by omega)
  obtain ⟨s, hs'⟩ : ∃ s, splitN n = s := ⟨_, rfl⟩
  rw [hs'] at hmore hspl hsl hsp
  have hL := fun W (hW : Below (w.alloc (.cells zs 25)).heap.size (w.alloc (.cells zs 25)) W) => ih s (by omega) (hs.take s) A s c W (Nat.le_refl _) ((h0.step hW).take s (by omega)) (by omega)
  have hR := fun W (hW : Below (w.alloc (.cells zs 25)).heap.size (w.alloc (.cells zs 25)) W) => ih (n - s) (by omega) (hs.drop s) _ (n - s) (c - s) W (Nat.le_refl _) ((h0.step hW).drop s (by omega)) (by omega)
  obtain ⟨x, hx⟩ : ∃ x, rootL (hs.take s) = x := ⟨_, rfl⟩
  obtain ⟨y, hy⟩ : ∃ y, rootL (hs.drop s) = y := ⟨_, rfl⟩
  have hxl : x.length = 32 := by rw [← hx]; exact length_rootL _ (h.all.take s)
  have hyl : y.length = 32 := by rw [← hy]; exact length_rootL _ (h.all.drop s)
  rw [hx] at hL hmore
  rw [hy] at hR hmore
  have hN := fun W => hrnode_any x y W hxl hyl
  rw [← hmore] at hN
  have Hspl := Lib.hid hspl
  have HL := Lib.hid hL
  have HR := Lib.hid hR
  have HN := Lib.hid hN
  clear hspl hL hR hN hx hy hxl hyl hmore hs' ih h
  go_enter Try.func46, Try.ntmps46
  go_wp2_with (first
    | ((with_reducible show wpList _ _ _ (⟨some 2, .alloc _, _, _, _, _⟩ :: _) _ _); refine wpList_run rfl (.pointer (some ⟨w.heap.size, 0, none⟩)) (w.alloc (.cells zs 25)) (by rw [← Hzs.out]; rfl) ?_; simp only [Act.put])
    | (go_at_call 77; refine (Hspl.out _).mono ?_; rintro e w1 ⟨rfl, rfl⟩))
  generalize w.alloc (.cells zs 25) = w1 at hb0 k0 h0 HL HR ⊢
  have hS : Below w1.heap.size w1 w1.drew := (Below.refl _ _).drew
  refine wp_region_mix_last (fun W => Below w1.heap.size w1 W) 9 [(0, true), (1, true), (2, true), (4, true), (5, true), (6, true), (3, false), (7, false), (8, false)] (by kernel_rfl) (by kernel_rfl) hS fun _ => ?_
  simp only [List.map_cons, List.map_nil, Array.getD_eq_getD_getElem?, List.getElem?_toArray, List.getElem?_cons_succ, List.getElem?_cons_zero, Option.getD_some]
  generalize w1.drew = W0 at hS ⊢
  refine wpMix_s (fun K hK => ?_)
  go_simp
  refine hK _ ?_
  clear hK K
  refine wpMix_s (fun K hK => ?_)
  go_simp
  refine hK _ ?_
  clear hK K
  refine wpMix_v (by kernel_rfl) (.slice A s c) (fun u => run_slice_op_hi (.tmp 17) (.tmp 18) rfl A n c s rfl rfl (by omega) u.W) ?_
  simp only [Act.put]
  refine wpMix_s (fun K hK => ?_)
  go_simp
  refine hK _ ?_
  clear hK K
  refine wpMix_s (fun K hK => ?_)
  go_simp
  refine hK _ ?_
  clear hK K
  refine wpMix_v (by kernel_rfl) (.slice (if c = s then A else A.map (·.add (s * 32))) (n - s) (c - s)) (fun u => run_slice_op_lo (.tmp 21) (.tmp 22) rfl A n c s rfl rfl (by omega) u.W) ?_
  simp only [Act.put]
  refine wpMix_c (fun K hK => ?_) hS
  go_simp
  refine (HL.out W0 hS).mono ?_
  rintro e W1 ⟨rfl, hb'⟩
  refine hK _ _ ?_
  clear hK K
  replace hS := hS.trans (hb'.mono hS.size)
  refine ⟨hS, ?_⟩
  clear hb'
  refine wpMix_c (fun K hK => ?_) hS
  go_simp
  refine (HR.out W1 hS).mono ?_
  rintro e W2 ⟨rfl, hb'⟩
  refine hK _ _ ?_
  clear hK K
  replace hS := hS.trans (hb'.mono hS.size)
  refine ⟨hS, ?_⟩
  clear hb'
  refine wpMix_c (fun K hK => ?_) hS
  go_simp
  refine (HN.out W2).mono ?_
  rintro e W3 ⟨rfl, hb'⟩
  refine hK _ _ ?_
  clear hK K
  replace hS := hS.trans (hb'.mono hS.size)
  refine ⟨hS, ?_⟩
  clear hb'
  refine wpMix_nil ?_
  intro _
  simp only [List.drop_succ_cons, List.drop_zero]
  have k3 := k0.below hS k0.lt
  go_wp2_with ((with_reducible show wpList _ _ _ (⟨none, .store _ _ _, _, _, _, _⟩ :: _) _ _); refine wpList_store_blk rfl 25 (.tmp 2) (.tmp 25) rfl 32 size26 w.heap.size (r.map B).toArray rfl rfl (by simp [Hrl.out]) (oneCell_B _) 25 _ k3 hzl ?_; simp only [Act.put])
  refine np_normal ?_
  go_wp2_with fail
  refine bodyPost_ret (results_cell_row rfl _ _ w.heap.size 25 (r.map B).toArray (0, 0) _ rfl (k3.setRow_ _) Try.underlying25 rfl (by rw [show (r.map B).toArray.size = 32 by simp [Hrl.out]]; exact info26)) rfl ⟨rfl, ?_⟩
  exact below_setRow (hb0.trans (hS.mono hb0.size)) (Nat.le_refl _) _
theorem rof_any (hs : List (List UInt8)) (A : Option Addr) (n c : Nat) (w : World) (h : Hs w (fun _ => True) A n c hs) (hn : n ≤ 4398046511104) :
    Calls Try.prog 46 #[.slice A n c] w fun e w' => e = .returned (.agg ((rootL hs).map B).toArray) ∧ Below w.heap.size w w' := rof_rec n hs A n c w (Nat.le_refl _) h hn
end Go.Proofs.Ytonidnfgneokbaa
/- (*Front).Root, Point. -/
namespace Go.Proofs.Ytonidnfgneokbaa
open Go Go.RowKit Go.Shelf
attribute [local go_sem] Oper.semAt_some

theorem rootG_rev (ps : FrV) (h : ps ≠ []) : rootG ps = (((hashF ps).reverse).drop 1).foldl (fun h x => hNode x h) (((hashF ps).reverse).getD 0 []) := by
  rcases snoc_cases ps with rfl | ⟨a, q, rfl⟩
  · exact absurd rfl h
  · have e : (hashF (a ++ [q])).reverse = q.2 :: a.reverse.map (·.2) := by simp [hashF, List.map_reverse]
    rw [e, rootG_snoc]
    rfl
theorem length_foldN (l : List (List UInt8)) (h : List UInt8) (hh : h.length = 32) : (l.foldl (fun h x => hNode x h) h).length = 32 := by
  induction l generalizing h with
  | nil => exact hh
  | cons x l ih => exact ih _ (length_hNode _ _)

set_option maxHeartbeats 4000000 in
set_option maxRecDepth 100000 in
theorem froot_nil (w : World) : Calls Try.prog 45 #[.pointer none] w fun e w' => e = .returned (.agg ((List.replicate 32 (0 : UInt8)).map B).toArray) ∧ Below w.heap.size w w' := by
  have h32 : (List.replicate 32 (0 : UInt8)).length = 32 := rfl
  obtain ⟨z, hz⟩ : ∃ z, List.replicate 32 (0 : UInt8) = z := ⟨_, rfl⟩
  rw [hz] at h32 ⊢
  have Hz := Lib.hid hz
  clear hz
  go_enter Try.func45, Try.ntmps45
  go_wp2_with (first
    | ((with_reducible show wpList _ _ _ (⟨some 2, .alloc _, _, _, _, _⟩ :: _) _ _); refine wpList_hnew rfl rfl ?_; intro w1 k2 hb1; simp only [Act.put])
    | ((with_reducible show wpList _ _ _ (⟨some 10, .build _ _, _, _, _, _⟩ :: _) _ _); refine wpList_run0 rfl (.agg (z.map B).toArray) (by rw [← Hz.out]; kernel_rfl) ?_; simp only [Act.put])
    | ((with_reducible show wpList _ _ _ [⟨none, .store _ (.tmp 2) _, _, _, _, _⟩] _ _); refine wpList_hset (.tmp 2) (.tmp 10) rfl rfl k2 rfl rfl h32 ?_; intro w2 k2b hb2 hW2; clear hW2; simp only [Act.put]))
  exact bodyPost_ret (ret_hash rfl rfl k2b) rfl ⟨rfl, hb1.trans hb2⟩
set_option maxHeartbeats 4000000 in
set_option maxRecDepth 100000 in
theorem froot_any (g : Nat) (ps : FrV) (w : World) (h : FrO w g ps) (ho : FrOk ps) : Calls Try.prog 45 #[fptr g] w fun e w' => e = .returned (.agg ((rootG ps).map B).toArray) ∧ Below w.heap.size w w' := by
  have hlen63 := ho.len
  obtain ⟨A, n, c, hk, hP⟩ := h.ex
  have hlen : ps.length = n := by rw [← hP.len, length_fpc]
  have hkg := hk.lt
  by_cases h0 : ps = []
  · subst h0
    obtain rfl : n = 0 := hlen.symm
    have hem : (rootG []).length = 32 := length_hEmpty
    have hcall := fun W => hempty_any W
    obtain ⟨z, hz⟩ : ∃ z, hEmpty = z := ⟨_, rfl⟩
    have hz2 : rootG [] = z := hz
    rw [hz] at hcall
    rw [hz2] at hem ⊢
    have Hcall := Lib.hid hcall
    have Hk := Lib.hid hk
    clear hz hz2 hcall hlen hP h ho hlen63 hk
    go_enter Try.func45, Try.ntmps45
    go_wp2_with (first
      | ((with_reducible show wpList _ _ _ (⟨some 2, .alloc _, _, _, _, _⟩ :: _) _ _); refine wpList_hnew rfl rfl ?_; intro w1 k2 hb1; have c14 : w1.cell? ⟨g, 0, none⟩ = some (.slice A 0 c) := (by rw [(Hk.out.step hb1).cell]; rfl); simp only [Act.put])
      | (go_at_call 105; refine (Hcall.out w1).mono ?_; rintro e w2 ⟨rfl, hb2⟩; replace k2 := k2.step hb2)
      | ((with_reducible show wpList _ _ _ [⟨none, .store _ (.tmp 2) _, _, _, _, _⟩] _ _); refine wpList_hset (.tmp 2) (.tmp 18) rfl rfl k2 rfl rfl hem ?_; intro w3 k2b hb3 hW2; clear hW2; simp only [Act.put]))
    exact bodyPost_ret (ret_hash rfl rfl k2b) rfl ⟨rfl, (hb1.trans (hb2.mono hb1.size)).trans hb3⟩
  · have hn0 : 0 < n := by rw [← hlen]; exact List.length_pos_iff.2 h0
    have hne0 : ((n : Int) == 0) = false := by simp; omega
    have hrt := rootG_rev ps h0
    have h32 := hashF_32 ps ho.h32
    have hpa := fun W (hb : Below w.heap.size w W) => fparts_any (fptr g) ps W rfl (allOk_some (h.step hb) ho.h62 (by omega)) ho.h32 (by omega)
    have hrl : ((hashF ps).reverse).length = n := by rw [List.length_reverse, hashF, List.length_map, hlen]
    have hhl : (hashF ps).length = n := by rw [hashF, List.length_map, hlen]
    have hr32 : H32 ((hashF ps).reverse) := fun x hx => h32 x (List.mem_reverse.1 hx)
    rw [hhl] at hpa
    obtain ⟨os, hos⟩ : ∃ o, hashF ps = o := ⟨_, rfl⟩
    rw [hos] at hpa hrl hr32 hrt h32 hhl
    rw [hrt]
    obtain ⟨rs, hrs⟩ : ∃ r, os.reverse = r := ⟨_, rfl⟩
    have hrv := fun v base W hv => revh_any os v n base W hv hhl h32 (by omega)
    rw [hrs] at hrl hr32 hrv ⊢
    have hr0 := hr32.getD 0 (by omega)
    obtain ⟨r0, hr0e⟩ : ∃ r, rs.getD 0 [] = r := ⟨_, rfl⟩
    rw [hr0e] at hr0 ⊢
    obtain ⟨m, rfl⟩ : ∃ m, n = m + 1 := ⟨n - 1, by omega⟩
    obtain ⟨rest, hrest⟩ : ∃ r, rs.drop 1 = r := ⟨_, rfl⟩
    rw [hrest]
    have hrel : rest.length = m := by rw [← hrest, List.length_drop, hrl]; rfl
    obtain ⟨res, hres⟩ : ∃ r, rest.foldl (fun h x => hNode x h) r0 = r := ⟨_, rfl⟩
    have hresl : res.length = 32 := by rw [← hres]; exact length_foldN _ _ hr0
    rw [hres]
    have Hres := Lib.hid hres
    have Hresl := Lib.hid hresl
    have Hrl' := Lib.hid hrel
    have Hrest := Lib.hid hrest
    clear hres hresl hrel hrest
    have Hk := Lib.hid hk
    have Hpa := Lib.hid hpa
    have Hrv := Lib.hid hrv
    have Hrl := Lib.hid hrl
    have Hr32 := Lib.hid hr32
    have Hr0 := Lib.hid hr0
    have Hr0e := Lib.hid hr0e
    have hm63 : m ≤ 63 := by omega
    clear hk hpa hrv hrl hr32 hr0 hr0e hrs hos hrt h32 hhl hlen hP h ho hlen63
    go_enter Try.func45, Try.ntmps45
    go_wp2_with (first
      | ((with_reducible show wpList _ _ _ (⟨some 2, .alloc _, _, _, _, _⟩ :: _) _ _); refine wpList_hnew rfl rfl ?_; intro w1 k2 hb1; have hs1 := k2.lt; have c14 : w1.cell? ⟨g, 0, none⟩ = some (.slice A (m + 1) c) := (by rw [(Hk.out.step hb1).cell]; rfl); simp only [Act.put])
      | (go_at_call 68; refine (Hpa.out w1 hb1).mono ?_; rintro e w2 ⟨v, rfl, ho2, hb2⟩; obtain ⟨gb, cv, rfl, hgb⟩ := owns_someB ho2 (by omega); replace k2 := k2.step hb2)
      | (go_at_call 106; refine (Hrv.out _ _ w2 ho2).mono ?_; rintro e w3 ⟨⟨rr, rfl⟩, ho3, hg3⟩; replace k2 : HV w3 w.heap.size (List.replicate 32 0) := ⟨k2.blk.grown hg3 (fun e => by have e : w.heap.size = gb := Option.some.inj e; omega), k2.len⟩; obtain ⟨A_, c_, e_, hH3⟩ := owns_hs ho3 Hrl.out Hr32.out; injection e_ with e1_ _ e2_; subst e1_ e2_; have hroom := hH3.sl.room; have hmx := hH3.sl.max)
      | ((with_reducible show wpList _ _ _ (⟨some 25, .load _ _, _, _, _, _⟩ :: _) _ _); refine wpList_run0 rfl (.agg (r0.map B).toArray) (run_load_op 25 (.tmp 24) rfl gb 0 rfl _ (by rw [← Hr0e.out]; exact hH3.get rfl 0 (by omega))) ?_; simp only [Act.put])
      | ((with_reducible show wpList _ _ _ (⟨some 4, .alloc _, _, _, _, _⟩ :: _) _ _); refine wpList_hvar (.tmp 4) (.tmp 25) rfl rfl rfl rfl rfl rfl Hr0.out ?_; intro w4 k4 hb4; simp only [Act.put])
      | ((with_reducible show wpList _ _ _ (⟨some 27, .slice _ _ _ _ _, _, _, _, _⟩ :: _) _ _); refine wpList_run0 rfl _ (run_slice_op_lo (.tmp 26) (.const (.int .i64 1)) rfl (some ⟨gb, 0, none⟩) (m + 1) cv 1 rfl rfl (by omega) _) ?_; generalize hA1 : (if cv = 1 then some (⟨gb, 0, none⟩ : Addr) else (some (⟨gb, 0, none⟩ : Addr)).map (·.add (1 * 32))) = A1; simp only [Act.put]))
    have hH4 := ((hH3.weak (Y := fun b => b < w3.heap.size) fun b hb _ => hb).step hb4).drop 1 (by omega)
    rw [hA1, Nat.add_sub_cancel] at hH4
    obtain ⟨c1, hc1⟩ : ∃ c1, cv - 1 = c1 := ⟨_, rfl⟩
    have hroom4 := hH4.sl.room
    have hmx4 := hH4.sl.max
    unfold maxLen at hmx4
    rw [hc1] at hH4 hroom4 hmx4 ⊢
    rw [Hrest.out] at hH4
    have hbase : Below w.heap.size w w3 := (hb1.trans (hb2.mono hb1.size)).grown hg3 (Nat.le_trans hb1.size hb2.size) (fun r e => by have e : gb = r := Option.some.inj e; omega)
    have hbel4 := hbase.trans (hb4.mono hbase.size)
    have k24 := k2.step hb4
    have hwb : w.heap.size < w3.heap.size := Nat.lt_of_lt_of_le hs1 (Nat.le_trans hb2.size hg3.size)
    have hmm : (((m + 1 : Nat) : Int) - 1) = (m : Int) := by omega
    obtain ⟨b4, hb4e⟩ : ∃ b, w3.heap.size = b := ⟨_, rfl⟩
    rw [hb4e] at hH4 k4 hwb ⊢
    clear hb4e hA1 hbase k2 hb4 hH3 hroom hmx hg3 ho3 ho2 hgb hb2 c14 hb1 hs1 Hk Hpa Hrv Hrl Hr32 Hr0e hc1
    go_loopw [6, 29] (fun _ i wr => ∃ k : Nat, k ≤ m ∧ i = .int .i64 k ∧ HV wr b4 ((rest.take k).foldl (fun h x => hNode x h) r0) ∧ Hs wr (fun b => b < b4) A1 m c1 rest ∧ HV wr w.heap.size (List.replicate 32 0) ∧ Below w.heap.size w wr) (fun _ i _ => m - (intOf i).toNat)
    case atStart => exact ⟨0, Nat.zero_le _, rfl, k4, hH4, k24, hbel4⟩
    case round =>
      clear k4 hH4 k24 hbel4
      obtain ⟨k, hk, rfl, k4, hH, k2, hbel⟩ := hrel
      by_cases hlt : k < m
      · have hd : decide ((k : Int) < (m : Int)) = true := by simp; omega
        have hwk : IntKind.i64.wrap ((k : Int) + 1) = (k : Int) + 1 := IntWalk.i64_in _ (by omega)
        obtain ⟨b, o, rfl, -, -, -⟩ := hH.at_ (by omega)
        have hget := hH.get rfl k hlt
        have hx32 := hH.all.getD k (by rw [Hrl'.out]; exact hlt)
        have hsn : (rest.take (k + 1)).foldl (fun h x => hNode x h) r0 = hNode (rest.getD k []) ((rest.take k).foldl (fun h x => hNode x h) r0) := by rw [take_snocF rest k (by rw [Hrl'.out]; exact hlt), List.foldl_append]; rfl
        obtain ⟨x, hx⟩ : ∃ x, rest.getD k [] = x := ⟨_, rfl⟩
        obtain ⟨cur, hcur⟩ : ∃ x, (rest.take k).foldl (fun h x => hNode x h) r0 = x := ⟨_, rfl⟩
        rw [hx] at hget hx32 hsn
        rw [hcur] at hsn k4
        have hcl := k4.len
        have hnl := length_hNode x cur
        have hcm := fun W => hnode_any x cur W hx32 hcl
        obtain ⟨nx, hnx⟩ : ∃ n, hNode x cur = n := ⟨_, rfl⟩
        rw [hnx] at hsn hnl hcm
        have Hget := Lib.hid hget
        have Hx32 := Lib.hid hx32
        have Hsn := Lib.hid hsn
        have Hcm := Lib.hid hcm
        have Hnl := Lib.hid hnl
        clear hget hx32 hsn hcm hx hcur hnx hcl hnl
        go_wp2_with (first
          | ((with_reducible show wpList _ _ _ (⟨some 32, .load _ _, _, _, _, _⟩ :: _) _ _); refine wpList_run0 rfl (.agg (x.map B).toArray) (run_load_op 25 (.tmp 31) rfl b (o + k * 32) rfl _ Hget.out) ?_; simp only [Act.put])
          | ((with_reducible show wpList _ _ _ (⟨some 6, .alloc _, _, _, _, _⟩ :: _) _ _); refine wpList_hvar (.tmp 6) (.tmp 32) rfl rfl rfl rfl rfl rfl Hx32.out ?_; intro w5 k6 hb5; replace k4 := k4.step hb5; simp only [Act.put])
          | ((with_reducible show wpList _ _ _ (⟨some 33, .load _ _, _, _, _, _⟩ :: _) _ _); refine wpList_hload (.tmp 6) (by kernel_rfl) rfl k6 rfl ?_; simp only [Act.put])
          | ((with_reducible show wpList _ _ _ (⟨some 34, .load _ _, _, _, _, _⟩ :: _) _ _); refine wpList_hload (.tmp 4) (by kernel_rfl) rfl k4 rfl ?_; simp only [Act.put])
          | (go_at_call 107; refine (Hcm.out w5).mono ?_; rintro e w6 ⟨rfl, hb6⟩; replace k4 := k4.step hb6)
          | ((with_reducible show wpList _ _ _ [⟨none, .store _ (.tmp 4) _, _, _, _, _⟩] _ _); refine wpList_hset (.tmp 4) (.tmp 35) rfl rfl k4 rfl rfl Hnl.out ?_; intro w7 k4b hb7 hW2; clear hW2; simp only [Act.put]))
        go_roundw
        case rel => exact ⟨k + 1, by omega, by go_num, by rw [Hsn.out]; exact k4b, (((hH.step hb5).step hb6).below hb7 fun b _ h => h), ((k2.step hb5).step hb6).far hb7 hwb, ((hbel.trans (hb5.mono hbel.size)).trans (hb6.mono (Nat.le_trans hbel.size hb5.size))).trans (hb7.mono (Nat.le_of_lt hwb))⟩
        case measure => simp [intOf]; omega
      · obtain rfl : k = m := by omega
        have hd : decide ((k : Int) < (k : Int)) = false := by simp
        rw [List.take_of_length_le (by rw [Hrl'.out]; exact Nat.le_refl _), Hres.out] at k4
        go_wp2_with (first
          | ((with_reducible show wpList _ _ _ (⟨some 37, .load _ _, _, _, _, _⟩ :: _) _ _); refine wpList_hload (.tmp 4) (by kernel_rfl) rfl k4 rfl ?_; simp only [Act.put])
          | ((with_reducible show wpList _ _ _ [⟨none, .store _ (.tmp 2) _, _, _, _, _⟩] _ _); refine wpList_hset (.tmp 2) (.tmp 37) rfl rfl k2 rfl rfl Hresl.out ?_; intro w7 k2b hb7 hW2; clear hW2; simp only [Act.put]))
        exact bodyPost_ret (ret_hash rfl rfl k2b) rfl ⟨rfl, hbel.trans hb7⟩
end Go.Proofs.Ytonidnfgneokbaa
/- (*Front).Point, Same, Copy. -/
namespace Go.Proofs.Ytonidnfgneokbaa
open Go Go.RowKit Go.Shelf
attribute [local go_sem] Oper.semAt_some

theorem builtPtF (n : Int) (l : List UInt8) (h : l.length = 32) : Try.prog.built 109 [(0, .int .i64 n), (1, .agg (l.map B).toArray)] = some (.int .i64 n :: l.map B).toArray := by
  obtain ⟨a0, a1, a2, a3, a4, a5, a6, a7, a8, a9, a10, a11, a12, a13, a14, a15, a16, a17, a18, a19, a20, a21, a22, a23, a24, a25, a26, a27, a28, a29, a30, a31, rfl⟩ := explode32 l h
  kernel_rfl
theorem run_build_ptF {ρ : Operand → Value} {o : Oper} (x y : Operand) (n : Int) (l : List UInt8) (hl : l.length = 32) (ho : o.op = .build 109 #[(0, x), (1, y)]) (hx : ρ x = .int .i64 n) (hy : ρ y = .agg (l.map B).toArray) (W : World) :
    (execOp ρ o).run Try.prog W = .ok (.value (.agg (.int .i64 n :: l.map B).toArray)) W := by
  have h : (Instr.build 109 #[(0, .int .i64 n), (1, .agg (l.map B).toArray)]).run Try.prog W = .ok (.agg (.int .i64 n :: l.map B).toArray) W := run_build W 109 _ _ (builtPtF n l hl)
  unfold execOp
  have hm : (#[(0, x), (1, y)] : Array (Nat × Operand)).map (fun (i, x) => (i, ρ x)) = #[(0, .int .i64 n), (1, .agg (l.map B).toArray)] := by simp [hx, hy]
  simp only [ho, Sem.run_bind, Sem.run_pure, hm, h, Result.andThen_ok]
theorem ptAggF : ∀ w : World, (isAgg 109).run Try.prog w = .ok true w := fun _ => by kernel_rfl
theorem ptSizeF : ∀ w : World, (sizeOf 109).run Try.prog w = .ok 33 w := fun _ => by kernel_rfl

theorem ret_pt {fn : Func} {p : Tmp} {tmps : Array Value} {W : World} {g : Nat} {n : Int} {l : List UInt8} (h : fn.results = #[.cell p 109]) (hp : tmps.getD p undef = .pointer (some ⟨g, 0, none⟩)) (k : PcB W g 109 n l) : (results fn tmps).run Try.prog W = .ok (.agg (.int .i64 n :: l.map B).toArray) W := by
  exact results_cell_row h tmps W g 109 (Value.int .i64 n :: l.map B).toArray (0, 0) _ hp k.blk Try.underlying109 rfl (by rw [show (Value.int .i64 n :: l.map B).toArray.size = 33 by simp [k.len]]; kernel_rfl)
/-- a new box of 33 cells -/
theorem wpList_boxnew {T : TypeId} {w : World} {ops : Array Oper} {rest : List Oper} {o1 : Oper} {a : Act} {Q : Exit → Act → World → Prop} (hz : ∀ W : World, (execOp a.eval o1).run Try.prog W = .ok (.value (.pointer (some ⟨W.heap.size, 0, none⟩))) (W.alloc (.cells (.int .i64 0 :: (List.replicate 32 (0 : UInt8)).map B).toArray T))) (hg1 : o1.guard = none)
    (h : ∀ W, PcB W w.heap.size T 0 (List.replicate 32 0) → Below w.heap.size w W → wpList Try.prog ops Q rest (a.put o1.dst (.pointer (some ⟨w.heap.size, 0, none⟩))) W) : wpList Try.prog ops Q (o1 :: rest) a w :=
  wpList_run hg1 _ _ (hz w) (h _ ⟨Blk.new _ _ _, rfl⟩ ((Below.refl _ _).alloc (Nat.le_refl _) _))
set_option maxRecDepth 100000 in
theorem wpList_boxset {T : TypeId} (hs : ∀ w : World, (sizeOf T).run Try.prog w = .ok 33 w) {w : World} {ops : Array Oper} {rest : List Oper} {o2 : Oper} {a : Act} {Q : Exit → Act → World → Prop} {g : Nat} {n n' : Int} {l l' : List UInt8} (x y : Operand) (hg2 : o2.guard = none) (ho2 : o2.op = .store T x y) (k : PcB w g T n' l')
    (hx : a.eval x = .pointer (some ⟨g, 0, none⟩)) (hy : a.eval y = .agg (.int .i64 n :: l.map B).toArray) (hl : l.length = 32)
    (h : ∀ W, PcB W g T n l → Below g w W → wpList Try.prog ops Q rest (a.put o2.dst undef) W) : wpList Try.prog ops Q (o2 :: rest) a w :=
  wpList_store_blk hg2 T x y ho2 33 hs g (.int .i64 n :: l.map B).toArray hx hy (by simp [hl]) (oneCell_pc n l) T _ k.blk (by simp [k.len])
    (h _ ⟨k.blk.setRow_ _, hl⟩ (below_setRow (Below.refl _ _) (Nat.le_refl _) _))

set_option maxHeartbeats 4000000 in
set_option maxRecDepth 100000 in
theorem fpoint_any (f : Value) (n : Nat) (root : List UInt8) (w : World) (hrl : root.length = 32)
    (hs : ∀ W, Below w.heap.size w W → Calls Try.prog 43 #[f] W fun e w' => e = .returned (.int .i64 (n : Int)) ∧ Below W.heap.size W w')
    (hr : ∀ W, Below w.heap.size w W → Calls Try.prog 45 #[f] W fun e w' => e = .returned (.agg (root.map B).toArray) ∧ Below W.heap.size W w') :
    Calls Try.prog 67 #[f] w fun e w' => e = .returned (.agg (.int .i64 (n : Int) :: root.map B).toArray) ∧ Below w.heap.size w w' := by
  have Hs := Lib.hid hs
  have Hr := Lib.hid hr
  clear hs hr
  go_enter Try.func67, Try.ntmps67
  go_wp2_with (first
    | ((with_reducible show wpList _ _ _ (⟨some 2, .alloc _, _, _, _, _⟩ :: _) _ _); refine wpList_boxnew (T := 109) (fun W => by kernel_rfl) rfl ?_; intro w1 k2 hb1; simp only [Act.put])
    | (go_at_call 43; refine (Hs.out w1 hb1).mono ?_; rintro e w2 ⟨rfl, hb2⟩; have hb12 := hb1.trans (hb2.mono hb1.size); replace k2 := k2.step hb2)
    | (go_at_call 45; refine (Hr.out w2 hb12).mono ?_; rintro e w3 ⟨rfl, hb3⟩; replace k2 := k2.step hb3)
    | ((with_reducible show wpList _ _ _ (⟨some 7, .build _ _, _, _, _, _⟩ :: _) _ _); refine wpList_run0 rfl (.agg (Value.int .i64 (n : Int) :: root.map B).toArray) (run_build_ptF (.tmp 4) (.tmp 6) (n : Int) root hrl rfl rfl rfl _) ?_; simp only [Act.put])
    | ((with_reducible show wpList _ _ _ [⟨none, .store _ (.tmp 2) _, _, _, _, _⟩] _ _); refine wpList_boxset ptSizeF (.tmp 2) (.tmp 7) rfl rfl k2 rfl rfl hrl ?_; intro w4 k2b hb4; simp only [Act.put]))
  exact bodyPost_ret (ret_pt rfl rfl k2b) rfl ⟨rfl, (hb12.trans (hb3.mono hb12.size)).trans hb4⟩

set_option maxHeartbeats 4000000 in
set_option maxRecDepth 100000 in
theorem same1_any (a b : PcV) (w : World) (ha : a.2.length = 32) (hb : b.2.length = 32) : Calls Try.prog 121 #[.agg (pccell a).toArray, .agg (pccell b).toArray] w fun e w' => e = .returned (.bool (decide (a = b))) ∧ Below w.heap.size w w' := by
  obtain ⟨n, x⟩ := a
  obtain ⟨m, y⟩ := b
  have ha : x.length = 32 := ha
  have hb : y.length = 32 := hb
  obtain ⟨w1, hw1⟩ : ∃ w1, w.alloc (.cells (Value.int .i64 n :: x.map B).toArray 156) = w1 := ⟨_, rfl⟩
  obtain ⟨w2, hw2⟩ : ∃ w2, w1.alloc (.cells (Value.int .i64 m :: y.map B).toArray 156) = w2 := ⟨_, rfl⟩
  have hb1 : Below w.heap.size w w1 := by rw [← hw1]; exact (Below.refl _ _).alloc (Nat.le_refl _) _
  have hb2 : Below w1.heap.size w1 w2 := by rw [← hw2]; exact (Below.refl _ _).alloc (Nat.le_refl _) _
  have k2 : PcB w2 w.heap.size 156 n x := PcB.step ⟨by rw [← hw1]; exact Blk.new _ _ _, ha⟩ hb2
  have k3 : PcB w2 w1.heap.size 156 m y := ⟨by rw [← hw2]; exact Blk.new _ _ _, hb⟩
  have Hw1 := Lib.hid hw1
  have Hw2 := Lib.hid hw2
  have c2 : w2.cell? ⟨w.heap.size, 0, none⟩ = some (.int .i64 n) := k2.num
  have c3 : w2.cell? ⟨w1.heap.size, 0, none⟩ = some (.int .i64 m) := k3.num
  obtain ⟨r, hr⟩ : ∃ r, decide ((n, x) = (m, y)) = r := ⟨_, rfl⟩
  rw [hr]
  by_cases hnm : n = m
  · subst hnm
    have heq : (n == n) = true := by simp
    obtain rfl : (x == y) = r := by rw [← hr]; by_cases h : x = y <;> simp [h]
    clear hw1 hw2 hr
    go_enter Try.func121, Try.ntmps121
    go_wp2_with (first
      | rw [Hw1.out]
      | rw [Hw2.out]
      | ((with_reducible show wpList _ _ _ (⟨some 12, .load _ _, _, _, _, _⟩ :: _) _ _); refine wpList_runG (by kernel_rfl) (.agg (x.map B).toArray) _ (run_load_op 25 (.tmp 11) rfl _ 1 rfl _ k2.hash) ?_; simp only [Act.put])
      | ((with_reducible show wpList _ _ _ (⟨some 14, .load _ _, _, _, _, _⟩ :: _) _ _); refine wpList_runG (by kernel_rfl) (.agg (y.map B).toArray) _ (run_load_op 25 (.tmp 13) rfl _ 1 rfl _ k3.hash) ?_; simp only [Act.put])
      | ((with_reducible show wpList _ _ _ (⟨some 15, .binOp _ _ _ _ _, _, _, _, _⟩ :: _) _ _); refine wpList_runG (by kernel_rfl) (.bool (x == y)) _ (run_eql26 (.tmp 12) (.tmp 14) _ x y rfl rfl rfl ha hb _) ?_; simp only [Act.put]))
    go_ret
    exact ⟨rfl, hb1.trans (hb2.mono hb1.size)⟩
  · have heq : (n == m) = false := by simp [hnm]
    obtain rfl : false = r := by rw [← hr]; simp [hnm]
    clear hw1 hw2 hr
    go_enter Try.func121, Try.ntmps121
    go_wp2_with (first
      | rw [Hw1.out]
      | rw [Hw2.out])
    go_ret
    exact ⟨rfl, hb1.trans (hb2.mono hb1.size)⟩
end Go.Proofs.Ytonidnfgneokbaa
