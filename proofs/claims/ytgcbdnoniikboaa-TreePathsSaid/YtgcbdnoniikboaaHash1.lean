/- hash.Of, Empty, Leaf, Node. -/
import Derived.Test.YtgcbdnoniikboaaSums
import Derived.Test.YtgcbdnoniikboaaMark
import Derived.Test.YtgcbdnoniikboaaGen
import Derived.Test.YtgcbdnoniikboaaSl
import Derived.Test.YtgcbdnoniikboaaRef5
namespace Go.Proofs.Ytgcbdnoniikboaa
open Go.RowKit

def hLeaf (e : List UInt8) : List UInt8 := sha256 (0 :: e)
def hNode (l r : List UInt8) : List UInt8 := sha256 (1 :: (l ++ r))
def hEmpty : List UInt8 := sha256 []
theorem length_hLeaf (e : List UInt8) : (hLeaf e).length = 32 := length_sha256 _
theorem length_hNode (l r : List UInt8) : (hNode l r).length = 32 := length_sha256 _
theorem length_hEmpty : hEmpty.length = 32 := length_sha256 _

set_option maxHeartbeats 400000 in
set_option maxRecDepth 100000 in
theorem hof_any (ls : List (List UInt8)) (A : Option Addr) (n c : Nat) (w : World) (hn : n = ls.length) (h : BsS w (· < w.heap.size) A ls) (hmax : n ≤ 9223372036854775807) (hl : ls.flatten.length ≤ 1152921504606846976) :
    Calls Try.prog 75 #[.slice A n c] w fun e w' => e = .returned (.agg ((sha256 ls.flatten).map B).toArray) ∧ Below w.heap.size w w' := by
  obtain ⟨r, hr⟩ : ∃ r, sha256 ls.flatten = r := ⟨_, rfl⟩
  have hrl : r.length = 32 := by rw [← hr]; exact length_sha256 _
  obtain ⟨zs, hzs⟩ : ∃ zs, zeroHash = zs := ⟨_, rfl⟩
  have hb := (Below.refl w.heap.size w).alloc (Nat.le_refl _) (.cells zs 34)
  have hs := shasum_any ls A n c (w.alloc (.cells zs 34)) hn ((h.below hb (fun _ h _ => h)).weak fun _ hb _ => hb) hmax hl
  rw [hr] at hs ⊢
  have k0 := Blk.new w 34 zs
  have hzl : zs.size = 32 := by rw [← hzs]; rfl
  have Hs := Lib.hid hs
  have Hzs := Lib.hid hzs
  have Hrl := Lib.hid hrl
  have Hr := Lib.hid hr
  clear hs hzs hrl hr hn h
  go_enter Try.func75, Try.ntmps75
  go_wp2_with (first
    | ((with_reducible show wpList _ _ _ (⟨some 2, .alloc _, _, _, _, _⟩ :: _) _ _); refine wpList_run rfl (.pointer (some ⟨w.heap.size, 0, none⟩)) (w.alloc (.cells zs 34)) (by rw [← Hzs.out]; rfl) ?_; simp only [Act.put])
    | (go_at_call 78; refine Hs.out.mono ?_; rintro e w1 ⟨rfl, hb1⟩; have k1 := k0.below hb1 (by simp); have B1 := hb.trans (hb1.mono (by simp)))
    | ((with_reducible show wpList _ _ _ (⟨none, .store _ _ _, _, _, _, _⟩ :: _) _ _); refine wpList_store_blk rfl 34 (.tmp 2) (.tmp 4) rfl 32 size26 w.heap.size (r.map B).toArray rfl rfl (by simp [Hrl.out]) (oneCell_B _) 34 _ k1 hzl ?_; simp only [Act.put]))
  refine bodyPost_ret (results_cell_row rfl _ _ w.heap.size 34 (r.map B).toArray (0, 0) _ rfl (k1.setRow_ _) Try.underlying34 rfl (by rw [show (r.map B).toArray.size = 32 by simp [Hrl.out]]; exact info26)) rfl ⟨rfl, ?_⟩
  exact below_setRow B1 (Nat.le_refl _) _

set_option maxHeartbeats 400000 in
set_option maxRecDepth 100000 in
theorem hempty_any (w : World) :
    Calls Try.prog 63 #[] w fun e w' => e = .returned (.agg (hEmpty.map B).toArray) ∧ Below w.heap.size w w' := by
  obtain ⟨r, hr⟩ : ∃ r, hEmpty = r := ⟨_, rfl⟩
  have hrl : r.length = 32 := by rw [← hr]; exact length_hEmpty
  obtain ⟨zs, hzs⟩ : ∃ zs, zeroHash = zs := ⟨_, rfl⟩
  have hb := (Below.refl w.heap.size w).alloc (Nat.le_refl _) (.cells zs 34)
  have hs := hof_any [] none 0 0 (w.alloc (.cells zs 34)) rfl ⟨[], Bs.nil, rfl, fun i hi => absurd hi (by simp)⟩ (by omega) (by simp)
  rw [show sha256 [].flatten = r from hr] at hs
  rw [hr]
  have k0 := Blk.new w 34 zs
  have hzl : zs.size = 32 := by rw [← hzs]; rfl
  have Hs := Lib.hid hs
  have Hzs := Lib.hid hzs
  have Hrl := Lib.hid hrl
  clear hs hzs hrl hr
  go_enter Try.func63, Try.ntmps63
  go_wp2_with (first
    | ((with_reducible show wpList _ _ _ (⟨some 0, .alloc _, _, _, _, _⟩ :: _) _ _); refine wpList_run rfl (.pointer (some ⟨w.heap.size, 0, none⟩)) (w.alloc (.cells zs 34)) (by rw [← Hzs.out]; rfl) ?_; simp only [Act.put])
    | (go_at_call 75; refine Hs.out.mono ?_; rintro e w1 ⟨rfl, hb1⟩; have k1 := k0.below hb1 (by simp); have B1 := hb.trans (hb1.mono (by simp)))
    | ((with_reducible show wpList _ _ _ (⟨none, .store _ _ _, _, _, _, _⟩ :: _) _ _); refine wpList_store_blk rfl 34 (.tmp 0) (.tmp 1) rfl 32 size26 w.heap.size (r.map B).toArray rfl rfl (by simp [Hrl.out]) (oneCell_B _) 34 _ k1 hzl ?_; simp only [Act.put]))
  refine bodyPost_ret (results_cell_row rfl _ _ w.heap.size 34 (r.map B).toArray (0, 0) _ rfl (k1.setRow_ _) Try.underlying34 rfl (by rw [show (r.map B).toArray.size = 32 by simp [Hrl.out]]; exact info26)) rfl ⟨rfl, ?_⟩
  exact below_setRow B1 (Nat.le_refl _) _

/-- slices of bytes that have just been put side by side -/
theorem BsS.lit (w : World) (vs : List Value) (ls : List (List UInt8)) (hl : vs.length = ls.length) (h : ∀ i (h : i < ls.length), ∃ Ai ci, vs[i]? = some (.slice Ai (ls[i]).length ci) ∧ (ls[i]).length ≤ ci ∧ Bs w (fun _ => True) Ai ((ls[i]).map B)) :
    BsS (w.alloc (.cells vs.toArray 32)) (· < (w.alloc (.cells vs.toArray 32)).heap.size) (some ⟨w.heap.size, 0, none⟩) ls :=
  ⟨vs, (Bs.new w (fun _ => True) _ _ trivial).weak fun _ hb _ => hb, hl, fun i hi => let ⟨Ai, ci, h1, h2, h3⟩ := h i hi; ⟨Ai, ci, h1, h2, (h3.alloc _).weak fun _ hb _ => hb⟩⟩

set_option maxHeartbeats 400000 in
set_option maxRecDepth 100000 in
theorem hleaf_any (l : List UInt8) (A : Option Addr) (n c : Nat) (w : World) (h : Sl w (fun _ => True) A n c l) (hl : n < 1152921504606846976) :
    Calls Try.prog 74 #[.slice A n c] w fun e w' => e = .returned (.agg ((hLeaf l).map B).toArray) ∧ Below w.heap.size w w' := by
  obtain ⟨r, hr⟩ : ∃ r, hLeaf l = r := ⟨_, rfl⟩
  have hrl : r.length = 32 := by rw [← hr]; exact length_hLeaf l
  have hll := h.len
  have hroom := h.room
  obtain ⟨zs, hzs⟩ : ∃ zs, zeroHash = zs := ⟨_, rfl⟩
  obtain ⟨w1, hw1⟩ : ∃ w1, (w.alloc (.cells zs 34)).alloc (.cells #[.int .u8 0] 5) = w1 := ⟨_, rfl⟩
  have hb : Below w.heap.size w w1 := by rw [← hw1]; exact ((Below.refl _ _).alloc (Nat.le_refl _) _).alloc (by simp) _
  have h1 : Sl w1 (fun _ => True) A n c l := by rw [← hw1]; exact (h.alloc _).alloc _
  have h0 : Bs w1 (fun _ => True) (some ⟨w.heap.size + 1, 0, none⟩) ([(0 : UInt8)].map B) := by
    rw [← hw1]
    have := Bs.new (w.alloc (.cells zs 34)) (fun _ => True) 5 ([(0 : UInt8)].map B) trivial
    rw [show (w.alloc (.cells zs 34)).heap.size = w.heap.size + 1 by simp] at this
    exact this
  have k0 : Blk w1 w.heap.size 34 zs := by rw [← hw1]; exact (Blk.new _ _ _).alloc _
  have hsz : w1.heap.size = w.heap.size + 1 + 1 := by rw [← hw1]; simp
  have hs := hof_any [[0], l] (some ⟨w1.heap.size, 0, none⟩) 2 2 _ rfl (BsS.lit w1 [.slice (some ⟨w.heap.size + 1, 0, none⟩) 1 1, .slice A n c] [[0], l] rfl fun i hi => by
    match i, hi with
    | 0, _ => exact ⟨_, _, rfl, Nat.le_refl _, h0⟩
    | 1, _ => exact ⟨A, c, by simp [hll], by simp [hll]; omega, h1.bs⟩) (by decide) (by simp [hll]; omega)
  rw [show sha256 [[0], l].flatten = r by rw [← hr]; simp [hLeaf]] at hs
  rw [hr]
  have hzl : zs.size = 32 := by rw [← hzs]; rfl
  have Hs := Lib.hid hs
  have Hzs := Lib.hid hzs
  have Hrl := Lib.hid hrl
  have Hw1 := Lib.hid hw1
  have Hsz := Lib.hid hsz
  clear hs hzs hrl hr h0 h1 hll hw1 hsz h
  go_enter Try.func74, Try.ntmps74
  go_wp2_with (first
    | ((with_reducible show wpList _ _ _ (⟨some 2, .alloc _, _, _, _, _⟩ :: _) _ _); refine wpList_run rfl (.pointer (some ⟨w.heap.size, 0, none⟩)) (w.alloc (.cells zs 34)) (by rw [← Hzs.out]; rfl) ?_; simp only [Act.put])
    | (go_at_call 75; rw [Hw1.out, ← Hsz.out]; refine Hs.out.mono ?_; rintro e w2 ⟨rfl, hb2⟩; have k1 := (k0.alloc _).below hb2 (by have := Hsz.out; simp; omega); have B1 := (hb.alloc hb.size _).trans (hb2.mono (by have := Hsz.out; simp; omega)))
    | ((with_reducible show wpList _ _ _ (⟨none, .store _ _ _, _, _, _, _⟩ :: _) _ _); refine wpList_store_blk rfl 34 (.tmp 2) (.tmp 6) rfl 32 size26 w.heap.size (r.map B).toArray rfl rfl (by simp [Hrl.out]) (oneCell_B _) 34 _ k1 hzl ?_; simp only [Act.put]))
  refine bodyPost_ret (results_cell_row rfl _ _ w.heap.size 34 (r.map B).toArray (0, 0) _ rfl (k1.setRow_ _) Try.underlying34 rfl (by rw [show (r.map B).toArray.size = 32 by simp [Hrl.out]]; exact info26)) rfl ⟨rfl, ?_⟩
  exact below_setRow B1 (Nat.le_refl _) _

theorem slice_all26 (g : Nat) (W : World) : (Instr.sliceAt 34 (.pointer (some ⟨g, 0, none⟩)) none none none).run Try.prog W = .ok (.slice (some ⟨g, 0, none⟩) 32 32) W := by
  rw [run_sliceAt_array_all W _ _ arrT26, size26e, arrN26]
  simp [slicedAt, Result.andThen, Addr.add]

set_option maxHeartbeats 400000 in
set_option maxRecDepth 100000 in
theorem hnode_any (l r : List UInt8) (w : World) (hl : l.length = 32) (hr : r.length = 32) :
    Calls Try.prog 64 #[.agg (l.map B).toArray, .agg (r.map B).toArray] w fun e w' => e = .returned (.agg ((hNode l r).map B).toArray) ∧ Below w.heap.size w w' := by
  obtain ⟨x, hx⟩ : ∃ x, hNode l r = x := ⟨_, rfl⟩
  have hxl : x.length = 32 := by rw [← hx]; exact length_hNode l r
  obtain ⟨zs, hzs⟩ : ∃ zs, zeroHash = zs := ⟨_, rfl⟩
  obtain ⟨lv, hlv⟩ : ∃ lv, (l.map B).toArray = lv := ⟨_, rfl⟩
  obtain ⟨rv, hrv⟩ : ∃ rv, (r.map B).toArray = rv := ⟨_, rfl⟩
  have hzl : zs.size = 32 := by rw [← hzs]; rfl
  rw [hx, hlv, hrv]
  have Hx := Lib.hid hx
  have Hxl := Lib.hid hxl
  have Hzs := Lib.hid hzs
  have Hlv := Lib.hid hlv
  have Hrv := Lib.hid hrv
  clear hx hxl hzs hlv hrv
  have sla := slice_all26
  go_enter Try.func64, Try.ntmps64
  go_upto_region 1 with fail
  refine wp_world (fun W => Blk W w.heap.size 34 lv ∧ Blk W (w.heap.size + 1) 34 rv ∧ Blk W (w.heap.size + 1 + 1) 34 zs ∧ Below w.heap.size w W ∧ w.heap.size + 1 + 1 < W.heap.size) ⟨?_, ?_, ?_, ?_, ?_⟩ ?_
  · exact ((Blk.new _ _ _).alloc _).alloc _
  · exact (Blk.new' _ _ _ _ (by simp)).alloc _
  · rw [← Hzs.out]; exact Blk.new' _ _ _ _ (by simp)
  · exact (((Below.refl _ _).alloc (Nat.le_refl _) _).alloc (by simp) _).alloc (by simp; omega) _
  · simp
  rintro W1 ⟨kl, kr, kz, B1, hW1⟩
  refine wp_region_mix (fun _ => True) [(1, true), (2, true), (0, false), (3, false), (4, false), (5, false)] (by kernel_rfl) (by kernel_rfl) trivial fun _ => ?_
  simp only [List.map_cons, List.map_nil, Array.getD_eq_getD_getElem?, List.getElem?_toArray, List.getElem?_cons_succ, List.getElem?_cons_zero, Option.getD_some]
  replace kl := kl.drew
  replace kr := kr.drew
  replace kz := kz.drew
  replace B1 := B1.drew
  replace hW1 : w.heap.size + 1 + 1 < W1.drew.heap.size := hW1
  generalize W1.drew = W2 at kl kr kz B1 hW1 ⊢
  iterate 2 (refine wpMix_s (fun K hK => ?_); go_simp; refine hK _ ?_; clear hK K)
  refine wpMix_c (fun K hK => ?_) trivial
  go_simp
  refine hK _ _ ?_
  clear hK K
  refine mix_world (fun W => Below W2.heap.size W2 W ∧ Bs W (fun _ => True) (some ⟨W2.heap.size, 0, none⟩) ([(1 : UInt8)].map B)) ⟨(Below.refl _ _).alloc (Nat.le_refl _) _, Bs.new W2 (fun _ => True) 5 ([(1 : UInt8)].map B) trivial⟩ (fun _ _ => trivial) ?_
  rintro W3 ⟨b3, h3⟩
  refine wpMix_c (fun K hK => ?_) trivial
  go_simp
  refine hK _ _ ?_
  clear hK K
  have kl3 := kl.below b3 kl.lt
  have kr3 := kr.below b3 kr.lt
  refine mix_world (fun W => Below W2.heap.size W2 W ∧ BsS W (· < W.heap.size) (some ⟨W3.heap.size, 0, none⟩) [[1], l, r]) ⟨b3.alloc b3.size _, BsS.lit W3 [.slice (some ⟨W2.heap.size, 0, none⟩) 1 1, .slice (some ⟨w.heap.size, 0, none⟩) 32 32, .slice (some ⟨w.heap.size + 1, 0, none⟩) 32 32] [[1], l, r] rfl fun i hi => by
    match i, hi with
    | 0, _ => exact ⟨_, _, rfl, Nat.le_refl _, h3⟩
    | 1, _ => exact ⟨_, 32, by show some _ = some (Value.slice _ l.length 32); rw [hl], by show l.length ≤ 32; omega, by rw [← Hlv.out] at kl3; exact kl3.new_bs⟩
    | 2, _ => exact ⟨_, 32, by show some _ = some (Value.slice _ r.length 32); rw [hr], by show r.length ≤ 32; omega, by rw [← Hrv.out] at kr3; exact kr3.new_bs⟩⟩ (fun _ _ => trivial) ?_
  clear h3 kl3 kr3 b3
  rintro W4 ⟨b4, h4⟩
  refine wpMix_c (fun K hK => ?_) trivial
  go_simp
  refine (hof_any [[1], l, r] _ 3 3 W4 rfl h4 (by decide) (by simp [hl, hr])).mono ?_
  rintro e W5 ⟨rfl, b5⟩
  rw [show sha256 [[1], l, r].flatten = x by rw [← Hx.out]; simp [hNode]]
  refine hK _ _ ?_
  clear hK K
  refine ⟨trivial, ?_⟩
  have b25 := b4.trans (b5.mono b4.size)
  have kz5 := kz.below b25 kz.lt
  have B5 := B1.trans (b25.mono B1.size)
  refine wpMix_store_blk rfl 34 (.tmp 4) (.tmp 9) rfl 32 size26 (w.heap.size + 1 + 1) (x.map B).toArray rfl rfl (by simp [Hxl.out]) (oneCell_B _) 34 _ kz5 hzl trivial ?_
  simp only [Act.put]
  refine wpMix_nil ?_
  intro _
  go_wp2_with fail
  refine bodyPost_ret (results_cell_row rfl _ _ (w.heap.size + 1 + 1) 34 (x.map B).toArray (0, 0) _ rfl (kz5.setRow_ _) Try.underlying34 rfl (by rw [show (x.map B).toArray.size = 32 by simp [Hxl.out]]; exact info26)) rfl ⟨rfl, ?_⟩
  exact below_setRow B5 (by omega) _
end Go.Proofs.Ytgcbdnoniikboaa
