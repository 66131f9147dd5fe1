/- hash.Of, Empty, Leaf, Node. -/
import Derived.Test.YtfhmjgkcpcnkbaaDoorQf105
import Derived.Test.YtfhmjgkcpcnkbaaDoorQf106
import Derived.Test.YtfhmjgkcpcnkbaaDoorQf107
import Derived.Test.YtfhmjgkcpcnkbaaDoorQf109
import Derived.Laws.MakeOwn
import Derived.Deep.FieldsWide
import Derived.Great.BuildSlice
namespace Go.Proofs.YtfhmjgkcpcnkbaaDoor
open Go.RowKit

def hLeaf (e : List UInt8) : List UInt8 := sha256 (0 :: e)
def hNode (l r : List UInt8) : List UInt8 := sha256 (1 :: (l ++ r))
def hEmpty : List UInt8 := sha256 []
theorem length_hLeaf (e : List UInt8) : (hLeaf e).length = 32 := length_sha256 _
theorem length_hNode (l r : List UInt8) : (hNode l r).length = 32 := length_sha256 _
theorem length_hEmpty : hEmpty.length = 32 := length_sha256 _

set_option maxHeartbeats 400000 in
set_option maxRecDepth 100000 in
theorem hof_any (ls : List (List UInt8)) (A : Option Addr) (n c : Nat) (w : World) (hn : n = ls.length) (h : BsS w (· < w.heap.size) A ls) (hmax : n ≤ 9223372036854775807) (hl : ls.flatten.length ≤ 1152921504606846976) :
    Calls Tryd.prog 61 #[.slice A n c] w fun e w' => e = .returned (.agg ((sha256 ls.flatten).map B).toArray) ∧ Below w.heap.size w w' := by
  obtain ⟨r, hr⟩ : ∃ r, sha256 ls.flatten = r := ⟨_, rfl⟩
  have hrl : r.length = 32 := by rw [← hr]; exact length_sha256 _
  obtain ⟨zs, hzs⟩ : ∃ zs, zeroHash = zs := ⟨_, rfl⟩
  have hb := (Below.refl w.heap.size w).alloc (Nat.le_refl _) (.cells zs 48)
  have hs := shasum_any ls A n c (w.alloc (.cells zs 48)) hn ((h.below hb (fun _ h _ => h)).weak fun _ hb _ => hb) hmax hl
  rw [hr] at hs ⊢
  have k0 := Blk.new w 48 zs
  have hzl : zs.size = 32 := by rw [← hzs]; rfl
  have Hs := Lib.hid hs
  have Hzs := Lib.hid hzs
  have Hrl := Lib.hid hrl
  have Hr := Lib.hid hr
  clear hs hzs hrl hr hn h
  go_enter Tryd.func61, Tryd.ntmps61
  go_wp2_with (first
    | ((with_reducible show wpList _ _ _ (⟨some 2, .alloc _, _, _, _, _⟩ :: _) _ _); refine wpList_run rfl (.pointer (some ⟨w.heap.size, 0, none⟩)) (w.alloc (.cells zs 48)) (by rw [← Hzs.out]; rfl) ?_; simp only [Act.put])
    | (go_at_call 79; refine Hs.out.mono ?_; rintro e w1 ⟨rfl, hb1⟩; have k1 := k0.below hb1 (by simp); have B1 := hb.trans (hb1.mono (by simp)))
    | ((with_reducible show wpList _ _ _ (⟨none, .store _ _ _, _, _, _, _⟩ :: _) _ _); refine wpList_store_blk rfl 48 (.tmp 2) (.tmp 4) rfl 32 size26 w.heap.size (r.map B).toArray rfl rfl (by simp [Hrl.out]) (oneCell_B _) 48 _ k1 hzl ?_; simp only [Act.put]))
  refine bodyPost_ret (results_cell_row rfl _ _ w.heap.size 48 (r.map B).toArray (0, 0) _ rfl (k1.setRow_ _) Tryd.underlying48 rfl (by rw [show (r.map B).toArray.size = 32 by simp [Hrl.out]]; exact info26)) rfl ⟨rfl, ?_⟩
  exact below_setRow B1 (Nat.le_refl _) _

set_option maxHeartbeats 400000 in
set_option maxRecDepth 100000 in
theorem hempty_any (w : World) :
    Calls Tryd.prog 41 #[] w fun e w' => e = .returned (.agg (hEmpty.map B).toArray) ∧ Below w.heap.size w w' := by
  obtain ⟨r, hr⟩ : ∃ r, hEmpty = r := ⟨_, rfl⟩
  have hrl : r.length = 32 := by rw [← hr]; exact length_hEmpty
  obtain ⟨zs, hzs⟩ : ∃ zs, zeroHash = zs := ⟨_, rfl⟩
  have hb := (Below.refl w.heap.size w).alloc (Nat.le_refl _) (.cells zs 48)
  have hs := hof_any [] none 0 0 (w.alloc (.cells zs 48)) rfl ⟨[], Bs.nil, rfl, fun i hi => absurd hi (by simp)⟩ (by omega) (by simp)
  rw [show sha256 [].flatten = r from hr] at hs
  rw [hr]
  have k0 := Blk.new w 48 zs
  have hzl : zs.size = 32 := by rw [← hzs]; rfl
  have Hs := Lib.hid hs
  have Hzs := Lib.hid hzs
  have Hrl := Lib.hid hrl
  clear hs hzs hrl hr
  go_enter Tryd.func41, Tryd.ntmps41
  go_wp2_with (first
    | ((with_reducible show wpList _ _ _ (⟨some 0, .alloc _, _, _, _, _⟩ :: _) _ _); refine wpList_run rfl (.pointer (some ⟨w.heap.size, 0, none⟩)) (w.alloc (.cells zs 48)) (by rw [← Hzs.out]; rfl) ?_; simp only [Act.put])
    | (go_at_call 61; refine Hs.out.mono ?_; rintro e w1 ⟨rfl, hb1⟩; have k1 := k0.below hb1 (by simp); have B1 := hb.trans (hb1.mono (by simp)))
    | ((with_reducible show wpList _ _ _ (⟨none, .store _ _ _, _, _, _, _⟩ :: _) _ _); refine wpList_store_blk rfl 48 (.tmp 0) (.tmp 1) rfl 32 size26 w.heap.size (r.map B).toArray rfl rfl (by simp [Hrl.out]) (oneCell_B _) 48 _ k1 hzl ?_; simp only [Act.put]))
  refine bodyPost_ret (results_cell_row rfl _ _ w.heap.size 48 (r.map B).toArray (0, 0) _ rfl (k1.setRow_ _) Tryd.underlying48 rfl (by rw [show (r.map B).toArray.size = 32 by simp [Hrl.out]]; exact info26)) rfl ⟨rfl, ?_⟩
  exact below_setRow B1 (Nat.le_refl _) _

/-- slices of bytes that have just been put side by side -/
theorem BsS.lit (w : World) (vs : List Value) (ls : List (List UInt8)) (hl : vs.length = ls.length) (h : ∀ i (h : i < ls.length), ∃ Ai ci, vs[i]? = some (.slice Ai (ls[i]).length ci) ∧ (ls[i]).length ≤ ci ∧ Bs w (fun _ => True) Ai ((ls[i]).map B)) :
    BsS (w.alloc (.cells vs.toArray 104)) (· < (w.alloc (.cells vs.toArray 104)).heap.size) (some ⟨w.heap.size, 0, none⟩) ls :=
  ⟨vs, (Bs.new w (fun _ => True) _ _ trivial).weak fun _ hb _ => hb, hl, fun i hi => let ⟨Ai, ci, h1, h2, h3⟩ := h i hi; ⟨Ai, ci, h1, h2, (h3.alloc _).weak fun _ hb _ => hb⟩⟩

set_option maxHeartbeats 400000 in
set_option maxRecDepth 100000 in
theorem hleaf_any (l : List UInt8) (A : Option Addr) (n c : Nat) (w : World) (h : Sl w (fun _ => True) A n c l) (hl : n < 1152921504606846976) :
    Calls Tryd.prog 50 #[.slice A n c] w fun e w' => e = .returned (.agg ((hLeaf l).map B).toArray) ∧ Below w.heap.size w w' := by
  obtain ⟨r, hr⟩ : ∃ r, hLeaf l = r := ⟨_, rfl⟩
  have hrl : r.length = 32 := by rw [← hr]; exact length_hLeaf l
  have hll := h.len
  have hroom := h.room
  obtain ⟨zs, hzs⟩ : ∃ zs, zeroHash = zs := ⟨_, rfl⟩
  obtain ⟨w1, hw1⟩ : ∃ w1, (w.alloc (.cells zs 48)).alloc (.cells #[.int .u8 0] 5) = w1 := ⟨_, rfl⟩
  have hb : Below w.heap.size w w1 := by rw [← hw1]; exact ((Below.refl _ _).alloc (Nat.le_refl _) _).alloc (by simp) _
  have h1 : Sl w1 (fun _ => True) A n c l := by rw [← hw1]; exact (h.alloc _).alloc _
  have h0 : Bs w1 (fun _ => True) (some ⟨w.heap.size + 1, 0, none⟩) ([(0 : UInt8)].map B) := by
    rw [← hw1]
    have := Bs.new (w.alloc (.cells zs 48)) (fun _ => True) 5 ([(0 : UInt8)].map B) trivial
    rw [show (w.alloc (.cells zs 48)).heap.size = w.heap.size + 1 by simp] at this
    exact this
  have k0 : Blk w1 w.heap.size 48 zs := by rw [← hw1]; exact (Blk.new _ _ _).alloc _
  have hsz : w1.heap.size = w.heap.size + 1 + 1 := by rw [← hw1]; simp
  have hs := hof_any [[0], l] (some ⟨w1.heap.size, 0, none⟩) 2 2 _ rfl (BsS.lit w1 [.slice (some ⟨w.heap.size + 1, 0, none⟩) 1 1, .slice A n c] [[0], l] rfl fun i hi => by
    match i, hi with
    | 0, _ => exact ⟨_, _, rfl, Nat.le_refl _, h0⟩
    | 1, _ => exact ⟨A, c, by simp [hll], by simp [hll]; omega, h1.bs⟩) (by decide) (by simp [hll]; omega)
  rw [show sha256 [[0], l].flatten = r by rw [← hr]; simp [hLeaf]] at hs
  rw [hr]
  have hzl : zs.size = 32 := by rw [← hzs]; rfl
  have Hs := Lib.hid hs
  have Hzs := Lib.hid hzs
  have Hrl := Lib.hid hrl
  have Hw1 := Lib.hid hw1
  have Hsz := Lib.hid hsz
  clear hs hzs hrl hr h0 h1 hll hw1 hsz h
  go_enter Tryd.func50, Tryd.ntmps50
  go_wp2_with (first
    | ((with_reducible show wpList _ _ _ (⟨some 2, .alloc _, _, _, _, _⟩ :: _) _ _); refine wpList_run rfl (.pointer (some ⟨w.heap.size, 0, none⟩)) (w.alloc (.cells zs 48)) (by rw [← Hzs.out]; rfl) ?_; simp only [Act.put])
    | (go_at_call 61; rw [Hw1.out, ← Hsz.out]; refine Hs.out.mono ?_; rintro e w2 ⟨rfl, hb2⟩; have k1 := (k0.alloc _).below hb2 (by have := Hsz.out; simp; omega); have B1 := (hb.alloc hb.size _).trans (hb2.mono (by have := Hsz.out; simp; omega)))
    | ((with_reducible show wpList _ _ _ (⟨none, .store _ _ _, _, _, _, _⟩ :: _) _ _); refine wpList_store_blk rfl 48 (.tmp 2) (.tmp 6) rfl 32 size26 w.heap.size (r.map B).toArray rfl rfl (by simp [Hrl.out]) (oneCell_B _) 48 _ k1 hzl ?_; simp only [Act.put]))
  refine bodyPost_ret (results_cell_row rfl _ _ w.heap.size 48 (r.map B).toArray (0, 0) _ rfl (k1.setRow_ _) Tryd.underlying48 rfl (by rw [show (r.map B).toArray.size = 32 by simp [Hrl.out]]; exact info26)) rfl ⟨rfl, ?_⟩
  exact below_setRow B1 (Nat.le_refl _) _

theorem slice_all26 (g : Nat) (W : World) : (Instr.sliceAt 48 (.pointer (some ⟨g, 0, none⟩)) none none none).run Tryd.prog W = .ok (.slice (some ⟨g, 0, none⟩) 32 32) W := by
  rw [run_sliceAt_array_all W _ _ arrT26, size26e, arrN26]
  simp [slicedAt, Result.andThen, Addr.add]

set_option maxHeartbeats 400000 in
set_option maxRecDepth 100000 in
theorem hnode_any (l r : List UInt8) (w : World) (hl : l.length = 32) (hr : r.length = 32) :
    Calls Tryd.prog 38 #[.agg (l.map B).toArray, .agg (r.map B).toArray] w fun e w' => e = .returned (.agg ((hNode l r).map B).toArray) ∧ Below w.heap.size w w' := by
  obtain ⟨x, hx⟩ : ∃ x, hNode l r = x := ⟨_, rfl⟩
  have hxl : x.length = 32 := by rw [← hx]; exact length_hNode l r
  obtain ⟨zs, hzs⟩ : ∃ zs, zeroHash = zs := ⟨_, rfl⟩
  obtain ⟨lv, hlv⟩ : ∃ lv, (l.map B).toArray = lv := ⟨_, rfl⟩
  obtain ⟨rv, hrv⟩ : ∃ rv, (r.map B).toArray = rv := ⟨_, rfl⟩
  have hzl : zs.size = 32 := by rw [← hzs]; rfl
  rw [hx, hlv, hrv]
  have Hx := Lib.hid hx
  have Hxl := Lib.hid hxl
  have Hzs := Lib.hid hzs
  have Hlv := Lib.hid hlv
  have Hrv := Lib.hid hrv
  clear hx hxl hzs hlv hrv
  have sla := slice_all26
  go_enter Tryd.func38, Tryd.ntmps38
  go_upto_region 1 with fail
  refine wp_world (fun W => Blk W w.heap.size 48 lv ∧ Blk W (w.heap.size + 1) 48 rv ∧ Blk W (w.heap.size + 1 + 1) 48 zs ∧ Below w.heap.size w W ∧ w.heap.size + 1 + 1 < W.heap.size) ⟨?_, ?_, ?_, ?_, ?_⟩ ?_
  · exact ((Blk.new _ _ _).alloc _).alloc _
  · exact (Blk.new' _ _ _ _ (by simp)).alloc _
  · rw [← Hzs.out]; exact Blk.new' _ _ _ _ (by simp)
  · exact (((Below.refl _ _).alloc (Nat.le_refl _) _).alloc (by simp) _).alloc (by simp; omega) _
  · simp
  rintro W1 ⟨kl, kr, kz, B1, hW1⟩
  refine wp_region_mix (fun _ => True) [(1, true), (2, true), (0, false), (3, false), (4, false), (5, false)] (by kernel_rfl) (by kernel_rfl) trivial fun _ => ?_
  simp only [List.map_cons, List.map_nil, Array.getD_eq_getD_getElem?, List.getElem?_toArray, List.getElem?_cons_succ, List.getElem?_cons_zero, Option.getD_some]
  replace kl := kl.drew
  replace kr := kr.drew
  replace kz := kz.drew
  replace B1 := B1.drew
  replace hW1 : w.heap.size + 1 + 1 < W1.drew.heap.size := hW1
  generalize W1.drew = W2 at kl kr kz B1 hW1 ⊢
  iterate 2 (refine wpMix_s (fun K hK => ?_); go_simp; refine hK _ ?_; clear hK K)
  refine wpMix_c (fun K hK => ?_) trivial
  go_simp
  refine hK _ _ ?_
  clear hK K
  refine mix_world (fun W => Below W2.heap.size W2 W ∧ Bs W (fun _ => True) (some ⟨W2.heap.size, 0, none⟩) ([(1 : UInt8)].map B)) ⟨(Below.refl _ _).alloc (Nat.le_refl _) _, Bs.new W2 (fun _ => True) 5 ([(1 : UInt8)].map B) trivial⟩ (fun _ _ => trivial) ?_
  rintro W3 ⟨b3, h3⟩
  refine wpMix_c (fun K hK => ?_) trivial
  go_simp
  refine hK _ _ ?_
  clear hK K
  have kl3 := kl.below b3 kl.lt
  have kr3 := kr.below b3 kr.lt
  refine mix_world (fun W => Below W2.heap.size W2 W ∧ BsS W (· < W.heap.size) (some ⟨W3.heap.size, 0, none⟩) [[1], l, r]) ⟨b3.alloc b3.size _, BsS.lit W3 [.slice (some ⟨W2.heap.size, 0, none⟩) 1 1, .slice (some ⟨w.heap.size, 0, none⟩) 32 32, .slice (some ⟨w.heap.size + 1, 0, none⟩) 32 32] [[1], l, r] rfl fun i hi => by
    match i, hi with
    | 0, _ => exact ⟨_, _, rfl, Nat.le_refl _, h3⟩
    | 1, _ => exact ⟨_, 32, by show some _ = some (Value.slice _ l.length 32); rw [hl], by show l.length ≤ 32; omega, by rw [← Hlv.out] at kl3; exact kl3.new_bs⟩
    | 2, _ => exact ⟨_, 32, by show some _ = some (Value.slice _ r.length 32); rw [hr], by show r.length ≤ 32; omega, by rw [← Hrv.out] at kr3; exact kr3.new_bs⟩⟩ (fun _ _ => trivial) ?_
  clear h3 kl3 kr3 b3
  rintro W4 ⟨b4, h4⟩
  refine wpMix_c (fun K hK => ?_) trivial
  go_simp
  refine (hof_any [[1], l, r] _ 3 3 W4 rfl h4 (by decide) (by simp [hl, hr])).mono ?_
  rintro e W5 ⟨rfl, b5⟩
  rw [show sha256 [[1], l, r].flatten = x by rw [← Hx.out]; simp [hNode]]
  refine hK _ _ ?_
  clear hK K
  refine ⟨trivial, ?_⟩
  have b25 := b4.trans (b5.mono b4.size)
  have kz5 := kz.below b25 kz.lt
  have B5 := B1.trans (b25.mono B1.size)
  refine wpMix_store_blk rfl 48 (.tmp 4) (.tmp 9) rfl 32 size26 (w.heap.size + 1 + 1) (x.map B).toArray rfl rfl (by simp [Hxl.out]) (oneCell_B _) 48 _ kz5 hzl trivial ?_
  simp only [Act.put]
  refine wpMix_nil ?_
  intro _
  go_wp2_with fail
  refine bodyPost_ret (results_cell_row rfl _ _ (w.heap.size + 1 + 1) 48 (x.map B).toArray (0, 0) _ rfl (kz5.setRow_ _) Tryd.underlying48 rfl (by rw [show (x.map B).toArray.size = 32 by simp [Hxl.out]]; exact info26)) rfl ⟨rfl, ?_⟩
  exact below_setRow B5 (by omega) _
end Go.Proofs.YtfhmjgkcpcnkbaaDoor
/- Slices of hashes. -/
namespace Go.Proofs.YtfhmjgkcpcnkbaaDoor
open Go.RowKit

/-- hashes, side by side -/
def hcells (hs : List (List UInt8)) : List Value := hs.flatten.map B
def H32 (hs : List (List UInt8)) : Prop := ∀ h ∈ hs, h.length = 32
structure Hs (w : World) (X : Nat → Prop) (A : Option Addr) (n c : Nat) (hs : List (List UInt8)) : Prop where
  sl : SlV w X A n c 32 (hcells hs)
  len : hs.length = n
  all : H32 hs

theorem hcells_nil : hcells [] = [] := rfl
theorem hcells_append (a b : List (List UInt8)) : hcells (a ++ b) = hcells a ++ hcells b := by simp [hcells]
theorem hcells_len : ∀ (hs : List (List UInt8)), H32 hs → (hcells hs).length = hs.length * 32
  | [], _ => rfl
  | h :: hs, ha => by
    have h1 := hcells_len hs (fun x hx => ha x (by simp [hx]))
    have h2 := ha h (by simp)
    simp only [hcells, List.flatten_cons, List.map_append, List.length_append, List.length_map, List.length_cons] at *
    omega
theorem H32.take {hs : List (List UInt8)} (h : H32 hs) (k : Nat) : H32 (hs.take k) := fun x hx => h x (List.mem_of_mem_take hx)
theorem H32.drop {hs : List (List UInt8)} (h : H32 hs) (k : Nat) : H32 (hs.drop k) := fun x hx => h x (List.mem_of_mem_drop hx)
theorem H32.append {a b : List (List UInt8)} (h : H32 a) (k : H32 b) : H32 (a ++ b) := fun x hx => (List.mem_append.1 hx).elim (h x) (k x)
theorem H32.getD {hs : List (List UInt8)} (h : H32 hs) (k : Nat) (hk : k < hs.length) : (hs.getD k []).length = 32 := by
  rw [List.getD_eq_getElem?_getD, List.getElem?_eq_getElem hk]
  exact h _ (List.getElem_mem hk)
theorem hcells_take (hs : List (List UInt8)) (h : H32 hs) (k : Nat) (hk : k ≤ hs.length) : (hcells hs).take (k * 32) = hcells (hs.take k) := by
  have e : hcells hs = hcells (hs.take k) ++ hcells (hs.drop k) := by rw [← hcells_append, List.take_append_drop]
  have hl : (hcells (hs.take k)).length = k * 32 := by rw [hcells_len _ (h.take k), List.length_take, Nat.min_eq_left hk]
  rw [e, List.take_left' hl]
theorem hcells_drop (hs : List (List UInt8)) (h : H32 hs) (k : Nat) (hk : k ≤ hs.length) : (hcells hs).drop (k * 32) = hcells (hs.drop k) := by
  have e : hcells hs = hcells (hs.take k) ++ hcells (hs.drop k) := by rw [← hcells_append, List.take_append_drop]
  have hl : (hcells (hs.take k)).length = k * 32 := by rw [hcells_len _ (h.take k), List.length_take, Nat.min_eq_left hk]
  rw [e, List.drop_left' hl]
theorem hcells_get (hs : List (List UInt8)) (h : H32 hs) (k : Nat) (hk : k < hs.length) (j : Nat) (v : Value) (hv : ((hs.getD k []).map B)[j]? = some v) : (hcells hs)[k * 32 + j]? = some v := by
  have hj : j < 32 := by have := (List.getElem?_eq_some_iff.1 hv).1; rw [List.length_map, h.getD k hk] at this; exact this
  rw [← List.getElem?_drop, hcells_drop hs h k (by omega), List.drop_eq_getElem_cons hk, hcells, List.flatten_cons, List.map_append, List.getElem?_append_left (by rw [List.length_map, h _ (List.getElem_mem hk)]; exact hj)]
  rw [List.getD_eq_getElem?_getD, List.getElem?_eq_getElem hk] at hv
  exact hv

section
variable {w w' : World} {X Y : Nat → Prop} {A : Option Addr} {n c : Nat} {hs : List (List UInt8)}
theorem Hs.weak (h : Hs w X A n c hs) (hX : ∀ b, b < w.heap.size → X b → Y b) : Hs w Y A n c hs := ⟨h.sl.weak hX, h.len, h.all⟩
theorem Hs.step (h : Hs w X A n c hs) (hb : Below w.heap.size w w') : Hs w' X A n c hs := ⟨h.sl.step hb, h.len, h.all⟩
theorem Hs.below {N : Nat} (h : Hs w X A n c hs) (hb : Below N w w') (hX : ∀ b, b < w.heap.size → X b → b < N) : Hs w' X A n c hs := ⟨h.sl.below hb hX, h.len, h.all⟩
theorem Hs.alloc (h : Hs w X A n c hs) (o : Obj) : Hs (w.alloc o) X A n c hs := ⟨h.sl.alloc o, h.len, h.all⟩
theorem Hs.drew (h : Hs w X A n c hs) : Hs w.drew X A n c hs := ⟨h.sl.drew, h.len, h.all⟩
theorem Hs.grown {row : Option Nat} (h : Hs w X A n c hs) (hg : w.grownBy w' row) (hX : ∀ b, b < w.heap.size → X b → some b ≠ row) : Hs w' X A n c hs := ⟨h.sl.grown hg hX, h.len, h.all⟩
theorem Hs.setRow (h : Hs w X A n c hs) (g : Nat) (cs : Array Value) (hX : ¬ X g) : Hs (w.setRow g cs) X A n c hs :=
  ⟨h.sl.keep (by simp) fun p _ hx => World.cell?_of_block (setRow_other w g p.block cs (fun e => hX (e ▸ hx))), h.len, h.all⟩
theorem Hs.drop (h : Hs w X A n c hs) (k : Nat) (hk : k ≤ n) : Hs w X (if c = k then A else A.map (·.add (k * 32))) (n - k) (c - k) (hs.drop k) :=
  ⟨by have := h.sl.drop k hk; rwa [hcells_drop hs h.all k (by rw [h.len]; exact hk)] at this, by rw [List.length_drop, h.len], h.all.drop k⟩
theorem Hs.take (h : Hs w X A n c hs) (k : Nat) (hk : k ≤ n) : Hs w X A k c (hs.take k) :=
  ⟨by have := h.sl.take k hk; rwa [hcells_take hs h.all k (by rw [h.len]; exact hk)] at this, by rw [List.length_take, h.len]; omega, h.all.take k⟩
theorem Hs.empty : Hs w X none 0 0 [] := ⟨SlV.empty, rfl, fun _ h => absurd h (by simp)⟩
/-- where they lie; one is read -/
theorem Hs.at_ (h : Hs w X A n c hs) (hn : 0 < n) : ∃ b o, A = some ⟨b, o, none⟩ ∧ b < w.heap.size ∧ X b ∧ ∀ i, i < n → (Instr.loadAt 48 (.pointer (some ⟨b, o + i * 32, none⟩))).run Tryd.prog w = .ok (.agg ((hs.getD i []).map B).toArray) w := by
  obtain ⟨b, o, h1, h2, h3, h4⟩ := h.sl.at_ hn (by decide)
  refine ⟨b, o, h1, h2, h3, fun i hi => run_load_agg (agg26 _) (size26 _) b (o + i * 32) _ (by rw [List.length_map, h.all.getD i (by rw [h.len]; exact hi)]) fun j u hu => ?_⟩
  rw [Nat.add_assoc]
  exact h4 _ u (hcells_get hs h.all i (by rw [h.len]; exact hi) j u hu)
end

theorem run_make_hash (w : World) (m : Nat) (hm : m ≤ 4398046511104) :
    (Instr.makeSlice 36 (.int .i64 (m : Int)) (.int .i64 (m : Int))).run Tryd.prog w = .ok (.slice (some ⟨w.heap.size, 0, none⟩) m m) (w.alloc (.cells ((List.replicate (m * 32) (0 : UInt8)).map B).toArray 48)) := by
  obtain ⟨i, hi⟩ : ∃ i, Tryd.prog.info? 48 = some i := Option.isSome_iff_exists.1 (by kernel_rfl)
  have hz : i.zero = some (.agg ((List.replicate 32 (0 : UInt8)).map B).toArray) := by
    have : (Tryd.prog.info? 48).bind (·.zero) = some (.agg ((List.replicate 32 (0 : UInt8)).map B).toArray) := by kernel_rfl
    rw [hi] at this; exact this
  have hs : i.size = 32 := by
    have : (Tryd.prog.info? 48).map (·.size) = some 32 := by kernel_rfl
    rw [hi] at this; exact Option.some.inj this
  have hby : i.bytes = 32 := by
    have : (Tryd.prog.info? 48).map (·.bytes) = some 32 := by kernel_rfl
    rw [hi] at this; exact Option.some.inj this
  have := run_make (P := Tryd.prog) w 36 48 i _ Tryd.underlying36 hi hz .i64 .i64 m m (by omega) (by omega) (by rw [hby]; omega) (by omega)
  rw [this, hs, Int.toNat_natCast]
  have hm : madeCells (Value.agg ((List.replicate 32 (0 : UInt8)).map B).toArray).cells (m * 32) = ((List.replicate (m * 32) (0 : UInt8)).map B).toArray := by
    apply Array.ext
    · simp [madeCells]
    · intro k h1 h2
      have hz : ∀ q, q < 32 → (((List.replicate 32 (0 : UInt8)).map B).toArray)[q]! = B 0 := fun q hq => by
        rw [getElem!_pos _ _ (by simp only [List.size_toArray, List.length_map, List.length_replicate]; exact hq), List.getElem_toArray, List.getElem_map, List.getElem_replicate]
      simp only [madeCells, Array.getElem_map, Array.getElem_range, List.getElem_toArray, List.getElem_map, List.getElem_replicate]
      exact hz _ (by rw [show (Value.agg ((List.replicate 32 (0 : UInt8)).map B).toArray).cells = ((List.replicate 32 (0 : UInt8)).map B).toArray from rfl]; simp; omega)
  rw [hm]

theorem size57 : ∀ w : World, (sizeOf (Tryd.prog.elem 36)).run Tryd.prog w = .ok 32 w := fun _ => by kernel_rfl
theorem sliceT57 : Tryd.prog.underlying 36 = some (.slice (Tryd.prog.elem 36)) := by kernel_rfl
theorem info26z : (Tryd.prog.info? 48).map (fun i => (i.zero, i.size, i.bytes)) = some (some (.agg ((List.replicate 32 (0 : UInt8)).map B).toArray), 32, 32) := by kernel_rfl
end Go.Proofs.YtfhmjgkcpcnkbaaDoor
/- A law's arguments that are hashes, opened. -/
namespace Go.Proofs.YtfhmjgkcpcnkbaaDoor
open Go.RowKit Go.WideShapes Go.ChangeShapes Go.ChangeAt

section
variable {H : Type} {enc : TypeId × Value → H} {P : Program} {W : World} {base : Nat} {held : Bool}
/-- bytes in a row of their own -/
theorem open_bytesArr {t e : TypeId} {n fuel : Nat} {spare : Nat → Bool} {cs : List Value} {x : DataW H × List MemPlace} (ht : P.underlying t = some (.array n e)) (he : P.underlying e = some (.int .u8)) (hc : P.cellsOf e = 1) (hcs : cs.length = n)
    (h : DataW.trod enc P W 0 spare held fuel t cs = some x) : ∃ l : List UInt8, cs = l.map B ∧ l.length = n := by
  obtain ⟨xs, m, rfl, _, hl, hxl, hi⟩ := DataW.trod_array ht h
  obtain ⟨l, hl'⟩ := exists_map B cs (fun y hy => by
    obtain ⟨i, hin, hiy⟩ := List.getElem_of_mem hy
    have h1 := hi i (by omega)
    rw [hc, Nat.mul_one, List.getElem?_eq_getElem (by omega)] at h1
    obtain ⟨x, hx, _, hwf⟩ := DataW.trod_int he h1
    have h2 := congrArg (·[0]?) hx
    simp only [List.getElem?_cons_zero] at h2
    rw [List.getElem?_take_of_lt (by omega), List.getElem?_drop, Nat.add_zero, List.getElem?_eq_getElem hin] at h2
    rw [← hiy]
    have := bounds_u8 hwf
    exact ⟨UInt8.ofNat x.toNat, by rw [Option.some.inj h2]; simp [B, UInt8.toNat_ofNat']; omega⟩)
  exact ⟨l, hl', by rw [← hcs, hl', List.length_map]⟩
/-- two of them -/
theorem open_two {t e q : TypeId} {n : Nat} {v : Value} {d : DataW H} {p : List MemPlace} {spare : Nat → Bool} (ht : P.underlying t = some (.array 2 e)) (he : P.underlying e = some (.array n q)) (hq : P.underlying q = some (.int .u8)) (cq : P.cellsOf q = 1) (ce : P.cellsOf e = n) (hct : P.cellsOf t = 2 * n)
    (hok : Value.okWide P W .any base t v) (h : DataW.Trod enc P W 0 spare held t v d p) : ∃ x y : List UInt8, v = .agg ((x ++ y).map B).toArray ∧ x.length = n ∧ y.length = n := by
  simp only [Value.okWide, ht] at hok
  obtain ⟨cs, rfl, hsz, _⟩ := hok
  obtain ⟨fuel, h⟩ := h
  obtain ⟨xs, m, rfl, _, hl, hxl, hi⟩ := DataW.trod_array ht h
  have hsz' : cs.toList.length = 2 * n := by simpa [hct] using hsz
  have h0 := hi 0 (by omega)
  have h1 := hi 1 (by omega)
  simp only [ce, Nat.zero_mul, Nat.one_mul, List.drop_zero, Value.cells] at h0 h1
  rw [List.getElem?_eq_getElem (by omega)] at h0 h1
  obtain ⟨x, hx, hxl'⟩ := open_bytesArr he hq cq (by rw [List.length_take]; omega) h0
  obtain ⟨y, hy, hyl⟩ := open_bytesArr he hq cq (by rw [List.length_take, List.length_drop]; omega) h1
  refine ⟨x, y, ?_, hxl', hyl⟩
  have : cs.toList = (x ++ y).map B := by
    rw [List.map_append, ← hx, ← hy, List.take_of_length_le (l := cs.toList.drop n) (by rw [List.length_drop]; omega), List.take_append_drop]
  rw [← this]
/-- a slice of them -/
theorem open_hashes {t e q : TypeId} {fuel : Nat} {cs : List Value} {x : DataW H × List MemPlace} (ht : P.underlying t = some (.slice e)) (he : P.underlying e = some (.array 32 q)) (hq : P.underlying q = some (.int .u8)) (cq : P.cellsOf q = 1) (ce : P.cellsOf e = 32)
    (h : DataW.trod enc P W 0 (fun _ => true) held fuel t cs = some x) : ∃ (A : Option Addr) (n c : Nat) (hs : List (List UInt8)), cs = [Value.slice A n c] ∧ Hs W (· < W.heap.size) A n c hs ∧ n + 1 ≤ Rows.uptoBulk x.1 := by
  obtain ⟨A, n, c, L, xs, h1, h2, h3, h4, h5, h6, h7⟩ := open_slR (fun (l : List UInt8) cs => cs = l.map B ∧ l.length = 32) (fun _ => 0) ht ce (by decide) (fun fuel cs y hy hl => by
    obtain ⟨l, g1, g2⟩ := open_bytesArr he hq cq hl hy
    exact ⟨l, ⟨g1, g2⟩, bulk_one _⟩) h
  have hL : L = xs.map (·.map B) := by
    apply List.ext_getElem
    · simp [h3, h4]
    · intro i hi1 hi2
      simp only [List.length_map] at hi2
      rw [List.getElem_map]
      exact (h6 i xs[i] L[i] (List.getElem?_eq_getElem hi2) (List.getElem?_eq_getElem hi1)).1
  refine ⟨A, n, c, xs, h1, ⟨?_, h4, fun l hl => ?_⟩, by omega⟩
  · rw [hL] at h2
    unfold hcells
    rw [List.map_flatten]
    exact h2
  · obtain ⟨i, hi, rfl⟩ := List.getElem_of_mem hl
    exact (h6 i xs[i] (L[i]'(by omega)) (List.getElem?_eq_getElem hi) (List.getElem?_eq_getElem (by omega))).2
end
end Go.Proofs.YtfhmjgkcpcnkbaaDoor
/- A law's arguments that are structs, opened. -/
namespace Go.Proofs.YtfhmjgkcpcnkbaaDoor
open Go.RowKit Go.WideShapes Go.ChangeShapes Go.ChangeAt

section
variable {H : Type} {enc : TypeId × Value → H} {P : Program} {W : World} {base : Nat} {held : Bool}
/-- a field's cells, where it is an integer -/
theorem open_intf {t : TypeId} {k : IntKind} {fuel : Nat} {spare : Nat → Bool} {cs : List Value} {x : DataW H × List MemPlace} (ht : P.underlying t = some (.int k)) (h : DataW.trod enc P W 0 spare held fuel t cs = some x) : ∃ z, cs = [.int k z] ∧ (Lit.int k z).wf = true := by
  obtain ⟨z, h1, _, h2⟩ := DataW.trod_int ht h
  exact ⟨z, h1, h2⟩
/-- two integers, side by side -/
theorem open_pairf {t : TypeId} {f0 f1 : Field} {k0 k1 : IntKind} {fuel : Nat} {spare : Nat → Bool} {cs : List Value} {x : DataW H × List MemPlace} (ht : P.underlying t = some (.struct #[f0, f1])) (h0 : f0.offset = 0) (h1 : f1.offset = 1)
    (u0 : P.underlying f0.type = some (.int k0)) (u1 : P.underlying f1.type = some (.int k1)) (c0 : P.cellsOf f0.type = 1) (c1 : P.cellsOf f1.type = 1) (hct : P.cellsOf t = 2)
    (h : DataW.trod enc P W 0 spare held fuel t cs = some x) : ∃ a b, cs = [.int k0 a, .int k1 b] ∧ (Lit.int k0 a).wf = true ∧ (Lit.int k1 b).wf = true := by
  obtain ⟨y0, y1, n, _, hl, g0, g1⟩ := trod_struct2 ht h
  rw [h0, c0, List.drop_zero] at g0
  rw [h1, c1] at g1
  obtain ⟨a, ea, wa⟩ := open_intf u0 g0
  obtain ⟨b, eb, wb⟩ := open_intf u1 g1
  rw [hct] at hl
  match cs, hl with
  | [p, q], _ =>
    simp only [List.take_succ_cons, List.take_zero, List.drop_succ_cons, List.drop_zero, List.cons.injEq, and_true] at ea eb
    exact ⟨a, b, by rw [ea, eb], wa, wb⟩
theorem open_pair {t : TypeId} {f0 f1 : Field} {k0 k1 : IntKind} {v : Value} {d : DataW H} {p : List MemPlace} {spare : Nat → Bool} (ht : P.underlying t = some (.struct #[f0, f1])) (h0 : f0.offset = 0) (h1 : f1.offset = 1)
    (u0 : P.underlying f0.type = some (.int k0)) (u1 : P.underlying f1.type = some (.int k1)) (c0 : P.cellsOf f0.type = 1) (c1 : P.cellsOf f1.type = 1) (hct : P.cellsOf t = 2)
    (hok : Value.okWide P W .any base t v) (h : DataW.Trod enc P W 0 spare held t v d p) : ∃ a b, v = .agg #[.int k0 a, .int k1 b] ∧ (Lit.int k0 a).wf = true ∧ (Lit.int k1 b).wf = true := by
  simp only [Value.okWide, ht] at hok
  obtain ⟨cs, rfl, hsz, _⟩ := hok
  obtain ⟨fuel, h⟩ := h
  obtain ⟨a, b, hcs, wa, wb⟩ := open_pairf ht h0 h1 u0 u1 c0 c1 hct h
  refine ⟨a, b, ?_, wa, wb⟩
  simp only [Value.cells] at hcs
  rw [← Array.toArray_toList (xs := cs), hcs]
end
end Go.Proofs.YtfhmjgkcpcnkbaaDoor
/- Literals of hashes; what is compared. No function of the program. -/
namespace Go.Proofs.YtfhmjgkcpcnkbaaDoor
open Go Go.RowKit

theorem lit_cells : ∀ hs : List (List UInt8), ((hs.map fun h => Value.agg (h.map B).toArray).flatMap fun v => v.cells.toList) = hcells hs
  | [] => rfl
  | h :: hs => by
    rw [List.map_cons, List.flatMap_cons, lit_cells hs, hcells, hcells, List.flatten_cons, List.map_append]
    rfl
/-- a literal of hashes -/
theorem run_lit_hash (hs : List (List UInt8)) (h32 : H32 hs) (h0 : 0 < hs.length) (hm : hs.length ≤ 1000) (parts : Array (Nat × Value)) (hp : parts.toList = ((hs.map fun h => Value.agg (h.map B).toArray).zipIdx 0).map fun x => (x.2, x.1)) (n : Nat) (hn : n = hs.length) (W : World) :
    (Instr.buildSlice 36 n parts).run Tryd.prog W = .ok (.slice (some ⟨W.heap.size, 0, none⟩) n n) (W.alloc (.cells (hcells hs).toArray 48)) := by
  subst hn
  obtain ⟨i, hi⟩ : ∃ i, Tryd.prog.info? 48 = some i := Option.isSome_iff_exists.1 (by kernel_rfl)
  have hz : i.zero = some (.agg ((List.replicate 32 (0 : UInt8)).map B).toArray) := by
    have : (Tryd.prog.info? 48).bind (·.zero) = some (.agg ((List.replicate 32 (0 : UInt8)).map B).toArray) := by kernel_rfl
    rw [hi] at this; exact this
  have hs' : i.size = 32 := by
    have : (Tryd.prog.info? 48).map (·.size) = some 32 := by kernel_rfl
    rw [hi] at this; exact Option.some.inj this
  have hc : ∀ v ∈ (hs.map fun h => Value.agg (h.map B).toArray), v.cells.size = 32 := by
    intro v hv
    obtain ⟨h, hh, rfl⟩ := List.mem_map.1 hv
    simp [Value.cells, h32 h hh]
  have := run_buildSlice (P := Tryd.prog) W 36 48 hs.length parts (hcells hs).toArray i _ Tryd.underlying36 hi hz (by rw [hs']; omega) (by rw [hs']; omega) (by
    rw [hp, hs', Great.fill_whole (by decide) _ _ hc (by simp)]
    rw [lit_cells])
  exact this
theorem run_lit_op {ρ : Operand → Value} {o : Oper} (hs : List (List UInt8)) (h32 : H32 hs) (h0 : 0 < hs.length) (hm : hs.length ≤ 1000) (n : Nat) (ps : Array (Nat × Operand)) (ho : o.op = .buildSlice 36 n ps) (hp : (ps.map fun (i, x) => (i, ρ x)).toList = ((hs.map fun h => Value.agg (h.map B).toArray).zipIdx 0).map fun x => (x.2, x.1)) (hn : n = hs.length) (W : World) :
    (execOp ρ o).run Tryd.prog W = .ok (.value (.slice (some ⟨W.heap.size, 0, none⟩) n n)) (W.alloc (.cells (hcells hs).toArray 48)) := by
  unfold execOp
  simp only [ho, Sem.run_bind, Sem.run_pure, run_lit_hash hs h32 h0 hm _ hp n hn W, Result.andThen_ok]
theorem run_eqstr_op {ρ : Operand → Value} {o : Oper} (x y : Operand) (ty : TypeId) (l m : List UInt8) (ho : o.op = .binOp .eql 9 x y ty) (hx : ρ x = .string (bstr l)) (hy : ρ y = .string (bstr m)) (W : World) :
    (execOp ρ o).run Tryd.prog W = .ok (.value (.bool (l == m))) W := by
  unfold execOp
  simp only [ho, hx, hy, eqGuard_at_string, Sem.run_bind, Sem.run_pure, run_eql_str, Result.andThen_ok]
theorem run_eqstr_t {ρ : Operand → Value} {o : Oper} (x y : Operand) (ty : TypeId) (l m : List UInt8) (ho : o.op = .binOp .eql 9 x y ty) (hx : ρ x = .string (bstr l)) (hy : ρ y = .string (bstr m)) (h : l = m) (W : World) :
    (execOp ρ o).run Tryd.prog W = .ok (.value (.bool true)) W := by
  rw [run_eqstr_op x y ty l m ho hx hy W, h, BEq.rfl]
theorem run_eql26_t {ρ : Operand → Value} {o : Oper} (x y : Operand) (ty : TypeId) (xs ys : List UInt8) (ho : o.op = .binOp .eql 48 x y ty) (hx : ρ x = .agg (xs.map B).toArray) (hy : ρ y = .agg (ys.map B).toArray) (lx : xs.length = 32) (ly : ys.length = 32) (h : xs = ys) (W : World) :
    (execOp ρ o).run Tryd.prog W = .ok (.value (.bool true)) W := by
  rw [run_eql26 x y ty xs ys ho hx hy lx ly W, h, BEq.rfl]
theorem run_neq26_t {ρ : Operand → Value} {o : Oper} (x y : Operand) (ty : TypeId) (xs ys : List UInt8) (ho : o.op = .binOp .neq 48 x y ty) (hx : ρ x = .agg (xs.map B).toArray) (hy : ρ y = .agg (ys.map B).toArray) (lx : xs.length = 32) (ly : ys.length = 32) (h : xs ≠ ys) (W : World) :
    (execOp ρ o).run Tryd.prog W = .ok (.value (.bool true)) W := by
  rw [run_neq26 x y ty xs ys ho hx hy lx ly W, show (xs != ys) = true by simpa using h]
theorem run_neq26_f {ρ : Operand → Value} {o : Oper} (x y : Operand) (ty : TypeId) (xs ys : List UInt8) (ho : o.op = .binOp .neq 48 x y ty) (hx : ρ x = .agg (xs.map B).toArray) (hy : ρ y = .agg (ys.map B).toArray) (lx : xs.length = 32) (ly : ys.length = 32) (h : xs = ys) (W : World) :
    (execOp ρ o).run Tryd.prog W = .ok (.value (.bool false)) W := by
  rw [run_neq26 x y ty xs ys ho hx hy lx ly W, show (xs != ys) = false by simpa using h]
theorem Hs.lit (W : World) (hs : List (List UInt8)) (h32 : H32 hs) (hm : hs.length ≤ 1000) (n : Nat) (hn : n = hs.length) : Hs (W.alloc (.cells (hcells hs).toArray 48)) (fun _ => True) (some ⟨W.heap.size, 0, none⟩) n n hs :=
  ⟨SlV.lit W _ _ _ (by rw [hcells_len _ h32, hn]) (by unfold maxLen; omega) trivial, hn.symm, h32⟩
end Go.Proofs.YtfhmjgkcpcnkbaaDoor
/- A row of one's own, written over. -/
namespace Go.Proofs.YtfhmjgkcpcnkbaaDoor
open Go Go.RowKit

theorem put_take {α : Type} (cur vs : List α) (a s m : Nat) (hv : vs.length = s) (hm : a + s ≤ m) (hc : a + s ≤ cur.length) :
    (cur.take a ++ vs ++ cur.drop (a + s)).take m = (cur.take m).take a ++ vs ++ (cur.take m).drop (a + s) := by
  have h1 : (cur.take a ++ vs).length = a + s := by rw [List.length_append, List.length_take, hv]; omega
  rw [List.take_append, h1, List.take_of_length_le (by rw [h1]; exact hm), List.take_take, Nat.min_eq_left (by omega), List.drop_take]
/-- one element is written over -/
theorem owns_put {w : World} {base g n c s : Nat} {e : TypeId} {xs : List Value} (h : w.ownsRow base e s (.slice (some ⟨g, 0, none⟩) n c) n xs) (k : Nat) (hk : k < n) (vs : List Value) (hv : vs.length = s) :
    ∃ cur : Array Value, Blk w g e cur ∧ k * s + s ≤ cur.size ∧ base ≤ g ∧
      (w.setRow g (cur.toList.take (k * s) ++ vs ++ cur.toList.drop (k * s + s)).toArray).ownsRow base e s (.slice (some ⟨g, 0, none⟩) n c) n (xs.take (k * s) ++ vs ++ xs.drop (k * s + s)) := by
  have hl := h.1
  rcases h.2 with ⟨hv, _⟩ | ⟨g', cap, cur, hv', hbg, hg, hnc, hcm, hcs, ht⟩
  · cases hv
  · cases hv'
    have hks : k * s + s ≤ n * s := by rw [← Nat.succ_mul]; exact Nat.mul_le_mul_right _ hk
    have hns : n * s ≤ c * s := Nat.mul_le_mul_right _ hnc
    have hsz : k * s + s ≤ cur.size := by omega
    refine ⟨cur, hg, hsz, hbg, ?_, .inr ⟨g, c, _, rfl, hbg, Blk.setRow_ hg _, hnc, hcm, ?_, ?_⟩⟩
    · simp only [List.length_append, List.length_take, List.length_drop, hv, hl]; omega
    · simp only [List.size_toArray, List.length_append, List.length_take, List.length_drop, hv, Array.length_toList, hcs]; omega
    · rw [put_take cur.toList vs (k * s) s (n * s) hv hks (by simpa using hsz), ht]
theorem Hs.of_owns {w : World} {base n : Nat} {v : Value} {hs : List (List UInt8)} (h : w.ownsRow base 48 32 v n (hcells hs)) (hn : hs.length = n) (ha : H32 hs) :
    ∃ A c, v = .slice A n c ∧ Hs w (fun b => base ≤ b ∧ some b = v.ownBlock) A n c hs := by
  obtain ⟨A, c, hv, hs⟩ := owns_slv h
  exact ⟨A, c, hv, hs, hn, ha⟩
/-- the hash of one byte and nothing more -/
def oneHash (b : UInt8) : List UInt8 := b :: List.replicate 31 0
theorem length_oneHash (b : UInt8) : (oneHash b).length = 32 := by simp [oneHash]
end Go.Proofs.YtfhmjgkcpcnkbaaDoor
/- Slices of stretches. -/
namespace Go.Proofs.YtfhmjgkcpcnkbaaDoor
open Go Go.RowKit

def rcell (x : Int × Int) : List Value := [.int .i64 x.1, .int .i64 x.2]
/-- stretches, side by side -/
def rcells (l : List (Int × Int)) : List Value := l.flatMap rcell
def natR (l : List (Nat × Nat)) : List (Int × Int) := l.map fun x => ((x.1 : Int), (x.2 : Int))
structure Rs (w : World) (X : Nat → Prop) (A : Option Addr) (n c : Nat) (l : List (Int × Int)) : Prop where
  sl : SlV w X A n c 2 (rcells l)
  len : l.length = n
theorem rcells_nil : rcells [] = [] := rfl
theorem rcells_one (x : Int × Int) : rcells [x] = [.int .i64 x.1, .int .i64 x.2] := rfl
theorem rcells_append (a b : List (Int × Int)) : rcells (a ++ b) = rcells a ++ rcells b := by simp [rcells]
theorem rcells_len : ∀ l : List (Int × Int), (rcells l).length = l.length * 2
  | [] => rfl
  | x :: l => by
    have := rcells_len l
    simp only [rcells, List.flatMap_cons, List.length_append, List.length_cons, rcell, List.length_nil] at *
    omega
theorem rcells_take : ∀ (l : List (Int × Int)) (k : Nat), (rcells l).take (k * 2) = rcells (l.take k)
  | [], k => by simp [rcells]
  | x :: l, 0 => by simp [rcells]
  | x :: l, k + 1 => by
    have := rcells_take l k
    rw [show (k + 1) * 2 = k * 2 + 1 + 1 by omega]
    simp only [rcells, List.flatMap_cons, rcell, List.cons_append, List.nil_append, List.take_succ_cons] at *
    rw [this]
theorem rcells_drop : ∀ (l : List (Int × Int)) (k : Nat), (rcells l).drop (k * 2) = rcells (l.drop k)
  | [], k => by simp [rcells]
  | x :: l, 0 => by simp [rcells]
  | x :: l, k + 1 => by
    have := rcells_drop l k
    rw [show (k + 1) * 2 = k * 2 + 1 + 1 by omega]
    simp only [rcells, List.flatMap_cons, rcell, List.cons_append, List.nil_append, List.drop_succ_cons] at *
    exact this
theorem rcells_get (l : List (Int × Int)) (k : Nat) (hk : k < l.length) : (rcells l)[k * 2]? = some (.int .i64 (l.getD k (0, 0)).1) ∧ (rcells l)[k * 2 + 1]? = some (.int .i64 (l.getD k (0, 0)).2) := by
  have h1 : ∀ j, (rcells l)[k * 2 + j]? = (rcells (l.drop k))[j]? := fun j => by rw [← rcells_drop, List.getElem?_drop]
  have h2 := h1 0
  have h3 := h1 1
  rw [Nat.add_zero] at h2
  rw [h2, h3, List.drop_eq_getElem_cons hk, List.getD_eq_getElem?_getD, List.getElem?_eq_getElem hk]
  exact ⟨rfl, rfl⟩
theorem rcells_set (l : List (Int × Int)) (k : Nat) (x : Int × Int) (hk : k < l.length) : (rcells l).take (k * 2) ++ rcell x ++ (rcells l).drop (k * 2 + 2) = rcells (l.set k x) := by
  rw [rcells_take, show k * 2 + 2 = (k + 1) * 2 by omega, rcells_drop, List.set_eq_take_append_cons_drop, if_pos hk, rcells_append]
  simp [rcells]
section
variable {w w' : World} {X Y : Nat → Prop} {A : Option Addr} {n c : Nat} {l : List (Int × Int)}
theorem Rs.weak (h : Rs w X A n c l) (hX : ∀ b, b < w.heap.size → X b → Y b) : Rs w Y A n c l := ⟨h.sl.weak hX, h.len⟩
theorem Rs.step (h : Rs w X A n c l) (hb : Below w.heap.size w w') : Rs w' X A n c l := ⟨h.sl.step hb, h.len⟩
theorem Rs.alloc (h : Rs w X A n c l) (o : Obj) : Rs (w.alloc o) X A n c l := ⟨h.sl.alloc o, h.len⟩
theorem Rs.drew (h : Rs w X A n c l) : Rs w.drew X A n c l := ⟨h.sl.drew, h.len⟩
theorem Rs.drewN (h : Rs w X A n c l) (k : Nat) : Rs (w.drewN k) X A n c l := ⟨h.sl.drewN k, h.len⟩
theorem Rs.grown {row : Option Nat} (h : Rs w X A n c l) (hg : w.grownBy w' row) (hX : ∀ b, b < w.heap.size → X b → some b ≠ row) : Rs w' X A n c l := ⟨h.sl.grown hg hX, h.len⟩
theorem Rs.setRow (h : Rs w X A n c l) (g : Nat) (cs : Array Value) (hX : ¬ X g) : Rs (w.setRow g cs) X A n c l :=
  ⟨h.sl.keep (by simp) fun p _ hx => World.cell?_of_block (setRow_other w g p.block cs (fun e => hX (e ▸ hx))), h.len⟩
theorem Rs.empty : Rs w X none 0 0 [] := ⟨SlV.empty, rfl⟩
theorem Rs.take (h : Rs w X A n c l) (k : Nat) (hk : k ≤ n) : Rs w X A k c (l.take k) := ⟨by have := h.sl.take k hk; rwa [rcells_take] at this, by rw [List.length_take, h.len]; omega⟩
theorem Rs.drop (h : Rs w X A n c l) (k : Nat) (hk : k ≤ n) : Rs w X (if c = k then A else A.map (·.add (k * 2))) (n - k) (c - k) (l.drop k) := ⟨by have := h.sl.drop k hk; rwa [rcells_drop] at this, by rw [List.length_drop, h.len]⟩
/-- where they lie; one is read, whole or by its parts -/
theorem Rs.at_ (h : Rs w X A n c l) (hn : 0 < n) : ∃ b o, A = some ⟨b, o, none⟩ ∧ b < w.heap.size ∧ X b ∧ ∀ i, i < n → w.cell? ⟨b, o + i * 2, none⟩ = some (.int .i64 (l.getD i (0, 0)).1) ∧ w.cell? ⟨b, o + i * 2 + 1, none⟩ = some (.int .i64 (l.getD i (0, 0)).2) := by
  obtain ⟨b, o, h1, h2, h3, h4⟩ := h.sl.at_ hn (by decide)
  refine ⟨b, o, h1, h2, h3, fun i hi => ?_⟩
  obtain ⟨g1, g2⟩ := rcells_get l i (by rw [h.len]; exact hi)
  exact ⟨h4 _ _ g1, by rw [Nat.add_assoc]; exact h4 _ _ g2⟩
theorem Rs.lit (W : World) (l : List (Int × Int)) (hm : l.length ≤ 1000) (n : Nat) (hn : n = l.length) : Rs (W.alloc (.cells (rcells l).toArray 96)) (fun _ => True) (some ⟨W.heap.size, 0, none⟩) n n l :=
  ⟨SlV.lit W _ _ _ (by rw [rcells_len, hn]) (by unfold maxLen; omega) trivial, hn.symm⟩
theorem Rs.of_owns {base : Nat} {v : Value} (h : w.ownsRow base 96 2 v n (rcells l)) (hn : l.length = n) : ∃ A c, v = .slice A n c ∧ Rs w (fun b => base ≤ b ∧ some b = v.ownBlock) A n c l := by
  obtain ⟨A, c, hv, hs⟩ := owns_slv h
  exact ⟨A, c, hv, hs, hn⟩
end
theorem aggR : ∀ w : World, (isAgg 96).run Tryd.prog w = .ok true w := fun _ => by kernel_rfl
theorem sizeR : ∀ w : World, (sizeOf 96).run Tryd.prog w = .ok 2 w := fun _ => by kernel_rfl
theorem infoR : (Tryd.prog.info? 96).map (fun i => (i.zero, i.size, i.bytes)) = some (some (.agg #[.int .i64 0, .int .i64 0]), 2, 16) := by kernel_rfl
theorem sizeRe : ∀ w : World, (sizeOf (Tryd.prog.elem 107)).run Tryd.prog w = .ok 2 w := fun _ => by kernel_rfl
theorem sliceR : Tryd.prog.underlying 107 = some (.slice (Tryd.prog.elem 107)) := by kernel_rfl
theorem oneR (l : List (Int × Int)) : ∀ v ∈ rcells l, v.oneCell' = true := by
  intro v hv
  simp only [rcells, List.mem_flatMap, rcell] at hv
  obtain ⟨x, _, hv⟩ := hv
  simp only [List.mem_cons, List.not_mem_nil, or_false] at hv
  rcases hv with rfl | rfl <;> rfl
theorem Rs.load {w : World} {X : Nat → Prop} {A : Option Addr} {n c : Nat} {l : List (Int × Int)} (h : Rs w X A n c l) {b o : Nat} (hA : A = some ⟨b, o, none⟩) (i : Nat) (hi : i < n) :
    (Instr.loadAt 96 (.pointer (some ⟨b, o + i * 2, none⟩))).run Tryd.prog w = .ok (.agg #[.int .i64 (l.getD i (0, 0)).1, .int .i64 (l.getD i (0, 0)).2]) w := by
  obtain ⟨b', o', hA', _, _, hc⟩ := h.at_ (by omega)
  rw [hA] at hA'
  cases hA'
  exact run_load_agg (aggR _) (sizeR _) b (o + i * 2) [.int .i64 (l.getD i (0, 0)).1, .int .i64 (l.getD i (0, 0)).2] rfl fun j u hu => by
    match j, hu with
    | 0, hu => cases hu; exact (hc i hi).1
    | 1, hu => cases hu; exact (hc i hi).2
/-- one stretch more -/
theorem append_r {w : World} {base : Nat} {v : Value} {l : List (Int × Int)} {n : Nat} (h : w.ownsRow base 96 2 v n (rcells l)) (x : Int × Int) (hn : n ≤ 1000000000) (hb : base ≤ w.heap.size) :
    ∃ v' w', (Builtin.append_ #[107, 107] 107 #[v, .slice (some ⟨w.heap.size, 0, none⟩) 1 1]).run Tryd.prog (w.alloc (.cells #[.int .i64 x.1, .int .i64 x.2] 96)) = .ok v' w' ∧
      w'.ownsRow base 96 2 v' (n + 1) (rcells (l ++ [x])) ∧ w.grownBy w' v.ownBlock ∧ (v'.ownBlock = v.ownBlock ∨ ∃ k, v'.ownBlock = some k ∧ w.heap.size ≤ k) := by
  have hbA : Below w.heap.size w (w.alloc (.cells (rcells [x]).toArray 96)) := (Below.refl _ _).alloc (Nat.le_refl _) _
  obtain ⟨v', w', hr, ho, hg, hf⟩ := append_slv (ty := 107) Tryd.underlying107 infoR (by simp [Value.cells]) (by decide) (owns_step h hbA) (Rs.lit w [x] (by simp) 1 rfl).sl (oneR _) (by unfold maxLen; omega) (by omega) (Nat.le_trans hb hbA.size)
  rw [← rcells_append] at ho
  refine ⟨v', w', hr, ho, ⟨hg.os, hg.tape, hg.output, Nat.le_trans hbA.size hg.size, fun k hk hne => ?_⟩, ?_⟩
  · rw [hg.block k (Nat.lt_of_lt_of_le hk hbA.size) hne, hbA.block k hk]
  · rcases hf with hf | ⟨k, hf, hk⟩
    · exact .inl hf
    · exact .inr ⟨k, hf, by have := hbA.size; omega⟩
end Go.Proofs.YtfhmjgkcpcnkbaaDoor
/- A law's arguments that are slices of stretches, opened. -/
namespace Go.Proofs.YtfhmjgkcpcnkbaaDoor
open Go.RowKit Go.WideShapes Go.ChangeShapes Go.ChangeAt

section
variable {H : Type} {enc : TypeId × Value → H} {P : Program} {W : World} {base : Nat} {held : Bool}
theorem open_ranges {t e : TypeId} {f0 f1 : Field} {fuel : Nat} {cs : List Value} {x : DataW H × List MemPlace} (ht : P.underlying t = some (.slice e)) (he : P.underlying e = some (.struct #[f0, f1])) (h0 : f0.offset = 0) (h1 : f1.offset = 1)
    (u0 : P.underlying f0.type = some (.int .i64)) (u1 : P.underlying f1.type = some (.int .i64)) (c0 : P.cellsOf f0.type = 1) (c1 : P.cellsOf f1.type = 1) (ce : P.cellsOf e = 2)
    (h : DataW.trod enc P W 0 (fun _ => true) held fuel t cs = some x) : ∃ (A : Option Addr) (n c : Nat) (l : List (Int × Int)), cs = [Value.slice A n c] ∧ Rs W (· < W.heap.size) A n c l ∧ n + 1 ≤ Rows.uptoBulk x.1 := by
  obtain ⟨A, n, c, L, xs, g1, g2, g3, g4, g5, g6, g7⟩ := open_slR (fun (l : Int × Int) cs => cs = rcell l) (fun _ => 0) ht ce (by decide) (fun fuel cs y hy _ => by
    obtain ⟨a, b, e, _, _⟩ := open_pairf he h0 h1 u0 u1 c0 c1 ce hy
    exact ⟨(a, b), e, bulk_one _⟩) h
  have hL : L = xs.map rcell := by
    apply List.ext_getElem
    · simp [g3, g4]
    · intro i hi1 hi2
      simp only [List.length_map] at hi2
      rw [List.getElem_map]
      exact g6 i xs[i] L[i] (List.getElem?_eq_getElem hi2) (List.getElem?_eq_getElem hi1)
  refine ⟨A, n, c, xs, g1, ⟨?_, g4⟩, by omega⟩
  rw [hL] at g2
  exact g2
end
end Go.Proofs.YtfhmjgkcpcnkbaaDoor
