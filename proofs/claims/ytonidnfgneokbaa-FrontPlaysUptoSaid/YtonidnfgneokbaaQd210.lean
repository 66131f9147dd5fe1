/- hash.Of, Empty, Leaf, Node. -/
import Derived.Test.YtonidnfgneokbaaQd205
import Derived.Test.YtonidnfgneokbaaQd206
import Derived.Test.YtonidnfgneokbaaQd207
import Derived.Test.YtonidnfgneokbaaQd209
import Derived.Laws.MakeOwn
import Derived.Deep.FieldsWide
namespace Go.Proofs.Ytonidnfgneokbaa
open Go.RowKit

def hLeaf (e : List UInt8) : List UInt8 := sha256 (0 :: e)
def hNode (l r : List UInt8) : List UInt8 := sha256 (1 :: (l ++ r))
def hEmpty : List UInt8 := sha256 []
theorem length_hLeaf (e : List UInt8) : (hLeaf e).length = 32 := length_sha256 _
theorem length_hNode (l r : List UInt8) : (hNode l r).length = 32 := length_sha256 _
theorem length_hEmpty : hEmpty.length = 32 := length_sha256 _

set_option maxHeartbeats 400000 in
set_option maxRecDepth 100000 in
theorem hof_any (ls : List (List UInt8)) (A : Option Addr) (n c : Nat) (w : World) (hn : n = ls.length) (h : BsS w (· < w.heap.size) A ls) (hmax : n ≤ 9223372036854775807) (hl : ls.flatten.length ≤ 1152921504606846976) :
    Calls Try.prog 101 #[.slice A n c] w fun e w' => e = .returned (.agg ((sha256 ls.flatten).map B).toArray) ∧ Below w.heap.size w w' := by
  obtain ⟨r, hr⟩ : ∃ r, sha256 ls.flatten = r := ⟨_, rfl⟩
  have hrl : r.length = 32 := by rw [← hr]; exact length_sha256 _
  obtain ⟨zs, hzs⟩ : ∃ zs, zeroHash = zs := ⟨_, rfl⟩
  have hb := (Below.refl w.heap.size w).alloc (Nat.le_refl _) (.cells zs 25)
  have hs := shasum_any ls A n c (w.alloc (.cells zs 25)) hn ((h.below hb (fun _ h _ => h)).weak fun _ hb _ => hb) hmax hl
  rw [hr] at hs ⊢
  have k0 := Blk.new w 25 zs
  have hzl : zs.size = 32 := by rw [← hzs]; rfl
  have Hs := Lib.hid hs
  have Hzs := Lib.hid hzs
  have Hrl := Lib.hid hrl
  have Hr := Lib.hid hr
  clear hs hzs hrl hr hn h
  go_enter Try.func101, Try.ntmps101
  go_wp2_with (first
    | ((with_reducible show wpList _ _ _ (⟨some 2, .alloc _, _, _, _, _⟩ :: _) _ _); refine wpList_run rfl (.pointer (some ⟨w.heap.size, 0, none⟩)) (w.alloc (.cells zs 25)) (by rw [← Hzs.out]; rfl) ?_; simp only [Act.put])
    | (go_at_call 140; refine Hs.out.mono ?_; rintro e w1 ⟨rfl, hb1⟩; have k1 := k0.below hb1 (by simp); have B1 := hb.trans (hb1.mono (by simp)))
    | ((with_reducible show wpList _ _ _ (⟨none, .store _ _ _, _, _, _, _⟩ :: _) _ _); refine wpList_store_blk rfl 25 (.tmp 2) (.tmp 4) rfl 32 size26 w.heap.size (r.map B).toArray rfl rfl (by simp [Hrl.out]) (oneCell_B _) 25 _ k1 hzl ?_; simp only [Act.put]))
  refine bodyPost_ret (results_cell_row rfl _ _ w.heap.size 25 (r.map B).toArray (0, 0) _ rfl (k1.setRow_ _) Try.underlying25 rfl (by rw [show (r.map B).toArray.size = 32 by simp [Hrl.out]]; exact info26)) rfl ⟨rfl, ?_⟩
  exact below_setRow B1 (Nat.le_refl _) _

set_option maxHeartbeats 400000 in
set_option maxRecDepth 100000 in
theorem hempty_any (w : World) :
    Calls Try.prog 105 #[] w fun e w' => e = .returned (.agg (hEmpty.map B).toArray) ∧ Below w.heap.size w w' := by
  obtain ⟨r, hr⟩ : ∃ r, hEmpty = r := ⟨_, rfl⟩
  have hrl : r.length = 32 := by rw [← hr]; exact length_hEmpty
  obtain ⟨zs, hzs⟩ : ∃ zs, zeroHash = zs := ⟨_, rfl⟩
  have hb := (Below.refl w.heap.size w).alloc (Nat.le_refl _) (.cells zs 25)
  have hs := hof_any [] none 0 0 (w.alloc (.cells zs 25)) rfl ⟨[], Bs.nil, rfl, fun i hi => absurd hi (by simp)⟩ (by omega) (by simp)
  rw [show sha256 [].flatten = r from hr] at hs
  rw [hr]
  have k0 := Blk.new w 25 zs
  have hzl : zs.size = 32 := by rw [← hzs]; rfl
  have Hs := Lib.hid hs
  have Hzs := Lib.hid hzs
  have Hrl := Lib.hid hrl
  clear hs hzs hrl hr
  go_enter Try.func105, Try.ntmps105
  go_wp2_with (first
    | ((with_reducible show wpList _ _ _ (⟨some 0, .alloc _, _, _, _, _⟩ :: _) _ _); refine wpList_run rfl (.pointer (some ⟨w.heap.size, 0, none⟩)) (w.alloc (.cells zs 25)) (by rw [← Hzs.out]; rfl) ?_; simp only [Act.put])
    | (go_at_call 101; refine Hs.out.mono ?_; rintro e w1 ⟨rfl, hb1⟩; have k1 := k0.below hb1 (by simp); have B1 := hb.trans (hb1.mono (by simp)))
    | ((with_reducible show wpList _ _ _ (⟨none, .store _ _ _, _, _, _, _⟩ :: _) _ _); refine wpList_store_blk rfl 25 (.tmp 0) (.tmp 1) rfl 32 size26 w.heap.size (r.map B).toArray rfl rfl (by simp [Hrl.out]) (oneCell_B _) 25 _ k1 hzl ?_; simp only [Act.put]))
  refine bodyPost_ret (results_cell_row rfl _ _ w.heap.size 25 (r.map B).toArray (0, 0) _ rfl (k1.setRow_ _) Try.underlying25 rfl (by rw [show (r.map B).toArray.size = 32 by simp [Hrl.out]]; exact info26)) rfl ⟨rfl, ?_⟩
  exact below_setRow B1 (Nat.le_refl _) _

/-- slices of bytes that have just been put side by side -/
theorem BsS.lit (w : World) (vs : List Value) (ls : List (List UInt8)) (hl : vs.length = ls.length) (h : ∀ i (h : i < ls.length), ∃ Ai ci, vs[i]? = some (.slice Ai (ls[i]).length ci) ∧ (ls[i]).length ≤ ci ∧ Bs w (fun _ => True) Ai ((ls[i]).map B)) :
    BsS (w.alloc (.cells vs.toArray 23)) (· < (w.alloc (.cells vs.toArray 23)).heap.size) (some ⟨w.heap.size, 0, none⟩) ls :=
  ⟨vs, (Bs.new w (fun _ => True) _ _ trivial).weak fun _ hb _ => hb, hl, fun i hi => let ⟨Ai, ci, h1, h2, h3⟩ := h i hi; ⟨Ai, ci, h1, h2, (h3.alloc _).weak fun _ hb _ => hb⟩⟩

set_option maxHeartbeats 400000 in
set_option maxRecDepth 100000 in
theorem hleaf_any (l : List UInt8) (A : Option Addr) (n c : Nat) (w : World) (h : Sl w (fun _ => True) A n c l) (hl : n < 1152921504606846976) :
    Calls Try.prog 104 #[.slice A n c] w fun e w' => e = .returned (.agg ((hLeaf l).map B).toArray) ∧ Below w.heap.size w w' := by
  obtain ⟨r, hr⟩ : ∃ r, hLeaf l = r := ⟨_, rfl⟩
  have hrl : r.length = 32 := by rw [← hr]; exact length_hLeaf l
  have hll := h.len
  have hroom := h.room
  obtain ⟨zs, hzs⟩ : ∃ zs, zeroHash = zs := ⟨_, rfl⟩
  obtain ⟨w1, hw1⟩ : ∃ w1, (w.alloc (.cells zs 25)).alloc (.cells #[.int .u8 0] 5) = w1 := ⟨_, rfl⟩
  have hb : Below w.heap.size w w1 := by rw [← hw1]; exact ((Below.refl _ _).alloc (Nat.le_refl _) _).alloc (by simp) _
  have h1 : Sl w1 (fun _ => True) A n c l := by rw [← hw1]; exact (h.alloc _).alloc _
  have h0 : Bs w1 (fun _ => True) (some ⟨w.heap.size + 1, 0, none⟩) ([(0 : UInt8)].map B) := by
    rw [← hw1]
    have := Bs.new (w.alloc (.cells zs 25)) (fun _ => True) 5 ([(0 : UInt8)].map B) trivial
    rw [show (w.alloc (.cells zs 25)).heap.size = w.heap.size + 1 by simp] at this
    exact this
  have k0 : Blk w1 w.heap.size 25 zs := by rw [← hw1]; exact (Blk.new _ _ _).alloc _
  have hsz : w1.heap.size = w.heap.size + 1 + 1 := by rw [← hw1]; simp
  have hs := hof_any [[0], l] (some ⟨w1.heap.size, 0, none⟩) 2 2 _ rfl (BsS.lit w1 [.slice (some ⟨w.heap.size + 1, 0, none⟩) 1 1, .slice A n c] [[0], l] rfl fun i hi => by
    match i, hi with
    | 0, _ => exact ⟨_, _, rfl, Nat.le_refl _, h0⟩
    | 1, _ => exact ⟨A, c, by simp [hll], by simp [hll]; omega, h1.bs⟩) (by decide) (by simp [hll]; omega)
  rw [show sha256 [[0], l].flatten = r by rw [← hr]; simp [hLeaf]] at hs
  rw [hr]
  have hzl : zs.size = 32 := by rw [← hzs]; rfl
  have Hs := Lib.hid hs
  have Hzs := Lib.hid hzs
  have Hrl := Lib.hid hrl
  have Hw1 := Lib.hid hw1
  have Hsz := Lib.hid hsz
  clear hs hzs hrl hr h0 h1 hll hw1 hsz h
  go_enter Try.func104, Try.ntmps104
  go_wp2_with (first
    | ((with_reducible show wpList _ _ _ (⟨some 2, .alloc _, _, _, _, _⟩ :: _) _ _); refine wpList_run rfl (.pointer (some ⟨w.heap.size, 0, none⟩)) (w.alloc (.cells zs 25)) (by rw [← Hzs.out]; rfl) ?_; simp only [Act.put])
    | (go_at_call 101; rw [Hw1.out, ← Hsz.out]; refine Hs.out.mono ?_; rintro e w2 ⟨rfl, hb2⟩; have k1 := (k0.alloc _).below hb2 (by have := Hsz.out; simp; omega); have B1 := (hb.alloc hb.size _).trans (hb2.mono (by have := Hsz.out; simp; omega)))
    | ((with_reducible show wpList _ _ _ (⟨none, .store _ _ _, _, _, _, _⟩ :: _) _ _); refine wpList_store_blk rfl 25 (.tmp 2) (.tmp 6) rfl 32 size26 w.heap.size (r.map B).toArray rfl rfl (by simp [Hrl.out]) (oneCell_B _) 25 _ k1 hzl ?_; simp only [Act.put]))
  refine bodyPost_ret (results_cell_row rfl _ _ w.heap.size 25 (r.map B).toArray (0, 0) _ rfl (k1.setRow_ _) Try.underlying25 rfl (by rw [show (r.map B).toArray.size = 32 by simp [Hrl.out]]; exact info26)) rfl ⟨rfl, ?_⟩
  exact below_setRow B1 (Nat.le_refl _) _

theorem slice_all26 (g : Nat) (W : World) : (Instr.sliceAt 25 (.pointer (some ⟨g, 0, none⟩)) none none none).run Try.prog W = .ok (.slice (some ⟨g, 0, none⟩) 32 32) W := by
  rw [run_sliceAt_array_all W _ _ arrT26, size26e, arrN26]
  simp [slicedAt, Result.andThen, Addr.add]

set_option maxHeartbeats 400000 in
set_option maxRecDepth 100000 in
theorem hnode_any (l r : List UInt8) (w : World) (hl : l.length = 32) (hr : r.length = 32) :
    Calls Try.prog 107 #[.agg (l.map B).toArray, .agg (r.map B).toArray] w fun e w' => e = .returned (.agg ((hNode l r).map B).toArray) ∧ Below w.heap.size w w' := by
  obtain ⟨x, hx⟩ : ∃ x, hNode l r = x := ⟨_, rfl⟩
  have hxl : x.length = 32 := by rw [← hx]; exact length_hNode l r
  obtain ⟨zs, hzs⟩ : ∃ zs, zeroHash = zs := ⟨_, rfl⟩
  obtain ⟨lv, hlv⟩ : ∃ lv, (l.map B).toArray = lv := ⟨_, rfl⟩
  obtain ⟨rv, hrv⟩ : ∃ rv, (r.map B).toArray = rv := ⟨_, rfl⟩
  have hzl : zs.size = 32 := by rw [← hzs]; rfl
  rw [hx, hlv, hrv]
  have Hx := Lib.hid hx
  have Hxl := Lib.hid hxl
  have Hzs := Lib.hid hzs
  have Hlv := Lib.hid hlv
  have Hrv := Lib.hid hrv
  clear hx hxl hzs hlv hrv
  have sla := slice_all26
  go_enter Try.func107, Try.ntmps107
  go_upto_region 1 with fail
  refine wp_world (fun W => Blk W w.heap.size 25 lv ∧ Blk W (w.heap.size + 1) 25 rv ∧ Blk W (w.heap.size + 1 + 1) 25 zs ∧ Below w.heap.size w W ∧ w.heap.size + 1 + 1 < W.heap.size) ⟨?_, ?_, ?_, ?_, ?_⟩ ?_
  · exact ((Blk.new _ _ _).alloc _).alloc _
  · exact (Blk.new' _ _ _ _ (by simp)).alloc _
  · rw [← Hzs.out]; exact Blk.new' _ _ _ _ (by simp)
  · exact (((Below.refl _ _).alloc (Nat.le_refl _) _).alloc (by simp) _).alloc (by simp; omega) _
  · simp
  rintro W1 ⟨kl, kr, kz, B1, hW1⟩
  refine wp_region_mix (fun _ => True) [(1, true), (2, true), (0, false), (3, false), (4, false), (5, false)] (by kernel_rfl) (by kernel_rfl) trivial fun _ => ?_
  simp only [List.map_cons, List.map_nil, Array.getD_eq_getD_getElem?, List.getElem?_toArray, List.getElem?_cons_succ, List.getElem?_cons_zero, Option.getD_some]
  replace kl := kl.drew
  replace kr := kr.drew
  replace kz := kz.drew
  replace B1 := B1.drew
  replace hW1 : w.heap.size + 1 + 1 < W1.drew.heap.size := hW1
  generalize W1.drew = W2 at kl kr kz B1 hW1 ⊢
  iterate 2 (refine wpMix_s (fun K hK => ?_); go_simp; refine hK _ ?_; clear hK K)
  refine wpMix_c (fun K hK => ?_) trivial
  go_simp
  refine hK _ _ ?_
  clear hK K
  refine mix_world (fun W => Below W2.heap.size W2 W ∧ Bs W (fun _ => True) (some ⟨W2.heap.size, 0, none⟩) ([(1 : UInt8)].map B)) ⟨(Below.refl _ _).alloc (Nat.le_refl _) _, Bs.new W2 (fun _ => True) 5 ([(1 : UInt8)].map B) trivial⟩ (fun _ _ => trivial) ?_
  rintro W3 ⟨b3, h3⟩
  refine wpMix_c (fun K hK => ?_) trivial
  go_simp
  refine hK _ _ ?_
  clear hK K
  have kl3 := kl.below b3 kl.lt
  have kr3 := kr.below b3 kr.lt
  refine mix_world (fun W => Below W2.heap.size W2 W ∧ BsS W (· < W.heap.size) (some ⟨W3.heap.size, 0, none⟩) [[1], l, r]) ⟨b3.alloc b3.size _, BsS.lit W3 [.slice (some ⟨W2.heap.size, 0, none⟩) 1 1, .slice (some ⟨w.heap.size, 0, none⟩) 32 32, .slice (some ⟨w.heap.size + 1, 0, none⟩) 32 32] [[1], l, r] rfl fun i hi => by
    match i, hi with
    | 0, _ => exact ⟨_, _, rfl, Nat.le_refl _, h3⟩
    | 1, _ => exact ⟨_, 32, by show some _ = some (Value.slice _ l.length 32); rw [hl], by show l.length ≤ 32; omega, by rw [← Hlv.out] at kl3; exact kl3.new_bs⟩
    | 2, _ => exact ⟨_, 32, by show some _ = some (Value.slice _ r.length 32); rw [hr], by show r.length ≤ 32; omega, by rw [← Hrv.out] at kr3; exact kr3.new_bs⟩⟩ (fun _ _ => trivial) ?_
  clear h3 kl3 kr3 b3
  rintro W4 ⟨b4, h4⟩
  refine wpMix_c (fun K hK => ?_) trivial
  go_simp
  refine (hof_any [[1], l, r] _ 3 3 W4 rfl h4 (by decide) (by simp [hl, hr])).mono ?_
  rintro e W5 ⟨rfl, b5⟩
  rw [show sha256 [[1], l, r].flatten = x by rw [← Hx.out]; simp [hNode]]
  refine hK _ _ ?_
  clear hK K
  refine ⟨trivial, ?_⟩
  have b25 := b4.trans (b5.mono b4.size)
  have kz5 := kz.below b25 kz.lt
  have B5 := B1.trans (b25.mono B1.size)
  refine wpMix_store_blk rfl 25 (.tmp 4) (.tmp 9) rfl 32 size26 (w.heap.size + 1 + 1) (x.map B).toArray rfl rfl (by simp [Hxl.out]) (oneCell_B _) 25 _ kz5 hzl trivial ?_
  simp only [Act.put]
  refine wpMix_nil ?_
  intro _
  go_wp2_with fail
  refine bodyPost_ret (results_cell_row rfl _ _ (w.heap.size + 1 + 1) 25 (x.map B).toArray (0, 0) _ rfl (kz5.setRow_ _) Try.underlying25 rfl (by rw [show (x.map B).toArray.size = 32 by simp [Hxl.out]]; exact info26)) rfl ⟨rfl, ?_⟩
  exact below_setRow B5 (by omega) _
end Go.Proofs.Ytonidnfgneokbaa
/- Slices of hashes. -/
namespace Go.Proofs.Ytonidnfgneokbaa
open Go.RowKit

/-- hashes, side by side -/
def hcells (hs : List (List UInt8)) : List Value := hs.flatten.map B
def H32 (hs : List (List UInt8)) : Prop := ∀ h ∈ hs, h.length = 32
structure Hs (w : World) (X : Nat → Prop) (A : Option Addr) (n c : Nat) (hs : List (List UInt8)) : Prop where
  sl : SlV w X A n c 32 (hcells hs)
  len : hs.length = n
  all : H32 hs

theorem hcells_nil : hcells [] = [] := rfl
theorem hcells_append (a b : List (List UInt8)) : hcells (a ++ b) = hcells a ++ hcells b := by simp [hcells]
theorem hcells_len : ∀ (hs : List (List UInt8)), H32 hs → (hcells hs).length = hs.length * 32
  | [], _ => rfl
  | h :: hs, ha => by
    have h1 := hcells_len hs (fun x hx => ha x (by simp [hx]))
    have h2 := ha h (by simp)
    simp only [hcells, List.flatten_cons, List.map_append, List.length_append, List.length_map, List.length_cons] at *
    omega
theorem H32.take {hs : List (List UInt8)} (h : H32 hs) (k : Nat) : H32 (hs.take k) := fun x hx => h x (List.mem_of_mem_take hx)
theorem H32.drop {hs : List (List UInt8)} (h : H32 hs) (k : Nat) : H32 (hs.drop k) := fun x hx => h x (List.mem_of_mem_drop hx)
theorem H32.append {a b : List (List UInt8)} (h : H32 a) (k : H32 b) : H32 (a ++ b) := fun x hx => (List.mem_append.1 hx).elim (h x) (k x)
theorem H32.getD {hs : List (List UInt8)} (h : H32 hs) (k : Nat) (hk : k < hs.length) : (hs.getD k []).length = 32 := by
  rw [List.getD_eq_getElem?_getD, List.getElem?_eq_getElem hk]
  exact h _ (List.getElem_mem hk)
theorem hcells_take (hs : List (List UInt8)) (h : H32 hs) (k : Nat) (hk : k ≤ hs.length) : (hcells hs).take (k * 32) = hcells (hs.take k) := by
  have e : hcells hs = hcells (hs.take k) ++ hcells (hs.drop k) := by rw [← hcells_append, List.take_append_drop]
  have hl : (hcells (hs.take k)).length = k * 32 := by rw [hcells_len _ (h.take k), List.length_take, Nat.min_eq_left hk]
  rw [e, List.take_left' hl]
theorem hcells_drop (hs : List (List UInt8)) (h : H32 hs) (k : Nat) (hk : k ≤ hs.length) : (hcells hs).drop (k * 32) = hcells (hs.drop k) := by
  have e : hcells hs = hcells (hs.take k) ++ hcells (hs.drop k) := by rw [← hcells_append, List.take_append_drop]
  have hl : (hcells (hs.take k)).length = k * 32 := by rw [hcells_len _ (h.take k), List.length_take, Nat.min_eq_left hk]
  rw [e, List.drop_left' hl]
theorem hcells_get (hs : List (List UInt8)) (h : H32 hs) (k : Nat) (hk : k < hs.length) (j : Nat) (v : Value) (hv : ((hs.getD k []).map B)[j]? = some v) : (hcells hs)[k * 32 + j]? = some v := by
  have hj : j < 32 := by have := (List.getElem?_eq_some_iff.1 hv).1; rw [List.length_map, h.getD k hk] at this; exact this
  rw [← List.getElem?_drop, hcells_drop hs h k (by omega), List.drop_eq_getElem_cons hk, hcells, List.flatten_cons, List.map_append, List.getElem?_append_left (by rw [List.length_map, h _ (List.getElem_mem hk)]; exact hj)]
  rw [List.getD_eq_getElem?_getD, List.getElem?_eq_getElem hk] at hv
  exact hv

section
variable {w w' : World} {X Y : Nat → Prop} {A : Option Addr} {n c : Nat} {hs : List (List UInt8)}
theorem Hs.weak (h : Hs w X A n c hs) (hX : ∀ b, b < w.heap.size → X b → Y b) : Hs w Y A n c hs := ⟨h.sl.weak hX, h.len, h.all⟩
theorem Hs.step (h : Hs w X A n c hs) (hb : Below w.heap.size w w') : Hs w' X A n c hs := ⟨h.sl.step hb, h.len, h.all⟩
theorem Hs.below {N : Nat} (h : Hs w X A n c hs) (hb : Below N w w') (hX : ∀ b, b < w.heap.size → X b → b < N) : Hs w' X A n c hs := ⟨h.sl.below hb hX, h.len, h.all⟩
theorem Hs.alloc (h : Hs w X A n c hs) (o : Obj) : Hs (w.alloc o) X A n c hs := ⟨h.sl.alloc o, h.len, h.all⟩
theorem Hs.drew (h : Hs w X A n c hs) : Hs w.drew X A n c hs := ⟨h.sl.drew, h.len, h.all⟩
theorem Hs.grown {row : Option Nat} (h : Hs w X A n c hs) (hg : w.grownBy w' row) (hX : ∀ b, b < w.heap.size → X b → some b ≠ row) : Hs w' X A n c hs := ⟨h.sl.grown hg hX, h.len, h.all⟩
theorem Hs.setRow (h : Hs w X A n c hs) (g : Nat) (cs : Array Value) (hX : ¬ X g) : Hs (w.setRow g cs) X A n c hs :=
  ⟨h.sl.keep (by simp) fun p _ hx => World.cell?_of_block (setRow_other w g p.block cs (fun e => hX (e ▸ hx))), h.len, h.all⟩
theorem Hs.drop (h : Hs w X A n c hs) (k : Nat) (hk : k ≤ n) : Hs w X (if c = k then A else A.map (·.add (k * 32))) (n - k) (c - k) (hs.drop k) :=
  ⟨by have := h.sl.drop k hk; rwa [hcells_drop hs h.all k (by rw [h.len]; exact hk)] at this, by rw [List.length_drop, h.len], h.all.drop k⟩
theorem Hs.take (h : Hs w X A n c hs) (k : Nat) (hk : k ≤ n) : Hs w X A k c (hs.take k) :=
  ⟨by have := h.sl.take k hk; rwa [hcells_take hs h.all k (by rw [h.len]; exact hk)] at this, by rw [List.length_take, h.len]; omega, h.all.take k⟩
theorem Hs.empty : Hs w X none 0 0 [] := ⟨SlV.empty, rfl, fun _ h => absurd h (by simp)⟩
/-- where they lie; one is read -/
theorem Hs.at_ (h : Hs w X A n c hs) (hn : 0 < n) : ∃ b o, A = some ⟨b, o, none⟩ ∧ b < w.heap.size ∧ X b ∧ ∀ i, i < n → (Instr.loadAt 25 (.pointer (some ⟨b, o + i * 32, none⟩))).run Try.prog w = .ok (.agg ((hs.getD i []).map B).toArray) w := by
  obtain ⟨b, o, h1, h2, h3, h4⟩ := h.sl.at_ hn (by decide)
  refine ⟨b, o, h1, h2, h3, fun i hi => run_load_agg (agg26 _) (size26 _) b (o + i * 32) _ (by rw [List.length_map, h.all.getD i (by rw [h.len]; exact hi)]) fun j u hu => ?_⟩
  rw [Nat.add_assoc]
  exact h4 _ u (hcells_get hs h.all i (by rw [h.len]; exact hi) j u hu)
end

theorem run_make_hash (w : World) (m : Nat) (hm : m ≤ 4398046511104) :
    (Instr.makeSlice 26 (.int .i64 (m : Int)) (.int .i64 (m : Int))).run Try.prog w = .ok (.slice (some ⟨w.heap.size, 0, none⟩) m m) (w.alloc (.cells ((List.replicate (m * 32) (0 : UInt8)).map B).toArray 25)) := by
  obtain ⟨i, hi⟩ : ∃ i, Try.prog.info? 25 = some i := Option.isSome_iff_exists.1 (by kernel_rfl)
  have hz : i.zero = some (.agg ((List.replicate 32 (0 : UInt8)).map B).toArray) := by
    have : (Try.prog.info? 25).bind (·.zero) = some (.agg ((List.replicate 32 (0 : UInt8)).map B).toArray) := by kernel_rfl
    rw [hi] at this; exact this
  have hs : i.size = 32 := by
    have : (Try.prog.info? 25).map (·.size) = some 32 := by kernel_rfl
    rw [hi] at this; exact Option.some.inj this
  have hby : i.bytes = 32 := by
    have : (Try.prog.info? 25).map (·.bytes) = some 32 := by kernel_rfl
    rw [hi] at this; exact Option.some.inj this
  have := run_make (P := Try.prog) w 26 25 i _ Try.underlying26 hi hz .i64 .i64 m m (by omega) (by omega) (by rw [hby]; omega) (by omega)
  rw [this, hs, Int.toNat_natCast]
  have hm : madeCells (Value.agg ((List.replicate 32 (0 : UInt8)).map B).toArray).cells (m * 32) = ((List.replicate (m * 32) (0 : UInt8)).map B).toArray := by
    apply Array.ext
    · simp [madeCells]
    · intro k h1 h2
      have hz : ∀ q, q < 32 → (((List.replicate 32 (0 : UInt8)).map B).toArray)[q]! = B 0 := fun q hq => by
        rw [getElem!_pos _ _ (by simp only [List.size_toArray, List.length_map, List.length_replicate]; exact hq), List.getElem_toArray, List.getElem_map, List.getElem_replicate]
      simp only [madeCells, Array.getElem_map, Array.getElem_range, List.getElem_toArray, List.getElem_map, List.getElem_replicate]
      exact hz _ (by rw [show (Value.agg ((List.replicate 32 (0 : UInt8)).map B).toArray).cells = ((List.replicate 32 (0 : UInt8)).map B).toArray from rfl]; simp; omega)
  rw [hm]

theorem size57 : ∀ w : World, (sizeOf (Try.prog.elem 26)).run Try.prog w = .ok 32 w := fun _ => by kernel_rfl
theorem sliceT57 : Try.prog.underlying 26 = some (.slice (Try.prog.elem 26)) := by kernel_rfl
theorem info26z : (Try.prog.info? 25).map (fun i => (i.zero, i.size, i.bytes)) = some (some (.agg ((List.replicate 32 (0 : UInt8)).map B).toArray), 32, 32) := by kernel_rfl
end Go.Proofs.Ytonidnfgneokbaa
/- A law's arguments that are hashes, opened. -/
namespace Go.Proofs.Ytonidnfgneokbaa
open Go.RowKit Go.WideShapes Go.ChangeShapes Go.ChangeAt

section
variable {H : Type} {enc : TypeId × Value → H} {P : Program} {W : World} {base : Nat} {held : Bool}
/-- bytes in a row of their own -/
theorem open_bytesArr {t e : TypeId} {n fuel : Nat} {spare : Nat → Bool} {cs : List Value} {x : DataW H × List MemPlace} (ht : P.underlying t = some (.array n e)) (he : P.underlying e = some (.int .u8)) (hc : P.cellsOf e = 1) (hcs : cs.length = n)
    (h : DataW.trod enc P W 0 spare held fuel t cs = some x) : ∃ l : List UInt8, cs = l.map B ∧ l.length = n := by
  obtain ⟨xs, m, rfl, _, hl, hxl, hi⟩ := DataW.trod_array ht h
  obtain ⟨l, hl'⟩ := exists_map B cs (fun y hy => by
    obtain ⟨i, hin, hiy⟩ := List.getElem_of_mem hy
    have h1 := hi i (by omega)
    rw [hc, Nat.mul_one, List.getElem?_eq_getElem (by omega)] at h1
    obtain ⟨x, hx, _, hwf⟩ := DataW.trod_int he h1
    have h2 := congrArg (·[0]?) hx
    simp only [List.getElem?_cons_zero] at h2
    rw [List.getElem?_take_of_lt (by omega), List.getElem?_drop, Nat.add_zero, List.getElem?_eq_getElem hin] at h2
    rw [← hiy]
    have := bounds_u8 hwf
    exact ⟨UInt8.ofNat x.toNat, by rw [Option.some.inj h2]; simp [B, UInt8.toNat_ofNat']; omega⟩)
  exact ⟨l, hl', by rw [← hcs, hl', List.length_map]⟩
/-- two of them -/
theorem open_two {t e q : TypeId} {n : Nat} {v : Value} {d : DataW H} {p : List MemPlace} {spare : Nat → Bool} (ht : P.underlying t = some (.array 2 e)) (he : P.underlying e = some (.array n q)) (hq : P.underlying q = some (.int .u8)) (cq : P.cellsOf q = 1) (ce : P.cellsOf e = n) (hct : P.cellsOf t = 2 * n)
    (hok : Value.okWide P W .any base t v) (h : DataW.Trod enc P W 0 spare held t v d p) : ∃ x y : List UInt8, v = .agg ((x ++ y).map B).toArray ∧ x.length = n ∧ y.length = n := by
  simp only [Value.okWide, ht] at hok
  obtain ⟨cs, rfl, hsz, _⟩ := hok
  obtain ⟨fuel, h⟩ := h
  obtain ⟨xs, m, rfl, _, hl, hxl, hi⟩ := DataW.trod_array ht h
  have hsz' : cs.toList.length = 2 * n := by simpa [hct] using hsz
  have h0 := hi 0 (by omega)
  have h1 := hi 1 (by omega)
  simp only [ce, Nat.zero_mul, Nat.one_mul, List.drop_zero, Value.cells] at h0 h1
  rw [List.getElem?_eq_getElem (by omega)] at h0 h1
  obtain ⟨x, hx, hxl'⟩ := open_bytesArr he hq cq (by rw [List.length_take]; omega) h0
  obtain ⟨y, hy, hyl⟩ := open_bytesArr he hq cq (by rw [List.length_take, List.length_drop]; omega) h1
  refine ⟨x, y, ?_, hxl', hyl⟩
  have : cs.toList = (x ++ y).map B := by
    rw [List.map_append, ← hx, ← hy, List.take_of_length_le (l := cs.toList.drop n) (by rw [List.length_drop]; omega), List.take_append_drop]
  rw [← this]
/-- a slice of them -/
theorem open_hashes {t e q : TypeId} {fuel : Nat} {cs : List Value} {x : DataW H × List MemPlace} (ht : P.underlying t = some (.slice e)) (he : P.underlying e = some (.array 32 q)) (hq : P.underlying q = some (.int .u8)) (cq : P.cellsOf q = 1) (ce : P.cellsOf e = 32)
    (h : DataW.trod enc P W 0 (fun _ => true) held fuel t cs = some x) : ∃ (A : Option Addr) (n c : Nat) (hs : List (List UInt8)), cs = [Value.slice A n c] ∧ Hs W (· < W.heap.size) A n c hs ∧ n + 1 ≤ Rows.uptoBulk x.1 := by
  obtain ⟨A, n, c, L, xs, h1, h2, h3, h4, h5, h6, h7⟩ := open_slR (fun (l : List UInt8) cs => cs = l.map B ∧ l.length = 32) (fun _ => 0) ht ce (by decide) (fun fuel cs y hy hl => by
    obtain ⟨l, g1, g2⟩ := open_bytesArr he hq cq hl hy
    exact ⟨l, ⟨g1, g2⟩, bulk_one _⟩) h
  have hL : L = xs.map (·.map B) := by
    apply List.ext_getElem
    · simp [h3, h4]
    · intro i hi1 hi2
      simp only [List.length_map] at hi2
      rw [List.getElem_map]
      exact (h6 i xs[i] L[i] (List.getElem?_eq_getElem hi2) (List.getElem?_eq_getElem hi1)).1
  refine ⟨A, n, c, xs, h1, ⟨?_, h4, fun l hl => ?_⟩, by omega⟩
  · rw [hL] at h2
    unfold hcells
    rw [List.map_flatten]
    exact h2
  · obtain ⟨i, hi, rfl⟩ := List.getElem_of_mem hl
    exact (h6 i xs[i] (L[i]'(by omega)) (List.getElem?_eq_getElem hi) (List.getElem?_eq_getElem (by omega))).2
end
end Go.Proofs.Ytonidnfgneokbaa
/- A law's arguments that are structs, opened. -/
namespace Go.Proofs.Ytonidnfgneokbaa
open Go.RowKit Go.WideShapes Go.ChangeShapes Go.ChangeAt

section
variable {H : Type} {enc : TypeId × Value → H} {P : Program} {W : World} {base : Nat} {held : Bool}
/-- a field's cells, where it is an integer -/
theorem open_intf {t : TypeId} {k : IntKind} {fuel : Nat} {spare : Nat → Bool} {cs : List Value} {x : DataW H × List MemPlace} (ht : P.underlying t = some (.int k)) (h : DataW.trod enc P W 0 spare held fuel t cs = some x) : ∃ z, cs = [.int k z] ∧ (Lit.int k z).wf = true := by
  obtain ⟨z, h1, _, h2⟩ := DataW.trod_int ht h
  exact ⟨z, h1, h2⟩
/-- two integers, side by side -/
theorem open_pairf {t : TypeId} {f0 f1 : Field} {k0 k1 : IntKind} {fuel : Nat} {spare : Nat → Bool} {cs : List Value} {x : DataW H × List MemPlace} (ht : P.underlying t = some (.struct #[f0, f1])) (h0 : f0.offset = 0) (h1 : f1.offset = 1)
    (u0 : P.underlying f0.type = some (.int k0)) (u1 : P.underlying f1.type = some (.int k1)) (c0 : P.cellsOf f0.type = 1) (c1 : P.cellsOf f1.type = 1) (hct : P.cellsOf t = 2)
    (h : DataW.trod enc P W 0 spare held fuel t cs = some x) : ∃ a b, cs = [.int k0 a, .int k1 b] ∧ (Lit.int k0 a).wf = true ∧ (Lit.int k1 b).wf = true := by
  obtain ⟨y0, y1, n, _, hl, g0, g1⟩ := trod_struct2 ht h
  rw [h0, c0, List.drop_zero] at g0
  rw [h1, c1] at g1
  obtain ⟨a, ea, wa⟩ := open_intf u0 g0
  obtain ⟨b, eb, wb⟩ := open_intf u1 g1
  rw [hct] at hl
  match cs, hl with
  | [p, q], _ =>
    simp only [List.take_succ_cons, List.take_zero, List.drop_succ_cons, List.drop_zero, List.cons.injEq, and_true] at ea eb
    exact ⟨a, b, by rw [ea, eb], wa, wb⟩
theorem open_pair {t : TypeId} {f0 f1 : Field} {k0 k1 : IntKind} {v : Value} {d : DataW H} {p : List MemPlace} {spare : Nat → Bool} (ht : P.underlying t = some (.struct #[f0, f1])) (h0 : f0.offset = 0) (h1 : f1.offset = 1)
    (u0 : P.underlying f0.type = some (.int k0)) (u1 : P.underlying f1.type = some (.int k1)) (c0 : P.cellsOf f0.type = 1) (c1 : P.cellsOf f1.type = 1) (hct : P.cellsOf t = 2)
    (hok : Value.okWide P W .any base t v) (h : DataW.Trod enc P W 0 spare held t v d p) : ∃ a b, v = .agg #[.int k0 a, .int k1 b] ∧ (Lit.int k0 a).wf = true ∧ (Lit.int k1 b).wf = true := by
  simp only [Value.okWide, ht] at hok
  obtain ⟨cs, rfl, hsz, _⟩ := hok
  obtain ⟨fuel, h⟩ := h
  obtain ⟨a, b, hcs, wa, wb⟩ := open_pairf ht h0 h1 u0 u1 c0 c1 hct h
  refine ⟨a, b, ?_, wa, wb⟩
  simp only [Value.cells] at hcs
  rw [← Array.toArray_toList (xs := cs), hcs]
end
end Go.Proofs.Ytonidnfgneokbaa
/- A law's arguments that are structs with slices in them, opened: an ask of chapter 13, a clash. -/
namespace Go.Proofs.Ytonidnfgneokbaa
open Go.RowKit Go.WideShapes Go.ChangeShapes Go.ChangeAt

section
variable {H : Type} {enc : TypeId × Value → H} {P : Program} {W : World} {base : Nat} {held : Bool}
theorem five_of {α : Type} {xs : List α} (h : xs.length = 5) : ∃ a b c d e, xs = [a, b, c, d, e] := by
  match xs, h with
  | [a, b, c, d, e], _ => exact ⟨a, b, c, d, e, rfl⟩
theorem two_of {α : Type} {xs : List α} (h : xs.length = 2) : ∃ a b, xs = [a, b] := by
  match xs, h with
  | [a, b], _ => exact ⟨a, b, rfl⟩
theorem open_ask13 {t eD q eH : TypeId} {f0 f1 f2 f3 f4 : Field} {v : Value} {d : DataW H} {p : List MemPlace} (ht : P.underlying t = some (.struct #[f0, f1, f2, f3, f4])) (o0 : f0.offset = 0) (o1 : f1.offset = 1) (o2 : f2.offset = 2) (o3 : f3.offset = 3) (o4 : f4.offset = 35)
    (u0 : P.underlying f0.type = some (.slice eD)) (uD : P.underlying eD = some (.slice q)) (u1 : P.underlying f1.type = some (.int .i64)) (u2 : P.underlying f2.type = some (.slice q)) (u3 : P.underlying f3.type = some (.array 32 q)) (u4 : P.underlying f4.type = some (.slice eH)) (uH : P.underlying eH = some (.array 32 q)) (hq : P.underlying q = some (.int .u8))
    (c0 : P.cellsOf f0.type = 1) (cD : P.cellsOf eD = 1) (c1 : P.cellsOf f1.type = 1) (c2 : P.cellsOf f2.type = 1) (c3 : P.cellsOf f3.type = 32) (c4 : P.cellsOf f4.type = 1) (cH : P.cellsOf eH = 32) (cq : P.cellsOf q = 1) (hct : P.cellsOf t = 36)
    (hok : Value.okWide P W .any base t v) (h : DataW.Trod enc P W 0 (fun _ => true) held t v d p) :
    ∃ (Ad : Option Addr) (nd cd : Nat) (vs : List Value) (ls : List (List UInt8)) (i : Int) (Ae : Option Addr) (ne ce : Nat) (en fi : List UInt8) (Ap : Option Addr) (np cp : Nat) (pf : List (List UInt8)),
      v = .agg (Value.slice Ad nd cd :: .int .i64 i :: .slice Ae ne ce :: (fi.map B ++ [.slice Ap np cp])).toArray ∧ SlS W Ad nd cd vs ls ∧ Sl W (· < W.heap.size) Ae ne ce en ∧ Hs W (· < W.heap.size) Ap np cp pf ∧ fi.length = 32 ∧ (Lit.int .i64 i).wf = true ∧ ls.flatten.length + nd + ne + np + 3 ≤ Rows.uptoBulk d := by
  simp only [Value.okWide, ht] at hok
  obtain ⟨cs, rfl, hsz, _⟩ := hok
  obtain ⟨fuel, h⟩ := h
  obtain ⟨xs, k, _, hx, hl, hlen, hf⟩ := DataW.trod_struct ht h
  obtain ⟨y0, y1, y2, y3, y4, rfl⟩ := five_of (show xs.length = 5 from hlen)
  have g0 : _ = some y0 := hf 0 f0 rfl
  have g1 : _ = some y1 := hf 1 f1 rfl
  have g2 : _ = some y2 := hf 2 f2 rfl
  have g3 : _ = some y3 := hf 3 f3 rfl
  have g4 : _ = some y4 := hf 4 f4 rfl
  rw [o0, c0] at g0
  rw [o1, c1] at g1
  rw [o2, c2] at g2
  rw [o3, c3] at g3
  rw [o4, c4] at g4
  rw [hct] at hl
  obtain ⟨Ad, nd, cd, vs, ls, e0, s0, b0⟩ := open_u8ss u0 uD hq cD cq g0
  obtain ⟨i, e1, wi⟩ := open_intf u1 g1
  obtain ⟨Ae, ne, ce, en, e2, s2, b2⟩ := open_u8s u2 hq cq g2
  obtain ⟨fi, e3, l3⟩ := open_bytesArr u3 hq cq (by rw [List.length_take, List.length_drop, hl]; rfl) g3
  obtain ⟨Ap, np, cp, pf, e4, s4, b4⟩ := open_hashes u4 uH hq cq cH g4
  refine ⟨Ad, nd, cd, vs, ls, i, Ae, ne, ce, en, fi, Ap, np, cp, pf, ?_, s0, s2, s4, l3, wi, ?_⟩
  · rw [← Array.toArray_toList (xs := cs)]
    congr 2
    simp only [Value.cells] at hl e0 e1 e2 e3 e4
    match hcs : cs.toList, hl with
    | a :: b :: c :: r, hr =>
      rw [hcs] at e0 e1 e2 e3 e4
      simp only [List.drop_succ_cons, List.drop_zero, List.take_succ_cons, List.take_zero, List.cons.injEq, and_true] at e0 e1 e2 e3 e4
      have hr33 : r.length = 33 := by simpa using hr
      rw [e0, e1, e2, ← e3, ← e4, List.take_of_length_le (l := r.drop 32) (by rw [List.length_drop, hr33]; omega), List.take_append_drop]
  · cases hx
    simp only [List.map_cons, List.map_nil, Rows.uptoBulk, Rows.uptoBulkAll]
    omega
/-- a clash -/
theorem open_clash {t q : TypeId} {f0 f1 : Field} {v : Value} {d : DataW H} {p : List MemPlace} (ht : P.underlying t = some (.struct #[f0, f1])) (o0 : f0.offset = 0) (o1 : f1.offset = 1)
    (u0 : P.underlying f0.type = some (.slice q)) (u1 : P.underlying f1.type = some (.slice q)) (hq : P.underlying q = some (.int .u8)) (c0 : P.cellsOf f0.type = 1) (c1 : P.cellsOf f1.type = 1) (cq : P.cellsOf q = 1) (hct : P.cellsOf t = 2)
    (hok : Value.okWide P W .any base t v) (h : DataW.Trod enc P W 0 (fun _ => true) held t v d p) :
    ∃ (A : Option Addr) (n c : Nat) (l : List UInt8) (A' : Option Addr) (n' c' : Nat) (m : List UInt8), v = .agg #[.slice A n c, .slice A' n' c'] ∧ Sl W (· < W.heap.size) A n c l ∧ Sl W (· < W.heap.size) A' n' c' m ∧ n + n' + 2 ≤ Rows.uptoBulk d := by
  simp only [Value.okWide, ht] at hok
  obtain ⟨cs, rfl, hsz, _⟩ := hok
  obtain ⟨fuel, h⟩ := h
  obtain ⟨xs, k, _, hx, hl, hlen, hf⟩ := DataW.trod_struct ht h
  obtain ⟨y0, y1, rfl⟩ := two_of (show xs.length = 2 from hlen)
  have g0 : _ = some y0 := hf 0 f0 rfl
  have g1 : _ = some y1 := hf 1 f1 rfl
  rw [o0, c0] at g0
  rw [o1, c1] at g1
  rw [hct] at hl
  obtain ⟨A, n, c, l, e0, s0, b0⟩ := open_u8s u0 hq cq g0
  obtain ⟨A', n', c', m, e1, s1, b1⟩ := open_u8s u1 hq cq g1
  refine ⟨A, n, c, l, A', n', c', m, ?_, s0, s1, ?_⟩
  · rw [← Array.toArray_toList (xs := cs)]
    congr 2
    simp only [Value.cells] at hl e0 e1
    match hcs : cs.toList, hl with
    | [a, b], _ =>
      rw [hcs] at e0 e1
      simp only [List.drop_succ_cons, List.drop_zero, List.take_succ_cons, List.take_zero, List.cons.injEq, and_true] at e0 e1
      rw [e0, e1]
  · cases hx
    simp only [List.map_cons, List.map_nil, Rows.uptoBulk, Rows.uptoBulkAll]
    omega
end
end Go.Proofs.Ytonidnfgneokbaa
/- A law's argument that is a size and hashes, opened. -/
namespace Go.Proofs.Ytonidnfgneokbaa
open Go.RowKit Go.WideShapes Go.ChangeShapes Go.ChangeAt

section
variable {H : Type} {enc : TypeId × Value → H} {P : Program} {W : World} {base : Nat} {held : Bool}
theorem open_start {t eH q : TypeId} {f0 f1 : Field} {v : Value} {d : DataW H} {p : List MemPlace} (ht : P.underlying t = some (.struct #[f0, f1])) (o0 : f0.offset = 0) (o1 : f1.offset = 1)
    (u0 : P.underlying f0.type = some (.int .i64)) (u1 : P.underlying f1.type = some (.slice eH)) (uH : P.underlying eH = some (.array 32 q)) (hq : P.underlying q = some (.int .u8)) (c0 : P.cellsOf f0.type = 1) (c1 : P.cellsOf f1.type = 1) (cH : P.cellsOf eH = 32) (cq : P.cellsOf q = 1) (hct : P.cellsOf t = 2)
    (hok : Value.okWide P W .any base t v) (h : DataW.Trod enc P W 0 (fun _ => true) held t v d p) :
    ∃ (z : Int) (A : Option Addr) (n c : Nat) (hs : List (List UInt8)), v = .agg #[.int .i64 z, .slice A n c] ∧ (Lit.int .i64 z).wf = true ∧ Hs W (· < W.heap.size) A n c hs ∧ n + 1 ≤ Rows.uptoBulk d := by
  simp only [Value.okWide, ht] at hok
  obtain ⟨cs, rfl, hsz, _⟩ := hok
  obtain ⟨fuel, h⟩ := h
  obtain ⟨xs, k, _, hx, hl, hlen, hf⟩ := DataW.trod_struct ht h
  obtain ⟨y0, y1, rfl⟩ := two_of (show xs.length = 2 from hlen)
  have g0 : _ = some y0 := hf 0 f0 rfl
  have g1 : _ = some y1 := hf 1 f1 rfl
  rw [o0, c0] at g0
  rw [o1, c1] at g1
  rw [hct] at hl
  obtain ⟨z, e0, wz⟩ := open_intf u0 g0
  obtain ⟨A, n, c, hs, e1, s1, b1⟩ := open_hashes u1 uH hq cq cH g1
  refine ⟨z, A, n, c, hs, ?_, wz, s1, ?_⟩
  · rw [← Array.toArray_toList (xs := cs)]
    congr 2
    simp only [Value.cells] at hl e0 e1
    match hcs : cs.toList, hl with
    | [a, b], _ =>
      rw [hcs] at e0 e1
      simp only [List.drop_succ_cons, List.drop_zero, List.take_succ_cons, List.take_zero, List.cons.injEq, and_true] at e0 e1
      rw [e0, e1]
  · cases hx
    simp only [List.map_cons, List.map_nil, Rows.uptoBulk, Rows.uptoBulkAll]
    omega
/-- a number that fits -/
theorem wf_i64 {z : Int} (h : (Lit.int .i64 z).wf = true) : -9223372036854775808 ≤ z ∧ z ≤ 9223372036854775807 := by
  simpa [Lit.wf, IntKind.min, IntKind.max, IntKind.signed, IntKind.bits] using h
theorem mem_flat_le {ls : List (List UInt8)} {x : List UInt8} (h : x ∈ ls) : x.length ≤ ls.flatten.length := (List.sublist_flatten_of_mem h).length_le
end
end Go.Proofs.Ytonidnfgneokbaa
/- A tree's edge: parts that come (plain). -/
namespace Go.Proofs.Ytonidnfgneokbaa
open Go

/-- parts: each with its level and its hash -/
abbrev FrV := List (Nat × List UInt8)
abbrev FpV := Nat × List UInt8
/-- a part comes; the parts stand with the last ahead -/
def comeR : FrV → FpV → FrV
  | [], p => [p]
  | q :: r, p => if q.1 = p.1 then comeR r (p.1 + 1, hNode q.2 p.2) else p :: q :: r
def comeF (ps : FrV) (p : FpV) : FrV := (comeR ps.reverse p).reverse
theorem comeF_nil (p : FpV) : comeF [] p = [p] := rfl
theorem comeF_step (l : FrV) (q p : FpV) (h : q.1 = p.1) : comeF (l ++ [q]) p = comeF l (p.1 + 1, hNode q.2 p.2) := by
  unfold comeF
  rw [List.reverse_append, List.reverse_singleton, List.singleton_append]
  conv => lhs; unfold comeR
  rw [if_pos h]
theorem comeF_stop (l : FrV) (q p : FpV) (h : q.1 ≠ p.1) : comeF (l ++ [q]) p = l ++ [q] ++ [p] := by
  unfold comeF
  rw [List.reverse_append, List.reverse_singleton, List.singleton_append]
  unfold comeR
  rw [if_neg h]
  simp
/-- how many entries -/
def szF (ps : FrV) : Nat := (ps.map fun p => 2 ^ p.1).sum
theorem szF_nil : szF [] = 0 := rfl
theorem szF_append (a b : FrV) : szF (a ++ b) = szF a + szF b := by unfold szF; rw [List.map_append, List.sum_append]
theorem szF_one (p : FpV) : szF [p] = 2 ^ p.1 := by simp [szF]
/-- the levels fall -/
def DecF (ps : FrV) : Prop := ps.Pairwise fun a b => b.1 < a.1
def F32 (ps : FrV) : Prop := ∀ p ∈ ps, p.2.length = 32
def F62 (ps : FrV) : Prop := ∀ p ∈ ps, p.1 ≤ 62
theorem snoc_cases (ps : FrV) : ps = [] ∨ ∃ l q, ps = l ++ [q] := by
  rcases List.eq_nil_or_concat ps with h | ⟨l, q, h⟩
  · exact .inl h
  · exact .inr ⟨l, q, by rw [h, List.concat_eq_append]⟩
theorem come_size : ∀ (n : Nat) (ps : FrV), ps.length = n → ∀ p : FpV, szF (comeF ps p) = szF ps + 2 ^ p.1
  | 0, ps, h, p => by
    rw [List.length_eq_zero_iff.1 h, comeF_nil, szF_one, szF_nil, Nat.zero_add]
  | n + 1, ps, h, p => by
    rcases snoc_cases ps with rfl | ⟨l, q, rfl⟩
    · cases h
    · by_cases hq : q.1 = p.1
      · rw [comeF_step l q p hq, come_size n l (by simpa using h), szF_append, szF_one, hq, Nat.pow_succ]
        omega
      · rw [comeF_stop l q p hq, szF_append, szF_one]
theorem szF_come (ps : FrV) (p : FpV) : szF (comeF ps p) = szF ps + 2 ^ p.1 := come_size _ ps rfl p
theorem come_mem : ∀ (n : Nat) (ps : FrV), ps.length = n → ∀ p : FpV, F32 ps → p.2.length = 32 → F32 (comeF ps p)
  | 0, ps, h, p, _, h2 => by
    rw [List.length_eq_zero_iff.1 h, comeF_nil]
    intro x hx
    rw [List.mem_singleton.1 hx]; exact h2
  | n + 1, ps, h, p, h1, h2 => by
    rcases snoc_cases ps with rfl | ⟨l, q, rfl⟩
    · cases h
    · by_cases hq : q.1 = p.1
      · rw [comeF_step l q p hq]
        exact come_mem n l (by simpa using h) _ (fun x hx => h1 x (List.mem_append_left _ hx)) (length_hNode _ _)
      · rw [comeF_stop l q p hq]
        intro x hx
        rcases List.mem_append.1 hx with hx | hx
        · exact h1 x hx
        · rw [List.mem_singleton.1 hx]; exact h2
theorem F32_come (ps : FrV) (p : FpV) (h : F32 ps) (hp : p.2.length = 32) : F32 (comeF ps p) := come_mem _ ps rfl p h hp
theorem come_dec : ∀ (n : Nat) (ps : FrV), ps.length = n → ∀ p : FpV, DecF ps → (∀ q ∈ ps, p.1 ≤ q.1) → DecF (comeF ps p)
  | 0, ps, h, p, _, _ => by
    rw [List.length_eq_zero_iff.1 h, comeF_nil]
    exact List.pairwise_singleton _ _
  | n + 1, ps, h, p, hd, hq => by
    rcases snoc_cases ps with rfl | ⟨l, q, rfl⟩
    · cases h
    · have hd' := List.pairwise_append.1 hd
      by_cases hqp : q.1 = p.1
      · rw [comeF_step l q p hqp]
        refine come_dec n l (by simpa using h) _ hd'.1 fun x hx => ?_
        have h3 : q.1 < x.1 := hd'.2.2 x hx q (List.mem_singleton.2 rfl)
        show p.1 + 1 ≤ x.1
        omega
      · rw [comeF_stop l q p hqp]
        refine List.pairwise_append.2 ⟨hd, List.pairwise_singleton _ _, fun x hx y hy => ?_⟩
        rw [List.mem_singleton.1 hy]
        have h1 := hq q (List.mem_append_right _ (List.mem_singleton.2 rfl))
        rcases List.mem_append.1 hx with hx | hx
        · have h3 : q.1 < x.1 := hd'.2.2 x hx q (List.mem_singleton.2 rfl)
          omega
        · rw [List.mem_singleton.1 hx]; omega
theorem DecF_come (ps : FrV) (p : FpV) (h : DecF ps) (hp : ∀ q ∈ ps, p.1 ≤ q.1) : DecF (comeF ps p) := come_dec _ ps rfl p h hp
theorem pow_le_szF (ps : FrV) (p : FpV) (h : p ∈ ps) : 2 ^ p.1 ≤ szF ps := by
  obtain ⟨a, b, rfl⟩ := List.append_of_mem h
  rw [show a ++ p :: b = a ++ ([p] ++ b) by simp, szF_append, szF_append, szF_one]
  omega
/-- a size that is a number has no level above 62 -/
theorem F62_of_size (ps : FrV) (h : szF ps ≤ 9223372036854775807) : F62 ps := fun p hp => by
  have h1 := pow_le_szF ps p hp
  rcases Nat.lt_or_ge 62 p.1 with h2 | h2
  · have h3 : 2 ^ 63 ≤ 2 ^ p.1 := Nat.pow_le_pow_right (by decide) h2
    omega
  · exact h2
/-- falling levels: what is behind is less than the one ahead -/
theorem szF_lt : ∀ (ps : FrV), DecF ps → ∀ k, (∀ p ∈ ps, p.1 < k) → szF ps < 2 ^ k
  | [], _, k, _ => by rw [szF_nil]; exact Nat.two_pow_pos k
  | p :: ps, hd, k, hk => by
    have hd' := List.pairwise_cons.1 hd
    have h1 := szF_lt ps hd'.2 p.1 fun q hq => hd'.1 q hq
    have h2 := hk p List.mem_cons_self
    have h3 : 2 ^ (p.1 + 1) ≤ 2 ^ k := Nat.pow_le_pow_right (by decide) h2
    rw [Nat.pow_succ] at h3
    rw [show p :: ps = [p] ++ ps from rfl, szF_append, szF_one]
    omega
theorem szF_mod : ∀ (ps : FrV) (k : Nat), (∀ p ∈ ps, k ≤ p.1) → szF ps % 2 ^ k = 0
  | [], k, _ => by rw [szF_nil]; exact Nat.zero_mod _
  | p :: ps, k, h => by
    have h1 := szF_mod ps k fun q hq => h q (List.mem_cons_of_mem _ hq)
    have h2 := h p List.mem_cons_self
    rw [show p :: ps = [p] ++ ps from rfl, szF_append, szF_one]
    have h3 : 2 ^ p.1 % 2 ^ k = 0 := by
      obtain ⟨d, hd⟩ : ∃ d, p.1 = k + d := ⟨p.1 - k, by omega⟩
      rw [hd, Nat.pow_add]
      exact Nat.mul_mod_right _ _
    rw [Nat.add_mod, h1, h3]
    simp
/-- where a size has no remainder, no level is lower -/
theorem dec_of_mod (ps : FrV) (k : Nat) (hd : DecF ps) (h : szF ps % 2 ^ k = 0) : ∀ p ∈ ps, k ≤ p.1 := by
  intro p hp
  rcases Nat.lt_or_ge p.1 k with hlt | hge
  · exfalso
    -- those of a lower level are last, and less than 2^k together
    obtain ⟨a, b, hab, ha, hb⟩ : ∃ a b, ps = a ++ b ∧ (∀ q ∈ a, k ≤ q.1) ∧ ∀ q ∈ b, q.1 < k := by
      clear h hp hlt
      induction ps with
      | nil => exact ⟨[], [], rfl, fun _ h => (by cases h), fun _ h => (by cases h)⟩
      | cons q r ih =>
        have hd' := List.pairwise_cons.1 hd
        rcases Nat.lt_or_ge q.1 k with h1 | h1
        · refine ⟨[], q :: r, rfl, fun _ h => (by cases h), fun x hx => ?_⟩
          rcases List.mem_cons.1 hx with rfl | hx
          · exact h1
          · have := hd'.1 x hx; omega
        · obtain ⟨a, b, e, ha, hb⟩ := ih hd'.2
          refine ⟨q :: a, b, by rw [e]; rfl, fun x hx => ?_, hb⟩
          rcases List.mem_cons.1 hx with rfl | hx
          · exact h1
          · exact ha x hx
    subst hab
    have h1 := szF_mod a k ha
    have h2 := szF_lt b (List.pairwise_append.1 hd).2.1 k hb
    have hpb : p ∈ b := by
      rcases List.mem_append.1 hp with h3 | h3
      · have := ha p h3; omega
      · exact h3
    have h4 := pow_le_szF b p hpb
    have h5 := Nat.two_pow_pos p.1
    rw [szF_append, Nat.add_mod, h1, Nat.zero_add, Nat.mod_mod, Nat.mod_eq_of_lt h2] at h
    omega
  · exact hge
/-- the root of parts -/
def rootG : FrV → List UInt8
  | [] => hEmpty
  | [p] => p.2
  | p :: q :: r => hNode p.2 (rootG (q :: r))
theorem length_rootG : ∀ ps : FrV, F32 ps → (rootG ps).length = 32
  | [], _ => length_hEmpty
  | [p], h => h p (List.mem_singleton.2 rfl)
  | _ :: _ :: _, _ => length_hNode _ _
/-- leaves come, one by one -/
def leafF : FrV → List (List UInt8) → FrV
  | ps, [] => ps
  | ps, h :: hs => leafF (comeF ps (0, h)) hs
theorem szF_leaf : ∀ (hs : List (List UInt8)) (ps : FrV), szF (leafF ps hs) = szF ps + hs.length
  | [], _ => rfl
  | h :: hs, ps => by
    show szF (leafF (comeF ps (0, h)) hs) = _
    rw [szF_leaf hs, szF_come, List.length_cons]
    show szF ps + 2 ^ 0 + hs.length = _
    omega
theorem leafF_ok : ∀ (hs : List (List UInt8)) (ps : FrV), F32 ps → DecF ps → (∀ h ∈ hs, h.length = 32) → F32 (leafF ps hs) ∧ DecF (leafF ps hs)
  | [], _, h1, h2, _ => ⟨h1, h2⟩
  | h :: hs, ps, h1, h2, h3 => leafF_ok hs _ (F32_come ps _ h1 (h3 h List.mem_cons_self)) (DecF_come ps _ h2 fun _ _ => Nat.zero_le _) fun x hx => h3 x (List.mem_cons_of_mem _ hx)
theorem leafF_snoc (ps : FrV) (hs : List (List UInt8)) (h : List UInt8) : leafF ps (hs ++ [h]) = comeF (leafF ps hs) (0, h) := by
  induction hs generalizing ps with
  | nil => rfl
  | cons x hs ih => exact ih _
end Go.Proofs.Ytonidnfgneokbaa
