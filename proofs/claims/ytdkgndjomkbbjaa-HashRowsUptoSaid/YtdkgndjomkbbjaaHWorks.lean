/- notarylaw08.works, num. -/
import Derived.Test.YtdkgndjomkbbjaaHTop
import Derived.Test.YtdkgndjomkbbjaaHText
import Derived.Test.YtdkgndjomkbbjaaHEval
import Derived.Great.BuildSlice
namespace Go.Proofs.Ytdkgndjomkbbjaa
open Go Go.RowKit

theorem lit_cells : ∀ hs : List (List UInt8), ((hs.map fun h => Value.agg (h.map B).toArray).flatMap fun v => v.cells.toList) = hcells hs
  | [] => rfl
  | h :: hs => by
    rw [List.map_cons, List.flatMap_cons, lit_cells hs, hcells, hcells, List.flatten_cons, List.map_append]
    rfl
/-- a literal of hashes -/
theorem run_lit_hash (hs : List (List UInt8)) (h32 : H32 hs) (h0 : 0 < hs.length) (hm : hs.length ≤ 1000) (parts : Array (Nat × Value)) (hp : parts.toList = ((hs.map fun h => Value.agg (h.map B).toArray).zipIdx 0).map fun x => (x.2, x.1)) (n : Nat) (hn : n = hs.length) (W : World) :
    (Instr.buildSlice 57 n parts).run Try.prog W = .ok (.slice (some ⟨W.heap.size, 0, none⟩) n n) (W.alloc (.cells (hcells hs).toArray 26)) := by
  subst hn
  obtain ⟨i, hi⟩ : ∃ i, Try.prog.info? 26 = some i := Option.isSome_iff_exists.1 (by kernel_rfl)
  have hz : i.zero = some (.agg ((List.replicate 32 (0 : UInt8)).map B).toArray) := by
    have : (Try.prog.info? 26).bind (·.zero) = some (.agg ((List.replicate 32 (0 : UInt8)).map B).toArray) := by kernel_rfl
    rw [hi] at this; exact this
  have hs' : i.size = 32 := by
    have : (Try.prog.info? 26).map (·.size) = some 32 := by kernel_rfl
    rw [hi] at this; exact Option.some.inj this
  have hc : ∀ v ∈ (hs.map fun h => Value.agg (h.map B).toArray), v.cells.size = 32 := by
    intro v hv
    obtain ⟨h, hh, rfl⟩ := List.mem_map.1 hv
    simp [Value.cells, h32 h hh]
  have := run_buildSlice (P := Try.prog) W 57 26 hs.length parts (hcells hs).toArray i _ Try.underlying57 hi hz (by rw [hs']; omega) (by rw [hs']; omega) (by
    rw [hp, hs', Great.fill_whole (by decide) _ _ hc (by simp)]
    rw [lit_cells])
  exact this
theorem run_lit_op {ρ : Operand → Value} {o : Oper} (hs : List (List UInt8)) (h32 : H32 hs) (h0 : 0 < hs.length) (hm : hs.length ≤ 1000) (n : Nat) (ps : Array (Nat × Operand)) (ho : o.op = .buildSlice 57 n ps) (hp : (ps.map fun (i, x) => (i, ρ x)).toList = ((hs.map fun h => Value.agg (h.map B).toArray).zipIdx 0).map fun x => (x.2, x.1)) (hn : n = hs.length) (W : World) :
    (execOp ρ o).run Try.prog W = .ok (.value (.slice (some ⟨W.heap.size, 0, none⟩) n n)) (W.alloc (.cells (hcells hs).toArray 26)) := by
  unfold execOp
  simp only [ho, Sem.run_bind, Sem.run_pure, run_lit_hash hs h32 h0 hm _ hp n hn W, Result.andThen_ok]
theorem run_eqstr_op {ρ : Operand → Value} {o : Oper} (x y : Operand) (ty : TypeId) (l m : List UInt8) (ho : o.op = .binOp .eql 9 x y ty) (hx : ρ x = .string (bstr l)) (hy : ρ y = .string (bstr m)) (W : World) :
    (execOp ρ o).run Try.prog W = .ok (.value (.bool (l == m))) W := by
  unfold execOp
  simp only [ho, hx, hy, eqGuard_at_string, Sem.run_bind, Sem.run_pure, run_eql_str, Result.andThen_ok]
theorem run_eqstr_t {ρ : Operand → Value} {o : Oper} (x y : Operand) (ty : TypeId) (l m : List UInt8) (ho : o.op = .binOp .eql 9 x y ty) (hx : ρ x = .string (bstr l)) (hy : ρ y = .string (bstr m)) (h : l = m) (W : World) :
    (execOp ρ o).run Try.prog W = .ok (.value (.bool true)) W := by
  rw [run_eqstr_op x y ty l m ho hx hy W, h, BEq.rfl]
theorem run_eql26_t {ρ : Operand → Value} {o : Oper} (x y : Operand) (ty : TypeId) (xs ys : List UInt8) (ho : o.op = .binOp .eql 26 x y ty) (hx : ρ x = .agg (xs.map B).toArray) (hy : ρ y = .agg (ys.map B).toArray) (lx : xs.length = 32) (ly : ys.length = 32) (h : xs = ys) (W : World) :
    (execOp ρ o).run Try.prog W = .ok (.value (.bool true)) W := by
  rw [run_eql26 x y ty xs ys ho hx hy lx ly W, h, BEq.rfl]
theorem run_neq26_t {ρ : Operand → Value} {o : Oper} (x y : Operand) (ty : TypeId) (xs ys : List UInt8) (ho : o.op = .binOp .neq 26 x y ty) (hx : ρ x = .agg (xs.map B).toArray) (hy : ρ y = .agg (ys.map B).toArray) (lx : xs.length = 32) (ly : ys.length = 32) (h : xs ≠ ys) (W : World) :
    (execOp ρ o).run Try.prog W = .ok (.value (.bool true)) W := by
  rw [run_neq26 x y ty xs ys ho hx hy lx ly W, show (xs != ys) = true by simpa using h]
theorem run_neq26_f {ρ : Operand → Value} {o : Oper} (x y : Operand) (ty : TypeId) (xs ys : List UInt8) (ho : o.op = .binOp .neq 26 x y ty) (hx : ρ x = .agg (xs.map B).toArray) (hy : ρ y = .agg (ys.map B).toArray) (lx : xs.length = 32) (ly : ys.length = 32) (h : xs = ys) (W : World) :
    (execOp ρ o).run Try.prog W = .ok (.value (.bool false)) W := by
  rw [run_neq26 x y ty xs ys ho hx hy lx ly W, show (xs != ys) = false by simpa using h]
theorem Hs.lit (W : World) (hs : List (List UInt8)) (h32 : H32 hs) (hm : hs.length ≤ 1000) (n : Nat) (hn : n = hs.length) : Hs (W.alloc (.cells (hcells hs).toArray 26)) (fun _ => True) (some ⟨W.heap.size, 0, none⟩) n n hs :=
  ⟨SlV.lit W _ _ _ (by rw [hcells_len _ h32, hn]) (by unfold maxLen; omega) trivial, hn.symm, h32⟩

theorem num_any (i : Int) (w : World) : Calls Try.prog 44 #[.int .i64 i] w fun e w' => e = .returned (.int .i64 i) ∧ w = w' := by
  go_enter Try.func44, Try.ntmps44
  go_wp2_with fail
  go_ret
  exact ⟨rfl, rfl⟩

def sEmpty : List UInt8 := [101, 51, 98, 48, 99, 52, 52, 50, 57, 56, 102, 99, 49, 99, 49, 52, 57, 97, 102, 98, 102, 52, 99, 56, 57, 57, 54, 102, 98, 57, 50, 52, 50, 55, 97, 101, 52, 49, 101, 52, 54, 52, 57, 98, 57, 51, 52, 99, 97, 52, 57, 53, 57, 57, 49, 98, 55, 56, 53, 50, 98, 56, 53, 53]
theorem text_empty : text hEmpty = sEmpty := by rw [eval_empty]; decide
def sLeaf0 : List UInt8 := [54, 101, 51, 52, 48, 98, 57, 99, 102, 102, 98, 51, 55, 97, 57, 56, 57, 99, 97, 53, 52, 52, 101, 54, 98, 98, 55, 56, 48, 97, 50, 99, 55, 56, 57, 48, 49, 100, 51, 102, 98, 51, 51, 55, 51, 56, 55, 54, 56, 53, 49, 49, 97, 51, 48, 54, 49, 55, 97, 102, 97, 48, 49, 100]
theorem text_leaf0 : text (hLeaf []) = sLeaf0 := by rw [eval_leaf0]; decide
theorem topL_two (a b : List UInt8) : topL [a, b] = hNode a b := by
  unfold topL
  rw [rowsL_more _ (by simp), rowsL_one _ (by rw [length_pairsL]; simp)]
  simp [lastHead, pairsL]

theorem eql_rows_nil (g : Nat) (W : World) : (binOp .eql 64 (.func (.func 73) #[] #[.pointer (some ⟨g, 0, none⟩)]) .nilFunc).run Try.prog W = .ok (.bool false) W := by
  kernel_rfl
set_option maxHeartbeats 2000000 in
set_option maxRecDepth 100000 in
theorem works_any (w : World) : Calls Try.prog 29 #[] w fun e w' => e = .returned (.bool true) ∧ Below w.heap.size w w' := by
  obtain ⟨x, hx⟩ : ∃ x, hEmpty = x := ⟨_, rfl⟩
  have hxl : x.length = 32 := by rw [← hx]; exact length_hEmpty
  have htx : text x = sEmpty := by rw [← hx]; exact text_empty
  obtain ⟨a, ha⟩ : ∃ a, hLeaf [] = a := ⟨_, rfl⟩
  have hal : a.length = 32 := by rw [← ha]; exact length_hLeaf _
  have hta : text a = sLeaf0 := by rw [← ha]; exact text_leaf0
  obtain ⟨b, hb⟩ : ∃ b, hLeaf [1] = b := ⟨_, rfl⟩
  have hbl : b.length = 32 := by rw [← hb]; exact length_hLeaf _
  have hne := eval_ne
  rw [ha, hb] at hne
  obtain ⟨t, ht⟩ : ∃ t, hNode a b = t := ⟨_, rfl⟩
  have htl : t.length = 32 := by rw [← ht]; exact length_hNode _ _
  obtain ⟨u, hu⟩ : ∃ u, hNode b a = u := ⟨_, rfl⟩
  have hul : u.length = 32 := by rw [← hu]; exact length_hNode _ _
  rw [ht, hu] at hne
  have he := fun w => hempty_any w
  rw [hx] at he
  have hl0 := fun (w : World) => hleaf_any [] none 0 0 w Sl.nil (by decide)
  rw [ha] at hl0
  have Hx := Lib.hid hx
  have Hxl := Lib.hid hxl
  have Htx := Lib.hid htx
  have Ha := Lib.hid ha
  have Hal := Lib.hid hal
  have Hta := Lib.hid hta
  have Hb := Lib.hid hb
  have Hbl := Lib.hid hbl
  have Hne := Lib.hid hne
  have Ht := Lib.hid ht
  have Htl := Lib.hid htl
  have Hu := Lib.hid hu
  have Hul := Lib.hid hul
  have He := Lib.hid he
  have Hl0 := Lib.hid hl0
  have hrn := eql_rows_nil
  clear hx hxl htx ha hal hta hb hbl hne ht htl hu hul he hl0
  go_enter Try.func29, Try.ntmps29
  go_wp2_with (first
    | (go_at_call 33; refine (He.out _).mono ?_; rintro e w1 ⟨rfl, hb1⟩)
    | ((with_reducible show wpList _ _ _ (⟨some 6, .buildSlice _ _ _, _, _, _, _⟩ :: _) _ _); refine wpList_run rfl _ _ (run_lit_op [x] (by intro h hh; rw [List.mem_singleton.1 hh]; exact Hxl.out) (by simp) (by simp) 1 _ rfl (by simp [Act.eval]) rfl _) ?_; simp only [Act.put])
    | (go_at_call 42; refine (rows_any [x] _ 1 1 _ (Hs.lit w1 [x] (by intro h hh; rw [List.mem_singleton.1 hh]; exact Hxl.out) (by simp) 1 rfl) (by decide)).mono ?_; rintro e w2 ⟨rfl, hb2, -⟩)
    | (go_at_call_of 34 (Value.slice none 0 0); refine (Hl0.out _).mono ?_; rintro e w3 ⟨rfl, hb3⟩))
  have hl1 := hleaf_any [1] (some ⟨w3.heap.size, 0, none⟩) 1 1 (w3.alloc (.cells #[.int .u8 1] 5)) ⟨Bs.new w3 (fun _ => True) 5 ([(1 : UInt8)].map B) trivial, rfl, Nat.le_refl _, by simp, by decide⟩ (by decide)
  rw [Hb.out] at hl1
  refine hl1.mono ?_
  clear hl1
  rintro e w4 ⟨rfl, hb4⟩
  obtain ⟨zs, hzs⟩ : ∃ zs, zeroHash = zs := ⟨_, rfl⟩
  have hzl : zs.size = 32 := by rw [← hzs]; rfl
  have B4 : Below w.heap.size w w4 := by
    have h12 := hb1.trans (((Below.refl w1.heap.size w1).alloc (Nat.le_refl _) (.cells (hcells [x]).toArray 26)).mono hb1.size)
    have h2 := h12.trans (hb2.mono h12.size)
    have h3 := h2.trans (hb3.mono h2.size)
    have h4 := h3.trans (((Below.refl w3.heap.size w3).alloc (Nat.le_refl _) (.cells #[.int .u8 1] 5)).mono h3.size)
    exact h4.trans (hb4.mono h4.size)
  clear hb1 hb2 hb3 hb4
  obtain ⟨w5, hw5⟩ : ∃ w5, w4.alloc (.cells zs 26) = w5 := ⟨_, rfl⟩
  obtain ⟨w6, hw6⟩ : ∃ w6, w5.alloc (.cells zs 26) = w6 := ⟨_, rfl⟩
  have hs5 : w5.heap.size = w4.heap.size + 1 := by rw [← hw5]; simp
  have hs6 : w6.heap.size = w4.heap.size + 1 + 1 := by rw [← hw6]; simp [hs5]
  have kz1 : Blk w6 w4.heap.size 26 zs := by rw [← hw6, ← hw5]; exact (Blk.new _ _ _).alloc _
  have kz2 : Blk w6 (w4.heap.size + 1) 26 zs := by rw [← hw6]; exact Blk.new' _ _ _ _ hs5.symm
  have B6 : Below w4.heap.size w4 w6 := by rw [← hw6, ← hw5]; exact ((Below.refl _ _).alloc (Nat.le_refl _) _).alloc (by simp) _
  obtain ⟨w8, hw8⟩ : ∃ w8, (w6.setRow w4.heap.size (a.map B).toArray).setRow (w4.heap.size + 1) (b.map B).toArray = w8 := ⟨_, rfl⟩
  have k1 : Blk w8 w4.heap.size 26 (a.map B).toArray := by rw [← hw8]; exact (kz1.setRow_ _).setRow_apart (by omega) _
  have k2 : Blk w8 (w4.heap.size + 1) 26 (b.map B).toArray := by rw [← hw8]; exact (kz2.setRow_apart (by omega) _).setRow_ _
  have B8 : Below w4.heap.size w4 w8 := by rw [← hw8]; exact below_setRow (below_setRow B6 (Nat.le_refl _) _) (by omega) _
  have ld1 := run_load_blk (P := Try.prog) (agg26 _) (size26 _) w4.heap.size (a.map B).toArray (by simp [Hal.out]) k1
  have ld2 := run_load_blk (P := Try.prog) (agg26 _) (size26 _) (w4.heap.size + 1) (b.map B).toArray (by simp [Hbl.out]) k2
  have hab : H32 [a, b] := by intro h hh; rcases List.mem_cons.1 hh with rfl | hh; exact Hal.out; rw [List.mem_singleton.1 hh]; exact Hbl.out
  have htop := top_ok [a, b] (some ⟨w8.heap.size, 0, none⟩) 2 2 _ (Hs.lit w8 [a, b] hab (by simp) 2 rfl) (by decide) (by decide)
  rw [topL_two, Ht.out] at htop
  have kz2' := kz2.setRow_apart (g' := w4.heap.size) (by omega) (a.map B).toArray
  have Hzs := Lib.hid hzs
  have Hzl := Lib.hid hzl
  have Hw5 := Lib.hid hw5
  have Hw6 := Lib.hid hw6
  have Hw8 := Lib.hid hw8
  have Hs5 := Lib.hid hs5
  have Hs6 := Lib.hid hs6
  have Hld1 := Lib.hid ld1
  have Hld2 := Lib.hid ld2
  have Htop := Lib.hid htop
  clear hzs hzl hw5 hw6 hw8 hs5 hs6 ld1 ld2 htop
  go_wp2_with (first
    | ((with_reducible show wpList _ _ _ (⟨some 1, .alloc _, _, _, _, _⟩ :: _) _ _); refine wpList_run rfl (.pointer (some ⟨w4.heap.size, 0, none⟩)) w5 (by rw [← Hw5.out, ← Hzs.out]; rfl) ?_; simp only [Act.put])
    | ((with_reducible show wpList _ _ _ (⟨some 2, .alloc _, _, _, _, _⟩ :: _) _ _); refine wpList_run rfl (.pointer (some ⟨w4.heap.size + 1, 0, none⟩)) w6 (by rw [← Hw6.out, ← Hzs.out, ← Hs5.out]; rfl) ?_; simp only [Act.put])
    | ((with_reducible show wpList _ _ _ (⟨none, .store _ (.tmp 1) _, _, _, _, _⟩ :: _) _ _); refine wpList_store_blk rfl 26 (.tmp 1) (.tmp 9) rfl 32 size26 w4.heap.size (a.map B).toArray rfl rfl (by simp [Hal.out]) (oneCell_B _) 26 _ kz1 Hzl.out ?_; simp only [Act.put])
    | ((with_reducible show wpList _ _ _ (⟨none, .store _ (.tmp 2) _, _, _, _, _⟩ :: _) _ _); refine wpList_store_blk rfl 26 (.tmp 2) (.tmp 11) rfl 32 size26 (w4.heap.size + 1) (b.map B).toArray rfl rfl (by simp [Hbl.out]) (oneCell_B _) 26 _ kz2' Hzl.out ?_; rw [Hw8.out]; simp only [Act.put])
    | ((with_reducible show wpList _ _ _ (⟨some 13, .load _ _, _, _, _, _⟩ :: _) _ _); refine wpList_load rfl 26 (.tmp 1) rfl w4.heap.size 0 rfl (a.map B).toArray Hld1.out ?_; simp only [Act.put])
    | ((with_reducible show wpList _ _ _ (⟨some 14, .load _ _, _, _, _, _⟩ :: _) _ _); refine wpList_load rfl 26 (.tmp 2) rfl (w4.heap.size + 1) 0 rfl (b.map B).toArray Hld2.out ?_; simp only [Act.put])
    | ((with_reducible show wpList _ _ _ (⟨some 15, .buildSlice _ _ _, _, _, _, _⟩ :: _) _ _); refine wpList_run rfl _ _ (run_lit_op [a, b] hab (by simp) (by simp) 2 _ rfl (by simp [Act.eval]) rfl _) ?_; simp only [Act.put])
    | (go_at_call 40; refine Htop.out.mono ?_; rintro e w9 ⟨rfl, hb9⟩)
    | ((with_reducible show wpList _ _ _ (⟨some 3, .alloc _, _, _, _, _⟩ :: _) _ _); refine wpList_run rfl (.pointer (some ⟨w9.heap.size, 0, none⟩)) (w9.alloc (.cells zs 26)) (by rw [← Hzs.out]; rfl) ?_; simp only [Act.put])
    | ((with_reducible show wpList _ _ _ (⟨none, .store _ (.tmp 3) _, _, _, _, _⟩ :: _) _ _); refine wpList_store_blk rfl 26 (.tmp 3) (.tmp 17) rfl 32 size26 w9.heap.size (t.map B).toArray rfl rfl (by simp [Htl.out]) (oneCell_B _) 26 _ (Blk.new _ _ _) Hzl.out ?_; simp only [Act.put]))
  obtain ⟨w10, hw10⟩ : ∃ w10, (w9.alloc (.cells zs 26)).setRow w9.heap.size (t.map B).toArray = w10 := ⟨_, rfl⟩
  rw [hw10]
  have hb89 : Below w8.heap.size w8 w9 := ((Below.refl w8.heap.size w8).alloc (Nat.le_refl _) _).trans (hb9.mono (by simp))
  have b910 : Below w9.heap.size w9 w10 := by rw [← hw10]; exact below_setRow ((Below.refl _ _).alloc (Nat.le_refl _) _) (Nat.le_refl _) _
  have b810 := hb89.trans (b910.mono hb89.size)
  have k3 : Blk w10 w9.heap.size 26 (t.map B).toArray := by rw [← hw10]; exact (Blk.new _ _ _).setRow_ _
  replace k1 := k1.below b810 k1.lt
  replace k2 := k2.below b810 k2.lt
  have B10 : Below w.heap.size w w10 := (B4.trans (B8.mono B4.size)).trans (b810.mono (Nat.le_trans B4.size B8.size))
  clear hb89 b910 b810 kz1 kz2 kz2' hab B6 B8 B4 hw10 hb9
  refine wp_region_mix (fun W => Below w10.heap.size w10 W) [(0, false), (1, false), (2, true), (3, true), (4, true), (5, false), (6, true), (7, true), (8, true), (9, true), (10, true), (11, true), (12, false), (13, true), (14, true), (15, true), (16, true), (17, true), (18, true), (19, false), (20, true), (21, true), (22, true), (23, true), (24, false), (25, true), (26, true), (27, true)] (by kernel_rfl) (by kernel_rfl) (Below.refl _ _).drew fun _ => ?_
  simp only [List.map_cons, List.map_nil, Array.getD_eq_getD_getElem?, List.getElem?_toArray, List.getElem?_cons_succ, List.getElem?_cons_zero, Option.getD_some]
  have hS : Below w10.heap.size w10 w10.drew := (Below.refl _ _).drew
  generalize w10.drew = W0 at hS ⊢
  refine wpMix_c (fun K hK => ?_) hS
  go_simp
  refine (He.out W0).mono ?_
  rintro e W1 ⟨rfl, hb'⟩
  refine hK _ _ ?_
  clear hK K
  replace hS := hS.trans (hb'.mono hS.size)
  refine ⟨hS, ?_⟩
  clear hb'
  refine wpMix_c (fun K hK => ?_) hS
  go_simp
  refine (htext_any x W1 Hxl.out).mono ?_
  rintro e W2 ⟨rfl, hb'⟩
  refine hK _ _ ?_
  clear hK K
  replace hS := hS.trans (hb'.mono hS.size)
  refine ⟨hS, ?_⟩
  clear hb'
  refine wpMix_v (by kernel_rfl) (.bool true) (fun s => run_eqstr_t (.tmp 20) _ _ (text x) sEmpty rfl rfl rfl Htx.out s.W) ?_
  simp only [Act.put]
  refine wpMix_s (fun K hK => ?_)
  go_simp
  refine hK _ ?_
  clear hK K
  refine wpMix_load (by kernel_rfl) 26 (.tmp 1) rfl w4.heap.size 0 rfl (a.map B).toArray (fun s => run_load_blk (agg26 _) (size26 _) _ _ (by simp [Hal.out]) (k1.below s.ok k1.lt)) ?_
  simp only [Act.put]
  refine wpMix_c (fun K hK => ?_) hS
  go_simp
  refine (htext_any a W2 Hal.out).mono ?_
  rintro e W3 ⟨rfl, hb'⟩
  refine hK _ _ ?_
  clear hK K
  replace hS := hS.trans (hb'.mono hS.size)
  refine ⟨hS, ?_⟩
  clear hb'
  refine wpMix_v (by kernel_rfl) (.bool true) (fun s => run_eqstr_t (.tmp 24) _ _ (text a) sLeaf0 rfl rfl rfl Hta.out s.W) ?_
  simp only [Act.put]
  refine wpMix_s (fun K hK => ?_)
  go_simp
  refine hK _ ?_
  clear hK K
  refine wpMix_s (fun K hK => ?_)
  go_simp
  refine hK _ ?_
  clear hK K
  refine wpMix_load (by kernel_rfl) 26 (.tmp 3) rfl w9.heap.size 0 rfl (t.map B).toArray (fun s => run_load_blk (agg26 _) (size26 _) _ _ (by simp [Htl.out]) (k3.below s.ok k3.lt)) ?_
  simp only [Act.put]
  refine wpMix_load (by kernel_rfl) 26 (.tmp 1) rfl w4.heap.size 0 rfl (a.map B).toArray (fun s => run_load_blk (agg26 _) (size26 _) _ _ (by simp [Hal.out]) (k1.below s.ok k1.lt)) ?_
  simp only [Act.put]
  refine wpMix_load (by kernel_rfl) 26 (.tmp 2) rfl (w4.heap.size + 1) 0 rfl (b.map B).toArray (fun s => run_load_blk (agg26 _) (size26 _) _ _ (by simp [Hbl.out]) (k2.below s.ok k2.lt)) ?_
  simp only [Act.put]
  refine wpMix_c (fun K hK => ?_) hS
  go_simp
  refine (hnode_any a b W3 Hal.out Hbl.out).mono ?_
  rintro e W4 ⟨rfl, hb'⟩
  refine hK _ _ ?_
  clear hK K
  replace hS := hS.trans (hb'.mono hS.size)
  refine ⟨hS, ?_⟩
  clear hb'
  rw [Ht.out]
  refine wpMix_v (by kernel_rfl) (.bool true) (fun s => run_eql26_t (.tmp 28) (.tmp 31) _ t t rfl rfl rfl Htl.out Htl.out rfl s.W) ?_
  simp only [Act.put]
  refine wpMix_s (fun K hK => ?_)
  go_simp
  refine hK _ ?_
  clear hK K
  refine wpMix_s (fun K hK => ?_)
  go_simp
  refine hK _ ?_
  clear hK K
  refine wpMix_load (by kernel_rfl) 26 (.tmp 3) rfl w9.heap.size 0 rfl (t.map B).toArray (fun s => run_load_blk (agg26 _) (size26 _) _ _ (by simp [Htl.out]) (k3.below s.ok k3.lt)) ?_
  simp only [Act.put]
  refine wpMix_load (by kernel_rfl) 26 (.tmp 2) rfl (w4.heap.size + 1) 0 rfl (b.map B).toArray (fun s => run_load_blk (agg26 _) (size26 _) _ _ (by simp [Hbl.out]) (k2.below s.ok k2.lt)) ?_
  simp only [Act.put]
  refine wpMix_load (by kernel_rfl) 26 (.tmp 1) rfl w4.heap.size 0 rfl (a.map B).toArray (fun s => run_load_blk (agg26 _) (size26 _) _ _ (by simp [Hal.out]) (k1.below s.ok k1.lt)) ?_
  simp only [Act.put]
  refine wpMix_c (fun K hK => ?_) hS
  go_simp
  refine (hnode_any b a W4 Hbl.out Hal.out).mono ?_
  rintro e W5 ⟨rfl, hb'⟩
  refine hK _ _ ?_
  clear hK K
  replace hS := hS.trans (hb'.mono hS.size)
  refine ⟨hS, ?_⟩
  clear hb'
  rw [Hu.out]
  refine wpMix_v (by kernel_rfl) (.bool true) (fun s => run_neq26_t (.tmp 35) (.tmp 38) _ t u rfl rfl rfl Htl.out Hul.out Hne.out s.W) ?_
  simp only [Act.put]
  refine wpMix_s (fun K hK => ?_)
  go_simp
  refine hK _ ?_
  clear hK K
  refine wpMix_s (fun K hK => ?_)
  go_simp
  refine hK _ ?_
  clear hK K
  refine wpMix_s (fun K hK => ?_)
  go_simp
  refine hK _ ?_
  clear hK K
  refine wpMix_c (fun K hK => ?_) hS
  go_simp
  refine (num_any 0 W5).mono ?_
  rintro e W' ⟨rfl, rfl⟩
  refine hK _ _ ?_
  clear hK K
  refine ⟨hS, ?_⟩
  refine wpMix_s (fun K hK => ?_)
  go_simp
  refine hK _ ?_
  clear hK K
  refine wpMix_s (fun K hK => ?_)
  go_simp
  refine hK _ ?_
  clear hK K
  refine wpMix_s (fun K hK => ?_)
  go_simp
  refine hK _ ?_
  clear hK K
  refine wpMix_nil ?_
  intro _
  go_wp2_with fail
  go_ret
  exact ⟨rfl, B10.trans (hS.mono B10.size)⟩
end Go.Proofs.Ytdkgndjomkbbjaa
