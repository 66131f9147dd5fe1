/- hash.Compare, bytes.Compare. -/
import Derived.Test.YtdkgndjomkbbjaaHCmp
import Derived.Test.YtdkgndjomkbbjaaHParse
import Derived.Test.YtdkgndjomkbbjaaHWorks
namespace Go.Proofs.Ytdkgndjomkbbjaa
open Go Go.RowKit

theorem bstr_get! (s : List UInt8) (q : Nat) (h : q < s.length) : (bstr s)[q]! = s.getD q 0 := by
  rw [getElem!_pos (bstr s) q (by rw [bstr_size]; exact h), bstr_get]
theorem cmp_cmpL (a b : List UInt8) (hab : a.length = b.length) : Extern.BytealgCompare.cmp (bstr a) (bstr b) = cmpL a b := by
  unfold Extern.BytealgCompare.cmp
  rw [bstr_size, bstr_size, hab, Nat.min_self]
  cases hf : (List.range b.length).find? fun i => (bstr a)[i]! != (bstr b)[i]! with
  | some i =>
    obtain ⟨h1, h2, h3⟩ := List.find?_range_eq_some.1 hf
    have hi : i < b.length := List.mem_range.1 h2
    have hg := cmpL_take a b i (by omega) hi (fun j hj => by
      have := h3 j hj
      rw [bstr_get! a j (by omega), bstr_get! b j (by omega)] at this
      simpa using this)
    rw [bstr_get! a i (by omega), bstr_get! b i hi] at h1
    simp only [bstr_get! a i (by omega), bstr_get! b i hi]
    by_cases hlt : a.getD i 0 < b.getD i 0
    · rw [if_pos hlt, hg.1 (UInt8.lt_iff_toNat_lt.1 hlt)]
    · rw [if_neg hlt, hg.2 ?_]
      have hne : a.getD i 0 ≠ b.getD i 0 := by simpa using h1
      have h4 : ¬ (a.getD i 0).toNat < (b.getD i 0).toNat := fun h => hlt (UInt8.lt_iff_toNat_lt.2 h)
      have h5 : (a.getD i 0).toNat ≠ (b.getD i 0).toNat := fun h => hne (UInt8.toNat_inj.1 h)
      omega
  | none =>
    have he : a = b := by
      apply List.ext_getElem hab
      intro i h1 h2
      have := List.find?_eq_none.1 hf i (List.mem_range.2 h2)
      rw [bstr_get! a i h1, bstr_get! b i h2] at this
      rw [List.getD_eq_getElem?_getD, List.getElem?_eq_getElem h1, List.getD_eq_getElem?_getD, List.getElem?_eq_getElem h2] at this
      simpa using this
    subst he
    rw [cmpL_self]
    simp

theorem run_eql26_f {ρ : Operand → Value} {o : Oper} (x y : Operand) (ty : TypeId) (xs ys : List UInt8) (ho : o.op = .binOp .eql 26 x y ty) (hx : ρ x = .agg (xs.map B).toArray) (hy : ρ y = .agg (ys.map B).toArray) (lx : xs.length = 32) (ly : ys.length = 32) (h : xs ≠ ys) (W : World) :
    (execOp ρ o).run Try.prog W = .ok (.value (.bool false)) W := by
  rw [run_eql26 x y ty xs ys ho hx hy lx ly W, show (xs == ys) = false by simpa using h]
theorem bytesOf_map (a : List UInt8) : Lib.bytesOf (a.map fun c => (c.toNat : Int)) = a := by
  unfold Lib.bytesOf
  rw [List.map_map]
  have : ((fun x : Int => x.toNat.toUInt8) ∘ fun c : UInt8 => (c.toNat : Int)) = id := by funext x; simp
  first | rw [this, List.map_id] | simp
theorem load_bytes (w : World) (g : Nat) (a : List UInt8) (t : TypeId) (h : Blk w g t (a.map B).toArray) (n : Nat) (hn : a.length = n) : (Extern.Bytes.loadBytes ⟨g, 0, none⟩ n .empty).run Try.prog w = .ok (bstr a) w := by
  have := Lib.run_loadBytesX (P := Try.prog) w (a.map fun c => (c.toNat : Int)) ⟨g, 0, none⟩ .empty (fun j x hj => by
    rw [addr_add, Nat.zero_add, h.cell, List.getElem?_toArray, List.getElem?_map]
    rw [List.getElem?_map] at hj
    cases e : a[j]? with
    | none => rw [e] at hj; cases hj
    | some c => rw [e] at hj; cases hj; rfl)
  rw [bytesOf_map, List.length_map, hn] at this
  rw [this]
  congr 1
  show (⟨#[] ++ a.toArray⟩ : ByteArray) = ⟨a.toArray⟩
  simp
theorem run_compare (w : World) (g1 g2 : Nat) (a b : List UInt8) (t : TypeId) (h1 : Blk w g1 t (a.map B).toArray) (h2 : Blk w g2 t (b.map B).toArray) (ha : a.length = 32) (hb : b.length = 32) :
    (Extern.BytealgCompare.compare #[.slice (some ⟨g1, 0, none⟩) 32 32, .slice (some ⟨g2, 0, none⟩) 32 32]).run Try.prog w = .ok (.int .i64 (cmpL a b)) w := by
  change Sem.run Try.prog (do
    let x ← Extern.Bytes.bytesOf (.slice (some ⟨g1, 0, none⟩) 32 32)
    let y ← Extern.Bytes.bytesOf (.slice (some ⟨g2, 0, none⟩) 32 32)
    pure (goInt (Extern.BytealgCompare.cmp x y))) w = _
  simp only [Extern.Bytes.bytesOf, Sem.run_bind, load_bytes w g1 a t h1 32 ha, load_bytes w g2 b t h2 32 hb, Result.andThen_ok, Sem.run_pure, cmp_cmpL a b (by rw [ha, hb]), goInt]

set_option maxHeartbeats 1000000 in
set_option maxRecDepth 100000 in
theorem bcompare_any (w : World) (g1 g2 : Nat) (a b : List UInt8) (t : TypeId) (h1 : Blk w g1 t (a.map B).toArray) (h2 : Blk w g2 t (b.map B).toArray) (ha : a.length = 32) (hb : b.length = 32) :
    Calls Try.prog 79 #[.slice (some ⟨g1, 0, none⟩) 32 32, .slice (some ⟨g2, 0, none⟩) 32 32] w fun e w' => e = .returned (.int .i64 (cmpL a b)) ∧ w = w' := by
  have Hrun := Lib.hid (run_compare w g1 g2 a b t h1 h2 ha hb)
  clear h1 h2
  go_enter Try.func79, Try.ntmps79
  go_wp2
  rw [run_callFunc_extern Try.func84 (by kernel_rfl) (by kernel_rfl) (by kernel_rfl) (e := Extern.BytealgCompare.compare) (by kernel_rfl), Hrun.out]
  simp only [Result.andThen]
  rw [Oper.upon_value]
  go_wp2
  go_ret
  exact ⟨rfl, rfl⟩

set_option maxHeartbeats 1000000 in
set_option maxRecDepth 100000 in
theorem hcompare_any (a b : List UInt8) (w : World) (ha : a.length = 32) (hb : b.length = 32) :
    Calls Try.prog 57 #[.agg (a.map B).toArray, .agg (b.map B).toArray] w fun e w' => e = .returned (.int .i64 (cmpL a b)) ∧ Below w.heap.size w w' := by
  obtain ⟨av, hav⟩ : ∃ av, (a.map B).toArray = av := ⟨_, rfl⟩
  obtain ⟨bv, hbv⟩ : ∃ bv, (b.map B).toArray = bv := ⟨_, rfl⟩
  rw [hav, hbv]
  have has : av.size = 32 := by rw [← hav]; simp [ha]
  have hbs : bv.size = 32 := by rw [← hbv]; simp [hb]
  obtain ⟨w1, hw1⟩ : ∃ w1, w.alloc (.cells av 26) = w1 := ⟨_, rfl⟩
  obtain ⟨w2, hw2⟩ : ∃ w2, w1.alloc (.cells bv 26) = w2 := ⟨_, rfl⟩
  have hs1 : w1.heap.size = w.heap.size + 1 := by rw [← hw1]; simp
  have k1 : Blk w2 w.heap.size 26 av := by rw [← hw2, ← hw1]; exact (Blk.new _ _ _).alloc _
  have k2 : Blk w2 (w.heap.size + 1) 26 bv := by rw [← hw2]; exact Blk.new' _ _ _ _ hs1.symm
  have B2 : Below w.heap.size w w2 := by rw [← hw2, ← hw1]; exact ((Below.refl _ _).alloc (Nat.le_refl _) _).alloc (by simp) _
  have l1 := run_load_blk (P := Try.prog) (agg26 _) (size26 _) w.heap.size av has k1
  have l2 := run_load_blk (P := Try.prog) (agg26 _) (size26 _) (w.heap.size + 1) bv hbs k2
  have sla := slice_all26
  have Hav := Lib.hid hav
  have Hbv := Lib.hid hbv
  have Hw1 := Lib.hid hw1
  have Hw2 := Lib.hid hw2
  have Hs1 := Lib.hid hs1
  have Hl1 := Lib.hid l1
  have Hl2 := Lib.hid l2
  clear hav hbv hw1 hw2 hs1 l1 l2
  by_cases he : a = b
  · have hc0 : cmpL a b = 0 := by rw [he]; exact cmpL_self b
    rw [hc0]
    clear hc0
    go_enter Try.func57, Try.ntmps57
    go_wp2_with (first
      | ((with_reducible show wpList _ _ _ (⟨some 2, .box _ _, _, _, _, _⟩ :: _) _ _); refine wpList_run rfl (.pointer (some ⟨w.heap.size, 0, none⟩)) w1 (by rw [← Hw1.out]; rfl) ?_; simp only [Act.put])
      | ((with_reducible show wpList _ _ _ (⟨some 3, .box _ _, _, _, _, _⟩ :: _) _ _); refine wpList_run rfl (.pointer (some ⟨w.heap.size + 1, 0, none⟩)) w2 (by rw [← Hw2.out, ← Hs1.out]; rfl) ?_; simp only [Act.put])
      | ((with_reducible show wpList _ _ _ (⟨some 5, .load _ _, _, _, _, _⟩ :: _) _ _); refine wpList_load rfl 26 (.tmp 2) rfl w.heap.size 0 rfl av Hl1.out ?_; simp only [Act.put])
      | ((with_reducible show wpList _ _ _ (⟨some 6, .load _ _, _, _, _, _⟩ :: _) _ _); refine wpList_load rfl 26 (.tmp 3) rfl (w.heap.size + 1) 0 rfl bv Hl2.out ?_; simp only [Act.put])
      | ((with_reducible show wpList _ _ _ (⟨some 7, .binOp _ _ _ _ _, _, _, _, _⟩ :: _) _ _); refine wpList_run0 rfl (.bool true) (run_eql26_t (.tmp 5) (.tmp 6) _ a b rfl (by rw [Hav.out]; rfl) (by rw [Hbv.out]; rfl) ha hb he _) ?_; simp only [Act.put]))
    go_ret
    exact ⟨rfl, B2⟩
  · obtain ⟨z, hz⟩ : ∃ z, cmpL a b = z := ⟨_, rfl⟩
    rw [hz]
    have Hz := Lib.hid hz
    have He := Lib.hid he
    clear hz he
    go_enter Try.func57, Try.ntmps57
    go_upto_region 3 with (first
      | ((with_reducible show wpList _ _ _ (⟨some 2, .box _ _, _, _, _, _⟩ :: _) _ _); refine wpList_run rfl (.pointer (some ⟨w.heap.size, 0, none⟩)) w1 (by rw [← Hw1.out]; rfl) ?_; simp only [Act.put])
      | ((with_reducible show wpList _ _ _ (⟨some 3, .box _ _, _, _, _, _⟩ :: _) _ _); refine wpList_run rfl (.pointer (some ⟨w.heap.size + 1, 0, none⟩)) w2 (by rw [← Hw2.out, ← Hs1.out]; rfl) ?_; simp only [Act.put])
      | ((with_reducible show wpList _ _ _ (⟨some 5, .load _ _, _, _, _, _⟩ :: _) _ _); refine wpList_load rfl 26 (.tmp 2) rfl w.heap.size 0 rfl av Hl1.out ?_; simp only [Act.put])
      | ((with_reducible show wpList _ _ _ (⟨some 6, .load _ _, _, _, _, _⟩ :: _) _ _); refine wpList_load rfl 26 (.tmp 3) rfl (w.heap.size + 1) 0 rfl bv Hl2.out ?_; simp only [Act.put])
      | ((with_reducible show wpList _ _ _ (⟨some 7, .binOp _ _ _ _ _, _, _, _, _⟩ :: _) _ _); refine wpList_run0 rfl (.bool false) (run_eql26_f (.tmp 5) (.tmp 6) _ a b rfl (by rw [Hav.out]; rfl) (by rw [Hbv.out]; rfl) ha hb He.out _) ?_; simp only [Act.put]))
    refine wp_region_mix (fun _ => True) [(0, true), (1, true), (2, false), (3, true)] (by kernel_rfl) (by kernel_rfl) trivial fun _ => ?_
    simp only [List.map_cons, List.map_nil, Array.getD_eq_getD_getElem?, List.getElem?_toArray, List.getElem?_cons_succ, List.getElem?_cons_zero, Option.getD_some]
    replace k1 := k1.drew
    replace k2 := k2.drew
    replace B2 := B2.drew
    clear Hl1 Hl2 Hw2
    generalize w2.drew = W0 at k1 k2 B2 ⊢
    iterate 2 (refine wpMix_s (fun K hK => ?_); go_simp; refine hK _ ?_; clear hK K)
    refine wpMix_c (fun K hK => ?_) trivial
    go_simp
    refine (bcompare_any W0 w.heap.size (w.heap.size + 1) a b 26 (by rw [Hav.out]; exact k1) (by rw [Hbv.out]; exact k2) ha hb).mono ?_
    rintro e W' ⟨rfl, rfl⟩
    rw [Hz.out]
    refine hK _ _ ?_
    clear hK K
    refine ⟨trivial, ?_⟩
    refine wpMix_s (fun K hK => ?_)
    go_simp
    refine hK _ ?_
    clear hK K
    refine wpMix_nil ?_
    intro _
    go_wp2_with fail
    go_ret
    exact ⟨rfl, B2⟩
end Go.Proofs.Ytdkgndjomkbbjaa
