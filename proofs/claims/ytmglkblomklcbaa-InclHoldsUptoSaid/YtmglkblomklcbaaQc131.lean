/- tree.Root; notarylaw09.TreeEntries. -/
import Derived.Test.YtmglkblomklcbaaQc113
import Derived.Test.YtmglkblomklcbaaQc130
namespace Go.Proofs.Ytmglkblomklcbaa
open Go Go.RowKit

set_option maxHeartbeats 1000000 in
set_option maxRecDepth 100000 in
theorem troot_any (ls : List (List UInt8)) (A : Option Addr) (n c : Nat) (w : World) (vs : List Value) (h : SlS w A n c vs ls) (hm : n + ls.flatten.length ≤ 1073741824) :
    Calls Try.prog 29 #[.slice A n c] w fun e w' => e = .returned (.agg ((rootL (leavesL ls)).map B).toArray) ∧ Below w.heap.size w w' := by
  obtain ⟨zs, hzs⟩ : ∃ zs, zeroHash = zs := ⟨_, rfl⟩
  have hzl : zs.size = 32 := by rw [← hzs]; rfl
  have hb0 := (Below.refl w.heap.size w).alloc (Nat.le_refl _) (.cells zs 45)
  have k0 := Blk.new w 45 zs
  have h0 : SlS (w.alloc (.cells zs 45)) A n c vs ls := ⟨(h.out.step hb0).weak fun _ hb' _ => hb', h.len, fun i hi => let ⟨Ai, ci, h1, h2⟩ := h.ins i hi; ⟨Ai, ci, h1, (h2.step hb0).weak fun _ hb' _ => hb'⟩⟩
  have hl := hleaves_any ls A n c _ vs h0 hm
  obtain ⟨hs, hhs⟩ : ∃ hs, leavesL ls = hs := ⟨_, rfl⟩
  have hsn : hs.length = n := by rw [← hhs, leavesL, List.length_map, h.len]
  have ha : H32 hs := by rw [← hhs]; exact leavesL_all ls
  rw [hhs] at hl ⊢
  obtain ⟨r, hr⟩ : ∃ r, rootL hs = r := ⟨_, rfl⟩
  have hrl : r.length = 32 := by rw [← hr]; exact length_rootL hs ha
  have hof := fun W A c h => tof_any hs A n c W h (by omega)
  rw [hr] at hof ⊢
  have Hl := Lib.hid hl
  have Hof := Lib.hid hof
  have Hrl := Lib.hid hrl
  have Hzs := Lib.hid hzs
  have Hsn := Lib.hid hsn
  clear hl hof hrl hzs hsn hhs hr h h0
  go_enter Try.func29, Try.ntmps29
  go_wp2_with ((with_reducible show wpList _ _ _ (⟨some 2, .alloc _, _, _, _, _⟩ :: _) _ _); refine wpList_run rfl (.pointer (some ⟨w.heap.size, 0, none⟩)) (w.alloc (.cells zs 45)) (by rw [← Hzs.out]; rfl) ?_; simp only [Act.put])
  refine Hl.out.mono ?_
  rintro e w1 ⟨v, rfl, ho, hb1⟩
  obtain ⟨A1, c1, rfl, hs1⟩ := Hs.of_owns ho Hsn.out ha
  have k1 := k0.below hb1 k0.lt
  have B1 := hb0.trans (hb1.mono hb0.size)
  clear ho hb1 k0 hb0
  go_wp2_with fail
  refine (Hof.out _ _ _ (hs1.weak fun _ _ _ => trivial)).mono ?_
  rintro e w2 ⟨rfl, hb2⟩
  have k2 := k1.below hb2 k1.lt
  have B2 := B1.trans (hb2.mono B1.size)
  go_wp2_with ((with_reducible show wpList _ _ _ (⟨none, .store _ _ _, _, _, _, _⟩ :: _) _ _); refine wpList_store_blk rfl 45 (.tmp 2) (.tmp 5) rfl 32 size26 w.heap.size (r.map B).toArray rfl rfl (by simp [Hrl.out]) (oneCell_B _) 45 _ k2 hzl ?_; simp only [Act.put])
  refine bodyPost_ret (results_cell_row rfl _ _ w.heap.size 45 (r.map B).toArray (0, 0) _ rfl (k2.setRow_ _) Try.underlying45 rfl (by rw [show (r.map B).toArray.size = 32 by simp [Hrl.out]]; exact info26)) rfl ⟨rfl, ?_⟩
  exact below_setRow B2 (Nat.le_refl _) _

theorem LentB.weak {w : World} {X Y : Nat → Prop} {g n c : Nat} {l : List UInt8} (h : LentB w X g n c l) (hX : ∀ b, b < w.heap.size → X b → Y b) : LentB w Y g n c l := ⟨h.sl.weak hX, h.lt, h.mark, hX g h.in_ h.x, h.in_⟩
theorem info23b : (Try.prog.info? 71).map (fun i => (i.zero, i.size, i.bytes)) = some (some (.slice none 0 0), 1, 24) := by kernel_rfl
theorem run_neq_str9 (l m : List UInt8) (W : World) : (binOp .neq 9 (.string (bstr l)) (.string (bstr m))).run Try.prog W = .ok (.bool (l != m)) W := by
  have : ∀ l : List UInt8, (bstr l).toList = l := fun l => by rw [ByteArray.toList_eq]; rfl
  rw [binOp_string_neq, Sem.run_pure, this, this]; rfl
theorem run_neqstr_f {ρ : Operand → Value} {o : Oper} (x y : Operand) (ty : TypeId) (l : List UInt8) (ho : o.op = .binOp .neq 9 x y ty) (hx : ρ x = .string (bstr l)) (hy : ρ y = .string (bstr l)) (W : World) :
    (execOp ρ o).run Try.prog W = .ok (.value (.bool false)) W := by
  unfold execOp
  simp only [ho, hx, hy, eqGuard_at_string, Sem.run_bind, Sem.run_pure, run_neq_str9, Result.andThen_ok, bne_self_eq_false]
/-- in the first loop: the lent entries -/
structure EnC (w : World) (ls : List (List UInt8)) (k : Nat) (v : Value) (vs : List Value) (W : World) : Prop where
  own : W.ownsRow w.heap.size 71 1 v k vs
  lents : ∀ i (h : i < ls.length), i < k → ∃ g c, vs[i]? = some (.slice (some ⟨g, 0, none⟩) (ls[i]).length c) ∧ LentB W (fun b => w.heap.size ≤ b ∧ some b ≠ v.ownBlock) g (ls[i]).length c ls[i]
  bel : Below w.heap.size w W
section
variable {w W W' : World} {ls : List (List UInt8)} {k : Nat} {v v' : Value} {vs : List Value}
theorem EnC.step (h : EnC w ls k v vs W) (hb : Below W.heap.size W W') : EnC w ls k v vs W' :=
  ⟨owns_step h.own hb, fun i hi hk => let ⟨g, c, h1, h2⟩ := h.lents i hi hk; ⟨g, c, h1, h2.step hb⟩, h.bel.trans (hb.mono h.bel.size)⟩
theorem EnC.app (h : EnC w ls k v vs W) (hg : W.grownBy W' v.ownBlock) (hf : v'.ownBlock = v.ownBlock ∨ ∃ k, v'.ownBlock = some k ∧ W.heap.size ≤ k) {x : Value}
    (ho : W'.ownsRow w.heap.size 71 1 v' (k + 1) (vs ++ [x])) (hx : ∀ hk : k < ls.length, ∃ g c, x = .slice (some ⟨g, 0, none⟩) (ls[k]).length c ∧ LentB W (fun b => w.heap.size ≤ b ∧ some b ≠ v.ownBlock) g (ls[k]).length c ls[k]) :
    EnC w ls (k + 1) v' (vs ++ [x]) W' := by
  have hvl : vs.length = k := by have := h.own.1; omega
  refine ⟨ho, fun i hi hk => ?_, h.bel.grown hg h.bel.size fun k hk => (h.own.lt k hk).1⟩
  have hgo : ∀ g n c l, LentB W (fun b => w.heap.size ≤ b ∧ some b ≠ v.ownBlock) g n c l → LentB W' (fun b => w.heap.size ≤ b ∧ some b ≠ v'.ownBlock) g n c l := fun g n c l h2 => by
    refine (h2.weak (Y := fun b => (w.heap.size ≤ b ∧ some b ≠ v'.ownBlock) ∧ some b ≠ v.ownBlock) fun b hb hx => ⟨⟨hx.1, ?_⟩, hx.2⟩).grown hg (fun b _ hx => hx.2) |>.weak fun b _ hx => hx.1
    rcases hf with hf | ⟨k, hf, hk⟩
    · rw [hf]; exact hx.2
    · rw [hf]; intro e; cases e; omega
  by_cases hik : i < k
  · obtain ⟨g, c, h1, h2⟩ := h.lents i hi hik
    exact ⟨g, c, by rw [List.getElem?_append_left (by omega)]; exact h1, hgo _ _ _ _ h2⟩
  · obtain rfl : i = k := by omega
    obtain ⟨g, c, h1, h2⟩ := hx hi
    exact ⟨g, c, by rw [List.getElem?_append_right (by omega), hvl, Nat.sub_self, h1]; rfl, hgo _ _ _ _ h2⟩
/-- the lent entries, as a slice of slices -/
theorem EnC.sls (h : EnC w ls k v vs W) (hk : ls.length = k) : ∃ A c, v = .slice A k c ∧ SlS W A k c vs ls := by
  obtain ⟨A4, c4, rfl, hs4⟩ := owns_slv h.own
  refine ⟨A4, c4, rfl, hs4.weak fun _ hb _ => hb, hk, fun i hi => ?_⟩
  obtain ⟨g, c, h1, h2⟩ := h.lents i hi (by omega)
  exact ⟨_, c, h1, h2.sl.weak fun b hb _ => hb⟩
end
theorem SlS.step9 {w w' : World} {A : Option Addr} {n c : Nat} {vs : List Value} {ls : List (List UInt8)} (h : SlS w A n c vs ls) (hb : Below w.heap.size w w') : SlS w' A n c vs ls :=
  ⟨(h.out.step hb).weak fun _ hb' _ => hb', h.len, fun i hi => let ⟨Ai, ci, h1, h2⟩ := h.ins i hi; ⟨Ai, ci, h1, (h2.step hb).weak fun _ hb' _ => hb'⟩⟩

end Go.Proofs.Ytmglkblomklcbaa
