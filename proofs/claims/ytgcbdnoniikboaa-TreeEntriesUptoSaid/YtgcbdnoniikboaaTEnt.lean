/- tree.Root; notarylaw09.TreeEntries. -/
import Derived.Test.YtgcbdnoniikboaaTKnown
import Derived.Test.YtgcbdnoniikboaaTLeaves
import Derived.Test.YtgcbdnoniikboaaRunG
namespace Go.Proofs.Ytgcbdnoniikboaa
open Go Go.RowKit

set_option maxHeartbeats 1000000 in
set_option maxRecDepth 100000 in
theorem troot_any (ls : List (List UInt8)) (A : Option Addr) (n c : Nat) (w : World) (vs : List Value) (h : SlS w A n c vs ls) (hm : n + ls.flatten.length ≤ 1073741824) :
    Calls Try.prog 18 #[.slice A n c] w fun e w' => e = .returned (.agg ((rootL (leavesL ls)).map B).toArray) ∧ Below w.heap.size w w' := by
  obtain ⟨zs, hzs⟩ : ∃ zs, zeroHash = zs := ⟨_, rfl⟩
  have hzl : zs.size = 32 := by rw [← hzs]; rfl
  have hb0 := (Below.refl w.heap.size w).alloc (Nat.le_refl _) (.cells zs 34)
  have k0 := Blk.new w 34 zs
  have h0 : SlS (w.alloc (.cells zs 34)) A n c vs ls := ⟨(h.out.step hb0).weak fun _ hb' _ => hb', h.len, fun i hi => let ⟨Ai, ci, h1, h2⟩ := h.ins i hi; ⟨Ai, ci, h1, (h2.step hb0).weak fun _ hb' _ => hb'⟩⟩
  have hl := hleaves_any ls A n c _ vs h0 hm
  obtain ⟨hs, hhs⟩ : ∃ hs, leavesL ls = hs := ⟨_, rfl⟩
  have hsn : hs.length = n := by rw [← hhs, leavesL, List.length_map, h.len]
  have ha : H32 hs := by rw [← hhs]; exact leavesL_all ls
  rw [hhs] at hl ⊢
  obtain ⟨r, hr⟩ : ∃ r, rootL hs = r := ⟨_, rfl⟩
  have hrl : r.length = 32 := by rw [← hr]; exact length_rootL hs ha
  have hof := fun W A c h => tof_any hs A n c W h (by omega)
  rw [hr] at hof ⊢
  have Hl := Lib.hid hl
  have Hof := Lib.hid hof
  have Hrl := Lib.hid hrl
  have Hzs := Lib.hid hzs
  have Hsn := Lib.hid hsn
  clear hl hof hrl hzs hsn hhs hr h h0
  go_enter Try.func18, Try.ntmps18
  go_wp2_with ((with_reducible show wpList _ _ _ (⟨some 2, .alloc _, _, _, _, _⟩ :: _) _ _); refine wpList_run rfl (.pointer (some ⟨w.heap.size, 0, none⟩)) (w.alloc (.cells zs 34)) (by rw [← Hzs.out]; rfl) ?_; simp only [Act.put])
  refine Hl.out.mono ?_
  rintro e w1 ⟨v, rfl, ho, hb1⟩
  obtain ⟨A1, c1, rfl, hs1⟩ := Hs.of_owns ho Hsn.out ha
  have k1 := k0.below hb1 k0.lt
  have B1 := hb0.trans (hb1.mono hb0.size)
  clear ho hb1 k0 hb0
  go_wp2_with fail
  refine (Hof.out _ _ _ (hs1.weak fun _ _ _ => trivial)).mono ?_
  rintro e w2 ⟨rfl, hb2⟩
  have k2 := k1.below hb2 k1.lt
  have B2 := B1.trans (hb2.mono B1.size)
  go_wp2_with ((with_reducible show wpList _ _ _ (⟨none, .store _ _ _, _, _, _, _⟩ :: _) _ _); refine wpList_store_blk rfl 34 (.tmp 2) (.tmp 5) rfl 32 size26 w.heap.size (r.map B).toArray rfl rfl (by simp [Hrl.out]) (oneCell_B _) 34 _ k2 hzl ?_; simp only [Act.put])
  refine bodyPost_ret (results_cell_row rfl _ _ w.heap.size 34 (r.map B).toArray (0, 0) _ rfl (k2.setRow_ _) Try.underlying34 rfl (by rw [show (r.map B).toArray.size = 32 by simp [Hrl.out]]; exact info26)) rfl ⟨rfl, ?_⟩
  exact below_setRow B2 (Nat.le_refl _) _

theorem LentB.weak {w : World} {X Y : Nat → Prop} {g n c : Nat} {l : List UInt8} (h : LentB w X g n c l) (hX : ∀ b, b < w.heap.size → X b → Y b) : LentB w Y g n c l := ⟨h.sl.weak hX, h.lt, h.mark, hX g h.in_ h.x, h.in_⟩
theorem info23b : (Try.prog.info? 32).map (fun i => (i.zero, i.size, i.bytes)) = some (some (.slice none 0 0), 1, 24) := by kernel_rfl
theorem run_neq_str9 (l m : List UInt8) (W : World) : (binOp .neq 9 (.string (bstr l)) (.string (bstr m))).run Try.prog W = .ok (.bool (l != m)) W := by
  have : ∀ l : List UInt8, (bstr l).toList = l := fun l => by rw [ByteArray.toList_eq]; rfl
  rw [binOp_string_neq, Sem.run_pure, this, this]; rfl
theorem run_neqstr_f {ρ : Operand → Value} {o : Oper} (x y : Operand) (ty : TypeId) (l : List UInt8) (ho : o.op = .binOp .neq 9 x y ty) (hx : ρ x = .string (bstr l)) (hy : ρ y = .string (bstr l)) (W : World) :
    (execOp ρ o).run Try.prog W = .ok (.value (.bool false)) W := by
  unfold execOp
  simp only [ho, hx, hy, eqGuard_at_string, Sem.run_bind, Sem.run_pure, run_neq_str9, Result.andThen_ok, bne_self_eq_false]
/-- in the first loop: the lent entries -/
structure EnC (w : World) (ls : List (List UInt8)) (k : Nat) (v : Value) (vs : List Value) (W : World) : Prop where
  own : W.ownsRow w.heap.size 32 1 v k vs
  lents : ∀ i (h : i < ls.length), i < k → ∃ g c, vs[i]? = some (.slice (some ⟨g, 0, none⟩) (ls[i]).length c) ∧ LentB W (fun b => w.heap.size ≤ b ∧ some b ≠ v.ownBlock) g (ls[i]).length c ls[i]
  bel : Below w.heap.size w W
section
variable {w W W' : World} {ls : List (List UInt8)} {k : Nat} {v v' : Value} {vs : List Value}
theorem EnC.step (h : EnC w ls k v vs W) (hb : Below W.heap.size W W') : EnC w ls k v vs W' :=
  ⟨owns_step h.own hb, fun i hi hk => let ⟨g, c, h1, h2⟩ := h.lents i hi hk; ⟨g, c, h1, h2.step hb⟩, h.bel.trans (hb.mono h.bel.size)⟩
theorem EnC.app (h : EnC w ls k v vs W) (hg : W.grownBy W' v.ownBlock) (hf : v'.ownBlock = v.ownBlock ∨ ∃ k, v'.ownBlock = some k ∧ W.heap.size ≤ k) {x : Value}
    (ho : W'.ownsRow w.heap.size 32 1 v' (k + 1) (vs ++ [x])) (hx : ∀ hk : k < ls.length, ∃ g c, x = .slice (some ⟨g, 0, none⟩) (ls[k]).length c ∧ LentB W (fun b => w.heap.size ≤ b ∧ some b ≠ v.ownBlock) g (ls[k]).length c ls[k]) :
    EnC w ls (k + 1) v' (vs ++ [x]) W' := by
  have hvl : vs.length = k := by have := h.own.1; omega
  refine ⟨ho, fun i hi hk => ?_, h.bel.grown hg h.bel.size fun k hk => (h.own.lt k hk).1⟩
  have hgo : ∀ g n c l, LentB W (fun b => w.heap.size ≤ b ∧ some b ≠ v.ownBlock) g n c l → LentB W' (fun b => w.heap.size ≤ b ∧ some b ≠ v'.ownBlock) g n c l := fun g n c l h2 => by
    refine (h2.weak (Y := fun b => (w.heap.size ≤ b ∧ some b ≠ v'.ownBlock) ∧ some b ≠ v.ownBlock) fun b hb hx => ⟨⟨hx.1, ?_⟩, hx.2⟩).grown hg (fun b _ hx => hx.2) |>.weak fun b _ hx => hx.1
    rcases hf with hf | ⟨k, hf, hk⟩
    · rw [hf]; exact hx.2
    · rw [hf]; intro e; cases e; omega
  by_cases hik : i < k
  · obtain ⟨g, c, h1, h2⟩ := h.lents i hi hik
    exact ⟨g, c, by rw [List.getElem?_append_left (by omega)]; exact h1, hgo _ _ _ _ h2⟩
  · obtain rfl : i = k := by omega
    obtain ⟨g, c, h1, h2⟩ := hx hi
    exact ⟨g, c, by rw [List.getElem?_append_right (by omega), hvl, Nat.sub_self, h1]; rfl, hgo _ _ _ _ h2⟩
/-- the lent entries, as a slice of slices -/
theorem EnC.sls (h : EnC w ls k v vs W) (hk : ls.length = k) : ∃ A c, v = .slice A k c ∧ SlS W A k c vs ls := by
  obtain ⟨A4, c4, rfl, hs4⟩ := owns_slv h.own
  refine ⟨A4, c4, rfl, hs4.weak fun _ hb _ => hb, hk, fun i hi => ?_⟩
  obtain ⟨g, c, h1, h2⟩ := h.lents i hi (by omega)
  exact ⟨_, c, h1, h2.sl.weak fun b hb _ => hb⟩
end
theorem SlS.step9 {w w' : World} {A : Option Addr} {n c : Nat} {vs : List Value} {ls : List (List UInt8)} (h : SlS w A n c vs ls) (hb : Below w.heap.size w w') : SlS w' A n c vs ls :=
  ⟨(h.out.step hb).weak fun _ hb' _ => hb', h.len, fun i hi => let ⟨Ai, ci, h1, h2⟩ := h.ins i hi; ⟨Ai, ci, h1, (h2.step hb).weak fun _ hb' _ => hb'⟩⟩

set_option maxHeartbeats 4000000 in
set_option maxRecDepth 100000 in
theorem treeentries_any (ls : List (List UInt8)) (A : Option Addr) (n c : Nat) (vs0 : List Value) (w : World) (h : SlS w A n c vs0 ls) (hn : n ≤ 2097152) (hl : ls.flatten.length ≤ 2097152) :
    Calls Try.prog 4 #[.slice A n c] w fun e w' => e = .returned (.bool true) ∧ Below w.heap.size w w' := by
  by_cases hbig : 100 < n
  · have hd : decide ((100 : Int) < (n : Int)) = true := by simp; omega
    clear h
    go_enter Try.func4, Try.ntmps4
    go_wp2_with (go_at_call 15; refine (known9_any _).mono ?_; rintro e w2 ⟨rfl, hb2⟩)
    go_ret
    exact ⟨rfl, hb2⟩
  have hd : decide ((100 : Int) < (n : Int)) = false := by simp; omega
  have hmax := h.out.max
  have hroom := h.out.room
  unfold maxLen at hmax
  have Hh := Lib.hid h
  have hlen := h.len
  have Hlen := Lib.hid hlen
  clear h hlen
  go_enter Try.func4, Try.ntmps4
  go_wp2_with fail
  clear hd
  go_loopw [3, 4] (fun a3 i wr => ∃ (k : Nat) (v3 : Value) (vs : List Value), k ≤ n ∧ i = .int .i64 k ∧ v3 = a3 ∧ EnC w ls k v3 vs wr) (fun _ i => fun _ => n - (intOf i).toNat)
  case atStart => exact ⟨0, _, [], by omega, rfl, rfl, World.ownsRow_nil _ _ _ _, fun i _ h => absurd h (by omega), Below.refl _ _⟩
  case round =>
    obtain ⟨k, v3, vs, hk, rfl, rfl, hC⟩ := hrel
    by_cases hlt : k < n
    · have hkl : k < ls.length := by have := Hlen.out; omega
      obtain ⟨b0, o0, rfl, hb0, _, hcell⟩ := Hh.out.out.at_ (by omega) (by omega)
      obtain ⟨Ai, ci, hv, hs⟩ := Hh.out.ins k hkl
      have hce : ∀ s : InC (fun W => Below w.heap.size w W), s.W.cell? ⟨b0, o0 + k, none⟩ = some (.slice Ai (ls[k]).length ci) := fun s => by
        rw [s.ok.cell (p := ⟨b0, o0 + k, none⟩) hb0]; exact hcell k _ hv
      have hfl3 := flatten_take_le ls (k + 1)
      rw [flatten_take_succ ls k hkl, List.length_append] at hfl3
      have hs9 := fun W (hW : Below w.heap.size w W) => (hs.below hW (fun _ _ h => h)).all
      obtain ⟨p, hp⟩ : ∃ p, ls[k] = p := ⟨_, rfl⟩
      rw [hp] at hce hfl3 hs9
      obtain ⟨m, hm⟩ : ∃ m, p.length = m := ⟨_, rfl⟩
      rw [hm] at hce hfl3 hs9
      have Hp := Lib.hid hp
      have Hm := Lib.hid hm
      have Hs9 := Lib.hid hs9
      clear hp hm hs hv hcell hs9
      have hC0 : EnC w ls k v3 vs wr.drew := hC.step (Below.refl _ _).drew
      clear hC
      go_wp2_with fail
      refine wp_region_begin (fun W => Below w.heap.size w W) (by kernel_rfl) hC0.bel fun _ => ?_
      generalize wr.drew = W0 at hC0 ⊢
      have hS := hC0.bel
      refine wpAnyH_pre (f := 7) (by kernel_rfl) #[true, true, true, true, true, false, false, false, true, true, true, true, true, false, false, false, false] [(0, true), (1, true), (2, true), (3, true), (4, true), (8, true), (9, true), (10, true), (11, true), (12, true)] _ _ _ (by kernel_rfl) hS ?_
      simp only [List.map_cons, List.map_nil, Array.getD_eq_getD_getElem?, List.getElem?_toArray, List.getElem?_cons_succ, List.getElem?_cons_zero, Option.getD_some]
      refine wpMix_s (fun K hK => ?_)
      go_simp
      refine hK _ ?_
      clear hK K
      refine wpMix_s (fun K hK => ?_)
      go_simp
      refine hK _ ?_
      clear hK K
      refine wpMix_s (fun K hK => ?_)
      go_simp
      refine hK _ ?_
      clear hK K
      refine wpMix_s (fun K hK => ?_)
      go_simp
      refine hK _ ?_
      clear hK K
      refine wpMix_s (fun K hK => ?_)
      go_simp
      refine hK _ ?_
      clear hK K
      refine wpMix_s (fun K hK => ?_)
      go_simp
      refine hK _ ?_
      clear hK K
      refine wpMix_s (fun K hK => ?_)
      go_simp
      refine hK _ ?_
      clear hK K
      refine wpMix_s (fun K hK => ?_)
      go_simp
      refine hK _ ?_
      clear hK K
      refine wpMix_s (fun K hK => ?_)
      go_simp
      refine hK _ ?_
      clear hK K
      refine wpMix_s (fun K hK => ?_)
      go_simp
      refine hK _ ?_
      clear hK K
      refine wpMix_nil ?_
      intro _
      refine wpAnyH_shared (T := Value × Nat) 5 #[true, true, true, true, true, true, true, false, true, true, true, true, true, false, false, false, false] (fun t => [(21, t.1), (22, .slice (some ⟨t.2, 0, none⟩) 1 1)]) (fun t W => Below W0.heap.size W0 W ∧ W.ownsRow W0.heap.size 5 1 t.1 p.length (p.map B) ∧ Sl W (fun b => some b ≠ t.1.ownBlock) (some ⟨t.2, 0, none⟩) 1 1 [0xa5]) ?tail ?head
      case head =>
        intro key
        simp only [List.foldl_cons, List.foldl_nil, Act.put, List.setIfInBounds_toArray, List.set_cons_succ, List.set_cons_zero] at key
        refine wpAnyH_fork (f := 6) (i := 5) (j := 6) (by kernel_rfl) hS ?_ ?_
        · have hS0 := hS
          have hB0 : Below W0.heap.size W0 W0 := Below.refl _ _
          simp only [Array.getD_eq_getD_getElem?, List.getElem?_toArray, List.getElem?_cons_succ, List.getElem?_cons_zero, Option.getD_some]
          obtain ⟨v1, W1, hr1, ho1, hg1⟩ := append_sl (v := .slice none 0 0) (xs := []) (World.ownsRow_nil W0 W0.heap.size _ _) (Hs9.out W0 (hS0.trans (hB0.mono hS0.size))) (by simp; omega) (Nat.le_refl _)
          rw [List.nil_append] at ho1
          have hbb : Below W0.heap.size W0 W1 := ⟨hg1.os, hg1.tape, hg1.output, hg1.size, fun k hk => hg1.block k hk (by simp [Value.ownBlock])⟩
          have hB1 := hB0.trans (hbb.mono hB0.size)
          refine wpMix_run (by kernel_rfl) v1 W1 (run_append_op _ (.tmp 20) 32 rfl _ _ rfl rfl hr1) (hS0.trans (hB1.mono hS0.size)) ?_
          simp only [Act.put]
          refine wpMix_nil ?_
          intro hS1
          show wpAnyH _ _ _ _ _ _ #[true, true, true, true, true, true, false, false, true, true, true, true, true, false, false, false, false] _ _
          refine wpAnyH_pre (f := 5) (by kernel_rfl) #[true, true, true, true, true, true, true, false, true, true, true, true, true, false, false, false, false] [(6, false)] _ _ _ (by kernel_rfl) hS1 ?_
          simp only [List.map_cons, List.map_nil, Array.getD_eq_getD_getElem?, List.getElem?_toArray, List.getElem?_cons_succ, List.getElem?_cons_zero, Option.getD_some]
          have hbz : Below W1.heap.size W1 (W1.alloc (.cells #[.int .u8 165] 5)) := (Below.refl _ _).alloc (Nat.le_refl _) _
          refine wpMix_c (fun K hK => ?_) (hS0.trans (hB1.mono hS0.size))
          go_simp
          refine hK _ _ ?_
          clear hK K
          refine mix_world (fun W => Below W0.heap.size W0 W ∧ W.ownsRow W0.heap.size 5 1 v1 p.length (p.map B) ∧ Sl W (fun b => some b ≠ v1.ownBlock) (some ⟨W1.heap.size, 0, none⟩) 1 1 [0xa5]) ⟨hB1.trans (hbz.mono hB1.size), owns_step ho1 hbz, ?_⟩ (fun _ h => hS0.trans (h.1.mono hS0.size)) ?_
          · exact Sl.weak (X := fun b => b = W1.heap.size) ⟨Bs.new W1 (· = W1.heap.size) 5 ([(0xa5 : UInt8)].map B) rfl, rfl, Nat.le_refl _, (fun h => by cases h), by decide⟩ fun b _ hx e => by have := (ho1.lt b e.symm).2; omega
          intro W2 hF
          refine wpMix_nil ?_
          intro _
          exact key (_, _) _ hF
        · have hS0 := hS
          have hB0 : Below W0.heap.size W0 W0 := Below.refl _ _
          simp only [Array.getD_eq_getD_getElem?, List.getElem?_toArray, List.getElem?_cons_succ, List.getElem?_cons_zero, Option.getD_some]
          have hbz : Below W0.heap.size W0 (W0.alloc (.cells #[.int .u8 165] 5)) := (Below.refl _ _).alloc (Nat.le_refl _) _
          refine wpMix_c (fun K hK => ?_) (hS0.trans (hB0.mono hS0.size))
          go_simp
          refine hK _ _ ?_
          clear hK K
          refine mix_world (fun W => Below W0.heap.size W0 W ∧ Sl W (· < W.heap.size) (some ⟨W0.heap.size, 0, none⟩) 1 1 [0xa5]) ⟨hbz, Sl.weak (X := fun _ => True) ⟨Bs.new W0 (fun _ => True) 5 ([(0xa5 : UInt8)].map B) trivial, rfl, Nat.le_refl _, (fun h => by cases h), by decide⟩ fun _ hb _ => hb⟩ (fun _ h => hS0.trans (h.1.mono hS0.size)) ?_
          rintro W1 ⟨hB1, hz1⟩
          refine wpMix_nil ?_
          intro hS1
          show wpAnyH _ _ _ _ _ _ #[true, true, true, true, true, false, true, false, true, true, true, true, true, false, false, false, false] _ _
          refine wpAnyH_pre (f := 5) (by kernel_rfl) #[true, true, true, true, true, true, true, false, true, true, true, true, true, false, false, false, false] [(5, false)] _ _ _ (by kernel_rfl) hS1 ?_
          simp only [List.map_cons, List.map_nil, Array.getD_eq_getD_getElem?, List.getElem?_toArray, List.getElem?_cons_succ, List.getElem?_cons_zero, Option.getD_some]
          obtain ⟨v1, W2, hr1, ho1, hg1⟩ := append_sl (v := .slice none 0 0) (xs := []) (World.ownsRow_nil W1 W1.heap.size _ _) (Hs9.out W1 (hS0.trans (hB1.mono hS0.size))) (by simp; omega) (Nat.le_refl _)
          rw [List.nil_append] at ho1
          have hbb : Below W1.heap.size W1 W2 := ⟨hg1.os, hg1.tape, hg1.output, hg1.size, fun k hk => hg1.block k hk (by simp [Value.ownBlock])⟩
          have hB2 := hB1.trans (hbb.mono hB1.size)
          refine wpMix_run (by kernel_rfl) v1 W2 (run_append_op _ (.tmp 20) 32 rfl _ _ rfl rfl hr1) (hS0.trans (hB2.mono hS0.size)) ?_
          simp only [Act.put]
          refine wpMix_nil ?_
          intro _
          refine key (_, _) _ ⟨hB2, owns_le ho1 hB1.size, ?_⟩
          exact (hz1.below hbb fun _ _ h => h).weak fun b _ hx e => by have := (ho1.lt b e.symm).1; have : b < W1.heap.size := hx; omega
      case tail =>
        have hS0 := hS
        clear hS
        rintro ⟨v1, g5⟩ W2 ⟨hB2, ho1, hz2⟩
        dsimp only at ho1 hz2
        simp only [List.foldl_cons, List.foldl_nil, Act.put, List.setIfInBounds_toArray, List.set_cons_succ, List.set_cons_zero]
        obtain ⟨v2, W3, hr3, ho3, hg3⟩ := append_sl ho1 hz2 (by rw [Hm.out]; omega) hB2.size
        have hB3 := hB2.grown hg3 hB2.size (fun k hk => (ho1.lt k hk).1)
        obtain ⟨g, c3, cur, rfl, hgb, hown⟩ := Own.of_owns ho3 (by simp)
        have hlb := LentB.of_own (X := (W0.heap.size ≤ ·)) hown hgb
        rw [Hm.out] at hlb
        rw [show (p ++ [(165 : UInt8)]).length = m + 1 by rw [List.length_append, Hm.out]; rfl] at hr3
        have hc3 := hlb.lt
        have hc3m := hlb.sl.max
        unfold maxLen at hc3m
        have hC3 := hC0.step hB3
        have hba : Below W3.heap.size W3 (W3.alloc (.cells #[.slice (some ⟨g, 0, none⟩) m c3] 32)) := (Below.refl _ _).alloc (Nat.le_refl _) _
        have hC4 := hC3.step hba
        obtain ⟨v4, W5, hr5, ho5, hg5, hf5⟩ := append_slv (ty := 31) Try.underlying31 info23b rfl (by decide) hC4.own (SlV.lit (s := 1) W3 (fun _ => True) 32 [.slice (some ⟨g, 0, none⟩) m c3] rfl (by decide) trivial) (by simp [Value.oneCell']) (by unfold maxLen; omega) (by omega) hC4.bel.size
        have hC5 := hC4.app hg5 hf5 ho5 (fun hk' => ⟨g, c3, by rw [Hp.out, Hm.out], by rw [Hp.out, Hm.out]; exact (hlb.weak fun b _ hx => ⟨Nat.le_trans hC0.bel.size hx, fun e => by have := (hC0.own.lt b e.symm).2; have : W0.heap.size ≤ b := hx; omega⟩).step hba⟩)
        have sl1 := fun W => run_slice_high (P := Try.prog) sliceT23 size23 (some ⟨g, 0, none⟩) (m + 1) c3 m (by omega) W
        have Hr3 := Lib.hid hr3
        have Hr5 := Lib.hid hr5
        have hb2S := hC0.bel.trans (hB2.mono hC0.bel.size)
        clear hr3 hr5 ho1 hz2 ho3 hg3 hown hlb ho5 hg5 hf5
        refine wpAnyH_pre (f := 0) (by kernel_rfl) #[true, true, true, true, true, true, true, true, true, true, true, true, true, true, true, true, true] [(7, false), (13, true), (14, false), (15, false), (16, true)] _ _ _ (by kernel_rfl) hb2S ?_
        simp only [List.map_cons, List.map_nil, Array.getD_eq_getD_getElem?, List.getElem?_toArray, List.getElem?_cons_succ, List.getElem?_cons_zero, Option.getD_some]
        refine wpMix_run (by kernel_rfl) _ W3 (run_append_op (.tmp 21) (.tmp 22) 32 rfl _ _ rfl rfl Hr3.out) hC3.bel ?_
        simp only [Act.put]
        refine wpMix_s (fun K hK => ?_)
        go_simp
        refine hK _ ?_
        clear hK K
        refine wpMix_c (fun K hK => ?_) hC3.bel
        go_simp
        refine hK _ _ ⟨hC4.bel, ?_⟩
        clear hK K
        refine wpMix_run (by kernel_rfl) v4 W5 (run_append_op (.tmp 16) (.tmp 30) 31 rfl _ _ rfl rfl Hr5.out) hC5.bel ?_
        simp only [Act.put]
        refine wpMix_s (fun K hK => ?_)
        go_simp
        refine hK _ ?_
        clear hK K
        refine wpMix_nil ?_
        intro _
        refine wpAnyH_end (by kernel_rfl) ?_
        clear sl1
        go_wp2_with fail
        go_roundw
        case rel => exact ⟨k + 1, v4, _, by omega, by go_num, rfl, hC5⟩
        case measure => simp [intOf]; omega
    · obtain rfl : n = k := by omega
      obtain ⟨A4, c4, rfl, hsls⟩ := hC.sls Hlen.out
      have hmark := hC.lents
      have hB := hC.bel
      clear hC
      have hsrc := fun W (hW : Below w.heap.size w W) => Hh.out.step9 hW
      have hroot := troot_any ls A4 n c4 wr vs hsls (by omega)
      have hlv := fun W (hW : Below w.heap.size w W) => rleaves_any ls A n c W vs0 (hsrc W hW) (by omega)
      obtain ⟨hs, hhs⟩ : ∃ hs, leavesL ls = hs := ⟨_, rfl⟩
      have hsn : hs.length = n := by rw [← hhs, leavesL, List.length_map, Hlen.out]
      have ha : H32 hs := by rw [← hhs]; exact leavesL_all ls
      rw [hhs] at hroot hlv
      obtain ⟨r, hr⟩ : ∃ r, rootL hs = r := ⟨_, rfl⟩
      have hrl : r.length = 32 := by rw [← hr]; exact length_rootL hs ha
      have hof := fun W A c h => rof_any hs A n c W h (by omega)
      rw [hr] at hroot hof
      have Hroot := Lib.hid hroot
      have Hlv := Lib.hid hlv
      have Hof := Lib.hid hof
      have Hrl := Lib.hid hrl
      have Hsn := Lib.hid hsn
      have Hmark := Lib.hid hmark
      have Hsrc := Lib.hid hsrc
      clear hroot hlv hof hrl hsn hhs hr hmark hsrc
      go_wp2_with fail
      refine Hroot.out.mono ?_
      rintro e w2 ⟨rfl, hb2⟩
      have hB2 := hB.trans (hb2.mono hB.size)
      go_wp2_with fail
      refine (Hlv.out w2 hB2).mono ?_
      rintro e w3 ⟨v5, rfl, ho5, hb3⟩
      obtain ⟨A5, c5, rfl, hs5⟩ := Hs.of_owns ho5 Hsn.out ha
      have hB3 := hB2.trans (hb3.mono hB2.size)
      go_wp2_with fail
      refine (Hof.out _ _ _ (hs5.weak fun _ _ _ => trivial)).mono ?_
      rintro e w4 ⟨rfl, hb4⟩
      have hB4 := hB3.trans (hb4.mono hB3.size)
      have hB4r := (hb2.trans (hb3.mono hb2.size)).trans (hb4.mono (Nat.le_trans hb2.size hb3.size))
      clear ho5 hs5 hB2 hB3 hb2 hb3 hb4
      go_wp2_with ((with_reducible show wpList _ _ _ (⟨some 37, .binOp _ _ _ _ _, _, _, _, _⟩ :: _) _ _); refine wpList_runG (by kernel_rfl) (.bool false) _ (run_neq26_f (.tmp 33) (.tmp 36) _ r r rfl rfl rfl Hrl.out Hrl.out rfl _) ?_; simp only [Act.put])
      go_loopw [5] (fun v wr => ∃ k : Nat, k ≤ n ∧ v = .int .i64 (k : Int) ∧ Below w4.heap.size w4 wr) (fun v _ => n - (intOf v).toNat)
      case atStart => exact ⟨0, Nat.zero_le _, rfl, Below.refl _ _⟩
      case round =>
        obtain ⟨k, hk, rfl, hW⟩ := hrel
        by_cases hlt : k < n
        · have hkl : k < ls.length := by have := Hlen.out; omega
          obtain ⟨g, cg, g1, g2⟩ := Hmark.out k hkl hlt
          obtain ⟨b4, o4, hA4, hb4', -, hcell4⟩ := hsls.out.at_ (by omega) (by decide)
          subst hA4
          obtain ⟨b0, o0, hA0, hb0, -, hcell0⟩ := Hh.out.out.at_ (by omega) (by decide)
          subst hA0
          obtain ⟨Ai, ci, hv, hs'⟩ := Hh.out.ins k hkl
          have hfl3 := flatten_take_le ls (k + 1)
          rw [flatten_take_succ ls k hkl, List.length_append] at hfl3
          have hWw := hB4.trans (hW.mono hB4.size)
          have e1 : ∀ s : InC (fun W => Below w4.heap.size w4 W), s.W.cell? ⟨b0, o0 + k, none⟩ = some (.slice Ai (ls[k]).length ci) := fun s => by
            rw [(hB4.trans (s.ok.mono hB4.size)).cell (p := ⟨b0, o0 + k, none⟩) hb0]; exact hcell0 k _ hv
          have e2 : ∀ s : InC (fun W => Below w4.heap.size w4 W), s.W.cell? ⟨b4, o4 + k, none⟩ = some (.slice (some ⟨g, 0, none⟩) (ls[k]).length cg) := fun s => by
            rw [(hB4r.trans (s.ok.mono hB4r.size)).cell (p := ⟨b4, o4 + k, none⟩) hb4']; exact hcell4 k _ g1
          have e3 : ∀ s : InC (fun W => Below w4.heap.size w4 W), (convert 32 9 (.slice (some ⟨g, 0, none⟩) (ls[k]).length cg)).run Try.prog s.W = .ok (.string (bstr ls[k])) s.W := fun s =>
            run_str ((g2.weak (Y := fun _ => True) fun _ _ _ => trivial).step (hB4r.trans (s.ok.mono hB4r.size))).sl
          have e4 : ∀ s : InC (fun W => Below w4.heap.size w4 W), (convert 32 9 (.slice Ai (ls[k]).length ci)).run Try.prog s.W = .ok (.string (bstr ls[k])) s.W := fun s =>
            run_str (hs'.below (hB4.trans (s.ok.mono hB4.size)) (fun _ _ h => h)).all
          have e5 : ∀ s : InC (fun W => Below w4.heap.size w4 W), s.W.cell? ⟨g, (ls[k]).length, none⟩ = some (.int .u8 165) := fun s => (g2.step (hB4r.trans (s.ok.mono hB4r.size))).mark
          have hlt' := g2.lt
          have hcm := g2.sl.max
          unfold maxLen at hcm
          obtain ⟨p, hp⟩ : ∃ p, ls[k] = p := ⟨_, rfl⟩
          rw [hp] at e1 e2 e3 e4 e5 hlt' hfl3
          obtain ⟨m, hm⟩ : ∃ m, p.length = m := ⟨_, rfl⟩
          rw [hm] at e1 e2 e3 e4 e5 hlt' hfl3
          have sl1 := fun W => run_slice_high (P := Try.prog) sliceT23 size23 (some ⟨g, 0, none⟩) m cg (m + 1) (by omega) W
          rw [show ((m + 1 : Nat) : Int) = (m : Int) + 1 by omega] at sl1
          have hw1 : IntKind.i64.wrap ((m : Int) + 1) = (m : Int) + 1 := IntWalk.i64_in _ (by omega)
          have hm1 : (m : Int) < (m : Int) + 1 := by omega
          clear hp hm g1 g2 hcell4 hcell0 hv hs' hfl3
          go_wp2_with fail
          have hS : Below w4.heap.size w4 wr.drew := hW.drew
          refine wp_region_mix (fun W => Below w4.heap.size w4 W) [(0, true), (1, true), (2, true), (3, true), (4, true), (5, true), (6, true), (7, true), (8, true), (9, true), (10, true), (11, true), (12, true), (13, true), (14, true), (15, true), (16, true), (17, true), (18, true), (19, true), (20, true), (21, true), (22, true), (23, true), (24, true), (25, true), (26, true), (27, true), (28, true), (29, true), (30, true), (31, true)] (by kernel_rfl) (by kernel_rfl) hS fun _ => ?_
          simp only [List.map_cons, List.map_nil, Array.getD_eq_getD_getElem?, List.getElem?_toArray, List.getElem?_cons_succ, List.getElem?_cons_zero, Option.getD_some]
          iterate 10 (refine wpMix_s (fun K hK => ?_); go_simp; refine hK _ ?_; clear hK K)
          refine wpMix_v (by kernel_rfl) (.bool false) (fun s => run_neqstr_f (.tmp 48) (.tmp 53) _ p rfl rfl rfl s.W) ?_
          simp only [Act.put]
          iterate 21 (refine wpMix_s (fun K hK => ?_); go_simp; refine hK _ ?_; clear hK K)
          refine wpMix_nil ?_
          intro _
          clear sl1 hw1 e1 e2 e3 e4 e5
          generalize wr.drew = W9 at hS ⊢
          go_wp2_with fail
          refine ⟨⟨k + 1, by omega, by go_num, hS⟩, by simp [intOf]; omega⟩
        · have hB9 := hB4.trans (hW.mono hB4.size)
          go_wp2_with (go_at_call 15; refine (known9_any _).mono ?_; rintro e w6 ⟨rfl, hb6⟩)
          go_ret
          exact ⟨rfl, hB9.trans (hb6.mono hB9.size)⟩
end Go.Proofs.Ytgcbdnoniikboaa
