/- lent, left: entries in new memory, with marks. -/
import Derived.Test.YtonidnfgneokbaaQd230
import Derived.Test.YtonidnfgneokbaaQd219
import Derived.Test.YtonidnfgneokbaaQd205
import Derived.Test.YtonidnfgneokbaaQd207
import Derived.Test.YtonidnfgneokbaaQd211
namespace Go.Proofs.Ytonidnfgneokbaa
open Go Go.RowKit

theorem LentB.weak {w : World} {X Y : Nat → Prop} {g n c : Nat} {l : List UInt8} (h : LentB w X g n c l) (hX : ∀ b, b < w.heap.size → X b → Y b) : LentB w Y g n c l := ⟨h.sl.weak hX, h.lt, h.mark, hX g h.in_ h.x, h.in_⟩
theorem info23b : (Try.prog.info? 23).map (fun i => (i.zero, i.size, i.bytes)) = some (some (.slice none 0 0), 1, 24) := by kernel_rfl
/-- in the first loop: the lent entries -/
structure LtC (w : World) (ls : List (List UInt8)) (k : Nat) (v : Value) (vs : List Value) (W : World) : Prop where
  own : W.ownsRow w.heap.size 23 1 v k vs
  lents : ∀ i (h : i < ls.length), i < k → ∃ g c, vs[i]? = some (.slice (some ⟨g, 0, none⟩) (ls[i]).length c) ∧ LentB W (fun b => w.heap.size ≤ b ∧ some b ≠ v.ownBlock) g (ls[i]).length c ls[i]
  bel : Below w.heap.size w W
section
variable {w W W' : World} {ls : List (List UInt8)} {k : Nat} {v v' : Value} {vs : List Value}
theorem LtC.step (h : LtC w ls k v vs W) (hb : Below W.heap.size W W') : LtC w ls k v vs W' :=
  ⟨owns_step h.own hb, fun i hi hk => let ⟨g, c, h1, h2⟩ := h.lents i hi hk; ⟨g, c, h1, h2.step hb⟩, h.bel.trans (hb.mono h.bel.size)⟩
theorem LtC.app (h : LtC w ls k v vs W) (hg : W.grownBy W' v.ownBlock) (hf : v'.ownBlock = v.ownBlock ∨ ∃ k, v'.ownBlock = some k ∧ W.heap.size ≤ k) {x : Value}
    (ho : W'.ownsRow w.heap.size 23 1 v' (k + 1) (vs ++ [x])) (hx : ∀ hk : k < ls.length, ∃ g c, x = .slice (some ⟨g, 0, none⟩) (ls[k]).length c ∧ LentB W (fun b => w.heap.size ≤ b ∧ some b ≠ v.ownBlock) g (ls[k]).length c ls[k]) :
    LtC w ls (k + 1) v' (vs ++ [x]) W' := by
  have hvl : vs.length = k := by have := h.own.1; omega
  refine ⟨ho, fun i hi hk => ?_, h.bel.grown hg h.bel.size fun k hk => (h.own.lt k hk).1⟩
  have hgo : ∀ g n c l, LentB W (fun b => w.heap.size ≤ b ∧ some b ≠ v.ownBlock) g n c l → LentB W' (fun b => w.heap.size ≤ b ∧ some b ≠ v'.ownBlock) g n c l := fun g n c l h2 => by
    refine (h2.weak (Y := fun b => (w.heap.size ≤ b ∧ some b ≠ v'.ownBlock) ∧ some b ≠ v.ownBlock) fun b hb hx => ⟨⟨hx.1, ?_⟩, hx.2⟩).grown hg (fun b _ hx => hx.2) |>.weak fun b _ hx => hx.1
    rcases hf with hf | ⟨k, hf, hk⟩
    · rw [hf]; exact hx.2
    · rw [hf]; intro e; cases e; omega
  by_cases hik : i < k
  · obtain ⟨g, c, h1, h2⟩ := h.lents i hi hik
    exact ⟨g, c, by rw [List.getElem?_append_left (by omega)]; exact h1, hgo _ _ _ _ h2⟩
  · obtain rfl : i = k := by omega
    obtain ⟨g, c, h1, h2⟩ := hx hi
    exact ⟨g, c, by rw [List.getElem?_append_right (by omega), hvl, Nat.sub_self, h1]; rfl, hgo _ _ _ _ h2⟩
end
def roomL : List UInt8 := [114, 111, 111, 109]
/-- entries in new memory: a mark behind each, and one behind them all -/
structure Lm (W : World) (X : Nat → Prop) (A : Option Addr) (n c : Nat) (ls : List (List UInt8)) : Prop where
  ex : ∃ vs r cr, SlV W X A (n + 1) c 1 (vs ++ [.slice (some ⟨r, 0, none⟩) 4 cr]) ∧ vs.length = n ∧ (∀ i (h : i < ls.length), ∃ g c, vs[i]? = some (.slice (some ⟨g, 0, none⟩) (ls[i]).length c) ∧ LentB W X g (ls[i]).length c ls[i]) ∧ Sl W X (some ⟨r, 0, none⟩) 4 cr roomL
  len : ls.length = n
section
variable {w w' : World} {X Y : Nat → Prop} {A : Option Addr} {n c : Nat} {ls : List (List UInt8)}
theorem Lm.weak (h : Lm w X A n c ls) (hX : ∀ b, b < w.heap.size → X b → Y b) : Lm w Y A n c ls :=
  let ⟨vs, r, cr, h1, h2, h3, h4⟩ := h.ex; ⟨⟨vs, r, cr, h1.weak hX, h2, fun i hi => let ⟨g, c, g1, g2⟩ := h3 i hi; ⟨g, c, g1, g2.weak hX⟩, h4.weak hX⟩, h.len⟩
theorem Lm.all (h : Lm w X A n c ls) : Lm w (fun _ => True) A n c ls := h.weak fun _ _ _ => trivial
theorem Lm.step (h : Lm w X A n c ls) (hb : Below w.heap.size w w') : Lm w' X A n c ls :=
  let ⟨vs, r, cr, h1, h2, h3, h4⟩ := h.ex; ⟨⟨vs, r, cr, h1.step hb, h2, fun i hi => let ⟨g, c, g1, g2⟩ := h3 i hi; ⟨g, c, g1, g2.step hb⟩, h4.step hb⟩, h.len⟩
theorem Lm.grown {row : Option Nat} (h : Lm w X A n c ls) (hg : w.grownBy w' row) (hX : ∀ b, b < w.heap.size → X b → some b ≠ row) : Lm w' X A n c ls :=
  let ⟨vs, r, cr, h1, h2, h3, h4⟩ := h.ex; ⟨⟨vs, r, cr, h1.grown hg hX, h2, fun i hi => let ⟨g, c, g1, g2⟩ := h3 i hi; ⟨g, c, g1, g2.grown hg hX⟩, h4.grown hg hX⟩, h.len⟩
theorem Lm.below {N : Nat} (h : Lm w X A n c ls) (hb : Below N w w') (hX : ∀ b, b < w.heap.size → X b → b < N) : Lm w' X A n c ls :=
  (h.weak (Y := fun b => X b ∧ b < N) fun b h1 h2 => ⟨h2, hX b h1 h2⟩).ex.elim fun vs h0 => let ⟨r, cr, h1, h2, h3, h4⟩ := h0
  ⟨⟨vs, r, cr, (h1.below hb fun _ _ hx => hx.2).weak fun _ _ hx => hx.1, h2, fun i hi => let ⟨g, c, g1, g2⟩ := h3 i hi
    ⟨g, c, g1, ⟨(g2.sl.below hb fun _ _ hx => hx.2).weak fun _ _ hx => hx.1, g2.lt, by rw [hb.cell (p := ⟨g, _, none⟩) g2.x.2]; exact g2.mark, g2.x.1, Nat.lt_of_lt_of_le g2.in_ hb.size⟩⟩, (h4.below hb fun _ _ hx => hx.2).weak fun _ _ hx => hx.1⟩, h.len⟩
theorem Lm.es (h : Lm w X A n c ls) : Es w X A n c ls := by
  obtain ⟨vs, r, cr, h1, h2, h3, h4⟩ := h.ex
  refine ⟨⟨vs, ?_, fun i hi => let ⟨g, c, g1, g2⟩ := h3 i hi; ⟨_, c, g1, g2.sl⟩⟩, h.len⟩
  have := h1.take n (by omega)
  rwa [Nat.mul_one, ← h2, List.take_left, h2] at this
theorem Lm.lt (h : Lm w X A n c ls) : n < c := let ⟨_, _, _, h1, _⟩ := h.ex; Nat.lt_of_succ_le h1.room
theorem Lm.max (h : Lm w X A n c ls) : c ≤ maxLen := let ⟨_, _, _, h1, _⟩ := h.ex; h1.max
end

set_option maxHeartbeats 4000000 in
set_option maxRecDepth 100000 in
theorem lent10_any (ls : List (List UInt8)) (A : Option Addr) (n c : Nat) (w : World) (h : Es w (fun _ => True) A n c ls) (hn : n ≤ 2097152) (hl : ∀ x ∈ ls, x.length ≤ 1099511627776) :
    Calls Try.prog 129 #[.slice A n c] w fun e w' => ∃ A' c', e = .returned (.slice A' n c') ∧ Lm w' (w.heap.size ≤ ·) A' n c' ls ∧ Below w.heap.size w w' := by
  have hmax := h.max
  have hroom := h.room
  unfold maxLen at hmax
  have Hh := Lib.hid h
  have hlen := h.len
  have Hlen := Lib.hid hlen
  have Hl := Lib.hid hl
  clear h hlen hl
  go_enter Try.func129, Try.ntmps129
  go_wp2_with fail
  go_loopw [3, 4] (fun a3 i wr => ∃ (k : Nat) (v3 : Value) (vs : List Value), k ≤ n ∧ i = .int .i64 k ∧ v3 = a3 ∧ LtC w ls k v3 vs wr) (fun _ i => fun _ => n - (intOf i).toNat)
  case atStart => exact ⟨0, _, [], by omega, rfl, rfl, World.ownsRow_nil _ _ _ _, fun i _ h => absurd h (by omega), Below.refl _ _⟩
  case round =>
    obtain ⟨k, v3, vs, hk, rfl, rfl, hC⟩ := hrel
    by_cases hlt : k < n
    · have hkl : k < ls.length := by have := Hlen.out; omega
      obtain ⟨b0, o0, rfl, hb0, _, hcell0⟩ := Hh.out.at_ (by omega)
      obtain ⟨Ai, ci, hcell, hs⟩ := hcell0 k hlt
      have hgd : ls.getD k [] = ls[k] := by rw [List.getD_eq_getElem?_getD, List.getElem?_eq_getElem hkl]; rfl
      rw [hgd] at hcell hs
      have hfl3 := Hl.out ls[k] (List.getElem_mem _)
      have hce : ∀ s : InC (fun W => Below w.heap.size w W), s.W.cell? ⟨b0, o0 + k, none⟩ = some (.slice Ai (ls[k]).length ci) := fun s => by
        rw [s.ok.cell (p := ⟨b0, o0 + k, none⟩) hb0]; exact hcell
      have hs9 := fun W (hW : Below w.heap.size w W) => (hs.step hW).all
      obtain ⟨p, hp⟩ : ∃ p, ls[k] = p := ⟨_, rfl⟩
      rw [hp] at hce hfl3 hs9
      obtain ⟨m, hm⟩ : ∃ m, p.length = m := ⟨_, rfl⟩
      rw [hm] at hce hfl3 hs9
      have Hp := Lib.hid hp
      have Hm := Lib.hid hm
      have Hs9 := Lib.hid hs9
      clear hp hm hs hcell hcell0 hs9 hgd
      have hC0 : LtC w ls k v3 vs wr.drew := hC.step (Below.refl _ _).drew
      clear hC
      go_wp2_with fail
      refine wp_region_begin (fun W => Below w.heap.size w W) (by kernel_rfl) hC0.bel fun _ => ?_
      generalize wr.drew = W0 at hC0 ⊢
      have hS := hC0.bel
      refine wpAnyH_pre (f := 7) (by kernel_rfl) #[true, true, true, true, true, false, false, false, true, true, true, true, true, false, false, false, false] [(0, true), (1, true), (2, true), (3, true), (4, true), (8, true), (9, true), (10, true), (11, true), (12, true)] _ _ _ (by kernel_rfl) hS ?_
      simp only [List.map_cons, List.map_nil, Array.getD_eq_getD_getElem?, List.getElem?_toArray, List.getElem?_cons_succ, List.getElem?_cons_zero, Option.getD_some]
      refine wpMix_s (fun K hK => ?_)
      go_simp
      refine hK _ ?_
      clear hK K
      refine wpMix_s (fun K hK => ?_)
      go_simp
      refine hK _ ?_
      clear hK K
      refine wpMix_s (fun K hK => ?_)
      go_simp
      refine hK _ ?_
      clear hK K
      refine wpMix_s (fun K hK => ?_)
      go_simp
      refine hK _ ?_
      clear hK K
      refine wpMix_s (fun K hK => ?_)
      go_simp
      refine hK _ ?_
      clear hK K
      refine wpMix_s (fun K hK => ?_)
      go_simp
      refine hK _ ?_
      clear hK K
      refine wpMix_s (fun K hK => ?_)
      go_simp
      refine hK _ ?_
      clear hK K
      refine wpMix_s (fun K hK => ?_)
      go_simp
      refine hK _ ?_
      clear hK K
      refine wpMix_s (fun K hK => ?_)
      go_simp
      refine hK _ ?_
      clear hK K
      refine wpMix_s (fun K hK => ?_)
      go_simp
      refine hK _ ?_
      clear hK K
      refine wpMix_nil ?_
      intro _
      refine wpAnyH_shared (T := Value × Nat) 5 #[true, true, true, true, true, true, true, false, true, true, true, true, true, false, false, false, false] (fun t => [(16, t.1), (17, .slice (some ⟨t.2, 0, none⟩) 1 1)]) (fun t W => Below W0.heap.size W0 W ∧ W.ownsRow W0.heap.size 5 1 t.1 p.length (p.map B) ∧ Sl W (fun b => some b ≠ t.1.ownBlock) (some ⟨t.2, 0, none⟩) 1 1 [0xa5]) ?tail ?head
      case head =>
        intro key
        simp only [List.foldl_cons, List.foldl_nil, Act.put, List.setIfInBounds_toArray, List.set_cons_succ, List.set_cons_zero] at key
        refine wpAnyH_fork (f := 6) (i := 5) (j := 6) (by kernel_rfl) hS ?_ ?_
        · have hS0 := hS
          have hB0 : Below W0.heap.size W0 W0 := Below.refl _ _
          simp only [Array.getD_eq_getD_getElem?, List.getElem?_toArray, List.getElem?_cons_succ, List.getElem?_cons_zero, Option.getD_some]
          obtain ⟨v1, W1, hr1, ho1, hg1⟩ := append_sl (v := .slice none 0 0) (xs := []) (World.ownsRow_nil W0 W0.heap.size _ _) (Hs9.out W0 (hS0.trans (hB0.mono hS0.size))) (by simp; omega) (Nat.le_refl _)
          rw [List.nil_append] at ho1
          have hbb : Below W0.heap.size W0 W1 := ⟨hg1.os, hg1.tape, hg1.output, hg1.size, fun k hk => hg1.block k hk (by simp [Value.ownBlock])⟩
          have hB1 := hB0.trans (hbb.mono hB0.size)
          refine wpMix_run (by kernel_rfl) v1 W1 (run_append_op _ (.tmp 15) 23 rfl _ _ rfl rfl hr1) (hS0.trans (hB1.mono hS0.size)) ?_
          simp only [Act.put]
          refine wpMix_nil ?_
          intro hS1
          show wpAnyH _ _ _ _ _ _ #[true, true, true, true, true, true, false, false, true, true, true, true, true, false, false, false, false] _ _
          refine wpAnyH_pre (f := 5) (by kernel_rfl) #[true, true, true, true, true, true, true, false, true, true, true, true, true, false, false, false, false] [(6, false)] _ _ _ (by kernel_rfl) hS1 ?_
          simp only [List.map_cons, List.map_nil, Array.getD_eq_getD_getElem?, List.getElem?_toArray, List.getElem?_cons_succ, List.getElem?_cons_zero, Option.getD_some]
          have hbz : Below W1.heap.size W1 (W1.alloc (.cells #[.int .u8 165] 5)) := (Below.refl _ _).alloc (Nat.le_refl _) _
          refine wpMix_c (fun K hK => ?_) (hS0.trans (hB1.mono hS0.size))
          go_simp
          refine hK _ _ ?_
          clear hK K
          refine mix_world (fun W => Below W0.heap.size W0 W ∧ W.ownsRow W0.heap.size 5 1 v1 p.length (p.map B) ∧ Sl W (fun b => some b ≠ v1.ownBlock) (some ⟨W1.heap.size, 0, none⟩) 1 1 [0xa5]) ⟨hB1.trans (hbz.mono hB1.size), owns_step ho1 hbz, ?_⟩ (fun _ h => hS0.trans (h.1.mono hS0.size)) ?_
          · exact Sl.weak (X := fun b => b = W1.heap.size) ⟨Bs.new W1 (· = W1.heap.size) 5 ([(0xa5 : UInt8)].map B) rfl, rfl, Nat.le_refl _, (fun h => by cases h), by decide⟩ fun b _ hx e => by have := (ho1.lt b e.symm).2; omega
          intro W2 hF
          refine wpMix_nil ?_
          intro _
          exact key (_, _) _ hF
        · have hS0 := hS
          have hB0 : Below W0.heap.size W0 W0 := Below.refl _ _
          simp only [Array.getD_eq_getD_getElem?, List.getElem?_toArray, List.getElem?_cons_succ, List.getElem?_cons_zero, Option.getD_some]
          have hbz : Below W0.heap.size W0 (W0.alloc (.cells #[.int .u8 165] 5)) := (Below.refl _ _).alloc (Nat.le_refl _) _
          refine wpMix_c (fun K hK => ?_) (hS0.trans (hB0.mono hS0.size))
          go_simp
          refine hK _ _ ?_
          clear hK K
          refine mix_world (fun W => Below W0.heap.size W0 W ∧ Sl W (· < W.heap.size) (some ⟨W0.heap.size, 0, none⟩) 1 1 [0xa5]) ⟨hbz, Sl.weak (X := fun _ => True) ⟨Bs.new W0 (fun _ => True) 5 ([(0xa5 : UInt8)].map B) trivial, rfl, Nat.le_refl _, (fun h => by cases h), by decide⟩ fun _ hb _ => hb⟩ (fun _ h => hS0.trans (h.1.mono hS0.size)) ?_
          rintro W1 ⟨hB1, hz1⟩
          refine wpMix_nil ?_
          intro hS1
          show wpAnyH _ _ _ _ _ _ #[true, true, true, true, true, false, true, false, true, true, true, true, true, false, false, false, false] _ _
          refine wpAnyH_pre (f := 5) (by kernel_rfl) #[true, true, true, true, true, true, true, false, true, true, true, true, true, false, false, false, false] [(5, false)] _ _ _ (by kernel_rfl) hS1 ?_
          simp only [List.map_cons, List.map_nil, Array.getD_eq_getD_getElem?, List.getElem?_toArray, List.getElem?_cons_succ, List.getElem?_cons_zero, Option.getD_some]
          obtain ⟨v1, W2, hr1, ho1, hg1⟩ := append_sl (v := .slice none 0 0) (xs := []) (World.ownsRow_nil W1 W1.heap.size _ _) (Hs9.out W1 (hS0.trans (hB1.mono hS0.size))) (by simp; omega) (Nat.le_refl _)
          rw [List.nil_append] at ho1
          have hbb : Below W1.heap.size W1 W2 := ⟨hg1.os, hg1.tape, hg1.output, hg1.size, fun k hk => hg1.block k hk (by simp [Value.ownBlock])⟩
          have hB2 := hB1.trans (hbb.mono hB1.size)
          refine wpMix_run (by kernel_rfl) v1 W2 (run_append_op _ (.tmp 15) 23 rfl _ _ rfl rfl hr1) (hS0.trans (hB2.mono hS0.size)) ?_
          simp only [Act.put]
          refine wpMix_nil ?_
          intro _
          refine key (_, _) _ ⟨hB2, owns_le ho1 hB1.size, ?_⟩
          exact (hz1.below hbb fun _ _ h => h).weak fun b _ hx e => by have := (ho1.lt b e.symm).1; have : b < W1.heap.size := hx; omega
      case tail =>
        have hS0 := hS
        clear hS
        rintro ⟨v1, g5⟩ W2 ⟨hB2, ho1, hz2⟩
        dsimp only at ho1 hz2
        simp only [List.foldl_cons, List.foldl_nil, Act.put, List.setIfInBounds_toArray, List.set_cons_succ, List.set_cons_zero]
        obtain ⟨v2, W3, hr3, ho3, hg3⟩ := append_sl ho1 hz2 (by rw [Hm.out]; omega) hB2.size
        have hB3 := hB2.grown hg3 hB2.size (fun k hk => (ho1.lt k hk).1)
        obtain ⟨g, c3, cur, rfl, hgb, hown⟩ := Own.of_owns ho3 (by simp)
        have hlb := LentB.of_own (X := (W0.heap.size ≤ ·)) hown hgb
        rw [Hm.out] at hlb
        rw [show (p ++ [(165 : UInt8)]).length = m + 1 by rw [List.length_append, Hm.out]; rfl] at hr3
        have hc3 := hlb.lt
        have hc3m := hlb.sl.max
        unfold maxLen at hc3m
        have hC3 := hC0.step hB3
        have hba : Below W3.heap.size W3 (W3.alloc (.cells #[.slice (some ⟨g, 0, none⟩) m c3] 23)) := (Below.refl _ _).alloc (Nat.le_refl _) _
        have hC4 := hC3.step hba
        obtain ⟨v4, W5, hr5, ho5, hg5, hf5⟩ := append_slv (ty := 22) Try.underlying22 info23b rfl (by decide) hC4.own (SlV.lit (s := 1) W3 (fun _ => True) 23 [.slice (some ⟨g, 0, none⟩) m c3] rfl (by decide) trivial) (by simp [Value.oneCell']) (by unfold maxLen; omega) (by omega) hC4.bel.size
        have hC5 := hC4.app hg5 hf5 ho5 (fun hk' => ⟨g, c3, by rw [Hp.out, Hm.out], by rw [Hp.out, Hm.out]; exact (hlb.weak fun b _ hx => ⟨Nat.le_trans hC0.bel.size hx, fun e => by have := (hC0.own.lt b e.symm).2; have : W0.heap.size ≤ b := hx; omega⟩).step hba⟩)
        have sl1 := fun W => run_slice_high (P := Try.prog) sliceT23 size23 (some ⟨g, 0, none⟩) (m + 1) c3 m (by omega) W
        have Hr3 := Lib.hid hr3
        have Hr5 := Lib.hid hr5
        have hb2S := hC0.bel.trans (hB2.mono hC0.bel.size)
        clear hr3 hr5 ho1 hz2 ho3 hg3 hown hlb ho5 hg5 hf5
        refine wpAnyH_pre (f := 0) (by kernel_rfl) #[true, true, true, true, true, true, true, true, true, true, true, true, true, true, true, true, true] [(7, false), (13, true), (14, false), (15, false), (16, true)] _ _ _ (by kernel_rfl) hb2S ?_
        simp only [List.map_cons, List.map_nil, Array.getD_eq_getD_getElem?, List.getElem?_toArray, List.getElem?_cons_succ, List.getElem?_cons_zero, Option.getD_some]
        refine wpMix_run (by kernel_rfl) _ W3 (run_append_op (.tmp 16) (.tmp 17) 23 rfl _ _ rfl rfl Hr3.out) hC3.bel ?_
        simp only [Act.put]
        refine wpMix_s (fun K hK => ?_)
        go_simp
        refine hK _ ?_
        clear hK K
        refine wpMix_c (fun K hK => ?_) hC3.bel
        go_simp
        refine hK _ _ ⟨hC4.bel, ?_⟩
        clear hK K
        refine wpMix_run (by kernel_rfl) v4 W5 (run_append_op (.tmp 11) (.tmp 25) 22 rfl _ _ rfl rfl Hr5.out) hC5.bel ?_
        simp only [Act.put]
        refine wpMix_s (fun K hK => ?_)
        go_simp
        refine hK _ ?_
        clear hK K
        refine wpMix_nil ?_
        intro _
        refine wpAnyH_end (by kernel_rfl) ?_
        clear sl1
        go_wp2_with fail
        go_roundw
        case rel => exact ⟨k + 1, v4, _, by omega, by go_num, rfl, hC5⟩
        case measure => simp [intOf]; omega
    · obtain rfl : n = k := by omega
      obtain ⟨mk, hmk⟩ : ∃ mk, ((roomL : List UInt8).map B).toArray = mk := ⟨_, rfl⟩
      obtain ⟨wm, hcv, hbm, hBm⟩ := conv_new wr mk roomL 4 rfl hmk.symm
      have hCm := hC.step hBm
      have hba := (Below.refl wm.heap.size wm).alloc (Nat.le_refl _) (.cells #[.slice (some ⟨wr.heap.size, 0, none⟩) 4 4] 23)
      have hC2 := hCm.step hba
      obtain ⟨v4', w3, hr4, ho4, hg4, hf4⟩ := append_slv (ty := 22) Try.underlying22 info23b rfl (by decide) hC2.own (SlV.lit (s := 1) wm (fun _ => True) 23 [.slice (some ⟨wr.heap.size, 0, none⟩) 4 4] rfl (by decide) trivial) (by simp [Value.oneCell']) (by unfold maxLen; omega) (by omega) hC2.bel.size
      have hC3 := hC2.app hg4 hf4 ho4 (fun hk => absurd hk (by have := Hlen.out; omega))
      have hms : Sl w3 (fun b => w.heap.size ≤ b ∧ some b ≠ v3.ownBlock) (some ⟨wr.heap.size, 0, none⟩) 4 4 roomL := by
        refine Sl.grown (X := fun b => w.heap.size ≤ b ∧ some b ≠ v3.ownBlock) (w := wm.alloc (.cells #[.slice (some ⟨wr.heap.size, 0, none⟩) 4 4] 23)) ⟨(hbm.weak fun b hb hx => ⟨?_, fun e => ?_⟩).alloc _, rfl, Nat.le_refl _, (fun h => by cases h), by decide⟩ hg4 fun b _ hx => hx.2
        · have := hC.bel.size; have : wr.heap.size ≤ b := hx; omega
        · have := (hC.own.lt b e.symm).2; have : wr.heap.size ≤ b := hx; omega
      have hvl : vs.length = n := by have := hC.own.1; omega
      obtain ⟨A4, c4, rfl, hs4⟩ := owns_slv hC3.own
      have hLm : Lm w3 (w.heap.size ≤ ·) A4 n c4 ls := by
        refine ⟨⟨vs, wr.heap.size, 4, hs4.weak fun b _ hx => hx.1, hvl, fun i hi => ?_, hms.weak fun b _ hx => hx.1⟩, Hlen.out⟩
        obtain ⟨g, c, h1, h2⟩ := hC3.lents i hi (by have := Hlen.out; omega)
        rw [List.getElem?_append_left (by have := Hlen.out; omega)] at h1
        exact ⟨g, c, h1, h2.weak fun b _ hx => hx.1⟩
      have hbel := hC3.bel
      have hc4 := hs4.room
      have hc4m := hs4.max
      unfold maxLen at hc4m
      have sl1 := fun W => run_slice_high (P := Try.prog) sliceBs sizeBs A4 (n + 1) c4 n (by omega) W
      have Hmk := Lib.hid hmk
      have Hcv := Lib.hid hcv
      have Hr4 := Lib.hid hr4
      clear hmk hcv hbm hBm hba hC2 hr4 ho4 hg4 hf4 hC3 hC hms hs4 hCm hvl
      go_wp2_with (first
        | ((with_reducible show wpList _ _ _ (⟨some 29, .convert _ _ _, _, _, _, _⟩ :: _) _ _); rw [show (#[Value.int .u8 114, Value.int .u8 111, Value.int .u8 111, Value.int .u8 109] : Array Value) = mk from Hmk.out]; refine wpList_run rfl _ wm (run_conv_op 23 23 (.tmp 28) rfl _ rfl Hcv.out) ?_; simp only [Act.put])
        | ((with_reducible show wpList _ _ _ (⟨some 31, .call _, _, _, _, _⟩ :: _) _ _); refine wpList_run rfl _ w3 (run_append_op (.tmp 27) (.tmp 30) 22 rfl _ _ rfl rfl Hr4.out) ?_; simp only [Act.put]))
      go_ret
      exact ⟨A4, c4, rfl, hLm, hbel⟩

set_option maxHeartbeats 4000000 in
set_option maxRecDepth 100000 in
theorem left10_any (ls : List (List UInt8)) (A A2 : Option Addr) (n c c2 : Nat) (w : World) (hm : Lm w (fun _ => True) A n c ls) (h : Es w (fun _ => True) A2 n c2 ls) (hn : n ≤ 2097152) :
    Calls Try.prog 131 #[.slice A n c, .slice A2 n c2] w fun e w' => e = .returned (.bool true) ∧ Below w.heap.size w w' := by
  have hroom := h.room
  have hmax := h.max
  unfold maxLen at hmax
  have hlt1 := hm.lt
  have hmax1 := hm.max
  unfold maxLen at hmax1
  have hlen := h.len
  obtain ⟨vs, r, cr, hs1, hvl, hlents, hrm⟩ := hm.ex
  have hn1 : 0 < n + 1 := Nat.succ_pos n
  obtain ⟨b1, o1, rfl, hb1, -, hcell1⟩ := hs1.at_ hn1 (by decide)
  have hcr := hcell1 n (.slice (some ⟨r, 0, none⟩) 4 cr) (by rw [List.getElem?_append_right (by omega), hvl, Nat.sub_self]; rfl)
  have Hh := Lib.hid h
  have Hlen := Lib.hid hlen
  have Hrm := Lib.hid hrm
  have Hcr := Lib.hid hcr
  have Hvl := Lib.hid hvl
  have sl2 := fun W => run_slice_high (P := Try.prog) sliceBs sizeBs (some ⟨b1, o1, none⟩) n c (n + 1) (by omega) W
  rw [show ((n + 1 : Nat) : Int) = (n : Int) + 1 by omega] at sl2
  have Hsl2 := Lib.hid sl2
  clear h hlen hrm hm hs1 hvl hcr sl2
  go_enter Try.func131, Try.ntmps131
  go_wp2_with fail
  go_loopw [5, 6] (fun i a6 wr => ∃ k : Nat, k ≤ n ∧ i = .int .i64 k ∧ Below w.heap.size w wr) (fun i _ => fun _ => n - (intOf i).toNat)
  case atStart => exact ⟨0, by omega, rfl, Below.refl _ _⟩
  case round =>
    obtain ⟨k, hk, rfl, hW⟩ := hrel
    by_cases hlt : k < n
    · have hkl : k < ls.length := by have := Hlen.out; omega
      obtain ⟨g, cg, g1, g2⟩ := hlents k hkl
      obtain ⟨b2, o2, rfl, hb2, -, hcell2⟩ := Hh.out.at_ (by omega)
      obtain ⟨Ai, ci, hcl, hs⟩ := hcell2 k hlt
      have hgd : ls.getD k [] = ls[k] := by rw [List.getD_eq_getElem?_getD, List.getElem?_eq_getElem hkl]; rfl
      rw [hgd] at hcl hs
      have hc1 := hcell1 k _ (by rw [List.getElem?_append_left (by have := Hvl.out; omega)]; exact g1)
      have e0 := hcl
      rw [← hW.cell (p := ⟨b2, o2 + k, none⟩) hb2] at e0
      have e1 : ∀ s : InC (fun W => Below w.heap.size w W), s.W.cell? ⟨b2, o2 + k, none⟩ = some (.slice Ai (ls[k]).length ci) := fun s => by
        rw [s.ok.cell (p := ⟨b2, o2 + k, none⟩) hb2]; exact hcl
      have e2 : ∀ s : InC (fun W => Below w.heap.size w W), s.W.cell? ⟨b1, o1 + k, none⟩ = some (.slice (some ⟨g, 0, none⟩) (ls[k]).length cg) := fun s => by
        rw [s.ok.cell (p := ⟨b1, o1 + k, none⟩) hb1]; exact hc1
      have e5 : ∀ s : InC (fun W => Below w.heap.size w W), s.W.cell? ⟨g, (ls[k]).length, none⟩ = some (.int .u8 165) := fun s => (g2.step s.ok).mark
      have hsm := fun W (hb : Below w.heap.size w W) => same10_any ls[k] ls[k] (some ⟨g, 0, none⟩) Ai (ls[k]).length cg (ls[k]).length ci W (g2.sl.step hb) (hs.step hb)
      rw [BEq.rfl] at hsm
      have hlt' := g2.lt
      have hcm := g2.sl.max
      unfold maxLen at hcm
      obtain ⟨p, hp⟩ : ∃ p, ls[k] = p := ⟨_, rfl⟩
      rw [hp] at e0 e1 e2 e5 hlt' hsm
      obtain ⟨m, hm⟩ : ∃ m, p.length = m := ⟨_, rfl⟩
      rw [hm] at e0 e1 e2 e5 hlt' hsm
      have Hsm := Lib.hid hsm
      have sl1 := fun W => run_slice_high (P := Try.prog) sliceT23 size23 (some ⟨g, 0, none⟩) m cg (m + 1) (by omega) W
      rw [show ((m + 1 : Nat) : Int) = (m : Int) + 1 by omega] at sl1
      have hw1 : IntKind.i64.wrap ((m : Int) + 1) = (m : Int) + 1 := IntWalk.i64_in _ (by omega)
      have hm1 : (m : Int) < (m : Int) + 1 := by omega
      clear hp hm g1 g2 hcell2 hcl hs hsm hgd hc1
      go_wp2_with fail
      clear e0
      have hS : Below w.heap.size w wr.drew := hW.drew
      refine wp_region_mix (fun W => Below w.heap.size w W) [(0, true), (1, true), (2, true), (3, true), (4, true), (5, true), (6, true), (7, true), (8, false), (9, true), (10, true), (11, true), (12, true), (13, true), (14, true), (15, true), (16, true), (17, true), (18, true), (19, true), (20, true), (21, true), (22, true)] (by kernel_rfl) (by kernel_rfl) hS fun _ => ?_
      simp only [List.map_cons, List.map_nil, Array.getD_eq_getD_getElem?, List.getElem?_toArray, List.getElem?_cons_succ, List.getElem?_cons_zero, Option.getD_some]
      generalize wr.drew = W0 at hS ⊢
      iterate 8 (refine wpMix_s (fun K hK => ?_); go_simp; refine hK _ ?_; clear hK K)
      refine wpMix_c (fun K hK => ?_) hS
      go_simp
      refine (Hsm.out W0 hS).mono ?_
      rintro e W1 ⟨rfl, hww⟩
      obtain rfl := hww.symm
      refine hK _ _ ?_
      clear hK K
      refine ⟨hS, ?_⟩
      iterate 14 (refine wpMix_s (fun K hK => ?_); go_simp; refine hK _ ?_; clear hK K)
      refine wpMix_nil ?_
      intro _
      clear sl1 hw1 e1 e2 e5
      go_wp2_with fail
      refine ⟨⟨k + 1, by omega, by go_num, hS⟩, by simp [intOf]; omega⟩
    · obtain rfl : n = k := by omega
      have hcr : wr.cell? ⟨b1, o1 + n, none⟩ = some (.slice (some ⟨r, 0, none⟩) 4 cr) := by rw [hW.cell (p := ⟨b1, o1 + n, none⟩) hb1]; exact Hcr.out
      have hstr := run_str (Hrm.out.step hW)
      have heq := run_eql_str roomL roomL wr
      rw [BEq.rfl] at heq
      have sl2 := Hsl2.out
      have hw2 : IntKind.i64.wrap ((n : Int) + 1) = (n : Int) + 1 := IntWalk.i64_in _ (by omega)
      have hn3 : (n : Int) < (n : Int) + 1 := by omega
      have g3 : ((bstr roomL).toList == [114, 111, 111, 109]) = true := by rw [ByteArray.toList_eq]; rfl
      clear hlents
      go_wp2_with fail
      go_ret
      exact ⟨rfl, hW⟩
end Go.Proofs.Ytonidnfgneokbaa
