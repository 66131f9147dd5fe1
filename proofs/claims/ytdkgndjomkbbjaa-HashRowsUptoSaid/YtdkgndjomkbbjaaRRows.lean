/- notaryref08.Rows. -/
import Derived.Test.YtdkgndjomkbbjaaRTop
namespace Go.Proofs.Ytdkgndjomkbbjaa
open Go Go.RowKit

/-- rows, in a slice -/
structure HsS (W : World) (X : Nat → Prop) (A : Option Addr) (n c : Nat) (vs : List Value) (rs : List (List (List UInt8))) : Prop where
  out : SlV W X A n c 1 vs
  len : rs.length = n
  ins : ∀ i (h : i < rs.length), ∃ Ai ci, vs[i]? = some (.slice Ai (rs[i]).length ci) ∧ Hs W X Ai (rs[i]).length ci rs[i]
theorem HsS.step {W W' : World} {X : Nat → Prop} {A : Option Addr} {n c : Nat} {vs : List Value} {rs : List (List (List UInt8))} (h : HsS W X A n c vs rs) (hb : Below W.heap.size W W') : HsS W' X A n c vs rs :=
  ⟨h.out.step hb, h.len, fun i hi => let ⟨Ai, ci, h1, h2⟩ := h.ins i hi; ⟨Ai, ci, h1, h2.step hb⟩⟩
theorem HsS.weak {W : World} {X Y : Nat → Prop} {A : Option Addr} {n c : Nat} {vs : List Value} {rs : List (List (List UInt8))} (h : HsS W X A n c vs rs) (hX : ∀ b, b < W.heap.size → X b → Y b) : HsS W Y A n c vs rs :=
  ⟨h.out.weak hX, h.len, fun i hi => let ⟨Ai, ci, h1, h2⟩ := h.ins i hi; ⟨Ai, ci, h1, h2.weak hX⟩⟩
theorem infoHs : (Try.prog.info? 57).map (fun i => (i.zero, i.size, i.bytes)) = some (some (.slice none 0 0), 1, 24) := by kernel_rfl

structure RwC (w : World) (X : Nat → Prop) (pre : List (List (List UInt8))) (v : Value) (k : Nat) (vs : List Value) (A' : Option Addr) (m c' : Nat) (cur : List (List UInt8)) (W : World) : Prop where
  own : W.ownsRow w.heap.size 57 1 v k vs
  ins : ∀ i (h : i < pre.length), ∃ Ai ci, vs[i]? = some (.slice Ai (pre[i]).length ci) ∧ Hs W (fun b => (X b ∨ w.heap.size ≤ b) ∧ some b ≠ v.ownBlock) Ai (pre[i]).length ci pre[i]
  len : pre.length = k
  cur : Hs W (fun b => (X b ∨ w.heap.size ≤ b) ∧ some b ≠ v.ownBlock) A' m c' cur
  bel : Below w.heap.size w W
section
variable {w W W' : World} {X : Nat → Prop} {pre : List (List (List UInt8))} {v v' : Value} {k : Nat} {vs : List Value} {A' : Option Addr} {m c' : Nat} {cur : List (List UInt8)}
theorem RwC.step (h : RwC w X pre v k vs A' m c' cur W) (hb : Below W.heap.size W W') : RwC w X pre v k vs A' m c' cur W' :=
  ⟨owns_step h.own hb, fun i hi => let ⟨Ai, ci, h1, h2⟩ := h.ins i hi; ⟨Ai, ci, h1, h2.step hb⟩, h.len, h.cur.step hb, h.bel.trans (hb.mono h.bel.size)⟩
theorem RwC.app (h : RwC w X pre v k vs A' m c' cur W) (hg : W.grownBy W' v.ownBlock) (hf : v'.ownBlock = v.ownBlock ∨ ∃ k, v'.ownBlock = some k ∧ W.heap.size ≤ k) (hm : m = cur.length)
    (ho : W'.ownsRow w.heap.size 57 1 v' (k + 1) (vs ++ [.slice A' m c'])) : RwC w X (pre ++ [cur]) v' (k + 1) (vs ++ [.slice A' m c']) A' m c' cur W' := by
  have hvl : vs.length = k := by have := h.own.1; omega
  have hgo : ∀ Ai n ci r, Hs W (fun b => (X b ∨ w.heap.size ≤ b) ∧ some b ≠ v.ownBlock) Ai n ci r → Hs W' (fun b => (X b ∨ w.heap.size ≤ b) ∧ some b ≠ v'.ownBlock) Ai n ci r := fun Ai n ci r h2 => by
    refine (h2.weak (Y := fun b => ((X b ∨ w.heap.size ≤ b) ∧ some b ≠ v'.ownBlock) ∧ some b ≠ v.ownBlock) fun b hb hx => ⟨⟨hx.1, ?_⟩, hx.2⟩).grown hg (fun b _ hx => hx.2) |>.weak fun b _ hx => hx.1
    rcases hf with hf | ⟨k, hf, hk⟩
    · rw [hf]; exact hx.2
    · rw [hf]; intro e; cases e; omega
  refine ⟨ho, fun i hi => ?_, by rw [List.length_append, h.len]; rfl, hgo _ _ _ _ h.cur, h.bel.grown hg h.bel.size fun k hk => (h.own.lt k hk).1⟩
  by_cases hik : i < pre.length
  · obtain ⟨Ai, ci, h1, h2⟩ := h.ins i hik
    simp only [List.getElem_append_left hik]
    exact ⟨Ai, ci, by rw [List.getElem?_append_left (by rw [hvl, ← h.len]; exact hik)]; exact h1, hgo _ _ _ _ h2⟩
  · have hil : i = pre.length := by rw [List.length_append, List.length_singleton] at hi; omega
    subst hil
    simp only [List.getElem_append_right (Nat.le_refl _), Nat.sub_self, List.getElem_singleton]
    refine ⟨A', c', by rw [List.getElem?_append_right (by rw [hvl, h.len]; exact Nat.le_refl _), hvl, h.len, Nat.sub_self, hm]; rfl, ?_⟩
    rw [← hm]
    exact hgo _ _ _ _ h.cur
end

set_option maxHeartbeats 2000000 in
set_option maxRecDepth 100000 in
theorem rrows_any (hs : List (List UInt8)) (A : Option Addr) (n c : Nat) (w : World) (X : Nat → Prop) (h : Hs w X A n c hs) (hn : n ≤ 4398046511104) :
    Calls Try.prog 43 #[.slice A n c] w fun e w' => ∃ A' c' vs, e = .returned (.slice A' (rowsL hs).length c') ∧ HsS w' (fun b => X b ∨ w.heap.size ≤ b) A' (rowsL hs).length c' vs (rowsL hs) ∧ Below w.heap.size w w' := by
  have hlen := h.len
  have Hlen := Lib.hid hlen
  have Hh := Lib.hid h
  clear hlen h
  by_cases hn0 : n = 0
  · subst hn0
    have hnil : hs = [] := List.eq_nil_of_length_eq_zero Hlen.out
    subst hnil
    go_enter Try.func43, Try.ntmps43
    go_wp2_with fail
    go_ret
    exact ⟨none, 0, [], rfl, ⟨SlV.empty, rfl, fun i hi => absurd hi (by simp [rowsL_nil])⟩, Below.refl _ _⟩
  · have hd0 : ((n : Int) == 0) = false := by simp; exact hn0
    have hba := (Below.refl w.heap.size w).alloc (Nat.le_refl _) (.cells #[.slice A n c] 57)
    have o1 : (w.alloc (.cells #[.slice A n c] 57)).ownsRow w.heap.size 57 1 (.slice (some ⟨w.heap.size, 0, none⟩) 1 1) 1 [.slice A n c] :=
      World.ownsRow_lit (base := w.heap.size) (e := 57) (size := 1) w #[.slice A n c] 1 (Nat.le_refl _) (by decide) rfl
    have hh1 : Hs (w.alloc (.cells #[.slice A n c] 57)) (fun b => (X b ∨ w.heap.size ≤ b) ∧ some b ≠ (Value.slice (some ⟨w.heap.size, 0, none⟩) 1 1).ownBlock) A n c hs :=
      ((Hh.out.weak (Y := fun b => b < w.heap.size ∧ X b) fun _ hb hx => ⟨hb, hx⟩).alloc _).weak fun b _ hx => ⟨.inl hx.2, fun e => by have := hx.1; simp [Value.ownBlock] at e; omega⟩
    have hC0 : RwC w X [hs] (.slice (some ⟨w.heap.size, 0, none⟩) 1 1) 1 [.slice A n c] A n c hs (w.alloc (.cells #[.slice A n c] 57)) := by
      refine ⟨o1, fun i hi => ?_, rfl, hh1, hba⟩
      obtain rfl : i = 0 := by simpa using hi
      exact ⟨A, c, by show some (Value.slice A n c) = some (Value.slice A hs.length c); rw [Hlen.out], by show Hs _ _ A hs.length c hs; rw [Hlen.out]; exact hh1⟩
    go_enter Try.func43, Try.ntmps43
    go_wp2_with fail
    go_loopw [0, 3] (fun r l wr => ∃ (A' : Option Addr) (m c' k : Nat) (cur : List (List UInt8)) (pre : List (List (List UInt8))) (v : Value) (vs : List Value), r = .slice A' m c' ∧ v = l ∧ 1 ≤ m ∧ m ≤ n ∧ k + m ≤ n + 1 ∧ RwC w X pre v k vs A' m c' cur wr ∧ pre ++ (rowsL cur).drop 1 = rowsL hs) (fun r _ => fun _ => sliceLen r)
    case atStart => exact ⟨A, n, c, 1, hs, [hs], _, _, rfl, rfl, by omega, Nat.le_refl _, by omega, hC0, by obtain ⟨t, ht⟩ := rowsL_len_pos (hs := hs) (by rw [Hlen.out]; omega); rw [ht]; rfl⟩
    case round =>
      clear hC0 o1 hh1 hba
      obtain ⟨A', m, c', k, cur, pre, v, vs, rfl, rfl, hm1, hmn, hkm, hC, hr⟩ := hrel
      have hcl := hC.cur.len
      have hroom := hC.cur.sl.room
      have hmax := hC.cur.sl.max
      unfold maxLen at hmax
      have Hcl := Lib.hid hcl
      have Hr := Lib.hid hr
      clear hcl hr
      by_cases hgt : 1 < m
      · have hpr := rpairs_any cur A' m c' wr (hC.cur.weak fun _ _ _ => trivial) (by omega)
        go_wp2_with fail
        refine hpr.mono ?_
        rintro e w2 ⟨A2, c2, rfl, hs2, hb2⟩
        clear hpr
        have hC2 := hC.step hb2
        have hC3 : RwC w X pre v k vs A2 (m / 2) c2 (pairsL cur) w2 := ⟨hC2.own, hC2.ins, hC2.len, hs2.weak fun b _ hx => ⟨.inr (Nat.le_trans hC.bel.size hx), fun e => by have := (hC.own.lt b e.symm).2; have : wr.heap.size ≤ b := hx; omega⟩, hC2.bel⟩
        have hbA := (Below.refl w2.heap.size w2).alloc (Nat.le_refl _) (.cells #[.slice A2 (m / 2) c2] 57)
        have hC4 := hC3.step hbA
        obtain ⟨v3, w4, hr3, ho3, hg3, hf3⟩ := append_slv (ty := 66) Try.underlying66 infoHs rfl (by decide) hC4.own (SlV.lit (s := 1) w2 (fun _ => True) 57 [.slice A2 (m / 2) c2] rfl (by decide) trivial) (by simp [Value.oneCell']) (by unfold maxLen; omega) (by omega) hC4.bel.size
        have hC5 := hC4.app hg3 hf3 (by rw [length_pairsL, Hcl.out]) ho3
        have Hr3 := Lib.hid hr3
        clear hr3 ho3 hg3 hf3 hC hC2 hC3 hC4
        go_wp2_with ((with_reducible show wpList _ _ _ (⟨some 17, .call _, _, _, _, _⟩ :: _) _ _); refine wpList_run rfl v3 w4 (run_append_op (.tmp 14) (.tmp 16) 66 rfl _ _ rfl rfl Hr3.out) ?_; simp only [Act.put])
        refine ⟨⟨A2, m / 2, c2, k + 1, pairsL cur, pre ++ [pairsL cur], v3, _, rfl, rfl, by omega, by omega, by omega, hC5, ?_⟩, ?_⟩
        · rw [← Hr.out, rowsL_more cur (by rw [Hcl.out]; omega)]
          obtain ⟨t, ht⟩ := rowsL_len_pos (hs := pairsL cur) (by rw [length_pairsL, Hcl.out]; omega)
          rw [ht]; simp
        · simp [sliceLen]; omega
      · obtain rfl : m = 1 := by omega
        have hpre : pre = rowsL hs := by rw [← Hr.out, rowsL_one cur Hcl.out]; simp
        subst hpre
        have hk := hC.len
        subst hk
        obtain ⟨Ao, co, rfl, hso⟩ := owns_slv hC.own
        go_wp2_with fail
        go_ret
        exact ⟨Ao, co, vs, rfl, ⟨hso.weak fun _ _ hx => .inr hx.1, rfl, fun i hi => let ⟨Ai, ci, h1, h2⟩ := hC.ins i hi; ⟨Ai, ci, h1, h2.weak fun _ _ hx => hx.1⟩⟩, hC.bel⟩
end Go.Proofs.Ytdkgndjomkbbjaa
