/- hash.Rows' function. -/
import Derived.Test.YtdkgndjomkbbjaaHRows
namespace Go.Proofs.Ytdkgndjomkbbjaa
open Go Go.RowKit Go.Shelf
attribute [local go_sem] Oper.semAt_some

theorem wpListIn_run {F : Fence} {n : Nat} {P : Program} {w : World} {ops : Array Oper} {rest : List Oper} {o : Oper} {a : Act} {Q : Exit → Act → World → Prop} (hgd : o.guard = none) (hd : ∀ c, o.op ≠ .defer c) (hF : ∀ f, F.fn f) (v : Value) (w' : World)
    (hrun : (execOp a.eval o).run P w = .ok (.value v) w') (h : wpListIn F n P ops Q rest (a.put o.dst v) w') : wpListIn F n P ops Q (o :: rest) a w :=
  wpListIn_plain hgd fun _ hK => by
    unfold Oper.wpIn
    rw [Oper.semAt_eq _ _ _ hd, hrun]
    exact ⟨fun f _ => hF f, hK _ _ h⟩
section
variable {F : Fence} {n : Nat} {P : Program} {b : Frame} {a : Act} {k : List Item} {cs : List Frame} {w : World} {Q : Exit → Act → World → Prop}
theorem stepR_scope {c : Code} : step P (lone (b.atR a (.code (.scope c) :: k)) cs w) = .next (lone (b.atR a (.code c :: .inScope c :: k)) cs w) :=
  step_lone_go (by simp [stepG, stepG.exec, Frame.atR])
theorem stepR_inScope {c : Code} : step P (lone (b.atR a (.inScope c :: k)) cs w) = .next (lone (b.atR a k) cs w) :=
  step_lone_go (by simp [stepG, stepG.exec, Frame.atR])
theorem wpIn_scope_straight {c : Code} (h : c.wpIn F n P (Exit.noGoto Q) a w) : (Code.scope c).wpIn F n P Q a w := by
  intro b k cs hro hb hr
  have h0 : (lone (b.atR a (.code (.scope c) :: k)) cs w).fenced P F := fenced_calm hb hr rfl
  obtain ⟨e, a₁, w₁, hq, harr⟩ := h b (.inScope c :: k) cs hro hb hr
  cases e with
  | normal => exact ⟨.normal, a₁, w₁, hq, .head h0 stepR_scope (StepsIn.trans harr (.one (fenced_calm hb hr rfl) stepR_inScope))⟩
  | exit id =>
    have hx : exitTo id (.inScope c :: k) = exitTo id k := by simp [exitTo]
    exact ⟨.exit id, a₁, w₁, hq, fun k' hk => .head h0 stepR_scope (harr.1 k' (by rw [hx]; exact hk)),
      fun hr' hk => let ⟨k₁, h1, h2⟩ := harr.2 hr' (by rw [hx]; exact hk); ⟨k₁, h1, .head h0 stepR_scope h2⟩⟩
  | goto l => exact hq.elim
  | ret => exact ⟨_, a₁, w₁, hq, fun hr' => let ⟨t, h1⟩ := harr.1 hr'; ⟨t, .head h0 stepR_scope h1⟩, fun hr' => let ⟨k₁, h1⟩ := harr.2 hr'; ⟨k₁, .head h0 stepR_scope h1⟩⟩
  | panic ch => obtain ⟨t, h1⟩ := harr; exact ⟨_, a₁, w₁, hq, t, .head h0 stepR_scope h1⟩
  | outgrown => exact ⟨_, a₁, w₁, hq, harr.imp id (Outgrown.of_steps (StepsIn.steps (.one h0 stepR_scope)))⟩
end
theorem ng_normal {Q : Exit → Act → World → Prop} {a : Act} {w : World} (h : Q .normal a w) : Exit.noGoto Q .normal a w := h
theorem wide_fn : ∀ f, Fence.wide.fn f := fun _ => trivial

/-- what the function tells of a round: its number, the row's slice, the row -/
abbrev RowX := Nat × Value × List (List UInt8)
def rowEnc (x : RowX) : Array Value := #[.int .i64 (x.1 : Int), x.2.1]
def RowY (B : Nat) (hs : List (List UInt8)) (pre : List RowX) (x : RowX) (W : World) : Prop :=
  x.1 = pre.length ∧ (rowsL hs)[pre.length]? = some x.2.2 ∧ H32 x.2.2 ∧ 0 < x.2.2.length ∧ ∃ g c cur, x.2.1 = .slice (some ⟨g, 0, none⟩) x.2.2.length c ∧ B ≤ g ∧ Blk W g 26 cur ∧ x.2.2.length ≤ c ∧ c ≤ maxLen ∧ cur.size = c * 32 ∧ cur.toList.take (x.2.2.length * 32) = hcells x.2.2
/-- what a round may write over: what lay ahead of the loop, the row that it is told -/
def RowM (B : Nat) (x : RowX) (k : Nat) : Prop := k < B ∨ ∃ n c, x.2.1 = .slice (some ⟨k, 0, none⟩) n c

/-- between two rounds: so many rows have come; the next one lies here -/
structure R1C (B : Nat) (A : Option Addr) (n c : Nat) (cur : List (List UInt8)) (W : World) : Prop where
  src : Hs W (B ≤ ·) A n c cur
  big : B ≤ W.heap.size

theorem rowsL_len_pos {hs : List (List UInt8)} (h : 0 < hs.length) : ∃ t, rowsL hs = hs :: t := by
  rcases Nat.lt_or_ge hs.length 2 with h1 | h1
  · exact ⟨[], rowsL_one hs (by omega)⟩
  · exact ⟨_, rowsL_more hs h1⟩

set_option maxHeartbeats 2000000 in
set_option maxRecDepth 100000 in
theorem rows1_seq (hs : List (List UInt8)) (A : Option Addr) (n c g1 : Nat) (w : World) (hbox : Blk w g1 57 #[.slice A n c]) (h : Hs w (fun _ => True) A n c hs) (hn : n ≤ 4398046511104) :
    SeqY Try.prog 73 #[.pointer (some ⟨g1, 0, none⟩)] rowEnc (RowM w.heap.size) (RowY w.heap.size hs) (fun xs => xs.map (·.2.2) = rowsL hs) (fun _ => True) w := by
  intro l J Jx W hW hJ hJx hY h0
  have cb : W.cell? ⟨g1, 0, none⟩ = some (.slice A n c) := by rw [(hbox.below hW hbox.lt).cell]; rfl
  have hs0 := h.below hW fun _ hb _ => hb
  have hJb : ∀ pre X X', J pre X → Below X.heap.size X X' → J pre X' := fun pre X X' hj hb => hJ pre X X' none hj (grown_of_below hb none) (fun r e => by cases e)
  refine callsIn_of_wp Try.func73 rfl trivial ?_ rfl
  simp only [Try.ntmps73, List.size_toArray, List.length_cons, List.length_nil, Nat.reduceAdd, Nat.reduceSub, Array.replicate_succ, Array.replicate_zero, List.push_toArray, List.append_toArray, List.nil_append, List.cons_append]
  refine wpIn_scope_straight ?_
  gi_wp2
  refine wpIn_label ?_
  gi_wp2
  gi_loopw [3, 4] (fun l3 i4 wr => ∃ (A' : Option Addr) (c' : Nat) (cur : List (List UInt8)) (pre : List RowX), i4 = .int .i64 (pre.length : Int) ∧ l3 = .slice A' cur.length c' ∧ J pre wr ∧ Hs wr (fun _ => True) A' cur.length c' cur ∧ cur.length ≤ n ∧ pre.length + cur.length ≤ n ∧ pre.map (·.2.2) ++ rowsL cur = rowsL hs ∧ w.heap.size ≤ wr.heap.size) (fun l3 _ => fun _ => sliceLen l3)
  case atStart =>
    have hlen := h.len
    subst hlen
    exact ⟨A, c, hs, [], rfl, rfl, h0, hs0, Nat.le_refl _, by simp, rfl, hW.size⟩
  case round =>
    clear h0 hs0 cb
    obtain ⟨A', c', cur, pre, rfl, rfl, hj, hcur, hcn, hpc, hrows, hsz⟩ := hrel
    obtain ⟨m, hm⟩ : ∃ m, cur.length = m := ⟨_, rfl⟩
    have hmax := hcur.sl.max
    have hroom := hcur.sl.room
    unfold maxLen at hmax
    rw [hm] at hcur hcn hpc hroom ⊢
    by_cases hpos : 0 < m
    · obtain ⟨t, ht⟩ := rowsL_len_pos (hs := cur) (by omega)
      have hrl : (rowsL hs)[pre.length]? = some cur := by rw [← hrows, ht, List.getElem?_append_right (by simp), List.length_map, Nat.sub_self]; rfl
      have hpr := pairs_any cur A' m c' wr (hcur.weak fun b hb _ => hb) (by omega)
      have Hm := Lib.hid hm
      have Hrl := Lib.hid hrl
      have Hrows := Lib.hid hrows
      have Hpr := Lib.hid hpr
      clear hm ht hrl hrows hpr
      gi_wp2
      refine ⟨trivial, (callsIn_wide.2 Hpr.out).mono ?_⟩
      rintro e w2 ⟨gO, rfl, hgO, hkO, hb2⟩
      have hj2 := hJb _ _ _ hj hb2
      have hcur2 := hcur.step hb2
      obtain ⟨W2, hW2⟩ : ∃ W2, w2.alloc (.cells #[] 26) = W2 := ⟨_, rfl⟩
      have hb2W : Below w2.heap.size w2 W2 := by rw [← hW2]; exact (Below.refl _ _).alloc (Nat.le_refl _) _
      have o2 : W2.ownsRow w2.heap.size 26 32 (.slice (some ⟨w2.heap.size, 0, none⟩) 0 0) 0 [] := by
        rw [← hW2]; exact World.ownsRow_lit (base := w2.heap.size) (e := 26) (size := 32) w2 #[] 0 (Nat.le_refl _) (by decide) rfl
      obtain ⟨v3, w3, hr3, ho3, hg3, -⟩ := append_slv (ty := 57) Try.underlying57 info26z (by simp [Value.cells]) (by decide) o2 (hcur2.step hb2W).sl (oneB _) (by unfold maxLen; omega) (by omega) hb2W.size
      rw [Nat.zero_add, List.nil_append] at ho3
      have hb3 : Below w2.heap.size w2 w3 := hb2W.trans ⟨hg3.os, hg3.tape, hg3.output, hg3.size, fun k hk => hg3.block k (by have := hb2W.size; omega) (by simp [Value.ownBlock]; omega)⟩
      have hj3 := hJb _ _ _ hj2 hb3
      have hkO3 := hkO.below hb3 hkO.lt
      have hlO := hkO.lt
      obtain ⟨g3, c3, cur3, rfl, hg3', hk3, hc3, hm3, hs3, ht3⟩ : ∃ g c cur3, v3 = .slice (some ⟨g, 0, none⟩) m c ∧ w2.heap.size ≤ g ∧ Blk w3 g 26 cur3 ∧ m ≤ c ∧ c ≤ maxLen ∧ cur3.size = c * 32 ∧ cur3.toList.take (m * 32) = hcells cur := by
        rcases ho3.2 with ⟨_, h0⟩ | ⟨g, c, cur3, h1, h2, h3, h4, h5, h6, h7⟩
        · omega
        · exact ⟨g, c, cur3, h1, h2, h3, h4, h5, h6, h7⟩
      obtain ⟨fn, tmps, assign, body, hy, hR⟩ := hY pre (pre.length, .slice (some ⟨g3, 0, none⟩) m c3, cur) w3 hj3
        ⟨rfl, Hrl.out, hcur.all, by rw [Hm.out]; exact hpos, g3, c3, cur3, by rw [Hm.out], by have := hb2.size; omega, hk3, by rw [Hm.out]; exact hc3, hm3, hs3, by rw [Hm.out]; exact ht3⟩
      dsimp only [rowEnc] at hy
      have Hr3 := Lib.hid hr3
      clear hr3 ho3 hg3 o2 ht3 hs3 hm3
      gi_wp2_with ((with_reducible show wpListIn _ _ _ _ _ (⟨some 18, .call _, _, _, _, _⟩ :: _) _ _); refine wpListIn_run rfl (by intro c h; cases h) wide_fn _ w3 (run_append_op (.tmp 16) (.tmp 17) 57 rfl _ _ rfl rfl Hr3.out) ?_; simp only [Act.put])
      refine hR.mono ?_
      rintro e w4 (⟨rfl, hj4, hk4⟩ | ⟨rfl, hjx4⟩)
      · have hkO4 := hk4.blk hkO3 (by
          rintro (h1 | ⟨n', c', h1⟩)
          · have := hb2.size; omega
          · simp only [Value.slice.injEq, Option.some.injEq, Addr.mk.injEq, and_true] at h1
            omega)
        have hsz4 : w.heap.size ≤ w4.heap.size := by have := hk4.size; have := hb3.size; have := hb2.size; omega
        by_cases hm2 : m < 2
        · have hm2' : (m : Int) < 2 := by omega
          have hrl1 := rowsL_one cur (by rw [Hm.out]; omega)
          have Hrl1 := Lib.hid hrl1
          clear hrl1
          gi_wp2
          refine ng_normal ?_
          go_end0
          refine ⟨⟨_, rfl⟩, .inl ⟨_, ?_, hj4⟩⟩
          rw [List.map_append, ← Hrows.out, Hrl1.out]
          rfl
        · have hm2' : (2 : Int) ≤ (m : Int) := by omega
          have hrl2 := rowsL_more cur (by rw [Hm.out]; omega)
          have Hrl2 := Lib.hid hrl2
          clear hrl2
          gi_wp2
          refine ⟨⟨some ⟨gO, 0, none⟩, m / 2, pairsL cur, pre ++ [(pre.length, .slice (some ⟨g3, 0, none⟩) m c3, cur)], by simp, by rw [length_pairsL, Hm.out], hj4, ⟨?_, rfl, pairsL_all cur⟩, by rw [length_pairsL, Hm.out]; omega, by rw [List.length_append, length_pairsL, Hm.out]; simp; omega, ?_, hsz4⟩, ?_⟩
          · exact SlV.of_blk hkO4 (by rw [hcells_len _ (pairsL_all cur)]) (by rw [length_pairsL, Hm.out]; unfold maxLen; omega) trivial |> fun h => by rw [length_pairsL, Hm.out] at h ⊢; exact h
          · rw [List.map_append, List.append_assoc, ← Hrows.out, Hrl2.out]; rfl
          · show m / 2 < m
            omega
      · gi_wp2
        refine ng_normal ?_
        go_end0
        exact ⟨⟨_, rfl⟩, .inr ⟨_, trivial, hjx4⟩⟩
    · have hm0 : m = 0 := by omega
      have hcn0 : cur = [] := List.eq_nil_of_length_eq_zero (by rw [hm]; exact hm0)
      subst hcn0
      have Hrows := Lib.hid hrows
      clear hrows
      gi_wp2
      refine ng_normal ?_
      go_end0
      exact ⟨⟨_, rfl⟩, .inl ⟨pre, by rw [← Hrows.out, rowsL_nil, List.append_nil], hj⟩⟩
end Go.Proofs.Ytdkgndjomkbbjaa
