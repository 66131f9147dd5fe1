/- hash.Rows and the function that it hands back. -/
import Derived.Test.YtfhmjgkcpcnkbaaDoorQf111
import Derived.Test.YtfhmjgkcpcnkbaaDoorQf112
namespace Go.Proofs.YtfhmjgkcpcnkbaaDoor
open Go Go.RowKit Go.Shelf
attribute [local go_sem] Oper.semAt_some

/-- the rows from a row up -/
def rowsF : Nat → List (List UInt8) → List (List (List UInt8))
  | 0, _ => []
  | f + 1, hs => if hs.length = 0 then [] else if hs.length < 2 then [hs] else hs :: rowsF f (pairsL hs)
def rowsL (hs : List (List UInt8)) : List (List (List UInt8)) := rowsF (hs.length + 1) hs
theorem rowsF_enough : ∀ (f g : Nat) (hs : List (List UInt8)), hs.length < f → hs.length < g → rowsF f hs = rowsF g hs
  | 0, _, _, h, _ => by omega
  | _, 0, _, _, h => by omega
  | f + 1, g + 1, hs, h1, h2 => by
    simp only [rowsF]
    split
    · rfl
    · split
      · rfl
      · rw [rowsF_enough f g (pairsL hs) (by rw [length_pairsL]; omega) (by rw [length_pairsL]; omega)]
theorem rowsL_nil : rowsL [] = [] := rfl
theorem rowsL_one (hs : List (List UInt8)) (h : hs.length = 1) : rowsL hs = [hs] := by
  unfold rowsL
  rw [h]
  simp [rowsF, h]
theorem rowsL_more (hs : List (List UInt8)) (h : 2 ≤ hs.length) : rowsL hs = hs :: rowsL (pairsL hs) := by
  unfold rowsL
  rw [rowsF, if_neg (by omega), if_neg (by omega), rowsF_enough hs.length ((pairsL hs).length + 1) (pairsL hs) (by rw [length_pairsL]; omega) (by omega)]

set_option maxHeartbeats 1000000 in
set_option maxRecDepth 100000 in
theorem rows_any (hs : List (List UInt8)) (A : Option Addr) (n c : Nat) (w : World) (h : Hs w (fun _ => True) A n c hs) (hn : n ≤ 4398046511104) :
    Calls Tryd.prog 87 #[.slice A n c] w fun e w' => e = .returned (.func (.func 97) #[] #[.pointer (some ⟨w.heap.size, 0, none⟩)]) ∧ Below w.heap.size w w' ∧ ∃ A' c', Blk w' w.heap.size 36 #[.slice A' n c'] ∧ Hs w' (w.heap.size ≤ ·) A' n c' hs := by
  obtain ⟨W1, hW1⟩ : ∃ W1, (w.alloc (.cells #[.slice A n c] 36)).alloc (.cells #[] 48) = W1 := ⟨_, rfl⟩
  have k1 : Blk W1 w.heap.size 36 #[.slice A n c] := by rw [← hW1]; exact (Blk.new _ _ _).alloc _
  have B1 : Below w.heap.size w W1 := by rw [← hW1]; exact ((Below.refl _ _).alloc (Nat.le_refl _) _).alloc (by simp) _
  have s1 : Hs W1 (fun _ => True) A n c hs := by rw [← hW1]; exact (h.alloc _).alloc _
  have o1 : W1.ownsRow (w.heap.size + 1) 48 32 (.slice (some ⟨w.heap.size + 1, 0, none⟩) 0 0) 0 [] := by
    rw [← hW1]
    have := World.ownsRow_lit (base := w.heap.size + 1) (e := 48) (size := 32) (w.alloc (.cells #[.slice A n c] 36)) #[] 0 (by simp) (by decide) rfl
    rw [World.size_alloc] at this
    exact this
  obtain ⟨v2, w2, hr2, ho2, hg2, -⟩ := append_slv (ty := 36) Tryd.underlying36 info26z (by simp [Value.cells]) (by decide) o1 s1.sl (oneB _) (by have := s1.sl.room; have := s1.sl.max; omega) (by omega) (by rw [← hW1]; simp)
  rw [Nat.zero_add, List.nil_append] at ho2
  obtain ⟨A2, c2, rfl, hs2⟩ := owns_slv ho2
  have hrow : ∀ k, (Value.slice (some ⟨w.heap.size + 1, 0, none⟩) 0 0).ownBlock = some k → w.heap.size + 1 ≤ k := fun k hk => by cases hk; exact Nat.le_refl _
  have k2 := k1.grown hg2 (by simp [Value.ownBlock])
  have B2 := B1.grown hg2 B1.size fun k hk => by have := hrow k hk; omega
  have c2' : w2.cell? ⟨w.heap.size, 0, none⟩ = some (.slice A n c) := by rw [k2.cell]; rfl
  have f2 := k2.frozen 0
  have c1 : W1.cell? ⟨w.heap.size, 0, none⟩ = some (.slice A n c) := by rw [k1.cell]; rfl
  have k3 := k2.set_ 0 (.slice A2 n c2)
  have B3 := B2.setCell (p := ⟨w.heap.size, 0, none⟩) (Nat.le_refl _) (.slice A2 n c2)
  have s3 := (hs2.weak (Y := fun b => w.heap.size < b) fun b _ hx => by have := hx.1; omega).setCell (p := ⟨w.heap.size, 0, none⟩) (.slice A2 n c2) (by simp)
  have Hr2 := Lib.hid hr2
  have HW1 := Lib.hid hW1
  clear hr2 ho2 hg2 hs2 o1 s1 k1 B1 hW1 B2
  go_enter Tryd.func87, Tryd.ntmps87
  go_wp2_with (first
    | ((with_reducible show wpList _ _ _ (⟨some 4, .load _ _, _, _, _, _⟩ :: _) _ _); rw [HW1.out]; refine wpList_run0 rfl (.slice A n c) (by unfold execOp; simp [go_sem, c1]) ?_; simp only [Act.put])
    | ((with_reducible show wpList _ _ _ (⟨some 5, .call _, _, _, _, _⟩ :: _) _ _); refine wpList_run rfl _ w2 (run_append_op (.tmp 3) (.tmp 4) 36 rfl _ _ rfl rfl Hr2.out) ?_; simp only [Act.put]))
  go_ret
  exact ⟨rfl, B3, A2, c2, k3, s3.weak fun b _ hx => by have : w.heap.size < b := hx; omega, h.len, h.all⟩
end Go.Proofs.YtfhmjgkcpcnkbaaDoor
/- hash.Rows' function. -/
namespace Go.Proofs.YtfhmjgkcpcnkbaaDoor
open Go Go.RowKit Go.Shelf
attribute [local go_sem] Oper.semAt_some

theorem wpListIn_run {F : Fence} {n : Nat} {P : Program} {w : World} {ops : Array Oper} {rest : List Oper} {o : Oper} {a : Act} {Q : Exit → Act → World → Prop} (hgd : o.guard = none) (hd : ∀ c, o.op ≠ .defer c) (hF : ∀ f, F.fn f) (v : Value) (w' : World)
    (hrun : (execOp a.eval o).run P w = .ok (.value v) w') (h : wpListIn F n P ops Q rest (a.put o.dst v) w') : wpListIn F n P ops Q (o :: rest) a w :=
  wpListIn_plain hgd fun _ hK => by
    unfold Oper.wpIn
    rw [Oper.semAt_eq _ _ _ hd, hrun]
    exact ⟨fun f _ => hF f, hK _ _ h⟩
section
variable {F : Fence} {n : Nat} {P : Program} {b : Frame} {a : Act} {k : List Item} {cs : List Frame} {w : World} {Q : Exit → Act → World → Prop}
theorem stepR_scope {c : Code} : step P (lone (b.atR a (.code (.scope c) :: k)) cs w) = .next (lone (b.atR a (.code c :: .inScope c :: k)) cs w) :=
  step_lone_go (by simp [stepG, stepG.exec, Frame.atR])
theorem stepR_inScope {c : Code} : step P (lone (b.atR a (.inScope c :: k)) cs w) = .next (lone (b.atR a k) cs w) :=
  step_lone_go (by simp [stepG, stepG.exec, Frame.atR])
theorem wpIn_scope_straight {c : Code} (h : c.wpIn F n P (Exit.noGoto Q) a w) : (Code.scope c).wpIn F n P Q a w := by
  intro b k cs hro hb hr
  have h0 : (lone (b.atR a (.code (.scope c) :: k)) cs w).fenced P F := fenced_calm hb hr rfl
  obtain ⟨e, a₁, w₁, hq, harr⟩ := h b (.inScope c :: k) cs hro hb hr
  cases e with
  | normal => exact ⟨.normal, a₁, w₁, hq, .head h0 stepR_scope (StepsIn.trans harr (.one (fenced_calm hb hr rfl) stepR_inScope))⟩
  | exit id =>
    have hx : exitTo id (.inScope c :: k) = exitTo id k := by simp [exitTo]
    exact ⟨.exit id, a₁, w₁, hq, fun k' hk => .head h0 stepR_scope (harr.1 k' (by rw [hx]; exact hk)),
      fun hr' hk => let ⟨k₁, h1, h2⟩ := harr.2 hr' (by rw [hx]; exact hk); ⟨k₁, h1, .head h0 stepR_scope h2⟩⟩
  | goto l => exact hq.elim
  | ret => exact ⟨_, a₁, w₁, hq, fun hr' => let ⟨t, h1⟩ := harr.1 hr'; ⟨t, .head h0 stepR_scope h1⟩, fun hr' => let ⟨k₁, h1⟩ := harr.2 hr'; ⟨k₁, .head h0 stepR_scope h1⟩⟩
  | panic ch => obtain ⟨t, h1⟩ := harr; exact ⟨_, a₁, w₁, hq, t, .head h0 stepR_scope h1⟩
  | outgrown => exact ⟨_, a₁, w₁, hq, harr.imp id (Outgrown.of_steps (StepsIn.steps (.one h0 stepR_scope)))⟩
end
theorem ng_normal {Q : Exit → Act → World → Prop} {a : Act} {w : World} (h : Q .normal a w) : Exit.noGoto Q .normal a w := h
theorem wide_fn : ∀ f, Fence.wide.fn f := fun _ => trivial

/-- what the function tells of a round: its number, the row's slice, the row -/
abbrev RowX := Nat × Value × List (List UInt8)
def rowEnc (x : RowX) : Array Value := #[.int .i64 (x.1 : Int), x.2.1]
def RowY (B : Nat) (hs : List (List UInt8)) (pre : List RowX) (x : RowX) (W : World) : Prop :=
  x.1 = pre.length ∧ (rowsL hs)[pre.length]? = some x.2.2 ∧ H32 x.2.2 ∧ 0 < x.2.2.length ∧ ∃ g c cur, x.2.1 = .slice (some ⟨g, 0, none⟩) x.2.2.length c ∧ B ≤ g ∧ Blk W g 48 cur ∧ x.2.2.length ≤ c ∧ c ≤ maxLen ∧ cur.size = c * 32 ∧ cur.toList.take (x.2.2.length * 32) = hcells x.2.2
/-- what a round may write over: what lay ahead of the loop, the row that it is told -/
def RowM (B : Nat) (x : RowX) (k : Nat) : Prop := k < B ∨ ∃ n c, x.2.1 = .slice (some ⟨k, 0, none⟩) n c

/-- between two rounds: so many rows have come; the next one lies here -/
structure R1C (B : Nat) (A : Option Addr) (n c : Nat) (cur : List (List UInt8)) (W : World) : Prop where
  src : Hs W (B ≤ ·) A n c cur
  big : B ≤ W.heap.size

theorem rowsL_len_pos {hs : List (List UInt8)} (h : 0 < hs.length) : ∃ t, rowsL hs = hs :: t := by
  rcases Nat.lt_or_ge hs.length 2 with h1 | h1
  · exact ⟨[], rowsL_one hs (by omega)⟩
  · exact ⟨_, rowsL_more hs h1⟩

set_option maxHeartbeats 2000000 in
set_option maxRecDepth 100000 in
theorem rows1_seq (hs : List (List UInt8)) (A : Option Addr) (n c g1 : Nat) (w : World) (hbox : Blk w g1 36 #[.slice A n c]) (h : Hs w (fun _ => True) A n c hs) (hn : n ≤ 4398046511104) :
    SeqY Tryd.prog 97 #[.pointer (some ⟨g1, 0, none⟩)] rowEnc (RowM w.heap.size) (RowY w.heap.size hs) (fun xs => xs.map (·.2.2) = rowsL hs) (fun _ => True) w := by
  intro l J Jx W hW hJ hJx hY h0
  have cb : W.cell? ⟨g1, 0, none⟩ = some (.slice A n c) := by rw [(hbox.below hW hbox.lt).cell]; rfl
  have hs0 := h.below hW fun _ hb _ => hb
  have hJb : ∀ pre X X', J pre X → Below X.heap.size X X' → J pre X' := fun pre X X' hj hb => hJ pre X X' none hj (grown_of_below hb none) (fun r e => by cases e)
  refine callsIn_of_wp Tryd.func97 rfl trivial ?_ rfl
  simp only [Tryd.ntmps97, List.size_toArray, List.length_cons, List.length_nil, Nat.reduceAdd, Nat.reduceSub, Array.replicate_succ, Array.replicate_zero, List.push_toArray, List.append_toArray, List.nil_append, List.cons_append]
  refine wpIn_scope_straight ?_
  gi_wp2
  refine wpIn_label ?_
  gi_wp2
  gi_loopw [3, 4] (fun l3 i4 wr => ∃ (A' : Option Addr) (c' : Nat) (cur : List (List UInt8)) (pre : List RowX), i4 = .int .i64 (pre.length : Int) ∧ l3 = .slice A' cur.length c' ∧ J pre wr ∧ Hs wr (fun _ => True) A' cur.length c' cur ∧ cur.length ≤ n ∧ pre.length + cur.length ≤ n ∧ pre.map (·.2.2) ++ rowsL cur = rowsL hs ∧ w.heap.size ≤ wr.heap.size) (fun l3 _ => fun _ => sliceLen l3)
  case atStart =>
    have hlen := h.len
    subst hlen
    exact ⟨A, c, hs, [], rfl, rfl, h0, hs0, Nat.le_refl _, by simp, rfl, hW.size⟩
  case round =>
    clear h0 hs0 cb
    obtain ⟨A', c', cur, pre, rfl, rfl, hj, hcur, hcn, hpc, hrows, hsz⟩ := hrel
    obtain ⟨m, hm⟩ : ∃ m, cur.length = m := ⟨_, rfl⟩
    have hmax := hcur.sl.max
    have hroom := hcur.sl.room
    unfold maxLen at hmax
    rw [hm] at hcur hcn hpc hroom ⊢
    by_cases hpos : 0 < m
    · obtain ⟨t, ht⟩ := rowsL_len_pos (hs := cur) (by omega)
      have hrl : (rowsL hs)[pre.length]? = some cur := by rw [← hrows, ht, List.getElem?_append_right (by simp), List.length_map, Nat.sub_self]; rfl
      have hpr := pairs_any cur A' m c' wr (hcur.weak fun b hb _ => hb) (by omega)
      have Hm := Lib.hid hm
      have Hrl := Lib.hid hrl
      have Hrows := Lib.hid hrows
      have Hpr := Lib.hid hpr
      clear hm ht hrl hrows hpr
      gi_wp2
      refine ⟨trivial, (callsIn_wide.2 Hpr.out).mono ?_⟩
      rintro e w2 ⟨gO, rfl, hgO, hkO, hb2⟩
      have hj2 := hJb _ _ _ hj hb2
      have hcur2 := hcur.step hb2
      obtain ⟨W2, hW2⟩ : ∃ W2, w2.alloc (.cells #[] 48) = W2 := ⟨_, rfl⟩
      have hb2W : Below w2.heap.size w2 W2 := by rw [← hW2]; exact (Below.refl _ _).alloc (Nat.le_refl _) _
      have o2 : W2.ownsRow w2.heap.size 48 32 (.slice (some ⟨w2.heap.size, 0, none⟩) 0 0) 0 [] := by
        rw [← hW2]; exact World.ownsRow_lit (base := w2.heap.size) (e := 48) (size := 32) w2 #[] 0 (Nat.le_refl _) (by decide) rfl
      obtain ⟨v3, w3, hr3, ho3, hg3, -⟩ := append_slv (ty := 36) Tryd.underlying36 info26z (by simp [Value.cells]) (by decide) o2 (hcur2.step hb2W).sl (oneB _) (by unfold maxLen; omega) (by omega) hb2W.size
      rw [Nat.zero_add, List.nil_append] at ho3
      have hb3 : Below w2.heap.size w2 w3 := hb2W.trans ⟨hg3.os, hg3.tape, hg3.output, hg3.size, fun k hk => hg3.block k (by have := hb2W.size; omega) (by simp [Value.ownBlock]; omega)⟩
      have hj3 := hJb _ _ _ hj2 hb3
      have hkO3 := hkO.below hb3 hkO.lt
      have hlO := hkO.lt
      obtain ⟨g3, c3, cur3, rfl, hg3', hk3, hc3, hm3, hs3, ht3⟩ : ∃ g c cur3, v3 = .slice (some ⟨g, 0, none⟩) m c ∧ w2.heap.size ≤ g ∧ Blk w3 g 48 cur3 ∧ m ≤ c ∧ c ≤ maxLen ∧ cur3.size = c * 32 ∧ cur3.toList.take (m * 32) = hcells cur := by
        rcases ho3.2 with ⟨_, h0⟩ | ⟨g, c, cur3, h1, h2, h3, h4, h5, h6, h7⟩
        · omega
        · exact ⟨g, c, cur3, h1, h2, h3, h4, h5, h6, h7⟩
      obtain ⟨fn, tmps, assign, body, hy, hR⟩ := hY pre (pre.length, .slice (some ⟨g3, 0, none⟩) m c3, cur) w3 hj3
        ⟨rfl, Hrl.out, hcur.all, by rw [Hm.out]; exact hpos, g3, c3, cur3, by rw [Hm.out], by have := hb2.size; omega, hk3, by rw [Hm.out]; exact hc3, hm3, hs3, by rw [Hm.out]; exact ht3⟩
      dsimp only [rowEnc] at hy
      have Hr3 := Lib.hid hr3
      clear hr3 ho3 hg3 o2 ht3 hs3 hm3
      gi_wp2_with ((with_reducible show wpListIn _ _ _ _ _ (⟨some 18, .call _, _, _, _, _⟩ :: _) _ _); refine wpListIn_run rfl (by intro c h; cases h) wide_fn _ w3 (run_append_op (.tmp 16) (.tmp 17) 36 rfl _ _ rfl rfl Hr3.out) ?_; simp only [Act.put])
      refine hR.mono ?_
      rintro e w4 (⟨rfl, hj4, hk4⟩ | ⟨rfl, hjx4⟩)
      · have hkO4 := hk4.blk hkO3 (by
          rintro (h1 | ⟨n', c', h1⟩)
          · have := hb2.size; omega
          · simp only [Value.slice.injEq, Option.some.injEq, Addr.mk.injEq, and_true] at h1
            omega)
        have hsz4 : w.heap.size ≤ w4.heap.size := by have := hk4.size; have := hb3.size; have := hb2.size; omega
        by_cases hm2 : m < 2
        · have hm2' : (m : Int) < 2 := by omega
          have hrl1 := rowsL_one cur (by rw [Hm.out]; omega)
          have Hrl1 := Lib.hid hrl1
          clear hrl1
          gi_wp2
          refine ng_normal ?_
          go_end0
          refine ⟨⟨_, rfl⟩, .inl ⟨_, ?_, hj4⟩⟩
          rw [List.map_append, ← Hrows.out, Hrl1.out]
          rfl
        · have hm2' : (2 : Int) ≤ (m : Int) := by omega
          have hrl2 := rowsL_more cur (by rw [Hm.out]; omega)
          have Hrl2 := Lib.hid hrl2
          clear hrl2
          gi_wp2
          refine ⟨⟨some ⟨gO, 0, none⟩, m / 2, pairsL cur, pre ++ [(pre.length, .slice (some ⟨g3, 0, none⟩) m c3, cur)], by simp, by rw [length_pairsL, Hm.out], hj4, ⟨?_, rfl, pairsL_all cur⟩, by rw [length_pairsL, Hm.out]; omega, by rw [List.length_append, length_pairsL, Hm.out]; simp; omega, ?_, hsz4⟩, ?_⟩
          · exact SlV.of_blk hkO4 (by rw [hcells_len _ (pairsL_all cur)]) (by rw [length_pairsL, Hm.out]; unfold maxLen; omega) trivial |> fun h => by rw [length_pairsL, Hm.out] at h ⊢; exact h
          · rw [List.map_append, List.append_assoc, ← Hrows.out, Hrl2.out]; rfl
          · show m / 2 < m
            omega
      · gi_wp2
        refine ng_normal ?_
        go_end0
        exact ⟨⟨_, rfl⟩, .inr ⟨_, trivial, hjx4⟩⟩
    · have hm0 : m = 0 := by omega
      have hcn0 : cur = [] := List.eq_nil_of_length_eq_zero (by rw [hm]; exact hm0)
      subst hcn0
      have Hrows := Lib.hid hrows
      clear hrows
      gi_wp2
      refine ng_normal ?_
      go_end0
      exact ⟨⟨_, rfl⟩, .inl ⟨pre, by rw [← Hrows.out, rowsL_nil, List.append_nil], hj⟩⟩
end Go.Proofs.YtfhmjgkcpcnkbaaDoor
/- hash.Top. -/
namespace Go.Proofs.YtfhmjgkcpcnkbaaDoor
open Go Go.RowKit Go.Shelf
attribute [local go_sem] Oper.semAt_some

/-- a power of two -/
def pow2 (n : Nat) : Bool := n != 0 && n &&& (n - 1) == 0
/-- the topmost of rows' first hash -/
def lastHead (rows : List (List (List UInt8))) : List UInt8 := (rows.getLast?.getD []).getD 0 (List.replicate 32 0)
def topL (hs : List (List UInt8)) : List UInt8 := lastHead (rowsL hs)
def topR (hs : List (List UInt8)) : List UInt8 × Int := if pow2 hs.length then (topL hs, 0) else (List.replicate 32 0, 2)
theorem lastHead_nil : lastHead [] = List.replicate 32 0 := rfl
theorem lastHead_snoc (pre : List (List (List UInt8))) (l : List (List UInt8)) : lastHead (pre ++ [l]) = l.getD 0 (List.replicate 32 0) := by simp [lastHead]

theorem i64_and_nat (a b : Nat) (ha : a < 9223372036854775808) (hb : b < 9223372036854775808) : bits .and .i64 (a : Int) (b : Int) = ((a &&& b : Nat) : Int) := by
  have h1 : a &&& b < 9223372036854775808 := Nat.lt_of_le_of_lt Nat.and_le_left ha
  show IntKind.i64.wrap ((BitVec.ofInt 64 (a : Int) &&& BitVec.ofInt 64 (b : Int)).toNat : Int) = _
  rw [BitVec.toNat_and, ofInt_u64 a (by omega), ofInt_u64 b (by omega), IntKind.wrap_i64]
  omega
theorem wpListIn_store_blk {F : Fence} {n : Nat} {P : Program} {w : World} {ops : Array Oper} {rest : List Oper} {o : Oper} {a : Act} {Q : Exit → Act → World → Prop} (hgd : o.guard = none) (hF : ∀ f, F.fn f) (ty : TypeId) (x y : Operand) (ho : o.op = .store ty x y)
    (N : Nat) (hsz : ∀ w : World, (sizeOf ty).run P w = .ok N w) (g : Nat) (vs : Array Value) (hx : a.eval x = .pointer (some ⟨g, 0, none⟩)) (hy : a.eval y = .agg vs) (hv : vs.size = N) (h1 : ∀ v ∈ vs.toList, v.oneCell' = true)
    (t : TypeId) (cur : Array Value) (hg : Blk w g t cur) (hc : cur.size = N) (h : wpListIn F n P ops Q rest (a.put o.dst undef) (w.setRow g vs)) : wpListIn F n P ops Q (o :: rest) a w :=
  wpListIn_plain hgd fun _ hK => by
    unfold Oper.wpIn
    rw [Oper.semAt_eq _ _ _ (by rw [ho]; intro c hc; cases hc)]
    unfold execOp
    simp only [ho, hx, hy, run_store_blk (P := P) (hsz w) g vs cur hv h1 hg hc, Sem.run_bind, Sem.run_pure, Result.andThen_ok]
    exact ⟨fun f _ => hF f, hK _ _ h⟩

theorem tuple_cell {fn : Func} {p u : Tmp} {ty t : TypeId} {P : Program} (h : fn.results = #[.cell p ty, .tmp u]) (tmps : Array Value) (w : World) (g : Nat) (cs : Array Value) (N : Nat) (el : TypeId)
    (hp : tmps.getD p undef = .pointer (some ⟨g, 0, none⟩)) (hg : Blk w g t cs) (hu : P.underlying ty = some (.array N el)) (hi : (P.info? ty).map (·.size) = some cs.size) :
    (results fn tmps).run P w = .ok (.tuple #[.agg cs, tmps.getD u undef]) w := by
  rw [results_cell_tmp h, hp]
  show ((loadVar ty ⟨g, 0, none⟩).run P w).andThen (fun v w₂ => Result.ok (Value.tuple #[v, tmps.getD u undef]) w₂) = _
  rw [run_loadVar_row w g t ty cs (0, 0) _ hg hu rfl hi]
  rfl

set_option maxHeartbeats 2000000 in
set_option maxRecDepth 100000 in
theorem top_bad (A : Option Addr) (n c : Nat) (w : World) (hp : pow2 n = false) (hn : n ≤ 4398046511104) :
    Calls Tryd.prog 70 #[.slice A n c] w fun e w' => e = .returned (.tuple #[.agg ((List.replicate 32 (0 : UInt8)).map B).toArray, .int .i64 2]) ∧ Below w.heap.size w w' := by
  obtain ⟨zs, hzs⟩ : ∃ zs, zeroHash = zs := ⟨_, rfl⟩
  have hzl : zs.size = 32 := by rw [← hzs]; rfl
  have hzm : ((List.replicate 32 (0 : UInt8)).map B).toArray = zs := hzs
  have hz1 : ∀ v ∈ zs.toList, v.oneCell' = true := by rw [← hzs]; exact oneCell_B _
  rw [hzm]
  have k0 := Blk.new w 48 zs
  have hb0 := (Below.refl w.heap.size w).alloc (Nat.le_refl _) (.cells zs 48)
  have Hzs := Lib.hid hzs
  have Hzl := Lib.hid hzl
  have Hz1 := Lib.hid hz1
  clear hzs hzl hz1 hzm
  by_cases h0 : n = 0
  · subst h0
    go_enter Tryd.func70, Tryd.ntmps70
    go_wp2_with (first
      | ((with_reducible show wpList _ _ _ (⟨some 2, .alloc _, _, _, _, _⟩ :: _) _ _); refine wpList_run rfl (.pointer (some ⟨w.heap.size, 0, none⟩)) (w.alloc (.cells zs 48)) (by rw [← Hzs.out]; rfl) ?_; simp only [Act.put])
      | ((with_reducible show wpList _ _ _ (⟨some 19, .build _ _, _, _, _, _⟩ :: _) _ _); refine wpList_run0 rfl (.agg zs) (by rw [← Hzs.out]; kernel_rfl) ?_; simp only [Act.put])
      | ((with_reducible show wpList _ _ _ (⟨none, .store _ _ _, _, _, _, _⟩ :: _) _ _); refine wpList_store_blk rfl 48 (.tmp 2) (.tmp 19) rfl 32 size26 w.heap.size zs rfl rfl Hzl.out Hz1.out 48 _ k0 Hzl.out ?_; simp only [Act.put]))
    refine bodyPost_ret (tuple_cell rfl _ _ w.heap.size zs _ _ rfl (k0.setRow_ _) Tryd.underlying48 (by rw [Hzl.out]; exact info26)) rfl ⟨rfl, ?_⟩
    exact below_setRow hb0 (Nat.le_refl _) _
  · have hb : n &&& (n - 1) ≠ 0 := by simpa [pow2, h0] using hp
    have e1 : bits .and .i64 (n : Int) ((n : Int) - 1) = ((n &&& (n - 1) : Nat) : Int) := by
      rw [show (n : Int) - 1 = ((n - 1 : Nat) : Int) by omega]
      exact i64_and_nat _ _ (by omega) (by omega)
    have e2 : IntKind.i64.wrap ((n : Int) - 1) = (n : Int) - 1 := by rw [IntKind.wrap_i64]; omega
    generalize n &&& (n - 1) = m at hb e1
    have hd0 : ((n : Int) == 0) = false := by simp; exact h0
    have hdm : ((m : Int) == 0) = false := by simp; exact hb
    go_enter Tryd.func70, Tryd.ntmps70
    go_wp2_with (first
      | ((with_reducible show wpList _ _ _ (⟨some 2, .alloc _, _, _, _, _⟩ :: _) _ _); refine wpList_run rfl (.pointer (some ⟨w.heap.size, 0, none⟩)) (w.alloc (.cells zs 48)) (by rw [← Hzs.out]; rfl) ?_; simp only [Act.put])
      | ((with_reducible show wpList _ _ _ (⟨some 19, .build _ _, _, _, _, _⟩ :: _) _ _); refine wpList_run0 rfl (.agg zs) (by rw [← Hzs.out]; kernel_rfl) ?_; simp only [Act.put])
      | ((with_reducible show wpList _ _ _ (⟨none, .store _ _ _, _, _, _, _⟩ :: _) _ _); refine wpList_store_blk rfl 48 (.tmp 2) (.tmp 19) rfl 32 size26 w.heap.size zs rfl rfl Hzl.out Hz1.out 48 _ k0 Hzl.out ?_; simp only [Act.put]))
    refine bodyPost_ret (tuple_cell rfl _ _ w.heap.size zs _ _ rfl (k0.setRow_ _) Tryd.underlying48 (by rw [Hzl.out]; exact info26)) rfl ⟨rfl, ?_⟩
    exact below_setRow hb0 (Nat.le_refl _) _

theorem KeepC.setRow {M : Nat → Prop} (W : World) (g : Nat) (cs : Array Value) (hg : M g) : KeepC M W (W.setRow g cs) :=
  ⟨by simp, by simp, by simp, by simp, fun k o hk _ hm => by rw [setRow_other W g k cs (fun e => hm (e ▸ hg))]; exact hk⟩
theorem grownBy_setRow' (W : World) (g : Nat) (cs : Array Value) : W.grownBy (W.setRow g cs) (some g) := grown_setRow ⟨rfl, rfl, rfl, Nat.le_refl _, fun _ _ _ => rfl⟩ cs
theorem rowY_own (B : Nat) (hs : List (List UInt8)) (pre : List RowX) (x : RowX) : OwnFrom B (fun (_ : Unit) W => RowY B hs pre x W) := by
  rintro s W W' row ⟨h1, h2, h3, h4, g, c, cur, h5, h6, h7, h8⟩ hg hr
  exact ⟨h1, h2, h3, h4, g, c, cur, h5, h6, h7.grown hg (fun e => by obtain ⟨-, o, ho, hc⟩ := hr g e.symm; rw [show W.heap[g]? = _ from h7] at ho; cases ho; cases hc), h8⟩
theorem blk_own {β : Type} (B g : Nat) (t : TypeId) (f : β → Array Value) : OwnFrom B (fun (s : β) W => Blk W g t (f s)) := by
  intro s W W' row h hg hr
  exact h.grown hg (fun e => by obtain ⟨-, o, ho, hc⟩ := hr g e.symm; rw [show W.heap[g]? = _ from h] at ho; cases ho; cases hc)
theorem false_own {β : Type} (B : Nat) : OwnFrom B (fun (_ : β) (_ : World) => False) := fun _ _ _ _ h _ _ => h
theorem length_lastHead (rows : List (List (List UInt8))) (h : ∀ l ∈ rows, H32 l) : (lastHead rows).length = 32 := by
  unfold lastHead
  rw [List.getD_eq_getElem?_getD]
  cases e : (rows.getLast?.getD [])[0]? with
  | none => simp
  | some x =>
    obtain ⟨l, hl⟩ : ∃ l, rows.getLast? = some l := by
      cases e2 : rows.getLast? with
      | none => rw [e2] at e; simp at e
      | some l => exact ⟨l, rfl⟩
    rw [hl] at e
    exact h l (List.mem_of_getLast? hl) x (List.mem_of_getElem? e)

set_option maxHeartbeats 2000000 in
set_option maxRecDepth 100000 in
theorem top_ok (hs : List (List UInt8)) (A : Option Addr) (n c : Nat) (w : World) (h : Hs w (fun _ => True) A n c hs) (hp : pow2 n = true) (hn : n ≤ 4398046511104) :
    Calls Tryd.prog 70 #[.slice A n c] w fun e w' => e = .returned (.tuple #[.agg ((topL hs).map B).toArray, .int .i64 0]) ∧ Below w.heap.size w w' := by
  obtain ⟨q, hq0⟩ : ∃ q, topL hs = q := ⟨_, rfl⟩
  rw [hq0]
  have Hq0 := Lib.hid hq0
  clear hq0
  obtain ⟨zs, hzs⟩ : ∃ zs, zeroHash = zs := ⟨_, rfl⟩
  have hzl : zs.size = 32 := by rw [← hzs]; rfl
  have hzm : ((List.replicate 32 (0 : UInt8)).map B).toArray = zs := hzs
  have h0 : n ≠ 0 := by intro e; subst e; simp [pow2] at hp
  have hb : n &&& (n - 1) = 0 := by simpa [pow2, h0] using hp
  have e1 : bits .and .i64 (n : Int) ((n : Int) - 1) = 0 := by
    rw [show (n : Int) - 1 = ((n - 1 : Nat) : Int) by omega, i64_and_nat _ _ (by omega) (by omega), hb]
    rfl
  have e2 : IntKind.i64.wrap ((n : Int) - 1) = (n : Int) - 1 := by rw [IntKind.wrap_i64]; omega
  have hd0 : ((n : Int) == 0) = false := by simp; exact h0
  obtain ⟨w1, hw1⟩ : ∃ w1, w.alloc (.cells zs 48) = w1 := ⟨_, rfl⟩
  obtain ⟨w2, hw2⟩ : ∃ w2, w1.alloc (.cells zs 48) = w2 := ⟨_, rfl⟩
  have hs1 : w1.heap.size = w.heap.size + 1 := by rw [← hw1]; simp
  have hs2 : w2.heap.size = w.heap.size + 1 + 1 := by rw [← hw2]; simp [hs1]
  have k1 : Blk w2 w.heap.size 48 zs := by rw [← hw2, ← hw1]; exact (Blk.new _ _ _).alloc _
  have k2 : Blk w2 (w.heap.size + 1) 48 zs := by rw [← hw2]; exact Blk.new' _ _ _ _ hs1.symm
  have B2 : Below w.heap.size w w2 := by rw [← hw2, ← hw1]; exact ((Below.refl _ _).alloc (Nat.le_refl _) _).alloc (by simp) _
  have h2 : Hs w2 (fun _ => True) A n c hs := by rw [← hw2, ← hw1]; exact (h.alloc _).alloc _
  have hr := rows_any hs A n c w2 h2 hn
  have Hr := Lib.hid hr
  have Hzs := Lib.hid hzs
  have Hzl := Lib.hid hzl
  have Hzm := Lib.hid hzm
  have Hw1 := Lib.hid hw1
  have Hw2 := Lib.hid hw2
  have Hs1 := Lib.hid hs1
  have Hs2 := Lib.hid hs2
  clear hr hzs hzl hzm hw1 hw2 hs1 hs2 hb
  refine (callsIn_wide (n := 5)).1 ?_
  refine callsIn_of_wp_marks Tryd.func70 rfl trivial ?_ rfl
  simp only [Tryd.ntmps70, List.size_toArray, List.length_cons, List.length_nil, Nat.reduceAdd, Nat.reduceSub, Array.replicate_succ, Array.replicate_zero, List.push_toArray, List.append_toArray, List.nil_append, List.cons_append]
  gi_wp2_with (first
    | ((with_reducible show wpListIn _ _ _ _ _ (⟨some 2, .alloc _, _, _, _, _⟩ :: _) _ _); refine wpListIn_run rfl (by intro c h; cases h) wide_fn (.pointer (some ⟨w.heap.size, 0, none⟩)) w1 (by rw [← Hzs.out] at Hw1; rw [← Hw1.out]; rfl) ?_; simp only [Act.put])
    | ((with_reducible show wpListIn _ _ _ _ _ (⟨some 5, .alloc _, _, _, _, _⟩ :: _) _ _); refine wpListIn_run rfl (by intro c h; cases h) wide_fn (.pointer (some ⟨w.heap.size + 1, 0, none⟩)) w2 (by rw [← Hzs.out] at Hw2; rw [← Hw2.out, ← Hs1.out]; rfl) ?_; simp only [Act.put]))
  refine ⟨trivial, (callsIn_wide.2 Hr.out).mono ?_⟩
  rintro e w3 ⟨rfl, hb3, A3, c3, kb3, hs3⟩
  gi_wp2
  have B3 := B2.trans (hb3.mono B2.size)
  have k1' := k1.below hb3 k1.lt
  have k2' := k2.below hb3 k2.lt
  have hlt3 := kb3.lt
  refine wpIn_range_Y (gf := 97) (lb := #[.pointer (some ⟨w2.heap.size, 0, none⟩)]) rfl (enters_of Tryd.func97 (by kernel_rfl) rfl) (rows1_seq hs A3 n c3 w2.heap.size w3 kb3 (hs3.weak fun _ _ _ => trivial) hn) (fun _ => rfl) (rowY_own w3.heap.size hs)
    (fun pre W => Blk W (w.heap.size + 1) 48 ((lastHead (pre.map (·.2.2))).map B).toArray ∧ Blk W w.heap.size 48 zs ∧ Below w.heap.size w W ∧ ∀ l ∈ pre.map (·.2.2), H32 l)
    (fun _ _ _ => False)
    (OwnFrom.and (blk_own _ _ _ _) (OwnFrom.and (blk_own _ _ _ _) (OwnFrom.and (ownFrom_below (Nat.le_refl _) B3.size) (ownFrom_pure _ _))))
    (fun _ => false_own _)
    ⟨by rw [List.map_nil, lastHead_nil, Hzm.out]; exact k2', k1', B3, by simp⟩
    (fun x => { tmps := #[.slice A n c, undef, .pointer (some ⟨w.heap.size, 0, none⟩), .int .i64 0, .int .i64 n, .pointer (some ⟨w.heap.size + 1, 0, none⟩), undef, x.2.1, .slice A n c, .int .i64 n, .int .i64 n, .bool false, .bool false, .int .i64 n, .int .i64 n, .int .i64 ((n : Int) - 1), .int .i64 0, .bool false, .bool false, undef, .slice A n c, .func (.func 97) #[] #[.pointer (some ⟨w2.heap.size, 0, none⟩)], .int .i64 (x.1 : Int), x.2.1, undef, undef, undef, undef], defers := [] }) ?assign ?body ?done ?stop
  case assign =>
    rintro l ⟨i, v, r⟩ W K hK
    dsimp only [rowEnc]
    gi_wp2
    exact hK
  case body =>
    rintro l pre ⟨i, v, r⟩ W hl ⟨kt, kz, hB, hall⟩ ⟨hi, hrow, hr32, hrpos, g, c', cur, hv, hBg, hkg, hc', hm', hcs, hct⟩
    obtain ⟨q, hq⟩ : ∃ q, lastHead ((pre ++ [(i, v, r)]).map (·.2.2)) = q := ⟨_, rfl⟩
    have hq0 : q = r.getD 0 (List.replicate 32 0) := by rw [← hq, List.map_append]; exact lastHead_snoc _ _
    have hall' : ∀ l ∈ (pre ++ [(i, v, r)]).map (·.2.2), H32 l := by
      intro l hl
      rw [List.map_append, List.mem_append] at hl
      rcases hl with hl | hl
      · exact hall l hl
      · simp only [List.map_cons, List.map_nil, List.mem_singleton] at hl; subst hl; exact hr32
    have hql : q.length = 32 := by rw [← hq]; exact length_lastHead _ hall'
    have hqs : (lastHead (pre.map (·.2.2))).length = 32 := length_lastHead _ hall
    have hld : (Instr.loadAt 48 (.pointer (some ⟨g, 0, none⟩))).run Tryd.prog W = .ok (.agg (q.map B).toArray) W := by
      refine run_load_agg (agg26 _) (size26 _) g 0 _ (by rw [List.length_map, hql]) fun j u hu => ?_
      rw [Nat.zero_add, hkg.cell]
      have hj : j < 32 := by have := (List.getElem?_eq_some_iff.1 hu).1; rwa [List.length_map, hql] at this
      have e : (hcells r)[j]? = some u := by
        have := hcells_get r hr32 0 hrpos j u (by
          rw [← hu, hq0]
          congr 2
          rw [List.getD_eq_getElem?_getD, List.getD_eq_getElem?_getD, List.getElem?_eq_getElem hrpos]
          rfl)
        rwa [Nat.zero_mul, Nat.zero_add] at this
      rw [← hct, List.getElem?_take_of_lt (by omega)] at e
      rw [← Array.getElem?_toList]
      exact e
    dsimp only at hv
    subst hv
    clear hq0
    have Hq := Lib.hid hq
    have Hql := Lib.hid hql
    have Hqs := Lib.hid hqs
    have Hld := Lib.hid hld
    have hrl : 0 < r.length := hrpos
    have hrm : r.length ≤ 9223372036854775807 := by unfold maxLen at hm'; dsimp only at hc'; omega
    clear hq hql hqs hld hct hrow hi
    dsimp only at hc' hrpos
    gi_wp2_with (first
      | ((with_reducible show wpListIn _ _ _ _ _ (⟨some 26, .load _ _, _, _, _, _⟩ :: _) _ _); refine wpListIn_run rfl (by intro c h; cases h) (fun _ => trivial) (.agg (q.map B).toArray) W (by unfold execOp; simp only [Act.eval, Array.getD_eq_getD_getElem?, List.getElem?_toArray, List.getElem?_cons_succ, List.getElem?_cons_zero, Option.getD_some, Hld.out, Sem.run_bind, Sem.run_pure, Result.andThen_ok]) ?_; simp only [Act.put])
      | ((with_reducible show wpListIn _ _ _ _ _ (⟨none, .store _ _ _, _, _, _, _⟩ :: _) _ _); refine wpListIn_store_blk rfl (fun _ => trivial) 48 (.tmp 5) (.tmp 26) rfl 32 size26 (w.heap.size + 1) (q.map B).toArray rfl rfl (by simp [Hql.out]) (oneCell_B _) 48 _ kt (by simp [Hqs.out]) ?_; simp only [Act.put]))
    have hg1 : w.heap.size + 1 < w3.heap.size := by have := Hs2.out; omega
    refine ⟨KeepsFrom.of_grownBy (grownBy_setRow' W _ _) (by intro j e; cases e; exact hg1), KeepC.setRow _ _ _ (.inl hg1), ?_, kz.setRow_apart (by omega) _, below_setRow hB (by omega) _, fun l a b h => hall' l (List.mem_map.2 ⟨_, h, rfl⟩)⟩
    rw [Hq.out]
    exact kt.setRow_ _
  case done =>
    rintro D xs W hD hS ⟨kt, kz, hB, hall⟩ hK
    have hqs : (lastHead (xs.map (·.2.2))).length = 32 := length_lastHead _ hall
    rw [hS] at kt hqs
    change Blk W (w.heap.size + 1) 48 ((topL hs).map B).toArray at kt
    change (topL hs).length = 32 at hqs
    rw [Hq0.out] at kt hqs
    have hld : (Instr.loadAt 48 (.pointer (some ⟨w.heap.size + 1, 0, none⟩))).run Tryd.prog W = .ok (.agg (q.map B).toArray) W := run_load_blk (agg26 _) (size26 _) _ _ (by simp [hqs]) kt
    have Hld := Lib.hid hld
    have Hql := Lib.hid hqs
    have HK := Lib.hid hK
    clear hld hqs hK
    gi_wp2_with (first
      | ((with_reducible show wpListIn _ _ _ _ _ (⟨some 27, .load _ _, _, _, _, _⟩ :: _) _ _); refine wpListIn_run rfl (by intro c h; cases h) (fun _ => trivial) (.agg (q.map B).toArray) W (by unfold execOp; simp only [Act.eval, Array.getD_eq_getD_getElem?, List.getElem?_toArray, List.getElem?_cons_succ, List.getElem?_cons_zero, Option.getD_some, Hld.out, Sem.run_bind, Sem.run_pure, Result.andThen_ok]) ?_; simp only [Act.put])
      | ((with_reducible show wpListIn _ _ _ _ _ (⟨none, .store _ _ _, _, _, _, _⟩ :: _) _ _); refine wpListIn_store_blk rfl (fun _ => trivial) 48 (.tmp 2) (.tmp 27) rfl 32 size26 w.heap.size (q.map B).toArray rfl rfl (by simp [Hql.out]) (oneCell_B _) 48 _ kz (by simp [Hzl.out]) ?_; simp only [Act.put]))
    have hkD : (W.setRow w.heap.size (q.map B).toArray).heap[D]? = some (.deferred (some [])) := by rw [setRow_other _ _ _ _ (by have := Hs2.out; omega)]; exact HK.out
    refine ⟨by simp, .inl ⟨_, _, rfl, run_takeDeferred hkD, ?_⟩⟩
    refine ⟨_, tuple_cell (t := 48) rfl _ _ w.heap.size (q.map B).toArray _ _ rfl ?_ Tryd.underlying48 (by rw [show (q.map B).toArray.size = 32 by simp [Hql.out]]; exact info26), rfl, ?_⟩
    · exact (kz.setRow_ _).grown (grownBy_putObj' _ D (.deferred none)) (by have := Hs2.out; intro e; cases e; omega)
    · exact (below_setRow hB (Nat.le_refl _) _).trans (belowK_b (w := w) (Nat.le_refl _) _ D _ _ (by have := Hs2.out; omega) hkD rfl rfl)
  case stop =>
    rintro D c pre W hD _ hf
    exact hf.elim
end Go.Proofs.YtfhmjgkcpcnkbaaDoor
/- The top of a row twice as long. No program in sight. -/
namespace Go.Proofs.YtfhmjgkcpcnkbaaDoor
open Go Go.RowKit

theorem lastHead_cons (r : List (List UInt8)) (rows : List (List (List UInt8))) (h : rows ≠ []) : lastHead (r :: rows) = lastHead rows := by
  unfold lastHead
  rw [List.getLast?_cons_of_ne_nil h]
theorem rowsL_ne (hs : List (List UInt8)) (h : 0 < hs.length) : rowsL hs ≠ [] := by
  obtain ⟨t, ht⟩ := rowsL_len_pos h
  rw [ht]
  simp
theorem topL_more (hs : List (List UInt8)) (h : 2 ≤ hs.length) : topL hs = topL (pairsL hs) := by
  unfold topL
  rw [rowsL_more hs h, lastHead_cons _ _ (rowsL_ne _ (by rw [length_pairsL]; omega))]
theorem topL_one (x : List UInt8) : topL [x] = x := by
  unfold topL
  rw [rowsL_one _ rfl]
  rfl
theorem pairsL_get (hs : List (List UInt8)) (i : Nat) (h : i < (pairsL hs).length) : (pairsL hs)[i] = hNode (hs.getD (2 * i) []) (hs.getD (2 * i + 1) []) := by simp [pairsL]
theorem pairsL_append (l m : List (List UInt8)) (h : l.length % 2 = 0) : pairsL (l ++ m) = pairsL l ++ pairsL m := by
  apply List.ext_getElem
  · simp only [List.length_append, length_pairsL]; omega
  · intro i h1 h2
    rw [length_pairsL, List.length_append] at h1
    rw [pairsL_get]
    by_cases hi : i < l.length / 2
    · rw [List.getElem_append_left (by rw [length_pairsL]; exact hi), pairsL_get]
      simp only [List.getD_eq_getElem?_getD]
      rw [List.getElem?_append_left (by omega), List.getElem?_append_left (by omega)]
    · rw [List.getElem_append_right (by rw [length_pairsL]; omega), pairsL_get]
      simp only [List.getD_eq_getElem?_getD, length_pairsL]
      rw [List.getElem?_append_right (by omega), List.getElem?_append_right (by omega), show 2 * i - l.length = 2 * (i - l.length / 2) by omega, show 2 * i + 1 - l.length = 2 * (i - l.length / 2) + 1 by omega]
theorem and_even (m : Nat) (hm : 1 ≤ m) : (2 * m) &&& (2 * m - 1) = 2 * (m &&& (m - 1)) := by
  have h1 : ((2 * m) &&& (2 * m - 1)) / 2 = m &&& (m - 1) := by
    rw [Nat.and_div_two, show 2 * m / 2 = m by omega, show (2 * m - 1) / 2 = m - 1 by omega]
  have h2 : ((2 * m) &&& (2 * m - 1)) % 2 = 0 := by
    have := Nat.and_mod_two_pow (a := 2 * m) (b := 2 * m - 1) (n := 1)
    rw [show (2 : Nat) ^ 1 = 2 from rfl, show 2 * m % 2 = 0 by omega, Nat.zero_and] at this
    exact this
  omega
theorem pow2_half (n : Nat) (h : pow2 n = true) (h2 : 2 ≤ n) : n % 2 = 0 ∧ pow2 (n / 2) = true := by
  have hx : n &&& (n - 1) = 0 := by simpa [pow2, show n ≠ 0 by omega] using h
  by_cases he : n % 2 = 0
  · refine ⟨he, ?_⟩
    have e := and_even (n / 2) (by omega)
    rw [show 2 * (n / 2) = n by omega, hx] at e
    have e' : n / 2 &&& (n / 2 - 1) = 0 := by omega
    simp [pow2, e', show n / 2 ≠ 0 by omega]
  · have : (n &&& (n - 1)) / 2 = n / 2 := by rw [Nat.and_div_two, show (n - 1) / 2 = n / 2 by omega, Nat.and_self]
    rw [hx] at this
    omega
theorem pow2_double (n : Nat) : pow2 (n + n) = pow2 n := by
  by_cases h0 : n = 0
  · subst h0; rfl
  · have e := and_even n (by omega)
    rw [show 2 * n = n + n by omega] at e
    have e2 : ((n + n) &&& (n + n - 1) == 0) = (n &&& (n - 1) == 0) := by rw [e, Bool.eq_iff_iff]; simp; omega
    unfold pow2
    rw [e2]
    have h3 : (n + n != 0) = (n != 0) := by rw [Bool.eq_iff_iff]; simp
    rw [h3]
theorem topL_double : ∀ (k : Nat) (l : List (List UInt8)), l.length ≤ k → pow2 l.length = true → topL (l ++ l) = hNode (topL l) (topL l)
  | 0, l, h, hp => by
    rw [show l.length = 0 by omega] at hp
    simp [pow2] at hp
  | k + 1, l, h, hp => by
    by_cases h2 : 2 ≤ l.length
    · obtain ⟨g1, g2⟩ := pow2_half _ hp h2
      rw [topL_more (l ++ l) (by rw [List.length_append]; omega), topL_more l h2, pairsL_append l l g1]
      exact topL_double k (pairsL l) (by rw [length_pairsL]; omega) (by rw [length_pairsL]; exact g2)
    · have h1 : l.length = 1 := by
        have : l.length ≠ 0 := by intro e; rw [e] at hp; simp [pow2] at hp
        omega
      obtain ⟨x, rfl⟩ := List.length_eq_one_iff.1 h1
      rw [topL_one, topL_more _ (by simp)]
      have : pairsL ([x] ++ [x]) = [hNode x x] := by simp [pairsL]
      rw [this, topL_one]
end Go.Proofs.YtfhmjgkcpcnkbaaDoor
