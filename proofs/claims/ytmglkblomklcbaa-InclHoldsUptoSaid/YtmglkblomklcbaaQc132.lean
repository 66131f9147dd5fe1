/- notarylaw11.InclHolds. -/
import Derived.Test.YtmglkblomklcbaaQc125
import Derived.Test.YtmglkblomklcbaaQc128
import Derived.Test.YtmglkblomklcbaaQc130
import Derived.Test.YtmglkblomklcbaaQc131
import Derived.Test.YtmglkblomklcbaaQc113
namespace Go.Proofs.Ytmglkblomklcbaa
open Go Go.RowKit Go.Shelf
attribute [local go_sem] Oper.semAt_some

theorem SlS.step {w W : World} {A : Option Addr} {n c : Nat} {vs : List Value} {ls : List (List UInt8)} (h : SlS w A n c vs ls) (hb : Below w.heap.size w W) : SlS W A n c vs ls :=
  ⟨(h.out.step hb).weak fun _ hb' _ => hb', h.len, fun i hi => let ⟨Ai, ci, h1, h2⟩ := h.ins i hi; ⟨Ai, ci, h1, (h2.step hb).weak fun _ hb' _ => hb'⟩⟩
theorem run_eqlR (a b c d : Int) (W : World) : (binOp .eql 68 (.agg #[.int .i64 a, .int .i64 b]) (.agg #[.int .i64 c, .int .i64 d])).run Try.prog W = .ok (.bool (a == c && b == d)) W := by
  have hf : (Try.prog.fieldsOf 68).toList = [{ name := "From", type := 2, offset := 0, embedded := false, tag := "", pkgPath := "", byteOffset := 0 }, { name := "To", type := 2, offset := 1, embedded := false, tag := "", pkgPath := "", byteOffset := 8 }] := by kernel_rfl
  rw [run_eql_struct, run_equalIn_agg W 9999 _ _ _ underR heldR, hf]
  simp [go_sem, part, Op.eqFields]
  by_cases h1 : a = c <;> by_cases h2 : b = d <;> simp [h1, h2]
theorem run_eqlR_op {ρ : Operand → Value} {o : Oper} (x y : Operand) (ty : TypeId) (a b c d : Int) (v : Bool) (ho : o.op = .binOp .eql 68 x y ty) (hx : ρ x = .agg #[.int .i64 a, .int .i64 b]) (hy : ρ y = .agg #[.int .i64 c, .int .i64 d]) (hv : (a == c && b == d) = v) (W : World) :
    (execOp ρ o).run Try.prog W = .ok (.value (.bool v)) W := by
  unfold execOp
  simp only [ho, hx, hy, run_eqGuard_agg W .eql 68 x y _ _ guardR, Sem.run_bind, Sem.run_pure, run_eqlR, Result.andThen_ok, hv]
/-- the range ahead of a round -/
def atq (i : Nat) (q : List StepV) : Nat → Nat × Nat
  | 0 => (i, i + 1)
  | k + 1 => (q.getD k stepD).1
theorem UpOk.at {i x y : Nat} {q : List StepV} (h : UpOk i x y q) (s : Nat) (hs : s < q.length) : (q.getD s stepD).1.1 ≤ (atq i q s).1 ∧ (atq i q s).2 ≤ (q.getD s stepD).1.2 ∧ (0 < s → (q.getD s stepD).1 ≠ atq i q s) ∧ ((q.getD s stepD).1.1 = (atq i q s).1 ∨ (q.getD s stepD).1.2 = (atq i q s).2) := by
  cases s with
  | zero => rw [h.first]; exact ⟨Nat.le_refl _, Nat.le_refl _, fun h => absurd h (by omega), .inl rfl⟩
  | succ s => obtain ⟨h1, h2, h3, h4⟩ := h.step s hs; exact ⟨h1, h2, fun _ => h3, h4⟩
theorem UpOk.lt {i x y : Nat} {q : List StepV} (h : UpOk i x y q) (s : Nat) (hs : s ≤ q.length) : (atq i q s).1 < (atq i q s).2 := by
  induction s with
  | zero => exact Nat.lt_succ_self i
  | succ s ih =>
    obtain ⟨h1, h2, -, -⟩ := h.at s hs
    have := ih (by omega)
    show (q.getD s stepD).1.1 < (q.getD s stepD).1.2
    omega
theorem UpOk.end {i x y : Nat} {q : List StepV} (h : UpOk i x y q) : atq i q q.length = (x, y) := by
  obtain ⟨m, hm⟩ : ∃ m, q.length = m + 1 := ⟨q.length - 1, by have := h.pos; omega⟩
  have hl := h.last
  rw [hm] at hl ⊢
  exact hl
/-- between two rounds -/
structure HdI (w : World) (M g7 : Nat) (L : List (List UInt8)) (al ol cl ln i : Nat) (q : List StepV) (k : Nat) (W : World) : Prop where
  b6 : Blk W (w.heap.size + 1) 4 #[.bool false]
  b7 : Blk W g7 22 #[.slice (some ⟨al, ol, none⟩) ln cl]
  b16 : Blk W M 68 #[.int .i64 ((atq i q k).1 : Int), .int .i64 ((atq i q k).2 : Int)]
  b17 : Blk W (M + 1) 3 #[.int .i64 (k : Int)]
  hl : Hs W (· < M) (some ⟨al, ol, none⟩) ln cl L
  bel : Below w.heap.size w W
  m6 : w.heap.size + 1 < M
  m7 : g7 < M
section
variable {w W W' : World} {M g7 : Nat} {L : List (List UInt8)} {al ol cl ln i : Nat} {q : List StepV} {k : Nat}
theorem HdI.step (h : HdI w M g7 L al ol cl ln i q k W) (hb : Below W.heap.size W W') : HdI w M g7 L al ol cl ln i q k W' :=
  ⟨h.b6.step hb, h.b7.step hb, h.b16.step hb, h.b17.step hb, h.hl.step hb, h.bel.trans (hb.mono h.bel.size), h.m6, h.m7⟩
theorem HdI.grown {row : Option Nat} (h : HdI w M g7 L al ol cl ln i q k W) (hg : W.grownBy W' row) (hr : ∀ r, row = some r → M + 1 < r) : HdI w M g7 L al ol cl ln i q k W' :=
  ⟨h.b6.grown hg (fun e => by have := hr _ e.symm; have := h.m6; omega), h.b7.grown hg (fun e => by have := hr _ e.symm; have := h.m7; omega), h.b16.grown hg (fun e => by have := hr _ e.symm; omega), h.b17.grown hg (fun e => by have := hr _ e.symm; omega),
   h.hl.grown hg (fun b _ hx e => by have hx : b < M := hx; have := hr b e.symm; omega), h.bel.grown hg h.bel.size (fun r e => by have := hr r e; have := h.m6; omega), h.m6, h.m7⟩
theorem HdI.own_ {N : Nat} (hN : M + 1 < N) : OwnFrom N (fun k W => HdI w M g7 L al ol cl ln i q k W) := fun _ _ _ _ h hg hr => h.grown hg fun r e => by have := (hr r e).1; omega
theorem HdI.row (h : HdI w M g7 L al ol cl ln i q k W) (a b : Nat) : Blk (W.setRow M #[.int .i64 (a : Int), .int .i64 (b : Int)]) (M + 1) 3 #[.int .i64 (k : Int)] := h.b17.setRow_apart (by omega) _
theorem HdI.next (h : HdI w M g7 L al ol cl ln i q k W) (a b : Nat) (hab : (q.getD k stepD).1 = (a, b)) : HdI w M g7 L al ol cl ln i q (k + 1) ((W.setRow M #[.int .i64 (a : Int), .int .i64 (b : Int)]).setCell ⟨M + 1, 0, none⟩ (.int .i64 ((k + 1 : Nat) : Int))) := by
  have h6 := h.m6
  have h7 := h.m7
  refine ⟨(h.b6.setRow_apart (by omega) _).apart (by omega) _, (h.b7.setRow_apart (by omega) _).apart (by omega) _, ?_, (h.row a b).set_ 0 _, ?_, (below_setRow h.bel (by omega) _).setCell (by show w.heap.size ≤ M + 1; omega) _, h6, h7⟩
  · show Blk _ _ _ #[.int .i64 ((q.getD k stepD).1.1 : Int), .int .i64 ((q.getD k stepD).1.2 : Int)]
    rw [hab]
    exact (h.b16.setRow_ _).apart (by omega) _
  · exact (h.hl.setRow M _ (by show ¬ M < M; omega)).grown (grownBy_setCell' _ _ _) (fun b _ hx e => by have hx : b < M := hx; have := Option.some.inj e; omega)
end
/-- a point, in its box -/
structure PtB (W : World) (g : Nat) (n : Int) (root : List UInt8) : Prop where
  blk : Blk W g 47 (.int .i64 n :: root.map B).toArray
  rl : root.length = 32
theorem copy_put (ps : List (List UInt8)) (A : Option Addr) (n c : Nat) (W : World) (h : Hs W (fun _ => True) A n c ps) (hn : n ≤ 1000) (j : Nat) (hj : j < n) (x : List UInt8) (hx : x.length = 32) :
    ∃ (g c1 : Nat) (W1 : World) (cur : Array Value) (W2 : World), (Builtin.append_ #[22, 22] 22 #[.slice (some ⟨W.heap.size, 0, none⟩) 0 0, .slice A n c]).run Try.prog (W.alloc (.cells #[] 45)) = .ok (.slice (some ⟨g, 0, none⟩) n c1) W1 ∧
      Blk W1 g 45 cur ∧ j * 32 + 32 ≤ cur.size ∧ W1.setRow g (cur.toList.take (j * 32) ++ (x.map B).toArray.toList ++ cur.toList.drop (j * 32 + 32)).toArray = W2 ∧ Hs W2 (fun _ => True) (some ⟨g, 0, none⟩) n c1 (ps.set j x) ∧ Below W.heap.size W W1 ∧ Below W.heap.size W W2 := by
  have hb1 : Below W.heap.size W (W.alloc (.cells #[] 45)) := (Below.refl _ _).alloc (Nat.le_refl _) _
  have ho0 : (W.alloc (.cells #[] 45)).ownsRow W.heap.size 45 32 (.slice (some ⟨W.heap.size, 0, none⟩) 0 0) 0 [] :=
    World.ownsRow_lit (base := W.heap.size) (e := 45) (size := 32) W #[] 0 (Nat.le_refl _) (by unfold maxLen; decide) (by simp)
  obtain ⟨v1, w1, hr1, ho1, hg1, -⟩ := append_slv (ty := 22) Try.underlying22 info26z (by simp [Value.cells]) (by decide) ho0 (h.step hb1).sl (oneB _) (by unfold maxLen; omega) (by omega) hb1.size
  rw [List.nil_append, Nat.zero_add] at ho1
  have hb2 := hb1.grown hg1 hb1.size (fun k hk => by cases hk; exact Nat.le_refl _)
  obtain ⟨g, c1, rfl⟩ := owns_some ho1 (by omega)
  obtain ⟨cur, h1, h2, h3, h4⟩ := owns_put ho1 j hj (x.map B).toArray.toList (by simp [hx])
  have e := hcells_set ps h.all j x (by rw [h.len]; exact hj)
  rw [show (x.map B) = (x.map B).toArray.toList from rfl] at e
  rw [e] at h4
  obtain ⟨A', c', e2, h5⟩ := Hs.of_owns h4 (by rw [List.length_set]; exact h.len) (h.all.set j hx)
  cases e2
  exact ⟨g, c1, w1, cur, _, hr1, h1, h2, rfl, h5.weak fun _ _ _ => trivial, hb2, below_setRow hb2 h3 _⟩
section
variable {W W' : World} {g : Nat} {n : Int} {root : List UInt8}
theorem PtB.step (h : PtB W g n root) (hb : Below W.heap.size W W') : PtB W' g n root := ⟨h.blk.step hb, h.rl⟩
theorem PtB.hash (h : PtB W g n root) : (Instr.loadAt 45 (.pointer (some ⟨g, 1, none⟩))).run Try.prog W = .ok (.agg (root.map B).toArray) W :=
  run_load_agg (agg26 _) (size26 _) g 1 (root.map B) (by simp [h.rl]) fun j u hu => by
    rw [h.blk.cell, List.getElem?_toArray, show 1 + j = j + 1 by omega, List.getElem?_cons_succ]
    exact hu
theorem PtB.load (h : PtB W g n root) : (Instr.loadAt 47 (.pointer (some ⟨g, 0, none⟩))).run Try.prog W = .ok (.agg (.int .i64 n :: root.map B).toArray) W :=
  run_load_blk (aggPt _) (sizePt _) g _ (by simp [h.rl]) h.blk
set_option maxRecDepth 100000 in
theorem wpList_pvar {w : World} {ops : Array Oper} {rest : List Oper} {o1 o2 : Oper} {a : Act} {Q : Exit → Act → World → Prop} {n : Int} {l : List UInt8} (x y : Operand) (hg1 : o1.guard = none) (hg2 : o2.guard = none) (ho1 : o1.op = .alloc 47) (ho2 : o2.op = .store 47 x y)
    (hx : (a.put o1.dst (.pointer (some ⟨w.heap.size, 0, none⟩))).eval x = .pointer (some ⟨w.heap.size, 0, none⟩)) (hy : (a.put o1.dst (.pointer (some ⟨w.heap.size, 0, none⟩))).eval y = .agg (.int .i64 n :: l.map B).toArray) (hl : l.length = 32)
    (h : ∀ W, PtB W w.heap.size n l → Below w.heap.size w W → wpList Try.prog ops Q rest ((a.put o1.dst (.pointer (some ⟨w.heap.size, 0, none⟩))).put o2.dst undef) W) : wpList Try.prog ops Q (o1 :: o2 :: rest) a w := by
  refine wpList_run hg1 (.pointer (some ⟨w.heap.size, 0, none⟩)) (w.alloc (.cells (.int .i64 0 :: (List.replicate 32 (0 : UInt8)).map B).toArray 47)) ?_ ?_
  · unfold execOp
    rw [ho1]
    rfl
  · refine wpList_store_blk hg2 47 x y ho2 33 (fun _ => by kernel_rfl) w.heap.size (.int .i64 n :: l.map B).toArray hx hy (by simp [hl]) (by
      intro v hv
      simp only [List.mem_cons, List.mem_map] at hv
      rcases hv with rfl | ⟨b, _, rfl⟩ <;> rfl) 47 _ (Blk.new w 47 _) (by simp) ?_
    exact h _ ⟨(Blk.new w 47 _).setRow_ _, hl⟩ (below_setRow ((Below.refl _ _).alloc (Nat.le_refl _) _) (Nat.le_refl _) _)
end

set_option maxHeartbeats 40000000 in
set_option maxRecDepth 100000 in
theorem inclholds_any (ls : List (List UInt8)) (A : Option Addr) (ln c : Nat) (vs : List Value) (i : Int) (oth : List UInt8) (w : World) (h : SlS w A ln c vs ls) (hol : oth.length = 32) (hm : ln + ls.flatten.length ≤ 1073741824) :
    Calls Try.prog 7 #[.slice A ln c, .int .i64 i, .agg (oth.map B).toArray] w fun e w' => e = .returned (.bool true) ∧ Below w.heap.size w w' := by
  obtain ⟨w1, hw1⟩ : ∃ w1, (w.alloc (.cells (oth.map B).toArray 45)).alloc (.cells #[.bool false] 4) = w1 := ⟨_, rfl⟩
  have hb1 : Below w.heap.size w w1 := by rw [← hw1]; exact ((Below.refl _ _).alloc (Nat.le_refl _) _).alloc (by simp) _
  have hs1 : w.heap.size + 1 + 1 ≤ w1.heap.size := by rw [← hw1]; simp
  have k5 : HV w1 w.heap.size oth := ⟨by rw [← hw1]; exact (Blk.new _ _ _).alloc _, hol⟩
  have k6 : Blk w1 (w.heap.size + 1) 4 #[.bool false] := by rw [← hw1]; exact Blk.new' _ _ _ _ (by simp)
  have Hw1 := Lib.hid hw1
  clear hw1
  by_cases hbig : 100 < ln
  · have hd : decide ((100 : Int) < (ln : Int)) = true := by simp; omega
    clear h
    refine (callsIn_wide (n := 5)).1 ?_
    refine callsIn_of_wp_marks Try.func7 rfl trivial ?_ rfl
    simp only [Try.ntmps7, List.size_toArray, List.length_cons, List.length_nil, Nat.reduceAdd, Nat.reduceSub, Array.replicate_succ, Array.replicate_zero, List.push_toArray, List.append_toArray, List.nil_append, List.cons_append]
    refine wpIn_wide.2 ?_
    go_wp2_with fail
    rw [Hw1.out]
    refine (works11_any w1).mono ?_
    rintro e w2 ⟨rfl, hb2⟩
    replace k5 := k5.step hb2
    replace k6 := k6.step hb2
    have hbw := hb1.trans (hb2.mono hb1.size)
    have hs2 := hb2.size
    clear hb1
    clear hb2
    have c6 : w2.cell? ⟨w.heap.size + 1, 0, none⟩ = some (.bool false) := by rw [k6.cell]; rfl
    have f6 := k6.frozen 0
    go_wp2_with fail
    exact leaves_marks (N := w.heap.size) [] _ (MarksOk.nil _ _) fun w' ht => ⟨_, results_cellB rfl _ _ (w.heap.size + 1) true rfl (ht.blk _ _ _ (k6.set_ 0 _)), rfl, (hbw.setCell (p := ⟨w.heap.size + 1, 0, none⟩) (Nat.le_succ _) _).trans ht.bel⟩
  have hd : decide ((100 : Int) < (ln : Int)) = false := by simp; omega
  have hL : (leavesL ls).length = ln := by rw [leavesL, List.length_map, h.len]
  have ha : H32 (leavesL ls) := leavesL_all ls
  have hlv := fun W (hW : SlS W A ln c vs ls) => hleaves_any ls A ln c W vs hW hm
  have htr := fun W (hW : SlS W A ln c vs ls) => troot_any ls A ln c W vs hW hm
  obtain ⟨L, hLe⟩ : ∃ L, leavesL ls = L := ⟨_, rfl⟩
  rw [hLe] at hL ha hlv htr
  have hroom := h.out.room
  have hmx := h.out.max
  unfold maxLen at hmx
  have h2 := h.step hb1
  have HL := Lib.hid hL
  have Ha := Lib.hid ha
  have Hlv := Lib.hid hlv
  have Htr := Lib.hid htr
  have hpr := fun A c W (h : Hs W (fun _ => True) A ln c L) => iprove_any L A ln c W i h (by omega)
  rw [hL] at hpr
  clear hL ha hlv htr hLe h
  by_cases hout : i < 0 ∨ (ln : Int) ≤ i
  · have hpa : pathA i (ln : Int) = ([], 4) := by unfold pathA; rw [if_pos hout]
    have hrp : rootsP L i = [] := rootsP_bad L i (by rw [HL.out, hpa]; decide)
    rw [hpa, hrp] at hpr
    have Hpr := Lib.hid hpr
    clear hpr hpa hrp
    refine (callsIn_wide (n := 5)).1 ?_
    refine callsIn_of_wp_marks Try.func7 rfl trivial ?_ rfl
    simp only [Try.ntmps7, List.size_toArray, List.length_cons, List.length_nil, Nat.reduceAdd, Nat.reduceSub, Array.replicate_succ, Array.replicate_zero, List.push_toArray, List.append_toArray, List.nil_append, List.cons_append]
    refine wpIn_wide.2 ?_
    go_wp2_with fail
    rw [Hw1.out]
    refine (works11_any w1).mono ?_
    rintro e w2 ⟨rfl, hb2⟩
    replace k5 := k5.step hb2
    replace k6 := k6.step hb2
    have hbw := hb1.trans (hb2.mono hb1.size)
    have hs2 := hb2.size
    clear hb1
    replace h2 := h2.step hb2
    clear hb2
    go_wp2_with fail
    refine (Hlv.out w2 h2).mono ?_
    rintro e w3 ⟨vl, rfl, hol, hb3⟩
    obtain ⟨Al, cl, rfl, hl⟩ := Hs.of_owns hol HL.out Ha.out
    replace hl := hl.weak (Y := fun _ => True) fun _ _ _ => trivial
    replace k6 := k6.step hb3
    replace hbw := hbw.trans (hb3.mono hbw.size)
    have hs3 := hb3.size
    clear hb3 hol h2
    have hbA : Below w3.heap.size w3 (w3.alloc (.cells #[.slice Al ln cl] 22)) := (Below.refl _ _).alloc (Nat.le_refl _) _
    have hrl := hl.sl.room
    have hml := hl.sl.max
    unfold maxLen at hml
    go_wp2_with fail
    refine (Hpr.out Al cl _ (hl.step hbA)).mono ?_
    rintro e w4 ⟨vp, rfl, hop, hb4⟩
    replace k6 := (k6.step hbA).step hb4
    replace hbw := (hbw.trans (hbA.mono hbw.size)).trans (hb4.mono (Nat.le_trans hbw.size hbA.size))
    clear hbA hb4 hop
    have hor : decide (i < 0) = true ∨ (decide (i < 0) = false ∧ decide ((ln : Int) ≤ i) = true) := by
      rcases Int.lt_or_le i 0 with h0 | h0
      · exact .inl (decide_eq_true h0)
      · exact .inr ⟨decide_eq_false (by omega), decide_eq_true (by omega)⟩
    clear hout
    rcases hor with h0 | ⟨h0, h1⟩
    · go_wp2_with (first
        | (go_at_call 15; refine (num11_any _ _).mono ?_; rintro e w0 ⟨rfl, rfl⟩)
        | (go_at_call 9; refine (works11_any _).mono ?_; rintro e w5 ⟨rfl, hb5⟩; have k65 := k6.step hb5; have c6 : w5.cell? ⟨w.heap.size + 1, 0, none⟩ = some (.bool false) := (by rw [k65.cell]; rfl); have f6 := k65.frozen 0))
      replace hbw := hbw.trans (hb5.mono hbw.size)
      clear k6
      have k6 := k65
      exact leaves_marks (N := w.heap.size) [] _ (MarksOk.nil _ _) fun w' ht => ⟨_, results_cellB rfl _ _ (w.heap.size + 1) true rfl (ht.blk _ _ _ (k6.set_ 0 _)), rfl, (hbw.setCell (p := ⟨w.heap.size + 1, 0, none⟩) (Nat.le_succ _) _).trans ht.bel⟩
    · go_wp2_with (first
        | (go_at_call 15; refine (num11_any _ _).mono ?_; rintro e w0 ⟨rfl, rfl⟩)
        | (go_at_call 9; refine (works11_any _).mono ?_; rintro e w5 ⟨rfl, hb5⟩; have k65 := k6.step hb5; have c6 : w5.cell? ⟨w.heap.size + 1, 0, none⟩ = some (.bool false) := (by rw [k65.cell]; rfl); have f6 := k65.frozen 0))
      replace hbw := hbw.trans (hb5.mono hbw.size)
      clear k6
      have k6 := k65
      exact leaves_marks (N := w.heap.size) [] _ (MarksOk.nil _ _) fun w' ht => ⟨_, results_cellB rfl _ _ (w.heap.size + 1) true rfl (ht.blk _ _ _ (k6.set_ 0 _)), rfl, (hbw.setCell (p := ⟨w.heap.size + 1, 0, none⟩) (Nat.le_succ _) _).trans ht.bel⟩
  obtain ⟨k, rfl⟩ : ∃ k : Nat, i = (k : Int) := ⟨i.toNat, by omega⟩
  have hk : k < ln := by omega
  have Hol := Lib.hid hol
  clear hout hol
  have hkl : k < L.length := by rw [HL.out]; exact hk
  obtain ⟨e1, e2⟩ := rootsP_nat L (k : Int) (by omega) (by omega)
  rw [HL.out] at e2
  rw [e2, e1, Int.toNat_natCast] at hpr
  have hr32 := rootsN_all L Ha.out k
  have hnp63 : (rootsN L k).length ≤ 63 := by rw [length_rootsN]; exact pathL_len 63 k 0 _ (by rw [HL.out]; omega)
  have hfr := fromA_right L k hkl
  have htk := takenA_right L k hkl
  have hlg := fun q hq => takenA_long L k hkl (L.getD k []) (rootL L) q hq
  have hwy := wayA_right L k hkl
  have hok := upL_ok (L.getD k []) L.length k 0 L.length (rootsN L k) (by omega) (by omega) hkl
  have hul := length_right L k hkl
  have hat := upL_at L k hkl
  have hsz : ∀ s ∈ upL (L.getD k []) k 0 L.length (rootsN L k), s.1.2 ≤ L.length := fun s hs => (upL_roots L L.length k 0 L.length (by omega) (by omega) hkl (Nat.le_refl _) s hs).2.2
  have hll := Ha.out.getD k hkl
  have hrl := length_rootL L Ha.out
  rw [HL.out] at hfr htk hlg hwy hok hul hat hsz
  obtain ⟨leaf, hle⟩ : ∃ x, L.getD k [] = x := ⟨_, rfl⟩
  obtain ⟨ps, hpe⟩ : ∃ x, rootsN L k = x := ⟨_, rfl⟩
  obtain ⟨root, hre⟩ : ∃ x, rootL L = x := ⟨_, rfl⟩
  rw [hpe] at hpr hr32 hnp63 hfr htk hlg hwy hok hul hat hsz
  rw [hle] at hfr htk hlg hwy hok hul hat hll hsz
  rw [hre] at hfr htk hlg hrl
  have htr := fun W hW => Htr.out W hW
  rw [hre] at htr
  obtain ⟨np, hnp⟩ : ∃ m, ps.length = m := ⟨_, rfl⟩
  rw [hnp] at hpr hnp63 hlg hul hat
  obtain ⟨t1, ht1⟩ : ∃ t, takenA oth (k : Int) (ln : Int) root ps = t := ⟨_, rfl⟩
  have hro := fun A c W (h : Hs W (fun _ => True) A np c ps) => iroot_any leaf (k : Int) (ln : Int) ps A np c W hll (by omega) h
  have hck := fun A c W (h : Hs W (fun _ => True) A np c ps) => icheck_any leaf (k : Int) (ln : Int) root ps A np c W hll hrl (by omega) h
  have hc1 := fun A c W (h : Hs W (fun _ => True) A np c ps) => icheck_any oth (k : Int) (ln : Int) root ps A np c W Hol.out hrl (by omega) h
  have hc2 := fun A c W (h : Hs W (fun _ => True) A np c ps) => r11check_any oth (k : Int) (ln : Int) root ps A np c W Hol.out hrl (by omega) h
  have hcq := fun q A n c W (h : Hs W (fun _ => True) A n c q) => icheck_any leaf (k : Int) (ln : Int) root q A n c W hll hrl (by omega) h
  have hcr := fun q A n c W (h : Hs W (fun _ => True) A n c q) => r11check_any leaf (k : Int) (ln : Int) root q A n c W hll hrl (by omega) h
  have hup := fun A c W (h : Hs W (fun _ => True) A np c ps) => iup_any leaf (k : Int) (ln : Int) ps A np c W hll (by omega) h
  rw [hfr] at hro
  rw [htk] at hck
  rw [ht1] at hc1 hc2
  rw [hwy] at hup
  dsimp only at hro hup
  obtain ⟨q, hqe⟩ : ∃ q, upL leaf k 0 ln ps = q := ⟨_, rfl⟩
  rw [hqe] at hup hok hul hat hsz
  rw [hul] at hup
  clear hqe
  have Hpr := Lib.hid hpr
  have Hr32 := Lib.hid hr32
  have Hlg := Lib.hid hlg
  have Hok := Lib.hid hok
  have Hul := Lib.hid hul
  have Hat := Lib.hid hat
  have Hll := Lib.hid hll
  have Hrl := Lib.hid hrl
  have Hle := Lib.hid hle
  have Hnp := Lib.hid hnp
  have Hro := Lib.hid hro
  have Hck := Lib.hid hck
  have Hc1 := Lib.hid hc1
  have Hc2 := Lib.hid hc2
  have Hcq := Lib.hid hcq
  have Hcr := Lib.hid hcr
  have Hup := Lib.hid hup
  have Htr2 := Lib.hid htr
  have Hpe := Lib.hid hpe
  have Hsz := Lib.hid hsz
  clear hpr hr32 hfr htk hlg hwy hok hul hat hll hrl hle hnp hro hck hc1 hc2 hcq hcr hup htr hpe hre ht1 hsz e1 e2 Htr
  refine (callsIn_wide (n := 5)).1 ?_
  refine callsIn_of_wp_marks Try.func7 rfl trivial ?_ rfl
  simp only [Try.ntmps7, List.size_toArray, List.length_cons, List.length_nil, Nat.reduceAdd, Nat.reduceSub, Array.replicate_succ, Array.replicate_zero, List.push_toArray, List.append_toArray, List.nil_append, List.cons_append]
  refine wpIn_wide.2 ?_
  go_wp2_with fail
  rw [Hw1.out]
  refine (works11_any w1).mono ?_
  rintro e w2 ⟨rfl, hb2⟩
  replace k5 := k5.step hb2
  replace k6 := k6.step hb2
  have hbw := hb1.trans (hb2.mono hb1.size)
  have hs2 := hb2.size
  clear hb1
  replace h2 := h2.step hb2
  clear hb2
  go_wp2_with fail
  refine (Hlv.out w2 h2).mono ?_
  rintro e w3 ⟨vl, rfl, holv, hb3⟩
  obtain ⟨Al, cl, rfl, hl⟩ := Hs.of_owns holv HL.out Ha.out
  replace hl := hl.weak (Y := fun _ => True) fun _ _ _ => trivial
  replace k5 := k5.step hb3
  replace k6 := k6.step hb3
  replace h2 := h2.step hb3
  replace hbw := hbw.trans (hb3.mono hbw.size)
  have hs3 := hb3.size
  clear hb3 holv
  have hbA : Below w3.heap.size w3 (w3.alloc (.cells #[.slice Al ln cl] 22)) := (Below.refl _ _).alloc (Nat.le_refl _) _
  have k7 : Blk (w3.alloc (.cells #[.slice Al ln cl] 22)) w3.heap.size 22 #[.slice Al ln cl] := Blk.new _ _ _
  obtain ⟨al, ol, hAl, -, -, -⟩ := hl.at_ (by omega)
  subst hAl
  have hrl := hl.sl.room
  have hml := hl.sl.max
  unfold maxLen at hml
  go_wp2_with fail
  refine (Hpr.out _ cl _ (hl.step hbA)).mono ?_
  rintro e w4 ⟨vp, rfl, hop, hb4⟩
  obtain ⟨Ap, cp, rfl, hp⟩ := Hs.of_owns hop Hnp.out Hr32.out
  replace hp := hp.weak (Y := fun _ => True) fun _ _ _ => trivial
  have hrp := hp.sl.room
  have hmp := hp.sl.max
  unfold maxLen at hmp
  replace k5 := k5.step hbA
  replace k6 := k6.step hbA
  replace h2 := h2.step hbA
  replace hl := hl.step hbA
  replace hbw := hbw.trans (hbA.mono hbw.size)
  replace k5 := k5.step hb4
  replace k6 := k6.step hb4
  replace h2 := h2.step hb4
  replace hl := hl.step hb4
  replace k7 := k7.step hb4
  replace hbw := hbw.trans (hb4.mono hbw.size)
  have hs4 := hb4.size
  have hsA := hbA.size
  have hl7 := k7.lt
  clear hbA hb4 hop
  have hkln : (k : Int) < (ln : Int) := by omega
  have hdk : decide ((k : Int) < 0) = false := by simp
  go_wp2_with (go_at_call 15; refine (num11_any _ _).mono ?_; rintro e w0 ⟨rfl, rfl⟩)
  refine (Htr2.out w4 h2).mono ?_
  rintro e w5 ⟨rfl, hb5⟩
  replace k5 := k5.step hb5
  replace k6 := k6.step hb5
  replace hl := hl.step hb5
  replace hp := hp.step hb5
  replace k7 := k7.step hb5
  replace hbw := hbw.trans (hb5.mono hbw.size)
  have hs5 := hb5.size
  clear hb5 h2
  go_wp2_with (first
    | ((with_reducible show wpList _ _ _ (⟨some 62, .build _ _, _, _, _, _⟩ :: _) _ _); refine wpList_run0 rfl (.agg (.int .i64 (ln : Int) :: root.map B).toArray) (run_build_pt (.tmp 59) (.tmp 61) (ln : Int) root Hrl.out rfl rfl rfl _) ?_; simp only [Act.put])
    | ((with_reducible show wpList _ _ _ (⟨some 11, .alloc _, _, _, _, _⟩ :: _) _ _); refine wpList_pvar (.tmp 11) (.tmp 62) rfl rfl rfl rfl rfl rfl Hrl.out ?_; intro w6 k11 hb6; simp only [Act.put]; have c7 : w6.cell? ⟨w3.heap.size, 0, none⟩ = some (.slice (some ⟨al, ol, none⟩) ln cl) := (by rw [(k7.step hb6).cell]; rfl); have hlf := (hl.step hb6).get rfl k hk; rw [Hle.out] at hlf)
    | ((with_reducible show wpList _ _ _ (⟨some 67, .load _ _, _, _, _, _⟩ :: _) _ _); refine wpList_runG (by kernel_rfl) (.agg (leaf.map B).toArray) _ (run_load_op 45 (.tmp 66) rfl _ _ rfl _ hlf) ?_; simp only [Act.put]))
  replace k5 := k5.step hb6
  replace k6 := k6.step hb6
  replace hl := hl.step hb6
  replace hp := hp.step hb6
  replace k7 := k7.step hb6
  replace hbw := hbw.trans (hb6.mono hbw.size)
  have hs6 := hb6.size
  have hl11 := k11.blk.lt
  clear hb6 c7 hlf
  refine (Hro.out _ _ w6 hp).mono ?_
  rintro e w7 ⟨rfl, hb7⟩
  replace k5 := k5.step hb7
  replace k6 := k6.step hb7
  replace hl := hl.step hb7
  replace hp := hp.step hb7
  replace k7 := k7.step hb7
  replace k11 := k11.step hb7
  replace hbw := hbw.trans (hb7.mono hbw.size)
  have hs7 := hb7.size
  clear hb7
  go_wp2_with ((with_reducible show wpList _ _ _ (⟨some 12, .alloc _, _, _, _, _⟩ :: _) _ _); refine wpList_hvar (.tmp 12) (.tmp 72) rfl rfl rfl rfl rfl rfl Hrl.out ?_; intro w8 k12 hb8; simp only [Act.put]; have d7 : ∀ s : InC (fun W => Below w8.heap.size w8 W), s.W.cell? ⟨w3.heap.size, 0, none⟩ = some (.slice (some ⟨al, ol, none⟩) ln cl) := (fun s => by rw [((k7.step hb8).step s.ok).cell]; rfl))
  replace k5 := k5.step hb8
  replace k6 := k6.step hb8
  replace hl := hl.step hb8
  replace hp := hp.step hb8
  replace k7 := k7.step hb8
  replace k11 := k11.step hb8
  replace hbw := hbw.trans (hb8.mono hbw.size)
  have hs8 := hb8.size
  clear hb8
  generalize w7.heap.size = g12 at *
  generalize w5.heap.size = g11 at *
  generalize w3.heap.size = g7 at *
  have ll : ∀ s : InC (fun W => Below w8.heap.size w8 W), (Instr.loadAt 45 (.pointer (some ⟨al, ol + k * 32, none⟩))).run Try.prog s.W = .ok (.agg (leaf.map B).toArray) s.W := fun s => by
    have := (hl.step s.ok).get rfl k hk
    rwa [Hle.out] at this
  have LL := Lib.hid ll
  clear ll
  have lp : ∀ s : InC (fun W => Below w8.heap.size w8 W), (Instr.loadAt 47 (.pointer (some ⟨g11, 0, none⟩))).run Try.prog s.W = .ok (.agg (.int .i64 (ln : Int) :: root.map B).toArray) s.W := fun s => (k11.step s.ok).load
  have LP := Lib.hid lp
  clear lp
  have l12 : ∀ s : InC (fun W => Below w8.heap.size w8 W), (Instr.loadAt 45 (.pointer (some ⟨g12, 0, none⟩))).run Try.prog s.W = .ok (.agg (root.map B).toArray) s.W := fun s => (k12.step s.ok).load
  have L12 := Lib.hid l12
  clear l12
  have lr : ∀ s : InC (fun W => Below w8.heap.size w8 W), (Instr.loadAt 45 (.pointer (some ⟨g11, 1, none⟩))).run Try.prog s.W = .ok (.agg (root.map B).toArray) s.W := fun s => (k11.step s.ok).hash
  have LR := Lib.hid lr
  clear lr
  have hS : Below w8.heap.size w8 w8.drew := (Below.refl _ _).drew
  refine wp_region_mix (fun W => Below w8.heap.size w8 W) [(0, true), (1, false), (2, true), (3, true), (4, true), (5, true), (6, true), (7, true), (8, true), (9, true), (10, true), (11, true), (12, true), (13, true), (14, true), (15, true), (16, true), (17, false), (18, false), (19, true), (20, true)] (by kernel_rfl) (by kernel_rfl) hS fun _ => ?_
  simp only [List.map_cons, List.map_nil, Array.getD_eq_getD_getElem?, List.getElem?_toArray, List.getElem?_cons_succ, List.getElem?_cons_zero, Option.getD_some]
  generalize w8.drew = u9 at hS ⊢
  refine wpMix_s (fun K hK => ?_)
  go_simp
  refine hK _ ?_
  clear hK K
  refine wpMix_c (fun K hK => ?_) hS
  go_simp
  refine (num11_any _ u9).mono ?_
  rintro e _ ⟨rfl, rfl⟩
  refine hK _ _ ?_
  clear hK K
  refine ⟨hS, ?_⟩
  refine wpMix_s (fun K hK => ?_)
  go_simp
  refine hK _ ?_
  clear hK K
  refine wpMix_s (fun K hK => ?_)
  go_simp
  refine hK _ ?_
  clear hK K
  refine wpMix_load (by kernel_rfl) 45 (.tmp 12) rfl (g12) (0) rfl (root.map B).toArray (L12.out) ?_
  simp only [Act.put]
  refine wpMix_s (fun K hK => ?_)
  go_simp
  refine hK _ ?_
  clear hK K
  refine wpMix_load (by kernel_rfl) 45 (.tmp 79) rfl (g11) (1) rfl (root.map B).toArray (LR.out) ?_
  simp only [Act.put]
  refine wpMix_v (by kernel_rfl) (.bool false) (fun s => run_neq26_f (.tmp 78) (.tmp 80) _ root root rfl rfl rfl Hrl.out Hrl.out rfl s.W) ?_
  simp only [Act.put]
  refine wpMix_s (fun K hK => ?_)
  go_simp
  refine hK _ ?_
  clear hK K
  refine wpMix_s (fun K hK => ?_)
  go_simp
  refine hK _ ?_
  clear hK K
  refine wpMix_s (fun K hK => ?_)
  go_simp
  refine hK _ ?_
  clear hK K
  refine wpMix_s (fun K hK => ?_)
  go_simp
  refine hK _ ?_
  clear hK K
  refine wpMix_s (fun K hK => ?_)
  go_simp
  refine hK _ ?_
  clear hK K
  refine wpMix_load (by kernel_rfl) 45 (.tmp 86) rfl (al) (ol + k * 32) rfl (leaf.map B).toArray (LL.out) ?_
  simp only [Act.put]
  refine wpMix_s (fun K hK => ?_)
  go_simp
  refine hK _ ?_
  clear hK K
  refine wpMix_load (by kernel_rfl) 47 (.tmp 11) rfl (g11) (0) rfl (.int .i64 (ln : Int) :: root.map B).toArray (LP.out) ?_
  simp only [Act.put]
  refine wpMix_s (fun K hK => ?_)
  go_simp
  refine hK _ ?_
  clear hK K
  refine wpMix_c (fun K hK => ?_) hS
  go_simp
  refine (Hck.out _ _ u9 (hp.step hS)).mono ?_
  rintro e u9_1 ⟨rfl, hb'⟩
  refine hK _ _ ?_
  clear hK K
  replace hS := hS.trans (hb'.mono hS.size)
  refine ⟨hS, ?_⟩
  clear hb'
  refine wpMix_c (fun K hK => ?_) hS
  go_simp
  refine (num11_any _ u9_1).mono ?_
  rintro e _ ⟨rfl, rfl⟩
  refine hK _ _ ?_
  clear hK K
  refine ⟨hS, ?_⟩
  refine wpMix_s (fun K hK => ?_)
  go_simp
  refine hK _ ?_
  clear hK K
  refine wpMix_s (fun K hK => ?_)
  go_simp
  refine hK _ ?_
  clear hK K
  refine wpMix_nil ?_
  intro _
  replace k5 := k5.step hS
  replace k6 := k6.step hS
  replace hl := hl.step hS
  replace hp := hp.step hS
  replace k7 := k7.step hS
  replace k11 := k11.step hS
  replace hbw := hbw.trans (hS.mono hbw.size)
  have hs9 := hS.size
  generalize u9_1 = w9 at *
  clear hS d7 k12 LL LP L12 LR
  go_wp2_with fail
  have l5 : ∀ s : InC (fun W => Below w9.heap.size w9 W), (Instr.loadAt 45 (.pointer (some ⟨w.heap.size, 0, none⟩))).run Try.prog s.W = .ok (.agg (oth.map B).toArray) s.W := fun s => (k5.step s.ok).load
  have L5 := Lib.hid l5
  clear l5
  have lp : ∀ s : InC (fun W => Below w9.heap.size w9 W), (Instr.loadAt 47 (.pointer (some ⟨g11, 0, none⟩))).run Try.prog s.W = .ok (.agg (.int .i64 (ln : Int) :: root.map B).toArray) s.W := fun s => (k11.step s.ok).load
  have LP := Lib.hid lp
  clear lp
  have hS : Below w9.heap.size w9 w9.drew := (Below.refl _ _).drew
  refine wp_region_mix (fun W => Below w9.heap.size w9 W) [(0, true), (1, true), (2, true), (3, true), (6, true), (7, true), (8, true), (9, true), (4, false), (5, false), (10, false), (11, true)] (by kernel_rfl) (by kernel_rfl) hS fun _ => ?_
  simp only [List.map_cons, List.map_nil, Array.getD_eq_getD_getElem?, List.getElem?_toArray, List.getElem?_cons_succ, List.getElem?_cons_zero, Option.getD_some]
  generalize w9.drew = u10 at hS ⊢
  refine wpMix_load (by kernel_rfl) 45 (.tmp 5) rfl (w.heap.size) (0) rfl (oth.map B).toArray (L5.out) ?_
  simp only [Act.put]
  refine wpMix_s (fun K hK => ?_)
  go_simp
  refine hK _ ?_
  clear hK K
  refine wpMix_load (by kernel_rfl) 47 (.tmp 11) rfl (g11) (0) rfl (.int .i64 (ln : Int) :: root.map B).toArray (LP.out) ?_
  simp only [Act.put]
  refine wpMix_s (fun K hK => ?_)
  go_simp
  refine hK _ ?_
  clear hK K
  refine wpMix_load (by kernel_rfl) 45 (.tmp 5) rfl (w.heap.size) (0) rfl (oth.map B).toArray (L5.out) ?_
  simp only [Act.put]
  refine wpMix_s (fun K hK => ?_)
  go_simp
  refine hK _ ?_
  clear hK K
  refine wpMix_load (by kernel_rfl) 47 (.tmp 11) rfl (g11) (0) rfl (.int .i64 (ln : Int) :: root.map B).toArray (LP.out) ?_
  simp only [Act.put]
  refine wpMix_s (fun K hK => ?_)
  go_simp
  refine hK _ ?_
  clear hK K
  refine wpMix_c (fun K hK => ?_) hS
  go_simp
  refine (Hc1.out _ _ u10 (hp.step hS)).mono ?_
  rintro e u10_1 ⟨rfl, hb'⟩
  refine hK _ _ ?_
  clear hK K
  replace hS := hS.trans (hb'.mono hS.size)
  refine ⟨hS, ?_⟩
  clear hb'
  refine wpMix_c (fun K hK => ?_) hS
  go_simp
  refine (num11_any _ u10_1).mono ?_
  rintro e _ ⟨rfl, rfl⟩
  refine hK _ _ ?_
  clear hK K
  refine ⟨hS, ?_⟩
  refine wpMix_c (fun K hK => ?_) hS
  go_simp
  refine (Hc2.out _ _ u10_1 (hp.step hS)).mono ?_
  rintro e u10_2 ⟨rfl, hb'⟩
  refine hK _ _ ?_
  clear hK K
  replace hS := hS.trans (hb'.mono hS.size)
  refine ⟨hS, ?_⟩
  clear hb'
  refine wpMix_s (fun K hK => ?_)
  go_simp
  refine hK _ ?_
  clear hK K
  refine wpMix_nil ?_
  intro _
  replace k5 := k5.step hS
  replace k6 := k6.step hS
  replace hl := hl.step hS
  replace hp := hp.step hS
  replace k7 := k7.step hS
  replace k11 := k11.step hS
  replace hbw := hbw.trans (hS.mono hbw.size)
  have hs10 := hS.size
  generalize u10_2 = w10 at *
  clear hS L5 LP
  go_wp2_with fail
  go_loopw [14] (fun v wr => ∃ j : Nat, j ≤ np ∧ v = .int .i64 (j : Int) ∧ Below w10.heap.size w10 wr) (fun v _ => np - (intOf v).toNat)
  case atStart => exact ⟨0, Nat.zero_le _, rfl, Below.refl _ _⟩
  case round =>
    obtain ⟨j, hj, rfl, hbr⟩ := hrel
    replace k5 := k5.step hbr
    replace k6 := k6.step hbr
    replace hl := hl.step hbr
    replace hp := hp.step hbr
    replace k7 := k7.step hbr
    replace k11 := k11.step hbr
    replace hbw := hbw.trans (hbr.mono hbw.size)
    have hsr := hbr.size
    by_cases hjn : j < np
    · have hd : decide ((j : Int) < (np : Int)) = true := by simp; omega
      obtain ⟨gq, cq, w11, cur, w12, hrq, hblk, hsz, hst, hq, hb11, hb12⟩ := copy_put ps Ap np cp wr hp (by omega) j hjn oth Hol.out
      have k5q := k5.step hb11
      have hrq2 := hq.sl.room
      have hmq2 := hq.sl.max
      unfold maxLen at hmq2
      have Hrq := Lib.hid hrq
      have Hst := Lib.hid hst
      clear hrq hst
      go_wp2_with (first
        | ((with_reducible show wpList _ _ _ (⟨some 115, .call _, _, _, _, _⟩ :: _) _ _); refine wpList_run rfl _ w11 (run_append_op (.tmp 113) (.tmp 114) 22 rfl _ _ rfl rfl Hrq.out) ?_; simp only [Act.put])
        | ((with_reducible show wpList _ _ _ (⟨some 118, .load _ _, _, _, _, _⟩ :: _) _ _); refine wpList_runG (by kernel_rfl) (.agg (oth.map B).toArray) _ (run_load_op 45 (.tmp 5) rfl _ _ rfl _ k5q.load) ?_; simp only [Act.put])
        | ((with_reducible show wpList _ _ _ (⟨none, .store _ (.tmp 119) _, _, _, _, _⟩ :: _) _ _); refine wpList_store_agg rfl 45 (.tmp 119) (.tmp 118) rfl 32 size26 gq (j * 32) (oth.map B).toArray (by simp [Act.eval]) rfl (by simp [Hol.out]) (oneCell_B _) 45 cur hblk hsz ?_; rw [Hst.out]; simp only [Act.put]))
      clear Hst Hrq k5q hblk hsz
      clear hb11
      replace hl := hl.step hb12
      replace k7 := k7.step hb12
      replace k11 := k11.step hb12
      replace hbr := hbr.trans (hb12.mono hbr.size)
      clear hb12
      have hcq2 := fun W (h : Hs W (fun _ => True) (some ⟨gq, 0, none⟩) np cq (ps.set j oth)) => Hcq.out (ps.set j oth) _ np cq W h
      have hcr2 := fun W (h : Hs W (fun _ => True) (some ⟨gq, 0, none⟩) np cq (ps.set j oth)) => Hcr.out (ps.set j oth) _ np cq W h
      obtain ⟨t2, ht2⟩ : ∃ t, takenA leaf (k : Int) (ln : Int) root (ps.set j oth) = t := ⟨_, rfl⟩
      rw [ht2] at hcq2 hcr2
      clear ht2
      have Hcq2 := Lib.hid hcq2
      have Hcr2 := Lib.hid hcr2
      have d7 : ∀ s : InC (fun W => Below w12.heap.size w12 W), s.W.cell? ⟨g7, 0, none⟩ = some (.slice (some ⟨al, ol, none⟩) ln cl) := fun s => by rw [(k7.step s.ok).cell]; rfl
      clear hcq2 hcr2
      have ll : ∀ s : InC (fun W => Below w12.heap.size w12 W), (Instr.loadAt 45 (.pointer (some ⟨al, ol + k * 32, none⟩))).run Try.prog s.W = .ok (.agg (leaf.map B).toArray) s.W := fun s => by
        have := (hl.step s.ok).get rfl k hk
        rwa [Hle.out] at this
      have LL := Lib.hid ll
      clear ll
      have lp : ∀ s : InC (fun W => Below w12.heap.size w12 W), (Instr.loadAt 47 (.pointer (some ⟨g11, 0, none⟩))).run Try.prog s.W = .ok (.agg (.int .i64 (ln : Int) :: root.map B).toArray) s.W := fun s => (k11.step s.ok).load
      have LP := Lib.hid lp
      clear lp
      have hS : Below w12.heap.size w12 w12.drew := (Below.refl _ _).drew
      refine wp_region_mix (fun W => Below w12.heap.size w12 W) [(0, true), (1, true), (2, true), (3, true), (4, true), (5, true), (6, true), (9, true), (10, true), (11, true), (12, true), (13, true), (14, true), (15, true), (7, false), (8, false), (16, false), (17, true)] (by kernel_rfl) (by kernel_rfl) hS fun _ => ?_
      simp only [List.map_cons, List.map_nil, Array.getD_eq_getD_getElem?, List.getElem?_toArray, List.getElem?_cons_succ, List.getElem?_cons_zero, Option.getD_some]
      generalize w12.drew = u12 at hS ⊢
      refine wpMix_s (fun K hK => ?_)
      go_simp
      refine hK _ ?_
      clear hK K
      refine wpMix_s (fun K hK => ?_)
      go_simp
      refine hK _ ?_
      clear hK K
      refine wpMix_s (fun K hK => ?_)
      go_simp
      refine hK _ ?_
      clear hK K
      refine wpMix_load (by kernel_rfl) 45 (.tmp 122) rfl (al) (ol + k * 32) rfl (leaf.map B).toArray (LL.out) ?_
      simp only [Act.put]
      refine wpMix_s (fun K hK => ?_)
      go_simp
      refine hK _ ?_
      clear hK K
      refine wpMix_load (by kernel_rfl) 47 (.tmp 11) rfl (g11) (0) rfl (.int .i64 (ln : Int) :: root.map B).toArray (LP.out) ?_
      simp only [Act.put]
      refine wpMix_s (fun K hK => ?_)
      go_simp
      refine hK _ ?_
      clear hK K
      refine wpMix_s (fun K hK => ?_)
      go_simp
      refine hK _ ?_
      clear hK K
      refine wpMix_s (fun K hK => ?_)
      go_simp
      refine hK _ ?_
      clear hK K
      refine wpMix_s (fun K hK => ?_)
      go_simp
      refine hK _ ?_
      clear hK K
      refine wpMix_load (by kernel_rfl) 45 (.tmp 131) rfl (al) (ol + k * 32) rfl (leaf.map B).toArray (LL.out) ?_
      simp only [Act.put]
      refine wpMix_s (fun K hK => ?_)
      go_simp
      refine hK _ ?_
      clear hK K
      refine wpMix_load (by kernel_rfl) 47 (.tmp 11) rfl (g11) (0) rfl (.int .i64 (ln : Int) :: root.map B).toArray (LP.out) ?_
      simp only [Act.put]
      refine wpMix_s (fun K hK => ?_)
      go_simp
      refine hK _ ?_
      clear hK K
      refine wpMix_c (fun K hK => ?_) hS
      go_simp
      refine (Hcq2.out u12 (hq.step hS)).mono ?_
      rintro e u12_1 ⟨rfl, hb'⟩
      refine hK _ _ ?_
      clear hK K
      replace hS := hS.trans (hb'.mono hS.size)
      refine ⟨hS, ?_⟩
      clear hb'
      refine wpMix_c (fun K hK => ?_) hS
      go_simp
      refine (num11_any _ u12_1).mono ?_
      rintro e _ ⟨rfl, rfl⟩
      refine hK _ _ ?_
      clear hK K
      refine ⟨hS, ?_⟩
      refine wpMix_c (fun K hK => ?_) hS
      go_simp
      refine (Hcr2.out u12_1 (hq.step hS)).mono ?_
      rintro e u12_2 ⟨rfl, hb'⟩
      refine hK _ _ ?_
      clear hK K
      replace hS := hS.trans (hb'.mono hS.size)
      refine ⟨hS, ?_⟩
      clear hb'
      refine wpMix_s (fun K hK => ?_)
      go_simp
      refine hK _ ?_
      clear hK K
      refine wpMix_nil ?_
      intro _
      go_wp2_with fail
      refine ⟨⟨j + 1, by omega, by go_num, hbr.trans (hS.mono hbr.size)⟩, by simp [intOf]; omega⟩
    · obtain rfl : np = j := by omega
      have hd : decide ((np : Int) < (np : Int)) = false := by simp
      go_wp2_with fail
      have hol32 : H32 [oth] := fun h hh => by rw [List.mem_singleton.1 hh]; exact Hol.out
      have Hol32 := Lib.hid hol32
      have hc3 := fun A c W (h : Hs W (fun _ => True) A (np + 1) c (ps ++ [oth])) => Hcq.out (ps ++ [oth]) A (np + 1) c W h
      rw [Hlg.out (ps ++ [oth]) (by rw [List.length_append, Hnp.out]; simp)] at hc3
      have Hc3 := Lib.hid hc3
      clear hol32 hc3
      have hsr2 := hbr.size
      refine wp_share_us (fun us a' W' => a' = { tmps := #[us 0, .int .i64 (k : Int), us 2, us 3, us 4, us 5, .pointer (some ⟨w.heap.size + 1, 0, none⟩), .pointer (some ⟨g7, 0, none⟩), .int .i64 (ln : Int), .slice Ap np cp, us 10, us 11, us 12, us 13, us 14, us 15, us 16, us 17, us 18, us 19, us 20, us 21, us 22, us 23, us 24, us 25, us 26, us 27, us 28, us 29, us 30, us 31, us 32, us 33, us 34, us 35, us 36, us 37, us 38, us 39, us 40, us 41, us 42, us 43, us 44, us 45, us 46, us 47, us 48, us 49, us 50, us 51, us 52, us 53, us 54, us 55, us 56, us 57, us 58, us 59, us 60, us 61, us 62, us 63, us 64, us 65, us 66, us 67, us 68, us 69, us 70, us 71, us 72, us 73, us 74, us 75, us 76, us 77, us 78, us 79, us 80, us 81, us 82, us 83, us 84, us 85, us 86, us 87, us 88, us 89, us 90, us 91, us 92, us 93, us 94, us 95, us 96, us 97, us 98, us 99, us 100, us 101, us 102, us 103, us 104, us 105, us 106, us 107, us 108, us 109, us 110, us 111, us 112, us 113, us 114, us 115, us 116, us 117, us 118, us 119, us 120, us 121, us 122, us 123, us 124, us 125, us 126, us 127, us 128, us 129, us 130, us 131, us 132, us 133, us 134, us 135, us 136, us 137, us 138, us 139, us 140, us 141, us 142, us 143, us 144, us 145, us 146, us 147, us 148, us 149, us 150, us 151, us 152, us 153, us 154, us 155, us 156, us 157, us 158, us 159, us 160, us 161, us 162, us 163, us 164, us 165, us 166, us 167, us 168, us 169, .bool false, us 171, us 172, us 173, us 174, us 175, us 176, us 177, us 178, us 179, us 180, us 181, us 182, us 183, us 184, us 185, us 186, us 187, us 188, us 189, us 190, us 191, us 192, us 193, us 194, us 195, us 196, us 197, us 198, us 199, us 200, us 201, us 202, us 203, us 204, us 205, us 206, us 207, us 208, us 209, us 210, us 211, us 212, us 213, us 214, us 215, us 216, us 217, us 218, us 219, us 220, us 221, us 222, us 223, us 224, us 225, us 226, us 227, us 228, us 229, us 230, us 231, us 232, us 233, us 234, us 235, us 236, us 237, us 238, us 239, us 240, us 241, us 242, us 243, us 244, us 245, us 246, us 247, us 248, us 249, us 250, us 251, us 252, us 253, us 254, us 255], defers := [] } ∧ Below wr.heap.size wr W') ?_ ?_
      · have d7 : ∀ s : InC (fun W => Below wr.heap.size wr W), s.W.cell? ⟨g7, 0, none⟩ = some (.slice (some ⟨al, ol, none⟩) ln cl) := fun s => by rw [(k7.step s.ok).cell]; rfl
        have ll : ∀ s : InC (fun W => Below wr.heap.size wr W), (Instr.loadAt 45 (.pointer (some ⟨al, ol + k * 32, none⟩))).run Try.prog s.W = .ok (.agg (leaf.map B).toArray) s.W := fun s => by
          have := (hl.step s.ok).get rfl k hk
          rwa [Hle.out] at this
        have LL := Lib.hid ll
        clear ll
        have lp : ∀ s : InC (fun W => Below wr.heap.size wr W), (Instr.loadAt 47 (.pointer (some ⟨g11, 0, none⟩))).run Try.prog s.W = .ok (.agg (.int .i64 (ln : Int) :: root.map B).toArray) s.W := fun s => (k11.step s.ok).load
        have LP := Lib.hid lp
        clear lp
        have l5 : ∀ s : InC (fun W => Below wr.heap.size wr W), (Instr.loadAt 45 (.pointer (some ⟨w.heap.size, 0, none⟩))).run Try.prog s.W = .ok (.agg (oth.map B).toArray) s.W := fun s => (k5.step s.ok).load
        have L5 := Lib.hid l5
        clear l5
        by_cases hnp0 : np = 0
        · have hdn : decide ((0 : Int) < (np : Int)) = false := by simp; omega
          have hdn2 : ¬ (0 < np) := by omega
          have Hnp0 := Lib.hid hnp0
          clear hnp0
          have hS : Below (wr.heap.size) wr wr.drew := (Below.refl _ _).drew
          refine wp_region_begin (fun W => Below (wr.heap.size) wr W) (by kernel_rfl) hS fun _ => ?_
          generalize wr.drew = u20 at hS  ⊢
          refine wpAnyH_pre (f := 25) (by kernel_rfl) #[true, true, true, true, true, true, false, true, false, true, false, false, false, false, false, false, false, false, false, false, false, false, false, false, false, false, false, false, false, false, false, false, false] [(0, true), (1, true), (2, true), (3, true), (4, true), (5, true), (7, true), (9, true)] _ _ _ (by kernel_rfl) hS ?_
          simp only [List.map_cons, List.map_nil, Array.getD_eq_getD_getElem?, List.getElem?_toArray, List.getElem?_cons_succ, List.getElem?_cons_zero, Option.getD_some]
          refine wpMix_s (fun K hK => ?_)
          go_simp
          refine hK _ ?_
          clear hK K
          refine wpMix_s (fun K hK => ?_)
          go_simp
          refine hK _ ?_
          clear hK K
          refine wpMix_s (fun K hK => ?_)
          go_simp
          refine hK _ ?_
          clear hK K
          refine wpMix_load (by kernel_rfl) 45 (.tmp 140) rfl (al) (ol + k * 32) rfl (leaf.map B).toArray (LL.out) ?_
          simp only [Act.put]
          refine wpMix_s (fun K hK => ?_)
          go_simp
          refine hK _ ?_
          clear hK K
          refine wpMix_load (by kernel_rfl) 47 (.tmp 11) rfl (g11) (0) rfl (.int .i64 (ln : Int) :: root.map B).toArray (LP.out) ?_
          simp only [Act.put]
          refine wpMix_s (fun K hK => ?_)
          go_simp
          refine hK _ ?_
          clear hK K
          refine wpMix_load (by kernel_rfl) 45 (.tmp 5) rfl (w.heap.size) (0) rfl (oth.map B).toArray (L5.out) ?_
          simp only [Act.put]
          refine wpMix_nil ?_
          intro _
          refine wpAnyH_fork (f := 24) (i := 6) (j := 10) (by kernel_rfl) hS ?_ ?_
          · simp only [Array.getD_eq_getD_getElem?, List.getElem?_toArray, List.getElem?_cons_succ, List.getElem?_cons_zero, Option.getD_some]
            obtain ⟨u20a, hWa⟩ : ∃ V, u20.alloc (.cells #[] 45) = V := ⟨_, rfl⟩
            have hA : Below u20.heap.size u20 u20a := by rw [← hWa]; exact (Below.refl _ _).alloc (Nat.le_refl _) _
            have o6 : u20a.ownsRow wr.heap.size 45 32 (.slice (some ⟨u20.heap.size, 0, none⟩) 0 0) 0 [] := by rw [← hWa]; exact World.ownsRow_lit (base := wr.heap.size) (e := 45) (size := 32) u20 #[] 0 hS.size (by unfold maxLen; decide) (by simp)
            try have hne := Nat.ne_of_gt l10
            refine wpMix_c (fun K hK => ?_) hS
            go_simp
            try rw [hWa]
            refine hK _ _ ?_
            clear hK K
            replace hS := hS.trans (hA.mono hS.size)
            refine ⟨hS, ?_⟩
            try replace h10 := h10.step hA
            clear hA hWa
            refine wpMix_nil ?_
            intro _
            show wpAnyH _ _ _ _ _ _ #[true, true, true, true, true, true, true, true, false, true, false, false, false, false, false, false, false, false, false, false, false, false, false, false, false, false, false, false, false, false, false, false, false] _ _
            refine wpAnyH_fork (f := 23) (i := 8) (j := 10) (by kernel_rfl) hS ?_ ?_
            · simp only [Array.getD_eq_getD_getElem?, List.getElem?_toArray, List.getElem?_cons_succ, List.getElem?_cons_zero, Option.getD_some]
              obtain ⟨v8, u20ab, hr8, o8, hg8, -⟩ := append_slv (ty := 22) Try.underlying22 info26z (by simp [Value.cells]) (by decide) o6 (hp.step hS).sl (oneB _) (by unfold maxLen; omega) (by omega) hS.size
              rw [List.nil_append, Nat.zero_add] at o8
              try replace h10 := h10.grown hg8 (fun b _ hx e => hne ((Option.some.inj e).symm.trans hx))
              replace hS := hS.grown hg8 hS.size (fun k hk => (o6.lt k hk).1)
              refine wpMix_run (by kernel_rfl) v8 u20ab (run_append_op (.tmp 144) (.tmp 145) 22 rfl _ _ rfl rfl hr8) hS ?_
              simp only [Act.put]
              clear hr8 hg8 o6
              refine wpMix_nil ?_
              intro _
              show wpAnyH _ _ _ _ _ _ #[true, true, true, true, true, true, true, true, true, true, false, false, false, false, false, false, false, false, false, false, false, false, false, false, false, false, false, false, false, false, false, false, false] _ _
              refine wpAnyH_pre (f := 0) (by kernel_rfl) #[true, true, true, true, true, true, true, true, true, true, true, true, true, true, true, true, true, true, true, true, true, true, true, true, true, true, true, true, true, true, true, true, true] [(10, false), (11, false), (12, false), (13, false), (14, true), (15, true), (16, true), (17, true), (18, true), (19, true), (20, true), (21, true), (22, true), (23, true), (24, true), (25, true), (26, true), (27, true), (28, false), (29, false), (30, true), (31, true), (32, true)] _ _ _ (by kernel_rfl) hS ?_
              simp only [List.map_cons, List.map_nil, Array.getD_eq_getD_getElem?, List.getElem?_toArray, List.getElem?_cons_succ, List.getElem?_cons_zero, Option.getD_some]
              obtain ⟨u20abc, hWc⟩ : ∃ V, u20ab.alloc (.cells (hcells [oth]).toArray 45) = V := ⟨_, rfl⟩
              have hA : Below u20ab.heap.size u20ab u20abc := by rw [← hWc]; exact (Below.refl _ _).alloc (Nat.le_refl _) _
              have h10 : Hs u20abc (· = u20ab.heap.size) (some ⟨u20ab.heap.size, 0, none⟩) 1 1 [oth] := by rw [← hWc]; exact ⟨SlV.lit (s := 32) u20ab (· = u20ab.heap.size) 45 (hcells [oth]) (by rw [hcells_len _ Hol32.out]; rfl) (by unfold maxLen; decide) rfl, rfl, Hol32.out⟩
              have l10 : u20ab.heap.size < u20abc.heap.size := by rw [← hWc]; simp
              try have hne := Nat.ne_of_lt (o6.lt _ rfl).2
              replace hS := hS.trans (hA.mono hS.size)
              refine wpMix_run (by kernel_rfl) (.slice (some ⟨u20ab.heap.size, 0, none⟩) 1 1) u20abc ((run_lit_op [oth] Hol32.out (by simp) (by simp) 1 _ rfl (by simp [Act.eval]) rfl _).trans (by rw [hWc])) hS ?_
              simp only [Act.put]
              try replace o6 := owns_step o6 hA
              try replace o8 := owns_step o8 hA
              clear hA hWc
              obtain ⟨v11, u20abcd, hr11, o11, hg11, -⟩ := append_slv (ty := 22) Try.underlying22 info26z (by simp [Value.cells]) (by decide) o8 h10.sl (oneB _) (by unfold maxLen; omega) (by omega) hS.size
              rw [← hcells_append] at o11
              replace hS := hS.grown hg11 hS.size (fun k hk => (o8.lt k hk).1)
              obtain ⟨A11, c11, rfl, h11⟩ := Hs.of_owns o11 (by rw [List.length_append, Hnp.out]; rfl) (hp.all.append Hol32.out)
              replace h11 := h11.weak (Y := fun _ => True) fun _ _ _ => trivial
              have hr11' := h11.sl.room
              have hm11 := h11.sl.max
              unfold maxLen at hm11
              refine wpMix_run (by kernel_rfl) (.slice A11 (np + 1) c11) u20abcd (run_append_op (.tmp 146) (.tmp 148) 22 rfl _ _ rfl rfl hr11) hS ?_
              simp only [Act.put]
              clear hr11 hg11 o8 h10 o11
              refine wpMix_c (fun K hK => ?_) hS
              go_simp
              refine (Hc3.out _ _ u20abcd h11).mono ?_
              rintro e u20_1 ⟨rfl, hb'⟩
              refine hK _ _ ?_
              clear hK K
              replace hS := hS.trans (hb'.mono hS.size)
              refine ⟨hS, ?_⟩
              clear hb'
              refine wpMix_c (fun K hK => ?_) hS
              go_simp
              refine (num11_any _ u20_1).mono ?_
              rintro e _ ⟨rfl, rfl⟩
              refine hK _ _ ?_
              clear hK K
              refine ⟨hS, ?_⟩
              refine wpMix_s (fun K hK => ?_)
              go_simp
              refine hK _ ?_
              clear hK K
              refine wpMix_s (fun K hK => ?_)
              go_simp
              refine hK _ ?_
              clear hK K
              refine wpMix_s (fun K hK => ?_)
              go_simp
              refine hK _ ?_
              clear hK K
              refine wpMix_s (fun K hK => ?_)
              go_simp
              refine hK _ ?_
              clear hK K
              refine wpMix_s (fun K hK => ?_)
              go_simp
              refine hK _ ?_
              clear hK K
              refine wpMix_s (fun K hK => ?_)
              go_simp
              refine hK _ ?_
              clear hK K
              refine wpMix_s (fun K hK => ?_)
              go_simp
              refine hK _ ?_
              clear hK K
              refine wpMix_s (fun K hK => ?_)
              go_simp
              refine hK _ ?_
              clear hK K
              refine wpMix_s (fun K hK => ?_)
              go_simp
              refine hK _ ?_
              clear hK K
              refine wpMix_s (fun K hK => ?_)
              go_simp
              refine hK _ ?_
              clear hK K
              refine wpMix_s (fun K hK => ?_)
              go_simp
              refine hK _ ?_
              clear hK K
              refine wpMix_s (fun K hK => ?_)
              go_simp
              refine hK _ ?_
              clear hK K
              refine wpMix_s (fun K hK => ?_)
              go_simp
              refine hK _ ?_
              clear hK K
              refine wpMix_s (fun K hK => ?_)
              go_simp
              refine hK _ ?_
              clear hK K
              refine wpMix_c (fun K hK => ?_) hS
              go_simp
              refine hK _ _ ?_
              clear hK K
              refine ⟨hS, ?_⟩
              refine wpMix_c (fun K hK => ?_) hS
              go_simp
              refine hK _ _ ?_
              clear hK K
              refine ⟨hS, ?_⟩
              refine wpMix_s (fun K hK => ?_)
              go_simp
              refine hK _ ?_
              clear hK K
              refine wpMix_s (fun K hK => ?_)
              go_simp
              refine hK _ ?_
              clear hK K
              refine wpMix_s (fun K hK => ?_)
              go_simp
              refine hK _ ?_
              clear hK K
              refine wpMix_nil ?_
              intro _
              refine wpAnyH_end (by kernel_rfl) ?_
              refine ⟨?_, hS⟩
              kernel_rfl
            · simp only [Array.getD_eq_getD_getElem?, List.getElem?_toArray, List.getElem?_cons_succ, List.getElem?_cons_zero, Option.getD_some]
              obtain ⟨u20ac, hWc⟩ : ∃ V, u20a.alloc (.cells (hcells [oth]).toArray 45) = V := ⟨_, rfl⟩
              have hA : Below u20a.heap.size u20a u20ac := by rw [← hWc]; exact (Below.refl _ _).alloc (Nat.le_refl _) _
              have h10 : Hs u20ac (· = u20a.heap.size) (some ⟨u20a.heap.size, 0, none⟩) 1 1 [oth] := by rw [← hWc]; exact ⟨SlV.lit (s := 32) u20a (· = u20a.heap.size) 45 (hcells [oth]) (by rw [hcells_len _ Hol32.out]; rfl) (by unfold maxLen; decide) rfl, rfl, Hol32.out⟩
              have l10 : u20a.heap.size < u20ac.heap.size := by rw [← hWc]; simp
              try have hne := Nat.ne_of_lt (o6.lt _ rfl).2
              replace hS := hS.trans (hA.mono hS.size)
              refine wpMix_run (by kernel_rfl) (.slice (some ⟨u20a.heap.size, 0, none⟩) 1 1) u20ac ((run_lit_op [oth] Hol32.out (by simp) (by simp) 1 _ rfl (by simp [Act.eval]) rfl _).trans (by rw [hWc])) hS ?_
              simp only [Act.put]
              try replace o6 := owns_step o6 hA
              try replace o8 := owns_step o8 hA
              clear hA hWc
              refine wpMix_nil ?_
              intro _
              show wpAnyH _ _ _ _ _ _ #[true, true, true, true, true, true, true, true, false, true, true, false, false, false, false, false, false, false, false, false, false, false, false, false, false, false, false, false, false, false, false, false, false] _ _
              refine wpAnyH_pre (f := 0) (by kernel_rfl) #[true, true, true, true, true, true, true, true, true, true, true, true, true, true, true, true, true, true, true, true, true, true, true, true, true, true, true, true, true, true, true, true, true] [(8, false), (11, false), (12, false), (13, false), (14, true), (15, true), (16, true), (17, true), (18, true), (19, true), (20, true), (21, true), (22, true), (23, true), (24, true), (25, true), (26, true), (27, true), (28, false), (29, false), (30, true), (31, true), (32, true)] _ _ _ (by kernel_rfl) hS ?_
              simp only [List.map_cons, List.map_nil, Array.getD_eq_getD_getElem?, List.getElem?_toArray, List.getElem?_cons_succ, List.getElem?_cons_zero, Option.getD_some]
              obtain ⟨v8, u20acb, hr8, o8, hg8, -⟩ := append_slv (ty := 22) Try.underlying22 info26z (by simp [Value.cells]) (by decide) o6 (hp.step hS).sl (oneB _) (by unfold maxLen; omega) (by omega) hS.size
              rw [List.nil_append, Nat.zero_add] at o8
              try replace h10 := h10.grown hg8 (fun b _ hx e => hne ((Option.some.inj e).symm.trans hx))
              replace hS := hS.grown hg8 hS.size (fun k hk => (o6.lt k hk).1)
              refine wpMix_run (by kernel_rfl) v8 u20acb (run_append_op (.tmp 144) (.tmp 145) 22 rfl _ _ rfl rfl hr8) hS ?_
              simp only [Act.put]
              clear hr8 hg8 o6
              obtain ⟨v11, u20acbd, hr11, o11, hg11, -⟩ := append_slv (ty := 22) Try.underlying22 info26z (by simp [Value.cells]) (by decide) o8 h10.sl (oneB _) (by unfold maxLen; omega) (by omega) hS.size
              rw [← hcells_append] at o11
              replace hS := hS.grown hg11 hS.size (fun k hk => (o8.lt k hk).1)
              obtain ⟨A11, c11, rfl, h11⟩ := Hs.of_owns o11 (by rw [List.length_append, Hnp.out]; rfl) (hp.all.append Hol32.out)
              replace h11 := h11.weak (Y := fun _ => True) fun _ _ _ => trivial
              have hr11' := h11.sl.room
              have hm11 := h11.sl.max
              unfold maxLen at hm11
              refine wpMix_run (by kernel_rfl) (.slice A11 (np + 1) c11) u20acbd (run_append_op (.tmp 146) (.tmp 148) 22 rfl _ _ rfl rfl hr11) hS ?_
              simp only [Act.put]
              clear hr11 hg11 o8 h10 o11
              refine wpMix_c (fun K hK => ?_) hS
              go_simp
              refine (Hc3.out _ _ u20acbd h11).mono ?_
              rintro e u20_2 ⟨rfl, hb'⟩
              refine hK _ _ ?_
              clear hK K
              replace hS := hS.trans (hb'.mono hS.size)
              refine ⟨hS, ?_⟩
              clear hb'
              refine wpMix_c (fun K hK => ?_) hS
              go_simp
              refine (num11_any _ u20_2).mono ?_
              rintro e _ ⟨rfl, rfl⟩
              refine hK _ _ ?_
              clear hK K
              refine ⟨hS, ?_⟩
              refine wpMix_s (fun K hK => ?_)
              go_simp
              refine hK _ ?_
              clear hK K
              refine wpMix_s (fun K hK => ?_)
              go_simp
              refine hK _ ?_
              clear hK K
              refine wpMix_s (fun K hK => ?_)
              go_simp
              refine hK _ ?_
              clear hK K
              refine wpMix_s (fun K hK => ?_)
              go_simp
              refine hK _ ?_
              clear hK K
              refine wpMix_s (fun K hK => ?_)
              go_simp
              refine hK _ ?_
              clear hK K
              refine wpMix_s (fun K hK => ?_)
              go_simp
              refine hK _ ?_
              clear hK K
              refine wpMix_s (fun K hK => ?_)
              go_simp
              refine hK _ ?_
              clear hK K
              refine wpMix_s (fun K hK => ?_)
              go_simp
              refine hK _ ?_
              clear hK K
              refine wpMix_s (fun K hK => ?_)
              go_simp
              refine hK _ ?_
              clear hK K
              refine wpMix_s (fun K hK => ?_)
              go_simp
              refine hK _ ?_
              clear hK K
              refine wpMix_s (fun K hK => ?_)
              go_simp
              refine hK _ ?_
              clear hK K
              refine wpMix_s (fun K hK => ?_)
              go_simp
              refine hK _ ?_
              clear hK K
              refine wpMix_s (fun K hK => ?_)
              go_simp
              refine hK _ ?_
              clear hK K
              refine wpMix_s (fun K hK => ?_)
              go_simp
              refine hK _ ?_
              clear hK K
              refine wpMix_c (fun K hK => ?_) hS
              go_simp
              refine hK _ _ ?_
              clear hK K
              refine ⟨hS, ?_⟩
              refine wpMix_c (fun K hK => ?_) hS
              go_simp
              refine hK _ _ ?_
              clear hK K
              refine ⟨hS, ?_⟩
              refine wpMix_s (fun K hK => ?_)
              go_simp
              refine hK _ ?_
              clear hK K
              refine wpMix_s (fun K hK => ?_)
              go_simp
              refine hK _ ?_
              clear hK K
              refine wpMix_s (fun K hK => ?_)
              go_simp
              refine hK _ ?_
              clear hK K
              refine wpMix_nil ?_
              intro _
              refine wpAnyH_end (by kernel_rfl) ?_
              refine ⟨?_, hS⟩
              kernel_rfl
          · simp only [Array.getD_eq_getD_getElem?, List.getElem?_toArray, List.getElem?_cons_succ, List.getElem?_cons_zero, Option.getD_some]
            obtain ⟨u20c, hWc⟩ : ∃ V, u20.alloc (.cells (hcells [oth]).toArray 45) = V := ⟨_, rfl⟩
            have hA : Below u20.heap.size u20 u20c := by rw [← hWc]; exact (Below.refl _ _).alloc (Nat.le_refl _) _
            have h10 : Hs u20c (· = u20.heap.size) (some ⟨u20.heap.size, 0, none⟩) 1 1 [oth] := by rw [← hWc]; exact ⟨SlV.lit (s := 32) u20 (· = u20.heap.size) 45 (hcells [oth]) (by rw [hcells_len _ Hol32.out]; rfl) (by unfold maxLen; decide) rfl, rfl, Hol32.out⟩
            have l10 : u20.heap.size < u20c.heap.size := by rw [← hWc]; simp
            try have hne := Nat.ne_of_lt (o6.lt _ rfl).2
            replace hS := hS.trans (hA.mono hS.size)
            refine wpMix_run (by kernel_rfl) (.slice (some ⟨u20.heap.size, 0, none⟩) 1 1) u20c ((run_lit_op [oth] Hol32.out (by simp) (by simp) 1 _ rfl (by simp [Act.eval]) rfl _).trans (by rw [hWc])) hS ?_
            simp only [Act.put]
            try replace o6 := owns_step o6 hA
            try replace o8 := owns_step o8 hA
            clear hA hWc
            refine wpMix_nil ?_
            intro _
            show wpAnyH _ _ _ _ _ _ #[true, true, true, true, true, true, false, true, false, true, true, false, false, false, false, false, false, false, false, false, false, false, false, false, false, false, false, false, false, false, false, false, false] _ _
            refine wpAnyH_pre (f := 0) (by kernel_rfl) #[true, true, true, true, true, true, true, true, true, true, true, true, true, true, true, true, true, true, true, true, true, true, true, true, true, true, true, true, true, true, true, true, true] [(6, false), (8, false), (11, false), (12, false), (13, false), (14, true), (15, true), (16, true), (17, true), (18, true), (19, true), (20, true), (21, true), (22, true), (23, true), (24, true), (25, true), (26, true), (27, true), (28, false), (29, false), (30, true), (31, true), (32, true)] _ _ _ (by kernel_rfl) hS ?_
            simp only [List.map_cons, List.map_nil, Array.getD_eq_getD_getElem?, List.getElem?_toArray, List.getElem?_cons_succ, List.getElem?_cons_zero, Option.getD_some]
            obtain ⟨u20ca, hWa⟩ : ∃ V, u20c.alloc (.cells #[] 45) = V := ⟨_, rfl⟩
            have hA : Below u20c.heap.size u20c u20ca := by rw [← hWa]; exact (Below.refl _ _).alloc (Nat.le_refl _) _
            have o6 : u20ca.ownsRow wr.heap.size 45 32 (.slice (some ⟨u20c.heap.size, 0, none⟩) 0 0) 0 [] := by rw [← hWa]; exact World.ownsRow_lit (base := wr.heap.size) (e := 45) (size := 32) u20c #[] 0 hS.size (by unfold maxLen; decide) (by simp)
            try have hne := Nat.ne_of_gt l10
            refine wpMix_c (fun K hK => ?_) hS
            go_simp
            try rw [hWa]
            refine hK _ _ ?_
            clear hK K
            replace hS := hS.trans (hA.mono hS.size)
            refine ⟨hS, ?_⟩
            try replace h10 := h10.step hA
            clear hA hWa
            obtain ⟨v8, u20cab, hr8, o8, hg8, -⟩ := append_slv (ty := 22) Try.underlying22 info26z (by simp [Value.cells]) (by decide) o6 (hp.step hS).sl (oneB _) (by unfold maxLen; omega) (by omega) hS.size
            rw [List.nil_append, Nat.zero_add] at o8
            try replace h10 := h10.grown hg8 (fun b _ hx e => hne ((Option.some.inj e).symm.trans hx))
            replace hS := hS.grown hg8 hS.size (fun k hk => (o6.lt k hk).1)
            refine wpMix_run (by kernel_rfl) v8 u20cab (run_append_op (.tmp 144) (.tmp 145) 22 rfl _ _ rfl rfl hr8) hS ?_
            simp only [Act.put]
            clear hr8 hg8 o6
            obtain ⟨v11, u20cabd, hr11, o11, hg11, -⟩ := append_slv (ty := 22) Try.underlying22 info26z (by simp [Value.cells]) (by decide) o8 h10.sl (oneB _) (by unfold maxLen; omega) (by omega) hS.size
            rw [← hcells_append] at o11
            replace hS := hS.grown hg11 hS.size (fun k hk => (o8.lt k hk).1)
            obtain ⟨A11, c11, rfl, h11⟩ := Hs.of_owns o11 (by rw [List.length_append, Hnp.out]; rfl) (hp.all.append Hol32.out)
            replace h11 := h11.weak (Y := fun _ => True) fun _ _ _ => trivial
            have hr11' := h11.sl.room
            have hm11 := h11.sl.max
            unfold maxLen at hm11
            refine wpMix_run (by kernel_rfl) (.slice A11 (np + 1) c11) u20cabd (run_append_op (.tmp 146) (.tmp 148) 22 rfl _ _ rfl rfl hr11) hS ?_
            simp only [Act.put]
            clear hr11 hg11 o8 h10 o11
            refine wpMix_c (fun K hK => ?_) hS
            go_simp
            refine (Hc3.out _ _ u20cabd h11).mono ?_
            rintro e u20_3 ⟨rfl, hb'⟩
            refine hK _ _ ?_
            clear hK K
            replace hS := hS.trans (hb'.mono hS.size)
            refine ⟨hS, ?_⟩
            clear hb'
            refine wpMix_c (fun K hK => ?_) hS
            go_simp
            refine (num11_any _ u20_3).mono ?_
            rintro e _ ⟨rfl, rfl⟩
            refine hK _ _ ?_
            clear hK K
            refine ⟨hS, ?_⟩
            refine wpMix_s (fun K hK => ?_)
            go_simp
            refine hK _ ?_
            clear hK K
            refine wpMix_s (fun K hK => ?_)
            go_simp
            refine hK _ ?_
            clear hK K
            refine wpMix_s (fun K hK => ?_)
            go_simp
            refine hK _ ?_
            clear hK K
            refine wpMix_s (fun K hK => ?_)
            go_simp
            refine hK _ ?_
            clear hK K
            refine wpMix_s (fun K hK => ?_)
            go_simp
            refine hK _ ?_
            clear hK K
            refine wpMix_s (fun K hK => ?_)
            go_simp
            refine hK _ ?_
            clear hK K
            refine wpMix_s (fun K hK => ?_)
            go_simp
            refine hK _ ?_
            clear hK K
            refine wpMix_s (fun K hK => ?_)
            go_simp
            refine hK _ ?_
            clear hK K
            refine wpMix_s (fun K hK => ?_)
            go_simp
            refine hK _ ?_
            clear hK K
            refine wpMix_s (fun K hK => ?_)
            go_simp
            refine hK _ ?_
            clear hK K
            refine wpMix_s (fun K hK => ?_)
            go_simp
            refine hK _ ?_
            clear hK K
            refine wpMix_s (fun K hK => ?_)
            go_simp
            refine hK _ ?_
            clear hK K
            refine wpMix_s (fun K hK => ?_)
            go_simp
            refine hK _ ?_
            clear hK K
            refine wpMix_s (fun K hK => ?_)
            go_simp
            refine hK _ ?_
            clear hK K
            refine wpMix_c (fun K hK => ?_) hS
            go_simp
            refine hK _ _ ?_
            clear hK K
            refine ⟨hS, ?_⟩
            refine wpMix_c (fun K hK => ?_) hS
            go_simp
            refine hK _ _ ?_
            clear hK K
            refine ⟨hS, ?_⟩
            refine wpMix_s (fun K hK => ?_)
            go_simp
            refine hK _ ?_
            clear hK K
            refine wpMix_s (fun K hK => ?_)
            go_simp
            refine hK _ ?_
            clear hK K
            refine wpMix_s (fun K hK => ?_)
            go_simp
            refine hK _ ?_
            clear hK K
            refine wpMix_nil ?_
            intro _
            refine wpAnyH_end (by kernel_rfl) ?_
            refine ⟨?_, hS⟩
            kernel_rfl
        · have hdn : decide ((0 : Int) < (np : Int)) = true := by simp; omega
          have hdn2 : 0 < np := by omega
          have hc4 := fun A c W (h : Hs W (fun _ => True) A (np - 1) c (ps.drop 1)) => Hcq.out (ps.drop 1) A (np - 1) c W h
          rw [Hlg.out (ps.drop 1) (by rw [List.length_drop, Hnp.out]; omega)] at hc4
          have Hc4 := Lib.hid hc4
          clear hc4
          have hS : Below (wr.heap.size) wr wr.drew := (Below.refl _ _).drew
          refine wp_region_begin (fun W => Below (wr.heap.size) wr W) (by kernel_rfl) hS fun _ => ?_
          generalize wr.drew = u20 at hS  ⊢
          refine wpAnyH_pre (f := 25) (by kernel_rfl) #[true, true, true, true, true, true, false, true, false, true, false, false, false, false, false, false, false, false, false, false, false, false, false, false, false, false, false, false, false, false, false, false, false] [(0, true), (1, true), (2, true), (3, true), (4, true), (5, true), (7, true), (9, true)] _ _ _ (by kernel_rfl) hS ?_
          simp only [List.map_cons, List.map_nil, Array.getD_eq_getD_getElem?, List.getElem?_toArray, List.getElem?_cons_succ, List.getElem?_cons_zero, Option.getD_some]
          refine wpMix_s (fun K hK => ?_)
          go_simp
          refine hK _ ?_
          clear hK K
          refine wpMix_s (fun K hK => ?_)
          go_simp
          refine hK _ ?_
          clear hK K
          refine wpMix_s (fun K hK => ?_)
          go_simp
          refine hK _ ?_
          clear hK K
          refine wpMix_load (by kernel_rfl) 45 (.tmp 140) rfl (al) (ol + k * 32) rfl (leaf.map B).toArray (LL.out) ?_
          simp only [Act.put]
          refine wpMix_s (fun K hK => ?_)
          go_simp
          refine hK _ ?_
          clear hK K
          refine wpMix_load (by kernel_rfl) 47 (.tmp 11) rfl (g11) (0) rfl (.int .i64 (ln : Int) :: root.map B).toArray (LP.out) ?_
          simp only [Act.put]
          refine wpMix_s (fun K hK => ?_)
          go_simp
          refine hK _ ?_
          clear hK K
          refine wpMix_load (by kernel_rfl) 45 (.tmp 5) rfl (w.heap.size) (0) rfl (oth.map B).toArray (L5.out) ?_
          simp only [Act.put]
          refine wpMix_nil ?_
          intro _
          refine wpAnyH_fork (f := 24) (i := 6) (j := 10) (by kernel_rfl) hS ?_ ?_
          · simp only [Array.getD_eq_getD_getElem?, List.getElem?_toArray, List.getElem?_cons_succ, List.getElem?_cons_zero, Option.getD_some]
            obtain ⟨u20a, hWa⟩ : ∃ V, u20.alloc (.cells #[] 45) = V := ⟨_, rfl⟩
            have hA : Below u20.heap.size u20 u20a := by rw [← hWa]; exact (Below.refl _ _).alloc (Nat.le_refl _) _
            have o6 : u20a.ownsRow wr.heap.size 45 32 (.slice (some ⟨u20.heap.size, 0, none⟩) 0 0) 0 [] := by rw [← hWa]; exact World.ownsRow_lit (base := wr.heap.size) (e := 45) (size := 32) u20 #[] 0 hS.size (by unfold maxLen; decide) (by simp)
            try have hne := Nat.ne_of_gt l10
            refine wpMix_c (fun K hK => ?_) hS
            go_simp
            try rw [hWa]
            refine hK _ _ ?_
            clear hK K
            replace hS := hS.trans (hA.mono hS.size)
            refine ⟨hS, ?_⟩
            try replace h10 := h10.step hA
            clear hA hWa
            refine wpMix_nil ?_
            intro _
            show wpAnyH _ _ _ _ _ _ #[true, true, true, true, true, true, true, true, false, true, false, false, false, false, false, false, false, false, false, false, false, false, false, false, false, false, false, false, false, false, false, false, false] _ _
            refine wpAnyH_fork (f := 23) (i := 8) (j := 10) (by kernel_rfl) hS ?_ ?_
            · simp only [Array.getD_eq_getD_getElem?, List.getElem?_toArray, List.getElem?_cons_succ, List.getElem?_cons_zero, Option.getD_some]
              obtain ⟨v8, u20ab, hr8, o8, hg8, -⟩ := append_slv (ty := 22) Try.underlying22 info26z (by simp [Value.cells]) (by decide) o6 (hp.step hS).sl (oneB _) (by unfold maxLen; omega) (by omega) hS.size
              rw [List.nil_append, Nat.zero_add] at o8
              try replace h10 := h10.grown hg8 (fun b _ hx e => hne ((Option.some.inj e).symm.trans hx))
              replace hS := hS.grown hg8 hS.size (fun k hk => (o6.lt k hk).1)
              refine wpMix_run (by kernel_rfl) v8 u20ab (run_append_op (.tmp 144) (.tmp 145) 22 rfl _ _ rfl rfl hr8) hS ?_
              simp only [Act.put]
              clear hr8 hg8 o6
              refine wpMix_nil ?_
              intro _
              show wpAnyH _ _ _ _ _ _ #[true, true, true, true, true, true, true, true, true, true, false, false, false, false, false, false, false, false, false, false, false, false, false, false, false, false, false, false, false, false, false, false, false] _ _
              refine wpAnyH_pre (f := 0) (by kernel_rfl) #[true, true, true, true, true, true, true, true, true, true, true, true, true, true, true, true, true, true, true, true, true, true, true, true, true, true, true, true, true, true, true, true, true] [(10, false), (11, false), (12, false), (13, false), (14, true), (15, true), (16, true), (17, true), (18, true), (19, true), (20, true), (21, true), (22, true), (23, true), (24, true), (25, true), (26, true), (27, true), (28, false), (29, false), (30, true), (31, true), (32, true)] _ _ _ (by kernel_rfl) hS ?_
              simp only [List.map_cons, List.map_nil, Array.getD_eq_getD_getElem?, List.getElem?_toArray, List.getElem?_cons_succ, List.getElem?_cons_zero, Option.getD_some]
              obtain ⟨u20abc, hWc⟩ : ∃ V, u20ab.alloc (.cells (hcells [oth]).toArray 45) = V := ⟨_, rfl⟩
              have hA : Below u20ab.heap.size u20ab u20abc := by rw [← hWc]; exact (Below.refl _ _).alloc (Nat.le_refl _) _
              have h10 : Hs u20abc (· = u20ab.heap.size) (some ⟨u20ab.heap.size, 0, none⟩) 1 1 [oth] := by rw [← hWc]; exact ⟨SlV.lit (s := 32) u20ab (· = u20ab.heap.size) 45 (hcells [oth]) (by rw [hcells_len _ Hol32.out]; rfl) (by unfold maxLen; decide) rfl, rfl, Hol32.out⟩
              have l10 : u20ab.heap.size < u20abc.heap.size := by rw [← hWc]; simp
              try have hne := Nat.ne_of_lt (o6.lt _ rfl).2
              replace hS := hS.trans (hA.mono hS.size)
              refine wpMix_run (by kernel_rfl) (.slice (some ⟨u20ab.heap.size, 0, none⟩) 1 1) u20abc ((run_lit_op [oth] Hol32.out (by simp) (by simp) 1 _ rfl (by simp [Act.eval]) rfl _).trans (by rw [hWc])) hS ?_
              simp only [Act.put]
              try replace o6 := owns_step o6 hA
              try replace o8 := owns_step o8 hA
              clear hA hWc
              obtain ⟨v11, u20abcd, hr11, o11, hg11, -⟩ := append_slv (ty := 22) Try.underlying22 info26z (by simp [Value.cells]) (by decide) o8 h10.sl (oneB _) (by unfold maxLen; omega) (by omega) hS.size
              rw [← hcells_append] at o11
              replace hS := hS.grown hg11 hS.size (fun k hk => (o8.lt k hk).1)
              obtain ⟨A11, c11, rfl, h11⟩ := Hs.of_owns o11 (by rw [List.length_append, Hnp.out]; rfl) (hp.all.append Hol32.out)
              replace h11 := h11.weak (Y := fun _ => True) fun _ _ _ => trivial
              have hr11' := h11.sl.room
              have hm11 := h11.sl.max
              unfold maxLen at hm11
              refine wpMix_run (by kernel_rfl) (.slice A11 (np + 1) c11) u20abcd (run_append_op (.tmp 146) (.tmp 148) 22 rfl _ _ rfl rfl hr11) hS ?_
              simp only [Act.put]
              clear hr11 hg11 o8 h10 o11
              refine wpMix_c (fun K hK => ?_) hS
              go_simp
              refine (Hc3.out _ _ u20abcd h11).mono ?_
              rintro e u20_1 ⟨rfl, hb'⟩
              refine hK _ _ ?_
              clear hK K
              replace hS := hS.trans (hb'.mono hS.size)
              refine ⟨hS, ?_⟩
              clear hb'
              refine wpMix_c (fun K hK => ?_) hS
              go_simp
              refine (num11_any _ u20_1).mono ?_
              rintro e _ ⟨rfl, rfl⟩
              refine hK _ _ ?_
              clear hK K
              refine ⟨hS, ?_⟩
              refine wpMix_s (fun K hK => ?_)
              go_simp
              refine hK _ ?_
              clear hK K
              refine wpMix_s (fun K hK => ?_)
              go_simp
              refine hK _ ?_
              clear hK K
              refine wpMix_s (fun K hK => ?_)
              go_simp
              refine hK _ ?_
              clear hK K
              refine wpMix_s (fun K hK => ?_)
              go_simp
              refine hK _ ?_
              clear hK K
              refine wpMix_s (fun K hK => ?_)
              go_simp
              refine hK _ ?_
              clear hK K
              refine wpMix_s (fun K hK => ?_)
              go_simp
              refine hK _ ?_
              clear hK K
              refine wpMix_s (fun K hK => ?_)
              go_simp
              refine hK _ ?_
              clear hK K
              refine wpMix_s (fun K hK => ?_)
              go_simp
              refine hK _ ?_
              clear hK K
              refine wpMix_s (fun K hK => ?_)
              go_simp
              refine hK _ ?_
              clear hK K
              refine wpMix_load (by kernel_rfl) 45 (.tmp 160) rfl (al) (ol + k * 32) rfl (leaf.map B).toArray (LL.out) ?_
              simp only [Act.put]
              refine wpMix_s (fun K hK => ?_)
              go_simp
              refine hK _ ?_
              clear hK K
              refine wpMix_load (by kernel_rfl) 47 (.tmp 11) rfl (g11) (0) rfl (.int .i64 (ln : Int) :: root.map B).toArray (LP.out) ?_
              simp only [Act.put]
              refine wpMix_s (fun K hK => ?_)
              go_simp
              refine hK _ ?_
              clear hK K
              refine wpMix_v (by kernel_rfl) (.slice (if cp = 1 then Ap else Ap.map (·.add (1 * 32))) (np - 1) (cp - 1)) (fun s => run_slice_op_lo (.tmp 164) (.const (.int .i64 1)) rfl Ap np cp 1 rfl rfl (by omega) s.W) ?_
              simp only [Act.put]
              refine wpMix_c (fun K hK => ?_) hS
              go_simp
              refine (Hc4.out _ _ u20_1 ((hp.step hS).drop 1 (by omega))).mono ?_
              rintro e u20_2 ⟨rfl, hb'⟩
              refine hK _ _ ?_
              clear hK K
              replace hS := hS.trans (hb'.mono hS.size)
              refine ⟨hS, ?_⟩
              clear hb'
              refine wpMix_c (fun K hK => ?_) hS
              go_simp
              refine (num11_any _ u20_2).mono ?_
              rintro e _ ⟨rfl, rfl⟩
              refine hK _ _ ?_
              clear hK K
              refine ⟨hS, ?_⟩
              refine wpMix_s (fun K hK => ?_)
              go_simp
              refine hK _ ?_
              clear hK K
              refine wpMix_s (fun K hK => ?_)
              go_simp
              refine hK _ ?_
              clear hK K
              refine wpMix_s (fun K hK => ?_)
              go_simp
              refine hK _ ?_
              clear hK K
              refine wpMix_nil ?_
              intro _
              refine wpAnyH_end (by kernel_rfl) ?_
              refine ⟨?_, hS⟩
              kernel_rfl
            · simp only [Array.getD_eq_getD_getElem?, List.getElem?_toArray, List.getElem?_cons_succ, List.getElem?_cons_zero, Option.getD_some]
              obtain ⟨u20ac, hWc⟩ : ∃ V, u20a.alloc (.cells (hcells [oth]).toArray 45) = V := ⟨_, rfl⟩
              have hA : Below u20a.heap.size u20a u20ac := by rw [← hWc]; exact (Below.refl _ _).alloc (Nat.le_refl _) _
              have h10 : Hs u20ac (· = u20a.heap.size) (some ⟨u20a.heap.size, 0, none⟩) 1 1 [oth] := by rw [← hWc]; exact ⟨SlV.lit (s := 32) u20a (· = u20a.heap.size) 45 (hcells [oth]) (by rw [hcells_len _ Hol32.out]; rfl) (by unfold maxLen; decide) rfl, rfl, Hol32.out⟩
              have l10 : u20a.heap.size < u20ac.heap.size := by rw [← hWc]; simp
              try have hne := Nat.ne_of_lt (o6.lt _ rfl).2
              replace hS := hS.trans (hA.mono hS.size)
              refine wpMix_run (by kernel_rfl) (.slice (some ⟨u20a.heap.size, 0, none⟩) 1 1) u20ac ((run_lit_op [oth] Hol32.out (by simp) (by simp) 1 _ rfl (by simp [Act.eval]) rfl _).trans (by rw [hWc])) hS ?_
              simp only [Act.put]
              try replace o6 := owns_step o6 hA
              try replace o8 := owns_step o8 hA
              clear hA hWc
              refine wpMix_nil ?_
              intro _
              show wpAnyH _ _ _ _ _ _ #[true, true, true, true, true, true, true, true, false, true, true, false, false, false, false, false, false, false, false, false, false, false, false, false, false, false, false, false, false, false, false, false, false] _ _
              refine wpAnyH_pre (f := 0) (by kernel_rfl) #[true, true, true, true, true, true, true, true, true, true, true, true, true, true, true, true, true, true, true, true, true, true, true, true, true, true, true, true, true, true, true, true, true] [(8, false), (11, false), (12, false), (13, false), (14, true), (15, true), (16, true), (17, true), (18, true), (19, true), (20, true), (21, true), (22, true), (23, true), (24, true), (25, true), (26, true), (27, true), (28, false), (29, false), (30, true), (31, true), (32, true)] _ _ _ (by kernel_rfl) hS ?_
              simp only [List.map_cons, List.map_nil, Array.getD_eq_getD_getElem?, List.getElem?_toArray, List.getElem?_cons_succ, List.getElem?_cons_zero, Option.getD_some]
              obtain ⟨v8, u20acb, hr8, o8, hg8, -⟩ := append_slv (ty := 22) Try.underlying22 info26z (by simp [Value.cells]) (by decide) o6 (hp.step hS).sl (oneB _) (by unfold maxLen; omega) (by omega) hS.size
              rw [List.nil_append, Nat.zero_add] at o8
              try replace h10 := h10.grown hg8 (fun b _ hx e => hne ((Option.some.inj e).symm.trans hx))
              replace hS := hS.grown hg8 hS.size (fun k hk => (o6.lt k hk).1)
              refine wpMix_run (by kernel_rfl) v8 u20acb (run_append_op (.tmp 144) (.tmp 145) 22 rfl _ _ rfl rfl hr8) hS ?_
              simp only [Act.put]
              clear hr8 hg8 o6
              obtain ⟨v11, u20acbd, hr11, o11, hg11, -⟩ := append_slv (ty := 22) Try.underlying22 info26z (by simp [Value.cells]) (by decide) o8 h10.sl (oneB _) (by unfold maxLen; omega) (by omega) hS.size
              rw [← hcells_append] at o11
              replace hS := hS.grown hg11 hS.size (fun k hk => (o8.lt k hk).1)
              obtain ⟨A11, c11, rfl, h11⟩ := Hs.of_owns o11 (by rw [List.length_append, Hnp.out]; rfl) (hp.all.append Hol32.out)
              replace h11 := h11.weak (Y := fun _ => True) fun _ _ _ => trivial
              have hr11' := h11.sl.room
              have hm11 := h11.sl.max
              unfold maxLen at hm11
              refine wpMix_run (by kernel_rfl) (.slice A11 (np + 1) c11) u20acbd (run_append_op (.tmp 146) (.tmp 148) 22 rfl _ _ rfl rfl hr11) hS ?_
              simp only [Act.put]
              clear hr11 hg11 o8 h10 o11
              refine wpMix_c (fun K hK => ?_) hS
              go_simp
              refine (Hc3.out _ _ u20acbd h11).mono ?_
              rintro e u20_3 ⟨rfl, hb'⟩
              refine hK _ _ ?_
              clear hK K
              replace hS := hS.trans (hb'.mono hS.size)
              refine ⟨hS, ?_⟩
              clear hb'
              refine wpMix_c (fun K hK => ?_) hS
              go_simp
              refine (num11_any _ u20_3).mono ?_
              rintro e _ ⟨rfl, rfl⟩
              refine hK _ _ ?_
              clear hK K
              refine ⟨hS, ?_⟩
              refine wpMix_s (fun K hK => ?_)
              go_simp
              refine hK _ ?_
              clear hK K
              refine wpMix_s (fun K hK => ?_)
              go_simp
              refine hK _ ?_
              clear hK K
              refine wpMix_s (fun K hK => ?_)
              go_simp
              refine hK _ ?_
              clear hK K
              refine wpMix_s (fun K hK => ?_)
              go_simp
              refine hK _ ?_
              clear hK K
              refine wpMix_s (fun K hK => ?_)
              go_simp
              refine hK _ ?_
              clear hK K
              refine wpMix_s (fun K hK => ?_)
              go_simp
              refine hK _ ?_
              clear hK K
              refine wpMix_s (fun K hK => ?_)
              go_simp
              refine hK _ ?_
              clear hK K
              refine wpMix_s (fun K hK => ?_)
              go_simp
              refine hK _ ?_
              clear hK K
              refine wpMix_s (fun K hK => ?_)
              go_simp
              refine hK _ ?_
              clear hK K
              refine wpMix_load (by kernel_rfl) 45 (.tmp 160) rfl (al) (ol + k * 32) rfl (leaf.map B).toArray (LL.out) ?_
              simp only [Act.put]
              refine wpMix_s (fun K hK => ?_)
              go_simp
              refine hK _ ?_
              clear hK K
              refine wpMix_load (by kernel_rfl) 47 (.tmp 11) rfl (g11) (0) rfl (.int .i64 (ln : Int) :: root.map B).toArray (LP.out) ?_
              simp only [Act.put]
              refine wpMix_s (fun K hK => ?_)
              go_simp
              refine hK _ ?_
              clear hK K
              refine wpMix_v (by kernel_rfl) (.slice (if cp = 1 then Ap else Ap.map (·.add (1 * 32))) (np - 1) (cp - 1)) (fun s => run_slice_op_lo (.tmp 164) (.const (.int .i64 1)) rfl Ap np cp 1 rfl rfl (by omega) s.W) ?_
              simp only [Act.put]
              refine wpMix_c (fun K hK => ?_) hS
              go_simp
              refine (Hc4.out _ _ u20_3 ((hp.step hS).drop 1 (by omega))).mono ?_
              rintro e u20_4 ⟨rfl, hb'⟩
              refine hK _ _ ?_
              clear hK K
              replace hS := hS.trans (hb'.mono hS.size)
              refine ⟨hS, ?_⟩
              clear hb'
              refine wpMix_c (fun K hK => ?_) hS
              go_simp
              refine (num11_any _ u20_4).mono ?_
              rintro e _ ⟨rfl, rfl⟩
              refine hK _ _ ?_
              clear hK K
              refine ⟨hS, ?_⟩
              refine wpMix_s (fun K hK => ?_)
              go_simp
              refine hK _ ?_
              clear hK K
              refine wpMix_s (fun K hK => ?_)
              go_simp
              refine hK _ ?_
              clear hK K
              refine wpMix_s (fun K hK => ?_)
              go_simp
              refine hK _ ?_
              clear hK K
              refine wpMix_nil ?_
              intro _
              refine wpAnyH_end (by kernel_rfl) ?_
              refine ⟨?_, hS⟩
              kernel_rfl
          · simp only [Array.getD_eq_getD_getElem?, List.getElem?_toArray, List.getElem?_cons_succ, List.getElem?_cons_zero, Option.getD_some]
            obtain ⟨u20c, hWc⟩ : ∃ V, u20.alloc (.cells (hcells [oth]).toArray 45) = V := ⟨_, rfl⟩
            have hA : Below u20.heap.size u20 u20c := by rw [← hWc]; exact (Below.refl _ _).alloc (Nat.le_refl _) _
            have h10 : Hs u20c (· = u20.heap.size) (some ⟨u20.heap.size, 0, none⟩) 1 1 [oth] := by rw [← hWc]; exact ⟨SlV.lit (s := 32) u20 (· = u20.heap.size) 45 (hcells [oth]) (by rw [hcells_len _ Hol32.out]; rfl) (by unfold maxLen; decide) rfl, rfl, Hol32.out⟩
            have l10 : u20.heap.size < u20c.heap.size := by rw [← hWc]; simp
            try have hne := Nat.ne_of_lt (o6.lt _ rfl).2
            replace hS := hS.trans (hA.mono hS.size)
            refine wpMix_run (by kernel_rfl) (.slice (some ⟨u20.heap.size, 0, none⟩) 1 1) u20c ((run_lit_op [oth] Hol32.out (by simp) (by simp) 1 _ rfl (by simp [Act.eval]) rfl _).trans (by rw [hWc])) hS ?_
            simp only [Act.put]
            try replace o6 := owns_step o6 hA
            try replace o8 := owns_step o8 hA
            clear hA hWc
            refine wpMix_nil ?_
            intro _
            show wpAnyH _ _ _ _ _ _ #[true, true, true, true, true, true, false, true, false, true, true, false, false, false, false, false, false, false, false, false, false, false, false, false, false, false, false, false, false, false, false, false, false] _ _
            refine wpAnyH_pre (f := 0) (by kernel_rfl) #[true, true, true, true, true, true, true, true, true, true, true, true, true, true, true, true, true, true, true, true, true, true, true, true, true, true, true, true, true, true, true, true, true] [(6, false), (8, false), (11, false), (12, false), (13, false), (14, true), (15, true), (16, true), (17, true), (18, true), (19, true), (20, true), (21, true), (22, true), (23, true), (24, true), (25, true), (26, true), (27, true), (28, false), (29, false), (30, true), (31, true), (32, true)] _ _ _ (by kernel_rfl) hS ?_
            simp only [List.map_cons, List.map_nil, Array.getD_eq_getD_getElem?, List.getElem?_toArray, List.getElem?_cons_succ, List.getElem?_cons_zero, Option.getD_some]
            obtain ⟨u20ca, hWa⟩ : ∃ V, u20c.alloc (.cells #[] 45) = V := ⟨_, rfl⟩
            have hA : Below u20c.heap.size u20c u20ca := by rw [← hWa]; exact (Below.refl _ _).alloc (Nat.le_refl _) _
            have o6 : u20ca.ownsRow wr.heap.size 45 32 (.slice (some ⟨u20c.heap.size, 0, none⟩) 0 0) 0 [] := by rw [← hWa]; exact World.ownsRow_lit (base := wr.heap.size) (e := 45) (size := 32) u20c #[] 0 hS.size (by unfold maxLen; decide) (by simp)
            try have hne := Nat.ne_of_gt l10
            refine wpMix_c (fun K hK => ?_) hS
            go_simp
            try rw [hWa]
            refine hK _ _ ?_
            clear hK K
            replace hS := hS.trans (hA.mono hS.size)
            refine ⟨hS, ?_⟩
            try replace h10 := h10.step hA
            clear hA hWa
            obtain ⟨v8, u20cab, hr8, o8, hg8, -⟩ := append_slv (ty := 22) Try.underlying22 info26z (by simp [Value.cells]) (by decide) o6 (hp.step hS).sl (oneB _) (by unfold maxLen; omega) (by omega) hS.size
            rw [List.nil_append, Nat.zero_add] at o8
            try replace h10 := h10.grown hg8 (fun b _ hx e => hne ((Option.some.inj e).symm.trans hx))
            replace hS := hS.grown hg8 hS.size (fun k hk => (o6.lt k hk).1)
            refine wpMix_run (by kernel_rfl) v8 u20cab (run_append_op (.tmp 144) (.tmp 145) 22 rfl _ _ rfl rfl hr8) hS ?_
            simp only [Act.put]
            clear hr8 hg8 o6
            obtain ⟨v11, u20cabd, hr11, o11, hg11, -⟩ := append_slv (ty := 22) Try.underlying22 info26z (by simp [Value.cells]) (by decide) o8 h10.sl (oneB _) (by unfold maxLen; omega) (by omega) hS.size
            rw [← hcells_append] at o11
            replace hS := hS.grown hg11 hS.size (fun k hk => (o8.lt k hk).1)
            obtain ⟨A11, c11, rfl, h11⟩ := Hs.of_owns o11 (by rw [List.length_append, Hnp.out]; rfl) (hp.all.append Hol32.out)
            replace h11 := h11.weak (Y := fun _ => True) fun _ _ _ => trivial
            have hr11' := h11.sl.room
            have hm11 := h11.sl.max
            unfold maxLen at hm11
            refine wpMix_run (by kernel_rfl) (.slice A11 (np + 1) c11) u20cabd (run_append_op (.tmp 146) (.tmp 148) 22 rfl _ _ rfl rfl hr11) hS ?_
            simp only [Act.put]
            clear hr11 hg11 o8 h10 o11
            refine wpMix_c (fun K hK => ?_) hS
            go_simp
            refine (Hc3.out _ _ u20cabd h11).mono ?_
            rintro e u20_5 ⟨rfl, hb'⟩
            refine hK _ _ ?_
            clear hK K
            replace hS := hS.trans (hb'.mono hS.size)
            refine ⟨hS, ?_⟩
            clear hb'
            refine wpMix_c (fun K hK => ?_) hS
            go_simp
            refine (num11_any _ u20_5).mono ?_
            rintro e _ ⟨rfl, rfl⟩
            refine hK _ _ ?_
            clear hK K
            refine ⟨hS, ?_⟩
            refine wpMix_s (fun K hK => ?_)
            go_simp
            refine hK _ ?_
            clear hK K
            refine wpMix_s (fun K hK => ?_)
            go_simp
            refine hK _ ?_
            clear hK K
            refine wpMix_s (fun K hK => ?_)
            go_simp
            refine hK _ ?_
            clear hK K
            refine wpMix_s (fun K hK => ?_)
            go_simp
            refine hK _ ?_
            clear hK K
            refine wpMix_s (fun K hK => ?_)
            go_simp
            refine hK _ ?_
            clear hK K
            refine wpMix_s (fun K hK => ?_)
            go_simp
            refine hK _ ?_
            clear hK K
            refine wpMix_s (fun K hK => ?_)
            go_simp
            refine hK _ ?_
            clear hK K
            refine wpMix_s (fun K hK => ?_)
            go_simp
            refine hK _ ?_
            clear hK K
            refine wpMix_s (fun K hK => ?_)
            go_simp
            refine hK _ ?_
            clear hK K
            refine wpMix_load (by kernel_rfl) 45 (.tmp 160) rfl (al) (ol + k * 32) rfl (leaf.map B).toArray (LL.out) ?_
            simp only [Act.put]
            refine wpMix_s (fun K hK => ?_)
            go_simp
            refine hK _ ?_
            clear hK K
            refine wpMix_load (by kernel_rfl) 47 (.tmp 11) rfl (g11) (0) rfl (.int .i64 (ln : Int) :: root.map B).toArray (LP.out) ?_
            simp only [Act.put]
            refine wpMix_s (fun K hK => ?_)
            go_simp
            refine hK _ ?_
            clear hK K
            refine wpMix_v (by kernel_rfl) (.slice (if cp = 1 then Ap else Ap.map (·.add (1 * 32))) (np - 1) (cp - 1)) (fun s => run_slice_op_lo (.tmp 164) (.const (.int .i64 1)) rfl Ap np cp 1 rfl rfl (by omega) s.W) ?_
            simp only [Act.put]
            refine wpMix_c (fun K hK => ?_) hS
            go_simp
            refine (Hc4.out _ _ u20_5 ((hp.step hS).drop 1 (by omega))).mono ?_
            rintro e u20_6 ⟨rfl, hb'⟩
            refine hK _ _ ?_
            clear hK K
            replace hS := hS.trans (hb'.mono hS.size)
            refine ⟨hS, ?_⟩
            clear hb'
            refine wpMix_c (fun K hK => ?_) hS
            go_simp
            refine (num11_any _ u20_6).mono ?_
            rintro e _ ⟨rfl, rfl⟩
            refine hK _ _ ?_
            clear hK K
            refine ⟨hS, ?_⟩
            refine wpMix_s (fun K hK => ?_)
            go_simp
            refine hK _ ?_
            clear hK K
            refine wpMix_s (fun K hK => ?_)
            go_simp
            refine hK _ ?_
            clear hK K
            refine wpMix_s (fun K hK => ?_)
            go_simp
            refine hK _ ?_
            clear hK K
            refine wpMix_nil ?_
            intro _
            refine wpAnyH_end (by kernel_rfl) ?_
            refine ⟨?_, hS⟩
            kernel_rfl
      rintro us a' w12 ⟨rfl, hb'⟩
      replace k6 := k6.step hb'
      replace hl := hl.step hb'
      replace hp := hp.step hb'
      replace k7 := k7.step hb'
      replace hbw := hbw.trans (hb'.mono hbw.size)
      clear hb' k5 k11 Hc3
      obtain ⟨w13, hw13⟩ : ∃ V : World, (w12.alloc (.cells #[.int .i64 (k : Int), .int .i64 ((k : Int) + 1)] 68)).alloc (.cells #[.int .i64 0] 3) = V := ⟨_, rfl⟩
      have hb13 : Below w12.heap.size w12 w13 := by rw [← hw13]; exact ((Below.refl _ _).alloc (Nat.le_refl _) _).alloc (by simp) _
      have k16 : Blk w13 w12.heap.size 68 #[.int .i64 (k : Int), .int .i64 ((k : Int) + 1)] := by rw [← hw13]; exact (Blk.new _ _ _).alloc _
      have k17 : Blk w13 (w12.heap.size + 1) 3 #[.int .i64 0] := by rw [← hw13]; exact Blk.new' _ _ _ _ (by simp)
      have hs13 : w13.heap.size = w12.heap.size + 1 + 1 := by rw [← hw13]; simp
      have hm6 : w.heap.size + 1 < w12.heap.size := k6.lt
      have hm7 : g7 < w12.heap.size := k7.lt
      have hlm := (hl.weak (Y := (· < w12.heap.size)) fun b hb _ => hb).step hb13
      replace k6 := k6.step hb13
      replace hl := hl.step hb13
      replace hp := hp.step hb13
      replace k7 := k7.step hb13
      replace hbw := hbw.trans (hb13.mono hbw.size)
      have c7 : w13.cell? ⟨g7, 0, none⟩ = some (.slice (some ⟨al, ol, none⟩) ln cl) := by rw [k7.cell]; rfl
      have hlf := hl.get rfl k hk
      rw [Hle.out] at hlf
      have hq32 : ∀ s : StepV, True := fun _ => trivial
      have Hw13 := Lib.hid hw13
      clear hw13 hb13 hq32
      go_wp2_with (first
        | ((with_reducible show wpList _ _ _ (⟨some 175, .load _ _, _, _, _, _⟩ :: _) _ _); rw [Hw13.out])
        | ((with_reducible show wpList _ _ _ (⟨some 178, .load _ _, _, _, _, _⟩ :: _) _ _); refine wpList_runG (by kernel_rfl) (.agg (leaf.map B).toArray) _ (run_load_op 45 (.tmp 177) rfl _ _ rfl _ hlf) ?_; simp only [Act.put]))
      clear Hw13 hlf c7
      refine (Hup.out _ _ w13 hp).mono ?_
      rintro e w14 ⟨gu, Au, cu, rfl, kbox, hsu, hgu, hb14⟩
      replace k6 := k6.step hb14
      replace k7 := k7.step hb14
      replace k16 := k16.step hb14
      replace k17 := k17.step hb14
      replace hlm := hlm.step hb14
      replace hbw := hbw.trans (hb14.mono hbw.size)
      have hs14 := hb14.size
      clear hb14 hl
      have q1 := eqnil_up gu
      go_wp2_with fail
      clear q1
      generalize w12.heap.size = M at *
      have hI : HdI w M g7 L al ol cl ln k q 0 w14 := ⟨k6, k7, k16, k17, hlm, hbw, hm6, hm7⟩
      have Hq32 := Lib.hid hsu.all
      have hqn := hsu.len
      have Hqn := Lib.hid hqn
      clear hqn k6 k7 k16 k17 hlm hbr hbw
      refine wp_range_U (gf := 44) (lb := #[.pointer (some ⟨gu, 0, none⟩)]) rfl (enters_of Try.func44 (by kernel_rfl) rfl)
        (up1_seq q Au (np + 1) cu gu (fun b => b = M ∨ b = M + 1) w14 kbox (hsu.weak fun b _ hb e => by have hb := hb.1; rcases e with e | e <;> omega) (by omega))
        (fun n₁ k vs W h => by rw [show vs = _ from h]; rfl)
        (fun _ => HdI w M g7 L al ol cl ln k q) (fun _ _ _ _ => False) (fun _ => HdI.own_ (by omega)) (fun _ _ _ _ _ _ h _ _ => h) (fun _ _ => hI) ?round ?done ?stop
      case round =>
        clear hI kbox hsu
        intro li n₁ s vs X hli hln hnX hs hI hy
        subst hy
        have hsq : s < q.length := by rw [Hqn.out]; exact hs
        have hzl : (q.getD s ((0, 0), [])).2.length = 32 := by
          rw [List.getD_eq_getElem?_getD, List.getElem?_eq_getElem hsq]
          exact Hq32.out _ (List.getElem_mem _)
        have hat1 : (q.getD s ((0, 0), [])).1.1 ≤ (atq k q s).1 ∧ (atq k q s).2 ≤ (q.getD s ((0, 0), [])).1.2 ∧ (0 < s → (q.getD s ((0, 0), [])).1 ≠ atq k q s) ∧ ((q.getD s ((0, 0), [])).1.1 = (atq k q s).1 ∨ (q.getD s ((0, 0), [])).1.2 = (atq k q s).2) := Hok.out.at s hsq
        have h5 : (q.getD s ((0, 0), [])).1.1 < (q.getD s ((0, 0), [])).1.2 := Hok.out.lt (s + 1) hsq
        have h6 : (q.getD s ((0, 0), [])).1.2 ≤ ln := Hsz.out _ (getD_mem q s ((0, 0), []) hsq)
        have h7 : (q.getD s ((0, 0), [])).2 = stretchL L (q.getD s ((0, 0), [])).1.1 (q.getD s ((0, 0), [])).1.2 := Hat.out s hs
        obtain ⟨⟨⟨a, b⟩, z⟩, hx⟩ : ∃ x, q.getD s ((0, 0), []) = x := ⟨_, rfl⟩
        obtain ⟨⟨fa, fb⟩, hf⟩ : ∃ x, atq k q s = x := ⟨_, rfl⟩
        rw [hx] at hzl hat1 h5 h6 h7 ⊢
        rw [hf] at hat1
        dsimp only [stepVs] at hzl hat1 h5 h6 h7 ⊢
        obtain ⟨h1, h2, h3, h4⟩ := hat1
        have Hx := Lib.hid hx
        have Hf := Lib.hid hf
        have Hzl := Lib.hid hzl
        have H7 := Lib.hid h7
        have h3' : 0 < s → ((a : Int) == (fa : Int) && (b : Int) == (fb : Int)) = false := fun h => by
          have := h3 h
          rw [Bool.eq_false_iff]
          intro e
          simp only [Bool.and_eq_true, beq_iff_eq, Int.natCast_inj] at e
          exact this (by rw [e.1, e.2])
        have H3 := Lib.hid h3'
        clear hx hf hzl h7 h3 h3' hsq
        have hM17 : M + 1 < X.heap.size := hI.b17.lt
        have k19 := Blk.new X 68 #[.int .i64 (a : Int), .int .i64 (b : Int)]
        have hb19 : Below X.heap.size X (X.alloc (.cells #[.int .i64 (a : Int), .int .i64 (b : Int)] 68)) := (Below.refl _ _).alloc (Nat.le_refl _) _
        gi_wp2_with ((with_reducible show wpListIn _ _ _ _ _ (⟨some 20, .alloc _, _, _, _, _⟩ :: _) _ _); refine wpListIn_of2 (openR li) rfl ?_; refine wpList_hvar (.tmp 20) (.tmp 187) rfl rfl rfl rfl rfl rfl Hzl.out ?_; intro X1 k20 hb20; refine thenN_nil ?_; simp only [Act.put])
        refine ⟨KeepU.below (hb19.trans (hb20.mono hb19.size)), ?_⟩
        intro X2 hturn
        have hQ2 := hturn.own (HdI.own_ (w := w) (M := M) (g7 := g7) (L := L) (al := al) (ol := ol) (cl := cl) (ln := ln) (i := k) (q := q) (N := w14.heap.size) (by omega)) ((hI.step hb19).step hb20)
        have k19' := hturn.blk (k19.step hb20)
        have k20' : HV X2 (X.alloc (.cells #[.int .i64 (a : Int), .int .i64 (b : Int)] 68)).heap.size z := ⟨hturn.blk k20.blk, Hzl.out⟩
        clear hI k19 k20 hb19 hb20 hturn hnX
        generalize (X.alloc (.cells #[.int .i64 (a : Int), .int .i64 (b : Int)] 68)).heap.size = g20 at k20' ⊢
        generalize X.heap.size = g19 at k19' hM17 ⊢
        have c7 : X2.cell? ⟨g7, 0, none⟩ = some (.slice (some ⟨al, ol, none⟩) ln cl) := by rw [hQ2.b7.cell]; rfl
        have l19 := load_R k19'
        have htc := tstretch_ok L (some ⟨al, ol, none⟩) ln cl X2 a b (hQ2.hl.weak fun _ _ _ => trivial) (by omega) h5 h6
        rw [← H7.out] at htc
        have Htc := Lib.hid htc
        clear htc
        gi_wp2_with ((with_reducible show wpListIn _ _ _ _ _ (⟨some 190, .load _ _, _, _, _, _⟩ :: _) _ _); refine wpListIn_of1 (openR li) rfl ?_; refine wpList_runG (by kernel_rfl) _ _ (run_load_op 68 (.tmp 19) rfl _ _ rfl _ l19) ?_; refine thenN_nil ?_; simp only [Act.put])
        refine ⟨trivial, callsIn_any (openR li) (Htc.out.mono ?_)⟩
        rintro e X3 ⟨rfl, hb3⟩
        have hQ3 := hQ2.step hb3
        have k19 := k19'.step hb3
        have k20 := k20'.step hb3
        have hK3 : KeepU w14.heap.size n₁ (fun b => b = M ∨ b = M + 1) X2 X3 := KeepU.below hb3
        clear hQ2 k19' k20' hb3 c7 l19 Htc
        have hd1 : decide ((fa : Int) < (a : Int)) = false := by simp; omega
        have hd2 : decide ((b : Int) < (fb : Int)) = false := by simp; omega
        have hd1' : ¬ (fa < a) := by omega
        have hd2' : ¬ (b < fb) := by omega
        have hw1 : IntKind.i64.wrap ((s : Int) + 1) = (s : Int) + 1 := IntWalk.i64_in _ (by omega)
        by_cases hs0 : 0 < s
        · have hs0' : decide ((0 : Int) < (s : Int)) = true := by simp; omega
          rcases (show a = fa ∨ (a ≠ fa ∧ b = fb) by omega) with hab | ⟨hab, hbb⟩
          · subst hab
            gi_wp2_with (first
              |   ((with_reducible show wpListIn _ _ _ _ _ (⟨some 21, .alloc _, _, _, _, _⟩ :: _) _ _); refine wpListIn_of2 (openR li) rfl ?_; refine wpList_hvar (.tmp 21) (.tmp 192) rfl rfl rfl rfl rfl rfl Hzl.out ?_; intro X4 k21 hb4; refine thenN_nil ?_; simp only [Act.put]; have hQ4 := hQ3.step hb4; have k19b := k19.step hb4; have k20b := k20.step hb4; have hK4 := hK3.trans (KeepU.below (B := w14.heap.size) (n₁ := n₁) (U := fun b => b = M ∨ b = M + 1) hb4); have k16b : Blk X4 M 68 #[.int .i64 (a : Int), .int .i64 (fb : Int)] := (by have := hQ4.b16; rwa [Hf.out] at this); have l19 := load_R k19b; have l16 := load_R k16b; have l20 := k20b.load; have l21 := k21.load; have c19a : X4.cell? ⟨g19, 0, none⟩ = some (.int .i64 (a : Int)) := (by rw [k19b.cell]; rfl); have c19b : X4.cell? ⟨g19, 1, none⟩ = some (.int .i64 (b : Int)) := (by rw [k19b.cell]; rfl); have c16a : X4.cell? ⟨M, 0, none⟩ = some (.int .i64 (a : Int)) := (by rw [k16b.cell]; rfl); have c16b : X4.cell? ⟨M, 1, none⟩ = some (.int .i64 (fb : Int)) := (by rw [k16b.cell]; rfl); have c17 : X4.cell? ⟨M + 1, 0, none⟩ = some (.int .i64 (s : Int)) := (by rw [hQ4.b17.cell]; rfl); have d17 : (X4.setRow M #[.int .i64 (a : Int), .int .i64 (b : Int)]).cell? ⟨M + 1, 0, none⟩ = some (.int .i64 (s : Int)) := (by rw [(hQ4.row a b).cell]; rfl); have f17 := (hQ4.row a b).frozen 0; have hQ5 := hQ4.next a b (by rw [Hx.out]); have hK5 := (hK4.trans (KeepU.setRow (B := w14.heap.size) (n₁ := n₁) (U := fun b => b = M ∨ b = M + 1) k16b (.inr (.inl rfl)) #[.int .i64 (a : Int), .int .i64 (b : Int)])).trans (KeepU.setCell (B := w14.heap.size) (n₁ := n₁) (U := fun b => b = M ∨ b = M + 1) (hQ4.row a b) (.inr (.inr rfl)) 0 (.int .i64 ((s + 1 : Nat) : Int))); rw [show ((s + 1 : Nat) : Int) = (s : Int) + 1 by omega] at hQ5 hK5; have HQ5 := Lib.hid hQ5; have HK5 := Lib.hid hK5; clear hQ5 hK5 hK4 hQ4 hK3 hQ3 k19 k20 hb4)
              |   ((with_reducible show wpListIn _ _ _ _ _ (⟨some 210, .load _ _, _, _, _, _⟩ :: _) _ _); refine wpListIn_of1 (openR li) rfl ?_; refine wpList_runG (by kernel_rfl) _ _ (run_load_op 68 (.tmp 19) rfl _ _ rfl _ l19) ?_; refine thenN_nil ?_; simp only [Act.put])
              |   ((with_reducible show wpListIn _ _ _ _ _ (⟨some 211, .load _ _, _, _, _, _⟩ :: _) _ _); refine wpListIn_of1 (openR li) rfl ?_; refine wpList_runG (by kernel_rfl) _ _ (run_load_op 68 (.tmp 16) rfl _ _ rfl _ l16) ?_; refine thenN_nil ?_; simp only [Act.put])
              |   ((with_reducible show wpListIn _ _ _ _ _ (⟨some 212, .binOp _ _ _ _ _, _, _, _, _⟩ :: _) _ _); refine wpListIn_of1 (openR li) rfl ?_; refine wpList_runG (by kernel_rfl) (.bool false) _ (run_eqlR_op (.tmp 210) (.tmp 211) _ (a : Int) (b : Int) (a : Int) (fb : Int) false rfl rfl rfl (H3.out hs0) _) ?_; refine thenN_nil ?_; simp only [Act.put]))
            refine ⟨trivial, callsIn_any (openR li) ((num11_any _ _).mono ?_)⟩
            rintro e _ ⟨rfl, rfl⟩
            gi_wp2_with (first
              |   ((with_reducible show wpListIn _ _ _ _ _ (⟨some 235, .load _ _, _, _, _, _⟩ :: _) _ _); refine wpListIn_of1 (openR li) rfl ?_; refine wpList_runG (by kernel_rfl) _ _ (run_load_op 45 (.tmp 21) rfl _ _ rfl _ l21) ?_; refine thenN_nil ?_; simp only [Act.put])
              |   ((with_reducible show wpListIn _ _ _ _ _ (⟨some 236, .load _ _, _, _, _, _⟩ :: _) _ _); refine wpListIn_of1 (openR li) rfl ?_; refine wpList_runG (by kernel_rfl) _ _ (run_load_op 45 (.tmp 20) rfl _ _ rfl _ l20) ?_; refine thenN_nil ?_; simp only [Act.put])
              |   ((with_reducible show wpListIn _ _ _ _ _ (⟨some 237, .binOp _ _ _ _ _, _, _, _, _⟩ :: _) _ _); refine wpListIn_of1 (openR li) rfl ?_; refine wpList_runG (by kernel_rfl) (.bool false) _ (run_neq26_f (.tmp 235) (.tmp 236) _ z z rfl rfl rfl Hzl.out Hzl.out rfl _) ?_; refine thenN_nil ?_; simp only [Act.put])
              |   ((with_reducible show wpListIn _ _ _ _ _ (⟨some 239, .load _ _, _, _, _, _⟩ :: _) _ _); refine wpListIn_of1 (openR li) rfl ?_; refine wpList_runG (by kernel_rfl) _ _ (run_load_op 68 (.tmp 19) rfl _ _ rfl _ l19) ?_; refine thenN_nil ?_; simp only [Act.put])
              |   ((with_reducible show wpListIn _ _ _ _ _ (⟨none, .store _ (.tmp 16) _, _, _, _, _⟩ :: _) _ _); refine wpListIn_of1 (openR li) rfl ?_; refine wpList_store_blk rfl 68 (.tmp 16) (.tmp 239) rfl 2 sizeR M #[.int .i64 (a : Int), .int .i64 (b : Int)] rfl rfl rfl (by simp [Value.oneCell']) 68 _ k16b rfl ?_; refine thenN_nil ?_; simp only [Act.put]))
            exact ⟨HK5.out, HQ5.out⟩
          · subst hbb
            have hn1 : ((a : Int) == (fa : Int)) = false := by simp; omega
            have hn2 : ((a : Int) != (fa : Int)) = true := by simp; omega
            gi_wp2_with (first
              |   ((with_reducible show wpListIn _ _ _ _ _ (⟨some 21, .alloc _, _, _, _, _⟩ :: _) _ _); refine wpListIn_of2 (openR li) rfl ?_; refine wpList_hvar (.tmp 21) (.tmp 192) rfl rfl rfl rfl rfl rfl Hzl.out ?_; intro X4 k21 hb4; refine thenN_nil ?_; simp only [Act.put]; have hQ4 := hQ3.step hb4; have k19b := k19.step hb4; have k20b := k20.step hb4; have hK4 := hK3.trans (KeepU.below (B := w14.heap.size) (n₁ := n₁) (U := fun b => b = M ∨ b = M + 1) hb4); have k16b : Blk X4 M 68 #[.int .i64 (fa : Int), .int .i64 (b : Int)] := (by have := hQ4.b16; rwa [Hf.out] at this); have l19 := load_R k19b; have l16 := load_R k16b; have l20 := k20b.load; have l21 := k21.load; have c19a : X4.cell? ⟨g19, 0, none⟩ = some (.int .i64 (a : Int)) := (by rw [k19b.cell]; rfl); have c19b : X4.cell? ⟨g19, 1, none⟩ = some (.int .i64 (b : Int)) := (by rw [k19b.cell]; rfl); have c16a : X4.cell? ⟨M, 0, none⟩ = some (.int .i64 (fa : Int)) := (by rw [k16b.cell]; rfl); have c16b : X4.cell? ⟨M, 1, none⟩ = some (.int .i64 (b : Int)) := (by rw [k16b.cell]; rfl); have c17 : X4.cell? ⟨M + 1, 0, none⟩ = some (.int .i64 (s : Int)) := (by rw [hQ4.b17.cell]; rfl); have d17 : (X4.setRow M #[.int .i64 (a : Int), .int .i64 (b : Int)]).cell? ⟨M + 1, 0, none⟩ = some (.int .i64 (s : Int)) := (by rw [(hQ4.row a b).cell]; rfl); have f17 := (hQ4.row a b).frozen 0; have hQ5 := hQ4.next a b (by rw [Hx.out]); have hK5 := (hK4.trans (KeepU.setRow (B := w14.heap.size) (n₁ := n₁) (U := fun b => b = M ∨ b = M + 1) k16b (.inr (.inl rfl)) #[.int .i64 (a : Int), .int .i64 (b : Int)])).trans (KeepU.setCell (B := w14.heap.size) (n₁ := n₁) (U := fun b => b = M ∨ b = M + 1) (hQ4.row a b) (.inr (.inr rfl)) 0 (.int .i64 ((s + 1 : Nat) : Int))); rw [show ((s + 1 : Nat) : Int) = (s : Int) + 1 by omega] at hQ5 hK5; have HQ5 := Lib.hid hQ5; have HK5 := Lib.hid hK5; clear hQ5 hK5 hK4 hQ4 hK3 hQ3 k19 k20 hb4)
              |   ((with_reducible show wpListIn _ _ _ _ _ (⟨some 210, .load _ _, _, _, _, _⟩ :: _) _ _); refine wpListIn_of1 (openR li) rfl ?_; refine wpList_runG (by kernel_rfl) _ _ (run_load_op 68 (.tmp 19) rfl _ _ rfl _ l19) ?_; refine thenN_nil ?_; simp only [Act.put])
              |   ((with_reducible show wpListIn _ _ _ _ _ (⟨some 211, .load _ _, _, _, _, _⟩ :: _) _ _); refine wpListIn_of1 (openR li) rfl ?_; refine wpList_runG (by kernel_rfl) _ _ (run_load_op 68 (.tmp 16) rfl _ _ rfl _ l16) ?_; refine thenN_nil ?_; simp only [Act.put])
              |   ((with_reducible show wpListIn _ _ _ _ _ (⟨some 212, .binOp _ _ _ _ _, _, _, _, _⟩ :: _) _ _); refine wpListIn_of1 (openR li) rfl ?_; refine wpList_runG (by kernel_rfl) (.bool false) _ (run_eqlR_op (.tmp 210) (.tmp 211) _ (a : Int) (b : Int) (fa : Int) (b : Int) false rfl rfl rfl (H3.out hs0) _) ?_; refine thenN_nil ?_; simp only [Act.put]))
            refine ⟨trivial, callsIn_any (openR li) ((num11_any _ _).mono ?_)⟩
            rintro e _ ⟨rfl, rfl⟩
            gi_wp2_with (first
              |   ((with_reducible show wpListIn _ _ _ _ _ (⟨some 235, .load _ _, _, _, _, _⟩ :: _) _ _); refine wpListIn_of1 (openR li) rfl ?_; refine wpList_runG (by kernel_rfl) _ _ (run_load_op 45 (.tmp 21) rfl _ _ rfl _ l21) ?_; refine thenN_nil ?_; simp only [Act.put])
              |   ((with_reducible show wpListIn _ _ _ _ _ (⟨some 236, .load _ _, _, _, _, _⟩ :: _) _ _); refine wpListIn_of1 (openR li) rfl ?_; refine wpList_runG (by kernel_rfl) _ _ (run_load_op 45 (.tmp 20) rfl _ _ rfl _ l20) ?_; refine thenN_nil ?_; simp only [Act.put])
              |   ((with_reducible show wpListIn _ _ _ _ _ (⟨some 237, .binOp _ _ _ _ _, _, _, _, _⟩ :: _) _ _); refine wpListIn_of1 (openR li) rfl ?_; refine wpList_runG (by kernel_rfl) (.bool false) _ (run_neq26_f (.tmp 235) (.tmp 236) _ z z rfl rfl rfl Hzl.out Hzl.out rfl _) ?_; refine thenN_nil ?_; simp only [Act.put])
              |   ((with_reducible show wpListIn _ _ _ _ _ (⟨some 239, .load _ _, _, _, _, _⟩ :: _) _ _); refine wpListIn_of1 (openR li) rfl ?_; refine wpList_runG (by kernel_rfl) _ _ (run_load_op 68 (.tmp 19) rfl _ _ rfl _ l19) ?_; refine thenN_nil ?_; simp only [Act.put])
              |   ((with_reducible show wpListIn _ _ _ _ _ (⟨none, .store _ (.tmp 16) _, _, _, _, _⟩ :: _) _ _); refine wpListIn_of1 (openR li) rfl ?_; refine wpList_store_blk rfl 68 (.tmp 16) (.tmp 239) rfl 2 sizeR M #[.int .i64 (a : Int), .int .i64 (b : Int)] rfl rfl rfl (by simp [Value.oneCell']) 68 _ k16b rfl ?_; refine thenN_nil ?_; simp only [Act.put]))
            exact ⟨HK5.out, HQ5.out⟩
        · have hs0' : decide ((0 : Int) < (s : Int)) = false := by simp; omega
          rcases (show a = fa ∨ (a ≠ fa ∧ b = fb) by omega) with hab | ⟨hab, hbb⟩
          · subst hab
            gi_wp2_with (first
              |   ((with_reducible show wpListIn _ _ _ _ _ (⟨some 21, .alloc _, _, _, _, _⟩ :: _) _ _); refine wpListIn_of2 (openR li) rfl ?_; refine wpList_hvar (.tmp 21) (.tmp 192) rfl rfl rfl rfl rfl rfl Hzl.out ?_; intro X4 k21 hb4; refine thenN_nil ?_; simp only [Act.put]; have hQ4 := hQ3.step hb4; have k19b := k19.step hb4; have k20b := k20.step hb4; have hK4 := hK3.trans (KeepU.below (B := w14.heap.size) (n₁ := n₁) (U := fun b => b = M ∨ b = M + 1) hb4); have k16b : Blk X4 M 68 #[.int .i64 (a : Int), .int .i64 (fb : Int)] := (by have := hQ4.b16; rwa [Hf.out] at this); have l19 := load_R k19b; have l16 := load_R k16b; have l20 := k20b.load; have l21 := k21.load; have c19a : X4.cell? ⟨g19, 0, none⟩ = some (.int .i64 (a : Int)) := (by rw [k19b.cell]; rfl); have c19b : X4.cell? ⟨g19, 1, none⟩ = some (.int .i64 (b : Int)) := (by rw [k19b.cell]; rfl); have c16a : X4.cell? ⟨M, 0, none⟩ = some (.int .i64 (a : Int)) := (by rw [k16b.cell]; rfl); have c16b : X4.cell? ⟨M, 1, none⟩ = some (.int .i64 (fb : Int)) := (by rw [k16b.cell]; rfl); have c17 : X4.cell? ⟨M + 1, 0, none⟩ = some (.int .i64 (s : Int)) := (by rw [hQ4.b17.cell]; rfl); have d17 : (X4.setRow M #[.int .i64 (a : Int), .int .i64 (b : Int)]).cell? ⟨M + 1, 0, none⟩ = some (.int .i64 (s : Int)) := (by rw [(hQ4.row a b).cell]; rfl); have f17 := (hQ4.row a b).frozen 0; have hQ5 := hQ4.next a b (by rw [Hx.out]); have hK5 := (hK4.trans (KeepU.setRow (B := w14.heap.size) (n₁ := n₁) (U := fun b => b = M ∨ b = M + 1) k16b (.inr (.inl rfl)) #[.int .i64 (a : Int), .int .i64 (b : Int)])).trans (KeepU.setCell (B := w14.heap.size) (n₁ := n₁) (U := fun b => b = M ∨ b = M + 1) (hQ4.row a b) (.inr (.inr rfl)) 0 (.int .i64 ((s + 1 : Nat) : Int))); rw [show ((s + 1 : Nat) : Int) = (s : Int) + 1 by omega] at hQ5 hK5; have HQ5 := Lib.hid hQ5; have HK5 := Lib.hid hK5; clear hQ5 hK5 hK4 hQ4 hK3 hQ3 k19 k20 hb4))
            refine ⟨trivial, callsIn_any (openR li) ((num11_any _ _).mono ?_)⟩
            rintro e _ ⟨rfl, rfl⟩
            gi_wp2_with (first
              |   ((with_reducible show wpListIn _ _ _ _ _ (⟨some 235, .load _ _, _, _, _, _⟩ :: _) _ _); refine wpListIn_of1 (openR li) rfl ?_; refine wpList_runG (by kernel_rfl) _ _ (run_load_op 45 (.tmp 21) rfl _ _ rfl _ l21) ?_; refine thenN_nil ?_; simp only [Act.put])
              |   ((with_reducible show wpListIn _ _ _ _ _ (⟨some 236, .load _ _, _, _, _, _⟩ :: _) _ _); refine wpListIn_of1 (openR li) rfl ?_; refine wpList_runG (by kernel_rfl) _ _ (run_load_op 45 (.tmp 20) rfl _ _ rfl _ l20) ?_; refine thenN_nil ?_; simp only [Act.put])
              |   ((with_reducible show wpListIn _ _ _ _ _ (⟨some 237, .binOp _ _ _ _ _, _, _, _, _⟩ :: _) _ _); refine wpListIn_of1 (openR li) rfl ?_; refine wpList_runG (by kernel_rfl) (.bool false) _ (run_neq26_f (.tmp 235) (.tmp 236) _ z z rfl rfl rfl Hzl.out Hzl.out rfl _) ?_; refine thenN_nil ?_; simp only [Act.put])
              |   ((with_reducible show wpListIn _ _ _ _ _ (⟨some 239, .load _ _, _, _, _, _⟩ :: _) _ _); refine wpListIn_of1 (openR li) rfl ?_; refine wpList_runG (by kernel_rfl) _ _ (run_load_op 68 (.tmp 19) rfl _ _ rfl _ l19) ?_; refine thenN_nil ?_; simp only [Act.put])
              |   ((with_reducible show wpListIn _ _ _ _ _ (⟨none, .store _ (.tmp 16) _, _, _, _, _⟩ :: _) _ _); refine wpListIn_of1 (openR li) rfl ?_; refine wpList_store_blk rfl 68 (.tmp 16) (.tmp 239) rfl 2 sizeR M #[.int .i64 (a : Int), .int .i64 (b : Int)] rfl rfl rfl (by simp [Value.oneCell']) 68 _ k16b rfl ?_; refine thenN_nil ?_; simp only [Act.put]))
            exact ⟨HK5.out, HQ5.out⟩
          · subst hbb
            have hn1 : ((a : Int) == (fa : Int)) = false := by simp; omega
            have hn2 : ((a : Int) != (fa : Int)) = true := by simp; omega
            gi_wp2_with (first
              |   ((with_reducible show wpListIn _ _ _ _ _ (⟨some 21, .alloc _, _, _, _, _⟩ :: _) _ _); refine wpListIn_of2 (openR li) rfl ?_; refine wpList_hvar (.tmp 21) (.tmp 192) rfl rfl rfl rfl rfl rfl Hzl.out ?_; intro X4 k21 hb4; refine thenN_nil ?_; simp only [Act.put]; have hQ4 := hQ3.step hb4; have k19b := k19.step hb4; have k20b := k20.step hb4; have hK4 := hK3.trans (KeepU.below (B := w14.heap.size) (n₁ := n₁) (U := fun b => b = M ∨ b = M + 1) hb4); have k16b : Blk X4 M 68 #[.int .i64 (fa : Int), .int .i64 (b : Int)] := (by have := hQ4.b16; rwa [Hf.out] at this); have l19 := load_R k19b; have l16 := load_R k16b; have l20 := k20b.load; have l21 := k21.load; have c19a : X4.cell? ⟨g19, 0, none⟩ = some (.int .i64 (a : Int)) := (by rw [k19b.cell]; rfl); have c19b : X4.cell? ⟨g19, 1, none⟩ = some (.int .i64 (b : Int)) := (by rw [k19b.cell]; rfl); have c16a : X4.cell? ⟨M, 0, none⟩ = some (.int .i64 (fa : Int)) := (by rw [k16b.cell]; rfl); have c16b : X4.cell? ⟨M, 1, none⟩ = some (.int .i64 (b : Int)) := (by rw [k16b.cell]; rfl); have c17 : X4.cell? ⟨M + 1, 0, none⟩ = some (.int .i64 (s : Int)) := (by rw [hQ4.b17.cell]; rfl); have d17 : (X4.setRow M #[.int .i64 (a : Int), .int .i64 (b : Int)]).cell? ⟨M + 1, 0, none⟩ = some (.int .i64 (s : Int)) := (by rw [(hQ4.row a b).cell]; rfl); have f17 := (hQ4.row a b).frozen 0; have hQ5 := hQ4.next a b (by rw [Hx.out]); have hK5 := (hK4.trans (KeepU.setRow (B := w14.heap.size) (n₁ := n₁) (U := fun b => b = M ∨ b = M + 1) k16b (.inr (.inl rfl)) #[.int .i64 (a : Int), .int .i64 (b : Int)])).trans (KeepU.setCell (B := w14.heap.size) (n₁ := n₁) (U := fun b => b = M ∨ b = M + 1) (hQ4.row a b) (.inr (.inr rfl)) 0 (.int .i64 ((s + 1 : Nat) : Int))); rw [show ((s + 1 : Nat) : Int) = (s : Int) + 1 by omega] at hQ5 hK5; have HQ5 := Lib.hid hQ5; have HK5 := Lib.hid hK5; clear hQ5 hK5 hK4 hQ4 hK3 hQ3 k19 k20 hb4))
            refine ⟨trivial, callsIn_any (openR li) ((num11_any _ _).mono ?_)⟩
            rintro e _ ⟨rfl, rfl⟩
            gi_wp2_with (first
              |   ((with_reducible show wpListIn _ _ _ _ _ (⟨some 235, .load _ _, _, _, _, _⟩ :: _) _ _); refine wpListIn_of1 (openR li) rfl ?_; refine wpList_runG (by kernel_rfl) _ _ (run_load_op 45 (.tmp 21) rfl _ _ rfl _ l21) ?_; refine thenN_nil ?_; simp only [Act.put])
              |   ((with_reducible show wpListIn _ _ _ _ _ (⟨some 236, .load _ _, _, _, _, _⟩ :: _) _ _); refine wpListIn_of1 (openR li) rfl ?_; refine wpList_runG (by kernel_rfl) _ _ (run_load_op 45 (.tmp 20) rfl _ _ rfl _ l20) ?_; refine thenN_nil ?_; simp only [Act.put])
              |   ((with_reducible show wpListIn _ _ _ _ _ (⟨some 237, .binOp _ _ _ _ _, _, _, _, _⟩ :: _) _ _); refine wpListIn_of1 (openR li) rfl ?_; refine wpList_runG (by kernel_rfl) (.bool false) _ (run_neq26_f (.tmp 235) (.tmp 236) _ z z rfl rfl rfl Hzl.out Hzl.out rfl _) ?_; refine thenN_nil ?_; simp only [Act.put])
              |   ((with_reducible show wpListIn _ _ _ _ _ (⟨some 239, .load _ _, _, _, _, _⟩ :: _) _ _); refine wpListIn_of1 (openR li) rfl ?_; refine wpList_runG (by kernel_rfl) _ _ (run_load_op 68 (.tmp 19) rfl _ _ rfl _ l19) ?_; refine thenN_nil ?_; simp only [Act.put])
              |   ((with_reducible show wpListIn _ _ _ _ _ (⟨none, .store _ (.tmp 16) _, _, _, _, _⟩ :: _) _ _); refine wpListIn_of1 (openR li) rfl ?_; refine wpList_store_blk rfl 68 (.tmp 16) (.tmp 239) rfl 2 sizeR M #[.int .i64 (a : Int), .int .i64 (b : Int)] rfl rfl rfl (by simp [Value.oneCell']) 68 _ k16b rfl ?_; refine thenN_nil ?_; simp only [Act.put]))
            exact ⟨HK5.out, HQ5.out⟩
      case done =>
        clear kbox hsu hI
        intro D n₁ X hD hDn hI hK
        have he := Hok.out.end
        rw [Hqn.out] at he
        have k16 : Blk X M 68 #[.int .i64 0, .int .i64 (ln : Int)] := by have := hI.b16; rwa [he] at this
        have l16 := load_R k16
        have c17 : X.cell? ⟨M + 1, 0, none⟩ = some (.int .i64 ((np : Int) + 1)) := by rw [hI.b17.cell]; rfl
        have hw1 : IntKind.i64.wrap ((np : Int) + 1) = (np : Int) + 1 := IntWalk.i64_in _ (by omega)
        have hbe : (((np : Int) + 1) == ((np : Int) + 1)) = true := by simp
        clear he
        go_wp2_with (first
          | ((with_reducible show wpList _ _ _ (⟨some 248, .load _ _, _, _, _, _⟩ :: _) _ _); refine wpList_runG (by kernel_rfl) _ _ (run_load_op 68 (.tmp 16) rfl _ _ rfl _ l16) ?_; simp only [Act.put])
          | ((with_reducible show wpList _ _ _ (⟨some 251, .binOp _ _ _ _ _, _, _, _, _⟩ :: _) _ _); refine wpList_runG (by kernel_rfl) (.bool true) _ (run_eqlR_op (.tmp 248) (.tmp 250) _ 0 (ln : Int) 0 (ln : Int) true rfl rfl rfl (by simp) _) ?_; simp only [Act.put]))
        refine (works11_any X).mono ?_
        rintro e X2 ⟨rfl, hb2⟩
        have hI2 := hI.step hb2
        have hM := ((MarksOk.nil w.heap.size X).cons (show w.heap.size ≤ D by have := hI.bel.size; omega) hK (by simp))
        have c6 : X2.cell? ⟨w.heap.size + 1, 0, none⟩ = some (.bool false) := by rw [hI2.b6.cell]; rfl
        have f6 := hI2.b6.frozen 0
        clear k16 l16 c17
        go_wp2_with fail
        exact leaves_marks (N := w.heap.size) [D] _ ((hM.step hb2).cell hI2.b6 (.bool true)) fun w' ht => ⟨_, results_cellB rfl _ _ (w.heap.size + 1) true rfl (ht.blk _ _ _ (hI2.b6.set_ 0 _)), rfl, (hI2.bel.setCell (p := ⟨w.heap.size + 1, 0, none⟩) (Nat.le_succ _) _).trans ht.bel⟩
      case stop =>
        rintro D n₁ cd s X hD hDn hs hX hK
        exact hX.elim
end Go.Proofs.Ytmglkblomklcbaa
