/- tiles.From. -/
import Derived.Test.YtfhmjgkcpcnkbaaDoorQf133
import Derived.Test.YtfhmjgkcpcnkbaaDoorQf135
namespace Go.Proofs.YtfhmjgkcpcnkbaaDoor
open Go Go.RowKit Go.Shelf
attribute [local go_sem] Oper.semAt_some

section
variable {w : World} {ops : Array Oper} {rest : List Oper} {o1 o2 : Oper} {a : Act} {Q : Exit → Act → World → Prop}
set_option maxRecDepth 100000 in
/-- a new variable: a tile, written at once -/
theorem wpList_tvar (l i : Int) (A : Option Addr) (n c : Nat) (x y : Operand) (hg1 : o1.guard = none) (hg2 : o2.guard = none) (ho1 : o1.op = .alloc 38) (ho2 : o2.op = .store 38 x y)
    (hx : (a.put o1.dst (.pointer (some ⟨w.heap.size, 0, none⟩))).eval x = .pointer (some ⟨w.heap.size, 0, none⟩)) (hy : (a.put o1.dst (.pointer (some ⟨w.heap.size, 0, none⟩))).eval y = .agg #[.int .i64 l, .int .i64 i, .slice A n c])
    (h : ∀ W, Blk W w.heap.size 38 #[.int .i64 l, .int .i64 i, .slice A n c] → Below w.heap.size w W → wpList Tryd.prog ops Q rest ((a.put o1.dst (.pointer (some ⟨w.heap.size, 0, none⟩))).put o2.dst undef) W) : wpList Tryd.prog ops Q (o1 :: o2 :: rest) a w := by
  refine wpList_run hg1 (.pointer (some ⟨w.heap.size, 0, none⟩)) (w.alloc (.cells #[.int .i64 0, .int .i64 0, .slice none 0 0] 38)) ?_ ?_
  · unfold execOp
    rw [ho1]
    rfl
  · refine wpList_store_blk hg2 38 x y ho2 3 sizeTile w.heap.size #[.int .i64 l, .int .i64 i, .slice A n c] hx hy rfl (fun v hv => by
      simp only [List.mem_cons, List.not_mem_nil, or_false] at hv
      rcases hv with rfl | rfl | rfl <;> rfl) 38 _ (Blk.new w 38 _) rfl ?_
    exact h _ ((Blk.new w 38 _).setRow_ _) (below_setRow ((Below.refl _ _).alloc (Nat.le_refl _) _) (Nat.le_refl _) _)
end
theorem results_te {fn : Func} {p q : Tmp} (h : fn.results = #[.cell p 40, .cell q 23]) (tmps : Array Value) (w : World) (g g' : Nat) (x y : Value) (hp : tmps.getD p undef = .pointer (some ⟨g, 0, none⟩)) (hq : tmps.getD q undef = .pointer (some ⟨g', 0, none⟩)) (hx : Blk w g 40 #[x]) (hy : Blk w g' 23 #[y]) :
    (results fn tmps).run Tryd.prog w = .ok (.tuple #[x, y]) w := by
  have hp' : tmps[p]?.getD undef = .pointer (some ⟨g, 0, none⟩) := by simpa using hp
  have hq' : tmps[q]?.getD undef = .pointer (some ⟨g', 0, none⟩) := by simpa using hq
  have hc : w.cell? ⟨g, 0, none⟩ = some x := by rw [hx.cell]; rfl
  have hd : w.cell? ⟨g', 0, none⟩ = some y := by rw [hy.cell]; rfl
  have h1 : ∀ w : World, (isAgg 40).run Tryd.prog w = .ok false w := fun _ => by kernel_rfl
  have h2 : ∀ w : World, (isAgg 23).run Tryd.prog w = .ok false w := fun _ => by kernel_rfl
  simp [results, h, hp', hq', asAddr, loadVar, h1, h2, hc, hd, go_sem]
/-- both results are written -/
theorem fin_te {W : World} {g6 g7 N : Nat} {u6 u7 : Value} (k6 : Blk W g6 40 #[u6]) (k7 : Blk W g7 23 #[u7]) (hne : g6 ≠ g7) (h6 : N ≤ g6) (h7 : N ≤ g7) (x y : Value) :
    ∃ W', (W.setCell ⟨g6, 0, none⟩ x).setCell ⟨g7, 0, none⟩ y = W' ∧ Blk W' g6 40 #[x] ∧ Blk W' g7 23 #[y] ∧ Below N W W' ∧ W.cell? ⟨g6, 0, none⟩ = some u6 ∧ W.frozen? ⟨g6, 0, none⟩ = false ∧ (W.setCell ⟨g6, 0, none⟩ x).cell? ⟨g7, 0, none⟩ = some u7 ∧ (W.setCell ⟨g6, 0, none⟩ x).frozen? ⟨g7, 0, none⟩ = false ∧ KB (fun b => b = g6 ∨ b = g7) W W' ∧ (∀ N' ds, MarksOk N' ds W → MarksOk N' ds W') ∧ ∀ B, KeepsFrom B W W' := by
  have e6 : Blk (W.setCell ⟨g6, 0, none⟩ x) g6 40 #[x] := k6.set_ 0 x
  have e7 : Blk (W.setCell ⟨g6, 0, none⟩ x) g7 23 #[u7] := k7.apart (Ne.symm hne) _
  refine ⟨_, rfl, e6.apart hne _, e7.set_ 0 y, ((Below.refl _ _).setCell (p := ⟨g6, 0, none⟩) h6 _).setCell (p := ⟨g7, 0, none⟩) h7 _, by rw [k6.cell]; rfl, k6.frozen 0, by rw [e7.cell]; rfl, e7.frozen 0, ?_, fun N' ds hm => (hm.cell k6 x).cell e7 y, fun B => ?_⟩
  · exact (KB.of_grown (grownBy_setCell' W g6 x) fun r hr => .inl (Option.some.inj hr).symm).trans (KB.of_grown (grownBy_setCell' _ g7 y) fun r hr => .inr (Option.some.inj hr).symm)
  · exact ((KeepU.setCell (B := B) (n₁ := 0) (U := fun _ => True) k6 (.inr trivial) 0 x).trans (KeepU.setCell e7 (.inr trivial) 0 y)).f
theorem kb_of_below {N : Nat} {W W' : World} (h : Below N W W') : KB (fun b => N ≤ b) W W' := ⟨h.os, h.tape, h.output, h.size, fun k _ hm => h.block k (by omega)⟩
theorem tilesL_32 (h : Nat) (L : HL) (hL : H32 L) (t : TileV) (ht : t ∈ tilesL h L) : H32 t.2.2 := by
  unfold tilesL at ht
  obtain ⟨y, -, rfl⟩ := List.mem_map.1 ht
  exact tileG_32 h L hL (y.1 : Int) (y.2.1 : Int)
/-- what lies in memory behind a round -/
structure FrI (w6 : World) (n : Nat) (ts us : List TileV) (k : Nat) (W : World) : Prop where
  ct : CtI w6 k W
  le : k ≤ n
  tk : ts.take k = us.take k
theorem FrI.step {w6 W W' : World} {n k : Nat} {ts us : List TileV} (h : FrI w6 n ts us k W) (hb : Below W.heap.size W W') : FrI w6 n ts us k W' := ⟨⟨h.ct.box.step hb, h.ct.bel.trans (hb.mono h.ct.bel.size)⟩, h.le, h.tk⟩
theorem FrI.own {w6 : World} {B n : Nat} {ts us : List TileV} (hB : w6.heap.size ≤ B) : OwnFrom B (fun k W => FrI w6 n ts us k W) := fun k X Y row h hg hr => ⟨CtI.own_ (fun k => k) hB k X Y row h.ct hg hr, h.le, h.tk⟩
structure FrX (w : World) (g6 g7 : Nat) (W : World) : Prop where
  b6 : Blk W g6 40 #[.pointer none]
  b7 : Blk W g7 23 #[.int .i64 240]
  bel : Below w.heap.size w W
theorem FrX.own {w : World} {B g6 g7 : Nat} (h6 : g6 < B) (h7 : g7 < B) (hw : w.heap.size ≤ B) : OwnFrom B (fun (_ : Nat) W => FrX w g6 g7 W) := fun k X Y row h hg hr => by
  have hne : ∀ g, g < B → some g ≠ row := fun g hg e => by have := (hr g e.symm).1; omega
  exact ⟨h.b6.grown hg (hne _ h6), h.b7.grown hg (hne _ h7), h.bel.grown hg h.bel.size (fun r e => by have := (hr r e).1; omega)⟩
/-- what From answers -/
def FromR (w : World) (z : Int) (res : HL × Int) (e : Ending) (w' : World) : Prop :=
  ∃ v, e = .returned (.tuple #[v, .int .i64 res.2]) ∧ Below w.heap.size w w' ∧ ((res.2 ≠ 0 ∧ v = .pointer none) ∨ (res.2 = 0 ∧ ∃ lo p m f, w.heap.size ≤ lo ∧ v = .pointer (some ⟨p, 0, none⟩) ∧ Ti lo p m z.toNat f res.1 w'))
set_option maxHeartbeats 16000000 in
set_option maxRecDepth 100000 in
theorem tfrom_any (z size : Int) (ts : List TileV) (A : Option Addr) (n c : Nat) (w : World) (h : Ts w (fun _ => True) A n c ts) (hn : n ≤ 1000000) (hs : ∀ t ∈ ts, t.2.2.length ≤ 1000000) (hlv : (leaves0 ts).length ≤ 65536) (hsz : I64 size) :
    Calls Tryd.prog 12 #[.int .i64 z, .int .i64 size, .slice A n c] w (FromR w z (fromT14 z size ts)) := by
  have hl := h.len
  have hr := h.room
  unfold maxLen at hr
  obtain ⟨res, hres⟩ : ∃ x, fromT14 z size ts = x := ⟨_, rfl⟩
  rw [hres]
  obtain ⟨w1, hw1⟩ : ∃ x, w.alloc (.cells #[.slice A n c] 33) = x := ⟨_, rfl⟩
  obtain ⟨w2, hw2⟩ : ∃ x, w1.alloc (.cells #[.pointer none] 40) = x := ⟨_, rfl⟩
  obtain ⟨w3, hw3⟩ : ∃ x, w2.alloc (.cells #[.int .i64 0] 23) = x := ⟨_, rfl⟩
  have b1 : Below w.heap.size w w1 := by rw [← hw1]; exact (Below.refl _ _).alloc (Nat.le_refl _) _
  have b2 : Below w1.heap.size w1 w2 := by rw [← hw2]; exact (Below.refl _ _).alloc (Nat.le_refl _) _
  have b3 : Below w2.heap.size w2 w3 := by rw [← hw3]; exact (Below.refl _ _).alloc (Nat.le_refl _) _
  have k5 : Blk w3 w.heap.size 33 #[.slice A n c] := Blk.step (Blk.step (by rw [← hw1]; exact Blk.new _ _ _) b2) b3
  have k6 : Blk w3 w1.heap.size 40 #[.pointer none] := Blk.step (by rw [← hw2]; exact Blk.new _ _ _) b3
  have k7 : Blk w3 w2.heap.size 23 #[.int .i64 0] := by rw [← hw3]; exact Blk.new _ _ _
  have s1 : w1.heap.size = w.heap.size + 1 := by rw [← hw1]; simp
  have s2 : w2.heap.size = w1.heap.size + 1 := by rw [← hw2]; simp
  have s3 : w3.heap.size = w2.heap.size + 1 := by rw [← hw3]; simp
  have l1 : w.heap.size < w1.heap.size := by omega
  have l2 : w1.heap.size < w2.heap.size := by omega
  have l3 : w2.heap.size < w3.heap.size := by omega
  have B3 : Below w.heap.size w w3 := (b1.trans (b2.mono b1.size)).trans (b3.mono (by omega))
  have Hw1 := Lib.hid hw1
  have Hw2 := Lib.hid hw2
  have Hw3 := Lib.hid hw3
  clear hw1 hw2 hw3 b1 b2 b3 s1 s2 s3
  by_cases hz : z < 1 ∨ 8 < z
  · have hr2 : res = ([], 2) := by rw [← hres]; exact if_pos (by omega)
    obtain ⟨W9, hW9, K6, K7, B9, c6, f6, c7, f7, -, -, -⟩ := fin_te (N := w.heap.size) k6 k7 (by omega) (by omega) (by omega) (.pointer none) (.int .i64 2)
    have HW9 := Lib.hid hW9
    have Hnew := Lib.hid (tnew_bad z w3 hz)
    have BE := B3.trans B9
    rw [hr2]
    clear hW9 hz hr2 hres h hl hs hlv hsz B9 B3 k5 k6 k7
    refine (callsIn_wide (n := 5)).1 ?_
    refine callsIn_of_wp_marks Tryd.func12 rfl trivial ?_ rfl
    simp only [Tryd.ntmps12, List.size_toArray, List.length_cons, List.length_nil, Nat.reduceAdd, Nat.reduceSub, Array.replicate_succ, Array.replicate_zero, List.push_toArray, List.append_toArray, List.nil_append, List.cons_append]
    refine wpIn_wide.2 ?_
    go_wp2_with (first | rw [Hw1.out] | rw [Hw2.out] | rw [Hw3.out])
    refine Hnew.out.mono ?_
    rintro e w4 ⟨rfl, hw⟩
    obtain rfl := hw.symm
    go_wp2_with (rw [HW9.out])
    refine leaves_marks (N := w.heap.size) [] _ (MarksOk.nil _ _) fun w' ht => ⟨_, results_te rfl _ _ _ _ _ _ rfl rfl (ht.blk _ _ _ K6) (ht.blk _ _ _ K7), ?_⟩
    exact ⟨_, rfl, BE.trans ht.bel, .inl ⟨by decide, rfl⟩⟩
  obtain ⟨h0, rfl⟩ : ∃ k : Nat, z = k := ⟨z.toNat, by omega⟩
  have hh1 : 1 ≤ h0 := by omega
  have hh8 : h0 ≤ 8 := by omega
  have hnew := tnew_any h0 w3 hh1 hh8
  by_cases hneg : size < 0
  · have hr2 : res = ([], 2) := by rw [← hres]; exact if_pos (by omega)
    have d1 : decide (size < 0) = true := by simpa using hneg
    have Hnew := Lib.hid hnew
    rw [hr2]
    clear hr2 hres h hl hs hlv hsz hz hneg hnew k5
    refine (callsIn_wide (n := 5)).1 ?_
    refine callsIn_of_wp_marks Tryd.func12 rfl trivial ?_ rfl
    simp only [Tryd.ntmps12, List.size_toArray, List.length_cons, List.length_nil, Nat.reduceAdd, Nat.reduceSub, Array.replicate_succ, Array.replicate_zero, List.push_toArray, List.append_toArray, List.nil_append, List.cons_append]
    refine wpIn_wide.2 ?_
    go_wp2_with (first | rw [Hw1.out] | rw [Hw2.out] | rw [Hw3.out])
    refine Hnew.out.mono ?_
    rintro e w4 ⟨p, pm, rfl, -, hb4⟩
    obtain ⟨W9, hW9, K6, K7, B9, c6, f6, c7, f7, -, -, -⟩ := fin_te (N := w.heap.size) (k6.step hb4) (k7.step hb4) (by omega) (by omega) (by omega) (.pointer none) (.int .i64 2)
    have HW9 := Lib.hid hW9
    have BE := (B3.trans (hb4.mono B3.size)).trans B9
    clear hW9 B9 hb4 B3 k6 k7
    go_wp2_with (rw [HW9.out])
    refine leaves_marks (N := w.heap.size) [] _ (MarksOk.nil _ _) fun w' ht => ⟨_, results_te rfl _ _ _ _ _ _ rfl rfl (ht.blk _ _ _ K6) (ht.blk _ _ _ K7), ?_⟩
    exact ⟨_, rfl, BE.trans ht.bel, .inl ⟨by decide, rfl⟩⟩
  have hfr : fromT14 (h0 : Int) size ts = if ((leaves0 ts).length : Int) ≠ size then ([], 240) else if ts = tilesL h0 (leaves0 ts) then (leaves0 ts, 0) else ([], 240) := by
    unfold fromT14
    rw [if_neg (by omega)]
    rfl
  rw [hres] at hfr
  have d1 : decide (size < 0) = false := by simpa using hneg
  obtain ⟨L, hL⟩ : ∃ L, leaves0 ts = L := ⟨_, rfl⟩
  have hlt := leaves0_take ts
  have h32 : H32 L := by rw [← hL]; exact leaves0_32 h
  rw [hL] at hfr hlv hlt
  obtain ⟨m, hm⟩ : ∃ m, L.length = m := ⟨_, rfl⟩
  rw [hm] at hfr hlv hlt
  have hTs := h.step B3
  have Hnew := Lib.hid hnew
  have Hfr := Lib.hid hfr
  have H := Lib.hid h
  have Hl := Lib.hid hl
  have Hs_ := Lib.hid hs
  have HL := Lib.hid hL
  have Hm := Lib.hid hm
  have Hlt := Lib.hid hlt
  have H3 := Lib.hid h32
  have HTs := Lib.hid hTs
  clear hres hfr h hl hs hL hm hlt hz hnew hneg h32 hTs
  refine (callsIn_wide (n := 5)).1 ?_
  refine callsIn_of_wp_marks Tryd.func12 rfl trivial ?_ rfl
  simp only [Tryd.ntmps12, List.size_toArray, List.length_cons, List.length_nil, Nat.reduceAdd, Nat.reduceSub, Array.replicate_succ, Array.replicate_zero, List.push_toArray, List.append_toArray, List.nil_append, List.cons_append]
  refine wpIn_wide.2 ?_
  go_wp2_with (first | rw [Hw1.out] | rw [Hw2.out] | rw [Hw3.out])
  refine Hnew.out.mono ?_
  rintro e w4 ⟨p, pm, rfl, ht, hb4⟩
  have k54 := k5.step hb4
  have k64 := k6.step hb4
  have k74 := k7.step hb4
  have B4 := B3.trans (hb4.mono B3.size)
  have hz4 := hb4.size
  have HT4 := Lib.hid (HTs.out.step hb4)
  have hlt4 := fun k hk => ht.t.ltR k hk
  have Hlt4 := Lib.hid hlt4
  have Ht := Lib.hid ht
  have c5 : w4.cell? ⟨w.heap.size, 0, none⟩ = some (.slice A n c) := by rw [k54.cell]; rfl
  have K54 := Lib.hid k54
  have K64 := Lib.hid k64
  have K74 := Lib.hid k74
  have HB4 := Lib.hid B4
  clear k5 k6 k7 k54 k64 k74 ht hlt4 B3 B4 hb4 HTs Hnew
  go_wp2_with fail
  clear c5 d1
  go_loopw [10, 28] (fun v10 v28 wr => ∃ i : Nat, i ≤ n ∧ v28 = .int .i64 (i : Int) ∧ wr.ownsRow w4.heap.size 48 32 v10 (leaves0 (ts.take i)).length (hcells (leaves0 (ts.take i))) ∧ Below w4.heap.size w4 wr) (fun _ v28 _ => n - (intOf v28).toNat)
  case atStart => exact ⟨0, Nat.zero_le _, rfl, World.ownsRow_nil _ _ _ _, Below.refl _ _⟩
  case round =>
    obtain ⟨i, hi, rfl, ho, hb⟩ := hrel
    have hz := hb.size
    obtain ⟨A8, c8, rfl, hs8⟩ := owns_slv ho
    have hr8 := hs8.room
    have hm8 := hs8.max
    unfold maxLen at hm8
    have hlti := Hlt.out i
    obtain ⟨k8, hk8⟩ : ∃ k, (leaves0 (ts.take i)).length = k := ⟨_, rfl⟩
    rw [hk8] at ho hr8 hlti hs8 ⊢
    by_cases hin : i < n
    · have hd : decide ((i : Int) < (n : Int)) = true := by simp; omega
      have hwi : IntKind.i64.wrap ((i : Int) + 1) = (i : Int) + 1 := IntWalk.i64_in _ (by omega)
      have hit : i < ts.length := by rw [Hl.out]; exact hin
      obtain ⟨b, o, rfl, -, -, -⟩ := H.out.at_ (by omega)
      obtain ⟨Ax, cx, hcx, hhx, hldx⟩ := (HT4.out.step hb).cells rfl i hit
      have hsn := tile_snoc ts i hit
      have hsx := Hs_.out _ (List.getElem_mem hit)
      obtain ⟨⟨xl, xi, xh⟩, hx⟩ : ∃ x, ts[i] = x := ⟨_, rfl⟩
      rw [hx] at hcx hhx hsn hsx hldx
      dsimp only at hcx hhx hsx hldx
      have hlv1 : leaves0 (ts.take (i + 1)) = leaves0 (ts.take i) ++ if xl = 0 then xh else [] := by rw [hsn, leaves0_snoc]
      obtain ⟨nx, hnx⟩ : ∃ k, xh.length = k := ⟨_, rfl⟩
      rw [hnx] at hhx hsx hldx
      have hrx := hhx.sl.room
      have hmx := hhx.sl.max
      unfold maxLen at hmx
      have Hld := Lib.hid (hldx wr (Below.refl _ _))
      have Hlv1 := Lib.hid hlv1
      have Ho := Lib.hid ho
      have Hb := Lib.hid hb
      have Hhx := Lib.hid hhx
      have Hnx := Lib.hid hnx
      have Hk8 := Lib.hid hk8
      clear hcx hhx hsn hldx hlv1 hx hnx ho hb hs8 hit hk8
      go_upto_region 8 with (first
        | ((with_reducible show wpList _ _ _ (⟨some 31, .load _ _, _, _, _, _⟩ :: _) _ _); refine wpList_run rfl (.agg #[.int .i64 xl, .int .i64 xi, .slice Ax nx cx]) wr (run_load_op 38 (.tmp 30) rfl b (o + i * 3) rfl _ Hld.out) ?_; simp only [Act.put, List.setIfInBounds_toArray, List.set_cons_succ, List.set_cons_zero])
        | ((with_reducible show wpList _ _ _ (⟨some 12, .alloc _, _, _, _, _⟩ :: _) _ _); refine wpList_tvar xl xi Ax nx cx (.tmp 12) (.tmp 31) rfl rfl rfl rfl rfl rfl ?_; intro w5 k12 hb5; simp only [Act.put, List.setIfInBounds_toArray, List.set_cons_succ, List.set_cons_zero]))
      have c0 : w5.cell? ⟨wr.heap.size, 0, none⟩ = some (.int .i64 xl) := by rw [k12.cell]; rfl
      have c2 : w5.cell? ⟨wr.heap.size, 2, none⟩ = some (.slice Ax nx cx) := by rw [k12.cell]; rfl
      have ho5 := owns_step Ho.out hb5
      have hhx5 := Hhx.out.step hb5
      have hb45 := Hb.out.trans (hb5.mono hz)
      have hz5 := hb5.size
      have hz45 : w4.heap.size ≤ w5.heap.size := hb45.size
      clear k12 hb5 Ho Hhx Hb Hld
      by_cases hx0 : xl = 0
      · subst hx0
        have hlv1 := Hlv1.out
        rw [if_pos rfl] at hlv1
        have hk8 := Hk8.out
        have hnx := Hnx.out
        obtain ⟨v4, w6, hr4, ho4, hg4, -⟩ := append_slv (ty := 36) Tryd.underlying36 info26z (by simp [Value.cells]) (by decide) ho5 hhx5.sl (fun u hu => by obtain ⟨y, -, rfl⟩ := List.mem_map.1 hu; rfl) (by unfold maxLen; omega) (by omega) hz45
        rw [← hcells_append, ← hlv1, show k8 + nx = (leaves0 (ts.take (i + 1))).length by rw [hlv1, List.length_append, hk8, hnx]] at ho4
        have hb4 := grown_own hb45 ho5 hg4 hz45
        have Hr4 := Lib.hid hr4
        have Ho4 := Lib.hid ho4
        have Hb4 := Lib.hid hb4
        clear hlv1 hr4 ho4 hg4 hb4 hk8 hnx ho5 hhx5 hb45 hz5
        go_wp2_with ((with_reducible show wpList _ _ _ (⟨some 38, .call _, _, _, _, _⟩ :: _) _ _); refine wpList_run rfl v4 w6 (run_append_op (.tmp 35) (.tmp 37) 36 rfl _ _ rfl rfl Hr4.out) ?_; simp only [Act.put, List.setIfInBounds_toArray, List.set_cons_succ, List.set_cons_zero])
        go_roundw
        case rel => exact ⟨i + 1, by omega, by go_num, Ho4.out, Hb4.out⟩
        case measure => simp [intOf]; omega
      · have hb0 : (xl == 0) = false := by simpa using hx0
        have hlv1 := Hlv1.out
        rw [if_neg hx0, List.append_nil] at hlv1
        have hk9 : (leaves0 (ts.take (i + 1))).length = k8 := by rw [hlv1]; exact Hk8.out
        rw [← hlv1] at ho5
        have Hk9 := Lib.hid hk9
        have Ho := Lib.hid ho5
        have Hb := Lib.hid hb45
        clear hlv1 hk9 ho5 hb45 hhx5 hx0 hz5
        go_wp2_with fail
        go_roundw
        case rel => exact ⟨i + 1, by omega, by go_num, by rw [Hk9.out]; exact Ho.out, Hb.out⟩
        case measure => simp [intOf]; omega
    · obtain rfl : i = n := by omega
      have hd : decide ((i : Int) < (i : Int)) = false := by simp
      rw [List.take_of_length_le (by rw [Hl.out]; exact Nat.le_refl _), HL.out] at ho hs8
      rw [List.take_of_length_le (by rw [Hl.out]; exact Nat.le_refl _), HL.out, Hm.out] at hk8
      subst hk8
      have K6 := K64.out.step hb
      have K7 := K74.out.step hb
      by_cases hsm : (m : Int) = size
      · subst hsm
        have hno : ((m : Int) != (m : Int)) = false := by simp
        have hap := tappend_any w3.heap.size p pm h0 _ [] L A8 m c8 wr (Ht.out.step hb) ⟨by rw [← Hm.out]; exact (by rw [Hm.out]; exact hs8.weak fun b hb hx hm => by have := (Hlt4.out b hm).2; have := hx.1; omega), Hm.out, H3.out⟩ (by simp; rw [Hm.out]; omega)
        rw [List.nil_append] at hap
        have Hap := Lib.hid hap
        have Hb := Lib.hid hb
        clear hap ho hs8 hb
        go_wp2_with fail
        refine Hap.out.mono ?_
        rintro e w6 ⟨rfl, f1, ht6, hk6, hn6⟩
        clear Hap
        have hz6 := hk6.size
        have k56 := hk6.blk (K54.out.step Hb.out) (fun hm => by have := (Hlt4.out _ hm).1; omega)
        have k66 := hk6.blk K6 (fun hm => by have := (Hlt4.out _ hm).1; omega)
        have k76 := hk6.blk K7 (fun hm => by have := (Hlt4.out _ hm).1; omega)
        have B6 : Below w.heap.size w w6 := (HB4.out.trans (Hb.out.mono HB4.out.size)).trans (hk6.below (fun b hb => by have := (Hlt4.out b hb).1; omega) (by omega))
        have hlt6 := fun k hk => ht6.t.ltR k hk
        have l36 : w3.heap.size ≤ w6.heap.size := by omega
        obtain ⟨w7, hw7⟩ : ∃ x, w6.alloc (.cells #[.int .i64 0] 3) = x := ⟨_, rfl⟩
        have k13 : Blk w7 w6.heap.size 3 #[.int .i64 0] := by rw [← hw7]; exact Blk.new _ _ _
        have hb7 : Below w6.heap.size w6 w7 := by rw [← hw7]; exact (Below.refl _ _).alloc (Nat.le_refl _) _
        have Hw7 := Lib.hid hw7
        have c13 : w7.cell? ⟨w6.heap.size, 0, none⟩ = some (.int .i64 0) := by rw [k13.cell]; rfl
        have f13 := k13.frozen 0
        have hI0 : CtI w6 0 (w7.setCell ⟨w6.heap.size, 0, none⟩ (.int .i64 0)) := ⟨k13.set_ 0 _, hb7.setCell (p := ⟨w6.heap.size, 0, none⟩) (Nat.le_refl _) _⟩
        obtain ⟨w8, hw8⟩ : ∃ x, w7.setCell ⟨w6.heap.size, 0, none⟩ (.int .i64 0) = x := ⟨_, rfl⟩
        rw [hw8] at hI0
        have Hw8 := Lib.hid hw8
        have HI0 := Lib.hid hI0
        have K56 := Lib.hid k56
        have K66 := Lib.hid k66
        have K76 := Lib.hid k76
        have HB6 := Lib.hid B6
        have Ht6 := Lib.hid ht6
        have Hlt6 := Lib.hid hlt6
        clear hw7 hw8 k13 hb7 hI0 k56 k66 k76 B6 ht6 hlt6 hk6 hn6 K6 K7 Hb Ht
        go_wp2_with (first | rw [Hw7.out] | rw [Hw8.out])
        refine (tall_any _ w8 rfl).mono ?_
        rintro e w9 ⟨rfl, hbx, hb9⟩
        clear c13 f13 Hw7 Hw8
        have hI9 : FrI w6 i ts (tilesL h0 L) 0 w9 := ⟨⟨HI0.out.box.step hb9, HI0.out.bel.trans (hb9.mono HI0.out.bel.size)⟩, Nat.zero_le _, rfl⟩
        have hz8 := HI0.out.bel.size
        have hbl := HI0.out.box.lt
        have hz9 := hb9.size
        obtain ⟨us, hus⟩ : ∃ u, tilesL h0 L = u := ⟨_, rfl⟩
        have hseq := tall_seq w3.heap.size p pm h0 w8.heap.size f1 L (· = w6.heap.size) w9 (Ht6.out.kb (kb_of_below hI9.ct.bel) fun k hk hx => by have := (Hlt6.out k hk).2; omega) hbx (fun b hb => by have hb : b = w6.heap.size := hb; omega) (by show ¬ w8.heap.size = _; omega) (fun b hb e => by have := (Hlt6.out b hb).2; have e : b = w6.heap.size := e; omega)
        have hul : us.length ≤ 65536 := by
          have := tilesL_le h0 L hh1
          rw [← hus]
          have := Hm.out
          omega
        have hux : ∀ t ∈ us, t.2.2.length ≤ 1000000 := by
          intro t ht
          rw [← hus] at ht
          have h1 := tilesL_rows h0 L t ht
          have : 2 ^ h0 ≤ 2 ^ 8 := Nat.pow_le_pow_right (by decide) hh8
          omega
        have hu32 : ∀ t ∈ us, H32 t.2.2 := by
          intro t ht
          rw [← hus] at ht
          exact tilesL_32 h0 L H3.out t ht
        have hty : ∀ n₁ k vs W, TileY h0 L n₁ k vs W → ∃ t, us[k]? = some t ∧ ∃ v, vs = #[.agg #[.int .i64 t.1, .int .i64 t.2.1, v]] ∧ W.ownsRow n₁ 48 32 v t.2.2.length (hcells t.2.2) := by
          intro n₁ k vs W hy
          rw [← hus]
          exact hy
        have hr3 : res = if ts = us then (L, 0) else ([], 240) := by
          rw [Hfr.out, if_neg (by simp), hus]
        rw [hus] at hseq hI9
        have Hr3 := Lib.hid hr3
        have Hul := Lib.hid hul
        have Hux := Lib.hid hux
        have Hu32 := Lib.hid hu32
        have Hty := Lib.hid hty
        have HT6 := Lib.hid (H.out.step HB6.out)
        clear hr3 hul hux hu32 hty hus hb9 hbx HI0
        go_wp2_with fail
        refine wp_range_U (gf := 46) (lb := #[.pointer (some ⟨w8.heap.size, 0, none⟩)]) rfl (enters_of Tryd.func46 (by kernel_rfl) rfl)
          hseq (fun _ _ _ _ h => by obtain ⟨t, -, v, rfl, -⟩ := h; rfl)
          (fun _ k => FrI w6 i ts us k) (fun _ cd _ W => cd = .ret ∧ ts ≠ us ∧ FrX w w1.heap.size w2.heap.size W) (fun n₁ => FrI.own (by omega))
          (fun _ cd k X Y row h hg hr => ⟨h.1, h.2.1, FrX.own (by omega) (by omega) (by omega) k X Y row h.2.2 hg hr⟩) (fun _ _ => hI9) ?round ?done ?stop
        case round =>
          clear hI9 hseq
          intro li n₁ k vs X hl hln hnX hk hI hy
          obtain ⟨⟨yl, yi, yh⟩, hyt, v, rfl, hoy⟩ := Hty.out _ _ _ _ hy
          dsimp only at hoy ⊢
          obtain ⟨Ay, cy, rfl, hsy⟩ := owns_slv hoy
          have hyl := Hux.out _ (List.mem_of_getElem? hyt)
          have hy32 := Hu32.out _ (List.mem_of_getElem? hyt)
          dsimp only at hyl hy32
          obtain ⟨ny, hny⟩ : ∃ q, yh.length = q := ⟨_, rfl⟩
          rw [hny] at hsy hyl ⊢
          have Hyt := Lib.hid hyt
          have Hny := Lib.hid hny
          clear hoy hy hyt hny
          have k14 : Blk (X.alloc (.cells #[.int .i64 yl, .int .i64 yi, .slice Ay ny cy] 38)) X.heap.size 38 #[.int .i64 yl, .int .i64 yi, .slice Ay ny cy] := Blk.new _ _ _
          have hb14 : Below X.heap.size X (X.alloc (.cells #[.int .i64 yl, .int .i64 yi, .slice Ay ny cy] 38)) := (Below.refl _ _).alloc (Nat.le_refl _) _
          have K14_ := Lib.hid k14
          have Hb14 := Lib.hid hb14
          clear k14 hb14
          gi_wp2
          have k14 := K14_.out
          have hb14 := Hb14.out
          clear K14_ Hb14
          generalize X.alloc (.cells #[.int .i64 yl, .int .i64 yi, .slice Ay ny cy] 38) = X1 at k14 hb14 ⊢
          refine ⟨KeepU.below hb14, ?_⟩
          intro X2 hturn
          have hI2 := hturn.own (FrI.own (w6 := w6) (n := i) (ts := ts) (us := us) (show w6.heap.size ≤ w9.heap.size by omega)) (s := k) (hI.step hb14)
          have k14' := hturn.blk k14
          have hHy : Hs X2 (fun _ => True) Ay ny cy yh := ⟨(hturn.slv (hsy.step hb14)).weak (fun _ _ _ => trivial), Hny.out, hy32⟩
          generalize X.heap.size = g14 at k14' ⊢
          have c50 : ∀ s : InC (fun V => Below X2.heap.size X2 V), s.W.cell? ⟨w6.heap.size, 0, none⟩ = some (.int .i64 (k : Int)) := fun s => by rw [(hI2.ct.box.step s.ok).cell]; rfl
          have c51 : ∀ s : InC (fun V => Below X2.heap.size X2 V), s.W.cell? ⟨w.heap.size, 0, none⟩ = some (.slice A i c) := fun s => by rw [((K56.out.below hI2.ct.bel (by omega)).step s.ok).cell]; rfl
          have k62 := K66.out.below hI2.ct.bel (by omega)
          have k72 := K76.out.below hI2.ct.bel (by omega)
          have hT2 := HT6.out.kb (kb_of_below hI2.ct.bel) fun b hb hx hle => by omega
          have hle := hI2.le
          have BX2 := HB6.out.trans (hI2.ct.bel.mono HB6.out.size)
          have hS : Below X2.heap.size X2 X2.drew := (Below.refl _ _).drew
          have HI2 := Lib.hid hI2
          have K62 := Lib.hid k62
          have K72 := Lib.hid k72
          have BX := Lib.hid BX2
          have Hy := Lib.hid hHy
          have K14 := Lib.hid k14'
          have HT2 := Lib.hid hT2
          have Hk := Lib.hid hk
          clear hI hI2 k62 k72 BX2 hHy k14' hT2 hk k14 hb14 hturn hsy hy32 hnX
          by_cases hkn : k = i
          · subst hkn
            have hq : ((k : Int) == (k : Int)) = true := by simp
            have hne : ts ≠ us := fun e => by have := Hk.out; rw [← e, Hl.out] at this; omega
            have Hne := Lib.hid hne
            clear hne
            gi_wp2
            refine wpIn_region_mix (openR li) rfl (fun _ _ h => h) (fun W => Below X2.heap.size X2 W) [(0, true), (1, true), (2, true), (3, true), (4, true), (5, true), (6, true), (7, true), (8, true), (9, true), (10, false), (11, true), (12, true)] (by kernel_rfl) (by kernel_rfl) hS fun _ => ?_
            simp only [List.map_cons, List.map_nil, Array.getD_eq_getD_getElem?, List.getElem?_toArray, List.getElem?_cons_succ, List.getElem?_cons_zero, Option.getD_some]
            generalize X2.drew = u0 at hS ⊢
            refine wpMix_s (fun K hK => ?_)
            go_simp
            refine hK _ ?_
            clear hK K
            refine wpMix_s (fun K hK => ?_)
            go_simp
            refine hK _ ?_
            clear hK K
            refine wpMix_s (fun K hK => ?_)
            go_simp
            refine hK _ ?_
            clear hK K
            refine wpMix_s (fun K hK => ?_)
            go_simp
            refine hK _ ?_
            clear hK K
            refine wpMix_s (fun K hK => ?_)
            go_simp
            refine hK _ ?_
            clear hK K
            refine wpMix_s (fun K hK => ?_)
            go_simp
            refine hK _ ?_
            clear hK K
            refine wpMix_s (fun K hK => ?_)
            go_simp
            refine hK _ ?_
            clear hK K
            refine wpMix_s (fun K hK => ?_)
            go_simp
            refine hK _ ?_
            clear hK K
            refine wpMix_s (fun K hK => ?_)
            go_simp
            refine hK _ ?_
            clear hK K
            refine wpMix_s (fun K hK => ?_)
            go_simp
            refine hK _ ?_
            clear hK K
            refine wpMix_c (fun K hK => ?_) hS
            go_simp
            refine hK _ _ ?_
            clear hK K
            refine ⟨hS, ?_⟩
            refine wpMix_s (fun K hK => ?_)
            go_simp
            refine hK _ ?_
            clear hK K
            refine wpMix_s (fun K hK => ?_)
            go_simp
            refine hK _ ?_
            clear hK K
            refine wpMix_nil ?_
            intro _
            generalize u0 = W3 at *
            obtain ⟨W9, hW9, K6, K7, B9, c6, f6, c7, f7, -, -, kf⟩ := fin_te (N := w.heap.size) (K62.out.step hS) (K72.out.step hS) (by omega) (by omega) (by omega) (.pointer none) (.int .i64 240)
            have HW9 := Lib.hid hW9
            have HKf := Lib.hid ((KeepU.below (B := w9.heap.size) (n₁ := 0) (U := fun _ => True) hS).f.trans (kf w9.heap.size))
            have BE := Lib.hid ((BX.out.trans (hS.mono BX.out.size)).trans B9)
            clear hW9 kf B9 hS c50 c51
            gi_wp2_with (rw [HW9.out])
            exact ⟨HKf.out, rfl, Hne.out, K6, K7, BE.out⟩
          · have hki : k < i := by omega
            have hq : ((k : Int) == (i : Int)) = false := by simp; omega
            have hit : k < ts.length := by rw [Hl.out]; exact hki
            obtain ⟨b, o, rfl, -, -, -⟩ := HT2.out.at_ (by omega)
            obtain ⟨Ax, cx, hcx, hhx, hldx⟩ := HT2.out.cells rfl k hit
            have hsx := Hs_.out _ (List.getElem_mem hit)
            have t1 := tile_snoc ts k hit
            have hgt : ts[k]? = some ts[k] := List.getElem?_eq_getElem hit
            obtain ⟨⟨xl, xi, xh⟩, hx⟩ : ∃ x, ts[k] = x := ⟨_, rfl⟩
            rw [hx] at hhx hsx hldx hgt t1
            dsimp only at hhx hsx hldx
            have t2 : us.take (k + 1) = us.take k ++ [(yl, yi, yh)] := by rw [List.take_add_one, Hyt.out]; rfl
            obtain ⟨nx, hnx⟩ : ∃ q, xh.length = q := ⟨_, rfl⟩
            rw [hnx] at hhx hsx hldx
            have hsame := fun V (hV : Below X2.heap.size X2 V) => tsame14_any xl xi yl yi xh yh Ax Ay nx ny cx cy V (hhx.step hV) (Hy.out.step hV) (by omega) (by omega)
            have Hldx := Lib.hid hldx
            have Ht1 := Lib.hid t1
            have Ht2 := Lib.hid t2
            have Hgt := Lib.hid hgt
            have Hro := Lib.hid (HT2.out.room)
            have hro := HT2.out.room
            unfold maxLen at hro
            clear hcx hhx hldx t1 t2 hgt hx hnx hit hkn
            by_cases heq : (xl, xi, xh) = (yl, yi, yh)
            · have dd : decide ((xl, xi, xh) = (yl, yi, yh)) = true := by simpa using heq
              have htk2 : ts.take (k + 1) = us.take (k + 1) := by rw [Ht1.out, Ht2.out, HI2.out.tk, heq]
              rw [dd] at hsame
              have Hsame := Lib.hid hsame
              have Htk := Lib.hid htk2
              clear dd hsame htk2 heq
              gi_wp2
              refine wpIn_region_mix (openR li) rfl (fun _ _ h => h) (fun W => Below X2.heap.size X2 W) [(0, true), (1, true), (2, true), (3, true), (4, true), (5, true), (6, true), (7, true), (8, true), (9, true), (10, false), (11, true), (12, true)] (by kernel_rfl) (by kernel_rfl) hS fun _ => ?_
              simp only [List.map_cons, List.map_nil, Array.getD_eq_getD_getElem?, List.getElem?_toArray, List.getElem?_cons_succ, List.getElem?_cons_zero, Option.getD_some]
              generalize X2.drew = u0 at hS ⊢
              refine wpMix_s (fun K hK => ?_)
              go_simp
              refine hK _ ?_
              clear hK K
              refine wpMix_s (fun K hK => ?_)
              go_simp
              refine hK _ ?_
              clear hK K
              refine wpMix_s (fun K hK => ?_)
              go_simp
              refine hK _ ?_
              clear hK K
              refine wpMix_s (fun K hK => ?_)
              go_simp
              refine hK _ ?_
              clear hK K
              refine wpMix_s (fun K hK => ?_)
              go_simp
              refine hK _ ?_
              clear hK K
              refine wpMix_s (fun K hK => ?_)
              go_simp
              refine hK _ ?_
              clear hK K
              refine wpMix_s (fun K hK => ?_)
              go_simp
              refine hK _ ?_
              clear hK K
              refine wpMix_s (fun K hK => ?_)
              go_simp
              refine hK _ ?_
              clear hK K
              refine wpMix_load (by kernel_rfl) 38 (.tmp 57) rfl (b) (o + k * 3) rfl #[.int .i64 xl, .int .i64 xi, .slice Ax nx cx] (fun s => Hldx.out s.W s.ok) ?_
              simp only [Act.put, List.setIfInBounds_toArray, List.set_cons_succ, List.set_cons_zero]
              refine wpMix_load (by kernel_rfl) 38 (.tmp 14) rfl (g14) (0) rfl #[.int .i64 yl, .int .i64 yi, .slice Ay ny cy] (fun s => run_load_blk (aggTile _) (sizeTile _) _ _ rfl (K14.out.step s.ok)) ?_
              simp only [Act.put, List.setIfInBounds_toArray, List.set_cons_succ, List.set_cons_zero]
              refine wpMix_c (fun K hK => ?_) hS
              go_simp
              refine (Hsame.out u0 hS).mono ?_
              rintro e u0_1 ⟨rfl, hb'⟩
              refine hK _ _ ?_
              clear hK K
              replace hS := hS.trans (hb'.mono hS.size)
              refine ⟨hS, ?_⟩
              clear hb'
              refine wpMix_s (fun K hK => ?_)
              go_simp
              refine hK _ ?_
              clear hK K
              refine wpMix_s (fun K hK => ?_)
              go_simp
              refine hK _ ?_
              clear hK K
              refine wpMix_nil ?_
              intro _
              generalize u0_1 = W3 at *
              have hI3 := HI2.out.step hS
              have hK3 : KeepU w9.heap.size n₁ (· = w6.heap.size) X2 W3 := KeepU.below hS
              have c13 : W3.cell? ⟨w6.heap.size, 0, none⟩ = some (.int .i64 (k : Int)) := by rw [hI3.ct.box.cell]; rfl
              have f13 := hI3.ct.box.frozen 0
              have hwk : IntKind.i64.wrap ((k : Int) + 1) = (k : Int) + 1 := IntWalk.i64_in _ (by omega)
              have hK4 := hK3.trans (KeepU.setCell (B := w9.heap.size) (n₁ := n₁) (U := (· = w6.heap.size)) hI3.ct.box (.inr rfl) 0 (.int .i64 ((k + 1 : Nat) : Int)))
              have hI4 : FrI w6 i ts us (k + 1) (W3.setCell ⟨w6.heap.size, 0, none⟩ (.int .i64 ((k + 1 : Nat) : Int))) := ⟨⟨hI3.ct.box.set_ 0 _, hI3.ct.bel.setCell (p := ⟨w6.heap.size, 0, none⟩) (Nat.le_refl _) _⟩, by omega, Htk.out⟩
              rw [show ((k + 1 : Nat) : Int) = (k : Int) + 1 by omega] at hK4 hI4
              have HK4 := Lib.hid hK4
              have HI4 := Lib.hid hI4
              clear hI3 hK3 hK4 hI4 hS c50 c51
              gi_wp2
              exact ⟨HK4.out, HI4.out⟩
            · have dd : decide ((xl, xi, xh) = (yl, yi, yh)) = false := by simpa using heq
              have hne : ts ≠ us := fun e => heq (by have := Hgt.out; rw [e, Hyt.out] at this; exact (Option.some.inj this).symm)
              rw [dd] at hsame
              have Hsame := Lib.hid hsame
              have Hne := Lib.hid hne
              clear dd hsame hne heq
              gi_wp2
              refine wpIn_region_mix (openR li) rfl (fun _ _ h => h) (fun W => Below X2.heap.size X2 W) [(0, true), (1, true), (2, true), (3, true), (4, true), (5, true), (6, true), (7, true), (8, true), (9, true), (10, false), (11, true), (12, true)] (by kernel_rfl) (by kernel_rfl) hS fun _ => ?_
              simp only [List.map_cons, List.map_nil, Array.getD_eq_getD_getElem?, List.getElem?_toArray, List.getElem?_cons_succ, List.getElem?_cons_zero, Option.getD_some]
              generalize X2.drew = u0 at hS ⊢
              refine wpMix_s (fun K hK => ?_)
              go_simp
              refine hK _ ?_
              clear hK K
              refine wpMix_s (fun K hK => ?_)
              go_simp
              refine hK _ ?_
              clear hK K
              refine wpMix_s (fun K hK => ?_)
              go_simp
              refine hK _ ?_
              clear hK K
              refine wpMix_s (fun K hK => ?_)
              go_simp
              refine hK _ ?_
              clear hK K
              refine wpMix_s (fun K hK => ?_)
              go_simp
              refine hK _ ?_
              clear hK K
              refine wpMix_s (fun K hK => ?_)
              go_simp
              refine hK _ ?_
              clear hK K
              refine wpMix_s (fun K hK => ?_)
              go_simp
              refine hK _ ?_
              clear hK K
              refine wpMix_s (fun K hK => ?_)
              go_simp
              refine hK _ ?_
              clear hK K
              refine wpMix_load (by kernel_rfl) 38 (.tmp 57) rfl (b) (o + k * 3) rfl #[.int .i64 xl, .int .i64 xi, .slice Ax nx cx] (fun s => Hldx.out s.W s.ok) ?_
              simp only [Act.put, List.setIfInBounds_toArray, List.set_cons_succ, List.set_cons_zero]
              refine wpMix_load (by kernel_rfl) 38 (.tmp 14) rfl (g14) (0) rfl #[.int .i64 yl, .int .i64 yi, .slice Ay ny cy] (fun s => run_load_blk (aggTile _) (sizeTile _) _ _ rfl (K14.out.step s.ok)) ?_
              simp only [Act.put, List.setIfInBounds_toArray, List.set_cons_succ, List.set_cons_zero]
              refine wpMix_c (fun K hK => ?_) hS
              go_simp
              refine (Hsame.out u0 hS).mono ?_
              rintro e u0_1 ⟨rfl, hb'⟩
              refine hK _ _ ?_
              clear hK K
              replace hS := hS.trans (hb'.mono hS.size)
              refine ⟨hS, ?_⟩
              clear hb'
              refine wpMix_s (fun K hK => ?_)
              go_simp
              refine hK _ ?_
              clear hK K
              refine wpMix_s (fun K hK => ?_)
              go_simp
              refine hK _ ?_
              clear hK K
              refine wpMix_nil ?_
              intro _
              generalize u0_1 = W3 at *
              obtain ⟨W9, hW9, K6, K7, B9, c6, f6, c7, f7, -, -, kf⟩ := fin_te (N := w.heap.size) (K62.out.step hS) (K72.out.step hS) (by omega) (by omega) (by omega) (.pointer none) (.int .i64 240)
              have HW9 := Lib.hid hW9
              have HKf := Lib.hid ((KeepU.below (B := w9.heap.size) (n₁ := 0) (U := fun _ => True) hS).f.trans (kf w9.heap.size))
              have BE := Lib.hid ((BX.out.trans (hS.mono BX.out.size)).trans B9)
              clear hW9 kf B9 hS c50 c51
              gi_wp2_with (rw [HW9.out])
              exact ⟨HKf.out, rfl, Hne.out, K6, K7, BE.out⟩
        case done =>
          clear hI9 hseq
          intro D n₁ X hD hDn hI hK
          have c13 : X.cell? ⟨w6.heap.size, 0, none⟩ = some (.int .i64 (us.length : Int)) := by rw [hI.ct.box.cell]; rfl
          have c5 : X.cell? ⟨w.heap.size, 0, none⟩ = some (.slice A i c) := by rw [(K56.out.below hI.ct.bel (by omega)).cell]; rfl
          have k6X := K66.out.below hI.ct.bel (by omega)
          have k7X := K76.out.below hI.ct.bel (by omega)
          have hM := (MarksOk.nil w6.heap.size X).cons (D := D) (by omega) hK (by simp)
          have BX := HB6.out.trans (hI.ct.bel.mono HB6.out.size)
          have htX := Ht6.out.kb (kb_of_below hI.ct.bel) fun k hk hx => by have := (Hlt6.out k hk).2; omega
          have htk := hI.tk
          have hle := hI.le
          rw [List.take_of_length_le (Nat.le_refl us.length)] at htk
          have Htk := Lib.hid htk
          have Hle := Lib.hid hle
          have hzX := hI.ct.bel.size
          obtain ⟨q, hq⟩ : ∃ q, us.length = q := ⟨_, rfl⟩
          rw [hq] at c13
          have Hq := Lib.hid hq
          clear hI hK htk hle hq
          by_cases hqn : q = i
          · subst hqn
            have hno : ((q : Int) != (q : Int)) = false := by simp
            have heq : ts = us := by
              have := Htk.out
              rw [List.take_of_length_le (by rw [Hl.out, Hq.out]; exact Nat.le_refl _)] at this
              exact this
            have hr4 : res = (L, 0) := by rw [Hr3.out, if_pos heq]
            obtain ⟨W9, hW9, K6, K7, B9, c6, f6, c7, f7, kb9, mk9, -⟩ := fin_te (N := w.heap.size) k6X k7X (by omega) (by omega) (by omega) (.pointer (some ⟨p, 0, none⟩)) (.int .i64 0)
            have HW9 := Lib.hid hW9
            have HM9 := Lib.hid (mk9 _ _ hM)
            have BE := Lib.hid (BX.trans B9)
            have ht9 := htX.kb kb9 fun k hk hx => by have := (Hlt6.out k hk).1; omega
            have Ht9 := Lib.hid ht9
            subst hr4
            clear hW9 mk9 B9 BX hM ht9 htX kb9 heq k6X k7X
            go_wp2_with (rw [HW9.out])
            refine leaves_marks (N := w6.heap.size) [D] _ HM9.out fun w' ht => ⟨_, results_te rfl _ _ _ _ _ _ rfl rfl (ht.blk _ _ _ K6) (ht.blk _ _ _ K7), ?_⟩
            exact ⟨_, rfl, BE.out.trans (ht.bel.mono HB6.out.size), .inr ⟨rfl, w3.heap.size, p, pm, f1, by omega, rfl, Ht9.out.kb (kb_of_below ht.bel) fun k hk hx => by have := (Hlt6.out k hk).2; omega⟩⟩
          · have hno : ((q : Int) != (i : Int)) = true := by simp; omega
            have hne : ts ≠ us := fun e => hqn (by rw [← Hq.out, ← e]; exact Hl.out)
            have hr4 : res = ([], 240) := by rw [Hr3.out, if_neg hne]
            obtain ⟨W9, hW9, K6, K7, B9, c6, f6, c7, f7, -, mk9, -⟩ := fin_te (N := w.heap.size) k6X k7X (by omega) (by omega) (by omega) (.pointer none) (.int .i64 240)
            have HW9 := Lib.hid hW9
            have HM9 := Lib.hid (mk9 _ _ hM)
            have BE := Lib.hid (BX.trans B9)
            subst hr4
            clear hW9 mk9 B9 BX hM htX hne hqn k6X k7X
            go_wp2_with (rw [HW9.out])
            refine leaves_marks (N := w6.heap.size) [D] _ HM9.out fun w' ht => ⟨_, results_te rfl _ _ _ _ _ _ rfl rfl (ht.blk _ _ _ K6) (ht.blk _ _ _ K7), ?_⟩
            exact ⟨_, rfl, BE.out.trans (ht.bel.mono HB6.out.size), .inl ⟨by decide, rfl⟩⟩
        case stop =>
          clear hI9 hseq
          rintro D n₁ cd k X hD hDn hk ⟨rfl, hne, hX⟩ hK
          have hM := (MarksOk.nil w6.heap.size X).cons (D := D) (by omega) hK (by simp)
          have hr4 : res = ([], 240) := by rw [Hr3.out, if_neg hne]
          subst hr4
          clear hne hk hK
          go_wp2_with fail
          refine leaves_marks (N := w6.heap.size) [D] _ hM fun w' ht => ⟨_, results_te rfl _ _ _ _ _ _ rfl rfl (ht.blk _ _ _ hX.b6) (ht.blk _ _ _ hX.b7), ?_⟩
          exact ⟨_, rfl, hX.bel.trans (ht.bel.mono HB6.out.size), .inl ⟨by decide, rfl⟩⟩
      · have hb0 : ((m : Int) != size) = true := by simpa using hsm
        have hr2 : res = ([], 240) := by rw [Hfr.out, if_pos hsm]
        obtain ⟨W9, hW9, K6, K7, B9, c6, f6, c7, f7, -, -, -⟩ := fin_te (N := w.heap.size) K6 K7 (by omega) (by omega) (by omega) (.pointer none) (.int .i64 240)
        have HW9 := Lib.hid hW9
        have BE := Lib.hid ((HB4.out.trans (hb.mono HB4.out.size)).trans B9)
        subst hr2
        clear ho hs8 hb hsm hW9 B9
        go_wp2_with (rw [HW9.out])
        refine leaves_marks (N := w.heap.size) [] _ (MarksOk.nil _ _) fun w' ht => ⟨_, results_te rfl _ _ _ _ _ _ rfl rfl (ht.blk _ _ _ K6) (ht.blk _ _ _ K7), ?_⟩
        exact ⟨_, rfl, BE.out.trans ht.bel, .inl ⟨by decide, rfl⟩⟩
end Go.Proofs.YtfhmjgkcpcnkbaaDoor
