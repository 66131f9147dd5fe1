/- notarylaw08.rows. -/
import Derived.Test.YtdkgndjomkbbjaaHRow
import Derived.Test.YtdkgndjomkbbjaaRRows
namespace Go.Proofs.Ytdkgndjomkbbjaa
open Go Go.RowKit Go.Shelf
attribute [local go_sem] Oper.semAt_some

/-- what a round's steps keep -/
structure KFC (B : Nat) (M : Nat → Prop) (W W' : World) : Prop where
  f : KeepsFrom B W W'
  c : KeepC M W W'
section
variable {B : Nat} {M : Nat → Prop} {W W' W2 : World} {g : Nat} {t : TypeId} {cs : Array Value}
theorem KFC.refl (B : Nat) (M : Nat → Prop) (W : World) : KFC B M W W := ⟨KeepsFrom.refl _ _, KeepC.refl _ _⟩
theorem KFC.trans (h : KFC B M W W') (k : KFC B M W' W2) : KFC B M W W2 := ⟨h.f.trans k.f, h.c.trans k.c⟩
theorem KFC.below (h : Below W.heap.size W W') : KFC B M W W' := ⟨KeepsFrom.of_grownBy (grown_of_below h none) (fun j e => by cases e), KeepC.below h⟩
theorem KFC.setRow (hg : Blk W g t cs) (hm : M g) (cs' : Array Value) : KFC B M W (W.setRow g cs') :=
  ⟨⟨by simp, fun k o _ hk ho => by
    rw [setRow_other W g k cs' (fun e => by rw [e, show W.heap[g]? = _ from hg] at hk; cases hk; cases ho)]; exact hk⟩, KeepC.setRow W g cs' hm⟩
theorem KFC.setCell (hg : Blk W g t cs) (hm : M g) (i : Nat) (u : Value) : KFC B M W (W.setCell ⟨g, i, none⟩ u) :=
  ⟨⟨by simp [World.setCell], fun k o _ hk ho => by
    rw [Below.heap_setCell W ⟨g, i, none⟩ u k (fun e => by rw [e, show W.heap[g]? = _ from hg] at hk; cases hk; cases ho)]; exact hk⟩,
   ⟨rfl, rfl, rfl, by simp [World.setCell], fun k o hk _ hkm => by
    rw [Below.heap_setCell W ⟨g, i, none⟩ u k (fun e => hkm (by rw [e]; exact hm))]; exact hk⟩⟩
end
theorem HsS.grown {W W' : World} {X : Nat → Prop} {A : Option Addr} {n c : Nat} {vs : List Value} {rs : List (List (List UInt8))} {row : Option Nat} (h : HsS W X A n c vs rs) (hg : W.grownBy W' row) (hX : ∀ b, b < W.heap.size → X b → some b ≠ row) : HsS W' X A n c vs rs :=
  ⟨h.out.grown hg hX, h.len, fun i hi => let ⟨Ai, ci, h1, h2⟩ := h.ins i hi; ⟨Ai, ci, h1, h2.grown hg hX⟩⟩

/-- what is known between two rounds -/
structure RwI (w : World) (B : Nat) (A : Option Addr) (n c : Nat) (vs : List Value) (rs : List (List (List UInt8))) (leave : Int) (ok : Bool) (k : Nat) (W : World) : Prop where
  b4 : Blk W w.heap.size 66 #[.slice A n c]
  b5 : Blk W (w.heap.size + 1) 3 #[.int .i64 leave]
  b6 : Blk W (w.heap.size + 1 + 1) 4 #[.bool ok]
  b7 : Blk W (w.heap.size + 1 + 1 + 1) 3 #[.int .i64 (k : Int)]
  rows : HsS W (· < w.heap.size) A n c vs rs
  bel : Below w.heap.size w W
  big : w.heap.size + 1 + 1 + 1 < B
section
variable {w : World} {B : Nat} {A : Option Addr} {n c : Nat} {vs : List Value} {rs : List (List (List UInt8))} {leave : Int} {ok : Bool} {k : Nat} {W W' : World}
theorem RwI.grown {row : Option Nat} (h : RwI w B A n c vs rs leave ok k W) (hg : W.grownBy W' row) (hr : ∀ r, row = some r → B ≤ r) : RwI w B A n c vs rs leave ok k W' := by
  have hb := h.big
  have hne : ∀ g, g < B → some g ≠ row := fun g hg e => by have := hr g e.symm; omega
  exact ⟨h.b4.grown hg (hne _ (by omega)), h.b5.grown hg (hne _ (by omega)), h.b6.grown hg (hne _ (by omega)), h.b7.grown hg (hne _ (by omega)), h.rows.grown hg fun b _ hx => hne b (by omega),
    h.bel.grown hg h.bel.size fun k e => by have := hr k e; omega, hb⟩
theorem RwI.step (h : RwI w B A n c vs rs leave ok k W) (hb : Below W.heap.size W W') : RwI w B A n c vs rs leave ok k W' := h.grown (grown_of_below hb none) (fun r e => by cases e)
theorem RwI.setRow (h : RwI w B A n c vs rs leave ok k W) {g : Nat} (hg : B ≤ g) (cs : Array Value) : RwI w B A n c vs rs leave ok k (W.setRow g cs) := h.grown (grownBy_setRow' W g cs) (fun r e => by cases e; exact hg)
theorem RwI.set7 (h : RwI w B A n c vs rs leave ok k W) (k' : Nat) : RwI w B A n c vs rs leave ok k' (W.setCell ⟨w.heap.size + 1 + 1 + 1, 0, none⟩ (.int .i64 (k' : Int))) :=
  ⟨h.b4.apart (by omega) _, h.b5.apart (by omega) _, h.b6.apart (by omega) _, h.b7.set_ 0 _, h.rows.grown (grownBy_setCell' W _ _) (fun b _ hx e => by have hx : b < w.heap.size := hx; have e : b = w.heap.size + 1 + 1 + 1 := Option.some.inj e; omega), h.bel.setCell (by show w.heap.size ≤ w.heap.size + 1 + 1 + 1; omega) _, h.big⟩
theorem RwI.set6 (h : RwI w B A n c vs rs leave ok k W) (ok' : Bool) : RwI w B A n c vs rs leave ok' k (W.setCell ⟨w.heap.size + 1 + 1, 0, none⟩ (.bool ok')) :=
  ⟨h.b4.apart (by omega) _, h.b5.apart (by omega) _, h.b6.set_ 0 _, h.b7.apart (by omega) _, h.rows.grown (grownBy_setCell' W _ _) (fun b _ hx e => by have hx : b < w.heap.size := hx; have e : b = w.heap.size + 1 + 1 := Option.some.inj e; omega), h.bel.setCell (by show w.heap.size ≤ w.heap.size + 1 + 1; omega) _, h.big⟩
theorem RwI.own (B' : Nat) (hB : B ≤ B') (f : List RowX → Nat) : OwnFrom B' (fun (s : List RowX) W => RwI w B A n c vs rs leave ok (f s) W) := fun _ _ _ _ h hg hr => h.grown hg (fun r e => Nat.le_trans hB (hr r e).1)
end
theorem results_cell_bool {fn : Func} {p : Tmp} (h : fn.results = #[.cell p 4]) (tmps : Array Value) (w : World) (g : Nat) (b : Bool) (hp : tmps.getD p undef = .pointer (some ⟨g, 0, none⟩)) (hg : Blk w g 4 #[.bool b]) :
    (results fn tmps).run Try.prog w = .ok (.bool b) w := by
  have hp' : tmps[p]?.getD undef = .pointer (some ⟨g, 0, none⟩) := by simpa using hp
  have hc : w.cell? ⟨g, 0, none⟩ = some (.bool b) := by rw [hg.cell]; rfl
  have hagg : ∀ w : World, (isAgg 4).run Try.prog w = .ok false w := fun _ => by kernel_rfl
  simp [results, h, hp', asAddr, loadVar, hagg, hc, go_sem]

theorem rowsF_le : ∀ (f : Nat) (hs : List (List UInt8)), ∀ r ∈ rowsF f hs, r.length ≤ hs.length
  | 0, _, r, hr => by cases hr
  | f + 1, hs, r, hr => by
    simp only [rowsF] at hr
    split at hr
    · cases hr
    · split at hr
      · rw [List.mem_singleton.1 hr]; exact Nat.le_refl _
      · rcases List.mem_cons.1 hr with rfl | hr
        · exact Nat.le_refl _
        · have := rowsF_le f (pairsL hs) r hr
          rw [length_pairsL] at this
          omega
theorem wpListIn_store_agg {F : Fence} {n : Nat} {P : Program} {w : World} {ops : Array Oper} {rest : List Oper} {o : Oper} {a : Act} {Q : Exit → Act → World → Prop} (hgd : o.guard = none) (hF : ∀ f, F.fn f) (ty : TypeId) (x y : Operand) (ho : o.op = .store ty x y)
    (N : Nat) (hsz : ∀ w : World, (sizeOf ty).run P w = .ok N w) (g off : Nat) (vs : Array Value) (hx : a.eval x = .pointer (some ⟨g, off, none⟩)) (hy : a.eval y = .agg vs) (hv : vs.size = N) (h1 : ∀ v ∈ vs.toList, v.oneCell' = true)
    (t : TypeId) (cur : Array Value) (hg : Blk w g t cur) (hc : off + N ≤ cur.size) (h : wpListIn F n P ops Q rest (a.put o.dst undef) (w.setRow g (cur.toList.take off ++ vs.toList ++ cur.toList.drop (off + N)).toArray)) : wpListIn F n P ops Q (o :: rest) a w :=
  wpListIn_plain hgd fun _ hK => by
    unfold Oper.wpIn
    rw [Oper.semAt_eq _ _ _ (by rw [ho]; intro c hc; cases hc)]
    unfold execOp
    simp only [ho, hx, hy, run_store_agg (P := P) (hsz w) g off vs cur hv h1 hg hc, Sem.run_bind, Sem.run_pure, Result.andThen_ok]
    exact ⟨fun f _ => hF f, hK _ _ h⟩

theorem wpListIn_world {F : Fence} {n : Nat} {P : Program} {ops : Array Oper} {Q : Exit → Act → World → Prop} {l : List Oper} {a : Act} {w0 : World} (G : World → Prop) (h : G w0) (hr : ∀ w, G w → wpListIn F n P ops Q l a w) : wpListIn F n P ops Q l a w0 := hr _ h

set_option maxHeartbeats 2000000 in
set_option maxRecDepth 100000 in
theorem rowsw_any (hs : List (List UInt8)) (A1 : Option Addr) (n1 c1 g1 : Nat) (A : Option Addr) (n c : Nat) (vs : List Value) (leave : Int) (w : World) (hbox : Blk w g1 57 #[.slice A1 n1 c1]) (h : Hs w (fun _ => True) A1 n1 c1 hs) (hn : n1 ≤ 4398046511104) (hr : HsS w (fun _ => True) A n c vs (rowsL hs)) :
    Calls Try.prog 46 #[.func (.func 73) #[] #[.pointer (some ⟨g1, 0, none⟩)], .slice A n c, .int .i64 leave] w fun e w' => e = .returned (.bool true) ∧ Below w.heap.size w w' := by
  have hrn := eql_rows_nil
  obtain ⟨w3, hw3⟩ : ∃ w3, (((w.alloc (.cells #[.slice A n c] 66)).alloc (.cells #[.int .i64 leave] 3)).alloc (.cells #[.bool false] 4)).alloc (.cells #[.int .i64 0] 3) = w3 := ⟨_, rfl⟩
  have hR0 : RwI w w3.heap.size A n c vs (rowsL hs) leave false 0 w3 := by
    rw [← hw3]
    refine ⟨(((Blk.new _ _ _).alloc _).alloc _).alloc _, ((Blk.new' _ _ _ _ (by simp)).alloc _).alloc _, (Blk.new' _ _ _ _ (by simp)).alloc _, Blk.new' _ _ _ _ (by simp), ?_, ((((Below.refl _ _).alloc (Nat.le_refl _) _).alloc (by simp) _).alloc (by simp; omega) _).alloc (by simp; omega) _, by simp⟩
    exact (hr.weak fun b hb _ => hb).step (((((Below.refl _ _).alloc (Nat.le_refl _) _).alloc (by simp) _).alloc (by simp; omega) _).alloc (by simp; omega) _)
  have hbox3 := hbox.below hR0.bel hbox.lt
  have hs3 := h.step hR0.bel
  have hlt1 := hbox.lt
  have Hw3 := Lib.hid hw3
  have hn' := hr.len
  have Hn := Lib.hid hn'
  clear hw3 hbox h hr hn'
  refine (callsIn_wide (n := 5)).1 ?_
  refine callsIn_of_wp_marks Try.func46 rfl trivial ?_ rfl
  simp only [Try.ntmps46, List.size_toArray, List.length_cons, List.length_nil, Nat.reduceAdd, Nat.reduceSub, Array.replicate_succ, Array.replicate_zero, List.push_toArray, List.append_toArray, List.nil_append, List.cons_append]
  gi_wp2
  rw [Hw3.out]
  refine wpIn_range_Y (gf := 73) (lb := #[.pointer (some ⟨g1, 0, none⟩)]) rfl (enters_of Try.func73 (by kernel_rfl) rfl) (rows1_seq hs A1 n1 c1 g1 w3 hbox3 hs3 hn) (fun _ => rfl) (rowY_own w3.heap.size hs)
    (fun pre W => RwI w w3.heap.size A n c vs (rowsL hs) leave false pre.length W)
    (fun cd _ W => cd = .ret ∧ ∃ k, RwI w w3.heap.size A n c vs (rowsL hs) leave true k W)
    (RwI.own _ (Nat.le_refl _) _)
    (fun cd => OwnFrom.and (ownFrom_pure _ _) (fun _ _ _ _ h hg hr => let ⟨k, h⟩ := h; ⟨k, h.grown hg (fun r e => (hr r e).1)⟩))
    hR0
    (fun x => { tmps := #[.func (.func 73) #[] #[.pointer (some ⟨g1, 0, none⟩)], .slice A n c, .int .i64 leave, undef, .pointer (some ⟨w.heap.size, 0, none⟩), .pointer (some ⟨w.heap.size + 1, 0, none⟩), .pointer (some ⟨w.heap.size + 1 + 1, 0, none⟩), .pointer (some ⟨w.heap.size + 1 + 1 + 1, 0, none⟩), .int .i64 (x.1 : Int), x.2.1, undef,
      .func (.func 73) #[] #[.pointer (some ⟨g1, 0, none⟩)], .bool false, .func (.func 73) #[] #[.pointer (some ⟨g1, 0, none⟩)], .int .i64 (x.1 : Int), x.2.1, undef, undef, undef, undef, undef, undef, undef, undef, undef, undef, undef, undef, undef, undef, undef, undef, undef, undef, undef, undef, undef, undef, undef, undef, undef, undef, undef, undef, undef, undef, undef, undef, undef, undef, undef, undef, undef], defers := [] }) ?assign ?body ?done ?stop
  case assign =>
    rintro l ⟨i, v, r⟩ W K hK
    dsimp only [rowEnc]
    gi_wp2
    exact hK
  case body =>
    rintro l pre ⟨i, v, r⟩ W hl hI ⟨hi, hrow, hr32, hrpos, g, c', cur, hv, hBg, hkg, hc', hm', hcs, hct⟩
    dsimp only at hi hrow hr32 hrpos hv hc' hct
    subst hi hv
    obtain ⟨m, hm⟩ : ∃ m, r.length = m := ⟨_, rfl⟩
    obtain ⟨k, hk⟩ : ∃ k, pre.length = k := ⟨_, rfl⟩
    have hmx := hm'
    unfold maxLen at hmx
    have hkn : k < n := by rw [← hk, ← Hn.out]; exact (List.getElem?_eq_some_iff.1 hrow).1
    have hrs : Hs W (fun _ => True) (some ⟨g, 0, none⟩) m c' r := ⟨⟨fun _ => ⟨g, 0, rfl, hkg.lt, trivial, fun j u hu => by
      rw [Nat.zero_add, hkg.cell, ← Array.getElem?_toList]
      rw [← hct, List.getElem?_take] at hu
      split at hu
      · exact hu
      · cases hu⟩, by rw [hcells_len _ hr32, hm], by omega, (fun h => by cases h), hm'⟩, hm, hr32⟩
    obtain ⟨Ai, ci, hvi, hsi⟩ := hI.rows.ins k (by rw [Hn.out]; exact hkn)
    have hri : (rowsL hs)[k]'(by rw [Hn.out]; exact hkn) = r := by
      rw [hk] at hrow
      exact (List.getElem?_eq_some_iff.1 hrow).2
    rw [hri, hm] at hvi hsi
    have hno := hI.rows.out.room
    have hnm := hI.rows.out.max
    unfold maxLen at hnm
    have hnx : n ≤ 9223372036854775807 := by omega
    obtain ⟨bo, oo, hAo, -, -, hco⟩ := hI.rows.out.at_ (by omega) (by decide)
    subst hAo
    have c4 : W.cell? ⟨w.heap.size, 0, none⟩ = some (.slice (some ⟨bo, oo, none⟩) n c) := by rw [hI.b4.cell]; rfl
    have c5 : W.cell? ⟨w.heap.size + 1, 0, none⟩ = some (.int .i64 leave) := by rw [hI.b5.cell]; rfl
    have c7 : W.cell? ⟨w.heap.size + 1 + 1 + 1, 0, none⟩ = some (.int .i64 (k : Int)) := by rw [hI.b7.cell, hk]; rfl
    have ci' : W.cell? ⟨bo, oo + k, none⟩ = some (.slice Ai m ci) := hco k _ hvi
    have hsame := same_any r (some ⟨g, 0, none⟩) Ai m c' ci W hrs (hsi.weak fun _ _ _ => trivial) (by have := rowsF_le _ hs r (by rw [← hri]; exact List.getElem_mem _); rw [hm, hs3.len] at this; omega)
    rw [hm] at hc' hct hrpos ⊢
    rw [hk] at hI ⊢
    have hneq : ((k : Int) != (k : Int)) = false := by simp
    have hdn : decide (n ≤ k) = false := by simp; omega
    obtain ⟨y, hy⟩ : ∃ y, oneHash 7 = y := ⟨_, rfl⟩
    have hyl : y.length = 32 := by rw [← hy]; exact length_oneHash _
    have Hy := Lib.hid hy
    have Hyl := Lib.hid hyl
    clear hy hyl
    have Hcs := Lib.hid hcs
    clear hcs
    have Hsame := Lib.hid hsame
    have Hk := Lib.hid hk
    have Hm := Lib.hid hm
    clear hri hvi hsi hco hrs hsame hk hm hct hrow
    gi_wp2
    refine ⟨trivial, (CallsIn.inRound l (callsIn_wide.2 Hsame.out)).mono ?_⟩
    rintro e W2 ⟨rfl, hb2⟩
    have hI2 := hI.step hb2
    have hkg2 := hkg.below hb2 hkg.lt
    have hK2 : KFC w3.heap.size (RowM w3.heap.size (k, .slice (some ⟨g, 0, none⟩) m c', r)) W W2 := KFC.below hb2
    clear hI hkg hb2 c4 c5 c7 ci' Hsame
    gi_wp2
    gi_loopw [10] (fun i wr => ∃ q : Nat, q ≤ m ∧ i = .int .i64 q ∧ (∃ cur2, Blk wr g 26 cur2 ∧ cur2.size = c' * 32) ∧ RwI w w3.heap.size (some ⟨bo, oo, none⟩) n c vs (rowsL hs) leave false k wr ∧ KFC w3.heap.size (RowM w3.heap.size (k, .slice (some ⟨g, 0, none⟩) m c', r)) W wr) (fun i => fun _ => m - (intOf i).toNat)
    case atStart => exact ⟨0, by omega, rfl, ⟨cur, hkg2, Hcs.out⟩, hI2, hK2⟩
    case round =>
      clear hkg2 hI2 hK2
      obtain ⟨q, hq, rfl, ⟨cur2, hk2, hsz2⟩, hI2, hK2⟩ := hrel
      by_cases hlt : q < m
      · have hfit : q * 32 + 32 ≤ cur2.size := by rw [hsz2]; omega
        gi_wp2_with (first
          | ((with_reducible show wpListIn _ _ _ _ _ (⟨some 42, .build _ _, _, _, _, _⟩ :: _) _ _); refine wpListIn_run rfl (by intro c h; cases h) (fun _ => trivial) (.agg (y.map B).toArray) wr (by rw [← Hy.out]; kernel_rfl) ?_; simp only [Act.put])
          | ((with_reducible show wpListIn _ _ _ _ _ (⟨none, .store _ (.tmp 43) _, _, _, _, _⟩ :: _) _ _); refine wpListIn_store_agg rfl (fun _ => trivial) 26 (.tmp 43) (.tmp 42) rfl 32 size26 g (q * 32) (y.map B).toArray rfl rfl (by simp [Hyl.out]) (oneCell_B _) 26 _ hk2 hfit ?_; simp only [Act.put]; refine wpListIn_world (fun W' => (∃ cur2, Blk W' g 26 cur2 ∧ cur2.size = c' * 32) ∧ RwI w w3.heap.size (some ⟨bo, oo, none⟩) n c vs (rowsL hs) leave false k W' ∧ KFC w3.heap.size (RowM w3.heap.size (k, .slice (some ⟨g, 0, none⟩) m c', r)) W W') ⟨⟨_, hk2.setRow_ _, by simp [Hyl.out]; omega⟩, hI2.setRow hBg _, hK2.trans (KFC.setRow hk2 (.inr ⟨m, c', rfl⟩) _)⟩ ?_; clear hk2 hI2 hK2; rintro W4 ⟨hk4, hI4, hK4⟩))
        refine ⟨⟨q + 1, by omega, by go_num, hk4, hI4, hK4⟩, ?_⟩
        simp [intOf]; omega
      · obtain rfl : q = m := by omega
        have c5 : wr.cell? ⟨w.heap.size + 1, 0, none⟩ = some (.int .i64 leave) := by rw [hI2.b5.cell]; rfl
        have c6 : wr.cell? ⟨w.heap.size + 1 + 1, 0, none⟩ = some (.bool false) := by rw [hI2.b6.cell]; rfl
        have c7 : wr.cell? ⟨w.heap.size + 1 + 1 + 1, 0, none⟩ = some (.int .i64 (k : Int)) := by rw [hI2.b7.cell]; rfl
        have f6 := hI2.b6.frozen 0
        have f7 := hI2.b7.frozen 0
        have hI7 := hI2.set7 (k + 1)
        have hK7 := hK2.trans (KFC.setCell (M := RowM w3.heap.size (k, .slice (some ⟨g, 0, none⟩) q c', r)) (B := w3.heap.size) hI2.b7 (.inl hI2.big) 0 (.int .i64 ((k + 1 : Nat) : Int)))
        have hI6 := hI7.set6 true
        have hK6 := hK7.trans (KFC.setCell (M := RowM w3.heap.size (k, .slice (some ⟨g, 0, none⟩) q c', r)) (B := w3.heap.size) hI7.b6 (.inl (by have := hI2.big; omega)) 0 (.bool true))
        rw [show ((k + 1 : Nat) : Int) = (k : Int) + 1 by omega] at hI7 hK7 hI6 hK6
        have HI7 := Lib.hid hI7
        have HK7 := Lib.hid hK7
        have HI6 := Lib.hid hI6
        have HK6 := Lib.hid hK6
        clear hI7 hK7 hI6 hK6
        by_cases hlv : (k : Int) + 1 = leave
        · have hb : ((k : Int) + 1 == leave) = true := by simp; exact hlv
          clear hlv
          gi_wp2
          exact ⟨HK6.out.f, rfl, k + 1, HI6.out⟩
        · have hb : ((k : Int) + 1 == leave) = false := by simp; exact hlv
          clear hlv
          gi_wp2
          refine ⟨HK7.out.f, HK7.out.c, ?_⟩
          have hl : (pre ++ [((k, Value.slice (some ⟨g, 0, none⟩) q c', r) : RowX)]).length = k + 1 := by rw [List.length_append, Hk.out]; rfl
          show RwI _ _ _ _ _ _ _ _ _ (List.length _) _
          rw [hl]
          exact HI7.out
  case done =>
    rintro D xs W hD hS hI hK
    have hx : xs.length = n := by rw [← Hn.out, ← hS, List.length_map]
    rw [hx] at hI
    have c4 : W.cell? ⟨w.heap.size, 0, none⟩ = some (.slice A n c) := by rw [hI.b4.cell]; rfl
    have c6 : W.cell? ⟨w.heap.size + 1 + 1, 0, none⟩ = some (.bool false) := by rw [hI.b6.cell]; rfl
    have c7 : W.cell? ⟨w.heap.size + 1 + 1 + 1, 0, none⟩ = some (.int .i64 (n : Int)) := by rw [hI.b7.cell]; rfl
    have f6 := hI.b6.frozen 0
    have hI6 := hI.set6 true
    have HI6 := Lib.hid hI6
    have HK := Lib.hid hK
    have hbig := hI.big
    clear hI6 hK hx hI
    have hkD0 : (W.setCell ⟨w.heap.size + 1 + 1, 0, none⟩ (.bool true)).heap[D]? = some (.deferred (some [])) := by
      rw [Below.heap_setCell W ⟨w.heap.size + 1 + 1, 0, none⟩ (.bool true) D (by show D ≠ w.heap.size + 1 + 1; omega)]; exact HK.out
    have HkD0 := Lib.hid hkD0
    clear hkD0
    gi_wp2
    obtain ⟨W9, hW9⟩ : ∃ W9, W.setCell ⟨w.heap.size + 1 + 1, 0, none⟩ (.bool true) = W9 := ⟨_, rfl⟩
    have HI9 := HI6.out
    have HK9 := HkD0.out
    rw [hW9] at HI9 HK9 ⊢
    have hkD : W9.heap[D]? = some (.deferred (some [])) := HK9
    refine ⟨by simp, .inl ⟨_, _, rfl, run_takeDeferred hkD, ?_⟩⟩
    refine ⟨_, results_cell_bool rfl _ _ (w.heap.size + 1 + 1) true rfl ?_, rfl, ?_⟩
    · exact HI9.b6.grown (grownBy_putObj' _ D (.deferred none)) (by have := HI9.big; intro e; cases e; omega)
    · exact HI9.bel.trans (belowK_b (w := w) (Nat.le_refl _) _ D _ _ (by have := HI9.big; omega) hkD rfl rfl)
  case stop =>
    rintro D cd pre W9 hD hSp ⟨rfl, k, HI9⟩ HK9
    gi_wp2
    have hkD : W9.heap[D]? = some (.deferred (some [])) := HK9
    refine ⟨by simp, .inl ⟨_, _, rfl, run_takeDeferred hkD, ?_⟩⟩
    refine ⟨_, results_cell_bool rfl _ _ (w.heap.size + 1 + 1) true rfl ?_, rfl, ?_⟩
    · exact HI9.b6.grown (grownBy_putObj' _ D (.deferred none)) (by have := HI9.big; intro e; cases e; omega)
    · exact HI9.bel.trans (belowK_b (w := w) (Nat.le_refl _) _ D _ _ (by have := HI9.big; omega) hkD rfl rfl)
end Go.Proofs.Ytdkgndjomkbbjaa
