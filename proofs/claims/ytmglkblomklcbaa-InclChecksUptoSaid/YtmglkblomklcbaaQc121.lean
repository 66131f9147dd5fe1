/- tree.Each. -/
import Derived.Test.YtmglkblomklcbaaQc120
import Derived.Test.YtmglkblomklcbaaQc116
import Derived.Test.YtmglkblomklcbaaQc117
namespace Go.Proofs.Ytmglkblomklcbaa
open Go Go.RowKit

set_option maxHeartbeats 2000000 in
set_option maxRecDepth 100000 in
theorem each_any (hs : List (List UInt8)) (l : List (Int × Int)) (A : Option Addr) (n c : Nat) (Ar : Option Addr) (nr cr : Nat) (w : World) (h : Hs w (fun _ => True) A n c hs) (hr : Rs w (fun _ => True) Ar nr cr l) (hn : n ≤ 1099511627776) (hnr : nr ≤ 1099511627776) :
    Calls Try.prog 38 #[.slice A n c, .slice Ar nr cr] w fun e w' => ∃ (A' : Option Addr) (c' : Nat) (Ar' : Option Addr) (cr' : Nat), e = .returned (.func (.func 52) #[] #[.pointer (some ⟨w.heap.size + 1, 0, none⟩), .pointer (some ⟨w.heap.size, 0, none⟩)]) ∧
      Blk w' (w.heap.size + 1) 79 #[.slice Ar' nr cr'] ∧ Blk w' w.heap.size 22 #[.slice A' n c'] ∧ Hs w' (w.heap.size + 1 < ·) A' n c' hs ∧ Rs w' (w.heap.size + 1 < ·) Ar' nr cr' l ∧ Below w.heap.size w w' := by
  obtain ⟨w2, hw2⟩ : ∃ w2, (w.alloc (.cells #[.slice A n c] 22)).alloc (.cells #[.slice Ar nr cr] 79) = w2 := ⟨_, rfl⟩
  have hb2 : Below w.heap.size w w2 := by rw [← hw2]; exact ((Below.refl _ _).alloc (Nat.le_refl _) _).alloc (by simp) _
  have hsz : w2.heap.size = w.heap.size + 1 + 1 := by rw [← hw2]; simp
  have k2 : Blk w2 w.heap.size 22 #[.slice A n c] := by rw [← hw2]; exact (Blk.new _ _ _).alloc _
  have k3 : Blk w2 (w.heap.size + 1) 79 #[.slice Ar nr cr] := by rw [← hw2]; exact Blk.new' _ _ _ _ (by simp)
  have h2 := h.step hb2
  have hr2 := hr.step hb2
  have Hw2 := Lib.hid hw2
  clear hw2 h hr
  go_enter Try.func38, Try.ntmps38
  go_wp2_with fail
  rw [Hw2.out]
  have hh0 : Hs w2.drew (fun _ => True) A n c hs := h2.drew
  have hr0 : Rs w2.drew (fun _ => True) Ar nr cr l := hr2.drew
  have hsz0 : w2.drew.heap.size = w.heap.size + 1 + 1 := hsz
  have c2 : ∀ s : InC (fun W => Below w2.heap.size w2 W), s.W.cell? ⟨w.heap.size, 0, none⟩ = some (.slice A n c) := fun s => by rw [(k2.below s.ok (show w.heap.size < w2.heap.size by omega)).cell]; rfl
  have c3 : ∀ s : InC (fun W => Below w2.heap.size w2 W), s.W.cell? ⟨w.heap.size + 1, 0, none⟩ = some (.slice Ar nr cr) := fun s => by rw [(k3.below s.ok (show w.heap.size + 1 < w2.heap.size by omega)).cell]; rfl
  replace k2 : Blk w2.drew w.heap.size 22 #[.slice A n c] := k2
  replace k3 : Blk w2.drew (w.heap.size + 1) 79 #[.slice Ar nr cr] := k3
  clear h2 hr2
  have hS : Below w2.heap.size w2 w2.drew := (Below.refl _ _).drew
  refine wp_region_mix_tail (fun W => Below w2.heap.size w2 W) 4 [(0, true), (2, true), (1, false), (3, false)] (by kernel_rfl) (by kernel_rfl) hS fun _ => ?_
  simp only [List.map_cons, List.map_nil, Array.getD_eq_getD_getElem?, List.getElem?_toArray, List.getElem?_cons_succ, List.getElem?_cons_zero, Option.getD_some]
  generalize w2.drew = W0 at hS hh0 hr0 hsz0 k2 k3 ⊢
  refine wpMix_s (fun K hK => ?_)
  go_simp
  refine hK _ ?_
  clear hK K
  refine wpMix_s (fun K hK => ?_)
  go_simp
  refine hK _ ?_
  clear hK K
  refine wpMix_c (fun K hK => ?_) hS
  go_simp
  refine (cloneh_any hs A n c W0 hh0 hn).mono ?_
  rintro e W0_1 ⟨A1, c1, rfl, hh1, hb'⟩
  refine hK _ _ ?_
  clear hK K
  replace hS := hS.trans (hb'.mono hS.size)
  refine ⟨hS, ?_⟩
  have h3 := hr0.step hb'
  replace k2 := k2.step hb'
  replace k3 := k3.step hb'
  have hsW := hb'.size
  clear hb' hh0 hr0
  refine wpMix_c (fun K hK => ?_) hS
  go_simp
  refine (cloner_any l Ar nr cr W0_1 h3 hnr).mono ?_
  rintro e W0_2 ⟨A2, c2, rfl, hr1, hb'⟩
  refine hK _ _ ?_
  clear hK K
  replace hS := hS.trans (hb'.mono hS.size)
  refine ⟨hS, ?_⟩
  replace hh1 := hh1.step hb'
  replace k2 := k2.step hb'
  replace k3 := k3.step hb'
  have hsW2 := hb'.size
  clear hb' h3
  have d2 : W0_2.cell? ⟨w.heap.size, 0, none⟩ = some (.slice A n c) := by rw [k2.cell]; rfl
  have d3 : W0_2.cell? ⟨w.heap.size + 1, 0, none⟩ = some (.slice Ar nr cr) := by rw [k3.cell]; rfl
  have f2 := k2.frozen 0
  have f3 := k3.frozen 0
  refine wpMix_nil ?_
  intro _
  simp only [List.drop_succ_cons, List.drop_zero]
  generalize W0_2 = W9 at *
  go_wp2_with fail
  refine np_normal ?_
  have m2 : Blk ((W9.setCell ⟨w.heap.size, 0, none⟩ (.slice A1 n c1)).setCell ⟨w.heap.size + 1, 0, none⟩ (.slice A2 nr c2)) w.heap.size 22 #[.slice A1 n c1] := (k2.set_ 0 _).apart (by simp) _
  have m3 : Blk ((W9.setCell ⟨w.heap.size, 0, none⟩ (.slice A1 n c1)).setCell ⟨w.heap.size + 1, 0, none⟩ (.slice A2 nr c2)) (w.heap.size + 1) 79 #[.slice A2 nr c2] := (k3.apart (by simp) _).set_ 0 _
  have mh : Hs ((W9.setCell ⟨w.heap.size, 0, none⟩ (.slice A1 n c1)).setCell ⟨w.heap.size + 1, 0, none⟩ (.slice A2 nr c2)) (w.heap.size + 1 < ·) A1 n c1 hs :=
    ((hh1.weak (Y := (w.heap.size + 1 < ·)) fun b _ hb => by omega).grown (grownBy_setCell' W9 _ _) fun b _ hx e => by cases e; omega).grown (grownBy_setCell' _ _ _) fun b _ hx e => by cases e; omega
  have mr : Rs ((W9.setCell ⟨w.heap.size, 0, none⟩ (.slice A1 n c1)).setCell ⟨w.heap.size + 1, 0, none⟩ (.slice A2 nr c2)) (w.heap.size + 1 < ·) A2 nr c2 l :=
    ((hr1.weak (Y := (w.heap.size + 1 < ·)) fun b _ hb => by omega).grown (grownBy_setCell' W9 _ _) fun b _ hx e => by cases e; omega).grown (grownBy_setCell' _ _ _) fun b _ hx e => by cases e; omega
  have mb : Below w.heap.size w ((W9.setCell ⟨w.heap.size, 0, none⟩ (.slice A1 n c1)).setCell ⟨w.heap.size + 1, 0, none⟩ (.slice A2 nr c2)) := ((hb2.trans (hS.mono hb2.size)).setCell (by simp) _).setCell (by simp) _
  generalize (W9.setCell ⟨w.heap.size, 0, none⟩ (.slice A1 n c1)).setCell ⟨w.heap.size + 1, 0, none⟩ (.slice A2 nr c2) = W10 at *
  clear k2 k3 d2 d3 f2 f3 hh1 hr1 hS
  go_wp2_with fail
  go_ret
  exact ⟨_, _, _, _, rfl, m3, m2, mh, mr, mb⟩
end Go.Proofs.Ytmglkblomklcbaa
/- What is known between the statements of notarylaw09.TreeEach. -/
namespace Go.Proofs.Ytmglkblomklcbaa
open Go Go.RowKit

theorem grownBy_setRowE (W : World) (g : Nat) (cs : Array Value) : W.grownBy (W.setRow g cs) (some g) := ⟨rfl, rfl, rfl, by simp, fun k _ hne => setRow_other W g k cs (fun e => hne (by rw [e]))⟩
structure TeA (w : World) (hs : List (List UInt8)) (l : List (Int × Int)) (A : Option Addr) (n c : Nat) (Ar : Option Addr) (nr cr : Nat) (lv : Int) (A2 : Option Addr) (c2 : Nat) (Ar2 : Option Addr) (cr2 G Z : Nat) (W : World) : Prop where
  b3 : Blk W w.heap.size 22 #[.slice A n c]
  b5 : Blk W (w.heap.size + 1) 3 #[.int .i64 lv]
  b6 : Blk W (w.heap.size + 1 + 1) 4 #[.bool false]
  src : Hs W (· < w.heap.size) A n c hs
  rs : Rs W (· < w.heap.size) Ar nr cr l
  e1 : Blk W (G + 1) 79 #[.slice Ar2 nr cr2]
  e2 : Blk W G 22 #[.slice A2 n c2]
  eh : Hs W (fun b => G + 1 < b ∧ b < Z) A2 n c2 hs
  er : Rs W (fun b => G + 1 < b ∧ b < Z) Ar2 nr cr2 l
  bel : Below w.heap.size w W
  sz : Z ≤ W.heap.size
  gs : w.heap.size + 1 + 1 + 1 ≤ G
  gz : G + 1 < Z
section
variable {w : World} {hs : List (List UInt8)} {l : List (Int × Int)} {A : Option Addr} {n c : Nat} {Ar : Option Addr} {nr cr : Nat} {lv : Int} {A2 : Option Addr} {c2 : Nat} {Ar2 : Option Addr} {cr2 G Z : Nat} {W W' : World}
theorem TeA.grown {row : Option Nat} (h : TeA w hs l A n c Ar nr cr lv A2 c2 Ar2 cr2 G Z W) (hg : W.grownBy W' row) (hr : ∀ r, row = some r → (w.heap.size + 1 + 1 + 1 ≤ r ∧ r < G) ∨ Z ≤ r) : TeA w hs l A n c Ar nr cr lv A2 c2 Ar2 cr2 G Z W' := by
  have h1 := h.gs
  have h2 := h.gz
  have hlo : ∀ g, g < w.heap.size + 1 + 1 + 1 → some g ≠ row := fun g hg e => by have := hr g e.symm; omega
  have hhi : ∀ g, G ≤ g → g < Z → some g ≠ row := fun g hg h e => by have := hr g e.symm; omega
  exact ⟨h.b3.grown hg (hlo _ (by omega)), h.b5.grown hg (hlo _ (by omega)), h.b6.grown hg (hlo _ (by omega)), h.src.grown hg fun b _ hx => hlo b (by omega), h.rs.grown hg fun b _ hx => hlo b (by omega),
    h.e1.grown hg (hhi _ (by omega) (by omega)), h.e2.grown hg (hhi _ (by omega) (by omega)), h.eh.grown hg fun b _ hx => hhi b (by omega) hx.2, h.er.grown hg fun b _ hx => hhi b (by omega) hx.2,
    h.bel.grown hg h.bel.size fun k e => by have := hr k e; omega, Nat.le_trans h.sz hg.size, h.gs, h.gz⟩
theorem TeA.step (h : TeA w hs l A n c Ar nr cr lv A2 c2 Ar2 cr2 G Z W) (hb : Below W.heap.size W W') : TeA w hs l A n c Ar nr cr lv A2 c2 Ar2 cr2 G Z W' := h.grown (grown_of_below hb none) (fun r e => by cases e)
end
/-- the lent hashes, the lent stretches: rows of one's own -/
structure TeM (M gm n c' : Nat) (Ao : Option Addr) (nr co : Nat) (W : World) : Prop where
  m : ∃ xs, W.ownsRow M 45 32 (.slice (some ⟨gm, 0, none⟩) (n + 1) c') (n + 1) xs
  o : ∃ xs, W.ownsRow M 68 2 (.slice Ao nr co) nr xs
theorem TeM.grown {M gm n c' : Nat} {Ao : Option Addr} {nr co : Nat} {W W' : World} {row : Option Nat} (h : TeM M gm n c' Ao nr co W) (hg : W.grownBy W' row) (h1 : some gm ≠ row) (h2 : (Value.slice Ao nr co).ownBlock = none ∨ (Value.slice Ao nr co).ownBlock ≠ row) : TeM M gm n c' Ao nr co W' :=
  ⟨let ⟨xs, h⟩ := h.m; ⟨xs, h.kept hg (.inr h1)⟩, let ⟨xs, h⟩ := h.o; ⟨xs, h.kept hg h2⟩⟩
theorem TeM.step {M gm n c' : Nat} {Ao : Option Addr} {nr co : Nat} {W W' : World} (h : TeM M gm n c' Ao nr co W) (hb : Below W.heap.size W W') : TeM M gm n c' Ao nr co W' :=
  ⟨let ⟨xs, h⟩ := h.m; ⟨xs, owns_step h hb⟩, let ⟨xs, h⟩ := h.o; ⟨xs, owns_step h hb⟩⟩
theorem own_dec {v : Value} {row : Option Nat} {G Z : Nat} (hv : ∀ g, v.ownBlock = some g → g < G) (hr : ∀ r, row = some r → Z ≤ r) (hGZ : G ≤ Z) : v.ownBlock = none ∨ v.ownBlock ≠ row := by
  cases h : v.ownBlock with
  | none => exact .inl rfl
  | some g => exact .inr fun e => by have := hv g h; have := hr g e.symm; omega
/-- what is wanted, in a box -/
def TeW (gW : Nat) (q : List (Int × Int)) (W : World) : Prop := ∃ v, Blk W gW 79 #[v] ∧ W.ownsRow (gW + 1) 68 2 v q.length (rcells q)
theorem TeW.lt {gW : Nat} {q : List (Int × Int)} {W : World} (h : TeW gW q W) : gW + 1 ≤ W.heap.size := let ⟨_, h1, _⟩ := h; h1.lt
theorem TeW.step {gW : Nat} {q : List (Int × Int)} {W W' : World} (h : TeW gW q W) (hb : Below W.heap.size W W') : TeW gW q W' := let ⟨v, h1, h2⟩ := h; ⟨v, h1.step hb, owns_step h2 hb⟩
theorem TeW.grown {gW : Nat} {q : List (Int × Int)} {W W' : World} {row : Option Nat} (h : TeW gW q W) (hg : W.grownBy W' row) (hr : ∀ r, row = some r → r < gW) : TeW gW q W' :=
  let ⟨v, h1, h2⟩ := h
  ⟨v, h1.grown hg (fun e => by have := hr gW e.symm; omega), h2.kept hg (by
    cases hv : v.ownBlock with
    | none => exact .inl rfl
    | some g => exact .inr fun e => by have := (h2.lt g hv).1; have := hr g e.symm; omega)⟩
/-- one more is wanted -/
theorem TeW.more {gW : Nat} {q : List (Int × Int)} {W : World} {v : Value} (h2 : W.ownsRow (gW + 1) 68 2 v q.length (rcells q)) (hk : Blk W gW 79 #[v]) (x : Int × Int) (hq : q.length ≤ 1000000000) (hs : gW + 1 ≤ W.heap.size) :
    ∃ v' W', (Builtin.append_ #[79, 79] 79 #[v, .slice (some ⟨W.heap.size, 0, none⟩) 1 1]).run Try.prog (W.alloc (.cells #[.int .i64 x.1, .int .i64 x.2] 68)) = .ok v' W' ∧
      Blk W' gW 79 #[v] ∧ W'.ownsRow (gW + 1) 68 2 v' (q.length + 1) (rcells (q ++ [x])) ∧ W.grownBy W' v.ownBlock ∧ Below (gW + 1) W W' ∧ ∀ r, v.ownBlock = some r → gW + 1 ≤ r := by
  obtain ⟨v', W', hr, ho, hg, -⟩ := append_r h2 x hq hs
  refine ⟨v', W', hr, hk.grown hg (fun e => by have := (h2.lt gW e.symm).1; omega), ho, hg, (Below.refl _ _).grown hg hs (fun k e => (h2.lt k e).1), fun r e => (h2.lt r e).1⟩
theorem TeW.own {gW : Nat} {q : List (Int × Int)} {W W' : World} {row : Option Nat} (h : TeW gW q W) (hg : W.grownBy W' row) (hr : ∀ r, row = some r → ∃ o, W.heap[r]? = some o ∧ o.isCells = false) : TeW gW q W' :=
  let ⟨v, h1, h2⟩ := h
  ⟨v, h1.grown hg (fun e => by
    obtain ⟨o, ho, hc⟩ := hr gW e.symm
    rw [show W.heap[gW]? = _ from h1] at ho; cases ho; cases hc), h2.kept hg (by
    rcases h2.2 with ⟨rfl, _⟩ | ⟨g, cap, cur, rfl, _, hb, _⟩
    · exact .inl rfl
    · refine .inr fun e => ?_
      obtain ⟨o, ho, hc⟩ := hr g e.symm
      rw [show W.heap[g]? = _ from hb] at ho; cases ho; cases hc)⟩
/-- another cell is written -/
theorem TeW.cell {gW g : Nat} {q : List (Int × Int)} {W : World} {k : Value} (h : TeW gW q W) (hk : Blk W g 3 #[k]) (hne : g ≠ gW) (u : Value) : TeW gW q (W.setCell ⟨g, 0, none⟩ u) :=
  let ⟨v, h1, h2⟩ := h
  ⟨v, h1.apart (Ne.symm hne) u, h2.kept (grownBy_setCell' W g u) (by
    rcases h2.2 with ⟨rfl, _⟩ | ⟨g', cap, cur, rfl, _, hb, _⟩
    · exact .inl rfl
    · refine .inr fun e => ?_
      have e : g' = g := Option.some.inj e
      subst e
      rw [show W.heap[g']? = _ from hk] at hb
      cases hb)⟩
/-- within the turns: the turn's number, the round's number, the marks so far -/
structure TeQ (w : World) (hs : List (List UInt8)) (l : List (Int × Int)) (A : Option Addr) (n c : Nat) (Ar : Option Addr) (nr cr : Nat) (lv : Int) (A2 : Option Addr) (c2 : Nat) (Ar2 : Option Addr) (cr2 G Z gW gT gk t : Nat) (ds : List Nat) (k : Nat) (W : World) : Prop where
  a : TeA w hs l A n c Ar nr cr lv A2 c2 Ar2 cr2 G Z W
  wn : TeW gW (goodL hs l) W
  bT : Blk W gT 3 #[.int .i64 (t : Int)]
  bk : Blk W gk 3 #[.int .i64 (k : Int)]
  mks : MarksOk w.heap.size ds W
  zW : Z ≤ gW
  wT : gW < gT
  tk : gT < gk
section
variable {w : World} {hs : List (List UInt8)} {l : List (Int × Int)} {A : Option Addr} {n c : Nat} {Ar : Option Addr} {nr cr : Nat} {lv : Int} {A2 : Option Addr} {c2 : Nat} {Ar2 : Option Addr} {cr2 G Z gW gT gk t k B : Nat} {ds : List Nat} {W W' : World}
theorem TeQ.step (h : TeQ w hs l A n c Ar nr cr lv A2 c2 Ar2 cr2 G Z gW gT gk t ds k W) (hb : Below W.heap.size W W') : TeQ w hs l A n c Ar nr cr lv A2 c2 Ar2 cr2 G Z gW gT gk t ds k W' :=
  ⟨h.a.step hb, h.wn.step hb, h.bT.step hb, h.bk.step hb, h.mks.step hb, h.zW, h.wT, h.tk⟩
theorem TeQ.own (hB : gk < B) (hd : ∀ D ∈ ds, D < B) : OwnFrom B (fun k W => TeQ w hs l A n c Ar nr cr lv A2 c2 Ar2 cr2 G Z gW gT gk t ds k W) := fun k X Y row h hg hr => by
  have h1 := h.zW
  have h2 := h.wT
  have h3 := h.tk
  have h4 := h.a.sz
  have hne : ∀ g, g < B → some g ≠ row := fun g hg e => by have := (hr g e.symm).1; omega
  exact ⟨h.a.grown hg (fun r e => .inr (by have := (hr r e).1; omega)), h.wn.own hg (fun r e => (hr r e).2), h.bT.grown hg (hne _ (by omega)), h.bk.grown hg (hne _ hB), h.mks.grown hg (fun D hD => hne _ (hd D hD)), h1, h2, h3⟩
theorem TeQ.setk (h : TeQ w hs l A n c Ar nr cr lv A2 c2 Ar2 cr2 G Z gW gT gk t ds k W) (k' : Nat) : TeQ w hs l A n c Ar nr cr lv A2 c2 Ar2 cr2 G Z gW gT gk t ds k' (W.setCell ⟨gk, 0, none⟩ (.int .i64 (k' : Int))) := by
  have h1 := h.zW
  have h2 := h.wT
  have h3 := h.tk
  exact ⟨h.a.grown (grownBy_setCell' W gk _) (fun r e => by cases e; right; omega), h.wn.cell h.bk (by omega) _, h.bT.apart (by omega) _, h.bk.set_ 0 _, h.mks.cell h.bk _, h1, h2, h3⟩
end
end Go.Proofs.Ytmglkblomklcbaa
