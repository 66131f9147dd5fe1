/- notarylaw11.every, where a going over tells the proofs of all entries. -/
import Derived.Test.YtmglkblomklcbaaQc123
import Derived.Test.YtmglkblomklcbaaQc128
import Derived.Test.YtmglkblomklcbaaQc129
import Derived.Test.YtmglkblomklcbaaQc127
import Derived.Test.YtmglkblomklcbaaQc113
import Derived.Test.YtmglkblomklcbaaQc121
namespace Go.Proofs.Ytmglkblomklcbaa
open Go Go.RowKit Go.Shelf
attribute [local go_sem] Oper.semAt_some

/-- between two rounds -/
structure EvI (g4 g5 g6 g7 : Nat) (w : World) (q : List (List UInt8)) (A : Option Addr) (n c : Nat) (lv : Int) (k : Nat) (W : World) : Prop where
  b4 : Blk W g4 22 #[.slice A n c]
  b5 : Blk W g5 3 #[.int .i64 lv]
  b6 : Blk W g6 4 #[.bool false]
  b7 : Blk W g7 3 #[.int .i64 (k : Int)]
  src : Hs W (· < w.heap.size) A n c q
  bel : Below w.heap.size w W
  l4 : w.heap.size ≤ g4
  l5 : w.heap.size ≤ g5
  l6 : w.heap.size ≤ g6
  l7 : w.heap.size ≤ g7
  n47 : g4 ≠ g7
  n57 : g5 ≠ g7
  n67 : g6 ≠ g7
section
variable {g4 g5 g6 g7 : Nat} {w : World} {q : List (List UInt8)} {A : Option Addr} {n c : Nat} {lv : Int} {k : Nat} {W W' : World}
theorem EvI.step (h : EvI g4 g5 g6 g7 w q A n c lv k W) (hb : Below W.heap.size W W') : EvI g4 g5 g6 g7 w q A n c lv k W' :=
  ⟨h.b4.step hb, h.b5.step hb, h.b6.step hb, h.b7.step hb, h.src.step hb, h.bel.trans (hb.mono h.bel.size), h.l4, h.l5, h.l6, h.l7, h.n47, h.n57, h.n67⟩
theorem EvI.grown {row : Option Nat} (h : EvI g4 g5 g6 g7 w q A n c lv k W) (hg : W.grownBy W' row) (hr : ∀ r, row = some r → w.heap.size ≤ r ∧ r ≠ g4 ∧ r ≠ g5 ∧ r ≠ g6 ∧ r ≠ g7) : EvI g4 g5 g6 g7 w q A n c lv k W' :=
  ⟨h.b4.grown hg (fun e => (hr _ e.symm).2.1 rfl), h.b5.grown hg (fun e => (hr _ e.symm).2.2.1 rfl), h.b6.grown hg (fun e => (hr _ e.symm).2.2.2.1 rfl), h.b7.grown hg (fun e => (hr _ e.symm).2.2.2.2 rfl),
   h.src.grown hg (fun b _ hx e => by have hx : b < w.heap.size := hx; have := (hr b e.symm).1; omega), h.bel.grown hg h.bel.size (fun r e => (hr r e).1), h.l4, h.l5, h.l6, h.l7, h.n47, h.n57, h.n67⟩
theorem EvI.setk (h : EvI g4 g5 g6 g7 w q A n c lv k W) (k' : Nat) : EvI g4 g5 g6 g7 w q A n c lv k' (W.setCell ⟨g7, 0, none⟩ (.int .i64 (k' : Int))) :=
  ⟨h.b4.apart h.n47 _, h.b5.apart h.n57 _, h.b6.apart h.n67 _, h.b7.set_ 0 _, h.src.grown (grownBy_setCell' W g7 _) (fun b _ hx e => by have hx : b < w.heap.size := hx; have := h.l7; have := Option.some.inj e; omega), h.bel.setCell h.l7 _, h.l4, h.l5, h.l6, h.l7, h.n47, h.n57, h.n67⟩
theorem EvI.own_ {N : Nat} (hN : g4 < N ∧ g5 < N ∧ g6 < N ∧ g7 < N) (hw : w.heap.size ≤ N) : OwnFrom N (fun k W => EvI g4 g5 g6 g7 w q A n c lv k W) := fun _ _ _ _ h hg hr => h.grown hg fun r e => by have := (hr r e).1; omega
end
set_option maxHeartbeats 4000000 in
set_option maxRecDepth 100000 in
theorem every_any (q : List (List UInt8)) (g : Nat) (A' : Option Addr) (c' : Nat) (A : Option Addr) (n c : Nat) (lv : Int) (w : World) (hbox : Blk w g 22 #[.slice A' n c']) (h' : Hs w (fun _ => True) A' n c' q) (h : Hs w (fun _ => True) A n c q) (hn : n ≤ 1000) :
    Calls Try.prog 20 #[.func (.func 41) #[] #[.pointer (some ⟨g, 0, none⟩)], .slice A n c, .int .i64 lv] w fun e w' => e = .returned (.bool true) ∧ Below w.heap.size w w' := by
  have hroom := h.sl.room
  have hmx := h.sl.max
  unfold maxLen at hmx
  have hlen := h.len
  have hall := h.all
  obtain ⟨w3, hw3⟩ : ∃ w3, (((w.alloc (.cells #[.slice A n c] 22)).alloc (.cells #[.int .i64 lv] 3)).alloc (.cells #[.bool false] 4)).alloc (.cells #[.int .i64 0] 3) = w3 := ⟨_, rfl⟩
  have hb3 : Below w.heap.size w w3 := by rw [← hw3]; exact ((((Below.refl _ _).alloc (Nat.le_refl _) _).alloc (by simp) _).alloc (by simp; omega) _).alloc (by simp; omega) _
  have hs3 : w3.heap.size = w.heap.size + 1 + 1 + 1 + 1 := by rw [← hw3]; simp
  have hI : EvI w.heap.size (w.heap.size + 1) (w.heap.size + 1 + 1) (w.heap.size + 1 + 1 + 1) w q A n c lv 0 w3 :=
    ⟨by rw [← hw3]; exact (((Blk.new _ _ _).alloc _).alloc _).alloc _, by rw [← hw3]; exact ((Blk.new' _ _ _ _ (by simp)).alloc _).alloc _, by rw [← hw3]; exact (Blk.new' _ _ _ _ (by simp)).alloc _, by rw [← hw3]; exact Blk.new' _ _ _ _ (by simp),
     (h.weak fun b hb _ => hb).step hb3, hb3, by omega, by omega, by omega, by omega, by omega, by omega, by omega⟩
  have hbox3 := hbox.step hb3
  have h3' := (h'.weak (Y := (· < w.heap.size)) fun b hb _ => hb).step hb3
  have hgl := hbox.lt
  have q1 := eqnil_all g
  have Hw3 := Lib.hid hw3
  have Hlen := Lib.hid hlen
  have Hall := Lib.hid hall
  clear hw3 hbox h' h hb3 hlen hall
  refine (callsIn_wide (n := 5)).1 ?_
  refine callsIn_of_wp_marks Try.func20 rfl trivial ?_ rfl
  simp only [Try.ntmps20, List.size_toArray, List.length_cons, List.length_nil, Nat.reduceAdd, Nat.reduceSub, Array.replicate_succ, Array.replicate_zero, List.push_toArray, List.append_toArray, List.nil_append, List.cons_append]
  refine wpIn_wide.2 ?_
  go_wp2_with fail
  rw [Hw3.out]
  generalize he5 : w.heap.size + 1 = g5 at *
  generalize he6 : g5 + 1 = g6 at *
  generalize he7 : g6 + 1 = g7 at *
  clear q1
  refine wp_range_U (gf := 41) (lb := #[.pointer (some ⟨g, 0, none⟩)]) rfl (enters_of Try.func41 (by kernel_rfl) rfl)
    (all1_seq q A' n c' g (· = g7) w3 hbox3 (by intro e; omega) (h3'.weak fun b _ hb e => by have hb : b < w.heap.size := hb; have e : b = g7 := e; omega) (by omega))
    (fun n₁ k vs W h => by obtain ⟨v, e, -⟩ := h; rw [e]; rfl)
    (fun _ => EvI w.heap.size g5 g6 g7 w q A n c lv) (fun _ cd _ W => cd = .ret ∧ FwX w g6 W) (fun _ => EvI.own_ (by omega) (by omega)) (fun _ _ _ _ _ _ h hg hr => ⟨h.1, FwX.own_ (w := w) (g6 := g6) (N := w3.heap.size) (by omega) (by omega) 0 _ _ _ h.2 hg hr⟩) (fun _ _ => hI) ?round ?done ?stop
  case round =>
    clear hI hbox3 h3'
    rintro li n₁ k vs X hl hln hnX hk hI ⟨v, rfl, hov⟩
    gi_wp2
    refine ⟨KeepU.refl _ _ _ _, ?_⟩
    intro X2 hturn
    have hQ2 := hturn.own (EvI.own_ (g4 := w.heap.size) (g5 := g5) (g6 := g6) (g7 := g7) (w := w) (q := q) (A := A) (n := n) (c := c) (lv := lv) (N := w3.heap.size) (by omega) (by omega)) hI
    have hov2 := hturn.own_row hov
    have hnX2 : n₁ ≤ X2.heap.size := by rw [hturn.size]; exact hnX
    clear hI hov hturn hnX
    have hpl := pathL_len 63 k 0 q.length (by rw [Hlen.out]; omega)
    have hrl := length_rootsN q k
    have hr32 := rootsN_all q Hall.out k
    have hpr := r11prove_rec n q A n c X2 k (Nat.le_refl _) hk (hQ2.src.weak fun _ _ _ => trivial) (by omega)
    obtain ⟨rs, hrs⟩ : ∃ r, rootsN q k = r := ⟨_, rfl⟩
    rw [hrs] at hov2 hrl hr32 hpr
    obtain ⟨nr, hnr⟩ : ∃ m, rs.length = m := ⟨_, rfl⟩
    rw [hnr] at hov2 hrl hpr
    have hr63 : nr ≤ 63 := by omega
    have Hnr := Lib.hid hnr
    have Hr32 := Lib.hid hr32
    have Hpr := Lib.hid hpr
    clear hpl hrl hr32 hpr hnr hrs
    obtain ⟨Ap, cp, rfl, hp⟩ := Hs.of_owns hov2 Hnr.out Hr32.out
    replace hp := hp.weak (Y := fun _ => True) fun _ _ _ => trivial
    have hrp := hp.sl.room
    have hmp := hp.sl.max
    unfold maxLen at hmp
    have hlp := fun r (e : (Value.slice Ap nr cp).ownBlock = some r) => hov2.lt r e
    have c7 : X2.cell? ⟨g7, 0, none⟩ = some (.int .i64 (k : Int)) := by rw [hQ2.b7.cell]; rfl
    have c4 : X2.cell? ⟨w.heap.size, 0, none⟩ = some (.slice A n c) := by rw [hQ2.b4.cell]; rfl
    gi_wp2
    refine ⟨trivial, callsIn_any (openR li) (Hpr.out.mono ?_)⟩
    rintro e X3 ⟨v, rfl, how, hb3⟩
    obtain ⟨Aw, cw, rfl, hw⟩ := Hs.of_owns how Hnr.out Hr32.out
    replace hw := hw.weak (Y := fun _ => True) fun _ _ _ => trivial
    have hrw := hw.sl.room
    have hmw := hw.sl.max
    unfold maxLen at hmw
    have hQ3 := hQ2.step hb3
    have hov3 := owns_step hov2 hb3
    replace hp := hp.step hb3
    have hs3 := hb3.size
    have hK3 : KeepU w3.heap.size n₁ (· = g7) X2 X3 := KeepU.below hb3
    clear hQ2 hov2 hb3 how c7 c4
    have c7 : X3.cell? ⟨g7, 0, none⟩ = some (.int .i64 (k : Int)) := by rw [hQ3.b7.cell]; rfl
    have c4 : X3.cell? ⟨w.heap.size, 0, none⟩ = some (.slice A n c) := by rw [hQ3.b4.cell]; rfl
    have hge1 : decide (n ≤ k) = false := by simp; omega
    have hge2 : decide ((n : Int) ≤ (k : Int)) = false := by simp; omega
    gi_wp2
    refine ⟨trivial, callsIn_any (openR li) ((same_any rs Ap Aw nr cp cw X3 hp hw (by omega)).mono ?_)⟩
    rintro e X4 ⟨rfl, hb4⟩
    have hQ4 := hQ3.step hb4
    have hov4 := owns_step hov3 hb4
    have hs4 := hb4.size
    have hK4 := hK3.trans (KeepU.below (B := w3.heap.size) (n₁ := n₁) (U := (· = g7)) hb4)
    clear hQ3 hov3 hb4 hp hw c7 c4 hK3
    gi_wp2
    refine ⟨trivial, callsIn_any (openR li) ((spoilt11_any X4 n₁ nr _ _ hov4 (by omega) (by omega)).mono ?_)⟩
    rintro e X5 ⟨rfl, hg5⟩
    have hQ5 := hQ4.grown hg5 (fun r e => by have := (hlp r e).1; omega)
    have hK5 := hK4.trans (KeepU.grown (B := w3.heap.size) (n₁ := n₁) (U := (· = g7)) hg5 (fun r e => ⟨.inl (hlp r e).1, owns_cells hov4 e⟩))
    clear hQ4 hov4 hK4 hg5 hlp
    have c7 : X5.cell? ⟨g7, 0, none⟩ = some (.int .i64 (k : Int)) := by rw [hQ5.b7.cell]; rfl
    have f7 := hQ5.b7.frozen 0
    have hQ6 := hQ5.setk (k + 1)
    have hK6 := hK5.trans (KeepU.setCell (B := w3.heap.size) (n₁ := n₁) (U := (· = g7)) hQ5.b7 (.inr rfl) 0 (.int .i64 ((k + 1 : Nat) : Int)))
    rw [show ((k + 1 : Nat) : Int) = (k : Int) + 1 by omega] at hQ6 hK6
    have d7 : (X5.setCell ⟨g7, 0, none⟩ (.int .i64 ((k : Int) + 1))).cell? ⟨g7, 0, none⟩ = some (.int .i64 ((k : Int) + 1)) := by
      have := hQ6.b7.cell 0
      rw [this]; rfl
    have d5 : (X5.setCell ⟨g7, 0, none⟩ (.int .i64 ((k : Int) + 1))).cell? ⟨g5, 0, none⟩ = some (.int .i64 lv) := by rw [hQ6.b5.cell]; rfl
    have d6 : (X5.setCell ⟨g7, 0, none⟩ (.int .i64 ((k : Int) + 1))).cell? ⟨g6, 0, none⟩ = some (.bool false) := by rw [hQ6.b6.cell]; rfl
    have f6 := hQ6.b6.frozen 0
    have hw1 : IntKind.i64.wrap ((k : Int) + 1) = (k : Int) + 1 := IntWalk.i64_in _ (by omega)
    have hX6 : FwX w g6 ((X5.setCell ⟨g7, 0, none⟩ (.int .i64 ((k : Int) + 1))).setCell ⟨g6, 0, none⟩ (.bool true)) := ⟨hQ6.b6.set_ 0 _, hQ6.bel.setCell hQ6.l6 _⟩
    have hF6 := hK6.f.trans (KeepU.setCell (B := w3.heap.size) (n₁ := 0) (U := fun _ => True) hQ6.b6 (.inr trivial) 0 (.bool true)).f
    have HQ6 := Lib.hid hQ6
    have HK6 := Lib.hid hK6
    have HX6 := Lib.hid hX6
    have HF6 := Lib.hid hF6
    clear hQ5 hK5 hQ6 hK6 hX6 hF6
    by_cases hex : (k : Int) + 1 = lv
    · subst hex
      gi_wp2
      exact ⟨HF6.out, rfl, HX6.out⟩
    · have hkl : ((k : Int) + 1 == lv) = false := by simp; exact hex
      clear hex
      gi_wp2
      exact ⟨HK6.out, HQ6.out⟩
  case done =>
    clear hI hbox3 h3'
    intro D n₁ X hD hDn hI hK
    have c7 : X.cell? ⟨g7, 0, none⟩ = some (.int .i64 (n : Int)) := by rw [hI.b7.cell]; rfl
    have c4 : X.cell? ⟨w.heap.size, 0, none⟩ = some (.slice A n c) := by rw [hI.b4.cell]; rfl
    have c6 : X.cell? ⟨g6, 0, none⟩ = some (.bool false) := by rw [hI.b6.cell]; rfl
    have f6 := hI.b6.frozen 0
    have hM := ((MarksOk.nil w.heap.size X).cons (show w.heap.size ≤ D by omega) hK (by simp)).cell hI.b6 (.bool true)
    have hB := hI.b6.set_ 0 (.bool true)
    have hL := hI.bel.setCell (p := ⟨g6, 0, none⟩) hI.l6 (.bool true)
    have HM := Lib.hid hM
    have HB := Lib.hid hB
    have HL := Lib.hid hL
    clear hI hK hM hB hL
    go_wp2_with fail
    exact leaves_marks (N := w.heap.size) [D] _ HM.out fun w' ht => ⟨_, results_cellB rfl _ _ g6 true rfl (ht.blk _ _ _ HB.out), rfl, HL.out.trans ht.bel⟩
  case stop =>
    clear hI hbox3 h3'
    rintro D n₁ cd k X hD hDn hk ⟨rfl, hX⟩ hK
    go_wp2_with fail
    exact leaves_marks (N := w.heap.size) [D] _ ((MarksOk.nil _ _).cons (by omega) hK (by simp)) fun w' ht => ⟨_, results_cellB rfl _ _ g6 true rfl (ht.blk _ _ _ hX.b6), rfl, hX.bel.trans ht.bel⟩
end Go.Proofs.Ytmglkblomklcbaa
