/- notarylaw11.follows, where a going over tells those steps. -/
import Derived.Test.YtmglkblomklcbaaQc125
import Derived.Test.YtmglkblomklcbaaQc127
import Derived.Test.YtmglkblomklcbaaQc113
import Derived.Test.YtmglkblomklcbaaQc121
namespace Go.Proofs.Ytmglkblomklcbaa
open Go Go.RowKit Go.Shelf
attribute [local go_sem] Oper.semAt_some

theorem results_cellB {fn : Func} {p : Tmp} (h : fn.results = #[.cell p 4]) (tmps : Array Value) (w : World) (g : Nat) (b : Bool) (hp : tmps.getD p undef = .pointer (some ⟨g, 0, none⟩)) (hg : Blk w g 4 #[.bool b]) :
    (results fn tmps).run Try.prog w = .ok (.bool b) w := by
  have hp' : tmps[p]?.getD undef = .pointer (some ⟨g, 0, none⟩) := by simpa using hp
  have hc : w.cell? ⟨g, 0, none⟩ = some (.bool b) := by rw [hg.cell]; rfl
  have hagg : ∀ w : World, (isAgg 4).run Try.prog w = .ok false w := fun _ => by kernel_rfl
  simp [results, h, hp', asAddr, loadVar, hagg, hc, go_sem]

/-- between two rounds -/
structure FwI (g4 g5 g6 g7 : Nat) (w : World) (q : List StepV) (A : Option Addr) (n c : Nat) (lv : Int) (k : Nat) (W : World) : Prop where
  b4 : Blk W g4 54 #[.slice A n c]
  b5 : Blk W g5 3 #[.int .i64 lv]
  b6 : Blk W g6 4 #[.bool false]
  b7 : Blk W g7 3 #[.int .i64 (k : Int)]
  src : St W (· < w.heap.size) A n c q
  bel : Below w.heap.size w W
  l4 : w.heap.size ≤ g4
  l5 : w.heap.size ≤ g5
  l6 : w.heap.size ≤ g6
  l7 : w.heap.size ≤ g7
  n47 : g4 ≠ g7
  n57 : g5 ≠ g7
  n67 : g6 ≠ g7
section
variable {g4 g5 g6 g7 : Nat} {w : World} {q : List StepV} {A : Option Addr} {n c : Nat} {lv : Int} {k : Nat} {W W' : World}
theorem St.grown {X : Nat → Prop} {row : Option Nat} (h : St W X A n c q) (hg : W.grownBy W' row) (hX : ∀ b, b < W.heap.size → X b → some b ≠ row) : St W' X A n c q := ⟨h.sl.grown hg hX, h.len, h.all⟩
theorem FwI.step (h : FwI g4 g5 g6 g7 w q A n c lv k W) (hb : Below W.heap.size W W') : FwI g4 g5 g6 g7 w q A n c lv k W' :=
  ⟨h.b4.step hb, h.b5.step hb, h.b6.step hb, h.b7.step hb, h.src.step hb, h.bel.trans (hb.mono h.bel.size), h.l4, h.l5, h.l6, h.l7, h.n47, h.n57, h.n67⟩
theorem FwI.grown {row : Option Nat} (h : FwI g4 g5 g6 g7 w q A n c lv k W) (hg : W.grownBy W' row) (hr : ∀ r, row = some r → w.heap.size ≤ r ∧ r ≠ g4 ∧ r ≠ g5 ∧ r ≠ g6 ∧ r ≠ g7) : FwI g4 g5 g6 g7 w q A n c lv k W' :=
  ⟨h.b4.grown hg (fun e => (hr _ e.symm).2.1 rfl), h.b5.grown hg (fun e => (hr _ e.symm).2.2.1 rfl), h.b6.grown hg (fun e => (hr _ e.symm).2.2.2.1 rfl), h.b7.grown hg (fun e => (hr _ e.symm).2.2.2.2 rfl),
   h.src.grown hg (fun b _ hx e => by have hx : b < w.heap.size := hx; have := (hr b e.symm).1; omega), h.bel.grown hg h.bel.size (fun r e => (hr r e).1), h.l4, h.l5, h.l6, h.l7, h.n47, h.n57, h.n67⟩
theorem FwI.setk (h : FwI g4 g5 g6 g7 w q A n c lv k W) (k' : Nat) : FwI g4 g5 g6 g7 w q A n c lv k' (W.setCell ⟨g7, 0, none⟩ (.int .i64 (k' : Int))) :=
  ⟨h.b4.apart h.n47 _, h.b5.apart h.n57 _, h.b6.apart h.n67 _, h.b7.set_ 0 _, h.src.grown (grownBy_setCell' W g7 _) (fun b _ hx e => by have hx : b < w.heap.size := hx; have := h.l7; have := Option.some.inj e; omega), h.bel.setCell h.l7 _, h.l4, h.l5, h.l6, h.l7, h.n47, h.n57, h.n67⟩
theorem FwI.own_ {N : Nat} (hN : g4 < N ∧ g5 < N ∧ g6 < N ∧ g7 < N) (hw : w.heap.size ≤ N) : OwnFrom N (fun k W => FwI g4 g5 g6 g7 w q A n c lv k W) := fun _ _ _ _ h hg hr => h.grown hg fun r e => by have := (hr r e).1; omega
end
/-- what a stop leaves -/
structure FwX (w : World) (g6 : Nat) (W : World) : Prop where
  b6 : Blk W g6 4 #[.bool true]
  bel : Below w.heap.size w W
theorem FwX.own_ {w : World} {g6 N : Nat} (h6 : g6 < N) (hw : w.heap.size ≤ N) : OwnFrom N (fun (_ : Nat) W => FwX w g6 W) := fun _ _ _ _ h hg hr =>
  ⟨h.b6.grown hg (fun e => by have := (hr _ e.symm).1; omega), h.bel.grown hg h.bel.size fun r e => by have := (hr r e).1; omega⟩

set_option maxHeartbeats 4000000 in
set_option maxRecDepth 100000 in
theorem follows_any (q : List StepV) (g : Nat) (A' : Option Addr) (c' : Nat) (A : Option Addr) (n c : Nat) (lv : Int) (w : World) (hbox : Blk w g 86 #[.slice A' n c']) (h' : St w (fun _ => True) A' n c' q) (h : St w (fun _ => True) A n c q) (hn : n ≤ 1000) :
    Calls Try.prog 27 #[.func (.func 44) #[] #[.pointer (some ⟨g, 0, none⟩)], .slice A n c, .int .i64 lv] w fun e w' => e = .returned (.bool true) ∧ Below w.heap.size w w' := by
  have hroom := h.sl.room
  have hmx := h.sl.max
  unfold maxLen at hmx
  have hlen := h.len
  have hall := h.all
  obtain ⟨w3, hw3⟩ : ∃ w3, (((w.alloc (.cells #[.slice A n c] 54)).alloc (.cells #[.int .i64 lv] 3)).alloc (.cells #[.bool false] 4)).alloc (.cells #[.int .i64 0] 3) = w3 := ⟨_, rfl⟩
  have hb3 : Below w.heap.size w w3 := by rw [← hw3]; exact ((((Below.refl _ _).alloc (Nat.le_refl _) _).alloc (by simp) _).alloc (by simp; omega) _).alloc (by simp; omega) _
  have hs3 : w3.heap.size = w.heap.size + 1 + 1 + 1 + 1 := by rw [← hw3]; simp
  have hI : FwI w.heap.size (w.heap.size + 1) (w.heap.size + 1 + 1) (w.heap.size + 1 + 1 + 1) w q A n c lv 0 w3 :=
    ⟨by rw [← hw3]; exact (((Blk.new _ _ _).alloc _).alloc _).alloc _, by rw [← hw3]; exact ((Blk.new' _ _ _ _ (by simp)).alloc _).alloc _, by rw [← hw3]; exact (Blk.new' _ _ _ _ (by simp)).alloc _, by rw [← hw3]; exact Blk.new' _ _ _ _ (by simp),
     (h.weak fun b hb _ => hb).step hb3, hb3, by omega, by omega, by omega, by omega, by omega, by omega, by omega⟩
  have hbox3 := hbox.step hb3
  have h3' := (h'.weak (Y := (· < w.heap.size)) fun b hb _ => hb).step hb3
  have q1 := eqnil_up g
  have Hw3 := Lib.hid hw3
  have Hlen := Lib.hid hlen
  have Hall := Lib.hid hall
  clear hw3 hbox h' h hb3 hlen hall
  refine (callsIn_wide (n := 5)).1 ?_
  refine callsIn_of_wp_marks Try.func27 rfl trivial ?_ rfl
  simp only [Try.ntmps27, List.size_toArray, List.length_cons, List.length_nil, Nat.reduceAdd, Nat.reduceSub, Array.replicate_succ, Array.replicate_zero, List.push_toArray, List.append_toArray, List.nil_append, List.cons_append]
  refine wpIn_wide.2 ?_
  go_wp2_with fail
  rw [Hw3.out]
  generalize he5 : w.heap.size + 1 = g5 at *
  generalize he6 : g5 + 1 = g6 at *
  generalize he7 : g6 + 1 = g7 at *
  clear q1
  refine wp_range_U (gf := 44) (lb := #[.pointer (some ⟨g, 0, none⟩)]) rfl (enters_of Try.func44 (by kernel_rfl) rfl)
    (up1_seq q A' n c' g (· = g7) w3 hbox3 (h3'.weak fun b _ hb e => by have hb : b < w.heap.size := hb; have e : b = g7 := e; omega) (by omega))
    (fun n₁ k vs W h => by rw [show vs = _ from h]; rfl)
    (fun _ => FwI w.heap.size g5 g6 g7 w q A n c lv) (fun _ cd _ W => cd = .ret ∧ FwX w g6 W) (fun _ => FwI.own_ (by omega) (by omega)) (fun _ _ _ _ _ _ h hg hr => ⟨h.1, FwX.own_ (w := w) (g6 := g6) (N := w3.heap.size) (by omega) (by omega) 0 _ _ _ h.2 hg hr⟩) (fun _ _ => hI) ?round ?done ?stop
  case round =>
    clear hI hbox3 h3'
    intro li n₁ k vs X hl hln hnX hk hI hy
    subst hy
    have hsl : (q.getD k ((0, 0), [])).2.length = 32 := by
      rw [List.getD_eq_getElem?_getD, List.getElem?_eq_getElem (by rw [Hlen.out]; exact hk)]
      exact Hall.out _ (List.getElem_mem _)
    obtain ⟨⟨⟨a, b⟩, z⟩, hx⟩ : ∃ x, q.getD k ((0, 0), []) = x := ⟨_, rfl⟩
    rw [hx] at hsl ⊢
    dsimp only [stepVs] at hsl ⊢
    have Hx := Lib.hid hx
    have Hzl := Lib.hid hsl
    clear hx hsl
    have k8 := Blk.new X 68 #[.int .i64 (a : Int), .int .i64 (b : Int)]
    have hb8 : Below X.heap.size X (X.alloc (.cells #[.int .i64 (a : Int), .int .i64 (b : Int)] 68)) := (Below.refl _ _).alloc (Nat.le_refl _) _
    gi_wp2_with ((with_reducible show wpListIn _ _ _ _ _ (⟨some 9, .alloc _, _, _, _, _⟩ :: _) _ _); refine wpListIn_of2 (openR li) rfl ?_; refine wpList_hvar (.tmp 9) (.tmp 14) rfl rfl rfl rfl rfl rfl Hzl.out ?_; intro X1 k9 hb9; refine thenN_nil ?_; simp only [Act.put])
    refine ⟨KeepU.below (hb8.trans (hb9.mono hb8.size)), ?_⟩
    intro X2 hturn
    have hQ2 := hturn.own (FwI.own_ (g4 := w.heap.size) (g5 := g5) (g6 := g6) (g7 := g7) (w := w) (q := q) (A := A) (n := n) (c := c) (lv := lv) (N := w3.heap.size) (by omega) (by omega)) ((hI.step hb8).step hb9)
    have k8' := hturn.blk (k8.step hb9)
    have k9' : HV X2 (X.alloc (.cells #[.int .i64 (a : Int), .int .i64 (b : Int)] 68)).heap.size z := ⟨hturn.blk k9.blk, Hzl.out⟩
    clear hI k8 k9 hb8 hb9 hturn hnX
    generalize (X.alloc (.cells #[.int .i64 (a : Int), .int .i64 (b : Int)] 68)).heap.size = g9 at k9' ⊢
    generalize X.heap.size = g8 at k8' ⊢
    obtain ⟨bq, oq, hA, -, -, hlds⟩ := hQ2.src.at_ (by omega)
    subst hA
    have hS : Below X2.heap.size X2 X2.drew := (Below.refl _ _).drew
    have c7 : ∀ s : InC (fun W => Below X2.heap.size X2 W), s.W.cell? ⟨g7, 0, none⟩ = some (.int .i64 (k : Int)) := fun s => by rw [(hQ2.b7.step s.ok).cell]; rfl
    have c4 : ∀ s : InC (fun W => Below X2.heap.size X2 W), s.W.cell? ⟨w.heap.size, 0, none⟩ = some (.slice (some ⟨bq, oq, none⟩) n c) := fun s => by rw [(hQ2.b4.step s.ok).cell]; rfl
    have l8 : ∀ s : InC (fun W => Below X2.heap.size X2 W), (Instr.loadAt 68 (.pointer (some ⟨g8, 0, none⟩))).run Try.prog s.W = .ok (.agg #[.int .i64 (a : Int), .int .i64 (b : Int)]) s.W := fun s => load_R (k8'.step s.ok)
    have l9 : ∀ s : InC (fun W => Below X2.heap.size X2 W), (Instr.loadAt 45 (.pointer (some ⟨g9, 0, none⟩))).run Try.prog s.W = .ok (.agg (z.map B).toArray) s.W := fun s => (k9'.step s.ok).load
    have lr : ∀ s : InC (fun W => Below X2.heap.size X2 W), (Instr.loadAt 68 (.pointer (some ⟨bq, oq + k * 34, none⟩))).run Try.prog s.W = .ok (.agg #[.int .i64 (a : Int), .int .i64 (b : Int)]) s.W := fun s => by
      obtain ⟨b', o', hA, -, -, hl⟩ := (hQ2.src.step s.ok).at_ (by omega)
      cases hA
      have := (hl k hk).2.1
      rwa [Hx.out] at this
    have lh : ∀ s : InC (fun W => Below X2.heap.size X2 W), (Instr.loadAt 45 (.pointer (some ⟨bq, oq + k * 34 + 2, none⟩))).run Try.prog s.W = .ok (.agg (z.map B).toArray) s.W := fun s => by
      obtain ⟨b', o', hA, -, -, hl⟩ := (hQ2.src.step s.ok).at_ (by omega)
      cases hA
      have := (hl k hk).1
      rwa [Hx.out] at this
    have L8 := Lib.hid l8
    have L9 := Lib.hid l9
    have Lr := Lib.hid lr
    have Lh := Lib.hid lh
    clear l8 l9 lr lh k8' k9' hlds
    have hge1 : decide (n ≤ k) = false := by simp; omega
    have hge2 : decide ((n : Int) ≤ (k : Int)) = false := by simp; omega
    gi_wp2
    refine wpIn_region_mix (openR li) rfl (fun _ _ h => h) (fun W => Below X2.heap.size X2 W) [(0, true), (1, true), (2, true), (3, true), (4, true), (5, true), (6, true), (7, true), (8, true), (9, true), (10, true), (11, true), (12, true), (13, true), (14, true), (15, true), (16, true), (17, true), (18, true), (19, true), (20, true), (21, true)] (by kernel_rfl) (by kernel_rfl) hS fun _ => ?_
    simp only [List.map_cons, List.map_nil, Array.getD_eq_getD_getElem?, List.getElem?_toArray, List.getElem?_cons_succ, List.getElem?_cons_zero, Option.getD_some]
    generalize X2.drew = X3 at hS ⊢
    refine wpMix_s (fun K hK => ?_)
    go_simp
    refine hK _ ?_
    clear hK K
    refine wpMix_s (fun K hK => ?_)
    go_simp
    refine hK _ ?_
    clear hK K
    refine wpMix_s (fun K hK => ?_)
    go_simp
    refine hK _ ?_
    clear hK K
    refine wpMix_s (fun K hK => ?_)
    go_simp
    refine hK _ ?_
    clear hK K
    refine wpMix_s (fun K hK => ?_)
    go_simp
    refine hK _ ?_
    clear hK K
    refine wpMix_load (by kernel_rfl) 68 (.tmp 8) rfl (g8) (0) rfl #[.int .i64 (a : Int), .int .i64 (b : Int)] (L8.out) ?_
    simp only [Act.put]
    refine wpMix_s (fun K hK => ?_)
    go_simp
    refine hK _ ?_
    clear hK K
    refine wpMix_s (fun K hK => ?_)
    go_simp
    refine hK _ ?_
    clear hK K
    refine wpMix_s (fun K hK => ?_)
    go_simp
    refine hK _ ?_
    clear hK K
    refine wpMix_s (fun K hK => ?_)
    go_simp
    refine hK _ ?_
    clear hK K
    refine wpMix_load (by kernel_rfl) 68 (.tmp 24) rfl (bq) (oq + k * 34) rfl #[.int .i64 (a : Int), .int .i64 (b : Int)] (Lr.out) ?_
    simp only [Act.put]
    refine wpMix_v (by kernel_rfl) (.bool false) (fun s => run_neqR_f (.tmp 20) (.tmp 25) _ (a : Int) (b : Int) rfl rfl rfl s.W) ?_
    simp only [Act.put]
    refine wpMix_s (fun K hK => ?_)
    go_simp
    refine hK _ ?_
    clear hK K
    refine wpMix_s (fun K hK => ?_)
    go_simp
    refine hK _ ?_
    clear hK K
    refine wpMix_load (by kernel_rfl) 45 (.tmp 9) rfl (g9) (0) rfl (z.map B).toArray (L9.out) ?_
    simp only [Act.put]
    refine wpMix_s (fun K hK => ?_)
    go_simp
    refine hK _ ?_
    clear hK K
    refine wpMix_s (fun K hK => ?_)
    go_simp
    refine hK _ ?_
    clear hK K
    refine wpMix_s (fun K hK => ?_)
    go_simp
    refine hK _ ?_
    clear hK K
    refine wpMix_s (fun K hK => ?_)
    go_simp
    refine hK _ ?_
    clear hK K
    refine wpMix_load (by kernel_rfl) 45 (.tmp 33) rfl (bq) (oq + k * 34 + 2) rfl (z.map B).toArray (Lh.out) ?_
    simp only [Act.put]
    refine wpMix_v (by kernel_rfl) (.bool false) (fun s => run_neq26_f (.tmp 29) (.tmp 34) _ z z rfl rfl rfl Hzl.out Hzl.out rfl s.W) ?_
    simp only [Act.put]
    refine wpMix_s (fun K hK => ?_)
    go_simp
    refine hK _ ?_
    clear hK K
    refine wpMix_nil ?_
    intro _
    have hQ3 := hQ2.step hS
    have hK3 : KeepU w3.heap.size n₁ (· = g7) X2 X3 := KeepU.below hS
    clear hQ2 hS c7 c4
    have c7 : X3.cell? ⟨g7, 0, none⟩ = some (.int .i64 (k : Int)) := by rw [hQ3.b7.cell]; rfl
    have f7 := hQ3.b7.frozen 0
    have hQ4 := hQ3.setk (k + 1)
    have hK4 := hK3.trans (KeepU.setCell (B := w3.heap.size) (n₁ := n₁) (U := (· = g7)) hQ3.b7 (.inr rfl) 0 (.int .i64 ((k + 1 : Nat) : Int)))
    rw [show ((k + 1 : Nat) : Int) = (k : Int) + 1 by omega] at hQ4 hK4
    have d7 : (X3.setCell ⟨g7, 0, none⟩ (.int .i64 ((k : Int) + 1))).cell? ⟨g7, 0, none⟩ = some (.int .i64 ((k : Int) + 1)) := by
      have := hQ4.b7.cell 0
      rw [this]; rfl
    have d5 : (X3.setCell ⟨g7, 0, none⟩ (.int .i64 ((k : Int) + 1))).cell? ⟨g5, 0, none⟩ = some (.int .i64 lv) := by rw [hQ4.b5.cell]; rfl
    have d6 : (X3.setCell ⟨g7, 0, none⟩ (.int .i64 ((k : Int) + 1))).cell? ⟨g6, 0, none⟩ = some (.bool false) := by rw [hQ4.b6.cell]; rfl
    have f6 := hQ4.b6.frozen 0
    have hw1 : IntKind.i64.wrap ((k : Int) + 1) = (k : Int) + 1 := IntWalk.i64_in _ (by omega)
    have hX6 : FwX w g6 ((X3.setCell ⟨g7, 0, none⟩ (.int .i64 ((k : Int) + 1))).setCell ⟨g6, 0, none⟩ (.bool true)) := ⟨hQ4.b6.set_ 0 _, hQ4.bel.setCell hQ4.l6 _⟩
    have hF6 : KeepsFrom w3.heap.size X2 ((X3.setCell ⟨g7, 0, none⟩ (.int .i64 ((k : Int) + 1))).setCell ⟨g6, 0, none⟩ (.bool true)) := hK4.f.trans (KeepU.setCell (B := w3.heap.size) (n₁ := 0) (U := fun _ => True) hQ4.b6 (.inr trivial) 0 (.bool true)).f
    have HQ4 := Lib.hid hQ4
    have HK4 := Lib.hid hK4
    have HX6 := Lib.hid hX6
    have HF6 := Lib.hid hF6
    clear hQ3 hK3 hQ4 hK4 hX6 hF6
    by_cases hex : (k : Int) + 1 = lv
    · subst hex
      gi_wp2
      exact ⟨HF6.out, rfl, HX6.out⟩
    · have hkl : ((k : Int) + 1 == lv) = false := by simp; exact hex
      clear hex
      gi_wp2
      exact ⟨HK4.out, HQ4.out⟩
  case done =>
    clear hI hbox3 h3'
    intro D n₁ X hD hDn hI hK
    have c7 : X.cell? ⟨g7, 0, none⟩ = some (.int .i64 (n : Int)) := by rw [hI.b7.cell]; rfl
    have c4 : X.cell? ⟨w.heap.size, 0, none⟩ = some (.slice A n c) := by rw [hI.b4.cell]; rfl
    have c6 : X.cell? ⟨g6, 0, none⟩ = some (.bool false) := by rw [hI.b6.cell]; rfl
    have f6 := hI.b6.frozen 0
    have hM := ((MarksOk.nil w.heap.size X).cons (show w.heap.size ≤ D by omega) hK (by simp)).cell hI.b6 (.bool true)
    have hB := hI.b6.set_ 0 (.bool true)
    have hL := hI.bel.setCell (p := ⟨g6, 0, none⟩) hI.l6 (.bool true)
    have HM := Lib.hid hM
    have HB := Lib.hid hB
    have HL := Lib.hid hL
    clear hI hK hM hB hL
    go_wp2_with fail
    exact leaves_marks (N := w.heap.size) [D] _ HM.out fun w' ht => ⟨_, results_cellB rfl _ _ g6 true rfl (ht.blk _ _ _ HB.out), rfl, HL.out.trans ht.bel⟩
  case stop =>
    clear hI hbox3 h3'
    rintro D n₁ cd k X hD hDn hk ⟨rfl, hX⟩ hK
    go_wp2_with fail
    exact leaves_marks (N := w.heap.size) [D] _ ((MarksOk.nil _ _).cons (by omega) hK (by simp)) fun w' ht => ⟨_, results_cellB rfl _ _ g6 true rfl (ht.blk _ _ _ hX.b6), rfl, hX.bel.trans ht.bel⟩
end Go.Proofs.Ytmglkblomklcbaa
