/- (*Front).Parts. -/
import Derived.Test.YtonidnfgneokbaaQd119
namespace Go.Proofs.Ytonidnfgneokbaa
open Go Go.RowKit Go.Shelf
attribute [local go_sem] Oper.semAt_some

theorem run_litH1_op {ρ : Operand → Value} {o : Oper} (x : List UInt8) (hx : x.length = 32) (y : Operand) (ho : o.op = .buildSlice 26 1 #[(0, y)]) (hy : ρ y = .agg (x.map B).toArray) (W : World) :
    (execOp ρ o).run Try.prog W = .ok (.value (.slice (some ⟨W.heap.size, 0, none⟩) 1 1)) (W.alloc (.cells (hcells [x]).toArray 25)) :=
  run_lit_op [x] (fun h hh => by rw [List.mem_singleton.1 hh]; exact hx) (by simp) (by simp) 1 _ ho (by simp [hy]) rfl W
theorem owns_cellsF {W : World} {base n s r : Nat} {e : TypeId} {v : Value} {xs : List Value} (h : W.ownsRow base e s v n xs) (hv : v.ownBlock = some r) : ∃ o, W.heap[r]? = some o ∧ o.isCells = true := by
  rcases h.2 with ⟨rfl, _⟩ | ⟨g, cap, cur, rfl, _, hb, _⟩
  · cases hv
  · cases hv
    exact ⟨_, hb, rfl⟩
/-- one hash more, behind a row of one's own; where the row is then -/
theorem append_hw {w : World} {base : Nat} {v : Value} {l : List (List UInt8)} (h : w.ownsRow base 25 32 v l.length (hcells l)) (x : List UInt8) (hx : x.length = 32) (hn : l.length ≤ 1000000000) (hb : base ≤ w.heap.size) :
    ∃ v' w', (Builtin.append_ #[26, 26] 26 #[v, .slice (some ⟨w.heap.size, 0, none⟩) 1 1]).run Try.prog (w.alloc (.cells (hcells [x]).toArray 25)) = .ok v' w' ∧
      w'.ownsRow base 25 32 v' (l ++ [x]).length (hcells (l ++ [x])) ∧ w.grownBy w' v.ownBlock ∧ (v'.ownBlock = v.ownBlock ∨ ∃ k, v'.ownBlock = some k ∧ w.heap.size ≤ k) := by
  have h32 : H32 [x] := by intro h hh; rw [List.mem_singleton.1 hh]; exact hx
  have hbA : Below w.heap.size w (w.alloc (.cells (hcells [x]).toArray 25)) := (Below.refl _ _).alloc (Nat.le_refl _) _
  obtain ⟨v', w', hr, ho, hg, hf⟩ := append_slv (ty := 26) Try.underlying26 info26z (by simp [Value.cells]) (by decide) (owns_step h hbA) (Hs.lit w [x] h32 (by simp) 1 rfl).sl (oneB _) (by unfold maxLen; omega) (by omega) (Nat.le_trans hb hbA.size)
  rw [← hcells_append] at ho
  refine ⟨v', w', hr, by rw [List.length_append]; exact ho, ⟨hg.os, hg.tape, hg.output, Nat.le_trans hbA.size hg.size, fun k hk hne => ?_⟩, ?_⟩
  · rw [hg.block k (Nat.lt_of_lt_of_le hk hbA.size) hne, hbA.block k hk]
  · rcases hf with hf | ⟨k, hf, hk⟩
    · exact .inl hf
    · exact .inr ⟨k, hf, by have := hbA.size; omega⟩
/-- between two rounds of Parts: what has come so far, in its box; the row is the first one (ge), or behind n₁ -/
structure PaI (w : World) (g3 ge n₁ : Nat) (q : List (List UInt8)) (W : World) : Prop where
  own : ∃ v, Blk W g3 26 #[v] ∧ W.ownsRow ge 25 32 v q.length (hcells q) ∧ ∀ r, v.ownBlock = some r → r = ge ∨ n₁ ≤ r
  bel : Below w.heap.size w W
theorem PaI.step {w W W' : World} {g3 ge n₁ : Nat} {q : List (List UInt8)} (h : PaI w g3 ge n₁ q W) (hb : Below W.heap.size W W') : PaI w g3 ge n₁ q W' :=
  ⟨let ⟨v, h1, h2, h3⟩ := h.own; ⟨v, h1.step hb, owns_step h2 hb, h3⟩, h.bel.trans (hb.mono h.bel.size)⟩
theorem PaI.grown {w W W' : World} {g3 ge n₁ : Nat} {q : List (List UInt8)} {row : Option Nat} (h : PaI w g3 ge n₁ q W) (hg : W.grownBy W' row) (hr : ∀ r, row = some r → w.heap.size ≤ r ∧ ∃ o, W.heap[r]? = some o ∧ o.isCells = false) : PaI w g3 ge n₁ q W' :=
  ⟨let ⟨v, h1, h2, h3⟩ := h.own
   ⟨v, h1.grown hg (fun e => by
      obtain ⟨_, o, ho, hc⟩ := hr g3 e.symm
      rw [show W.heap[g3]? = _ from h1] at ho; cases ho; cases hc), h2.kept hg (by
      rcases h2.2 with ⟨rfl, _⟩ | ⟨g, cap, cur, rfl, _, hb, _⟩
      · exact .inl rfl
      · refine .inr fun e => ?_
        obtain ⟨_, o, ho, hc⟩ := hr g e.symm
        rw [show W.heap[g]? = _ from hb] at ho; cases ho; cases hc), h3⟩, h.bel.grown hg h.bel.size fun k e => (hr k e).1⟩
theorem PaI.own_ {w : World} {g3 ge n₁ B : Nat} (f : Nat → List (List UInt8)) (hB : w.heap.size ≤ B) : OwnFrom B (fun k W => PaI w g3 ge n₁ (f k) W) := fun _ _ _ _ h hg hr => h.grown hg fun r e => ⟨Nat.le_trans hB (hr r e).1, (hr r e).2⟩
def hashF (ps : FrV) : List (List UInt8) := ps.map (·.2)
theorem hashF_32 (ps : FrV) (h : F32 ps) : H32 (hashF ps) := fun x hx => by
  obtain ⟨p, hp, rfl⟩ := List.mem_map.1 hx
  exact h p hp
theorem hashF_getD (ps : FrV) (k : Nat) (h : k < ps.length) : (hashF ps).getD k [] = (ps.getD k (0, [])).2 := by
  unfold hashF
  rw [List.getD_eq_getElem?_getD, List.getElem?_map, List.getD_eq_getElem?_getD, List.getElem?_eq_getElem h]
  rfl
theorem take_snocF (rs : List (List UInt8)) (k : Nat) (h : k < rs.length) : rs.take (k + 1) = rs.take k ++ [rs.getD k []] := by
  rw [List.take_succ_eq_append_getElem h, List.getD_eq_getElem?_getD, List.getElem?_eq_getElem h]
  rfl

set_option maxHeartbeats 4000000 in
set_option maxRecDepth 100000 in
theorem fparts_any (f : Value) (ps : FrV) (w : World) (hf : f.oneCell' = true) (hA : AllOk f ps w) (h32 : F32 ps) (hn : ps.length ≤ 1000) :
    Calls Try.prog 68 #[f] w fun e w' => ∃ v, e = .returned v ∧ w'.ownsRow w.heap.size 25 32 v (hashF ps).length (hcells (hashF ps)) ∧ Below w.heap.size w w' := by
  have hal := fun W => fall_any f W hf
  obtain ⟨rs, hrs⟩ : ∃ rs, hashF ps = rs := ⟨_, rfl⟩
  have hlr : rs.length = ps.length := by rw [← hrs]; simp [hashF]
  have hr32 : H32 rs := by rw [← hrs]; exact hashF_32 ps h32
  have hat : ∀ k, k < ps.length → (ps.getD k (0, [])).2 = rs.getD k [] := fun k hk => by rw [← hrs, hashF_getD ps k hk]
  rw [hrs]
  have Hal := Lib.hid hal
  have Hlr := Lib.hid hlr
  have Hr32 := Lib.hid hr32
  have Hat := Lib.hid hat
  clear hal hlr hr32 hat hrs h32
  refine (callsIn_wide (n := 5)).1 ?_
  refine callsIn_of_wp_marks Try.func68 rfl trivial ?_ rfl
  simp only [Try.ntmps68, List.size_toArray, List.length_cons, List.length_nil, Nat.reduceAdd, Nat.reduceSub, Array.replicate_succ, Array.replicate_zero, List.push_toArray, List.append_toArray, List.nil_append, List.cons_append]
  refine wpIn_wide.2 ?_
  have he0 : (w.alloc (.cells #[] 25)).ownsRow w.heap.size 25 32 (.slice (some ⟨w.heap.size, 0, none⟩) 0 0) 0 [] :=
    World.ownsRow_lit (base := w.heap.size) (e := 25) (size := 32) w #[] 0 (Nat.le_refl _) (by unfold maxLen; decide) (by simp)
  have hb0 : Below w.heap.size w (w.alloc (.cells #[] 25)) := (Below.refl _ _).alloc (Nat.le_refl _) _
  have hsz0 : w.heap.size < (w.alloc (.cells #[] 25)).heap.size := by simp
  go_wp2_with (first
    | ((with_reducible show wpList _ _ _ (⟨some 6, .buildSlice _ _ _, _, _, _, _⟩ :: _) _ _); refine wpList_run rfl (.slice (some ⟨w.heap.size, 0, none⟩) 0 0) (w.alloc (.cells #[] 25)) (by kernel_rfl) ?_; generalize w.alloc (.cells #[] 25) = w1 at he0 hb0 hsz0 ⊢; simp only [Act.put])
    | ((with_reducible show wpList _ _ _ (⟨some 3, .alloc _, _, _, _, _⟩ :: _) _ _); refine wpList_run rfl (.pointer (some ⟨w1.heap.size, 0, none⟩)) (w1.alloc (.cells #[.slice none 0 0] 26)) (by kernel_rfl) ?_; have k3 : Blk (w1.alloc (.cells #[.slice none 0 0] 26)) w1.heap.size 26 #[.slice none 0 0] := Blk.new _ _ _; have hb1 : Below w1.heap.size w1 (w1.alloc (.cells #[.slice none 0 0] 26)) := (Below.refl _ _).alloc (Nat.le_refl _) _; generalize w1.alloc (.cells #[.slice none 0 0] 26) = w2 at k3 hb1 ⊢; replace he0 := owns_step he0 hb1; have c3 : w2.cell? ⟨w1.heap.size, 0, none⟩ = some (.slice none 0 0) := (by rw [k3.cell]; rfl); have f3 := k3.frozen 0; simp only [Act.put]))
  have k3 := k3.set_ 0 (.slice (some ⟨w.heap.size, 0, none⟩) 0 0)
  have hgs := grownBy_setCell' w2 w1.heap.size (.slice (some ⟨w.heap.size, 0, none⟩) 0 0)
  replace he0 := he0.kept hgs (.inr fun e => by have e : w.heap.size = w1.heap.size := Option.some.inj e; omega)
  have hb2 : Below w.heap.size w (w2.setCell ⟨w1.heap.size, 0, none⟩ (.slice (some ⟨w.heap.size, 0, none⟩) 0 0)) := (hb0.trans (hb1.mono hb0.size)).setCell (p := ⟨w1.heap.size, 0, none⟩) hb0.size _
  have hsz2 : w1.heap.size < (w2.setCell ⟨w1.heap.size, 0, none⟩ (.slice (some ⟨w.heap.size, 0, none⟩) 0 0)).heap.size := k3.lt
  generalize w2.setCell ⟨w1.heap.size, 0, none⟩ (.slice (some ⟨w.heap.size, 0, none⟩) 0 0) = w4 at k3 hb2 he0 hsz2 ⊢
  have k3 : Blk w4 w1.heap.size 26 #[.slice (some ⟨w.heap.size, 0, none⟩) 0 0] := k3
  refine (Hal.out w4).mono ?_
  rintro e w3 ⟨rfl, hbx, hb3⟩
  have hI0 : ∀ n₁, PaI w w1.heap.size w.heap.size n₁ [] w3 := fun n₁ => ⟨⟨_, k3.step hb3, owns_step he0 hb3, fun r e => .inl (by cases e; rfl)⟩, hb2.trans (hb3.mono hb2.size)⟩
  have hbelw := hb2.trans (hb3.mono hb2.size)
  have hw3 : w1.heap.size < w3.heap.size := Nat.lt_of_lt_of_le hsz2 hb3.size
  have hwg : w.heap.size < w1.heap.size := by omega
  generalize w4.heap.size = bx at hbx ⊢
  generalize w1.heap.size = g3 at *
  clear c3 f3 hb0 hb1 hb2 hb3 k3 Hal he0 hgs hsz2 hsz0
  go_wp2_with fail
  refine wp_range_U (gf := 118) (lb := #[.pointer (some ⟨bx, 0, none⟩)]) rfl (enters_of Try.func118 (by kernel_rfl) rfl)
    (hA w3 bx (fun b => b = g3 ∨ b = w.heap.size) hbelw hbx (fun b hb => by rcases hb with rfl | rfl <;> omega)) (fun _ _ _ _ h => by rw [show _ = _ from h]; rfl)
    (fun n₁ k => PaI w g3 w.heap.size n₁ (rs.take k)) (fun _ _ _ _ => False) (fun n₁ => PaI.own_ (fun k => rs.take k) (by omega)) (fun _ _ _ _ _ _ h _ _ => h.elim) (fun n₁ _ => by simpa using hI0 n₁) ?round ?done ?stop
  case round =>
    clear hI0 hbx hA
    intro li n₁ k vs X hl hln hnX hk hI hy
    have hy : vs = _ := hy
    subst hy
    rw [Hat.out k hk]
    have htk := take_snocF rs k (by rw [Hlr.out]; exact hk)
    have hzl := Hr32.out.getD k (by rw [Hlr.out]; exact hk)
    have hlen : (rs.take k).length ≤ 1000 := by rw [List.length_take, Hlr.out]; omega
    generalize rs.getD k [] = z at hzl htk ⊢
    generalize (2 : Int) ^ (ps.getD k (0, [])).1 = mm
    have Htk := Lib.hid htk
    have Hzl := Lib.hid hzl
    clear htk hzl
    refine wpIn_region_lit ?_
    go_simp
    refine wpListIn_of2 (openR li) rfl ?_
    refine wpList_hvar (.tmp 5) (.tmp 10) rfl rfl rfl rfl rfl rfl Hzl.out ?_
    intro X1 k10 hb10
    refine thenN_nil ?_
    simp only [Act.put]
    gi_wp2
    refine ⟨KeepU.below hb10, ?_⟩
    intro X2 hturn
    have hI2 := hturn.own (PaI.own_ (w := w) (g3 := g3) (ge := w.heap.size) (n₁ := n₁) (fun k => rs.take k) (show w.heap.size ≤ w3.heap.size by omega)) (hI.step hb10)
    have k10' : HV X2 X.heap.size z := ⟨hturn.blk k10.blk, Hzl.out⟩
    have hnX2 : n₁ ≤ X2.heap.size := by rw [hturn.size]; exact Nat.le_trans hnX hb10.size
    clear hI k10 hb10 hturn hnX
    generalize X.heap.size = g10 at k10' ⊢
    obtain ⟨⟨v, k8, hov, hpl⟩, hbel⟩ := hI2
    generalize hq : rs.take k = q at *
    obtain ⟨v', W9, hr9, hv9, hg9, hf9⟩ := append_hw hov z Hzl.out (by omega) (by omega)
    obtain ⟨gv, cv, rfl, hgv⟩ := owns_someB hv9 (by simp)
    have hne8 : v.ownBlock ≠ some g3 := fun e => by rcases hpl g3 e with h | h <;> omega
    have k89 : Blk W9 g3 26 #[v] := k8.grown hg9 (fun e => hne8 e.symm)
    have c8 : X2.cell? ⟨g3, 0, none⟩ = some v := by rw [k8.cell]; rfl
    have c89 : W9.cell? ⟨g3, 0, none⟩ = some v := by rw [k89.cell]; rfl
    have f89 := k89.frozen 0
    have hgvp : gv = w.heap.size ∨ n₁ ≤ gv := by
      rcases hf9 with h | ⟨k', h, hk'⟩
      · exact hpl gv h.symm
      · have : gv = k' := Option.some.inj h
        exact .inr (by omega)
    have Hr9 := Lib.hid hr9
    clear hr9 hf9
    gi_wp2_with (first
      | ((with_reducible show wpListIn _ _ _ _ _ (⟨some 12, .load _ _, _, _, _, _⟩ :: _) _ _); refine wpListIn_of1 (openR li) rfl ?_; refine wpList_hload (.tmp 5) (by kernel_rfl) rfl k10' rfl ?_; refine thenN_nil ?_; simp only [Act.put])
      | ((with_reducible show wpListIn _ _ _ _ _ (⟨some 13, .buildSlice _ _ _, _, _, _, _⟩ :: _) _ _); refine wpListIn_of1 (openR li) rfl ?_; refine wpList_run rfl _ _ (run_litH1_op z Hzl.out (.tmp 12) rfl rfl _) ?_; refine thenN_nil ?_; simp only [Act.put])
      | ((with_reducible show wpListIn _ _ _ _ _ (⟨some 14, .call _, _, _, _, _⟩ :: _) _ _); refine wpListIn_of1 (openR li) rfl ?_; refine wpList_run rfl _ W9 (run_append_op (.tmp 11) (.tmp 13) 26 rfl _ _ rfl rfl Hr9.out) ?_; refine thenN_nil ?_; simp only [Act.put]))
    have hl : (q ++ [z]).length = q.length + 1 := by simp
    rw [hl] at hv9
    have hg3n : gv ≠ g3 := fun e => by rcases hgvp with h | h <;> omega
    refine ⟨(KeepU.grown hg9 (fun r e => ⟨by rcases hpl r e with h | h; exact .inr (.inr h); exact .inl h, owns_cellsF hov e⟩)).trans (KeepU.setCell (U := fun b => b = g3 ∨ b = w.heap.size) k89 (.inr (.inl rfl)) 0 _), ⟨_, k89.set_ 0 _, ?_, fun r e => by cases e; exact hgvp⟩, (hbel.grown hg9 hbel.size (fun r e => (hov.lt r e).1)).setCell (by show w.heap.size ≤ g3; omega) _⟩
    rw [Htk.out, hl]
    exact hv9.kept (grownBy_setCell' W9 g3 _) (.inr (fun e => hg3n (Option.some.inj e)))
  case done =>
    clear hI0 hbx hA
    intro D n₁ X hD hDn hI hK
    rw [List.take_of_length_le (by rw [Hlr.out]; exact Nat.le_refl _)] at hI
    obtain ⟨⟨v, k8, hov, hpl⟩, hbel⟩ := hI
    have c8 : X.cell? ⟨g3, 0, none⟩ = some v := by rw [k8.cell]; rfl
    go_wp2_with fail
    refine leaves_marks (N := w.heap.size) [D] _ ((MarksOk.nil _ _).cons (by omega) hK (by simp)) fun w' ht => ⟨_, results_tmp rfl _ _ _, v, rfl, ?_, hbel.trans ht.bel⟩
    rcases hov.2 with ⟨rfl, h0⟩ | ⟨g, cap, cur, rfl, hb, hc, r1, r2, r3, r4⟩
    · exact ⟨hov.1, .inl ⟨rfl, h0⟩⟩
    · exact ⟨hov.1, .inr ⟨g, cap, cur, rfl, hb, ht.blk _ _ _ hc, r1, r2, r3, r4⟩⟩
  case stop =>
    rintro D n₁ cd k X hD hDn hk h hK
    exact h.elim
end Go.Proofs.Ytonidnfgneokbaa
