/- cons.Prove. -/
import Derived.Test.YtgcbdnoniikboaaQb121
import Derived.Test.YtgcbdnoniikboaaQb127
import Derived.Test.YtgcbdnoniikboaaQb128
namespace Go.Proofs.Ytgcbdnoniikboaa
open Go Go.RowKit Go.Shelf
attribute [local go_sem] Oper.semAt_some

/-- between two rounds: what has come so far, in its box -/
structure CpI (w : World) (g8 n₁ : Nat) (q : List (List UInt8)) (W : World) : Prop where
  own : ∃ v, Blk W g8 37 #[v] ∧ W.ownsRow n₁ 34 32 v q.length (hcells q)
  bel : Below w.heap.size w W
theorem CpI.step {w W W' : World} {g8 n₁ : Nat} {q : List (List UInt8)} (h : CpI w g8 n₁ q W) (hb : Below W.heap.size W W') : CpI w g8 n₁ q W' :=
  ⟨let ⟨v, h1, h2⟩ := h.own; ⟨v, h1.step hb, owns_step h2 hb⟩, h.bel.trans (hb.mono h.bel.size)⟩
theorem CpI.grown {w W W' : World} {g8 n₁ : Nat} {q : List (List UInt8)} {row : Option Nat} (h : CpI w g8 n₁ q W) (hg : W.grownBy W' row) (hr : ∀ r, row = some r → w.heap.size ≤ r ∧ ∃ o, W.heap[r]? = some o ∧ o.isCells = false) : CpI w g8 n₁ q W' :=
  ⟨let ⟨v, h1, h2⟩ := h.own
   ⟨v, h1.grown hg (fun e => by
      obtain ⟨_, o, ho, hc⟩ := hr g8 e.symm
      rw [show W.heap[g8]? = _ from h1] at ho; cases ho; cases hc), h2.kept hg (by
      rcases h2.2 with ⟨rfl, _⟩ | ⟨g, cap, cur, rfl, _, hb, _⟩
      · exact .inl rfl
      · refine .inr fun e => ?_
        obtain ⟨_, o, ho, hc⟩ := hr g e.symm
        rw [show W.heap[g]? = _ from hb] at ho; cases ho; cases hc)⟩, h.bel.grown hg h.bel.size fun k e => (hr k e).1⟩
theorem CpI.own_ {w : World} {g8 n₁ B : Nat} (f : Nat → List (List UInt8)) (hB : w.heap.size ≤ B) : OwnFrom B (fun k W => CpI w g8 n₁ (f k) W) := fun _ _ _ _ h hg hr => h.grown hg fun r e => ⟨Nat.le_trans hB (hr r e).1, (hr r e).2⟩
theorem owns_cells {W : World} {base n s r : Nat} {e : TypeId} {v : Value} {xs : List Value} (h : W.ownsRow base e s v n xs) (hv : v.ownBlock = some r) : ∃ o, W.heap[r]? = some o ∧ o.isCells = true := by
  rcases h.2 with ⟨rfl, _⟩ | ⟨g, cap, cur, rfl, _, hb, _⟩
  · cases hv
  · cases hv
    exact ⟨_, hb, rfl⟩
theorem run_litH_op {ρ : Operand → Value} {o : Oper} (x : List UInt8) (hx : x.length = 32) (y : Operand) (ho : o.op = .buildSlice 37 1 #[(0, y)]) (hy : ρ y = .agg (x.map B).toArray) (W : World) :
    (execOp ρ o).run Try.prog W = .ok (.value (.slice (some ⟨W.heap.size, 0, none⟩) 1 1)) (W.alloc (.cells (hcells [x]).toArray 34)) :=
  run_lit_op [x] (fun h hh => by rw [List.mem_singleton.1 hh]; exact hx) (by simp) (by simp) 1 _ ho (by simp [hy]) rfl W

set_option maxHeartbeats 4000000 in
set_option maxRecDepth 100000 in
theorem cprove_any (hs : List (List UInt8)) (A : Option Addr) (n c : Nat) (w : World) (m : Int) (h : Hs w (fun _ => True) A n c hs) (hn : n ≤ 1099511627776) :
    Calls Try.prog 41 #[.slice A n c, .int .i64 m] w fun e w' => ∃ v, e = .returned (.tuple #[v, .int .i64 (stepsA m hs.length).2]) ∧ w'.ownsRow w.heap.size 34 32 v (rootsS hs m).length (hcells (rootsS hs m)) ∧ Below w.heap.size w w' := by
  have hlen := h.len
  have h32 := h.all
  have hroom := h.sl.room
  have hmx := h.sl.max
  unfold maxLen at hmx
  have hst := tstepsA_any m (n : Int) w (by omega)
  obtain ⟨⟨ls, e0⟩, hse⟩ : ∃ s, stepsA m (n : Int) = s := ⟨_, rfl⟩
  rw [hse] at hst
  dsimp only at hst
  have hlm : ls.length ≤ 64 := by have := stepsA_len m (n : Int) (by omega); rw [hse] at this; exact this
  have Hlen := Lib.hid hlen
  have H32h := Lib.hid h32
  have Hst := Lib.hid hst
  rw [hlen, hse]
  dsimp only
  by_cases he0 : e0 = 0
  · subst he0
    have hgood := steps_good hs m
    have hlr := length_rootsS hs m
    have hat := rootsS_at hs m
    rw [hlen, hse] at hgood hlr hat
    dsimp only at hgood hlr hat
    obtain ⟨rs, hrs⟩ : ∃ rs, rootsS hs m = rs := ⟨_, rfl⟩
    have hr32 : H32 rs := by rw [← hrs]; exact rootsS_all hs h32 m
    rw [hrs] at hlr hat ⊢
    have Hgood := Lib.hid hgood
    have Hlr := Lib.hid hlr
    have Hat := Lib.hid hat
    have Hr32 := Lib.hid hr32
    have Hse := Lib.hid hse
    clear hlen h32 hst hgood hlr hat hr32 hrs hse
    refine (callsIn_wide (n := 5)).1 ?_
    refine callsIn_of_wp_marks Try.func41 rfl trivial ?_ rfl
    simp only [Try.ntmps41, List.size_toArray, List.length_cons, List.length_nil, Nat.reduceAdd, Nat.reduceSub, Array.replicate_succ, Array.replicate_zero, List.push_toArray, List.append_toArray, List.nil_append, List.cons_append]
    refine wpIn_wide.2 ?_
    go_wp2_with fail
    refine Hst.out.mono ?_
    rintro e w1 ⟨vs, rfl, hP⟩
    obtain ⟨As, cs, rfl, hrs1⟩ := Rs.of_owns hP.own (length_natR ls)
    have hb1 := hP.bel
    have hroom1 := hrs1.sl.room
    have hmx1 := hrs1.sl.max
    unfold maxLen at hmx1
    have h1 := h.step hb1
    have k8 : Blk (w1.alloc (.cells #[.slice none 0 0] 37)) w1.heap.size 37 #[.slice none 0 0] := Blk.new _ _ _
    have hb8 : Below w.heap.size w (w1.alloc (.cells #[.slice none 0 0] 37)) := hb1.alloc hb1.size _
    have hb18 : Below w1.heap.size w1 (w1.alloc (.cells #[.slice none 0 0] 37)) := (Below.refl _ _).alloc (Nat.le_refl _) _
    have h2 := h1.step hb18
    have hrs2 := hrs1.step hb18
    have hs12 := hb1.size
    clear h hP h1 hrs1 hb18 hb1
    have hsz2 : (w1.alloc (.cells #[.slice none 0 0] 37)).heap.size = w1.heap.size + 1 := by simp
    go_wp2_with fail
    generalize w1.alloc (.cells #[.slice none 0 0] 37) = W2 at *
    generalize w1.heap.size = g8 at *
    refine (each_any hs (natR ls) A n c As ls.length cs W2 h2 (hrs2.weak fun _ _ _ => trivial) (by omega) (by omega)).mono ?_
    rintro e W3 ⟨A2, c2, Ar2, cr2, rfl, e1, e2, eh, er, hb3⟩
    have hI0 : ∀ n₁, CpI w g8 n₁ [] W3 := fun n₁ => ⟨⟨_, k8.step hb3, World.ownsRow_nil _ _ _ _⟩, hb8.trans (hb3.mono hb8.size)⟩
    have hsz3 := hb3.size
    have hG := e1.lt
    clear h2 hrs2 k8 hb8 hb3
    rw [hsz2] at e1 e2 eh er hsz3 hG
    go_wp2_with fail
    refine wp_range_U (gf := 68) (lb := #[.pointer (some ⟨g8 + 1 + 1, 0, none⟩), .pointer (some ⟨g8 + 1, 0, none⟩)]) rfl (enters_of Try.func68 (by kernel_rfl) rfl)
      (each1_seq hs (natR ls) A2 n c2 Ar2 ls.length cr2 (g8 + 1 + 1) (g8 + 1) (· = g8) W3 e1 e2 (eh.weak fun b _ hb e => by have hb : g8 + 1 + 1 < b := hb; have e : b = g8 := e; omega) (er.weak fun b _ hb e => by have hb : g8 + 1 + 1 < b := hb; have e : b = g8 := e; omega) (by intro e; omega) (fun b hb => by have hb : b = g8 := hb; omega) (by omega) (by omega))
      (fun n₁ k vs W h => by rw [show vs = _ from h]; rfl)
      (fun n₁ k => CpI w g8 n₁ (rs.take k)) (fun _ _ _ _ => False) (fun n₁ => CpI.own_ (fun k => rs.take k) (by omega)) (fun _ _ _ _ _ _ h _ _ => h.elim) (fun n₁ _ => by simpa using hI0 n₁) ?round ?done ?stop
    case round =>
      clear hI0 e1 e2 eh er
      intro li n₁ k vs X hl hln hnX hk hI hy
      subst hy
      rw [Hgood.out, length_natR] at hk
      rw [Hgood.out, Hat.out k hk]
      have htk := take_snocH rs k (by rw [Hlr.out]; exact hk)
      have hzl := Hr32.out.getD k (by rw [Hlr.out]; exact hk)
      have hlen : (rs.take k).length ≤ 64 := by rw [List.length_take, Hlr.out]; omega
      generalize rs.getD k [] = z at hzl htk ⊢
      generalize (natR ls).getD k (0, 0) = x
      obtain ⟨x1, x2⟩ := x
      dsimp only [rval]
      have Htk := Lib.hid htk
      have Hzl := Lib.hid hzl
      clear htk hzl
      refine wpIn_region_lit ?_
      go_simp
      refine wpListIn_of2 (openR li) rfl ?_
      refine wpList_hvar (.tmp 10) (.tmp 25) rfl rfl rfl rfl rfl rfl Hzl.out ?_
      intro X1 k10 hb10
      refine thenN_nil ?_
      simp only [Act.put]
      gi_wp2
      refine ⟨KeepU.below hb10, ?_⟩
      intro X2 hturn
      have hI2 := hturn.own (CpI.own_ (w := w) (g8 := g8) (n₁ := n₁) (fun k => rs.take k) (show w.heap.size ≤ W3.heap.size by omega)) (hI.step hb10)
      have k10' : HV X2 X.heap.size z := ⟨hturn.blk k10.blk, Hzl.out⟩
      have hnX2 : n₁ ≤ X2.heap.size := by rw [hturn.size]; exact Nat.le_trans hnX hb10.size
      clear hI k10 hb10 hturn hnX
      generalize X.heap.size = g10 at k10' ⊢
      obtain ⟨⟨v, k8, hov⟩, hbel⟩ := hI2
      generalize hq : rs.take k = q at *
      obtain ⟨v', W9, hr9, hv9, hg9, -⟩ := append_hR hov z Hzl.out (by omega) hnX2
      obtain ⟨gv, cv, rfl⟩ := owns_some hv9 (by simp)
      have hge9 : ∀ r, v.ownBlock = some r → n₁ ≤ r := fun r e => (hov.lt r e).1
      have k89 : Blk W9 g8 37 #[v] := k8.grown hg9 (fun e => by have := hge9 _ e.symm; omega)
      have c8 : X2.cell? ⟨g8, 0, none⟩ = some v := by rw [k8.cell]; rfl
      have c89 : W9.cell? ⟨g8, 0, none⟩ = some v := by rw [k89.cell]; rfl
      have f89 := k89.frozen 0
      have Hr9 := Lib.hid hr9
      clear hr9
      gi_wp2_with (first
        | ((with_reducible show wpListIn _ _ _ _ _ (⟨some 27, .load _ _, _, _, _, _⟩ :: _) _ _); refine wpListIn_of1 (openR li) rfl ?_; refine wpList_hload (.tmp 10) (by kernel_rfl) rfl k10' rfl ?_; refine thenN_nil ?_; simp only [Act.put])
        | ((with_reducible show wpListIn _ _ _ _ _ (⟨some 28, .buildSlice _ _ _, _, _, _, _⟩ :: _) _ _); refine wpListIn_of1 (openR li) rfl ?_; refine wpList_run rfl _ _ (run_litH_op z Hzl.out (.tmp 27) rfl rfl _) ?_; refine thenN_nil ?_; simp only [Act.put])
        | ((with_reducible show wpListIn _ _ _ _ _ (⟨some 29, .call _, _, _, _, _⟩ :: _) _ _); refine wpListIn_of1 (openR li) rfl ?_; refine wpList_run rfl _ W9 (run_append_op (.tmp 26) (.tmp 28) 37 rfl _ _ rfl rfl Hr9.out) ?_; refine thenN_nil ?_; simp only [Act.put]))
      have hl : (q ++ [z]).length = q.length + 1 := by simp
      rw [hl] at hv9
      have hgn := (hv9.lt gv rfl).1
      refine ⟨(KeepU.grown hg9 (fun r e => ⟨.inl (hge9 r e), owns_cells hov e⟩)).trans (KeepU.setCell (U := (· = g8)) k89 (.inr rfl) 0 _), ⟨_, k89.set_ 0 _, ?_⟩, (hbel.grown hg9 hbel.size (fun r e => by have := hge9 r e; omega)).setCell (by show w.heap.size ≤ g8; omega) _⟩
      rw [Htk.out, hl]
      exact hv9.kept (grownBy_setCell' W9 g8 _) (.inr (fun e => by have e : gv = g8 := Option.some.inj e; omega))
    case done =>
      clear hI0 e1 e2 eh er
      intro D n₁ X hD hDn hI hK
      rw [Hgood.out, length_natR, List.take_of_length_le (by rw [Hlr.out]; exact Nat.le_refl _)] at hI
      obtain ⟨⟨v, k8, hov⟩, hbel⟩ := hI
      have c8 : X.cell? ⟨g8, 0, none⟩ = some v := by rw [k8.cell]; rfl
      go_wp2_with fail
      refine leaves_marks (N := w.heap.size) [D] _ ((MarksOk.nil _ _).cons (by omega) hK (by simp)) fun w' ht => ⟨_, results_tmp2 rfl _ _ _, v, rfl, ?_, hbel.trans ht.bel⟩
      refine owns_le (b := n₁) ?_ (by omega)
      rcases hov.2 with ⟨rfl, h0⟩ | ⟨g, cap, cur, rfl, hb, hc, r1, r2, r3, r4⟩
      · exact ⟨hov.1, .inl ⟨rfl, h0⟩⟩
      · exact ⟨hov.1, .inr ⟨g, cap, cur, rfl, hb, ht.blk _ _ _ hc, r1, r2, r3, r4⟩⟩
    case stop =>
      rintro D n₁ cd k X hD hDn hk h hK
      exact h.elim
  · have hb0 : rootsS hs m = [] := rootsS_bad hs m (by rw [hlen, hse]; exact he0)
    rw [hb0]
    have hne : (e0 != 0) = true := by simpa using he0
    clear hlen h32 hst hse he0 hb0
    refine (callsIn_wide (n := 5)).1 ?_
    refine callsIn_of_wp_marks Try.func41 rfl trivial ?_ rfl
    simp only [Try.ntmps41, List.size_toArray, List.length_cons, List.length_nil, Nat.reduceAdd, Nat.reduceSub, Array.replicate_succ, Array.replicate_zero, List.push_toArray, List.append_toArray, List.nil_append, List.cons_append]
    refine wpIn_wide.2 ?_
    go_wp2_with fail
    refine Hst.out.mono ?_
    rintro e w1 ⟨vs, rfl, hP⟩
    obtain ⟨As, cs, rfl, -⟩ := Rs.of_owns hP.own (length_natR ls)
    have hb1 := hP.bel
    clear hP
    go_wp2_with fail
    refine leaves_marks (N := w.heap.size) [] _ (MarksOk.nil _ _) fun w' ht => ⟨_, results_tmp2 rfl _ _ _, _, rfl, World.ownsRow_nil _ _ _ _, hb1.trans ht.bel⟩
end Go.Proofs.Ytgcbdnoniikboaa
