/- A law's argument that is a thing found, opened. -/
import Derived.Test.YtobcfgbkhgkelaaQe211
import Derived.Test.YtobcfgbkhgkelaaQe227
import Derived.Test.YtobcfgbkhgkelaaQe220
import Derived.Test.YtobcfgbkhgkelaaQe224
import Derived.Test.YtobcfgbkhgkelaaQe218
import Derived.Test.YtobcfgbkhgkelaaQe221
import Derived.Test.YtobcfgbkhgkelaaQe215
namespace Go.Proofs.Ytobcfgbkhgkelaa
open Go.RowKit Go.WideShapes Go.ChangeShapes Go.ChangeAt

section
variable {H : Type} {enc : TypeId × Value → H} {P : Program} {W : World} {base : Nat} {held : Bool}
theorem open_found {t eD eJ q : TypeId} {f0 f1 f2 f3 f4 f5 e0 e1 : Field} {v : Value} {d : DataW H} {p : List MemPlace} (ht : P.underlying t = some (.struct #[f0, f1, f2, f3, f4, f5])) (o0 : f0.offset = 0) (o1 : f1.offset = 1) (o2 : f2.offset = 2) (o3 : f3.offset = 3) (o4 : f4.offset = 4) (o5 : f5.offset = 5)
    (u0 : P.underlying f0.type = some (.slice eD)) (uD : P.underlying eD = some (.slice q)) (u1 : P.underlying f1.type = some (.int .i64)) (u2 : P.underlying f2.type = some (.slice eJ)) (u3 : P.underlying f3.type = some (.int .i64)) (u4 : P.underlying f4.type = some .bool) (u5 : P.underlying f5.type = some (.struct #[e0, e1])) (hq : P.underlying q = some (.int .u8))
    (p0 : e0.offset = 0) (p1 : e1.offset = 1) (v0 : P.underlying e0.type = some (.int .i64)) (v1 : P.underlying e1.type = some (.array 32 q)) (d0 : P.cellsOf e0.type = 1) (d1 : P.cellsOf e1.type = 32)
    (c0 : P.cellsOf f0.type = 1) (cD : P.cellsOf eD = 1) (c1 : P.cellsOf f1.type = 1) (c2 : P.cellsOf f2.type = 1) (c3 : P.cellsOf f3.type = 1) (c4 : P.cellsOf f4.type = 1) (c5 : P.cellsOf f5.type = 33) (cq : P.cellsOf q = 1) (hct : P.cellsOf t = 38)
    (hok : Value.okWide P W .any base t v) (h : DataW.Trod enc P W 0 (fun _ => true) held t v d p) :
    ∃ (fc : Array Value) (E : Option Addr) (n c : Nat) (vs : List Value) (fe : List (List UInt8)) (fh : Bool) (fs : Int) (fr : List UInt8), v = .agg fc ∧ Fnd fc E n c fh fs fr ∧ SlS W E n c vs fe ∧ (Lit.int .i64 fs).wf = true ∧ ∀ v ∈ fc.toList, v.oneCell' = true := by
  simp only [Value.okWide, ht] at hok
  obtain ⟨cs, rfl, hsz, _⟩ := hok
  obtain ⟨fuel, h⟩ := h
  obtain ⟨xs, k, _, _, hl, hlen, hf⟩ := DataW.trod_struct ht h
  obtain ⟨y0, z0⟩ := some_at 0 hlen (by simp)
  obtain ⟨y1, z1⟩ := some_at 1 hlen (by simp)
  obtain ⟨y2, z2⟩ := some_at 2 hlen (by simp)
  obtain ⟨y3, z3⟩ := some_at 3 hlen (by simp)
  obtain ⟨y4, z4⟩ := some_at 4 hlen (by simp)
  obtain ⟨y5, z5⟩ := some_at 5 hlen (by simp)
  have g0 := (hf 0 f0 rfl).trans z0
  have g1 := (hf 1 f1 rfl).trans z1
  have g2 := (hf 2 f2 rfl).trans z2
  have g3 := (hf 3 f3 rfl).trans z3
  have g4 := (hf 4 f4 rfl).trans z4
  have g5 := (hf 5 f5 rfl).trans z5
  rw [o0, c0, List.drop_zero] at g0
  rw [o1, c1] at g1
  rw [o2, c2] at g2
  rw [o3, c3] at g3
  rw [o4, c4] at g4
  rw [o5, c5] at g5
  rw [hct] at hl
  simp only [Value.cells] at hl g0 g1 g2 g3 g4 g5
  obtain ⟨E, n, c, vs, fe, e0', s0, -⟩ := open_u8ss u0 uD hq cD cq g0
  obtain ⟨i1, e1', -⟩ := open_intf u1 g1
  have h2' : ∃ v2, (cs.toList.drop 2).take 1 = [v2] ∧ v2.oneCell' = true := by
    rcases DataW.trod_slice u2 g2 with ⟨h, _⟩ | ⟨a, l, cp, _, _, _, _, h, _⟩
    · exact ⟨_, h, rfl⟩
    · exact ⟨_, h, rfl⟩
  obtain ⟨v2, e2', hv2⟩ := h2'
  obtain ⟨i3, e3', -⟩ := open_intf u3 g3
  obtain ⟨fh, e4, -⟩ := DataW.trod_bool u4 g4
  obtain ⟨fs, fr, e5, w5, l5⟩ := open_pointf u5 p0 p1 v0 v1 hq d0 d1 cq c5 g5
  refine ⟨cs, E, n, c, vs, fe, fh, fs, fr, rfl, ⟨by rw [← hl, Array.length_toList], ?_, ?_, fun j v hv => ?_, l5⟩, s0, w5, fun v hv => ?_⟩
  · rw [← Array.getElem?_toList]
    have h1 : (cs.toList.take 1)[0]? = cs.toList[0]? := List.getElem?_take_of_lt (by decide)
    rw [← h1, e0']
    rfl
  · rw [← Array.getElem?_toList]
    have h1 : ((cs.toList.drop 4).take 1)[0]? = cs.toList[4]? := by rw [List.getElem?_take_of_lt (by decide), List.getElem?_drop]
    rw [← h1, e4]
    rfl
  · rw [← Array.getElem?_toList]
    have hj : j < 33 := by have := (List.getElem?_eq_some_iff.1 hv).1; simp [l5] at this; omega
    have h1 : ((cs.toList.drop 5).take 33)[j]? = cs.toList[5 + j]? := by rw [List.getElem?_take_of_lt hj, List.getElem?_drop]
    rw [← h1, e5]
    exact hv
  · have hs : cs.toList = cs.toList.take 1 ++ ((cs.toList.drop 1).take 1 ++ ((cs.toList.drop 2).take 1 ++ ((cs.toList.drop 3).take 1 ++ ((cs.toList.drop 4).take 1 ++ (cs.toList.drop 5).take 33)))) := by
      match hcs : cs.toList, hl with
      | a0 :: a1 :: a2 :: a3 :: a4 :: r, hr =>
        have hr' : r.length = 33 := by simpa using hr
        simp [List.take_of_length_le (Nat.le_of_eq hr')]
    rw [hs, e0', e1', e2', e3', e4, e5] at hv
    simp only [List.mem_append, List.mem_cons, List.not_mem_nil, or_false] at hv
    rcases hv with rfl | rfl | rfl | rfl | rfl | rfl | hv
    · rfl
    · rfl
    · exact hv2
    · rfl
    · rfl
    · rfl
    · obtain ⟨x, _, rfl⟩ := List.mem_map.1 hv
      rfl
end
end Go.Proofs.Ytobcfgbkhgkelaa
/- The roots of the stretches of an audit path (plain). -/
namespace Go.Proofs.Ytobcfgbkhgkelaa
open Go Go.RowKit

theorem pathA_each (m : Int) (n : Nat) : ∀ x ∈ (pathA m n).1, x.1 < x.2 ∧ x.2 ≤ n := by
  intro x hx
  unfold pathA at hx
  split at hx
  · cases hx
  · rename_i h1
    have := (pathL_ok n m.toNat 0 n (by omega) (by omega) (by omega)).each x (by simpa using hx)
    omega
theorem path_good (hs : List (List UInt8)) (m : Int) : goodL hs (natR (pathA m hs.length).1) = natR (pathA m hs.length).1 := by
  unfold goodL
  rw [List.filter_eq_self]
  intro y hy
  unfold natR at hy
  obtain ⟨x, hx, rfl⟩ := List.mem_map.1 hy
  obtain ⟨h1, h2⟩ := pathA_each m hs.length x hx
  unfold okR
  rw [stretchR_nat hs x.1 x.2 h1 h2]
  rfl
theorem length_rootsP (hs : List (List UInt8)) (m : Int) : (rootsP hs m).length = (pathA m hs.length).1.length := by simp [rootsP, rootsL]
theorem rootsP_all (hs : List (List UInt8)) (h : H32 hs) (m : Int) : H32 (rootsP hs m) := rootsL_all hs h _
theorem rootsP_at (hs : List (List UInt8)) (m : Int) (k : Nat) (h : k < (pathA m hs.length).1.length) : (stretchR hs ((natR (pathA m hs.length).1).getD k (0, 0)).1 ((natR (pathA m hs.length).1).getD k (0, 0)).2).1 = (rootsP hs m).getD k [] := by
  obtain ⟨h1, h2⟩ := pathA_each m hs.length _ (List.getElem_mem h)
  unfold natR rootsP rootsL
  rw [List.getD_eq_getElem?_getD, List.getElem?_map, List.getD_eq_getElem?_getD, List.getElem?_map, List.getElem?_eq_getElem h]
  simp only [Option.map_some, Option.getD_some]
  rw [stretchR_nat hs _ _ h1 h2]
theorem rootsP_bad (hs : List (List UInt8)) (m : Int) (h : (pathA m hs.length).2 ≠ 0) : rootsP hs m = [] := by
  unfold rootsP pathA at *
  split
  · rfl
  · rename_i h1
    rw [if_neg h1] at h
    exact absurd rfl h
theorem pathA_e (m n : Int) : (pathA m n).2 = 0 ∨ (pathA m n).2 = 4 := by
  unfold pathA
  split
  · exact .inr rfl
  · exact .inl rfl
end Go.Proofs.Ytobcfgbkhgkelaa
/- incl.Prove. -/
namespace Go.Proofs.Ytobcfgbkhgkelaa
open Go Go.RowKit Go.Shelf
attribute [local go_sem] Oper.semAt_some

set_option maxHeartbeats 4000000 in
set_option maxRecDepth 100000 in
theorem iprove_any (hs : List (List UInt8)) (A : Option Addr) (n c : Nat) (w : World) (m : Int) (h : Hs w (fun _ => True) A n c hs) (hn : n ≤ 1099511627776) :
    Calls Try.prog 59 #[.slice A n c, .int .i64 m] w fun e w' => ∃ v, e = .returned (.tuple #[v, .int .i64 (pathA m hs.length).2]) ∧ w'.ownsRow w.heap.size 26 32 v (rootsP hs m).length (hcells (rootsP hs m)) ∧ Below w.heap.size w w' := by
  have hlen := h.len
  have h32 := h.all
  have hroom := h.sl.room
  have hmx := h.sl.max
  unfold maxLen at hmx
  have hst := tpathA_any m (n : Int) w (by omega)
  obtain ⟨⟨ls, e0⟩, hse⟩ : ∃ s, pathA m (n : Int) = s := ⟨_, rfl⟩
  rw [hse] at hst
  dsimp only at hst
  have hlm : ls.length ≤ 64 := by have := pathA_len m (n : Int) (by omega); rw [hse] at this; exact this
  have Hlen := Lib.hid hlen
  have H32h := Lib.hid h32
  have Hst := Lib.hid hst
  rw [hlen, hse]
  dsimp only
  by_cases he0 : e0 = 0
  · subst he0
    have hgood := path_good hs m
    have hlr := length_rootsP hs m
    have hat := rootsP_at hs m
    rw [hlen, hse] at hgood hlr hat
    dsimp only at hgood hlr hat
    obtain ⟨rs, hrs⟩ : ∃ rs, rootsP hs m = rs := ⟨_, rfl⟩
    have hr32 : H32 rs := by rw [← hrs]; exact rootsP_all hs h32 m
    rw [hrs] at hlr hat ⊢
    have Hgood := Lib.hid hgood
    have Hlr := Lib.hid hlr
    have Hat := Lib.hid hat
    have Hr32 := Lib.hid hr32
    have Hse := Lib.hid hse
    clear hlen h32 hst hgood hlr hat hr32 hrs hse
    refine (callsIn_wide (n := 5)).1 ?_
    refine callsIn_of_wp_marks Try.func59 rfl trivial ?_ rfl
    simp only [Try.ntmps59, List.size_toArray, List.length_cons, List.length_nil, Nat.reduceAdd, Nat.reduceSub, Array.replicate_succ, Array.replicate_zero, List.push_toArray, List.append_toArray, List.nil_append, List.cons_append]
    refine wpIn_wide.2 ?_
    go_wp2_with fail
    refine Hst.out.mono ?_
    rintro e w1 ⟨vs, rfl, hP⟩
    obtain ⟨As, cs, rfl, hrs1⟩ := Rs.of_owns hP.own (length_natR ls)
    have hb1 := hP.bel
    have hroom1 := hrs1.sl.room
    have hmx1 := hrs1.sl.max
    unfold maxLen at hmx1
    have h1 := h.step hb1
    have k8 : Blk (w1.alloc (.cells #[.slice none 0 0] 33)) w1.heap.size 33 #[.slice none 0 0] := Blk.new _ _ _
    have hb8 : Below w.heap.size w (w1.alloc (.cells #[.slice none 0 0] 33)) := hb1.alloc hb1.size _
    have hb18 : Below w1.heap.size w1 (w1.alloc (.cells #[.slice none 0 0] 33)) := (Below.refl _ _).alloc (Nat.le_refl _) _
    have h2 := h1.step hb18
    have hrs2 := hrs1.step hb18
    have hs12 := hb1.size
    clear h hP h1 hrs1 hb18 hb1
    have hsz2 : (w1.alloc (.cells #[.slice none 0 0] 33)).heap.size = w1.heap.size + 1 := by simp
    go_wp2_with fail
    generalize w1.alloc (.cells #[.slice none 0 0] 33) = W2 at *
    generalize w1.heap.size = g8 at *
    refine (each_any hs (natR ls) A n c As ls.length cs W2 h2 (hrs2.weak fun _ _ _ => trivial) (by omega) (by omega)).mono ?_
    rintro e W3 ⟨A2, c2, Ar2, cr2, rfl, e1, e2, eh, er, hb3⟩
    have hI0 : ∀ n₁, CpI w g8 n₁ [] W3 := fun n₁ => ⟨⟨_, k8.step hb3, World.ownsRow_nil _ _ _ _⟩, hb8.trans (hb3.mono hb8.size)⟩
    have hsz3 := hb3.size
    have hG := e1.lt
    clear h2 hrs2 k8 hb8 hb3
    rw [hsz2] at e1 e2 eh er hsz3 hG
    go_wp2_with fail
    refine wp_range_U (gf := 94) (lb := #[.pointer (some ⟨g8 + 1 + 1, 0, none⟩), .pointer (some ⟨g8 + 1, 0, none⟩)]) rfl (enters_of Try.func94 (by kernel_rfl) rfl)
      (each1_seq hs (natR ls) A2 n c2 Ar2 ls.length cr2 (g8 + 1 + 1) (g8 + 1) (· = g8) W3 e1 e2 (eh.weak fun b _ hb e => by have hb : g8 + 1 + 1 < b := hb; have e : b = g8 := e; omega) (er.weak fun b _ hb e => by have hb : g8 + 1 + 1 < b := hb; have e : b = g8 := e; omega) (by intro e; omega) (fun b hb => by have hb : b = g8 := hb; omega) (by omega) (by omega))
      (fun n₁ k vs W h => by rw [show vs = _ from h]; rfl)
      (fun n₁ k => CpI w g8 n₁ (rs.take k)) (fun _ _ _ _ => False) (fun n₁ => CpI.own_ (fun k => rs.take k) (by omega)) (fun _ _ _ _ _ _ h _ _ => h.elim) (fun n₁ _ => by simpa using hI0 n₁) ?round ?done ?stop
    case round =>
      clear hI0 e1 e2 eh er
      intro li n₁ k vs X hl hln hnX hk hI hy
      subst hy
      rw [Hgood.out, length_natR] at hk
      rw [Hgood.out, Hat.out k hk]
      have htk := take_snocH rs k (by rw [Hlr.out]; exact hk)
      have hzl := Hr32.out.getD k (by rw [Hlr.out]; exact hk)
      have hlen : (rs.take k).length ≤ 64 := by rw [List.length_take, Hlr.out]; omega
      generalize rs.getD k [] = z at hzl htk ⊢
      generalize (natR ls).getD k (0, 0) = x
      obtain ⟨x1, x2⟩ := x
      dsimp only [rval]
      have Htk := Lib.hid htk
      have Hzl := Lib.hid hzl
      clear htk hzl
      refine wpIn_region_lit ?_
      go_simp
      refine wpListIn_of2 (openR li) rfl ?_
      refine wpList_hvar (.tmp 10) (.tmp 25) rfl rfl rfl rfl rfl rfl Hzl.out ?_
      intro X1 k10 hb10
      refine thenN_nil ?_
      simp only [Act.put]
      gi_wp2
      refine ⟨KeepU.below hb10, ?_⟩
      intro X2 hturn
      have hI2 := hturn.own (CpI.own_ (w := w) (g8 := g8) (n₁ := n₁) (fun k => rs.take k) (show w.heap.size ≤ W3.heap.size by omega)) (hI.step hb10)
      have k10' : HV X2 X.heap.size z := ⟨hturn.blk k10.blk, Hzl.out⟩
      have hnX2 : n₁ ≤ X2.heap.size := by rw [hturn.size]; exact Nat.le_trans hnX hb10.size
      clear hI k10 hb10 hturn hnX
      generalize X.heap.size = g10 at k10' ⊢
      obtain ⟨⟨v, k8, hov⟩, hbel⟩ := hI2
      generalize hq : rs.take k = q at *
      obtain ⟨v', W9, hr9, hv9, hg9, -⟩ := append_hR hov z Hzl.out (by omega) hnX2
      obtain ⟨gv, cv, rfl⟩ := owns_some hv9 (by simp)
      have hge9 : ∀ r, v.ownBlock = some r → n₁ ≤ r := fun r e => (hov.lt r e).1
      have k89 : Blk W9 g8 33 #[v] := k8.grown hg9 (fun e => by have := hge9 _ e.symm; omega)
      have c8 : X2.cell? ⟨g8, 0, none⟩ = some v := by rw [k8.cell]; rfl
      have c89 : W9.cell? ⟨g8, 0, none⟩ = some v := by rw [k89.cell]; rfl
      have f89 := k89.frozen 0
      have Hr9 := Lib.hid hr9
      clear hr9
      gi_wp2_with (first
        | ((with_reducible show wpListIn _ _ _ _ _ (⟨some 27, .load _ _, _, _, _, _⟩ :: _) _ _); refine wpListIn_of1 (openR li) rfl ?_; refine wpList_hload (.tmp 10) (by kernel_rfl) rfl k10' rfl ?_; refine thenN_nil ?_; simp only [Act.put])
        | ((with_reducible show wpListIn _ _ _ _ _ (⟨some 28, .buildSlice _ _ _, _, _, _, _⟩ :: _) _ _); refine wpListIn_of1 (openR li) rfl ?_; refine wpList_run rfl _ _ (run_litH_op z Hzl.out (.tmp 27) rfl rfl _) ?_; refine thenN_nil ?_; simp only [Act.put])
        | ((with_reducible show wpListIn _ _ _ _ _ (⟨some 29, .call _, _, _, _, _⟩ :: _) _ _); refine wpListIn_of1 (openR li) rfl ?_; refine wpList_run rfl _ W9 (run_append_op (.tmp 26) (.tmp 28) 33 rfl _ _ rfl rfl Hr9.out) ?_; refine thenN_nil ?_; simp only [Act.put]))
      have hl : (q ++ [z]).length = q.length + 1 := by simp
      rw [hl] at hv9
      have hgn := (hv9.lt gv rfl).1
      refine ⟨(KeepU.grown hg9 (fun r e => ⟨.inl (hge9 r e), owns_cells hov e⟩)).trans (KeepU.setCell (U := (· = g8)) k89 (.inr rfl) 0 _), ⟨_, k89.set_ 0 _, ?_⟩, (hbel.grown hg9 hbel.size (fun r e => by have := hge9 r e; omega)).setCell (by show w.heap.size ≤ g8; omega) _⟩
      rw [Htk.out, hl]
      exact hv9.kept (grownBy_setCell' W9 g8 _) (.inr (fun e => by have e : gv = g8 := Option.some.inj e; omega))
    case done =>
      clear hI0 e1 e2 eh er
      intro D n₁ X hD hDn hI hK
      rw [Hgood.out, length_natR, List.take_of_length_le (by rw [Hlr.out]; exact Nat.le_refl _)] at hI
      obtain ⟨⟨v, k8, hov⟩, hbel⟩ := hI
      have c8 : X.cell? ⟨g8, 0, none⟩ = some v := by rw [k8.cell]; rfl
      go_wp2_with fail
      refine leaves_marks (N := w.heap.size) [D] _ ((MarksOk.nil _ _).cons (by omega) hK (by simp)) fun w' ht => ⟨_, results_tmp2 rfl _ _ _, v, rfl, ?_, hbel.trans ht.bel⟩
      refine owns_le (b := n₁) ?_ (by omega)
      rcases hov.2 with ⟨rfl, h0⟩ | ⟨g, cap, cur, rfl, hb, hc, r1, r2, r3, r4⟩
      · exact ⟨hov.1, .inl ⟨rfl, h0⟩⟩
      · exact ⟨hov.1, .inr ⟨g, cap, cur, rfl, hb, ht.blk _ _ _ hc, r1, r2, r3, r4⟩⟩
    case stop =>
      rintro D n₁ cd k X hD hDn hk h hK
      exact h.elim
  · have hb0 : rootsP hs m = [] := rootsP_bad hs m (by rw [hlen, hse]; exact he0)
    rw [hb0]
    have hne : (e0 != 0) = true := by simpa using he0
    clear hlen h32 hst hse he0 hb0
    refine (callsIn_wide (n := 5)).1 ?_
    refine callsIn_of_wp_marks Try.func59 rfl trivial ?_ rfl
    simp only [Try.ntmps59, List.size_toArray, List.length_cons, List.length_nil, Nat.reduceAdd, Nat.reduceSub, Array.replicate_succ, Array.replicate_zero, List.push_toArray, List.append_toArray, List.nil_append, List.cons_append]
    refine wpIn_wide.2 ?_
    go_wp2_with fail
    refine Hst.out.mono ?_
    rintro e w1 ⟨vs, rfl, hP⟩
    obtain ⟨As, cs, rfl, -⟩ := Rs.of_owns hP.own (length_natR ls)
    have hb1 := hP.bel
    clear hP
    go_wp2_with fail
    refine leaves_marks (N := w.heap.size) [] _ (MarksOk.nil _ _) fun w' ht => ⟨_, results_tmp2 rfl _ _ _, _, rfl, World.ownsRow_nil _ _ _ _, hb1.trans ht.bel⟩
end Go.Proofs.Ytobcfgbkhgkelaa
/- model: begins, Root, Cons, Incl: of a beginning that is there. -/
namespace Go.Proofs.Ytobcfgbkhgkelaa
open Go Go.RowKit Go.Shelf
attribute [local go_sem] Oper.semAt_some

theorem sliceHM : Try.prog.underlying 33 = some (.slice (Try.prog.elem 33)) := by kernel_rfl
theorem sizeHM : ∀ w : World, (sizeOf (Try.prog.elem 33)).run Try.prog w = .ok 32 w := fun _ => by kernel_rfl
theorem run_slice_hiH {ρ : Operand → Value} {o : Oper} (x y : Operand) (ho : o.op = .slice 33 x none (some y) none) (A : Option Addr) (n c k : Nat) (hx : ρ x = .slice A n c) (hy : ρ y = .int .i64 (k : Int)) (hk : k ≤ c) (W : World) :
    (execOp ρ o).run Try.prog W = .ok (.value (.slice A k c)) W := by
  unfold execOp
  simp only [ho, hx, hy, Option.map_some, Option.map_none, run_slice_high sliceHM sizeHM A n c k hk W, Sem.run_bind, Sem.run_pure, Result.andThen_ok]
set_option maxRecDepth 100000 in
theorem tuple_hv {fn : Func} {p u : Tmp} (h : fn.results = #[.cell p 26, .tmp u]) (tmps : Array Value) (W : World) (g : Nat) (l : List UInt8)
    (hp : tmps.getD p undef = .pointer (some ⟨g, 0, none⟩)) (k : HV W g l) :
    (results fn tmps).run Try.prog W = .ok (.tuple #[.agg (l.map B).toArray, tmps.getD u undef]) W := by
  rw [results_cell_tmp h, hp]
  show ((loadVar 26 ⟨g, 0, none⟩).run Try.prog W).andThen (fun v w₂ => Result.ok (Value.tuple #[v, tmps.getD u undef]) w₂) = _
  rw [run_loadVar_row W g 26 26 (l.map B).toArray (0, 0) _ k.blk Try.underlying26 rfl (by rw [show (l.map B).toArray.size = 32 by simp [k.len]]; kernel_rfl)]
  rfl
section
variable {W : World} {Z : Nat → Prop} {lo g : Nat} {R : MdR} {m : MoV}
theorem mbegins_ok (h : Md Z lo g R m W) (n : Nat) (hn : n ≤ m.ents.length) : Calls Try.prog 42 #[.pointer (some ⟨g, 0, none⟩), .int .i64 (n : Int)] W fun e w' => e = .returned (.int .i64 0) ∧ w' = W := by
  have hno := mnone_any h
  have hsz := msize_any h
  have d1 : decide ((n : Int) < 0) = false := by simp
  have d2 : decide ((m.ents.length : Int) < (n : Int)) = false := by simp; omega
  have d3 : decide (m.ents.length < n) = false := by simp; omega
  obtain ⟨N, hN⟩ : ∃ x, m.ents.length = x := ⟨_, rfl⟩
  rw [hN] at hsz d2 d3
  clear h hN hn
  go_enter Try.func42, Try.ntmps42
  go_wp2_with (first
    | (go_at_call 43; refine (hno).mono ?_; rintro e w' ⟨rfl, hw⟩; obtain rfl := hw.symm)
    | (go_at_call 13; refine (hsz).mono ?_; rintro e w' ⟨rfl, hw⟩; obtain rfl := hw.symm))
  go_ret
  exact ⟨rfl, rfl⟩
set_option maxHeartbeats 4000000 in
set_option maxRecDepth 100000 in
theorem mroot_ok (h : Md Z lo g R m W) (n : Nat) (hn : n ≤ m.ents.length) : Calls Try.prog 12 #[.pointer (some ⟨g, 0, none⟩), .int .i64 (n : Int)] W fun e w' => e = .returned (.tuple #[.agg ((rootL ((lvs m.ents).take n)).map B).toArray, .int .i64 0]) ∧ Below W.heap.size W w' := by
  obtain ⟨root, hroot⟩ : ∃ x, rootL ((lvs m.ents).take n) = x := ⟨_, rfl⟩
  have hr32 : root.length = 32 := by rw [← hroot]; exact length_rootL _ ((H32.lvs _).take n)
  obtain ⟨w1, hw1⟩ : ∃ x, W.alloc (.cells (zeroHash) 26) = x := ⟨_, rfl⟩
  have k1 : Blk w1 W.heap.size 26 zeroHash := by rw [← hw1]; exact Blk.new _ _ _
  have B1 : Below W.heap.size W w1 := by rw [← hw1]; exact (Below.refl _ _).alloc (Nat.le_refl _) _
  have h1 := h.step B1
  have hbe := mbegins_ok h1 n hn
  obtain ⟨A, c, hre, hrs⟩ := h1.roots
  have hr := hrs.sl.room
  have hmx := hrs.sl.max
  unfold maxLen at hmx
  obtain ⟨b, o, rfl, hbl, -, hld⟩ := hrs.at_ (by omega)
  have hget : (headsL (lvs m.ents) m.ents.length).getD n [] = root := by rw [headsL_getD _ _ _ hn]; exact hroot
  have hlr := hld n (by omega)
  rw [hget] at hlr
  have c2 : w1.cell? ⟨g, 2, none⟩ = some (.slice (some ⟨b, o, none⟩) (m.ents.length + 1) c) := (h1.cell 2 (by decide)).trans (congrArg some hre)
  obtain ⟨N, hN⟩ : ∃ x, m.ents.length = x := ⟨_, rfl⟩
  rw [hN] at c2 hr hn
  have hlt : n < N + 1 := by omega
  have hnn : (n : Int) < (N : Int) + 1 := by omega
  rw [hroot]
  have Hw1 := Lib.hid hw1
  have Hlr := Lib.hid hlr
  clear hw1 hlr hget hroot hrs hre hld h1 h hN hbl
  go_enter Try.func12, Try.ntmps12
  go_wp2_with (first
    | ((with_reducible show wpList _ _ _ (⟨some 4, .alloc _, _, _, _, _⟩ :: _) _ _); refine wpList_run rfl (.pointer (some ⟨W.heap.size, 0, none⟩)) w1 (by rw [← Hw1.out]; kernel_rfl) ?_; simp only [Act.put])
    | (go_at_call 42; refine (hbe).mono ?_; rintro e w' ⟨rfl, hw⟩; obtain rfl := hw.symm)
    | ((with_reducible show wpList _ _ _ (⟨some 21, .load _ _, _, _, _, _⟩ :: _) _ _); refine wpList_load rfl 26 (.tmp 20) rfl b (o + n * 32) rfl _ Hlr.out ?_; simp only [Act.put])
    | ((with_reducible show wpList _ _ _ (⟨none, .store _ (.tmp 4) _, _, _, _, _⟩ :: _) _ _); refine wpList_hset (l := root) (l' := List.replicate 32 0) (.tmp 4) (.tmp 21) rfl rfl ⟨k1, rfl⟩ rfl rfl hr32 ?_; intro w9 k9 b9 hw9; clear hw9; simp only [Act.put]))
  exact bodyPost_ret (tuple_hv rfl _ _ W.heap.size root rfl k9) rfl ⟨rfl, B1.trans (b9.mono (Nat.le_refl _))⟩
set_option maxHeartbeats 4000000 in
set_option maxRecDepth 100000 in
theorem mcons_ok (h : Md Z lo g R m W) (k n : Nat) (hn : n ≤ m.ents.length) (_hk : k ≤ n) (hN : m.ents.length ≤ 1000000000) : Calls Try.prog 25 #[.pointer (some ⟨g, 0, none⟩), .int .i64 (k : Int), .int .i64 (n : Int)] W fun e w' =>
    ∃ v, e = .returned (.tuple #[v, .int .i64 (stepsA (k : Int) (n : Int)).2]) ∧ w'.ownsRow W.heap.size 26 32 v (rootsS ((lvs m.ents).take n) (k : Int)).length (hcells (rootsS ((lvs m.ents).take n) (k : Int))) ∧ Below W.heap.size W w' := by
  have hbe := mbegins_ok h n hn
  obtain ⟨A, c, hve, hes⟩ := Hs.of_owns h.hashes (lvs_length _) (H32.lvs _)
  have hr := hes.sl.room
  have hmx := hes.sl.max
  unfold maxLen at hmx
  have c1 : W.cell? ⟨g, 1, none⟩ = some (.slice A m.ents.length c) := (h.cell 1 (by decide)).trans (congrArg some hve)
  have ht := (hes.take n hn).weak (Y := fun _ => True) fun _ _ _ => trivial
  have hcp := cprove_any _ A n c W (k : Int) ht (by omega)
  have hln : ((lvs m.ents).take n).length = n := by rw [List.length_take, lvs_length]; omega
  rw [hln] at hcp
  have Hcp := Lib.hid hcp
  obtain ⟨N, hN'⟩ : ∃ x, m.ents.length = x := ⟨_, rfl⟩
  have hnc : n ≤ c := by omega
  rw [hN'] at c1 hr
  clear hcp ht hes hve h hN' hln
  go_enter Try.func25, Try.ntmps25
  go_wp2_with (first
    | (go_at_call 42; refine (hbe).mono ?_; rintro e w' ⟨rfl, hw⟩; obtain rfl := hw.symm)
    | ((with_reducible show wpList _ _ _ (⟨some 21, .slice _ _ _ _ _, _, _, _, _⟩ :: _) _ _); refine wpList_run rfl (.slice A n c) W (run_slice_hiH (.tmp 19) (.tmp 20) rfl A N c n rfl rfl hnc W) ?_; simp only [Act.put]))
  refine Hcp.out.mono ?_
  rintro e w1 ⟨v, rfl, ho, hb⟩
  go_wp2_with fail
  go_ret2
  exact ⟨v, rfl, ho, hb⟩
set_option maxHeartbeats 4000000 in
set_option maxRecDepth 100000 in
theorem mincl_ok (h : Md Z lo g R m W) (k n : Nat) (hn : n ≤ m.ents.length) (_hk : k ≤ n) (hN : m.ents.length ≤ 1000000000) : Calls Try.prog 28 #[.pointer (some ⟨g, 0, none⟩), .int .i64 (k : Int), .int .i64 (n : Int)] W fun e w' =>
    ∃ v, e = .returned (.tuple #[v, .int .i64 (pathA (k : Int) (n : Int)).2]) ∧ w'.ownsRow W.heap.size 26 32 v (rootsP ((lvs m.ents).take n) (k : Int)).length (hcells (rootsP ((lvs m.ents).take n) (k : Int))) ∧ Below W.heap.size W w' := by
  have hbe := mbegins_ok h n hn
  obtain ⟨A, c, hve, hes⟩ := Hs.of_owns h.hashes (lvs_length _) (H32.lvs _)
  have hr := hes.sl.room
  have hmx := hes.sl.max
  unfold maxLen at hmx
  have c1 : W.cell? ⟨g, 1, none⟩ = some (.slice A m.ents.length c) := (h.cell 1 (by decide)).trans (congrArg some hve)
  have ht := (hes.take n hn).weak (Y := fun _ => True) fun _ _ _ => trivial
  have hcp := iprove_any _ A n c W (k : Int) ht (by omega)
  have hln : ((lvs m.ents).take n).length = n := by rw [List.length_take, lvs_length]; omega
  rw [hln] at hcp
  have Hcp := Lib.hid hcp
  obtain ⟨N, hN'⟩ : ∃ x, m.ents.length = x := ⟨_, rfl⟩
  have hnc : n ≤ c := by omega
  rw [hN'] at c1 hr
  clear hcp ht hes hve h hN' hln
  go_enter Try.func28, Try.ntmps28
  go_wp2_with (first
    | (go_at_call 42; refine (hbe).mono ?_; rintro e w' ⟨rfl, hw⟩; obtain rfl := hw.symm)
    | ((with_reducible show wpList _ _ _ (⟨some 21, .slice _ _ _ _ _, _, _, _, _⟩ :: _) _ _); refine wpList_run rfl (.slice A n c) W (run_slice_hiH (.tmp 19) (.tmp 20) rfl A N c n rfl rfl hnc W) ?_; simp only [Act.put]))
  refine Hcp.out.mono ?_
  rintro e w1 ⟨v, rfl, ho, hb⟩
  go_wp2_with fail
  go_ret2
  exact ⟨v, rfl, ho, hb⟩
end
end Go.Proofs.Ytobcfgbkhgkelaa
/- model: Waiting, ReadOnly, Settle, of a model that is there. -/
namespace Go.Proofs.Ytobcfgbkhgkelaa
open Go Go.RowKit
attribute [local go_sem] Oper.semAt_some
section
variable {W : World} {Z : Nat → Prop} {lo g : Nat} {R : MdR} {m : MoV}
theorem mwait_any (h : Md Z lo g R m W) : Calls Try.prog 35 #[.pointer (some ⟨g, 0, none⟩)] W fun e w' => e = .returned (.int .i64 (m.queue.length : Int)) ∧ w' = W := by
  obtain ⟨Aq, cq, hqe, hqs⟩ := h.queueEs
  have hrq := hqs.room
  have hmq := hqs.max
  unfold maxLen at hmq
  have c5 : W.cell? ⟨g, 5, none⟩ = some (.slice Aq m.queue.length cq) := (h.cell 5 (by decide)).trans (congrArg some hqe)
  have hn := mnone_any h
  clear h hqe hqs
  go_enter Try.func35, Try.ntmps35
  go_wp2_with (go_at_call 43; refine hn.mono ?_; rintro e w' ⟨rfl, hw⟩; obtain rfl := hw.symm)
  go_ret
  exact ⟨rfl, rfl⟩
theorem monly_any (h : Md Z lo g R m W) : Calls Try.prog 37 #[.pointer (some ⟨g, 0, none⟩)] W fun e w' => e = .returned (.bool m.only) ∧ w' = W := by
  have c75 : W.cell? ⟨g, 75, none⟩ = some (.bool m.only) := h.cell 75 (by decide)
  have hn := mnone_any h
  obtain ⟨b, hb⟩ : ∃ x, m.only = x := ⟨_, rfl⟩
  rw [hb] at c75 ⊢
  clear h hb
  cases b
  all_goals
    go_enter Try.func37, Try.ntmps37
    go_wp2_with (go_at_call 43; refine hn.mono ?_; rintro e w' ⟨rfl, hw⟩; obtain rfl := hw.symm)
    go_ret
    exact ⟨rfl, rfl⟩
theorem msettle_any (h : Md Z lo g R m W) : Calls Try.prog 31 #[.pointer (some ⟨g, 0, none⟩)] W fun e w' => e = .returned (.int .i64 (if m.only then 10 else 0)) ∧ w' = W := by
  have hm := mmay_any h
  obtain ⟨z, hz⟩ : ∃ x : Int, (if m.only then 10 else 0) = x := ⟨_, rfl⟩
  rw [hz] at hm ⊢
  clear h hz
  go_enter Try.func31, Try.ntmps31
  go_wp2_with (go_at_call 40; refine hm.mono ?_; rintro e w' ⟨rfl, hw⟩; obtain rfl := hw.symm)
  go_ret
  exact ⟨rfl, rfl⟩
end
end Go.Proofs.Ytobcfgbkhgkelaa
/- A model that is not there: Publish, Last, Root, Job, Allows, All. -/
namespace Go.Proofs.Ytobcfgbkhgkelaa
open Go Go.RowKit
attribute [local go_sem] Oper.semAt_some

/-- no hash -/
def zh : List UInt8 := List.replicate 32 0
def zptC : Array Value := (.int .i64 0 :: zh.map B).toArray
def zhC : Array Value := (zh.map B).toArray
theorem zh32 : zh.length = 32 := rfl
theorem zptC_size : zptC.size = 33 := rfl
theorem zhC_size : zhC.size = 32 := rfl
theorem built0_pt : Try.prog.built 28 [] = some zptC := by kernel_rfl
theorem built0_h : Try.prog.built 26 [] = some zhC := by kernel_rfl
theorem built0_cf : Try.prog.built 37 [] = some #[.int .i64 0, .int .i64 0] := by kernel_rfl
theorem build0_op {ρ : Operand → Value} {o : Oper} {T : TypeId} {cs : Array Value} (ho : o.op = .build T #[]) (h : Try.prog.built T [] = some cs) (W : World) : (execOp ρ o).run Try.prog W = .ok (.value (.agg cs)) W :=
  run_build_op ho (by simpa using h) W
set_option maxRecDepth 100000 in
theorem one_zpt : ∀ v ∈ zptC.toList, v.oneCell' = true := oneCell_pt _ _
theorem one_zh : ∀ v ∈ zhC.toList, v.oneCell' = true := oneCell_B _
set_option maxRecDepth 100000 in
theorem tuple_h {fn : Func} {p u : Tmp} (h : fn.results = #[.cell p 26, .tmp u]) (tmps : Array Value) (W : World) (g : Nat)
    (hp : tmps.getD p undef = .pointer (some ⟨g, 0, none⟩)) (k : Blk W g 26 zhC) :
    (results fn tmps).run Try.prog W = .ok (.tuple #[.agg zhC, tmps.getD u undef]) W := by
  rw [results_cell_tmp h, hp]
  show ((loadVar 26 ⟨g, 0, none⟩).run Try.prog W).andThen (fun v w₂ => Result.ok (Value.tuple #[v, tmps.getD u undef]) w₂) = _
  rw [run_loadVar_row W g 26 26 zhC (0, 0) _ k Try.underlying26 rfl (by kernel_rfl)]
  rfl
section
variable {W : World} {v : Value}
set_option maxHeartbeats 4000000 in
set_option maxRecDepth 100000 in
theorem mpublish_no (h : NoM W v) : Calls Try.prog 14 #[v] W fun e w' => e = .returned (.tuple #[.agg zptC, .int .i64 1]) ∧ Below W.heap.size W w' := by
  obtain ⟨w1, hw1⟩ : ∃ x, W.alloc (.cells zptC 28) = x := ⟨_, rfl⟩
  have k1 : Blk w1 W.heap.size 28 zptC := by rw [← hw1]; exact Blk.new _ _ _
  have B1 : Below W.heap.size W w1 := by rw [← hw1]; exact (Below.refl _ _).alloc (Nat.le_refl _) _
  have hmay := mmay_no (h.step B1)
  have B2 := below_setRow B1 (Nat.le_refl W.heap.size) zptC
  have p2 : PB (w1.setRow W.heap.size zptC) W.heap.size 0 zh := ⟨k1.setRow_ _, zh32⟩
  have Hw1 := Lib.hid hw1
  clear hw1 h
  go_enter Try.func14, Try.ntmps14
  go_wp2_with (first
    | ((with_reducible show wpList _ _ _ (⟨some 2, .alloc _, _, _, _, _⟩ :: _) _ _); refine wpList_run rfl (.pointer (some ⟨W.heap.size, 0, none⟩)) w1 (by rw [← Hw1.out]; kernel_rfl) ?_; simp only [Act.put])
    | (go_at_call 40; refine hmay.mono ?_; rintro e w' ⟨rfl, hw⟩; obtain rfl := hw.symm)
    | ((with_reducible show wpList _ _ _ (⟨some 9, .build _ _, _, _, _, _⟩ :: _) _ _); refine wpList_run rfl _ _ (build0_op rfl built0_pt _) ?_; simp only [Act.put])
    | ((with_reducible show wpList _ _ _ (⟨none, .store _ (.tmp 2) _, _, _, _, _⟩ :: _) _ _); refine wpList_store_blk rfl 28 (.tmp 2) (.tmp 9) rfl 33 ptSize W.heap.size zptC rfl rfl zptC_size one_zpt 28 _ k1 (by decide) ?_; simp only [Act.put]))
  exact bodyPost_ret (tuple_pt rfl _ _ W.heap.size 0 zh rfl p2) rfl ⟨rfl, B2⟩
set_option maxHeartbeats 4000000 in
set_option maxRecDepth 100000 in
theorem mlast_no (h : NoM W v) : Calls Try.prog 30 #[v] W fun e w' => e = .returned (.tuple #[.agg zptC, .bool false]) ∧ Below W.heap.size W w' := by
  obtain ⟨w1, hw1⟩ : ∃ x, W.alloc (.cells zptC 28) = x := ⟨_, rfl⟩
  have k1 : Blk w1 W.heap.size 28 zptC := by rw [← hw1]; exact Blk.new _ _ _
  have B1 : Below W.heap.size W w1 := by rw [← hw1]; exact (Below.refl _ _).alloc (Nat.le_refl _) _
  have hn := mnone_no (h.step B1)
  have B2 := below_setRow B1 (Nat.le_refl W.heap.size) zptC
  have p2 : PB (w1.setRow W.heap.size zptC) W.heap.size 0 zh := ⟨k1.setRow_ _, zh32⟩
  have Hw1 := Lib.hid hw1
  clear hw1 h
  go_enter Try.func30, Try.ntmps30
  go_wp2_with (first
    | ((with_reducible show wpList _ _ _ (⟨some 2, .alloc _, _, _, _, _⟩ :: _) _ _); refine wpList_run rfl (.pointer (some ⟨W.heap.size, 0, none⟩)) w1 (by rw [← Hw1.out]; kernel_rfl) ?_; simp only [Act.put])
    | (go_at_call 43; refine hn.mono ?_; rintro e w' ⟨rfl, hw⟩; obtain rfl := hw.symm)
    | ((with_reducible show wpList _ _ _ (⟨some 6, .build _ _, _, _, _, _⟩ :: _) _ _); refine wpList_run rfl _ _ (build0_op rfl built0_pt _) ?_; simp only [Act.put])
    | ((with_reducible show wpList _ _ _ (⟨none, .store _ (.tmp 2) _, _, _, _, _⟩ :: _) _ _); refine wpList_store_blk rfl 28 (.tmp 2) (.tmp 6) rfl 33 ptSize W.heap.size zptC rfl rfl zptC_size one_zpt 28 _ k1 (by decide) ?_; simp only [Act.put]))
  exact bodyPost_ret (tuple_pt rfl _ _ W.heap.size 0 zh rfl p2) rfl ⟨rfl, B2⟩
set_option maxHeartbeats 4000000 in
set_option maxRecDepth 100000 in
theorem mroot_no {n : Int} (h : NoM W v) : Calls Try.prog 12 #[v, .int .i64 n] W fun e w' => e = .returned (.tuple #[.agg zhC, .int .i64 1]) ∧ Below W.heap.size W w' := by
  obtain ⟨w1, hw1⟩ : ∃ x, W.alloc (.cells zhC 26) = x := ⟨_, rfl⟩
  have k1 : Blk w1 W.heap.size 26 zhC := by rw [← hw1]; exact Blk.new _ _ _
  have B1 : Below W.heap.size W w1 := by rw [← hw1]; exact (Below.refl _ _).alloc (Nat.le_refl _) _
  have hn := mbegins_no (n := n) (h.step B1)
  have B2 := below_setRow B1 (Nat.le_refl W.heap.size) zhC
  have k2 := k1.setRow_ zhC
  have Hw1 := Lib.hid hw1
  clear hw1 h
  go_enter Try.func12, Try.ntmps12
  go_wp2_with (first
    | ((with_reducible show wpList _ _ _ (⟨some 4, .alloc _, _, _, _, _⟩ :: _) _ _); refine wpList_run rfl (.pointer (some ⟨W.heap.size, 0, none⟩)) w1 (by rw [← Hw1.out]; kernel_rfl) ?_; simp only [Act.put])
    | (go_at_call 42; refine hn.mono ?_; rintro e w' ⟨rfl, hw⟩; obtain rfl := hw.symm)
    | ((with_reducible show wpList _ _ _ (⟨some 12, .build _ _, _, _, _, _⟩ :: _) _ _); refine wpList_run rfl _ _ (build0_op rfl built0_h _) ?_; simp only [Act.put])
    | ((with_reducible show wpList _ _ _ (⟨none, .store _ (.tmp 4) _, _, _, _, _⟩ :: _) _ _); refine wpList_store_blk rfl 26 (.tmp 4) (.tmp 12) rfl 32 size26 W.heap.size zhC rfl rfl zhC_size one_zh 26 _ k1 (by decide) ?_; simp only [Act.put]))
  exact bodyPost_ret (tuple_h rfl _ _ W.heap.size rfl k2) rfl ⟨rfl, B2⟩
set_option maxHeartbeats 4000000 in
set_option maxRecDepth 100000 in
theorem mjob_no (h : NoM W v) : Calls Try.prog 36 #[v] W fun e w' => e = .returned (.agg #[.int .i64 0, .int .i64 0]) ∧ Below W.heap.size W w' := by
  obtain ⟨w1, hw1⟩ : ∃ x, W.alloc (.cells #[.int .i64 0, .int .i64 0] 37) = x := ⟨_, rfl⟩
  have k1 : Blk w1 W.heap.size 37 #[.int .i64 0, .int .i64 0] := by rw [← hw1]; exact Blk.new _ _ _
  have B1 : Below W.heap.size W w1 := by rw [← hw1]; exact (Below.refl _ _).alloc (Nat.le_refl _) _
  have hn := mnone_no (h.step B1)
  have B2 := below_setRow B1 (Nat.le_refl W.heap.size) #[.int .i64 0, .int .i64 0]
  have k2 := k1.setRow_ #[.int .i64 0, .int .i64 0]
  have Hw1 := Lib.hid hw1
  clear hw1 h
  go_enter Try.func36, Try.ntmps36
  go_wp2_with (first
    | ((with_reducible show wpList _ _ _ (⟨some 2, .alloc _, _, _, _, _⟩ :: _) _ _); refine wpList_run rfl (.pointer (some ⟨W.heap.size, 0, none⟩)) w1 (by rw [← Hw1.out]; kernel_rfl) ?_; simp only [Act.put])
    | (go_at_call 43; refine hn.mono ?_; rintro e w' ⟨rfl, hw⟩; obtain rfl := hw.symm)
    | ((with_reducible show wpList _ _ _ (⟨some 5, .build _ _, _, _, _, _⟩ :: _) _ _); refine wpList_run rfl _ _ (build0_op rfl built0_cf _) ?_; simp only [Act.put])
    | ((with_reducible show wpList _ _ _ (⟨none, .store _ (.tmp 2) _, _, _, _, _⟩ :: _) _ _); refine wpList_store_blk rfl 37 (.tmp 2) (.tmp 5) rfl 2 sizeCf W.heap.size #[.int .i64 0, .int .i64 0] rfl rfl rfl (by intro v hv; simp at hv; rcases hv with rfl | rfl <;> rfl) 37 _ k1 rfl ?_; simp only [Act.put]))
  exact bodyPost_ret (results_cell_row rfl _ _ W.heap.size 37 #[.int .i64 0, .int .i64 0] (0, 0) _ rfl k2 Try.underlying37 rfl (by kernel_rfl)) rfl ⟨rfl, B2⟩
set_option maxHeartbeats 4000000 in
set_option maxRecDepth 100000 in
theorem mallows_no (h : NoM W v) (fc : Array Value) : Calls Try.prog 21 #[v, .agg fc] W fun e w' => e = .returned (.bool false) ∧ Below W.heap.size W w' := by
  obtain ⟨w1, hw1⟩ : ∃ x, W.alloc (.cells fc 30) = x := ⟨_, rfl⟩
  have B1 : Below W.heap.size W w1 := by rw [← hw1]; exact (Below.refl _ _).alloc (Nat.le_refl _) _
  obtain ⟨bx, hbx⟩ : ∃ x, W.heap.size = x := ⟨_, rfl⟩
  have h1 := h.step B1
  have hno : ∀ W', Below w1.heap.size w1 W' → Calls Try.prog 43 #[v] W' fun e w' => e = .returned (.bool true) ∧ w' = W' := fun W' hb => mnone_no (h1.step hb)
  have hend : ∀ W', Below w1.heap.size w1 W' → Below bx W W' := fun W' hb => by rw [← hbx]; exact B1.trans (hb.mono B1.size)
  have Hno := Lib.hid hno
  have Hw1 := Lib.hid hw1
  clear hw1 hno h1 h
  have hS : Below w1.heap.size w1 w1.drew := (Below.refl _ _).drew
  rw [hbx]
  go_enter Try.func21, Try.ntmps21
  go_upto_region 1 with ((with_reducible show wpList _ _ _ (⟨some 3, .box _ _, _, _, _, _⟩ :: _) _ _); refine wpList_run rfl (.pointer (some ⟨W.heap.size, 0, none⟩)) w1 (by rw [← Hw1.out]; rfl) ?_; rw [hbx]; simp only [Act.put])
  refine wp_region_mix (fun W' => Below w1.heap.size w1 W') [(0, true), (1, false), (2, true), (3, true), (4, true), (5, true), (6, true), (7, true), (8, true), (9, true), (10, true), (11, true), (12, true), (13, true)] (by kernel_rfl) (by kernel_rfl) hS fun _ => ?_
  simp only [List.map_cons, List.map_nil, Array.getD_eq_getD_getElem?, List.getElem?_toArray, List.getElem?_cons_succ, List.getElem?_cons_zero, Option.getD_some]
  generalize w1.drew = W0 at hS ⊢
  refine wpMix_s (fun K hK => ?_)
  go_simp
  refine hK _ ?_
  clear hK K
  refine wpMix_c (fun K hK => ?_) hS
  go_simp
  refine (Hno.out W0 hS).mono ?_
  rintro e W0e ⟨rfl, hww⟩
  obtain rfl := hww.symm
  refine hK _ _ ?_
  clear hK K
  refine ⟨hS, ?_⟩
  refine wpMix_s (fun K hK => ?_)
  go_simp
  refine hK _ ?_
  clear hK K
  refine wpMix_s (fun K hK => ?_)
  go_simp
  refine hK _ ?_
  clear hK K
  refine wpMix_s (fun K hK => ?_)
  go_simp
  refine hK _ ?_
  clear hK K
  refine wpMix_s (fun K hK => ?_)
  go_simp
  refine hK _ ?_
  clear hK K
  refine wpMix_s (fun K hK => ?_)
  go_simp
  refine hK _ ?_
  clear hK K
  refine wpMix_s (fun K hK => ?_)
  go_simp
  refine hK _ ?_
  clear hK K
  refine wpMix_s (fun K hK => ?_)
  go_simp
  refine hK _ ?_
  clear hK K
  refine wpMix_s (fun K hK => ?_)
  go_simp
  refine hK _ ?_
  clear hK K
  refine wpMix_s (fun K hK => ?_)
  go_simp
  refine hK _ ?_
  clear hK K
  refine wpMix_s (fun K hK => ?_)
  go_simp
  refine hK _ ?_
  clear hK K
  refine wpMix_s (fun K hK => ?_)
  go_simp
  refine hK _ ?_
  clear hK K
  refine wpMix_s (fun K hK => ?_)
  go_simp
  refine hK _ ?_
  clear hK K
  refine wpMix_nil ?_
  intro _
  go_wp2_with fail
  go_ret
  exact ⟨rfl, hend _ hS⟩
set_option maxHeartbeats 4000000 in
set_option maxRecDepth 100000 in
/-- All, of a model that is not there: an iterator over nothing -/
theorem mall_no {n : Int} (h : NoM W v) : Calls Try.prog 33 #[v, .int .i64 n] W fun e w' => ∃ g g', e = .returned (.func (.func 65) #[] #[.pointer (some ⟨g, 0, none⟩), .pointer (some ⟨g', 0, none⟩)]) ∧ Blk w' g 23 #[.slice none 0 0] ∧ W.heap.size ≤ g ∧ Below W.heap.size W w' := by
  obtain ⟨w3, hw3⟩ : ∃ x, ((W.alloc (.cells #[.int .i64 (max n 0)] 2)).alloc (.cells #[.slice none 0 0] 23)) = x := ⟨_, rfl⟩
  have B3 : Below W.heap.size W w3 := by rw [← hw3]; exact ((Below.refl _ _).alloc (Nat.le_refl _) _).alloc (by simp) _
  have k3 : Blk w3 W.heap.size 2 #[.int .i64 (max n 0)] := by rw [← hw3]; exact (Blk.new _ _ _).alloc _
  have k5 : Blk w3 (W.heap.size + 1) 23 #[.slice none 0 0] := by rw [← hw3]; exact Blk.new' _ _ _ _ (by simp)
  have h3 := h.step B3
  have c3 : ∀ s : InC (fun W' => Below w3.heap.size w3 W'), s.W.cell? ⟨W.heap.size, 0, none⟩ = some (.int .i64 (max n 0)) := fun s => by rw [(k3.step s.ok).cell]; rfl
  have hsz : ∀ W', Below w3.heap.size w3 W' → Calls Try.prog 13 #[v] W' fun e w' => e = .returned (.int .i64 0) ∧ w' = W' := fun W' hb => msize_no (h3.step hb)
  have hd : decide (max n 0 < (0 : Int)) = false := by simp; omega
  have hend : ∀ W', Below w3.heap.size w3 W' → Blk W' (W.heap.size + 1) 23 #[.slice none 0 0] ∧ Below W.heap.size W W' := fun W' hb => ⟨k5.step hb, B3.trans (hb.mono B3.size)⟩
  have Hsz := Lib.hid hsz
  have Hw3 := Lib.hid hw3
  clear hsz hw3 h h3 k3 k5
  have hS : Below w3.heap.size w3 w3.drew := (Below.refl _ _).drew
  go_enter Try.func33, Try.ntmps33
  go_upto_region 3 with fail
  rw [Hw3.out]
  refine wp_region_mix (fun W => Below w3.heap.size w3 W) [(0, true), (1, true), (2, false), (3, true)] (by kernel_rfl) (by kernel_rfl) hS fun _ => ?_
  simp only [List.map_cons, List.map_nil, Array.getD_eq_getD_getElem?, List.getElem?_toArray, List.getElem?_cons_succ, List.getElem?_cons_zero, Option.getD_some]
  generalize w3.drew = Z0 at hS ⊢
  refine wpMix_s (fun K hK => ?_)
  go_simp
  refine hK _ ?_
  clear hK K
  refine wpMix_s (fun K hK => ?_)
  go_simp
  refine hK _ ?_
  clear hK K
  refine wpMix_c (fun K hK => ?_) hS
  go_simp
  refine (Hsz.out Z0 hS).mono ?_
  rintro e Z0e ⟨rfl, hww⟩
  obtain rfl := hww.symm
  refine hK _ _ ?_
  clear hK K
  refine ⟨hS, ?_⟩
  refine wpMix_s (fun K hK => ?_)
  go_simp
  refine hK _ ?_
  clear hK K
  refine wpMix_nil ?_
  intro _
  clear c3
  go_wp2_with fail
  go_ret
  exact ⟨_, ⟨_, rfl⟩, (hend _ hS).1, Nat.le_succ _, (hend _ hS).2⟩
end
set_option maxRecDepth 100000 in
set_option maxHeartbeats 2000000 in
/-- it has no round -/
theorem all0_seq (g1 g2 : Nat) (U : Nat → Prop) (w : World) (hb : Blk w g1 23 #[.slice none 0 0]) :
    SeqU Try.prog 65 #[.pointer (some ⟨g1, 0, none⟩), .pointer (some ⟨g2, 0, none⟩)] 0 U (fun _ _ _ _ => False) w := by
  intro ly J Jx W hW hJ hJx hY h0
  have hc : W.cell? ⟨g1, 0, none⟩ = some (.slice none 0 0) := by rw [(hb.below hW hb.lt).cell]; rfl
  have hst := h0 _ (Nat.le_refl _)
  have Hst := Lib.hid hst
  clear hW hJ hJx hY h0 hst hb
  refine callsIn_of_wp Try.func65 rfl trivial ?_ rfl
  simp only [Try.ntmps65, List.size_toArray, List.length_cons, List.length_nil, Nat.reduceAdd, Nat.reduceSub, Array.replicate_succ, Array.replicate_zero, List.push_toArray, List.append_toArray, List.nil_append, List.cons_append]
  gi_wp2
  gi_loopw [8] (fun i wr => i = .int .i64 0 ∧ wr = W) (fun _ _ => 0)
  case atStart => exact ⟨rfl, rfl⟩
  case round =>
    obtain ⟨rfl, rfl⟩ := hrel
    gi_wp2
    go_end0
    exact ⟨⟨_, rfl⟩, _, Nat.le_refl _, .inl Hst.out⟩
end Go.Proofs.Ytobcfgbkhgkelaa
