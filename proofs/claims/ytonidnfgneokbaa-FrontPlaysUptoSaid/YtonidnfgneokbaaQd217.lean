/- Loops over (*Front).All: Size, Parts. -/
import Derived.Test.YtonidnfgneokbaaQd216
import Derived.Test.YtonidnfgneokbaaQd214
import Derived.Test.YtonidnfgneokbaaQd211
import Derived.Test.YtonidnfgneokbaaQd210
namespace Go.Proofs.Ytonidnfgneokbaa
open Go Go.RowKit Go.Shelf
attribute [local go_sem] Oper.semAt_some

theorem i64_or_nat (a b : Nat) (ha : a < 9223372036854775808) (hb : b < 9223372036854775808) : bits .or .i64 (a : Int) (b : Int) = ((a ||| b : Nat) : Int) := by
  have h1 : a ||| b < 2 ^ 63 := Nat.or_lt_two_pow (by omega) (by omega)
  show IntKind.i64.wrap ((BitVec.ofInt 64 (a : Int) ||| BitVec.ofInt 64 (b : Int)).toNat : Int) = _
  have e1 : (BitVec.ofInt 64 (a : Int)).toNat = a := by rw [BitVec.toNat_ofInt]; omega
  have e2 : (BitVec.ofInt 64 (b : Int)).toNat = b := by rw [BitVec.toNat_ofInt]; omega
  rw [BitVec.toNat_or, e1, e2, IntKind.wrap_i64]
  omega
theorem or_pow (n l : Nat) (h : n % 2 ^ (l + 1) = 0) : n ||| 2 ^ l = n + 2 ^ l := by
  have h2 : 2 ^ l < 2 ^ (l + 1) := Nat.pow_lt_pow_right (by decide) (Nat.lt_succ_self l)
  have h3 := Nat.two_pow_add_eq_or_of_lt h2 (n / 2 ^ (l + 1))
  have h4 : 2 ^ (l + 1) * (n / 2 ^ (l + 1)) = n := by
    have := Nat.div_add_mod n (2 ^ (l + 1))
    omega
  rw [h4] at h3
  exact h3.symm
theorem szF_take (ps : FrV) (k : Nat) (h : k < ps.length) : szF (ps.take (k + 1)) = szF (ps.take k) + 2 ^ (ps.getD k (0, [])).1 := by
  rw [List.take_succ_eq_append_getElem h, szF_append, szF_one, List.getD_eq_getElem?_getD, List.getElem?_eq_getElem h]
  rfl
theorem szF_take_mod (ps : FrV) (hd : DecF ps) (k : Nat) (h : k < ps.length) : szF (ps.take k) % 2 ^ ((ps.getD k (0, [])).1 + 1) = 0 := by
  refine szF_mod _ _ fun p hp => ?_
  have hd2 : DecF (ps.take k ++ ps.drop k) := by rw [List.take_append_drop]; exact hd
  have := (List.pairwise_append.1 hd2).2.2 p hp ps[k] (by rw [List.drop_eq_getElem_cons h]; exact List.mem_cons_self)
  rw [List.getD_eq_getElem?_getD, List.getElem?_eq_getElem h]
  exact this
theorem szF_take_le (ps : FrV) (k : Nat) : szF (ps.take k) ≤ szF ps := by
  have : szF ps = szF (ps.take k) + szF (ps.drop k) := by rw [← szF_append, List.take_append_drop]
  omega

set_option maxRecDepth 100000 in
set_option maxHeartbeats 2000000 in
theorem fall1_nil (bx : Nat) (U : Nat → Prop) (w : World) (hbox : Blk w bx 61 #[.pointer none]) :
    SeqU Try.prog 118 #[.pointer (some ⟨bx, 0, none⟩)] 0 U (fun _ k vs _ => PartY [] k vs) w := by
  intro ly J Jx W hW hJ hJx hY h0
  have hbox' := hbox.below hW hbox.lt
  have c1 : W.cell? ⟨bx, 0, none⟩ = some (.pointer none) := by rw [hbox'.cell]; rfl
  have hst : J W.heap.size 0 W := h0 _ (Nat.le_refl _)
  clear hbox hJx hJ hY hW h0 hbox'
  refine callsIn_of_wp Try.func118 rfl trivial ?_ rfl
  simp only [Try.ntmps118, List.size_toArray, List.length_cons, List.length_nil, Nat.reduceAdd, Nat.reduceSub, Array.replicate_succ, Array.replicate_zero, List.push_toArray, List.append_toArray, List.nil_append, List.cons_append]
  gi_wp2
  refine bodyPost_ret (by exact results_none rfl _ _ _) rfl ?_
  exact ⟨⟨_, rfl⟩, _, Nat.le_refl _, .inl hst⟩
/-- of what is handed out, these parts come -/
def AllOk (f : Value) (ps : FrV) (w : World) : Prop := ∀ (W : World) (bx : Nat) (U : Nat → Prop), Below w.heap.size w W → Blk W bx 61 #[f] → (∀ b, U b → b < W.heap.size) → SeqU Try.prog 118 #[.pointer (some ⟨bx, 0, none⟩)] ps.length U (fun _ k vs _ => PartY ps k vs) W
theorem allOk_some {g : Nat} {ps : FrV} {w : World} (h : FrO w g ps) (h62 : F62 ps) (hn : ps.length ≤ 1000) : AllOk (.pointer (some ⟨g, 0, none⟩)) ps w := fun W bx U hb hk hU => fall1_seq ps g bx U W hk (h.step hb) h62 hU hn
theorem allOk_nil (w : World) : AllOk (.pointer none) [] w := fun W bx U _ hk _ => fall1_nil bx U W hk
theorem AllOk.step {f : Value} {ps : FrV} {w w' : World} (h : AllOk f ps w) (hb : Below w.heap.size w w') : AllOk f ps w' := fun W bx U hb' => h W bx U (hb.trans (hb'.mono hb.size))

/-- between two rounds of Size -/
structure SzI (w : World) (g3 : Nat) (m : Nat) (W : World) : Prop where
  box : Blk W g3 2 #[.int .i64 (m : Int)]
  bel : Below w.heap.size w W
theorem SzI.grown {w W W' : World} {g3 m : Nat} {row : Option Nat} (h : SzI w g3 m W) (hg : W.grownBy W' row) (hr : ∀ r, row = some r → w.heap.size ≤ r ∧ ∃ o, W.heap[r]? = some o ∧ o.isCells = false) : SzI w g3 m W' :=
  ⟨h.box.grown hg (fun e => by
      obtain ⟨_, o, ho, hc⟩ := hr g3 e.symm
      rw [show W.heap[g3]? = _ from h.box] at ho; cases ho; cases hc), h.bel.grown hg h.bel.size fun k e => (hr k e).1⟩
theorem SzI.own_ {w : World} {g3 B : Nat} (f : Nat → Nat) (hB : w.heap.size ≤ B) : OwnFrom B (fun k W => SzI w g3 (f k) W) := fun _ _ _ _ h hg hr => h.grown hg fun r e => ⟨Nat.le_trans hB (hr r e).1, (hr r e).2⟩

set_option maxHeartbeats 4000000 in
set_option maxRecDepth 100000 in
theorem fsize_any (f : Value) (ps : FrV) (w : World) (hf : f.oneCell' = true) (hA : AllOk f ps w) (hd : DecF ps) (hs : szF ps ≤ 9223372036854775807) :
    Calls Try.prog 43 #[f] w fun e w' => e = .returned (.int .i64 (szF ps : Int)) ∧ Below w.heap.size w w' := by
  have hal := fun W => fall_any f W hf
  have Hal := Lib.hid hal
  clear hal
  refine (callsIn_wide (n := 5)).1 ?_
  refine callsIn_of_wp_marks Try.func43 rfl trivial ?_ rfl
  simp only [Try.ntmps43, List.size_toArray, List.length_cons, List.length_nil, Nat.reduceAdd, Nat.reduceSub, Array.replicate_succ, Array.replicate_zero, List.push_toArray, List.append_toArray, List.nil_append, List.cons_append]
  refine wpIn_wide.2 ?_
  have k3 : Blk (w.alloc (.cells #[.int .i64 0] 2)) w.heap.size 2 #[.int .i64 0] := Blk.new _ _ _
  have hb0 : Below w.heap.size w (w.alloc (.cells #[.int .i64 0] 2)) := (Below.refl _ _).alloc (Nat.le_refl _) _
  go_wp2_with ((with_reducible show wpList _ _ _ (⟨some 3, .alloc _, _, _, _, _⟩ :: _) _ _); refine wpList_run rfl (.pointer (some ⟨w.heap.size, 0, none⟩)) (w.alloc (.cells #[.int .i64 0] 2)) (by kernel_rfl) ?_; generalize w.alloc (.cells #[.int .i64 0] 2) = w1 at k3 hb0 ⊢; have c3 : w1.cell? ⟨w.heap.size, 0, none⟩ = some (.int .i64 0) := (by rw [k3.cell]; rfl); have f3 := k3.frozen 0; simp only [Act.put])
  have k3 := k3.set_ 0 (.int .i64 0)
  have hb1 : Below w.heap.size w (w1.setCell ⟨w.heap.size, 0, none⟩ (.int .i64 0)) := hb0.setCell (p := ⟨w.heap.size, 0, none⟩) (Nat.le_refl _) _
  generalize w1.setCell ⟨w.heap.size, 0, none⟩ (.int .i64 0) = w2 at k3 hb1 ⊢
  have k3 : Blk w2 w.heap.size 2 #[.int .i64 0] := k3
  refine (Hal.out w2).mono ?_
  rintro e w3 ⟨rfl, hbx, hb3⟩
  have hlt3 := k3.lt
  replace k3 := k3.step hb3
  have hI0 : SzI w w.heap.size 0 w3 := ⟨k3, hb1.trans (hb3.mono hb1.size)⟩
  have hw3 := hI0.bel.size
  have hbxl := hbx.lt
  generalize w2.heap.size = bx at hbx hbxl hlt3 ⊢
  clear c3 f3 hb0 hb1 hb3 k3 Hal
  go_wp2_with fail
  refine wp_range_U (gf := 118) (lb := #[.pointer (some ⟨bx, 0, none⟩)]) rfl (enters_of Try.func118 (by kernel_rfl) rfl)
    (hA w3 bx (· = w.heap.size) hI0.bel hbx (fun b hb => by have hb : b = w.heap.size := hb; omega)) (fun _ _ _ _ h => by rw [show _ = _ from h]; rfl)
    (fun _ k => SzI w w.heap.size (szF (ps.take k))) (fun _ _ _ _ => False) (fun n₁ => SzI.own_ (fun k => szF (ps.take k)) (by omega)) (fun _ _ _ _ _ _ h _ _ => h.elim) (fun _ _ => hI0) ?round ?done ?stop
  case round =>
    clear hI0 hbx hA
    intro li n₁ k vs X hl hln hnX hk hI hy
    have hy : vs = _ := hy
    subst hy
    have e1 := szF_take ps k hk
    have e2 := szF_take_mod ps hd k hk
    have e3 := szF_take_le ps k
    have e4 := szF_take_le ps (k + 1)
    obtain ⟨⟨lv, x⟩, hx⟩ : ∃ x, ps.getD k (0, []) = x := ⟨_, rfl⟩
    rw [hx] at e1 e2 ⊢
    obtain ⟨m, hm⟩ : ∃ m, szF (ps.take k) = m := ⟨_, rfl⟩
    obtain ⟨m', hm'⟩ : ∃ m, szF (ps.take (k + 1)) = m := ⟨_, rfl⟩
    rw [hm] at e1 e2 e3 hI
    rw [hm'] at e1 e4
    have hor : bits .or .i64 (m : Int) ((2 : Int) ^ lv) = (m' : Int) := by
      have h1 : ((2 : Int) ^ lv) = ((2 ^ lv : Nat) : Int) := by simp
      have h2 := or_pow m lv e2
      obtain ⟨pw, hpw⟩ : ∃ p, 2 ^ lv = p := ⟨_, rfl⟩
      rw [hpw] at h1 h2 e1
      rw [h1, i64_or_nat m pw (by omega) (by omega), h2, e1]
    have Hor := Lib.hid hor
    have He := Lib.hid hm'
    clear e1 e2 e3 e4 hx hm hm'
    gi_wp2
    refine ⟨KeepU.refl _ _ _ _, ?_⟩
    intro X2 hturn
    have hI2 := hturn.own (SzI.own_ (w := w) (g3 := w.heap.size) (fun _ => m) (show w.heap.size ≤ w3.heap.size by omega)) (s := k) hI
    have hnX2 : n₁ ≤ X2.heap.size := by rw [hturn.size]; exact hnX
    clear hI hturn hnX
    have c3 : X2.cell? ⟨w.heap.size, 0, none⟩ = some (.int .i64 (m : Int)) := by rw [hI2.box.cell]; rfl
    have f3 := hI2.box.frozen 0
    have hor := Hor.out
    gi_wp2
    refine ⟨KeepU.setCell (U := (· = w.heap.size)) hI2.box (.inr rfl) 0 _, ?_⟩
    show SzI w w.heap.size (szF (ps.take (k + 1))) _
    rw [He.out]
    exact ⟨hI2.box.set_ 0 _, hI2.bel.setCell (p := ⟨w.heap.size, 0, none⟩) (Nat.le_refl _) _⟩
  case done =>
    clear hI0 hbx hA
    intro D n₁ X hD hDn hI hK
    rw [List.take_of_length_le (Nat.le_refl _)] at hI
    have c3 : X.cell? ⟨w.heap.size, 0, none⟩ = some (.int .i64 (szF ps : Int)) := by rw [hI.box.cell]; rfl
    go_wp2_with fail
    refine leaves_marks (N := w.heap.size) [D] _ ((MarksOk.nil _ _).cons (by omega) hK (by simp)) fun w' ht => ⟨_, results_tmp rfl _ _ _, rfl, hI.bel.trans ht.bel⟩
  case stop =>
    rintro D n₁ cd k X hD hDn hk h hK
    exact h.elim
end Go.Proofs.Ytonidnfgneokbaa
/- (*Front).Parts. -/
namespace Go.Proofs.Ytonidnfgneokbaa
open Go Go.RowKit Go.Shelf
attribute [local go_sem] Oper.semAt_some

theorem run_litH1_op {ρ : Operand → Value} {o : Oper} (x : List UInt8) (hx : x.length = 32) (y : Operand) (ho : o.op = .buildSlice 26 1 #[(0, y)]) (hy : ρ y = .agg (x.map B).toArray) (W : World) :
    (execOp ρ o).run Try.prog W = .ok (.value (.slice (some ⟨W.heap.size, 0, none⟩) 1 1)) (W.alloc (.cells (hcells [x]).toArray 25)) :=
  run_lit_op [x] (fun h hh => by rw [List.mem_singleton.1 hh]; exact hx) (by simp) (by simp) 1 _ ho (by simp [hy]) rfl W
theorem owns_cellsF {W : World} {base n s r : Nat} {e : TypeId} {v : Value} {xs : List Value} (h : W.ownsRow base e s v n xs) (hv : v.ownBlock = some r) : ∃ o, W.heap[r]? = some o ∧ o.isCells = true := by
  rcases h.2 with ⟨rfl, _⟩ | ⟨g, cap, cur, rfl, _, hb, _⟩
  · cases hv
  · cases hv
    exact ⟨_, hb, rfl⟩
/-- one hash more, behind a row of one's own; where the row is then -/
theorem append_hw {w : World} {base : Nat} {v : Value} {l : List (List UInt8)} (h : w.ownsRow base 25 32 v l.length (hcells l)) (x : List UInt8) (hx : x.length = 32) (hn : l.length ≤ 1000000000) (hb : base ≤ w.heap.size) :
    ∃ v' w', (Builtin.append_ #[26, 26] 26 #[v, .slice (some ⟨w.heap.size, 0, none⟩) 1 1]).run Try.prog (w.alloc (.cells (hcells [x]).toArray 25)) = .ok v' w' ∧
      w'.ownsRow base 25 32 v' (l ++ [x]).length (hcells (l ++ [x])) ∧ w.grownBy w' v.ownBlock ∧ (v'.ownBlock = v.ownBlock ∨ ∃ k, v'.ownBlock = some k ∧ w.heap.size ≤ k) := by
  have h32 : H32 [x] := by intro h hh; rw [List.mem_singleton.1 hh]; exact hx
  have hbA : Below w.heap.size w (w.alloc (.cells (hcells [x]).toArray 25)) := (Below.refl _ _).alloc (Nat.le_refl _) _
  obtain ⟨v', w', hr, ho, hg, hf⟩ := append_slv (ty := 26) Try.underlying26 info26z (by simp [Value.cells]) (by decide) (owns_step h hbA) (Hs.lit w [x] h32 (by simp) 1 rfl).sl (oneB _) (by unfold maxLen; omega) (by omega) (Nat.le_trans hb hbA.size)
  rw [← hcells_append] at ho
  refine ⟨v', w', hr, by rw [List.length_append]; exact ho, ⟨hg.os, hg.tape, hg.output, Nat.le_trans hbA.size hg.size, fun k hk hne => ?_⟩, ?_⟩
  · rw [hg.block k (Nat.lt_of_lt_of_le hk hbA.size) hne, hbA.block k hk]
  · rcases hf with hf | ⟨k, hf, hk⟩
    · exact .inl hf
    · exact .inr ⟨k, hf, by have := hbA.size; omega⟩
/-- between two rounds of Parts: what has come so far, in its box; the row is the first one (ge), or behind n₁ -/
structure PaI (w : World) (g3 ge n₁ : Nat) (q : List (List UInt8)) (W : World) : Prop where
  own : ∃ v, Blk W g3 26 #[v] ∧ W.ownsRow ge 25 32 v q.length (hcells q) ∧ ∀ r, v.ownBlock = some r → r = ge ∨ n₁ ≤ r
  bel : Below w.heap.size w W
theorem PaI.step {w W W' : World} {g3 ge n₁ : Nat} {q : List (List UInt8)} (h : PaI w g3 ge n₁ q W) (hb : Below W.heap.size W W') : PaI w g3 ge n₁ q W' :=
  ⟨let ⟨v, h1, h2, h3⟩ := h.own; ⟨v, h1.step hb, owns_step h2 hb, h3⟩, h.bel.trans (hb.mono h.bel.size)⟩
theorem PaI.grown {w W W' : World} {g3 ge n₁ : Nat} {q : List (List UInt8)} {row : Option Nat} (h : PaI w g3 ge n₁ q W) (hg : W.grownBy W' row) (hr : ∀ r, row = some r → w.heap.size ≤ r ∧ ∃ o, W.heap[r]? = some o ∧ o.isCells = false) : PaI w g3 ge n₁ q W' :=
  ⟨let ⟨v, h1, h2, h3⟩ := h.own
   ⟨v, h1.grown hg (fun e => by
      obtain ⟨_, o, ho, hc⟩ := hr g3 e.symm
      rw [show W.heap[g3]? = _ from h1] at ho; cases ho; cases hc), h2.kept hg (by
      rcases h2.2 with ⟨rfl, _⟩ | ⟨g, cap, cur, rfl, _, hb, _⟩
      · exact .inl rfl
      · refine .inr fun e => ?_
        obtain ⟨_, o, ho, hc⟩ := hr g e.symm
        rw [show W.heap[g]? = _ from hb] at ho; cases ho; cases hc), h3⟩, h.bel.grown hg h.bel.size fun k e => (hr k e).1⟩
theorem PaI.own_ {w : World} {g3 ge n₁ B : Nat} (f : Nat → List (List UInt8)) (hB : w.heap.size ≤ B) : OwnFrom B (fun k W => PaI w g3 ge n₁ (f k) W) := fun _ _ _ _ h hg hr => h.grown hg fun r e => ⟨Nat.le_trans hB (hr r e).1, (hr r e).2⟩
def hashF (ps : FrV) : List (List UInt8) := ps.map (·.2)
theorem hashF_32 (ps : FrV) (h : F32 ps) : H32 (hashF ps) := fun x hx => by
  obtain ⟨p, hp, rfl⟩ := List.mem_map.1 hx
  exact h p hp
theorem hashF_getD (ps : FrV) (k : Nat) (h : k < ps.length) : (hashF ps).getD k [] = (ps.getD k (0, [])).2 := by
  unfold hashF
  rw [List.getD_eq_getElem?_getD, List.getElem?_map, List.getD_eq_getElem?_getD, List.getElem?_eq_getElem h]
  rfl
theorem take_snocF (rs : List (List UInt8)) (k : Nat) (h : k < rs.length) : rs.take (k + 1) = rs.take k ++ [rs.getD k []] := by
  rw [List.take_succ_eq_append_getElem h, List.getD_eq_getElem?_getD, List.getElem?_eq_getElem h]
  rfl

set_option maxHeartbeats 4000000 in
set_option maxRecDepth 100000 in
theorem fparts_any (f : Value) (ps : FrV) (w : World) (hf : f.oneCell' = true) (hA : AllOk f ps w) (h32 : F32 ps) (hn : ps.length ≤ 1000) :
    Calls Try.prog 68 #[f] w fun e w' => ∃ v, e = .returned v ∧ w'.ownsRow w.heap.size 25 32 v (hashF ps).length (hcells (hashF ps)) ∧ Below w.heap.size w w' := by
  have hal := fun W => fall_any f W hf
  obtain ⟨rs, hrs⟩ : ∃ rs, hashF ps = rs := ⟨_, rfl⟩
  have hlr : rs.length = ps.length := by rw [← hrs]; simp [hashF]
  have hr32 : H32 rs := by rw [← hrs]; exact hashF_32 ps h32
  have hat : ∀ k, k < ps.length → (ps.getD k (0, [])).2 = rs.getD k [] := fun k hk => by rw [← hrs, hashF_getD ps k hk]
  rw [hrs]
  have Hal := Lib.hid hal
  have Hlr := Lib.hid hlr
  have Hr32 := Lib.hid hr32
  have Hat := Lib.hid hat
  clear hal hlr hr32 hat hrs h32
  refine (callsIn_wide (n := 5)).1 ?_
  refine callsIn_of_wp_marks Try.func68 rfl trivial ?_ rfl
  simp only [Try.ntmps68, List.size_toArray, List.length_cons, List.length_nil, Nat.reduceAdd, Nat.reduceSub, Array.replicate_succ, Array.replicate_zero, List.push_toArray, List.append_toArray, List.nil_append, List.cons_append]
  refine wpIn_wide.2 ?_
  have he0 : (w.alloc (.cells #[] 25)).ownsRow w.heap.size 25 32 (.slice (some ⟨w.heap.size, 0, none⟩) 0 0) 0 [] :=
    World.ownsRow_lit (base := w.heap.size) (e := 25) (size := 32) w #[] 0 (Nat.le_refl _) (by unfold maxLen; decide) (by simp)
  have hb0 : Below w.heap.size w (w.alloc (.cells #[] 25)) := (Below.refl _ _).alloc (Nat.le_refl _) _
  have hsz0 : w.heap.size < (w.alloc (.cells #[] 25)).heap.size := by simp
  go_wp2_with (first
    | ((with_reducible show wpList _ _ _ (⟨some 6, .buildSlice _ _ _, _, _, _, _⟩ :: _) _ _); refine wpList_run rfl (.slice (some ⟨w.heap.size, 0, none⟩) 0 0) (w.alloc (.cells #[] 25)) (by kernel_rfl) ?_; generalize w.alloc (.cells #[] 25) = w1 at he0 hb0 hsz0 ⊢; simp only [Act.put])
    | ((with_reducible show wpList _ _ _ (⟨some 3, .alloc _, _, _, _, _⟩ :: _) _ _); refine wpList_run rfl (.pointer (some ⟨w1.heap.size, 0, none⟩)) (w1.alloc (.cells #[.slice none 0 0] 26)) (by kernel_rfl) ?_; have k3 : Blk (w1.alloc (.cells #[.slice none 0 0] 26)) w1.heap.size 26 #[.slice none 0 0] := Blk.new _ _ _; have hb1 : Below w1.heap.size w1 (w1.alloc (.cells #[.slice none 0 0] 26)) := (Below.refl _ _).alloc (Nat.le_refl _) _; generalize w1.alloc (.cells #[.slice none 0 0] 26) = w2 at k3 hb1 ⊢; replace he0 := owns_step he0 hb1; have c3 : w2.cell? ⟨w1.heap.size, 0, none⟩ = some (.slice none 0 0) := (by rw [k3.cell]; rfl); have f3 := k3.frozen 0; simp only [Act.put]))
  have k3 := k3.set_ 0 (.slice (some ⟨w.heap.size, 0, none⟩) 0 0)
  have hgs := grownBy_setCell' w2 w1.heap.size (.slice (some ⟨w.heap.size, 0, none⟩) 0 0)
  replace he0 := he0.kept hgs (.inr fun e => by have e : w.heap.size = w1.heap.size := Option.some.inj e; omega)
  have hb2 : Below w.heap.size w (w2.setCell ⟨w1.heap.size, 0, none⟩ (.slice (some ⟨w.heap.size, 0, none⟩) 0 0)) := (hb0.trans (hb1.mono hb0.size)).setCell (p := ⟨w1.heap.size, 0, none⟩) hb0.size _
  have hsz2 : w1.heap.size < (w2.setCell ⟨w1.heap.size, 0, none⟩ (.slice (some ⟨w.heap.size, 0, none⟩) 0 0)).heap.size := k3.lt
  generalize w2.setCell ⟨w1.heap.size, 0, none⟩ (.slice (some ⟨w.heap.size, 0, none⟩) 0 0) = w4 at k3 hb2 he0 hsz2 ⊢
  have k3 : Blk w4 w1.heap.size 26 #[.slice (some ⟨w.heap.size, 0, none⟩) 0 0] := k3
  refine (Hal.out w4).mono ?_
  rintro e w3 ⟨rfl, hbx, hb3⟩
  have hI0 : ∀ n₁, PaI w w1.heap.size w.heap.size n₁ [] w3 := fun n₁ => ⟨⟨_, k3.step hb3, owns_step he0 hb3, fun r e => .inl (by cases e; rfl)⟩, hb2.trans (hb3.mono hb2.size)⟩
  have hbelw := hb2.trans (hb3.mono hb2.size)
  have hw3 : w1.heap.size < w3.heap.size := Nat.lt_of_lt_of_le hsz2 hb3.size
  have hwg : w.heap.size < w1.heap.size := by omega
  generalize w4.heap.size = bx at hbx ⊢
  generalize w1.heap.size = g3 at *
  clear c3 f3 hb0 hb1 hb2 hb3 k3 Hal he0 hgs hsz2 hsz0
  go_wp2_with fail
  refine wp_range_U (gf := 118) (lb := #[.pointer (some ⟨bx, 0, none⟩)]) rfl (enters_of Try.func118 (by kernel_rfl) rfl)
    (hA w3 bx (fun b => b = g3 ∨ b = w.heap.size) hbelw hbx (fun b hb => by rcases hb with rfl | rfl <;> omega)) (fun _ _ _ _ h => by rw [show _ = _ from h]; rfl)
    (fun n₁ k => PaI w g3 w.heap.size n₁ (rs.take k)) (fun _ _ _ _ => False) (fun n₁ => PaI.own_ (fun k => rs.take k) (by omega)) (fun _ _ _ _ _ _ h _ _ => h.elim) (fun n₁ _ => by simpa using hI0 n₁) ?round ?done ?stop
  case round =>
    clear hI0 hbx hA
    intro li n₁ k vs X hl hln hnX hk hI hy
    have hy : vs = _ := hy
    subst hy
    rw [Hat.out k hk]
    have htk := take_snocF rs k (by rw [Hlr.out]; exact hk)
    have hzl := Hr32.out.getD k (by rw [Hlr.out]; exact hk)
    have hlen : (rs.take k).length ≤ 1000 := by rw [List.length_take, Hlr.out]; omega
    generalize rs.getD k [] = z at hzl htk ⊢
    generalize (2 : Int) ^ (ps.getD k (0, [])).1 = mm
    have Htk := Lib.hid htk
    have Hzl := Lib.hid hzl
    clear htk hzl
    refine wpIn_region_lit ?_
    go_simp
    refine wpListIn_of2 (openR li) rfl ?_
    refine wpList_hvar (.tmp 5) (.tmp 10) rfl rfl rfl rfl rfl rfl Hzl.out ?_
    intro X1 k10 hb10
    refine thenN_nil ?_
    simp only [Act.put]
    gi_wp2
    refine ⟨KeepU.below hb10, ?_⟩
    intro X2 hturn
    have hI2 := hturn.own (PaI.own_ (w := w) (g3 := g3) (ge := w.heap.size) (n₁ := n₁) (fun k => rs.take k) (show w.heap.size ≤ w3.heap.size by omega)) (hI.step hb10)
    have k10' : HV X2 X.heap.size z := ⟨hturn.blk k10.blk, Hzl.out⟩
    have hnX2 : n₁ ≤ X2.heap.size := by rw [hturn.size]; exact Nat.le_trans hnX hb10.size
    clear hI k10 hb10 hturn hnX
    generalize X.heap.size = g10 at k10' ⊢
    obtain ⟨⟨v, k8, hov, hpl⟩, hbel⟩ := hI2
    generalize hq : rs.take k = q at *
    obtain ⟨v', W9, hr9, hv9, hg9, hf9⟩ := append_hw hov z Hzl.out (by omega) (by omega)
    obtain ⟨gv, cv, rfl, hgv⟩ := owns_someB hv9 (by simp)
    have hne8 : v.ownBlock ≠ some g3 := fun e => by rcases hpl g3 e with h | h <;> omega
    have k89 : Blk W9 g3 26 #[v] := k8.grown hg9 (fun e => hne8 e.symm)
    have c8 : X2.cell? ⟨g3, 0, none⟩ = some v := by rw [k8.cell]; rfl
    have c89 : W9.cell? ⟨g3, 0, none⟩ = some v := by rw [k89.cell]; rfl
    have f89 := k89.frozen 0
    have hgvp : gv = w.heap.size ∨ n₁ ≤ gv := by
      rcases hf9 with h | ⟨k', h, hk'⟩
      · exact hpl gv h.symm
      · have : gv = k' := Option.some.inj h
        exact .inr (by omega)
    have Hr9 := Lib.hid hr9
    clear hr9 hf9
    gi_wp2_with (first
      | ((with_reducible show wpListIn _ _ _ _ _ (⟨some 12, .load _ _, _, _, _, _⟩ :: _) _ _); refine wpListIn_of1 (openR li) rfl ?_; refine wpList_hload (.tmp 5) (by kernel_rfl) rfl k10' rfl ?_; refine thenN_nil ?_; simp only [Act.put])
      | ((with_reducible show wpListIn _ _ _ _ _ (⟨some 13, .buildSlice _ _ _, _, _, _, _⟩ :: _) _ _); refine wpListIn_of1 (openR li) rfl ?_; refine wpList_run rfl _ _ (run_litH1_op z Hzl.out (.tmp 12) rfl rfl _) ?_; refine thenN_nil ?_; simp only [Act.put])
      | ((with_reducible show wpListIn _ _ _ _ _ (⟨some 14, .call _, _, _, _, _⟩ :: _) _ _); refine wpListIn_of1 (openR li) rfl ?_; refine wpList_run rfl _ W9 (run_append_op (.tmp 11) (.tmp 13) 26 rfl _ _ rfl rfl Hr9.out) ?_; refine thenN_nil ?_; simp only [Act.put]))
    have hl : (q ++ [z]).length = q.length + 1 := by simp
    rw [hl] at hv9
    have hg3n : gv ≠ g3 := fun e => by rcases hgvp with h | h <;> omega
    refine ⟨(KeepU.grown hg9 (fun r e => ⟨by rcases hpl r e with h | h; exact .inr (.inr h); exact .inl h, owns_cellsF hov e⟩)).trans (KeepU.setCell (U := fun b => b = g3 ∨ b = w.heap.size) k89 (.inr (.inl rfl)) 0 _), ⟨_, k89.set_ 0 _, ?_, fun r e => by cases e; exact hgvp⟩, (hbel.grown hg9 hbel.size (fun r e => (hov.lt r e).1)).setCell (by show w.heap.size ≤ g3; omega) _⟩
    rw [Htk.out, hl]
    exact hv9.kept (grownBy_setCell' W9 g3 _) (.inr (fun e => hg3n (Option.some.inj e)))
  case done =>
    clear hI0 hbx hA
    intro D n₁ X hD hDn hI hK
    rw [List.take_of_length_le (by rw [Hlr.out]; exact Nat.le_refl _)] at hI
    obtain ⟨⟨v, k8, hov, hpl⟩, hbel⟩ := hI
    have c8 : X.cell? ⟨g3, 0, none⟩ = some v := by rw [k8.cell]; rfl
    go_wp2_with fail
    refine leaves_marks (N := w.heap.size) [D] _ ((MarksOk.nil _ _).cons (by omega) hK (by simp)) fun w' ht => ⟨_, results_tmp rfl _ _ _, v, rfl, ?_, hbel.trans ht.bel⟩
    rcases hov.2 with ⟨rfl, h0⟩ | ⟨g, cap, cur, rfl, hb, hc, r1, r2, r3, r4⟩
    · exact ⟨hov.1, .inl ⟨rfl, h0⟩⟩
    · exact ⟨hov.1, .inr ⟨g, cap, cur, rfl, hb, ht.blk _ _ _ hc, r1, r2, r3, r4⟩⟩
  case stop =>
    rintro D n₁ cd k X hD hDn hk h hK
    exact h.elim
end Go.Proofs.Ytonidnfgneokbaa
/- What lets entries come, as the answers say it (plain). -/
namespace Go.Proofs.Ytonidnfgneokbaa
open Go

def topF : Nat := 9223372036854775807
theorem length_dec : ∀ (ps : FrV), DecF ps → ∀ k, (∀ p ∈ ps, p.1 < k) → ps.length ≤ k
  | [], _, _, _ => Nat.zero_le _
  | p :: ps, hd, k, hk => by
    have hd' := List.pairwise_cons.1 hd
    have h1 := length_dec ps hd'.2 p.1 fun q hq => hd'.1 q hq
    have h2 := hk p List.mem_cons_self
    rw [List.length_cons]
    omega
theorem length_front (ps : FrV) (hd : DecF ps) (hs : szF ps ≤ 9223372036854775807) : ps.length ≤ 63 := length_dec ps hd 63 fun p hp => by have := F62_of_size ps hs p hp; omega
/-- leaves' hashes come -/
def leafE (ps : FrV) (hs : List (List UInt8)) : FrV × Int := if 9223372036854775807 < szF ps + hs.length then (ps, 4) else (leafF ps hs, 0)
/-- entries come -/
def appendE (ps : FrV) (es : List (List UInt8)) : FrV × Int := if es.any (fun x => decide (4096 < x.length)) = true then (ps, 3) else leafE ps (es.map hLeaf)
/-- a whole part comes -/
def growE (ps : FrV) (lv : Int) (h : List UInt8) : FrV × Int :=
  if lv < 0 ∨ 62 < lv then (ps, 2) else if szF ps % 2 ^ lv.toNat ≠ 0 then (ps, 201) else if 9223372036854775807 < szF ps + 2 ^ lv.toNat then (ps, 4) else (comeF ps (lv.toNat, h), 0)
structure FrOk (ps : FrV) : Prop where
  h32 : F32 ps
  dec : DecF ps
  top : szF ps ≤ 9223372036854775807
theorem FrOk.len {ps : FrV} (h : FrOk ps) : ps.length ≤ 63 := length_front ps h.dec h.top
theorem FrOk.h62 {ps : FrV} (h : FrOk ps) : F62 ps := F62_of_size ps h.top
theorem frOk_nil : FrOk [] := ⟨fun _ h => (by cases h), List.Pairwise.nil, by decide⟩
theorem FrOk.leafF {ps : FrV} (h : FrOk ps) (hs : List (List UInt8)) (h32 : ∀ x ∈ hs, x.length = 32) (ht : szF ps + hs.length ≤ 9223372036854775807) : FrOk (leafF ps hs) :=
  ⟨(leafF_ok hs ps h.h32 h.dec h32).1, (leafF_ok hs ps h.h32 h.dec h32).2, by rw [szF_leaf]; exact ht⟩
theorem FrOk.leafE {ps : FrV} (h : FrOk ps) (hs : List (List UInt8)) (h32 : ∀ x ∈ hs, x.length = 32) : FrOk (leafE ps hs).1 := by
  unfold Proofs.Ytonidnfgneokbaa.leafE
  split
  · exact h
  · exact h.leafF hs h32 (by omega)
theorem FrOk.appendE {ps : FrV} (h : FrOk ps) (es : List (List UInt8)) : FrOk (appendE ps es).1 := by
  unfold Proofs.Ytonidnfgneokbaa.appendE
  split
  · exact h
  · exact h.leafE _ fun x hx => by obtain ⟨e, _, rfl⟩ := List.mem_map.1 hx; exact length_hLeaf e
theorem FrOk.growE {ps : FrV} (h : FrOk ps) (lv : Int) (x : List UInt8) (hx : x.length = 32) : FrOk (growE ps lv x).1 := by
  unfold Proofs.Ytonidnfgneokbaa.growE
  split
  · exact h
  split
  · exact h
  rename_i h2
  split
  · exact h
  · exact ⟨F32_come ps _ h.h32 hx, DecF_come ps _ h.dec (dec_of_mod ps _ h.dec (by simpa using h2)), by rw [szF_come]; show szF ps + 2 ^ lv.toNat ≤ _; omega⟩
/-- the root, from the last part on -/
theorem rootG_snoc : ∀ (a : FrV) (q : FpV), rootG (a ++ [q]) = (a.reverse.map (·.2)).foldl (fun h x => hNode x h) q.2
  | [], q => rfl
  | p :: a, q => by
    have e : rootG (p :: a ++ [q]) = hNode p.2 (rootG (a ++ [q])) := by
      cases a with
      | nil => rfl
      | cons b r => rfl
    rw [e, rootG_snoc a q, List.reverse_cons, List.map_append, List.foldl_append]
    rfl
/-- the levels of a size's parts -/
def levelsF (n : Nat) : Nat → List Nat
  | 0 => []
  | k + 1 => if n.testBit k = true then k :: levelsF n k else levelsF n k
theorem levelsF_lt (n : Nat) : ∀ k, ∀ l ∈ levelsF n k, l < k
  | 0, l, h => by cases h
  | k + 1, l, h => by
    unfold levelsF at h
    split at h
    · rcases List.mem_cons.1 h with rfl | h
      · omega
      · have := levelsF_lt n k l h; omega
    · have := levelsF_lt n k l h; omega
theorem levelsF_dec (n : Nat) : ∀ k, (levelsF n k).Pairwise fun a b => b < a
  | 0 => List.Pairwise.nil
  | k + 1 => by
    unfold levelsF
    split
    · exact List.pairwise_cons.2 ⟨fun l h => levelsF_lt n k l h, levelsF_dec n k⟩
    · exact levelsF_dec n k
theorem levelsF_sum (n : Nat) : ∀ k, ((levelsF n k).map (2 ^ ·)).sum = n % 2 ^ k
  | 0 => by simp [levelsF, Nat.mod_one]
  | k + 1 => by
    have h := levelsF_sum n k
    have hm : n % 2 ^ (k + 1) = n % 2 ^ k + (if n.testBit k = true then 2 ^ k else 0) := by
      rw [Nat.mod_pow_succ, Nat.testBit_eq_decide_div_mod_eq]
      rcases Nat.mod_two_eq_zero_or_one (n / 2 ^ k) with h1 | h1 <;> rw [h1] <;> simp
    unfold levelsF
    split
    · rename_i hb
      rw [List.map_cons, List.sum_cons, h, hm, if_pos hb, Nat.add_comm]
    · rename_i hb
      rw [h, hm, if_neg hb, Nat.add_zero]
/-- a front of a size and parts -/
def fromE (size : Int) (hs : List (List UInt8)) : Option FrV × Int :=
  if size < 0 then (none, 2) else if (levelsF size.toNat 63).length ≠ hs.length then (none, 2) else (some ((levelsF size.toNat 63).zip hs), 0)
theorem fromE_ok (size : Int) (hs : List (List UInt8)) (h32 : ∀ x ∈ hs, x.length = 32) (ht : size ≤ 9223372036854775807) (ps : FrV) (h : (fromE size hs).1 = some ps) : FrOk ps ∧ (szF ps : Int) = size ∧ ps.map (·.2) = hs := by
  unfold fromE at h
  split at h
  · cases h
  rename_i h0
  split at h
  · cases h
  rename_i hl
  have hl := Decidable.not_not.1 hl
  cases h
  have hm1 : ((levelsF size.toNat 63).zip hs).map (·.1) = levelsF size.toNat 63 := by
    rw [List.map_fst_zip (by omega)]
  have hm2 : ((levelsF size.toNat 63).zip hs).map (·.2) = hs := by
    rw [List.map_snd_zip (by omega)]
  have hsz : szF ((levelsF size.toNat 63).zip hs) = size.toNat := by
    unfold szF
    rw [show (((levelsF size.toNat 63).zip hs).map fun p => 2 ^ p.1) = (((levelsF size.toNat 63).zip hs).map (·.1)).map (2 ^ ·) by rw [List.map_map]; rfl, hm1, levelsF_sum]
    exact Nat.mod_eq_of_lt (by omega)
  refine ⟨⟨fun p hp => ?_, ?_, by rw [hsz]; omega⟩, by rw [hsz]; omega, hm2⟩
  · have : p.2 ∈ ((levelsF size.toNat 63).zip hs).map (·.2) := List.mem_map.2 ⟨p, hp, rfl⟩
    rw [hm2] at this
    exact h32 _ this
  · have h1 := levelsF_dec size.toNat 63
    rw [← hm1] at h1
    exact List.pairwise_map.1 h1
end Go.Proofs.Ytonidnfgneokbaa
/- The plain law of layer 9: splits, roots, whole stretches, paths, steps. No program in sight. -/
namespace Go.Proofs.Ytonidnfgneokbaa

/-- where a list of n is split -/
def splitN (n : Nat) : Nat := if n < 2 then 0 else 2 ^ Nat.log2 (n - 1)
theorem splitN_small (n : Nat) (h : n < 2) : splitN n = 0 := if_pos h
theorem splitN_eq (n j : Nat) (h1 : 2 ^ j < n) (h2 : n ≤ 2 ^ (j + 1)) : splitN n = 2 ^ j := by
  have hp : 0 < 2 ^ j := Nat.two_pow_pos j
  have : (n - 1).log2 = j := (Nat.log2_eq_iff (by omega)).2 ⟨by omega, by omega⟩
  rw [splitN, if_neg (by omega), this]
theorem splitN_pow (n : Nat) (h : 2 ≤ n) : ∃ j, splitN n = 2 ^ j ∧ 2 ^ j < n ∧ n ≤ 2 ^ (j + 1) := by
  refine ⟨(n - 1).log2, by rw [splitN, if_neg (by omega)], ?_, ?_⟩
  · have := Nat.log2_self_le (n := n - 1) (by omega); omega
  · have := Nat.lt_log2_self (n := n - 1); omega
theorem splitN_lt (n : Nat) (h : 2 ≤ n) : splitN n < n := by obtain ⟨j, h1, h2, _⟩ := splitN_pow n h; omega
theorem splitN_pos (n : Nat) (h : 2 ≤ n) : 1 ≤ splitN n := by obtain ⟨j, h1, _, _⟩ := splitN_pow n h; have := Nat.two_pow_pos j; omega
theorem splitN_half (n : Nat) (h : 2 ≤ n) : n ≤ 2 * splitN n := by obtain ⟨j, h1, _, h3⟩ := splitN_pow n h; rw [Nat.pow_succ] at h3; omega
theorem splitN_le (n : Nat) : splitN n ≤ n := by
  by_cases h : 2 ≤ n
  · have := splitN_lt n h; omega
  · rw [splitN_small n (by omega)]; omega

/-- the root of a list, by whatever is told for none and for a node -/
def rootF (z : List UInt8) (node : List UInt8 → List UInt8 → List UInt8) : Nat → List (List UInt8) → List UInt8
  | 0, _ => z
  | f + 1, hs => if hs.length = 0 then z else if hs.length = 1 then hs.headD z else node (rootF z node f (hs.take (splitN hs.length))) (rootF z node f (hs.drop (splitN hs.length)))
theorem rootF_enough (z : List UInt8) (node : List UInt8 → List UInt8 → List UInt8) : ∀ (f g : Nat) (hs : List (List UInt8)), hs.length ≤ f → hs.length ≤ g → rootF z node f hs = rootF z node g hs
  | 0, 0, _, _, _ => rfl
  | 0, g + 1, hs, h, _ => by
    have : hs.length = 0 := by omega
    simp [rootF, this]
  | f + 1, 0, hs, _, h => by
    have : hs.length = 0 := by omega
    simp [rootF, this]
  | f + 1, g + 1, hs, h1, h2 => by
    simp only [rootF]
    split
    · rfl
    · split
      · rfl
      · have hl := splitN_lt hs.length (by omega)
        have hp := splitN_pos hs.length (by omega)
        rw [rootF_enough z node f g _ (by rw [List.length_take]; omega) (by rw [List.length_take]; omega), rootF_enough z node f g _ (by rw [List.length_drop]; omega) (by rw [List.length_drop]; omega)]

/-- a path's stretches -/
def pathF : Nat → Nat → Nat → Nat → List (Nat × Nat)
  | 0, _, _, _ => []
  | f + 1, i, a, b => if b - a < 2 then [] else if i < a + splitN (b - a) then pathF f i a (a + splitN (b - a)) ++ [(a + splitN (b - a), b)] else pathF f i (a + splitN (b - a)) b ++ [(a, a + splitN (b - a))]
theorem pathF_enough : ∀ (f g i a b : Nat), b - a ≤ f → b - a ≤ g → pathF f i a b = pathF g i a b
  | 0, 0, _, _, _, _, _ => rfl
  | 0, g + 1, i, a, b, h, _ => by simp [pathF, show b - a < 2 by omega]
  | f + 1, 0, i, a, b, _, h => by simp [pathF, show b - a < 2 by omega]
  | f + 1, g + 1, i, a, b, h1, h2 => by
    simp only [pathF]
    split
    · rfl
    · have hl := splitN_lt (b - a) (by omega)
      have hp := splitN_pos (b - a) (by omega)
      rw [pathF_enough f g i a (a + splitN (b - a)) (by omega) (by omega), pathF_enough f g i (a + splitN (b - a)) b (by omega) (by omega)]
def pathL (i a b : Nat) : List (Nat × Nat) := pathF (b - a) i a b
theorem pathL_small (i a b : Nat) (h : b - a < 2) : pathL i a b = [] := by
  unfold pathL
  rw [pathF_enough (b - a) (b - a + 1) i a b (Nat.le_refl _) (by omega)]
  simp [pathF, h]
theorem pathL_left (i a b : Nat) (h : 2 ≤ b - a) (hi : i < a + splitN (b - a)) : pathL i a b = pathL i a (a + splitN (b - a)) ++ [(a + splitN (b - a), b)] := by
  have hl := splitN_lt (b - a) h
  unfold pathL
  rw [pathF_enough (b - a) (b - a + 1) i a b (Nat.le_refl _) (by omega)]
  rw [pathF, if_neg (by omega), if_pos hi, pathF_enough (b - a) (a + splitN (b - a) - a) i a _ (by omega) (by omega)]
theorem pathL_right (i a b : Nat) (h : 2 ≤ b - a) (hi : ¬ i < a + splitN (b - a)) : pathL i a b = pathL i (a + splitN (b - a)) b ++ [(a, a + splitN (b - a))] := by
  have hp := splitN_pos (b - a) h
  unfold pathL
  rw [pathF_enough (b - a) (b - a + 1) i a b (Nat.le_refl _) (by omega)]
  rw [pathF, if_neg (by omega), if_neg hi, pathF_enough (b - a) (b - (a + splitN (b - a))) i _ b (by omega) (by omega)]

/-- steps: of m in the stretch from a of n -/
def stepsF : Nat → Nat → Nat → Nat → Bool → List (Nat × Nat)
  | 0, _, _, _, _ => []
  | f + 1, m, a, n, whole =>
    if m = n then (if whole then [] else [(a, a + n)])
    else if m ≤ splitN n then stepsF f m a (splitN n) whole ++ [(a + splitN n, a + n)] else stepsF f (m - splitN n) (a + splitN n) (n - splitN n) false ++ [(a, a + splitN n)]
theorem stepsF_enough : ∀ (f g m a n : Nat) (whole : Bool), 1 ≤ m → m ≤ n → n ≤ f → n ≤ g → stepsF f m a n whole = stepsF g m a n whole
  | 0, _, _, _, _, _, h1, h2, h3, _ => by omega
  | _ + 1, 0, _, _, _, _, h1, h2, _, h4 => by omega
  | f + 1, g + 1, m, a, n, whole, h1, h2, h3, h4 => by
    simp only [stepsF]
    split
    · rfl
    · have hl := splitN_lt n (by omega)
      have hp := splitN_pos n (by omega)
      split
      · rw [stepsF_enough f g m a (splitN n) whole h1 (by assumption) (by omega) (by omega)]
      · rw [stepsF_enough f g (m - splitN n) (a + splitN n) (n - splitN n) false (by omega) (by omega) (by omega) (by omega)]
def stepsL (m a n : Nat) (whole : Bool) : List (Nat × Nat) := stepsF n m a n whole
theorem stepsL_eq (m a : Nat) (whole : Bool) (h : 1 ≤ m) : stepsL m a m whole = if whole then [] else [(a, a + m)] := by
  unfold stepsL
  obtain ⟨k, rfl⟩ : ∃ k, m = k + 1 := ⟨m - 1, by omega⟩
  simp [stepsF]
theorem stepsL_left (m a n : Nat) (whole : Bool) (h : 1 ≤ m) (hn : m < n) (hk : m ≤ splitN n) : stepsL m a n whole = stepsL m a (splitN n) whole ++ [(a + splitN n, a + n)] := by
  have hl := splitN_lt n (by omega)
  unfold stepsL
  rw [stepsF_enough n (n + 1) m a n whole h (by omega) (Nat.le_refl _) (by omega), stepsF, if_neg (by omega), if_pos hk, stepsF_enough n (splitN n) m a _ whole h hk (by omega) (Nat.le_refl _)]
theorem stepsL_right (m a n : Nat) (whole : Bool) (h : 1 ≤ m) (hn : m < n) (hk : ¬ m ≤ splitN n) : stepsL m a n whole = stepsL (m - splitN n) (a + splitN n) (n - splitN n) false ++ [(a, a + splitN n)] := by
  have hp := splitN_pos n (by omega)
  unfold stepsL
  rw [stepsF_enough n (n + 1) m a n whole h (by omega) (Nat.le_refl _) (by omega), stepsF, if_neg (by omega), if_neg hk, stepsF_enough n (n - splitN n) (m - splitN n) _ _ false (by omega) (by omega) (by omega) (Nat.le_refl _)]

/-- the whole stretches from a on -/
def wholeF : Nat → Nat → Nat → List (Nat × Nat)
  | 0, _, _ => []
  | f + 1, a, n => if n = 0 then [] else (a, a + 2 ^ n.log2) :: wholeF f (a + 2 ^ n.log2) (n - 2 ^ n.log2)
theorem pow_log2_le (n : Nat) (h : n ≠ 0) : 2 ^ n.log2 ≤ n := Nat.log2_self_le h
theorem wholeF_enough : ∀ (f g a n : Nat), n ≤ f → n ≤ g → wholeF f a n = wholeF g a n
  | 0, 0, _, _, _, _ => rfl
  | 0, g + 1, a, n, h, _ => by simp [wholeF, show n = 0 by omega]
  | f + 1, 0, a, n, _, h => by simp [wholeF, show n = 0 by omega]
  | f + 1, g + 1, a, n, h1, h2 => by
    simp only [wholeF]
    split
    · rfl
    · have := Nat.two_pow_pos n.log2
      rw [wholeF_enough f g _ (n - 2 ^ n.log2) (by omega) (by omega)]
def wholeL (a n : Nat) : List (Nat × Nat) := wholeF n a n
theorem wholeL_zero (a : Nat) : wholeL a 0 = [] := rfl
theorem wholeL_more (a n : Nat) (h : n ≠ 0) : wholeL a n = (a, a + 2 ^ n.log2) :: wholeL (a + 2 ^ n.log2) (n - 2 ^ n.log2) := by
  have := Nat.two_pow_pos n.log2
  unfold wholeL
  rw [wholeF_enough n (n + 1) a n (Nat.le_refl _) (by omega), wholeF, if_neg h, wholeF_enough n (n - 2 ^ n.log2) _ _ (by omega) (Nat.le_refl _)]
end Go.Proofs.Ytonidnfgneokbaa
