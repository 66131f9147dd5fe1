/- Loops over (*Front).All: Size, Parts. -/
import Derived.Test.YtonidnfgneokbaaQd118
import Derived.Test.YtonidnfgneokbaaQd114
import Derived.Test.YtonidnfgneokbaaQd110
namespace Go.Proofs.Ytonidnfgneokbaa
open Go Go.RowKit Go.Shelf
attribute [local go_sem] Oper.semAt_some

theorem i64_or_nat (a b : Nat) (ha : a < 9223372036854775808) (hb : b < 9223372036854775808) : bits .or .i64 (a : Int) (b : Int) = ((a ||| b : Nat) : Int) := by
  have h1 : a ||| b < 2 ^ 63 := Nat.or_lt_two_pow (by omega) (by omega)
  show IntKind.i64.wrap ((BitVec.ofInt 64 (a : Int) ||| BitVec.ofInt 64 (b : Int)).toNat : Int) = _
  have e1 : (BitVec.ofInt 64 (a : Int)).toNat = a := by rw [BitVec.toNat_ofInt]; omega
  have e2 : (BitVec.ofInt 64 (b : Int)).toNat = b := by rw [BitVec.toNat_ofInt]; omega
  rw [BitVec.toNat_or, e1, e2, IntKind.wrap_i64]
  omega
theorem or_pow (n l : Nat) (h : n % 2 ^ (l + 1) = 0) : n ||| 2 ^ l = n + 2 ^ l := by
  have h2 : 2 ^ l < 2 ^ (l + 1) := Nat.pow_lt_pow_right (by decide) (Nat.lt_succ_self l)
  have h3 := Nat.two_pow_add_eq_or_of_lt h2 (n / 2 ^ (l + 1))
  have h4 : 2 ^ (l + 1) * (n / 2 ^ (l + 1)) = n := by
    have := Nat.div_add_mod n (2 ^ (l + 1))
    omega
  rw [h4] at h3
  exact h3.symm
theorem szF_take (ps : FrV) (k : Nat) (h : k < ps.length) : szF (ps.take (k + 1)) = szF (ps.take k) + 2 ^ (ps.getD k (0, [])).1 := by
  rw [List.take_succ_eq_append_getElem h, szF_append, szF_one, List.getD_eq_getElem?_getD, List.getElem?_eq_getElem h]
  rfl
theorem szF_take_mod (ps : FrV) (hd : DecF ps) (k : Nat) (h : k < ps.length) : szF (ps.take k) % 2 ^ ((ps.getD k (0, [])).1 + 1) = 0 := by
  refine szF_mod _ _ fun p hp => ?_
  have hd2 : DecF (ps.take k ++ ps.drop k) := by rw [List.take_append_drop]; exact hd
  have := (List.pairwise_append.1 hd2).2.2 p hp ps[k] (by rw [List.drop_eq_getElem_cons h]; exact List.mem_cons_self)
  rw [List.getD_eq_getElem?_getD, List.getElem?_eq_getElem h]
  exact this
theorem szF_take_le (ps : FrV) (k : Nat) : szF (ps.take k) ≤ szF ps := by
  have : szF ps = szF (ps.take k) + szF (ps.drop k) := by rw [← szF_append, List.take_append_drop]
  omega

set_option maxRecDepth 100000 in
set_option maxHeartbeats 2000000 in
theorem fall1_nil (bx : Nat) (U : Nat → Prop) (w : World) (hbox : Blk w bx 61 #[.pointer none]) :
    SeqU Try.prog 118 #[.pointer (some ⟨bx, 0, none⟩)] 0 U (fun _ k vs _ => PartY [] k vs) w := by
  intro ly J Jx W hW hJ hJx hY h0
  have hbox' := hbox.below hW hbox.lt
  have c1 : W.cell? ⟨bx, 0, none⟩ = some (.pointer none) := by rw [hbox'.cell]; rfl
  have hst : J W.heap.size 0 W := h0 _ (Nat.le_refl _)
  clear hbox hJx hJ hY hW h0 hbox'
  refine callsIn_of_wp Try.func118 rfl trivial ?_ rfl
  simp only [Try.ntmps118, List.size_toArray, List.length_cons, List.length_nil, Nat.reduceAdd, Nat.reduceSub, Array.replicate_succ, Array.replicate_zero, List.push_toArray, List.append_toArray, List.nil_append, List.cons_append]
  gi_wp2
  refine bodyPost_ret (by exact results_none rfl _ _ _) rfl ?_
  exact ⟨⟨_, rfl⟩, _, Nat.le_refl _, .inl hst⟩
/-- of what is handed out, these parts come -/
def AllOk (f : Value) (ps : FrV) (w : World) : Prop := ∀ (W : World) (bx : Nat) (U : Nat → Prop), Below w.heap.size w W → Blk W bx 61 #[f] → (∀ b, U b → b < W.heap.size) → SeqU Try.prog 118 #[.pointer (some ⟨bx, 0, none⟩)] ps.length U (fun _ k vs _ => PartY ps k vs) W
theorem allOk_some {g : Nat} {ps : FrV} {w : World} (h : FrO w g ps) (h62 : F62 ps) (hn : ps.length ≤ 1000) : AllOk (.pointer (some ⟨g, 0, none⟩)) ps w := fun W bx U hb hk hU => fall1_seq ps g bx U W hk (h.step hb) h62 hU hn
theorem allOk_nil (w : World) : AllOk (.pointer none) [] w := fun W bx U _ hk _ => fall1_nil bx U W hk
theorem AllOk.step {f : Value} {ps : FrV} {w w' : World} (h : AllOk f ps w) (hb : Below w.heap.size w w') : AllOk f ps w' := fun W bx U hb' => h W bx U (hb.trans (hb'.mono hb.size))

/-- between two rounds of Size -/
structure SzI (w : World) (g3 : Nat) (m : Nat) (W : World) : Prop where
  box : Blk W g3 2 #[.int .i64 (m : Int)]
  bel : Below w.heap.size w W
theorem SzI.grown {w W W' : World} {g3 m : Nat} {row : Option Nat} (h : SzI w g3 m W) (hg : W.grownBy W' row) (hr : ∀ r, row = some r → w.heap.size ≤ r ∧ ∃ o, W.heap[r]? = some o ∧ o.isCells = false) : SzI w g3 m W' :=
  ⟨h.box.grown hg (fun e => by
      obtain ⟨_, o, ho, hc⟩ := hr g3 e.symm
      rw [show W.heap[g3]? = _ from h.box] at ho; cases ho; cases hc), h.bel.grown hg h.bel.size fun k e => (hr k e).1⟩
theorem SzI.own_ {w : World} {g3 B : Nat} (f : Nat → Nat) (hB : w.heap.size ≤ B) : OwnFrom B (fun k W => SzI w g3 (f k) W) := fun _ _ _ _ h hg hr => h.grown hg fun r e => ⟨Nat.le_trans hB (hr r e).1, (hr r e).2⟩

set_option maxHeartbeats 4000000 in
set_option maxRecDepth 100000 in
theorem fsize_any (f : Value) (ps : FrV) (w : World) (hf : f.oneCell' = true) (hA : AllOk f ps w) (hd : DecF ps) (hs : szF ps ≤ 9223372036854775807) :
    Calls Try.prog 43 #[f] w fun e w' => e = .returned (.int .i64 (szF ps : Int)) ∧ Below w.heap.size w w' := by
  have hal := fun W => fall_any f W hf
  have Hal := Lib.hid hal
  clear hal
  refine (callsIn_wide (n := 5)).1 ?_
  refine callsIn_of_wp_marks Try.func43 rfl trivial ?_ rfl
  simp only [Try.ntmps43, List.size_toArray, List.length_cons, List.length_nil, Nat.reduceAdd, Nat.reduceSub, Array.replicate_succ, Array.replicate_zero, List.push_toArray, List.append_toArray, List.nil_append, List.cons_append]
  refine wpIn_wide.2 ?_
  have k3 : Blk (w.alloc (.cells #[.int .i64 0] 2)) w.heap.size 2 #[.int .i64 0] := Blk.new _ _ _
  have hb0 : Below w.heap.size w (w.alloc (.cells #[.int .i64 0] 2)) := (Below.refl _ _).alloc (Nat.le_refl _) _
  go_wp2_with ((with_reducible show wpList _ _ _ (⟨some 3, .alloc _, _, _, _, _⟩ :: _) _ _); refine wpList_run rfl (.pointer (some ⟨w.heap.size, 0, none⟩)) (w.alloc (.cells #[.int .i64 0] 2)) (by kernel_rfl) ?_; generalize w.alloc (.cells #[.int .i64 0] 2) = w1 at k3 hb0 ⊢; have c3 : w1.cell? ⟨w.heap.size, 0, none⟩ = some (.int .i64 0) := (by rw [k3.cell]; rfl); have f3 := k3.frozen 0; simp only [Act.put])
  have k3 := k3.set_ 0 (.int .i64 0)
  have hb1 : Below w.heap.size w (w1.setCell ⟨w.heap.size, 0, none⟩ (.int .i64 0)) := hb0.setCell (p := ⟨w.heap.size, 0, none⟩) (Nat.le_refl _) _
  generalize w1.setCell ⟨w.heap.size, 0, none⟩ (.int .i64 0) = w2 at k3 hb1 ⊢
  have k3 : Blk w2 w.heap.size 2 #[.int .i64 0] := k3
  refine (Hal.out w2).mono ?_
  rintro e w3 ⟨rfl, hbx, hb3⟩
  have hlt3 := k3.lt
  replace k3 := k3.step hb3
  have hI0 : SzI w w.heap.size 0 w3 := ⟨k3, hb1.trans (hb3.mono hb1.size)⟩
  have hw3 := hI0.bel.size
  have hbxl := hbx.lt
  generalize w2.heap.size = bx at hbx hbxl hlt3 ⊢
  clear c3 f3 hb0 hb1 hb3 k3 Hal
  go_wp2_with fail
  refine wp_range_U (gf := 118) (lb := #[.pointer (some ⟨bx, 0, none⟩)]) rfl (enters_of Try.func118 (by kernel_rfl) rfl)
    (hA w3 bx (· = w.heap.size) hI0.bel hbx (fun b hb => by have hb : b = w.heap.size := hb; omega)) (fun _ _ _ _ h => by rw [show _ = _ from h]; rfl)
    (fun _ k => SzI w w.heap.size (szF (ps.take k))) (fun _ _ _ _ => False) (fun n₁ => SzI.own_ (fun k => szF (ps.take k)) (by omega)) (fun _ _ _ _ _ _ h _ _ => h.elim) (fun _ _ => hI0) ?round ?done ?stop
  case round =>
    clear hI0 hbx hA
    intro li n₁ k vs X hl hln hnX hk hI hy
    have hy : vs = _ := hy
    subst hy
    have e1 := szF_take ps k hk
    have e2 := szF_take_mod ps hd k hk
    have e3 := szF_take_le ps k
    have e4 := szF_take_le ps (k + 1)
    obtain ⟨⟨lv, x⟩, hx⟩ : ∃ x, ps.getD k (0, []) = x := ⟨_, rfl⟩
    rw [hx] at e1 e2 ⊢
    obtain ⟨m, hm⟩ : ∃ m, szF (ps.take k) = m := ⟨_, rfl⟩
    obtain ⟨m', hm'⟩ : ∃ m, szF (ps.take (k + 1)) = m := ⟨_, rfl⟩
    rw [hm] at e1 e2 e3 hI
    rw [hm'] at e1 e4
    have hor : bits .or .i64 (m : Int) ((2 : Int) ^ lv) = (m' : Int) := by
      have h1 : ((2 : Int) ^ lv) = ((2 ^ lv : Nat) : Int) := by simp
      have h2 := or_pow m lv e2
      obtain ⟨pw, hpw⟩ : ∃ p, 2 ^ lv = p := ⟨_, rfl⟩
      rw [hpw] at h1 h2 e1
      rw [h1, i64_or_nat m pw (by omega) (by omega), h2, e1]
    have Hor := Lib.hid hor
    have He := Lib.hid hm'
    clear e1 e2 e3 e4 hx hm hm'
    gi_wp2
    refine ⟨KeepU.refl _ _ _ _, ?_⟩
    intro X2 hturn
    have hI2 := hturn.own (SzI.own_ (w := w) (g3 := w.heap.size) (fun _ => m) (show w.heap.size ≤ w3.heap.size by omega)) (s := k) hI
    have hnX2 : n₁ ≤ X2.heap.size := by rw [hturn.size]; exact hnX
    clear hI hturn hnX
    have c3 : X2.cell? ⟨w.heap.size, 0, none⟩ = some (.int .i64 (m : Int)) := by rw [hI2.box.cell]; rfl
    have f3 := hI2.box.frozen 0
    have hor := Hor.out
    gi_wp2
    refine ⟨KeepU.setCell (U := (· = w.heap.size)) hI2.box (.inr rfl) 0 _, ?_⟩
    show SzI w w.heap.size (szF (ps.take (k + 1))) _
    rw [He.out]
    exact ⟨hI2.box.set_ 0 _, hI2.bel.setCell (p := ⟨w.heap.size, 0, none⟩) (Nat.le_refl _) _⟩
  case done =>
    clear hI0 hbx hA
    intro D n₁ X hD hDn hI hK
    rw [List.take_of_length_le (Nat.le_refl _)] at hI
    have c3 : X.cell? ⟨w.heap.size, 0, none⟩ = some (.int .i64 (szF ps : Int)) := by rw [hI.box.cell]; rfl
    go_wp2_with fail
    refine leaves_marks (N := w.heap.size) [D] _ ((MarksOk.nil _ _).cons (by omega) hK (by simp)) fun w' ht => ⟨_, results_tmp rfl _ _ _, rfl, hI.bel.trans ht.bel⟩
  case stop =>
    rintro D n₁ cd k X hD hDn hk h hK
    exact h.elim
end Go.Proofs.Ytonidnfgneokbaa
