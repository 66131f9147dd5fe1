/- tree.Each, and the function that it hands out. -/
import Derived.Test.YtgcbdnoniikboaaQb118
import Derived.Test.YtgcbdnoniikboaaQb124
import Derived.Test.YtgcbdnoniikboaaQb125
namespace Go.Proofs.Ytgcbdnoniikboaa
open Go Go.RowKit Go.Shelf
attribute [local go_sem] Oper.semAt_some

/-- what Each's function knows between two rounds -/
structure EaI (W0 : World) (U : Nat → Prop) (J : Nat → Nat → World → Prop) (hs : List (List UInt8)) (l : List (Int × Int)) (A : Option Addr) (n c g2 ly : Nat) (n₁ k : Nat) (W : World) : Prop where
  j : J n₁ (cntL hs l k) W
  b3 : Blk W W0.heap.size 105 #[.func (.yield ly) #[] #[]]
  b2 : Blk W g2 37 #[.slice A n c]
  h : Hs W (fun b => b < W0.heap.size ∧ ¬ U b) A n c hs
theorem EaI.own {W0 : World} {U : Nat → Prop} {J : Nat → Nat → World → Prop} {hs : List (List UInt8)} {l : List (Int × Int)} {A : Option Addr} {n c g2 ly B : Nat} (hJ : ∀ n₁, OwnFrom W0.heap.size (J n₁)) (hB : W0.heap.size < B) (hg2 : g2 < W0.heap.size) (n₁ : Nat) :
    OwnFrom B (EaI W0 U J hs l A n c g2 ly n₁) := fun _ X Y row h hg hr =>
  have hne : ∀ g, g < B → some g ≠ row := fun g hg e => by have := (hr g e.symm).1; omega
  ⟨hJ n₁ _ X Y row h.j hg (fun r e => ⟨by have := (hr r e).1; omega, (hr r e).2⟩), h.b3.grown hg (hne _ hB), h.b2.grown hg (hne _ (by omega)), h.h.grown hg fun b _ hx => hne b (by have := hx.1; omega)⟩
theorem KeepU.up {B B' n₁ : Nat} {U : Nat → Prop} {W W' : World} (h : KeepU B n₁ U W W') (hB : B ≤ B') : KeepU B' n₁ U W W' := ⟨⟨h.f.size, fun k o hk ho hc => h.f.same k o (Nat.le_trans hB hk) ho hc⟩, h.os, h.tape, h.output, h.cells⟩
theorem keepsFrom_up {B B' : Nat} {W W' : World} (h : KeepsFrom B W W') (hB : B ≤ B') : KeepsFrom B' W W' := ⟨h.size, fun k o hk ho hc => h.same k o (Nat.le_trans hB hk) ho hc⟩
theorem EaI.step {W0 : World} {U : Nat → Prop} {J : Nat → Nat → World → Prop} {hs : List (List UInt8)} {l : List (Int × Int)} {A : Option Addr} {n c g2 ly n₁ k : Nat} {W W' : World} (h : EaI W0 U J hs l A n c g2 ly n₁ k W) (hJ : ∀ n₁, OwnFrom W0.heap.size (J n₁)) (hb : Below W.heap.size W W') : EaI W0 U J hs l A n c g2 ly n₁ k W' :=
  ⟨hJ n₁ _ W W' none h.j (grown_of_below hb none) (fun r e => by cases e), h.b3.step hb, h.b2.step hb, h.h.step hb⟩

def goodY (hs : List (List UInt8)) (l : List (Int × Int)) (k : Nat) (vs : Array Value) : Prop := vs = #[rval ((goodL hs l).getD k (0, 0)), .agg ((stretchR hs ((goodL hs l).getD k (0, 0)).1 ((goodL hs l).getD k (0, 0)).2).1.map B).toArray]
set_option maxRecDepth 100000 in
set_option maxHeartbeats 4000000 in
theorem each1_seq (hs : List (List UInt8)) (l : List (Int × Int)) (A : Option Addr) (n c : Nat) (Ar : Option Addr) (nr cr g1 g2 : Nat) (U : Nat → Prop) (w : World) (hb1 : Blk w g1 22 #[.slice Ar nr cr]) (hb2 : Blk w g2 37 #[.slice A n c])
    (h : Hs w (fun b => ¬ U b) A n c hs) (hr : Rs w (fun b => ¬ U b) Ar nr cr l) (hU2 : ¬ U g2) (hUlt : ∀ b, U b → b < w.heap.size) (hn : n ≤ 1099511627776) (hnr : nr ≤ 1099511627776) :
    SeqU Try.prog 68 #[.pointer (some ⟨g1, 0, none⟩), .pointer (some ⟨g2, 0, none⟩)] (goodL hs l).length U (fun _ k vs _ => goodY hs l k vs) w := by
  intro ly J Jx W hW hJ hJx hY h0
  have hb1' := hb1.below hW hb1.lt
  have hb2' := hb2.below hW hb2.lt
  have hg2 : g2 < W.heap.size := hb2'.lt
  have h' := h.step hW
  have hr' := hr.step hW
  have hUW : ∀ b, U b → b < W.heap.size := fun b hb => Nat.lt_of_lt_of_le (hUlt b hb) hW.size
  have hlen := hr.len
  have hroom := h.sl.room
  have hmx := h.sl.max
  unfold maxLen at hmx
  have h32 := h.all
  obtain ⟨W1, hW1⟩ : ∃ W1, W.alloc (.cells #[.func (.yield ly) #[] #[]] 105) = W1 := ⟨_, rfl⟩
  have hbW : Below W.heap.size W W1 := by rw [← hW1]; exact (Below.refl _ _).alloc (Nat.le_refl _) _
  have hsz1 : W1.heap.size = W.heap.size + 1 := by rw [← hW1]; simp
  have b3 : Blk W1 W.heap.size 105 #[.func (.yield ly) #[] #[]] := by rw [← hW1]; exact Blk.new _ _ _
  have c1 : W1.cell? ⟨g1, 0, none⟩ = some (.slice Ar nr cr) := by rw [(hb1'.below hbW hb1'.lt).cell]; rfl
  have hI1 : ∀ n₁, W.heap.size ≤ n₁ → EaI W U J hs l A n c g2 ly n₁ 0 W1 := fun n₁ hn => ⟨hJ n₁ _ W W1 none (h0 n₁ hn) (grown_of_below hbW none) (fun r e => by cases e), b3, hb2'.step hbW, (h'.weak fun b hb hx => ⟨hb, hx⟩).step hbW⟩
  have hr1 := hr'.step hbW
  have Hr1 := Lib.hid hr1
  have HW1 := Lib.hid hW1
  have HI1 := Lib.hid hI1
  have HJ := Lib.hid hJ
  have HJx := Lib.hid hJx
  have HY := Lib.hid hY
  have Hlen := Lib.hid hlen
  have H32h := Lib.hid h32
  clear hW1 hI1 hr1 hb1 hb2 hb1' hb2' h h' hr hr' h0 hW hJ hJx hY hlen h32 b3 hbW
  refine callsIn_of_wp_marks Try.func68 rfl trivial ?_ rfl
  simp only [Try.ntmps68, List.size_toArray, List.length_cons, List.length_nil, Nat.reduceAdd, Nat.reduceSub, Array.replicate_succ, Array.replicate_zero, List.push_toArray, List.append_toArray, List.nil_append, List.cons_append]
  gi_wp2_with ((with_reducible show wpListIn _ _ _ _ _ (⟨some 7, .load _ _, _, _, _, _⟩ :: _) _ _); rw [HW1.out])
  refine ⟨trivial, (callsIn_wide.2 (valuesr_any Ar nr cr W1)).mono ?_⟩
  rintro e W2 ⟨rfl, hbv, hb2⟩
  have hr2 := Hr1.out.step hb2
  have hI2 := fun n₁ hn => (HI1.out n₁ hn).step HJ.out hb2
  have HI2 := Lib.hid hI2
  have hsz2 := hb2.size
  clear hI2 c1 HI1 Hr1 hb2
  gi_wp2
  rw [hsz1] at hbv
  refine wpIn_wide.2 ?_
  refine wp_range_U (gf := 77) (lb := #[.pointer (some ⟨W.heap.size + 1, 0, none⟩)]) rfl (enters_of Try.func77 (by kernel_rfl) rfl) (values1_seq l Ar nr cr (W.heap.size + 1) U W2 hbv hr2 (fun h => by have := hUW _ h; omega) hnr) (fun _ _ _ _ h => by rw [h]; rfl)
    (EaI W U J hs l A n c g2 ly) (fun n₁ cd _ Wk => cd = .ret ∧ ∃ q, q < (goodL hs l).length ∧ Jx n₁ (q + 1) Wk)
    (EaI.own HJ.out (by omega) hg2) (fun n₁ cd _ X Y row h hg hr => ⟨h.1, let ⟨q, hq, hj⟩ := h.2; ⟨q, hq, HJx.out n₁ _ X Y row hj hg (fun r e => ⟨by have := (hr r e).1; omega, (hr r e).2⟩)⟩⟩) (fun n₁ hn => HI2.out n₁ (by omega)) ?round ?done ?stop
  case round =>
    clear HI2 hr2 hbv HW1
    intro li n₁ k vs X hl hln hnX hk hI hy
    subst hy
    obtain ⟨⟨x1, x2⟩, hx⟩ : ∃ x, l.getD k (0, 0) = x := ⟨_, rfl⟩
    rw [hx]
    dsimp only [rval]
    have Hx := Lib.hid hx
    clear hx
    gi_wp2
    have hb1 : Below X.heap.size X (X.alloc (.cells #[.int .i64 x1, .int .i64 x2] 29)) := (Below.refl _ _).alloc (Nat.le_refl _) _
    have k4 := Blk.new X 29 #[.int .i64 x1, .int .i64 x2]
    refine ⟨KeepU.below hb1, ?_⟩
    intro X2 hturn
    have hI2 := hturn.own (EaI.own HJ.out (show W.heap.size < W2.heap.size by omega) hg2 n₁) (hI.step HJ.out hb1)
    replace k4 := hturn.blk k4
    have hX2 : n₁ ≤ X2.heap.size := by rw [hturn.size]; exact Nat.le_trans hnX hb1.size
    generalize X.heap.size = g4 at k4
    clear hI hb1 hturn hnX
    have c2 : X2.cell? ⟨g2, 0, none⟩ = some (.slice A n c) := by rw [hI2.b2.cell]; rfl
    obtain ⟨⟨z, zo⟩, hz⟩ : ∃ z, stretchR hs x1 x2 = z := ⟨_, rfl⟩
    have hzl : z.length = 32 := by have := length_stretchR hs x1 x2 H32h.out; rw [hz] at this; exact this
    have hst := tstretch_any hs A n c X2 x1 x2 (hI2.h.weak fun _ _ _ => trivial) (by omega)
    rw [hz] at hst
    have Hz := Lib.hid hz
    have Hzl := Lib.hid hzl
    have Hst := Lib.hid hst
    clear hz hzl hst
    gi_wp2_with ((with_reducible show wpListIn _ _ _ _ _ (⟨some 12, .load _ _, _, _, _, _⟩ :: _) _ _); refine wpListIn_of1 (openR li) rfl ?_; refine wpList_cell 29 (.tmp 4) g4 0 (.agg #[.int .i64 x1, .int .i64 x2]) (by kernel_rfl) rfl rfl (load_R k4) ?_; refine thenN_nil ?_; simp only [Act.put])
    refine ⟨trivial, (CallsIn.inRound li (callsIn_wide.2 Hst.out)).mono ?_⟩
    rintro e X3 ⟨rfl, hb3⟩
    have hI3 := hI2.step HJ.out hb3
    replace k4 := k4.step hb3
    have hK3 : KeepU W2.heap.size n₁ U X2 X3 := KeepU.below hb3
    have hX3 := hb3.size
    clear c2 hI2 hb3 Hst
    by_cases ho : zo = 0
    · have hz0 : (zo == 0) = true := by rw [ho]; rfl
      obtain ⟨hcl, hca⟩ := goodL_at hs l k (by rw [Hlen.out]; exact hk) (by rw [Hx.out, Hz.out]; exact ho)
      have hcs := cntL_ok hs l k (by rw [Hlen.out]; exact hk) (by rw [Hx.out, Hz.out]; exact ho)
      rw [Hx.out] at hca
      have Hcl := Lib.hid hcl
      have Hca := Lib.hid hca
      have Hcs := Lib.hid hcs
      clear ho hcl hca hcs
      gi_wp2_with (first
        | ((with_reducible show wpListIn _ _ _ _ _ (⟨some 5, .alloc _, _, _, _, _⟩ :: _) _ _); refine wpListIn_of2 (openR li) rfl ?_; refine wpList_hvar (.tmp 5) (.tmp 14) rfl rfl rfl rfl rfl rfl Hzl.out ?_; intro X4 k5 hb4; refine thenN_nil ?_; simp only [Act.put]; have c3 : X4.cell? ⟨W.heap.size, 0, none⟩ = some (.func (.yield ly) #[] #[]) := (by rw [(hI3.b3.step hb4).cell]; rfl))
        | ((with_reducible show wpListIn _ _ _ _ _ (⟨some 20, .load _ _, _, _, _, _⟩ :: _) _ _); refine wpListIn_of1 (openR li) rfl ?_; refine wpList_cell 29 (.tmp 4) g4 0 (.agg #[.int .i64 x1, .int .i64 x2]) (by kernel_rfl) rfl rfl (load_R (k4.step hb4)) ?_; refine thenN_nil ?_; simp only [Act.put])
        | ((with_reducible show wpListIn _ _ _ _ _ (⟨some 21, .load _ _, _, _, _, _⟩ :: _) _ _); refine wpListIn_of1 (openR li) rfl ?_; refine wpList_hload (.tmp 5) (by kernel_rfl) rfl k5 rfl ?_; refine thenN_nil ?_; simp only [Act.put]; obtain ⟨fn, tmps, assign, body, hy, hR⟩ := HY.out n₁ (cntL hs l k) #[.agg #[.int .i64 x1, .int .i64 x2], .agg (z.map B).toArray] X4 (by omega) (by have := hb4.size; omega) Hcl.out (hI3.step HJ.out hb4).j (by unfold goodY; rw [Hca.out]; dsimp only [rval]; rw [Hz.out])))
      refine (show RoundIn (Fence.wide.inRound li) 2 _ ly fn tmps assign body X4 _ from roundIn_any hR).mono ?_
      have hI4 := hI3.step HJ.out hb4
      have hK4 : KeepU W2.heap.size n₁ U X3 X4 := KeepU.below hb4
      have hX4 := hb4.size
      have hn₁ : W.heap.size < n₁ := by omega
      have hnU : ¬ U W.heap.size := fun h => by have := hUW _ h; omega
      clear hR hy k4 k5 c3 hb4 hI3
      rintro e X5 (⟨rfl, hj5, hk5⟩ | ⟨rfl, hjx5, hk5⟩)
      · have hI5 : EaI W U J hs l A n c g2 ly n₁ (k + 1) X5 := ⟨by rw [Hcs.out]; exact hj5, hk5.blk hI4.b3 hn₁ hnU, hk5.blk hI4.b2 (by omega) hU2, ⟨hk5.slv hI4.h.sl (fun b _ hb => ⟨by have := hb.1; omega, hb.2⟩), hI4.h.len, hI4.h.all⟩⟩
        have hK5 := (hK3.trans hK4).trans (hk5.up (by omega))
        gi_wp2
        exact ⟨hK5, hI5⟩
      · have hK5 := (hK3.trans hK4).f.trans (keepsFrom_up hk5 (show W.heap.size ≤ W2.heap.size by omega))
        gi_wp2
        exact ⟨hK5, rfl, _, Hcl.out, hjx5⟩
    · have hz0 : (zo == 0) = false := by simp [ho]
      have hcs := cntL_bad hs l k (by rw [Hlen.out]; exact hk) (by rw [Hx.out, Hz.out]; exact ho)
      have Hcs := Lib.hid hcs
      clear ho hcs
      gi_wp2_with ((with_reducible show wpListIn _ _ _ _ _ (⟨some 5, .alloc _, _, _, _, _⟩ :: _) _ _); refine wpListIn_of2 (openR li) rfl ?_; refine wpList_hvar (.tmp 5) (.tmp 14) rfl rfl rfl rfl rfl rfl Hzl.out ?_; intro X4 k5 hb4; refine thenN_nil ?_; simp only [Act.put])
      refine ⟨fun f h => (by cases h), ?_⟩
      have hI4 := hI3.step HJ.out hb4
      have hK4 : KeepU W2.heap.size n₁ U X3 X4 := KeepU.below hb4
      clear k4 k5 hb4 hI3
      gi_wp2
      refine ⟨hK3.trans hK4, ?_⟩
      exact ⟨by rw [Hcs.out]; exact hI4.j, hI4.b3, hI4.b2, hI4.h⟩
  case done =>
    intro D n₁ X hD hDn hI hK
    have hj := hI.j
    rw [← Hlen.out, cntL_all] at hj
    have hj' := (HJ.out n₁).putObj (.deferred none) hj (show W.heap.size ≤ D by omega) hK rfl
    clear hI hj
    refine ⟨by simp, .inl ⟨_, _, rfl, run_takeDeferred hK, ?_⟩⟩
    refine ⟨_, results_none rfl _ _ _, ⟨_, rfl⟩, n₁, by omega, .inl hj'⟩
  case stop =>
    rintro D n₁ cd k X hD hDn hk ⟨rfl, q, hq, hj⟩ hK
    have hj' := (HJx.out n₁).putObj (.deferred none) hj (show W.heap.size ≤ D by omega) hK rfl
    clear hj
    go_wp2_with fail
    refine ⟨by simp, .inl ⟨_, _, rfl, run_takeDeferred hK, ?_⟩⟩
    refine ⟨_, results_none rfl _ _ _, ⟨_, rfl⟩, n₁, by omega, .inr ⟨q, hq, hj'⟩⟩
end Go.Proofs.Ytgcbdnoniikboaa
