/- What incl.Up hands out goes over the steps. -/
import Derived.Test.YtmglkblomklcbaaQc117
import Derived.Test.YtmglkblomklcbaaQc115
import Derived.Test.YtmglkblomklcbaaQc118
import Derived.Test.YtmglkblomklcbaaQc116
import Derived.Test.YtmglkblomklcbaaQc106
import Derived.Test.YtmglkblomklcbaaQc110
import Derived.Test.YtmglkblomklcbaaQc112
import Derived.Test.YtmglkblomklcbaaQc113
import Derived.Test.YtmglkblomklcbaaQc109
import Derived.Test.YtmglkblomklcbaaQc111
namespace Go.Proofs.Ytmglkblomklcbaa
open Go Go.RowKit

def stepVs (s : StepV) : Array Value := #[.agg #[.int .i64 (s.1.1 : Int), .int .i64 (s.1.2 : Int)], .agg (s.2.map B).toArray]
theorem KeepU.st {B n₁ : Nat} {U : Nat → Prop} {W W' : World} {X : Nat → Prop} {A : Option Addr} {n c : Nat} {q : List StepV} (h : KeepU B n₁ U W W') (hs : St W X A n c q) (hm : ∀ b, b < W.heap.size → X b → b < n₁ ∧ ¬ U b) : St W' X A n c q := ⟨h.slv hs.sl hm, hs.len, hs.all⟩

set_option maxRecDepth 100000 in
set_option maxHeartbeats 2000000 in
theorem up1_seq (q : List StepV) (A : Option Addr) (n c g : Nat) (U : Nat → Prop) (w : World) (hbox : Blk w g 86 #[.slice A n c]) (h : St w (fun b => ¬ U b) A n c q) (hn : n ≤ 1099511627776) :
    SeqU Try.prog 44 #[.pointer (some ⟨g, 0, none⟩)] n U (fun _ k vs _ => vs = stepVs (q.getD k ((0, 0), []))) w := by
  intro ly J Jx W hW hJ hJx hY h0
  have hbox' := hbox.below hW hbox.lt
  have h' := h.step hW
  have hmx := h.sl.max
  have hroom := h.sl.room
  unfold maxLen at hmx
  have hgl : g < W.heap.size := hbox'.lt
  have hcell : W.cell? ⟨g, 0, none⟩ = some (.slice A n c) := by rw [hbox'.cell]; rfl
  have hst : J W.heap.size 0 W := h0 _ (Nat.le_refl _)
  have Hst := Lib.hid hst
  have HJ := Lib.hid hJ
  have HY := Lib.hid hY
  have Hbox := Lib.hid hbox'
  clear hbox hJx hJ hY hbox' h hW h0 hst
  refine callsIn_of_wp Try.func44 rfl trivial ?_ rfl
  simp only [Try.ntmps44, List.size_toArray, List.length_cons, List.length_nil, Nat.reduceAdd, Nat.reduceSub, Array.replicate_succ, Array.replicate_zero, List.push_toArray, List.append_toArray, List.nil_append, List.cons_append]
  gi_wp2
  gi_loopw [7] (fun i wr => ∃ k : Nat, k ≤ n ∧ i = .int .i64 k ∧ W.heap.size ≤ wr.heap.size ∧ J W.heap.size k wr ∧ St wr (fun b => b < W.heap.size ∧ ¬ U b) A n c q)
    (fun i _ => n - (intOf i).toNat)
  case atStart => exact ⟨0, Nat.zero_le _, rfl, Nat.le_refl _, Hst.out, h'.weak fun b hb hx => ⟨hb, hx⟩⟩
  case round =>
    clear Hst h' hcell
    obtain ⟨k, hk, rfl, hsz, hJs, hs⟩ := hrel
    by_cases hlt : k < n
    · obtain ⟨b, o, rfl, -, -, hld⟩ := hs.at_ (by omega)
      obtain ⟨-, -, hld⟩ := hld k hlt
      have hld := hld _ _ stepT1
      have hsl : (q.getD k ((0, 0), [])).2.length = 32 := by
        rw [List.getD_eq_getElem?_getD, List.getElem?_eq_getElem (by rw [hs.len]; exact hlt)]
        exact hs.all _ (List.getElem_mem _)
      obtain ⟨s, hx⟩ : ∃ x, q.getD k ((0, 0), []) = x := ⟨_, rfl⟩
      rw [hx] at hld hsl
      have Hx := Lib.hid hx
      have Hsl := Lib.hid hsl
      clear hx hsl
      gi_wp2_with (first
        | ((with_reducible show wpListIn _ _ _ _ _ (⟨some 10, .load _ _, _, _, _, _⟩ :: _) _ _); refine wpListIn_of1 openW rfl ?_; refine wpList_cell 90 (.tmp 9) b (o + k * 34) (.agg (scell s).toArray) (by kernel_rfl) rfl rfl hld ?_; refine thenN_nil ?_; simp only [Act.put])
        | ((with_reducible show wpListIn _ _ _ _ _ (⟨some 4, .alloc _, _, _, _, _⟩ :: _) _ _); refine wpListIn_of2 openW rfl ?_; refine wpList_svar (s := s) stepT1 (.tmp 4) (.tmp 10) rfl rfl rfl rfl rfl rfl Hsl.out ?_; intro W2 k4 hb2; refine thenN_nil ?_; simp only [Act.put])
        | ((with_reducible show wpListIn _ _ _ _ _ (⟨some 13, .load _ _, _, _, _, _⟩ :: _) _ _); refine wpListIn_of1 openW rfl ?_; refine wpList_cell 68 (.tmp 12) wr.heap.size 0 (.agg #[.int .i64 (s.1.1 : Int), .int .i64 (s.1.2 : Int)]) (by kernel_rfl) rfl rfl k4.range ?_; refine thenN_nil ?_; simp only [Act.put])
        | ((with_reducible show wpListIn _ _ _ _ _ (⟨some 15, .load _ _, _, _, _, _⟩ :: _) _ _); refine wpListIn_of1 openW rfl ?_; refine wpList_cell 45 (.tmp 14) wr.heap.size 2 (.agg (s.2.map B).toArray) (by kernel_rfl) rfl rfl k4.hash ?_; refine thenN_nil ?_; simp only [Act.put]; have hJ2 := HJ.out W.heap.size k wr W2 none hJs (grown_of_below hb2 none) (fun r e => by cases e); obtain ⟨fn, tmps, assign, body, hy, hR⟩ := HY.out W.heap.size k (stepVs s) W2 (Nat.le_refl _) (Nat.le_trans hsz hb2.size) hlt hJ2 (by rw [Hx.out]); clear hJ2 hJs hld; unfold stepVs at hy))
      refine hR.mono ?_
      have hs2 := hs.step hb2
      have hsz2 := hb2.size
      clear hR hy k4 hb2 hs
      rintro e w4 (⟨rfl, hj4, hk4⟩ | ⟨rfl, hjx4, hk4⟩)
      · have hs4 : St w4 (fun b => b < W.heap.size ∧ ¬ U b) (some ⟨b, o, none⟩) n c q := hk4.st hs2 fun b _ hb => hb
        have hsz4 := hk4.size
        clear hk4 hs2
        gi_wp2
        exact ⟨⟨k + 1, by omega, by go_num, by omega, hj4, hs4⟩, by simp [intOf]; omega⟩
      · gi_wp2
        refine bodyPost_ret (by exact results_none rfl _ _ _) rfl ?_
        exact ⟨⟨_, rfl⟩, _, Nat.le_refl _, .inr ⟨k, hlt, hjx4⟩⟩
    · obtain rfl : k = n := by omega
      gi_wp2
      go_end0
      exact ⟨⟨_, rfl⟩, _, Nat.le_refl _, .inl hJs⟩
end Go.Proofs.Ytmglkblomklcbaa
/- notaryref08.Same: where two rows are alike. -/
namespace Go.Proofs.Ytmglkblomklcbaa
open Go Go.RowKit

structure Sm8C (w : World) (A A' : Option Addr) (n c c' : Nat) (hs : List (List UInt8)) (W : World) : Prop where
  h1 : Hs W (fun _ => True) A n c hs
  h2 : Hs W (fun _ => True) A' n c' hs
  bel : Below w.heap.size w W
theorem Sm8C.drew {w W : World} {A A' : Option Addr} {n c c' : Nat} {hs : List (List UInt8)} (h : Sm8C w A A' n c c' hs W) : Sm8C w A A' n c c' hs W.drew := ⟨h.h1.drew, h.h2.drew, h.bel.drew⟩

set_option maxHeartbeats 1000000 in
set_option maxRecDepth 100000 in
theorem same_any (hs : List (List UInt8)) (A A' : Option Addr) (n c c' : Nat) (w : World) (h1 : Hs w (fun _ => True) A n c hs) (h2 : Hs w (fun _ => True) A' n c' hs) (hn : n ≤ 4398046511104) :
    Calls Try.prog 16 #[.slice A n c, .slice A' n c'] w fun e w' => e = .returned (.bool true) ∧ Below w.heap.size w w' := by
  have hlen := h1.len
  have hc1 := h1.sl.room
  have hc2 := h2.sl.room
  have hC0 : Sm8C w A A' n c c' hs w := ⟨h1, h2, Below.refl _ _⟩
  clear h1 h2
  have Hlen := Lib.hid hlen
  clear hlen
  go_enter Try.func16, Try.ntmps16
  go_wp2_with fail
  go_loopw [5] (fun v wr => ∃ (q : Nat), q ≤ n ∧ v = .int .i64 q ∧ Sm8C w A A' n c c' hs wr) (fun v _ => n - (intOf v).toNat)
  case atStart => exact ⟨0, by omega, rfl, hC0⟩
  case round =>
    clear hC0
    obtain ⟨q, hq, rfl, hC⟩ := hrel
    by_cases hlq : q < n
    · obtain ⟨b1, o1, hA1, -, -, -⟩ := hC.h1.at_ (by omega)
      obtain ⟨b2, o2, hA2, -, -, -⟩ := hC.h2.at_ (by omega)
      subst hA1 hA2
      obtain ⟨x, hx⟩ : ∃ x, hs.getD q [] = x := ⟨_, rfl⟩
      have hxl : x.length = 32 := by rw [← hx]; exact hC.h1.all.getD q (by rw [Hlen.out]; exact hlq)
      have l1 : ∀ s : InC (Sm8C w (some ⟨b1, o1, none⟩) (some ⟨b2, o2, none⟩) n c c' hs), (Instr.loadAt 45 (.pointer (some ⟨b1, o1 + q * 32, none⟩))).run Try.prog s.W = .ok (.agg (x.map B).toArray) s.W := fun s => by
        obtain ⟨b, o, hA, -, -, hld⟩ := s.ok.h1.at_ (by omega)
        cases hA
        rw [← hx]; exact hld q hlq
      have l2 : ∀ s : InC (Sm8C w (some ⟨b1, o1, none⟩) (some ⟨b2, o2, none⟩) n c c' hs), (Instr.loadAt 45 (.pointer (some ⟨b2, o2 + q * 32, none⟩))).run Try.prog s.W = .ok (.agg (x.map B).toArray) s.W := fun s => by
        obtain ⟨b, o, hA, -, -, hld⟩ := s.ok.h2.at_ (by omega)
        cases hA
        rw [← hx]; exact hld q hlq
      have Hx := Lib.hid hx
      have Hxl := Lib.hid hxl
      have Hl1 := Lib.hid l1
      have Hl2 := Lib.hid l2
      clear hx hxl l1 l2
      go_upto_region 6 with fail
      refine wp_region_mix (Sm8C w (some ⟨b1, o1, none⟩) (some ⟨b2, o2, none⟩) n c c' hs) [(0, true), (1, true), (2, true), (3, true), (4, true), (5, true), (6, true), (7, true), (8, true)] (by kernel_rfl) (by kernel_rfl) hC.drew fun _ => ?_
      simp only [List.map_cons, List.map_nil, Array.getD_eq_getD_getElem?, List.getElem?_toArray, List.getElem?_cons_succ, List.getElem?_cons_zero, Option.getD_some]
      iterate 3 (refine wpMix_s (fun K hK => ?_); go_simp; refine hK _ ?_; clear hK K)
      refine wpMix_load (by kernel_rfl) 45 (.tmp 19) rfl b1 (o1 + q * 32) rfl (x.map B).toArray Hl1.out ?_
      simp only [Act.put]
      iterate 3 (refine wpMix_s (fun K hK => ?_); go_simp; refine hK _ ?_; clear hK K)
      refine wpMix_load (by kernel_rfl) 45 (.tmp 23) rfl b2 (o2 + q * 32) rfl (x.map B).toArray Hl2.out ?_
      simp only [Act.put]
      refine wpMix_v (by kernel_rfl) (.bool false) (fun s => run_neq26_f (.tmp 20) (.tmp 24) _ x x rfl rfl rfl Hxl.out Hxl.out rfl s.W) ?_
      simp only [Act.put]
      refine wpMix_nil ?_
      intro hC1
      generalize wr.drew = W1 at hC1 ⊢
      go_wp2_with fail
      refine ⟨⟨q + 1, by omega, by go_num, hC1⟩, by simp [intOf]; omega⟩
    · have hqn : q = n := by omega
      subst hqn
      go_wp2_with fail
      go_ret
      exact ⟨rfl, hC.bel⟩
end Go.Proofs.Ytmglkblomklcbaa
/- A part of a row of hashes. -/
namespace Go.Proofs.Ytmglkblomklcbaa
open Go Go.RowKit

theorem Hs.fewer {W : World} {X : Nat → Prop} {A : Option Addr} {n m c : Nat} {hs ms : List (List UInt8)} (h : Hs W X A m c (hs ++ ms)) (hn : hs.length = n) : Hs W X A n c hs := by
  subst hn
  have := h.take hs.length (by rw [← h.len, List.length_append]; omega)
  rwa [List.take_left] at this

end Go.Proofs.Ytmglkblomklcbaa
/- notarylaw11.row, left, num. -/
namespace Go.Proofs.Ytmglkblomklcbaa
open Go Go.RowKit

theorem num11_any (i : Int) (w : World) : Calls Try.prog 15 #[.int .i64 i] w fun e w' => e = .returned (.int .i64 i) ∧ w = w' := by
  go_enter Try.func15, Try.ntmps15
  go_wp2_with fail
  go_ret
  exact ⟨rfl, rfl⟩

set_option maxHeartbeats 400000 in
set_option maxRecDepth 100000 in
theorem row11_any (hs : List (List UInt8)) (A : Option Addr) (n c : Nat) (w : World) (h : Hs w (fun _ => True) A n c hs) (hn : n ≤ 1099511627776) :
    Calls Try.prog 10 #[.slice A n c] w fun e w' => ∃ g c', e = .returned (.slice (some ⟨g, 0, none⟩) n c') ∧ w'.ownsRow w.heap.size 45 32 (.slice (some ⟨g, 0, none⟩) (n + 1) c') (n + 1) (hcells (hs ++ [oneHash 165])) ∧ Below w.heap.size w w' := by
  obtain ⟨x, hx⟩ : ∃ x, oneHash 165 = x := ⟨_, rfl⟩
  have hxl : x.length = 32 := by rw [← hx]; exact length_oneHash _
  rw [hx]
  obtain ⟨w0, hw0⟩ : ∃ w0, w.alloc (.cells #[] 45) = w0 := ⟨_, rfl⟩
  have b0 : Below w.heap.size w w0 := by rw [← hw0]; exact (Below.refl _ _).alloc (Nat.le_refl _) _
  have o0 : w0.ownsRow w.heap.size 45 32 (.slice (some ⟨w.heap.size, 0, none⟩) 0 0) 0 [] := by
    rw [← hw0]; exact World.ownsRow_lit (base := w.heap.size) (e := 45) (size := 32) w #[] 0 (Nat.le_refl _) (by decide) rfl
  obtain ⟨v1, w1, hr1, ho1, hg1, -⟩ := append_slv (ty := 22) Try.underlying22 info26z (by simp [Value.cells]) (by decide) o0 (h.step b0).sl (oneB _) (by unfold maxLen; omega) (by omega) b0.size
  rw [Nat.zero_add, List.nil_append] at ho1
  have b1 := b0.grown hg1 b0.size (fun k hk => (o0.lt k hk).1)
  have h32 : H32 [x] := by intro h hh; rw [List.mem_singleton.1 hh]; exact hxl
  have bA : Below w1.heap.size w1 (w1.alloc (.cells (hcells [x]).toArray 45)) := (Below.refl _ _).alloc (Nat.le_refl _) _
  have ho2 := owns_step ho1 bA
  have b2 := b1.trans (bA.mono b1.size)
  obtain ⟨v3, w3, hr3, ho3, hg3, -⟩ := append_slv (ty := 22) Try.underlying22 info26z (by simp [Value.cells]) (by decide) ho2 (Hs.lit w1 [x] h32 (by simp) 1 rfl).sl (oneB _) (by unfold maxLen; omega) (by omega) b2.size
  rw [← hcells_append] at ho3
  have b3 := b2.grown hg3 b2.size (fun k hk => (ho2.lt k hk).1)
  obtain ⟨g, c3, rfl, hc3, hcm⟩ : ∃ g c3, v3 = .slice (some ⟨g, 0, none⟩) (n + 1) c3 ∧ n + 1 ≤ c3 ∧ c3 ≤ maxLen := by
    rcases ho3.2 with ⟨_, h0⟩ | ⟨g, cap, cur, hv, _, _, h1, h2, _⟩
    · omega
    · exact ⟨g, cap, hv, h1, h2⟩
  unfold maxLen at hcm
  have sl1 := fun W => run_slice_high (P := Try.prog) sliceHs sizeHs (some ⟨g, 0, none⟩) (n + 1) c3 n (by omega) W
  have Hw0 := Lib.hid hw0
  have Hr1 := Lib.hid hr1
  have Hr3 := Lib.hid hr3
  have Hx := Lib.hid hx
  clear hw0 hr1 hr3 hx hg1 hg3 ho1 ho2 o0 b0 b1 b2 bA h
  go_enter Try.func10, Try.ntmps10
  go_wp2_with (first
    | ((with_reducible show wpList _ _ _ (⟨some 5, .call _, _, _, _, _⟩ :: _) _ _); rw [Hw0.out]; refine wpList_run rfl v1 w1 (run_append_op (.tmp 3) (.tmp 4) 22 rfl _ _ rfl rfl Hr1.out) ?_; simp only [Act.put])
    | ((with_reducible show wpList _ _ _ (⟨some 6, .build _ _, _, _, _, _⟩ :: _) _ _); refine wpList_run0 rfl (.agg (x.map B).toArray) (by rw [← Hx.out]; kernel_rfl) ?_; simp only [Act.put])
    | ((with_reducible show wpList _ _ _ (⟨some 7, .buildSlice _ _ _, _, _, _, _⟩ :: _) _ _); refine wpList_run rfl _ _ (run_lit_op [x] h32 (by simp) (by simp) 1 _ rfl (by simp [Act.eval]) rfl _) ?_; simp only [Act.put])
    | ((with_reducible show wpList _ _ _ (⟨some 8, .call _, _, _, _, _⟩ :: _) _ _); refine wpList_run rfl _ w3 (run_append_op (.tmp 5) (.tmp 7) 22 rfl _ _ rfl rfl Hr3.out) ?_; simp only [Act.put]))
  go_ret
  exact ⟨g, c3, rfl, ho3, b3⟩

set_option maxHeartbeats 400000 in
set_option maxRecDepth 100000 in
theorem left11_any (hs : List (List UInt8)) (g : Nat) (A : Option Addr) (n c' c : Nat) (w : World) (h : Hs w (fun _ => True) (some ⟨g, 0, none⟩) (n + 1) c' (hs ++ [oneHash 165])) (h2 : Hs w (fun _ => True) A n c hs) (hn : n ≤ 1099511627776) :
    Calls Try.prog 17 #[.slice (some ⟨g, 0, none⟩) n c', .slice A n c] w fun e w' => e = .returned (.bool true) ∧ Below w.heap.size w w' := by
  have hsame := same_any hs (some ⟨g, 0, none⟩) A n c' c w (h.fewer h2.len) h2 (by omega)
  have hroom := h.sl.room
  have hmax := h.sl.max
  unfold maxLen at hmax
  have sl1 := fun W => run_slice_high (P := Try.prog) sliceHs sizeHs (some ⟨g, 0, none⟩) n c' (n + 1) (by omega) W
  have en : ((n + 1 : Nat) : Int) = (n : Int) + 1 := by omega
  rw [en] at sl1
  clear en
  obtain ⟨x, hx⟩ : ∃ x, oneHash 165 = x := ⟨_, rfl⟩
  have hxl : x.length = 32 := by rw [← hx]; exact length_oneHash _
  rw [hx] at h
  have hld : ∀ W, Below w.heap.size w W → (Instr.loadAt 45 (.pointer (some ⟨g, n * 32, none⟩))).run Try.prog W = .ok (.agg (x.map B).toArray) W := fun W hW => by
    obtain ⟨b, o, hA, -, -, hat⟩ := (h.step hW).at_ (by omega)
    cases hA
    have := hat n (by omega)
    rw [Nat.zero_add, List.getD_eq_getElem?_getD, List.getElem?_append_right (by rw [h2.len]; exact Nat.le_refl _), h2.len, Nat.sub_self] at this
    exact this
  have Hx := Lib.hid hx
  have Hxl := Lib.hid hxl
  have Hld := Lib.hid hld
  have Hsame := Lib.hid hsame
  clear hx hxl hld hsame h h2
  go_enter Try.func17, Try.ntmps17
  go_wp2_with fail
  refine Hsame.out.mono ?_
  rintro e w2 ⟨rfl, hb2⟩
  go_wp2_with (first
    | ((with_reducible show wpList _ _ _ (⟨some 17, .load _ _, _, _, _, _⟩ :: _) _ _); refine wpList_runG (by kernel_rfl) (.agg (x.map B).toArray) w2 (run_load_op 45 (.tmp 16) rfl g (n * 32) rfl _ (Hld.out w2 hb2)) ?_; simp only [Act.put])
    | ((with_reducible show wpList _ _ _ (⟨some 18, .build _ _, _, _, _, _⟩ :: _) _ _); refine wpList_runG (by kernel_rfl) (.agg (x.map B).toArray) w2 (by rw [← Hx.out]; kernel_rfl) ?_; simp only [Act.put])
    | ((with_reducible show wpList _ _ _ (⟨some 19, .binOp _ _ _ _ _, _, _, _, _⟩ :: _) _ _); refine wpList_runG (by kernel_rfl) (.bool true) w2 (run_eql26_t (.tmp 17) (.tmp 18) _ x x rfl rfl rfl Hxl.out Hxl.out rfl _) ?_; simp only [Act.put]))
  go_ret
  exact ⟨rfl, hb2⟩
end Go.Proofs.Ytmglkblomklcbaa
/- notaryref09.Stretch, tree.Node, notaryref09.Node. -/
namespace Go.Proofs.Ytmglkblomklcbaa
open Go Go.RowKit

def zeroL : List UInt8 := List.replicate 32 0
def stretchR (hs : List (List UInt8)) (a b : Int) : List UInt8 × Int := if 0 ≤ a ∧ a < b ∧ b ≤ hs.length then (stretchL hs a.toNat b.toNat, 0) else (zeroL, 4)
theorem length_stretchR (hs : List (List UInt8)) (a b : Int) (h : H32 hs) : (stretchR hs a b).1.length = 32 := by
  unfold stretchR
  split
  · exact length_stretchL hs _ _ h
  · rfl
theorem tstretch_any (hs : List (List UInt8)) (A : Option Addr) (n c : Nat) (w : World) (a b : Int) (h : Hs w (fun _ => True) A n c hs) (hn : n ≤ 4398046511104) :
    Calls Try.prog 30 #[.slice A n c, .agg #[.int .i64 a, .int .i64 b]] w fun e w' => e = .returned (.tuple #[.agg ((stretchR hs a b).1.map B).toArray, .int .i64 (stretchR hs a b).2]) ∧ Below w.heap.size w w' := by
  have hl := h.len
  unfold stretchR
  by_cases hc : 0 ≤ a ∧ a < b ∧ b ≤ hs.length
  · rw [if_pos hc]
    obtain ⟨x, rfl⟩ : ∃ x : Nat, a = (x : Int) := ⟨a.toNat, by omega⟩
    obtain ⟨y, rfl⟩ : ∃ y : Nat, b = (y : Int) := ⟨b.toNat, by omega⟩
    rw [Int.toNat_natCast, Int.toNat_natCast]
    exact tstretch_ok hs A n c w x y h hn (by omega) (by omega)
  · rw [if_neg hc]
    exact tstretch_bad A n c w a b (by omega)
/-- a node by its level and its index -/
def nodeR (hs : List (List UInt8)) (lv ix : Int) : List UInt8 × Int :=
  if 0 ≤ lv ∧ lv ≤ 62 ∧ 0 ≤ ix ∧ ix.toNat ≤ hs.length / 2 ^ lv.toNat then stretchR hs ((ix.toNat * 2 ^ lv.toNat : Nat) : Int) ((ix.toNat * 2 ^ lv.toNat + 2 ^ lv.toNat : Nat) : Int) else (zeroL, 4)
theorem length_nodeR (hs : List (List UInt8)) (lv ix : Int) (h : H32 hs) : (nodeR hs lv ix).1.length = 32 := by
  unfold nodeR
  split
  · exact length_stretchR hs _ _ h
  · rfl

end Go.Proofs.Ytmglkblomklcbaa
/- The stretches that are in a list, in their order (plain). -/
namespace Go.Proofs.Ytmglkblomklcbaa
open Go Go.RowKit

def okR (hs : List (List UInt8)) (x : Int × Int) : Bool := decide ((stretchR hs x.1 x.2).2 = 0)
def goodL (hs : List (List UInt8)) (l : List (Int × Int)) : List (Int × Int) := l.filter (okR hs)
def cntL (hs : List (List UInt8)) (l : List (Int × Int)) (k : Nat) : Nat := (goodL hs (l.take k)).length
theorem cntL_zero (hs : List (List UInt8)) (l : List (Int × Int)) : cntL hs l 0 = 0 := rfl
theorem cntL_all (hs : List (List UInt8)) (l : List (Int × Int)) : cntL hs l l.length = (goodL hs l).length := by unfold cntL; rw [List.take_length]
theorem take_snoc (l : List (Int × Int)) (k : Nat) (h : k < l.length) : l.take (k + 1) = l.take k ++ [l.getD k (0, 0)] := by
  rw [List.take_succ_eq_append_getElem h, List.getD_eq_getElem?_getD, List.getElem?_eq_getElem h]; rfl
theorem cntL_ok (hs : List (List UInt8)) (l : List (Int × Int)) (k : Nat) (h : k < l.length) (ho : (stretchR hs (l.getD k (0, 0)).1 (l.getD k (0, 0)).2).2 = 0) : cntL hs l (k + 1) = cntL hs l k + 1 := by
  unfold cntL goodL
  rw [take_snoc l k h, List.filter_append, List.length_append, List.filter_cons_of_pos (by unfold okR; exact decide_eq_true ho)]
  rfl
theorem cntL_bad (hs : List (List UInt8)) (l : List (Int × Int)) (k : Nat) (h : k < l.length) (ho : (stretchR hs (l.getD k (0, 0)).1 (l.getD k (0, 0)).2).2 ≠ 0) : cntL hs l (k + 1) = cntL hs l k := by
  unfold cntL goodL
  rw [take_snoc l k h, List.filter_append, List.length_append, List.filter_cons_of_neg (by unfold okR; simpa using ho)]
  rfl
theorem goodL_at (hs : List (List UInt8)) (l : List (Int × Int)) (k : Nat) (h : k < l.length) (ho : (stretchR hs (l.getD k (0, 0)).1 (l.getD k (0, 0)).2).2 = 0) : cntL hs l k < (goodL hs l).length ∧ (goodL hs l).getD (cntL hs l k) (0, 0) = l.getD k (0, 0) := by
  have e : goodL hs l = goodL hs (l.take k) ++ l.getD k (0, 0) :: goodL hs (l.drop (k + 1)) := by
    conv => lhs; rw [← List.take_append_drop k l, List.drop_eq_getElem_cons h]
    have hg : l[k] = l.getD k (0, 0) := by rw [List.getD_eq_getElem?_getD, List.getElem?_eq_getElem h]; rfl
    unfold goodL
    rw [hg, List.filter_append, List.filter_cons_of_pos (by unfold okR; exact decide_eq_true ho)]
  unfold cntL
  rw [e]
  constructor
  · rw [List.length_append, List.length_cons]; omega
  · rw [List.getD_eq_getElem?_getD, List.getElem?_append_right (Nat.le_refl _), Nat.sub_self]; rfl
theorem goodL_mem (hs : List (List UInt8)) (l : List (Int × Int)) (k : Nat) (h : k < (goodL hs l).length) : (stretchR hs ((goodL hs l).getD k (0, 0)).1 ((goodL hs l).getD k (0, 0)).2).2 = 0 := by
  have hm : (goodL hs l).getD k (0, 0) ∈ goodL hs l := by rw [List.getD_eq_getElem?_getD, List.getElem?_eq_getElem h]; exact List.getElem_mem h
  have := (List.mem_filter.1 hm).2
  exact of_decide_eq_true this
theorem goodL_le (hs : List (List UInt8)) (l : List (Int × Int)) : (goodL hs l).length ≤ l.length := List.length_filter_le _ _
theorem goodL_pick (hs : List (List UInt8)) (l : List (Int × Int)) (k : Nat) (h : k < l.length) (ho : (stretchR hs (l.getD k (0, 0)).1 (l.getD k (0, 0)).2).2 = 0) : goodL hs (l.take (k + 1)) = goodL hs (l.take k) ++ [l.getD k (0, 0)] := by
  unfold goodL
  rw [take_snoc l k h, List.filter_append, List.filter_cons_of_pos (by unfold okR; exact decide_eq_true ho)]
  rfl
theorem goodL_skip (hs : List (List UInt8)) (l : List (Int × Int)) (k : Nat) (h : k < l.length) (ho : (stretchR hs (l.getD k (0, 0)).1 (l.getD k (0, 0)).2).2 ≠ 0) : goodL hs (l.take (k + 1)) = goodL hs (l.take k) := by
  unfold goodL
  rw [take_snoc l k h, List.filter_append, List.filter_cons_of_neg (by unfold okR; simpa using ho)]
  simp
/-- a good stretch's root, by the reference's words -/
theorem good_of (hs : List (List UInt8)) (a b : Int) (h : (stretchR hs a b).2 = 0) : 0 ≤ a ∧ a < b ∧ b ≤ hs.length ∧ (stretchR hs a b).1 = stretchL hs a.toNat b.toNat := by
  unfold stretchR at h ⊢
  split at h
  · rename_i hc
    rw [if_pos hc]
    exact ⟨hc.1, hc.2.1, hc.2.2, rfl⟩
  · cases h
end Go.Proofs.Ytmglkblomklcbaa
/- The roots of the stretches that show that one list goes on another (plain). -/
namespace Go.Proofs.Ytmglkblomklcbaa
open Go Go.RowKit

theorem stepsA_each (m : Int) (n : Nat) : ∀ x ∈ (stepsA m n).1, x.1 < x.2 ∧ x.2 ≤ n := by
  intro x hx
  unfold stepsA at hx
  split at hx
  · cases hx
  · rename_i h1
    split at hx
    · cases hx
    · rename_i h2
      have := (stepsL_ok n m.toNat 0 n true (Nat.le_refl _) (by omega) (by omega)).each x (by simpa using hx)
      omega
theorem stretchR_nat (hs : List (List UInt8)) (a b : Nat) (h1 : a < b) (h2 : b ≤ hs.length) : stretchR hs (a : Int) (b : Int) = (stretchL hs a b, 0) := by
  unfold stretchR
  rw [if_pos ⟨by omega, by omega, by omega⟩, Int.toNat_natCast, Int.toNat_natCast]
theorem steps_good (hs : List (List UInt8)) (m : Int) : goodL hs (natR (stepsA m hs.length).1) = natR (stepsA m hs.length).1 := by
  unfold goodL
  rw [List.filter_eq_self]
  intro y hy
  unfold natR at hy
  obtain ⟨x, hx, rfl⟩ := List.mem_map.1 hy
  obtain ⟨h1, h2⟩ := stepsA_each m hs.length x hx
  unfold okR
  rw [stretchR_nat hs x.1 x.2 h1 h2]
  rfl
def rootsS (hs : List (List UInt8)) (m : Int) : List (List UInt8) := rootsL hs (stepsA m hs.length).1
theorem length_natR (l : List (Nat × Nat)) : (natR l).length = l.length := by simp [natR]
theorem length_rootsS (hs : List (List UInt8)) (m : Int) : (rootsS hs m).length = (stepsA m hs.length).1.length := by simp [rootsS, rootsL]
theorem rootsS_all (hs : List (List UInt8)) (h : H32 hs) (m : Int) : H32 (rootsS hs m) := rootsL_all hs h _
theorem rootsS_at (hs : List (List UInt8)) (m : Int) (k : Nat) (h : k < (stepsA m hs.length).1.length) : (stretchR hs ((natR (stepsA m hs.length).1).getD k (0, 0)).1 ((natR (stepsA m hs.length).1).getD k (0, 0)).2).1 = (rootsS hs m).getD k [] := by
  obtain ⟨h1, h2⟩ := stepsA_each m hs.length _ (List.getElem_mem h)
  unfold natR rootsS rootsL
  rw [List.getD_eq_getElem?_getD, List.getElem?_map, List.getD_eq_getElem?_getD, List.getElem?_map, List.getElem?_eq_getElem h]
  simp only [Option.map_some, Option.getD_some]
  rw [stretchR_nat hs _ _ h1 h2]
theorem take_snocH (l : List (List UInt8)) (k : Nat) (h : k < l.length) : l.take (k + 1) = l.take k ++ [l.getD k []] := by
  rw [List.take_succ_eq_append_getElem h, List.getD_eq_getElem?_getD, List.getElem?_eq_getElem h]; rfl
theorem rootsS_bad (hs : List (List UInt8)) (m : Int) (h : (stepsA m hs.length).2 ≠ 0) : rootsS hs m = [] := by
  unfold rootsS stepsA at *
  split
  · rfl
  · rename_i h1
    rw [if_neg h1] at h
    split at h <;> exact absurd rfl h
theorem stepsA_e (m n : Int) : (stepsA m n).2 = 0 ∨ (stepsA m n).2 = 4 := by
  unfold stepsA
  split
  · exact .inr rfl
  · split <;> exact .inl rfl
end Go.Proofs.Ytmglkblomklcbaa
/- The roots of the stretches of an audit path (plain). -/
namespace Go.Proofs.Ytmglkblomklcbaa
open Go Go.RowKit

theorem pathA_each (m : Int) (n : Nat) : ∀ x ∈ (pathA m n).1, x.1 < x.2 ∧ x.2 ≤ n := by
  intro x hx
  unfold pathA at hx
  split at hx
  · cases hx
  · rename_i h1
    have := (pathL_ok n m.toNat 0 n (by omega) (by omega) (by omega)).each x (by simpa using hx)
    omega
theorem path_good (hs : List (List UInt8)) (m : Int) : goodL hs (natR (pathA m hs.length).1) = natR (pathA m hs.length).1 := by
  unfold goodL
  rw [List.filter_eq_self]
  intro y hy
  unfold natR at hy
  obtain ⟨x, hx, rfl⟩ := List.mem_map.1 hy
  obtain ⟨h1, h2⟩ := pathA_each m hs.length x hx
  unfold okR
  rw [stretchR_nat hs x.1 x.2 h1 h2]
  rfl
theorem length_rootsP (hs : List (List UInt8)) (m : Int) : (rootsP hs m).length = (pathA m hs.length).1.length := by simp [rootsP, rootsL]
theorem rootsP_all (hs : List (List UInt8)) (h : H32 hs) (m : Int) : H32 (rootsP hs m) := rootsL_all hs h _
theorem rootsP_at (hs : List (List UInt8)) (m : Int) (k : Nat) (h : k < (pathA m hs.length).1.length) : (stretchR hs ((natR (pathA m hs.length).1).getD k (0, 0)).1 ((natR (pathA m hs.length).1).getD k (0, 0)).2).1 = (rootsP hs m).getD k [] := by
  obtain ⟨h1, h2⟩ := pathA_each m hs.length _ (List.getElem_mem h)
  unfold natR rootsP rootsL
  rw [List.getD_eq_getElem?_getD, List.getElem?_map, List.getD_eq_getElem?_getD, List.getElem?_map, List.getElem?_eq_getElem h]
  simp only [Option.map_some, Option.getD_some]
  rw [stretchR_nat hs _ _ h1 h2]
theorem rootsP_bad (hs : List (List UInt8)) (m : Int) (h : (pathA m hs.length).2 ≠ 0) : rootsP hs m = [] := by
  unfold rootsP pathA at *
  split
  · rfl
  · rename_i h1
    rw [if_neg h1] at h
    exact absurd rfl h
theorem pathA_e (m n : Int) : (pathA m n).2 = 0 ∨ (pathA m n).2 = 4 := by
  unfold pathA
  split
  · exact .inr rfl
  · exact .inl rfl
end Go.Proofs.Ytmglkblomklcbaa
