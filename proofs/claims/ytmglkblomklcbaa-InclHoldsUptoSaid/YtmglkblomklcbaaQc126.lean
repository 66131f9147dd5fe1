/- notaryref08.Same: where two rows are alike. -/
import Derived.Test.YtmglkblomklcbaaQc120
import Derived.Test.YtmglkblomklcbaaQc106
import Derived.Test.YtmglkblomklcbaaQc110
import Derived.Test.YtmglkblomklcbaaQc112
import Derived.Test.YtmglkblomklcbaaQc122
namespace Go.Proofs.Ytmglkblomklcbaa
open Go Go.RowKit

structure Sm8C (w : World) (A A' : Option Addr) (n c c' : Nat) (hs : List (List UInt8)) (W : World) : Prop where
  h1 : Hs W (fun _ => True) A n c hs
  h2 : Hs W (fun _ => True) A' n c' hs
  bel : Below w.heap.size w W
theorem Sm8C.drew {w W : World} {A A' : Option Addr} {n c c' : Nat} {hs : List (List UInt8)} (h : Sm8C w A A' n c c' hs W) : Sm8C w A A' n c c' hs W.drew := ⟨h.h1.drew, h.h2.drew, h.bel.drew⟩

set_option maxHeartbeats 1000000 in
set_option maxRecDepth 100000 in
theorem same_any (hs : List (List UInt8)) (A A' : Option Addr) (n c c' : Nat) (w : World) (h1 : Hs w (fun _ => True) A n c hs) (h2 : Hs w (fun _ => True) A' n c' hs) (hn : n ≤ 4398046511104) :
    Calls Try.prog 16 #[.slice A n c, .slice A' n c'] w fun e w' => e = .returned (.bool true) ∧ Below w.heap.size w w' := by
  have hlen := h1.len
  have hc1 := h1.sl.room
  have hc2 := h2.sl.room
  have hC0 : Sm8C w A A' n c c' hs w := ⟨h1, h2, Below.refl _ _⟩
  clear h1 h2
  have Hlen := Lib.hid hlen
  clear hlen
  go_enter Try.func16, Try.ntmps16
  go_wp2_with fail
  go_loopw [5] (fun v wr => ∃ (q : Nat), q ≤ n ∧ v = .int .i64 q ∧ Sm8C w A A' n c c' hs wr) (fun v _ => n - (intOf v).toNat)
  case atStart => exact ⟨0, by omega, rfl, hC0⟩
  case round =>
    clear hC0
    obtain ⟨q, hq, rfl, hC⟩ := hrel
    by_cases hlq : q < n
    · obtain ⟨b1, o1, hA1, -, -, -⟩ := hC.h1.at_ (by omega)
      obtain ⟨b2, o2, hA2, -, -, -⟩ := hC.h2.at_ (by omega)
      subst hA1 hA2
      obtain ⟨x, hx⟩ : ∃ x, hs.getD q [] = x := ⟨_, rfl⟩
      have hxl : x.length = 32 := by rw [← hx]; exact hC.h1.all.getD q (by rw [Hlen.out]; exact hlq)
      have l1 : ∀ s : InC (Sm8C w (some ⟨b1, o1, none⟩) (some ⟨b2, o2, none⟩) n c c' hs), (Instr.loadAt 45 (.pointer (some ⟨b1, o1 + q * 32, none⟩))).run Try.prog s.W = .ok (.agg (x.map B).toArray) s.W := fun s => by
        obtain ⟨b, o, hA, -, -, hld⟩ := s.ok.h1.at_ (by omega)
        cases hA
        rw [← hx]; exact hld q hlq
      have l2 : ∀ s : InC (Sm8C w (some ⟨b1, o1, none⟩) (some ⟨b2, o2, none⟩) n c c' hs), (Instr.loadAt 45 (.pointer (some ⟨b2, o2 + q * 32, none⟩))).run Try.prog s.W = .ok (.agg (x.map B).toArray) s.W := fun s => by
        obtain ⟨b, o, hA, -, -, hld⟩ := s.ok.h2.at_ (by omega)
        cases hA
        rw [← hx]; exact hld q hlq
      have Hx := Lib.hid hx
      have Hxl := Lib.hid hxl
      have Hl1 := Lib.hid l1
      have Hl2 := Lib.hid l2
      clear hx hxl l1 l2
      go_upto_region 6 with fail
      refine wp_region_mix (Sm8C w (some ⟨b1, o1, none⟩) (some ⟨b2, o2, none⟩) n c c' hs) [(0, true), (1, true), (2, true), (3, true), (4, true), (5, true), (6, true), (7, true), (8, true)] (by kernel_rfl) (by kernel_rfl) hC.drew fun _ => ?_
      simp only [List.map_cons, List.map_nil, Array.getD_eq_getD_getElem?, List.getElem?_toArray, List.getElem?_cons_succ, List.getElem?_cons_zero, Option.getD_some]
      iterate 3 (refine wpMix_s (fun K hK => ?_); go_simp; refine hK _ ?_; clear hK K)
      refine wpMix_load (by kernel_rfl) 45 (.tmp 19) rfl b1 (o1 + q * 32) rfl (x.map B).toArray Hl1.out ?_
      simp only [Act.put]
      iterate 3 (refine wpMix_s (fun K hK => ?_); go_simp; refine hK _ ?_; clear hK K)
      refine wpMix_load (by kernel_rfl) 45 (.tmp 23) rfl b2 (o2 + q * 32) rfl (x.map B).toArray Hl2.out ?_
      simp only [Act.put]
      refine wpMix_v (by kernel_rfl) (.bool false) (fun s => run_neq26_f (.tmp 20) (.tmp 24) _ x x rfl rfl rfl Hxl.out Hxl.out rfl s.W) ?_
      simp only [Act.put]
      refine wpMix_nil ?_
      intro hC1
      generalize wr.drew = W1 at hC1 ⊢
      go_wp2_with fail
      refine ⟨⟨q + 1, by omega, by go_num, hC1⟩, by simp [intOf]; omega⟩
    · have hqn : q = n := by omega
      subst hqn
      go_wp2_with fail
      go_ret
      exact ⟨rfl, hC.bel⟩
end Go.Proofs.Ytmglkblomklcbaa
/- A part of a row of hashes. -/
namespace Go.Proofs.Ytmglkblomklcbaa
open Go Go.RowKit

theorem Hs.fewer {W : World} {X : Nat → Prop} {A : Option Addr} {n m c : Nat} {hs ms : List (List UInt8)} (h : Hs W X A m c (hs ++ ms)) (hn : hs.length = n) : Hs W X A n c hs := by
  subst hn
  have := h.take hs.length (by rw [← h.len, List.length_append]; omega)
  rwa [List.take_left] at this

end Go.Proofs.Ytmglkblomklcbaa
/- notarylaw11.row, left, num. -/
namespace Go.Proofs.Ytmglkblomklcbaa
open Go Go.RowKit

theorem num11_any (i : Int) (w : World) : Calls Try.prog 15 #[.int .i64 i] w fun e w' => e = .returned (.int .i64 i) ∧ w = w' := by
  go_enter Try.func15, Try.ntmps15
  go_wp2_with fail
  go_ret
  exact ⟨rfl, rfl⟩

set_option maxHeartbeats 400000 in
set_option maxRecDepth 100000 in
theorem row11_any (hs : List (List UInt8)) (A : Option Addr) (n c : Nat) (w : World) (h : Hs w (fun _ => True) A n c hs) (hn : n ≤ 1099511627776) :
    Calls Try.prog 10 #[.slice A n c] w fun e w' => ∃ g c', e = .returned (.slice (some ⟨g, 0, none⟩) n c') ∧ w'.ownsRow w.heap.size 45 32 (.slice (some ⟨g, 0, none⟩) (n + 1) c') (n + 1) (hcells (hs ++ [oneHash 165])) ∧ Below w.heap.size w w' := by
  obtain ⟨x, hx⟩ : ∃ x, oneHash 165 = x := ⟨_, rfl⟩
  have hxl : x.length = 32 := by rw [← hx]; exact length_oneHash _
  rw [hx]
  obtain ⟨w0, hw0⟩ : ∃ w0, w.alloc (.cells #[] 45) = w0 := ⟨_, rfl⟩
  have b0 : Below w.heap.size w w0 := by rw [← hw0]; exact (Below.refl _ _).alloc (Nat.le_refl _) _
  have o0 : w0.ownsRow w.heap.size 45 32 (.slice (some ⟨w.heap.size, 0, none⟩) 0 0) 0 [] := by
    rw [← hw0]; exact World.ownsRow_lit (base := w.heap.size) (e := 45) (size := 32) w #[] 0 (Nat.le_refl _) (by decide) rfl
  obtain ⟨v1, w1, hr1, ho1, hg1, -⟩ := append_slv (ty := 22) Try.underlying22 info26z (by simp [Value.cells]) (by decide) o0 (h.step b0).sl (oneB _) (by unfold maxLen; omega) (by omega) b0.size
  rw [Nat.zero_add, List.nil_append] at ho1
  have b1 := b0.grown hg1 b0.size (fun k hk => (o0.lt k hk).1)
  have h32 : H32 [x] := by intro h hh; rw [List.mem_singleton.1 hh]; exact hxl
  have bA : Below w1.heap.size w1 (w1.alloc (.cells (hcells [x]).toArray 45)) := (Below.refl _ _).alloc (Nat.le_refl _) _
  have ho2 := owns_step ho1 bA
  have b2 := b1.trans (bA.mono b1.size)
  obtain ⟨v3, w3, hr3, ho3, hg3, -⟩ := append_slv (ty := 22) Try.underlying22 info26z (by simp [Value.cells]) (by decide) ho2 (Hs.lit w1 [x] h32 (by simp) 1 rfl).sl (oneB _) (by unfold maxLen; omega) (by omega) b2.size
  rw [← hcells_append] at ho3
  have b3 := b2.grown hg3 b2.size (fun k hk => (ho2.lt k hk).1)
  obtain ⟨g, c3, rfl, hc3, hcm⟩ : ∃ g c3, v3 = .slice (some ⟨g, 0, none⟩) (n + 1) c3 ∧ n + 1 ≤ c3 ∧ c3 ≤ maxLen := by
    rcases ho3.2 with ⟨_, h0⟩ | ⟨g, cap, cur, hv, _, _, h1, h2, _⟩
    · omega
    · exact ⟨g, cap, hv, h1, h2⟩
  unfold maxLen at hcm
  have sl1 := fun W => run_slice_high (P := Try.prog) sliceHs sizeHs (some ⟨g, 0, none⟩) (n + 1) c3 n (by omega) W
  have Hw0 := Lib.hid hw0
  have Hr1 := Lib.hid hr1
  have Hr3 := Lib.hid hr3
  have Hx := Lib.hid hx
  clear hw0 hr1 hr3 hx hg1 hg3 ho1 ho2 o0 b0 b1 b2 bA h
  go_enter Try.func10, Try.ntmps10
  go_wp2_with (first
    | ((with_reducible show wpList _ _ _ (⟨some 5, .call _, _, _, _, _⟩ :: _) _ _); rw [Hw0.out]; refine wpList_run rfl v1 w1 (run_append_op (.tmp 3) (.tmp 4) 22 rfl _ _ rfl rfl Hr1.out) ?_; simp only [Act.put])
    | ((with_reducible show wpList _ _ _ (⟨some 6, .build _ _, _, _, _, _⟩ :: _) _ _); refine wpList_run0 rfl (.agg (x.map B).toArray) (by rw [← Hx.out]; kernel_rfl) ?_; simp only [Act.put])
    | ((with_reducible show wpList _ _ _ (⟨some 7, .buildSlice _ _ _, _, _, _, _⟩ :: _) _ _); refine wpList_run rfl _ _ (run_lit_op [x] h32 (by simp) (by simp) 1 _ rfl (by simp [Act.eval]) rfl _) ?_; simp only [Act.put])
    | ((with_reducible show wpList _ _ _ (⟨some 8, .call _, _, _, _, _⟩ :: _) _ _); refine wpList_run rfl _ w3 (run_append_op (.tmp 5) (.tmp 7) 22 rfl _ _ rfl rfl Hr3.out) ?_; simp only [Act.put]))
  go_ret
  exact ⟨g, c3, rfl, ho3, b3⟩

set_option maxHeartbeats 400000 in
set_option maxRecDepth 100000 in
theorem left11_any (hs : List (List UInt8)) (g : Nat) (A : Option Addr) (n c' c : Nat) (w : World) (h : Hs w (fun _ => True) (some ⟨g, 0, none⟩) (n + 1) c' (hs ++ [oneHash 165])) (h2 : Hs w (fun _ => True) A n c hs) (hn : n ≤ 1099511627776) :
    Calls Try.prog 17 #[.slice (some ⟨g, 0, none⟩) n c', .slice A n c] w fun e w' => e = .returned (.bool true) ∧ Below w.heap.size w w' := by
  have hsame := same_any hs (some ⟨g, 0, none⟩) A n c' c w (h.fewer h2.len) h2 (by omega)
  have hroom := h.sl.room
  have hmax := h.sl.max
  unfold maxLen at hmax
  have sl1 := fun W => run_slice_high (P := Try.prog) sliceHs sizeHs (some ⟨g, 0, none⟩) n c' (n + 1) (by omega) W
  have en : ((n + 1 : Nat) : Int) = (n : Int) + 1 := by omega
  rw [en] at sl1
  clear en
  obtain ⟨x, hx⟩ : ∃ x, oneHash 165 = x := ⟨_, rfl⟩
  have hxl : x.length = 32 := by rw [← hx]; exact length_oneHash _
  rw [hx] at h
  have hld : ∀ W, Below w.heap.size w W → (Instr.loadAt 45 (.pointer (some ⟨g, n * 32, none⟩))).run Try.prog W = .ok (.agg (x.map B).toArray) W := fun W hW => by
    obtain ⟨b, o, hA, -, -, hat⟩ := (h.step hW).at_ (by omega)
    cases hA
    have := hat n (by omega)
    rw [Nat.zero_add, List.getD_eq_getElem?_getD, List.getElem?_append_right (by rw [h2.len]; exact Nat.le_refl _), h2.len, Nat.sub_self] at this
    exact this
  have Hx := Lib.hid hx
  have Hxl := Lib.hid hxl
  have Hld := Lib.hid hld
  have Hsame := Lib.hid hsame
  clear hx hxl hld hsame h h2
  go_enter Try.func17, Try.ntmps17
  go_wp2_with fail
  refine Hsame.out.mono ?_
  rintro e w2 ⟨rfl, hb2⟩
  go_wp2_with (first
    | ((with_reducible show wpList _ _ _ (⟨some 17, .load _ _, _, _, _, _⟩ :: _) _ _); refine wpList_runG (by kernel_rfl) (.agg (x.map B).toArray) w2 (run_load_op 45 (.tmp 16) rfl g (n * 32) rfl _ (Hld.out w2 hb2)) ?_; simp only [Act.put])
    | ((with_reducible show wpList _ _ _ (⟨some 18, .build _ _, _, _, _, _⟩ :: _) _ _); refine wpList_runG (by kernel_rfl) (.agg (x.map B).toArray) w2 (by rw [← Hx.out]; kernel_rfl) ?_; simp only [Act.put])
    | ((with_reducible show wpList _ _ _ (⟨some 19, .binOp _ _ _ _ _, _, _, _, _⟩ :: _) _ _); refine wpList_runG (by kernel_rfl) (.bool true) w2 (run_eql26_t (.tmp 17) (.tmp 18) _ x x rfl rfl rfl Hxl.out Hxl.out rfl _) ?_; simp only [Act.put]))
  go_ret
  exact ⟨rfl, hb2⟩
end Go.Proofs.Ytmglkblomklcbaa
/- What incl.All makes. -/
namespace Go.Proofs.Ytmglkblomklcbaa
open Go Go.RowKit

set_option maxHeartbeats 1000000 in
set_option maxRecDepth 100000 in
theorem iall_any (hs : List (List UInt8)) (A : Option Addr) (n c : Nat) (w : World) (h : Hs w (fun _ => True) A n c hs) (hn : n ≤ 1099511627776) :
    Calls Try.prog 19 #[.slice A n c] w fun e w' => ∃ (A' : Option Addr) (c' : Nat), e = .returned (.func (.func 41) #[] #[.pointer (some ⟨w.heap.size, 0, none⟩)]) ∧
      Blk w' w.heap.size 22 #[.slice A' n c'] ∧ Hs w' (w.heap.size < ·) A' n c' hs ∧ Below w.heap.size w w' := by
  obtain ⟨w2, hw2⟩ : ∃ w2, (w.alloc (.cells #[.slice A n c] 22)).alloc (.cells #[] 45) = w2 := ⟨_, rfl⟩
  have hb2 : Below w.heap.size w w2 := by rw [← hw2]; exact ((Below.refl _ _).alloc (Nat.le_refl _) _).alloc (by simp) _
  have hsz2 : w2.heap.size = w.heap.size + 1 + 1 := by rw [← hw2]; simp
  have k1 : Blk w2 w.heap.size 22 #[.slice A n c] := by rw [← hw2]; exact (Blk.new _ _ _).alloc _
  have o0 : w2.ownsRow (w.heap.size + 1) 45 32 (.slice (some ⟨w.heap.size + 1, 0, none⟩) 0 0) 0 [] := by
    have := World.ownsRow_lit (base := w.heap.size + 1) (e := 45) (size := 32) (w.alloc (.cells #[.slice A n c] 22)) #[] 0 (by simp) (by decide) rfl
    rw [← hw2]
    rw [show (w.alloc (.cells #[.slice A n c] 22)).heap.size = w.heap.size + 1 by simp] at this
    exact this
  obtain ⟨v1, w3, hr1, ho1, hg1, -⟩ := append_slv (ty := 22) Try.underlying22 info26z (by simp [Value.cells]) (by decide) o0 (h.step hb2).sl (oneB _) (by unfold maxLen; omega) (by omega) (by omega)
  rw [Nat.zero_add, List.nil_append] at ho1
  have b1 := hb2.grown hg1 hb2.size (fun k hk => Nat.le_of_succ_le (o0.lt k hk).1)
  have k13 : Blk w3 w.heap.size 22 #[.slice A n c] := k1.grown hg1 (fun e => by have := (o0.lt _ e.symm).1; omega)
  have c1 : w2.cell? ⟨w.heap.size, 0, none⟩ = some (.slice A n c) := by rw [k1.cell]; rfl
  have c3 : w3.cell? ⟨w.heap.size, 0, none⟩ = some (.slice A n c) := by rw [k13.cell]; rfl
  have f3 := k13.frozen 0
  obtain ⟨A1, c1', rfl, hs1⟩ := Hs.of_owns ho1 h.len h.all
  have hs1 := hs1.weak (Y := (w.heap.size < ·)) fun b _ hb => by have := hb.1; omega
  have Hw2 := Lib.hid hw2
  have Hr1 := Lib.hid hr1
  have hk4 := k13.set_ 0 (.slice A1 n c1')
  have hs4 : Hs (w3.setCell ⟨w.heap.size, 0, none⟩ (.slice A1 n c1')) (w.heap.size < ·) A1 n c1' hs := hs1.grown (grownBy_setCell' w3 w.heap.size _) (fun b _ hb e => by have := Option.some.inj e; omega)
  have hb4 : Below w.heap.size w (w3.setCell ⟨w.heap.size, 0, none⟩ (.slice A1 n c1')) := b1.setCell (Nat.le_refl _) _
  have Hs4 := Lib.hid hs4
  have Hk4 := Lib.hid hk4
  have Hb4 := Lib.hid hb4
  clear hw2 hr1 ho1 hg1 o0 h hb2 b1 k1 k13 hs1 hs4 hk4 hb4
  go_enter Try.func19, Try.ntmps19
  go_wp2_with (first
    | ((with_reducible show wpList _ _ _ (⟨some 4, .load _ _, _, _, _, _⟩ :: _) _ _); rw [Hw2.out])
    | ((with_reducible show wpList _ _ _ (⟨some 5, .call _, _, _, _, _⟩ :: _) _ _); refine wpList_run rfl _ w3 (run_append_op (.tmp 3) (.tmp 4) 22 rfl _ _ rfl rfl Hr1.out) ?_; simp only [Act.put]))
  go_ret
  exact ⟨A1, c1', rfl, Hk4.out, Hs4.out, Hb4.out⟩
end Go.Proofs.Ytmglkblomklcbaa
/- incl.Bytes. -/
namespace Go.Proofs.Ytmglkblomklcbaa
open Go Go.RowKit

/-- the bytes so far -/
structure IbI (w : World) (p : List (List UInt8)) (A : Option Addr) (n c : Nat) (q : List UInt8) (v : Value) (W : World) : Prop where
  src : Hs W (· < w.heap.size) A n c p
  own : W.ownsRow w.heap.size 5 1 v q.length (q.map B)
  bel : Below w.heap.size w W
theorem IbI.step {w W W' : World} {p : List (List UInt8)} {A : Option Addr} {n c : Nat} {q : List UInt8} {v : Value} (h : IbI w p A n c q v W) (hb : Below W.heap.size W W') : IbI w p A n c q v W' := ⟨h.src.step hb, owns_step h.own hb, h.bel.trans (hb.mono h.bel.size)⟩
theorem flatten_snoc (p : List (List UInt8)) (k : Nat) (h : k < p.length) : (p.take (k + 1)).flatten = (p.take k).flatten ++ p.getD k [] := by
  rw [take_snocH p k h, List.flatten_append]; simp
theorem length_flatten32 : ∀ p : List (List UInt8), H32 p → p.flatten.length = p.length * 32
  | [], _ => rfl
  | x :: p, h => by
    have h1 := length_flatten32 p (fun y hy => h y (by simp [hy]))
    have h2 := h x (by simp)
    rw [List.flatten_cons, List.length_append, h1, h2, List.length_cons]; omega
theorem HV.sl {W : World} {g : Nat} {x : List UInt8} (h : HV W g x) : Sl W (· = g) (some ⟨g, 0, none⟩) 32 32 x :=
  ⟨fun _ => ⟨g, 0, rfl, h.lt, rfl, fun j v hv => by rw [Nat.zero_add, h.blk.cell, List.getElem?_toArray]; exact hv⟩, h.len, Nat.le_refl _, (fun e => by cases e), by unfold maxLen; omega⟩

set_option maxHeartbeats 2000000 in
set_option maxRecDepth 100000 in
theorem ibytes_any (p : List (List UInt8)) (A : Option Addr) (n c : Nat) (w : World) (h : Hs w (fun _ => True) A n c p) (hn : n ≤ 1099511627776) :
    Calls Try.prog 31 #[.slice A n c] w fun e w' => ∃ v, e = .returned v ∧ Fresh w w' v p.flatten := by
  have hlen := h.len
  have h32 := h.all
  have hroom := h.sl.room
  have hmx := h.sl.max
  unfold maxLen at hmx
  have hC0 : IbI w p A n c [] (.slice none 0 0) w := ⟨h.weak fun b hb _ => hb, World.ownsRow_nil _ _ _ _, Below.refl _ _⟩
  have Hlen := Lib.hid hlen
  have H32h := Lib.hid h32
  clear h hlen h32
  go_enter Try.func31, Try.ntmps31
  go_wp2_with fail
  go_loopw [3, 8] (fun v i wr => ∃ k : Nat, k ≤ n ∧ i = .int .i64 k ∧ IbI w p A n c (p.take k).flatten v wr) (fun _ i _ => n - (intOf i).toNat)
  case atStart => exact ⟨0, Nat.zero_le _, rfl, hC0⟩
  case round =>
    clear hC0
    obtain ⟨k, hk, rfl, hC⟩ := hrel
    by_cases hkn : k < n
    · obtain ⟨b, o, rfl, -, -, -⟩ := hC.src.at_ (by omega)
      have hld := hC.src.get rfl k hkn
      have hzl := H32h.out.getD k (by rw [Hlen.out]; exact hkn)
      have htk := flatten_snoc p k (by rw [Hlen.out]; exact hkn)
      have hql : ((p.take k).flatten).length ≤ 35184372088832 := by rw [length_flatten32 _ (H32h.out.take k), List.length_take, Hlen.out]; omega
      generalize p.getD k [] = z at hld hzl htk
      generalize (p.take k).flatten = q at *
      have Hld := Lib.hid hld
      have Hzl := Lib.hid hzl
      have Htk := Lib.hid htk
      clear hld hzl htk
      go_wp2_with (first
        | ((with_reducible show wpList _ _ _ (⟨some 11, .load _ _, _, _, _, _⟩ :: _) _ _); refine wpList_runG (by kernel_rfl) (.agg (z.map B).toArray) _ (run_load_op 45 (.tmp 10) rfl _ _ rfl _ Hld.out) ?_; simp only [Act.put])
        | ((with_reducible show wpList _ _ _ (⟨some 5, .alloc _, _, _, _, _⟩ :: _) _ _); refine wpList_hvar (.tmp 5) (.tmp 11) rfl rfl rfl rfl rfl rfl Hzl.out ?_; intro W2 k5 hb2; simp only [Act.put]; have hC2 := hC.step hb2; obtain ⟨v3, W3, hr3, ho3, hg3⟩ := append_sl hC2.own k5.sl (by omega) hC2.bel.size)
        | ((with_reducible show wpList _ _ _ (⟨some 14, .call _, _, _, _, _⟩ :: _) _ _); refine wpList_run rfl v3 W3 (run_append_op (.tmp 12) (.tmp 13) 71 rfl _ _ rfl rfl hr3) ?_; simp only [Act.put]))
      have hb3 : Below w.heap.size W2 W3 := (Below.refl _ _).grown hg3 hC2.bel.size (fun r e => (hC2.own.lt r e).1)
      refine ⟨⟨k + 1, by omega, by go_num, ?_⟩, by simp [intOf]; omega⟩
      rw [Htk.out]
      exact ⟨⟨hC2.src.sl.below hb3 (fun _ _ h => h), hC2.src.len, hC2.src.all⟩, ho3, hC2.bel.trans hb3⟩
    · obtain rfl : k = n := by omega
      go_wp2_with fail
      rw [List.take_of_length_le (by rw [Hlen.out]; exact Nat.le_refl _)] at hC
      go_ret
      exact ⟨_, rfl, hC.own, hC.bel⟩
end Go.Proofs.Ytmglkblomklcbaa
