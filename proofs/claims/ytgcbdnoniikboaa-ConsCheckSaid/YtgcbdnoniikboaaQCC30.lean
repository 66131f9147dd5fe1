/- notarylaw12.ConsCheck. -/
import Derived.Test.YtgcbdnoniikboaaQCC29
import Derived.Test.YtgcbdnoniikboaaQCC28
namespace Go.Proofs.Ytgcbdnoniikboaa
open Go Go.RowKit

/-- what is asked: two sizes, two roots -/
def askC (m n : Int) (x y : List UInt8) : Array Value := (Value.int .i64 m :: Value.int .i64 n :: (x ++ y).map B).toArray
structure AskV (W : World) (g : Nat) (m n : Int) (x y : List UInt8) : Prop where
  blk : Blk W g 71 (askC m n x y)
  lx : x.length = 32
  ly : y.length = 32
section
variable {W W' : World} {g : Nat} {m n : Int} {x y : List UInt8}
theorem AskV.step (h : AskV W g m n x y) (hb : Below W.heap.size W W') : AskV W' g m n x y := ⟨h.blk.step hb, h.lx, h.ly⟩
theorem AskV.far {k : Nat} (h : AskV W g m n x y) (hb : Below k W W') (hk : g < k) : AskV W' g m n x y := ⟨h.blk.below hb hk, h.lx, h.ly⟩
theorem AskV.drew (h : AskV W g m n x y) : AskV W.drew g m n x y := ⟨h.blk, h.lx, h.ly⟩
theorem AskV.lt (h : AskV W g m n x y) : g < W.heap.size := h.blk.lt
theorem AskV.c0 (h : AskV W g m n x y) : W.cell? ⟨g, 0, none⟩ = some (.int .i64 m) := by rw [h.blk.cell]; simp [askC]
theorem AskV.c1 (h : AskV W g m n x y) : W.cell? ⟨g, 1, none⟩ = some (.int .i64 n) := by rw [h.blk.cell]; simp [askC]
theorem AskV.l0 (h : AskV W g m n x y) : (Instr.loadAt 2 (.pointer (some ⟨g, 0, none⟩))).run Try.prog W = .ok (.int .i64 m) W := run_load_scalar (notagg64 _) h.c0
theorem AskV.l1 (h : AskV W g m n x y) : (Instr.loadAt 2 (.pointer (some ⟨g, 1, none⟩))).run Try.prog W = .ok (.int .i64 n) W := run_load_scalar (notagg64 _) h.c1
theorem askC_get (m n : Int) (x y : List UInt8) (j : Nat) : (askC m n x y)[j + 1 + 1]? = ((x ++ y).map B)[j]? := by
  simp only [askC, List.getElem?_toArray, List.getElem?_cons_succ]
theorem AskV.l2 (h : AskV W g m n x y) : (Instr.loadAt 34 (.pointer (some ⟨g, 2, none⟩))).run Try.prog W = .ok (.agg (x.map B).toArray) W :=
  run_load_agg (agg26 _) (size26 _) g 2 (x.map B) (by simp [h.lx]) fun j u hu => by
    rw [h.blk.cell, show 2 + j = j + 1 + 1 by omega, askC_get, List.map_append, List.getElem?_append_left (List.getElem?_eq_some_iff.1 hu).1]
    exact hu
theorem AskV.l3 (h : AskV W g m n x y) : (Instr.loadAt 34 (.pointer (some ⟨g, 34, none⟩))).run Try.prog W = .ok (.agg (y.map B).toArray) W :=
  run_load_agg (agg26 _) (size26 _) g 34 (y.map B) (by simp [h.ly]) fun j u hu => by
    rw [h.blk.cell, show 34 + j = (j + 32) + 1 + 1 by omega, askC_get, List.map_append, List.getElem?_append_right (by simp [h.lx]), show j + 32 - (x.map B).length = j by simp [h.lx]]
    exact hu
end
set_option maxHeartbeats 4000000 in
set_option maxRecDepth 100000 in
theorem conscheck_any (m n : Int) (x y : List UInt8) (hs : List (List UInt8)) (A : Option Addr) (ln c : Nat) (w : World) (hn : n ≤ 9223372036854775807) (hx : x.length = 32) (hy : y.length = 32) (h : Hs w (· < w.heap.size) A ln c hs) :
    Calls Try.prog 10 #[.agg (askC m n x y), .slice A ln c] w fun e w' => e = .returned (.bool true) ∧ Below w.heap.size w w' := by
  obtain ⟨w0, hw0⟩ : ∃ w0, w.alloc (.cells (askC m n x y) 71) = w0 := ⟨_, rfl⟩
  have hb0 : Below w.heap.size w w0 := by rw [← hw0]; exact (Below.refl _ _).alloc (Nat.le_refl _) _
  have hsz0 : w0.heap.size = w.heap.size + 1 := by rw [← hw0]; simp
  have ka : AskV w0 w.heap.size m n x y := ⟨by rw [← hw0]; exact Blk.new _ _ _, hx, hy⟩
  have h0 : Hs w0 (· < w.heap.size) A ln c hs := h.step hb0
  obtain ⟨cs, hcs⟩ : ∃ c, askC m n x y = c := ⟨_, rfl⟩
  rw [hcs] at hw0 ⊢
  have hroom := h.sl.room
  have hmax := h.sl.max
  unfold maxLen at hmax
  have hlen := h.len
  have Hw0 := Lib.hid hw0
  have Hx := Lib.hid hx
  have Hy := Lib.hid hy
  clear hw0 hx hy h hcs
  by_cases hbig : 100 < ln
  · have hd : decide ((100 : Int) < (ln : Int)) = true := by simp; omega
    clear h0
    have hw0 := Hw0.out
    go_enter Try.func10, Try.ntmps10
    go_wp2_with (first
      | (go_at_call 39; refine (known12_any _).mono ?_; rintro e w2 ⟨rfl, hb2⟩))
    go_ret
    exact ⟨rfl, hb0.trans (hb2.mono hb0.size)⟩
  have hl : ln ≤ 100 := by omega
  have hd : decide ((100 : Int) < (ln : Int)) = false := by simp; omega
  have hle := lent12_any hs A ln c w0 (h0.weak fun _ _ _ => trivial) (by omega)
  have hcb := fun A c W (h : Hs W (fun _ => True) A ln c hs) => cbothE_any m n x hs A ln c W hn Hx.out h
  have hrb := fun A c W (h : Hs W (fun _ => True) A ln c hs) => rbothE_any m n x hs A ln c W hn Hx.out h
  have hcc := fun A c W (h : Hs W (fun _ => True) A ln c hs) => ccheck_any m n x y hs A ln c W hn Hx.out Hy.out h
  have hrc := fun A c W (h : Hs W (fun _ => True) A ln c hs) => rcheck_any m n x y hs A ln c W hn Hx.out Hy.out h
  have hlb := length_bothE m n x hs Hx.out h0.all
  obtain ⟨⟨⟨r1, r2⟩, e0⟩, hr⟩ : ∃ r, bothE m n x hs = r := ⟨_, rfl⟩
  obtain ⟨e1, he1⟩ : ∃ r, checkE m n x y hs = r := ⟨_, rfl⟩
  rw [hr] at hcb hrb hlb
  rw [he1] at hcc hrc
  dsimp only at hcb hrb hlb
  obtain ⟨hl1, hl2⟩ := hlb
  have he2 : (e0 == e0) = true := by simp
  have he3 : (e1 == e1) = true := by simp
  have Hl1 := Lib.hid hl1
  have Hl2 := Lib.hid hl2
  have Hcb := Lib.hid hcb
  have Hrb := Lib.hid hrb
  have Hcc := Lib.hid hcc
  have Hrc := Lib.hid hrc
  have Hle := Lib.hid hle
  clear hr he1 hl1 hl2 hcb hrb hcc hrc hle hbig
  have hw0 := Hw0.out
  go_enter Try.func10, Try.ntmps10
  go_wp2_with fail
  clear hw0
  refine Hle.out.mono ?_
  rintro e w1 ⟨A', c', rfl, hl1, hb1⟩
  have hroom' := hl1.sl.room
  have hmax' := hl1.sl.max
  unfold maxLen at hmax'
  have hT : CpL w hs A ln c A' c' w1.heap.size w1 := ⟨h0.step hb1, hl1.weak fun b hb hx => ⟨by have : w0.heap.size ≤ b := hx; omega, hb⟩, Nat.le_refl _, by have := hb1.size; omega, hb0.trans (hb1.mono hb0.size)⟩
  have hN : w.heap.size + 1 ≤ w1.heap.size := by have := hb1.size; omega
  replace ka := ka.step hb1
  have c0 := ka.c0
  have c1 := ka.c1
  clear h0 hb1 hl1 Hle hb0
  go_wp2_with ((with_reducible show wpList _ _ _ (⟨some 24, .load _ _, _, _, _, _⟩ :: _) _ _); refine wpList_runG (by kernel_rfl) (.agg (x.map B).toArray) _ (run_load_op 34 (.tmp 23) rfl w.heap.size 2 rfl _ ka.l2) ?_; simp only [Act.put])
  refine (Hcb.out A' c' w1 hT.mine).mono ?_
  rintro e w2 ⟨rfl, hb⟩
  have hs2 := hb.size
  replace hT := hT.step hb
  replace ka := ka.step hb
  clear c0 c1 hb Hcb
  go_wp2_with (first
    | ((with_reducible show wpList _ _ _ (⟨some 6, .alloc _, _, _, _, _⟩ :: _) _ _); refine wpList_hnew rfl rfl ?_; intro w3 k6 hb3; simp only [Act.put]; replace ka := ka.step hb3; replace hT := hT.step hb3; have hltk6 := k6.lt; have hs3 := hb3.size)
    | ((with_reducible show wpList _ _ _ (⟨some 7, .alloc _, _, _, _, _⟩ :: _) _ _); refine wpList_hnew rfl rfl ?_; intro w4 k7 hb4; simp only [Act.put]; replace ka := ka.step hb4; replace hT := hT.step hb4; replace k6 := k6.step hb4; have hltk7 := k7.lt)
    | ((with_reducible show wpList _ _ _ (⟨none, .store _ (.tmp 6) _, _, _, _, _⟩ :: _) _ _); refine wpList_hset2 (.tmp 6) (.tmp 27) rfl rfl k6 rfl rfl Hl1.out ?_; intro w5 k6s hb5 hoth5; simp only [Act.put]; replace ka := ka.far hb5 (by omega); replace hT := hT.far hb5 (by omega); have hs5 := hb5.size; replace k7 := hoth5 _ _ (by omega) k7)
    | ((with_reducible show wpList _ _ _ (⟨none, .store _ (.tmp 7) _, _, _, _, _⟩ :: _) _ _); refine wpList_hset2 (.tmp 7) (.tmp 28) rfl rfl k7 rfl rfl Hl2.out ?_; intro w6 k7s hb6 hoth6; simp only [Act.put]; replace ka := ka.far hb6 (by omega); replace hT := hT.far hb6 (by omega); have hs6 := hb6.size; replace k6s := hoth6 _ _ (by omega) k6s; have c0 := ka.c0; have c1 := ka.c1)
    | ((with_reducible show wpList _ _ _ (⟨some 36, .load _ _, _, _, _, _⟩ :: _) _ _); refine wpList_runG (by kernel_rfl) (.agg (x.map B).toArray) _ (run_load_op 34 (.tmp 35) rfl w.heap.size 2 rfl _ ka.l2) ?_; simp only [Act.put]))
  clear k6 k7 hb3 hb4 hb5 hb6 hoth5 hoth6
  generalize w2.heap.size = g6 at *
  generalize w3.heap.size = g7 at *
  refine (Hrb.out A c w6 hT.yours).mono ?_
  rintro e w7 ⟨rfl, hb⟩
  replace hT := hT.step hb
  replace ka := ka.step hb
  have k6 := k6s.step hb
  have k7 := k7s.step hb
  have hs7 := hb.size
  have hlt6 := k6.lt
  have hlt7' := k7.lt
  clear c0 c1 hb Hrb k6s k7s
  go_wp2_with (first
    | ((with_reducible show wpList _ _ _ (⟨some 9, .alloc _, _, _, _, _⟩ :: _) _ _); refine wpList_hnew rfl rfl ?_; intro w8 k9 hb3; simp only [Act.put]; replace ka := ka.step hb3; replace hT := hT.step hb3; replace k6 := k6.step hb3; replace k7 := k7.step hb3; have hltk9 := k9.lt; have hs3 := hb3.size)
    | ((with_reducible show wpList _ _ _ (⟨some 10, .alloc _, _, _, _, _⟩ :: _) _ _); refine wpList_hnew rfl rfl ?_; intro w9 k10 hb4; simp only [Act.put]; replace ka := ka.step hb4; replace hT := hT.step hb4; replace k6 := k6.step hb4; replace k7 := k7.step hb4; replace k9 := k9.step hb4; have hltk10 := k10.lt)
    | ((with_reducible show wpList _ _ _ (⟨none, .store _ (.tmp 9) _, _, _, _, _⟩ :: _) _ _); refine wpList_hset2 (.tmp 9) (.tmp 39) rfl rfl k9 rfl rfl Hl1.out ?_; intro w10 k9s hb5 hoth5; simp only [Act.put]; replace ka := ka.far hb5 (by omega); replace hT := hT.far hb5 (by omega); replace k6 := k6.far hb5 (by omega); replace k7 := k7.far hb5 (by omega); have hs5 := hb5.size; replace k10 := hoth5 _ _ (by omega) k10)
    | ((with_reducible show wpList _ _ _ (⟨none, .store _ (.tmp 10) _, _, _, _, _⟩ :: _) _ _); refine wpList_hset2 (.tmp 10) (.tmp 40) rfl rfl k10 rfl rfl Hl2.out ?_; intro w11 k10s hb6 hoth6; simp only [Act.put]; replace ka := ka.far hb6 (by omega); replace hT := hT.far hb6 (by omega); replace k6 := k6.far hb6 (by omega); replace k7 := k7.far hb6 (by omega); have hs6 := hb6.size; replace k9s := hoth6 _ _ (by omega) k9s))
  clear k9 k10 hb3 hb4 hb5 hb6 hoth5 hoth6
  have k9 := k9s
  have k10 := k10s
  clear k9s k10s
  generalize w7.heap.size = g9 at *
  generalize w8.heap.size = g10 at *
  have Hka := Lib.hid ka
  have Hk6 := Lib.hid k6
  have Hk7 := Lib.hid k7
  have Hk9 := Lib.hid k9
  have Hk10 := Lib.hid k10
  have HT := Lib.hid hT
  clear ka k6 k7 k9 k10 hT
  go_wp2_with fail
  have hS : Below w11.heap.size w11 w11.drew := (Below.refl _ _).drew
  refine wp_region_mix (fun W => Below w11.heap.size w11 W) [(0, true), (1, true), (2, true), (3, true), (4, true), (5, true), (6, true), (7, true), (8, true), (10, true), (11, true), (12, true), (13, true), (14, true), (15, true), (16, true), (17, true), (18, true), (9, false), (19, false), (20, true), (21, true), (22, true), (23, true), (24, true), (25, true), (26, true), (27, true), (28, true), (29, true), (30, true), (31, true), (32, true), (33, true), (34, true), (35, true), (36, true), (37, true), (38, true), (39, false), (40, true), (41, true), (42, false), (43, true), (44, true)] (by kernel_rfl) (by kernel_rfl) hS fun _ => ?_
  simp only [List.map_cons, List.map_nil, Array.getD_eq_getD_getElem?, List.getElem?_toArray, List.getElem?_cons_succ, List.getElem?_cons_zero, Option.getD_some]
  generalize w11.drew = W0 at hS ⊢
  refine wpMix_s (fun K hK => ?_)
  go_simp
  refine hK _ ?_
  clear hK K
  refine wpMix_v (by kernel_rfl) (.int .i64 m) (fun s => run_load_op 2 (.tmp 42) rfl w.heap.size 0 rfl _ (Hka.out.step s.ok).l0) ?_
  simp only [Act.put]
  refine wpMix_s (fun K hK => ?_)
  go_simp
  refine hK _ ?_
  clear hK K
  refine wpMix_v (by kernel_rfl) (.int .i64 n) (fun s => run_load_op 2 (.tmp 44) rfl w.heap.size 1 rfl _ (Hka.out.step s.ok).l1) ?_
  simp only [Act.put]
  refine wpMix_s (fun K hK => ?_)
  go_simp
  refine hK _ ?_
  clear hK K
  refine wpMix_load (by kernel_rfl) 34 (.tmp 46) rfl (w.heap.size) (2) rfl (x.map B).toArray (fun s => (Hka.out.step s.ok).l2) ?_
  simp only [Act.put]
  refine wpMix_s (fun K hK => ?_)
  go_simp
  refine hK _ ?_
  clear hK K
  refine wpMix_load (by kernel_rfl) 34 (.tmp 48) rfl (w.heap.size) (34) rfl (y.map B).toArray (fun s => (Hka.out.step s.ok).l3) ?_
  simp only [Act.put]
  refine wpMix_s (fun K hK => ?_)
  go_simp
  refine hK _ ?_
  clear hK K
  refine wpMix_s (fun K hK => ?_)
  go_simp
  refine hK _ ?_
  clear hK K
  refine wpMix_v (by kernel_rfl) (.int .i64 m) (fun s => run_load_op 2 (.tmp 52) rfl w.heap.size 0 rfl _ (Hka.out.step s.ok).l0) ?_
  simp only [Act.put]
  refine wpMix_s (fun K hK => ?_)
  go_simp
  refine hK _ ?_
  clear hK K
  refine wpMix_v (by kernel_rfl) (.int .i64 n) (fun s => run_load_op 2 (.tmp 54) rfl w.heap.size 1 rfl _ (Hka.out.step s.ok).l1) ?_
  simp only [Act.put]
  refine wpMix_s (fun K hK => ?_)
  go_simp
  refine hK _ ?_
  clear hK K
  refine wpMix_load (by kernel_rfl) 34 (.tmp 56) rfl (w.heap.size) (2) rfl (x.map B).toArray (fun s => (Hka.out.step s.ok).l2) ?_
  simp only [Act.put]
  refine wpMix_s (fun K hK => ?_)
  go_simp
  refine hK _ ?_
  clear hK K
  refine wpMix_load (by kernel_rfl) 34 (.tmp 58) rfl (w.heap.size) (34) rfl (y.map B).toArray (fun s => (Hka.out.step s.ok).l3) ?_
  simp only [Act.put]
  refine wpMix_s (fun K hK => ?_)
  go_simp
  refine hK _ ?_
  clear hK K
  refine wpMix_c (fun K hK => ?_) hS
  go_simp
  refine (Hcc.out A' c' W0 (HT.out.step hS).mine).mono ?_
  rintro e W0_1 ⟨rfl, hb'⟩
  refine hK _ _ ?_
  clear hK K
  replace hS := hS.trans (hb'.mono hS.size)
  refine ⟨hS, ?_⟩
  clear hb'
  refine wpMix_c (fun K hK => ?_) hS
  go_simp
  refine (Hrc.out A c W0_1 (HT.out.step hS).yours).mono ?_
  rintro e W0_2 ⟨rfl, hb'⟩
  refine hK _ _ ?_
  clear hK K
  replace hS := hS.trans (hb'.mono hS.size)
  refine ⟨hS, ?_⟩
  clear hb'
  refine wpMix_s (fun K hK => ?_)
  go_simp
  refine hK _ ?_
  clear hK K
  refine wpMix_s (fun K hK => ?_)
  go_simp
  refine hK _ ?_
  clear hK K
  refine wpMix_load (by kernel_rfl) 34 (.tmp 6) rfl (g6) (0) rfl (r1.map B).toArray (fun s => (Hk6.out.step s.ok).load) ?_
  simp only [Act.put]
  refine wpMix_load (by kernel_rfl) 34 (.tmp 9) rfl (g9) (0) rfl (r1.map B).toArray (fun s => (Hk9.out.step s.ok).load) ?_
  simp only [Act.put]
  refine wpMix_v (by kernel_rfl) (.bool true) (fun s => run_eql26_t (.tmp 64) (.tmp 65) _ r1 r1 rfl rfl rfl Hl1.out Hl1.out rfl s.W) ?_
  simp only [Act.put]
  refine wpMix_s (fun K hK => ?_)
  go_simp
  refine hK _ ?_
  clear hK K
  refine wpMix_s (fun K hK => ?_)
  go_simp
  refine hK _ ?_
  clear hK K
  refine wpMix_load (by kernel_rfl) 34 (.tmp 7) rfl (g7) (0) rfl (r2.map B).toArray (fun s => (Hk7.out.step s.ok).load) ?_
  simp only [Act.put]
  refine wpMix_load (by kernel_rfl) 34 (.tmp 10) rfl (g10) (0) rfl (r2.map B).toArray (fun s => (Hk10.out.step s.ok).load) ?_
  simp only [Act.put]
  refine wpMix_v (by kernel_rfl) (.bool true) (fun s => run_eql26_t (.tmp 69) (.tmp 70) _ r2 r2 rfl rfl rfl Hl2.out Hl2.out rfl s.W) ?_
  simp only [Act.put]
  refine wpMix_s (fun K hK => ?_)
  go_simp
  refine hK _ ?_
  clear hK K
  refine wpMix_s (fun K hK => ?_)
  go_simp
  refine hK _ ?_
  clear hK K
  refine wpMix_s (fun K hK => ?_)
  go_simp
  refine hK _ ?_
  clear hK K
  refine wpMix_s (fun K hK => ?_)
  go_simp
  refine hK _ ?_
  clear hK K
  refine wpMix_s (fun K hK => ?_)
  go_simp
  refine hK _ ?_
  clear hK K
  refine wpMix_s (fun K hK => ?_)
  go_simp
  refine hK _ ?_
  clear hK K
  refine wpMix_s (fun K hK => ?_)
  go_simp
  refine hK _ ?_
  clear hK K
  refine wpMix_s (fun K hK => ?_)
  go_simp
  refine hK _ ?_
  clear hK K
  refine wpMix_s (fun K hK => ?_)
  go_simp
  refine hK _ ?_
  clear hK K
  refine wpMix_c (fun K hK => ?_) hS
  go_simp
  refine (kept12_any hs A' A ln c' c W0_2 (HT.out.step hS).kept (HT.out.step hS).yours (by omega)).mono ?_
  rintro e W0_3 ⟨rfl, hb'⟩
  refine hK _ _ ?_
  clear hK K
  replace hS := hS.trans (hb'.mono hS.size)
  refine ⟨hS, ?_⟩
  clear hb'
  refine wpMix_s (fun K hK => ?_)
  go_simp
  refine hK _ ?_
  clear hK K
  refine wpMix_s (fun K hK => ?_)
  go_simp
  refine hK _ ?_
  clear hK K
  refine wpMix_c (fun K hK => ?_) hS
  go_simp
  refine (known12_any W0_3).mono ?_
  rintro e W0_4 ⟨rfl, hb'⟩
  refine hK _ _ ?_
  clear hK K
  replace hS := hS.trans (hb'.mono hS.size)
  refine ⟨hS, ?_⟩
  clear hb'
  refine wpMix_s (fun K hK => ?_)
  go_simp
  refine hK _ ?_
  clear hK K
  refine wpMix_s (fun K hK => ?_)
  go_simp
  refine hK _ ?_
  clear hK K
  refine wpMix_nil ?_
  intro _
  go_wp2_with fail
  go_ret
  exact ⟨rfl, HT.out.bel.trans (hS.mono HT.out.bel.size)⟩
end Go.Proofs.Ytgcbdnoniikboaa
