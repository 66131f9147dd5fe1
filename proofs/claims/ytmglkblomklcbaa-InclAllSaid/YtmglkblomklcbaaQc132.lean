/- notarylaw11.InclChecks. -/
import Derived.Test.YtmglkblomklcbaaQc128
import Derived.Test.YtmglkblomklcbaaQc131
import Derived.Test.YtmglkblomklcbaaQc129
import Derived.Test.YtmglkblomklcbaaQc130
namespace Go.Proofs.Ytmglkblomklcbaa
open Go Go.RowKit

theorem aggPt : ∀ w : World, (isAgg 47).run Try.prog w = .ok true w := fun _ => by kernel_rfl
theorem sizePt : ∀ w : World, (sizeOf 47).run Try.prog w = .ok 33 w := fun _ => by kernel_rfl
theorem owns_fewerH {w : World} {base g n m c s : Nat} {e : TypeId} {xs : List Value} (h : w.ownsRow base e s (.slice (some ⟨g, 0, none⟩) m c) m xs) (hn : n ≤ m) : w.ownsRow base e s (.slice (some ⟨g, 0, none⟩) n c) n (xs.take (n * s)) := owns_fewerT h hn
/-- what is asked, in its box -/
structure AskB (W : World) (g : Nat) (lf : List UInt8) (i n : Int) (root : List UInt8) : Prop where
  blk : Blk W g 49 (lf.map B ++ .int .i64 i :: .int .i64 n :: root.map B).toArray
  ll : lf.length = 32
  rl : root.length = 32
section
variable {W W' : World} {g : Nat} {lf : List UInt8} {i n : Int} {root : List UInt8}
theorem AskB.step (h : AskB W g lf i n root) (hb : Below W.heap.size W W') : AskB W' g lf i n root := ⟨h.blk.step hb, h.ll, h.rl⟩
theorem AskB.leaf (h : AskB W g lf i n root) : (Instr.loadAt 45 (.pointer (some ⟨g, 0, none⟩))).run Try.prog W = .ok (.agg (lf.map B).toArray) W :=
  run_load_agg (agg26 _) (size26 _) g 0 (lf.map B) (by simp [h.ll]) fun j u hu => by
    rw [h.blk.cell, List.getElem?_toArray, Nat.zero_add, List.getElem?_append_left (List.getElem?_eq_some_iff.1 hu).1]
    exact hu
theorem AskB.num (h : AskB W g lf i n root) : W.cell? ⟨g, 32, none⟩ = some (.int .i64 i) := by
  rw [h.blk.cell, List.getElem?_toArray, List.getElem?_append_right (by rw [List.length_map, h.ll]; omega), List.length_map, h.ll]; rfl
theorem AskB.size (h : AskB W g lf i n root) : W.cell? ⟨g, 33, none⟩ = some (.int .i64 n) := by
  rw [h.blk.cell, List.getElem?_toArray, List.getElem?_append_right (by rw [List.length_map, h.ll]; omega), List.length_map, h.ll]; rfl
theorem AskB.point (h : AskB W g lf i n root) : (Instr.loadAt 47 (.pointer (some ⟨g, 33, none⟩))).run Try.prog W = .ok (.agg (.int .i64 n :: root.map B).toArray) W :=
  run_load_agg (aggPt _) (sizePt _) g 33 (.int .i64 n :: root.map B) (by simp [h.rl]) fun j u hu => by
    rw [h.blk.cell, List.getElem?_toArray, List.getElem?_append_right (by rw [List.length_map, h.ll]; omega), List.length_map, h.ll, show 33 + j - 32 = j + 1 by omega, List.getElem?_cons_succ]
    exact hu
end

set_option maxHeartbeats 8000000 in
set_option maxRecDepth 100000 in
theorem inclchecks_any (ps : List (List UInt8)) (A : Option Addr) (np c : Nat) (lf : List UInt8) (i n : Int) (root : List UInt8) (lv : Int) (w : World) (h : Hs w (· < w.heap.size) A np c ps) (hll : lf.length = 32) (hrl : root.length = 32) (hn : n ≤ 9223372036854775807)
    (hnp : np ≤ 1099511627776) :
    Calls Try.prog 6 #[.agg (lf.map B ++ .int .i64 i :: .int .i64 n :: root.map B).toArray, .slice A np c, .int .i64 lv] w fun e w' => e = .returned (.bool true) ∧ Below w.heap.size w w' := by
  have hlen := h.len
  have h32 := h.all
  have hroom := h.sl.room
  have hmx := h.sl.max
  unfold maxLen at hmx
  have hrow := fun W h => row11_any ps A np c W h (by omega)
  have hro := fun A c W (h : Hs W (fun _ => True) A np c ps) => iroot_any lf i n ps A np c W hll hn h
  have hfr := fun A c W (h : Hs W (fun _ => True) A np c ps) => r11from_any lf i n ps A np c W hll hn h
  have hru := fun A c W (h : Hs W (fun _ => True) A np c ps) => r11Up_any lf i n ps A np c W hll hn h
  have hup := fun A c W (h : Hs W (fun _ => True) A np c ps) => iup_any lf i n ps A np c W hll hn h
  have hck := fun A c W (h : Hs W (fun _ => True) A np c ps) => icheck_any lf i n root ps A np c W hll hrl hn h
  have hrc := fun A c W (h : Hs W (fun _ => True) A np c ps) => r11check_any lf i n root ps A np c W hll hrl hn h
  obtain ⟨hfl, -⟩ := fromA_len lf i n ps hll
  obtain ⟨hq1, -, -, -, hq4⟩ := wayA_q lf i n ps hll
  have hq4 := hq4 hn
  obtain ⟨⟨r, e0⟩, hre⟩ : ∃ s, fromA lf i n ps = s := ⟨_, rfl⟩
  obtain ⟨⟨q, e1⟩, hqe⟩ : ∃ s, wayA lf i n ps = s := ⟨_, rfl⟩
  obtain ⟨t0, hte⟩ : ∃ s, takenA lf i n root ps = s := ⟨_, rfl⟩
  rw [hre] at hro hfr hfl
  rw [hqe] at hru hup hq1 hq4
  rw [hte] at hck hrc
  dsimp only at hro hfr hfl hru hup hq1 hq4
  obtain ⟨nq, hnq⟩ : ∃ k, q.length = k := ⟨_, rfl⟩
  rw [hnq] at hru hup hq4
  obtain ⟨w1, hw1⟩ : ∃ w1, w.alloc (.cells (lf.map B ++ .int .i64 i :: .int .i64 n :: root.map B).toArray 49) = w1 := ⟨_, rfl⟩
  have hb1 : Below w.heap.size w w1 := by rw [← hw1]; exact (Below.refl _ _).alloc (Nat.le_refl _) _
  have ka : AskB w1 w.heap.size lf i n root := ⟨by rw [← hw1]; exact Blk.new _ _ _, hll, hrl⟩
  have h1 := h.step hb1
  have hs1 := hb1.size
  obtain ⟨ask, hask⟩ : ∃ a, (lf.map B ++ .int .i64 i :: .int .i64 n :: root.map B) = a := ⟨_, rfl⟩
  rw [hask] at hw1 ⊢
  have Hw1 := Lib.hid hw1
  have Hrow := Lib.hid hrow
  have Hro := Lib.hid hro
  have Hfr := Lib.hid hfr
  have Hru := Lib.hid hru
  have Hup := Lib.hid hup
  have Hck := Lib.hid hck
  have Hrc := Lib.hid hrc
  have Hfl := Lib.hid hfl
  have Hq1 := Lib.hid hq1
  have Hnq := Lib.hid hnq
  have Hlen := Lib.hid hlen
  have H32h := Lib.hid h32
  clear hw1 hrow hro hfr hru hup hck hrc hfl hq1 hnq hlen h32 hre hqe hte hask h hll hrl
  go_enter Try.func6, Try.ntmps6
  go_wp2_with fail
  rw [Hw1.out]
  refine (Hrow.out w1 (h1.weak fun _ _ _ => trivial)).mono ?_
  rintro e w2 ⟨gm, cm, rfl, hom, hb2⟩
  obtain ⟨Am, cm', hv1, hm⟩ := Hs.of_owns hom (by rw [List.length_append, Hlen.out]; rfl) (H32h.out.append (fun x hx => by rw [List.mem_singleton.1 hx]; exact length_oneHash _))
  cases hv1
  have hmm := hm.weak (Y := fun _ => True) fun _ _ _ => trivial
  have hgm := (hom.lt gm rfl).2
  have hcm := hmm.sl.room
  have hcx := hmm.sl.max
  unfold maxLen at hcx
  have hsrc := h1.step hb2
  replace ka := ka.step hb2
  have hbw := hb1.trans (hb2.mono hb1.size)
  have hs2 := hb2.size
  have d1 := ka.num
  have d2 := ka.size
  clear hm h1 hb1 hb2 Hrow
  go_wp2_with ((with_reducible show wpList _ _ _ (⟨some 19, .load _ _, _, _, _, _⟩ :: _) _ _); refine wpList_runG (by kernel_rfl) (.agg (lf.map B).toArray) _ (run_load_op 45 (.tmp 18) rfl _ 0 rfl _ ka.leaf) ?_; simp only [Act.put])
  refine (Hro.out _ _ w2 (hmm.fewer Hlen.out)).mono ?_
  rintro e w3 ⟨rfl, hb3⟩
  replace hom := owns_step hom hb3
  replace hmm := hmm.step hb3
  replace hsrc := hsrc.step hb3
  replace ka := ka.step hb3
  replace hbw := hbw.trans (hb3.mono hbw.size)
  have hs3 := hb3.size
  clear hb3 d1 d2
  have d1 := ka.num
  have d2 := ka.size
  go_wp2_with (first
    | ((with_reducible show wpList _ _ _ (⟨some 8, .alloc _, _, _, _, _⟩ :: _) _ _); refine wpList_hvar (.tmp 8) (.tmp 27) rfl rfl rfl rfl rfl rfl Hfl.out ?_; intro w4 k8 hb4; simp only [Act.put]; have d1 := (ka.step hb4).num; have d2 := (ka.step hb4).size; have ka4 := ka.step hb4)
    | ((with_reducible show wpList _ _ _ (⟨some 31, .load _ _, _, _, _, _⟩ :: _) _ _); refine wpList_runG (by kernel_rfl) (.agg (lf.map B).toArray) _ (run_load_op 45 (.tmp 30) rfl _ 0 rfl _ ka4.leaf) ?_; simp only [Act.put]))
  replace hom := owns_step hom hb4
  replace hmm := hmm.step hb4
  replace hsrc := hsrc.step hb4
  replace hbw := hbw.trans (hb4.mono hbw.size)
  clear ka
  have ka := ka4
  have hs4 := hb4.size
  clear ka4 hb4 d1 d2
  refine (Hfr.out _ _ w4 (hsrc.weak fun _ _ _ => trivial)).mono ?_
  rintro e w5 ⟨rfl, hb5⟩
  replace hom := owns_step hom hb5
  replace hmm := hmm.step hb5
  replace hsrc := hsrc.step hb5
  replace ka := ka.step hb5
  replace k8 := k8.step hb5
  replace hbw := hbw.trans (hb5.mono hbw.size)
  have hs5 := hb5.size
  clear hb5
  have d1 := ka.num
  have d2 := ka.size
  go_wp2_with (first
    | ((with_reducible show wpList _ _ _ (⟨some 10, .alloc _, _, _, _, _⟩ :: _) _ _); refine wpList_hvar (.tmp 10) (.tmp 39) rfl rfl rfl rfl rfl rfl Hfl.out ?_; intro w6 k10 hb6; simp only [Act.put]; have d1 := (ka.step hb6).num; have d2 := (ka.step hb6).size; have ka4 := ka.step hb6)
    | ((with_reducible show wpList _ _ _ (⟨some 43, .load _ _, _, _, _, _⟩ :: _) _ _); refine wpList_runG (by kernel_rfl) (.agg (lf.map B).toArray) _ (run_load_op 45 (.tmp 42) rfl _ 0 rfl _ ka4.leaf) ?_; simp only [Act.put]))
  replace hom := owns_step hom hb6
  replace hmm := hmm.step hb6
  replace hsrc := hsrc.step hb6
  replace k8 := k8.step hb6
  replace hbw := hbw.trans (hb6.mono hbw.size)
  clear ka
  have ka := ka4
  have hs6 := hb6.size
  clear ka4 hb6 d1 d2
  refine (Hru.out _ _ w6 (hsrc.weak fun _ _ _ => trivial)).mono ?_
  rintro e w7 ⟨vs, rfl, hos, hb7⟩
  obtain ⟨As, cs, rfl, hst⟩ := St.of_owns hos Hnq.out Hq1.out
  replace hst := hst.weak (Y := fun b => w2.heap.size ≤ b) fun b _ hx => by have := hx.1; omega
  replace hom := owns_step hom hb7
  replace hmm := hmm.step hb7
  replace hsrc := hsrc.step hb7
  replace ka := ka.step hb7
  replace k8 := k8.step hb7
  replace k10 := k10.step hb7
  replace hbw := hbw.trans (hb7.mono hbw.size)
  have hs7 := hb7.size
  have hrs := hst.sl.room
  have hms := hst.sl.max
  unfold maxLen at hms
  clear hb7 hos
  have d1 := ka.num
  have d2 := ka.size
  go_wp2_with (first
    | ((with_reducible show wpList _ _ _ (⟨some 54, .load _ _, _, _, _, _⟩ :: _) _ _); refine wpList_runG (by kernel_rfl) (.agg (lf.map B).toArray) _ (run_load_op 45 (.tmp 53) rfl _ 0 rfl _ ka.leaf) ?_; simp only [Act.put]))
  refine (Hup.out _ _ w7 (hmm.fewer Hlen.out)).mono ?_
  rintro e w8 ⟨gu, Au, cu, rfl, kbox, hsu, hgu, hb8⟩
  replace hom := owns_step hom hb8
  replace hmm := hmm.step hb8
  replace hsrc := hsrc.step hb8
  replace ka := ka.step hb8
  replace k8 := k8.step hb8
  replace k10 := k10.step hb8
  replace hst := hst.step hb8
  replace hbw := hbw.trans (hb8.mono hbw.size)
  have hs8 := hb8.size
  replace hsu := hsu.weak (Y := fun b => w2.heap.size ≤ b) fun b _ hx => by have := hx.1; omega
  clear hb8 d1 d2
  have d1 : ∀ s : InC (fun W => Below w8.heap.size w8 W), s.W.cell? ⟨w.heap.size, 32, none⟩ = some (.int .i64 i) := fun s => (ka.step s.ok).num
  have hS : Below w8.heap.size w8 w8.drew := (Below.refl _ _).drew
  have l8 : ∀ s : InC (fun W => Below w8.heap.size w8 W), (Instr.loadAt 45 (.pointer (some ⟨w3.heap.size, 0, none⟩))).run Try.prog s.W = .ok (.agg (r.map B).toArray) s.W := fun s => (k8.step s.ok).load
  have l10 : ∀ s : InC (fun W => Below w8.heap.size w8 W), (Instr.loadAt 45 (.pointer (some ⟨w5.heap.size, 0, none⟩))).run Try.prog s.W = .ok (.agg (r.map B).toArray) s.W := fun s => (k10.step s.ok).load
  have lL : ∀ s : InC (fun W => Below w8.heap.size w8 W), (Instr.loadAt 45 (.pointer (some ⟨w.heap.size, 0, none⟩))).run Try.prog s.W = .ok (.agg (lf.map B).toArray) s.W := fun s => (ka.step s.ok).leaf
  have lP : ∀ s : InC (fun W => Below w8.heap.size w8 W), (Instr.loadAt 47 (.pointer (some ⟨w.heap.size, 33, none⟩))).run Try.prog s.W = .ok (.agg (.int .i64 n :: root.map B).toArray) s.W := fun s => (ka.step s.ok).point
  have L8 := Lib.hid l8
  have L10 := Lib.hid l10
  have LL := Lib.hid lL
  have LP := Lib.hid lP
  clear l8 l10 lL lP
  go_wp2_with fail
  refine wp_region_mix (fun W => Below w8.heap.size w8 W) [(0, true), (1, true), (2, true), (3, true), (4, true), (6, true), (5, false), (7, true), (8, true), (9, true), (10, true), (11, true), (12, true), (13, true), (14, true), (15, true), (16, true), (19, true), (20, true), (21, true), (22, true), (23, true), (24, true), (25, true), (17, false), (18, false), (26, false), (27, true), (28, true)] (by kernel_rfl) (by kernel_rfl) hS fun _ => ?_
  simp only [List.map_cons, List.map_nil, Array.getD_eq_getD_getElem?, List.getElem?_toArray, List.getElem?_cons_succ, List.getElem?_cons_zero, Option.getD_some]
  generalize w8.drew = u9 at hS ⊢
  refine wpMix_load (by kernel_rfl) 45 (.tmp 8) rfl (w3.heap.size) (0) rfl (r.map B).toArray (L8.out) ?_
  simp only [Act.put]
  refine wpMix_load (by kernel_rfl) 45 (.tmp 10) rfl (w5.heap.size) (0) rfl (r.map B).toArray (L10.out) ?_
  simp only [Act.put]
  refine wpMix_v (by kernel_rfl) (.bool false) (fun s => run_neq26_f (.tmp 62) (.tmp 63) _ r r rfl rfl rfl Hfl.out Hfl.out rfl s.W) ?_
  simp only [Act.put]
  refine wpMix_s (fun K hK => ?_)
  go_simp
  refine hK _ ?_
  clear hK K
  refine wpMix_s (fun K hK => ?_)
  go_simp
  refine hK _ ?_
  clear hK K
  refine wpMix_s (fun K hK => ?_)
  go_simp
  refine hK _ ?_
  clear hK K
  refine wpMix_c (fun K hK => ?_) hS
  go_simp
  refine (num11_any _ u9).mono ?_
  rintro e _ ⟨rfl, rfl⟩
  refine hK _ _ ?_
  clear hK K
  refine ⟨hS, ?_⟩
  refine wpMix_s (fun K hK => ?_)
  go_simp
  refine hK _ ?_
  clear hK K
  refine wpMix_s (fun K hK => ?_)
  go_simp
  refine hK _ ?_
  clear hK K
  refine wpMix_s (fun K hK => ?_)
  go_simp
  refine hK _ ?_
  clear hK K
  refine wpMix_s (fun K hK => ?_)
  go_simp
  refine hK _ ?_
  clear hK K
  refine wpMix_load (by kernel_rfl) 45 (.tmp 72) rfl (w.heap.size) (0) rfl (lf.map B).toArray (LL.out) ?_
  simp only [Act.put]
  refine wpMix_s (fun K hK => ?_)
  go_simp
  refine hK _ ?_
  clear hK K
  refine wpMix_s (fun K hK => ?_)
  go_simp
  refine hK _ ?_
  clear hK K
  refine wpMix_s (fun K hK => ?_)
  go_simp
  refine hK _ ?_
  clear hK K
  refine wpMix_load (by kernel_rfl) 47 (.tmp 76) rfl (w.heap.size) (33) rfl (.int .i64 n :: root.map B).toArray (LP.out) ?_
  simp only [Act.put]
  refine wpMix_s (fun K hK => ?_)
  go_simp
  refine hK _ ?_
  clear hK K
  refine wpMix_s (fun K hK => ?_)
  go_simp
  refine hK _ ?_
  clear hK K
  refine wpMix_load (by kernel_rfl) 45 (.tmp 81) rfl (w.heap.size) (0) rfl (lf.map B).toArray (LL.out) ?_
  simp only [Act.put]
  refine wpMix_s (fun K hK => ?_)
  go_simp
  refine hK _ ?_
  clear hK K
  refine wpMix_s (fun K hK => ?_)
  go_simp
  refine hK _ ?_
  clear hK K
  refine wpMix_s (fun K hK => ?_)
  go_simp
  refine hK _ ?_
  clear hK K
  refine wpMix_load (by kernel_rfl) 47 (.tmp 85) rfl (w.heap.size) (33) rfl (.int .i64 n :: root.map B).toArray (LP.out) ?_
  simp only [Act.put]
  refine wpMix_s (fun K hK => ?_)
  go_simp
  refine hK _ ?_
  clear hK K
  refine wpMix_c (fun K hK => ?_) hS
  go_simp
  refine (Hck.out _ _ u9 ((hmm.step hS).fewer Hlen.out)).mono ?_
  rintro e u9_1 ⟨rfl, hb'⟩
  refine hK _ _ ?_
  clear hK K
  replace hS := hS.trans (hb'.mono hS.size)
  refine ⟨hS, ?_⟩
  clear hb'
  refine wpMix_c (fun K hK => ?_) hS
  go_simp
  refine (num11_any _ u9_1).mono ?_
  rintro e _ ⟨rfl, rfl⟩
  refine hK _ _ ?_
  clear hK K
  refine ⟨hS, ?_⟩
  refine wpMix_c (fun K hK => ?_) hS
  go_simp
  refine (Hrc.out _ _ u9_1 ((hsrc.step hS).weak fun _ _ _ => trivial)).mono ?_
  rintro e u9_2 ⟨rfl, hb'⟩
  refine hK _ _ ?_
  clear hK K
  replace hS := hS.trans (hb'.mono hS.size)
  refine ⟨hS, ?_⟩
  clear hb'
  refine wpMix_s (fun K hK => ?_)
  go_simp
  refine hK _ ?_
  clear hK K
  refine wpMix_s (fun K hK => ?_)
  go_simp
  refine hK _ ?_
  clear hK K
  refine wpMix_nil ?_
  intro _
  replace hom := owns_step hom hS
  replace hmm := hmm.step hS
  replace hsrc := hsrc.step hS
  replace hst := hst.step hS
  replace kbox := kbox.step hS
  replace hsu := hsu.step hS
  replace hbw := hbw.trans (hS.mono hbw.size)
  generalize u9_2 = w10 at *
  have hs10 := hS.size
  clear hS d1 ka k8 k10
  go_wp2_with fail
  refine (left11_any ps gm A np cm c w10 hmm (hsrc.weak fun _ _ _ => trivial) (by omega)).mono ?_
  rintro e w11 ⟨rfl, hb11⟩
  replace hom := owns_step hom hb11
  replace hst := hst.step hb11
  replace kbox := kbox.step hb11
  replace hsu := hsu.step hb11
  replace hbw := hbw.trans (hb11.mono hbw.size)
  have hs11 := hb11.size
  clear hb11 hmm hsrc
  go_wp2_with fail
  refine (spoilt11_any w11 w1.heap.size np _ _ (owns_fewerH hom (by omega)) (by omega) (by omega)).mono ?_
  rintro e w12 ⟨rfl, hg12⟩
  have hgw := (hom.lt gm rfl).1
  replace hst := hst.grown hg12 (fun b _ hx e => by have hx : w2.heap.size ≤ b := hx; have e : b = gm := Option.some.inj e; omega)
  replace hsu := hsu.grown hg12 (fun b _ hx e => by have hx : w2.heap.size ≤ b := hx; have e : b = gm := Option.some.inj e; omega)
  replace kbox := kbox.grown hg12 (fun e => by have e : gu = gm := Option.some.inj e; omega)
  replace hbw := hbw.grown hg12 hbw.size (fun r e => by have e : gm = r := Option.some.inj e; omega)
  clear hg12 hom
  go_wp2_with fail
  refine (follows_any q gu Au cu As nq cs lv w12 kbox (hsu.weak fun _ _ _ => trivial) (hst.weak fun _ _ _ => trivial) (by omega)).mono ?_
  rintro e w13 ⟨rfl, hb13⟩
  replace hst := hst.step hb13
  replace kbox := kbox.step hb13
  replace hsu := hsu.step hb13
  replace hbw := hbw.trans (hb13.mono hbw.size)
  clear hb13
  go_wp2_with fail
  refine (follows_any q gu Au cu As nq cs 0 w13 kbox (hsu.weak fun _ _ _ => trivial) (hst.weak fun _ _ _ => trivial) (by omega)).mono ?_
  rintro e w14 ⟨rfl, hb14⟩
  replace hbw := hbw.trans (hb14.mono hbw.size)
  clear hb14
  go_wp2_with (go_at_call 9; refine (works11_any _).mono ?_; rintro e w15 ⟨rfl, hb15⟩)
  go_ret
  exact ⟨rfl, hbw.trans (hb15.mono hbw.size)⟩
end Go.Proofs.Ytmglkblomklcbaa
/- notarylaw11.InclAll. -/
namespace Go.Proofs.Ytmglkblomklcbaa
open Go Go.RowKit

set_option maxHeartbeats 2000000 in
set_option maxRecDepth 100000 in
theorem inclall_any (hs : List (List UInt8)) (A : Option Addr) (ln c : Nat) (lv : Int) (w : World) (h : Hs w (· < w.heap.size) A ln c hs) :
    Calls Try.prog 5 #[.slice A ln c, .int .i64 lv] w fun e w' => e = .returned (.bool true) ∧ Below w.heap.size w w' := by
  by_cases hbig : 60 < ln
  · have hd : decide ((60 : Int) < (ln : Int)) = true := by simp; omega
    clear h
    go_enter Try.func5, Try.ntmps5
    go_wp2_with (go_at_call 9; refine (works11_any _).mono ?_; rintro e w2 ⟨rfl, hb2⟩)
    go_ret
    exact ⟨rfl, hb2⟩
  have hd : decide ((60 : Int) < (ln : Int)) = false := by simp; omega
  have hlen := h.len
  have h32 := h.all
  have hroom := h.sl.room
  have hmx := h.sl.max
  unfold maxLen at hmx
  have Hlen := Lib.hid hlen
  have H32h := Lib.hid h32
  have hrow := row11_any hs A ln c w (h.weak fun _ _ _ => trivial) (by omega)
  have Hrow := Lib.hid hrow
  clear hrow hlen h32
  go_enter Try.func5, Try.ntmps5
  go_wp2_with fail
  refine Hrow.out.mono ?_
  rintro e w2 ⟨gm, cm, rfl, hom, hb2⟩
  obtain ⟨Am, cm', hv1, hm⟩ := Hs.of_owns hom (by rw [List.length_append, Hlen.out]; rfl) (H32h.out.append (fun x hx => by rw [List.mem_singleton.1 hx]; exact length_oneHash _))
  cases hv1
  replace hm := hm.weak (Y := fun _ => True) fun _ _ _ => trivial
  have hgm := (hom.lt gm rfl).2
  have hgw := (hom.lt gm rfl).1
  have hcm := hm.sl.room
  have hcx := hm.sl.max
  unfold maxLen at hcx
  have hsrc := h.step hb2
  have hs2 := hb2.size
  clear h Hrow
  go_wp2_with fail
  refine (iall_any hs _ ln cm w2 (hm.fewer Hlen.out) (by omega)).mono ?_
  rintro e w3 ⟨A3, c3, rfl, kbox, hl3, hb3⟩
  replace hom := owns_step hom hb3
  replace hm := hm.step hb3
  replace hsrc := hsrc.step hb3
  have hbw := hb2.trans (hb3.mono hb2.size)
  have hs3 := hb3.size
  clear hb2 hb3
  go_wp2_with fail
  refine (left11_any hs gm A ln cm c w3 hm (hsrc.weak fun _ _ _ => trivial) (by omega)).mono ?_
  rintro e w4 ⟨rfl, hb4⟩
  replace hom := owns_step hom hb4
  replace hsrc := hsrc.step hb4
  replace kbox := kbox.step hb4
  replace hl3 := hl3.step hb4
  replace hbw := hbw.trans (hb4.mono hbw.size)
  have hs4 := hb4.size
  clear hb4 hm
  go_wp2_with fail
  refine (spoilt11_any w4 w.heap.size ln _ _ (owns_fewerH hom (by omega)) (by omega) (by omega)).mono ?_
  rintro e w5 ⟨rfl, hg5⟩
  replace hsrc := hsrc.grown hg5 (fun b _ hx e => by have hx : b < w.heap.size := hx; have e : b = gm := Option.some.inj e; omega)
  replace kbox := kbox.grown hg5 (fun e => by have e : w2.heap.size = gm := Option.some.inj e; omega)
  replace hl3 := hl3.grown hg5 (fun b _ hx e => by have hx : w2.heap.size < b := hx; have e : b = gm := Option.some.inj e; omega)
  replace hbw := hbw.grown hg5 hbw.size (fun r e => by have e : gm = r := Option.some.inj e; omega)
  clear hg5 hom
  go_wp2_with fail
  refine (every_any hs w2.heap.size A3 c3 A ln c lv w5 kbox (hl3.weak fun _ _ _ => trivial) (hsrc.weak fun _ _ _ => trivial) (by omega)).mono ?_
  rintro e w6 ⟨rfl, hb6⟩
  replace hsrc := hsrc.step hb6
  replace kbox := kbox.step hb6
  replace hl3 := hl3.step hb6
  replace hbw := hbw.trans (hb6.mono hbw.size)
  clear hb6
  go_wp2_with fail
  refine (every_any hs w2.heap.size A3 c3 A ln c 0 w6 kbox (hl3.weak fun _ _ _ => trivial) (hsrc.weak fun _ _ _ => trivial) (by omega)).mono ?_
  rintro e w7 ⟨rfl, hb7⟩
  replace hbw := hbw.trans (hb7.mono hbw.size)
  clear hb7
  go_wp2_with (go_at_call 9; refine (works11_any _).mono ?_; rintro e w8 ⟨rfl, hb8⟩)
  go_ret
  exact ⟨rfl, hbw.trans (hb8.mono hbw.size)⟩
end Go.Proofs.Ytmglkblomklcbaa
