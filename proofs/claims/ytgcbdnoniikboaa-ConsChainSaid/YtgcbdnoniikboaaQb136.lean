/- notaryref12.both. -/
import Derived.Test.YtgcbdnoniikboaaQb121
import Derived.Test.YtgcbdnoniikboaaQb128
import Derived.Test.YtgcbdnoniikboaaQb117
namespace Go.Proofs.Ytgcbdnoniikboaa
open Go Go.RowKit

theorem results_cells2 {fn : Func} {p q : Tmp} {ty : TypeId} (h : fn.results = #[.cell p ty, .cell q ty]) (tmps : Array Value) (P : Program) (w : World) :
    (results fn tmps).run P w =
      ((asAddr (tmps.getD p undef)).run P w).andThen fun a w₁ => ((loadVar ty a).run P w₁).andThen fun v w₂ => ((asAddr (tmps.getD q undef)).run P w₂).andThen fun b w₃ => ((loadVar ty b).run P w₃).andThen fun u w₄ => .ok (.tuple #[v, u]) w₄ := by
  simp only [results, h]
  simp [Sem.run_bind, Result.andThen]
theorem tuple_cells2 {fn : Func} {p q : Tmp} (h : fn.results = #[.cell p 34, .cell q 34]) (tmps : Array Value) (w : World) (g g' : Nat) (x y : List UInt8)
    (hp : tmps.getD p undef = .pointer (some ⟨g, 0, none⟩)) (hq : tmps.getD q undef = .pointer (some ⟨g', 0, none⟩)) (hx : HV w g x) (hy : HV w g' y) :
    (results fn tmps).run Try.prog w = .ok (.tuple #[.agg (x.map B).toArray, .agg (y.map B).toArray]) w := by
  have l1 := run_loadVar_row (P := Try.prog) w g _ 34 _ (0, 0) _ hx.blk Try.underlying34 rfl (by rw [show (x.map B).toArray.size = 32 by simp [hx.len]]; exact info26)
  have l2 := run_loadVar_row (P := Try.prog) w g' _ 34 _ (0, 0) _ hy.blk Try.underlying34 rfl (by rw [show (y.map B).toArray.size = 32 by simp [hy.len]]; exact info26)
  rw [results_cells2 h, hp, hq]
  simp only [asAddr, Sem.run_pure, Result.andThen_ok, l1, l2]

set_option maxHeartbeats 8000000 in
set_option maxRecDepth 100000 in
theorem rboth_rec (d : Nat) : ∀ (m n : Nat) (whole : Bool) (x : List UInt8) (p : List (List UInt8)) (A : Option Addr) (c : Nat) (w : World), n ≤ d → 1 ≤ m → m ≤ n → n ≤ 9223372036854775807 → x.length = 32 → Hs w (fun _ => True) A (cntS m n whole) c p →
    Calls Try.prog 72 #[.int .i64 (m : Int), .int .i64 (n : Int), .bool whole, .agg (x.map B).toArray, .slice A (cntS m n whole) c] w fun e w' => e = .returned (.tuple #[.agg ((bothL m n whole x p).1.map B).toArray, .agg ((bothL m n whole x p).2.map B).toArray]) ∧ Below w.heap.size w w' := by
  induction d with
  | zero => intro m n whole x p A c w h h1 h2; omega
  | succ d ih =>
    intro m n whole x p A c w hd h1 h2 hn hx h
    have hroom := h.sl.room
    have hmx := h.sl.max
    unfold maxLen at hmx
    have h32 := h.all
    have hlen := h.len
    obtain ⟨w3, hw3⟩ : ∃ w3, ((w.alloc (.cells (x.map B).toArray 34)).alloc (.cells zeroHash 34)).alloc (.cells zeroHash 34) = w3 := ⟨_, rfl⟩
    have hb3 : Below w.heap.size w w3 := by rw [← hw3]; exact (((Below.refl _ _).alloc (Nat.le_refl _) _).alloc (by simp) _).alloc (by simp; omega) _
    have hsz3 : w3.heap.size = w.heap.size + 1 + 1 + 1 := by rw [← hw3]; simp
    have k8 : HV w3 w.heap.size x := ⟨by rw [← hw3]; exact ((Blk.new _ _ _).alloc _).alloc _, hx⟩
    have k10 : HV w3 (w.heap.size + 1) (List.replicate 32 0) := ⟨by rw [← hw3]; exact (Blk.new' _ _ zeroHash _ (by simp)).alloc _, rfl⟩
    have k11 : HV w3 (w.heap.size + 1 + 1) (List.replicate 32 0) := ⟨by rw [← hw3]; exact Blk.new' _ _ zeroHash _ (by simp), rfl⟩
    have h3 := (h.weak (Y := (· < w.heap.size)) fun b hb _ => hb).step hb3
    have hw3' : ((w.alloc (.cells (x.map B).toArray 34)).alloc (.cells #[.int .u8 0, .int .u8 0, .int .u8 0, .int .u8 0, .int .u8 0, .int .u8 0, .int .u8 0, .int .u8 0, .int .u8 0, .int .u8 0, .int .u8 0, .int .u8 0, .int .u8 0, .int .u8 0, .int .u8 0, .int .u8 0, .int .u8 0, .int .u8 0, .int .u8 0, .int .u8 0, .int .u8 0, .int .u8 0, .int .u8 0, .int .u8 0, .int .u8 0, .int .u8 0, .int .u8 0, .int .u8 0, .int .u8 0, .int .u8 0, .int .u8 0, .int .u8 0] 34)).alloc (.cells #[.int .u8 0, .int .u8 0, .int .u8 0, .int .u8 0, .int .u8 0, .int .u8 0, .int .u8 0, .int .u8 0, .int .u8 0, .int .u8 0, .int .u8 0, .int .u8 0, .int .u8 0, .int .u8 0, .int .u8 0, .int .u8 0, .int .u8 0, .int .u8 0, .int .u8 0, .int .u8 0, .int .u8 0, .int .u8 0, .int .u8 0, .int .u8 0, .int .u8 0, .int .u8 0, .int .u8 0, .int .u8 0, .int .u8 0, .int .u8 0, .int .u8 0, .int .u8 0] 34) = w3 := hw3
    have Hw3 := Lib.hid hw3'
    have H32h := Lib.hid h32
    have Hlen := Lib.hid hlen
    have Hx := Lib.hid hx
    clear hw3 hw3' h h32 hlen hx
    by_cases hmn : m = n
    · subst hmn
      have heq : ((m : Int) == (m : Int)) = true := by simp
      have hcq := cntS_eq m whole h1
      have hbo := bothL_eq m whole x p h1
      clear ih
      cases whole with
      | true =>
        rw [if_pos rfl] at hbo hcq
        rw [hbo]
        rw [hcq] at h3 hroom ⊢
        clear hbo hcq
        go_enter Try.func72, Try.ntmps72
        go_upto_region 3 with fail
        rw [Hw3.out]
        replace k10 := k10.drew
        replace k11 := k11.drew
        have hS : Below (w.heap.size + 1) w3 w3.drew := (Below.refl _ _).drew
        have l8 : ∀ s : InC (fun W => Below (w.heap.size + 1) w3 W), (Instr.loadAt 34 (.pointer (some ⟨w.heap.size, 0, none⟩))).run Try.prog s.W = .ok (.agg (x.map B).toArray) s.W := fun s => (k8.far s.ok (Nat.lt_succ_self _)).load
        have L8 := Lib.hid l8
        clear l8
        refine wp_region_mix (fun W => Below (w.heap.size + 1) w3 W) [(0, true), (1, true), (2, false), (3, false)] (by kernel_rfl) (by kernel_rfl) hS fun _ => ?_
        simp only [List.map_cons, List.map_nil, Array.getD_eq_getD_getElem?, List.getElem?_toArray, List.getElem?_cons_succ, List.getElem?_cons_zero, Option.getD_some]
        generalize w3.drew = W6 at hS k10 k11 ⊢
        refine wpMix_load (by kernel_rfl) 34 (.tmp 8) rfl (w.heap.size) (0) rfl (x.map B).toArray (L8.out) ?_
        simp only [Act.put]
        refine wpMix_load (by kernel_rfl) 34 (.tmp 8) rfl (w.heap.size) (0) rfl (x.map B).toArray (L8.out) ?_
        simp only [Act.put]
        refine wpMix_hset (.tmp 10) (.tmp 23) rfl rfl k10 rfl rfl Hx.out (fun _ hb => hS.trans (hb.mono (Nat.le_refl _))) ?_
        intro W6_1 k10s hb' hoth
        simp only [Act.put]
        replace hS := hS.trans (hb'.mono (Nat.le_refl _))
        replace k11 := hoth _ _ (by omega) k11
        clear hb' hoth
        refine wpMix_hset (.tmp 11) (.tmp 24) rfl rfl k11 rfl rfl Hx.out (fun _ hb => hS.trans (hb.mono (by omega))) ?_
        intro W6_2 k11s hb' hoth
        simp only [Act.put]
        replace hS := hS.trans (hb'.mono (by omega))
        replace k10s := hoth _ _ (by omega) k10s
        clear hb' hoth
        refine wpMix_nil ?_
        intro _
        go_wp2_with fail
        refine bodyPost_ret (tuple_cells2 rfl _ _ (w.heap.size + 1) (w.heap.size + 1 + 1) x x rfl rfl k10s k11s) rfl ⟨rfl, hb3.trans (hS.mono (by omega))⟩
      | false =>
        rw [if_neg (by decide)] at hbo hcq
        rw [hcq] at h3 hroom Hlen ⊢
        obtain ⟨b, o, rfl, -, -, hat⟩ := h3.at_ (by omega)
        have hld := hat 0 (by omega)
        have hyl := H32h.out.getD 0 (by rw [Hlen.out]; omega)
        rw [Nat.zero_mul, Nat.add_zero] at hld
        rw [hbo]
        obtain ⟨y, hy⟩ : ∃ y, p.getD 0 [] = y := ⟨_, rfl⟩
        rw [hy] at hld hyl ⊢
        have Hyl := Lib.hid hyl
        have hy' := hy
        clear hbo hcq hyl hy
        go_enter Try.func72, Try.ntmps72
        go_upto_region 4 with fail
        rw [Hw3.out]
        replace k10 := k10.drew
        replace k11 := k11.drew
        have hS : Below (w.heap.size + 1) w3 w3.drew := (Below.refl _ _).drew
        have l8 : ∀ s : InC (fun W => Below (w.heap.size + 1) w3 W), (Instr.loadAt 34 (.pointer (some ⟨b, o, none⟩))).run Try.prog s.W = .ok (.agg (y.map B).toArray) s.W := fun s => by
          obtain ⟨b', o', hA, -, -, hat'⟩ := (show Hs s.W (· < w.heap.size) (some ⟨b, o, none⟩) 1 c p from ⟨h3.sl.below s.ok fun _ _ h => Nat.lt_succ_of_lt h, h3.len, h3.all⟩).at_ (by omega)
          cases hA
          have := hat' 0 (by omega)
          rw [hy', Nat.zero_mul, Nat.add_zero] at this
          exact this
        have L8 := Lib.hid l8
        clear l8
        refine wp_region_mix (fun W => Below (w.heap.size + 1) w3 W) [(0, true), (1, true), (2, true), (3, true), (4, true), (5, true), (6, false), (7, false)] (by kernel_rfl) (by kernel_rfl) hS fun _ => ?_
        simp only [List.map_cons, List.map_nil, Array.getD_eq_getD_getElem?, List.getElem?_toArray, List.getElem?_cons_succ, List.getElem?_cons_zero, Option.getD_some]
        generalize w3.drew = W6 at hS k10 k11 ⊢
        refine wpMix_s (fun K hK => ?_)
        go_simp
        refine hK _ ?_
        clear hK K
        refine wpMix_s (fun K hK => ?_)
        go_simp
        refine hK _ ?_
        clear hK K
        refine wpMix_load (by kernel_rfl) 34 (.tmp 26) rfl (b) (o) rfl (y.map B).toArray (L8.out) ?_
        simp only [Act.put]
        refine wpMix_s (fun K hK => ?_)
        go_simp
        refine hK _ ?_
        clear hK K
        refine wpMix_s (fun K hK => ?_)
        go_simp
        refine hK _ ?_
        clear hK K
        refine wpMix_load (by kernel_rfl) 34 (.tmp 29) rfl (b) (o) rfl (y.map B).toArray (L8.out) ?_
        simp only [Act.put]
        refine wpMix_hset (.tmp 10) (.tmp 27) rfl rfl k10 rfl rfl Hyl.out (fun _ hb => hS.trans (hb.mono (Nat.le_refl _))) ?_
        intro W6_1 k10s hb' hoth
        simp only [Act.put]
        replace hS := hS.trans (hb'.mono (Nat.le_refl _))
        replace k11 := hoth _ _ (by omega) k11
        clear hb' hoth
        refine wpMix_hset (.tmp 11) (.tmp 30) rfl rfl k11 rfl rfl Hyl.out (fun _ hb => hS.trans (hb.mono (by omega))) ?_
        intro W6_2 k11s hb' hoth
        simp only [Act.put]
        replace hS := hS.trans (hb'.mono (by omega))
        replace k10s := hoth _ _ (by omega) k10s
        clear hb' hoth
        refine wpMix_nil ?_
        intro _
        go_wp2_with fail
        refine bodyPost_ret (tuple_cells2 rfl _ _ (w.heap.size + 1) (w.heap.size + 1 + 1) y y rfl rfl k10s k11s) rfl ⟨rfl, hb3.trans (hS.mono (by omega))⟩
    · have hne : ((m : Int) == (n : Int)) = false := by simp; omega
      obtain ⟨k, hk⟩ : ∃ k, splitN n = k := ⟨_, rfl⟩
      have hk1 := splitN_pos n (by omega)
      have hk2 := splitN_lt n (by omega)
      rw [hk] at hk1 hk2
      by_cases hkm : m ≤ k
      · have hkm' : (m : Int) ≤ (k : Int) := by omega
        have hq : cntS m n whole = cntS m k whole + 1 := by rw [← hk]; exact cntS_left m n whole h1 (by omega) (by omega)
        have hbo := bothL_left m n whole x p h1 (by omega) (by omega)
        rw [hk] at hbo
        obtain ⟨q, hqq⟩ : ∃ q, cntS m k whole = q := ⟨_, rfl⟩
        rw [hqq] at hq
        rw [hq] at h3 hroom Hlen ⊢
        obtain ⟨b, o, rfl, -, -, hat⟩ := h3.at_ (by omega)
        have hld := hat q (by omega)
        have hyl := H32h.out.getD q (by rw [Hlen.out]; omega)
        have hsub := (h3.take q (by omega)).weak (Y := fun _ => True) fun _ _ _ => trivial
        rw [show p.take q = p.dropLast by rw [List.dropLast_eq_take, Hlen.out]; rfl] at hsub
        rw [show p.length - 1 = q by rw [Hlen.out]; rfl] at hbo
        rw [hbo]
        have hlb := length_bothL d m k whole x p.dropLast (by omega) (by omega) (by omega) Hx.out hsub.all (by rw [hqq]; exact hsub.len)
        obtain ⟨r1, hr1⟩ : ∃ r, (bothL m k whole x p.dropLast).1 = r := ⟨_, rfl⟩
        obtain ⟨r2, hr2⟩ : ∃ r, (bothL m k whole x p.dropLast).2 = r := ⟨_, rfl⟩
        obtain ⟨y, hy⟩ : ∃ y, p.getD q [] = y := ⟨_, rfl⟩
        have hic := fun W (h : Hs W (fun _ => True) (some ⟨b, o, none⟩) q c p.dropLast) => ih m k whole x p.dropLast (some ⟨b, o, none⟩) c W (by omega) (by omega) (by omega) (by omega) Hx.out (by rw [hqq]; exact h)
        rw [hqq] at hic
        rw [hr1, hr2] at hlb hic ⊢
        rw [hy] at hld hyl ⊢
        obtain ⟨hl1, hl2⟩ := hlb
        have Hic := Lib.hid hic
        have Hl1 := Lib.hid hl1
        have Hl2 := Lib.hid hl2
        have Hyl := Lib.hid hyl
        clear hic hl1 hl2 hyl hqq hq hbo hr1 hr2 hy hat ih
        go_enter Try.func72, Try.ntmps72
        go_wp2_with fail
        rw [Hw3.out]
        refine (rsplit_any (n : Int) w3 (by omega)).mono ?_
        rintro e _ ⟨rfl, rfl⟩
        rw [Int.toNat_natCast, hk]
        go_wp2_with (first
          | ((with_reducible show wpList _ _ _ (⟨some 39, .load _ _, _, _, _, _⟩ :: _) _ _); refine wpList_runG (by kernel_rfl) (.agg (y.map B).toArray) w3 (run_load_op 34 (.tmp 38) rfl b (o + q * 32) rfl _ hld) ?_; simp only [Act.put])
          | ((with_reducible show wpList _ _ _ (⟨some 14, .alloc _, _, _, _, _⟩ :: _) _ _); refine wpList_hvar (.tmp 14) (.tmp 39) rfl rfl rfl rfl rfl rfl Hyl.out ?_; intro W4 k14 hb4; simp only [Act.put]; replace k8 := k8.step hb4; replace k10 := k10.step hb4; replace k11 := k11.step hb4; replace hsub := hsub.step hb4; replace hb3 := hb3.trans (hb4.mono hb3.size)))
        have hsz4 := hb4.size
        rw [hsz3] at k14
        have hs0 : Hs W4.drew (fun _ => True) (some ⟨b, o, none⟩) q c p.dropLast := hsub.drew
        clear hld h3 hb4 hsub
        refine wp_share_us (fun us a' W' => ∃ ga gb, a' = { tmps := #[us 0, us 1, us 2, us 3, us 4, us 5, us 6, us 7, .pointer (some ⟨w.heap.size, 0, none⟩), us 9, .pointer (some ⟨w.heap.size + 1, 0, none⟩), .pointer (some ⟨w.heap.size + 1 + 1, 0, none⟩), us 12, us 13, .pointer (some ⟨w.heap.size + 1 + 1 + 1, 0, none⟩), .pointer (some ⟨ga, 0, none⟩), .pointer (some ⟨gb, 0, none⟩), us 17, us 18, us 19, us 20, us 21, us 22, us 23, us 24, us 25, us 26, us 27, us 28, us 29, us 30, us 31, us 32, us 33, us 34, us 35, us 36, us 37, us 38, us 39, us 40, us 41, us 42, us 43, us 44, us 45, us 46, us 47, us 48, us 49, us 50, us 51, us 52, us 53, us 54, us 55, us 56, us 57, us 58, us 59, us 60, us 61, us 62, us 63, us 64, us 65, us 66, us 67, us 68, us 69, us 70, us 71, us 72, us 73, us 74, us 75, us 76, us 77], defers := [] } ∧ HV W' ga r1 ∧ HV W' gb r2 ∧ Below W4.heap.size W4 W') ?_ ?_
        · have l8 : ∀ s : InC (fun W => Below W4.heap.size W4 W), (Instr.loadAt 34 (.pointer (some ⟨w.heap.size, 0, none⟩))).run Try.prog s.W = .ok (.agg (x.map B).toArray) s.W := fun s => (k8.step s.ok).load
          clear k8 k10 k11 k14
          have L8 := Lib.hid l8
          clear l8
          have hS : Below (W4.heap.size) W4 W4.drew := (Below.refl _ _).drew
          refine wp_region_begin (fun W => Below (W4.heap.size) W4 W) (by kernel_rfl) hS fun _ => ?_
          generalize W4.drew = W5 at hS hs0 ⊢
          refine wpAnyH_pre (f := 8) (by kernel_rfl) #[true, true, true, true, true, true, true, false, false, false, false, false, false, false, false] [(0, true), (1, true), (2, true), (3, true), (4, true), (5, true), (6, true)] _ _ _ (by kernel_rfl) hS ?_
          simp only [List.map_cons, List.map_nil, Array.getD_eq_getD_getElem?, List.getElem?_toArray, List.getElem?_cons_succ, List.getElem?_cons_zero, Option.getD_some]
          refine wpMix_s (fun K hK => ?_)
          go_simp
          refine hK _ ?_
          clear hK K
          refine wpMix_s (fun K hK => ?_)
          go_simp
          refine hK _ ?_
          clear hK K
          refine wpMix_s (fun K hK => ?_)
          go_simp
          refine hK _ ?_
          clear hK K
          refine wpMix_load (by kernel_rfl) 34 (.tmp 8) rfl (w.heap.size) (0) rfl (x.map B).toArray (L8.out) ?_
          simp only [Act.put]
          refine wpMix_s (fun K hK => ?_)
          go_simp
          refine hK _ ?_
          clear hK K
          refine wpMix_s (fun K hK => ?_)
          go_simp
          refine hK _ ?_
          clear hK K
          refine wpMix_v (by kernel_rfl) (.slice (some ⟨b, o, none⟩) q c) (fun s => run_slice_op_hi (.tmp 48) (.tmp 49) rfl (some ⟨b, o, none⟩) (q + 1) c q rfl rfl (by omega) s.W) ?_
          simp only [Act.put]
          refine wpMix_nil ?_
          intro _
          refine wpAnyH_fork3 (f := 7) (i := 7) (j := 11) (m := 12) (by kernel_rfl) hS ?_ ?_ ?_
          · simp only [Array.getD_eq_getD_getElem?, List.getElem?_toArray, List.getElem?_cons_succ, List.getElem?_cons_zero, Option.getD_some]
            refine wpMix_c (fun K hK => ?_) hS
            go_simp
            refine (Hic.out W5 hs0).mono ?_
            rintro e W5_1 ⟨rfl, hb'⟩
            refine hK _ _ ?_
            clear hK K
            replace hS := hS.trans (hb'.mono hS.size)
            refine ⟨hS, ?_⟩
            replace hs0 := hs0.step hb'
            try replace ka := ka.step hb'
            try replace kb := kb.step hb'
            clear hb'
            refine wpMix_nil ?_
            intro _
            show wpAnyH _ _ _ _ _ _ #[true, true, true, true, true, true, true, true, false, false, false, false, false, false, false] _ _
            refine wpAnyH_pre (f := 4) (by kernel_rfl) #[true, true, true, true, true, true, true, true, true, true, true, false, false, false, false] [(8, true), (9, true), (10, true)] _ _ _ (by kernel_rfl) hS ?_
            simp only [List.map_cons, List.map_nil, Array.getD_eq_getD_getElem?, List.getElem?_toArray, List.getElem?_cons_succ, List.getElem?_cons_zero, Option.getD_some]
            refine wpMix_s (fun K hK => ?_)
            go_simp
            refine hK _ ?_
            clear hK K
            refine wpMix_s (fun K hK => ?_)
            go_simp
            refine hK _ ?_
            clear hK K
            refine wpMix_s (fun K hK => ?_)
            go_simp
            refine hK _ ?_
            clear hK K
            refine wpMix_nil ?_
            intro _
            refine wpAnyH_fork (f := 3) (i := 11) (j := 12) (by kernel_rfl) hS ?_ ?_
            · simp only [Array.getD_eq_getD_getElem?, List.getElem?_toArray, List.getElem?_cons_succ, List.getElem?_cons_zero, Option.getD_some]
              try have hltb := kb.lt
              have kag := hS.size
              refine wpMix_hnew rfl rfl (fun _ hb => hS.trans (hb.mono hS.size)) ?_
              intro W5_2 ka hb'
              simp only [Act.put]
              replace hS := hS.trans (hb'.mono hS.size)
              replace hs0 := hs0.step hb'
              try replace kb := kb.step hb'
              clear hb'
              refine wpMix_nil ?_
              intro _
              show wpAnyH _ _ _ _ _ _ #[true, true, true, true, true, true, true, true, true, true, true, true, false, false, false] _ _
              refine wpAnyH_pre (f := 0) (by kernel_rfl) #[true, true, true, true, true, true, true, true, true, true, true, true, true, true, true] [(12, false), (13, false), (14, false)] _ _ _ (by kernel_rfl) hS ?_
              simp only [List.map_cons, List.map_nil, Array.getD_eq_getD_getElem?, List.getElem?_toArray, List.getElem?_cons_succ, List.getElem?_cons_zero, Option.getD_some]
              try have hlta := ka.lt
              have kbg := hS.size
              refine wpMix_hnew rfl rfl (fun _ hb => hS.trans (hb.mono hS.size)) ?_
              intro W5_3 kb hb'
              simp only [Act.put]
              replace hS := hS.trans (hb'.mono hS.size)
              replace hs0 := hs0.step hb'
              try replace ka := ka.step hb'
              clear hb'
              refine wpMix_hset (.tmp 15) (.tmp 52) rfl rfl ka rfl rfl Hl1.out (fun _ hb => hS.trans (hb.mono kag)) ?_
              intro W5_4 kas hb' hoth
              simp only [Act.put]
              replace hS := hS.trans (hb'.mono kag)
              replace kb := hoth _ _ (by omega) kb
              clear hb' hoth
              refine wpMix_hset (.tmp 16) (.tmp 53) rfl rfl kb rfl rfl Hl2.out (fun _ hb => hS.trans (hb.mono kbg)) ?_
              intro W5_5 kbs hb' hoth
              simp only [Act.put]
              replace hS := hS.trans (hb'.mono kbg)
              have kaf := hoth _ _ (by omega) kas
              clear hb' hoth
              refine wpMix_nil ?_
              intro _
              refine wpAnyH_end (by kernel_rfl) ?_
              refine ⟨_, _, ?_, kaf, kbs, hS⟩
              kernel_rfl
            · simp only [Array.getD_eq_getD_getElem?, List.getElem?_toArray, List.getElem?_cons_succ, List.getElem?_cons_zero, Option.getD_some]
              try have hlta := ka.lt
              have kbg := hS.size
              refine wpMix_hnew rfl rfl (fun _ hb => hS.trans (hb.mono hS.size)) ?_
              intro W5_6 kb hb'
              simp only [Act.put]
              replace hS := hS.trans (hb'.mono hS.size)
              replace hs0 := hs0.step hb'
              try replace ka := ka.step hb'
              clear hb'
              refine wpMix_nil ?_
              intro _
              show wpAnyH _ _ _ _ _ _ #[true, true, true, true, true, true, true, true, true, true, true, false, true, false, false] _ _
              refine wpAnyH_pre (f := 0) (by kernel_rfl) #[true, true, true, true, true, true, true, true, true, true, true, true, true, true, true] [(11, false), (13, false), (14, false)] _ _ _ (by kernel_rfl) hS ?_
              simp only [List.map_cons, List.map_nil, Array.getD_eq_getD_getElem?, List.getElem?_toArray, List.getElem?_cons_succ, List.getElem?_cons_zero, Option.getD_some]
              try have hltb := kb.lt
              have kag := hS.size
              refine wpMix_hnew rfl rfl (fun _ hb => hS.trans (hb.mono hS.size)) ?_
              intro W5_7 ka hb'
              simp only [Act.put]
              replace hS := hS.trans (hb'.mono hS.size)
              replace hs0 := hs0.step hb'
              try replace kb := kb.step hb'
              clear hb'
              refine wpMix_hset (.tmp 15) (.tmp 52) rfl rfl ka rfl rfl Hl1.out (fun _ hb => hS.trans (hb.mono kag)) ?_
              intro W5_8 kas hb' hoth
              simp only [Act.put]
              replace hS := hS.trans (hb'.mono kag)
              replace kb := hoth _ _ (by omega) kb
              clear hb' hoth
              refine wpMix_hset (.tmp 16) (.tmp 53) rfl rfl kb rfl rfl Hl2.out (fun _ hb => hS.trans (hb.mono kbg)) ?_
              intro W5_9 kbs hb' hoth
              simp only [Act.put]
              replace hS := hS.trans (hb'.mono kbg)
              have kaf := hoth _ _ (by omega) kas
              clear hb' hoth
              refine wpMix_nil ?_
              intro _
              refine wpAnyH_end (by kernel_rfl) ?_
              refine ⟨_, _, ?_, kaf, kbs, hS⟩
              kernel_rfl
          · simp only [Array.getD_eq_getD_getElem?, List.getElem?_toArray, List.getElem?_cons_succ, List.getElem?_cons_zero, Option.getD_some]
            try have hltb := kb.lt
            have kag := hS.size
            refine wpMix_hnew rfl rfl (fun _ hb => hS.trans (hb.mono hS.size)) ?_
            intro W5_10 ka hb'
            simp only [Act.put]
            replace hS := hS.trans (hb'.mono hS.size)
            replace hs0 := hs0.step hb'
            try replace kb := kb.step hb'
            clear hb'
            refine wpMix_nil ?_
            intro _
            show wpAnyH _ _ _ _ _ _ #[true, true, true, true, true, true, true, false, false, false, false, true, false, false, false] _ _
            refine wpAnyH_fork (f := 6) (i := 7) (j := 12) (by kernel_rfl) hS ?_ ?_
            · simp only [Array.getD_eq_getD_getElem?, List.getElem?_toArray, List.getElem?_cons_succ, List.getElem?_cons_zero, Option.getD_some]
              refine wpMix_c (fun K hK => ?_) hS
              go_simp
              refine (Hic.out W5_10 hs0).mono ?_
              rintro e W5_11 ⟨rfl, hb'⟩
              refine hK _ _ ?_
              clear hK K
              replace hS := hS.trans (hb'.mono hS.size)
              refine ⟨hS, ?_⟩
              replace hs0 := hs0.step hb'
              try replace ka := ka.step hb'
              try replace kb := kb.step hb'
              clear hb'
              refine wpMix_nil ?_
              intro _
              show wpAnyH _ _ _ _ _ _ #[true, true, true, true, true, true, true, true, false, false, false, true, false, false, false] _ _
              refine wpAnyH_pre (f := 0) (by kernel_rfl) #[true, true, true, true, true, true, true, true, true, true, true, true, true, true, true] [(8, true), (9, true), (10, true), (12, false), (13, false), (14, false)] _ _ _ (by kernel_rfl) hS ?_
              simp only [List.map_cons, List.map_nil, Array.getD_eq_getD_getElem?, List.getElem?_toArray, List.getElem?_cons_succ, List.getElem?_cons_zero, Option.getD_some]
              refine wpMix_s (fun K hK => ?_)
              go_simp
              refine hK _ ?_
              clear hK K
              refine wpMix_s (fun K hK => ?_)
              go_simp
              refine hK _ ?_
              clear hK K
              refine wpMix_s (fun K hK => ?_)
              go_simp
              refine hK _ ?_
              clear hK K
              try have hlta := ka.lt
              have kbg := hS.size
              refine wpMix_hnew rfl rfl (fun _ hb => hS.trans (hb.mono hS.size)) ?_
              intro W5_12 kb hb'
              simp only [Act.put]
              replace hS := hS.trans (hb'.mono hS.size)
              replace hs0 := hs0.step hb'
              try replace ka := ka.step hb'
              clear hb'
              refine wpMix_hset (.tmp 15) (.tmp 52) rfl rfl ka rfl rfl Hl1.out (fun _ hb => hS.trans (hb.mono kag)) ?_
              intro W5_13 kas hb' hoth
              simp only [Act.put]
              replace hS := hS.trans (hb'.mono kag)
              replace kb := hoth _ _ (by omega) kb
              clear hb' hoth
              refine wpMix_hset (.tmp 16) (.tmp 53) rfl rfl kb rfl rfl Hl2.out (fun _ hb => hS.trans (hb.mono kbg)) ?_
              intro W5_14 kbs hb' hoth
              simp only [Act.put]
              replace hS := hS.trans (hb'.mono kbg)
              have kaf := hoth _ _ (by omega) kas
              clear hb' hoth
              refine wpMix_nil ?_
              intro _
              refine wpAnyH_end (by kernel_rfl) ?_
              refine ⟨_, _, ?_, kaf, kbs, hS⟩
              kernel_rfl
            · simp only [Array.getD_eq_getD_getElem?, List.getElem?_toArray, List.getElem?_cons_succ, List.getElem?_cons_zero, Option.getD_some]
              try have hlta := ka.lt
              have kbg := hS.size
              refine wpMix_hnew rfl rfl (fun _ hb => hS.trans (hb.mono hS.size)) ?_
              intro W5_15 kb hb'
              simp only [Act.put]
              replace hS := hS.trans (hb'.mono hS.size)
              replace hs0 := hs0.step hb'
              try replace ka := ka.step hb'
              clear hb'
              refine wpMix_nil ?_
              intro _
              show wpAnyH _ _ _ _ _ _ #[true, true, true, true, true, true, true, false, false, false, false, true, true, false, false] _ _
              refine wpAnyH_pre (f := 0) (by kernel_rfl) #[true, true, true, true, true, true, true, true, true, true, true, true, true, true, true] [(7, false), (8, true), (9, true), (10, true), (13, false), (14, false)] _ _ _ (by kernel_rfl) hS ?_
              simp only [List.map_cons, List.map_nil, Array.getD_eq_getD_getElem?, List.getElem?_toArray, List.getElem?_cons_succ, List.getElem?_cons_zero, Option.getD_some]
              refine wpMix_c (fun K hK => ?_) hS
              go_simp
              refine (Hic.out W5_15 hs0).mono ?_
              rintro e W5_16 ⟨rfl, hb'⟩
              refine hK _ _ ?_
              clear hK K
              replace hS := hS.trans (hb'.mono hS.size)
              refine ⟨hS, ?_⟩
              replace hs0 := hs0.step hb'
              try replace ka := ka.step hb'
              try replace kb := kb.step hb'
              clear hb'
              refine wpMix_s (fun K hK => ?_)
              go_simp
              refine hK _ ?_
              clear hK K
              refine wpMix_s (fun K hK => ?_)
              go_simp
              refine hK _ ?_
              clear hK K
              refine wpMix_s (fun K hK => ?_)
              go_simp
              refine hK _ ?_
              clear hK K
              refine wpMix_hset (.tmp 15) (.tmp 52) rfl rfl ka rfl rfl Hl1.out (fun _ hb => hS.trans (hb.mono kag)) ?_
              intro W5_17 kas hb' hoth
              simp only [Act.put]
              replace hS := hS.trans (hb'.mono kag)
              replace kb := hoth _ _ (by omega) kb
              clear hb' hoth
              refine wpMix_hset (.tmp 16) (.tmp 53) rfl rfl kb rfl rfl Hl2.out (fun _ hb => hS.trans (hb.mono kbg)) ?_
              intro W5_18 kbs hb' hoth
              simp only [Act.put]
              replace hS := hS.trans (hb'.mono kbg)
              have kaf := hoth _ _ (by omega) kas
              clear hb' hoth
              refine wpMix_nil ?_
              intro _
              refine wpAnyH_end (by kernel_rfl) ?_
              refine ⟨_, _, ?_, kaf, kbs, hS⟩
              kernel_rfl
          · simp only [Array.getD_eq_getD_getElem?, List.getElem?_toArray, List.getElem?_cons_succ, List.getElem?_cons_zero, Option.getD_some]
            try have hlta := ka.lt
            have kbg := hS.size
            refine wpMix_hnew rfl rfl (fun _ hb => hS.trans (hb.mono hS.size)) ?_
            intro W5_19 kb hb'
            simp only [Act.put]
            replace hS := hS.trans (hb'.mono hS.size)
            replace hs0 := hs0.step hb'
            try replace ka := ka.step hb'
            clear hb'
            refine wpMix_nil ?_
            intro _
            show wpAnyH _ _ _ _ _ _ #[true, true, true, true, true, true, true, false, false, false, false, false, true, false, false] _ _
            refine wpAnyH_fork (f := 6) (i := 7) (j := 11) (by kernel_rfl) hS ?_ ?_
            · simp only [Array.getD_eq_getD_getElem?, List.getElem?_toArray, List.getElem?_cons_succ, List.getElem?_cons_zero, Option.getD_some]
              refine wpMix_c (fun K hK => ?_) hS
              go_simp
              refine (Hic.out W5_19 hs0).mono ?_
              rintro e W5_20 ⟨rfl, hb'⟩
              refine hK _ _ ?_
              clear hK K
              replace hS := hS.trans (hb'.mono hS.size)
              refine ⟨hS, ?_⟩
              replace hs0 := hs0.step hb'
              try replace ka := ka.step hb'
              try replace kb := kb.step hb'
              clear hb'
              refine wpMix_nil ?_
              intro _
              show wpAnyH _ _ _ _ _ _ #[true, true, true, true, true, true, true, true, false, false, false, false, true, false, false] _ _
              refine wpAnyH_pre (f := 0) (by kernel_rfl) #[true, true, true, true, true, true, true, true, true, true, true, true, true, true, true] [(8, true), (9, true), (10, true), (11, false), (13, false), (14, false)] _ _ _ (by kernel_rfl) hS ?_
              simp only [List.map_cons, List.map_nil, Array.getD_eq_getD_getElem?, List.getElem?_toArray, List.getElem?_cons_succ, List.getElem?_cons_zero, Option.getD_some]
              refine wpMix_s (fun K hK => ?_)
              go_simp
              refine hK _ ?_
              clear hK K
              refine wpMix_s (fun K hK => ?_)
              go_simp
              refine hK _ ?_
              clear hK K
              refine wpMix_s (fun K hK => ?_)
              go_simp
              refine hK _ ?_
              clear hK K
              try have hltb := kb.lt
              have kag := hS.size
              refine wpMix_hnew rfl rfl (fun _ hb => hS.trans (hb.mono hS.size)) ?_
              intro W5_21 ka hb'
              simp only [Act.put]
              replace hS := hS.trans (hb'.mono hS.size)
              replace hs0 := hs0.step hb'
              try replace kb := kb.step hb'
              clear hb'
              refine wpMix_hset (.tmp 15) (.tmp 52) rfl rfl ka rfl rfl Hl1.out (fun _ hb => hS.trans (hb.mono kag)) ?_
              intro W5_22 kas hb' hoth
              simp only [Act.put]
              replace hS := hS.trans (hb'.mono kag)
              replace kb := hoth _ _ (by omega) kb
              clear hb' hoth
              refine wpMix_hset (.tmp 16) (.tmp 53) rfl rfl kb rfl rfl Hl2.out (fun _ hb => hS.trans (hb.mono kbg)) ?_
              intro W5_23 kbs hb' hoth
              simp only [Act.put]
              replace hS := hS.trans (hb'.mono kbg)
              have kaf := hoth _ _ (by omega) kas
              clear hb' hoth
              refine wpMix_nil ?_
              intro _
              refine wpAnyH_end (by kernel_rfl) ?_
              refine ⟨_, _, ?_, kaf, kbs, hS⟩
              kernel_rfl
            · simp only [Array.getD_eq_getD_getElem?, List.getElem?_toArray, List.getElem?_cons_succ, List.getElem?_cons_zero, Option.getD_some]
              try have hltb := kb.lt
              have kag := hS.size
              refine wpMix_hnew rfl rfl (fun _ hb => hS.trans (hb.mono hS.size)) ?_
              intro W5_24 ka hb'
              simp only [Act.put]
              replace hS := hS.trans (hb'.mono hS.size)
              replace hs0 := hs0.step hb'
              try replace kb := kb.step hb'
              clear hb'
              refine wpMix_nil ?_
              intro _
              show wpAnyH _ _ _ _ _ _ #[true, true, true, true, true, true, true, false, false, false, false, true, true, false, false] _ _
              refine wpAnyH_pre (f := 0) (by kernel_rfl) #[true, true, true, true, true, true, true, true, true, true, true, true, true, true, true] [(7, false), (8, true), (9, true), (10, true), (13, false), (14, false)] _ _ _ (by kernel_rfl) hS ?_
              simp only [List.map_cons, List.map_nil, Array.getD_eq_getD_getElem?, List.getElem?_toArray, List.getElem?_cons_succ, List.getElem?_cons_zero, Option.getD_some]
              refine wpMix_c (fun K hK => ?_) hS
              go_simp
              refine (Hic.out W5_24 hs0).mono ?_
              rintro e W5_25 ⟨rfl, hb'⟩
              refine hK _ _ ?_
              clear hK K
              replace hS := hS.trans (hb'.mono hS.size)
              refine ⟨hS, ?_⟩
              replace hs0 := hs0.step hb'
              try replace ka := ka.step hb'
              try replace kb := kb.step hb'
              clear hb'
              refine wpMix_s (fun K hK => ?_)
              go_simp
              refine hK _ ?_
              clear hK K
              refine wpMix_s (fun K hK => ?_)
              go_simp
              refine hK _ ?_
              clear hK K
              refine wpMix_s (fun K hK => ?_)
              go_simp
              refine hK _ ?_
              clear hK K
              refine wpMix_hset (.tmp 15) (.tmp 52) rfl rfl ka rfl rfl Hl1.out (fun _ hb => hS.trans (hb.mono kag)) ?_
              intro W5_26 kas hb' hoth
              simp only [Act.put]
              replace hS := hS.trans (hb'.mono kag)
              replace kb := hoth _ _ (by omega) kb
              clear hb' hoth
              refine wpMix_hset (.tmp 16) (.tmp 53) rfl rfl kb rfl rfl Hl2.out (fun _ hb => hS.trans (hb.mono kbg)) ?_
              intro W5_27 kbs hb' hoth
              simp only [Act.put]
              replace hS := hS.trans (hb'.mono kbg)
              have kaf := hoth _ _ (by omega) kas
              clear hb' hoth
              refine wpMix_nil ?_
              intro _
              refine wpAnyH_end (by kernel_rfl) ?_
              refine ⟨_, _, ?_, kaf, kbs, hS⟩
              kernel_rfl
        rintro us a' W5 ⟨ga, gb, rfl, ka, kb, hb5⟩
        have k8' := k8.step hb5
        have k10' := k10.step hb5
        have k11' := k11.step hb5
        have k14' := k14.step hb5
        have hbw := hb3.trans (hb5.mono hb3.size)
        clear k8 k10 k11 k14 hb5 hs0
        have hS : Below W5.heap.size W5 W5.drew := (Below.refl _ _).drew
        have la : ∀ s : InC (fun W => Below W5.heap.size W5 W), (Instr.loadAt 34 (.pointer (some ⟨ga, 0, none⟩))).run Try.prog s.W = .ok (.agg (r1.map B).toArray) s.W := fun s => (ka.step s.ok).load
        have lb : ∀ s : InC (fun W => Below W5.heap.size W5 W), (Instr.loadAt 34 (.pointer (some ⟨gb, 0, none⟩))).run Try.prog s.W = .ok (.agg (r2.map B).toArray) s.W := fun s => (kb.step s.ok).load
        have l14 : ∀ s : InC (fun W => Below W5.heap.size W5 W), (Instr.loadAt 34 (.pointer (some ⟨w.heap.size + 1 + 1 + 1, 0, none⟩))).run Try.prog s.W = .ok (.agg (y.map B).toArray) s.W := fun s => (k14'.step s.ok).load
        have La := Lib.hid la
        have Lb := Lib.hid lb
        have L14 := Lib.hid l14
        clear la lb l14 ka kb k14'
        go_wp2_with fail
        refine wp_region_mix_tail (fun W => Below W5.heap.size W5 W) 4 [(0, true), (1, true), (2, true), (3, false)] (by kernel_rfl) (by kernel_rfl) hS fun _ => ?_
        simp only [List.map_cons, List.map_nil, Array.getD_eq_getD_getElem?, List.getElem?_toArray, List.getElem?_cons_succ, List.getElem?_cons_zero, Option.getD_some]
        generalize W5.drew = W6 at hS ⊢
        refine wpMix_load (by kernel_rfl) 34 (.tmp 15) rfl (ga) (0) rfl (r1.map B).toArray (La.out) ?_
        simp only [Act.put]
        refine wpMix_load (by kernel_rfl) 34 (.tmp 16) rfl (gb) (0) rfl (r2.map B).toArray (Lb.out) ?_
        simp only [Act.put]
        refine wpMix_load (by kernel_rfl) 34 (.tmp 14) rfl (w.heap.size + 1 + 1 + 1) (0) rfl (y.map B).toArray (L14.out) ?_
        simp only [Act.put]
        refine wpMix_c (fun K hK => ?_) hS
        go_simp
        refine (hrnode_any r2 y W6 Hl2.out Hyl.out).mono ?_
        rintro e W6_1 ⟨rfl, hb'⟩
        refine hK _ _ ?_
        clear hK K
        replace hS := hS.trans (hb'.mono hS.size)
        refine ⟨hS, ?_⟩
        clear hb'
        refine wpMix_nil ?_
        intro _
        simp only [List.drop_succ_cons, List.drop_zero]
        generalize W6_1 = W7 at *
        have k10'' := k10'.step hS
        have k11'' := k11'.step hS
        have hbw7 := hbw.trans (hS.mono hbw.size)
        clear k8' k10' k11' hS hbw
        go_wp2_with (first
          | ((with_reducible show wpList _ _ _ (⟨none, .store _ (.tmp 10) _, _, _, _, _⟩ :: _) _ _); refine wpList_hset2 (.tmp 10) (.tmp 54) rfl rfl k10'' rfl rfl Hl1.out ?_; intro W8 k10s hb8 hoth8; simp only [Act.put]; replace k11'' := hoth8 _ _ (by omega) k11''; replace hbw7 := hbw7.trans (hb8.mono (by omega)))
          | ((with_reducible show wpList _ _ _ (⟨none, .store _ (.tmp 11) _, _, _, _, _⟩ :: _) _ _); refine wpList_hset2 (.tmp 11) (.tmp 57) rfl rfl k11'' rfl rfl (length_hNode _ _) ?_; intro W9 k11s hb9 hoth9; simp only [Act.put]; replace k10s := hoth9 _ _ (by omega) k10s; replace hbw7 := hbw7.trans (hb9.mono (by omega))))
        refine np_normal ?_
        go_wp2_with fail
        refine bodyPost_ret (tuple_cells2 rfl _ _ (w.heap.size + 1) (w.heap.size + 1 + 1) (r1) (hNode r2 y) rfl rfl k10s k11s) rfl ⟨rfl, hbw7⟩
      · have hkm' : ¬ (m : Int) ≤ (k : Int) := by omega
        have hq : cntS m n whole = cntS (m - k) (n - k) false + 1 := by rw [← hk]; exact cntS_right m n whole h1 (by omega) (by omega)
        have hbo := bothL_right m n whole x p h1 (by omega) (by omega)
        rw [hk] at hbo
        obtain ⟨q, hqq⟩ : ∃ q, cntS (m - k) (n - k) false = q := ⟨_, rfl⟩
        rw [hqq] at hq
        rw [hq] at h3 hroom Hlen ⊢
        obtain ⟨b, o, rfl, -, -, hat⟩ := h3.at_ (by omega)
        have hld := hat q (by omega)
        have hyl := H32h.out.getD q (by rw [Hlen.out]; omega)
        have hsub := (h3.take q (by omega)).weak (Y := fun _ => True) fun _ _ _ => trivial
        rw [show p.take q = p.dropLast by rw [List.dropLast_eq_take, Hlen.out]; rfl] at hsub
        rw [show p.length - 1 = q by rw [Hlen.out]; rfl] at hbo
        rw [hbo]
        have hlb := length_bothL d (m - k) (n - k) false x p.dropLast (by omega) (by omega) (by omega) Hx.out hsub.all (by rw [hqq]; exact hsub.len)
        obtain ⟨r1, hr1⟩ : ∃ r, (bothL (m - k) (n - k) false x p.dropLast).1 = r := ⟨_, rfl⟩
        obtain ⟨r2, hr2⟩ : ∃ r, (bothL (m - k) (n - k) false x p.dropLast).2 = r := ⟨_, rfl⟩
        obtain ⟨y, hy⟩ : ∃ y, p.getD q [] = y := ⟨_, rfl⟩
        have hic := fun W (h : Hs W (fun _ => True) (some ⟨b, o, none⟩) q c p.dropLast) => ih (m - k) (n - k) false x p.dropLast (some ⟨b, o, none⟩) c W (by omega) (by omega) (by omega) (by omega) Hx.out (by rw [hqq]; exact h)
        rw [hqq] at hic
        rw [hr1, hr2] at hlb hic ⊢
        rw [hy] at hld hyl ⊢
        obtain ⟨hl1, hl2⟩ := hlb
        rw [show ((m - k : Nat) : Int) = (m : Int) - k by omega, show ((n - k : Nat) : Int) = (n : Int) - k by omega] at hic
        have hwm : IntKind.i64.wrap ((m : Int) - (k : Int)) = (m : Int) - k := IntWalk.i64_in _ (by omega)
        have hwn : IntKind.i64.wrap ((n : Int) - (k : Int)) = (n : Int) - k := IntWalk.i64_in _ (by omega)
        have Hic := Lib.hid hic
        have Hl1 := Lib.hid hl1
        have Hl2 := Lib.hid hl2
        have Hyl := Lib.hid hyl
        clear hic hl1 hl2 hyl hqq hq hbo hr1 hr2 hy hat ih
        go_enter Try.func72, Try.ntmps72
        go_wp2_with fail
        rw [Hw3.out]
        refine (rsplit_any (n : Int) w3 (by omega)).mono ?_
        rintro e _ ⟨rfl, rfl⟩
        rw [Int.toNat_natCast, hk]
        go_wp2_with (first
          | ((with_reducible show wpList _ _ _ (⟨some 39, .load _ _, _, _, _, _⟩ :: _) _ _); refine wpList_runG (by kernel_rfl) (.agg (y.map B).toArray) w3 (run_load_op 34 (.tmp 38) rfl b (o + q * 32) rfl _ hld) ?_; simp only [Act.put])
          | ((with_reducible show wpList _ _ _ (⟨some 14, .alloc _, _, _, _, _⟩ :: _) _ _); refine wpList_hvar (.tmp 14) (.tmp 39) rfl rfl rfl rfl rfl rfl Hyl.out ?_; intro W4 k14 hb4; simp only [Act.put]; replace k8 := k8.step hb4; replace k10 := k10.step hb4; replace k11 := k11.step hb4; replace hsub := hsub.step hb4; replace hb3 := hb3.trans (hb4.mono hb3.size)))
        have hsz4 := hb4.size
        rw [hsz3] at k14
        have hs0 : Hs W4.drew (fun _ => True) (some ⟨b, o, none⟩) q c p.dropLast := hsub.drew
        clear hld h3 hb4 hsub
        refine wp_share_us (fun us a' W' => ∃ ga gb, a' = { tmps := #[us 0, us 1, us 2, us 3, us 4, us 5, us 6, us 7, .pointer (some ⟨w.heap.size, 0, none⟩), us 9, .pointer (some ⟨w.heap.size + 1, 0, none⟩), .pointer (some ⟨w.heap.size + 1 + 1, 0, none⟩), us 12, us 13, .pointer (some ⟨w.heap.size + 1 + 1 + 1, 0, none⟩), us 15, us 16, .pointer (some ⟨ga, 0, none⟩), .pointer (some ⟨gb, 0, none⟩), us 19, us 20, us 21, us 22, us 23, us 24, us 25, us 26, us 27, us 28, us 29, us 30, us 31, us 32, us 33, us 34, us 35, us 36, us 37, us 38, us 39, us 40, us 41, us 42, us 43, us 44, us 45, us 46, us 47, us 48, us 49, us 50, us 51, us 52, us 53, us 54, us 55, us 56, us 57, us 58, us 59, us 60, us 61, us 62, us 63, us 64, us 65, us 66, us 67, us 68, us 69, us 70, us 71, us 72, us 73, us 74, us 75, us 76, us 77], defers := [] } ∧ HV W' ga r1 ∧ HV W' gb r2 ∧ Below W4.heap.size W4 W') ?_ ?_
        · have l8 : ∀ s : InC (fun W => Below W4.heap.size W4 W), (Instr.loadAt 34 (.pointer (some ⟨w.heap.size, 0, none⟩))).run Try.prog s.W = .ok (.agg (x.map B).toArray) s.W := fun s => (k8.step s.ok).load
          clear k8 k10 k11 k14
          have L8 := Lib.hid l8
          clear l8
          have hS : Below (W4.heap.size) W4 W4.drew := (Below.refl _ _).drew
          refine wp_region_begin (fun W => Below (W4.heap.size) W4 W) (by kernel_rfl) hS fun _ => ?_
          generalize W4.drew = W5 at hS hs0 ⊢
          refine wpAnyH_pre (f := 8) (by kernel_rfl) #[true, true, true, true, true, true, true, true, true, true, false, false, false, false, false, false, false, false] [(0, true), (1, true), (2, true), (3, true), (4, true), (5, true), (6, true), (7, true), (8, true), (9, true)] _ _ _ (by kernel_rfl) hS ?_
          simp only [List.map_cons, List.map_nil, Array.getD_eq_getD_getElem?, List.getElem?_toArray, List.getElem?_cons_succ, List.getElem?_cons_zero, Option.getD_some]
          refine wpMix_s (fun K hK => ?_)
          go_simp
          refine hK _ ?_
          clear hK K
          refine wpMix_s (fun K hK => ?_)
          go_simp
          refine hK _ ?_
          clear hK K
          refine wpMix_s (fun K hK => ?_)
          go_simp
          refine hK _ ?_
          clear hK K
          refine wpMix_s (fun K hK => ?_)
          go_simp
          refine hK _ ?_
          clear hK K
          refine wpMix_s (fun K hK => ?_)
          go_simp
          refine hK _ ?_
          clear hK K
          refine wpMix_s (fun K hK => ?_)
          go_simp
          refine hK _ ?_
          clear hK K
          refine wpMix_load (by kernel_rfl) 34 (.tmp 8) rfl (w.heap.size) (0) rfl (x.map B).toArray (L8.out) ?_
          simp only [Act.put]
          refine wpMix_s (fun K hK => ?_)
          go_simp
          refine hK _ ?_
          clear hK K
          refine wpMix_s (fun K hK => ?_)
          go_simp
          refine hK _ ?_
          clear hK K
          refine wpMix_v (by kernel_rfl) (.slice (some ⟨b, o, none⟩) q c) (fun s => run_slice_op_hi (.tmp 66) (.tmp 67) rfl (some ⟨b, o, none⟩) (q + 1) c q rfl rfl (by omega) s.W) ?_
          simp only [Act.put]
          refine wpMix_nil ?_
          intro _
          refine wpAnyH_fork3 (f := 7) (i := 10) (j := 14) (m := 15) (by kernel_rfl) hS ?_ ?_ ?_
          · simp only [Array.getD_eq_getD_getElem?, List.getElem?_toArray, List.getElem?_cons_succ, List.getElem?_cons_zero, Option.getD_some]
            refine wpMix_c (fun K hK => ?_) hS
            go_simp
            refine (Hic.out W5 hs0).mono ?_
            rintro e W5_1 ⟨rfl, hb'⟩
            refine hK _ _ ?_
            clear hK K
            replace hS := hS.trans (hb'.mono hS.size)
            refine ⟨hS, ?_⟩
            replace hs0 := hs0.step hb'
            try replace ka := ka.step hb'
            try replace kb := kb.step hb'
            clear hb'
            refine wpMix_nil ?_
            intro _
            show wpAnyH _ _ _ _ _ _ #[true, true, true, true, true, true, true, true, true, true, true, false, false, false, false, false, false, false] _ _
            refine wpAnyH_pre (f := 4) (by kernel_rfl) #[true, true, true, true, true, true, true, true, true, true, true, true, true, true, false, false, false, false] [(11, true), (12, true), (13, true)] _ _ _ (by kernel_rfl) hS ?_
            simp only [List.map_cons, List.map_nil, Array.getD_eq_getD_getElem?, List.getElem?_toArray, List.getElem?_cons_succ, List.getElem?_cons_zero, Option.getD_some]
            refine wpMix_s (fun K hK => ?_)
            go_simp
            refine hK _ ?_
            clear hK K
            refine wpMix_s (fun K hK => ?_)
            go_simp
            refine hK _ ?_
            clear hK K
            refine wpMix_s (fun K hK => ?_)
            go_simp
            refine hK _ ?_
            clear hK K
            refine wpMix_nil ?_
            intro _
            refine wpAnyH_fork (f := 3) (i := 14) (j := 15) (by kernel_rfl) hS ?_ ?_
            · simp only [Array.getD_eq_getD_getElem?, List.getElem?_toArray, List.getElem?_cons_succ, List.getElem?_cons_zero, Option.getD_some]
              try have hltb := kb.lt
              have kag := hS.size
              refine wpMix_hnew rfl rfl (fun _ hb => hS.trans (hb.mono hS.size)) ?_
              intro W5_2 ka hb'
              simp only [Act.put]
              replace hS := hS.trans (hb'.mono hS.size)
              replace hs0 := hs0.step hb'
              try replace kb := kb.step hb'
              clear hb'
              refine wpMix_nil ?_
              intro _
              show wpAnyH _ _ _ _ _ _ #[true, true, true, true, true, true, true, true, true, true, true, true, true, true, true, false, false, false] _ _
              refine wpAnyH_pre (f := 0) (by kernel_rfl) #[true, true, true, true, true, true, true, true, true, true, true, true, true, true, true, true, true, true] [(15, false), (16, false), (17, false)] _ _ _ (by kernel_rfl) hS ?_
              simp only [List.map_cons, List.map_nil, Array.getD_eq_getD_getElem?, List.getElem?_toArray, List.getElem?_cons_succ, List.getElem?_cons_zero, Option.getD_some]
              try have hlta := ka.lt
              have kbg := hS.size
              refine wpMix_hnew rfl rfl (fun _ hb => hS.trans (hb.mono hS.size)) ?_
              intro W5_3 kb hb'
              simp only [Act.put]
              replace hS := hS.trans (hb'.mono hS.size)
              replace hs0 := hs0.step hb'
              try replace ka := ka.step hb'
              clear hb'
              refine wpMix_hset (.tmp 17) (.tmp 70) rfl rfl ka rfl rfl Hl1.out (fun _ hb => hS.trans (hb.mono kag)) ?_
              intro W5_4 kas hb' hoth
              simp only [Act.put]
              replace hS := hS.trans (hb'.mono kag)
              replace kb := hoth _ _ (by omega) kb
              clear hb' hoth
              refine wpMix_hset (.tmp 18) (.tmp 71) rfl rfl kb rfl rfl Hl2.out (fun _ hb => hS.trans (hb.mono kbg)) ?_
              intro W5_5 kbs hb' hoth
              simp only [Act.put]
              replace hS := hS.trans (hb'.mono kbg)
              have kaf := hoth _ _ (by omega) kas
              clear hb' hoth
              refine wpMix_nil ?_
              intro _
              refine wpAnyH_end (by kernel_rfl) ?_
              refine ⟨_, _, ?_, kaf, kbs, hS⟩
              kernel_rfl
            · simp only [Array.getD_eq_getD_getElem?, List.getElem?_toArray, List.getElem?_cons_succ, List.getElem?_cons_zero, Option.getD_some]
              try have hlta := ka.lt
              have kbg := hS.size
              refine wpMix_hnew rfl rfl (fun _ hb => hS.trans (hb.mono hS.size)) ?_
              intro W5_6 kb hb'
              simp only [Act.put]
              replace hS := hS.trans (hb'.mono hS.size)
              replace hs0 := hs0.step hb'
              try replace ka := ka.step hb'
              clear hb'
              refine wpMix_nil ?_
              intro _
              show wpAnyH _ _ _ _ _ _ #[true, true, true, true, true, true, true, true, true, true, true, true, true, true, false, true, false, false] _ _
              refine wpAnyH_pre (f := 0) (by kernel_rfl) #[true, true, true, true, true, true, true, true, true, true, true, true, true, true, true, true, true, true] [(14, false), (16, false), (17, false)] _ _ _ (by kernel_rfl) hS ?_
              simp only [List.map_cons, List.map_nil, Array.getD_eq_getD_getElem?, List.getElem?_toArray, List.getElem?_cons_succ, List.getElem?_cons_zero, Option.getD_some]
              try have hltb := kb.lt
              have kag := hS.size
              refine wpMix_hnew rfl rfl (fun _ hb => hS.trans (hb.mono hS.size)) ?_
              intro W5_7 ka hb'
              simp only [Act.put]
              replace hS := hS.trans (hb'.mono hS.size)
              replace hs0 := hs0.step hb'
              try replace kb := kb.step hb'
              clear hb'
              refine wpMix_hset (.tmp 17) (.tmp 70) rfl rfl ka rfl rfl Hl1.out (fun _ hb => hS.trans (hb.mono kag)) ?_
              intro W5_8 kas hb' hoth
              simp only [Act.put]
              replace hS := hS.trans (hb'.mono kag)
              replace kb := hoth _ _ (by omega) kb
              clear hb' hoth
              refine wpMix_hset (.tmp 18) (.tmp 71) rfl rfl kb rfl rfl Hl2.out (fun _ hb => hS.trans (hb.mono kbg)) ?_
              intro W5_9 kbs hb' hoth
              simp only [Act.put]
              replace hS := hS.trans (hb'.mono kbg)
              have kaf := hoth _ _ (by omega) kas
              clear hb' hoth
              refine wpMix_nil ?_
              intro _
              refine wpAnyH_end (by kernel_rfl) ?_
              refine ⟨_, _, ?_, kaf, kbs, hS⟩
              kernel_rfl
          · simp only [Array.getD_eq_getD_getElem?, List.getElem?_toArray, List.getElem?_cons_succ, List.getElem?_cons_zero, Option.getD_some]
            try have hltb := kb.lt
            have kag := hS.size
            refine wpMix_hnew rfl rfl (fun _ hb => hS.trans (hb.mono hS.size)) ?_
            intro W5_10 ka hb'
            simp only [Act.put]
            replace hS := hS.trans (hb'.mono hS.size)
            replace hs0 := hs0.step hb'
            try replace kb := kb.step hb'
            clear hb'
            refine wpMix_nil ?_
            intro _
            show wpAnyH _ _ _ _ _ _ #[true, true, true, true, true, true, true, true, true, true, false, false, false, false, true, false, false, false] _ _
            refine wpAnyH_fork (f := 6) (i := 10) (j := 15) (by kernel_rfl) hS ?_ ?_
            · simp only [Array.getD_eq_getD_getElem?, List.getElem?_toArray, List.getElem?_cons_succ, List.getElem?_cons_zero, Option.getD_some]
              refine wpMix_c (fun K hK => ?_) hS
              go_simp
              refine (Hic.out W5_10 hs0).mono ?_
              rintro e W5_11 ⟨rfl, hb'⟩
              refine hK _ _ ?_
              clear hK K
              replace hS := hS.trans (hb'.mono hS.size)
              refine ⟨hS, ?_⟩
              replace hs0 := hs0.step hb'
              try replace ka := ka.step hb'
              try replace kb := kb.step hb'
              clear hb'
              refine wpMix_nil ?_
              intro _
              show wpAnyH _ _ _ _ _ _ #[true, true, true, true, true, true, true, true, true, true, true, false, false, false, true, false, false, false] _ _
              refine wpAnyH_pre (f := 0) (by kernel_rfl) #[true, true, true, true, true, true, true, true, true, true, true, true, true, true, true, true, true, true] [(11, true), (12, true), (13, true), (15, false), (16, false), (17, false)] _ _ _ (by kernel_rfl) hS ?_
              simp only [List.map_cons, List.map_nil, Array.getD_eq_getD_getElem?, List.getElem?_toArray, List.getElem?_cons_succ, List.getElem?_cons_zero, Option.getD_some]
              refine wpMix_s (fun K hK => ?_)
              go_simp
              refine hK _ ?_
              clear hK K
              refine wpMix_s (fun K hK => ?_)
              go_simp
              refine hK _ ?_
              clear hK K
              refine wpMix_s (fun K hK => ?_)
              go_simp
              refine hK _ ?_
              clear hK K
              try have hlta := ka.lt
              have kbg := hS.size
              refine wpMix_hnew rfl rfl (fun _ hb => hS.trans (hb.mono hS.size)) ?_
              intro W5_12 kb hb'
              simp only [Act.put]
              replace hS := hS.trans (hb'.mono hS.size)
              replace hs0 := hs0.step hb'
              try replace ka := ka.step hb'
              clear hb'
              refine wpMix_hset (.tmp 17) (.tmp 70) rfl rfl ka rfl rfl Hl1.out (fun _ hb => hS.trans (hb.mono kag)) ?_
              intro W5_13 kas hb' hoth
              simp only [Act.put]
              replace hS := hS.trans (hb'.mono kag)
              replace kb := hoth _ _ (by omega) kb
              clear hb' hoth
              refine wpMix_hset (.tmp 18) (.tmp 71) rfl rfl kb rfl rfl Hl2.out (fun _ hb => hS.trans (hb.mono kbg)) ?_
              intro W5_14 kbs hb' hoth
              simp only [Act.put]
              replace hS := hS.trans (hb'.mono kbg)
              have kaf := hoth _ _ (by omega) kas
              clear hb' hoth
              refine wpMix_nil ?_
              intro _
              refine wpAnyH_end (by kernel_rfl) ?_
              refine ⟨_, _, ?_, kaf, kbs, hS⟩
              kernel_rfl
            · simp only [Array.getD_eq_getD_getElem?, List.getElem?_toArray, List.getElem?_cons_succ, List.getElem?_cons_zero, Option.getD_some]
              try have hlta := ka.lt
              have kbg := hS.size
              refine wpMix_hnew rfl rfl (fun _ hb => hS.trans (hb.mono hS.size)) ?_
              intro W5_15 kb hb'
              simp only [Act.put]
              replace hS := hS.trans (hb'.mono hS.size)
              replace hs0 := hs0.step hb'
              try replace ka := ka.step hb'
              clear hb'
              refine wpMix_nil ?_
              intro _
              show wpAnyH _ _ _ _ _ _ #[true, true, true, true, true, true, true, true, true, true, false, false, false, false, true, true, false, false] _ _
              refine wpAnyH_pre (f := 0) (by kernel_rfl) #[true, true, true, true, true, true, true, true, true, true, true, true, true, true, true, true, true, true] [(10, false), (11, true), (12, true), (13, true), (16, false), (17, false)] _ _ _ (by kernel_rfl) hS ?_
              simp only [List.map_cons, List.map_nil, Array.getD_eq_getD_getElem?, List.getElem?_toArray, List.getElem?_cons_succ, List.getElem?_cons_zero, Option.getD_some]
              refine wpMix_c (fun K hK => ?_) hS
              go_simp
              refine (Hic.out W5_15 hs0).mono ?_
              rintro e W5_16 ⟨rfl, hb'⟩
              refine hK _ _ ?_
              clear hK K
              replace hS := hS.trans (hb'.mono hS.size)
              refine ⟨hS, ?_⟩
              replace hs0 := hs0.step hb'
              try replace ka := ka.step hb'
              try replace kb := kb.step hb'
              clear hb'
              refine wpMix_s (fun K hK => ?_)
              go_simp
              refine hK _ ?_
              clear hK K
              refine wpMix_s (fun K hK => ?_)
              go_simp
              refine hK _ ?_
              clear hK K
              refine wpMix_s (fun K hK => ?_)
              go_simp
              refine hK _ ?_
              clear hK K
              refine wpMix_hset (.tmp 17) (.tmp 70) rfl rfl ka rfl rfl Hl1.out (fun _ hb => hS.trans (hb.mono kag)) ?_
              intro W5_17 kas hb' hoth
              simp only [Act.put]
              replace hS := hS.trans (hb'.mono kag)
              replace kb := hoth _ _ (by omega) kb
              clear hb' hoth
              refine wpMix_hset (.tmp 18) (.tmp 71) rfl rfl kb rfl rfl Hl2.out (fun _ hb => hS.trans (hb.mono kbg)) ?_
              intro W5_18 kbs hb' hoth
              simp only [Act.put]
              replace hS := hS.trans (hb'.mono kbg)
              have kaf := hoth _ _ (by omega) kas
              clear hb' hoth
              refine wpMix_nil ?_
              intro _
              refine wpAnyH_end (by kernel_rfl) ?_
              refine ⟨_, _, ?_, kaf, kbs, hS⟩
              kernel_rfl
          · simp only [Array.getD_eq_getD_getElem?, List.getElem?_toArray, List.getElem?_cons_succ, List.getElem?_cons_zero, Option.getD_some]
            try have hlta := ka.lt
            have kbg := hS.size
            refine wpMix_hnew rfl rfl (fun _ hb => hS.trans (hb.mono hS.size)) ?_
            intro W5_19 kb hb'
            simp only [Act.put]
            replace hS := hS.trans (hb'.mono hS.size)
            replace hs0 := hs0.step hb'
            try replace ka := ka.step hb'
            clear hb'
            refine wpMix_nil ?_
            intro _
            show wpAnyH _ _ _ _ _ _ #[true, true, true, true, true, true, true, true, true, true, false, false, false, false, false, true, false, false] _ _
            refine wpAnyH_fork (f := 6) (i := 10) (j := 14) (by kernel_rfl) hS ?_ ?_
            · simp only [Array.getD_eq_getD_getElem?, List.getElem?_toArray, List.getElem?_cons_succ, List.getElem?_cons_zero, Option.getD_some]
              refine wpMix_c (fun K hK => ?_) hS
              go_simp
              refine (Hic.out W5_19 hs0).mono ?_
              rintro e W5_20 ⟨rfl, hb'⟩
              refine hK _ _ ?_
              clear hK K
              replace hS := hS.trans (hb'.mono hS.size)
              refine ⟨hS, ?_⟩
              replace hs0 := hs0.step hb'
              try replace ka := ka.step hb'
              try replace kb := kb.step hb'
              clear hb'
              refine wpMix_nil ?_
              intro _
              show wpAnyH _ _ _ _ _ _ #[true, true, true, true, true, true, true, true, true, true, true, false, false, false, false, true, false, false] _ _
              refine wpAnyH_pre (f := 0) (by kernel_rfl) #[true, true, true, true, true, true, true, true, true, true, true, true, true, true, true, true, true, true] [(11, true), (12, true), (13, true), (14, false), (16, false), (17, false)] _ _ _ (by kernel_rfl) hS ?_
              simp only [List.map_cons, List.map_nil, Array.getD_eq_getD_getElem?, List.getElem?_toArray, List.getElem?_cons_succ, List.getElem?_cons_zero, Option.getD_some]
              refine wpMix_s (fun K hK => ?_)
              go_simp
              refine hK _ ?_
              clear hK K
              refine wpMix_s (fun K hK => ?_)
              go_simp
              refine hK _ ?_
              clear hK K
              refine wpMix_s (fun K hK => ?_)
              go_simp
              refine hK _ ?_
              clear hK K
              try have hltb := kb.lt
              have kag := hS.size
              refine wpMix_hnew rfl rfl (fun _ hb => hS.trans (hb.mono hS.size)) ?_
              intro W5_21 ka hb'
              simp only [Act.put]
              replace hS := hS.trans (hb'.mono hS.size)
              replace hs0 := hs0.step hb'
              try replace kb := kb.step hb'
              clear hb'
              refine wpMix_hset (.tmp 17) (.tmp 70) rfl rfl ka rfl rfl Hl1.out (fun _ hb => hS.trans (hb.mono kag)) ?_
              intro W5_22 kas hb' hoth
              simp only [Act.put]
              replace hS := hS.trans (hb'.mono kag)
              replace kb := hoth _ _ (by omega) kb
              clear hb' hoth
              refine wpMix_hset (.tmp 18) (.tmp 71) rfl rfl kb rfl rfl Hl2.out (fun _ hb => hS.trans (hb.mono kbg)) ?_
              intro W5_23 kbs hb' hoth
              simp only [Act.put]
              replace hS := hS.trans (hb'.mono kbg)
              have kaf := hoth _ _ (by omega) kas
              clear hb' hoth
              refine wpMix_nil ?_
              intro _
              refine wpAnyH_end (by kernel_rfl) ?_
              refine ⟨_, _, ?_, kaf, kbs, hS⟩
              kernel_rfl
            · simp only [Array.getD_eq_getD_getElem?, List.getElem?_toArray, List.getElem?_cons_succ, List.getElem?_cons_zero, Option.getD_some]
              try have hltb := kb.lt
              have kag := hS.size
              refine wpMix_hnew rfl rfl (fun _ hb => hS.trans (hb.mono hS.size)) ?_
              intro W5_24 ka hb'
              simp only [Act.put]
              replace hS := hS.trans (hb'.mono hS.size)
              replace hs0 := hs0.step hb'
              try replace kb := kb.step hb'
              clear hb'
              refine wpMix_nil ?_
              intro _
              show wpAnyH _ _ _ _ _ _ #[true, true, true, true, true, true, true, true, true, true, false, false, false, false, true, true, false, false] _ _
              refine wpAnyH_pre (f := 0) (by kernel_rfl) #[true, true, true, true, true, true, true, true, true, true, true, true, true, true, true, true, true, true] [(10, false), (11, true), (12, true), (13, true), (16, false), (17, false)] _ _ _ (by kernel_rfl) hS ?_
              simp only [List.map_cons, List.map_nil, Array.getD_eq_getD_getElem?, List.getElem?_toArray, List.getElem?_cons_succ, List.getElem?_cons_zero, Option.getD_some]
              refine wpMix_c (fun K hK => ?_) hS
              go_simp
              refine (Hic.out W5_24 hs0).mono ?_
              rintro e W5_25 ⟨rfl, hb'⟩
              refine hK _ _ ?_
              clear hK K
              replace hS := hS.trans (hb'.mono hS.size)
              refine ⟨hS, ?_⟩
              replace hs0 := hs0.step hb'
              try replace ka := ka.step hb'
              try replace kb := kb.step hb'
              clear hb'
              refine wpMix_s (fun K hK => ?_)
              go_simp
              refine hK _ ?_
              clear hK K
              refine wpMix_s (fun K hK => ?_)
              go_simp
              refine hK _ ?_
              clear hK K
              refine wpMix_s (fun K hK => ?_)
              go_simp
              refine hK _ ?_
              clear hK K
              refine wpMix_hset (.tmp 17) (.tmp 70) rfl rfl ka rfl rfl Hl1.out (fun _ hb => hS.trans (hb.mono kag)) ?_
              intro W5_26 kas hb' hoth
              simp only [Act.put]
              replace hS := hS.trans (hb'.mono kag)
              replace kb := hoth _ _ (by omega) kb
              clear hb' hoth
              refine wpMix_hset (.tmp 18) (.tmp 71) rfl rfl kb rfl rfl Hl2.out (fun _ hb => hS.trans (hb.mono kbg)) ?_
              intro W5_27 kbs hb' hoth
              simp only [Act.put]
              replace hS := hS.trans (hb'.mono kbg)
              have kaf := hoth _ _ (by omega) kas
              clear hb' hoth
              refine wpMix_nil ?_
              intro _
              refine wpAnyH_end (by kernel_rfl) ?_
              refine ⟨_, _, ?_, kaf, kbs, hS⟩
              kernel_rfl
        rintro us a' W5 ⟨ga, gb, rfl, ka, kb, hb5⟩
        have k8' := k8.step hb5
        have k10' := k10.step hb5
        have k11' := k11.step hb5
        have k14' := k14.step hb5
        have hbw := hb3.trans (hb5.mono hb3.size)
        clear k8 k10 k11 k14 hb5 hs0
        have hS : Below W5.heap.size W5 W5.drew := (Below.refl _ _).drew
        have la : ∀ s : InC (fun W => Below W5.heap.size W5 W), (Instr.loadAt 34 (.pointer (some ⟨ga, 0, none⟩))).run Try.prog s.W = .ok (.agg (r1.map B).toArray) s.W := fun s => (ka.step s.ok).load
        have lb : ∀ s : InC (fun W => Below W5.heap.size W5 W), (Instr.loadAt 34 (.pointer (some ⟨gb, 0, none⟩))).run Try.prog s.W = .ok (.agg (r2.map B).toArray) s.W := fun s => (kb.step s.ok).load
        have l14 : ∀ s : InC (fun W => Below W5.heap.size W5 W), (Instr.loadAt 34 (.pointer (some ⟨w.heap.size + 1 + 1 + 1, 0, none⟩))).run Try.prog s.W = .ok (.agg (y.map B).toArray) s.W := fun s => (k14'.step s.ok).load
        have La := Lib.hid la
        have Lb := Lib.hid lb
        have L14 := Lib.hid l14
        clear la lb l14 ka kb k14'
        go_wp2_with fail
        refine wp_region_mix_tail (fun W => Below W5.heap.size W5 W) 6 [(0, true), (1, true), (3, true), (4, true), (2, false), (5, false)] (by kernel_rfl) (by kernel_rfl) hS fun _ => ?_
        simp only [List.map_cons, List.map_nil, Array.getD_eq_getD_getElem?, List.getElem?_toArray, List.getElem?_cons_succ, List.getElem?_cons_zero, Option.getD_some]
        generalize W5.drew = W6 at hS ⊢
        refine wpMix_load (by kernel_rfl) 34 (.tmp 14) rfl (w.heap.size + 1 + 1 + 1) (0) rfl (y.map B).toArray (L14.out) ?_
        simp only [Act.put]
        refine wpMix_load (by kernel_rfl) 34 (.tmp 17) rfl (ga) (0) rfl (r1.map B).toArray (La.out) ?_
        simp only [Act.put]
        refine wpMix_load (by kernel_rfl) 34 (.tmp 14) rfl (w.heap.size + 1 + 1 + 1) (0) rfl (y.map B).toArray (L14.out) ?_
        simp only [Act.put]
        refine wpMix_load (by kernel_rfl) 34 (.tmp 18) rfl (gb) (0) rfl (r2.map B).toArray (Lb.out) ?_
        simp only [Act.put]
        refine wpMix_c (fun K hK => ?_) hS
        go_simp
        refine (hrnode_any y r1 W6 Hyl.out Hl1.out).mono ?_
        rintro e W6_1 ⟨rfl, hb'⟩
        refine hK _ _ ?_
        clear hK K
        replace hS := hS.trans (hb'.mono hS.size)
        refine ⟨hS, ?_⟩
        clear hb'
        refine wpMix_c (fun K hK => ?_) hS
        go_simp
        refine (hrnode_any y r2 W6_1 Hyl.out Hl2.out).mono ?_
        rintro e W6_2 ⟨rfl, hb'⟩
        refine hK _ _ ?_
        clear hK K
        replace hS := hS.trans (hb'.mono hS.size)
        refine ⟨hS, ?_⟩
        clear hb'
        refine wpMix_nil ?_
        intro _
        simp only [List.drop_succ_cons, List.drop_zero]
        generalize W6_2 = W7 at *
        have k10'' := k10'.step hS
        have k11'' := k11'.step hS
        have hbw7 := hbw.trans (hS.mono hbw.size)
        clear k8' k10' k11' hS hbw
        go_wp2_with (first
          | ((with_reducible show wpList _ _ _ (⟨none, .store _ (.tmp 10) _, _, _, _, _⟩ :: _) _ _); refine wpList_hset2 (.tmp 10) (.tmp 74) rfl rfl k10'' rfl rfl (length_hNode _ _) ?_; intro W8 k10s hb8 hoth8; simp only [Act.put]; replace k11'' := hoth8 _ _ (by omega) k11''; replace hbw7 := hbw7.trans (hb8.mono (by omega)))
          | ((with_reducible show wpList _ _ _ (⟨none, .store _ (.tmp 11) _, _, _, _, _⟩ :: _) _ _); refine wpList_hset2 (.tmp 11) (.tmp 77) rfl rfl k11'' rfl rfl (length_hNode _ _) ?_; intro W9 k11s hb9 hoth9; simp only [Act.put]; replace k10s := hoth9 _ _ (by omega) k10s; replace hbw7 := hbw7.trans (hb9.mono (by omega))))
        refine np_normal ?_
        go_wp2_with fail
        refine bodyPost_ret (tuple_cells2 rfl _ _ (w.heap.size + 1) (w.heap.size + 1 + 1) (hNode y r1) (hNode y r2) rfl rfl k10s k11s) rfl ⟨rfl, hbw7⟩
end Go.Proofs.Ytgcbdnoniikboaa
