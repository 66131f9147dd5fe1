/- notaryref03.Of: a sum under way out of bytes. -/
import Derived.Test.YtdkgndjomkbbjaaQa111
import Derived.Test.YtdkgndjomkbbjaaQa109
import Derived.Test.YtdkgndjomkbbjaaQa107
namespace Go.Proofs.Ytdkgndjomkbbjaa
open Go.RowKit

/-- bodyPost, closed -/
structure BP (P : Program) (fn : Func) (R : Ending → World → Prop) (ex : Exit) (a : Act) (w : World) : Prop where
  out : bodyPost P fn R ex a w
set_option maxRecDepth 100000 in
theorem tuple_cellU {fn : Func} {p u : Tmp} (h : fn.results = #[.cell p 77, .tmp u]) (tmps : Array Value) (w : World) (g : Nat) (cs : Array Value)
    (hp : tmps.getD p undef = .pointer (some ⟨g, 0, none⟩)) (hg : Blk w g 77 cs) (hs : cs.size = 10) :
    (results fn tmps).run Try.prog w = .ok (.tuple #[.agg cs, tmps.getD u undef]) w := by
  rw [results_cell_tmp h, hp]
  show ((loadVar 77 ⟨g, 0, none⟩).run Try.prog w).andThen (fun v w₂ => Result.ok (Value.tuple #[v, tmps.getD u undef]) w₂) = _
  rw [run_loadVar_row w g 77 77 cs (0, 0) _ hg Try.underlying77 rfl (by rw [hs]; exact info77)]
  rfl
/-- nothing -/
def Und.zero : Und := ⟨S8.of (List.replicate 8 0), 0, []⟩
/-- in the loops: the result's place, the sum's, what is read -/
structure RfC (w : World) (A : Option Addr) (n c : Nat) (l : List UInt8) (zs : Array Value) (st : List UInt32) (W : World) : Prop where
  res : Blk W w.heap.size 77 zs
  own : Blk W (w.heap.size + 1) 77 (undCells st 0 (.slice none 0 0)).toArray
  src : Sl W (· < w.heap.size) A n c l
  bel : Below w.heap.size w W
theorem RfC.step {w W W' : World} {A : Option Addr} {n c : Nat} {l : List UInt8} {zs : Array Value} {st : List UInt32} (h : RfC w A n c l zs st W) (hb : Below W.heap.size W W') : RfC w A n c l zs st W' :=
  ⟨h.res.below hb h.res.lt, h.own.below hb h.own.lt, h.src.step hb, h.bel.trans (hb.mono h.bel.size)⟩
theorem undCells_set (st : List UInt32) (n t : Nat) (r : Value) (x : UInt32) (ht : t < st.length) : (undCells st n r).toArray.setIfInBounds t (U x) = (undCells (st.set t x) n r).toArray := by
  simp only [List.setIfInBounds_toArray, undCells]
  rw [List.set_append_left _ _ (by simpa using ht), List.map_set]
set_option maxHeartbeats 4000000 in
set_option maxRecDepth 100000 in
theorem rof_any (l : List UInt8) (A : Option Addr) (n c : Nat) (w : World) (h : Sl w (· < w.heap.size) A n c l) (hmax : n ≤ 1099511627776) :
    Calls Try.prog 47 #[.slice A n c] w fun e w' => Below w.heap.size w w' ∧ (∀ u, Und.ofBytes l = some u → ∃ A' n' c', e = .returned (.tuple #[undV u (.slice A' n' c'), .int .i64 0]) ∧ Sl w' (w.heap.size ≤ ·) A' n' c' u.rest) ∧ (Und.ofBytes l = none → e = .returned (.tuple #[undV Und.zero (.slice none 0 0), .int .i64 130])) := by
  have hm := h.max
  unfold maxLen at hm
  have hr := h.room
  have hlen := h.len
  obtain ⟨zs, hzs⟩ : ∃ zs, (undCells (List.replicate 8 0) 0 (.slice none 0 0)).toArray = zs := ⟨_, rfl⟩
  have hz10 : zs.size = 10 := by rw [← hzs]; exact undCells_len _ _ rfl
  have hz1 : ∀ v ∈ zs.toList, v.oneCell' = true := by rw [← hzs]; exact undCells_one
  have hzv : undV Und.zero (.slice none 0 0) = .agg zs := by rw [← hzs]; rfl
  have kz : ∀ W : World, Blk (W.alloc (.cells zs 77)) W.heap.size 77 zs := fun W => Blk.new _ _ _
  have Hzs := Lib.hid hzs
  have Hz10 := Lib.hid hz10
  have Hz1 := Lib.hid hz1
  have Hzv := Lib.hid hzv
  have Hlen := Lib.hid hlen
  clear hzs hz10 hz1 hzv hlen
  by_cases h40 : n < 40
  · have hd : decide ((n : Int) < 40) = true := by simp; omega
    have hno : Und.ofBytes l = none := by unfold Und.ofBytes; rw [if_pos (by rw [Hlen.out]; exact h40)]
    have Hno := Lib.hid hno
    clear hno
    go_enter Try.func47, Try.ntmps47
    refine Code.wp_mono (fun _ _ _ h => BP.out h) ?_
    go_wp2_with (first
      | ((with_reducible show wpList _ _ _ (⟨some 2, .alloc _, _, _, _, _⟩ :: _) _ _); refine wpList_run rfl (.pointer (some ⟨w.heap.size, 0, none⟩)) (w.alloc (.cells zs 77)) (by rw [← Hzs.out]; kernel_rfl) ?_; simp only [Act.put])
      | ((with_reducible show wpList _ _ _ (⟨some 11, .build _ _, _, _, _, _⟩ :: _) _ _); refine wpList_run0 rfl (.agg zs) (by rw [← Hzs.out]; kernel_rfl) ?_; simp only [Act.put])
      | ((with_reducible show wpList _ _ _ (⟨none, .store _ _ _, _, _, _, _⟩ :: _) _ _); refine wpList_store_blk rfl 77 (.tmp 2) (.tmp 11) rfl 10 size77 w.heap.size zs rfl rfl Hz10.out Hz1.out 77 _ (kz w) Hz10.out ?_; simp only [Act.put]))
    refine ⟨bodyPost_ret (tuple_cellU rfl _ _ w.heap.size zs rfl ((kz w).setRow_ _) Hz10.out) rfl ⟨below_setRow ((Below.refl _ _).alloc (Nat.le_refl _) _) (Nat.le_refl _) _, fun u e => ?_, fun _ => by rw [Hzv.out]; rfl⟩⟩
    rw [Hno.out] at e
    cases e
  · have hd : decide ((n : Int) < 40) = false := by simp; omega
    obtain ⟨b0, o0, rfl, hb0, -, -⟩ := h.cells (by omega)
    have Hh := Lib.hid h
    clear h
    go_enter Try.func47, Try.ntmps47
    refine Code.wp_mono (fun _ _ _ h => BP.out h) ?_
    go_wp2_with (first
      | ((with_reducible show wpList _ _ _ (⟨some 2, .alloc _, _, _, _, _⟩ :: _) _ _); refine wpList_run rfl (.pointer (some ⟨w.heap.size, 0, none⟩)) (w.alloc (.cells zs 77)) (by rw [← Hzs.out]; kernel_rfl) ?_; simp only [Act.put])
      | ((with_reducible show wpList _ _ _ (⟨some 4, .alloc _, _, _, _, _⟩ :: _) _ _); obtain ⟨w1, hw1⟩ : ∃ x, w.alloc (.cells zs 77) = x := ⟨_, rfl⟩; have hs1 : w1.heap.size = w.heap.size + 1 := (by rw [← hw1]; simp); rw [hw1]; refine wpList_run rfl (.pointer (some ⟨w.heap.size + 1, 0, none⟩)) (w1.alloc (.cells zs 77)) (by rw [← Hzs.out, ← hs1]; kernel_rfl) ?_; simp only [Act.put]))
    have hC : RfC w (some ⟨b0, o0, none⟩) n c l zs (stW l 0) (w1.alloc (.cells zs 77)) := by
      refine ⟨?_, ?_, ?_, ?_⟩
      · rw [← hw1]; exact (kz w).alloc _
      · rw [← hs1, stW_zero, Hzs.out]; exact kz w1
      · rw [← hw1]; exact (Hh.out.alloc _).alloc _
      · rw [← hw1]; exact ((Below.refl _ _).alloc (Nat.le_refl _) _).alloc (by simp) _
    clear hw1 hs1
    go_loopw [5] (fun i wr => ∃ (q : Nat), q ≤ 32 ∧ i = .int .i64 q ∧ RfC w (some ⟨b0, o0, none⟩) n c l zs (stW l q) wr) (fun i _ => 32 - (intOf i).toNat)
    case atStart => exact ⟨0, by omega, rfl, hC⟩
    case round =>
      clear hC
      obtain ⟨q, hq, rfl, hC⟩ := hrel
      by_cases hlq : q < 32
      · have hd1 : decide ((q : Int) < 32) = true := by simp; omega
        obtain ⟨x, hx⟩ : ∃ x, (stW l q).getD (q / 4) 0 = x := ⟨_, rfl⟩
        obtain ⟨y, hy⟩ : ∃ y, l.getD q 0 = y := ⟨_, rfl⟩
        have hset := stW_step l q (by rw [Hlen.out]; omega) hlq
        rw [hx, hy] at hset
        obtain ⟨st, hst⟩ : ∃ st, stW l q = st := ⟨_, rfl⟩
        rw [hst] at hC hset hx
        have hs8 : st.length = 8 := by rw [← hst]; rfl
        have c1 : ∀ s : InC (fun W => Below wr.heap.size wr W), s.W.cell? ⟨w.heap.size + 1, q / 4, none⟩ = some (.int .u32 (x.toNat : Int)) := fun s => by
          rw [((hC.step s.ok).own).cell, List.getElem?_toArray, undCells, List.getElem?_append_left (by simp [hs8]; omega), List.getElem?_map, List.getElem?_eq_getElem (by omega), ← hx, List.getD_eq_getElem?_getD, List.getElem?_eq_getElem (by omega)]
          rfl
        have c2 : ∀ s : InC (fun W => Below wr.heap.size wr W), s.W.cell? ⟨b0, o0 + q, none⟩ = some (.int .u8 (y.toNat : Int)) := fun s => by
          obtain ⟨b1, o1, hA, -, -, hcl⟩ := ((hC.step s.ok).src).cells (by omega)
          cases hA
          rw [hcl q (by omega), hy]
        obtain ⟨p, hp⟩ : ∃ p, x * 256 = p := ⟨_, rfl⟩
        obtain ⟨z, hz⟩ : ∃ z, p + y.toUInt32 = z := ⟨_, rfl⟩
        obtain ⟨q4, hq4⟩ : ∃ q4, q / 4 = q4 := ⟨_, rfl⟩
        have hqw : IntKind.i64.wrap ((q : Int) / 4) = (q4 : Int) := by rw [IntWalk.i64_in _ (by omega)]; omega
        have hq8 : (q4 : Int) < 8 := by omega
        rw [hq4] at c1 hset
        have hqn : q < n := by omega
        have hyl := y.toNat_lt
        have hwm : IntKind.u32.wrap ((x.toNat : Int) * 256) = (p.toNat : Int) := by
          rw [IntKind.wrap_u32, ← hp, UInt32.toNat_mul, show (256 : UInt32).toNat = 256 by decide]; omega
        have hwy : IntKind.u32.wrap (y.toNat : Int) = (y.toNat : Int) := by rw [IntKind.wrap_u32]; omega
        have hwa : IntKind.u32.wrap ((p.toNat : Int) + (y.toNat : Int)) = (z.toNat : Int) := by
          rw [IntKind.wrap_u32, ← hz, UInt32.toNat_add, UInt8.toNat_toUInt32]; omega
        rw [hp, hz] at hset
        have hS : Below wr.heap.size wr wr.drew := (Below.refl _ _).drew
        have Hst := Lib.hid hst
        have Hset := Lib.hid hset
        have HC := Lib.hid hC
        have Hq4 := Lib.hid hq4
        clear hst hset hC hx hy hp hz hq4
        go_wp2_with fail
        refine wp_region_mix_last (fun W => Below wr.heap.size wr W) 16 [(0, true), (1, true), (2, true), (3, true), (4, true), (5, true), (6, true), (7, true), (8, true), (9, true), (10, true), (11, true), (12, true), (13, true), (14, false), (15, true)] (by kernel_rfl) (by kernel_rfl) hS fun _ => ?_
        simp only [List.map_cons, List.map_nil, Array.getD_eq_getD_getElem?, List.getElem?_toArray, List.getElem?_cons_succ, List.getElem?_cons_zero, Option.getD_some]
        generalize wr.drew = W0 at hS ⊢
        refine wpMix_s (fun K hK => ?_)
        go_simp
        refine hK _ ?_
        clear hK K
        refine wpMix_s (fun K hK => ?_)
        go_simp
        refine hK _ ?_
        clear hK K
        refine wpMix_s (fun K hK => ?_)
        go_simp
        refine hK _ ?_
        clear hK K
        refine wpMix_s (fun K hK => ?_)
        go_simp
        refine hK _ ?_
        clear hK K
        refine wpMix_s (fun K hK => ?_)
        go_simp
        refine hK _ ?_
        clear hK K
        refine wpMix_s (fun K hK => ?_)
        go_simp
        refine hK _ ?_
        clear hK K
        refine wpMix_s (fun K hK => ?_)
        go_simp
        refine hK _ ?_
        clear hK K
        refine wpMix_s (fun K hK => ?_)
        go_simp
        refine hK _ ?_
        clear hK K
        refine wpMix_s (fun K hK => ?_)
        go_simp
        refine hK _ ?_
        clear hK K
        refine wpMix_s (fun K hK => ?_)
        go_simp
        refine hK _ ?_
        clear hK K
        refine wpMix_s (fun K hK => ?_)
        go_simp
        refine hK _ ?_
        clear hK K
        refine wpMix_s (fun K hK => ?_)
        go_simp
        refine hK _ ?_
        clear hK K
        refine wpMix_s (fun K hK => ?_)
        go_simp
        refine hK _ ?_
        clear hK K
        refine wpMix_s (fun K hK => ?_)
        go_simp
        refine hK _ ?_
        clear hK K
        refine wpMix_c (fun K hK => ?_) hS
        go_simp
        refine hK _ _ ?_
        clear hK K
        refine ⟨hS, ?_⟩
        refine wpMix_s (fun K hK => ?_)
        go_simp
        refine hK _ ?_
        clear hK K
        refine wpMix_nil ?_
        intro _
        simp only [List.drop_succ_cons, List.drop_zero]
        have hC7 := HC.out.step hS
        have hk7 := hC7.own
        have c7 : W0.cell? ⟨w.heap.size + 1, q4, none⟩ = some (.int .u32 (x.toNat : Int)) := c1 ⟨W0, hS⟩
        have f7 := hk7.frozen q4
        have k8 := hk7.set_ q4 (U z)
        rw [undCells_set st 0 q4 _ z (by rw [hs8]; omega), Hset.out] at k8
        have hC8 : RfC w (some ⟨b0, o0, none⟩) n c l zs (stW l (q + 1)) (W0.setCell ⟨w.heap.size + 1, q4, none⟩ (U z)) :=
          ⟨hC7.res.apart (by simp) _, k8, hC7.src.setCell (p := ⟨w.heap.size + 1, q4, none⟩) (U z) (by simp), hC7.bel.setCell (p := ⟨w.heap.size + 1, q4, none⟩) (Nat.le_succ _) (U z)⟩
        have HC8 := Lib.hid hC8
        clear hC8 k8 hk7 hC7 c1 c2 hS
        go_wp2_with fail
        refine np_normal ?_
        go_wp2_with fail
        go_roundw
        case rel => exact ⟨q + 1, by omega, by go_num, HC8.out⟩
        case measure => simp [intOf]; omega
      · obtain rfl : q = 32 := by omega
        have hd1 : decide (((32 : Nat) : Int) < 32) = false := by decide
        have hn8 := nN_end l (by rw [Hlen.out]; omega)
        have hs8 := stW_end l (by rw [Hlen.out]; omega)
        obtain ⟨st, hst⟩ : ∃ st, stW l 32 = st := ⟨_, rfl⟩
        rw [hst] at hC hs8
        have hl8 : st.length = 8 := by rw [← hst]; rfl
        have Hn8 := Lib.hid hn8
        have Hs8 := Lib.hid hs8
        clear hn8 hs8 hst
        go_wp2_with fail
        go_loopw [6, 7] (fun v i wr => ∃ (q : Nat), 32 ≤ q ∧ q ≤ 40 ∧ i = .int .i64 q ∧ v = .int .u64 ((nN l q : Nat) : Int) ∧ RfC w (some ⟨b0, o0, none⟩) n c l zs st wr) (fun _ i _ => 40 - (intOf i).toNat)
        case atStart => exact ⟨32, Nat.le_refl _, by omega, rfl, by rw [nN_start]; rfl, hC⟩
        case round =>
          clear hC
          obtain ⟨q, hq1, hq, rfl, rfl, hC⟩ := hrel
          by_cases hlq : q < 40
          · have hd2 : decide ((q : Int) < 40) = true := by simp; omega
            have hqn : q < n := by omega
            have hN := nN_step l q (by rw [Hlen.out]; omega) hq1
            have hNb := nN_bound l q hq1 hq
            have hNp : 256 ^ (q - 32) ≤ 256 ^ 7 := Nat.pow_le_pow_right (by decide) (by omega)
            obtain ⟨y, hy⟩ : ∃ y, l.getD q 0 = y := ⟨_, rfl⟩
            rw [hy] at hN
            obtain ⟨N, hNN⟩ : ∃ N, nN l q = N := ⟨_, rfl⟩
            obtain ⟨M, hMM⟩ : ∃ M, nN l (q + 1) = M := ⟨_, rfl⟩
            rw [hNN] at hN hNb ⊢
            rw [hMM] at hN
            have hNlt : N < 72057594037927936 := Nat.lt_of_lt_of_le hNb (Nat.le_trans hNp (by decide))
            have hyl := y.toNat_lt
            have hwm : IntKind.u64.wrap ((N : Int) * 256) = (N : Int) * 256 := by rw [IntKind.wrap_u64]; omega
            have hwy : IntKind.u64.wrap (y.toNat : Int) = (y.toNat : Int) := by rw [IntKind.wrap_u64]; omega
            have hwa : IntKind.u64.wrap ((N : Int) * 256 + (y.toNat : Int)) = (M : Int) := by rw [IntKind.wrap_u64]; omega
            have c2 : wr.cell? ⟨b0, o0 + q, none⟩ = some (.int .u8 (y.toNat : Int)) := by
              obtain ⟨b1, o1, hA, -, -, hcl⟩ := hC.src.cells (by omega)
              cases hA
              rw [hcl q (by omega), hy]
            have HC := Lib.hid hC
            have HMM := Lib.hid hMM
            clear hC hN hNb hNp hNN hMM hNlt hy
            go_wp2_with fail
            go_roundw
            case rel => exact ⟨q + 1, by omega, by omega, by go_num, by rw [HMM.out], HC.out⟩
            case measure => simp [intOf]; omega
          · obtain rfl : q = 40 := by omega
            have hd2 : decide (((40 : Nat) : Int) < 40) = false := by decide
            rw [Hn8.out]
            have hb := nN_bound l 40 (by decide) (by decide)
            rw [Hn8.out] at hb
            obtain ⟨N, hNN⟩ : ∃ N, num10 l = N := ⟨_, rfl⟩
            rw [hNN] at hb ⊢
            have hof : Und.ofBytes l = if 1152921504606846976 < N ∨ n ≠ 40 + N % 64 then none else some ⟨S8.of st, N, l.drop 40⟩ := by
              unfold Und.ofBytes
              rw [if_neg (by rw [Hlen.out]; exact h40), hNN, Hlen.out, Hs8.out]
            have hu64 : N < 18446744073709551616 := Nat.lt_of_lt_of_le hb (by decide)
            have Hof := Lib.hid hof
            clear hof hb hNN
            by_cases hbad : 1152921504606846976 < N ∨ n ≠ 40 + N % 64
            · have HB := Lib.hid hbad
              by_cases hbig : 1152921504606846976 < N
              · have hd3 : decide ((1152921504606846976 : Int) < (N : Int)) = true := by simp; omega
                clear hbad
                go_wp2_with (first
                  | ((with_reducible show wpList _ _ _ (⟨some 55, .build _ _, _, _, _, _⟩ :: _) _ _); refine wpList_run0 rfl (.agg zs) (by rw [← Hzs.out]; kernel_rfl) ?_; simp only [Act.put])
                  | ((with_reducible show wpList _ _ _ (⟨none, .store _ (.tmp 2) _, _, _, _, _⟩ :: _) _ _); refine wpList_store_blk rfl 77 (.tmp 2) (.tmp 55) rfl 10 size77 w.heap.size zs rfl rfl Hz10.out Hz1.out 77 _ hC.res Hz10.out ?_; simp only [Act.put]))
                refine ⟨bodyPost_ret (tuple_cellU rfl _ _ w.heap.size zs rfl (hC.res.setRow_ _) Hz10.out) rfl ⟨below_setRow hC.bel (Nat.le_refl _) _, fun u e => ?_, fun _ => by rw [Hzv.out]; rfl⟩⟩
                rw [Hof.out, if_pos HB.out] at e
                cases e
              · have hd3 : decide ((1152921504606846976 : Int) < (N : Int)) = false := by simp; omega
                obtain ⟨m, hm64⟩ : ∃ m, N % 64 = m := ⟨_, rfl⟩
                have hm1 : (N : Int) % 64 = (m : Int) := by omega
                have hw1 : IntKind.i64.wrap ((m : Int)) = (m : Int) := IntWalk.i64_in _ (by omega)
                have hw2 : IntKind.u64.wrap ((m : Int)) = (m : Int) := by rw [IntKind.wrap_u64]; omega
                have hw3 : IntKind.i64.wrap ((n : Int) - 40) = (n : Int) - 40 := IntWalk.i64_in _ (by omega)
                have hd4 : ((n : Int) - 40 != (m : Int)) = true := by simp; omega
                clear hbad
                go_wp2_with (first
                  | ((with_reducible show wpList _ _ _ (⟨some 55, .build _ _, _, _, _, _⟩ :: _) _ _); refine wpList_run0 rfl (.agg zs) (by rw [← Hzs.out]; kernel_rfl) ?_; simp only [Act.put])
                  | ((with_reducible show wpList _ _ _ (⟨none, .store _ (.tmp 2) _, _, _, _, _⟩ :: _) _ _); refine wpList_store_blk rfl 77 (.tmp 2) (.tmp 55) rfl 10 size77 w.heap.size zs rfl rfl Hz10.out Hz1.out 77 _ hC.res Hz10.out ?_; simp only [Act.put]))
                refine ⟨bodyPost_ret (tuple_cellU rfl _ _ w.heap.size zs rfl (hC.res.setRow_ _) Hz10.out) rfl ⟨below_setRow hC.bel (Nat.le_refl _) _, fun u e => ?_, fun _ => by rw [Hzv.out]; rfl⟩⟩
                rw [Hof.out, if_pos HB.out] at e
                cases e
            · have HB := Lib.hid hbad
              have hn40 : n = 40 + N % 64 := Decidable.byContradiction fun e => hbad (.inr e)
              have hN60 : N ≤ 1152921504606846976 := Nat.le_of_not_lt fun e => hbad (.inl e)
              have hd3 : decide ((1152921504606846976 : Int) < (N : Int)) = false := by simp; omega
              obtain ⟨m, hm64⟩ : ∃ m, N % 64 = m := ⟨_, rfl⟩
              have hm1 : (N : Int) % 64 = (m : Int) := by omega
              have hw1 : IntKind.i64.wrap ((m : Int)) = (m : Int) := IntWalk.i64_in _ (by omega)
              have hw2 : IntKind.u64.wrap ((m : Int)) = (m : Int) := by rw [IntKind.wrap_u64]; omega
              have hw3 : IntKind.i64.wrap ((n : Int) - 40) = (n : Int) - 40 := IntWalk.i64_in _ (by omega)
              have hw4 : IntKind.i64.wrap ((N : Int)) = (N : Int) := IntWalk.i64_in _ (by omega)
              have hd4 : ((n : Int) - 40 != (m : Int)) = false := by simp; omega
              have c8 : wr.cell? ⟨w.heap.size + 1, 8, none⟩ = some (.int .i64 0) := by rw [hC.own.cell, List.getElem?_toArray]; exact undCells_8 hl8
              have f8 := hC.own.frozen 8
              have k8 := hC.own.set_ 8 (.int .i64 (N : Int))
              rw [undCells_set8 (n := 0) (m := N) hl8] at k8
              have r8 := hC.res.apart (g' := w.heap.size + 1) (i := 8) (by simp) (.int .i64 (N : Int))
              have s8 := hC.src.setCell (p := ⟨w.heap.size + 1, 8, none⟩) (.int .i64 (N : Int)) (by simp)
              have b8 := hC.bel.setCell (p := ⟨w.heap.size + 1, 8, none⟩) (Nat.le_succ _) (.int .i64 (N : Int))
              obtain ⟨w8, hw8⟩ : ∃ x, wr.setCell ⟨w.heap.size + 1, 8, none⟩ (.int .i64 (N : Int)) = x := ⟨_, rfl⟩
              rw [hw8] at k8 r8 s8 b8
              have Hw8 := Lib.hid hw8
              have Hm64 := Lib.hid hm64
              have Hn40 := Lib.hid hn40
              clear hbad hw8 hm64 hn40 hC
              go_upto_region 16 with fail
              rw [Hw8.out]
              clear c8 f8
              have hsk : ∀ W, (Instr.sliceAt 23 (.slice (some ⟨b0, o0, none⟩) n c) (some (.int .i64 40)) none none).run Try.prog W = .ok (.slice (if c = 40 then some ⟨b0, o0, none⟩ else some ⟨b0, o0 + 40, none⟩) (n - 40) (c - 40)) W := fun W => by
                have := run_slice_low (P := Try.prog) sliceT23 size23 (some ⟨b0, o0, none⟩) n c 40 (by omega) W
                rw [Option.map_some, addr_add, Nat.mul_one] at this
                exact this
              have c9 : ∀ s : InC (fun W => Below w8.heap.size w8 W), s.W.cell? ⟨w.heap.size + 1, 9, none⟩ = some (.slice none 0 0) := fun s => by rw [(k8.below s.ok k8.lt).cell, List.getElem?_toArray]; exact undCells_9 hl8
              have sd := s8.drop 40 (by omega)
              rw [Option.map_some, addr_add, Nat.mul_one] at sd
              obtain ⟨A9, hA9⟩ : ∃ x, (if c = 40 then some (⟨b0, o0, none⟩ : Addr) else some ⟨b0, o0 + 40, none⟩) = x := ⟨_, rfl⟩
              rw [hA9] at sd
              simp only [hA9] at hsk
              clear hA9
              have hS : Below w8.heap.size w8 w8.drew := (Below.refl _ _).drew
              refine wp_region_mix_last (fun W => Below w8.heap.size w8 W) 6 [(0, true), (1, true), (2, true), (3, true), (4, false), (5, true)] (by kernel_rfl) (by kernel_rfl) hS fun _ => ?_
              simp only [List.map_cons, List.map_nil, Array.getD_eq_getD_getElem?, List.getElem?_toArray, List.getElem?_cons_succ, List.getElem?_cons_zero, Option.getD_some]
              generalize w8.drew = W0 at hS ⊢
              refine wpMix_s (fun K hK => ?_)
              go_simp
              refine hK _ ?_
              clear hK K
              refine wpMix_s (fun K hK => ?_)
              go_simp
              refine hK _ ?_
              clear hK K
              refine wpMix_s (fun K hK => ?_)
              go_simp
              refine hK _ ?_
              clear hK K
              refine wpMix_s (fun K hK => ?_)
              go_simp
              refine hK _ ?_
              clear hK K
              have sdS := sd.step hS
              obtain ⟨v9, w9, hr9, ho9, hg9⟩ := append_sl (xs := []) (World.ownsRow_nil W0 W0.heap.size 5 1) sdS (by simp; omega) (Nat.le_refl _)
              have hb9 : Below w8.heap.size w8 w9 := hS.trans (below_append (Below.refl _ _) (World.ownsRow_nil W0 W0.heap.size 5 1) hg9 (Nat.le_refl _) (Nat.le_refl _) |>.mono hS.size)
              refine wpMix_run (by kernel_rfl) v9 w9 (run_append_op (.tmp 60) (.tmp 62) 23 rfl _ _ rfl rfl hr9) hb9 ?_
              simp only [Act.put]
              refine wpMix_s (fun K hK => ?_)
              go_simp
              refine hK _ ?_
              clear hK K
              refine wpMix_nil ?_
              intro _
              simp only [List.drop_succ_cons, List.drop_zero]
              obtain ⟨A', c', rfl, hs9⟩ := owns_sl ho9
              simp only [List.nil_append] at hs9 ⊢
              obtain ⟨ld, hld⟩ : ∃ x, (l.drop 40).length = x := ⟨_, rfl⟩
              rw [hld] at hs9 ⊢
              have k9 := k8.below hb9 k8.lt
              have r9 := r8.below hb9 r8.lt
              have B9 := b8.trans (hb9.mono b8.size)
              have hz8 := b8.size
              have hlt8 := r8.lt
              have hz0 := hS.size
              have c99 : w9.cell? ⟨w.heap.size + 1, 9, none⟩ = some (.slice none 0 0) := c9 ⟨w9, hb9⟩
              have f99 := k9.frozen 9
              have k10 := k9.set_ 9 (.slice A' ld c')
              rw [undCells_set9 hl8] at k10
              have r10 := r9.apart (g' := w.heap.size + 1) (i := 9) (by simp) (.slice A' ld c')
              have s10 := hs9.setCell (p := ⟨w.heap.size + 1, 9, none⟩) (.slice A' ld c') (by have := r8.lt; have := k8.lt; simp; omega)
              have b10 := B9.setCell (p := ⟨w.heap.size + 1, 9, none⟩) (Nat.le_succ _) (.slice A' ld c')
              obtain ⟨w10, hw10⟩ : ∃ x, w9.setCell ⟨w.heap.size + 1, 9, none⟩ (.slice A' ld c') = x := ⟨_, rfl⟩
              rw [hw10] at k10 r10 s10 b10
              have Hw10 := Lib.hid hw10
              obtain ⟨cs, hcs⟩ : ∃ cs, (undCells st N (.slice A' ld c')).toArray = cs := ⟨_, rfl⟩
              have hcs10 : cs.size = 10 := by rw [← hcs]; exact undCells_len _ _ hl8
              have hcs1 : ∀ v ∈ cs.toList, v.oneCell' = true := by rw [← hcs]; exact undCells_one
              have hv : undV ⟨S8.of st, N, l.drop 40⟩ (.slice A' ld c') = .agg cs := by
                rw [← hcs]
                unfold undV
                rw [of_list st hl8]
              rw [hcs] at k10
              have Hcs10 := Lib.hid hcs10
              have Hcs1 := Lib.hid hcs1
              have Hv := Lib.hid hv
              clear hw10 hcs hcs10 hcs1 hv hsk c9 k8 r8 s8 b8 sd hS sdS hr9 ho9 hg9 hb9 k9 r9 B9 hs9 hld
              go_wp2_with fail
              rw [Hw10.out]
              clear c99 f99
              refine np_normal ?_
              go_wp2_with (first
                | ((with_reducible show wpList _ _ _ (⟨some 65, .load _ _, _, _, _, _⟩ :: _) _ _); refine wpList_load rfl 77 (.tmp 4) rfl (w.heap.size + 1) 0 rfl cs (run_load_blk (agg77 _) (size77 _) _ _ Hcs10.out k10) ?_; simp only [Act.put])
                | ((with_reducible show wpList _ _ _ (⟨none, .store _ (.tmp 2) _, _, _, _, _⟩ :: _) _ _); refine wpList_store_blk rfl 77 (.tmp 2) (.tmp 65) rfl 10 size77 w.heap.size cs rfl rfl Hcs10.out Hcs1.out 77 _ r10 Hz10.out ?_; simp only [Act.put]))
              refine ⟨bodyPost_ret (tuple_cellU rfl _ _ w.heap.size cs rfl (r10.setRow_ _) Hcs10.out) rfl ⟨below_setRow b10 (Nat.le_refl _) _, fun u e => ?_, fun e => ?_⟩⟩
              · rw [Hof.out, if_neg HB.out] at e
                cases e
                refine ⟨A', _, c', by rw [Hv.out]; rfl, ?_⟩
                exact ((s10.weak (Y := fun b => w.heap.size ≤ b ∧ b ≠ w.heap.size) fun b _ hb => ⟨by omega, by omega⟩).grown (grown_setRow (World.grownBy.refl _ _) cs) (fun b _ hb => by simp; omega)).weak fun b _ hb => hb.1
              · rw [Hof.out, if_neg HB.out] at e
                cases e
end Go.Proofs.Ytdkgndjomkbbjaa
/- A row of one's own, written over. -/
namespace Go.Proofs.Ytdkgndjomkbbjaa
open Go Go.RowKit

theorem put_take {α : Type} (cur vs : List α) (a s m : Nat) (hv : vs.length = s) (hm : a + s ≤ m) (hc : a + s ≤ cur.length) :
    (cur.take a ++ vs ++ cur.drop (a + s)).take m = (cur.take m).take a ++ vs ++ (cur.take m).drop (a + s) := by
  have h1 : (cur.take a ++ vs).length = a + s := by rw [List.length_append, List.length_take, hv]; omega
  rw [List.take_append, h1, List.take_of_length_le (by rw [h1]; exact hm), List.take_take, Nat.min_eq_left (by omega), List.drop_take]
/-- one element is written over -/
theorem owns_put {w : World} {base g n c s : Nat} {e : TypeId} {xs : List Value} (h : w.ownsRow base e s (.slice (some ⟨g, 0, none⟩) n c) n xs) (k : Nat) (hk : k < n) (vs : List Value) (hv : vs.length = s) :
    ∃ cur : Array Value, Blk w g e cur ∧ k * s + s ≤ cur.size ∧ base ≤ g ∧
      (w.setRow g (cur.toList.take (k * s) ++ vs ++ cur.toList.drop (k * s + s)).toArray).ownsRow base e s (.slice (some ⟨g, 0, none⟩) n c) n (xs.take (k * s) ++ vs ++ xs.drop (k * s + s)) := by
  have hl := h.1
  rcases h.2 with ⟨hv, _⟩ | ⟨g', cap, cur, hv', hbg, hg, hnc, hcm, hcs, ht⟩
  · cases hv
  · cases hv'
    have hks : k * s + s ≤ n * s := by rw [← Nat.succ_mul]; exact Nat.mul_le_mul_right _ hk
    have hns : n * s ≤ c * s := Nat.mul_le_mul_right _ hnc
    have hsz : k * s + s ≤ cur.size := by omega
    refine ⟨cur, hg, hsz, hbg, ?_, .inr ⟨g, c, _, rfl, hbg, Blk.setRow_ hg _, hnc, hcm, ?_, ?_⟩⟩
    · simp only [List.length_append, List.length_take, List.length_drop, hv, hl]; omega
    · simp only [List.size_toArray, List.length_append, List.length_take, List.length_drop, hv, Array.length_toList, hcs]; omega
    · rw [put_take cur.toList vs (k * s) s (n * s) hv hks (by simpa using hsz), ht]
theorem Hs.of_owns {w : World} {base n : Nat} {v : Value} {hs : List (List UInt8)} (h : w.ownsRow base 26 32 v n (hcells hs)) (hn : hs.length = n) (ha : H32 hs) :
    ∃ A c, v = .slice A n c ∧ Hs w (fun b => base ≤ b ∧ some b = v.ownBlock) A n c hs := by
  obtain ⟨A, c, hv, hs⟩ := owns_slv h
  exact ⟨A, c, hv, hs, hn, ha⟩
/-- the hash of one byte and nothing more -/
def oneHash (b : UInt8) : List UInt8 := b :: List.replicate 31 0
theorem length_oneHash (b : UInt8) : (oneHash b).length = 32 := by simp [oneHash]
end Go.Proofs.Ytdkgndjomkbbjaa
