/- sha.Block: what it computes. -/
import Derived.Test.YtfhmjgkcpcnkbaaDoorQf102
import Derived.Deep.QuietTactic
import Derived.BigQuiet
import Derived.StillTailTactics
namespace Go.Proofs.YtfhmjgkcpcnkbaaDoor
open Go.RowKit

theorem slice_block (g t : Nat) (h : t < 16) (W : World) : (Instr.sliceAt 150 (.pointer (some ⟨g, 0, none⟩)) (some (.int .i64 (4 * (t : Int)))) none none).run Tryd.prog W = .ok (.slice (some ⟨g, 4 * t, none⟩) (64 - 4 * t) (64 - 4 * t)) W := by
  have e1 : Tryd.prog.arrayLen 150 = 64 := by kernel_rfl
  have e2 : Tryd.prog.elem 150 = 5 := by kernel_rfl
  have e3 : ∀ W, (sizeOf 5).run Tryd.prog W = .ok 1 W := fun _ => by kernel_rfl
  have e4 : (4 * (t : Int)).toNat = 4 * t := by omega
  rw [run_sliceAt_array_l W 150 _ (by kernel_rfl) .i64 (4 * (t : Int)) (by omega) (by rw [e1]; omega), e2, e3, e1, e4]
  simp only [slicedAt, Result.andThen]
  rw [if_neg (by omega)]
  simp [Addr.add]
  omega

set_option maxHeartbeats 1000000 in
set_option maxRecDepth 100000 in
theorem block_any (st : List UInt32) (bl : List UInt8) (w : World) (hs : st.length = 8) (hb : bl.length = 64) :
    Calls Tryd.prog 100 #[.agg (st.map U).toArray, .agg (bl.map B).toArray] w fun e w' => e = .returned (.agg (((S8.of st).block bl).list.map U).toArray) ∧ Below w.heap.size w w' := by
  have Hs := Lib.hid hs
  have Hb := Lib.hid hb
  clear hs hb
  go_enter Tryd.func100, Tryd.ntmps100
  go_wp2
  go_loopw [18] (fun i wr => ∃ (t : Nat) (L : List UInt32), t ≤ 16 ∧ i = .int .i64 t ∧ L.length = 64 ∧ L.take t = firstW bl t ∧ Blk wr w.heap.size 136 (st.map U).toArray ∧
      Blk wr (w.heap.size + 1) 150 (bl.map B).toArray ∧ Blk wr (w.heap.size + 1 + 1) 136 ((List.replicate 8 0).map U).toArray ∧ Blk wr (w.heap.size + 1 + 1 + 1) 161 (L.map U).toArray ∧ Below w.heap.size w wr)
    (fun i _ => 16 - (intOf i).toNat)
  case atStart =>
    refine ⟨0, List.replicate 64 0, by omega, rfl, rfl, rfl, ?_, ?_, ?_, ?_, ?_⟩
    · exact ((((Blk.new w _ _).alloc _).alloc _).alloc _)
    · exact ((Blk.new' _ _ _ _ (by simp)).alloc _).alloc _
    · exact (Blk.new' _ _ _ _ (by simp)).alloc _
    · exact Blk.new' _ _ _ _ (by simp)
    · go_grown
  case round =>
    obtain ⟨t, L, ht, rfl, hL, hT, h1, h2, h3, h4, hbel⟩ := hrel
    have HL := Lib.hid hL
    have HT := Lib.hid hT
    clear hL hT
    by_cases hlt : t < 16
    · have c0 := (h2.cell (4 * t)).trans (cellB bl (4 * t) (by have := Hb.out; omega))
      have c1 := (h2.cell (4 * t + 1)).trans (cellB bl (4 * t + 1) (by have := Hb.out; omega))
      have c2 := (h2.cell (4 * t + 2)).trans (cellB bl (4 * t + 2) (by have := Hb.out; omega))
      have c3 := (h2.cell (4 * t + 3)).trans (cellB bl (4 * t + 3) (by have := Hb.out; omega))
      have cw := (h4.cell t).trans (cellU L t (by have := HL.out; omega))
      have cf := h4.frozen t
      have b1 := slice_block (w.heap.size + 1) t hlt
      go_wp2_with (go_at_call 105; refine (word_any _ _ _ _ _ _ _ _ _ (by omega) (by omega) c0 c1 c2 c3).mono ?_; rintro e w' ⟨rfl, rfl⟩)
      go_roundw
      case rel =>
        refine ⟨t + 1, L.set t (wordAt bl t), by omega, by go_num, by simpa using HL.out, ?_, h1.apart (by omega) _, h2.apart (by omega) _, h3.apart (by omega) _, ?_, hbel.setCell (by simp; omega) _⟩
        · rw [take_set_succ _ _ _ (by have := HL.out; omega), HT.out, firstW_succ]
        · rw [← setU]; exact h4.set_ t _
      case measure => simp [intOf]; omega
    · have ht' : t = 16 := by omega
      have HT' := Lib.hid (show L.take 16 = firstW bl 16 by rw [← ht']; exact HT.out)
      have Ht := Lib.hid ht'
      clear ht' HT
      go_wp2
      go_loopw [7] (fun i wr => ∃ (t : Nat) (L : List UInt32), 16 ≤ t ∧ t ≤ 64 ∧ i = .int .i64 t ∧ L.length = 64 ∧ L.take t = moreW (t - 16) (firstW bl 16) ∧ Blk wr w.heap.size 136 (st.map U).toArray ∧
          Blk wr (w.heap.size + 1 + 1) 136 ((List.replicate 8 0).map U).toArray ∧ Blk wr (w.heap.size + 1 + 1 + 1) 161 (L.map U).toArray ∧ Below w.heap.size w wr)
        (fun i _ => 64 - (intOf i).toNat)
      case atStart => exact ⟨16, L, by omega, by omega, rfl, HL.out, HT'.out, h1, h3, h4, hbel⟩
      case round =>
        obtain ⟨t, L, ht0, ht, rfl, hL, hT, h1, h3, h4, hbel⟩ := hrel
        have HL := Lib.hid hL
        have HT := Lib.hid hT
        clear hL hT
        by_cases hlt : t < 64
        · obtain ⟨x15, H15⟩ : ∃ x, Hid (L.getD (t - 15) 0 = x) := ⟨_, rfl⟩
          obtain ⟨x2, H2⟩ : ∃ x, Hid (L.getD (t - 2) 0 = x) := ⟨_, rfl⟩
          obtain ⟨x16, H16⟩ : ∃ x, Hid (L.getD (t - 16) 0 = x) := ⟨_, rfl⟩
          obtain ⟨x7, H7⟩ : ∃ x, Hid (L.getD (t - 7) 0 = x) := ⟨_, rfl⟩
          have c15 := (h4.cell (t - 15)).trans (cellU L (t - 15) (by have := HL.out; omega))
          have c2 := (h4.cell (t - 2)).trans (cellU L (t - 2) (by have := HL.out; omega))
          have c16 := (h4.cell (t - 16)).trans (cellU L (t - 16) (by have := HL.out; omega))
          have c7 := (h4.cell (t - 7)).trans (cellU L (t - 7) (by have := HL.out; omega))
          have c0 := (h4.cell t).trans (cellU L t (by have := HL.out; omega))
          rw [H15.out] at c15
          rw [H2.out] at c2
          rw [H16.out] at c16
          rw [H7.out] at c7
          have cf := h4.frozen t
          go_wp2_with fail
          go_quiet (fail)
          go_wp2_with fail
          have e16 : IntKind.i64.wrap ((t : Int) - 16) = ((t - 16 : Nat) : Int) := by rw [IntWalk.i64_in _ (by omega)]; omega
          have e7 : IntKind.i64.wrap ((t : Int) - 7) = ((t - 7 : Nat) : Int) := by rw [IntWalk.i64_in _ (by omega)]; omega
          have l16 : ((t - 16 : Nat) : Int) < 64 := by omega
          have l7 : ((t - 7 : Nat) : Int) < 64 := by omega
          refine still_region_tail 11 (by kernel_rfl) (by kernel_rfl) ?_
          simp only [List.take_succ_cons, List.take_zero, List.drop_succ_cons, List.drop_zero]
          repeat still_step
          refine wpStill_nil ?_
          go_wp2_with fail
          obtain ⟨y, hy⟩ : ∃ y, x16 + x7 = y := ⟨_, rfl⟩
          have Hy := Lib.hid hy
          refine wp_world (fun w2 => Blk w2 w.heap.size 136 (st.map U).toArray ∧ Blk w2 (w.heap.size + 1 + 1) 136 ((List.replicate 8 0).map U).toArray ∧
            Blk w2 (w.heap.size + 1 + 1 + 1) 161 ((L.set t y).map U).toArray ∧ Below w.heap.size w w2)
            ⟨(h1.drewN _).apart (by omega) _, (h3.drewN _).apart (by omega) _, ?_, ?_⟩ ?_
          · have := (h4.drewN (nq + 1)).set_ t (U y)
            rw [setU] at this
            rw [wadd32', hy]
            exact this
          · exact (below_drewN hbel _).setCell (by simp; omega) _
          clear hy
          rintro w2 ⟨g1, g3, g4, gbel⟩
          have d0 := (g4.cell t).trans (cellU (L.set t y) t (by have := HL.out; simp; omega))
          rw [getD_set_same _ _ _ _ (by have := HL.out; omega)] at d0
          have df := g4.frozen t
          refine still_region_tail 13 (by kernel_rfl) (by kernel_rfl) ?_
          simp only [List.take_succ_cons, List.take_zero, List.drop_succ_cons, List.drop_zero]
          repeat still_step
          still_call (rot_still x15 7 7 rfl (by omega) (by omega) _)
          repeat still_step
          still_call (rot_still x15 18 18 rfl (by omega) (by omega) _)
          repeat still_step
          refine wpStill_nil ?_
          go_wp2_with fail
          obtain ⟨z, hz⟩ : ∃ z, y + sig0 x15 = z := ⟨_, rfl⟩
          have Hz := Lib.hid hz
          refine wp_world (fun w2 => Blk w2 w.heap.size 136 (st.map U).toArray ∧ Blk w2 (w.heap.size + 1 + 1) 136 ((List.replicate 8 0).map U).toArray ∧
            Blk w2 (w.heap.size + 1 + 1 + 1) 161 ((L.set t z).map U).toArray ∧ Below w.heap.size w w2)
            ⟨(g1.apart (by omega) _).drew, (g3.apart (by omega) _).drew, ?_, ?_⟩ ?_
          · have := (g4.set_ t (U z)).drew
            rw [setU, List.set_set] at this
            rw [step_sig0, hz]
            exact this
          · exact (gbel.setCell (by simp; omega) _).drew
          clear hz d0 df g1 g3 g4 gbel
          rintro w3 ⟨g1, g3, g4, gbel⟩
          have d0 := (g4.cell t).trans (cellU (L.set t z) t (by have := HL.out; simp; omega))
          rw [getD_set_same _ _ _ _ (by have := HL.out; omega)] at d0
          have df := g4.frozen t
          refine still_region_tail 13 (by kernel_rfl) (by kernel_rfl) ?_
          simp only [List.take_succ_cons, List.take_zero, List.drop_succ_cons, List.drop_zero]
          repeat still_step
          still_call (rot_still x2 17 17 rfl (by omega) (by omega) _)
          repeat still_step
          still_call (rot_still x2 19 19 rfl (by omega) (by omega) _)
          repeat still_step
          refine wpStill_nil ?_
          go_wp2_with fail
          go_roundw
          case rel =>
            refine ⟨t + 1, L.set t (z + sig1 x2), by omega, by omega, by go_num, by simpa using HL.out, ?_, (g1.apart (by omega) _).drew, (g3.apart (by omega) _).drew, ?_, (gbel.setCell (by simp; omega) _).drew⟩
            · have hl := HL.out
              rw [take_set_succ _ _ _ (by omega), show t + 1 - 16 = (t - 16) + 1 by omega, moreW_succ, ← HT.out, nextW_take _ _ ht0 (by omega), H15.out, H2.out, H16.out, H7.out, Hy.out, Hz.out]
            · have := (g4.set_ t (U (z + sig1 x2))).drew
              rw [setU, List.set_set] at this
              rw [step_sig1]
              exact this
          case measure => simp [intOf]; omega
        · have ht' : t = 64 := by omega
          have hL' : L = sched bl := by
            have h := HT.out
            rw [ht', List.take_of_length_le (by have := HL.out; omega)] at h
            exact h
          have HS := Lib.hid hL'
          clear hL'
          obtain ⟨kv, hkv⟩ : ∃ kv, (K256.map U).toArray = kv := ⟨_, rfl⟩
          have Hkv := Lib.hid hkv
          have kv1 : kv.size = 64 := by rw [← hkv]; rfl
          have kv2 : ∀ v ∈ kv.toList, v.oneCell' = true := by rw [← hkv]; exact oneCell_U _
          have KV1 := Lib.hid kv1
          have KV2 := Lib.hid kv2
          clear kv1 kv2
          have st1 : (Tryd.prog.info? 136).map (·.size) = some (st.map U).toArray.size := by rw [show (st.map U).toArray.size = 8 by simp [Hs.out]]; kernel_rfl
          have ST1 := Lib.hid st1
          clear st1
          go_wp2_with (first
            | (go_at_call 107; refine (table_any _).mono ?_; rw [hkv]; clear hkv; rintro e w5 ⟨rfl, hb5⟩; have k1 := h1.below hb5 h1.lt; have k3 := h3.below hb5 h3.lt; have k4 := h4.below hb5 h4.lt)
            | (refine wpList_store_blk rfl 161 (.tmp 10) (.tmp 77) rfl 64 size101 w5.heap.size kv rfl rfl KV1.out KV2.out 161 _ (Blk.new _ _ _) (by rfl) ?_)
            | (refine wpList_load_row rfl 136 (.tmp 2) rfl w.heap.size rfl 136 (st.map U).toArray (0, 0) _ ((k1.alloc _).setRow_apart (Nat.ne_of_lt k1.lt) _) Tryd.underlying136 rfl ST1.out ?_)
            | (refine wpList_store_blk rfl 136 (.tmp 11) (.tmp 78) rfl 8 size33 (w5.heap.size + 1) (st.map U).toArray rfl rfl (by simp [Hs.out]) (oneCell_U _) 136 ((List.replicate 8 0).map U).toArray (Blk.new' _ _ _ _ (by simp)) (by rfl) ?_))
          have lt4 := k4.lt
          go_loopw [79] (fun i wr => ∃ (t : Nat), t ≤ 64 ∧ i = .int .i64 t ∧ Blk wr w.heap.size 136 (st.map U).toArray ∧ Blk wr (w.heap.size + 1 + 1) 136 ((List.replicate 8 0).map U).toArray ∧
              Blk wr (w.heap.size + 1 + 1 + 1) 161 (L.map U).toArray ∧ Blk wr w5.heap.size 161 (K256.map U).toArray ∧ Blk wr (w5.heap.size + 1) 136 (((S8.of st).rounds L t).list.map U).toArray ∧ Below w.heap.size w wr)
            (fun i _ => 64 - (intOf i).toNat)
          case atStart =>
            refine ⟨0, by omega, rfl, ?_, ?_, ?_, ?_, ?_, ?_⟩
            · exact (((k1.alloc _).setRow_apart (by omega) _).alloc _).setRow_apart (by omega) _
            · exact (((k3.alloc _).setRow_apart (by omega) _).alloc _).setRow_apart (by omega) _
            · exact (((k4.alloc _).setRow_apart (by omega) _).alloc _).setRow_apart (by omega) _
            · rw [Hkv.out]; exact (((Blk.new _ _ _).setRow_ _).alloc _).setRow_apart (by omega) _
            · rw [show (S8.of st).rounds L 0 = S8.of st from rfl, of_list st Hs.out]; exact (Blk.new' _ _ _ _ (by simp)).setRow_ _
            · refine below_setRow ((below_setRow (((hbel.trans (hb5.mono (by have := h1.lt; omega))).alloc (by omega) _)) (by omega) _).alloc (by simp; omega) _) (by omega) _
          case round =>
            obtain ⟨r, hr, rfl, q1, q3, q4, q5, q6, qbel⟩ := hrel
            by_cases hlr : r < 64
            · obtain ⟨s, hs⟩ : ∃ s, (S8.of st).rounds L r = s := ⟨_, rfl⟩
              have Hss := Lib.hid hs
              rw [hs] at q6
              clear hs
              obtain ⟨kr, Hkr⟩ : ∃ x, Hid (K256.getD r 0 = x) := ⟨_, rfl⟩
              obtain ⟨wt, Hwt⟩ : ∃ x, Hid (L.getD r 0 = x) := ⟨_, rfl⟩
              have ck := (q5.cell r).trans (cellU K256 r (by rw [length_K256]; omega))
              have cw := (q4.cell r).trans (cellU L r (by have := HL.out; omega))
              rw [Hkr.out] at ck
              rw [Hwt.out] at cw
              obtain ⟨a, b, c, d, e, f, g, h⟩ := s
              have v0 : wr.cell? ⟨w5.heap.size + 1, 0, none⟩ = some (U a) := (q6.cell 0).trans rfl
              have v1 : wr.cell? ⟨w5.heap.size + 1, 1, none⟩ = some (U b) := (q6.cell 1).trans rfl
              have v2 : wr.cell? ⟨w5.heap.size + 1, 2, none⟩ = some (U c) := (q6.cell 2).trans rfl
              have v3 : wr.cell? ⟨w5.heap.size + 1, 3, none⟩ = some (U d) := (q6.cell 3).trans rfl
              have v4 : wr.cell? ⟨w5.heap.size + 1, 4, none⟩ = some (U e) := (q6.cell 4).trans rfl
              have v5 : wr.cell? ⟨w5.heap.size + 1, 5, none⟩ = some (U f) := (q6.cell 5).trans rfl
              have v6 : wr.cell? ⟨w5.heap.size + 1, 6, none⟩ = some (U g) := (q6.cell 6).trans rfl
              have v7 : wr.cell? ⟨w5.heap.size + 1, 7, none⟩ = some (U h) := (q6.cell 7).trans rfl
              have R0 := add32_i
              have R1 := add32_w
              have R4 := not32_i
              have R2 := xor32_i
              have R3 := and32_i
              go_wp2_with fail
              refine still_region (by kernel_rfl) (by kernel_rfl) ?_
              repeat still_step
              refine wpStill_nil ?_
              go_wp2_with fail
              refine still_region (by kernel_rfl) (by kernel_rfl) ?_
              repeat still_step
              still_call (rot_still e 6 6 rfl (by omega) (by omega) _)
              repeat still_step
              still_call (rot_still e 11 11 rfl (by omega) (by omega) _)
              repeat still_step
              still_call (rot_still e 25 25 rfl (by omega) (by omega) _)
              repeat still_step
              refine wpStill_nil ?_
              go_wp2_with fail
              refine still_region (by kernel_rfl) (by kernel_rfl) ?_
              repeat still_step
              still_call (rot_still a 2 2 rfl (by omega) (by omega) _)
              repeat still_step
              still_call (rot_still a 13 13 rfl (by omega) (by omega) _)
              repeat still_step
              still_call (rot_still a 22 22 rfl (by omega) (by omega) _)
              repeat still_step
              refine wpStill_nil ?_
              go_wp2_with (refine wpList_store_blk rfl 136 (.tmp 11) (.tmp 157) rfl 8 size33 (w5.heap.size + 1) (((⟨a, b, c, d, e, f, g, h⟩ : S8).round kr wt).list.map U).toArray rfl rfl rfl (oneCell_U _) 136 _ q6.drew.drew.drew (by rfl) ?_)
              go_roundw
              case rel =>
                refine ⟨r + 1, by omega, by go_num, q1.drew.drew.drew.setRow_apart (by omega) _, q3.drew.drew.drew.setRow_apart (by omega) _, q4.drew.drew.drew.setRow_apart (by omega) _,
                  q5.drew.drew.drew.setRow_apart (by omega) _, ?_, below_setRow qbel.drew.drew.drew (by omega) _⟩
                rw [show (S8.of st).rounds L (r + 1) = ((S8.of st).rounds L r).round (K256.getD r 0) (L.getD r 0) from rfl, Hss.out, Hkr.out, Hwt.out]
                exact q6.drew.drew.drew.setRow_ _
              case measure => simp [intOf]; omega
            · have hr' : r = 64 := by omega
              rw [hr'] at q6
              have Hr := Lib.hid hr'
              clear hr'
              obtain ⟨v, hv⟩ : ∃ v, (S8.of st).rounds L 64 = v := ⟨_, rfl⟩
              have Hv := Lib.hid hv
              rw [hv] at q6
              clear hv
              go_wp2_with fail
              go_loopw [159] (fun i wr => ∃ (j : Nat) (V : List UInt32), j ≤ 8 ∧ i = .int .i64 j ∧ V.length = 8 ∧ (∀ k, k < 8 → V.getD k 0 = if k < j then v.list.getD k 0 + st.getD k 0 else v.list.getD k 0) ∧
                  Blk wr w.heap.size 136 (st.map U).toArray ∧ Blk wr (w.heap.size + 1 + 1) 136 ((List.replicate 8 0).map U).toArray ∧ Blk wr (w5.heap.size + 1) 136 (V.map U).toArray ∧ Below w.heap.size w wr)
                (fun i _ => 8 - (intOf i).toNat)
              case atStart => exact ⟨0, v.list, by omega, rfl, rfl, fun k _ => by simp, q1, q3, q6, qbel⟩
              case round =>
                obtain ⟨j, V, hj, rfl, hV, hVk, p1, p3, p6, pbel⟩ := hrel
                have HV := Lib.hid hV
                have HVk := Lib.hid hVk
                clear hV hVk
                by_cases hlj : j < 8
                · obtain ⟨x, Hx⟩ : ∃ x, Hid (V.getD j 0 = x) := ⟨_, rfl⟩
                  obtain ⟨y, Hy⟩ : ∃ x, Hid (st.getD j 0 = x) := ⟨_, rfl⟩
                  have cx := (p6.cell j).trans (cellU V j (by have := HV.out; omega))
                  have cy := (p1.cell j).trans (cellU st j (by have := Hs.out; omega))
                  have cf := p6.frozen j
                  rw [Hx.out] at cx
                  rw [Hy.out] at cy
                  have R0 := add32_i
                  have R1 := add32_w
                  go_wp2_with fail
                  refine still_region_tail 8 (by kernel_rfl) (by kernel_rfl) ?_
                  simp only [List.take_succ_cons, List.take_zero, List.drop_succ_cons, List.drop_zero]
                  repeat still_step
                  refine wpStill_nil ?_
                  go_wp2_with fail
                  go_roundw
                  case rel =>
                    refine ⟨j + 1, V.set j (add32 x y), by omega, by go_num, by simpa using HV.out, ?_, (p1.apart (by omega) _).drew, (p3.apart (by omega) _).drew, ?_, (pbel.setCell (by simp; omega) _).drew⟩
                    · intro k hk
                      by_cases hkj : k = j
                      · subst hkj
                        rw [getD_set_same _ _ _ _ (by have := HV.out; omega), if_pos (by omega), ← Hx.out, HVk.out k hk, if_neg (by omega), ← Hy.out]
                        rfl
                      · rw [getD_set_other _ _ _ _ _ (by omega), HVk.out k hk]
                        by_cases h2 : k < j
                        · rw [if_pos h2, if_pos (by omega)]
                        · rw [if_neg h2, if_neg (by omega)]
                    · have := (p6.set_ j (U (add32 x y))).drew
                      rw [setU] at this
                      exact this
                  case measure => simp [intOf]; omega
                · have hj' : j = 8 := by omega
                  have hfin : V = ((S8.of st).block bl).list := by
                    have e1 := HV.out
                    have e2 := HVk.out
                    rw [hj'] at e2
                    have e3 : (S8.of st).block bl = (S8.of st).plus v := by rw [S8.block, ← HS.out, Hv.out]
                    rw [e3]
                    have e0 := e2 0 (by omega)
                    have e4 := e2 1 (by omega)
                    have e5 := e2 2 (by omega)
                    have e6 := e2 3 (by omega)
                    have e7 := e2 4 (by omega)
                    have e8 := e2 5 (by omega)
                    have e9 := e2 6 (by omega)
                    have e10 := e2 7 (by omega)
                    match V, e1 with
                    | [y0, y1, y2, y3, y4, y5, y6, y7], _ =>
                      simp [S8.list, S8.plus, S8.of] at e0 e4 e5 e6 e7 e8 e9 e10 ⊢
                      exact ⟨e0, e4, e5, e6, e7, e8, e9, e10⟩
                  have vs1 : (Tryd.prog.info? 136).map (·.size) = some (V.map U).toArray.size := by rw [show (V.map U).toArray.size = 8 by simp [HV.out]]; kernel_rfl
                  have VS1 := Lib.hid vs1
                  have HF := Lib.hid hfin
                  clear vs1 hfin hj'
                  go_wp2_with (first
                    | (refine wpList_load_row rfl 136 (.tmp 11) rfl (w5.heap.size + 1) rfl 136 (V.map U).toArray (0, 0) _ p6 Tryd.underlying136 rfl VS1.out ?_)
                    | (refine wpList_store_blk rfl 136 (.tmp 4) (.tmp 171) rfl 8 size33 (w.heap.size + 1 + 1) (V.map U).toArray rfl rfl (by simp [HV.out]) (oneCell_U _) 136 _ p3 (by rfl) ?_))
                  refine bodyPost_ret (results_cell_row rfl _ _ (w.heap.size + 1 + 1) 136 (V.map U).toArray (0, 0) _ rfl (p3.setRow_ _) Tryd.underlying136 rfl VS1.out) rfl ⟨by rw [HF.out], ?_⟩
                  exact below_setRow pbel (by omega) _
end Go.Proofs.YtfhmjgkcpcnkbaaDoor
