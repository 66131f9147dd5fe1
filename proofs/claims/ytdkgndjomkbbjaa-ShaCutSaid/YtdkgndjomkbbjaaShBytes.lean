/- (*sha.Sha).Bytes. -/
import Derived.Test.YtdkgndjomkbbjaaRef2
import Derived.Test.YtdkgndjomkbbjaaSums
import Derived.Test.YtdkgndjomkbbjaaOfB
namespace Go.Proofs.Ytdkgndjomkbbjaa
open Go.RowKit

/-- 'p[:k]' of an array behind a pointer -/
theorem run_slice_arr_h {P : Program} {t : TypeId} {s N : Nat} (ht : P.underlying t = some (.array (P.arrayLen t) (P.elem t))) (hN : P.arrayLen t = N) (hs : ∀ W : World, (sizeOf (P.elem t)).run P W = .ok s W) (g o k : Nat) (hk : k ≤ N) (hN0 : 0 < N) (W : World) :
    (Instr.sliceAt t (.pointer (some ⟨g, o, none⟩)) none (some (.int .i64 (k : Int))) none).run P W = .ok (.slice (some ⟨g, o, none⟩) k N) W := by
  rw [run_sliceAt_array_h W t _ ht .i64 (k : Int) (by omega) (by rw [hN]; omega), hs, hN]
  simp only [slicedAt, Result.andThen, Int.toNat_natCast]
  rw [if_neg (by omega), addr_add]
  simp

theorem run_make_u8 (w : World) (n c : Nat) (h : n ≤ c) (hc : c ≤ 140737488355328) :
    (Instr.makeSlice 23 (.int .i64 (n : Int)) (.int .i64 (c : Int))).run Try.prog w = .ok (.slice (some ⟨w.heap.size, 0, none⟩) n c) (w.alloc (.cells ((List.replicate c (0 : UInt8)).map B).toArray 5)) := by
  obtain ⟨i, hi⟩ : ∃ i, Try.prog.info? 5 = some i := Option.isSome_iff_exists.1 (by kernel_rfl)
  have hz : i.zero = some (.int .u8 0) := by
    have : (Try.prog.info? 5).bind (·.zero) = some (.int .u8 0) := by kernel_rfl
    rw [hi] at this; exact this
  have hs : i.size = 1 := by
    have : (Try.prog.info? 5).map (·.size) = some 1 := by kernel_rfl
    rw [hi] at this; exact Option.some.inj this
  have hby : i.bytes = 1 := by
    have : (Try.prog.info? 5).map (·.bytes) = some 1 := by kernel_rfl
    rw [hi] at this; exact Option.some.inj this
  have := run_make (P := Try.prog) w 23 5 i _ Try.underlying23 hi hz .i64 .i64 n c (by omega) (by omega) (by rw [hby]; omega) (by omega)
  rw [this, hs, Nat.mul_one, Int.toNat_natCast, Int.toNat_natCast]
  have hm : madeCells (Value.int .u8 0).cells c = ((List.replicate c (0 : UInt8)).map B).toArray := by
    apply Array.ext'
    rw [show (Value.int .u8 0).cells = #[Value.int .u8 0] from rfl, toList_madeCells_one]
    simp [B]
  rw [hm]

/-- between two statements: the sum, the row -/
structure ByC (w : World) (g : Nat) (u : Und) (bk : List UInt8) (L : List UInt8) (W : World) : Prop where
  sh : ShB W g u bk
  row : Blk W w.heap.size 5 (L.map B).toArray
  bel : Below w.heap.size w W
theorem ByC.step {w W W' : World} {g : Nat} {u : Und} {bk L : List UInt8} (h : ByC w g u bk L W) (hb : Below W.heap.size W W') : ByC w g u bk L W' :=
  ⟨h.sh.move (h.sh.blk.below hb h.sh.blk.lt), h.row.below hb h.row.lt, h.bel.trans (hb.mono h.bel.size)⟩
theorem ByC.drew {w W : World} {g : Nat} {u : Und} {bk L : List UInt8} (h : ByC w g u bk L W) : ByC w g u bk L W.drew := ⟨h.sh.move h.sh.blk.drew, h.row.drew, h.bel.drew⟩
theorem ByC.put {w W W' : World} {g : Nat} {u : Und} {bk L L' : List UInt8} (h : ByC w g u bk L W) (hl : g < w.heap.size) (hb : Blk W' w.heap.size 5 (L'.map B).toArray) (hg : W.grownBy W' (some w.heap.size)) : ByC w g u bk L' W' :=
  ⟨h.sh.move (h.sh.blk.grown hg (by simp; omega)), hb, h.bel.grown hg h.bel.size (by simp)⟩

set_option maxHeartbeats 1000000 in
set_option maxRecDepth 100000 in
theorem bytes_any (g : Nat) (u : Und) (w : World) (h : Sh w g u) :
    Calls Try.prog 25 #[.pointer (some ⟨g, 0, none⟩)] w fun e w' => ∃ v, e = .returned v ∧ Fresh w w' v u.bytes := by
  obtain ⟨bk, hb⟩ := h
  have hgl : g < w.heap.size := hb.blk.lt
  obtain ⟨zs, hzs⟩ : ∃ zs, ((List.replicate 104 (0 : UInt8)).map B).toArray = zs := ⟨_, rfl⟩
  obtain ⟨sl, hsl⟩ : ∃ sl, u.st.list = sl := ⟨_, rfl⟩
  have hsl8 : sl.length = 8 := by rw [← hsl]; rfl
  have hmk : (Instr.makeSlice 23 (.int .i64 40) (.int .i64 104)).run Try.prog w = .ok (.slice (some ⟨w.heap.size, 0, none⟩) 40 104) (w.alloc (.cells zs 5)) := by rw [← hzs]; exact run_make_u8 w 40 104 (by omega) (by omega)
  have Hzs := Lib.hid hzs
  have Hsl := Lib.hid hsl
  have Hsl8 := Lib.hid hsl8
  clear hzs hsl hsl8
  go_enter Try.func25, Try.ntmps25
  go_upto_region 4 with (go_at_call 70; refine (none_any hb).mono ?_; rintro e w' ⟨rfl, rfl⟩)
  refine wp_world (ByC w g u bk (List.replicate 104 0)) ⟨hb.move (hb.blk.alloc _), by rw [Hzs.out]; exact Blk.new _ _ _, (Below.refl _ _).alloc (Nat.le_refl _) _⟩ ?_
  clear hmk
  intro w1 hC1
  have hld : (Instr.loadAt 33 (.pointer (some ⟨g, 0, none⟩))).run Try.prog w1 = .ok (.agg (sl.map U).toArray) w1 := by
    refine run_load_agg (agg33 _) (size33 _) _ 0 (sl.map U) (by rw [← Hsl.out]; rfl) fun j v hv => ?_
    rw [Nat.zero_add]
    exact hC1.sh.cell_st j v (by rw [Hsl.out]; exact hv)
  have Hld := Lib.hid hld
  clear hld
  go_wp2_with ((with_reducible show wpList _ _ _ (⟨some 12, .load _ _, _, _, _, _⟩ :: _) _ _); refine wpList_load rfl 33 (.tmp 11) rfl g 0 rfl (sl.map U).toArray Hld.out ?_; simp only [Act.put])
  go_loopw [13] (fun i wr => ∃ (q : Nat), q ≤ 8 ∧ i = .int .i64 q ∧ ByC w g u bk ((sl.take q).flatMap word4 ++ List.replicate (104 - 4 * q) 0) wr) (fun i _ => 8 - (intOf i).toNat)
  case atStart => exact ⟨0, by omega, rfl, hC1⟩
  case round =>
    clear hC1 Hld
    obtain ⟨q, hq, rfl, hC⟩ := hrel
    by_cases hlq : q < 8
    · obtain ⟨x, hx⟩ : ∃ x, sl.getD q 0 = x := ⟨_, rfl⟩
      have hix := fun W => run_index_agg (P := Try.prog) Try.underlying33 size32 agg32 (sl.map U).toArray q (U x) hlq ((cellU sl q (by rw [Hsl8.out]; exact hlq)).trans (by rw [hx])) W
      have hsc : ∀ W, (Instr.sliceAt 23 (.slice (some ⟨w.heap.size, 0, none⟩) 40 104) (some (.int .i64 (4 * (q : Int)))) none none).run Try.prog W = .ok (.slice (some ⟨w.heap.size, 4 * q, none⟩) (40 - 4 * q) (104 - 4 * q)) W := fun W => by
        have := run_slice_low (P := Try.prog) sliceT23 size23 (some ⟨w.heap.size, 0, none⟩) 40 104 (4 * q) (by omega) W
        rw [show ((4 * q : Nat) : Int) = 4 * (q : Int) by omega, if_neg (by omega), Option.map_some, addr_add, Nat.mul_one, Nat.zero_add] at this
        exact this
      have hpl : ((sl.take q).flatMap word4).length = 4 * q := by rw [length_flat, List.length_take, Hsl8.out]; omega
      have hH : ((sl.take q).flatMap word4 ++ List.replicate (104 - 4 * q) (0 : UInt8)).length = 104 := by rw [List.length_append, hpl]; simp; omega
      have hfin := setFour_fill ((sl.take q).flatMap word4) (4 * q) (104 - 4 * q) x hpl (by omega)
      rw [← hx, ← flat_take sl q (by rw [Hsl8.out]; exact hlq), hx, show 104 - 4 * q - 4 = 104 - 4 * (q + 1) by omega] at hfin
      have hput := put_any w.heap.size (4 * q) (40 - 4 * q) (104 - 4 * q) _ _ x wr hC.row (by omega) (by omega)
      rw [hfin] at hput
      clear hfin hpl hH hx
      go_wp2_with (go_at_call 71; refine hput.mono ?_; rintro e w2 ⟨rfl, hb2, hg2⟩)
      go_roundw
      case rel => exact ⟨q + 1, by omega, by go_num, hC.put hgl hb2 hg2⟩
      case measure => simp [intOf]; omega
    · obtain rfl : q = 8 := by omega
      have hfl : (sl.take 8).flatMap word4 = u.st.bytes := by rw [List.take_of_length_le (by rw [Hsl8.out]; omega), ← Hsl.out]; rfl
      rw [hfl] at hC
      obtain ⟨L0, hL0⟩ : ∃ L0, u.st.bytes ++ List.replicate (104 - 4 * 8) (0 : UInt8) = L0 := ⟨_, rfl⟩
      rw [hL0] at hC
      have HL0 := Lib.hid hL0
      clear hL0
      have hlt := hC.sh.lt
      have cl : ∀ s : InC (ByC w g u bk L0), s.W.cell? ⟨g, 72, none⟩ = some (.int .i64 (u.len : Int)) := fun s => s.ok.sh.cell_len
      have hsk : ∀ k : Nat, k ≤ 40 → ∀ W, (Instr.sliceAt 23 (.slice (some ⟨w.heap.size, 0, none⟩) 40 104) (some (.int .i64 (k : Int))) none none).run Try.prog W = .ok (.slice (some ⟨w.heap.size, k, none⟩) (40 - k) (104 - k)) W := fun k hk W => by
        have := run_slice_low (P := Try.prog) sliceT23 size23 (some ⟨w.heap.size, 0, none⟩) 40 104 k hk W
        rw [if_neg (by omega), Option.map_some, addr_add, Nat.mul_one, Nat.zero_add] at this
        exact this
      have sl32 : ∀ W, (Instr.sliceAt 23 (.slice (some ⟨w.heap.size, 0, none⟩) 40 104) (some (.int .i64 32)) none none).run Try.prog W = .ok (.slice (some ⟨w.heap.size, 32, none⟩) 8 72) W := fun W => hsk 32 (by omega) W
      have sl36 : ∀ W, (Instr.sliceAt 23 (.slice (some ⟨w.heap.size, 0, none⟩) 40 104) (some (.int .i64 36)) none none).run Try.prog W = .ok (.slice (some ⟨w.heap.size, 36, none⟩) 4 68) W := fun W => hsk 36 (by omega) W
      have hl0 : (0 : Int) ≤ (u.len : Int) := by omega
      have hl1 : (u.len : Int) < 9223372036854775808 := by omega
      have Hfl := Lib.hid hfl
      clear hsk
      clear hfl
      go_wp2_with fail
      refine wp_region_class_tail (ByC w g u bk L0) 9 (by kernel_rfl) (by kernel_rfl) hC.drew fun _ => ?_
      simp only [List.take_succ_cons, List.take_zero, List.drop_succ_cons, List.drop_zero]
      repeat (go_big_quiet_step (fail))
      refine wpQuiet_nil ?_
      intro W3 hC3
      obtain ⟨x, hx⟩ : ∃ x, UInt32.ofNat (u.len / 4294967296) = x := ⟨_, rfl⟩
      obtain ⟨y, hy⟩ : ∃ y, UInt32.ofNat u.len = y := ⟨_, rfl⟩
      have ex : U x = .int .u32 ((u.len : Int) / 4294967296) := by rw [← hx]; simp only [U, UInt32.toNat_ofNat']; congr 1; omega
      have ey : U y = .int .u32 ((u.len : Int) % 4294967296) := by rw [← hy]; simp only [U, UInt32.toNat_ofNat']; congr 1
      have hl32 : u.st.bytes.length = 32 := S8.length_bytes _
      have hf1 := setFour_fill u.st.bytes 32 72 x hl32 (by omega)
      have hf2 := setFour_fill (u.st.bytes ++ word4 x) 36 68 y (by rw [List.length_append, hl32, length_word4]) (by omega)
      have hp1 := put_any w.heap.size 32 8 72 _ _ x W3 hC3.row (by rw [← HL0.out, List.length_append, hl32]; simp) (by omega)
      rw [← HL0.out, show 104 - 4 * 8 = 72 from rfl, hf1, ex] at hp1
      obtain ⟨L1, hL1⟩ : ∃ L1, u.st.bytes ++ word4 x ++ List.replicate (72 - 4) (0 : UInt8) = L1 := ⟨_, rfl⟩
      rw [hL1] at hp1
      have hp2 : ∀ W, Blk W w.heap.size 5 (L1.map B).toArray → Calls Try.prog 71 #[.slice (some ⟨w.heap.size, 36, none⟩) 4 68, .int .u32 ((u.len : Int) % 4294967296)] W fun e w' => e = .returned (.tuple #[]) ∧ Blk w' w.heap.size 5 ((u.st.bytes ++ word4 x ++ word4 y ++ List.replicate 64 0).map B).toArray ∧ W.grownBy w' (some w.heap.size) := fun W hW => by
        have := put_any w.heap.size 36 4 68 _ _ y W hW (by rw [← hL1, List.length_append, List.length_append, hl32, length_word4]; simp) (by omega)
        rw [ey, ← hL1, show 72 - 4 = 68 from rfl, hf2] at this
        exact this
      obtain ⟨L2, hL2⟩ : ∃ L2, u.st.bytes ++ word4 x ++ word4 y ++ List.replicate 64 (0 : UInt8) = L2 := ⟨_, rfl⟩
      rw [hL2] at hp2
      have hL2t : L2.take 40 = u.st.bytes ++ num8 u.len := by
        rw [num8_split u.len (by omega), hx, hy, ← hL2, List.append_assoc u.st.bytes, List.take_left' (by simp [hl32, length_word4])]
      have hL2l : L2.length = 104 := by rw [← hL2]; simp [hl32, length_word4]
      have Hp1 := Lib.hid hp1
      have Hp2 := Lib.hid hp2
      have HL2t := Lib.hid hL2t
      have HL2l := Lib.hid hL2l
      have cl1 : ∀ s : InC (ByC w g u bk L1), s.W.cell? ⟨g, 72, none⟩ = some (.int .i64 (u.len : Int)) := fun s => s.ok.sh.cell_len
      have cl2 : ∀ s : InC (ByC w g u bk L2), s.W.cell? ⟨g, 72, none⟩ = some (.int .i64 (u.len : Int)) := fun s => s.ok.sh.cell_len
      clear hx hy ex ey hf1 hf2 hp1 hL1 hp2 hL2 hL2t hL2l hl32
      go_wp2_with (go_at_call 71; refine Hp1.out.mono ?_; rintro e w4 ⟨rfl, hb4, hg4⟩; have hC4 := hC3.put hgl hb4 hg4)
      refine wp_region_class_tail (ByC w g u bk L1) 7 (by kernel_rfl) (by kernel_rfl) hC4.drew fun _ => ?_
      simp only [List.take_succ_cons, List.take_zero, List.drop_succ_cons, List.drop_zero]
      repeat (go_big_quiet_step (fail))
      refine wpQuiet_nil ?_
      intro W5 hC5
      go_wp2_with (go_at_call 71; refine (Hp2.out _ hC5.row).mono ?_; rintro e w6 ⟨rfl, hb6, hg6⟩; have hC6 := hC5.put hgl hb6 hg6)
      have hr : u.rest.length = u.len % 64 := hb.ok
      have slr : ∀ W, (Instr.sliceAt 34 (.pointer (some ⟨g, 8, none⟩)) none (some (.int .i64 ((u.len : Int) % 64))) none).run Try.prog W = .ok (.slice (some ⟨g, 8, none⟩) u.rest.length 64) W := fun W => by
        have := run_slice_arr_h (P := Try.prog) arrT34 arrN34 size34e g 8 u.rest.length (by omega) (by decide) W
        rw [show ((u.rest.length : Nat) : Int) = (u.len : Int) % 64 by omega] at this
        exact this
      have Hr := Lib.hid hr
      clear hr
      refine wp_region_class_tail (ByC w g u bk L2) 10 (by kernel_rfl) (by kernel_rfl) hC6.drew fun _ => ?_
      simp only [List.take_succ_cons, List.take_zero, List.drop_succ_cons, List.drop_zero]
      repeat (go_big_quiet_step (fail))
      refine wpQuiet_nil ?_
      intro W7 hC7
      have hown : W7.ownsRow w.heap.size 5 1 (.slice (some ⟨w.heap.size, 0, none⟩) 40 104) 40 ((u.st.bytes ++ num8 u.len).map B) := by
        rw [← HL2t.out]
        refine ⟨by rw [List.length_map, List.length_take, HL2l.out]; rfl, .inr ⟨w.heap.size, 104, _, rfl, Nat.le_refl _, hC7.row, by omega, by decide, by simp [HL2l.out], ?_⟩⟩
        rw [List.map_take]
      have hsl : SlV W7 (fun _ => True) (some ⟨g, 8, none⟩) u.rest.length 64 1 (u.rest.map B) := by
        refine ⟨fun _ => ⟨g, 8, rfl, hC7.sh.blk.lt, trivial, fun j v hv => ?_⟩, by simp, by have := Hr.out; omega, by simp, by decide⟩
        refine hC7.sh.cell_bk j v ?_
        have hp := hC7.sh.pre
        rw [← hp, List.map_take, List.getElem?_take] at hv
        split at hv
        · exact hv
        · cases hv
      obtain ⟨v8, w8, hr8, ho8, hg8, -⟩ := append_slv (ty := 23) Try.underlying23 info5 rfl (by decide) hown hsl (oneB _) (by unfold maxLen; have := Hr.out; omega) (by have := Hr.out; omega) hC7.bel.size
      have Hr8 := Lib.hid hr8
      clear hr8 hsl
      go_wp2_with ((with_reducible show wpList _ _ _ (⟨some 52, .call _, _, _, _, _⟩ :: _) _ _); refine wpList_run rfl v8 w8 (run_append_op (.tmp 42) (.tmp 51) 23 rfl _ _ rfl rfl Hr8.out) ?_; simp only [Act.put])
      go_ret
      refine ⟨v8, rfl, ?_, hC7.bel.grown hg8 hC7.bel.size (fun k hk => by simp [Value.ownBlock] at hk; omega)⟩
      have hlen : (u.bytes).length = 40 + u.rest.length := by unfold Und.bytes; simp [S8.length_bytes, length_num8]; omega
      rw [hlen]
      unfold Und.bytes
      rw [List.map_append]
      exact ho8
end Go.Proofs.Ytdkgndjomkbbjaa
