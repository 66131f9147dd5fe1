/- sha.Of: a sum under way out of bytes. -/
import Derived.Test.YtdkgndjomkbbjaaQa110
import Derived.Test.YtdkgndjomkbbjaaQa106
import Derived.Test.YtdkgndjomkbbjaaQa101
namespace Go.Proofs.Ytdkgndjomkbbjaa
open Go.RowKit

set_option maxRecDepth 100000 in
theorem of_short (l : List UInt8) (A : Option Addr) (n c : Nat) (w : World) (h : Sl w (· < w.heap.size) A n c l) (hn : n < 40) :
    Calls Try.prog 24 #[.slice A n c] w fun e w' => e = .returned (.tuple #[.pointer none, .int .i64 130]) ∧ w = w' := by
  have hm := h.max
  unfold maxLen at hm
  have hr := h.room
  go_enter Try.func24, Try.ntmps24
  go_wp2_with fail
  go_ret2
  exact ⟨rfl, rfl⟩

theorem or_words (x y : UInt32) : bits .or .u64 ((x.toNat : Int) * 4294967296) (y.toNat : Int) = ((x.toNat * 4294967296 + y.toNat : Nat) : Int) := by
  have hx := u32_lt x
  have hy := u32_lt y
  have e : (x.toNat : Int) * 4294967296 = ((x.toNat * 4294967296 : Nat) : Int) := by omega
  rw [e, u64_or_nat _ _ (by omega) (by omega)]
  congr 1
  have := Nat.two_pow_add_eq_or_of_lt (i := 32) (b := y.toNat) (by omega) x.toNat
  rw [Nat.mul_comm] at this
  exact this.symm

/-- what is known in sha.Of -/
structure OfC (w : World) (A : Option Addr) (n c : Nat) (l : List UInt8) (st : List UInt32) (bk : List UInt8) (m : Nat) (W : World) : Prop where
  row : Blk W w.heap.size 41 (shaCells st bk m).toArray
  bel : Below w.heap.size w W
  src : Sl W (· < w.heap.size) A n c l
theorem OfC.step {w W W' : World} {A : Option Addr} {n c m : Nat} {l bk : List UInt8} {st : List UInt32} (h : OfC w A n c l st bk m W) (hb : Below W.heap.size W W') : OfC w A n c l st bk m W' := ⟨h.row.below hb h.row.lt, h.bel.trans (hb.mono h.bel.size), h.src.step hb⟩
theorem OfC.drew {w W : World} {A : Option Addr} {n c m : Nat} {l bk : List UInt8} {st : List UInt32} (h : OfC w A n c l st bk m W) : OfC w A n c l st bk m W.drew := ⟨h.row.drew, h.bel.drew, h.src.drew⟩
theorem shaCells_set (st : List UInt32) (bk : List UInt8) (n t : Nat) (x : UInt32) (ht : t < st.length) : (shaCells st bk n).toArray.setIfInBounds t (U x) = (shaCells (st.set t x) bk n).toArray := by
  simp only [List.setIfInBounds_toArray, shaCells]
  rw [List.set_append_left _ _ (by simpa using ht), List.map_set]
theorem firstW_set (l : List UInt8) (t : Nat) (ht : t < 8) : (firstW l t ++ List.replicate (8 - t) (0 : UInt32)).set t (wordAt l t) = firstW l (t + 1) ++ List.replicate (8 - (t + 1)) 0 := by
  rw [List.set_append_right _ _ (by rw [length_firstW]; exact Nat.le_refl _), length_firstW, Nat.sub_self, firstW_succ, show 8 - t = (8 - (t + 1)) + 1 by omega, List.replicate_succ]
  simp

set_option maxHeartbeats 1000000 in
set_option maxRecDepth 100000 in
theorem of_long (l : List UInt8) (A : Option Addr) (n c : Nat) (w : World) (h : Sl w (· < w.heap.size) A n c l) (hn : 40 ≤ n) :
    Calls Try.prog 24 #[.slice A n c] w fun e w' => Below w.heap.size w w' ∧ (∀ u, Und.ofBytes l = some u → e = .returned (.tuple #[.pointer (some ⟨w.heap.size, 0, none⟩), .int .i64 0]) ∧ Sh w' w.heap.size u) ∧ (Und.ofBytes l = none → e = .returned (.tuple #[.pointer none, .int .i64 130])) := by
  have hm := h.max
  unfold maxLen at hm
  have hr := h.room
  obtain ⟨b0, o0, rfl, hb0, -, -⟩ := h.cells (by omega)
  have hlen := h.len
  obtain ⟨zs, hzs⟩ : ∃ zs, (shaCells (List.replicate 8 0) (List.replicate 64 0) 0).toArray = zs := ⟨_, rfl⟩
  have hnd : decide ((n : Int) < 40) = false := by simp; omega
  have Hzs := Lib.hid hzs
  have Hlen := Lib.hid hlen
  clear hzs hlen
  go_enter Try.func24, Try.ntmps24
  go_wp2_with (first
    | ((with_reducible show wpList _ _ _ (⟨some 10, .build _ _, _, _, _, _⟩ :: _) _ _); refine wpList_run0 rfl (.agg zs) (by rw [← Hzs.out]; kernel_rfl) ?_; simp only [Act.put])
    | ((with_reducible show wpList _ _ _ (⟨some 11, .box _ _, _, _, _, _⟩ :: _) _ _); refine wpList_run rfl (.pointer (some ⟨w.heap.size, 0, none⟩)) (w.alloc (.cells zs 41)) (by rfl) ?_; simp only [Act.put]))
  go_loopw [12] (fun i wr => ∃ (q : Nat), q ≤ 8 ∧ i = .int .i64 q ∧ OfC w (some ⟨b0, o0, none⟩) n c l (firstW l q ++ List.replicate (8 - q) 0) (List.replicate 64 0) 0 wr) (fun i _ => 8 - (intOf i).toNat)
  case atStart => exact ⟨0, by omega, rfl, by rw [← Hzs.out]; exact Blk.new _ _ _, (Below.refl _ _).alloc (Nat.le_refl _) _, h.alloc _⟩
  case round =>
    obtain ⟨q, hq, rfl, hC⟩ := hrel
    by_cases hlq : q < 8
    · obtain ⟨st, hst⟩ : ∃ st, firstW l q ++ List.replicate (8 - q) (0 : UInt32) = st := ⟨_, rfl⟩
      obtain ⟨bk, hbk⟩ : ∃ bk, List.replicate 64 (0 : UInt8) = bk := ⟨_, rfl⟩
      rw [hst, hbk] at hC
      rw [hbk]
      have hsc : ∀ W, (Instr.sliceAt 23 (.slice (some ⟨b0, o0, none⟩) n c) (some (.int .i64 (4 * (q : Int)))) none none).run Try.prog W = .ok (.slice (some ⟨b0, o0 + 4 * q, none⟩) (n - 4 * q) (c - 4 * q)) W := fun W => by
        have := run_slice_low (P := Try.prog) sliceT23 size23 (some ⟨b0, o0, none⟩) n c (4 * q) (by omega) W
        rw [show ((4 * q : Nat) : Int) = 4 * (q : Int) by omega, if_neg (by omega), Option.map_some, addr_add, Nat.mul_one] at this
        exact this
      have hwd : ∀ s : InC (OfC w (some ⟨b0, o0, none⟩) n c l st bk 0), Calls Try.prog 63 #[.slice (some ⟨b0, o0 + 4 * q, none⟩) (n - 4 * q) (c - 4 * q)] s.W fun e w' => e = .returned (U (wordAt l q)) ∧ s.W = w' := fun s => by
        obtain ⟨b1, o1, hA, -, -, hcl⟩ := s.ok.src.cells (by omega)
        cases hA
        have hg : ∀ i, i < 4 → s.W.cell? ⟨b0, o0 + 4 * q + i, none⟩ = some (B (l.getD (4 * q + i) 0)) := fun i hi => by rw [Nat.add_assoc]; exact hcl (4 * q + i) (by omega)
        exact word_any _ _ _ _ b0 (o0 + 4 * q) (n - 4 * q) (c - 4 * q) s.W (by omega) (by omega) (hg 0 (by omega)) (hg 1 (by omega)) (hg 2 (by omega)) (hg 3 (by omega))
      have hsl : st.length = 8 := by rw [← hst, List.length_append, length_firstW]; simp; omega
      have hset := firstW_set l q hlq
      rw [hst] at hset
      obtain ⟨x, hx⟩ : ∃ x, wordAt l q = x := ⟨_, rfl⟩
      rw [hx] at hset hwd
      have hq8 : (q : Int) < 8 := by omega
      have Hst := Lib.hid hst
      have Hset := Lib.hid hset
      have Hsl := Lib.hid hsl
      have Hwd := Lib.hid hwd
      clear hst hset hsl hwd hx
      go_wp2_with fail
      refine wp_region_class_tail (OfC w (some ⟨b0, o0, none⟩) n c l st bk 0) 10 (by kernel_rfl) (by kernel_rfl) hC.drew fun _ => ?_
      simp only [List.take_succ_cons, List.take_zero, List.drop_succ_cons, List.drop_zero]
      repeat (go_big_quiet_step ((go_at_call 63; refine (Hwd.out _).mono ?_; rintro e w' ⟨rfl, rfl⟩; exact ⟨rfl, ⟨_, InC.ok _⟩, rfl⟩)))
      refine wpQuiet_nil ?_
      intro W3 hC3
      have c3 : W3.cell? ⟨w.heap.size, q, none⟩ = some (U (st.getD q 0)) := by
        rw [hC3.row.cell, List.getElem?_toArray, shaCells, List.getElem?_append_left (by rw [List.length_map, Hsl.out]; exact hlq), List.getElem?_map, List.getElem?_eq_getElem (by rw [Hsl.out]; exact hlq), List.getD_eq_getElem?_getD, List.getElem?_eq_getElem (by rw [Hsl.out]; exact hlq)]
        rfl
      have f3 := hC3.row.frozen q
      have k4 := hC3.row.set_ q (U x)
      rw [shaCells_set st bk 0 q x (by rw [Hsl.out]; exact hlq), Hset.out] at k4
      have B4 := hC3.bel.setCell (p := ⟨w.heap.size, q, none⟩) (Nat.le_refl _) (U x)
      have s4 := hC3.src.setCell (p := ⟨w.heap.size, q, none⟩) (U x) (by simp)
      go_wp2_with fail
      go_roundw
      case rel => exact ⟨q + 1, by omega, by go_num, k4, B4, s4⟩
      case measure => simp [intOf]; omega
    · obtain rfl : q = 8 := by omega
      rw [show firstW l 8 ++ List.replicate (8 - 8) (0 : UInt32) = firstW l 8 by simp] at hC
      obtain ⟨st, hst⟩ : ∃ st, firstW l 8 = st := ⟨_, rfl⟩
      obtain ⟨bk, hbk⟩ : ∃ bk, List.replicate 64 (0 : UInt8) = bk := ⟨_, rfl⟩
      rw [hst, hbk] at hC
      have hsl : st.length = 8 := by rw [← hst, length_firstW]
      have hbl : bk.length = 64 := by rw [← hbk]; simp
      have hsk : ∀ k : Nat, k < 40 → ∀ W, (Instr.sliceAt 23 (.slice (some ⟨b0, o0, none⟩) n c) (some (.int .i64 (k : Int))) none none).run Try.prog W = .ok (.slice (some ⟨b0, o0 + k, none⟩) (n - k) (c - k)) W := fun k hk W => by
        have := run_slice_low (P := Try.prog) sliceT23 size23 (some ⟨b0, o0, none⟩) n c k (by omega) W
        rw [if_neg (by omega), Option.map_some, addr_add, Nat.mul_one] at this
        exact this
      have sl32 : ∀ W, (Instr.sliceAt 23 (.slice (some ⟨b0, o0, none⟩) n c) (some (.int .i64 32)) none none).run Try.prog W = .ok (.slice (some ⟨b0, o0 + 32, none⟩) (n - 32) (c - 32)) W := fun W => hsk 32 (by omega) W
      have sl36 : ∀ W, (Instr.sliceAt 23 (.slice (some ⟨b0, o0, none⟩) n c) (some (.int .i64 36)) none none).run Try.prog W = .ok (.slice (some ⟨b0, o0 + 36, none⟩) (n - 36) (c - 36)) W := fun W => hsk 36 (by omega) W
      have hwd : ∀ (s : InC (OfC w (some ⟨b0, o0, none⟩) n c l st bk 0)) (q : Nat), q < 10 → Calls Try.prog 63 #[.slice (some ⟨b0, o0 + 4 * q, none⟩) (n - 4 * q) (c - 4 * q)] s.W fun e w' => e = .returned (U (wordAt l q)) ∧ s.W = w' := fun s q hq => by
        obtain ⟨b1, o1, hA, -, -, hcl⟩ := s.ok.src.cells (by omega)
        cases hA
        have hg : ∀ i, i < 4 → s.W.cell? ⟨b0, o0 + 4 * q + i, none⟩ = some (B (l.getD (4 * q + i) 0)) := fun i hi => by rw [Nat.add_assoc]; exact hcl (4 * q + i) (by omega)
        exact word_any _ _ _ _ b0 (o0 + 4 * q) (n - 4 * q) (c - 4 * q) s.W (by omega) (by omega) (hg 0 (by omega)) (hg 1 (by omega)) (hg 2 (by omega)) (hg 3 (by omega))
      obtain ⟨x, hx⟩ : ∃ x, wordAt l 8 = x := ⟨_, rfl⟩
      obtain ⟨y, hy⟩ : ∃ y, wordAt l 9 = y := ⟨_, rfl⟩
      have hw8 : ∀ s : InC (OfC w (some ⟨b0, o0, none⟩) n c l st bk 0), Calls Try.prog 63 #[.slice (some ⟨b0, o0 + 32, none⟩) (n - 32) (c - 32)] s.W fun e w' => e = .returned (U x) ∧ s.W = w' := fun s => by rw [← hx]; exact hwd s 8 (by omega)
      have hw9 : ∀ s : InC (OfC w (some ⟨b0, o0, none⟩) n c l st bk 0), Calls Try.prog 63 #[.slice (some ⟨b0, o0 + 36, none⟩) (n - 36) (c - 36)] s.W fun e w' => e = .returned (U y) ∧ s.W = w' := fun s => by rw [← hy]; exact hwd s 9 (by omega)
      have hN : num10 l = x.toNat * 4294967296 + y.toNat := by rw [← hx, ← hy]; rfl
      have hor := or_words x y
      rw [← hN] at hor
      have hxl := u32_lt x
      have hyl := u32_lt y
      have Hst := Lib.hid hst
      have Hbk := Lib.hid hbk
      have Hsl := Lib.hid hsl
      have Hbl := Lib.hid hbl
      have Hw8 := Lib.hid hw8
      have Hw9 := Lib.hid hw9
      have HN := Lib.hid hN
      clear hst hbk hsl hbl hsk hwd hx hy hw8 hw9 hN
      go_wp2_with fail
      refine wp_region_class (OfC w (some ⟨b0, o0, none⟩) n c l st bk 0) (by kernel_rfl) (by kernel_rfl) hC.drew fun _ => ?_
      repeat (go_big_quiet_step ((go_at_call 63; first | ((with_reducible refine (Hw8.out _).mono ?_); rintro e w' ⟨rfl, rfl⟩; exact ⟨rfl, ⟨_, InC.ok _⟩, rfl⟩) | ((with_reducible refine (Hw9.out _).mono ?_); rintro e w' ⟨rfl, rfl⟩; exact ⟨rfl, ⟨_, InC.ok _⟩, rfl⟩))))
      refine wpQuiet_nil ?_
      intro W3 hC3
      obtain ⟨N, hN⟩ : ∃ N, num10 l = N := ⟨_, rfl⟩
      rw [hN] at HN ⊢
      have hNl : (N : Int) < 18446744073709551616 := by have := HN.out; omega
      have hN0 : (0 : Int) ≤ (N : Int) := by omega
      have HhN := Lib.hid hN
      have hofb : Und.ofBytes l = if 1152921504606846976 < N ∨ n ≠ 40 + N % 64 then none else some ⟨S8.of st, N, l.drop 40⟩ := by
        unfold Und.ofBytes
        rw [hN, Hst.out, Hlen.out, if_neg (by omega)]
      have Hofb := Lib.hid hofb
      clear hN hofb hor hxl hyl sl32 sl36
      by_cases hbig : 1152921504606846976 < N
      · have hb1 : (1152921504606846976 : Int) < (N : Int) := by omega
        go_wp2_with fail
        go_ret2
        refine ⟨hC3.bel, fun u hu => ?_, fun _ => rfl⟩
        rw [Hofb.out, if_pos (.inl hbig)] at hu
        cases hu
      · have hb1 : (N : Int) ≤ (1152921504606846976 : Int) := by omega
        have Hbig := Lib.hid hbig
        clear hbig
        have hnb : decide ((1152921504606846976 : Int) < (N : Int)) = false := by rw [decide_eq_false_iff_not]; omega
        by_cases hne : n ≠ 40 + N % 64
        · have t2 : ((n : Int) != 40 + (N : Int) % 64) = true := by rw [bne_iff_ne]; omega
          have Hne := Lib.hid hne
          clear hne
          go_wp2_with fail
          go_ret2
          refine ⟨hC3.bel, fun u hu => ?_, fun _ => rfl⟩
          rw [Hofb.out, if_pos (.inr Hne.out)] at hu
          cases hu
        · have hne' : n = 40 + N % 64 := by omega
          obtain ⟨m, hm'⟩ : ∃ m, N % 64 = m := ⟨_, rfl⟩
          have hm64 : m < 64 := by omega
          have eN : (N : Int) % 64 = (m : Int) := by omega
          obtain rfl : n = 40 + m := by omega
          have sl40 : ∃ A' c', ∀ W, (Instr.sliceAt 23 (.slice (some ⟨b0, o0, none⟩) (40 + m) c) (some (.int .i64 40)) none none).run Try.prog W = .ok (.slice A' m c') W ∧ (Sl W (· < w.heap.size) (some ⟨b0, o0, none⟩) (40 + m) c l → Sl W (· < w.heap.size) A' m c' (l.drop 40)) := ⟨_, _, fun W => by
            have := run_slice_low (P := Try.prog) sliceT23 size23 (some ⟨b0, o0, none⟩) (40 + m) c 40 (by omega) W
            rw [show 40 + m - 40 = m by omega] at this
            refine ⟨this, fun hs => ?_⟩
            have := hs.drop 40 (by omega)
            rw [show 40 + m - 40 = m by omega] at this
            exact this⟩
          have sla : ∀ W, (Instr.sliceAt 34 (.pointer (some ⟨w.heap.size, 8, none⟩)) none none none).run Try.prog W = .ok (.slice (some ⟨w.heap.size, 8, none⟩) 64 64) W := fun W => by
            rw [run_sliceAt_array_all W _ _ arrT34, size34e, arrN34]
            simp [slicedAt, Result.andThen, Addr.add]
          have hml : (l.drop 40).length = m := by rw [List.length_drop, Hlen.out]; omega
          have c72 : W3.cell? ⟨w.heap.size, 72, none⟩ = some (.int .i64 0) := by
            rw [hC3.row.cell]
            simp only [shaCells, List.getElem?_toArray]
            rw [List.getElem?_append_right (by simp [Hsl.out]), List.getElem?_append_right (by simp [Hsl.out, Hbl.out])]
            simp [Hsl.out, Hbl.out]
          have f72 := hC3.row.frozen 72
          have k5 := hC3.row.set_ 72 (.int .i64 (N : Int))
          rw [shaCells_len st bk 0 N Hsl.out Hbl.out] at k5
          have B5 := hC3.bel.setCell (p := ⟨w.heap.size, 72, none⟩) (Nat.le_refl _) (.int .i64 (N : Int))
          have s5 := hC3.src.setCell (p := ⟨w.heap.size, 72, none⟩) (.int .i64 (N : Int)) (by simp)
          have Hsl40 := Lib.hid sl40
          have Hne := Lib.hid hne'
          have Hm := Lib.hid hm'
          have Hml := Lib.hid hml
          have HhNl := Lib.hid hNl
          have hb2 : (N : Int) < (9223372036854775808 : Int) := by omega
          clear hne hne' hm' sl40 hml hNl
          go_upto_region 13 with (fail)
          refine wp_world (OfC w (some ⟨b0, o0, none⟩) (40 + m) c l st bk N) ⟨k5, B5, s5⟩ ?_
          clear k5 B5 s5 c72 f72 hC3
          intro W6 hC6
          refine wp_region_class_tail (OfC w (some ⟨b0, o0, none⟩) (40 + m) c l st bk N) 6 (by kernel_rfl) (by kernel_rfl) hC6.drew fun _ => ?_
          simp only [List.take_succ_cons, List.take_zero, List.drop_succ_cons, List.drop_zero]
          obtain ⟨A', c', hs1⟩ : ∃ A' c', ∀ W, (Instr.sliceAt 23 (.slice (some ⟨b0, o0, none⟩) (40 + m) c) (some (.int .i64 40)) none none).run Try.prog W = .ok (.slice A' m c') W ∧ (Sl W (· < w.heap.size) (some ⟨b0, o0, none⟩) (40 + m) c l → Sl W (· < w.heap.size) A' m c' (l.drop 40)) := Hsl40.out
          have hs2 := fun W => (hs1 W).1
          have hs3 := fun W => (hs1 W).2
          have Hs3 := Lib.hid hs3
          clear hs1 hs3
          repeat (go_big_quiet_step (fail))
          refine wpQuiet_nil ?_
          intro W7 hC7
          have hsrc := Hs3.out W7 hC7.src
          have hcp := run_copy_blk (P := Try.prog) 3 Try.underlying23 one5 w.heap.size 8 41 _ 64 64 _ A' ((l.drop 40).map B) m c' hC7.row (by rw [List.length_map, Hml.out]) hsrc.bs (by rw [show Nat.min m 64 = m from Nat.min_eq_left (by omega)]; simp only [List.size_toArray, length_shaCells Hsl.out Hbl.out]; omega) (oneB _)
          have htm : ((l.drop 40).map B).take m = (l.drop 40).map B := List.take_of_length_le (by rw [List.length_map, Hml.out]; omega)
          rw [show Nat.min m 64 = m from Nat.min_eq_left (by omega), htm] at hcp
          have hcc := shaCells_copy st bk (l.drop 40) N 0 Hsl.out Hbl.out (by rw [Hml.out]; omega)
          rw [Hml.out, Nat.add_zero, List.take_zero, List.nil_append, Nat.zero_add] at hcc
          rw [hcc] at hcp
          have k8 := hC7.row.setRow_ (shaCells st (l.drop 40 ++ bk.drop m) N).toArray
          have B8 := below_setRow hC7.bel (Nat.le_refl _) (shaCells st (l.drop 40 ++ bk.drop m) N).toArray
          have Hcp := Lib.hid hcp
          clear hcp hcc hC7 hsrc hs2 sla
          go_wp2_with ((with_reducible show wpList _ _ _ (⟨some 58, .call _, _, _, _, _⟩ :: _) _ _); refine wpList_run rfl _ _ (run_copy_op (.tmp 55) (.tmp 57) 23 rfl _ _ rfl rfl Hcp.out) ?_; simp only [Act.put])
          go_ret2
          refine ⟨B8, fun u hu => ?_, fun hu => ?_⟩
          · rw [Hofb.out, if_neg (by have := Hbig.out; have := Hm.out; omega)] at hu
            cases hu
            refine ⟨rfl, l.drop 40 ++ bk.drop m, ?_, ?_, ?_, ?_, ?_⟩
            · rw [show (S8.of st).list = st from of_list st Hsl.out]; exact k8
            · rw [List.length_append, Hml.out, List.length_drop, Hbl.out]; omega
            · show (l.drop 40).length = N % 64
              rw [Hml.out, Hm.out]
            · show (l.drop 40 ++ bk.drop m).take (l.drop 40).length = l.drop 40
              exact List.take_left
            · show N < 9223372036854775808
              have := Hbig.out
              omega
          · rw [Hofb.out, if_neg (by have := Hbig.out; have := Hm.out; omega)] at hu
            cases hu
end Go.Proofs.Ytdkgndjomkbbjaa
/- notarylaw03.lent. -/
namespace Go.Proofs.Ytdkgndjomkbbjaa
open Go.RowKit

set_option maxHeartbeats 400000 in
set_option maxRecDepth 100000 in
theorem lent_any (l : List UInt8) (A : Option Addr) (n c : Nat) (w : World) (h : Sl w (fun _ => True) A n c l) (hmax : n ≤ 1099511627776) :
    Calls Try.prog 14 #[.slice A n c] w fun e w' => ∃ g c' cur, e = .returned (.slice (some ⟨g, 0, none⟩) n c') ∧ w.heap.size ≤ g ∧ Own w' g c' (l ++ [0xa5]) cur ∧ Below w.heap.size w w' := by
  have hn := h.len
  obtain ⟨v1, w1, hr1, ho1, hg1⟩ := append_sl (base := w.heap.size) (xs := []) (World.ownsRow_nil w _ _ _) h (by simp; omega) (Nat.le_refl _)
  rw [List.nil_append] at ho1
  have hs1 := hg1.size
  have ho2 : (w1.alloc (.cells #[.int .u8 165] 5)).ownsRow w.heap.size 5 1 v1 l.length (l.map B) := ho1.alloc _
  have hsl2 : Sl (w1.alloc (.cells #[.int .u8 165] 5)) (fun _ => True) (some ⟨w1.heap.size, 0, none⟩) 1 1 [0xa5] := ⟨Bs.new w1 _ _ _ trivial, rfl, Nat.le_refl _, by simp, by decide⟩
  obtain ⟨v3, w3, hr3, ho3, hg3⟩ := append_sl ho2 hsl2 (by omega) (by simp; omega)
  obtain ⟨g, c3, cur, rfl, hgb, hown⟩ := Own.of_owns ho3 (by simp)
  have hlen3 : (l ++ [(0xa5 : UInt8)]).length = n + 1 := by simp [hn]
  rw [hlen3] at hr3
  have hc3 : n + 1 ≤ c3 := by have := hown.room; omega
  have hcm := hown.max
  simp only [maxLen] at hcm
  have hsh := fun W => run_slice_high (P := Try.prog) sliceT23 size23 (some ⟨g, 0, none⟩) (n + 1) c3 n (by omega) W
  have hb1 : Below w.heap.size w w1 := ⟨hg1.os, hg1.tape, hg1.output, hg1.size, fun k hk => hg1.block k hk (by simp [Value.ownBlock])⟩
  have hne : ∀ k, k < w.heap.size → some k ≠ v1.ownBlock := fun k hk e => by
    have := (ho1.lt k e.symm).1
    omega
  have hb3 : Below w.heap.size w w3 := hb1.trans ⟨hg3.os, hg3.tape, hg3.output, by have := hg3.size; simp at this; omega, fun k hk => by
    have h1 := hg3.block k (by simp; omega) (hne k hk)
    rw [h1]
    exact Below.heap_alloc w1 _ k (by omega)⟩
  clear hne hg3 hg1 ho1 ho2 ho3 hsl2 hs1 h
  go_enter Try.func14, Try.ntmps14
  go_wp2_with (first
    | ((with_reducible show wpList _ _ _ (⟨some 4, .call _, _, _, _, _⟩ :: _) _ _); refine wpList_run rfl v1 w1 (run_append_op (.const (.slice none 0 0)) (.tmp 3) 23 rfl _ _ rfl rfl hr1) ?_; simp only [Act.put])
    | ((with_reducible show wpList _ _ _ (⟨some 6, .call _, _, _, _, _⟩ :: _) _ _); refine wpList_run rfl _ w3 (run_append_op (.tmp 4) (.tmp 5) 23 rfl _ _ rfl rfl hr3) ?_; simp only [Act.put]))
  go_ret
  exact ⟨g, c3, cur, rfl, hgb, hown, hb3⟩
end Go.Proofs.Ytdkgndjomkbbjaa
/- An operation with a guard whose run is known. No program in sight. -/
namespace Go.Proofs.Ytdkgndjomkbbjaa
open Go Go.RowKit

theorem wpList_runG {P : Program} {w : World} {ops : Array Oper} {rest : List Oper} {o : Oper} {a : Act} {Q : Exit → Act → World → Prop} (hw : Region.wanted o (yielded ops a.tmps) = true) (v : Value) (w' : World) (hrun : (execOp a.eval o).run P w = .ok (.value v) w')
    (h : wpList P ops Q rest (a.put o.dst v) w') : wpList P ops Q (o :: rest) a w :=
  wpList_step fun K hK => by
    rw [if_pos hw]
    unfold Oper.wp
    rw [hrun]
    exact hK _ _ h
end Go.Proofs.Ytdkgndjomkbbjaa
