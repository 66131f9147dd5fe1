/- notaryref08.Top, Rows. -/
import Derived.Test.YtdkgndjomkbbjaaRPairs
namespace Go.Proofs.Ytdkgndjomkbbjaa
open Go Go.RowKit

theorem length_topL (hs : List (List UInt8)) (h : H32 hs) : (topL hs).length = 32 := by
  refine length_lastHead _ fun l hl => ?_
  unfold rowsL at hl
  have : ∀ (f : Nat) (hs : List (List UInt8)), H32 hs → ∀ l ∈ rowsF f hs, H32 l := by
    intro f
    induction f with
    | zero => intro hs _ l hl; cases hl
    | succ f ih =>
      intro hs hh l hl
      simp only [rowsF] at hl
      split at hl
      · cases hl
      · split at hl
        · rw [List.mem_singleton.1 hl]; exact hh
        · rcases List.mem_cons.1 hl with rfl | hl
          · exact hh
          · exact ih _ (pairsL_all hs) l hl
  exact this _ _ h l hl
theorem pow2_even (m : Nat) (h : m % 2 = 0) : pow2 (m / 2) = pow2 m := by
  have := pow2_double (m / 2)
  rw [show m / 2 + m / 2 = m by omega] at this
  exact this.symm
theorem pow2_odd (m : Nat) (h : m % 2 = 1) (h2 : 1 < m) : pow2 m = false := by
  cases hp : pow2 m with
  | false => rfl
  | true => have := (pow2_half m hp (by omega)).1; omega

theorem top_any (hs : List (List UInt8)) (A : Option Addr) (n c : Nat) (w : World) (h : Hs w (fun _ => True) A n c hs) (hn : n ≤ 4398046511104) :
    Calls Try.prog 40 #[.slice A n c] w fun e w' => e = .returned (.tuple #[.agg ((topR hs).1.map B).toArray, .int .i64 (topR hs).2]) ∧ Below w.heap.size w w' := by
  unfold topR
  cases hp : pow2 hs.length with
  | true => exact top_ok hs A n c w h (by rw [← h.len]; exact hp) hn
  | false => exact top_bad A n c w (by rw [← h.len]; exact hp) hn

set_option maxHeartbeats 2000000 in
set_option maxRecDepth 100000 in
theorem rtop_any (hs : List (List UInt8)) (A : Option Addr) (n c : Nat) (w : World) (h : Hs w (fun _ => True) A n c hs) (hn : n ≤ 4398046511104) :
    Calls Try.prog 41 #[.slice A n c] w fun e w' => e = .returned (.tuple #[.agg ((topR hs).1.map B).toArray, .int .i64 (topR hs).2]) ∧ Below w.heap.size w w' := by
  obtain ⟨zs, hzs⟩ : ∃ zs, zeroHash = zs := ⟨_, rfl⟩
  have hzl : zs.size = 32 := by rw [← hzs]; rfl
  have hzm : ((List.replicate 32 (0 : UInt8)).map B).toArray = zs := hzs
  have hz1 : ∀ v ∈ zs.toList, v.oneCell' = true := by rw [← hzs]; exact oneCell_B _
  have hb0 : Below w.heap.size w (w.alloc (.cells zs 26)) := (Below.refl w.heap.size w).alloc (Nat.le_refl _) (.cells zs 26)
  have k0 := Blk.new w 26 zs
  have hlen := h.len
  have h0 := h.step hb0
  have Hzs := Lib.hid hzs
  have Hzl := Lib.hid hzl
  have Hz1 := Lib.hid hz1
  have Hzm := Lib.hid hzm
  have Hlen := Lib.hid hlen
  obtain ⟨q, hq⟩ : ∃ q, topR hs = q := ⟨_, rfl⟩
  rw [hq]
  have Hq := Lib.hid hq
  clear hzs hzl hz1 hzm hlen hq h
  by_cases hn0 : n = 0
  · subst hn0
    obtain rfl : q = (List.replicate 32 0, 2) := by rw [← Hq.out]; unfold topR; rw [Hlen.out]; rfl
    rw [Hzm.out]
    go_enter Try.func41, Try.ntmps41
    go_wp2_with (first
      | ((with_reducible show wpList _ _ _ (⟨some 2, .alloc _, _, _, _, _⟩ :: _) _ _); refine wpList_run rfl (.pointer (some ⟨w.heap.size, 0, none⟩)) (w.alloc (.cells zs 26)) (by rw [← Hzs.out]; rfl) ?_; simp only [Act.put])
      | ((with_reducible show wpList _ _ _ (⟨some 7, .build _ _, _, _, _, _⟩ :: _) _ _); refine wpList_run0 rfl (.agg zs) (by rw [← Hzs.out]; kernel_rfl) ?_; simp only [Act.put])
      | ((with_reducible show wpList _ _ _ (⟨none, .store _ _ _, _, _, _, _⟩ :: _) _ _); refine wpList_store_blk rfl 26 (.tmp 2) (.tmp 7) rfl 32 size26 w.heap.size zs rfl rfl Hzl.out Hz1.out 26 _ k0 Hzl.out ?_; simp only [Act.put]))
    refine bodyPost_ret (tuple_cell rfl _ _ w.heap.size zs _ _ rfl (k0.setRow_ _) Try.underlying26 (by rw [Hzl.out]; exact info26)) rfl ⟨rfl, ?_⟩
    exact below_setRow hb0 (Nat.le_refl _) _
  · have hd0 : ((n : Int) == 0) = false := by simp; exact hn0
    go_enter Try.func41, Try.ntmps41
    go_wp2_with ((with_reducible show wpList _ _ _ (⟨some 2, .alloc _, _, _, _, _⟩ :: _) _ _); refine wpList_run rfl (.pointer (some ⟨w.heap.size, 0, none⟩)) (w.alloc (.cells zs 26)) (by rw [← Hzs.out]; rfl) ?_; simp only [Act.put])
    generalize w.alloc (.cells zs 26) = w1 at hb0 k0 h0 ⊢
    go_loopw [0] (fun v wr => ∃ (A' : Option Addr) (m c' : Nat) (cur : List (List UInt8)), v = .slice A' m c' ∧ 1 ≤ m ∧ m ≤ n ∧ Hs wr (fun _ => True) A' m c' cur ∧ pow2 m = pow2 n ∧ (pow2 n = true → topL cur = topL hs) ∧ Blk wr w.heap.size 26 zs ∧ Below w.heap.size w wr) (fun v => fun _ => sliceLen v)
    case atStart => exact ⟨A, n, c, hs, rfl, by omega, Nat.le_refl _, h0, rfl, fun _ => rfl, k0, hb0⟩
    case round =>
      clear hb0 k0 h0
      obtain ⟨A', m, c', cur, rfl, hm1, hmn, hcur, hp, ht, kz, hB⟩ := hrel
      have hcl := hcur.len
      have Hcl := Lib.hid hcl
      have Hp := Lib.hid hp
      have Ht := Lib.hid ht
      clear hcl hp ht
      have hroom := hcur.sl.room
      have hmax := hcur.sl.max
      unfold maxLen at hmax
      by_cases hgt : 1 < m
      · by_cases hev : m % 2 = 0
        · have hd : (m : Int) % 2 = 0 := by omega
          go_wp2_with fail
          refine (rpairs_any cur A' m c' wr hcur (by omega)).mono ?_
          rintro e w2 ⟨A2, c2, rfl, hs2, hb2⟩
          go_wp2_with fail
          refine ⟨⟨A2, m / 2, c2, pairsL cur, rfl, by omega, by omega, hs2.weak fun _ _ _ => trivial, by rw [pow2_even m hev]; exact Hp.out, fun h => by rw [← topL_more cur (by rw [Hcl.out]; omega)]; exact Ht.out h, kz.below hb2 kz.lt, hB.trans (hb2.mono hB.size)⟩, ?_⟩
          simp [sliceLen]; omega
        · have hd : (m : Int) % 2 = 1 := by omega
          obtain rfl : q = (List.replicate 32 0, 2) := by rw [← Hq.out]; unfold topR; rw [Hlen.out, ← Hp.out, pow2_odd m (by omega) hgt]; rfl
          go_wp2_with (first
            | ((with_reducible show wpList _ _ _ (⟨some 15, .build _ _, _, _, _, _⟩ :: _) _ _); refine wpList_run0 rfl (.agg zs) (by rw [← Hzs.out]; kernel_rfl) ?_; simp only [Act.put])
            | ((with_reducible show wpList _ _ _ (⟨none, .store _ _ _, _, _, _, _⟩ :: _) _ _); refine wpList_store_blk rfl 26 (.tmp 2) (.tmp 15) rfl 32 size26 w.heap.size zs rfl rfl Hzl.out Hz1.out 26 _ kz Hzl.out ?_; simp only [Act.put]))
          refine bodyPost_ret (tuple_cell rfl _ _ w.heap.size zs _ _ rfl (kz.setRow_ _) Try.underlying26 (by rw [Hzl.out]; exact info26)) rfl ⟨by show _ = Ending.returned (.tuple #[.agg ((List.replicate 32 (0 : UInt8)).map B).toArray, .int .i64 2]); rw [Hzm.out]; rfl, ?_⟩
          exact below_setRow hB (Nat.le_refl _) _
      · obtain rfl : m = 1 := by omega
        obtain ⟨x, rfl⟩ := List.length_eq_one_iff.1 Hcl.out
        have hxl : x.length = 32 := hcur.all x (by simp)
        obtain rfl : q = (x, 0) := by
          have hpn : pow2 n = true := by rw [← Hp.out]; rfl
          rw [← Hq.out]; unfold topR; rw [Hlen.out, hpn, ← Ht.out hpn, topL_one]; rfl
        obtain ⟨b, o, rfl, hb, -, hat⟩ := hcur.at_ (by omega)
        have hld : (Instr.loadAt 26 (.pointer (some ⟨b, o, none⟩))).run Try.prog wr = .ok (.agg (x.map B).toArray) wr := hat 0 (by omega)
        have Hld := Lib.hid hld
        have Hxl := Lib.hid hxl
        clear hat hld hxl
        go_wp2_with (first
          | ((with_reducible show wpList _ _ _ (⟨some 20, .load _ _, _, _, _, _⟩ :: _) _ _); refine wpList_load rfl 26 (.tmp 19) rfl b o rfl (x.map B).toArray Hld.out ?_; simp only [Act.put])
          | ((with_reducible show wpList _ _ _ (⟨none, .store _ _ _, _, _, _, _⟩ :: _) _ _); refine wpList_store_blk rfl 26 (.tmp 2) (.tmp 20) rfl 32 size26 w.heap.size (x.map B).toArray rfl rfl (by simp [Hxl.out]) (oneCell_B _) 26 _ kz Hzl.out ?_; simp only [Act.put]))
        refine bodyPost_ret (tuple_cell rfl _ _ w.heap.size (x.map B).toArray _ _ rfl (kz.setRow_ _) Try.underlying26 (by rw [show (x.map B).toArray.size = 32 by simp [Hxl.out]]; exact info26)) rfl ⟨rfl, ?_⟩
        exact below_setRow hB (Nat.le_refl _) _
end Go.Proofs.Ytdkgndjomkbbjaa
