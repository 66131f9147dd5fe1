/- notarylaw08.long, lent, kept. -/
import Derived.Test.YtdkgndjomkbbjaaHWorks
import Derived.Test.YtdkgndjomkbbjaaRef6
namespace Go.Proofs.Ytdkgndjomkbbjaa
open Go Go.RowKit

set_option maxHeartbeats 1000000 in
set_option maxRecDepth 100000 in
theorem long_any (ls : List (List UInt8)) (A : Option Addr) (n c : Nat) (w : World) (hn : n = ls.length) (h : BsS w (fun _ => True) A ls) (hm : n + ls.flatten.length ≤ 1099511627776) :
    Calls Try.prog 28 #[.slice A n c] w fun e w' => w = w' ∧ ∃ b, e = .returned (.bool b) ∧ (b = false → n + ls.flatten.length ≤ 100000) := by
  have Hn := Lib.hid hn
  clear hn
  obtain ⟨vs, hvs, hvl, hvi⟩ := h
  have Hvl := Lib.hid hvl
  have Hvi := Lib.hid hvi
  clear hvl hvi
  go_enter Try.func28, Try.ntmps28
  go_wp2_with fail
  go_loopw [3, 4] (fun s i wr => ∃ k : Nat, k ≤ n ∧ i = .int .i64 k ∧ s = .int .i64 ((n + (ls.take k).flatten.length : Nat) : Int) ∧ w = wr) (fun _ i _ => n - (intOf i).toNat)
  case atStart => exact ⟨0, by omega, rfl, by simp, rfl⟩
  case round =>
    obtain ⟨k, hk, rfl, rfl, rfl⟩ := hrel
    obtain ⟨s, hs⟩ : ∃ s, n + (ls.take k).flatten.length = s := ⟨_, rfl⟩
    have hfl2 := flatten_take_le ls k
    rw [hs]
    by_cases hlt : k < n
    · have hd1 : decide ((k : Int) < (n : Int)) = true := by simp; exact hlt
      by_cases hsm : s ≤ 100000
      · have hkl : k < ls.length := by have := Hn.out; omega
        obtain ⟨Ai, ci, hv, hc, hbi⟩ := Hvi.out k hkl
        obtain ⟨b0, o0, hA, hb0, _, hcell⟩ := hvs.at_ (by rw [Hvl.out]; omega)
        have hce : w.cell? ⟨b0, o0 + k, none⟩ = some (.slice Ai (ls[k]).length ci) := hcell k _ hv
        have hfl := flatten_take_succ ls k hkl
        have hfl3 := flatten_take_le ls (k + 1)
        rw [hfl, List.length_append] at hfl3
        subst hA
        have Hfl := Lib.hid hfl
        have Hs := Lib.hid hs
        clear hfl hbi hv
        have hd2 : decide ((s : Int) ≤ 100000) = true := by simp; omega
        obtain ⟨m, hm'⟩ : ∃ m, (ls[k]).length = m := ⟨_, rfl⟩
        rw [hm'] at hce hfl3
        have Hm := Lib.hid hm'
        clear hm' hs
        have hw1 : IntKind.i64.wrap ((s : Int) + (m : Int)) = (s : Int) + (m : Int) := by rw [IntKind.wrap_i64]; omega
        go_wp2_with fail
        go_roundw
        case rel => exact ⟨k + 1, by omega, by go_num, by rw [Hfl.out, List.length_append, Hm.out]; have := Hs.out; congr 1; omega, trivial⟩
        case measure => simp [intOf]; omega
      · have hd2 : decide ((s : Int) ≤ 100000) = false := by simp; omega
        have hd3 : decide ((100000 : Int) < (s : Int)) = true := by simp; omega
        clear hs
        go_wp2_with fail
        go_ret
        exact ⟨rfl, true, by simp, fun h => by cases h⟩
    · have hkn : k = n := by omega
      subst hkn
      have hd1 : decide ((k : Int) < (k : Int)) = false := by simp
      have Hs := Lib.hid hs
      clear hs
      go_wp2_with fail
      go_ret
      refine ⟨rfl, decide ((100000 : Int) < (s : Int)), rfl, fun h => ?_⟩
      have h1 : (s : Int) ≤ 100000 := by simpa using h
      have h2 := Hs.out
      rw [List.take_of_length_le (by have := Hn.out; omega)] at h2
      omega

/-- lent bytes: read, and the two bytes behind them -/
structure LentM (w : World) (X : Nat → Prop) (g n c : Nat) (l : List UInt8) : Prop where
  sl : Sl w X (some ⟨g, 0, none⟩) n c l
  lt : n + 1 < c
  mark : w.cell? ⟨g, n, none⟩ = some (.int .u8 165)
  mark2 : w.cell? ⟨g, n + 1, none⟩ = some (.int .u8 90)
  x : X g
  in_ : g < w.heap.size
theorem LentM.step {w w' : World} {X : Nat → Prop} {g n c : Nat} {l : List UInt8} (h : LentM w X g n c l) (hb : Below w.heap.size w w') : LentM w' X g n c l :=
  ⟨h.sl.step hb, h.lt, by rw [hb.cell (p := ⟨g, n, none⟩) h.in_]; exact h.mark, by rw [hb.cell (p := ⟨g, n + 1, none⟩) h.in_]; exact h.mark2, h.x, Nat.lt_of_lt_of_le h.in_ hb.size⟩
theorem LentM.grown {w w' : World} {X : Nat → Prop} {g n c : Nat} {l : List UInt8} {row : Option Nat} (h : LentM w X g n c l) (hg : w.grownBy w' row) (hX : ∀ b, b < w.heap.size → X b → some b ≠ row) : LentM w' X g n c l :=
  ⟨h.sl.grown hg hX, h.lt, by rw [World.cell?_of_block (w := w) (hg.block g h.in_ (hX g h.in_ h.x))]; exact h.mark, by rw [World.cell?_of_block (w := w) (hg.block g h.in_ (hX g h.in_ h.x))]; exact h.mark2, h.x, Nat.lt_of_lt_of_le h.in_ hg.size⟩
theorem LentM.weak {w : World} {X Y : Nat → Prop} {g n c : Nat} {l : List UInt8} (h : LentM w X g n c l) (hX : ∀ b, b < w.heap.size → X b → Y b) : LentM w Y g n c l := ⟨h.sl.weak hX, h.lt, h.mark, h.mark2, hX g h.in_ h.x, h.in_⟩
theorem LentM.of_own {w : World} {X : Nat → Prop} {g c : Nat} {l : List UInt8} {cur : Array Value} (h : Own w g c (l ++ [0xa5, 0x5a]) cur) (hX : X g) : LentM w X g l.length c l := by
  have hr := h.room
  rw [List.length_append] at hr
  simp only [List.length_cons, List.length_nil] at hr
  have hget : ∀ j u, ((l ++ [0xa5, 0x5a]).map B)[j]? = some u → w.cell? ⟨g, j, none⟩ = some u := fun j u hu => by
    rw [h.blk.cell, ← Array.getElem?_toList]
    rw [← h.pre, List.getElem?_take] at hu
    split at hu
    · exact hu
    · cases hu
  refine ⟨⟨fun _ => ⟨g, 0, rfl, h.blk.lt, hX, fun j u hu => ?_⟩, rfl, by omega, by simp, h.max⟩, by omega, ?_, ?_, hX, h.blk.lt⟩
  · rw [Nat.zero_add]
    refine hget j u ?_
    rw [List.map_append, List.getElem?_append_left (List.getElem?_eq_some_iff.1 hu).1]
    exact hu
  · refine hget _ _ ?_
    rw [List.map_append, List.getElem?_append_right (by simp)]
    simp
  · refine hget _ _ ?_
    rw [List.map_append, List.getElem?_append_right (by simp)]
    simp

set_option maxHeartbeats 400000 in
set_option maxRecDepth 100000 in
theorem lent8_any (l : List UInt8) (A : Option Addr) (n c : Nat) (w : World) (h : Sl w (fun _ => True) A n c l) (hmax : n ≤ 1099511627776) :
    Calls Try.prog 30 #[.slice A n c] w fun e w' => ∃ g c', e = .returned (.slice (some ⟨g, 0, none⟩) n c') ∧ LentM w' (w.heap.size ≤ ·) g n c' l ∧ Below w.heap.size w w' := by
  have hn := h.len
  obtain ⟨w0, hw0⟩ : ∃ w0, w.alloc (.cells #[] 5) = w0 := ⟨_, rfl⟩
  have o0 : w0.ownsRow w.heap.size 5 1 (.slice (some ⟨w.heap.size, 0, none⟩) 0 0) 0 [] := by
    rw [← hw0]; exact World.ownsRow_lit (base := w.heap.size) (e := 5) (size := 1) w #[] 0 (Nat.le_refl _) (by decide) rfl
  have b0 : Below w.heap.size w w0 := by rw [← hw0]; exact (Below.refl _ _).alloc (Nat.le_refl _) _
  obtain ⟨v1, w1, hr1, ho1, hg1⟩ := append_sl (xs := []) o0 (h.step b0) (by simp; omega) b0.size
  rw [List.nil_append] at ho1
  have hs1 := hg1.size
  have ho2 : (w1.alloc (.cells #[.int .u8 165, .int .u8 90] 5)).ownsRow w.heap.size 5 1 v1 l.length (l.map B) := ho1.alloc _
  have hsl2 : Sl (w1.alloc (.cells #[.int .u8 165, .int .u8 90] 5)) (fun _ => True) (some ⟨w1.heap.size, 0, none⟩) 2 2 [0xa5, 0x5a] := ⟨Bs.new w1 _ _ _ trivial, rfl, Nat.le_refl _, by simp, by decide⟩
  obtain ⟨v3, w3, hr3, ho3, hg3⟩ := append_sl ho2 hsl2 (by omega) (by have := b0.size; simp; omega)
  have B1 := b0.grown hg1 b0.size (fun k hk => (o0.lt k hk).1)
  have B3 := (B1.alloc (by have := b0.size; omega) (.cells #[.int .u8 165, .int .u8 90] 5)).grown hg3 (by have := b0.size; simp; omega) (fun k hk => (ho2.lt k hk).1)
  obtain ⟨g, c3, cur, rfl, hgb, hown⟩ := Own.of_owns ho3 (by simp)
  have hlen3 : (l ++ [(0xa5 : UInt8), 0x5a]).length = n + 2 := by simp [hn]
  rw [hlen3] at hr3
  have hc3 : n + 2 ≤ c3 := by have := hown.room; omega
  have hcm := hown.max
  simp only [maxLen] at hcm
  have hsh := fun W => run_slice_high (P := Try.prog) sliceT23 size23 (some ⟨g, 0, none⟩) (n + 2) c3 n (by omega) W
  have hlm := LentM.of_own (X := (w.heap.size ≤ ·)) hown hgb
  rw [hn] at hlm
  have Hw0 := Lib.hid hw0
  have Hr1 := Lib.hid hr1
  have Hr3 := Lib.hid hr3
  clear hg3 hg1 ho1 ho2 ho3 hsl2 hs1 h hw0 hr1 hr3 hown o0 b0 B1 hlen3
  go_enter Try.func30, Try.ntmps30
  go_wp2_with (first
    | ((with_reducible show wpList _ _ _ (⟨some 5, .call _, _, _, _, _⟩ :: _) _ _); rw [Hw0.out]; refine wpList_run rfl v1 w1 (run_append_op (.tmp 3) (.tmp 4) 23 rfl _ _ rfl rfl Hr1.out) ?_; simp only [Act.put])
    | ((with_reducible show wpList _ _ _ (⟨some 7, .call _, _, _, _, _⟩ :: _) _ _); refine wpList_run rfl _ w3 (run_append_op (.tmp 5) (.tmp 6) 23 rfl _ _ rfl rfl Hr3.out) ?_; simp only [Act.put]))
  go_ret
  exact ⟨g, c3, rfl, hlm, B3⟩

set_option maxHeartbeats 400000 in
theorem kept8_any (g n c : Nat) (l : List UInt8) (A : Option Addr) (c2 : Nat) (w : World) (h : LentM w (fun _ => True) g n c l) (hb : Sl w (fun _ => True) A n c2 l) (hmax : n ≤ 1099511627776) :
    Calls Try.prog 38 #[.slice (some ⟨g, 0, none⟩) n c, .slice A n c2] w fun e w' => e = .returned (.bool true) ∧ w = w' := by
  have hs1 := run_str h.sl
  have hs2 := run_str hb
  have heq := run_eql_str l l w
  rw [BEq.rfl] at heq
  have hc := h.mark
  have hc2 := h.mark2
  have hlt := h.lt
  have hcm := h.sl.max
  unfold maxLen at hcm
  have sl1 := fun W => run_slice_high (P := Try.prog) sliceT23 size23 (some ⟨g, 0, none⟩) n c (n + 2) (by omega) W
  have ea : ((n + 2 : Nat) : Int) = (n : Int) + 2 := by omega
  rw [ea] at sl1
  clear ea
  have hw1 : IntKind.i64.wrap ((n : Int) + 2) = (n : Int) + 2 := by rw [IntKind.wrap_i64]; omega
  have hw2 : IntKind.i64.wrap ((n : Int) + 1) = (n : Int) + 1 := by rw [IntKind.wrap_i64]; omega
  go_enter Try.func38, Try.ntmps38
  go_wp2_with fail
  go_ret
  exact ⟨rfl, rfl⟩
end Go.Proofs.Ytdkgndjomkbbjaa
