/- notaryref03.Sum; notarylaw03.kept. -/
import Derived.Test.YtdkgndjomkbbjaaQa109
import Derived.Test.YtdkgndjomkbbjaaQa101
import Derived.Test.YtdkgndjomkbbjaaQa107
import Derived.Test.YtdkgndjomkbbjaaQa105
import Derived.Maps.Range
import Derived.Test.YtdkgndjomkbbjaaQa106
namespace Go.Proofs.Ytdkgndjomkbbjaa
open Go.RowKit

theorem Und.take_ok' (b : List UInt8) : (Und.new.take b).ok := Und.take_ok _ _ Und.new_ok

set_option maxHeartbeats 1000000 in
set_option maxRecDepth 100000 in
theorem rsum_any (b : List UInt8) (A : Option Addr) (n c : Nat) (w : World) (h : Sl w (fun _ => True) A n c b) (hmax : n ≤ 1099511627776) :
    Calls Try.prog 16 #[.slice A n c] w fun e w' => e = .returned (.agg ((sha256 b).map B).toArray) ∧ Below w.heap.size w w' := by
  have hlen := h.len
  obtain ⟨v, hv⟩ : ∃ v, Und.new.take b = v := ⟨_, rfl⟩
  have hvl : v.len = n := by rw [← hv, Und.take_len, ← hlen]; exact Nat.zero_add _
  have hvok : v.ok := by rw [← hv]; exact Und.take_ok' b
  have hvs : v.sum = sha256 b := by rw [← hv]; rfl
  have htk : ∀ w, Sl w (fun _ => True) A n c b → Calls Try.prog 61 #[undV Und.new (.slice none 0 0), .slice A n c] w fun e w' => ∃ A' n' c', e = .returned (undV v (.slice A' n' c')) ∧ Sl w' (fun _ => True) A' n' c' v.rest ∧ Below w.heap.size w w' := fun w h => by
    rw [← hv]
    exact rtake_any Und.new b none 0 0 A n c w Sl.nil h (by omega) (by have : Und.new.len = 0 := rfl; omega)
  obtain ⟨x0, hx0⟩ : ∃ x0, undV Und.new (.slice none 0 0) = x0 := ⟨_, rfl⟩
  have hnew := fun w => rnew_any w
  rw [hx0] at htk hnew
  obtain ⟨r, hr⟩ : ∃ r, sha256 b = r := ⟨_, rfl⟩
  rw [hr] at hvs ⊢
  have hrl : r.length = 32 := by rw [← hr]; exact length_sha256 _
  have Hrl := Lib.hid hrl
  have Hvs := Lib.hid hvs
  have Hvl := Lib.hid hvl
  have Htk := Lib.hid htk
  have Hnew := Lib.hid hnew
  clear hv hx0 hr hrl hvs hvl htk hnew hlen
  go_enter Try.func16, Try.ntmps16
  go_wp2_with (first
    | (go_at_call 48; refine (Hnew.out _).mono ?_; rintro e w1 ⟨rfl, hb1⟩; have k1 := (Blk.new w _ _).below hb1 (by simp); have hB1 := ((Below.refl _ _).alloc (Nat.le_refl _) _).trans (hb1.mono (by simp)))
    | (go_at_call 61; refine (Htk.out _ (h.step hB1)).mono ?_; rintro e w2 ⟨A2, n2, c2, rfl, hs2, hb2⟩; have k2 := k1.below hb2 k1.lt; have hB2 := hB1.trans (hb2.mono hB1.size))
    | (go_at_call 62; refine (rend_any v A2 n2 c2 _ hs2 hvok (by rw [Hvl.out]; omega)).mono ?_; rintro e w3 ⟨rfl, hb3⟩; have k3 := k2.below hb3 k2.lt; have hB3 := hB2.trans (hb3.mono hB2.size); rw [Hvs.out])
    | ((with_reducible show wpList _ _ _ (⟨none, .store _ _ _, _, _, _, _⟩ :: _) _ _); refine wpList_store_blk rfl 26 (.tmp 2) (.tmp 6) rfl 32 size26 w.heap.size (r.map B).toArray rfl rfl (by simp [Hrl.out]) (oneCell_B _) 26 _ k3 (by rfl) ?_; simp only [Act.put]))
  refine bodyPost_ret (results_cell_row rfl _ _ w.heap.size 26 (r.map B).toArray (0, 0) _ rfl (k3.setRow_ _) Try.underlying26 rfl (by rw [show (r.map B).toArray.size = 32 by simp [Hrl.out]]; exact info26)) rfl ⟨rfl, ?_⟩
  exact below_setRow hB3 (Nat.le_refl _) _

/-- lent bytes: read, and the byte behind them -/
structure LentB (w : World) (X : Nat → Prop) (g n c : Nat) (l : List UInt8) : Prop where
  sl : Sl w X (some ⟨g, 0, none⟩) n c l
  lt : n < c
  mark : w.cell? ⟨g, n, none⟩ = some (.int .u8 165)
  x : X g
  in_ : g < w.heap.size
theorem LentB.step {w w' : World} {X : Nat → Prop} {g n c : Nat} {l : List UInt8} (h : LentB w X g n c l) (hb : Below w.heap.size w w') : LentB w' X g n c l :=
  ⟨h.sl.step hb, h.lt, by rw [hb.cell (p := ⟨g, n, none⟩) h.in_]; exact h.mark, h.x, Nat.lt_of_lt_of_le h.in_ hb.size⟩
theorem LentB.grown {w w' : World} {X : Nat → Prop} {g n c : Nat} {l : List UInt8} {row : Option Nat} (h : LentB w X g n c l) (hg : w.grownBy w' row) (hX : ∀ b, b < w.heap.size → X b → some b ≠ row) : LentB w' X g n c l :=
  ⟨h.sl.grown hg hX, h.lt, by rw [World.cell?_of_block (w := w) (hg.block g h.in_ (hX g h.in_ h.x))]; exact h.mark, h.x, Nat.lt_of_lt_of_le h.in_ hg.size⟩
theorem LentB.of_own {w : World} {X : Nat → Prop} {g c : Nat} {l : List UInt8} {cur : Array Value} (h : Own w g c (l ++ [0xa5]) cur) (hX : X g) : LentB w X g l.length c l := by
  have hr := h.room
  rw [List.length_append] at hr
  simp only [List.length_singleton] at hr
  have hget : ∀ j u, ((l ++ [0xa5]).map B)[j]? = some u → w.cell? ⟨g, j, none⟩ = some u := fun j u hu => by
    rw [h.blk.cell, ← Array.getElem?_toList]
    rw [← h.pre, List.getElem?_take] at hu
    split at hu
    · exact hu
    · cases hu
  refine ⟨⟨fun _ => ⟨g, 0, rfl, h.blk.lt, hX, fun j u hu => ?_⟩, rfl, by omega, by simp, h.max⟩, by omega, ?_, hX, h.blk.lt⟩
  · rw [Nat.zero_add]
    refine hget j u ?_
    rw [List.map_append, List.getElem?_append_left (List.getElem?_eq_some_iff.1 hu).1]
    exact hu
  · refine hget _ _ ?_
    rw [List.map_append, List.getElem?_append_right (by simp)]
    simp
end Go.Proofs.Ytdkgndjomkbbjaa
/- notarylaw03.kept. -/
namespace Go.Proofs.Ytdkgndjomkbbjaa
open Go.RowKit

set_option maxHeartbeats 400000 in
theorem kept_any (g n c : Nat) (l : List UInt8) (A : Option Addr) (c2 : Nat) (w : World) (h : LentB w (fun _ => True) g n c l) (hb : Sl w (fun _ => True) A n c2 l) (hmax : n ≤ 1099511627776) :
    Calls Try.prog 17 #[.slice (some ⟨g, 0, none⟩) n c, .slice A n c2] w fun e w' => e = .returned (.bool true) ∧ w = w' := by
  have hs1 := run_str h.sl
  have hs2 := run_str hb
  have heq := run_eql_str l l w
  rw [BEq.rfl] at heq
  have hc := h.mark
  have hlt := h.lt
  have hcm := h.sl.max
  unfold maxLen at hcm
  have sl1 := fun W => run_slice_high (P := Try.prog) sliceT23 size23 (some ⟨g, 0, none⟩) n c (n + 1) (by omega) W
  have ea : ((n + 1 : Nat) : Int) = (n : Int) + 1 := by omega
  rw [ea] at sl1
  clear ea
  go_enter Try.func17, Try.ntmps17
  go_wp2_with fail
  go_ret
  exact ⟨rfl, rfl⟩
end Go.Proofs.Ytdkgndjomkbbjaa
/- A sum under way out of its bytes, in plain Lean. -/
namespace Go.Proofs.Ytdkgndjomkbbjaa

def num10 (l : List UInt8) : Nat := (wordAt l 8).toNat * 4294967296 + (wordAt l 9).toNat
def Und.ofBytes (l : List UInt8) : Option Und :=
  if l.length < 40 then none
  else if 1152921504606846976 < num10 l ∨ l.length ≠ 40 + num10 l % 64 then none
  else some ⟨S8.of (firstW l 8), num10 l, l.drop 40⟩

theorem S8_of_first (l : List UInt8) : S8.of (firstW l 8) = ⟨wordAt l 0, wordAt l 1, wordAt l 2, wordAt l 3, wordAt l 4, wordAt l 5, wordAt l 6, wordAt l 7⟩ := rfl
theorem be4_word4 (x : UInt32) : be4 (x >>> 24).toUInt8 (x >>> 16).toUInt8 (x >>> 8).toUInt8 x.toUInt8 = x := by
  apply UInt32.toNat.inj
  have := u32_lt x
  rw [be4_toNat]
  simp [UInt32.toNat_shiftRight, Nat.shiftRight_eq_div_pow]
  omega
theorem wordAt_zero (x : UInt32) (l : List UInt8) : wordAt (word4 x ++ l) 0 = x := be4_word4 x
theorem wordAt_succ (x : UInt32) (l : List UInt8) (t : Nat) : wordAt (word4 x ++ l) (t + 1) = wordAt l t := by
  have h : ∀ j, (word4 x ++ l).getD (j + 4) 0 = l.getD j 0 := fun j => by
    rw [List.getD_eq_getElem?_getD, List.getElem?_append_right (by rw [length_word4]; omega), length_word4, Nat.add_sub_cancel, ← List.getD_eq_getElem?_getD]
  unfold wordAt
  rw [show 4 * (t + 1) = 4 * t + 4 by omega, show 4 * t + 4 + 1 = 4 * t + 1 + 4 by omega, show 4 * t + 4 + 2 = 4 * t + 2 + 4 by omega, show 4 * t + 4 + 3 = 4 * t + 3 + 4 by omega, h, h, h, h]
theorem num8_split (n : Nat) (h : n < 18446744073709551616) : num8 n = word4 (UInt32.ofNat (n / 4294967296)) ++ word4 (UInt32.ofNat n) := by
  simp only [num8, word4, List.range, List.range.loop, List.map_cons, List.map_nil, List.cons_append, List.nil_append, List.cons.injEq, and_true]
  refine ⟨?_, ?_, ?_, ?_, ?_, ?_, ?_, ?_⟩ <;> apply UInt8.toNat.inj <;> simp [UInt32.toNat_shiftRight, Nat.shiftRight_eq_div_pow] <;> omega
theorem ofBytes_bytes (u : Und) (hok : u.ok) (hl : u.len ≤ 1152921504606846976) : Und.ofBytes u.bytes = some u := by
  obtain ⟨⟨a, b, c, d, e, f, g, h⟩, n, r⟩ := u
  have hok' : r.length = n % 64 := hok
  have hl' : n ≤ 1152921504606846976 := hl
  obtain ⟨x, hx⟩ : ∃ x, UInt32.ofNat (n / 4294967296) = x := ⟨_, rfl⟩
  obtain ⟨y, hy⟩ : ∃ y, UInt32.ofNat n = y := ⟨_, rfl⟩
  have hbs : (Und.mk ⟨a, b, c, d, e, f, g, h⟩ n r).bytes = (word4 a ++ word4 b ++ word4 c ++ word4 d ++ word4 e ++ word4 f ++ word4 g ++ word4 h) ++ (word4 x ++ word4 y) ++ r := by
    unfold Und.bytes
    rw [num8_split n (by omega), hx, hy]
    rfl
  have hlen : (Und.mk ⟨a, b, c, d, e, f, g, h⟩ n r).bytes.length = 40 + r.length := by rw [hbs]; simp [length_word4]; omega
  have hn : num10 (Und.mk ⟨a, b, c, d, e, f, g, h⟩ n r).bytes = n := by
    rw [hbs]
    unfold num10
    simp only [List.append_assoc, wordAt_succ, wordAt_zero]
    rw [← hx, ← hy, UInt32.toNat_ofNat', UInt32.toNat_ofNat']
    omega
  have hst : S8.of (firstW (Und.mk ⟨a, b, c, d, e, f, g, h⟩ n r).bytes 8) = ⟨a, b, c, d, e, f, g, h⟩ := by
    rw [hbs, S8_of_first]
    simp only [List.append_assoc, wordAt_succ, wordAt_zero]
  have hpl : ((word4 a ++ word4 b ++ word4 c ++ word4 d ++ word4 e ++ word4 f ++ word4 g ++ word4 h) ++ (word4 x ++ word4 y)).length = 40 := by simp only [List.length_append, length_word4]
  have hdr : (Und.mk ⟨a, b, c, d, e, f, g, h⟩ n r).bytes.drop 40 = r := by
    rw [hbs]
    generalize ((word4 a ++ word4 b ++ word4 c ++ word4 d ++ word4 e ++ word4 f ++ word4 g ++ word4 h) ++ (word4 x ++ word4 y)) = p at hpl
    rw [← hpl, List.drop_left]
  unfold Und.ofBytes
  rw [if_neg (by rw [hlen]; omega), if_neg (by rw [hn, hlen]; omega), hn, hst, hdr]
theorem ofBytes_ok {l : List UInt8} {u : Und} (h : Und.ofBytes l = some u) : u.ok ∧ u.len ≤ 1152921504606846976 := by
  unfold Und.ofBytes at h
  split at h
  · cases h
  · split at h
    · cases h
    · cases h
      refine ⟨?_, by show num10 l ≤ _; omega⟩
      unfold Und.ok
      simp only [List.length_drop]
      omega
end Go.Proofs.Ytdkgndjomkbbjaa
/- (*sha.Sha).Bytes. -/
namespace Go.Proofs.Ytdkgndjomkbbjaa
open Go.RowKit

/-- 'p[:k]' of an array behind a pointer -/
theorem run_slice_arr_h {P : Program} {t : TypeId} {s N : Nat} (ht : P.underlying t = some (.array (P.arrayLen t) (P.elem t))) (hN : P.arrayLen t = N) (hs : ∀ W : World, (sizeOf (P.elem t)).run P W = .ok s W) (g o k : Nat) (hk : k ≤ N) (hN0 : 0 < N) (W : World) :
    (Instr.sliceAt t (.pointer (some ⟨g, o, none⟩)) none (some (.int .i64 (k : Int))) none).run P W = .ok (.slice (some ⟨g, o, none⟩) k N) W := by
  rw [run_sliceAt_array_h W t _ ht .i64 (k : Int) (by omega) (by rw [hN]; omega), hs, hN]
  simp only [slicedAt, Result.andThen, Int.toNat_natCast]
  rw [if_neg (by omega), addr_add]
  simp

theorem run_make_u8 (w : World) (n c : Nat) (h : n ≤ c) (hc : c ≤ 140737488355328) :
    (Instr.makeSlice 23 (.int .i64 (n : Int)) (.int .i64 (c : Int))).run Try.prog w = .ok (.slice (some ⟨w.heap.size, 0, none⟩) n c) (w.alloc (.cells ((List.replicate c (0 : UInt8)).map B).toArray 5)) := by
  obtain ⟨i, hi⟩ : ∃ i, Try.prog.info? 5 = some i := Option.isSome_iff_exists.1 (by kernel_rfl)
  have hz : i.zero = some (.int .u8 0) := by
    have : (Try.prog.info? 5).bind (·.zero) = some (.int .u8 0) := by kernel_rfl
    rw [hi] at this; exact this
  have hs : i.size = 1 := by
    have : (Try.prog.info? 5).map (·.size) = some 1 := by kernel_rfl
    rw [hi] at this; exact Option.some.inj this
  have hby : i.bytes = 1 := by
    have : (Try.prog.info? 5).map (·.bytes) = some 1 := by kernel_rfl
    rw [hi] at this; exact Option.some.inj this
  have := run_make (P := Try.prog) w 23 5 i _ Try.underlying23 hi hz .i64 .i64 n c (by omega) (by omega) (by rw [hby]; omega) (by omega)
  rw [this, hs, Nat.mul_one, Int.toNat_natCast, Int.toNat_natCast]
  have hm : madeCells (Value.int .u8 0).cells c = ((List.replicate c (0 : UInt8)).map B).toArray := by
    apply Array.ext'
    rw [show (Value.int .u8 0).cells = #[Value.int .u8 0] from rfl, toList_madeCells_one]
    simp [B]
  rw [hm]

/-- between two statements: the sum, the row -/
structure ByC (w : World) (g : Nat) (u : Und) (bk : List UInt8) (L : List UInt8) (W : World) : Prop where
  sh : ShB W g u bk
  row : Blk W w.heap.size 5 (L.map B).toArray
  bel : Below w.heap.size w W
theorem ByC.step {w W W' : World} {g : Nat} {u : Und} {bk L : List UInt8} (h : ByC w g u bk L W) (hb : Below W.heap.size W W') : ByC w g u bk L W' :=
  ⟨h.sh.move (h.sh.blk.below hb h.sh.blk.lt), h.row.below hb h.row.lt, h.bel.trans (hb.mono h.bel.size)⟩
theorem ByC.drew {w W : World} {g : Nat} {u : Und} {bk L : List UInt8} (h : ByC w g u bk L W) : ByC w g u bk L W.drew := ⟨h.sh.move h.sh.blk.drew, h.row.drew, h.bel.drew⟩
theorem ByC.put {w W W' : World} {g : Nat} {u : Und} {bk L L' : List UInt8} (h : ByC w g u bk L W) (hl : g < w.heap.size) (hb : Blk W' w.heap.size 5 (L'.map B).toArray) (hg : W.grownBy W' (some w.heap.size)) : ByC w g u bk L' W' :=
  ⟨h.sh.move (h.sh.blk.grown hg (by simp; omega)), hb, h.bel.grown hg h.bel.size (by simp)⟩

set_option maxHeartbeats 1000000 in
set_option maxRecDepth 100000 in
theorem bytes_any (g : Nat) (u : Und) (w : World) (h : Sh w g u) :
    Calls Try.prog 25 #[.pointer (some ⟨g, 0, none⟩)] w fun e w' => ∃ v, e = .returned v ∧ Fresh w w' v u.bytes := by
  obtain ⟨bk, hb⟩ := h
  have hgl : g < w.heap.size := hb.blk.lt
  obtain ⟨zs, hzs⟩ : ∃ zs, ((List.replicate 104 (0 : UInt8)).map B).toArray = zs := ⟨_, rfl⟩
  obtain ⟨sl, hsl⟩ : ∃ sl, u.st.list = sl := ⟨_, rfl⟩
  have hsl8 : sl.length = 8 := by rw [← hsl]; rfl
  have hmk : (Instr.makeSlice 23 (.int .i64 40) (.int .i64 104)).run Try.prog w = .ok (.slice (some ⟨w.heap.size, 0, none⟩) 40 104) (w.alloc (.cells zs 5)) := by rw [← hzs]; exact run_make_u8 w 40 104 (by omega) (by omega)
  have Hzs := Lib.hid hzs
  have Hsl := Lib.hid hsl
  have Hsl8 := Lib.hid hsl8
  clear hzs hsl hsl8
  go_enter Try.func25, Try.ntmps25
  go_upto_region 4 with (go_at_call 70; refine (none_any hb).mono ?_; rintro e w' ⟨rfl, rfl⟩)
  refine wp_world (ByC w g u bk (List.replicate 104 0)) ⟨hb.move (hb.blk.alloc _), by rw [Hzs.out]; exact Blk.new _ _ _, (Below.refl _ _).alloc (Nat.le_refl _) _⟩ ?_
  clear hmk
  intro w1 hC1
  have hld : (Instr.loadAt 33 (.pointer (some ⟨g, 0, none⟩))).run Try.prog w1 = .ok (.agg (sl.map U).toArray) w1 := by
    refine run_load_agg (agg33 _) (size33 _) _ 0 (sl.map U) (by rw [← Hsl.out]; rfl) fun j v hv => ?_
    rw [Nat.zero_add]
    exact hC1.sh.cell_st j v (by rw [Hsl.out]; exact hv)
  have Hld := Lib.hid hld
  clear hld
  go_wp2_with ((with_reducible show wpList _ _ _ (⟨some 12, .load _ _, _, _, _, _⟩ :: _) _ _); refine wpList_load rfl 33 (.tmp 11) rfl g 0 rfl (sl.map U).toArray Hld.out ?_; simp only [Act.put])
  go_loopw [13] (fun i wr => ∃ (q : Nat), q ≤ 8 ∧ i = .int .i64 q ∧ ByC w g u bk ((sl.take q).flatMap word4 ++ List.replicate (104 - 4 * q) 0) wr) (fun i _ => 8 - (intOf i).toNat)
  case atStart => exact ⟨0, by omega, rfl, hC1⟩
  case round =>
    clear hC1 Hld
    obtain ⟨q, hq, rfl, hC⟩ := hrel
    by_cases hlq : q < 8
    · obtain ⟨x, hx⟩ : ∃ x, sl.getD q 0 = x := ⟨_, rfl⟩
      have hix := fun W => run_index_agg (P := Try.prog) Try.underlying33 size32 agg32 (sl.map U).toArray q (U x) hlq ((cellU sl q (by rw [Hsl8.out]; exact hlq)).trans (by rw [hx])) W
      have hsc : ∀ W, (Instr.sliceAt 23 (.slice (some ⟨w.heap.size, 0, none⟩) 40 104) (some (.int .i64 (4 * (q : Int)))) none none).run Try.prog W = .ok (.slice (some ⟨w.heap.size, 4 * q, none⟩) (40 - 4 * q) (104 - 4 * q)) W := fun W => by
        have := run_slice_low (P := Try.prog) sliceT23 size23 (some ⟨w.heap.size, 0, none⟩) 40 104 (4 * q) (by omega) W
        rw [show ((4 * q : Nat) : Int) = 4 * (q : Int) by omega, if_neg (by omega), Option.map_some, addr_add, Nat.mul_one, Nat.zero_add] at this
        exact this
      have hpl : ((sl.take q).flatMap word4).length = 4 * q := by rw [length_flat, List.length_take, Hsl8.out]; omega
      have hH : ((sl.take q).flatMap word4 ++ List.replicate (104 - 4 * q) (0 : UInt8)).length = 104 := by rw [List.length_append, hpl]; simp; omega
      have hfin := setFour_fill ((sl.take q).flatMap word4) (4 * q) (104 - 4 * q) x hpl (by omega)
      rw [← hx, ← flat_take sl q (by rw [Hsl8.out]; exact hlq), hx, show 104 - 4 * q - 4 = 104 - 4 * (q + 1) by omega] at hfin
      have hput := put_any w.heap.size (4 * q) (40 - 4 * q) (104 - 4 * q) _ _ x wr hC.row (by omega) (by omega)
      rw [hfin] at hput
      clear hfin hpl hH hx
      go_wp2_with (go_at_call 71; refine hput.mono ?_; rintro e w2 ⟨rfl, hb2, hg2⟩)
      go_roundw
      case rel => exact ⟨q + 1, by omega, by go_num, hC.put hgl hb2 hg2⟩
      case measure => simp [intOf]; omega
    · obtain rfl : q = 8 := by omega
      have hfl : (sl.take 8).flatMap word4 = u.st.bytes := by rw [List.take_of_length_le (by rw [Hsl8.out]; omega), ← Hsl.out]; rfl
      rw [hfl] at hC
      obtain ⟨L0, hL0⟩ : ∃ L0, u.st.bytes ++ List.replicate (104 - 4 * 8) (0 : UInt8) = L0 := ⟨_, rfl⟩
      rw [hL0] at hC
      have HL0 := Lib.hid hL0
      clear hL0
      have hlt := hC.sh.lt
      have cl : ∀ s : InC (ByC w g u bk L0), s.W.cell? ⟨g, 72, none⟩ = some (.int .i64 (u.len : Int)) := fun s => s.ok.sh.cell_len
      have hsk : ∀ k : Nat, k ≤ 40 → ∀ W, (Instr.sliceAt 23 (.slice (some ⟨w.heap.size, 0, none⟩) 40 104) (some (.int .i64 (k : Int))) none none).run Try.prog W = .ok (.slice (some ⟨w.heap.size, k, none⟩) (40 - k) (104 - k)) W := fun k hk W => by
        have := run_slice_low (P := Try.prog) sliceT23 size23 (some ⟨w.heap.size, 0, none⟩) 40 104 k hk W
        rw [if_neg (by omega), Option.map_some, addr_add, Nat.mul_one, Nat.zero_add] at this
        exact this
      have sl32 : ∀ W, (Instr.sliceAt 23 (.slice (some ⟨w.heap.size, 0, none⟩) 40 104) (some (.int .i64 32)) none none).run Try.prog W = .ok (.slice (some ⟨w.heap.size, 32, none⟩) 8 72) W := fun W => hsk 32 (by omega) W
      have sl36 : ∀ W, (Instr.sliceAt 23 (.slice (some ⟨w.heap.size, 0, none⟩) 40 104) (some (.int .i64 36)) none none).run Try.prog W = .ok (.slice (some ⟨w.heap.size, 36, none⟩) 4 68) W := fun W => hsk 36 (by omega) W
      have hl0 : (0 : Int) ≤ (u.len : Int) := by omega
      have hl1 : (u.len : Int) < 9223372036854775808 := by omega
      have Hfl := Lib.hid hfl
      clear hsk
      clear hfl
      go_wp2_with fail
      refine wp_region_class_tail (ByC w g u bk L0) 9 (by kernel_rfl) (by kernel_rfl) hC.drew fun _ => ?_
      simp only [List.take_succ_cons, List.take_zero, List.drop_succ_cons, List.drop_zero]
      repeat (go_big_quiet_step (fail))
      refine wpQuiet_nil ?_
      intro W3 hC3
      obtain ⟨x, hx⟩ : ∃ x, UInt32.ofNat (u.len / 4294967296) = x := ⟨_, rfl⟩
      obtain ⟨y, hy⟩ : ∃ y, UInt32.ofNat u.len = y := ⟨_, rfl⟩
      have ex : U x = .int .u32 ((u.len : Int) / 4294967296) := by rw [← hx]; simp only [U, UInt32.toNat_ofNat']; congr 1; omega
      have ey : U y = .int .u32 ((u.len : Int) % 4294967296) := by rw [← hy]; simp only [U, UInt32.toNat_ofNat']; congr 1
      have hl32 : u.st.bytes.length = 32 := S8.length_bytes _
      have hf1 := setFour_fill u.st.bytes 32 72 x hl32 (by omega)
      have hf2 := setFour_fill (u.st.bytes ++ word4 x) 36 68 y (by rw [List.length_append, hl32, length_word4]) (by omega)
      have hp1 := put_any w.heap.size 32 8 72 _ _ x W3 hC3.row (by rw [← HL0.out, List.length_append, hl32]; simp) (by omega)
      rw [← HL0.out, show 104 - 4 * 8 = 72 from rfl, hf1, ex] at hp1
      obtain ⟨L1, hL1⟩ : ∃ L1, u.st.bytes ++ word4 x ++ List.replicate (72 - 4) (0 : UInt8) = L1 := ⟨_, rfl⟩
      rw [hL1] at hp1
      have hp2 : ∀ W, Blk W w.heap.size 5 (L1.map B).toArray → Calls Try.prog 71 #[.slice (some ⟨w.heap.size, 36, none⟩) 4 68, .int .u32 ((u.len : Int) % 4294967296)] W fun e w' => e = .returned (.tuple #[]) ∧ Blk w' w.heap.size 5 ((u.st.bytes ++ word4 x ++ word4 y ++ List.replicate 64 0).map B).toArray ∧ W.grownBy w' (some w.heap.size) := fun W hW => by
        have := put_any w.heap.size 36 4 68 _ _ y W hW (by rw [← hL1, List.length_append, List.length_append, hl32, length_word4]; simp) (by omega)
        rw [ey, ← hL1, show 72 - 4 = 68 from rfl, hf2] at this
        exact this
      obtain ⟨L2, hL2⟩ : ∃ L2, u.st.bytes ++ word4 x ++ word4 y ++ List.replicate 64 (0 : UInt8) = L2 := ⟨_, rfl⟩
      rw [hL2] at hp2
      have hL2t : L2.take 40 = u.st.bytes ++ num8 u.len := by
        rw [num8_split u.len (by omega), hx, hy, ← hL2, List.append_assoc u.st.bytes, List.take_left' (by simp [hl32, length_word4])]
      have hL2l : L2.length = 104 := by rw [← hL2]; simp [hl32, length_word4]
      have Hp1 := Lib.hid hp1
      have Hp2 := Lib.hid hp2
      have HL2t := Lib.hid hL2t
      have HL2l := Lib.hid hL2l
      have cl1 : ∀ s : InC (ByC w g u bk L1), s.W.cell? ⟨g, 72, none⟩ = some (.int .i64 (u.len : Int)) := fun s => s.ok.sh.cell_len
      have cl2 : ∀ s : InC (ByC w g u bk L2), s.W.cell? ⟨g, 72, none⟩ = some (.int .i64 (u.len : Int)) := fun s => s.ok.sh.cell_len
      clear hx hy ex ey hf1 hf2 hp1 hL1 hp2 hL2 hL2t hL2l hl32
      go_wp2_with (go_at_call 71; refine Hp1.out.mono ?_; rintro e w4 ⟨rfl, hb4, hg4⟩; have hC4 := hC3.put hgl hb4 hg4)
      refine wp_region_class_tail (ByC w g u bk L1) 7 (by kernel_rfl) (by kernel_rfl) hC4.drew fun _ => ?_
      simp only [List.take_succ_cons, List.take_zero, List.drop_succ_cons, List.drop_zero]
      repeat (go_big_quiet_step (fail))
      refine wpQuiet_nil ?_
      intro W5 hC5
      go_wp2_with (go_at_call 71; refine (Hp2.out _ hC5.row).mono ?_; rintro e w6 ⟨rfl, hb6, hg6⟩; have hC6 := hC5.put hgl hb6 hg6)
      have hr : u.rest.length = u.len % 64 := hb.ok
      have slr : ∀ W, (Instr.sliceAt 34 (.pointer (some ⟨g, 8, none⟩)) none (some (.int .i64 ((u.len : Int) % 64))) none).run Try.prog W = .ok (.slice (some ⟨g, 8, none⟩) u.rest.length 64) W := fun W => by
        have := run_slice_arr_h (P := Try.prog) arrT34 arrN34 size34e g 8 u.rest.length (by omega) (by decide) W
        rw [show ((u.rest.length : Nat) : Int) = (u.len : Int) % 64 by omega] at this
        exact this
      have Hr := Lib.hid hr
      clear hr
      refine wp_region_class_tail (ByC w g u bk L2) 10 (by kernel_rfl) (by kernel_rfl) hC6.drew fun _ => ?_
      simp only [List.take_succ_cons, List.take_zero, List.drop_succ_cons, List.drop_zero]
      repeat (go_big_quiet_step (fail))
      refine wpQuiet_nil ?_
      intro W7 hC7
      have hown : W7.ownsRow w.heap.size 5 1 (.slice (some ⟨w.heap.size, 0, none⟩) 40 104) 40 ((u.st.bytes ++ num8 u.len).map B) := by
        rw [← HL2t.out]
        refine ⟨by rw [List.length_map, List.length_take, HL2l.out]; rfl, .inr ⟨w.heap.size, 104, _, rfl, Nat.le_refl _, hC7.row, by omega, by decide, by simp [HL2l.out], ?_⟩⟩
        rw [List.map_take]
      have hsl : SlV W7 (fun _ => True) (some ⟨g, 8, none⟩) u.rest.length 64 1 (u.rest.map B) := by
        refine ⟨fun _ => ⟨g, 8, rfl, hC7.sh.blk.lt, trivial, fun j v hv => ?_⟩, by simp, by have := Hr.out; omega, by simp, by decide⟩
        refine hC7.sh.cell_bk j v ?_
        have hp := hC7.sh.pre
        rw [← hp, List.map_take, List.getElem?_take] at hv
        split at hv
        · exact hv
        · cases hv
      obtain ⟨v8, w8, hr8, ho8, hg8, -⟩ := append_slv (ty := 23) Try.underlying23 info5 rfl (by decide) hown hsl (oneB _) (by unfold maxLen; have := Hr.out; omega) (by have := Hr.out; omega) hC7.bel.size
      have Hr8 := Lib.hid hr8
      clear hr8 hsl
      go_wp2_with ((with_reducible show wpList _ _ _ (⟨some 52, .call _, _, _, _, _⟩ :: _) _ _); refine wpList_run rfl v8 w8 (run_append_op (.tmp 42) (.tmp 51) 23 rfl _ _ rfl rfl Hr8.out) ?_; simp only [Act.put])
      go_ret
      refine ⟨v8, rfl, ?_, hC7.bel.grown hg8 hC7.bel.size (fun k hk => by simp [Value.ownBlock] at hk; omega)⟩
      have hlen : (u.bytes).length = 40 + u.rest.length := by unfold Und.bytes; simp [S8.length_bytes, length_num8]; omega
      rw [hlen]
      unfold Und.bytes
      rw [List.map_append]
      exact ho8
end Go.Proofs.Ytdkgndjomkbbjaa
/- A row of bytes of one's own, whatever is in it. (As in AudSp, without chapter 13: not both in one seat.) -/
namespace Go.Proofs.Ytdkgndjomkbbjaa
open Go Go.RowKit

/-- a row of bytes of one's own, whatever is in it -/
def OwnAny (w : World) (base : Nat) (v : Value) (n : Nat) : Prop := ∃ xs, w.ownsRow base 5 1 v n xs
theorem OwnAny.setCell {w : World} {base n : Nat} {v : Value} (h : OwnAny w base v n) (g i : Nat) (u : Value) : OwnAny (w.setCell ⟨g, i, none⟩ u) base v n := by
  obtain ⟨xs, hl, h⟩ := h
  rcases h with h | ⟨g', cap, cur, rfl, hb, hg, hn, hc, hs, ht⟩
  · exact ⟨xs, hl, .inl h⟩
  · by_cases e : g' = g
    · subst e
      refine ⟨(cur.setIfInBounds i u).toList.take (n * 1), by simp [hs]; omega, .inr ⟨g', cap, _, rfl, hb, Blk.set_ hg i u, hn, hc, by simp [hs], rfl⟩⟩
    · exact ⟨xs, hl, .inr ⟨g', cap, cur, rfl, hb, Blk.apart hg e u, hn, hc, hs, ht⟩⟩
theorem OwnAny.at_ {w : World} {base n : Nat} {v : Value} (h : OwnAny w base v n) (hn : 0 < n) : ∃ g c, v = .slice (some ⟨g, 0, none⟩) n c ∧ base ≤ g ∧ g < w.heap.size ∧ n ≤ c ∧ c ≤ maxLen ∧ ∀ i, i < n → (∃ u, w.cell? ⟨g, i, none⟩ = some u) ∧ w.frozen? ⟨g, i, none⟩ = false := by
  obtain ⟨xs, hl, h⟩ := h
  rcases h with h | ⟨g', cap, cur, rfl, hb, hg, hn', hc, hs, ht⟩
  · omega
  · refine ⟨g', cap, rfl, hb, Blk.lt hg, hn', hc, fun i hi => ⟨⟨cur[i]'(by omega), ?_⟩, Blk.frozen hg i⟩⟩
    rw [Blk.cell hg, Array.getElem?_eq_getElem (by omega)]
theorem OwnAny.alloc {w : World} {base n : Nat} {v : Value} (h : OwnAny w base v n) (o : Obj) : OwnAny (w.alloc o) base v n := let ⟨xs, h⟩ := h; ⟨xs, h.alloc o⟩
theorem OwnAny.shape {w : World} {base n : Nat} {v : Value} (h : OwnAny w base v n) : ∃ A c, v = .slice A n c ∧ n ≤ c ∧ c ≤ maxLen ∧ (∀ a, A = some a → a.block < w.heap.size) := by
  obtain ⟨xs, hl, h⟩ := h
  rcases h with ⟨rfl, rfl⟩ | ⟨g', cap, cur, rfl, hb, hg, hn', hc, hs, ht⟩
  · exact ⟨none, 0, rfl, Nat.le_refl _, Nat.zero_le _, fun a e => by cases e⟩
  · exact ⟨_, cap, rfl, hn', hc, fun a e => by cases e; exact Blk.lt hg⟩

theorem OwnAny.step {w W : World} {base n : Nat} {v : Value} (h : OwnAny w base v n) (hb : Below w.heap.size w W) : OwnAny W base v n := let ⟨xs, h⟩ := h; ⟨xs, owns_step h hb⟩
/-- one more byte is put behind it -/
theorem OwnAny.app {a w : World} {base n : Nat} {v v1 : Value} (h : OwnAny w base v n) (hg : a.grownBy w v1.ownBlock) (hv : v.ownBlock = v1.ownBlock ∨ ∃ k, v.ownBlock = some k ∧ a.heap.size ≤ k) (x : UInt8) (hn : n ≤ 1099511627776) (hbase : base ≤ w.heap.size) :
    ∃ v' w', (Builtin.append_ #[23, 23] 23 #[v, .slice (some ⟨w.heap.size, 0, none⟩) 1 1]).run Try.prog (w.alloc (.cells #[B x] 5)) = .ok v' w' ∧ OwnAny w' base v' (n + 1) ∧ a.grownBy w' v1.ownBlock ∧ (v'.ownBlock = v1.ownBlock ∨ ∃ k, v'.ownBlock = some k ∧ a.heap.size ≤ k) := by
  obtain ⟨xs, h⟩ := h
  have hba : Below w.heap.size w (w.alloc (.cells #[B x] 5)) := (Below.refl _ _).alloc (Nat.le_refl _) _
  obtain ⟨v', w', hr, ho, hg', hv'⟩ := append_slv (ty := 23) Try.underlying23 info5 rfl (by decide) (owns_step h hba) (SlV.lit (s := 1) (n := 1) w (fun _ => True) 5 [B x] rfl (by decide) trivial) (by simp [Value.oneCell']) (by unfold maxLen; omega) (by omega) (Nat.le_trans hbase hba.size)
  refine ⟨v', w', hr, ⟨_, ho⟩, (grown_below hg hba).andThen hg' fun j hj => ?_, ?_⟩
  · rcases hv with hv | ⟨k, hv, hk⟩
    · rw [hv] at hj; exact .inr hj
    · rw [hv] at hj; cases hj; exact .inl hk
  · rcases hv' with hv' | ⟨k, hv', hk⟩
    · rw [hv']; exact hv
    · exact .inr ⟨k, hv', Nat.le_trans hg.size (Nat.le_trans hba.size hk)⟩
end Go.Proofs.Ytdkgndjomkbbjaa
/- hash.Of, Empty, Leaf, Node. -/
namespace Go.Proofs.Ytdkgndjomkbbjaa
open Go.RowKit

def hLeaf (e : List UInt8) : List UInt8 := sha256 (0 :: e)
def hNode (l r : List UInt8) : List UInt8 := sha256 (1 :: (l ++ r))
def hEmpty : List UInt8 := sha256 []
theorem length_hLeaf (e : List UInt8) : (hLeaf e).length = 32 := length_sha256 _
theorem length_hNode (l r : List UInt8) : (hNode l r).length = 32 := length_sha256 _
theorem length_hEmpty : hEmpty.length = 32 := length_sha256 _

set_option maxHeartbeats 400000 in
set_option maxRecDepth 100000 in
theorem hof_any (ls : List (List UInt8)) (A : Option Addr) (n c : Nat) (w : World) (hn : n = ls.length) (h : BsS w (· < w.heap.size) A ls) (hmax : n ≤ 9223372036854775807) (hl : ls.flatten.length ≤ 1152921504606846976) :
    Calls Try.prog 31 #[.slice A n c] w fun e w' => e = .returned (.agg ((sha256 ls.flatten).map B).toArray) ∧ Below w.heap.size w w' := by
  obtain ⟨r, hr⟩ : ∃ r, sha256 ls.flatten = r := ⟨_, rfl⟩
  have hrl : r.length = 32 := by rw [← hr]; exact length_sha256 _
  obtain ⟨zs, hzs⟩ : ∃ zs, zeroHash = zs := ⟨_, rfl⟩
  have hb := (Below.refl w.heap.size w).alloc (Nat.le_refl _) (.cells zs 26)
  have hs := shasum_any ls A n c (w.alloc (.cells zs 26)) hn ((h.below hb (fun _ h _ => h)).weak fun _ hb _ => hb) hmax hl
  rw [hr] at hs ⊢
  have k0 := Blk.new w 26 zs
  have hzl : zs.size = 32 := by rw [← hzs]; rfl
  have Hs := Lib.hid hs
  have Hzs := Lib.hid hzs
  have Hrl := Lib.hid hrl
  have Hr := Lib.hid hr
  clear hs hzs hrl hr hn h
  go_enter Try.func31, Try.ntmps31
  go_wp2_with (first
    | ((with_reducible show wpList _ _ _ (⟨some 2, .alloc _, _, _, _, _⟩ :: _) _ _); refine wpList_run rfl (.pointer (some ⟨w.heap.size, 0, none⟩)) (w.alloc (.cells zs 26)) (by rw [← Hzs.out]; rfl) ?_; simp only [Act.put])
    | (go_at_call 15; refine Hs.out.mono ?_; rintro e w1 ⟨rfl, hb1⟩; have k1 := k0.below hb1 (by simp); have B1 := hb.trans (hb1.mono (by simp)))
    | ((with_reducible show wpList _ _ _ (⟨none, .store _ _ _, _, _, _, _⟩ :: _) _ _); refine wpList_store_blk rfl 26 (.tmp 2) (.tmp 4) rfl 32 size26 w.heap.size (r.map B).toArray rfl rfl (by simp [Hrl.out]) (oneCell_B _) 26 _ k1 hzl ?_; simp only [Act.put]))
  refine bodyPost_ret (results_cell_row rfl _ _ w.heap.size 26 (r.map B).toArray (0, 0) _ rfl (k1.setRow_ _) Try.underlying26 rfl (by rw [show (r.map B).toArray.size = 32 by simp [Hrl.out]]; exact info26)) rfl ⟨rfl, ?_⟩
  exact below_setRow B1 (Nat.le_refl _) _

set_option maxHeartbeats 400000 in
set_option maxRecDepth 100000 in
theorem hempty_any (w : World) :
    Calls Try.prog 33 #[] w fun e w' => e = .returned (.agg (hEmpty.map B).toArray) ∧ Below w.heap.size w w' := by
  obtain ⟨r, hr⟩ : ∃ r, hEmpty = r := ⟨_, rfl⟩
  have hrl : r.length = 32 := by rw [← hr]; exact length_hEmpty
  obtain ⟨zs, hzs⟩ : ∃ zs, zeroHash = zs := ⟨_, rfl⟩
  have hb := (Below.refl w.heap.size w).alloc (Nat.le_refl _) (.cells zs 26)
  have hs := hof_any [] none 0 0 (w.alloc (.cells zs 26)) rfl ⟨[], Bs.nil, rfl, fun i hi => absurd hi (by simp)⟩ (by omega) (by simp)
  rw [show sha256 [].flatten = r from hr] at hs
  rw [hr]
  have k0 := Blk.new w 26 zs
  have hzl : zs.size = 32 := by rw [← hzs]; rfl
  have Hs := Lib.hid hs
  have Hzs := Lib.hid hzs
  have Hrl := Lib.hid hrl
  clear hs hzs hrl hr
  go_enter Try.func33, Try.ntmps33
  go_wp2_with (first
    | ((with_reducible show wpList _ _ _ (⟨some 0, .alloc _, _, _, _, _⟩ :: _) _ _); refine wpList_run rfl (.pointer (some ⟨w.heap.size, 0, none⟩)) (w.alloc (.cells zs 26)) (by rw [← Hzs.out]; rfl) ?_; simp only [Act.put])
    | (go_at_call 31; refine Hs.out.mono ?_; rintro e w1 ⟨rfl, hb1⟩; have k1 := k0.below hb1 (by simp); have B1 := hb.trans (hb1.mono (by simp)))
    | ((with_reducible show wpList _ _ _ (⟨none, .store _ _ _, _, _, _, _⟩ :: _) _ _); refine wpList_store_blk rfl 26 (.tmp 0) (.tmp 1) rfl 32 size26 w.heap.size (r.map B).toArray rfl rfl (by simp [Hrl.out]) (oneCell_B _) 26 _ k1 hzl ?_; simp only [Act.put]))
  refine bodyPost_ret (results_cell_row rfl _ _ w.heap.size 26 (r.map B).toArray (0, 0) _ rfl (k1.setRow_ _) Try.underlying26 rfl (by rw [show (r.map B).toArray.size = 32 by simp [Hrl.out]]; exact info26)) rfl ⟨rfl, ?_⟩
  exact below_setRow B1 (Nat.le_refl _) _

/-- slices of bytes that have just been put side by side -/
theorem BsS.lit (w : World) (vs : List Value) (ls : List (List UInt8)) (hl : vs.length = ls.length) (h : ∀ i (h : i < ls.length), ∃ Ai ci, vs[i]? = some (.slice Ai (ls[i]).length ci) ∧ (ls[i]).length ≤ ci ∧ Bs w (fun _ => True) Ai ((ls[i]).map B)) :
    BsS (w.alloc (.cells vs.toArray 23)) (· < (w.alloc (.cells vs.toArray 23)).heap.size) (some ⟨w.heap.size, 0, none⟩) ls :=
  ⟨vs, (Bs.new w (fun _ => True) _ _ trivial).weak fun _ hb _ => hb, hl, fun i hi => let ⟨Ai, ci, h1, h2, h3⟩ := h i hi; ⟨Ai, ci, h1, h2, (h3.alloc _).weak fun _ hb _ => hb⟩⟩

set_option maxHeartbeats 400000 in
set_option maxRecDepth 100000 in
theorem hleaf_any (l : List UInt8) (A : Option Addr) (n c : Nat) (w : World) (h : Sl w (fun _ => True) A n c l) (hl : n < 1152921504606846976) :
    Calls Try.prog 34 #[.slice A n c] w fun e w' => e = .returned (.agg ((hLeaf l).map B).toArray) ∧ Below w.heap.size w w' := by
  obtain ⟨r, hr⟩ : ∃ r, hLeaf l = r := ⟨_, rfl⟩
  have hrl : r.length = 32 := by rw [← hr]; exact length_hLeaf l
  have hll := h.len
  have hroom := h.room
  obtain ⟨zs, hzs⟩ : ∃ zs, zeroHash = zs := ⟨_, rfl⟩
  obtain ⟨w1, hw1⟩ : ∃ w1, (w.alloc (.cells zs 26)).alloc (.cells #[.int .u8 0] 5) = w1 := ⟨_, rfl⟩
  have hb : Below w.heap.size w w1 := by rw [← hw1]; exact ((Below.refl _ _).alloc (Nat.le_refl _) _).alloc (by simp) _
  have h1 : Sl w1 (fun _ => True) A n c l := by rw [← hw1]; exact (h.alloc _).alloc _
  have h0 : Bs w1 (fun _ => True) (some ⟨w.heap.size + 1, 0, none⟩) ([(0 : UInt8)].map B) := by
    rw [← hw1]
    have := Bs.new (w.alloc (.cells zs 26)) (fun _ => True) 5 ([(0 : UInt8)].map B) trivial
    rw [show (w.alloc (.cells zs 26)).heap.size = w.heap.size + 1 by simp] at this
    exact this
  have k0 : Blk w1 w.heap.size 26 zs := by rw [← hw1]; exact (Blk.new _ _ _).alloc _
  have hsz : w1.heap.size = w.heap.size + 1 + 1 := by rw [← hw1]; simp
  have hs := hof_any [[0], l] (some ⟨w1.heap.size, 0, none⟩) 2 2 _ rfl (BsS.lit w1 [.slice (some ⟨w.heap.size + 1, 0, none⟩) 1 1, .slice A n c] [[0], l] rfl fun i hi => by
    match i, hi with
    | 0, _ => exact ⟨_, _, rfl, Nat.le_refl _, h0⟩
    | 1, _ => exact ⟨A, c, by simp [hll], by simp [hll]; omega, h1.bs⟩) (by decide) (by simp [hll]; omega)
  rw [show sha256 [[0], l].flatten = r by rw [← hr]; simp [hLeaf]] at hs
  rw [hr]
  have hzl : zs.size = 32 := by rw [← hzs]; rfl
  have Hs := Lib.hid hs
  have Hzs := Lib.hid hzs
  have Hrl := Lib.hid hrl
  have Hw1 := Lib.hid hw1
  have Hsz := Lib.hid hsz
  clear hs hzs hrl hr h0 h1 hll hw1 hsz h
  go_enter Try.func34, Try.ntmps34
  go_wp2_with (first
    | ((with_reducible show wpList _ _ _ (⟨some 2, .alloc _, _, _, _, _⟩ :: _) _ _); refine wpList_run rfl (.pointer (some ⟨w.heap.size, 0, none⟩)) (w.alloc (.cells zs 26)) (by rw [← Hzs.out]; rfl) ?_; simp only [Act.put])
    | (go_at_call 31; rw [Hw1.out, ← Hsz.out]; refine Hs.out.mono ?_; rintro e w2 ⟨rfl, hb2⟩; have k1 := (k0.alloc _).below hb2 (by have := Hsz.out; simp; omega); have B1 := (hb.alloc hb.size _).trans (hb2.mono (by have := Hsz.out; simp; omega)))
    | ((with_reducible show wpList _ _ _ (⟨none, .store _ _ _, _, _, _, _⟩ :: _) _ _); refine wpList_store_blk rfl 26 (.tmp 2) (.tmp 6) rfl 32 size26 w.heap.size (r.map B).toArray rfl rfl (by simp [Hrl.out]) (oneCell_B _) 26 _ k1 hzl ?_; simp only [Act.put]))
  refine bodyPost_ret (results_cell_row rfl _ _ w.heap.size 26 (r.map B).toArray (0, 0) _ rfl (k1.setRow_ _) Try.underlying26 rfl (by rw [show (r.map B).toArray.size = 32 by simp [Hrl.out]]; exact info26)) rfl ⟨rfl, ?_⟩
  exact below_setRow B1 (Nat.le_refl _) _

theorem slice_all26 (g : Nat) (W : World) : (Instr.sliceAt 26 (.pointer (some ⟨g, 0, none⟩)) none none none).run Try.prog W = .ok (.slice (some ⟨g, 0, none⟩) 32 32) W := by
  rw [run_sliceAt_array_all W _ _ arrT26, size26e, arrN26]
  simp [slicedAt, Result.andThen, Addr.add]

set_option maxHeartbeats 400000 in
set_option maxRecDepth 100000 in
theorem hnode_any (l r : List UInt8) (w : World) (hl : l.length = 32) (hr : r.length = 32) :
    Calls Try.prog 36 #[.agg (l.map B).toArray, .agg (r.map B).toArray] w fun e w' => e = .returned (.agg ((hNode l r).map B).toArray) ∧ Below w.heap.size w w' := by
  obtain ⟨x, hx⟩ : ∃ x, hNode l r = x := ⟨_, rfl⟩
  have hxl : x.length = 32 := by rw [← hx]; exact length_hNode l r
  obtain ⟨zs, hzs⟩ : ∃ zs, zeroHash = zs := ⟨_, rfl⟩
  obtain ⟨lv, hlv⟩ : ∃ lv, (l.map B).toArray = lv := ⟨_, rfl⟩
  obtain ⟨rv, hrv⟩ : ∃ rv, (r.map B).toArray = rv := ⟨_, rfl⟩
  have hzl : zs.size = 32 := by rw [← hzs]; rfl
  rw [hx, hlv, hrv]
  have Hx := Lib.hid hx
  have Hxl := Lib.hid hxl
  have Hzs := Lib.hid hzs
  have Hlv := Lib.hid hlv
  have Hrv := Lib.hid hrv
  clear hx hxl hzs hlv hrv
  have sla := slice_all26
  go_enter Try.func36, Try.ntmps36
  go_upto_region 1 with fail
  refine wp_world (fun W => Blk W w.heap.size 26 lv ∧ Blk W (w.heap.size + 1) 26 rv ∧ Blk W (w.heap.size + 1 + 1) 26 zs ∧ Below w.heap.size w W ∧ w.heap.size + 1 + 1 < W.heap.size) ⟨?_, ?_, ?_, ?_, ?_⟩ ?_
  · exact ((Blk.new _ _ _).alloc _).alloc _
  · exact (Blk.new' _ _ _ _ (by simp)).alloc _
  · rw [← Hzs.out]; exact Blk.new' _ _ _ _ (by simp)
  · exact (((Below.refl _ _).alloc (Nat.le_refl _) _).alloc (by simp) _).alloc (by simp; omega) _
  · simp
  rintro W1 ⟨kl, kr, kz, B1, hW1⟩
  refine wp_region_mix (fun _ => True) [(1, true), (2, true), (0, false), (3, false), (4, false), (5, false)] (by kernel_rfl) (by kernel_rfl) trivial fun _ => ?_
  simp only [List.map_cons, List.map_nil, Array.getD_eq_getD_getElem?, List.getElem?_toArray, List.getElem?_cons_succ, List.getElem?_cons_zero, Option.getD_some]
  replace kl := kl.drew
  replace kr := kr.drew
  replace kz := kz.drew
  replace B1 := B1.drew
  replace hW1 : w.heap.size + 1 + 1 < W1.drew.heap.size := hW1
  generalize W1.drew = W2 at kl kr kz B1 hW1 ⊢
  iterate 2 (refine wpMix_s (fun K hK => ?_); go_simp; refine hK _ ?_; clear hK K)
  refine wpMix_c (fun K hK => ?_) trivial
  go_simp
  refine hK _ _ ?_
  clear hK K
  refine mix_world (fun W => Below W2.heap.size W2 W ∧ Bs W (fun _ => True) (some ⟨W2.heap.size, 0, none⟩) ([(1 : UInt8)].map B)) ⟨(Below.refl _ _).alloc (Nat.le_refl _) _, Bs.new W2 (fun _ => True) 5 ([(1 : UInt8)].map B) trivial⟩ (fun _ _ => trivial) ?_
  rintro W3 ⟨b3, h3⟩
  refine wpMix_c (fun K hK => ?_) trivial
  go_simp
  refine hK _ _ ?_
  clear hK K
  have kl3 := kl.below b3 kl.lt
  have kr3 := kr.below b3 kr.lt
  refine mix_world (fun W => Below W2.heap.size W2 W ∧ BsS W (· < W.heap.size) (some ⟨W3.heap.size, 0, none⟩) [[1], l, r]) ⟨b3.alloc b3.size _, BsS.lit W3 [.slice (some ⟨W2.heap.size, 0, none⟩) 1 1, .slice (some ⟨w.heap.size, 0, none⟩) 32 32, .slice (some ⟨w.heap.size + 1, 0, none⟩) 32 32] [[1], l, r] rfl fun i hi => by
    match i, hi with
    | 0, _ => exact ⟨_, _, rfl, Nat.le_refl _, h3⟩
    | 1, _ => exact ⟨_, 32, by show some _ = some (Value.slice _ l.length 32); rw [hl], by show l.length ≤ 32; omega, by rw [← Hlv.out] at kl3; exact kl3.new_bs⟩
    | 2, _ => exact ⟨_, 32, by show some _ = some (Value.slice _ r.length 32); rw [hr], by show r.length ≤ 32; omega, by rw [← Hrv.out] at kr3; exact kr3.new_bs⟩⟩ (fun _ _ => trivial) ?_
  clear h3 kl3 kr3 b3
  rintro W4 ⟨b4, h4⟩
  refine wpMix_c (fun K hK => ?_) trivial
  go_simp
  refine (hof_any [[1], l, r] _ 3 3 W4 rfl h4 (by decide) (by simp [hl, hr])).mono ?_
  rintro e W5 ⟨rfl, b5⟩
  rw [show sha256 [[1], l, r].flatten = x by rw [← Hx.out]; simp [hNode]]
  refine hK _ _ ?_
  clear hK K
  refine ⟨trivial, ?_⟩
  have b25 := b4.trans (b5.mono b4.size)
  have kz5 := kz.below b25 kz.lt
  have B5 := B1.trans (b25.mono B1.size)
  refine wpMix_store_blk rfl 26 (.tmp 4) (.tmp 9) rfl 32 size26 (w.heap.size + 1 + 1) (x.map B).toArray rfl rfl (by simp [Hxl.out]) (oneCell_B _) 26 _ kz5 hzl trivial ?_
  simp only [Act.put]
  refine wpMix_nil ?_
  intro _
  go_wp2_with fail
  refine bodyPost_ret (results_cell_row rfl _ _ (w.heap.size + 1 + 1) 26 (x.map B).toArray (0, 0) _ rfl (kz5.setRow_ _) Try.underlying26 rfl (by rw [show (x.map B).toArray.size = 32 by simp [Hxl.out]]; exact info26)) rfl ⟨rfl, ?_⟩
  exact below_setRow B5 (by omega) _
end Go.Proofs.Ytdkgndjomkbbjaa
