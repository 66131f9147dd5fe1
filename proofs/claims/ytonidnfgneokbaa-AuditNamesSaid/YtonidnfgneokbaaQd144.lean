/- A sum under way out of its bytes, in plain Lean. -/
import Derived.Test.YtonidnfgneokbaaQd101
import Derived.Test.YtonidnfgneokbaaQd107
import Derived.Test.YtonidnfgneokbaaQd105
namespace Go.Proofs.Ytonidnfgneokbaa

def num10 (l : List UInt8) : Nat := (wordAt l 8).toNat * 4294967296 + (wordAt l 9).toNat
def Und.ofBytes (l : List UInt8) : Option Und :=
  if l.length < 40 then none
  else if 1152921504606846976 < num10 l ∨ l.length ≠ 40 + num10 l % 64 then none
  else some ⟨S8.of (firstW l 8), num10 l, l.drop 40⟩

theorem S8_of_first (l : List UInt8) : S8.of (firstW l 8) = ⟨wordAt l 0, wordAt l 1, wordAt l 2, wordAt l 3, wordAt l 4, wordAt l 5, wordAt l 6, wordAt l 7⟩ := rfl
theorem be4_word4 (x : UInt32) : be4 (x >>> 24).toUInt8 (x >>> 16).toUInt8 (x >>> 8).toUInt8 x.toUInt8 = x := by
  apply UInt32.toNat.inj
  have := u32_lt x
  rw [be4_toNat]
  simp [UInt32.toNat_shiftRight, Nat.shiftRight_eq_div_pow]
  omega
theorem wordAt_zero (x : UInt32) (l : List UInt8) : wordAt (word4 x ++ l) 0 = x := be4_word4 x
theorem wordAt_succ (x : UInt32) (l : List UInt8) (t : Nat) : wordAt (word4 x ++ l) (t + 1) = wordAt l t := by
  have h : ∀ j, (word4 x ++ l).getD (j + 4) 0 = l.getD j 0 := fun j => by
    rw [List.getD_eq_getElem?_getD, List.getElem?_append_right (by rw [length_word4]; omega), length_word4, Nat.add_sub_cancel, ← List.getD_eq_getElem?_getD]
  unfold wordAt
  rw [show 4 * (t + 1) = 4 * t + 4 by omega, show 4 * t + 4 + 1 = 4 * t + 1 + 4 by omega, show 4 * t + 4 + 2 = 4 * t + 2 + 4 by omega, show 4 * t + 4 + 3 = 4 * t + 3 + 4 by omega, h, h, h, h]
theorem num8_split (n : Nat) (h : n < 18446744073709551616) : num8 n = word4 (UInt32.ofNat (n / 4294967296)) ++ word4 (UInt32.ofNat n) := by
  simp only [num8, word4, List.range, List.range.loop, List.map_cons, List.map_nil, List.cons_append, List.nil_append, List.cons.injEq, and_true]
  refine ⟨?_, ?_, ?_, ?_, ?_, ?_, ?_, ?_⟩ <;> apply UInt8.toNat.inj <;> simp [UInt32.toNat_shiftRight, Nat.shiftRight_eq_div_pow] <;> omega
theorem ofBytes_bytes (u : Und) (hok : u.ok) (hl : u.len ≤ 1152921504606846976) : Und.ofBytes u.bytes = some u := by
  obtain ⟨⟨a, b, c, d, e, f, g, h⟩, n, r⟩ := u
  have hok' : r.length = n % 64 := hok
  have hl' : n ≤ 1152921504606846976 := hl
  obtain ⟨x, hx⟩ : ∃ x, UInt32.ofNat (n / 4294967296) = x := ⟨_, rfl⟩
  obtain ⟨y, hy⟩ : ∃ y, UInt32.ofNat n = y := ⟨_, rfl⟩
  have hbs : (Und.mk ⟨a, b, c, d, e, f, g, h⟩ n r).bytes = (word4 a ++ word4 b ++ word4 c ++ word4 d ++ word4 e ++ word4 f ++ word4 g ++ word4 h) ++ (word4 x ++ word4 y) ++ r := by
    unfold Und.bytes
    rw [num8_split n (by omega), hx, hy]
    rfl
  have hlen : (Und.mk ⟨a, b, c, d, e, f, g, h⟩ n r).bytes.length = 40 + r.length := by rw [hbs]; simp [length_word4]; omega
  have hn : num10 (Und.mk ⟨a, b, c, d, e, f, g, h⟩ n r).bytes = n := by
    rw [hbs]
    unfold num10
    simp only [List.append_assoc, wordAt_succ, wordAt_zero]
    rw [← hx, ← hy, UInt32.toNat_ofNat', UInt32.toNat_ofNat']
    omega
  have hst : S8.of (firstW (Und.mk ⟨a, b, c, d, e, f, g, h⟩ n r).bytes 8) = ⟨a, b, c, d, e, f, g, h⟩ := by
    rw [hbs, S8_of_first]
    simp only [List.append_assoc, wordAt_succ, wordAt_zero]
  have hpl : ((word4 a ++ word4 b ++ word4 c ++ word4 d ++ word4 e ++ word4 f ++ word4 g ++ word4 h) ++ (word4 x ++ word4 y)).length = 40 := by simp only [List.length_append, length_word4]
  have hdr : (Und.mk ⟨a, b, c, d, e, f, g, h⟩ n r).bytes.drop 40 = r := by
    rw [hbs]
    generalize ((word4 a ++ word4 b ++ word4 c ++ word4 d ++ word4 e ++ word4 f ++ word4 g ++ word4 h) ++ (word4 x ++ word4 y)) = p at hpl
    rw [← hpl, List.drop_left]
  unfold Und.ofBytes
  rw [if_neg (by rw [hlen]; omega), if_neg (by rw [hn, hlen]; omega), hn, hst, hdr]
theorem ofBytes_ok {l : List UInt8} {u : Und} (h : Und.ofBytes l = some u) : u.ok ∧ u.len ≤ 1152921504606846976 := by
  unfold Und.ofBytes at h
  split at h
  · cases h
  · split at h
    · cases h
    · cases h
      refine ⟨?_, by show num10 l ≤ _; omega⟩
      unfold Und.ok
      simp only [List.length_drop]
      omega
end Go.Proofs.Ytonidnfgneokbaa
/- (*sha.Sha).Bytes. -/
namespace Go.Proofs.Ytonidnfgneokbaa
open Go.RowKit

/-- 'p[:k]' of an array behind a pointer -/
theorem run_slice_arr_h {P : Program} {t : TypeId} {s N : Nat} (ht : P.underlying t = some (.array (P.arrayLen t) (P.elem t))) (hN : P.arrayLen t = N) (hs : ∀ W : World, (sizeOf (P.elem t)).run P W = .ok s W) (g o k : Nat) (hk : k ≤ N) (hN0 : 0 < N) (W : World) :
    (Instr.sliceAt t (.pointer (some ⟨g, o, none⟩)) none (some (.int .i64 (k : Int))) none).run P W = .ok (.slice (some ⟨g, o, none⟩) k N) W := by
  rw [run_sliceAt_array_h W t _ ht .i64 (k : Int) (by omega) (by rw [hN]; omega), hs, hN]
  simp only [slicedAt, Result.andThen, Int.toNat_natCast]
  rw [if_neg (by omega), addr_add]
  simp

theorem run_make_u8 (w : World) (n c : Nat) (h : n ≤ c) (hc : c ≤ 140737488355328) :
    (Instr.makeSlice 23 (.int .i64 (n : Int)) (.int .i64 (c : Int))).run Try.prog w = .ok (.slice (some ⟨w.heap.size, 0, none⟩) n c) (w.alloc (.cells ((List.replicate c (0 : UInt8)).map B).toArray 5)) := by
  obtain ⟨i, hi⟩ : ∃ i, Try.prog.info? 5 = some i := Option.isSome_iff_exists.1 (by kernel_rfl)
  have hz : i.zero = some (.int .u8 0) := by
    have : (Try.prog.info? 5).bind (·.zero) = some (.int .u8 0) := by kernel_rfl
    rw [hi] at this; exact this
  have hs : i.size = 1 := by
    have : (Try.prog.info? 5).map (·.size) = some 1 := by kernel_rfl
    rw [hi] at this; exact Option.some.inj this
  have hby : i.bytes = 1 := by
    have : (Try.prog.info? 5).map (·.bytes) = some 1 := by kernel_rfl
    rw [hi] at this; exact Option.some.inj this
  have := run_make (P := Try.prog) w 23 5 i _ Try.underlying23 hi hz .i64 .i64 n c (by omega) (by omega) (by rw [hby]; omega) (by omega)
  rw [this, hs, Nat.mul_one, Int.toNat_natCast, Int.toNat_natCast]
  have hm : madeCells (Value.int .u8 0).cells c = ((List.replicate c (0 : UInt8)).map B).toArray := by
    apply Array.ext'
    rw [show (Value.int .u8 0).cells = #[Value.int .u8 0] from rfl, toList_madeCells_one]
    simp [B]
  rw [hm]

/-- between two statements: the sum, the row -/
structure ByC (w : World) (g : Nat) (u : Und) (bk : List UInt8) (L : List UInt8) (W : World) : Prop where
  sh : ShB W g u bk
  row : Blk W w.heap.size 5 (L.map B).toArray
  bel : Below w.heap.size w W
theorem ByC.step {w W W' : World} {g : Nat} {u : Und} {bk L : List UInt8} (h : ByC w g u bk L W) (hb : Below W.heap.size W W') : ByC w g u bk L W' :=
  ⟨h.sh.move (h.sh.blk.below hb h.sh.blk.lt), h.row.below hb h.row.lt, h.bel.trans (hb.mono h.bel.size)⟩
theorem ByC.drew {w W : World} {g : Nat} {u : Und} {bk L : List UInt8} (h : ByC w g u bk L W) : ByC w g u bk L W.drew := ⟨h.sh.move h.sh.blk.drew, h.row.drew, h.bel.drew⟩
theorem ByC.put {w W W' : World} {g : Nat} {u : Und} {bk L L' : List UInt8} (h : ByC w g u bk L W) (hl : g < w.heap.size) (hb : Blk W' w.heap.size 5 (L'.map B).toArray) (hg : W.grownBy W' (some w.heap.size)) : ByC w g u bk L' W' :=
  ⟨h.sh.move (h.sh.blk.grown hg (by simp; omega)), hb, h.bel.grown hg h.bel.size (by simp)⟩

end Go.Proofs.Ytonidnfgneokbaa
