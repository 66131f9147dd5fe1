/- (*sha.Sha).Sum, sha.Sum. -/
import Derived.Test.YtfhmjgkcpcnkbaaDoorQf104
import Derived.Deep.DeepCutAuto
import Derived.Deep.DeepMust
import Derived.Laws.StructEq
import Derived.Lib.UnsafeStr
namespace Go.Proofs.YtfhmjgkcpcnkbaaDoor
open Go.RowKit

/-- the element i of an array that is a value -/
theorem run_index_agg {P : Program} {t e : TypeId} {N : Nat} (ht : P.underlying t = some (.array N e)) (hs : ∀ W : World, (sizeOf e).run P W = .ok 1 W) (ha : ∀ W : World, (isAgg e).run P W = .ok false W) (cs : Array Value) (i : Nat) (v : Value) (hi : i < N) (hv : cs[i]? = some v) (W : World) :
    (Instr.index t (.agg cs) (.int .i64 (i : Int))).run P W = .ok v W := by
  have h1 : 0 ≤ (i : Int) ∧ (i : Int) < (N : Int) := by omega
  simp only [Instr.index, asIntOf, Sem.run_bind, Sem.run_pure, Result.andThen_ok, run_underlying ht W]
  rw [if_pos h1]
  simp [part, hs, ha, hv]

theorem size32 : ∀ w : World, (sizeOf 135).run Tryd.prog w = .ok 1 w := fun _ => by kernel_rfl
theorem agg32 : ∀ w : World, (isAgg 135).run Tryd.prog w = .ok false w := fun _ => by kernel_rfl
theorem size26 : ∀ w : World, (sizeOf 48).run Tryd.prog w = .ok 32 w := fun _ => by kernel_rfl
theorem agg26 : ∀ w : World, (isAgg 48).run Tryd.prog w = .ok true w := fun _ => by kernel_rfl
theorem size26e : ∀ w : World, (sizeOf (Tryd.prog.elem 48)).run Tryd.prog w = .ok 1 w := fun _ => by kernel_rfl
theorem arrT26 : Tryd.prog.underlying 48 = some (.array (Tryd.prog.arrayLen 48) (Tryd.prog.elem 48)) := by kernel_rfl
theorem arrN26 : Tryd.prog.arrayLen 48 = 32 := by kernel_rfl
theorem size41 : ∀ w : World, (sizeOf 158).run Tryd.prog w = .ok 74 w := fun _ => by kernel_rfl
theorem agg41 : ∀ w : World, (isAgg 158).run Tryd.prog w = .ok true w := fun _ => by kernel_rfl
theorem info26 : (Tryd.prog.info? 48).map (·.size) = some 32 := by kernel_rfl

theorem oneCell_sha (st : List UInt32) (bk : List UInt8) (n : Nat) : ∀ v ∈ (shaCells st bk n).toArray.toList, v.oneCell' = true := by
  intro v hv
  simp only [shaCells, List.mem_append, List.mem_map, List.mem_cons, List.not_mem_nil, or_false] at hv
  rcases hv with ⟨_, _, rfl⟩ | ⟨_, _, rfl⟩ | rfl | rfl <;> rfl

/-- a zero Sha -/
def zeroSha : Array Value := ((List.replicate 8 0).map U ++ ((List.replicate 64 0).map B ++ [Value.int .i64 0, Value.bool false])).toArray
theorem zeroSha_size : zeroSha.size = 74 := by simp [zeroSha]
/-- a zero hash -/
def zeroHash : Array Value := ((List.replicate 32 0).map B).toArray

/-- between two statements of Sum: the copy, the two hashes -/
structure SumAt (w : World) (v : Und) (H : List UInt8) (W : World) : Prop where
  sh : Sh W (w.heap.size + 1 + 1) v
  r : Blk W w.heap.size 48 ((List.replicate 32 0).map B).toArray
  h : Blk W (w.heap.size + 1) 48 (H.map B).toArray
  bel : Below w.heap.size w W

theorem num8_get (n j : Nat) (h : j < 8) : (num8 n).getD j 0 = UInt8.ofNat (n / 256 ^ (7 - j)) := by
  simp [num8, List.getD_eq_getElem?_getD, h]
theorem take_num8 (n j : Nat) (h : j < 8) : (num8 n).take (j + 1) = (num8 n).take j ++ [UInt8.ofNat (n / 256 ^ (7 - j))] := by
  rw [List.take_succ_eq_append_getElem (by rw [length_num8]; exact h)]
  simp [num8]

theorem num_byte (N q : Nat) (h : q < 8) : (N : Int) / 2 ^ (56 - 8 * q) % (256 : Int) = ((UInt8.ofNat (N / 256 ^ (7 - q))).toNat : Int) := by
  have e : 56 - 8 * q = 8 * (7 - q) := by omega
  rw [e, Int.pow_mul, UInt8.toNat_ofNat', Int.natCast_emod, Int.natCast_ediv, Int.natCast_pow]
  rfl
theorem flat_take (l : List UInt32) (q : Nat) (h : q < l.length) : (l.take (q + 1)).flatMap word4 = (l.take q).flatMap word4 ++ word4 (l.getD q 0) := by
  rw [List.take_succ_eq_append_getElem h, List.flatMap_append]
  simp [List.getD_eq_getElem?_getD, List.getElem?_eq_getElem h]
theorem length_flat (l : List UInt32) : (l.flatMap word4).length = 4 * l.length := by
  induction l with
  | nil => rfl
  | cons a l ih => simp [List.flatMap_cons, length_word4, ih]; omega
theorem setFour_fill (p : List UInt8) (o m : Nat) (x : UInt32) (hp : p.length = o) (hm : 4 ≤ m) : setFour (p ++ List.replicate m 0) o x = (p ++ word4 x) ++ List.replicate (m - 4) 0 := by
  subst hp
  unfold setFour
  rw [List.take_left, List.drop_append, List.drop_eq_nil_of_le (by omega), List.drop_replicate, show m - (p.length + 4 - p.length) = m - 4 by omega]
  simp

section
variable {w W W' : World} {v : Und} {H : List UInt8}
/-- one more byte is taken -/
theorem SumAt.took (h : SumAt w v H W) (b : UInt8) {W' : World} (hs : Sh W' (w.heap.size + 1 + 1) (v.take [b])) (hg : (W.alloc (.cells #[B b] 5)).grownBy W' (some (w.heap.size + 1 + 1))) : SumAt w (v.take [b]) H W' :=
  ⟨hs, (h.r.alloc _).grown hg (by simp; omega), (h.h.alloc _).grown hg (by simp), (h.bel.alloc h.bel.size _).grown hg (by have := h.bel.size; simp; omega) (by simp; omega)⟩
end

theorem take_one {w W : World} {v : Und} {H : List UInt8} (h : SumAt w v H W) (b : UInt8) (x : Int) (hx : x = (b.toNat : Int)) (hl : v.len + 1 < 9223372036854775808) :
    Calls Tryd.prog 91 #[.pointer (some ⟨w.heap.size + 1 + 1, 0, none⟩), .slice (some ⟨W.heap.size, 0, none⟩) 1 1] (W.alloc (.cells #[.int .u8 x] 5)) fun e w' => e = .returned (.tuple #[]) ∧ SumAt w (v.take [b]) H w' := by
  subst hx
  obtain ⟨bk, hb⟩ := h.sh
  have hlt := hb.blk.lt
  have hB := (Blk.new W 5 #[B b]).cell
  refine (take_any (w.heap.size + 1 + 1) v [b] (some ⟨W.heap.size, 0, none⟩) 1 (W.alloc (.cells #[B b] 5)) ⟨bk, hb.move (hb.blk.alloc _)⟩ (fun _ => ⟨W.heap.size, 0, rfl, by simp, by simp; omega, fun j u hu => ?_⟩) (by simp) (by simpa using hl)).mono ?_
  · rw [Nat.zero_add, hB]; simpa using hu
  · rintro e w' ⟨rfl, h1, h2⟩
    exact ⟨rfl, h.took b h1 h2⟩

set_option maxHeartbeats 400000 in
set_option maxRecDepth 100000 in
theorem sum_any (g : Nat) (u : Und) (w : World) (h : Sh w g u) (hl : u.len ≤ 1152921504606846976) :
    Calls Tryd.prog 92 #[.pointer (some ⟨g, 0, none⟩)] w fun e w' => e = .returned (.agg (u.sum.map B).toArray) ∧ Below w.heap.size w w' := by
  obtain ⟨bk, hb⟩ := h
  have hgl : g < w.heap.size := hb.blk.lt
  obtain ⟨cs, hcs⟩ : ∃ cs, (shaCells u.st.list bk u.len).toArray = cs := ⟨_, rfl⟩
  have hsz : cs.size = 74 := by rw [← hcs]; exact hb.size
  have hone : ∀ v ∈ cs.toList, v.oneCell' = true := by rw [← hcs]; exact oneCell_sha _ _ _
  have hblk := hb.blk
  rw [hcs] at hblk
  have clen := hb.cell_len
  have Hcs := Lib.hid hcs
  have Hsz := Lib.hid hsz
  have Hone := Lib.hid hone
  have hnone : ∀ o1 o2, Calls Tryd.prog 101 #[.pointer (some ⟨g, 0, none⟩)] ((w.alloc o1).alloc o2) fun e w' => e = .returned (.bool false) ∧ ((w.alloc o1).alloc o2) = w' :=
    fun o1 o2 => none_any (u := u) (bk := bk) (hb.move ((hb.blk.alloc _).alloc _))
  have cl1 : ∀ o1 o2 o3 cs', (((((w.alloc o1).alloc o2).alloc o3)).setRow (w.heap.size + 1 + 1) cs').cell? ⟨g, 72, none⟩ = some (.int .i64 (u.len : Int)) := fun o1 o2 o3 cs' => by
    have hb2 : ShB ((((w.alloc o1).alloc o2).alloc o3).setRow (w.heap.size + 1 + 1) cs') g u bk := hb.move (((((hb.blk.alloc o1).alloc o2).alloc o3)).setRow_apart (by omega) _)
    exact hb2.cell_len
  clear hcs hsz hone
  go_enter Tryd.func92, Tryd.ntmps92
  go_upto_region 5 with (first
    | (go_at_call 101; refine (hnone _ _).mono ?_; rintro e w' ⟨rfl, rfl⟩)
    | ((with_reducible show wpList _ _ _ _ _ _); first
      | ((with_reducible show wpList _ _ _ (⟨some 14, .load _ _, _, _, _, _⟩ :: _) _ _); refine wpList_load rfl 158 (.tmp 13) rfl g 0 rfl cs (run_load_blk (agg41 _) (size41 _) g cs Hsz.out ((hblk.alloc _).alloc _)) ?_)
      | ((with_reducible show wpList _ _ _ (⟨none, .store _ _ _, _, _, _, _⟩ :: _) _ _); (refine wpList_store_blk rfl 158 (.tmp 4) (.tmp 14) rfl 74 size41 (w.heap.size + 1 + 1) cs rfl rfl Hsz.out Hone.out 158 _ (Blk.new' _ _ _ _ (by simp)) (by rfl) ?_))))
  refine wp_world (fun W => SumAt w u (List.replicate 32 0) W ∧ W.cell? ⟨g, 72, none⟩ = some (.int .i64 (u.len : Int))) ⟨⟨⟨bk, ?_, hb.len, hb.ok, hb.pre, hb.lt⟩, ?_, ?_, ?_⟩, ?_⟩ ?_
  · rw [Hcs.out]; exact (Blk.new' _ _ _ _ (by simp)).setRow_ _
  · exact (((Blk.new w _ _).alloc _).alloc _).setRow_apart (by omega) _
  · exact ((Blk.new' _ _ _ _ (by simp)).alloc _).setRow_apart (by omega) _
  · exact below_setRow ((((Below.refl _ _).alloc (Nat.le_refl _) _).alloc (by simp) _).alloc (by simp; omega) _) (by omega) _
  · exact cl1 _ _ _ _
  rintro W0 ⟨hst, cl0⟩
  clear cl1 clen hnone
  have hl0 : ((u.take [128]).len : Nat) = u.len + 1 := rfl
  go_wp2_with (go_at_call 91; go_must (refine (take_one hst 128 128 rfl (by omega)).mono ?_); rintro e w1 ⟨rfl, hst1⟩)
  clear hst cl0
  obtain ⟨r, hr⟩ : ∃ r, u.rest.length = r := ⟨_, rfl⟩
  have hok : r = u.len % 64 := by rw [← hr]; exact hb.ok
  obtain ⟨z, hz⟩ : ∃ z, (119 - r) % 64 = z := ⟨_, rfl⟩
  have Hr := Lib.hid hr
  have Hok := Lib.hid hok
  have Hz := Lib.hid hz
  have hz64 : z < 64 := by omega
  clear hr hok hz
  go_loopg [] z (fun k wr => ∃ j, j + k = z ∧ SumAt w (u.take (128 :: List.replicate j 0)) (List.replicate 32 0) wr)
  case atStart => exact ⟨0, by omega, hst1⟩
  case round =>
    obtain ⟨j, hj, hsj⟩ := hrel
    obtain ⟨bj, hbj⟩ := hsj.sh
    have cl := hbj.cell_len
    have hlj : (u.take (128 :: List.replicate j 0)).len = u.len + 1 + j := by rw [Und.take_len]; simp; omega
    generalize hv : u.take (128 :: List.replicate j 0) = v at *
    have Hv := Lib.hid hv
    have Hlj := Lib.hid hlj
    have Hj := Lib.hid hj
    clear hv
    by_cases hlt : j < z
    · have t1 : (((v.len : Int) % 64) != 56) = true := by
        have := Hok.out
        have := Hz.out
        have := Hlj.out
        rw [bne_iff_ne]
        omega
      have hvl : v.len + 1 < 9223372036854775808 := by omega
      clear hlj hj
      go_wp2_with (go_at_call 91; refine (take_one hsj 0 0 rfl hvl).mono ?_; rintro e w2 ⟨rfl, hst2⟩)
      go_roundg (gk - 1)
      case measure => have := Hj.out; omega
      case rel =>
        refine ⟨j + 1, by have := Hj.out; omega, ?_⟩
        rw [← Hv.out, Und.take_take] at hst2
        rw [List.replicate_succ']
        exact hst2
    · have hjz : j = z := by have := Hj.out; omega
      have t1 : (((v.len : Int) % 64) != 56) = false := by
        have := Hok.out
        have := Hz.out
        have := Hlj.out
        rw [bne_eq_false_iff_eq]
        omega
      have Hjz := Lib.hid hjz
      clear hjz hlt hlj hj
      go_wp2_with fail
      obtain ⟨N, hN⟩ : ∃ N, u.len * 8 = N := ⟨_, rfl⟩
      have eN : (u.len : Int) * 8 = (N : Int) := by omega
      have hNl : N ≤ 9223372036854775808 := by omega
      have HN := Lib.hid hN
      clear hN cl
      rw [eN]
      clear eN
      go_loopw [6] (fun i wr => ∃ q : Nat, q ≤ 8 ∧ i = .int .i64 (56 - 8 * (q : Int)) ∧ SumAt w (v.take ((num8 N).take q)) (List.replicate 32 0) wr) (fun i _ => (intOf i + 8).toNat)
      case atStart => exact ⟨0, by omega, rfl, by rw [List.take_zero, Und.take_nil _ hbj.ok]; exact hsj⟩
      case round =>
        obtain ⟨q, hq, rfl, hsq⟩ := hrel
        by_cases hlq : q < 8
        · have hvl : (v.take ((num8 N).take q)).len + 1 < 9223372036854775808 := by
            rw [Und.take_len, List.length_take, length_num8]
            have := Hlj.out
            have := Hjz.out
            omega
          have e1 : (56 - 8 * (q : Int)).toNat = 56 - 8 * q := by omega
          go_wp2_with (go_at_call 91; refine (take_one hsq (UInt8.ofNat (N / 256 ^ (7 - q))) _ (num_byte N q hlq) hvl).mono ?_; rintro e w2 ⟨rfl, hst2⟩)
          go_roundw
          case rel =>
            refine ⟨q + 1, by omega, ?_, ?_⟩
            · refine congrArg _ ?_; omega
            · rw [Und.take_take, ← take_num8 N q hlq] at hst2
              exact hst2
          case measure => simp [intOf]; omega
        · have hq8 : q = 8 := by omega
          obtain ⟨S, hS⟩ : ∃ S, v.take ((num8 N).take q) = S := ⟨_, rfl⟩
          have hSp : S = u.take u.pad := by
            rw [← hS, ← Hv.out, Und.take_take, hq8, List.take_of_length_le (by rw [length_num8]; omega)]
            unfold Und.pad
            rw [Hr.out, Hz.out, Hjz.out, HN.out]
            simp
          rw [hS] at hsq
          have HS := Lib.hid hSp
          obtain ⟨sl, hsl⟩ : ∃ sl, S.st.list = sl := ⟨_, rfl⟩
          have Hsl := Lib.hid hsl
          obtain ⟨bs, hbs⟩ := hsq.sh
          have hld : (Instr.loadAt 136 (.pointer (some ⟨w.heap.size + 1 + 1, 0, none⟩))).run Tryd.prog wr = .ok (.agg (sl.map U).toArray) wr := by
            refine run_load_agg (agg33 _) (size33 _) _ 0 (sl.map U) (by rw [← hsl]; rfl) fun j u hu => ?_
            rw [Nat.zero_add]
            exact hbs.cell_st j u (by rw [hsl]; exact hu)
          have Hld := Lib.hid hld
          clear hld hSp hS hsl hq8
          go_wp2_with ((with_reducible show wpList _ _ _ (⟨some 40, .load _ _, _, _, _, _⟩ :: _) _ _); refine wpList_load rfl 136 (.tmp 39) rfl (w.heap.size + 1 + 1) 0 rfl (sl.map U).toArray Hld.out ?_)
          go_loopw [41] (fun i wr => ∃ (q : Nat), q ≤ 8 ∧ i = .int .i64 q ∧ SumAt w S ((sl.take q).flatMap word4 ++ List.replicate (32 - 4 * q) 0) wr) (fun i _ => 8 - (intOf i).toNat)
          case atStart => exact ⟨0, by omega, rfl, hsq⟩
          case round =>
            obtain ⟨q, hq, rfl, hsq⟩ := hrel
            by_cases hlq : q < 8
            · obtain ⟨x, hx⟩ : ∃ x, sl.getD q 0 = x := ⟨_, rfl⟩
              have hsl8 : sl.length = 8 := by rw [← Hsl.out]; rfl
              have hix := fun W => run_index_agg (P := Tryd.prog) Tryd.underlying136 size32 agg32 (sl.map U).toArray q (U x) hlq ((cellU sl q (by omega)).trans (by rw [hx])) W
              have hsc : ∀ W, (Instr.sliceAt 48 (.pointer (some ⟨w.heap.size + 1, 0, none⟩)) (some (.int .i64 (4 * (q : Int)))) none none).run Tryd.prog W = .ok (.slice (some ⟨w.heap.size + 1, 4 * q, none⟩) (32 - 4 * q) (32 - 4 * q)) W := fun W => by
                have := run_slice_arr (P := Tryd.prog) arrT26 arrN26 size26e (w.heap.size + 1) 0 (4 * q) (by omega) W
                rw [show ((4 * q : Nat) : Int) = 4 * (q : Int) by omega] at this
                simpa using this
              have hpl : ((sl.take q).flatMap word4).length = 4 * q := by rw [length_flat, List.length_take]; omega
              have hH : ((sl.take q).flatMap word4 ++ List.replicate (32 - 4 * q) (0 : UInt8)).length = 32 := by rw [List.length_append, hpl]; simp; omega
              have hfin := setFour_fill ((sl.take q).flatMap word4) (4 * q) (32 - 4 * q) x hpl (by omega)
              rw [← hx, ← flat_take sl q (by omega), hx, show 32 - 4 * q - 4 = 32 - 4 * (q + 1) by omega] at hfin
              have Hfin := Lib.hid hfin
              have hput := put_any (w.heap.size + 1) (4 * q) (32 - 4 * q) (32 - 4 * q) _ _ x wr hsq.h (by omega) (by omega)
              rw [hfin] at hput
              clear hfin hpl hsl8 hx hH
              go_wp2_with (go_at_call 102; refine hput.mono ?_; rintro e w2 ⟨rfl, hb2, hg2⟩)
              go_roundw
              case rel =>
                obtain ⟨bq, hbq⟩ := hsq.sh
                have l1 := hsq.bel.size
                refine ⟨q + 1, by omega, by go_num, ⟨bq, hbq.move (hbq.blk.grown hg2 (by simp))⟩, hsq.r.grown hg2 (by simp), hb2, hsq.bel.grown hg2 l1 (by simp)⟩
              case measure => simp [intOf]; omega
            · have hq8 : q = 8 := by omega
              have hsum : (sl.take q).flatMap word4 ++ List.replicate (32 - 4 * q) 0 = u.sum := by
                rw [hq8, List.take_of_length_le (by rw [← Hsl.out]; simp [length_list])]
                rw [Und.sum, ← HS.out, S8.bytes, Hsl.out]
                simp
              have hh := hsq.h
              rw [hsum] at hh
              have Hsum := Lib.hid hsum
              clear hsum hq8
              go_wp2_with (first
                | ((with_reducible show wpList _ _ _ (⟨some 51, .load _ _, _, _, _, _⟩ :: _) _ _); refine wpList_load rfl 48 (.tmp 3) rfl (w.heap.size + 1) 0 rfl (u.sum.map B).toArray (run_load_blk (agg26 _) (size26 _) _ _ (by simp [Und.length_sum]) hh) ?_)
                | ((with_reducible show wpList _ _ _ (⟨none, .store _ _ _, _, _, _, _⟩ :: _) _ _); refine wpList_store_blk rfl 48 (.tmp 2) (.tmp 51) rfl 32 size26 w.heap.size (u.sum.map B).toArray rfl rfl (by simp [Und.length_sum]) (oneCell_B _) 48 _ hsq.r (by simp) ?_))
              refine bodyPost_ret (results_cell_row rfl _ _ w.heap.size 48 (u.sum.map B).toArray (0, 0) _ rfl (hsq.r.setRow_ _) Tryd.underlying48 rfl (by rw [show (u.sum.map B).toArray.size = 32 by simp [Und.length_sum]]; exact info26)) rfl ⟨rfl, ?_⟩
              exact below_setRow hsq.bel (Nat.le_refl _) _
end Go.Proofs.YtfhmjgkcpcnkbaaDoor
/- sha.Sum over parts; Write. -/
namespace Go.Proofs.YtfhmjgkcpcnkbaaDoor
open Go.RowKit

theorem flatten_take_succ (ls : List (List UInt8)) (k : Nat) (h : k < ls.length) : (ls.take (k + 1)).flatten = (ls.take k).flatten ++ ls[k] := by
  rw [List.take_succ_eq_append_getElem h, List.flatten_append]; simp
theorem flatten_take_le (ls : List (List UInt8)) (k : Nat) : (ls.take k).flatten.length ≤ ls.flatten.length := by
  have := congrArg (fun l => (List.flatten l).length) (List.take_append_drop k ls)
  simp only [List.flatten_append, List.length_append] at this
  omega

set_option maxHeartbeats 400000 in
set_option maxRecDepth 100000 in
theorem shasum_any (ls : List (List UInt8)) (A : Option Addr) (n c : Nat) (w : World) (hn : n = ls.length) (h : BsS w (· < w.heap.size) A ls) (hmax : n ≤ 9223372036854775807) (hl : ls.flatten.length ≤ 1152921504606846976) :
    Calls Tryd.prog 79 #[.slice A n c] w fun e w' => e = .returned (.agg ((sha256 ls.flatten).map B).toArray) ∧ Below w.heap.size w w' := by
  have Hn := Lib.hid hn
  clear hn
  obtain ⟨vs, hvs, hvl, hvi⟩ := h
  have Hvl := Lib.hid hvl
  have Hvi := Lib.hid hvi
  clear hvl hvi
  have hz : (w.alloc (.cells zeroHash 48)).heap.size = w.heap.size + 1 := by simp
  go_enter Tryd.func79, Tryd.ntmps79
  go_wp2_with (go_at_call 90; refine (new_any _).mono ?_; rintro e w1 ⟨g, rfl, hg, hsh, hb1⟩)
  have hgN : w.heap.size < g := by simp at hg; omega
  have hb0 : Below w.heap.size w w1 := ((Below.refl _ _).alloc (Nat.le_refl _) _).trans (hb1.mono (by simp))
  have hr0 : Blk w1 w.heap.size 48 ((List.replicate 32 0).map B).toArray := (Blk.new w 48 _).below hb1 (by simp)
  clear hb1 hg
  go_loopw [9] (fun i wr => ∃ k : Nat, k ≤ n ∧ i = .int .i64 k ∧ Sh wr g (Und.new.take (ls.take k).flatten) ∧ Blk wr w.heap.size 48 ((List.replicate 32 0).map B).toArray ∧ Below w.heap.size w wr) (fun i _ => n - (intOf i).toNat)
  case atStart => exact ⟨0, by omega, rfl, by simpa [Und.take_nil _ Und.new_ok] using hsh, hr0, hb0⟩
  case round =>
    clear hsh hr0 hb0
    obtain ⟨k, hk, rfl, hsh, hr, hb⟩ := hrel
    by_cases hlt : k < n
    · have hkl : k < ls.length := by have := Hn.out; omega
      obtain ⟨Ai, ci, hv, hc, hbi⟩ := Hvi.out k hkl
      obtain ⟨b0, o0, hA, hb0, _, hcell⟩ := hvs.at_ (by rw [Hvl.out]; omega)
      have hce : wr.cell? ⟨b0, o0 + k, none⟩ = some (.slice Ai (ls[k]).length ci) := by
        rw [hb.cell (p := ⟨b0, o0 + k, none⟩) hb0]; exact hcell k _ hv
      have hfl := flatten_take_succ ls k hkl
      have hfl2 := flatten_take_le ls (k + 1)
      have hll : (Und.new.take (ls.take k).flatten).len + (ls[k]).length < 9223372036854775808 := by
        rw [Und.take_len, show Und.new.len = 0 from rfl]
        rw [hfl, List.length_append] at hfl2
        omega
      have hbi2 : Bs wr (· ≠ g) Ai ((ls[k]).map B) := (hbi.below hb (fun _ _ h => h)).weak (fun b _ hx => by have : b < w.heap.size := hx; omega)
      have htk := take_any g _ (ls[k]) Ai ci wr hsh hbi2 hc hll
      rw [Und.take_take, ← hfl] at htk
      subst hA
      have Hfl := Lib.hid hfl
      clear hfl hfl2 hll hbi hbi2 hv
      generalize (ls[k]).length = m at *
      go_wp2_with (go_at_call 91; refine htk.mono ?_; rintro e w2 ⟨rfl, hsh2, hg2⟩)
      go_roundw
      case rel => exact ⟨k + 1, by omega, by go_num, hsh2, hr.grown hg2 (by simp; omega), hb.grown hg2 hb.size (by simp; omega)⟩
      case measure => simp [intOf]; omega
    · have hkn : k = ls.length := by have := Hn.out; omega
      rw [hkn, List.take_length] at hsh
      have hll : (Und.new.take ls.flatten).len ≤ 1152921504606846976 := by rw [Und.take_len, show Und.new.len = 0 from rfl]; omega
      have hs := sum_any g _ wr hsh hll
      rw [show (Und.new.take ls.flatten).sum = sha256 ls.flatten from rfl] at hs
      obtain ⟨r, hr5⟩ : ∃ r, sha256 ls.flatten = r := ⟨_, rfl⟩
      have hrl : r.length = 32 := by rw [← hr5]; exact length_sha256 _
      rw [hr5] at hs
      have Hrl := Lib.hid hrl
      have Hr5 := Lib.hid hr5
      clear hrl hr5 hkn hll
      go_wp2_with (first
        | (go_at_call 92; refine hs.mono ?_; rintro e w2 ⟨rfl, hb2⟩; have hr2 := hr.below hb2 hr.lt)
        | ((with_reducible show wpList _ _ _ (⟨none, .store _ _ _, _, _, _, _⟩ :: _) _ _); refine wpList_store_blk rfl 48 (.tmp 2) (.tmp 18) rfl 32 size26 w.heap.size (r.map B).toArray rfl rfl (by simp [Hrl.out]) (oneCell_B _) 48 _ hr2 (by simp) ?_))
      refine bodyPost_ret (results_cell_row rfl _ _ w.heap.size 48 (r.map B).toArray (0, 0) _ rfl (hr2.setRow_ _) Tryd.underlying48 rfl (by rw [show (r.map B).toArray.size = 32 by simp [Hrl.out]]; exact info26)) rfl ⟨by rw [Hr5.out], ?_⟩
      exact below_setRow (hb.trans (hb2.mono hb.size)) (Nat.le_refl _) _
end Go.Proofs.YtfhmjgkcpcnkbaaDoor
/- Arrays of bytes that are values: are they equal? -/
namespace Go.Proofs.YtfhmjgkcpcnkbaaDoor
open Go

theorem run_equalIn_ints {α : Type} [BEq α] [LawfulBEq α] {k : IntKind} (f : α → Int) (hf : ∀ a b, (f a == f b) = (a == b)) {P : Program} {t e : TypeId} {N : Nat} (ht : P.underlying t = some (.array N e)) (he : P.underlying e = some (.int k)) (hs : ∀ W : World, (sizeOf e).run P W = .ok 1 W) (ha : ∀ W : World, (isAgg e).run P W = .ok false W) (d : Nat)
    (xs ys : List α) (hx : xs.length = N) (hy : ys.length = N) (W : World) : (Op.equalIn (d + 2) t (.agg (xs.map fun x => Value.int k (f x)).toArray) (.agg (ys.map fun x => Value.int k (f x)).toArray)).run P W = .ok (xs == ys) W := by
  have hint : ∀ (W : World) (a b : Int), (Op.equalIn (d + 1) e (.int k a) (.int k b)).run P W = .ok (a == b) W := fun W a b => run_equalIn_int W d e k k a b he
  show (Op.equalIn (d + 1 + 1) _ _ _).run P W = _
  generalize d + 1 = D at hint ⊢
  simp only [Op.equalIn, Sem.run_bind, run_underlying ht, Result.andThen_ok, hs, Std.Legacy.Range.forIn_eq_forIn_range', Std.Legacy.Range.size, Nat.sub_zero, Nat.add_sub_cancel, Nat.div_one]
  have hcell : ∀ (zs : List α) (i : Nat) (h : i < zs.length), (part e (zs.map fun x => Value.int k (f x)).toArray (i * 1)).run P W = .ok (.int k (f (zs[i]'h))) W := fun zs i h => by
    have hv : ((zs.map fun x => Value.int k (f x)).toArray)[i]? = some (.int k (f (zs[i]'h))) := by simp [h]
    simp [part, hs, ha, hv]
  have key : ∀ (n i : Nat) (hi : i + n = N),
      (do let r ← forIn (List.range' i n 1) ((none, ()) : Option Bool × PUnit) fun i r => do
            let __do_lift ← part e (xs.map fun x => Value.int k (f x)).toArray (i * 1)
            let __do_lift_1 ← part e (ys.map fun x => Value.int k (f x)).toArray (i * 1)
            let __do_lift ← Op.equalIn D e __do_lift __do_lift_1
            if (!__do_lift) = true then pure (ForInStep.done (some false, ())) else pure (ForInStep.yield (none, ()))
          match r.fst with
            | some r => pure r
            | none => pure true : Sem Bool).run P W = .ok (xs.drop i == ys.drop i) W := by
    intro n
    induction n with
    | zero =>
      intro i hi
      have h1 : xs.drop i = [] := List.drop_eq_nil_iff.2 (by omega)
      have h2 : ys.drop i = [] := List.drop_eq_nil_iff.2 (by omega)
      simp [h1, h2]
    | succ n ih =>
      intro i hi
      have hxi : i < xs.length := by omega
      have hyi : i < ys.length := by omega
      rw [List.drop_eq_getElem_cons hxi, List.drop_eq_getElem_cons hyi]
      have h0 := ih (i + 1) (by omega)
      simp only [List.range'_succ, List.forIn_cons, Sem.run_bind, hcell xs i hxi, hcell ys i hyi, Result.andThen_ok, hint] at h0 ⊢
      rw [hf, List.cons_beq_cons]
      cases hb : xs[i] == ys[i]
      · simp
      · simpa using h0
  have := key N 0 (by omega)
  simp only [Sem.run_bind, List.drop_zero] at this
  refine Eq.trans (congrArg _ (funext fun a => funext fun w' => ?_)) this
  rcases a with ⟨_ | _, _⟩ <;> rfl

theorem eqB (a b : UInt8) : ((a.toNat : Int) == (b.toNat : Int)) = (a == b) := by rw [Bool.eq_iff_iff]; simp [← UInt8.toNat_inj]; omega
theorem eqU (a b : UInt32) : ((a.toNat : Int) == (b.toNat : Int)) = (a == b) := by rw [Bool.eq_iff_iff]; simp [← UInt32.toNat_inj]; omega
theorem run_eql_words {P : Program} {t e : TypeId} {N : Nat} (ht : P.underlying t = some (.array N e)) (he : P.underlying e = some (.int .u32)) (hs : ∀ W : World, (sizeOf e).run P W = .ok 1 W) (ha : ∀ W : World, (isAgg e).run P W = .ok false W)
    (xs ys : List UInt32) (hx : xs.length = N) (hy : ys.length = N) (W : World) : (binOp .eql t (.agg (xs.map U).toArray) (.agg (ys.map U).toArray)).run P W = .ok (.bool (xs == ys)) W := by
  rw [run_eql_struct, run_equalIn_ints (fun x : UInt32 => (x.toNat : Int)) eqU ht he hs ha 9998 xs ys hx hy W]
  rfl
theorem run_eql_bytes {P : Program} {t e : TypeId} {N : Nat} (ht : P.underlying t = some (.array N e)) (he : P.underlying e = some (.int .u8)) (hs : ∀ W : World, (sizeOf e).run P W = .ok 1 W) (ha : ∀ W : World, (isAgg e).run P W = .ok false W)
    (xs ys : List UInt8) (hx : xs.length = N) (hy : ys.length = N) (W : World) : (binOp .eql t (.agg (xs.map B).toArray) (.agg (ys.map B).toArray)).run P W = .ok (.bool (xs == ys)) W := by
  rw [run_eql_struct, run_equalIn_ints (fun x : UInt8 => (x.toNat : Int)) eqB ht he hs ha 9998 xs ys hx hy W]
  rfl
theorem run_neq_bytes {P : Program} {t e : TypeId} {N : Nat} (ht : P.underlying t = some (.array N e)) (he : P.underlying e = some (.int .u8)) (hs : ∀ W : World, (sizeOf e).run P W = .ok 1 W) (ha : ∀ W : World, (isAgg e).run P W = .ok false W)
    (xs ys : List UInt8) (hx : xs.length = N) (hy : ys.length = N) (W : World) : (binOp .neq t (.agg (xs.map B).toArray) (.agg (ys.map B).toArray)).run P W = .ok (.bool (xs != ys)) W := by
  rw [run_neq_struct, run_equalIn_ints (fun x : UInt8 => (x.toNat : Int)) eqB ht he hs ha 9998 xs ys hx hy W]
  rfl
end Go.Proofs.YtfhmjgkcpcnkbaaDoor
/- A slice of bytes that is converted to its own type: its block is marked, and nothing else. -/
namespace Go.Proofs.YtfhmjgkcpcnkbaaDoor
open Go Go.RowKit

theorem size25e : ∀ w : World, (sizeOf 5).run Tryd.prog w = .ok 1 w := fun _ => by kernel_rfl
theorem agg25e : ∀ w : World, (isAgg 5).run Tryd.prog w = .ok false w := fun _ => by kernel_rfl
section
variable {w : World}
theorem freeze_size (w : World) (p : Addr) (n : Nat) : (w.freeze p n).heap.size = w.heap.size := by
  unfold World.freeze; split <;> simp
theorem freeze_cell (w : World) (p q : Addr) (n : Nat) (_hq : q.spot = none) : (w.freeze p n).cell? q = w.cell? q := by
  unfold World.freeze
  split
  · rfl
  · unfold World.cell?
    simp only [Array.getElem?_modify]
    by_cases h : p.block = q.block
    · simp only [if_pos h]
      cases hx : w.heap[q.block]? with
      | none => rfl
      | some o => cases o <;> simp
    · simp only [if_neg h]
theorem Blk.freeze {w : World} {g : Nat} {t : TypeId} {cs : Array Value} (h : Blk w g t cs) (p : Addr) (n : Nat) (hp : p.block ≠ g) : Blk (w.freeze p n) g t cs := by
  show (w.freeze p n).heap[g]? = _
  unfold World.freeze
  split
  · exact h
  · simp only [Array.getElem?_modify]
    rw [if_neg hp]
    exact h
theorem Bs.freeze {w : World} {X : Nat → Prop} {A : Option Addr} {l : List Value} (h : Bs w X A l) (p : Addr) (n : Nat) : Bs (w.freeze p n) X A l := fun hl => by
  obtain ⟨b, o, h1, h2, h3, h4⟩ := h hl
  exact ⟨b, o, h1, by rw [freeze_size]; exact h2, h3, fun j v hv => by rw [freeze_cell _ _ _ _ rfl]; exact h4 j v hv⟩
theorem run_convert_blk {P : Program} {w : World} {g : Nat} {t e : TypeId} {C : Array Value} (o n c : Nat) (ht : P.underlying t = some (.slice e)) (he : P.underlying e = some (.int .u8)) (h : Blk w g e C) :
    (convert t t (.slice (some ⟨g, o, none⟩) n c)).run P w = .ok (.slice (some ⟨g, o, none⟩) n c) (w.freeze ⟨g, C.size, none⟩ 1) := by
  have hsh : w.shape? g = some (e, C.size) := by
    unfold World.shape?
    rw [show w.heap[g]? = some (.cells C e (0, 0)) from h]
  simp [convert, run_underlying ht, run_underlying he, markStringish, hsh]
theorem Bs.new (w : World) (X : Nat → Prop) (t : TypeId) (C : List Value) (hX : X w.heap.size) : Bs (w.alloc (.cells C.toArray t)) X (some ⟨w.heap.size, 0, none⟩) C := fun _ =>
  ⟨w.heap.size, 0, rfl, by simp, hX, fun j v hv => by rw [Nat.zero_add, (Blk.new w t C.toArray).cell]; simpa using hv⟩
theorem Sh.lt {g : Nat} {u : Und} (h : Sh w g u) : g < w.heap.size := h.choose_spec.blk.lt
theorem Sh.below {w' : World} {g N : Nat} {u : Und} (h : Sh w g u) (hb : Below N w w') (hg : g < N) : Sh w' g u := ⟨_, h.choose_spec.move (h.choose_spec.blk.below hb hg)⟩
theorem Sh.grown {w' : World} {g : Nat} {row : Option Nat} {u : Und} (h : Sh w g u) (hb : w.grownBy w' row) (hg : some g ≠ row) : Sh w' g u := ⟨_, h.choose_spec.move (h.choose_spec.blk.grown hb hg)⟩
theorem conv_new (w : World) (C : Array Value) (l : List UInt8) (n : Nat) (_hn : l.length = n) (hC : C = (l.map B).toArray) : ∃ w2,
    (convert 104 104 (.slice (some ⟨w.heap.size, 0, none⟩) n n)).run Tryd.prog (w.alloc (.cells C 5)) = .ok (.slice (some ⟨w.heap.size, 0, none⟩) n n) w2 ∧
      Bs w2 (w.heap.size ≤ ·) (some ⟨w.heap.size, 0, none⟩) (l.map B) ∧ Below w.heap.size w w2 := by
  subst hC
  exact ⟨_, run_convert_blk 0 n n (by kernel_rfl) (by kernel_rfl) (Blk.new w _ _), (Bs.new w (w.heap.size ≤ ·) _ _ (Nat.le_refl _)).freeze _ _, Lib.below_freeze ((Below.refl _ _).alloc (Nat.le_refl _) _) (Nat.le_refl _) _⟩
/-- the operation '==' on two hashes -/
theorem run_eql26 {ρ : Operand → Value} {o : Oper} (x y : Operand) (ty : TypeId) (xs ys : List UInt8) (ho : o.op = .binOp .eql 48 x y ty) (hx : ρ x = .agg (xs.map B).toArray) (hy : ρ y = .agg (ys.map B).toArray) (lx : xs.length = 32) (ly : ys.length = 32) (W : World) :
    (execOp ρ o).run Tryd.prog W = .ok (.value (.bool (xs == ys))) W := by
  have hm : Tryd.prog.eqGuardType Tryd.prog.depth 48 = false := by kernel_rfl
  have h1 := run_eql_bytes (P := Tryd.prog) (t := 48) (e := 5) (N := 32) Tryd.underlying48 (by kernel_rfl) size25e agg25e xs ys lx ly W
  unfold execOp
  simp only [ho, hx, hy, Sem.run_bind, Sem.run_pure, run_eqGuard_agg _ _ _ _ _ _ _ hm, h1, Result.andThen_ok]
theorem run_neq26 {ρ : Operand → Value} {o : Oper} (x y : Operand) (ty : TypeId) (xs ys : List UInt8) (ho : o.op = .binOp .neq 48 x y ty) (hx : ρ x = .agg (xs.map B).toArray) (hy : ρ y = .agg (ys.map B).toArray) (lx : xs.length = 32) (ly : ys.length = 32) (W : World) :
    (execOp ρ o).run Tryd.prog W = .ok (.value (.bool (xs != ys))) W := by
  have hm : Tryd.prog.eqGuardType Tryd.prog.depth 48 = false := by kernel_rfl
  have h1 := run_neq_bytes (P := Tryd.prog) (t := 48) (e := 5) (N := 32) Tryd.underlying48 (by kernel_rfl) size25e agg25e xs ys lx ly W
  unfold execOp
  simp only [ho, hx, hy, Sem.run_bind, Sem.run_pure, run_eqGuard_agg _ _ _ _ _ _ _ hm, h1, Result.andThen_ok]
theorem run_conv_op {P : Program} {ρ : Operand → Value} {o : Oper} {w w' : World} {v : Value} (t u : TypeId) (x : Operand) (ho : o.op = .convert t u x) (vx : Value) (hx : ρ x = vx) (h : (convert t u vx).run P w = .ok v w') : (execOp ρ o).run P w = .ok (.value v) w' := by
  unfold execOp
  simp only [ho, hx, Sem.run_bind, Sem.run_pure, h, Result.andThen_ok]
theorem run_eql34 {ρ : Operand → Value} {o : Oper} (x y : Operand) (ty : TypeId) (xs ys : List UInt8) (ho : o.op = .binOp .eql 150 x y ty) (hx : ρ x = .agg (xs.map B).toArray) (hy : ρ y = .agg (ys.map B).toArray) (lx : xs.length = 64) (ly : ys.length = 64) (W : World) :
    (execOp ρ o).run Tryd.prog W = .ok (.value (.bool (xs == ys))) W := by
  have hm : Tryd.prog.eqGuardType Tryd.prog.depth 150 = false := by kernel_rfl
  have h1 := run_eql_bytes (P := Tryd.prog) (t := 150) (e := 5) (N := 64) Tryd.underlying150 (by kernel_rfl) size25e agg25e xs ys lx ly W
  unfold execOp
  simp only [ho, hx, hy, Sem.run_bind, Sem.run_pure, run_eqGuard_agg _ _ _ _ _ _ _ hm, h1, Result.andThen_ok]
theorem run_eql33 {ρ : Operand → Value} {o : Oper} (x y : Operand) (ty : TypeId) (xs ys : List UInt32) (ho : o.op = .binOp .eql 136 x y ty) (hx : ρ x = .agg (xs.map U).toArray) (hy : ρ y = .agg (ys.map U).toArray) (lx : xs.length = 8) (ly : ys.length = 8) (W : World) :
    (execOp ρ o).run Tryd.prog W = .ok (.value (.bool (xs == ys))) W := by
  have hm : Tryd.prog.eqGuardType Tryd.prog.depth 136 = false := by kernel_rfl
  have h1 := run_eql_words (P := Tryd.prog) (t := 136) (e := 135) (N := 8) Tryd.underlying136 (by kernel_rfl) size32 agg32 xs ys lx ly W
  unfold execOp
  simp only [ho, hx, hy, Sem.run_bind, Sem.run_pure, run_eqGuard_agg _ _ _ _ _ _ _ hm, h1, Result.andThen_ok]
theorem Blk.new_bs {w : World} {g : Nat} {t : TypeId} {C : List Value} (h : Blk w g t C.toArray) : Bs w (fun _ => True) (some ⟨g, 0, none⟩) C := fun _ =>
  ⟨g, 0, rfl, h.lt, trivial, fun j v hv => by rw [Nat.zero_add, h.cell]; simpa using hv⟩
theorem Bs.lt' {w : World} {X : Nat → Prop} {A : Option Addr} {l : List Value} (h : Bs w X A l) : Bs w (· < w.heap.size) A l := h.weak fun _ hb _ => hb
end
end Go.Proofs.YtfhmjgkcpcnkbaaDoor
