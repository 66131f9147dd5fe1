/- hash.Parse. -/
import Derived.Test.YtdkgndjomkbbjaaHDig
import Derived.Test.YtdkgndjomkbbjaaHTop
import Derived.Lib.OthersKept
import Derived.Lib.Walk
import Derived.Lib.Strings
namespace Go.Proofs.Ytdkgndjomkbbjaa
open Go Go.RowKit

set_option maxHeartbeats 1000000 in
set_option maxRecDepth 100000 in
theorem index_any (g : Nat) (x : UInt8) (w : World) (h : Bs w (fun _ => True) (some ⟨g, 0, none⟩) (hexs.map B)) :
    Calls Try.prog 77 #[.slice (some ⟨g, 0, none⟩) 16 16, B x] w fun e w' => e = .returned (.int .i64 (Lib.indexByte hexs x)) ∧ w = w' := by
  have hc : ∀ i, i < 16 → w.cell? ⟨g, 0 + i, none⟩ = some (.int .u8 ((hexs.map fun c => (c.toNat : Int)).getD i 0)) := fun i hi => by
    obtain ⟨b, o, hA, _, _, hcell⟩ := h (by simp [hexs])
    cases hA
    have hl : i < hexs.length := hi
    refine hcell i _ ?_
    rw [List.getElem?_map, List.getElem?_eq_getElem hl, List.getD_eq_getElem?_getD, List.getElem?_map, List.getElem?_eq_getElem hl]
    rfl
  have hrun := Lib.run_indexByteSlice (P := Try.prog) w g 0 16 16 (hexs.map fun c => (c.toNat : Int)) rfl hc (x.toNat : Int)
  have e1 : Lib.bytesOf (hexs.map fun c => (c.toNat : Int)) = hexs := by decide
  have e2 : ((x.toNat : Int)).toNat.toUInt8 = x := by simp
  rw [e1, e2] at hrun
  have Hrun := Lib.hid hrun
  clear hrun e1 e2 hc h
  go_enter Try.func77, Try.ntmps77
  go_wp2
  rw [run_callFunc_extern Try.func83 (by kernel_rfl) (by kernel_rfl) (by kernel_rfl) (e := Extern.BytealgIndexByte.indexByte) (by kernel_rfl), Hrun.out]
  simp only [Result.andThen]
  rw [Oper.upon_value]
  go_wp2
  go_ret
  exact ⟨rfl, rfl⟩

theorem bstr_size (s : List UInt8) : (bstr s).size = s.length := by simp [bstr, ByteArray.size]
theorem bstr_get (s : List UInt8) (q : Nat) (h : q < (bstr s).size) : (bstr s)[q] = s.getD q 0 := by
  have h' : q < s.length := by rwa [bstr_size] at h
  rw [List.getD_eq_getElem?_getD, List.getElem?_eq_getElem h']
  rfl
theorem run_index_bstr (s : List UInt8) (q : Nat) (h : q < s.length) (W : World) : (Instr.index 9 (.string (bstr s)) (.int .i64 (q : Int))).run Try.prog W = .ok (B (s.getD q 0)) W := by
  have hq : q < (bstr s).size := by rw [bstr_size]; exact h
  rw [run_index_string W _ (bstr s) .i64 q Try.underlying9, dif_pos ⟨by omega, by omega⟩, ← bstr_get s q hq]
  rfl

/-- what is known in Parse -/
structure PaC (w : World) (s : List UInt8) (zs : Array Value) (q q' : Nat) (W : World) : Prop where
  res : Blk W w.heap.size 26 zs
  row : Blk W (w.heap.size + 1) 26 ((hq s q).map B).toArray
  it : W.heap[w.heap.size + 2]? = some (.stringIter (bstr s) q')
  bel : Below w.heap.size w W
theorem PaC.step {w W W' : World} {s : List UInt8} {zs : Array Value} {q q' : Nat} (h : PaC w s zs q q' W) (hb : Below W.heap.size W W') : PaC w s zs q q' W' :=
  ⟨h.res.below hb h.res.lt, h.row.below hb h.row.lt, (hb.block _ (Array.getElem?_eq_some_iff.1 h.it).1).trans h.it, h.bel.trans (hb.mono h.bel.size)⟩
theorem PaC.iter {w W : World} {s : List UInt8} {zs : Array Value} {q q' : Nat} (h : PaC w s zs q q' W) (q2 : Nat) : PaC w s zs q q2 (W.iterAt (w.heap.size + 2) (bstr s) q2) :=
  ⟨(Lib.iterAt_other W _ _ _ _ (by omega)).trans h.res, (Lib.iterAt_other W _ _ _ _ (by omega)).trans h.row, Lib.iterAt_heap W _ _ _ _ h.it, Lib.below_iterAt h.bel (by omega) _ _⟩

set_option maxHeartbeats 2000000 in
set_option maxRecDepth 100000 in
theorem parse_any (s : List UInt8) (w : World) (_hs : s.length ≤ 9223372036854775807) :
    Calls Try.prog 54 #[.string (bstr s)] w fun e w' => Below w.heap.size w w' ∧ ((goodText s ∧ e = .returned (.tuple #[.agg ((hq s 64).map B).toArray, .int .i64 0])) ∨ (¬ goodText s ∧ e = .returned (.tuple #[.agg ((List.replicate 32 (0 : UInt8)).map B).toArray, .int .i64 180]))) := by
  obtain ⟨S, hS⟩ : ∃ S, bstr s = S := ⟨_, rfl⟩
  have hSz : S.size = s.length := by rw [← hS]; exact bstr_size s
  rw [hS]
  obtain ⟨zs, hzs⟩ : ∃ zs, zeroHash = zs := ⟨_, rfl⟩
  have hzl : zs.size = 32 := by rw [← hzs]; rfl
  have hzm : ((List.replicate 32 (0 : UInt8)).map B).toArray = zs := hzs
  have hz1 : ∀ v ∈ zs.toList, v.oneCell' = true := by rw [← hzs]; exact oneCell_B _
  rw [hzm]
  obtain ⟨w1, hw1⟩ : ∃ w1, w.alloc (.cells zs 26) = w1 := ⟨_, rfl⟩
  obtain ⟨w2, hw2⟩ : ∃ w2, w1.alloc (.cells zs 26) = w2 := ⟨_, rfl⟩
  have hs1 : w1.heap.size = w.heap.size + 1 := by rw [← hw1]; simp
  have hs2 : w2.heap.size = w.heap.size + 2 := by rw [← hw2]; simp [hs1]
  have k1 : Blk w2 w.heap.size 26 zs := by rw [← hw2, ← hw1]; exact (Blk.new _ _ _).alloc _
  have k2 : Blk w2 (w.heap.size + 1) 26 zs := by rw [← hw2]; exact Blk.new' _ _ _ _ hs1.symm
  have B2 : Below w.heap.size w w2 := by rw [← hw2, ← hw1]; exact ((Below.refl _ _).alloc (Nat.le_refl _) _).alloc (by simp) _
  have Hzs := Lib.hid hzs
  have Hzl := Lib.hid hzl
  have Hz1 := Lib.hid hz1
  have Hzm := Lib.hid hzm
  have Hw1 := Lib.hid hw1
  have Hw2 := Lib.hid hw2
  have Hs1 := Lib.hid hs1
  have HS := Lib.hid hS
  clear hzs hzl hz1 hzm hw1 hw2 hs1 hS
  by_cases h64 : s.length = 64
  · rw [h64] at hSz
    have g2 : ((S.size : Nat) : Int) = 64 := by rw [hSz]; rfl
    go_enter Try.func54, Try.ntmps54
    go_wp2_with (first
      | ((with_reducible show wpList _ _ _ (⟨some 2, .alloc _, _, _, _, _⟩ :: _) _ _); refine wpList_run rfl (.pointer (some ⟨w.heap.size, 0, none⟩)) w1 (by rw [← Hw1.out, ← Hzs.out]; rfl) ?_; simp only [Act.put])
      | ((with_reducible show wpList _ _ _ (⟨some 4, .alloc _, _, _, _, _⟩ :: _) _ _); refine wpList_run rfl (.pointer (some ⟨w.heap.size + 1, 0, none⟩)) w2 (by rw [← Hw2.out, ← Hzs.out, ← Hs1.out]; rfl) ?_; simp only [Act.put]))
    go_loopw [] (fun wr => ∃ (q : Nat), q ≤ 64 ∧ (∀ j, j < q → digV (s.getD j 0) < 16) ∧ PaC w s zs q q wr) (fun wr => 64 - wr.iterPos (w.heap.size + 2))
    case atStart =>
      refine ⟨0, by omega, fun j hj => absurd hj (by omega), k1.alloc _, ?_, ?_, B2.alloc (by omega) _⟩
      · rw [hq_zero, Hzm.out]; exact k2.alloc _
      · rw [HS.out, ← hs2]; exact World.iter_heap w2 S 0
    case round =>
      clear k1 k2 B2
      obtain ⟨q, hq64, hgood, hC⟩ := hrel
      have hit := hC.it
      rw [HS.out] at hit
      by_cases hlq : q < 64
      · have hp : q < S.size := by omega
        have hix := fun W => run_index_bstr s q (by omega) W
        rw [HS.out] at hix
        obtain ⟨c, hc⟩ : ∃ c, s.getD q 0 = c := ⟨_, rfl⟩
        rw [hc] at hix
        by_cases hd : digV c < 16
        · have hSc : S[q] = c := by subst hc; rw [← bstr_get s q (by rw [bstr_size]; omega)]; congr 1; exact HS.out.symm
          have hnx := fun ty => Lib.run_next_ascii_at (P := Try.prog) wr (w.heap.size + 2) S q ty hit hp (by rw [hSc]; exact digV_ascii c hd)
          have hC1 := hC.iter (q + 1)
          rw [HS.out] at hC1
          generalize S[q].toNat = r at hnx
          generalize wr.iterAt (w.heap.size + 2) S (q + 1) = W1 at hnx hC1
          obtain ⟨w3, hcv, hbs, hb3⟩ := conv_new W1 (hexs.map B).toArray hexs 16 rfl rfl
          have hC3 := hC1.step hb3
          have hidx := index_any W1.heap.size c w3 (hbs.weak fun _ _ _ => trivial)
          rw [index_digV, if_pos hd] at hidx
          have Hc := Lib.hid hc
          have Hcv := Lib.hid hcv
          have Hhit := Lib.hid hit
          clear hc hcv hit hSc hbs hb3 hC1
          go_wp2_with ((with_reducible show wpList _ _ _ (⟨some 17, .convert _ _ _, _, _, _, _⟩ :: _) _ _); refine wpList_run rfl _ w3 (run_conv_op _ _ (.tmp 16) rfl _ rfl Hcv.out) ?_; simp only [Act.put])
          refine hidx.mono ?_
          rintro e w4 ⟨rfl, rfl⟩
          obtain ⟨x, hx⟩ : ∃ x, cv s q (q / 2) = x := ⟨_, rfl⟩
          have hx16 : x < 16 := by
            rw [← hx]
            by_cases h0 : q = 0
            · subst h0; simp [cv]
            · exact cv_half s q (hgood (q - 1) (by omega))
          have hce : w3.cell? ⟨w.heap.size + 1, q / 2, none⟩ = some (.int .u8 (x : Int)) := by
            rw [hC3.row.cell, cellB _ _ (by rw [length_hq]; omega), hq_getD s q _ (by omega), hx]
            simp only [B, UInt8.toNat_ofNat']
            congr 2
            omega
          have hfz := hC3.row.frozen (q / 2)
          obtain ⟨d, hdd⟩ : ∃ d, digV c = d := ⟨_, rfl⟩
          rw [hdd] at hd ⊢
          have htd : (q : Int).tdiv 2 = ((q / 2 : Nat) : Int) := by rw [Int.tdiv_eq_ediv_of_nonneg (by omega)]; omega
          have hq2 : q / 2 < 32 := by omega
          obtain ⟨h2, hh2⟩ : ∃ h2, q / 2 = h2 := ⟨_, rfl⟩
          rw [hh2] at htd hce hfz hq2
          have Hh2 := Lib.hid hh2
          have Hx := Lib.hid hx
          have Hdd := Lib.hid hdd
          have Hgood := Lib.hid hgood
          clear hh2 hx hdd hgood hnx hix
          go_wp2_with fail
          have hor : bits .or .u8 ((x : Int) * 16) (d : Int) = ((16 * x + d : Nat) : Int) := by
            have e : (x : Int) * 16 = ((x * 16 : Nat) : Int) := by omega
            rw [e, u8_or_nat _ _ (by omega) (by omega)]
            congr 1
            have := Nat.two_pow_add_eq_or_of_lt (i := 4) (b := d) (by omega) x
            rw [Nat.mul_comm] at this
            rw [← this]; omega
          have hv : (Value.int .u8 (bits .or .u8 ((x : Int) * 16) (d : Int))) = B (UInt8.ofNat (16 * x + d)) := by
            rw [hor]; simp only [B, UInt8.toNat_ofNat']; congr 2; omega
          rw [hv]
          have hsucc := hq_succ s q (by omega)
          rw [Hc.out, Hdd.out, Hx.out, Hh2.out] at hsucc
          have hC5 : PaC w s zs (q + 1) (q + 1) (w3.setCell ⟨w.heap.size + 1, h2, none⟩ (B (UInt8.ofNat (16 * x + d)))) :=
            ⟨hC3.res.apart (by omega) _, by rw [hsucc, ← setB]; exact hC3.row.set_ h2 _, (Below.heap_setCell w3 ⟨w.heap.size + 1, h2, none⟩ _ (w.heap.size + 2) (by simp)).trans hC3.it, hC3.bel.setCell (p := ⟨w.heap.size + 1, h2, none⟩) (by simp) _⟩
          refine ⟨⟨q + 1, by omega, fun j hj => ?_, hC5⟩, ?_⟩
          · by_cases hjq : j < q
            · exact Hgood.out j hjq
            · obtain rfl : j = q := by omega
              rw [Hc.out, Hdd.out]; exact hd
          · simp only [World.iterPos, hC5.it, hC.it]
            omega
        · obtain ⟨wd, hwd⟩ : ∃ wd, q + (Utf8.decode S q).2 = wd := ⟨_, rfl⟩
          have hnx := fun ty => Lib.run_next_any_at (P := Try.prog) wr (w.heap.size + 2) S q ty hit hp
          rw [hwd] at hnx
          have hC1 := hC.iter wd
          rw [HS.out] at hC1
          generalize (Utf8.decode S q).1 = r at hnx
          generalize wr.iterAt (w.heap.size + 2) S wd = W1 at hnx hC1
          obtain ⟨w3, hcv, hbs, hb3⟩ := conv_new W1 (hexs.map B).toArray hexs 16 rfl rfl
          have hC3 := hC1.step hb3
          have hidx := index_any W1.heap.size c w3 (hbs.weak fun _ _ _ => trivial)
          rw [index_digV, if_neg hd] at hidx
          have hno : ¬ goodText s := fun h => hd (by rw [← hc]; exact h.2 q hlq)
          have Hno := Lib.hid hno
          have Hc := Lib.hid hc
          have Hcv := Lib.hid hcv
          have Hhit := Lib.hid hit
          have Hwd := Lib.hid hwd
          clear hc hcv hit hbs hb3 hC1 hno hwd
          go_wp2_with ((with_reducible show wpList _ _ _ (⟨some 17, .convert _ _ _, _, _, _, _⟩ :: _) _ _); refine wpList_run rfl _ w3 (run_conv_op _ _ (.tmp 16) rfl _ rfl Hcv.out) ?_; simp only [Act.put])
          refine hidx.mono ?_
          rintro e w4 ⟨rfl, rfl⟩
          have k3 := hC3.res
          clear hnx hix hC
          go_wp2_with (first
            | ((with_reducible show wpList _ _ _ (⟨some 24, .build _ _, _, _, _, _⟩ :: _) _ _); refine wpList_run0 rfl (.agg zs) (by rw [← Hzs.out]; kernel_rfl) ?_; simp only [Act.put])
            | ((with_reducible show wpList _ _ _ (⟨none, .store _ _ _, _, _, _, _⟩ :: _) _ _); refine wpList_store_blk rfl 26 (.tmp 2) (.tmp 24) rfl 32 size26 w.heap.size zs rfl rfl Hzl.out Hz1.out 26 _ k3 Hzl.out ?_; simp only [Act.put]))
          refine bodyPost_ret (tuple_cell rfl _ _ w.heap.size zs _ _ rfl (k3.setRow_ _) Try.underlying26 (by rw [Hzl.out]; exact info26)) rfl ⟨?_, .inr ⟨Hno.out, rfl⟩⟩
          exact below_setRow hC3.bel (Nat.le_refl _) _
      · obtain rfl : q = 64 := by omega
        have hnx := fun ty => Lib.run_next_end_at (P := Try.prog) wr (w.heap.size + 2) S 64 ty hit (by omega)
        obtain ⟨r, hr⟩ : ∃ r, hq s 64 = r := ⟨_, rfl⟩
        have hrl : r.length = 32 := by rw [← hr]; exact length_hq _ _
        have hrow := hC.row
        rw [hr] at hrow
        have hld := run_load_blk (P := Try.prog) (agg26 _) (size26 _) (w.heap.size + 1) (r.map B).toArray (by simp [hrl]) hrow
        have hyes : goodText s := ⟨h64, hgood⟩
        have Hyes := Lib.hid hyes
        have Hr := Lib.hid hr
        have Hrl := Lib.hid hrl
        have Hld := Lib.hid hld
        clear hyes hr hrl hld hgood
        go_wp2_with (first
          | ((with_reducible show wpList _ _ _ (⟨some 36, .load _ _, _, _, _, _⟩ :: _) _ _); refine wpList_load rfl 26 (.tmp 4) rfl (w.heap.size + 1) 0 rfl (r.map B).toArray Hld.out ?_; simp only [Act.put])
          | ((with_reducible show wpList _ _ _ (⟨none, .store _ _ _, _, _, _, _⟩ :: _) _ _); refine wpList_store_blk rfl 26 (.tmp 2) (.tmp 36) rfl 32 size26 w.heap.size (r.map B).toArray rfl rfl (by simp [Hrl.out]) (oneCell_B _) 26 _ hC.res Hzl.out ?_; simp only [Act.put]))
        refine bodyPost_ret (tuple_cell rfl _ _ w.heap.size (r.map B).toArray _ _ rfl (hC.res.setRow_ _) Try.underlying26 (by rw [show (r.map B).toArray.size = 32 by simp [Hrl.out]]; exact info26)) rfl ⟨?_, .inl ⟨Hyes.out, by rw [Hr.out]; rfl⟩⟩
        exact below_setRow hC.bel (Nat.le_refl _) _
  · have hno : ¬ goodText s := fun h => h64 h.1
    have hd1 : ((S.size : Int) == 64) = false := by simp; omega
    have Hno := Lib.hid hno
    clear hno
    go_enter Try.func54, Try.ntmps54
    go_wp2_with (first
      | ((with_reducible show wpList _ _ _ (⟨some 2, .alloc _, _, _, _, _⟩ :: _) _ _); refine wpList_run rfl (.pointer (some ⟨w.heap.size, 0, none⟩)) w1 (by rw [← Hw1.out, ← Hzs.out]; rfl) ?_; simp only [Act.put])
      | ((with_reducible show wpList _ _ _ (⟨some 4, .alloc _, _, _, _, _⟩ :: _) _ _); refine wpList_run rfl (.pointer (some ⟨w.heap.size + 1, 0, none⟩)) w2 (by rw [← Hw2.out, ← Hzs.out, ← Hs1.out]; rfl) ?_; simp only [Act.put])
      | ((with_reducible show wpList _ _ _ (⟨some 10, .build _ _, _, _, _, _⟩ :: _) _ _); refine wpList_run0 rfl (.agg zs) (by rw [← Hzs.out]; kernel_rfl) ?_; simp only [Act.put])
      | ((with_reducible show wpList _ _ _ (⟨none, .store _ _ _, _, _, _, _⟩ :: _) _ _); refine wpList_store_blk rfl 26 (.tmp 2) (.tmp 10) rfl 32 size26 w.heap.size zs rfl rfl Hzl.out Hz1.out 26 _ k1 Hzl.out ?_; simp only [Act.put]))
    refine bodyPost_ret (tuple_cell rfl _ _ w.heap.size zs _ _ rfl (k1.setRow_ _) Try.underlying26 (by rw [Hzl.out]; exact info26)) rfl ⟨?_, .inr ⟨Hno.out, rfl⟩⟩
    exact below_setRow B2 (Nat.le_refl _) _
end Go.Proofs.Ytdkgndjomkbbjaa
