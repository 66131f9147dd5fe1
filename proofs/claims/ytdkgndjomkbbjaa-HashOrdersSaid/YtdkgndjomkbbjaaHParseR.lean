/- notaryref08.Parse. -/
import Derived.Test.YtdkgndjomkbbjaaHParse
import Derived.Test.YtdkgndjomkbbjaaOpen
namespace Go.Proofs.Ytdkgndjomkbbjaa
open Go Go.RowKit

set_option maxHeartbeats 1000000 in
theorem digit_any (c : UInt8) (w : World) : Calls Try.prog 78 #[B c] w fun e w' => e = .returned (.int .u8 (digV c : Int)) ∧ w = w' := by
  have hc := u8_lt c
  have hdv : digV c = if 48 ≤ c.toNat ∧ c.toNat ≤ 57 then c.toNat - 48 else if 97 ≤ c.toNat ∧ c.toNat ≤ 102 then c.toNat - 87 else 16 := rfl
  have Hdv := Lib.hid hdv
  clear hdv
  generalize digV c = d at Hdv ⊢
  obtain ⟨k, hk⟩ : ∃ k, c.toNat = k := ⟨_, rfl⟩
  have hB : B c = .int .u8 (k : Int) := by rw [← hk]
  rw [hk] at hc Hdv
  rw [hB]
  clear hB hk
  by_cases h1 : 48 ≤ k
  · by_cases h2 : k ≤ 57
    · go_enter Try.func78, Try.ntmps78
      go_wp2_with fail
      go_ret
      refine ⟨ret_int ?_, rfl⟩
      rw [Hdv.out, if_pos ⟨h1, h2⟩]
      omega
    · by_cases h3 : 97 ≤ k
      · by_cases h4 : k ≤ 102
        · go_enter Try.func78, Try.ntmps78
          go_wp2_with fail
          go_ret
          refine ⟨ret_int ?_, rfl⟩
          rw [Hdv.out, if_neg (fun h => h2 h.2), if_pos ⟨h3, h4⟩]
          omega
        · go_enter Try.func78, Try.ntmps78
          go_wp2_with fail
          go_ret
          refine ⟨ret_int ?_, rfl⟩
          rw [Hdv.out, if_neg (fun h => h2 h.2), if_neg (fun h => h4 h.2)]
          rfl
      · go_enter Try.func78, Try.ntmps78
        go_wp2_with fail
        go_ret
        refine ⟨ret_int ?_, rfl⟩
        rw [Hdv.out, if_neg (fun h => h2 h.2), if_neg (fun h => h3 h.1)]
        rfl
  · go_enter Try.func78, Try.ntmps78
    go_wp2_with fail
    go_ret
    refine ⟨ret_int ?_, rfl⟩
    rw [Hdv.out, if_neg (fun h => h1 h.1), if_neg (by omega)]
    rfl

/-- what is known in the reference's Parse -/
structure RpC (w : World) (s : List UInt8) (zs : Array Value) (i : Nat) (W : World) : Prop where
  res : Blk W w.heap.size 26 zs
  row : Blk W (w.heap.size + 1) 26 ((hq s (2 * i)).map B).toArray
  bel : Below w.heap.size w W

set_option maxHeartbeats 2000000 in
set_option maxRecDepth 100000 in
theorem rparse_any (s : List UInt8) (w : World) (_hs : s.length ≤ 9223372036854775807) :
    Calls Try.prog 55 #[.string (bstr s)] w fun e w' => Below w.heap.size w w' ∧ ((goodText s ∧ e = .returned (.tuple #[.agg ((hq s 64).map B).toArray, .int .i64 0])) ∨ (¬ goodText s ∧ e = .returned (.tuple #[.agg ((List.replicate 32 (0 : UInt8)).map B).toArray, .int .i64 180]))) := by
  obtain ⟨S, hS⟩ : ∃ S, bstr s = S := ⟨_, rfl⟩
  have hSz : S.size = s.length := by rw [← hS]; exact bstr_size s
  rw [hS]
  obtain ⟨zs, hzs⟩ : ∃ zs, zeroHash = zs := ⟨_, rfl⟩
  have hzl : zs.size = 32 := by rw [← hzs]; rfl
  have hzm : ((List.replicate 32 (0 : UInt8)).map B).toArray = zs := hzs
  have hz1 : ∀ v ∈ zs.toList, v.oneCell' = true := by rw [← hzs]; exact oneCell_B _
  rw [hzm]
  obtain ⟨w1, hw1⟩ : ∃ w1, w.alloc (.cells zs 26) = w1 := ⟨_, rfl⟩
  obtain ⟨w2, hw2⟩ : ∃ w2, w1.alloc (.cells zs 26) = w2 := ⟨_, rfl⟩
  have hs1 : w1.heap.size = w.heap.size + 1 := by rw [← hw1]; simp
  have k0 : Blk w1 w.heap.size 26 zs := by rw [← hw1]; exact Blk.new _ _ _
  have B1 : Below w.heap.size w w1 := by rw [← hw1]; exact (Below.refl _ _).alloc (Nat.le_refl _) _
  have k1 : Blk w2 w.heap.size 26 zs := by rw [← hw2]; exact k0.alloc _
  have k2 : Blk w2 (w.heap.size + 1) 26 zs := by rw [← hw2]; exact Blk.new' _ _ _ _ hs1.symm
  have B2 : Below w.heap.size w w2 := by rw [← hw2]; exact B1.alloc (by omega) _
  have Hzs := Lib.hid hzs
  have Hzl := Lib.hid hzl
  have Hz1 := Lib.hid hz1
  have Hzm := Lib.hid hzm
  have Hw1 := Lib.hid hw1
  have Hw2 := Lib.hid hw2
  have Hs1 := Lib.hid hs1
  have HS := Lib.hid hS
  clear hzs hzl hz1 hzm hw1 hw2 hs1 hS
  by_cases h64 : s.length = 64
  · rw [h64] at hSz
    have g2 : ((S.size : Nat) : Int) = 64 := by rw [hSz]; rfl
    go_enter Try.func55, Try.ntmps55
    go_wp2_with (first
      | ((with_reducible show wpList _ _ _ (⟨some 2, .alloc _, _, _, _, _⟩ :: _) _ _); refine wpList_run rfl (.pointer (some ⟨w.heap.size, 0, none⟩)) w1 (by rw [← Hw1.out, ← Hzs.out]; rfl) ?_; simp only [Act.put])
      | ((with_reducible show wpList _ _ _ (⟨some 4, .alloc _, _, _, _, _⟩ :: _) _ _); refine wpList_run rfl (.pointer (some ⟨w.heap.size + 1, 0, none⟩)) w2 (by rw [← Hw2.out, ← Hzs.out, ← Hs1.out]; rfl) ?_; simp only [Act.put]))
    go_loopw [5] (fun v wr => ∃ (i : Nat), i ≤ 32 ∧ v = .int .i64 i ∧ (∀ j, j < 2 * i → digV (s.getD j 0) < 16) ∧ RpC w s zs i wr) (fun v _ => 32 - (intOf v).toNat)
    case atStart =>
      refine ⟨0, by omega, rfl, fun j hj => absurd hj (by omega), k1, ?_, B2⟩
      rw [hq_zero, Hzm.out]; exact k2
    case round =>
      clear k0 k1 k2 B1 B2
      obtain ⟨i, hi32, rfl, hgood, hC⟩ := hrel
      by_cases hli : i < 32
      · have hix := fun W => run_index_bstr s (2 * i) (by omega) W
        have hiy := fun W => run_index_bstr s (2 * i + 1) (by omega) W
        rw [HS.out] at hix hiy
        obtain ⟨c, hc⟩ : ∃ c, s.getD (2 * i) 0 = c := ⟨_, rfl⟩
        obtain ⟨d, hd⟩ : ∃ d, s.getD (2 * i + 1) 0 = d := ⟨_, rfl⟩
        rw [hc, show ((2 * i : Nat) : Int) = 2 * (i : Int) by omega] at hix
        rw [hd, show ((2 * i + 1 : Nat) : Int) = 2 * (i : Int) + 1 by omega] at hiy
        have hcd := digit_any c wr
        have hdd := digit_any d wr
        obtain ⟨x, hx⟩ : ∃ x, digV c = x := ⟨_, rfl⟩
        obtain ⟨y, hy⟩ : ∃ y, digV d = y := ⟨_, rfl⟩
        have hx16 : x ≤ 16 := by rw [← hx]; exact digV_le c
        have hy16 : y ≤ 16 := by rw [← hy]; exact digV_le d
        rw [hx] at hcd
        rw [hy] at hdd
        have htwo := hq_two s i hli
        rw [hc, hd, hx, hy] at htwo
        have Hc := Lib.hid hc
        have Hd := Lib.hid hd
        have Hx := Lib.hid hx
        have Hy := Lib.hid hy
        have Htwo := Lib.hid htwo
        have Hgood := Lib.hid hgood
        have Hcd := Lib.hid hcd
        have Hdd := Lib.hid hdd
        clear hc hd hx hy htwo hgood hcd hdd
        have hbad : 16 ≤ x ∨ 16 ≤ y → ¬ goodText s := fun h hg => by
          have h1 := hg.2 (2 * i) (by omega)
          have h2 := hg.2 (2 * i + 1) (by omega)
          rw [Hc.out, Hx.out] at h1
          rw [Hd.out, Hy.out] at h2
          omega
        have Hbad := Lib.hid hbad
        clear hbad
        have hcells : (hq s (2 * i)).length = 32 := length_hq _ _
        obtain ⟨o, ho⟩ : ∃ o, ((hq s (2 * i)).map B).toArray[i]? = some o := ⟨_, cellB _ _ (by omega)⟩
        have hce : wr.cell? ⟨w.heap.size + 1, i, none⟩ = some o := by rw [hC.row.cell]; exact ho
        have hfz := hC.row.frozen i
        have k3 := hC.res
        have Hcl := Lib.hid hcells
        clear hcells ho
        by_cases hxg : x < 16
        · by_cases hyg : y < 16
          · go_wp2_with (first
              | (go_at_call_of 78 (B c); with_reducible refine Hcd.out.mono ?_; rintro e w3 ⟨rfl, rfl⟩)
              | (go_at_call_of 78 (B d); with_reducible refine Hdd.out.mono ?_; rintro e w3 ⟨rfl, rfl⟩))
            have hv : (Value.int .u8 (16 * (x : Int) + (y : Int))) = B (UInt8.ofNat (16 * x + y)) := by
              simp only [B, UInt8.toNat_ofNat']; congr 1; omega
            rw [hv]
            have hC5 : RpC w s zs (i + 1) (wr.setCell ⟨w.heap.size + 1, i, none⟩ (B (UInt8.ofNat (16 * x + y)))) :=
              ⟨hC.res.apart (by omega) _, by rw [Htwo.out, ← setB]; exact hC.row.set_ i _, hC.bel.setCell (p := ⟨w.heap.size + 1, i, none⟩) (by simp) _⟩
            refine ⟨⟨i + 1, by omega, by go_num, fun j hj => ?_, hC5⟩, by simp [intOf]; omega⟩
            by_cases hj0 : j < 2 * i
            · exact Hgood.out j hj0
            · by_cases hj1 : j = 2 * i
              · rw [hj1, Hc.out, Hx.out]; exact hxg
              · obtain rfl : j = 2 * i + 1 := by omega
                rw [Hd.out, Hy.out]; exact hyg
          · obtain rfl : y = 16 := by omega
            go_wp2_with (first
                | (go_at_call_of 78 (B c); with_reducible refine Hcd.out.mono ?_; rintro e w3 ⟨rfl, rfl⟩)
                | (go_at_call_of 78 (B d); with_reducible refine Hdd.out.mono ?_; rintro e w3 ⟨rfl, rfl⟩)
                | ((with_reducible show wpList _ _ _ (⟨some 33, .build _ _, _, _, _, _⟩ :: _) _ _); refine wpList_run0 rfl (.agg zs) (by rw [← Hzs.out]; kernel_rfl) ?_; simp only [Act.put])
                | ((with_reducible show wpList _ _ _ (⟨none, .store _ _ _, _, _, _, _⟩ :: _) _ _); refine wpList_store_blk rfl 26 (.tmp 2) (.tmp 33) rfl 32 size26 w.heap.size zs rfl rfl Hzl.out Hz1.out 26 _ k3 Hzl.out ?_; simp only [Act.put]))
            refine bodyPost_ret (tuple_cell rfl _ _ w.heap.size zs _ _ rfl (k3.setRow_ _) Try.underlying26 (by rw [Hzl.out]; exact info26)) rfl ⟨?_, .inr ⟨Hbad.out (.inr (by omega)), rfl⟩⟩
            exact below_setRow hC.bel (Nat.le_refl _) _
        · obtain rfl : x = 16 := by omega
          go_wp2_with (first
              | (go_at_call_of 78 (B c); with_reducible refine Hcd.out.mono ?_; rintro e w3 ⟨rfl, rfl⟩)
              | (go_at_call_of 78 (B d); with_reducible refine Hdd.out.mono ?_; rintro e w3 ⟨rfl, rfl⟩)
              | ((with_reducible show wpList _ _ _ (⟨some 33, .build _ _, _, _, _, _⟩ :: _) _ _); refine wpList_run0 rfl (.agg zs) (by rw [← Hzs.out]; kernel_rfl) ?_; simp only [Act.put])
              | ((with_reducible show wpList _ _ _ (⟨none, .store _ _ _, _, _, _, _⟩ :: _) _ _); refine wpList_store_blk rfl 26 (.tmp 2) (.tmp 33) rfl 32 size26 w.heap.size zs rfl rfl Hzl.out Hz1.out 26 _ k3 Hzl.out ?_; simp only [Act.put]))
          refine bodyPost_ret (tuple_cell rfl _ _ w.heap.size zs _ _ rfl (k3.setRow_ _) Try.underlying26 (by rw [Hzl.out]; exact info26)) rfl ⟨?_, .inr ⟨Hbad.out (.inl (by omega)), rfl⟩⟩
          exact below_setRow hC.bel (Nat.le_refl _) _
      · obtain rfl : i = 32 := by omega
        obtain ⟨r, hr⟩ : ∃ r, hq s 64 = r := ⟨_, rfl⟩
        have hrl : r.length = 32 := by rw [← hr]; exact length_hq _ _
        have hrow := hC.row
        rw [show 2 * 32 = 64 from rfl, hr] at hrow
        have hld := run_load_blk (P := Try.prog) (agg26 _) (size26 _) (w.heap.size + 1) (r.map B).toArray (by simp [hrl]) hrow
        have hyes : goodText s := ⟨h64, hgood⟩
        have Hyes := Lib.hid hyes
        have Hr := Lib.hid hr
        have Hrl := Lib.hid hrl
        have Hld := Lib.hid hld
        clear hyes hr hrl hld hgood
        go_wp2_with (first
          | ((with_reducible show wpList _ _ _ (⟨some 40, .load _ _, _, _, _, _⟩ :: _) _ _); refine wpList_load rfl 26 (.tmp 4) rfl (w.heap.size + 1) 0 rfl (r.map B).toArray Hld.out ?_; simp only [Act.put])
          | ((with_reducible show wpList _ _ _ (⟨none, .store _ _ _, _, _, _, _⟩ :: _) _ _); refine wpList_store_blk rfl 26 (.tmp 2) (.tmp 40) rfl 32 size26 w.heap.size (r.map B).toArray rfl rfl (by simp [Hrl.out]) (oneCell_B _) 26 _ hC.res Hzl.out ?_; simp only [Act.put]))
        refine bodyPost_ret (tuple_cell rfl _ _ w.heap.size (r.map B).toArray _ _ rfl (hC.res.setRow_ _) Try.underlying26 (by rw [show (r.map B).toArray.size = 32 by simp [Hrl.out]]; exact info26)) rfl ⟨?_, .inl ⟨Hyes.out, by rw [Hr.out]; rfl⟩⟩
        exact below_setRow hC.bel (Nat.le_refl _) _
  · have hno : ¬ goodText s := fun h => h64 h.1
    have hd1 : ((S.size : Int) == 64) = false := by simp; omega
    have Hno := Lib.hid hno
    clear hno
    go_enter Try.func55, Try.ntmps55
    go_wp2_with (first
      | ((with_reducible show wpList _ _ _ (⟨some 2, .alloc _, _, _, _, _⟩ :: _) _ _); refine wpList_run rfl (.pointer (some ⟨w.heap.size, 0, none⟩)) w1 (by rw [← Hw1.out, ← Hzs.out]; rfl) ?_; simp only [Act.put])
      | ((with_reducible show wpList _ _ _ (⟨some 11, .build _ _, _, _, _, _⟩ :: _) _ _); refine wpList_run0 rfl (.agg zs) (by rw [← Hzs.out]; kernel_rfl) ?_; simp only [Act.put])
      | ((with_reducible show wpList _ _ _ (⟨none, .store _ _ _, _, _, _, _⟩ :: _) _ _); refine wpList_store_blk rfl 26 (.tmp 2) (.tmp 11) rfl 32 size26 w.heap.size zs rfl rfl Hzl.out Hz1.out 26 _ k0 Hzl.out ?_; simp only [Act.put]))
    refine bodyPost_ret (tuple_cell rfl _ _ w.heap.size zs _ _ rfl (k0.setRow_ _) Try.underlying26 (by rw [Hzl.out]; exact info26)) rfl ⟨?_, .inr ⟨Hno.out, rfl⟩⟩
    exact below_setRow B1 (Nat.le_refl _) _
end Go.Proofs.Ytdkgndjomkbbjaa
