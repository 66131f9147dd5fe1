/- notarylaw09.TreeTogether. -/
import Derived.Test.YtgcbdnoniikboaaTTog
import Derived.Test.YtgcbdnoniikboaaTKnown
namespace Go.Proofs.Ytgcbdnoniikboaa
open Go Go.RowKit

set_option maxHeartbeats 4000000 in
set_option maxRecDepth 100000 in
theorem treetogether_any (hs : List (List UInt8)) (A : Option Addr) (n c : Nat) (w : World) (h : Hs w (fun _ => True) A n c hs) :
    Calls Try.prog 6 #[.slice A n c] w fun e w' => e = .returned (.bool true) ∧ Below w.heap.size w w' := by
  by_cases hbig : 200 < n
  · have hd : decide ((200 : Int) < (n : Int)) = true := by simp; omega
    clear h
    go_enter Try.func6, Try.ntmps6
    go_wp2_with (go_at_call 15; refine (known9_any _).mono ?_; rintro e w2 ⟨rfl, hb2⟩)
    go_ret
    exact ⟨rfl, hb2⟩
  have hn : n ≤ 4398046511104 := by omega
  have hd : decide ((200 : Int) < (n : Int)) = false := by simp; omega
  obtain ⟨zs, hzs⟩ : ∃ zs, zeroHash = zs := ⟨_, rfl⟩
  have hzl : zs.size = 32 := by rw [← hzs]; rfl
  have hroom := h.sl.room
  have hmax := h.sl.max
  unfold maxLen at hmax
  have hlen := h.len
  have hall := h.all
  have hmore := rootL_more hs
  have hof := tof_any hs A n c w h hn
  have htg := fun W (hW : Below w.heap.size w W) => together_any hs A n c W (h.step hW) hn
  have hrl : (rootL hs).length = 32 := length_rootL hs h.all
  obtain ⟨r, hr⟩ : ∃ r, rootL hs = r := ⟨_, rfl⟩
  rw [hr] at hof htg hrl hmore
  rw [hlen] at hmore
  have Hh := Lib.hid h
  have Hzs := Lib.hid hzs
  have Hzl := Lib.hid hzl
  have Hrl := Lib.hid hrl
  have Hlen := Lib.hid hlen
  have Hall := Lib.hid hall
  have Hmore := Lib.hid hmore
  have Hof := Lib.hid hof
  have Htg := Lib.hid htg
  clear h hzs hzl hrl hlen hall hmore hof htg hr hbig
  go_enter Try.func6, Try.ntmps6
  go_wp2_with fail
  refine Hof.out.mono ?_
  rintro e w1 ⟨rfl, hb1⟩
  have hb2 : Below w.heap.size w (w1.alloc (.cells zs 34)) := hb1.alloc hb1.size _
  have k2 := Blk.new w1 34 zs
  have hb3 : Below w.heap.size w ((w1.alloc (.cells zs 34)).setRow w1.heap.size (r.map B).toArray) := below_setRow hb2 hb1.size _
  have k3 := k2.setRow_ (r.map B).toArray
  obtain ⟨w3, hw3⟩ : ∃ w3, (w1.alloc (.cells zs 34)).setRow w1.heap.size (r.map B).toArray = w3 := ⟨_, rfl⟩
  rw [hw3] at hb3 k3
  clear hd Hof
  go_wp2_with (first
    | ((with_reducible show wpList _ _ _ (⟨some 3, .alloc _, _, _, _, _⟩ :: _) _ _); refine wpList_run rfl (.pointer (some ⟨w1.heap.size, 0, none⟩)) (w1.alloc (.cells zs 34)) (by rw [← Hzs.out]; rfl) ?_; simp only [Act.put])
    | ((with_reducible show wpList _ _ _ (⟨none, .store _ _ _, _, _, _, _⟩ :: _) _ _); refine wpList_store_blk rfl 34 (.tmp 3) (.tmp 12) rfl 32 size26 w1.heap.size (r.map B).toArray rfl rfl (by simp [Hrl.out]) (oneCell_B _) 34 _ k2 Hzl.out ?_; simp only [Act.put]; rw [hw3]))
  refine (Htg.out _ hb3).mono ?_
  rintro e w4 ⟨rfl, hb4⟩
  have k4 := k3.below hb4 k3.lt
  have hB4 := hb3.trans (hb4.mono hb3.size)
  clear hb1 hb2 hb3 hb4 k2 k3 hw3 Htg
  have k5 := Blk.new w4 34 zs
  have k4a := k4.alloc (.cells zs 34)
  have k6 := k5.setRow_ (r.map B).toArray
  have k4b : Blk ((w4.alloc (.cells zs 34)).setRow w4.heap.size (r.map B).toArray) w1.heap.size 34 (r.map B).toArray := k4a.below (below_setRow (Below.refl _ _) (Nat.le_refl _) _) k4.lt
  have hB6 : Below w.heap.size w ((w4.alloc (.cells zs 34)).setRow w4.heap.size (r.map B).toArray) := below_setRow (hB4.alloc hB4.size _) hB4.size _
  obtain ⟨w6, hw6⟩ : ∃ w6, (w4.alloc (.cells zs 34)).setRow w4.heap.size (r.map B).toArray = w6 := ⟨_, rfl⟩
  rw [hw6] at k6 k4b hB6
  have l4 := run_load_blk (P := Try.prog) (agg26 _) (size26 _) w4.heap.size (r.map B).toArray (by simp [Hrl.out]) k6
  have l3 := run_load_blk (P := Try.prog) (agg26 _) (size26 _) w1.heap.size (r.map B).toArray (by simp [Hrl.out]) k4b
  by_cases h2 : n < 2
  · have d2 : decide ((n : Int) < 2) = true := by simp; omega
    have d2' : decide (n < 2) = true := by simp; omega
    go_wp2_with (first
    | ((with_reducible show wpList _ _ _ (⟨some 4, .alloc _, _, _, _, _⟩ :: _) _ _); refine wpList_run rfl (.pointer (some ⟨w4.heap.size, 0, none⟩)) (w4.alloc (.cells zs 34)) (by rw [← Hzs.out]; rfl) ?_; simp only [Act.put])
    | ((with_reducible show wpList _ _ _ (⟨none, .store _ _ _, _, _, _, _⟩ :: _) _ _); refine wpList_store_blk rfl 34 (.tmp 4) (.tmp 16) rfl 32 size26 w4.heap.size (r.map B).toArray rfl rfl (by simp [Hrl.out]) (oneCell_B _) 34 _ k5 Hzl.out ?_; simp only [Act.put]; rw [hw6])
    | ((with_reducible show wpList _ _ _ (⟨some 21, .load _ _, _, _, _, _⟩ :: _) _ _); refine wpList_runG (by kernel_rfl) (.agg (r.map B).toArray) _ (run_load_op 34 (.tmp 4) rfl w4.heap.size 0 rfl _ l4) ?_; simp only [Act.put])
    | ((with_reducible show wpList _ _ _ (⟨some 22, .load _ _, _, _, _, _⟩ :: _) _ _); refine wpList_runG (by kernel_rfl) (.agg (r.map B).toArray) _ (run_load_op 34 (.tmp 3) rfl w1.heap.size 0 rfl _ l3) ?_; simp only [Act.put])
    | ((with_reducible show wpList _ _ _ (⟨some 23, .binOp _ _ _ _ _, _, _, _, _⟩ :: _) _ _); refine wpList_runG (by kernel_rfl) (.bool false) _ (run_neq26_f (.tmp 21) (.tmp 22) _ r r rfl rfl rfl Hrl.out Hrl.out rfl _) ?_; simp only [Act.put])
    | (go_at_call 15; refine (known9_any _).mono ?_; rintro e w7 ⟨rfl, hb7⟩))
    go_ret
    exact ⟨rfl, hB6.trans (hb7.mono hB6.size)⟩
  · have d2 : decide ((n : Int) < 2) = false := by simp; omega
    have d2' : decide (n < 2) = false := by simp; omega
    have hmore := Hmore.out (by omega)
    have hspl := fun w => tsplit_any (n : Int) w (by omega)
    rw [Int.toNat_natCast] at hspl
    have hsl := splitN_lt n (by omega)
    have hsp := splitN_pos n (by omega)
    have hsh := splitN_half n (by omega)
    have h6 := Hh.out.step hB6
    obtain ⟨s, hs'⟩ : ∃ s, splitN n = s := ⟨_, rfl⟩
    rw [hs'] at hmore hspl hsl hsp hsh
    have hL := fun W (hW : Below w6.heap.size w6 W) => tof_any (hs.take s) A s c W ((h6.step hW).take s (by omega)) (by omega)
    have hR := fun W (hW : Below w6.heap.size w6 W) => tof_any (hs.drop s) _ (n - s) (c - s) W ((h6.step hW).drop s (by omega)) (by omega)
    have hxl := length_rootL _ (Hall.out.take s)
    have hyl := length_rootL _ (Hall.out.drop s)
    obtain ⟨x, hx⟩ : ∃ x, rootL (hs.take s) = x := ⟨_, rfl⟩
    obtain ⟨y, hy⟩ : ∃ y, rootL (hs.drop s) = y := ⟨_, rfl⟩
    rw [hx] at hL hmore hxl
    rw [hy] at hR hmore hyl
    have hN := fun W => hrnode_any x y W hxl hyl
    rw [← hmore] at hN
    have hld3 : ∀ W, Below w6.heap.size w6 W → (Instr.loadAt 34 (.pointer (some ⟨w1.heap.size, 0, none⟩))).run Try.prog W = .ok (.agg (r.map B).toArray) W := fun W hW => run_load_blk (agg26 _) (size26 _) _ _ (by simp [Hrl.out]) (k4b.below hW k4b.lt)
    have hw2 : IntKind.i64.wrap (2 * (s : Int)) = 2 * (s : Int) := IntWalk.i64_in _ (by omega)
    have s1 : decide ((1 : Int) ≤ (s : Int)) = true := by simp; omega
    have s1' : decide (1 ≤ s) = true := by simp; omega
    have s2 : decide ((s : Int) < (n : Int)) = true := by simp; omega
    have s2' : decide (s < n) = true := by simp; omega
    have s3 : decide ((n : Int) ≤ 2 * (s : Int)) = true := by simp; omega
    have Hspl := Lib.hid hspl
    have HL := Lib.hid hL
    have HR := Lib.hid hR
    have HN := Lib.hid hN
    have Hld3 := Lib.hid hld3
    clear hspl hL hR hN hx hy hxl hyl hmore hs' h6 hld3
    go_wp2_with (first
    | ((with_reducible show wpList _ _ _ (⟨some 4, .alloc _, _, _, _, _⟩ :: _) _ _); refine wpList_run rfl (.pointer (some ⟨w4.heap.size, 0, none⟩)) (w4.alloc (.cells zs 34)) (by rw [← Hzs.out]; rfl) ?_; simp only [Act.put])
    | ((with_reducible show wpList _ _ _ (⟨none, .store _ _ _, _, _, _, _⟩ :: _) _ _); refine wpList_store_blk rfl 34 (.tmp 4) (.tmp 16) rfl 32 size26 w4.heap.size (r.map B).toArray rfl rfl (by simp [Hrl.out]) (oneCell_B _) 34 _ k5 Hzl.out ?_; simp only [Act.put]; rw [hw6])
    | ((with_reducible show wpList _ _ _ (⟨some 21, .load _ _, _, _, _, _⟩ :: _) _ _); refine wpList_runG (by kernel_rfl) (.agg (r.map B).toArray) _ (run_load_op 34 (.tmp 4) rfl w4.heap.size 0 rfl _ l4) ?_; simp only [Act.put])
    | ((with_reducible show wpList _ _ _ (⟨some 22, .load _ _, _, _, _, _⟩ :: _) _ _); refine wpList_runG (by kernel_rfl) (.agg (r.map B).toArray) _ (run_load_op 34 (.tmp 3) rfl w1.heap.size 0 rfl _ l3) ?_; simp only [Act.put])
    | ((with_reducible show wpList _ _ _ (⟨some 23, .binOp _ _ _ _ _, _, _, _, _⟩ :: _) _ _); refine wpList_runG (by kernel_rfl) (.bool false) _ (run_neq26_f (.tmp 21) (.tmp 22) _ r r rfl rfl rfl Hrl.out Hrl.out rfl _) ?_; simp only [Act.put])
    | (go_at_call 25; refine (Hspl.out _).mono ?_; rintro e w7 ⟨rfl, rfl⟩))
    clear l3 l4 k5 k6 k4 k4a k4b hw6 hB4 d2 d2'
    have hS : Below w6.heap.size w6 w6.drew := (Below.refl _ _).drew
    refine wp_region_mix (fun W => Below w6.heap.size w6 W) [(0, true), (1, true), (2, true), (3, true), (4, true), (5, true), (6, true), (7, true), (8, true), (9, true), (10, true), (11, true), (12, true), (13, true), (14, true), (15, true), (16, true), (17, true), (18, true), (20, true), (21, true), (22, true), (25, true), (19, false), (23, false), (24, false), (26, true), (27, true), (28, true), (29, false), (30, true), (31, true)] (by kernel_rfl) (by kernel_rfl) hS fun _ => ?_
    simp only [List.map_cons, List.map_nil, Array.getD_eq_getD_getElem?, List.getElem?_toArray, List.getElem?_cons_succ, List.getElem?_cons_zero, Option.getD_some]
    generalize w6.drew = W0 at hS ⊢
    refine wpMix_s (fun K hK => ?_)
    go_simp
    refine hK _ ?_
    clear hK K
    refine wpMix_s (fun K hK => ?_)
    go_simp
    refine hK _ ?_
    clear hK K
    refine wpMix_s (fun K hK => ?_)
    go_simp
    refine hK _ ?_
    clear hK K
    refine wpMix_s (fun K hK => ?_)
    go_simp
    refine hK _ ?_
    clear hK K
    refine wpMix_s (fun K hK => ?_)
    go_simp
    refine hK _ ?_
    clear hK K
    refine wpMix_s (fun K hK => ?_)
    go_simp
    refine hK _ ?_
    clear hK K
    refine wpMix_s (fun K hK => ?_)
    go_simp
    refine hK _ ?_
    clear hK K
    refine wpMix_s (fun K hK => ?_)
    go_simp
    refine hK _ ?_
    clear hK K
    refine wpMix_s (fun K hK => ?_)
    go_simp
    refine hK _ ?_
    clear hK K
    refine wpMix_s (fun K hK => ?_)
    go_simp
    refine hK _ ?_
    clear hK K
    refine wpMix_s (fun K hK => ?_)
    go_simp
    refine hK _ ?_
    clear hK K
    refine wpMix_s (fun K hK => ?_)
    go_simp
    refine hK _ ?_
    clear hK K
    refine wpMix_s (fun K hK => ?_)
    go_simp
    refine hK _ ?_
    clear hK K
    refine wpMix_s (fun K hK => ?_)
    go_simp
    refine hK _ ?_
    clear hK K
    refine wpMix_s (fun K hK => ?_)
    go_simp
    refine hK _ ?_
    clear hK K
    refine wpMix_s (fun K hK => ?_)
    go_simp
    refine hK _ ?_
    clear hK K
    refine wpMix_s (fun K hK => ?_)
    go_simp
    refine hK _ ?_
    clear hK K
    refine wpMix_s (fun K hK => ?_)
    go_simp
    refine hK _ ?_
    clear hK K
    refine wpMix_v (by kernel_rfl) (.slice A s c) (fun u => run_slice_op_hi (.tmp 48) (.tmp 49) rfl A n c s rfl rfl (by omega) u.W) ?_
    simp only [Act.put]
    refine wpMix_s (fun K hK => ?_)
    go_simp
    refine hK _ ?_
    clear hK K
    refine wpMix_s (fun K hK => ?_)
    go_simp
    refine hK _ ?_
    clear hK K
    refine wpMix_v (by kernel_rfl) (.slice (if c = s then A else A.map (·.add (s * 32))) (n - s) (c - s)) (fun u => run_slice_op_lo (.tmp 52) (.tmp 53) rfl A n c s rfl rfl (by omega) u.W) ?_
    simp only [Act.put]
    refine wpMix_load (by kernel_rfl) 34 (.tmp 3) rfl (w1.heap.size) (0) rfl (r.map B).toArray (fun u => Hld3.out _ u.ok) ?_
    simp only [Act.put]
    refine wpMix_c (fun K hK => ?_) hS
    go_simp
    refine (HL.out W0 hS).mono ?_
    rintro e W1 ⟨rfl, hb'⟩
    refine hK _ _ ?_
    clear hK K
    replace hS := hS.trans (hb'.mono hS.size)
    refine ⟨hS, ?_⟩
    clear hb'
    refine wpMix_c (fun K hK => ?_) hS
    go_simp
    refine (HR.out W1 hS).mono ?_
    rintro e W2 ⟨rfl, hb'⟩
    refine hK _ _ ?_
    clear hK K
    replace hS := hS.trans (hb'.mono hS.size)
    refine ⟨hS, ?_⟩
    clear hb'
    refine wpMix_c (fun K hK => ?_) hS
    go_simp
    refine (HN.out W2).mono ?_
    rintro e W3 ⟨rfl, hb'⟩
    refine hK _ _ ?_
    clear hK K
    replace hS := hS.trans (hb'.mono hS.size)
    refine ⟨hS, ?_⟩
    clear hb'
    refine wpMix_v (by kernel_rfl) (.bool true) (fun u => run_eql26_t (.tmp 56) (.tmp 57) _ r r rfl rfl rfl Hrl.out Hrl.out rfl u.W) ?_
    simp only [Act.put]
    refine wpMix_s (fun K hK => ?_)
    go_simp
    refine hK _ ?_
    clear hK K
    refine wpMix_s (fun K hK => ?_)
    go_simp
    refine hK _ ?_
    clear hK K
    refine wpMix_c (fun K hK => ?_) hS
    go_simp
    refine (known9_any W3).mono ?_
    rintro e W4 ⟨rfl, hb'⟩
    refine hK _ _ ?_
    clear hK K
    replace hS := hS.trans (hb'.mono hS.size)
    refine ⟨hS, ?_⟩
    clear hb'
    refine wpMix_s (fun K hK => ?_)
    go_simp
    refine hK _ ?_
    clear hK K
    refine wpMix_s (fun K hK => ?_)
    go_simp
    refine hK _ ?_
    clear hK K
    refine wpMix_nil ?_
    intro _
    go_wp2_with fail
    go_ret
    exact ⟨rfl, hB6.trans (hS.mono hB6.size)⟩

end Go.Proofs.Ytgcbdnoniikboaa
