/- notarylaw03.known: the sum of 'abc' is the known one. -/
import Derived.Test.YtdkgndjomkbbjaaQa109
import Derived.Test.YtdkgndjomkbbjaaQa105
import Derived.Test.YtdkgndjomkbbjaaQa106
import Derived.Deep.DeepCutAuto
namespace Go.Proofs.Ytdkgndjomkbbjaa
open Go.RowKit

theorem sha256_abc : sha256 [97, 98, 99] = [186, 120, 22, 191, 143, 1, 207, 234, 65, 65, 64, 222, 93, 174, 34, 35, 176, 3, 97, 163, 150, 23, 122, 156, 180, 16, 255, 97, 242, 0, 21, 173] := by decide +kernel

set_option maxHeartbeats 4000000 in
set_option maxRecDepth 100000 in
theorem known_any (w : World) :
    Calls Try.prog 18 #[] w fun e w' => e = .returned (.bool true) ∧ Below w.heap.size w w' := by
  obtain ⟨kn, hkn⟩ : ∃ kn : List UInt8, kn = [186, 120, 22, 191, 143, 1, 207, 234, 65, 65, 64, 222, 93, 174, 34, 35, 176, 3, 97, 163, 150, 23, 122, 156, 180, 16, 255, 97, 242, 0, 21, 173] := ⟨_, rfl⟩
  have hknl : kn.length = 32 := by subst hkn; rfl
  obtain ⟨ks, hks⟩ : ∃ ks, (kn.map B).toArray = ks := ⟨_, rfl⟩
  have hksl : ks.size = 32 := by rw [← hks]; simp [hknl]
  have hk1 : ∀ v ∈ ks.toList, v.oneCell' = true := by rw [← hks]; exact oneCell_B _
  have Hkn := Lib.hid hkn
  have Hks := Lib.hid hks
  clear hkn hks
  have hz : Blk (w.alloc (.cells zeroHash 26)) w.heap.size 26 zeroHash := Blk.new w _ _
  have hzs : zeroHash.size = 32 := rfl
  have hk0 : Blk ((w.alloc (.cells zeroHash 26)).setRow w.heap.size ks) w.heap.size 26 ks := hz.setRow_ ks
  have hb0 : Below w.heap.size w ((w.alloc (.cells zeroHash 26)).setRow w.heap.size ks) := below_setRow ((Below.refl _ _).alloc (Nat.le_refl _) _) (Nat.le_refl _) _
  go_enter Try.func18, Try.ntmps18
  go_wp2_with (first
    | ((with_reducible show wpList _ _ _ (⟨some 3, .build _ _, _, _, _, _⟩ :: _) _ _); refine wpList_run0 rfl (.agg ks) (by rw [← Hks.out, Hkn.out]; kernel_rfl) ?_)
    | ((with_reducible show wpList _ _ _ (⟨some 1, .alloc _, _, _, _, _⟩ :: _) _ _); refine wpList_run rfl (.pointer (some ⟨w.heap.size, 0, none⟩)) (w.alloc (.cells zeroHash 26)) (by rfl) ?_)
    | ((with_reducible show wpList _ _ _ (⟨none, .store _ _ _, _, _, _, _⟩ :: _) _ _); refine wpList_store_blk rfl 26 (.tmp 1) (.tmp 3) rfl 32 size26 w.heap.size ks rfl rfl hksl hk1 26 _ hz hzs ?_; simp only [Act.put])
    | (go_at_call 22; refine (new_any _).mono ?_; rintro e w1 ⟨g, rfl, hg, hsh, hb1⟩; have hgr : w.heap.size < g := (by simp at hg; omega); clear hg; have hr1 := hk0.below hb1 hk0.lt; have hB1 := hb0.trans (hb1.mono hb0.size); clear hz hk0 hb0 hb1; have hgl := hsh.lt; obtain ⟨w2, hc1, hbs1, hb2⟩ := conv_new w1 #[.int .u8 97, .int .u8 98] [97, 98] 2 rfl rfl; have hsh2 := hsh.below hb2 hgl; have hr2 := hr1.below hb2 hr1.lt; have hB2 := hB1.trans (hb2.mono hB1.size); clear hr1 hsh hb2 hB1)
    | (go_at_call_of 23 (Value.slice (some ⟨w1.heap.size, 0, none⟩) 2 2); refine (write_any g Und.new [97, 98] _ 2 w2 hsh2 (hbs1.weak (fun b _ hx => by omega)) (by decide) (by decide) (by decide)).mono ?_; rintro e w3 ⟨rfl, hsh3, hg3⟩; have hr3 := hr2.grown hg3 (by simp; omega); have hB3 := hB2.grown hg3 hB2.size (by simp; omega); clear hr2 hsh2 hc1 hbs1 hB2; have hgl3 := hsh3.lt; have hrl3 := hr3.lt; obtain ⟨w4, hc3, hbs3, hb4⟩ := conv_new w3 #[.int .u8 99] [99] 1 rfl rfl; have hsh4 := hsh3.below hb4 hgl3; have hr4 := hr3.below hb4 hr3.lt; have hB4 := hB3.trans (hb4.mono hB3.size); clear hr3 hsh3 hb4 hB3 hg3)
    | (go_at_call_of 23 (Value.slice (some ⟨w3.heap.size, 0, none⟩) 1 1); refine (write_any g _ [99] _ 1 w4 hsh4 (hbs3.weak (fun b _ hx => by omega)) (by decide) (by decide) (by decide)).mono ?_; rintro e w5 ⟨rfl, hsh5, hg5⟩; have hr5 := hr4.grown hg5 (by simp; omega); have hB5 := hB4.grown hg5 hB4.size (by simp; omega); clear hr4 hsh4 hc3 hbs3 hB4 hg5)
    )
  have hsum : ((sha256 [97, 98, 99]).map B).toArray = ks := by rw [sha256_abc, ← Hkn.out]; exact Hks.out
  have hsum2 : (((Und.new.take [97, 98]).take [99]).sum.map B).toArray = ks := by
    rw [Und.take_take]
    exact hsum
  have hEq : ∀ {ρ : Operand → Value} {o : Oper} (x y : Operand) (ty : TypeId) (_ : o.op = .binOp .eql 26 x y ty) (_ : ρ x = .agg ks) (_ : ρ y = .agg ks) (W : World), (execOp ρ o).run Try.prog W = .ok (.value (.bool true)) W := fun x y ty ho hx hy W => by
    rw [← Hks.out] at hx hy
    have := run_eql26 x y ty kn kn ho hx hy hknl hknl W
    rwa [BEq.rfl] at this
  refine wp_region_begin (fun W => Below w5.heap.size w5 W) (by kernel_rfl) ((Below.refl w5.heap.size w5).drew) fun _ => ?_
  refine wpAnyH_pre (f := 20) (by kernel_rfl) #[true, true, true, true, true, true, true, false, false, false, false, false, false, true, false, false, false, false, false, false, false, false, false, false, false, false, false, false]
    [(4, true), (0, false), (1, false), (2, false), (3, false), (5, true), (6, true), (13, true)] _ _ _ (by kernel_rfl) ((Below.refl w5.heap.size w5).drew) ?_
  simp only [List.map_cons, List.map_nil, Array.getD_eq_getD_getElem?, List.getElem?_toArray, List.getElem?_cons_succ, List.getElem?_cons_zero, Option.getD_some]
  refine wpMix_load (by kernel_rfl) 26 (.tmp 1) rfl w.heap.size 0 rfl ks (fun s => run_load_blk (agg26 _) (size26 _) _ _ hksl (hr5.below s.ok hr5.lt)) ?_
  have hdr : Below w5.heap.size w5 w5.drew := (Below.refl w5.heap.size w5).drew
  refine wpMix_c (fun K hK => ?_) hdr
  go_simp
  refine hK _ _ ?_
  clear hK K
  refine mix_world (fun W => Below w5.heap.size w5 W ∧ Blk W w5.heap.size 5 ([97, 98, 99].map B).toArray) ⟨(((Below.refl w5.heap.size w5).alloc (Nat.le_refl _) _).drew), (Blk.new w5 _ _).drew⟩ (fun _ h => h.1) ?_
  clear hdr
  rintro w6 ⟨hs6, hb6⟩
  have hc6 := run_convert_blk (P := Try.prog) (t := 23) (e := 5) 0 3 3 (by kernel_rfl) (by kernel_rfl) hb6
  refine wpMix_c (fun K hK => ?_) hs6
  go_simp
  refine hK _ _ ?_
  clear hK K
  refine mix_world (fun W => Below w5.heap.size w5 W ∧ Bs W (fun _ => True) (some ⟨w5.heap.size, 0, none⟩) ([97, 98, 99].map B)) ⟨Lib.below_freeze hs6 (Nat.le_refl _) _, (Blk.new_bs hb6).freeze _ _⟩ (fun _ h => h.1) ?_
  clear hs6 hb6 hc6
  rintro w7 ⟨hs7, hb7⟩
  refine wpMix_c (fun K hK => ?_) hs7
  go_simp
  refine hK _ _ ?_
  clear hK K
  refine mix_world (fun W => Below w5.heap.size w5 W ∧ BsS W (· < W.heap.size) (some ⟨w7.heap.size, 0, none⟩) [[97, 98, 99]]) ⟨(hs7.alloc hs7.size _), ?_⟩ (fun _ h => h.1) ?_
  · refine ⟨[.slice (some ⟨w5.heap.size, 0, none⟩) 3 3], (Bs.new w7 (fun _ => True) _ _ trivial).lt', rfl, fun k hk => ?_⟩
    match k, hk with
    | 0, _ => exact ⟨_, _, rfl, Nat.le_refl _, (hb7.alloc _).lt'⟩
  clear hb7 hs7
  rintro w8 ⟨hs8, hb8⟩
  refine wpMix_c (fun K hK => ?_) hs8
  go_simp
  refine (shasum_any [[97, 98, 99]] _ 1 1 w8 rfl hb8 (by decide) (by decide)).mono ?_
  rintro e w9 ⟨rfl, hb9⟩
  rw [show ((sha256 [[97, 98, 99]].flatten).map B).toArray = ks from hsum]
  refine hK _ _ ?_
  clear hK K
  have hs9 := hs8.trans (hb9.mono hs8.size)
  refine ⟨hs9, ?_⟩
  clear hb8 hb9 hs8
  refine wpMix_v (by kernel_rfl) (.bool true) (fun s => hEq (.tmp 24) (.tmp 25) 26 rfl rfl rfl s.W) ?_
  simp only [Act.put]
  refine wpMix_s (fun K hK => ?_)
  go_simp
  refine hK _ ?_
  clear hK K
  refine wpMix_load (by kernel_rfl) 26 (.tmp 1) rfl w.heap.size 0 rfl ks (fun s => run_load_blk (agg26 _) (size26 _) _ _ hksl (hr5.below s.ok hr5.lt)) ?_
  simp only [Act.put]
  refine wpMix_nil ?_
  intro _
  -- LEAVES (printed by knowngen.py)
  refine wpAnyH_fork (f := 19) (i := 7) (j := 9) (by kernel_rfl) hs9 ?_ ?_
  · simp only [Array.getD_eq_getD_getElem?, List.getElem?_toArray, List.getElem?_cons_succ, List.getElem?_cons_zero, Option.getD_some]
    refine wpMix_c (fun K hK => ?_) hs9
    go_simp
    refine hK _ _ ?_
    clear hK K
    refine mix_world (fun W => Below w5.heap.size w5 W ∧ Blk W w9.heap.size 5 ([97].map B).toArray) ⟨hs9.alloc hs9.size _, Blk.new w9 _ _⟩ (fun _ h => h.1) ?_
    rintro w10 ⟨hs10, ha10⟩
    have la10 := ha10.lt
    refine wpMix_nil ?_
    intro _
    show wpAnyH _ _ _ _ _ _ #[true, true, true, true, true, true, true, true, false, false, false, false, false, true, false, false, false, false, false, false, false, false, false, false, false, false, false, false] _ _
    refine wpAnyH_fork (f := 18) (i := 8) (j := 9) (by kernel_rfl) hs10 ?_ ?_
    · simp only [Array.getD_eq_getD_getElem?, List.getElem?_toArray, List.getElem?_cons_succ, List.getElem?_cons_zero, Option.getD_some]
      have hc10 := run_convert_blk (P := Try.prog) (t := 23) (e := 5) 0 1 1 (by kernel_rfl) (by kernel_rfl) ha10
      have hl10 := ha10.lt
      refine wpMix_c (fun K hK => ?_) hs10
      go_simp
      refine hK _ _ ?_
      clear hK K
      refine mix_world (fun W => Below w5.heap.size w5 W ∧ Bs W (fun _ => True) (some ⟨w9.heap.size, 0, none⟩) ([97].map B)) ⟨Lib.below_freeze hs10 (by first | exact hs9.size | omega) _, (Blk.new_bs ha10).freeze _ _⟩ (fun _ h => h.1) ?_
      rintro w11 ⟨hs11, ha11⟩
      refine wpMix_nil ?_
      intro _
      show wpAnyH _ _ _ _ _ _ #[true, true, true, true, true, true, true, true, true, false, false, false, false, true, false, false, false, false, false, false, false, false, false, false, false, false, false, false] _ _
      refine wpAnyH_pre (f := 17) (by kernel_rfl) #[true, true, true, true, true, true, true, true, true, true, false, false, false, true, false, false, false, false, false, false, false, false, false, false, false, false, false, false] [(9, false)] _ _ _ (by kernel_rfl) hs11 ?_
      simp only [List.map_cons, List.map_nil, Array.getD_eq_getD_getElem?, List.getElem?_toArray, List.getElem?_cons_succ, List.getElem?_cons_zero, Option.getD_some]
      refine wpMix_c (fun K hK => ?_) hs11
      go_simp
      refine hK _ _ ?_
      clear hK K
      refine mix_world (fun W => Below w5.heap.size w5 W ∧ Bs W (fun _ => True) (some ⟨w9.heap.size, 0, none⟩) ([97].map B) ∧ Blk W w11.heap.size 5 ([98, 99].map B).toArray) ⟨hs11.alloc hs11.size _, ha11.alloc _, Blk.new w11 _ _⟩ (fun _ h => h.1) ?_
      rintro w12 ⟨hs12, ha12, hb12⟩
      have lb12 := hb12.lt
      refine wpMix_nil ?_
      intro _
      refine wpAnyH_pre (f := 16) (by kernel_rfl) #[true, true, true, true, true, true, true, true, true, true, true, false, false, true, false, false, false, false, false, false, false, false, false, false, false, false, false, false] [(10, false)] _ _ _ (by kernel_rfl) hs12 ?_
      simp only [List.map_cons, List.map_nil, Array.getD_eq_getD_getElem?, List.getElem?_toArray, List.getElem?_cons_succ, List.getElem?_cons_zero, Option.getD_some]
      have hc12 := run_convert_blk (P := Try.prog) (t := 23) (e := 5) 0 2 2 (by kernel_rfl) (by kernel_rfl) hb12
      have hl12 := hb12.lt
      refine wpMix_c (fun K hK => ?_) hs12
      go_simp
      refine hK _ _ ?_
      clear hK K
      refine mix_world (fun W => Below w5.heap.size w5 W ∧ Bs W (fun _ => True) (some ⟨w9.heap.size, 0, none⟩) ([97].map B) ∧ Bs W (fun _ => True) (some ⟨w11.heap.size, 0, none⟩) ([98, 99].map B)) ⟨Lib.below_freeze hs12 (by first | exact hs11.size | omega) _, ha12.freeze _ _, (Blk.new_bs hb12).freeze _ _⟩ (fun _ h => h.1) ?_
      rintro w13 ⟨hs13, ha13, hb13⟩
      refine wpMix_nil ?_
      intro _
      refine wpAnyH_pre (f := 0) (by kernel_rfl) #[true, true, true, true, true, true, true, true, true, true, true, true, true, true, true, true, true, true, true, true, true, true, true, true, true, true, true, true] [(11, false), (12, false), (14, true), (15, true), (16, true), (17, true), (19, true), (18, false), (20, true), (21, true), (22, true), (23, true), (24, false), (25, true), (26, true), (27, true)] _ _ _ (by kernel_rfl) hs13 ?_
      simp only [List.map_cons, List.map_nil, Array.getD_eq_getD_getElem?, List.getElem?_toArray, List.getElem?_cons_succ, List.getElem?_cons_zero, Option.getD_some]
      refine wpMix_c (fun K hK => ?_) hs13
      go_simp
      refine hK _ _ ?_
      clear hK K
      refine mix_world (fun W => Below w5.heap.size w5 W ∧ BsS W (· < W.heap.size) (some ⟨w13.heap.size, 0, none⟩) [[97], [], [98, 99]]) ⟨hs13.alloc hs13.size _, ?_⟩ (fun _ h => h.1) ?_
      · refine ⟨[.slice (some ⟨w9.heap.size, 0, none⟩) 1 1, .slice none 0 0, .slice (some ⟨w11.heap.size, 0, none⟩) 2 2], (Bs.new w13 (fun _ => True) _ _ trivial).lt', rfl, fun k hk => ?_⟩
        match k, hk with
        | 0, _ => exact ⟨_, _, rfl, Nat.le_refl _, (ha13.alloc _).lt'⟩
        | 1, _ => exact ⟨_, _, rfl, Nat.le_refl _, Bs.nil⟩
        | 2, _ => exact ⟨_, _, rfl, Nat.le_refl _, (hb13.alloc _).lt'⟩
      rintro w14 ⟨hs14, hb14⟩
      refine wpMix_c (fun K hK => ?_) hs14
      go_simp
      refine (shasum_any [[97], [], [98, 99]] _ 3 3 w14 rfl hb14 (by decide) (by decide)).mono ?_
      rintro e w15 ⟨rfl, hx15⟩
      rw [show ((sha256 [[97], [], [98, 99]].flatten).map B).toArray = ks from hsum]
      refine hK _ _ ?_
      clear hK K
      have hs15 := hs14.trans (hx15.mono hs14.size)
      refine ⟨hs15, ?_⟩
      refine wpMix_v (by kernel_rfl) (.bool true) (fun s => hEq (.tmp 33) (.tmp 34) 26 rfl rfl rfl s.W) ?_
      simp only [Act.put]
      refine wpMix_s (fun K hK => ?_)
      go_simp
      refine hK _ ?_
      clear hK K
      refine wpMix_s (fun K hK => ?_)
      go_simp
      refine hK _ ?_
      clear hK K
      refine wpMix_s (fun K hK => ?_)
      go_simp
      refine hK _ ?_
      clear hK K
      refine wpMix_load (by kernel_rfl) 26 (.tmp 1) rfl w.heap.size 0 rfl ks (fun s => run_load_blk (agg26 _) (size26 _) _ _ hksl (hr5.below s.ok hr5.lt)) ?_
      simp only [Act.put]
      have hsh15 := hsh5.below hs15 hsh5.lt
      refine wpMix_c (fun K hK => ?_) hs15
      go_simp
      refine (sum_any g _ w15 hsh15 (by decide)).mono ?_
      rintro e w16 ⟨rfl, hx16⟩
      rw [hsum2]
      refine hK _ _ ?_
      clear hK K
      have hs16 := hs15.trans (hx16.mono hs15.size)
      refine ⟨hs16, ?_⟩
      refine wpMix_v (by kernel_rfl) (.bool true) (fun s => hEq (.tmp 39) (.tmp 40) 26 rfl rfl rfl s.W) ?_
      simp only [Act.put]
      refine wpMix_s (fun K hK => ?_)
      go_simp
      refine hK _ ?_
      clear hK K
      refine wpMix_s (fun K hK => ?_)
      go_simp
      refine hK _ ?_
      clear hK K
      refine wpMix_s (fun K hK => ?_)
      go_simp
      refine hK _ ?_
      clear hK K
      have hsh16 := hsh5.below hs16 hsh5.lt
      refine wpMix_c (fun K hK => ?_) hs16
      go_simp
      refine (len_any hsh16.choose_spec).mono ?_
      rintro e wz ⟨rfl, rfl⟩
      refine hK _ _ ?_
      clear hK K
      refine ⟨hs16, ?_⟩
      refine wpMix_s (fun K hK => ?_)
      go_simp
      refine hK _ ?_
      clear hK K
      refine wpMix_s (fun K hK => ?_)
      go_simp
      refine hK _ ?_
      clear hK K
      refine wpMix_s (fun K hK => ?_)
      go_simp
      refine hK _ ?_
      clear hK K
      refine wpMix_nil ?_
      intro _
      refine wpAnyH_end (by kernel_rfl) ?_
      go_wp2
      go_ret
      exact ⟨rfl, hB5.trans (hs16.mono hB5.size)⟩
    · simp only [Array.getD_eq_getD_getElem?, List.getElem?_toArray, List.getElem?_cons_succ, List.getElem?_cons_zero, Option.getD_some]
      refine wpMix_c (fun K hK => ?_) hs10
      go_simp
      refine hK _ _ ?_
      clear hK K
      refine mix_world (fun W => Below w5.heap.size w5 W ∧ Blk W w9.heap.size 5 ([97].map B).toArray ∧ Blk W w10.heap.size 5 ([98, 99].map B).toArray) ⟨hs10.alloc hs10.size _, ha10.alloc _, Blk.new w10 _ _⟩ (fun _ h => h.1) ?_
      rintro w17 ⟨hs17, ha17, hb17⟩
      have la17 := ha17.lt
      have lb17 := hb17.lt
      refine wpMix_nil ?_
      intro _
      show wpAnyH _ _ _ _ _ _ #[true, true, true, true, true, true, true, true, false, true, false, false, false, true, false, false, false, false, false, false, false, false, false, false, false, false, false, false] _ _
      refine wpAnyH_fork (f := 17) (i := 8) (j := 10) (by kernel_rfl) hs17 ?_ ?_
      · simp only [Array.getD_eq_getD_getElem?, List.getElem?_toArray, List.getElem?_cons_succ, List.getElem?_cons_zero, Option.getD_some]
        have hc17 := run_convert_blk (P := Try.prog) (t := 23) (e := 5) 0 1 1 (by kernel_rfl) (by kernel_rfl) ha17
        have hl17 := ha17.lt
        refine wpMix_c (fun K hK => ?_) hs17
        go_simp
        refine hK _ _ ?_
        clear hK K
        refine mix_world (fun W => Below w5.heap.size w5 W ∧ Bs W (fun _ => True) (some ⟨w9.heap.size, 0, none⟩) ([97].map B) ∧ Blk W w10.heap.size 5 ([98, 99].map B).toArray) ⟨Lib.below_freeze hs17 (by first | exact hs9.size | omega) _, (Blk.new_bs ha17).freeze _ _, hb17.freeze _ _ (by show w9.heap.size ≠ w10.heap.size; omega)⟩ (fun _ h => h.1) ?_
        rintro w18 ⟨hs18, ha18, hb18⟩
        have lb18 := hb18.lt
        refine wpMix_nil ?_
        intro _
        show wpAnyH _ _ _ _ _ _ #[true, true, true, true, true, true, true, true, true, true, false, false, false, true, false, false, false, false, false, false, false, false, false, false, false, false, false, false] _ _
        refine wpAnyH_pre (f := 16) (by kernel_rfl) #[true, true, true, true, true, true, true, true, true, true, true, false, false, true, false, false, false, false, false, false, false, false, false, false, false, false, false, false] [(10, false)] _ _ _ (by kernel_rfl) hs18 ?_
        simp only [List.map_cons, List.map_nil, Array.getD_eq_getD_getElem?, List.getElem?_toArray, List.getElem?_cons_succ, List.getElem?_cons_zero, Option.getD_some]
        have hc18 := run_convert_blk (P := Try.prog) (t := 23) (e := 5) 0 2 2 (by kernel_rfl) (by kernel_rfl) hb18
        have hl18 := hb18.lt
        refine wpMix_c (fun K hK => ?_) hs18
        go_simp
        refine hK _ _ ?_
        clear hK K
        refine mix_world (fun W => Below w5.heap.size w5 W ∧ Bs W (fun _ => True) (some ⟨w9.heap.size, 0, none⟩) ([97].map B) ∧ Bs W (fun _ => True) (some ⟨w10.heap.size, 0, none⟩) ([98, 99].map B)) ⟨Lib.below_freeze hs18 (by first | exact hs10.size | omega) _, ha18.freeze _ _, (Blk.new_bs hb18).freeze _ _⟩ (fun _ h => h.1) ?_
        rintro w19 ⟨hs19, ha19, hb19⟩
        refine wpMix_nil ?_
        intro _
        refine wpAnyH_pre (f := 0) (by kernel_rfl) #[true, true, true, true, true, true, true, true, true, true, true, true, true, true, true, true, true, true, true, true, true, true, true, true, true, true, true, true] [(11, false), (12, false), (14, true), (15, true), (16, true), (17, true), (19, true), (18, false), (20, true), (21, true), (22, true), (23, true), (24, false), (25, true), (26, true), (27, true)] _ _ _ (by kernel_rfl) hs19 ?_
        simp only [List.map_cons, List.map_nil, Array.getD_eq_getD_getElem?, List.getElem?_toArray, List.getElem?_cons_succ, List.getElem?_cons_zero, Option.getD_some]
        refine wpMix_c (fun K hK => ?_) hs19
        go_simp
        refine hK _ _ ?_
        clear hK K
        refine mix_world (fun W => Below w5.heap.size w5 W ∧ BsS W (· < W.heap.size) (some ⟨w19.heap.size, 0, none⟩) [[97], [], [98, 99]]) ⟨hs19.alloc hs19.size _, ?_⟩ (fun _ h => h.1) ?_
        · refine ⟨[.slice (some ⟨w9.heap.size, 0, none⟩) 1 1, .slice none 0 0, .slice (some ⟨w10.heap.size, 0, none⟩) 2 2], (Bs.new w19 (fun _ => True) _ _ trivial).lt', rfl, fun k hk => ?_⟩
          match k, hk with
          | 0, _ => exact ⟨_, _, rfl, Nat.le_refl _, (ha19.alloc _).lt'⟩
          | 1, _ => exact ⟨_, _, rfl, Nat.le_refl _, Bs.nil⟩
          | 2, _ => exact ⟨_, _, rfl, Nat.le_refl _, (hb19.alloc _).lt'⟩
        rintro w20 ⟨hs20, hb20⟩
        refine wpMix_c (fun K hK => ?_) hs20
        go_simp
        refine (shasum_any [[97], [], [98, 99]] _ 3 3 w20 rfl hb20 (by decide) (by decide)).mono ?_
        rintro e w21 ⟨rfl, hx21⟩
        rw [show ((sha256 [[97], [], [98, 99]].flatten).map B).toArray = ks from hsum]
        refine hK _ _ ?_
        clear hK K
        have hs21 := hs20.trans (hx21.mono hs20.size)
        refine ⟨hs21, ?_⟩
        refine wpMix_v (by kernel_rfl) (.bool true) (fun s => hEq (.tmp 33) (.tmp 34) 26 rfl rfl rfl s.W) ?_
        simp only [Act.put]
        refine wpMix_s (fun K hK => ?_)
        go_simp
        refine hK _ ?_
        clear hK K
        refine wpMix_s (fun K hK => ?_)
        go_simp
        refine hK _ ?_
        clear hK K
        refine wpMix_s (fun K hK => ?_)
        go_simp
        refine hK _ ?_
        clear hK K
        refine wpMix_load (by kernel_rfl) 26 (.tmp 1) rfl w.heap.size 0 rfl ks (fun s => run_load_blk (agg26 _) (size26 _) _ _ hksl (hr5.below s.ok hr5.lt)) ?_
        simp only [Act.put]
        have hsh21 := hsh5.below hs21 hsh5.lt
        refine wpMix_c (fun K hK => ?_) hs21
        go_simp
        refine (sum_any g _ w21 hsh21 (by decide)).mono ?_
        rintro e w22 ⟨rfl, hx22⟩
        rw [hsum2]
        refine hK _ _ ?_
        clear hK K
        have hs22 := hs21.trans (hx22.mono hs21.size)
        refine ⟨hs22, ?_⟩
        refine wpMix_v (by kernel_rfl) (.bool true) (fun s => hEq (.tmp 39) (.tmp 40) 26 rfl rfl rfl s.W) ?_
        simp only [Act.put]
        refine wpMix_s (fun K hK => ?_)
        go_simp
        refine hK _ ?_
        clear hK K
        refine wpMix_s (fun K hK => ?_)
        go_simp
        refine hK _ ?_
        clear hK K
        refine wpMix_s (fun K hK => ?_)
        go_simp
        refine hK _ ?_
        clear hK K
        have hsh22 := hsh5.below hs22 hsh5.lt
        refine wpMix_c (fun K hK => ?_) hs22
        go_simp
        refine (len_any hsh22.choose_spec).mono ?_
        rintro e wz ⟨rfl, rfl⟩
        refine hK _ _ ?_
        clear hK K
        refine ⟨hs22, ?_⟩
        refine wpMix_s (fun K hK => ?_)
        go_simp
        refine hK _ ?_
        clear hK K
        refine wpMix_s (fun K hK => ?_)
        go_simp
        refine hK _ ?_
        clear hK K
        refine wpMix_s (fun K hK => ?_)
        go_simp
        refine hK _ ?_
        clear hK K
        refine wpMix_nil ?_
        intro _
        refine wpAnyH_end (by kernel_rfl) ?_
        go_wp2
        go_ret
        exact ⟨rfl, hB5.trans (hs22.mono hB5.size)⟩
      · simp only [Array.getD_eq_getD_getElem?, List.getElem?_toArray, List.getElem?_cons_succ, List.getElem?_cons_zero, Option.getD_some]
        have hc17 := run_convert_blk (P := Try.prog) (t := 23) (e := 5) 0 2 2 (by kernel_rfl) (by kernel_rfl) hb17
        have hl17 := hb17.lt
        refine wpMix_c (fun K hK => ?_) hs17
        go_simp
        refine hK _ _ ?_
        clear hK K
        refine mix_world (fun W => Below w5.heap.size w5 W ∧ Blk W w9.heap.size 5 ([97].map B).toArray ∧ Bs W (fun _ => True) (some ⟨w10.heap.size, 0, none⟩) ([98, 99].map B)) ⟨Lib.below_freeze hs17 (by first | exact hs10.size | omega) _, ha17.freeze _ _ (by show w10.heap.size ≠ w9.heap.size; omega), (Blk.new_bs hb17).freeze _ _⟩ (fun _ h => h.1) ?_
        rintro w23 ⟨hs23, ha23, hb23⟩
        have la23 := ha23.lt
        refine wpMix_nil ?_
        intro _
        show wpAnyH _ _ _ _ _ _ #[true, true, true, true, true, true, true, true, false, true, true, false, false, true, false, false, false, false, false, false, false, false, false, false, false, false, false, false] _ _
        refine wpAnyH_pre (f := 16) (by kernel_rfl) #[true, true, true, true, true, true, true, true, true, true, true, false, false, true, false, false, false, false, false, false, false, false, false, false, false, false, false, false] [(8, false)] _ _ _ (by kernel_rfl) hs23 ?_
        simp only [List.map_cons, List.map_nil, Array.getD_eq_getD_getElem?, List.getElem?_toArray, List.getElem?_cons_succ, List.getElem?_cons_zero, Option.getD_some]
        have hc23 := run_convert_blk (P := Try.prog) (t := 23) (e := 5) 0 1 1 (by kernel_rfl) (by kernel_rfl) ha23
        have hl23 := ha23.lt
        refine wpMix_c (fun K hK => ?_) hs23
        go_simp
        refine hK _ _ ?_
        clear hK K
        refine mix_world (fun W => Below w5.heap.size w5 W ∧ Bs W (fun _ => True) (some ⟨w9.heap.size, 0, none⟩) ([97].map B) ∧ Bs W (fun _ => True) (some ⟨w10.heap.size, 0, none⟩) ([98, 99].map B)) ⟨Lib.below_freeze hs23 (by first | exact hs9.size | omega) _, (Blk.new_bs ha23).freeze _ _, hb23.freeze _ _⟩ (fun _ h => h.1) ?_
        rintro w24 ⟨hs24, ha24, hb24⟩
        refine wpMix_nil ?_
        intro _
        refine wpAnyH_pre (f := 0) (by kernel_rfl) #[true, true, true, true, true, true, true, true, true, true, true, true, true, true, true, true, true, true, true, true, true, true, true, true, true, true, true, true] [(11, false), (12, false), (14, true), (15, true), (16, true), (17, true), (19, true), (18, false), (20, true), (21, true), (22, true), (23, true), (24, false), (25, true), (26, true), (27, true)] _ _ _ (by kernel_rfl) hs24 ?_
        simp only [List.map_cons, List.map_nil, Array.getD_eq_getD_getElem?, List.getElem?_toArray, List.getElem?_cons_succ, List.getElem?_cons_zero, Option.getD_some]
        refine wpMix_c (fun K hK => ?_) hs24
        go_simp
        refine hK _ _ ?_
        clear hK K
        refine mix_world (fun W => Below w5.heap.size w5 W ∧ BsS W (· < W.heap.size) (some ⟨w24.heap.size, 0, none⟩) [[97], [], [98, 99]]) ⟨hs24.alloc hs24.size _, ?_⟩ (fun _ h => h.1) ?_
        · refine ⟨[.slice (some ⟨w9.heap.size, 0, none⟩) 1 1, .slice none 0 0, .slice (some ⟨w10.heap.size, 0, none⟩) 2 2], (Bs.new w24 (fun _ => True) _ _ trivial).lt', rfl, fun k hk => ?_⟩
          match k, hk with
          | 0, _ => exact ⟨_, _, rfl, Nat.le_refl _, (ha24.alloc _).lt'⟩
          | 1, _ => exact ⟨_, _, rfl, Nat.le_refl _, Bs.nil⟩
          | 2, _ => exact ⟨_, _, rfl, Nat.le_refl _, (hb24.alloc _).lt'⟩
        rintro w25 ⟨hs25, hb25⟩
        refine wpMix_c (fun K hK => ?_) hs25
        go_simp
        refine (shasum_any [[97], [], [98, 99]] _ 3 3 w25 rfl hb25 (by decide) (by decide)).mono ?_
        rintro e w26 ⟨rfl, hx26⟩
        rw [show ((sha256 [[97], [], [98, 99]].flatten).map B).toArray = ks from hsum]
        refine hK _ _ ?_
        clear hK K
        have hs26 := hs25.trans (hx26.mono hs25.size)
        refine ⟨hs26, ?_⟩
        refine wpMix_v (by kernel_rfl) (.bool true) (fun s => hEq (.tmp 33) (.tmp 34) 26 rfl rfl rfl s.W) ?_
        simp only [Act.put]
        refine wpMix_s (fun K hK => ?_)
        go_simp
        refine hK _ ?_
        clear hK K
        refine wpMix_s (fun K hK => ?_)
        go_simp
        refine hK _ ?_
        clear hK K
        refine wpMix_s (fun K hK => ?_)
        go_simp
        refine hK _ ?_
        clear hK K
        refine wpMix_load (by kernel_rfl) 26 (.tmp 1) rfl w.heap.size 0 rfl ks (fun s => run_load_blk (agg26 _) (size26 _) _ _ hksl (hr5.below s.ok hr5.lt)) ?_
        simp only [Act.put]
        have hsh26 := hsh5.below hs26 hsh5.lt
        refine wpMix_c (fun K hK => ?_) hs26
        go_simp
        refine (sum_any g _ w26 hsh26 (by decide)).mono ?_
        rintro e w27 ⟨rfl, hx27⟩
        rw [hsum2]
        refine hK _ _ ?_
        clear hK K
        have hs27 := hs26.trans (hx27.mono hs26.size)
        refine ⟨hs27, ?_⟩
        refine wpMix_v (by kernel_rfl) (.bool true) (fun s => hEq (.tmp 39) (.tmp 40) 26 rfl rfl rfl s.W) ?_
        simp only [Act.put]
        refine wpMix_s (fun K hK => ?_)
        go_simp
        refine hK _ ?_
        clear hK K
        refine wpMix_s (fun K hK => ?_)
        go_simp
        refine hK _ ?_
        clear hK K
        refine wpMix_s (fun K hK => ?_)
        go_simp
        refine hK _ ?_
        clear hK K
        have hsh27 := hsh5.below hs27 hsh5.lt
        refine wpMix_c (fun K hK => ?_) hs27
        go_simp
        refine (len_any hsh27.choose_spec).mono ?_
        rintro e wz ⟨rfl, rfl⟩
        refine hK _ _ ?_
        clear hK K
        refine ⟨hs27, ?_⟩
        refine wpMix_s (fun K hK => ?_)
        go_simp
        refine hK _ ?_
        clear hK K
        refine wpMix_s (fun K hK => ?_)
        go_simp
        refine hK _ ?_
        clear hK K
        refine wpMix_s (fun K hK => ?_)
        go_simp
        refine hK _ ?_
        clear hK K
        refine wpMix_nil ?_
        intro _
        refine wpAnyH_end (by kernel_rfl) ?_
        go_wp2
        go_ret
        exact ⟨rfl, hB5.trans (hs27.mono hB5.size)⟩
  · simp only [Array.getD_eq_getD_getElem?, List.getElem?_toArray, List.getElem?_cons_succ, List.getElem?_cons_zero, Option.getD_some]
    refine wpMix_c (fun K hK => ?_) hs9
    go_simp
    refine hK _ _ ?_
    clear hK K
    refine mix_world (fun W => Below w5.heap.size w5 W ∧ Blk W w9.heap.size 5 ([98, 99].map B).toArray) ⟨hs9.alloc hs9.size _, Blk.new w9 _ _⟩ (fun _ h => h.1) ?_
    rintro w28 ⟨hs28, hb28⟩
    have lb28 := hb28.lt
    refine wpMix_nil ?_
    intro _
    show wpAnyH _ _ _ _ _ _ #[true, true, true, true, true, true, true, false, false, true, false, false, false, true, false, false, false, false, false, false, false, false, false, false, false, false, false, false] _ _
    refine wpAnyH_fork (f := 18) (i := 7) (j := 10) (by kernel_rfl) hs28 ?_ ?_
    · simp only [Array.getD_eq_getD_getElem?, List.getElem?_toArray, List.getElem?_cons_succ, List.getElem?_cons_zero, Option.getD_some]
      refine wpMix_c (fun K hK => ?_) hs28
      go_simp
      refine hK _ _ ?_
      clear hK K
      refine mix_world (fun W => Below w5.heap.size w5 W ∧ Blk W w28.heap.size 5 ([97].map B).toArray ∧ Blk W w9.heap.size 5 ([98, 99].map B).toArray) ⟨hs28.alloc hs28.size _, Blk.new w28 _ _, hb28.alloc _⟩ (fun _ h => h.1) ?_
      rintro w29 ⟨hs29, ha29, hb29⟩
      have la29 := ha29.lt
      have lb29 := hb29.lt
      refine wpMix_nil ?_
      intro _
      show wpAnyH _ _ _ _ _ _ #[true, true, true, true, true, true, true, true, false, true, false, false, false, true, false, false, false, false, false, false, false, false, false, false, false, false, false, false] _ _
      refine wpAnyH_fork (f := 17) (i := 8) (j := 10) (by kernel_rfl) hs29 ?_ ?_
      · simp only [Array.getD_eq_getD_getElem?, List.getElem?_toArray, List.getElem?_cons_succ, List.getElem?_cons_zero, Option.getD_some]
        have hc29 := run_convert_blk (P := Try.prog) (t := 23) (e := 5) 0 1 1 (by kernel_rfl) (by kernel_rfl) ha29
        have hl29 := ha29.lt
        refine wpMix_c (fun K hK => ?_) hs29
        go_simp
        refine hK _ _ ?_
        clear hK K
        refine mix_world (fun W => Below w5.heap.size w5 W ∧ Bs W (fun _ => True) (some ⟨w28.heap.size, 0, none⟩) ([97].map B) ∧ Blk W w9.heap.size 5 ([98, 99].map B).toArray) ⟨Lib.below_freeze hs29 (by first | exact hs28.size | omega) _, (Blk.new_bs ha29).freeze _ _, hb29.freeze _ _ (by show w28.heap.size ≠ w9.heap.size; omega)⟩ (fun _ h => h.1) ?_
        rintro w30 ⟨hs30, ha30, hb30⟩
        have lb30 := hb30.lt
        refine wpMix_nil ?_
        intro _
        show wpAnyH _ _ _ _ _ _ #[true, true, true, true, true, true, true, true, true, true, false, false, false, true, false, false, false, false, false, false, false, false, false, false, false, false, false, false] _ _
        refine wpAnyH_pre (f := 16) (by kernel_rfl) #[true, true, true, true, true, true, true, true, true, true, true, false, false, true, false, false, false, false, false, false, false, false, false, false, false, false, false, false] [(10, false)] _ _ _ (by kernel_rfl) hs30 ?_
        simp only [List.map_cons, List.map_nil, Array.getD_eq_getD_getElem?, List.getElem?_toArray, List.getElem?_cons_succ, List.getElem?_cons_zero, Option.getD_some]
        have hc30 := run_convert_blk (P := Try.prog) (t := 23) (e := 5) 0 2 2 (by kernel_rfl) (by kernel_rfl) hb30
        have hl30 := hb30.lt
        refine wpMix_c (fun K hK => ?_) hs30
        go_simp
        refine hK _ _ ?_
        clear hK K
        refine mix_world (fun W => Below w5.heap.size w5 W ∧ Bs W (fun _ => True) (some ⟨w28.heap.size, 0, none⟩) ([97].map B) ∧ Bs W (fun _ => True) (some ⟨w9.heap.size, 0, none⟩) ([98, 99].map B)) ⟨Lib.below_freeze hs30 (by first | exact hs9.size | omega) _, ha30.freeze _ _, (Blk.new_bs hb30).freeze _ _⟩ (fun _ h => h.1) ?_
        rintro w31 ⟨hs31, ha31, hb31⟩
        refine wpMix_nil ?_
        intro _
        refine wpAnyH_pre (f := 0) (by kernel_rfl) #[true, true, true, true, true, true, true, true, true, true, true, true, true, true, true, true, true, true, true, true, true, true, true, true, true, true, true, true] [(11, false), (12, false), (14, true), (15, true), (16, true), (17, true), (19, true), (18, false), (20, true), (21, true), (22, true), (23, true), (24, false), (25, true), (26, true), (27, true)] _ _ _ (by kernel_rfl) hs31 ?_
        simp only [List.map_cons, List.map_nil, Array.getD_eq_getD_getElem?, List.getElem?_toArray, List.getElem?_cons_succ, List.getElem?_cons_zero, Option.getD_some]
        refine wpMix_c (fun K hK => ?_) hs31
        go_simp
        refine hK _ _ ?_
        clear hK K
        refine mix_world (fun W => Below w5.heap.size w5 W ∧ BsS W (· < W.heap.size) (some ⟨w31.heap.size, 0, none⟩) [[97], [], [98, 99]]) ⟨hs31.alloc hs31.size _, ?_⟩ (fun _ h => h.1) ?_
        · refine ⟨[.slice (some ⟨w28.heap.size, 0, none⟩) 1 1, .slice none 0 0, .slice (some ⟨w9.heap.size, 0, none⟩) 2 2], (Bs.new w31 (fun _ => True) _ _ trivial).lt', rfl, fun k hk => ?_⟩
          match k, hk with
          | 0, _ => exact ⟨_, _, rfl, Nat.le_refl _, (ha31.alloc _).lt'⟩
          | 1, _ => exact ⟨_, _, rfl, Nat.le_refl _, Bs.nil⟩
          | 2, _ => exact ⟨_, _, rfl, Nat.le_refl _, (hb31.alloc _).lt'⟩
        rintro w32 ⟨hs32, hb32⟩
        refine wpMix_c (fun K hK => ?_) hs32
        go_simp
        refine (shasum_any [[97], [], [98, 99]] _ 3 3 w32 rfl hb32 (by decide) (by decide)).mono ?_
        rintro e w33 ⟨rfl, hx33⟩
        rw [show ((sha256 [[97], [], [98, 99]].flatten).map B).toArray = ks from hsum]
        refine hK _ _ ?_
        clear hK K
        have hs33 := hs32.trans (hx33.mono hs32.size)
        refine ⟨hs33, ?_⟩
        refine wpMix_v (by kernel_rfl) (.bool true) (fun s => hEq (.tmp 33) (.tmp 34) 26 rfl rfl rfl s.W) ?_
        simp only [Act.put]
        refine wpMix_s (fun K hK => ?_)
        go_simp
        refine hK _ ?_
        clear hK K
        refine wpMix_s (fun K hK => ?_)
        go_simp
        refine hK _ ?_
        clear hK K
        refine wpMix_s (fun K hK => ?_)
        go_simp
        refine hK _ ?_
        clear hK K
        refine wpMix_load (by kernel_rfl) 26 (.tmp 1) rfl w.heap.size 0 rfl ks (fun s => run_load_blk (agg26 _) (size26 _) _ _ hksl (hr5.below s.ok hr5.lt)) ?_
        simp only [Act.put]
        have hsh33 := hsh5.below hs33 hsh5.lt
        refine wpMix_c (fun K hK => ?_) hs33
        go_simp
        refine (sum_any g _ w33 hsh33 (by decide)).mono ?_
        rintro e w34 ⟨rfl, hx34⟩
        rw [hsum2]
        refine hK _ _ ?_
        clear hK K
        have hs34 := hs33.trans (hx34.mono hs33.size)
        refine ⟨hs34, ?_⟩
        refine wpMix_v (by kernel_rfl) (.bool true) (fun s => hEq (.tmp 39) (.tmp 40) 26 rfl rfl rfl s.W) ?_
        simp only [Act.put]
        refine wpMix_s (fun K hK => ?_)
        go_simp
        refine hK _ ?_
        clear hK K
        refine wpMix_s (fun K hK => ?_)
        go_simp
        refine hK _ ?_
        clear hK K
        refine wpMix_s (fun K hK => ?_)
        go_simp
        refine hK _ ?_
        clear hK K
        have hsh34 := hsh5.below hs34 hsh5.lt
        refine wpMix_c (fun K hK => ?_) hs34
        go_simp
        refine (len_any hsh34.choose_spec).mono ?_
        rintro e wz ⟨rfl, rfl⟩
        refine hK _ _ ?_
        clear hK K
        refine ⟨hs34, ?_⟩
        refine wpMix_s (fun K hK => ?_)
        go_simp
        refine hK _ ?_
        clear hK K
        refine wpMix_s (fun K hK => ?_)
        go_simp
        refine hK _ ?_
        clear hK K
        refine wpMix_s (fun K hK => ?_)
        go_simp
        refine hK _ ?_
        clear hK K
        refine wpMix_nil ?_
        intro _
        refine wpAnyH_end (by kernel_rfl) ?_
        go_wp2
        go_ret
        exact ⟨rfl, hB5.trans (hs34.mono hB5.size)⟩
      · simp only [Array.getD_eq_getD_getElem?, List.getElem?_toArray, List.getElem?_cons_succ, List.getElem?_cons_zero, Option.getD_some]
        have hc29 := run_convert_blk (P := Try.prog) (t := 23) (e := 5) 0 2 2 (by kernel_rfl) (by kernel_rfl) hb29
        have hl29 := hb29.lt
        refine wpMix_c (fun K hK => ?_) hs29
        go_simp
        refine hK _ _ ?_
        clear hK K
        refine mix_world (fun W => Below w5.heap.size w5 W ∧ Blk W w28.heap.size 5 ([97].map B).toArray ∧ Bs W (fun _ => True) (some ⟨w9.heap.size, 0, none⟩) ([98, 99].map B)) ⟨Lib.below_freeze hs29 (by first | exact hs9.size | omega) _, ha29.freeze _ _ (by show w9.heap.size ≠ w28.heap.size; omega), (Blk.new_bs hb29).freeze _ _⟩ (fun _ h => h.1) ?_
        rintro w35 ⟨hs35, ha35, hb35⟩
        have la35 := ha35.lt
        refine wpMix_nil ?_
        intro _
        show wpAnyH _ _ _ _ _ _ #[true, true, true, true, true, true, true, true, false, true, true, false, false, true, false, false, false, false, false, false, false, false, false, false, false, false, false, false] _ _
        refine wpAnyH_pre (f := 16) (by kernel_rfl) #[true, true, true, true, true, true, true, true, true, true, true, false, false, true, false, false, false, false, false, false, false, false, false, false, false, false, false, false] [(8, false)] _ _ _ (by kernel_rfl) hs35 ?_
        simp only [List.map_cons, List.map_nil, Array.getD_eq_getD_getElem?, List.getElem?_toArray, List.getElem?_cons_succ, List.getElem?_cons_zero, Option.getD_some]
        have hc35 := run_convert_blk (P := Try.prog) (t := 23) (e := 5) 0 1 1 (by kernel_rfl) (by kernel_rfl) ha35
        have hl35 := ha35.lt
        refine wpMix_c (fun K hK => ?_) hs35
        go_simp
        refine hK _ _ ?_
        clear hK K
        refine mix_world (fun W => Below w5.heap.size w5 W ∧ Bs W (fun _ => True) (some ⟨w28.heap.size, 0, none⟩) ([97].map B) ∧ Bs W (fun _ => True) (some ⟨w9.heap.size, 0, none⟩) ([98, 99].map B)) ⟨Lib.below_freeze hs35 (by first | exact hs28.size | omega) _, (Blk.new_bs ha35).freeze _ _, hb35.freeze _ _⟩ (fun _ h => h.1) ?_
        rintro w36 ⟨hs36, ha36, hb36⟩
        refine wpMix_nil ?_
        intro _
        refine wpAnyH_pre (f := 0) (by kernel_rfl) #[true, true, true, true, true, true, true, true, true, true, true, true, true, true, true, true, true, true, true, true, true, true, true, true, true, true, true, true] [(11, false), (12, false), (14, true), (15, true), (16, true), (17, true), (19, true), (18, false), (20, true), (21, true), (22, true), (23, true), (24, false), (25, true), (26, true), (27, true)] _ _ _ (by kernel_rfl) hs36 ?_
        simp only [List.map_cons, List.map_nil, Array.getD_eq_getD_getElem?, List.getElem?_toArray, List.getElem?_cons_succ, List.getElem?_cons_zero, Option.getD_some]
        refine wpMix_c (fun K hK => ?_) hs36
        go_simp
        refine hK _ _ ?_
        clear hK K
        refine mix_world (fun W => Below w5.heap.size w5 W ∧ BsS W (· < W.heap.size) (some ⟨w36.heap.size, 0, none⟩) [[97], [], [98, 99]]) ⟨hs36.alloc hs36.size _, ?_⟩ (fun _ h => h.1) ?_
        · refine ⟨[.slice (some ⟨w28.heap.size, 0, none⟩) 1 1, .slice none 0 0, .slice (some ⟨w9.heap.size, 0, none⟩) 2 2], (Bs.new w36 (fun _ => True) _ _ trivial).lt', rfl, fun k hk => ?_⟩
          match k, hk with
          | 0, _ => exact ⟨_, _, rfl, Nat.le_refl _, (ha36.alloc _).lt'⟩
          | 1, _ => exact ⟨_, _, rfl, Nat.le_refl _, Bs.nil⟩
          | 2, _ => exact ⟨_, _, rfl, Nat.le_refl _, (hb36.alloc _).lt'⟩
        rintro w37 ⟨hs37, hb37⟩
        refine wpMix_c (fun K hK => ?_) hs37
        go_simp
        refine (shasum_any [[97], [], [98, 99]] _ 3 3 w37 rfl hb37 (by decide) (by decide)).mono ?_
        rintro e w38 ⟨rfl, hx38⟩
        rw [show ((sha256 [[97], [], [98, 99]].flatten).map B).toArray = ks from hsum]
        refine hK _ _ ?_
        clear hK K
        have hs38 := hs37.trans (hx38.mono hs37.size)
        refine ⟨hs38, ?_⟩
        refine wpMix_v (by kernel_rfl) (.bool true) (fun s => hEq (.tmp 33) (.tmp 34) 26 rfl rfl rfl s.W) ?_
        simp only [Act.put]
        refine wpMix_s (fun K hK => ?_)
        go_simp
        refine hK _ ?_
        clear hK K
        refine wpMix_s (fun K hK => ?_)
        go_simp
        refine hK _ ?_
        clear hK K
        refine wpMix_s (fun K hK => ?_)
        go_simp
        refine hK _ ?_
        clear hK K
        refine wpMix_load (by kernel_rfl) 26 (.tmp 1) rfl w.heap.size 0 rfl ks (fun s => run_load_blk (agg26 _) (size26 _) _ _ hksl (hr5.below s.ok hr5.lt)) ?_
        simp only [Act.put]
        have hsh38 := hsh5.below hs38 hsh5.lt
        refine wpMix_c (fun K hK => ?_) hs38
        go_simp
        refine (sum_any g _ w38 hsh38 (by decide)).mono ?_
        rintro e w39 ⟨rfl, hx39⟩
        rw [hsum2]
        refine hK _ _ ?_
        clear hK K
        have hs39 := hs38.trans (hx39.mono hs38.size)
        refine ⟨hs39, ?_⟩
        refine wpMix_v (by kernel_rfl) (.bool true) (fun s => hEq (.tmp 39) (.tmp 40) 26 rfl rfl rfl s.W) ?_
        simp only [Act.put]
        refine wpMix_s (fun K hK => ?_)
        go_simp
        refine hK _ ?_
        clear hK K
        refine wpMix_s (fun K hK => ?_)
        go_simp
        refine hK _ ?_
        clear hK K
        refine wpMix_s (fun K hK => ?_)
        go_simp
        refine hK _ ?_
        clear hK K
        have hsh39 := hsh5.below hs39 hsh5.lt
        refine wpMix_c (fun K hK => ?_) hs39
        go_simp
        refine (len_any hsh39.choose_spec).mono ?_
        rintro e wz ⟨rfl, rfl⟩
        refine hK _ _ ?_
        clear hK K
        refine ⟨hs39, ?_⟩
        refine wpMix_s (fun K hK => ?_)
        go_simp
        refine hK _ ?_
        clear hK K
        refine wpMix_s (fun K hK => ?_)
        go_simp
        refine hK _ ?_
        clear hK K
        refine wpMix_s (fun K hK => ?_)
        go_simp
        refine hK _ ?_
        clear hK K
        refine wpMix_nil ?_
        intro _
        refine wpAnyH_end (by kernel_rfl) ?_
        go_wp2
        go_ret
        exact ⟨rfl, hB5.trans (hs39.mono hB5.size)⟩
    · simp only [Array.getD_eq_getD_getElem?, List.getElem?_toArray, List.getElem?_cons_succ, List.getElem?_cons_zero, Option.getD_some]
      have hc28 := run_convert_blk (P := Try.prog) (t := 23) (e := 5) 0 2 2 (by kernel_rfl) (by kernel_rfl) hb28
      have hl28 := hb28.lt
      refine wpMix_c (fun K hK => ?_) hs28
      go_simp
      refine hK _ _ ?_
      clear hK K
      refine mix_world (fun W => Below w5.heap.size w5 W ∧ Bs W (fun _ => True) (some ⟨w9.heap.size, 0, none⟩) ([98, 99].map B)) ⟨Lib.below_freeze hs28 (by first | exact hs9.size | omega) _, (Blk.new_bs hb28).freeze _ _⟩ (fun _ h => h.1) ?_
      rintro w40 ⟨hs40, hb40⟩
      refine wpMix_nil ?_
      intro _
      show wpAnyH _ _ _ _ _ _ #[true, true, true, true, true, true, true, false, false, true, true, false, false, true, false, false, false, false, false, false, false, false, false, false, false, false, false, false] _ _
      refine wpAnyH_pre (f := 17) (by kernel_rfl) #[true, true, true, true, true, true, true, true, false, true, true, false, false, true, false, false, false, false, false, false, false, false, false, false, false, false, false, false] [(7, false)] _ _ _ (by kernel_rfl) hs40 ?_
      simp only [List.map_cons, List.map_nil, Array.getD_eq_getD_getElem?, List.getElem?_toArray, List.getElem?_cons_succ, List.getElem?_cons_zero, Option.getD_some]
      refine wpMix_c (fun K hK => ?_) hs40
      go_simp
      refine hK _ _ ?_
      clear hK K
      refine mix_world (fun W => Below w5.heap.size w5 W ∧ Blk W w40.heap.size 5 ([97].map B).toArray ∧ Bs W (fun _ => True) (some ⟨w9.heap.size, 0, none⟩) ([98, 99].map B)) ⟨hs40.alloc hs40.size _, Blk.new w40 _ _, hb40.alloc _⟩ (fun _ h => h.1) ?_
      rintro w41 ⟨hs41, ha41, hb41⟩
      have la41 := ha41.lt
      refine wpMix_nil ?_
      intro _
      refine wpAnyH_pre (f := 16) (by kernel_rfl) #[true, true, true, true, true, true, true, true, true, true, true, false, false, true, false, false, false, false, false, false, false, false, false, false, false, false, false, false] [(8, false)] _ _ _ (by kernel_rfl) hs41 ?_
      simp only [List.map_cons, List.map_nil, Array.getD_eq_getD_getElem?, List.getElem?_toArray, List.getElem?_cons_succ, List.getElem?_cons_zero, Option.getD_some]
      have hc41 := run_convert_blk (P := Try.prog) (t := 23) (e := 5) 0 1 1 (by kernel_rfl) (by kernel_rfl) ha41
      have hl41 := ha41.lt
      refine wpMix_c (fun K hK => ?_) hs41
      go_simp
      refine hK _ _ ?_
      clear hK K
      refine mix_world (fun W => Below w5.heap.size w5 W ∧ Bs W (fun _ => True) (some ⟨w40.heap.size, 0, none⟩) ([97].map B) ∧ Bs W (fun _ => True) (some ⟨w9.heap.size, 0, none⟩) ([98, 99].map B)) ⟨Lib.below_freeze hs41 (by first | exact hs40.size | omega) _, (Blk.new_bs ha41).freeze _ _, hb41.freeze _ _⟩ (fun _ h => h.1) ?_
      rintro w42 ⟨hs42, ha42, hb42⟩
      refine wpMix_nil ?_
      intro _
      refine wpAnyH_pre (f := 0) (by kernel_rfl) #[true, true, true, true, true, true, true, true, true, true, true, true, true, true, true, true, true, true, true, true, true, true, true, true, true, true, true, true] [(11, false), (12, false), (14, true), (15, true), (16, true), (17, true), (19, true), (18, false), (20, true), (21, true), (22, true), (23, true), (24, false), (25, true), (26, true), (27, true)] _ _ _ (by kernel_rfl) hs42 ?_
      simp only [List.map_cons, List.map_nil, Array.getD_eq_getD_getElem?, List.getElem?_toArray, List.getElem?_cons_succ, List.getElem?_cons_zero, Option.getD_some]
      refine wpMix_c (fun K hK => ?_) hs42
      go_simp
      refine hK _ _ ?_
      clear hK K
      refine mix_world (fun W => Below w5.heap.size w5 W ∧ BsS W (· < W.heap.size) (some ⟨w42.heap.size, 0, none⟩) [[97], [], [98, 99]]) ⟨hs42.alloc hs42.size _, ?_⟩ (fun _ h => h.1) ?_
      · refine ⟨[.slice (some ⟨w40.heap.size, 0, none⟩) 1 1, .slice none 0 0, .slice (some ⟨w9.heap.size, 0, none⟩) 2 2], (Bs.new w42 (fun _ => True) _ _ trivial).lt', rfl, fun k hk => ?_⟩
        match k, hk with
        | 0, _ => exact ⟨_, _, rfl, Nat.le_refl _, (ha42.alloc _).lt'⟩
        | 1, _ => exact ⟨_, _, rfl, Nat.le_refl _, Bs.nil⟩
        | 2, _ => exact ⟨_, _, rfl, Nat.le_refl _, (hb42.alloc _).lt'⟩
      rintro w43 ⟨hs43, hb43⟩
      refine wpMix_c (fun K hK => ?_) hs43
      go_simp
      refine (shasum_any [[97], [], [98, 99]] _ 3 3 w43 rfl hb43 (by decide) (by decide)).mono ?_
      rintro e w44 ⟨rfl, hx44⟩
      rw [show ((sha256 [[97], [], [98, 99]].flatten).map B).toArray = ks from hsum]
      refine hK _ _ ?_
      clear hK K
      have hs44 := hs43.trans (hx44.mono hs43.size)
      refine ⟨hs44, ?_⟩
      refine wpMix_v (by kernel_rfl) (.bool true) (fun s => hEq (.tmp 33) (.tmp 34) 26 rfl rfl rfl s.W) ?_
      simp only [Act.put]
      refine wpMix_s (fun K hK => ?_)
      go_simp
      refine hK _ ?_
      clear hK K
      refine wpMix_s (fun K hK => ?_)
      go_simp
      refine hK _ ?_
      clear hK K
      refine wpMix_s (fun K hK => ?_)
      go_simp
      refine hK _ ?_
      clear hK K
      refine wpMix_load (by kernel_rfl) 26 (.tmp 1) rfl w.heap.size 0 rfl ks (fun s => run_load_blk (agg26 _) (size26 _) _ _ hksl (hr5.below s.ok hr5.lt)) ?_
      simp only [Act.put]
      have hsh44 := hsh5.below hs44 hsh5.lt
      refine wpMix_c (fun K hK => ?_) hs44
      go_simp
      refine (sum_any g _ w44 hsh44 (by decide)).mono ?_
      rintro e w45 ⟨rfl, hx45⟩
      rw [hsum2]
      refine hK _ _ ?_
      clear hK K
      have hs45 := hs44.trans (hx45.mono hs44.size)
      refine ⟨hs45, ?_⟩
      refine wpMix_v (by kernel_rfl) (.bool true) (fun s => hEq (.tmp 39) (.tmp 40) 26 rfl rfl rfl s.W) ?_
      simp only [Act.put]
      refine wpMix_s (fun K hK => ?_)
      go_simp
      refine hK _ ?_
      clear hK K
      refine wpMix_s (fun K hK => ?_)
      go_simp
      refine hK _ ?_
      clear hK K
      refine wpMix_s (fun K hK => ?_)
      go_simp
      refine hK _ ?_
      clear hK K
      have hsh45 := hsh5.below hs45 hsh5.lt
      refine wpMix_c (fun K hK => ?_) hs45
      go_simp
      refine (len_any hsh45.choose_spec).mono ?_
      rintro e wz ⟨rfl, rfl⟩
      refine hK _ _ ?_
      clear hK K
      refine ⟨hs45, ?_⟩
      refine wpMix_s (fun K hK => ?_)
      go_simp
      refine hK _ ?_
      clear hK K
      refine wpMix_s (fun K hK => ?_)
      go_simp
      refine hK _ ?_
      clear hK K
      refine wpMix_s (fun K hK => ?_)
      go_simp
      refine hK _ ?_
      clear hK K
      refine wpMix_nil ?_
      intro _
      refine wpAnyH_end (by kernel_rfl) ?_
      go_wp2
      go_ret
      exact ⟨rfl, hB5.trans (hs45.mono hB5.size)⟩
end Go.Proofs.Ytdkgndjomkbbjaa
