/- notaryref10.Read. -/
import Derived.Test.YtonidnfgneokbaaQd228
namespace Go.Proofs.Ytonidnfgneokbaa
open Go Go.RowKit Go.Shelf
attribute [local go_sem] Oper.semAt_some

theorem sgnN_big (x : Nat) (h1 : 9223372036854775807 < x) (h2 : x < 18446744073709551616) : sgnN x < 0 := by unfold sgnN; rw [IntKind.wrap_i64]; omega
theorem sgnN_small (x : Nat) (h1 : x ≤ 9223372036854775807) : sgnN x = (x : Int) := by unfold sgnN; rw [IntKind.wrap_i64]; omega
theorem readF_big (b : List UInt8) (h : 9223372036854775807 < numN (b.take 8)) (h2 : numN (b.take 8) < 18446744073709551616) : readF b = (none, 200) := by
  unfold readF
  split
  · rfl
  split
  · rfl
  · have : (fromE (sgnN (numN (b.take 8))) (chunksF (b.drop 8) ((b.length - 8) / 32))).1 = none := by
      unfold fromE
      rw [if_pos (sgnN_big _ h h2)]
    rw [this]
theorem aggRd : ∀ w : World, (isAgg 162).run Try.prog w = .ok true w := fun _ => by kernel_rfl
theorem sizeRd : ∀ w : World, (sizeOf 162).run Try.prog w = .ok 2 w := fun _ => by kernel_rfl
/-- between two rounds of Read -/
structure RgI (w : World) (g b7 : Nat) (b : List UInt8) (k : Nat) (v : Value) (W : World) : Prop where
  rd : Rd1 W (fun b => b < g) g b (8 + 32 * k)
  own : W.ownsRow b7 25 32 v k (hcells (chunksF (b.drop 8) k))
  bel : Below w.heap.size w W
  le : b7 ≤ W.heap.size
theorem Rd1.far {W W' : World} {g p N : Nat} {l : List UInt8} (h : Rd1 W (fun b => b < g) g l p) (hb : Below N W W') (hN : g < N) : Rd1 W' (fun b => b < g) g l p :=
  ⟨let ⟨A, n, c, h1, h2⟩ := h.ex; ⟨A, n, c, h1.below hb hN, h2.below hb fun _ _ hx => Nat.lt_trans hx hN⟩, h.off, h.le⟩

set_option maxHeartbeats 4000000 in
set_option maxRecDepth 100000 in
theorem rfread_any (b : List UInt8) (A : Option Addr) (n c : Nat) (w : World) (h : Sl w (fun _ => True) A n c b) (hn : n ≤ 1000000000) :
    Calls Try.prog 53 #[.slice A n c] w fun e w' => ∃ v, e = .returned (.tuple #[v, .int .i64 (readF b).2]) ∧ FrPOpt w' w.heap.size v (readF b).1 ∧ Below w.heap.size w w' := by
  have hlen := h.len
  have hbig := readF_big b
  have hnlt : numN (b.take 8) < 18446744073709551616 := by
    have h1 := numN_lt _ (b.take 8) rfl
    have h2 : 256 ^ (b.take 8).length ≤ 256 ^ 8 := Nat.pow_le_pow_right (by decide) (by rw [List.length_take]; omega)
    exact Nat.lt_of_lt_of_le h1 h2
  obtain ⟨res, hres⟩ : ∃ r, readF b = r := ⟨_, rfl⟩
  rw [hres] at hbig ⊢
  unfold readF at hres
  have Hres := Lib.hid hres
  have Hlen := Lib.hid hlen
  have Hbig := Lib.hid hbig
  have H := Lib.hid h
  clear hres hlen hbig h
  -- the reader
  have k0 : Blk ((w.alloc (.cells #[.slice none 0 0, .int .i64 0] 162)).setRow w.heap.size #[.slice A n c, .int .i64 0]) w.heap.size 162 #[.slice A n c, .int .i64 0] := (Blk.new _ _ _).setRow_ _
  have hb0 : Below w.heap.size w ((w.alloc (.cells #[.slice none 0 0, .int .i64 0] 162)).setRow w.heap.size #[.slice A n c, .int .i64 0]) := below_setRow ((Below.refl _ _).alloc (Nat.le_refl _) _) (Nat.le_refl _) _
  obtain ⟨w1, hw1⟩ : ∃ x, (w.alloc (.cells #[.slice none 0 0, .int .i64 0] 162)).setRow w.heap.size #[.slice A n c, .int .i64 0] = x := ⟨_, rfl⟩
  rw [hw1] at k0 hb0
  have hR1 : Rd1 w1 (fun b => b < w.heap.size) w.heap.size b 0 := ⟨⟨A, n, c, k0, (H.out.weak fun b hb _ => hb).step hb0⟩, fun b hb => Nat.ne_of_lt hb, Nat.zero_le _⟩
  have hg1 := hR1.lt
  have Hw1 := Lib.hid hw1
  clear hw1 k0
  by_cases h8 : 8 ≤ b.length
  · have hr1 := Hres.out
    rw [if_neg (by omega)] at hr1
    have Hr1 := Lib.hid hr1
    have hnum := r1number_any _ _ b 0 w1 hR1 (by omega)
    rw [List.drop_zero] at hnum
    have hsb := sgnN_small (numN (b.take 8))
    obtain ⟨sg, hsg⟩ : ∃ s, numN (b.take 8) = s := ⟨_, rfl⟩
    rw [hsg] at hnum hsb hnlt
    have Hnum := Lib.hid hnum
    have Hsgn := Lib.hid hsg
    have Hsb := Lib.hid hsb
    have H8 := Lib.hid h8
    clear hr1 Hres hsg h8 hnum hsb
    by_cases htop : 9223372036854775807 < sg
    · have hr := Hbig.out (by rw [Hsgn.out]; exact htop) (by rw [Hsgn.out]; exact hnlt)
      subst hr
      have hdt : decide ((9223372036854775807 : Int) < (sg : Int)) = true := by simp; omega
      have hdt' : (9223372036854775807 : Int) < (sg : Int) := by omega
      go_enter Try.func53, Try.ntmps53
      go_wp2_with (first
        | ((with_reducible show wpList _ _ _ (⟨some 13, .build _ _, _, _, _, _⟩ :: _) _ _); refine wpList_run0 rfl (.agg #[.slice A n c, .int .i64 0]) (by kernel_rfl) ?_; simp only [Act.put])
        | ((with_reducible show wpList _ _ _ (⟨some 4, .alloc _, _, _, _, _⟩ :: _) _ _); refine wpList_run rfl (.pointer (some ⟨w.heap.size, 0, none⟩)) (w.alloc (.cells #[.slice none 0 0, .int .i64 0] 162)) (by kernel_rfl) ?_; simp only [Act.put])
        | ((with_reducible show wpList _ _ _ [⟨none, .store _ (.tmp 4) _, _, _, _, _⟩] _ _); refine wpList_store_blk rfl 162 (.tmp 4) (.tmp 13) rfl 2 sizeRd w.heap.size #[.slice A n c, .int .i64 0] rfl rfl rfl (by simp [Value.oneCell']) 162 _ (Blk.new _ _ _) rfl ?_; rw [Hw1.out]; simp only [Act.put])
        | (go_at_call 122; refine Hnum.out.mono ?_; rintro e w2 ⟨rfl, hR2, hg2⟩))
      exact bodyPost_ret (results_tmp2 rfl _ _ _) rfl ⟨_, rfl, .inl ⟨rfl, rfl⟩, hb0.grown hg2 hb0.size (fun r e => by have e : w.heap.size = r := Option.some.inj e; omega)⟩
    · have hdt : decide ((9223372036854775807 : Int) < (sg : Int)) = false := by simp; omega
      have hdt' : ¬ (9223372036854775807 : Int) < (sg : Int) := by omega
      have hws : IntKind.i64.wrap (sg : Int) = (sg : Int) := IntWalk.i64_in _ (by omega)
      have hle : (sg : Int) ≤ 9223372036854775807 := by omega
      have hsgn := Hsb.out (by omega)
      have Hsgs := Lib.hid hsgn
      clear hsgn
      go_enter Try.func53, Try.ntmps53
      go_wp2_with (first
        | ((with_reducible show wpList _ _ _ (⟨some 13, .build _ _, _, _, _, _⟩ :: _) _ _); refine wpList_run0 rfl (.agg #[.slice A n c, .int .i64 0]) (by kernel_rfl) ?_; simp only [Act.put])
        | ((with_reducible show wpList _ _ _ (⟨some 4, .alloc _, _, _, _, _⟩ :: _) _ _); refine wpList_run rfl (.pointer (some ⟨w.heap.size, 0, none⟩)) (w.alloc (.cells #[.slice none 0 0, .int .i64 0] 162)) (by kernel_rfl) ?_; simp only [Act.put])
        | ((with_reducible show wpList _ _ _ [⟨none, .store _ (.tmp 4) _, _, _, _, _⟩] _ _); refine wpList_store_blk rfl 162 (.tmp 4) (.tmp 13) rfl 2 sizeRd w.heap.size #[.slice A n c, .int .i64 0] rfl rfl rfl (by simp [Value.oneCell']) 162 _ (Blk.new _ _ _) rfl ?_; rw [Hw1.out]; simp only [Act.put])
        | (go_at_call 122; refine Hnum.out.mono ?_; rintro e w2 ⟨rfl, hR2, hg2⟩))
      have hbel2 : Below w.heap.size w w2 := hb0.grown hg2 hb0.size (fun r e => by have e : w.heap.size = r := Option.some.inj e; omega)
      have hI : RgI w w.heap.size w2.heap.size b 0 (.slice none 0 0) w2 := ⟨hR2, World.ownsRow_nil _ _ _ _, hbel2, Nat.le_refl _⟩
      have hgb : w.heap.size < w2.heap.size := Nat.lt_of_lt_of_le hg1 hg2.size
      obtain ⟨b7, hb7⟩ : ∃ x, w2.heap.size = x := ⟨_, rfl⟩
      rw [hb7] at hI hgb
      clear hbel2 hb7 hR2 hg2 hR1 hb0 hg1 Hnum Hsb Hbig
      go_loopw [7, 8, 9] (fun v7 _ _ wr => ∃ k : Nat, 8 + 32 * k ≤ b.length ∧ RgI w w.heap.size b7 b k v7 wr) (fun v7 _ _ _ => b.length - sliceLen v7)
      case atStart => exact ⟨0, H8.out, hI⟩
      case round =>
        clear hI
        obtain ⟨k, hk8, hI⟩ := hrel
        have Hleft := Lib.hid (r1left_any _ w.heap.size b (8 + 32 * k) wr hI.rd)
        obtain ⟨d, hd⟩ : ∃ d, b.length - (8 + 32 * k) = d := ⟨_, rfl⟩
        rw [hd] at Hleft
        rcases Nat.eq_zero_or_pos d with rfl | hdp
        · have hm : (b.length - 8) % 32 = 0 := by omega
          have hq : (b.length - 8) / 32 = k := by omega
          have hr := Hr1.out
          rw [if_neg (by omega), hq, Hsgn.out, Hsgs.out] at hr
          obtain ⟨A7, c7, rfl, hH⟩ := owns_hs hI.own (length_chunksF _ _) (chunksF_all _ _ (by rw [List.length_drop]; omega))
          have hfr := fun W (hb : Below wr.heap.size wr W) => rfrom_any (sg : Int) (chunksF (b.drop 8) k) A7 k c7 W ((hH.weak fun _ _ _ => trivial).step hb) hle
          have hbel := hI.bel
          clear hI hH hm hq hd hk8
          rcases fromE_two (sg : Int) (chunksF (b.drop 8) k) with ⟨ps, hps⟩ | hps
          · rw [hps] at hr hfr
            subst hr
            have Hfr := Lib.hid hfr
            clear hfr hps
            go_wp2_with (first
              | (go_at_call 123; refine Hleft.out.mono ?_; rintro e w4 ⟨rfl, hb4⟩)
              | (go_at_call 56; refine (Hfr.out w4 hb4).mono ?_; rintro e w5 ⟨v5, rfl, hO5, hb5⟩))
            refine bodyPost_ret (results_tmp2 rfl _ _ _) rfl ⟨_, rfl, ?_, (hbel.trans (hb4.mono hbel.size)).trans (hb5.mono (Nat.le_trans hbel.size hb4.size))⟩
            rcases hO5 with ⟨h, _⟩ | ⟨g5, ps5, h1, h2, h3, h4⟩
            · cases h
            · exact .inr ⟨g5, ps5, h1, h2, Nat.le_trans (Nat.le_trans hbel.size hb4.size) h3, h4.le (Nat.le_trans hbel.size hb4.size)⟩
          · rw [hps] at hr hfr
            subst hr
            have Hfr := Lib.hid hfr
            clear hfr hps
            go_wp2_with (first
              | (go_at_call 123; refine Hleft.out.mono ?_; rintro e w4 ⟨rfl, hb4⟩)
              | (go_at_call 56; refine (Hfr.out w4 hb4).mono ?_; rintro e w5 ⟨v5, rfl, hO5, hb5⟩))
            exact bodyPost_ret (results_tmp2 rfl _ _ _) rfl ⟨_, rfl, .inl ⟨rfl, rfl⟩, (hbel.trans (hb4.mono hbel.size)).trans (hb5.mono (Nat.le_trans hbel.size hb4.size))⟩
        · have hdec : decide ((0 : Int) < (d : Int)) = true := by simp; omega
          have hdec' : (0 : Int) < (d : Int) := by omega
          by_cases hfit : 8 + 32 * k + 32 ≤ b.length
          · have Hha := Lib.hid fun W h hX => r1hash_any (fun b => b < w.heap.size) w.heap.size b (8 + 32 * k) W h hX hfit
            have hck : (b.drop (8 + 32 * k)).take 32 = chunkF (b.drop 8) k := by unfold chunkF; rw [List.drop_drop]
            have hcl := length_chunkF (b.drop 8) k (by rw [List.length_drop]; omega)
            have hcs := chunksF_succ (b.drop 8) k
            rw [hck] at Hha
            obtain ⟨x, hx⟩ : ∃ x, chunkF (b.drop 8) k = x := ⟨_, rfl⟩
            rw [hx] at Hha hcl hcs
            obtain ⟨q, hq⟩ : ∃ q, chunksF (b.drop 8) k = q := ⟨_, rfl⟩
            have hql : q.length = k := by rw [← hq]; exact length_chunksF _ _
            have ho := hI.own
            rw [hq] at hcs ho
            rw [← hql] at ho
            have Hcs := Lib.hid hcs
            have hrd := hI.rd
            have hle7 := hI.le
            have hbel := hI.bel
            have hnl := Hlen.out
            have hk2 : k ≤ 1000000000 := by omega
            have hbl : q.length ≤ 1000000000 := by omega
            have Hql := Lib.hid hql
            obtain ⟨A7, c7, rfl, -⟩ := owns_slv ho
            clear hI hq hcs hx hck hd hql hnl
            go_wp2_with (first
              | (go_at_call 123; refine Hleft.out.mono ?_; rintro e w4 ⟨rfl, hb4⟩)
              | (go_at_call 124; refine (Hha.out w4 (hrd.step hb4) (fun b hb => Nat.lt_of_lt_of_le hb (Nat.le_trans hbel.size hb4.size))).mono ?_; rintro e w5 ⟨rfl, hR5, hg5⟩)
              | ((with_reducible show wpList _ _ _ (⟨some 8, .alloc _, _, _, _, _⟩ :: _) _ _); refine wpList_hvar (.tmp 8) (.tmp 28) rfl rfl rfl rfl rfl rfl hcl ?_; intro w6 k8 hb6; have h45 : b7 ≤ w5.heap.size := Nat.le_trans (Nat.le_trans hle7 hb4.size) hg5.size; have ho6 := owns_step (owns_keptF (owns_step ho hb4) hg5 hgb) hb6; obtain ⟨v9, w9, hr9, ho9, hg9, -⟩ := append_hw ho6 x hcl hbl (Nat.le_trans h45 hb6.size); have hl9 : (q ++ [x]).length = k + 1 := (by rw [List.length_append, Hql.out]; rfl); rw [hl9] at ho9; obtain ⟨A9, c9, rfl, -⟩ := owns_slv ho9; have Hr9 := Lib.hid hr9; clear hr9; simp only [Act.put])
              | ((with_reducible show wpList _ _ _ (⟨some 33, .load _ _, _, _, _, _⟩ :: _) _ _); refine wpList_hload (.tmp 8) (by kernel_rfl) rfl k8 rfl ?_; simp only [Act.put])
              | ((with_reducible show wpList _ _ _ (⟨some 34, .buildSlice _ _ _, _, _, _, _⟩ :: _) _ _); refine wpList_run rfl _ _ (run_litH1_op x hcl (.tmp 33) rfl rfl _) ?_; simp only [Act.put])
              | ((with_reducible show wpList _ _ _ (⟨some 35, .call _, _, _, _, _⟩ :: _) _ _); refine wpList_run rfl _ w9 (run_append_op (.tmp 32) (.tmp 34) 26 rfl _ _ rfl rfl Hr9.out) ?_; simp only [Act.put]))
            have hb9 : Below b7 w6 w9 := (Below.refl _ _).grown hg9 (Nat.le_trans h45 hb6.size) (fun r e => (ho6.lt r e).1)
            have hbel5 : Below w.heap.size w w5 := (hbel.trans (hb4.mono hbel.size)).grown hg5 (Nat.le_trans hbel.size hb4.size) (fun r e => by have e : w.heap.size = r := Option.some.inj e; omega)
            rw [← Hcs.out] at ho9
            go_roundw
            case rel => exact ⟨k + 1, by omega, ⟨(hR5.step hb6).far hb9 hgb, ho9, (hbel5.trans (hb6.mono hbel5.size)).trans (hb9.mono (Nat.le_of_lt hgb)), Nat.le_trans (Nat.le_trans h45 hb6.size) hb9.size⟩⟩
            case measure => have := Hql.out; simp [sliceLen]; omega
          · have Hha := Lib.hid fun W h => r1hash_bad (fun b => b < w.heap.size) w.heap.size b (8 + 32 * k) W h hfit
            have hr := Hr1.out
            rw [if_pos (by omega)] at hr
            subst hr
            have hz32 : (List.replicate 32 (0 : UInt8)).length = 32 := rfl
            obtain ⟨z, hz⟩ : ∃ z, List.replicate 32 (0 : UInt8) = z := ⟨_, rfl⟩
            rw [hz] at Hha hz32
            clear hz
            have hrd := hI.rd
            have hbel := hI.bel
            clear hI
            go_wp2_with (first
              | (go_at_call 123; refine Hleft.out.mono ?_; rintro e w4 ⟨rfl, hb4⟩)
              | (go_at_call 124; refine (Hha.out w4 (hrd.step hb4)).mono ?_; rintro e w5 ⟨rfl, hR5, hb5⟩)
              | ((with_reducible show wpList _ _ _ (⟨some 8, .alloc _, _, _, _, _⟩ :: _) _ _); refine wpList_hvar (.tmp 8) (.tmp 28) rfl rfl rfl rfl rfl rfl hz32 ?_; intro w6 k8 hb6; simp only [Act.put]))
            have hbel5 := (hbel.trans (hb4.mono hbel.size)).trans (hb5.mono (Nat.le_trans hbel.size hb4.size))
            exact bodyPost_ret (results_tmp2 rfl _ _ _) rfl ⟨_, rfl, .inl ⟨rfl, rfl⟩, hbel5.trans (hb6.mono hbel5.size)⟩
  · have hr1 := Hres.out
    rw [if_pos (by omega)] at hr1
    subst hr1
    have Hnum := Lib.hid (r1number_bad _ _ b 0 w1 hR1 (by omega))
    go_enter Try.func53, Try.ntmps53
    go_wp2_with (first
      | ((with_reducible show wpList _ _ _ (⟨some 13, .build _ _, _, _, _, _⟩ :: _) _ _); refine wpList_run0 rfl (.agg #[.slice A n c, .int .i64 0]) (by kernel_rfl) ?_; simp only [Act.put])
      | ((with_reducible show wpList _ _ _ (⟨some 4, .alloc _, _, _, _, _⟩ :: _) _ _); refine wpList_run rfl (.pointer (some ⟨w.heap.size, 0, none⟩)) (w.alloc (.cells #[.slice none 0 0, .int .i64 0] 162)) (by kernel_rfl) ?_; simp only [Act.put])
      | ((with_reducible show wpList _ _ _ [⟨none, .store _ (.tmp 4) _, _, _, _, _⟩] _ _); refine wpList_store_blk rfl 162 (.tmp 4) (.tmp 13) rfl 2 sizeRd w.heap.size #[.slice A n c, .int .i64 0] rfl rfl rfl (by simp [Value.oneCell']) 162 _ (Blk.new _ _ _) rfl ?_; rw [Hw1.out]; simp only [Act.put])
      | (go_at_call 122; refine Hnum.out.mono ?_; rintro e w2 ⟨rfl, hR2, hb2⟩))
    exact bodyPost_ret (results_tmp2 rfl _ _ _) rfl ⟨_, rfl, .inl ⟨rfl, rfl⟩, hb0.trans (hb2.mono hb0.size)⟩
end Go.Proofs.Ytonidnfgneokbaa
/- notaryref10: Same, Copy. -/
namespace Go.Proofs.Ytonidnfgneokbaa
open Go Go.RowKit Go.Shelf
attribute [local go_sem] Oper.semAt_some

theorem run_equalIn_hashF (d : Nat) (xs ys : List UInt8) (hx : xs.length = 32) (hy : ys.length = 32) (W : World) : (Op.equalIn (d + 2) 25 (.agg (xs.map B).toArray) (.agg (ys.map B).toArray)).run Try.prog W = .ok (xs == ys) W :=
  run_equalIn_ints (P := Try.prog) (fun x : UInt8 => (x.toNat : Int)) eqB (t := 25) (e := 5) (N := 32) Try.underlying25 (by kernel_rfl) size25e agg25e d xs ys hx hy W
theorem part_num (n : Int) (x : List UInt8) (W : World) : (part 2 (Value.int .i64 n :: x.map B).toArray 0).run Try.prog W = .ok (.int .i64 n) W := by
  simp [part]
theorem part_hsh (n : Int) (x : List UInt8) (hx : x.length = 32) (W : World) : (part 25 (Value.int .i64 n :: x.map B).toArray 1).run Try.prog W = .ok (.agg (x.map B).toArray) W := by
  have e2 : (Value.int .i64 n :: x.map B).toArray.extract 1 (1 + 32) = (x.map B).toArray := by
    apply Array.ext_getElem?
    intro i
    simp only [Array.getElem?_extract, List.getElem?_toArray, List.size_toArray, List.length_cons, List.length_map, hx]
    by_cases h : i < 32
    · rw [if_pos (by omega), show 1 + i = i + 1 by omega, List.getElem?_cons_succ]
    · rw [if_neg (by omega), List.getElem?_eq_none (by rw [List.length_map, hx]; omega)]
  simp only [part, Sem.run_bind, agg26, size26, Result.andThen_ok, if_true, Sem.run_pure]
  rw [e2]
theorem underPq : Try.prog.underlying 93 = some (.struct (Try.prog.fieldsOf 93)) := by kernel_rfl
theorem heldPq : Try.prog.stoodInHeld 93 = false := by kernel_rfl
theorem guardPq : Try.prog.eqGuardType Try.prog.depth 93 = false := by kernel_rfl
theorem run_neqPq (n m : Int) (x y : List UInt8) (hx : x.length = 32) (hy : y.length = 32) (W : World) : (binOp .neq 93 (.agg (Value.int .i64 n :: x.map B).toArray) (.agg (Value.int .i64 m :: y.map B).toArray)).run Try.prog W = .ok (.bool (!(n == m && x == y))) W := by
  have hf : (Try.prog.fieldsOf 93).toList = [{ name := "Many", type := 2, offset := 0, embedded := false, tag := "", pkgPath := "", byteOffset := 0 }, { name := "Hash", type := 25, offset := 1, embedded := false, tag := "", pkgPath := "", byteOffset := 8 }] := by kernel_rfl
  have h1 := fun W => part_num n x W
  have h2 := fun W => part_num m y W
  have h3 := fun W => part_hsh n x hx W
  have h4 := fun W => part_hsh m y hy W
  have h5 := fun W => run_equalIn_hashF 9997 x y hx hy W
  have h6 : ∀ W, (Op.equalIn 9999 2 (.int .i64 n) (.int .i64 m)).run Try.prog W = .ok (n == m) W := fun W => run_equalIn_int W 9998 _ _ _ _ _ Try.underlying2
  rw [run_neq_struct, run_equalIn_agg W 9999 _ _ _ underPq heldPq, hf]
  generalize (Value.int .i64 n :: x.map B).toArray = U at h1 h3 ⊢
  generalize (Value.int .i64 m :: y.map B).toArray = V at h2 h4 ⊢
  generalize hD : 9999 = D at *
  have h5 : ∀ W, (Op.equalIn D 25 (.agg (x.map B).toArray) (.agg (y.map B).toArray)).run Try.prog W = .ok (x == y) W := by rw [← hD]; exact h5
  cases hnm : (n == m)
  · simp [Op.eqFields, h1, h2, h6, hnm]
  · cases hxy : (x == y) <;> simp [Op.eqFields, h1, h2, h3, h4, h6, h5, hnm, hxy]
theorem run_neqPq_op {ρ : Operand → Value} {o : Oper} (a b : Operand) (ty : TypeId) (n m : Int) (x y : List UInt8) (hx : x.length = 32) (hy : y.length = 32) (ho : o.op = .binOp .neq 93 a b ty) (ha : ρ a = .agg (Value.int .i64 n :: x.map B).toArray) (hb : ρ b = .agg (Value.int .i64 m :: y.map B).toArray) (W : World) :
    (execOp ρ o).run Try.prog W = .ok (.value (.bool (!(n == m && x == y)))) W := by
  unfold execOp
  simp only [ho, ha, hb, Sem.run_bind, Sem.run_pure, run_eqGuard_agg _ _ _ _ _ _ _ guardPq, run_neqPq n m x y hx hy W, Result.andThen_ok]

theorem run_neqPq_v {ρ : Operand → Value} {o : Oper} (a b : Operand) (ty : TypeId) (n m : Int) (x y : List UInt8) (hx : x.length = 32) (hy : y.length = 32) (v : Bool) (hv : (!(n == m && x == y)) = v) (ho : o.op = .binOp .neq 93 a b ty) (ha : ρ a = .agg (Value.int .i64 n :: x.map B).toArray) (hb : ρ b = .agg (Value.int .i64 m :: y.map B).toArray) (W : World) :
    (execOp ρ o).run Try.prog W = .ok (.value (.bool v)) W := by rw [← hv]; exact run_neqPq_op a b ty n m x y hx hy ho ha hb W
set_option maxHeartbeats 4000000 in
set_option maxRecDepth 100000 in
theorem rfcopy_nil (w : World) : Calls Try.prog 57 #[.pointer none] w fun e w' => e = .returned (.pointer none) ∧ w' = w := by
  go_enter Try.func57, Try.ntmps57
  go_wp2_with fail
  go_ret
  exact ⟨rfl, rfl⟩
set_option maxHeartbeats 4000000 in
set_option maxRecDepth 100000 in
theorem rfcopy_any (g : Nat) (ps : FrV) (w : World) (h : FrP w g ps) : Calls Try.prog 57 #[fptr g] w fun e w' => e = .returned (fptr w.heap.size) ∧ FrP w' w.heap.size ps ∧ Below w.heap.size w w' := by
  obtain ⟨A, n, c, hk, hP⟩ := h.ex
  have c1 : w.cell? ⟨g, 0, none⟩ = some (.slice A n c) := by rw [hk.cell]; rfl
  have hb : Below w.heap.size w (w.alloc (.cells #[.slice A n c] 91)) := (Below.refl _ _).alloc (Nat.le_refl _) _
  have hF : FrP (w.alloc (.cells #[.slice A n c] 91)) w.heap.size ps := ⟨A, n, c, Blk.new _ _ _, hP.step hb⟩
  clear hP h hk
  go_enter Try.func57, Try.ntmps57
  go_wp2_with fail
  go_ret
  exact ⟨rfl, hF, hb⟩

set_option maxHeartbeats 4000000 in
set_option maxRecDepth 100000 in
theorem rfsame_nilL (v : Value) (w : World) (hv : v = .pointer none ∨ ∃ g, v = fptr g) : Calls Try.prog 65 #[.pointer none, v] w fun e w' => e = .returned (.bool false) ∧ Below w.heap.size w w' := by
  rcases hv with rfl | ⟨g, rfl⟩
  · go_enter Try.func65, Try.ntmps65
    go_wp2_with fail
    have hS : Below w.heap.size w w.drew := (Below.refl _ _).drew
    refine wp_region_mix (fun W => Below w.heap.size w W) [(0, true), (1, true), (2, true), (3, true), (4, true), (5, true), (6, true), (7, true), (8, true), (9, true), (10, true), (11, true), (12, true), (13, true), (14, true), (15, true), (16, true), (17, true), (18, true)] (by kernel_rfl) (by kernel_rfl) hS fun _ => ?_
    simp only [List.map_cons, List.map_nil, Array.getD_eq_getD_getElem?, List.getElem?_toArray, List.getElem?_cons_succ, List.getElem?_cons_zero, Option.getD_some]
    generalize w.drew = u2 at hS ⊢
    refine wpMix_s (fun K hK => ?_)
    go_simp
    refine hK _ ?_
    clear hK K
    refine wpMix_s (fun K hK => ?_)
    go_simp
    refine hK _ ?_
    clear hK K
    refine wpMix_s (fun K hK => ?_)
    go_simp
    refine hK _ ?_
    clear hK K
    refine wpMix_s (fun K hK => ?_)
    go_simp
    refine hK _ ?_
    clear hK K
    refine wpMix_s (fun K hK => ?_)
    go_simp
    refine hK _ ?_
    clear hK K
    refine wpMix_s (fun K hK => ?_)
    go_simp
    refine hK _ ?_
    clear hK K
    refine wpMix_s (fun K hK => ?_)
    go_simp
    refine hK _ ?_
    clear hK K
    refine wpMix_s (fun K hK => ?_)
    go_simp
    refine hK _ ?_
    clear hK K
    refine wpMix_s (fun K hK => ?_)
    go_simp
    refine hK _ ?_
    clear hK K
    refine wpMix_s (fun K hK => ?_)
    go_simp
    refine hK _ ?_
    clear hK K
    refine wpMix_s (fun K hK => ?_)
    go_simp
    refine hK _ ?_
    clear hK K
    refine wpMix_s (fun K hK => ?_)
    go_simp
    refine hK _ ?_
    clear hK K
    refine wpMix_s (fun K hK => ?_)
    go_simp
    refine hK _ ?_
    clear hK K
    refine wpMix_s (fun K hK => ?_)
    go_simp
    refine hK _ ?_
    clear hK K
    refine wpMix_s (fun K hK => ?_)
    go_simp
    refine hK _ ?_
    clear hK K
    refine wpMix_s (fun K hK => ?_)
    go_simp
    refine hK _ ?_
    clear hK K
    refine wpMix_s (fun K hK => ?_)
    go_simp
    refine hK _ ?_
    clear hK K
    refine wpMix_s (fun K hK => ?_)
    go_simp
    refine hK _ ?_
    clear hK K
    refine wpMix_s (fun K hK => ?_)
    go_simp
    refine hK _ ?_
    clear hK K
    refine wpMix_nil ?_
    intro _
    go_wp2_with fail
    go_ret
    exact ⟨rfl, hS⟩
  · go_enter Try.func65, Try.ntmps65
    go_wp2_with fail
    have hS : Below w.heap.size w w.drew := (Below.refl _ _).drew
    refine wp_region_mix (fun W => Below w.heap.size w W) [(0, true), (1, true), (2, true), (3, true), (4, true), (5, true), (6, true), (7, true), (8, true), (9, true), (10, true), (11, true), (12, true), (13, true), (14, true), (15, true), (16, true), (17, true), (18, true)] (by kernel_rfl) (by kernel_rfl) hS fun _ => ?_
    simp only [List.map_cons, List.map_nil, Array.getD_eq_getD_getElem?, List.getElem?_toArray, List.getElem?_cons_succ, List.getElem?_cons_zero, Option.getD_some]
    generalize w.drew = u2 at hS ⊢
    refine wpMix_s (fun K hK => ?_)
    go_simp
    refine hK _ ?_
    clear hK K
    refine wpMix_s (fun K hK => ?_)
    go_simp
    refine hK _ ?_
    clear hK K
    refine wpMix_s (fun K hK => ?_)
    go_simp
    refine hK _ ?_
    clear hK K
    refine wpMix_s (fun K hK => ?_)
    go_simp
    refine hK _ ?_
    clear hK K
    refine wpMix_s (fun K hK => ?_)
    go_simp
    refine hK _ ?_
    clear hK K
    refine wpMix_s (fun K hK => ?_)
    go_simp
    refine hK _ ?_
    clear hK K
    refine wpMix_s (fun K hK => ?_)
    go_simp
    refine hK _ ?_
    clear hK K
    refine wpMix_s (fun K hK => ?_)
    go_simp
    refine hK _ ?_
    clear hK K
    refine wpMix_s (fun K hK => ?_)
    go_simp
    refine hK _ ?_
    clear hK K
    refine wpMix_s (fun K hK => ?_)
    go_simp
    refine hK _ ?_
    clear hK K
    refine wpMix_s (fun K hK => ?_)
    go_simp
    refine hK _ ?_
    clear hK K
    refine wpMix_s (fun K hK => ?_)
    go_simp
    refine hK _ ?_
    clear hK K
    refine wpMix_s (fun K hK => ?_)
    go_simp
    refine hK _ ?_
    clear hK K
    refine wpMix_s (fun K hK => ?_)
    go_simp
    refine hK _ ?_
    clear hK K
    refine wpMix_s (fun K hK => ?_)
    go_simp
    refine hK _ ?_
    clear hK K
    refine wpMix_s (fun K hK => ?_)
    go_simp
    refine hK _ ?_
    clear hK K
    refine wpMix_s (fun K hK => ?_)
    go_simp
    refine hK _ ?_
    clear hK K
    refine wpMix_s (fun K hK => ?_)
    go_simp
    refine hK _ ?_
    clear hK K
    refine wpMix_s (fun K hK => ?_)
    go_simp
    refine hK _ ?_
    clear hK K
    refine wpMix_nil ?_
    intro _
    go_wp2_with fail
    go_ret
    exact ⟨rfl, hS⟩
set_option maxHeartbeats 4000000 in
set_option maxRecDepth 100000 in
theorem rfsame_nilR (g : Nat) (w : World) : Calls Try.prog 65 #[fptr g, .pointer none] w fun e w' => e = .returned (.bool false) ∧ Below w.heap.size w w' := by
  go_enter Try.func65, Try.ntmps65
  go_wp2_with fail
  have hS : Below w.heap.size w w.drew := (Below.refl _ _).drew
  refine wp_region_mix (fun W => Below w.heap.size w W) [(0, true), (1, true), (2, true), (3, true), (4, true), (5, true), (6, true), (7, true), (8, true), (9, true), (10, true), (11, true), (12, true), (13, true), (14, true), (15, true), (16, true), (17, true), (18, true)] (by kernel_rfl) (by kernel_rfl) hS fun _ => ?_
  simp only [List.map_cons, List.map_nil, Array.getD_eq_getD_getElem?, List.getElem?_toArray, List.getElem?_cons_succ, List.getElem?_cons_zero, Option.getD_some]
  generalize w.drew = u2 at hS ⊢
  refine wpMix_s (fun K hK => ?_)
  go_simp
  refine hK _ ?_
  clear hK K
  refine wpMix_s (fun K hK => ?_)
  go_simp
  refine hK _ ?_
  clear hK K
  refine wpMix_s (fun K hK => ?_)
  go_simp
  refine hK _ ?_
  clear hK K
  refine wpMix_s (fun K hK => ?_)
  go_simp
  refine hK _ ?_
  clear hK K
  refine wpMix_s (fun K hK => ?_)
  go_simp
  refine hK _ ?_
  clear hK K
  refine wpMix_s (fun K hK => ?_)
  go_simp
  refine hK _ ?_
  clear hK K
  refine wpMix_s (fun K hK => ?_)
  go_simp
  refine hK _ ?_
  clear hK K
  refine wpMix_s (fun K hK => ?_)
  go_simp
  refine hK _ ?_
  clear hK K
  refine wpMix_s (fun K hK => ?_)
  go_simp
  refine hK _ ?_
  clear hK K
  refine wpMix_s (fun K hK => ?_)
  go_simp
  refine hK _ ?_
  clear hK K
  refine wpMix_s (fun K hK => ?_)
  go_simp
  refine hK _ ?_
  clear hK K
  refine wpMix_s (fun K hK => ?_)
  go_simp
  refine hK _ ?_
  clear hK K
  refine wpMix_s (fun K hK => ?_)
  go_simp
  refine hK _ ?_
  clear hK K
  refine wpMix_s (fun K hK => ?_)
  go_simp
  refine hK _ ?_
  clear hK K
  refine wpMix_s (fun K hK => ?_)
  go_simp
  refine hK _ ?_
  clear hK K
  refine wpMix_s (fun K hK => ?_)
  go_simp
  refine hK _ ?_
  clear hK K
  refine wpMix_s (fun K hK => ?_)
  go_simp
  refine hK _ ?_
  clear hK K
  refine wpMix_s (fun K hK => ?_)
  go_simp
  refine hK _ ?_
  clear hK K
  refine wpMix_s (fun K hK => ?_)
  go_simp
  refine hK _ ?_
  clear hK K
  refine wpMix_nil ?_
  intro _
  go_wp2_with fail
  go_ret
  exact ⟨rfl, hS⟩
set_option maxHeartbeats 4000000 in
set_option maxRecDepth 100000 in
theorem rfsame_any (g g' : Nat) (ps qs : FrV) (w : World) (h : FrP w g ps) (h' : FrP w g' qs) : Calls Try.prog 65 #[fptr g, fptr g'] w fun e w' => e = .returned (.bool (decide (ps = qs))) ∧ Below w.heap.size w w' := by
  have hps := h.all
  have hqs := h'.all
  obtain ⟨A, n, c, hk, hP⟩ := h.ex
  obtain ⟨A', n', c', hk', hP'⟩ := h'.ex
  have hlen : ps.length = n := by rw [← hP.len, length_fpq]
  have hlen' : qs.length = n' := by rw [← hP'.len, length_fpq]
  have hroom := hP.sl.room
  have hmx := hP.sl.max
  unfold maxLen at hmx
  have hroom' := hP'.sl.room
  have hmx' := hP'.sl.max
  unfold maxLen at hmx'
  have e1 : ∀ s : InC (fun W => Below w.heap.size w W), s.W.cell? ⟨g, 0, none⟩ = some (.slice A n c) := fun s => by rw [(hk.step s.ok).cell]; rfl
  have e2 : ∀ s : InC (fun W => Below w.heap.size w W), s.W.cell? ⟨g', 0, none⟩ = some (.slice A' n' c') := fun s => by rw [(hk'.step s.ok).cell]; rfl
  obtain ⟨r, hr⟩ : ∃ r, decide (ps = qs) = r := ⟨_, rfl⟩
  rw [hr]
  by_cases hnn : n = n'
  · subst hnn
    have hn1 : (!((n : Int) == (n : Int))) = false := by simp
    have Hr := Lib.hid hr
    have Hlen := Lib.hid hlen
    have Hlen' := Lib.hid hlen'
    have Hps := Lib.hid hps
    have Hqs := Lib.hid hqs
    clear hr hlen hlen' hps hqs h h'
    go_enter Try.func65, Try.ntmps65
    go_wp2_with fail
    have hS : Below w.heap.size w w.drew := (Below.refl _ _).drew
    refine wp_region_mix (fun W => Below w.heap.size w W) [(0, true), (1, true), (2, true), (3, true), (4, true), (5, true), (6, true), (7, true), (8, true), (9, true), (10, true), (11, true), (12, true), (13, true), (14, true), (15, true), (16, true), (17, true), (18, true)] (by kernel_rfl) (by kernel_rfl) hS fun _ => ?_
    simp only [List.map_cons, List.map_nil, Array.getD_eq_getD_getElem?, List.getElem?_toArray, List.getElem?_cons_succ, List.getElem?_cons_zero, Option.getD_some]
    generalize w.drew = u2 at hS ⊢
    refine wpMix_s (fun K hK => ?_)
    go_simp
    refine hK _ ?_
    clear hK K
    refine wpMix_s (fun K hK => ?_)
    go_simp
    refine hK _ ?_
    clear hK K
    refine wpMix_s (fun K hK => ?_)
    go_simp
    refine hK _ ?_
    clear hK K
    refine wpMix_s (fun K hK => ?_)
    go_simp
    refine hK _ ?_
    clear hK K
    refine wpMix_s (fun K hK => ?_)
    go_simp
    refine hK _ ?_
    clear hK K
    refine wpMix_s (fun K hK => ?_)
    go_simp
    refine hK _ ?_
    clear hK K
    refine wpMix_s (fun K hK => ?_)
    go_simp
    refine hK _ ?_
    clear hK K
    refine wpMix_s (fun K hK => ?_)
    go_simp
    refine hK _ ?_
    clear hK K
    refine wpMix_s (fun K hK => ?_)
    go_simp
    refine hK _ ?_
    clear hK K
    refine wpMix_s (fun K hK => ?_)
    go_simp
    refine hK _ ?_
    clear hK K
    refine wpMix_s (fun K hK => ?_)
    go_simp
    refine hK _ ?_
    clear hK K
    refine wpMix_s (fun K hK => ?_)
    go_simp
    refine hK _ ?_
    clear hK K
    refine wpMix_s (fun K hK => ?_)
    go_simp
    refine hK _ ?_
    clear hK K
    refine wpMix_s (fun K hK => ?_)
    go_simp
    refine hK _ ?_
    clear hK K
    refine wpMix_s (fun K hK => ?_)
    go_simp
    refine hK _ ?_
    clear hK K
    refine wpMix_s (fun K hK => ?_)
    go_simp
    refine hK _ ?_
    clear hK K
    refine wpMix_s (fun K hK => ?_)
    go_simp
    refine hK _ ?_
    clear hK K
    refine wpMix_s (fun K hK => ?_)
    go_simp
    refine hK _ ?_
    clear hK K
    refine wpMix_s (fun K hK => ?_)
    go_simp
    refine hK _ ?_
    clear hK K
    refine wpMix_nil ?_
    intro _
    clear e1 e2
    go_wp2_with fail
    go_loopw [5] (fun v5 wr => ∃ k : Nat, k ≤ n ∧ v5 = .int .i64 (k : Int) ∧ decide (ps.drop k = qs.drop k) = r ∧ Below w.heap.size w wr) (fun v5 _ => n - (intOf v5).toNat)
    case atStart => exact ⟨0, Nat.zero_le _, rfl, by rw [List.drop_zero, List.drop_zero]; exact Hr.out, hS⟩
    case round =>
      clear hS
      obtain ⟨k, hk0, rfl, hf, hW⟩ := hrel
      have hkr := hk.step hW
      have hkr' := hk'.step hW
      have c29 : wr.cell? ⟨g, 0, none⟩ = some (.slice A n c) := by rw [hkr.cell]; rfl
      by_cases hkn : k < n
      · have hd : decide ((k : Int) < (n : Int)) = true := by simp; omega
        have hwk : IntKind.i64.wrap ((k : Int) + 1) = (k : Int) + 1 := IntWalk.i64_in _ (by omega)
        have hPr := hP.step hW
        have hPr' := hP'.step hW
        obtain ⟨b, o, rfl, -, -⟩ := hPr.at_ (by omega)
        obtain ⟨b', o', rfl, -, -⟩ := hPr'.at_ (by omega)
        have hl1 := fun W (hb : Below wr.heap.size wr W) => (hPr.step hb).load aggPq sizePq rfl k hkn
        have hl2 := fun W (hb : Below wr.heap.size wr W) => (hPr'.step hb).load aggPq sizePq rfl k hkn
        rw [fpq_getD ps k (by rw [Hlen.out]; exact hkn)] at hl1
        rw [fpq_getD qs k (by rw [Hlen'.out]; exact hkn)] at hl2
        have hx32 : (ps.getD k (0, [])).2.length = 32 := by
          rw [List.getD_eq_getElem?_getD, List.getElem?_eq_getElem (by rw [Hlen.out]; exact hkn)]
          exact Hps.out _ (List.getElem_mem _)
        have hy32 : (qs.getD k (0, [])).2.length = 32 := by
          rw [List.getD_eq_getElem?_getD, List.getElem?_eq_getElem (by rw [Hlen'.out]; exact hkn)]
          exact Hqs.out _ (List.getElem_mem _)
        rw [drop_atF (0, []) ps k (by rw [Hlen.out]; exact hkn), drop_atF (0, []) qs k (by rw [Hlen'.out]; exact hkn), dec_consF] at hf
        obtain ⟨⟨xl, x⟩, hx⟩ : ∃ x, ps.getD k (0, []) = x := ⟨_, rfl⟩
        obtain ⟨⟨yl, y⟩, hy⟩ : ∃ x, qs.getD k (0, []) = x := ⟨_, rfl⟩
        rw [hx] at hl1 hx32 hf
        rw [hy] at hl2 hy32 hf
        have hx32 : x.length = 32 := hx32
        have hy32 : y.length = 32 := hy32
        have hcmp : decide ((xl, x) = (yl, y)) = ((((2 ^ xl : Nat) : Int) == ((2 ^ yl : Nat) : Int)) && x == y) := by
          by_cases h1 : xl = yl
          · subst h1
            by_cases h2 : x = y <;> simp [h2]
          · have : ¬ (((2 ^ xl : Nat) : Int) = ((2 ^ yl : Nat) : Int)) := fun e => h1 (pow_inj.1 (by omega))
            rw [decide_eq_false (by simp [h1]), beq_eq_false_iff_ne.2 this]
            rfl
        rw [hcmp] at hf
        have hl1 : ∀ W, Below wr.heap.size wr W → (Instr.loadAt 93 (.pointer (some ⟨b, o + k * 33, none⟩))).run Try.prog W = .ok (.agg (.int .i64 ((2 ^ xl : Nat) : Int) :: x.map B).toArray) W := hl1
        have hl2 : ∀ W, Below wr.heap.size wr W → (Instr.loadAt 93 (.pointer (some ⟨b', o' + k * 33, none⟩))).run Try.prog W = .ok (.agg (.int .i64 ((2 ^ yl : Nat) : Int) :: y.map B).toArray) W := hl2
        obtain ⟨xp, hxp⟩ : ∃ p, 2 ^ xl = p := ⟨_, rfl⟩
        obtain ⟨yp, hyp⟩ : ∃ p, 2 ^ yl = p := ⟨_, rfl⟩
        rw [hxp] at hl1 hf
        rw [hyp] at hl2 hf
        obtain ⟨q, hq⟩ : ∃ q, ((((xp : Int)) == (yp : Int)) && x == y) = q := ⟨_, rfl⟩
        rw [hq] at hf
        have Hq := Lib.hid hq
        have Hf := Lib.hid hf
        have Hl1 := Lib.hid hl1
        have Hl2 := Lib.hid hl2
        have e3 : ∀ s : InC (fun W => Below wr.heap.size wr W), s.W.cell? ⟨g, 0, none⟩ = some (.slice (some ⟨b, o, none⟩) n c) := fun s => by rw [(hkr.step s.ok).cell]; rfl
        have e4 : ∀ s : InC (fun W => Below wr.heap.size wr W), s.W.cell? ⟨g', 0, none⟩ = some (.slice (some ⟨b', o', none⟩) n c') := fun s => by rw [(hkr'.step s.ok).cell]; rfl
        clear hf hq hx hy hl1 hl2 hPr hPr' hcmp hxp hyp
        go_wp2_with fail
        have hS6 : Below wr.heap.size wr wr.drew := (Below.refl _ _).drew
        refine wp_region_mix (fun W => Below wr.heap.size wr W) [(0, true), (1, true), (2, true), (3, true), (4, true), (5, true), (6, true), (7, true), (8, true), (9, true), (10, true), (11, true), (12, true), (13, true), (14, true)] (by kernel_rfl) (by kernel_rfl) hS6 fun _ => ?_
        simp only [List.map_cons, List.map_nil, Array.getD_eq_getD_getElem?, List.getElem?_toArray, List.getElem?_cons_succ, List.getElem?_cons_zero, Option.getD_some]
        generalize wr.drew = u4 at hS6 ⊢
        refine wpMix_s (fun K hK => ?_)
        go_simp
        refine hK _ ?_
        clear hK K
        refine wpMix_s (fun K hK => ?_)
        go_simp
        refine hK _ ?_
        clear hK K
        refine wpMix_s (fun K hK => ?_)
        go_simp
        refine hK _ ?_
        clear hK K
        refine wpMix_s (fun K hK => ?_)
        go_simp
        refine hK _ ?_
        clear hK K
        refine wpMix_s (fun K hK => ?_)
        go_simp
        refine hK _ ?_
        clear hK K
        refine wpMix_s (fun K hK => ?_)
        go_simp
        refine hK _ ?_
        clear hK K
        refine wpMix_load (by kernel_rfl) 93 (.tmp 39) rfl (b) (o + k * 33) rfl (.int .i64 (xp : Int) :: x.map B).toArray ((fun s => Hl1.out s.W s.ok)) ?_
        simp only [Act.put]
        refine wpMix_s (fun K hK => ?_)
        go_simp
        refine hK _ ?_
        clear hK K
        refine wpMix_s (fun K hK => ?_)
        go_simp
        refine hK _ ?_
        clear hK K
        refine wpMix_s (fun K hK => ?_)
        go_simp
        refine hK _ ?_
        clear hK K
        refine wpMix_s (fun K hK => ?_)
        go_simp
        refine hK _ ?_
        clear hK K
        refine wpMix_s (fun K hK => ?_)
        go_simp
        refine hK _ ?_
        clear hK K
        refine wpMix_s (fun K hK => ?_)
        go_simp
        refine hK _ ?_
        clear hK K
        refine wpMix_load (by kernel_rfl) 93 (.tmp 46) rfl (b') (o' + k * 33) rfl (.int .i64 (yp : Int) :: y.map B).toArray ((fun s => Hl2.out s.W s.ok)) ?_
        simp only [Act.put]
        refine wpMix_v (by kernel_rfl) (.bool (!q)) ((fun s => run_neqPq_v (.tmp 40) (.tmp 47) _ (xp : Int) (yp : Int) x y hx32 hy32 (!q) (by rw [Hq.out]) rfl rfl rfl s.W)) ?_
        simp only [Act.put]
        refine wpMix_nil ?_
        intro _
        have hW6 := hW.trans (hS6.mono hW.size)
        cases q with
        | true =>
          go_wp2_with fail
          go_roundw
          case rel => exact ⟨k + 1, by omega, by go_num, by simpa using Hf.out, hW6⟩
          case measure => simp [intOf]; omega
        | false =>
          obtain rfl : false = r := by simpa using Hf.out
          go_wp2_with fail
          go_ret
          exact ⟨rfl, hW6⟩
      · obtain rfl : k = n := by omega
        have hd : decide ((k : Int) < (k : Int)) = false := by simp
        rw [List.drop_of_length_le (by rw [Hlen.out]; exact Nat.le_refl _), List.drop_of_length_le (by rw [Hlen'.out]; exact Nat.le_refl _)] at hf
        obtain rfl : true = r := by simpa using hf
        go_wp2_with fail
        go_ret
        exact ⟨rfl, hW⟩
  · obtain rfl : false = r := by
      rw [← hr]
      exact (decide_eq_false fun e => hnn (by rw [← hlen, ← hlen', e])).symm
    have hn1 : ((n : Int) == (n' : Int)) = false := by simp; omega
    have hn2 : ¬ (n : Int) = (n' : Int) := by omega
    clear hr hlen hlen'
    go_enter Try.func65, Try.ntmps65
    go_wp2_with fail
    have hS : Below w.heap.size w w.drew := (Below.refl _ _).drew
    refine wp_region_mix (fun W => Below w.heap.size w W) [(0, true), (1, true), (2, true), (3, true), (4, true), (5, true), (6, true), (7, true), (8, true), (9, true), (10, true), (11, true), (12, true), (13, true), (14, true), (15, true), (16, true), (17, true), (18, true)] (by kernel_rfl) (by kernel_rfl) hS fun _ => ?_
    simp only [List.map_cons, List.map_nil, Array.getD_eq_getD_getElem?, List.getElem?_toArray, List.getElem?_cons_succ, List.getElem?_cons_zero, Option.getD_some]
    generalize w.drew = u2 at hS ⊢
    refine wpMix_s (fun K hK => ?_)
    go_simp
    refine hK _ ?_
    clear hK K
    refine wpMix_s (fun K hK => ?_)
    go_simp
    refine hK _ ?_
    clear hK K
    refine wpMix_s (fun K hK => ?_)
    go_simp
    refine hK _ ?_
    clear hK K
    refine wpMix_s (fun K hK => ?_)
    go_simp
    refine hK _ ?_
    clear hK K
    refine wpMix_s (fun K hK => ?_)
    go_simp
    refine hK _ ?_
    clear hK K
    refine wpMix_s (fun K hK => ?_)
    go_simp
    refine hK _ ?_
    clear hK K
    refine wpMix_s (fun K hK => ?_)
    go_simp
    refine hK _ ?_
    clear hK K
    refine wpMix_s (fun K hK => ?_)
    go_simp
    refine hK _ ?_
    clear hK K
    refine wpMix_s (fun K hK => ?_)
    go_simp
    refine hK _ ?_
    clear hK K
    refine wpMix_s (fun K hK => ?_)
    go_simp
    refine hK _ ?_
    clear hK K
    refine wpMix_s (fun K hK => ?_)
    go_simp
    refine hK _ ?_
    clear hK K
    refine wpMix_s (fun K hK => ?_)
    go_simp
    refine hK _ ?_
    clear hK K
    refine wpMix_s (fun K hK => ?_)
    go_simp
    refine hK _ ?_
    clear hK K
    refine wpMix_s (fun K hK => ?_)
    go_simp
    refine hK _ ?_
    clear hK K
    refine wpMix_s (fun K hK => ?_)
    go_simp
    refine hK _ ?_
    clear hK K
    refine wpMix_s (fun K hK => ?_)
    go_simp
    refine hK _ ?_
    clear hK K
    refine wpMix_s (fun K hK => ?_)
    go_simp
    refine hK _ ?_
    clear hK K
    refine wpMix_s (fun K hK => ?_)
    go_simp
    refine hK _ ?_
    clear hK K
    refine wpMix_s (fun K hK => ?_)
    go_simp
    refine hK _ ?_
    clear hK K
    refine wpMix_nil ?_
    intro _
    go_wp2_with fail
    go_ret
    exact ⟨rfl, hS⟩
end Go.Proofs.Ytonidnfgneokbaa
