/- notarylaw08.HashRows. -/
import Derived.Test.YtdkgndjomkbbjaaHRowsW
namespace Go.Proofs.Ytdkgndjomkbbjaa
open Go Go.RowKit

/-- while the row is written over -/
structure HrC (w : World) (g n c' : Nat) (A : Option Addr) (c : Nat) (hs : List (List UInt8)) (q : List UInt8) (g6 g8 gw : Nat) (Aw : Option Addr) (cw nr : Nat) (Ar : Option Addr) (cr : Nat) (vs : List Value) (W : World) : Prop where
  own : ∃ xs, W.ownsRow w.heap.size 26 32 (.slice (some ⟨g, 0, none⟩) (n + 1) c') (n + 1) xs
  b6 : Blk W g6 26 (q.map B).toArray
  b8 : Blk W g8 26 (q.map B).toArray
  n6 : g6 ≠ g
  n8 : g8 ≠ g
  bw : Blk W gw 57 #[.slice Aw n cw]
  nw : gw ≠ g
  hw : Hs W (fun b => b ≠ g) Aw n cw hs
  rows : HsS W (fun b => b ≠ g) Ar nr cr vs (rowsL hs)
  bel : Below w.heap.size w W
section
variable {w : World} {g n c' : Nat} {A : Option Addr} {c : Nat} {hs : List (List UInt8)} {q : List UInt8} {g6 g8 gw : Nat} {Aw : Option Addr} {cw nr : Nat} {Ar : Option Addr} {cr : Nat} {vs : List Value} {W W' : World}
theorem HrC.step (h : HrC w g n c' A c hs q g6 g8 gw Aw cw nr Ar cr vs W) (hb : Below W.heap.size W W') : HrC w g n c' A c hs q g6 g8 gw Aw cw nr Ar cr vs W' :=
  ⟨let ⟨xs, hx⟩ := h.own; ⟨xs, owns_step hx hb⟩, h.b6.below hb h.b6.lt, h.b8.below hb h.b8.lt, h.n6, h.n8, h.bw.below hb h.bw.lt, h.nw, h.hw.step hb, h.rows.step hb, h.bel.trans (hb.mono h.bel.size)⟩
end

theorem rowsL_last_ (k : Nat) : ∀ hs : List (List UInt8), hs.length ≤ k → pow2 hs.length = true → ∃ pre, rowsL hs = pre ++ [[topL hs]] := by
  induction k with
  | zero => intro l h hp; rw [show l.length = 0 by omega] at hp; simp [pow2] at hp
  | succ k ih =>
    intro l h hp
    by_cases h2 : 2 ≤ l.length
    · obtain ⟨g1, g2⟩ := pow2_half _ hp h2
      obtain ⟨pre, hpre⟩ := ih (pairsL l) (by rw [length_pairsL]; omega) (by rw [length_pairsL]; exact g2)
      exact ⟨l :: pre, by rw [rowsL_more l h2, hpre, topL_more l h2]; rfl⟩
    · have h1 : l.length = 1 := by
        have : l.length ≠ 0 := by intro e; rw [e] at hp; simp [pow2] at hp
        omega
      obtain ⟨x, rfl⟩ := List.length_eq_one_iff.1 h1
      exact ⟨[], by rw [rowsL_one _ rfl, topL_one]; rfl⟩
theorem rowsL_last (hs : List (List UInt8)) (hp : pow2 hs.length = true) : ∃ pre, rowsL hs = pre ++ [[topL hs]] := rowsL_last_ _ hs (Nat.le_refl _) hp

set_option maxHeartbeats 2000000 in
set_option maxRecDepth 100000 in
theorem hrowsl_any (hs : List (List UInt8)) (A : Option Addr) (n c : Nat) (leave : Int) (w : World) (h : Hs w (fun _ => True) A n c hs) (hn : n ≤ 1073741824) :
    Calls Try.prog 8 #[.slice A n c, .int .i64 leave] w fun e w' => e = .returned (.bool true) ∧ Below w.heap.size w w' := by
  by_cases hbig : 2000 < n
  · have hd : decide ((2000 : Int) < (n : Int)) = true := by simp; omega
    clear h
    go_enter Try.func8, Try.ntmps8
    go_wp2_with (go_at_call 29; refine (works_any _).mono ?_; rintro e w2 ⟨rfl, hb2⟩)
    go_ret
    exact ⟨rfl, hb2⟩
  have hd : decide ((2000 : Int) < (n : Int)) = false := by simp; omega
  have hrow := row_any hs A n c w h (by omega)
  obtain ⟨zs, hzs⟩ : ∃ zs, zeroHash = zs := ⟨_, rfl⟩
  have hzl : zs.size = 32 := by rw [← hzs]; rfl
  have Hzs := Lib.hid hzs
  have Hzl := Lib.hid hzl
  have Hh := Lib.hid h
  have Hrow := Lib.hid hrow
  have hlen := h.len
  have Hlen := Lib.hid hlen
  obtain ⟨q, er, hq⟩ : ∃ q er, topR hs = (q, er) := ⟨_, _, rfl⟩
  have hql : q.length = 32 := by
    unfold topR at hq
    split at hq
    · cases hq; exact length_topL _ h.all
    · cases hq; simp
  have her : (er = 0 ∧ q = topL hs ∧ pow2 n = true) ∨ er = 2 := by
    unfold topR at hq
    rw [hlen] at hq
    split at hq
    · rename_i hp; cases hq; exact .inl ⟨rfl, rfl, hp⟩
    · cases hq; exact .inr rfl
  have htop := fun A c w h => top_any hs A n c w h (by omega)
  have hrtop := fun A c w h => rtop_any hs A n c w h (by omega)
  rw [hq] at htop hrtop
  have Htop := Lib.hid htop
  have Hrtop := Lib.hid hrtop
  have Hq := Lib.hid hq
  have Hql := Lib.hid hql
  have Her := Lib.hid her
  clear hzs hzl h hrow hlen hq hql her htop hrtop
  go_enter Try.func8, Try.ntmps8
  go_wp2_with fail
  refine Hrow.out.mono ?_
  rintro e w1 ⟨g, c', rfl, ho1, b1⟩
  have hm1 : Hs w1 (fun _ => True) (some ⟨g, 0, none⟩) (n + 1) c' (hs ++ [oneHash 165]) := by
    obtain ⟨A', c2, hv, hs'⟩ := Hs.of_owns ho1 (by rw [List.length_append, Hlen.out]; rfl) (Hh.out.all.append (by intro h hh; rw [List.mem_singleton.1 hh]; exact length_oneHash _))
    cases hv
    exact hs'.weak fun _ _ _ => trivial
  have hg1 := ho1.lt g rfl
  have hl1 := (Hh.out.weak (Y := (· < w.heap.size)) fun _ hb _ => hb).step b1
  clear Hrow
  go_wp2_with fail
  refine (Htop.out _ _ w1 (hm1.fewer Hlen.out)).mono ?_
  rintro e w2 ⟨rfl, b2⟩
  have ho2 := owns_step ho1 b2
  have hm2 := hm1.step b2
  have hl2 := hl1.step b2
  have B2 := b1.trans (b2.mono b1.size)
  clear ho1 hm1 hl1
  have bA : Below w2.heap.size w2 (w2.alloc (.cells zs 26)) := (Below.refl _ _).alloc (Nat.le_refl _) _
  have bS : Below w2.heap.size w2 ((w2.alloc (.cells zs 26)).setRow w2.heap.size (q.map B).toArray) := below_setRow bA (Nat.le_refl _) _
  have k2 : Blk ((w2.alloc (.cells zs 26)).setRow w2.heap.size (q.map B).toArray) w2.heap.size 26 (q.map B).toArray := (Blk.new _ _ _).setRow_ _
  obtain ⟨w3, hw3⟩ : ∃ w3, (w2.alloc (.cells zs 26)).setRow w2.heap.size (q.map B).toArray = w3 := ⟨_, rfl⟩
  rw [hw3] at bS k2
  have ho3 := owns_step ho2 bS
  have hm3 := hm2.step bS
  have hl3 := hl2.step bS
  have B3 := B2.trans (bS.mono B2.size)
  have hg2 : g < w2.heap.size := Nat.lt_of_lt_of_le hg1.2 b2.size
  have Hw3 := Lib.hid hw3
  clear bA bS hw3 ho2 hm2 hl2 B2
  go_wp2_with (first
    | ((with_reducible show wpList _ _ _ (⟨some 6, .alloc _, _, _, _, _⟩ :: _) _ _); refine wpList_run rfl (.pointer (some ⟨w2.heap.size, 0, none⟩)) (w2.alloc (.cells zs 26)) (by rw [← Hzs.out]; rfl) ?_; simp only [Act.put])
    | ((with_reducible show wpList _ _ _ (⟨none, .store _ (.tmp 6) _, _, _, _, _⟩ :: _) _ _); refine wpList_store_blk rfl 26 (.tmp 6) (.tmp 22) rfl 32 size26 w2.heap.size (q.map B).toArray rfl rfl (by simp [Hql.out]) (oneCell_B _) 26 _ (Blk.new _ _ _) Hzl.out ?_; rw [Hw3.out]; simp only [Act.put]))
  refine (Hrtop.out _ _ w3 (hl3.weak fun _ _ _ => trivial)).mono ?_
  rintro e w4 ⟨rfl, b4⟩
  have ho4 := owns_step ho3 b4
  have hm4 := hm3.step b4
  have hl4 := hl3.step b4
  have k4 := k2.below b4 k2.lt
  have B4 := B3.trans (b4.mono B3.size)
  have hg4 : w2.heap.size < w4.heap.size := k4.lt
  clear ho3 hm3 hl3 k2 B3
  have bA : Below w4.heap.size w4 (w4.alloc (.cells zs 26)) := (Below.refl _ _).alloc (Nat.le_refl _) _
  have bS : Below w4.heap.size w4 ((w4.alloc (.cells zs 26)).setRow w4.heap.size (q.map B).toArray) := below_setRow bA (Nat.le_refl _) _
  have j5 : Blk ((w4.alloc (.cells zs 26)).setRow w4.heap.size (q.map B).toArray) w4.heap.size 26 (q.map B).toArray := (Blk.new _ _ _).setRow_ _
  obtain ⟨w5, hw5⟩ : ∃ w5, (w4.alloc (.cells zs 26)).setRow w4.heap.size (q.map B).toArray = w5 := ⟨_, rfl⟩
  rw [hw5] at bS j5
  have ho5 := owns_step ho4 bS
  have hm5 := hm4.step bS
  have hl5 := hl4.step bS
  have k5 := k4.below bS k4.lt
  have B5 := B4.trans (bS.mono B4.size)
  have Hw5 := Lib.hid hw5
  clear bA bS hw5 ho4 hm4 hl4 B4 k4
  go_wp2_with (first
    | ((with_reducible show wpList _ _ _ (⟨some 8, .alloc _, _, _, _, _⟩ :: _) _ _); refine wpList_run rfl (.pointer (some ⟨w4.heap.size, 0, none⟩)) (w4.alloc (.cells zs 26)) (by rw [← Hzs.out]; rfl) ?_; simp only [Act.put])
    | ((with_reducible show wpList _ _ _ (⟨none, .store _ (.tmp 8) _, _, _, _, _⟩ :: _) _ _); refine wpList_store_blk rfl 26 (.tmp 8) (.tmp 27) rfl 32 size26 w4.heap.size (q.map B).toArray rfl rfl (by simp [Hql.out]) (oneCell_B _) 26 _ (Blk.new _ _ _) Hzl.out ?_; rw [Hw5.out]; simp only [Act.put]))
  refine (rows_any hs (some ⟨g, 0, none⟩) n c' w5 (hm5.fewer Hlen.out) (by omega)).mono ?_
  rintro e w6 ⟨rfl, b6, Aw, cw, kw, hw6⟩
  have ho6 := owns_step ho5 b6
  have hm6 := hm5.step b6
  have hl6 := hl5.step b6
  have k6 := k5.below b6 k5.lt
  have j6 := j5.below b6 j5.lt
  have B6 := B5.trans (b6.mono B5.size)
  have hg5 : w4.heap.size < w5.heap.size := j5.lt
  clear ho5 hm5 hl5 k5 j5 B5
  go_wp2_with fail
  refine (rrows_any hs A n c w6 _ hl6 (by omega)).mono ?_
  rintro e w7 ⟨Ar, cr, vs, rfl, hr7, b7⟩
  have ho7 := owns_step ho6 b7
  have hm7 := hm6.step b7
  have hl7 := hl6.step b7
  have k7 := k6.below b7 k6.lt
  have j7 := j6.below b7 j6.lt
  have kw7 := kw.below b7 kw.lt
  have hw7 := hw6.step b7
  have B7 := B6.trans (b7.mono B6.size)
  have hC7 : HrC w g n c' A c hs q w2.heap.size w4.heap.size w5.heap.size Aw cw (rowsL hs).length Ar cr vs w7 := by
    refine ⟨⟨_, ho7⟩, k7, j7, by omega, by omega, kw7, by omega, hw7.weak fun b _ hx e => ?_, hr7.weak fun b _ hx e => ?_, B7⟩
    · have hx : w5.heap.size ≤ b := hx
      omega
    · rcases hx with hx | hx
      · have hx : b < w.heap.size := hx
        omega
      · have := kw.lt
        omega
  have hleft := fun W (hW : Below w7.heap.size w7 W) => left_any hs g A n c' c W (hm7.step hW) ((hl7.step hW).weak fun _ _ _ => trivial) (by omega)
  have Hleft := Lib.hid hleft
  obtain ⟨nr, hnr⟩ : ∃ nr, (rowsL hs).length = nr := ⟨_, rfl⟩
  rw [hnr] at hC7 ⊢
  have Hnr := Lib.hid hnr
  clear hnr hleft ho6 ho7 hm6 hm7 hl6 hl7 k6 k7 j6 j7 kw kw7 hw6 hw7 B6 B7 hr7 b6 b7 hg1 hg2 hg4 hg5 b1 b2 b4
  have hld6 : ∀ W, Below w7.heap.size w7 W → (Instr.loadAt 26 (.pointer (some ⟨w2.heap.size, 0, none⟩))).run Try.prog W = .ok (.agg (q.map B).toArray) W := fun W hW => run_load_blk (agg26 _) (size26 _) _ _ (by simp [Hql.out]) (hC7.step hW).b6
  have hld8 : ∀ W, Below w7.heap.size w7 W → (Instr.loadAt 26 (.pointer (some ⟨w4.heap.size, 0, none⟩))).run Try.prog W = .ok (.agg (q.map B).toArray) W := fun W hW => run_load_blk (agg26 _) (size26 _) _ _ (by simp [Hql.out]) (hC7.step hW).b8
  have Hld6 := Lib.hid hld6
  have Hld8 := Lib.hid hld8
  clear hld6 hld8
  go_wp2_with (first
    | ((with_reducible show wpList _ _ _ (⟨some 33, .load _ _, _, _, _, _⟩ :: _) _ _); refine wpList_runG (by kernel_rfl) (.agg (q.map B).toArray) w7 (run_load_op 26 (.tmp 6) rfl w2.heap.size 0 rfl _ (Hld6.out w7 (Below.refl _ _))) ?_; simp only [Act.put])
    | ((with_reducible show wpList _ _ _ (⟨some 34, .load _ _, _, _, _, _⟩ :: _) _ _); refine wpList_runG (by kernel_rfl) (.agg (q.map B).toArray) w7 (run_load_op 26 (.tmp 8) rfl w4.heap.size 0 rfl _ (Hld8.out w7 (Below.refl _ _))) ?_; simp only [Act.put])
    | ((with_reducible show wpList _ _ _ (⟨some 35, .binOp _ _ _ _ _, _, _, _, _⟩ :: _) _ _); refine wpList_runG (by kernel_rfl) (.bool false) w7 (run_neq26_f (.tmp 33) (.tmp 34) _ q q rfl rfl rfl Hql.out Hql.out rfl _) ?_; simp only [Act.put])
    | (go_at_call 44; refine (num_any er _).mono ?_; rintro e w' ⟨rfl, rfl⟩)
    | (go_at_call 45; refine (Hleft.out w7 (Below.refl _ _)).mono ?_; rintro e w8 ⟨rfl, b8⟩; have hC8 := hC7.step b8; clear hC7 b8 Hleft))
  -- PRINTED by genhr.py from here
  obtain ⟨y, hy⟩ : ∃ y, oneHash 9 = y := ⟨_, rfl⟩
  have hyl : y.length = 32 := by rw [← hy]; exact length_oneHash _
  have Hy := Lib.hid hy
  have Hyl := Lib.hid hyl
  clear hy hyl Hld6 Hld8
  go_loopw [12] (fun i wr => ∃ k : Nat, k ≤ n ∧ i = .int .i64 k ∧ HrC w g n c' A c hs q w2.heap.size w4.heap.size w5.heap.size Aw cw nr Ar cr vs wr) (fun i _ => n - (intOf i).toNat)
  case atStart => exact ⟨0, by omega, rfl, hC8⟩
  case round =>
    clear hC8
    obtain ⟨k, hk, rfl, hC⟩ := hrel
    by_cases hlt : k < n
    · obtain ⟨xs, hown⟩ := hC.own
      obtain ⟨cur, hblk, hsz, hbg, hown'⟩ := owns_put hown k (by omega) ((y.map B).toArray.toList) (by simp [Hyl.out])
      clear hown
      go_wp2_with (first
        | ((with_reducible show wpList _ _ _ (⟨some 56, .build _ _, _, _, _, _⟩ :: _) _ _); refine wpList_run0 rfl (.agg (y.map B).toArray) (by rw [← Hy.out]; kernel_rfl) ?_; simp only [Act.put])
        | ((with_reducible show wpList _ _ _ (⟨none, .store _ (.tmp 57) _, _, _, _, _⟩ :: _) _ _); refine wpList_store_agg rfl 26 (.tmp 57) (.tmp 56) rfl 32 size26 g (k * 32) (y.map B).toArray rfl rfl (by simp [Hyl.out]) (oneCell_B _) 26 _ hblk hsz ?_; simp only [Act.put]; refine wpList_world (HrC w g n c' A c hs q w2.heap.size w4.heap.size w5.heap.size Aw cw nr Ar cr vs) ⟨⟨_, hown'⟩, hC.b6.setRow_apart hC.n6 _, hC.b8.setRow_apart hC.n8 _, hC.n6, hC.n8, hC.bw.setRow_apart hC.nw _, hC.nw, hC.hw.setRow _ _ (by simp), hC.rows.grown (grownBy_setRow' _ _ _) (fun b _ hx e => hx (Option.some.inj e)), below_setRow hC.bel hbg _⟩ ?_; intro W4 hC4))
      go_roundw
      case rel => exact ⟨k + 1, by omega, by go_num, hC4⟩
      case measure => simp [intOf]; omega
    · obtain rfl : k = n := by omega
      go_wp2_with fail
      refine (rowsw_any hs Aw k cw w5.heap.size Ar nr cr vs leave wr hC.bw (hC.hw.weak fun _ _ _ => trivial) (by omega) (hC.rows.weak fun _ _ _ => trivial)).mono ?_
      rintro e w9 ⟨rfl, b9⟩
      have hC9 := hC.step b9
      clear hC b9
      go_wp2_with fail
      refine (rowsw_any hs Aw k cw w5.heap.size Ar nr cr vs 0 w9 hC9.bw (hC9.hw.weak fun _ _ _ => trivial) (by omega) (hC9.rows.weak fun _ _ _ => trivial)).mono ?_
      rintro e w10 ⟨rfl, b10⟩
      have hC10 := hC9.step b10
      clear hC9 b10
      go_wp2_with fail
      have hS : Below w10.heap.size w10 w10.drew := (Below.refl _ _).drew
      have hrm := hC10.rows.out.room
      have hrx := hC10.rows.out.max
      unfold maxLen at hrx
      rcases Her.out with ⟨rfl, hqt, hp⟩ | rfl
      · obtain ⟨pre, hpre⟩ := rowsL_last hs (by rw [Hlen.out]; exact hp)
        obtain ⟨m, hm⟩ : ∃ m, pre.length = m := ⟨_, rfl⟩
        have hnm : nr = m + 1 := by rw [← Hnr.out, hpre, List.length_append, hm]; rfl
        have hin := hC10.rows.ins m (by rw [Hnr.out]; omega)
        have hri : (rowsL hs)[m]'(by rw [Hnr.out]; omega) = [q] := by
          simp only [hpre, List.getElem_append_right (Nat.le_of_eq hm), hm, Nat.sub_self, List.getElem_singleton]
          rw [hqt]
        rw [hri] at hin
        obtain ⟨Ai, ci, hvi, hsi⟩ := hin
        obtain ⟨bo, oo, hAo, hbo, -, hco⟩ := hC10.rows.out.at_ (by omega) (by decide)
        subst hAo
        obtain ⟨bi, oi, hAi, hbi, -, -⟩ := hsi.at_ (by simp)
        subst hAi
        have hce : ∀ s : InC (fun W => Below w10.heap.size w10 W), s.W.cell? ⟨bo, oo + m, none⟩ = some (.slice (some ⟨bi, oi, none⟩) 1 ci) := fun s => by
          rw [s.ok.cell (p := ⟨bo, oo + m, none⟩) hbo]; exact hco m _ hvi
        have hldq : ∀ s : InC (fun W => Below w10.heap.size w10 W), (Instr.loadAt 26 (.pointer (some ⟨bi, oi, none⟩))).run Try.prog s.W = .ok (.agg (q.map B).toArray) s.W := fun s => by
          obtain ⟨b, o, hA, -, -, hat⟩ := (hsi.step s.ok).at_ (by simp)
          cases hA
          exact hat 0 (by simp)
        have hmn : m < nr := by omega
        have hw1 : IntKind.i64.wrap ((nr : Int) - 1) = (m : Int) := by rw [IntKind.wrap_i64]; omega
        have Hldq := Lib.hid hldq
        clear hldq hpre hm hri hvi hsi hco hqt hp hnm
        refine wp_region_mix (fun W => Below w10.heap.size w10 W) [(0, true), (1, true), (2, true), (3, true), (4, true), (5, true), (6, true), (7, true), (8, true), (9, true), (10, true), (11, true), (12, true), (13, true), (14, true), (15, true), (16, true), (17, true), (18, true), (19, true), (20, true), (21, true), (22, true), (23, true), (24, true), (25, false), (26, true), (27, true)] (by kernel_rfl) (by kernel_rfl) hS fun _ => ?_
        simp only [List.map_cons, List.map_nil, Array.getD_eq_getD_getElem?, List.getElem?_toArray, List.getElem?_cons_succ, List.getElem?_cons_zero, Option.getD_some]
        generalize w10.drew = V0 at hS ⊢
        refine wpMix_s (fun K hK => ?_)
        go_simp
        refine hK _ ?_
        clear hK K
        refine wpMix_s (fun K hK => ?_)
        go_simp
        refine hK _ ?_
        clear hK K
        refine wpMix_s (fun K hK => ?_)
        go_simp
        refine hK _ ?_
        clear hK K
        refine wpMix_s (fun K hK => ?_)
        go_simp
        refine hK _ ?_
        clear hK K
        refine wpMix_s (fun K hK => ?_)
        go_simp
        refine hK _ ?_
        clear hK K
        refine wpMix_s (fun K hK => ?_)
        go_simp
        refine hK _ ?_
        clear hK K
        refine wpMix_s (fun K hK => ?_)
        go_simp
        refine hK _ ?_
        clear hK K
        refine wpMix_s (fun K hK => ?_)
        go_simp
        refine hK _ ?_
        clear hK K
        refine wpMix_s (fun K hK => ?_)
        go_simp
        refine hK _ ?_
        clear hK K
        refine wpMix_s (fun K hK => ?_)
        go_simp
        refine hK _ ?_
        clear hK K
        refine wpMix_load (by kernel_rfl) 26 (.tmp 78) rfl (bi) (oi) rfl (q.map B).toArray (Hldq.out) ?_
        simp only [Act.put]
        refine wpMix_load (by kernel_rfl) 26 (.tmp 6) rfl (w2.heap.size) (0) rfl (q.map B).toArray (fun s => run_load_blk (agg26 _) (size26 _) _ _ (by simp [Hql.out]) (hC10.step s.ok).b6) ?_
        simp only [Act.put]
        refine wpMix_v (by kernel_rfl) (.bool true) (fun s => run_eql26_t (.tmp 79) (.tmp 80) _ q q rfl rfl rfl Hql.out Hql.out rfl s.W) ?_
        simp only [Act.put]
        refine wpMix_s (fun K hK => ?_)
        go_simp
        refine hK _ ?_
        clear hK K
        refine wpMix_s (fun K hK => ?_)
        go_simp
        refine hK _ ?_
        clear hK K
        refine wpMix_s (fun K hK => ?_)
        go_simp
        refine hK _ ?_
        clear hK K
        refine wpMix_s (fun K hK => ?_)
        go_simp
        refine hK _ ?_
        clear hK K
        refine wpMix_s (fun K hK => ?_)
        go_simp
        refine hK _ ?_
        clear hK K
        refine wpMix_s (fun K hK => ?_)
        go_simp
        refine hK _ ?_
        clear hK K
        refine wpMix_s (fun K hK => ?_)
        go_simp
        refine hK _ ?_
        clear hK K
        refine wpMix_s (fun K hK => ?_)
        go_simp
        refine hK _ ?_
        clear hK K
        refine wpMix_s (fun K hK => ?_)
        go_simp
        refine hK _ ?_
        clear hK K
        refine wpMix_s (fun K hK => ?_)
        go_simp
        refine hK _ ?_
        clear hK K
        refine wpMix_s (fun K hK => ?_)
        go_simp
        refine hK _ ?_
        clear hK K
        refine wpMix_s (fun K hK => ?_)
        go_simp
        refine hK _ ?_
        clear hK K
        refine wpMix_c (fun K hK => ?_) hS
        go_simp
        refine (works_any V0).mono ?_
        rintro e V1 ⟨rfl, hb'⟩
        refine hK _ _ ?_
        clear hK K
        replace hS := hS.trans (hb'.mono hS.size)
        refine ⟨hS, ?_⟩
        clear hb'
        refine wpMix_s (fun K hK => ?_)
        go_simp
        refine hK _ ?_
        clear hK K
        refine wpMix_s (fun K hK => ?_)
        go_simp
        refine hK _ ?_
        clear hK K
        refine wpMix_nil ?_
        intro _
        go_wp2_with fail
        go_ret
        exact ⟨rfl, hC10.bel.trans (hS.mono hC10.bel.size)⟩
      · refine wp_region_mix (fun W => Below w10.heap.size w10 W) [(0, true), (1, true), (2, true), (3, true), (4, true), (5, true), (6, true), (7, true), (8, true), (9, true), (10, true), (11, true), (12, true), (13, true), (14, true), (15, true), (16, true), (17, true), (18, true), (19, true), (20, true), (21, true), (22, true), (23, true), (24, true), (25, false), (26, true), (27, true)] (by kernel_rfl) (by kernel_rfl) hS fun _ => ?_
        simp only [List.map_cons, List.map_nil, Array.getD_eq_getD_getElem?, List.getElem?_toArray, List.getElem?_cons_succ, List.getElem?_cons_zero, Option.getD_some]
        generalize w10.drew = V0 at hS ⊢
        refine wpMix_s (fun K hK => ?_)
        go_simp
        refine hK _ ?_
        clear hK K
        refine wpMix_s (fun K hK => ?_)
        go_simp
        refine hK _ ?_
        clear hK K
        refine wpMix_s (fun K hK => ?_)
        go_simp
        refine hK _ ?_
        clear hK K
        refine wpMix_s (fun K hK => ?_)
        go_simp
        refine hK _ ?_
        clear hK K
        refine wpMix_s (fun K hK => ?_)
        go_simp
        refine hK _ ?_
        clear hK K
        refine wpMix_s (fun K hK => ?_)
        go_simp
        refine hK _ ?_
        clear hK K
        refine wpMix_s (fun K hK => ?_)
        go_simp
        refine hK _ ?_
        clear hK K
        refine wpMix_s (fun K hK => ?_)
        go_simp
        refine hK _ ?_
        clear hK K
        refine wpMix_s (fun K hK => ?_)
        go_simp
        refine hK _ ?_
        clear hK K
        refine wpMix_s (fun K hK => ?_)
        go_simp
        refine hK _ ?_
        clear hK K
        refine wpMix_s (fun K hK => ?_)
        go_simp
        refine hK _ ?_
        clear hK K
        refine wpMix_s (fun K hK => ?_)
        go_simp
        refine hK _ ?_
        clear hK K
        refine wpMix_s (fun K hK => ?_)
        go_simp
        refine hK _ ?_
        clear hK K
        refine wpMix_s (fun K hK => ?_)
        go_simp
        refine hK _ ?_
        clear hK K
        refine wpMix_s (fun K hK => ?_)
        go_simp
        refine hK _ ?_
        clear hK K
        refine wpMix_s (fun K hK => ?_)
        go_simp
        refine hK _ ?_
        clear hK K
        refine wpMix_s (fun K hK => ?_)
        go_simp
        refine hK _ ?_
        clear hK K
        refine wpMix_s (fun K hK => ?_)
        go_simp
        refine hK _ ?_
        clear hK K
        refine wpMix_s (fun K hK => ?_)
        go_simp
        refine hK _ ?_
        clear hK K
        refine wpMix_s (fun K hK => ?_)
        go_simp
        refine hK _ ?_
        clear hK K
        refine wpMix_s (fun K hK => ?_)
        go_simp
        refine hK _ ?_
        clear hK K
        refine wpMix_s (fun K hK => ?_)
        go_simp
        refine hK _ ?_
        clear hK K
        refine wpMix_s (fun K hK => ?_)
        go_simp
        refine hK _ ?_
        clear hK K
        refine wpMix_s (fun K hK => ?_)
        go_simp
        refine hK _ ?_
        clear hK K
        refine wpMix_s (fun K hK => ?_)
        go_simp
        refine hK _ ?_
        clear hK K
        refine wpMix_c (fun K hK => ?_) hS
        go_simp
        refine (works_any V0).mono ?_
        rintro e V1 ⟨rfl, hb'⟩
        refine hK _ _ ?_
        clear hK K
        replace hS := hS.trans (hb'.mono hS.size)
        refine ⟨hS, ?_⟩
        clear hb'
        refine wpMix_s (fun K hK => ?_)
        go_simp
        refine hK _ ?_
        clear hK K
        refine wpMix_s (fun K hK => ?_)
        go_simp
        refine hK _ ?_
        clear hK K
        refine wpMix_nil ?_
        intro _
        go_wp2_with fail
        go_ret
        exact ⟨rfl, hC10.bel.trans (hS.mono hC10.bel.size)⟩
end Go.Proofs.Ytdkgndjomkbbjaa
