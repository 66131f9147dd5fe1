/- front.From. -/
import Derived.Test.YtonidnfgneokbaaQd129
import Derived.Test.YtonidnfgneokbaaQd130
namespace Go.Proofs.Ytonidnfgneokbaa
open Go Go.RowKit Go.Shelf
attribute [local go_sem] Oper.semAt_some

/-- a front that lies behind lo, its parts too -/
structure FrOF (W : World) (lo g : Nat) (ps : FrV) : Prop where
  ex : ∃ A n c, Blk W g 107 #[.slice A n c] ∧ Pcs W (fun b => lo ≤ b) A n c (fpc ps)
theorem FrOF.fro {W : World} {lo g : Nat} {ps : FrV} (h : FrOF W lo g ps) : FrO W g ps := let ⟨A, n, c, h1, h2⟩ := h.ex; ⟨A, n, c, h1, h2.weak fun _ _ _ => trivial⟩
theorem FrOF.step {W W' : World} {lo g : Nat} {ps : FrV} (h : FrOF W lo g ps) (hb : Below W.heap.size W W') : FrOF W' lo g ps := let ⟨A, n, c, h1, h2⟩ := h.ex; ⟨A, n, c, h1.step hb, h2.step hb⟩
theorem FrOF.le {W : World} {lo lo' g : Nat} {ps : FrV} (h : FrOF W lo g ps) (hl : lo' ≤ lo) : FrOF W lo' g ps := let ⟨A, n, c, h1, h2⟩ := h.ex; ⟨A, n, c, h1, h2.weak fun _ _ hx => Nat.le_trans hl hx⟩
theorem FrOF.grown {W W' : World} {lo g r : Nat} {ps : FrV} (h : FrOF W lo g ps) (hg : W.grownBy W' (some r)) (hr : r < lo) (hgr : g ≠ r) : FrOF W' lo g ps := let ⟨A, n, c, h1, h2⟩ := h.ex; ⟨A, n, c, h1.grown hg (fun e => hgr (Option.some.inj e)), h2.grown hg (fun b _ hx e => by have e := Option.some.inj e; have hx : lo ≤ b := hx; omega)⟩
/-- a front, or none -/
def FrOpt (W : World) (lo : Nat) (v : Value) (o : Option FrV) : Prop := (o = none ∧ v = .pointer none) ∨ ∃ g ps, o = some ps ∧ v = fptr g ∧ lo ≤ g ∧ FrOF W lo g ps
theorem FrOpt.step {W W' : World} {lo : Nat} {v : Value} {o : Option FrV} (h : FrOpt W lo v o) (hb : Below W.heap.size W W') : FrOpt W' lo v o := by
  rcases h with h | ⟨g, ps, h1, h2, h3, h4⟩
  · exact .inl h
  · exact .inr ⟨g, ps, h1, h2, h3, h4.step hb⟩
theorem bit_and_one (n l : Nat) (hn : n < 9223372036854775808) : bits .and .i64 ((n : Int) / 2 ^ l) 1 = if n.testBit l = true then 1 else 0 := by
  have h1 : n / 2 ^ l ≤ n := Nat.div_le_self _ _
  have h2 : ((n : Int) / 2 ^ l) = ((n / 2 ^ l : Nat) : Int) := by simp
  rw [h2, show (1 : Int) = ((1 : Nat) : Int) from rfl, i64_and_natF _ 1 (by omega) (by decide), Nat.and_one_is_mod, Nat.testBit_eq_decide_div_mod_eq]
  rcases Nat.mod_two_eq_zero_or_one (n / 2 ^ l) with h | h <;> rw [h] <;> simp

set_option maxHeartbeats 1000000 in
set_option maxRecDepth 100000 in
theorem fnew_own (w : World) : Calls Try.prog 40 #[] w fun e w' => e = .returned (.pointer (some ⟨w.heap.size, 0, none⟩)) ∧ Blk w' w.heap.size 107 #[.slice none 0 0] ∧ Below w.heap.size w w' := by
  have k : Blk (w.alloc (.cells #[.slice none 0 0] 107)) w.heap.size 107 #[.slice none 0 0] := Blk.new _ _ _
  have hb : Below w.heap.size w (w.alloc (.cells #[.slice none 0 0] 107)) := (Below.refl _ _).alloc (Nat.le_refl _) _
  go_enter Try.func40, Try.ntmps40
  go_wp2_with fail
  go_ret
  exact ⟨rfl, k, hb⟩
/-- between two rounds of From -/
structure FmC (w : World) (g b1 : Nat) (v : Value) (m : Nat) (cur : FrV) (W : World) : Prop where
  len : cur.length = m
  obj : Blk W g 107 #[v]
  own : W.ownsRow b1 156 33 v m (pccells (fpc cur))
  bel : Below w.heap.size w W
  all : F32 cur
theorem FmC.step {w W W' : World} {g b1 m : Nat} {v : Value} {cur : FrV} (h : FmC w g b1 v m cur W) (hb : Below W.heap.size W W') : FmC w g b1 v m cur W' := ⟨h.len, h.obj.step hb, owns_step h.own hb, h.bel.trans (hb.mono h.bel.size), h.all⟩
theorem FmC.fro {w W : World} {g b1 m : Nat} {v : Value} {cur : FrV} (h : FmC w g b1 v m cur W) : FrOF W b1 g cur := by
  obtain ⟨A, c, rfl, hs⟩ := Pcs.of_owns h.own ((length_fpc cur).trans h.len) (fpc_32 cur h.all)
  exact ⟨A, _, c, h.obj, hs.weak fun b _ hb => hb.1⟩
/-- what has come so far of a size and hashes; j levels are left -/
structure FmP (n : Nat) (hs : List (List UInt8)) (j : Nat) (cur : FrV) : Prop where
  lev : levelsF n 63 = cur.map (·.1) ++ levelsF n j
  pre : hs.take cur.length = cur.map (·.2)
  le : cur.length ≤ hs.length
theorem FmP.skip {n : Nat} {hs : List (List UInt8)} {j : Nat} {cur : FrV} (h : FmP n hs (j + 1) cur) (hb : n.testBit j = false) : FmP n hs j cur := by
  have h1 := h.lev
  unfold levelsF at h1
  refine ⟨?_, h.pre, h.le⟩
  conv at h1 => rhs; rw [if_neg (by simp [hb])]
  exact h1
theorem FmP.add {n : Nat} {hs : List (List UInt8)} {j : Nat} {cur : FrV} (h : FmP n hs (j + 1) cur) (hb : n.testBit j = true) (hl : cur.length < hs.length) : FmP n hs j (cur ++ [(j, hs.getD cur.length [])]) := by
  have e : levelsF n (j + 1) = j :: levelsF n j := by conv => lhs; unfold levelsF
                                                      rw [if_pos hb]
  have h1 := h.lev
  rw [e] at h1
  refine ⟨by rw [h1]; simp, ?_, by simp; omega⟩
  rw [List.length_append, List.length_singleton, take_snocF hs cur.length hl, h.pre]
  simp
theorem FmP.bad {n : Nat} {hs : List (List UInt8)} {j : Nat} {cur : FrV} (h : FmP n hs (j + 1) cur) (hb : n.testBit j = true) (hl : cur.length = hs.length) : (levelsF n 63).length ≠ hs.length := by
  have e : levelsF n (j + 1) = j :: levelsF n j := by conv => lhs; unfold levelsF
                                                      rw [if_pos hb]
  rw [h.lev, e]
  simp
  omega
theorem FmP.done {n : Nat} {hs : List (List UInt8)} {cur : FrV} (h : FmP n hs 0 cur) : (levelsF n 63).length = cur.length ∧ (cur.length = hs.length → (levelsF n 63).zip hs = cur) := by
  have h1 : levelsF n 63 = cur.map (·.1) := by
    have := h.lev
    rw [show levelsF n 0 = [] from rfl, List.append_nil] at this
    exact this
  refine ⟨by rw [h1, List.length_map], fun e => ?_⟩
  have h2 : hs = cur.map (·.2) := by rw [← h.pre, e, List.take_length]
  rw [h1, h2]
  clear h h1 h2 e
  induction cur with
  | nil => rfl
  | cons p cur ih =>
    rw [List.map_cons, List.map_cons, List.zip_cons_cons, ih]
theorem FmP.len {n : Nat} {hs : List (List UInt8)} {j : Nat} {cur : FrV} (h : FmP n hs j cur) : cur.length ≤ 63 := by
  have h1 : (levelsF n 63).length ≤ 63 := by
    have : ∀ k, (levelsF n k).length ≤ k := by
      intro k
      induction k with
      | zero => exact Nat.le_refl _
      | succ k ih =>
        unfold levelsF
        split
        · rw [List.length_cons]; omega
        · omega
    exact this 63
  rw [h.lev, List.length_append, List.length_map] at h1
  omega

set_option maxHeartbeats 4000000 in
set_option maxRecDepth 100000 in
theorem ffrom_any (size : Int) (hs : List (List UInt8)) (A : Option Addr) (n c : Nat) (w : World) (h : Hs w (fun _ => True) A n c hs) (hz : size ≤ 9223372036854775807) :
    Calls Try.prog 55 #[.int .i64 size, .slice A n c] w fun e w' => ∃ v, e = .returned (.tuple #[v, .int .i64 (fromE size hs).2]) ∧ FrOpt w' w.heap.size v (fromE size hs).1 ∧ Below w.heap.size w w' := by
  have hlen := h.len
  have hroom := h.sl.room
  have hmx := h.sl.max
  unfold maxLen at hmx
  obtain ⟨res, hres⟩ : ∃ r, fromE size hs = r := ⟨_, rfl⟩
  rw [hres]
  unfold fromE at hres
  rcases Int.lt_or_le size 0 with hneg | hpos
  · rw [if_pos hneg] at hres
    subst hres
    have hd : decide (size < 0) = true := by simp; omega
    go_enter Try.func55, Try.ntmps55
    go_wp2_with fail
    exact bodyPost_ret (results_tmp2 rfl _ _ _) rfl ⟨_, rfl, .inl ⟨rfl, rfl⟩, Below.refl _ _⟩
  have hd0 : decide (size < 0) = false := by simp; omega
  have hd0' : ¬ size < 0 := by omega
  obtain ⟨sz, rfl⟩ : ∃ l : Nat, size = l := ⟨size.toNat, by omega⟩
  rw [if_neg hd0', Int.toNat_natCast] at hres
  have hbit : ∀ l, bits .and .i64 ((sz : Int) / 2 ^ l) 1 = if sz.testBit l = true then 1 else 0 := fun l => bit_and_one sz l (by omega)
  have Hbit := Lib.hid hbit
  have Hlen := Lib.hid hlen
  have Hh := Lib.hid h
  have Hres := Lib.hid hres
  clear hbit hlen h hres hz
  go_enter Try.func55, Try.ntmps55
  go_wp2_with (go_at_call 40; refine (fnew_own w).mono ?_; rintro e w1 ⟨rfl, k1, hb1⟩)
  have hg1 := k1.lt
  have hC : FmC w w.heap.size w1.heap.size (.slice none 0 0) 0 [] w1 := ⟨rfl, k1, World.ownsRow_nil _ _ _ _, hb1, fun _ h => by cases h⟩
  have hP : FmP sz hs 63 [] := ⟨rfl, by simp, Nat.zero_le _⟩
  obtain ⟨b1, hb1e⟩ : ∃ b, w1.heap.size = b := ⟨_, rfl⟩
  rw [hb1e] at hC hg1
  have hbs : b1 ≤ w1.heap.size := by omega
  clear k1 hb1 hb1e
  go_loopw [7] (fun v7 wr => ∃ (j : Nat) (v : Value) (m : Nat) (cur : FrV), j ≤ 63 ∧ v7 = .int .i64 ((j : Int) - 1) ∧ FmC w w.heap.size b1 v m cur wr ∧ FmP sz hs j cur ∧ b1 ≤ wr.heap.size) (fun v7 _ => (intOf v7 + 1).toNat)
  case atStart => exact ⟨63, _, 0, [], Nat.le_refl _, rfl, hC, hP, hbs⟩
  case round =>
    clear hC hP hbs
    obtain ⟨j, v, m, cur, hj, rfl, hC, hP, hbs⟩ := hrel
    obtain ⟨A6, c6, rfl, hs6⟩ := Pcs.of_owns hC.own ((length_fpc cur).trans hC.len) (fpc_32 cur hC.all)
    have hroom6 := hs6.sl.room
    have hmx6 := hs6.sl.max
    unfold maxLen at hmx6
    have hP63 := hP.len
    have hcl := hP.le
    have hall := Lib.hid hC.all
    have hm := hC.len
    rw [Hlen.out] at hcl
    rw [hm] at hP63 hcl
    have Hm := Lib.hid hm
    have HP := Lib.hid hP
    have c14 : wr.cell? ⟨w.heap.size, 0, none⟩ = some (.slice A6 m c6) := by rw [hC.obj.cell]; rfl
    clear hm hP hs6
    rcases Nat.eq_zero_or_pos j with rfl | hjp
    · obtain ⟨hd1, hd2⟩ := HP.out.done
      rw [Hm.out] at hd1 hd2
      by_cases hmn : m = n
      · subst hmn
        have hr := Hres.out
        rw [if_neg (by rw [hd1, Hlen.out]; simp), hd2 Hlen.out.symm] at hr
        have hne : (!((m : Int) == (m : Int))) = false := by simp
        go_wp2_with fail
        refine bodyPost_ret (results_tmp2 rfl _ _ _) rfl ?_
        rw [← hr]
        exact ⟨_, rfl, .inr ⟨_, _, rfl, rfl, Nat.le_refl _, hC.fro.le (Nat.le_of_lt hg1)⟩, hC.bel⟩
      · have hr := Hres.out
        rw [if_pos (by rw [hd1, Hlen.out]; exact hmn)] at hr
        have hne : ((m : Int) == (n : Int)) = false := by simp; omega
        have hne2 : ¬ (m : Int) = (n : Int) := by omega
        go_wp2_with fail
        refine bodyPost_ret (results_tmp2 rfl _ _ _) rfl ?_
        rw [← hr]
        exact ⟨_, rfl, .inl ⟨rfl, rfl⟩, hC.bel⟩
    · obtain ⟨l, rfl⟩ : ∃ l, j = l + 1 := ⟨j - 1, by omega⟩
      have hll : ((l + 1 : Nat) : Int) - 1 = (l : Int) := by omega
      rw [hll]
      have hwl : IntKind.i64.wrap ((l : Int) - 1) = (l : Int) - 1 := IntWalk.i64_in _ (by omega)
      have hge : decide ((0 : Int) ≤ (l : Int)) = true := by simp
      have hb := Hbit.out l
      have hl62 : l ≤ 62 := by omega
      by_cases ht : sz.testBit l = true
      · rw [if_pos ht] at hb
        by_cases hmn : m = n
        · subst hmn
          have hr := Hres.out
          rw [if_pos (HP.out.bad ht (by rw [Hm.out, Hlen.out]))] at hr
          have heq : ((m : Int) == (m : Int)) = true := by simp
          go_wp2_with fail
          refine bodyPost_ret (results_tmp2 rfl _ _ _) rfl ?_
          rw [← hr]
          exact ⟨_, rfl, .inl ⟨rfl, rfl⟩, hC.bel⟩
        · have heq : ((m : Int) == (n : Int)) = false := by simp; omega
          have hne2 : ¬ (m : Int) = (n : Int) := by omega
          have hmn : m < n := by omega
          have hmi : decide ((m : Int) < (n : Int)) = true := by simp; omega
          have hH : Hs wr (fun b => b < b1) A n c hs := (Hh.out.weak (Y := fun b => b < b1) fun b hb _ => Nat.lt_trans hb hg1).step hC.bel
          obtain ⟨b, o, rfl, hbw, -, -⟩ := hH.at_ (by omega)
          have hget := fun W (hb : Below b1 wr W) => (hH.below hb fun b hb hx => hx).get rfl m hmn
          have hx32 := Hh.out.all.getD m (by rw [Hlen.out]; exact hmn)
          have hadd := HP.out.add ht (by rw [Hm.out, Hlen.out]; exact hmn)
          rw [Hm.out] at hadd
          obtain ⟨x, hx⟩ : ∃ x, hs.getD m [] = x := ⟨_, rfl⟩
          rw [hx] at hget hx32 hadd
          have Hget := Lib.hid hget
          have Hadd := Lib.hid hadd
          have c14' : ∀ s : InC (fun W => Below b1 wr W), s.W.cell? ⟨w.heap.size, 0, none⟩ = some (.slice A6 m c6) := fun s => by rw [(hC.obj.below s.ok hg1).cell]; rfl
          clear hget hadd hx hH
          go_wp2_with fail
          have hS : Below b1 wr wr.drew := (Below.refl _ _).drew
          have hCs : FmC w w.heap.size b1 (.slice A6 m c6) m cur wr.drew := hC.step ((Below.refl _ _).drew)
          have hbsu : b1 ≤ wr.drew.heap.size := hbs
          refine wp_region_mix_tail (fun W => Below b1 wr W) 17 [(0, true), (1, true), (2, true), (3, true), (4, true), (5, true), (6, true), (7, true), (8, true), (9, true), (10, true), (11, true), (12, true), (13, true), (14, true), (15, false), (16, false)] (by kernel_rfl) (by kernel_rfl) hS fun _ => ?_
          simp only [List.map_cons, List.map_nil, Array.getD_eq_getD_getElem?, List.getElem?_toArray, List.getElem?_cons_succ, List.getElem?_cons_zero, Option.getD_some]
          generalize wr.drew = u2 at hS hCs hbsu ⊢
          obtain ⟨v9, W9, hr9, ho9, hb9⟩ := append_pc (S := 105) Try.underlying105 infoFp (by rw [length_fpc, hC.len]; exact hCs.own : u2.ownsRow b1 156 33 _ (fpc cur).length (pccells (fpc cur))) ((l : Int), x) hx32 (by rw [length_fpc, hC.len]; omega) hbsu
          have hbA : Below u2.heap.size u2 (u2.alloc (.cells (pccell ((l : Int), x)).toArray 156)) := (Below.refl _ _).alloc (Nat.le_refl _) _
          have hkg9 := (hCs.obj.step hbA).below hb9 hg1
          have hbel9 := (hCs.bel.trans (hbA.mono hCs.bel.size)).trans (hb9.mono (Nat.le_of_lt hg1))
          have hfe : fpc cur ++ [((l : Int), x)] = fpc (cur ++ [(l, x)]) := (fpc_append cur [(l, x)]).symm
          have hn9 : (cur ++ [(l, x)]).length = m + 1 := by rw [List.length_append, hC.len]; rfl
          rw [hfe, length_fpc, hn9] at ho9
          obtain ⟨gb9, c9, rfl, hgb9⟩ := owns_someB ho9 (by omega)
          have h329 : F32 (cur ++ [(l, x)]) := fun q hq => by
            rcases List.mem_append.1 hq with hq | hq
            · exact hC.all q hq
            · rw [List.mem_singleton.1 hq]; exact hx32
          have hbs9 : b1 ≤ W9.heap.size := Nat.le_trans (Nat.le_trans hbsu hbA.size) hb9.size
          refine wpMix_s (fun K hK => ?_)
          go_simp
          refine hK _ ?_
          clear hK K
          refine wpMix_s (fun K hK => ?_)
          go_simp
          refine hK _ ?_
          clear hK K
          refine wpMix_s (fun K hK => ?_)
          go_simp
          refine hK _ ?_
          clear hK K
          refine wpMix_s (fun K hK => ?_)
          go_simp
          refine hK _ ?_
          clear hK K
          refine wpMix_s (fun K hK => ?_)
          go_simp
          refine hK _ ?_
          clear hK K
          refine wpMix_s (fun K hK => ?_)
          go_simp
          refine hK _ ?_
          clear hK K
          refine wpMix_s (fun K hK => ?_)
          go_simp
          refine hK _ ?_
          clear hK K
          refine wpMix_s (fun K hK => ?_)
          go_simp
          refine hK _ ?_
          clear hK K
          refine wpMix_s (fun K hK => ?_)
          go_simp
          refine hK _ ?_
          clear hK K
          refine wpMix_s (fun K hK => ?_)
          go_simp
          refine hK _ ?_
          clear hK K
          refine wpMix_s (fun K hK => ?_)
          go_simp
          refine hK _ ?_
          clear hK K
          refine wpMix_s (fun K hK => ?_)
          go_simp
          refine hK _ ?_
          clear hK K
          refine wpMix_s (fun K hK => ?_)
          go_simp
          refine hK _ ?_
          clear hK K
          refine wpMix_load (by kernel_rfl) 25 (.tmp 40) rfl (b) (o + m * 32) rfl (x.map B).toArray ((fun s => Hget.out s.W s.ok)) ?_
          simp only [Act.put]
          refine wpMix_v (by kernel_rfl) (.agg (Value.int .i64 (l : Int) :: x.map B).toArray) ((fun s => run_build_fp_op (l : Int) x hx32 (.tmp 33) (.tmp 41) rfl rfl rfl s.W)) ?_
          simp only [Act.put]
          refine wpMix_run (by kernel_rfl) (.slice (some ⟨u2.heap.size, 0, none⟩) 1 1) (u2.alloc (.cells (pccell ((l : Int), x)).toArray 156)) (run_lit_oneF_op (x := .agg (pccell ((l : Int), x)).toArray) Try.underlying105 infoFp (by simp [Value.cells, hx32]) (by decide) (by decide) (.tmp 42) rfl rfl _) (hS.alloc hbsu _) ?_
          simp only [Act.put]
          refine wpMix_run (by kernel_rfl) (.slice (some ⟨gb9, 0, none⟩) (m + 1) c9) (W9) (run_append_op (.tmp 32) (.tmp 43) 105 rfl _ _ rfl rfl hr9) ((hS.alloc hbsu _).trans hb9) ?_
          simp only [Act.put]
          refine wpMix_nil ?_
          intro _
          simp only [List.drop_succ_cons, List.drop_zero]
          go_wp2_with (first
            | ((with_reducible show wpList _ _ _ [⟨none, .store _ _ _, _, _, _, _⟩] _ _); refine wpList_store_one rfl 105 (.tmp 46) (.tmp 44) rfl w.heap.size rfl rfl 107 (.slice A6 m c6) hkg9 (by kernel_rfl) ?_; show wpList _ _ _ _ _ (W9.setRow w.heap.size #[Value.slice (some ⟨gb9, 0, none⟩) (m + 1) c9]); simp only [Act.put]))
          have hgr : W9.grownBy (W9.setRow w.heap.size #[Value.slice (some ⟨gb9, 0, none⟩) (m + 1) c9]) (some w.heap.size) := grown_setRow (grown_of_below (Below.refl _ _) _) _
          refine np_normal ?_
          go_wp2_with fail
          go_roundw
          case rel => exact ⟨l, _, m + 1, cur ++ [(l, x)], by omega, rfl, ⟨hn9, hkg9.setRow_ _, ho9.kept hgr (.inr fun e => by have e : gb9 = w.heap.size := Option.some.inj e; omega), below_setRow hbel9 (Nat.le_refl _) _, h329⟩, Hadd.out, Nat.le_trans hbs9 hgr.size⟩
          case measure => simp [intOf] <;> omega
      · rw [if_neg ht] at hb
        go_wp2_with fail
        go_roundw
        case rel => exact ⟨l, _, m, cur, by omega, rfl, hC, HP.out.skip (by simpa using ht), hbs⟩
        case measure => simp [intOf] <;> omega
end Go.Proofs.Ytonidnfgneokbaa
