/- notaryref13.up. -/
import Derived.Test.YtonidnfgneokbaaQd122
import Derived.Test.YtonidnfgneokbaaQd123
namespace Go.Proofs.Ytonidnfgneokbaa
open Go Go.RowKit Go.Shelf
attribute [local go_sem] Oper.semAt_some

theorem length_atI (H : Hf) (hH : ∀ l, (H l).length = 32) (a0 : List UInt8) (ha : a0.length = 32) (w : List Bool) (p : List (List UInt8)) (j : Nat) : (atI H w p a0 j).length = 32 := by cases j with | zero => exact ha | succ j => exact hH _
set_option maxHeartbeats 4000000 in
set_option maxRecDepth 100000 in
theorem rup13_rec (kd : Int) (en : List UInt8) (Ae : Option Addr) (ne ce : Nat) (hne : ne ≤ 1000000000) (D : Nat) : ∀ (i n : Nat) (pf : List (List UInt8)) (Ap : Option Addr) (np cp : Nat) (w : World), n ≤ D → 1 ≤ n → i < n → n ≤ 1099511627776 → Sl w (fun _ => True) Ae ne ce en → Hs w (fun _ => True) Ap np cp pf → np = (wayI i n).length →
    Calls Try.prog 76 #[.int .i64 kd, .int .i64 (i : Int), .int .i64 (n : Int), .slice Ae ne ce, .slice Ap np cp] w fun e w' => e = .returned (.agg ((atI (hashK kd) (wayI i n) pf (hashK kd (leafD en)) np).map B).toArray) ∧ Below w.heap.size w w' := by
  induction D with
  | zero => intro i n pf Ap np cp w h h1; omega
  | succ D ih =>
    intro i n pf Ap np cp w hD h1 hi hn he hp hnp
    have helen := he.len
    have hroom := hp.sl.room
    have hmx := hp.sl.max
    unfold maxLen at hmx
    by_cases hn1 : n = 1
    · subst hn1
      have hnp0 : np = 0 := by rw [hnp, wayI_one]; rfl
      rw [wayI_one, hnp0]
      show Calls _ _ _ _ fun e w' => e = .returned (.agg ((hashK kd (leafD en)).map B).toArray) ∧ Below w.heap.size w w'
      have hlf := fun W (hs : Sl W (fun _ => True) Ae ne ce en) => rleaf_any en Ae ne ce W hs (by omega)
      have hll : (leafD en).length = ne + 1 := by simp [leafD, helen]
      obtain ⟨q, hq⟩ : ∃ q, leafD en = q := ⟨_, rfl⟩
      rw [hq] at hlf hll ⊢
      have hcall := fun A n c W h => rhash13_any kd q A n c W h
      have hlr := length_hashK kd q
      obtain ⟨r, hr⟩ : ∃ r, hashK kd q = r := ⟨_, rfl⟩
      rw [hr] at hlr hcall ⊢
      have Hlr := Lib.hid hlr
      have Hlf := Lib.hid hlf
      have Hll := Lib.hid hll
      have Hcall := Lib.hid hcall
      clear ih hlr hlf hll hq hcall hr hnp hnp0 helen
      go_enter Try.func76, Try.ntmps76
      go_wp2_with ((with_reducible show wpList _ _ _ (⟨some 10, .alloc _, _, _, _, _⟩ :: _) _ _); refine wpList_hnew rfl rfl ?_; intro w1 k4 hb1; simp only [Act.put])
      refine (Hlf.out w1 (he.step hb1)).mono ?_
      rintro e w2 ⟨v8, rfl, hf⟩
      obtain ⟨A8, c8, rfl, hs8⟩ := hf.sl
      replace hs8 := hs8.all
      rw [Hll.out] at hs8 ⊢
      replace k4 := k4.step hf.2
      have hb2 := hb1.trans (hf.2.mono hb1.size)
      clear hf
      go_wp2_with fail
      refine (Hcall.out A8 (ne + 1) c8 w2 hs8 (by omega)).mono ?_
      rintro e w3 ⟨rfl, hb'⟩
      replace k4 := k4.step hb'
      have hb3 := hb2.trans (hb'.mono hb2.size)
      clear hb'
      go_wp2_with ((with_reducible show wpList _ _ _ [⟨none, .store _ _ _, _, _, _, _⟩] _ _); refine wpList_hset2 (.tmp 10) (.tmp 18) rfl rfl k4 rfl rfl Hlr.out ?_; intro w4 k4s hb4 _; simp only [Act.put])
      exact bodyPost_ret (ret_hash rfl rfl k4s) rfl ⟨rfl, hb3.trans hb4⟩
    · have h2 : 2 ≤ n := by omega
      have hkl := splitN_lt n h2
      have hkp := splitN_pos n h2
      have hsp := fun W => rsplit_any (n : Int) W (by omega)
      rw [Int.toNat_natCast] at hsp
      have hlt : decide ((n : Int) < 2) = false := by simp; omega
      have hwr := fun (hk : splitN n ≤ i) => wayI_right i n h2 hi hk
      have hwl := fun (hk : i < splitN n) => wayI_left i n h2 hk
      have hpw := hp.weak (Y := (· < w.heap.size)) fun b hb _ => hb
      have hew := he.weak (Y := (· < w.heap.size)) fun b hb _ => hb
      obtain ⟨k, hk⟩ : ∃ k, splitN n = k := ⟨_, rfl⟩
      rw [hk] at hsp hkl hkp hwr hwl
      have Hsp := Lib.hid hsp
      by_cases hik : i < k
      · have hd : decide ((i : Int) < (k : Int)) = true := by simp; omega
        have e := hwl hik
        rw [e] at hnp ⊢
        obtain ⟨way, hway⟩ : ∃ way, wayI i k = way := ⟨_, rfl⟩
        rw [hway] at hnp ⊢
        rw [List.length_cons] at hnp
        obtain ⟨L, hL⟩ : ∃ L, way.length = L := ⟨_, rfl⟩
        rw [hL] at hnp
        subst hnp
        have hr1 := fun W he hp => ih i k (pf.take L) Ap L cp W (by omega) (by omega) hik (by omega) he hp (by rw [hway, hL])
        rw [hway] at hr1
        have ev : atI (hashK kd) (false :: way) pf (hashK kd (leafD en)) (L + 1) = hashK kd (nodeD (atI (hashK kd) way (pf.take L) (hashK kd (leafD en)) L, pf.getD L [])) := by
          rw [atI_succ, ← hL, prI_top]; rfl
        rw [ev]
        have l1 := length_atI (hashK kd) (length_hashK kd) (hashK kd (leafD en)) (length_hashK kd _) way (pf.take L) L
        have l2 := hp.all.getD L (by rw [hp.len]; omega)
        obtain ⟨bp, op, rfl, hbp, -, -⟩ := hpw.at_ (by omega)
        have hget := fun W (hb : Below w.heap.size w W) => (hpw.step hb).get rfl L (by omega)
        obtain ⟨x, hx1⟩ : ∃ x, atI (hashK kd) way (pf.take L) (hashK kd (leafD en)) L = x := ⟨_, rfl⟩
        obtain ⟨y, hy1⟩ : ∃ y, pf.getD L [] = y := ⟨_, rfl⟩
        rw [hx1] at hr1 l1 ⊢
        rw [hy1] at l2 hget ⊢
        have hnd := fun W => rnode13_any x y W l1 l2
        have hnl : (nodeD (x, y)).length = 65 := by simp [nodeD, l1, l2]
        obtain ⟨q, hq⟩ : ∃ q, nodeD (x, y) = q := ⟨_, rfl⟩
        rw [hq] at hnd hnl ⊢
        have hcall := fun A n c W h => rhash13_any kd q A n c W h
        have hlr := length_hashK kd q
        obtain ⟨r, hr⟩ : ∃ r, hashK kd q = r := ⟨_, rfl⟩
        rw [hr] at hlr hcall ⊢
        have hww : IntKind.i64.wrap ((L : Int) + 1 - 1) = (L : Int) := by rw [IntWalk.i64_in _ (by omega)]; omega
        have hww2 : IntKind.i64.wrap ((((L + 1 : Nat)) : Int) - 1) = (L : Int) := by rw [IntWalk.i64_in _ (by omega)]; omega
        have hLL : (L : Int) < (L : Int) + 1 := by omega
        have Hlr := Lib.hid hlr
        have Hr1 := Lib.hid hr1
        have Hnd := Lib.hid hnd
        have Hnl := Lib.hid hnl
        have Hcall := Lib.hid hcall
        have Hget := Lib.hid hget
        clear ih hr1 hlr hsp e hwr hwl hk hL hway ev l1 l2 hx1 hy1 hnd hnl hq hcall hr hget he hp helen
        go_enter Try.func76, Try.ntmps76
        go_wp2_with ((with_reducible show wpList _ _ _ (⟨some 10, .alloc _, _, _, _, _⟩ :: _) _ _); refine wpList_hnew rfl rfl ?_; intro w1 k4 hb1; simp only [Act.put])
        refine (Hsp.out w1).mono ?_
        rintro e w1' ⟨rfl, rfl⟩
        obtain ⟨g4, hg4⟩ : ∃ g, w.heap.size = g := ⟨_, rfl⟩
        rw [hg4] at k4 ⊢
        have hS : Below g4 w1 w1.drew := (Below.refl _ _).drew
        have hg41 := k4.lt
        have hg4s : w.heap.size ≤ g4 := by omega
        have hbg : Below g4 w w1 := by rw [← hg4]; exact hb1
        have Hb1 := Lib.hid hb1
        have Hg4 := Lib.hid hg4
        clear hg4
        go_wp2_with fail
        refine wp_region_mix (fun W => Below g4 w1 W) [(0, true), (1, true), (2, true), (3, true), (4, true), (5, true), (6, true), (7, true), (9, true), (10, true), (11, true), (12, true), (8, false), (13, false), (14, false), (15, false)] (by kernel_rfl) (by kernel_rfl) hS fun _ => ?_
        simp only [List.map_cons, List.map_nil, Array.getD_eq_getD_getElem?, List.getElem?_toArray, List.getElem?_cons_succ, List.getElem?_cons_zero, Option.getD_some]
        have hsd : w1.drew.heap.size = w1.heap.size := rfl
        replace k4 := k4.drew
        generalize w1.drew = u9 at hS k4 hsd ⊢
        refine wpMix_s (fun K hK => ?_)
        go_simp
        refine hK _ ?_
        clear hK K
        refine wpMix_s (fun K hK => ?_)
        go_simp
        refine hK _ ?_
        clear hK K
        refine wpMix_s (fun K hK => ?_)
        go_simp
        refine hK _ ?_
        clear hK K
        refine wpMix_s (fun K hK => ?_)
        go_simp
        refine hK _ ?_
        clear hK K
        refine wpMix_s (fun K hK => ?_)
        go_simp
        refine hK _ ?_
        clear hK K
        refine wpMix_s (fun K hK => ?_)
        go_simp
        refine hK _ ?_
        clear hK K
        refine wpMix_s (fun K hK => ?_)
        go_simp
        refine hK _ ?_
        clear hK K
        refine wpMix_v (by kernel_rfl) (.slice (some ⟨bp, op, none⟩) L cp) (fun s => run_slice_op_hi (.tmp 32) (.tmp 33) rfl (some ⟨bp, op, none⟩) (L + 1) cp L rfl rfl (by omega) s.W) ?_
        simp only [Act.put]
        refine wpMix_s (fun K hK => ?_)
        go_simp
        refine hK _ ?_
        clear hK K
        refine wpMix_s (fun K hK => ?_)
        go_simp
        refine hK _ ?_
        clear hK K
        refine wpMix_s (fun K hK => ?_)
        go_simp
        refine hK _ ?_
        clear hK K
        refine wpMix_load (by kernel_rfl) 25 (.tmp 38) rfl (bp) (op + L * 32) rfl (y.map B).toArray ((fun s => Hget.out s.W (by rw [Hg4.out]; exact hbg.trans s.ok))) ?_
        simp only [Act.put]
        have hz9 := hS.size
        refine wpMix_c (fun K hK => ?_) hS
        go_simp
        refine (Hr1.out u9 ((hew.step (by rw [Hg4.out]; exact hbg.trans hS)).all) ((((hpw.step (by rw [Hg4.out]; exact hbg.trans hS)).take L (by omega))).weak fun _ _ _ => trivial)).mono ?_
        rintro e u9a ⟨rfl, hb'⟩
        refine hK _ _ ?_
        clear hK K
        have hz8 := hb'.size
        replace k4 := k4.step hb'
        replace hS := hS.trans (hb'.mono (by omega))
        refine ⟨hS, ?_⟩
        clear hb' hz9
        have hz9 := hS.size
        refine wpMix_c (fun K hK => ?_) hS
        go_simp
        refine (Hnd.out u9a).mono ?_
        rintro e u9aa ⟨v8, rfl, hf⟩
        refine hK _ _ ?_
        clear hK K
        have hz8 := hf.2.size
        replace k4 := k4.step hf.2
        replace hS := hS.trans (hf.2.mono (by omega))
        refine ⟨hS, ?_⟩
        obtain ⟨A8, c8, rfl, hs8⟩ := hf.sl
        replace hs8 := hs8.all
        rw [Hnl.out] at hs8 ⊢
        clear hf hz9
        have hz9 := hS.size
        refine wpMix_c (fun K hK => ?_) hS
        go_simp
        refine (Hcall.out A8 65 c8 u9aa hs8 (by decide)).mono ?_
        rintro e u9aaa ⟨rfl, hb'⟩
        refine hK _ _ ?_
        clear hK K
        have hz8 := hb'.size
        replace k4 := k4.step hb'
        replace hS := hS.trans (hb'.mono (by omega))
        refine ⟨hS, ?_⟩
        clear hb' hz9
        clear hs8
        refine wpMix_hset (.tmp 10) (.tmp 41) rfl rfl k4 rfl rfl Hlr.out (fun _ hb => hS.trans (hb.mono (Nat.le_refl _))) ?_
        intro u9_1 k4s hb' hoth
        simp only [Act.put]
        replace hS := hS.trans (hb'.mono (Nat.le_refl _))
        clear hb' hoth
        refine wpMix_nil ?_
        intro _
        go_wp2_with fail
        exact bodyPost_ret (ret_hash rfl rfl k4s) rfl ⟨rfl, Hb1.out.trans (hS.mono hg4s)⟩
      · have hd : decide ((i : Int) < (k : Int)) = false := by simp; omega
        have e := hwr (by omega)
        rw [e] at hnp ⊢
        obtain ⟨way, hway⟩ : ∃ way, wayI (i - k) (n - k) = way := ⟨_, rfl⟩
        rw [hway] at hnp ⊢
        rw [List.length_cons] at hnp
        obtain ⟨L, hL⟩ : ∃ L, way.length = L := ⟨_, rfl⟩
        rw [hL] at hnp
        subst hnp
        have hr1 := fun W he hp => ih (i - k) (n - k) (pf.take L) Ap L cp W (by omega) (by omega) (by omega) (by omega) he hp (by rw [hway, hL])
        rw [hway, show ((i - k : Nat) : Int) = (i : Int) - k by omega, show ((n - k : Nat) : Int) = (n : Int) - k by omega] at hr1
        have hw1 : IntKind.i64.wrap ((i : Int) - (k : Int)) = (i : Int) - k := IntWalk.i64_in _ (by omega)
        have hw2 : IntKind.i64.wrap ((n : Int) - (k : Int)) = (n : Int) - k := IntWalk.i64_in _ (by omega)
        have ev : atI (hashK kd) (true :: way) pf (hashK kd (leafD en)) (L + 1) = hashK kd (nodeD (pf.getD L [], atI (hashK kd) way (pf.take L) (hashK kd (leafD en)) L)) := by
          rw [atI_succ, ← hL, prI_top]; rfl
        rw [ev]
        have l1 := length_atI (hashK kd) (length_hashK kd) (hashK kd (leafD en)) (length_hashK kd _) way (pf.take L) L
        have l2 := hp.all.getD L (by rw [hp.len]; omega)
        obtain ⟨bp, op, rfl, hbp, -, -⟩ := hpw.at_ (by omega)
        have hget := fun W (hb : Below w.heap.size w W) => (hpw.step hb).get rfl L (by omega)
        obtain ⟨x, hx1⟩ : ∃ x, atI (hashK kd) way (pf.take L) (hashK kd (leafD en)) L = x := ⟨_, rfl⟩
        obtain ⟨y, hy1⟩ : ∃ y, pf.getD L [] = y := ⟨_, rfl⟩
        rw [hx1] at hr1 l1 ⊢
        rw [hy1] at l2 hget ⊢
        have hnd := fun W => rnode13_any y x W l2 l1
        have hnl : (nodeD (y, x)).length = 65 := by simp [nodeD, l1, l2]
        obtain ⟨q, hq⟩ : ∃ q, nodeD (y, x) = q := ⟨_, rfl⟩
        rw [hq] at hnd hnl ⊢
        have hcall := fun A n c W h => rhash13_any kd q A n c W h
        have hlr := length_hashK kd q
        obtain ⟨r, hr⟩ : ∃ r, hashK kd q = r := ⟨_, rfl⟩
        rw [hr] at hlr hcall ⊢
        have hww : IntKind.i64.wrap ((L : Int) + 1 - 1) = (L : Int) := by rw [IntWalk.i64_in _ (by omega)]; omega
        have hww2 : IntKind.i64.wrap ((((L + 1 : Nat)) : Int) - 1) = (L : Int) := by rw [IntWalk.i64_in _ (by omega)]; omega
        have hLL : (L : Int) < (L : Int) + 1 := by omega
        have Hlr := Lib.hid hlr
        have Hr1 := Lib.hid hr1
        have Hnd := Lib.hid hnd
        have Hnl := Lib.hid hnl
        have Hcall := Lib.hid hcall
        have Hget := Lib.hid hget
        clear ih hr1 hlr hsp e hwr hwl hk hL hway ev l1 l2 hx1 hy1 hnd hnl hq hcall hr hget he hp helen
        go_enter Try.func76, Try.ntmps76
        go_wp2_with ((with_reducible show wpList _ _ _ (⟨some 10, .alloc _, _, _, _, _⟩ :: _) _ _); refine wpList_hnew rfl rfl ?_; intro w1 k4 hb1; simp only [Act.put])
        refine (Hsp.out w1).mono ?_
        rintro e w1' ⟨rfl, rfl⟩
        obtain ⟨g4, hg4⟩ : ∃ g, w.heap.size = g := ⟨_, rfl⟩
        rw [hg4] at k4 ⊢
        have hS : Below g4 w1 w1.drew := (Below.refl _ _).drew
        have hg41 := k4.lt
        have hg4s : w.heap.size ≤ g4 := by omega
        have hbg : Below g4 w w1 := by rw [← hg4]; exact hb1
        have Hb1 := Lib.hid hb1
        have Hg4 := Lib.hid hg4
        clear hg4
        go_wp2_with fail
        refine wp_region_mix (fun W => Below g4 w1 W) [(0, true), (1, true), (2, true), (3, true), (4, true), (5, true), (6, true), (7, true), (8, true), (9, true), (10, true), (11, true), (12, true), (13, true), (14, true), (15, true), (16, false), (17, false), (18, false), (19, false)] (by kernel_rfl) (by kernel_rfl) hS fun _ => ?_
        simp only [List.map_cons, List.map_nil, Array.getD_eq_getD_getElem?, List.getElem?_toArray, List.getElem?_cons_succ, List.getElem?_cons_zero, Option.getD_some]
        have hsd : w1.drew.heap.size = w1.heap.size := rfl
        replace k4 := k4.drew
        generalize w1.drew = u9 at hS k4 hsd ⊢
        refine wpMix_s (fun K hK => ?_)
        go_simp
        refine hK _ ?_
        clear hK K
        refine wpMix_s (fun K hK => ?_)
        go_simp
        refine hK _ ?_
        clear hK K
        refine wpMix_s (fun K hK => ?_)
        go_simp
        refine hK _ ?_
        clear hK K
        refine wpMix_s (fun K hK => ?_)
        go_simp
        refine hK _ ?_
        clear hK K
        refine wpMix_load (by kernel_rfl) 25 (.tmp 45) rfl (bp) (op + L * 32) rfl (y.map B).toArray ((fun s => Hget.out s.W (by rw [Hg4.out]; exact hbg.trans s.ok))) ?_
        simp only [Act.put]
        refine wpMix_s (fun K hK => ?_)
        go_simp
        refine hK _ ?_
        clear hK K
        refine wpMix_s (fun K hK => ?_)
        go_simp
        refine hK _ ?_
        clear hK K
        refine wpMix_s (fun K hK => ?_)
        go_simp
        refine hK _ ?_
        clear hK K
        refine wpMix_s (fun K hK => ?_)
        go_simp
        refine hK _ ?_
        clear hK K
        refine wpMix_s (fun K hK => ?_)
        go_simp
        refine hK _ ?_
        clear hK K
        refine wpMix_s (fun K hK => ?_)
        go_simp
        refine hK _ ?_
        clear hK K
        refine wpMix_s (fun K hK => ?_)
        go_simp
        refine hK _ ?_
        clear hK K
        refine wpMix_s (fun K hK => ?_)
        go_simp
        refine hK _ ?_
        clear hK K
        refine wpMix_s (fun K hK => ?_)
        go_simp
        refine hK _ ?_
        clear hK K
        refine wpMix_s (fun K hK => ?_)
        go_simp
        refine hK _ ?_
        clear hK K
        refine wpMix_v (by kernel_rfl) (.slice (some ⟨bp, op, none⟩) L cp) (fun s => run_slice_op_hi (.tmp 55) (.tmp 56) rfl (some ⟨bp, op, none⟩) (L + 1) cp L rfl rfl (by omega) s.W) ?_
        simp only [Act.put]
        have hz9 := hS.size
        refine wpMix_c (fun K hK => ?_) hS
        go_simp
        refine (Hr1.out u9 ((hew.step (by rw [Hg4.out]; exact hbg.trans hS)).all) ((((hpw.step (by rw [Hg4.out]; exact hbg.trans hS)).take L (by omega))).weak fun _ _ _ => trivial)).mono ?_
        rintro e u9a ⟨rfl, hb'⟩
        refine hK _ _ ?_
        clear hK K
        have hz8 := hb'.size
        replace k4 := k4.step hb'
        replace hS := hS.trans (hb'.mono (by omega))
        refine ⟨hS, ?_⟩
        clear hb' hz9
        have hz9 := hS.size
        refine wpMix_c (fun K hK => ?_) hS
        go_simp
        refine (Hnd.out u9a).mono ?_
        rintro e u9aa ⟨v8, rfl, hf⟩
        refine hK _ _ ?_
        clear hK K
        have hz8 := hf.2.size
        replace k4 := k4.step hf.2
        replace hS := hS.trans (hf.2.mono (by omega))
        refine ⟨hS, ?_⟩
        obtain ⟨A8, c8, rfl, hs8⟩ := hf.sl
        replace hs8 := hs8.all
        rw [Hnl.out] at hs8 ⊢
        clear hf hz9
        have hz9 := hS.size
        refine wpMix_c (fun K hK => ?_) hS
        go_simp
        refine (Hcall.out A8 65 c8 u9aa hs8 (by decide)).mono ?_
        rintro e u9aaa ⟨rfl, hb'⟩
        refine hK _ _ ?_
        clear hK K
        have hz8 := hb'.size
        replace k4 := k4.step hb'
        replace hS := hS.trans (hb'.mono (by omega))
        refine ⟨hS, ?_⟩
        clear hb' hz9
        clear hs8
        refine wpMix_hset (.tmp 10) (.tmp 60) rfl rfl k4 rfl rfl Hlr.out (fun _ hb => hS.trans (hb.mono (Nat.le_refl _))) ?_
        intro u9_1 k4s hb' hoth
        simp only [Act.put]
        replace hS := hS.trans (hb'.mono (Nat.le_refl _))
        clear hb' hoth
        refine wpMix_nil ?_
        intro _
        go_wp2_with fail
        exact bodyPost_ret (ret_hash rfl rfl k4s) rfl ⟨rfl, Hb1.out.trans (hS.mono hg4s)⟩
end Go.Proofs.Ytonidnfgneokbaa
