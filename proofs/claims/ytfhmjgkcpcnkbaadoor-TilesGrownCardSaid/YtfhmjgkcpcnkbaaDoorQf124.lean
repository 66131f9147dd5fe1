/- tiles: part, the root of a stretch. -/
import Derived.Test.YtfhmjgkcpcnkbaaDoorQf123
namespace Go.Proofs.YtfhmjgkcpcnkbaaDoor
open Go Go.RowKit
attribute [local go_sem] Oper.semAt_some

theorem ctz_is (n : Nat) (hn : pow2 n = true) (hm : n ≤ 100000) : ∃ j, n = 2 ^ j ∧ Lib.ctz 64 n = j := by
  obtain ⟨j, rfl⟩ := pow2_is n n (Nat.le_refl _) hn
  refine ⟨j, rfl, ctz_pow j ?_⟩
  apply Classical.byContradiction
  intro hne
  have := Nat.pow_le_pow_right (n := 2) (by decide) (show 63 ≤ j by omega)
  omega
theorem pow2_of_and (n : Nat) (h0 : 1 ≤ n) (h : n &&& (n - 1) = 0) : pow2 n = true := by
  unfold pow2
  rw [h]
  simp
  omega
theorem aggRng : ∀ w : World, (isAgg 96).run Tryd.prog w = .ok true w := fun _ => by kernel_rfl
theorem sizeRng : ∀ w : World, (sizeOf 96).run Tryd.prog w = .ok 2 w := fun _ => by kernel_rfl
set_option maxHeartbeats 8000000 in
set_option maxRecDepth 100000 in
theorem tpart_rec (lo p m h : Nat) (f : Int → Int → Option Value) (L : HL) : ∀ (n a : Nat) (w : World), Ti lo p m h f L w → Tab w → 1 ≤ n → a + n ≤ L.length →
    Calls Tryd.prog 62 #[.pointer (some ⟨p, 0, none⟩), .agg #[.int .i64 (a : Int), .int .i64 ((a + n : Nat) : Int)]] w fun e w' => e = .returned (.agg ((rootL ((L.drop a).take n)).map B).toArray) ∧ Below w.heap.size w w' := by
  intro n
  induction n using Nat.strongRecOn with
  | ind n ih =>
  intro a w ht hT hn1 han
  have hmax := ht.max
  obtain ⟨r, hr⟩ : ∃ r, rootL ((L.drop a).take n) = r := ⟨_, rfl⟩
  have hr32 : r.length = 32 := by rw [← hr]; exact length_rootL _ ((ht.all.drop _).take _)
  obtain ⟨b, hb⟩ : ∃ b, a + n = b := ⟨_, rfl⟩
  obtain ⟨n1, hn1e⟩ : ∃ n1, n - 1 = n1 := ⟨_, rfl⟩
  have hw1 : IntKind.i64.wrap ((b : Int) - (a : Int)) = (n : Int) := by rw [IntWalk.i64_in _ (by omega)]; omega
  have hw2 : IntKind.i64.wrap ((n : Int) - 1) = (n1 : Int) := by rw [IntWalk.i64_in _ (by omega)]; omega
  have hb1 : bits .and .i64 (n : Int) (n1 : Int) = ((n &&& n1 : Nat) : Int) := i64_and_nat n n1 (by omega) (by omega)
  have hb2 : bits .and .i64 (a : Int) (n1 : Int) = ((a &&& n1 : Nat) : Int) := i64_and_nat a n1 (by omega) (by omega)
  obtain ⟨w0, hw0⟩ : ∃ x, w.alloc (.cells #[.int .i64 (a : Int), .int .i64 (b : Int)] 96) = x := ⟨_, rfl⟩
  have k3 : Blk w0 w.heap.size 96 #[.int .i64 (a : Int), .int .i64 (b : Int)] := by rw [← hw0]; exact Blk.new _ _ _
  have hb0 : Below w.heap.size w w0 := by rw [← hw0]; exact (Below.refl _ _).alloc (Nat.le_refl _) _
  have hTT := fun V (hV : Below w.heap.size w V) => And.intro (ht.step hV) (hT.step hV)
  have HT := Lib.hid hTT
  have Hw0 := Lib.hid hw0
  have Hr32 := Lib.hid hr32
  have Hih := Lib.hid ih
  have Hr := Lib.hid hr
  have Hb := Lib.hid hb
  have hall := ht.all
  have Hall := Lib.hid hall
  rw [hr, hb]
  clear ih ht hT hTT hw0 hr32 hall hr
  by_cases hz1 : n &&& n1 = 0
  · have hpw : pow2 n = true := pow2_of_and n hn1 (by rw [hn1e]; exact hz1)
    obtain ⟨j, hj, hctz⟩ := ctz_is n hpw (by omega)
    rw [hz1] at hb1
    by_cases hz2 : a &&& n1 = 0
    · rw [hz2] at hb2
      have hz3 : a % 2 ^ j = 0 := by rw [← Nat.and_two_pow_sub_one_eq_mod, ← hj, hn1e]; exact hz2
      obtain ⟨c, hc⟩ : ∃ c, a = c * 2 ^ j := ⟨a / 2 ^ j, by have := Nat.div_add_mod a (2 ^ j); rw [hz3, Nat.mul_comm] at this; omega⟩
      have hcn : (c + 1) * 2 ^ j ≤ L.length := by rw [Nat.add_mul, ← hc, Nat.one_mul, ← hj]; omega
      have htz := fun V (hV : Below w.heap.size w V) => tz64_any n (by omega) (by omega) V (HT.out V hV).2
      rw [hctz] at htz
      have hpf := fun V (hV : Below w.heap.size w V) => tperfect_any lo p m h f L c j V (HT.out V hV).1 hcn
      rw [← hc, ← hj, Hr.out] at hpf
      have hcv : IntKind.u64.wrap (n : Int) = (n : Int) := by rw [IntKind.wrap_u64]; omega
      have Htz := Lib.hid htz
      have Hpf := Lib.hid hpf
      clear hpw hctz hz1 hz2 hz3 hc hcn htz hpf hj
      go_enter Tryd.func62, Tryd.ntmps62
      refine Code.wp_mono (fun _ _ _ h => BP.out h) ?_
      go_wp2_with (first
  | ((with_reducible show wpList _ _ _ (⟨some 4, .alloc _, _, _, _, _⟩ :: _) _ _); rw [Hw0.out]; refine wpList_hnew rfl rfl ?_; intro w1 k4 hb1'; replace k3 := k3.step hb1'; replace hb0 := hb0.trans (hb1'.mono hb0.size); have k4g := hb1'.size; obtain ⟨g4, hg4⟩ : ∃ g, w0.heap.size = g := ⟨_, rfl⟩; have hg4l : w.heap.size + 1 ≤ g4 := (by rw [← hg4, ← Hw0.out]; simp); rw [hg4] at k4 k4g ⊢; clear hb1' hg4; have c30 : w1.cell? ⟨w.heap.size, 0, none⟩ = some (.int .i64 (a : Int)) := (by rw [k3.cell]; rfl); have c31 : w1.cell? ⟨w.heap.size, 1, none⟩ = some (.int .i64 (b : Int)) := (by rw [k3.cell]; rfl); simp only [Act.put, List.setIfInBounds_toArray, List.set_cons_succ, List.set_cons_zero]))
      clear c30 c31
      have hb1 := hb0
      clear hb0
      have hz1s := hb1.size
      have c30 : ∀ s : InC (fun V => Below w1.heap.size w1 V), s.W.cell? ⟨w.heap.size, 0, none⟩ = some (.int .i64 (a : Int)) := fun s => by rw [(k3.step s.ok).cell]; rfl
      have c31 : ∀ s : InC (fun V => Below w1.heap.size w1 V), s.W.cell? ⟨w.heap.size, 1, none⟩ = some (.int .i64 (b : Int)) := fun s => by rw [(k3.step s.ok).cell]; rfl
      have hS : Below w1.heap.size w1 w1.drew := (Below.refl _ _).drew
      refine wp_region_mix_last (fun W => Below w1.heap.size w1 W) 7 [(0, true), (1, true), (2, true), (3, true), (4, true), (5, false), (6, false)] (by kernel_rfl) (by kernel_rfl) hS fun _ => ?_
      simp only [List.map_cons, List.map_nil, Array.getD_eq_getD_getElem?, List.getElem?_toArray, List.getElem?_cons_succ, List.getElem?_cons_zero, Option.getD_some]
      generalize w1.drew = V0 at hS ⊢
      refine wpMix_s (fun K hK => ?_)
      go_simp
      refine hK _ ?_
      clear hK K
      refine wpMix_s (fun K hK => ?_)
      go_simp
      refine hK _ ?_
      clear hK K
      refine wpMix_s (fun K hK => ?_)
      go_simp
      refine hK _ ?_
      clear hK K
      refine wpMix_s (fun K hK => ?_)
      go_simp
      refine hK _ ?_
      clear hK K
      refine wpMix_s (fun K hK => ?_)
      go_simp
      refine hK _ ?_
      clear hK K
      refine wpMix_c (fun K hK => ?_) hS
      go_simp
      refine (Htz.out V0 (hb1.trans (hS.mono hb1.size))).mono ?_
      rintro e V0e ⟨rfl, hww⟩
      obtain rfl := hww.symm
      refine hK _ _ ?_
      clear hK K
      refine ⟨hS, ?_⟩
      refine wpMix_c (fun K hK => ?_) hS
      go_simp
      refine (Hpf.out V0 (hb1.trans (hS.mono hb1.size))).mono ?_
      rintro e V0_1 ⟨rfl, hb'⟩
      refine hK _ _ ?_
      clear hK K
      replace hS := hS.trans (hb'.mono hS.size)
      refine ⟨hS, ?_⟩
      clear hb'
      refine wpMix_nil ?_
      intro _
      simp only [List.drop_succ_cons, List.drop_zero]
      have k4e := k4.step hS
      clear c30 c31
      go_wp2_with ((with_reducible show wpList _ _ _ (⟨none, .store _ _ _, _, _, _, _⟩ :: _) _ _); refine wpList_hset (.tmp 4) (.tmp 32) rfl rfl k4e rfl rfl Hr32.out ?_; intro w6 k4s hb6 he6; clear he6; simp only [Act.put])
      refine np_normal ?_
      go_wp2_with fail
      exact ⟨bodyPost_ret (ret_hash rfl rfl k4s) rfl ⟨rfl, (hb1.trans (hS.mono hb1.size)).trans (hb6.mono (by omega))⟩⟩
    · have he2 : (((a &&& n1 : Nat) : Int) == 0) = false := by simp; omega
      obtain ⟨z2, hz2e⟩ : ∃ z, a &&& n1 = z := ⟨_, rfl⟩
      rw [hz2e] at hb2 he2 hz2
      have hn2 : 2 ≤ n := by
        apply Classical.byContradiction
        intro hne
        have : n1 = 0 := by omega
        rw [this, Nat.and_zero] at hz2e
        omega
      clear hpw hj hctz hz1 hz2 hz2e
      obtain ⟨s, hs⟩ : ∃ s, splitN n = s := ⟨_, rfl⟩
      have hsl := splitN_lt n hn2
      have hsp := splitN_pos n hn2
      have hspl := fun V => tsplit_any (n : Int) V (by omega)
      rw [Int.toNat_natCast] at hspl
      rw [hs] at hspl hsl hsp
      have hln : ((L.drop a).take n).length = n := by rw [List.length_take, List.length_drop]; omega
      have hmore := rootL_more ((L.drop a).take n) (by rw [hln]; omega)
      rw [hln, hs, Hr.out, List.take_take, Nat.min_eq_left (by omega : s ≤ n), List.drop_take, List.drop_drop] at hmore
      have hL := fun V (hV : Below w.heap.size w V) => Hih.out s (by omega) a V (HT.out V hV).1 (HT.out V hV).2 (by omega) (by omega)
      have hR := fun V (hV : Below w.heap.size w V) => Hih.out (n - s) (by omega) (a + s) V (HT.out V hV).1 (HT.out V hV).2 (by omega) (by omega)
      rw [show a + s + (n - s) = b by omega] at hR
      obtain ⟨x, hx⟩ : ∃ x, rootL ((L.drop a).take s) = x := ⟨_, rfl⟩
      obtain ⟨y, hy⟩ : ∃ y, rootL ((L.drop (a + s)).take (n - s)) = y := ⟨_, rfl⟩
      have hxl : x.length = 32 := by rw [← hx]; exact length_rootL _ ((Hall.out.drop _).take _)
      have hyl : y.length = 32 := by rw [← hy]; exact length_rootL _ ((Hall.out.drop _).take _)
      rw [hx] at hL hmore
      rw [hy] at hR hmore
      have hN := fun V => hnode_any x y V hxl hyl
      rw [← hmore] at hN
      obtain ⟨k, hk⟩ : ∃ k, a + s = k := ⟨_, rfl⟩
      rw [hk] at hL hR
      have hwk : IntKind.i64.wrap ((a : Int) + (s : Int)) = (k : Int) := by rw [IntWalk.i64_in _ (by omega)]; omega
      have Hspl := Lib.hid hspl
      have HL := Lib.hid hL
      have HR := Lib.hid hR
      have HN := Lib.hid hN
      clear hspl hL hR hN hx hy hxl hyl hmore hln hs hk Hih
      go_enter Tryd.func62, Tryd.ntmps62
      refine Code.wp_mono (fun _ _ _ h => BP.out h) ?_
      go_wp2_with (first
  | ((with_reducible show wpList _ _ _ (⟨some 4, .alloc _, _, _, _, _⟩ :: _) _ _); rw [Hw0.out]; refine wpList_hnew rfl rfl ?_; intro w1 k4 hb1'; replace k3 := k3.step hb1'; replace hb0 := hb0.trans (hb1'.mono hb0.size); have k4g := hb1'.size; obtain ⟨g4, hg4⟩ : ∃ g, w0.heap.size = g := ⟨_, rfl⟩; have hg4l : w.heap.size + 1 ≤ g4 := (by rw [← hg4, ← Hw0.out]; simp); rw [hg4] at k4 k4g ⊢; clear hb1' hg4; have c30 : w1.cell? ⟨w.heap.size, 0, none⟩ = some (.int .i64 (a : Int)) := (by rw [k3.cell]; rfl); have c31 : w1.cell? ⟨w.heap.size, 1, none⟩ = some (.int .i64 (b : Int)) := (by rw [k3.cell]; rfl); simp only [Act.put, List.setIfInBounds_toArray, List.set_cons_succ, List.set_cons_zero]))
      clear c30 c31
      have hb1 := hb0
      clear hb0
      have hz1s := hb1.size
      have c30 : ∀ s : InC (fun V => Below w1.heap.size w1 V), s.W.cell? ⟨w.heap.size, 0, none⟩ = some (.int .i64 (a : Int)) := fun s => by rw [(k3.step s.ok).cell]; rfl
      have c31 : ∀ s : InC (fun V => Below w1.heap.size w1 V), s.W.cell? ⟨w.heap.size, 1, none⟩ = some (.int .i64 (b : Int)) := fun s => by rw [(k3.step s.ok).cell]; rfl
      have hS : Below w1.heap.size w1 w1.drew := (Below.refl _ _).drew
      refine wp_region_mix (fun W => Below w1.heap.size w1 W) [(0, true), (1, true), (2, true), (3, false), (4, true), (5, true)] (by kernel_rfl) (by kernel_rfl) hS fun _ => ?_
      simp only [List.map_cons, List.map_nil, Array.getD_eq_getD_getElem?, List.getElem?_toArray, List.getElem?_cons_succ, List.getElem?_cons_zero, Option.getD_some]
      generalize w1.drew = U0 at hS ⊢
      refine wpMix_s (fun K hK => ?_)
      go_simp
      refine hK _ ?_
      clear hK K
      refine wpMix_s (fun K hK => ?_)
      go_simp
      refine hK _ ?_
      clear hK K
      refine wpMix_s (fun K hK => ?_)
      go_simp
      refine hK _ ?_
      clear hK K
      refine wpMix_c (fun K hK => ?_) hS
      go_simp
      refine (Hspl.out U0).mono ?_
      rintro e U0e ⟨rfl, rfl⟩
      refine hK _ _ ?_
      clear hK K
      refine ⟨hS, ?_⟩
      refine wpMix_s (fun K hK => ?_)
      go_simp
      refine hK _ ?_
      clear hK K
      refine wpMix_s (fun K hK => ?_)
      go_simp
      refine hK _ ?_
      clear hK K
      refine wpMix_nil ?_
      intro _
      have k3 := k3.step hS
      have k4 := k4.step hS
      have hb1 := hb1.trans (hS.mono hb1.size)
      clear c30 c31 hS hz1s
      go_wp2_with fail
      have hz1s := hb1.size
      have c30 : ∀ s : InC (fun V => Below U0.heap.size U0 V), s.W.cell? ⟨w.heap.size, 0, none⟩ = some (.int .i64 (a : Int)) := fun s => by rw [(k3.step s.ok).cell]; rfl
      have c31 : ∀ s : InC (fun V => Below U0.heap.size U0 V), s.W.cell? ⟨w.heap.size, 1, none⟩ = some (.int .i64 (b : Int)) := fun s => by rw [(k3.step s.ok).cell]; rfl
      have hS : Below U0.heap.size U0 U0.drew := (Below.refl _ _).drew
      refine wp_region_mix_tail7 (fun W => Below U0.heap.size U0 W) 13 [(0, true), (1, true), (2, true), (3, true), (4, true), (6, true), (7, true), (8, true), (9, true), (10, true), (5, false), (11, false), (12, false)] (by kernel_rfl) (by kernel_rfl) hS fun _ => ?_
      simp only [List.map_cons, List.map_nil, Array.getD_eq_getD_getElem?, List.getElem?_toArray, List.getElem?_cons_succ, List.getElem?_cons_zero, Option.getD_some]
      generalize U0.drew = V0 at hS ⊢
      refine wpMix_s (fun K hK => ?_)
      go_simp
      refine hK _ ?_
      clear hK K
      refine wpMix_s (fun K hK => ?_)
      go_simp
      refine hK _ ?_
      clear hK K
      refine wpMix_s (fun K hK => ?_)
      go_simp
      refine hK _ ?_
      clear hK K
      refine wpMix_s (fun K hK => ?_)
      go_simp
      refine hK _ ?_
      clear hK K
      refine wpMix_s (fun K hK => ?_)
      go_simp
      refine hK _ ?_
      clear hK K
      refine wpMix_s (fun K hK => ?_)
      go_simp
      refine hK _ ?_
      clear hK K
      refine wpMix_s (fun K hK => ?_)
      go_simp
      refine hK _ ?_
      clear hK K
      refine wpMix_s (fun K hK => ?_)
      go_simp
      refine hK _ ?_
      clear hK K
      refine wpMix_s (fun K hK => ?_)
      go_simp
      refine hK _ ?_
      clear hK K
      refine wpMix_s (fun K hK => ?_)
      go_simp
      refine hK _ ?_
      clear hK K
      refine wpMix_c (fun K hK => ?_) hS
      go_simp
      refine (HL.out V0 (hb1.trans (hS.mono hb1.size))).mono ?_
      rintro e V0_1 ⟨rfl, hb'⟩
      refine hK _ _ ?_
      clear hK K
      replace hS := hS.trans (hb'.mono hS.size)
      refine ⟨hS, ?_⟩
      clear hb'
      refine wpMix_c (fun K hK => ?_) hS
      go_simp
      refine (HR.out V0_1 (hb1.trans (hS.mono hb1.size))).mono ?_
      rintro e V0_2 ⟨rfl, hb'⟩
      refine hK _ _ ?_
      clear hK K
      replace hS := hS.trans (hb'.mono hS.size)
      refine ⟨hS, ?_⟩
      clear hb'
      refine wpMix_c (fun K hK => ?_) hS
      go_simp
      refine (HN.out V0_2).mono ?_
      rintro e V0_3 ⟨rfl, hb'⟩
      refine hK _ _ ?_
      clear hK K
      replace hS := hS.trans (hb'.mono hS.size)
      refine ⟨hS, ?_⟩
      clear hb'
      refine wpMix_nil ?_
      intro _
      simp only [List.drop_succ_cons, List.drop_zero]
      have k4e := k4.step hS
      clear c30 c31
      go_wp2_with ((with_reducible show wpList _ _ _ (⟨none, .store _ _ _, _, _, _, _⟩ :: _) _ _); refine wpList_hset (.tmp 4) (.tmp 52) rfl rfl k4e rfl rfl Hr32.out ?_; intro w6 k4s hb6 he6; clear he6; simp only [Act.put])
      refine np_normal ?_
      go_wp2_with fail
      exact ⟨bodyPost_ret (ret_hash rfl rfl k4s) rfl ⟨rfl, (hb1.trans (hS.mono hb1.size)).trans (hb6.mono (by omega))⟩⟩
  · have he1 : (((n &&& n1 : Nat) : Int) == 0) = false := by simp; omega
    obtain ⟨z1, hz1e⟩ : ∃ z, n &&& n1 = z := ⟨_, rfl⟩
    rw [hz1e] at hb1 he1 hz1
    have hn2 : 2 ≤ n := by
      apply Classical.byContradiction
      intro hne
      have : n1 = 0 := by omega
      rw [this, Nat.and_zero] at hz1e
      omega
    clear hz1 hz1e
    obtain ⟨s, hs⟩ : ∃ s, splitN n = s := ⟨_, rfl⟩
    have hsl := splitN_lt n hn2
    have hsp := splitN_pos n hn2
    have hspl := fun V => tsplit_any (n : Int) V (by omega)
    rw [Int.toNat_natCast] at hspl
    rw [hs] at hspl hsl hsp
    have hln : ((L.drop a).take n).length = n := by rw [List.length_take, List.length_drop]; omega
    have hmore := rootL_more ((L.drop a).take n) (by rw [hln]; omega)
    rw [hln, hs, Hr.out, List.take_take, Nat.min_eq_left (by omega : s ≤ n), List.drop_take, List.drop_drop] at hmore
    have hL := fun V (hV : Below w.heap.size w V) => Hih.out s (by omega) a V (HT.out V hV).1 (HT.out V hV).2 (by omega) (by omega)
    have hR := fun V (hV : Below w.heap.size w V) => Hih.out (n - s) (by omega) (a + s) V (HT.out V hV).1 (HT.out V hV).2 (by omega) (by omega)
    rw [show a + s + (n - s) = b by omega] at hR
    obtain ⟨x, hx⟩ : ∃ x, rootL ((L.drop a).take s) = x := ⟨_, rfl⟩
    obtain ⟨y, hy⟩ : ∃ y, rootL ((L.drop (a + s)).take (n - s)) = y := ⟨_, rfl⟩
    have hxl : x.length = 32 := by rw [← hx]; exact length_rootL _ ((Hall.out.drop _).take _)
    have hyl : y.length = 32 := by rw [← hy]; exact length_rootL _ ((Hall.out.drop _).take _)
    rw [hx] at hL hmore
    rw [hy] at hR hmore
    have hN := fun V => hnode_any x y V hxl hyl
    rw [← hmore] at hN
    obtain ⟨k, hk⟩ : ∃ k, a + s = k := ⟨_, rfl⟩
    rw [hk] at hL hR
    have hwk : IntKind.i64.wrap ((a : Int) + (s : Int)) = (k : Int) := by rw [IntWalk.i64_in _ (by omega)]; omega
    have Hspl := Lib.hid hspl
    have HL := Lib.hid hL
    have HR := Lib.hid hR
    have HN := Lib.hid hN
    clear hspl hL hR hN hx hy hxl hyl hmore hln hs hk Hih
    go_enter Tryd.func62, Tryd.ntmps62
    refine Code.wp_mono (fun _ _ _ h => BP.out h) ?_
    go_wp2_with (first
  | ((with_reducible show wpList _ _ _ (⟨some 4, .alloc _, _, _, _, _⟩ :: _) _ _); rw [Hw0.out]; refine wpList_hnew rfl rfl ?_; intro w1 k4 hb1'; replace k3 := k3.step hb1'; replace hb0 := hb0.trans (hb1'.mono hb0.size); have k4g := hb1'.size; obtain ⟨g4, hg4⟩ : ∃ g, w0.heap.size = g := ⟨_, rfl⟩; have hg4l : w.heap.size + 1 ≤ g4 := (by rw [← hg4, ← Hw0.out]; simp); rw [hg4] at k4 k4g ⊢; clear hb1' hg4; have c30 : w1.cell? ⟨w.heap.size, 0, none⟩ = some (.int .i64 (a : Int)) := (by rw [k3.cell]; rfl); have c31 : w1.cell? ⟨w.heap.size, 1, none⟩ = some (.int .i64 (b : Int)) := (by rw [k3.cell]; rfl); simp only [Act.put, List.setIfInBounds_toArray, List.set_cons_succ, List.set_cons_zero]))
    clear c30 c31
    have hb1 := hb0
    clear hb0
    have hz1s := hb1.size
    have c30 : ∀ s : InC (fun V => Below w1.heap.size w1 V), s.W.cell? ⟨w.heap.size, 0, none⟩ = some (.int .i64 (a : Int)) := fun s => by rw [(k3.step s.ok).cell]; rfl
    have c31 : ∀ s : InC (fun V => Below w1.heap.size w1 V), s.W.cell? ⟨w.heap.size, 1, none⟩ = some (.int .i64 (b : Int)) := fun s => by rw [(k3.step s.ok).cell]; rfl
    have hS : Below w1.heap.size w1 w1.drew := (Below.refl _ _).drew
    refine wp_region_mix (fun W => Below w1.heap.size w1 W) [(0, true), (1, true), (2, true), (3, false), (4, true), (5, true)] (by kernel_rfl) (by kernel_rfl) hS fun _ => ?_
    simp only [List.map_cons, List.map_nil, Array.getD_eq_getD_getElem?, List.getElem?_toArray, List.getElem?_cons_succ, List.getElem?_cons_zero, Option.getD_some]
    generalize w1.drew = U0 at hS ⊢
    refine wpMix_s (fun K hK => ?_)
    go_simp
    refine hK _ ?_
    clear hK K
    refine wpMix_s (fun K hK => ?_)
    go_simp
    refine hK _ ?_
    clear hK K
    refine wpMix_s (fun K hK => ?_)
    go_simp
    refine hK _ ?_
    clear hK K
    refine wpMix_c (fun K hK => ?_) hS
    go_simp
    refine (Hspl.out U0).mono ?_
    rintro e U0e ⟨rfl, rfl⟩
    refine hK _ _ ?_
    clear hK K
    refine ⟨hS, ?_⟩
    refine wpMix_s (fun K hK => ?_)
    go_simp
    refine hK _ ?_
    clear hK K
    refine wpMix_s (fun K hK => ?_)
    go_simp
    refine hK _ ?_
    clear hK K
    refine wpMix_nil ?_
    intro _
    have k3 := k3.step hS
    have k4 := k4.step hS
    have hb1 := hb1.trans (hS.mono hb1.size)
    clear c30 c31 hS hz1s
    go_wp2_with fail
    have hz1s := hb1.size
    have c30 : ∀ s : InC (fun V => Below U0.heap.size U0 V), s.W.cell? ⟨w.heap.size, 0, none⟩ = some (.int .i64 (a : Int)) := fun s => by rw [(k3.step s.ok).cell]; rfl
    have c31 : ∀ s : InC (fun V => Below U0.heap.size U0 V), s.W.cell? ⟨w.heap.size, 1, none⟩ = some (.int .i64 (b : Int)) := fun s => by rw [(k3.step s.ok).cell]; rfl
    have hS : Below U0.heap.size U0 U0.drew := (Below.refl _ _).drew
    refine wp_region_mix_tail7 (fun W => Below U0.heap.size U0 W) 13 [(0, true), (1, true), (2, true), (3, true), (4, true), (6, true), (7, true), (8, true), (9, true), (10, true), (5, false), (11, false), (12, false)] (by kernel_rfl) (by kernel_rfl) hS fun _ => ?_
    simp only [List.map_cons, List.map_nil, Array.getD_eq_getD_getElem?, List.getElem?_toArray, List.getElem?_cons_succ, List.getElem?_cons_zero, Option.getD_some]
    generalize U0.drew = V0 at hS ⊢
    refine wpMix_s (fun K hK => ?_)
    go_simp
    refine hK _ ?_
    clear hK K
    refine wpMix_s (fun K hK => ?_)
    go_simp
    refine hK _ ?_
    clear hK K
    refine wpMix_s (fun K hK => ?_)
    go_simp
    refine hK _ ?_
    clear hK K
    refine wpMix_s (fun K hK => ?_)
    go_simp
    refine hK _ ?_
    clear hK K
    refine wpMix_s (fun K hK => ?_)
    go_simp
    refine hK _ ?_
    clear hK K
    refine wpMix_s (fun K hK => ?_)
    go_simp
    refine hK _ ?_
    clear hK K
    refine wpMix_s (fun K hK => ?_)
    go_simp
    refine hK _ ?_
    clear hK K
    refine wpMix_s (fun K hK => ?_)
    go_simp
    refine hK _ ?_
    clear hK K
    refine wpMix_s (fun K hK => ?_)
    go_simp
    refine hK _ ?_
    clear hK K
    refine wpMix_s (fun K hK => ?_)
    go_simp
    refine hK _ ?_
    clear hK K
    refine wpMix_c (fun K hK => ?_) hS
    go_simp
    refine (HL.out V0 (hb1.trans (hS.mono hb1.size))).mono ?_
    rintro e V0_1 ⟨rfl, hb'⟩
    refine hK _ _ ?_
    clear hK K
    replace hS := hS.trans (hb'.mono hS.size)
    refine ⟨hS, ?_⟩
    clear hb'
    refine wpMix_c (fun K hK => ?_) hS
    go_simp
    refine (HR.out V0_1 (hb1.trans (hS.mono hb1.size))).mono ?_
    rintro e V0_2 ⟨rfl, hb'⟩
    refine hK _ _ ?_
    clear hK K
    replace hS := hS.trans (hb'.mono hS.size)
    refine ⟨hS, ?_⟩
    clear hb'
    refine wpMix_c (fun K hK => ?_) hS
    go_simp
    refine (HN.out V0_2).mono ?_
    rintro e V0_3 ⟨rfl, hb'⟩
    refine hK _ _ ?_
    clear hK K
    replace hS := hS.trans (hb'.mono hS.size)
    refine ⟨hS, ?_⟩
    clear hb'
    refine wpMix_nil ?_
    intro _
    simp only [List.drop_succ_cons, List.drop_zero]
    have k4e := k4.step hS
    clear c30 c31
    go_wp2_with ((with_reducible show wpList _ _ _ (⟨none, .store _ _ _, _, _, _, _⟩ :: _) _ _); refine wpList_hset (.tmp 4) (.tmp 52) rfl rfl k4e rfl rfl Hr32.out ?_; intro w6 k4s hb6 he6; clear he6; simp only [Act.put])
    refine np_normal ?_
    go_wp2_with fail
    exact ⟨bodyPost_ret (ret_hash rfl rfl k4s) rfl ⟨rfl, (hb1.trans (hS.mono hb1.size)).trans (hb6.mono (by omega))⟩⟩
end Go.Proofs.YtfhmjgkcpcnkbaaDoor
