/- notaryref13.Root, deep, up. -/
import Derived.Test.YtonidnfgneokbaaQd121
namespace Go.Proofs.Ytonidnfgneokbaa
open Go Go.RowKit Go.Shelf
attribute [local go_sem] Oper.semAt_some

theorem wayF_le (st rt : Nat → Nat → Bool) : ∀ f s n, (wayF st rt f s n).length ≤ f
  | 0, _, _ => Nat.le_refl _
  | f + 1, s, n => by
    rw [wayF_s]
    split
    · exact Nat.zero_le _
    · split
      · have := wayF_le st rt f (s - splitN n) (n - splitN n); rw [List.length_cons]; omega
      · have := wayF_le st rt f s (splitN n); rw [List.length_cons]; omega
set_option maxHeartbeats 4000000 in
set_option maxRecDepth 100000 in
theorem rroot13_rec (kd : Int) (D : Nat) : ∀ (ls : List (List UInt8)) (A : Option Addr) (n c : Nat) (w : World), n ≤ D → Es w (fun _ => True) A n c ls → n ≤ 1099511627776 → (∀ x ∈ ls, x.length ≤ 1000000000) →
    Calls Try.prog 36 #[.int .i64 kd, .slice A n c] w fun e w' => e = .returned (.agg ((rootA (hashK kd) ls).map B).toArray) ∧ Below w.heap.size w w' := by
  induction D with
  | zero => ?z
  | succ D ih => ?s
  all_goals
    intro ls A n c w hD h hn hx
    have hlen := h.len
    have hroom := h.room
    have hmx := h.max
    unfold maxLen at hmx
    have hlr := length_rootA (hashK kd) (length_hashK kd) ls
  case z =>
    obtain rfl : n = 0 := by omega
    obtain rfl : ls = [] := List.length_eq_zero_iff.1 hlen
    rw [rootA_nil] at hlr ⊢
    have hcall := rhash13_any kd [] none 0 0
    obtain ⟨r, hr⟩ : ∃ r, hashK kd [] = r := ⟨_, rfl⟩
    rw [hr] at hlr hcall ⊢
    have Hlr := Lib.hid hlr
    have Hcall := Lib.hid hcall
    clear hr hcall hlr hx h
    go_enter Try.func36, Try.ntmps36
    go_wp2_with ((with_reducible show wpList _ _ _ (⟨some 4, .alloc _, _, _, _, _⟩ :: _) _ _); refine wpList_hnew rfl rfl ?_; intro w1 k4 hb1; simp only [Act.put])
    refine (Hcall.out w1 Sl.nil (by decide)).mono ?_
    rintro e w2 ⟨rfl, hb2⟩
    replace k4 := k4.step hb2
    go_wp2_with ((with_reducible show wpList _ _ _ [⟨none, .store _ _ _, _, _, _, _⟩] _ _); refine wpList_hset2 (.tmp 4) (.tmp 11) rfl rfl k4 rfl rfl Hlr.out ?_; intro w3 k4s hb3 _; simp only [Act.put])
    exact bodyPost_ret (ret_hash rfl rfl k4s) rfl ⟨rfl, (hb1.trans (hb2.mono hb1.size)).trans hb3⟩
  case s =>
    by_cases h0 : n = 0
    · subst h0
      obtain rfl : ls = [] := List.length_eq_zero_iff.1 hlen
      rw [rootA_nil] at hlr ⊢
      clear ih
      have hcall := rhash13_any kd [] none 0 0
      obtain ⟨r, hr⟩ : ∃ r, hashK kd [] = r := ⟨_, rfl⟩
      rw [hr] at hlr hcall ⊢
      have Hlr := Lib.hid hlr
      have Hcall := Lib.hid hcall
      clear hr hcall hlr hx h
      go_enter Try.func36, Try.ntmps36
      go_wp2_with ((with_reducible show wpList _ _ _ (⟨some 4, .alloc _, _, _, _, _⟩ :: _) _ _); refine wpList_hnew rfl rfl ?_; intro w1 k4 hb1; simp only [Act.put])
      refine (Hcall.out w1 Sl.nil (by decide)).mono ?_
      rintro e w2 ⟨rfl, hb2⟩
      replace k4 := k4.step hb2
      go_wp2_with ((with_reducible show wpList _ _ _ [⟨none, .store _ _ _, _, _, _, _⟩] _ _); refine wpList_hset2 (.tmp 4) (.tmp 11) rfl rfl k4 rfl rfl Hlr.out ?_; intro w3 k4s hb3 _; simp only [Act.put])
      exact bodyPost_ret (ret_hash rfl rfl k4s) rfl ⟨rfl, (hb1.trans (hb2.mono hb1.size)).trans hb3⟩
    by_cases h1 : n = 1
    · subst h1
      rw [rootA_one (hashK kd) ls hlen] at hlr ⊢
      obtain ⟨b, o, rfl, hbb, -, hat⟩ := (h.weak (Y := (· < w.heap.size)) fun b hb _ => hb).at_ (by omega)
      obtain ⟨Ai, ci, hc, hsl⟩ := hat 0 (by omega)
      have hxl : (ls.getD 0 []).length ≤ 1000000000 := hx _ (by rw [List.getD_eq_getElem?_getD, List.getElem?_eq_getElem (by omega)]; exact List.getElem_mem _)
      obtain ⟨e1, he1⟩ : ∃ e, ls.getD 0 [] = e := ⟨_, rfl⟩
      rw [he1] at hlr hc hsl hxl ⊢
      obtain ⟨m, hm⟩ : ∃ m, e1.length = m := ⟨_, rfl⟩
      rw [hm] at hc hsl hxl
      have hlf := fun W (hs : Sl W (fun _ => True) Ai m ci e1) => rleaf_any e1 Ai m ci W hs (by omega)
      have hll : (leafD e1).length = m + 1 := by simp [leafD, hm]
      obtain ⟨q, hq⟩ : ∃ q, leafD e1 = q := ⟨_, rfl⟩
      rw [hq] at hlr hlf hll ⊢
      have hcall := fun A n c W h => rhash13_any kd q A n c W h
      obtain ⟨r, hr⟩ : ∃ r, hashK kd q = r := ⟨_, rfl⟩
      rw [hr] at hlr hcall ⊢
      have Hlr := Lib.hid hlr
      have Hlf := Lib.hid hlf
      have Hll := Lib.hid hll
      have Hcall := Lib.hid hcall
      clear ih hlen he1 hm hlf hll hq hcall hr hlr hat hx
      go_enter Try.func36, Try.ntmps36
      go_wp2_with ((with_reducible show wpList _ _ _ (⟨some 4, .alloc _, _, _, _, _⟩ :: _) _ _); refine wpList_hnew rfl rfl ?_; intro w1 k4 hb1; have c1 : w1.cell? ⟨b, o, none⟩ = some (.slice Ai m ci) := (by rw [hb1.cell (p := ⟨b, o, none⟩) hbb]; exact hc); simp only [Act.put])
      refine (Hlf.out w1 ((hsl.step hb1).all)).mono ?_
      rintro e w2 ⟨v8, rfl, hf⟩
      obtain ⟨A8, c8, rfl, hs8⟩ := hf.sl
      replace hs8 := hs8.all
      rw [Hll.out] at hs8 ⊢
      replace k4 := k4.step hf.2
      have hb2 := hb1.trans (hf.2.mono hb1.size)
      clear hf
      go_wp2_with fail
      refine (Hcall.out A8 (m + 1) c8 w2 hs8 (by omega)).mono ?_
      rintro e w3 ⟨rfl, hb'⟩
      replace k4 := k4.step hb'
      have hb3 := hb2.trans (hb'.mono hb2.size)
      clear hb'
      go_wp2_with ((with_reducible show wpList _ _ _ [⟨none, .store _ _ _, _, _, _, _⟩] _ _); refine wpList_hset2 (.tmp 4) (.tmp 19) rfl rfl k4 rfl rfl Hlr.out ?_; intro w4 k4s hb4 _; simp only [Act.put])
      exact bodyPost_ret (ret_hash rfl rfl k4s) rfl ⟨rfl, hb3.trans hb4⟩
    · have h2 : 2 ≤ n := by omega
      have hkl := splitN_lt n h2
      have hkp := splitN_pos n h2
      rw [rootA_more (hashK kd) ls (by omega), hlen] at hlr ⊢
      have hsp := fun W => rsplit_any (n : Int) W (by omega)
      rw [Int.toNat_natCast] at hsp
      obtain ⟨k, hk⟩ : ∃ k, splitN n = k := ⟨_, rfl⟩
      rw [hk] at hlr hsp hkl hkp ⊢
      have r1 := fun W (hs : Es W (fun _ => True) A k c (ls.take k)) => ih (ls.take k) A k c W (by omega) hs (by omega) (fun x hx' => hx x (List.mem_of_mem_take hx'))
      have r2 := fun A n' c W (hs : Es W (fun _ => True) A n' c (ls.drop k)) (hl : n' ≤ D) (hl' : n' ≤ 1099511627776) => ih (ls.drop k) A n' c W hl hs hl' (fun x hx' => hx x (List.mem_of_mem_drop hx'))
      have l1 := length_rootA (hashK kd) (length_hashK kd) (ls.take k)
      have l2 := length_rootA (hashK kd) (length_hashK kd) (ls.drop k)
      have ht1 := (h.weak (Y := (· < w.heap.size)) fun b hb _ => hb).take k (by omega)
      have ht2 := (h.weak (Y := (· < w.heap.size)) fun b hb _ => hb).drop k (by omega)
      obtain ⟨A2, hA2⟩ : ∃ A2, (if c = k then A else A.map (·.add (k * 1))) = A2 := ⟨_, rfl⟩
      rw [hA2] at ht2
      have HA2 := Lib.hid hA2
      clear hA2
      obtain ⟨x, hx1⟩ : ∃ x, rootA (hashK kd) (ls.take k) = x := ⟨_, rfl⟩
      obtain ⟨y, hy1⟩ : ∃ y, rootA (hashK kd) (ls.drop k) = y := ⟨_, rfl⟩
      rw [hx1] at r1 l1 hlr ⊢
      rw [hy1] at r2 l2 hlr ⊢
      have hnd := fun W => rnode13_any x y W l1 l2
      have hnl : (nodeD (x, y)).length = 65 := by simp [nodeD, l1, l2]
      obtain ⟨q, hq⟩ : ∃ q, nodeD (x, y) = q := ⟨_, rfl⟩
      rw [hq] at hlr hnd hnl ⊢
      have hcall := fun A n c W h => rhash13_any kd q A n c W h
      obtain ⟨r, hr⟩ : ∃ r, hashK kd q = r := ⟨_, rfl⟩
      rw [hr] at hlr hcall ⊢
      have Hlr := Lib.hid hlr
      have Hsp := Lib.hid hsp
      have R1 := Lib.hid r1
      have R2 := Lib.hid r2
      have Hnd := Lib.hid hnd
      have Hnl := Lib.hid hnl
      have Hcall := Lib.hid hcall
      clear ih hlen hlr hsp hk r1 r2 l1 l2 hx1 hy1 hnd hr hx hcall hnl hq
      have he0 : ((n : Int) == 0) = false := by simp; omega
      have he1 : ((n : Int) == 1) = false := by simp; omega
      go_enter Try.func36, Try.ntmps36
      go_wp2_with ((with_reducible show wpList _ _ _ (⟨some 4, .alloc _, _, _, _, _⟩ :: _) _ _); refine wpList_hnew rfl rfl ?_; intro w1 k4 hb1; simp only [Act.put])
      refine (Hsp.out w1).mono ?_
      rintro e w1' ⟨rfl, rfl⟩
      obtain ⟨g4, hg4⟩ : ∃ g, w.heap.size = g := ⟨_, rfl⟩
      rw [hg4] at k4 ⊢
      have hS : Below g4 w1 w1.drew := (Below.refl _ _).drew
      have hg41 := k4.lt
      have hg4s : w.heap.size ≤ g4 := by omega
      replace ht1 := ht1.step hb1
      replace ht2 := ht2.step hb1
      go_wp2_with fail
      refine wp_region_mix (fun W => Below g4 w1 W) [(0, true), (1, true), (2, true), (3, true), (4, true), (6, true), (7, true), (8, true), (9, true), (5, false), (10, false), (11, false), (12, false), (13, false)] (by kernel_rfl) (by kernel_rfl) hS fun _ => ?_
      simp only [List.map_cons, List.map_nil, Array.getD_eq_getD_getElem?, List.getElem?_toArray, List.getElem?_cons_succ, List.getElem?_cons_zero, Option.getD_some]
      have hsd : w1.drew.heap.size = w1.heap.size := rfl
      replace k4 := k4.drew
      generalize w1.drew = u9 at hS k4 hsd ⊢
      refine wpMix_s (fun K hK => ?_)
      go_simp
      refine hK _ ?_
      clear hK K
      refine wpMix_s (fun K hK => ?_)
      go_simp
      refine hK _ ?_
      clear hK K
      refine wpMix_s (fun K hK => ?_)
      go_simp
      refine hK _ ?_
      clear hK K
      refine wpMix_s (fun K hK => ?_)
      go_simp
      refine hK _ ?_
      clear hK K
      refine wpMix_v (by kernel_rfl) (.slice A k c) (fun s => run_slice_hiB (.tmp 25) (.tmp 26) rfl A n c k rfl rfl (by omega) s.W) ?_
      simp only [Act.put]
      refine wpMix_s (fun K hK => ?_)
      go_simp
      refine hK _ ?_
      clear hK K
      refine wpMix_s (fun K hK => ?_)
      go_simp
      refine hK _ ?_
      clear hK K
      refine wpMix_s (fun K hK => ?_)
      go_simp
      refine hK _ ?_
      clear hK K
      refine wpMix_v (by kernel_rfl) (.slice A2 (n - k) (c - k)) (fun s => by rw [← HA2.out]; exact run_slice_loB (.tmp 30) (.tmp 31) rfl A n c k rfl rfl (by omega) s.W) ?_
      simp only [Act.put]
      have hz9 := hS.size
      refine wpMix_c (fun K hK => ?_) hS
      go_simp
      refine (R1.out u9 ((ht1.below hS (fun b _ hx => Nat.lt_of_lt_of_le hx hg4s)).all)).mono ?_
      rintro e u9a ⟨rfl, hb'⟩
      refine hK _ _ ?_
      clear hK K
      have hz8 := hb'.size
      replace k4 := k4.step hb'
      replace hS := hS.trans (hb'.mono (by omega))
      refine ⟨hS, ?_⟩
      clear hb' hz9
      have hz9 := hS.size
      refine wpMix_c (fun K hK => ?_) hS
      go_simp
      refine (R2.out _ _ _ u9a ((ht2.below hS (fun b _ hx => Nat.lt_of_lt_of_le hx hg4s)).all) (by omega) (by omega)).mono ?_
      rintro e u9aa ⟨rfl, hb'⟩
      refine hK _ _ ?_
      clear hK K
      have hz8 := hb'.size
      replace k4 := k4.step hb'
      replace hS := hS.trans (hb'.mono (by omega))
      refine ⟨hS, ?_⟩
      clear hb' hz9
      have hz9 := hS.size
      refine wpMix_c (fun K hK => ?_) hS
      go_simp
      refine (Hnd.out u9aa).mono ?_
      rintro e u9aaa ⟨v8, rfl, hf⟩
      refine hK _ _ ?_
      clear hK K
      have hz8 := hf.2.size
      replace k4 := k4.step hf.2
      replace hS := hS.trans (hf.2.mono (by omega))
      refine ⟨hS, ?_⟩
      obtain ⟨A8, c8, rfl, hs8⟩ := hf.sl
      replace hs8 := hs8.all
      rw [Hnl.out] at hs8 ⊢
      clear hf hz9
      have hz9 := hS.size
      refine wpMix_c (fun K hK => ?_) hS
      go_simp
      refine (Hcall.out A8 65 c8 u9aaa hs8 (by decide)).mono ?_
      rintro e u9aaaa ⟨rfl, hb'⟩
      refine hK _ _ ?_
      clear hK K
      have hz8 := hb'.size
      replace k4 := k4.step hb'
      replace hS := hS.trans (hb'.mono (by omega))
      refine ⟨hS, ?_⟩
      clear hb' hz9
      clear hs8
      refine wpMix_hset (.tmp 4) (.tmp 35) rfl rfl k4 rfl rfl Hlr.out (fun _ hb => hS.trans (hb.mono (Nat.le_refl _))) ?_
      intro u9_1 k4s hb' hoth
      simp only [Act.put]
      replace hS := hS.trans (hb'.mono (Nat.le_refl _))
      clear hb' hoth
      refine wpMix_nil ?_
      intro _
      go_wp2_with fail
      exact bodyPost_ret (ret_hash rfl rfl k4s) rfl ⟨rfl, hb1.trans (hS.mono (by omega))⟩

set_option maxHeartbeats 2000000 in
theorem rdeep13_rec (D : Nat) : ∀ (i n : Nat) (w : World), n ≤ D → 1 ≤ n → i < n → n ≤ 1099511627776 →
    Calls Try.prog 75 #[.int .i64 (i : Int), .int .i64 (n : Int)] w fun e w' => e = .returned (.int .i64 ((wayI i n).length : Int)) ∧ w' = w := by
  induction D with
  | zero => intro i n w h h1; omega
  | succ D ih =>
    intro i n w hD h1 hi hn
    by_cases hn1 : n = 1
    · subst hn1
      obtain rfl : i = 0 := by omega
      go_enter Try.func75, Try.ntmps75
      go_wp2_with fail
      go_ret
      exact ⟨rfl, rfl⟩
    · have h2 : 2 ≤ n := by omega
      have hkl := splitN_lt n h2
      have hkp := splitN_pos n h2
      have hsp := rsplit_any (n : Int) w (by omega)
      rw [Int.toNat_natCast] at hsp
      have hlt : decide ((n : Int) < 2) = false := by simp; omega
      have hwr := fun (hk : splitN n ≤ i) => wayI_right i n h2 hi hk
      have hwl := fun (hk : i < splitN n) => wayI_left i n h2 hk
      have wl : ∀ (a b : Nat), (wayI a b).length ≤ b := fun a b => wayF_le _ _ b a b
      obtain ⟨k, hk⟩ : ∃ k, splitN n = k := ⟨_, rfl⟩
      rw [hk] at hsp hkl hkp hwr hwl
      have Hsp := Lib.hid hsp
      by_cases hik : i < k
      · have hd : decide ((i : Int) < (k : Int)) = true := by simp; omega
        have ih1 := ih i k w (by omega) (by omega) hik (by omega)
        have e := hwl hik
        rw [e]
        have hl := wl i k
        obtain ⟨L, hL⟩ : ∃ L, (wayI i k).length = L := ⟨_, rfl⟩
        rw [List.length_cons, hL]
        rw [hL] at ih1 hl
        have hww : IntKind.i64.wrap (1 + (L : Int)) = 1 + (L : Int) := IntWalk.i64_in _ (by omega)
        have Hih := Lib.hid ih1
        clear ih ih1 hsp e hwr hwl hk wl hL
        go_enter Try.func75, Try.ntmps75
        go_wp2_with (first
          | (go_at_call 77; refine Hsp.out.mono ?_; rintro e w1 ⟨rfl, rfl⟩)
          | (go_at_call 75; refine Hih.out.mono ?_; rintro e w1 ⟨rfl, hw⟩; obtain rfl := hw.symm))
        go_ret
        exact ⟨by show Ending.returned (Value.int .i64 (1 + (L : Int))) = _; rw [show (1 + (L : Int)) = ((L + 1 : Nat) : Int) by omega], rfl⟩
      · have hd : decide ((i : Int) < (k : Int)) = false := by simp; omega
        have ih1 := ih (i - k) (n - k) w (by omega) (by omega) (by omega) (by omega)
        rw [show ((i - k : Nat) : Int) = (i : Int) - k by omega, show ((n - k : Nat) : Int) = (n : Int) - k by omega] at ih1
        have hw1 : IntKind.i64.wrap ((i : Int) - (k : Int)) = (i : Int) - k := IntWalk.i64_in _ (by omega)
        have hw2 : IntKind.i64.wrap ((n : Int) - (k : Int)) = (n : Int) - k := IntWalk.i64_in _ (by omega)
        have e := hwr (by omega)
        rw [e]
        have hl := wl (i - k) (n - k)
        obtain ⟨L, hL⟩ : ∃ L, (wayI (i - k) (n - k)).length = L := ⟨_, rfl⟩
        rw [List.length_cons, hL]
        rw [hL] at ih1 hl
        have hww : IntKind.i64.wrap (1 + (L : Int)) = 1 + (L : Int) := IntWalk.i64_in _ (by omega)
        have Hih := Lib.hid ih1
        clear ih ih1 hsp e hwr hwl hk wl hL
        go_enter Try.func75, Try.ntmps75
        go_wp2_with (first
          | (go_at_call 77; refine Hsp.out.mono ?_; rintro e w1 ⟨rfl, rfl⟩)
          | (go_at_call 75; refine Hih.out.mono ?_; rintro e w1 ⟨rfl, hw⟩; obtain rfl := hw.symm))
        go_ret
        exact ⟨by show Ending.returned (Value.int .i64 (1 + (L : Int))) = _; rw [show (1 + (L : Int)) = ((L + 1 : Nat) : Int) by omega], rfl⟩
end Go.Proofs.Ytonidnfgneokbaa
