/- notarylaw12.ConsShows. -/
import Derived.Test.YtgcbdnoniikboaaQa30
namespace Go.Proofs.Ytgcbdnoniikboaa
open Go Go.RowKit

/-- a byte of a hash is made another -/
def bumpL (l : List UInt8) (j : Nat) : List UInt8 := l.set j (l.getD j 0 + 1)
theorem length_bumpL (l : List UInt8) (j : Nat) : (bumpL l j).length = l.length := by simp [bumpL]
theorem u8_succ (b : UInt8) : b + 1 ≠ b := by
  intro h
  have := congrArg UInt8.toNat h
  rw [UInt8.toNat_add] at this
  have h1 := b.toNat_lt
  simp at this
  omega
theorem bumpL_ne (l : List UInt8) (j : Nat) (h : j < l.length) : bumpL l j ≠ l := by
  intro e
  have := congrArg (·[j]?) e
  simp only [bumpL] at this
  rw [List.getElem?_set_self h, List.getD_eq_getElem?_getD, List.getElem?_eq_getElem h] at this
  exact u8_succ _ (Option.some.inj this)
theorem B_succ (b : UInt8) : Value.int .u8 (IntKind.u8.wrap ((b.toNat : Int) + 1)) = B (b + 1) := by
  unfold B
  rw [IntKind.wrap_u8, UInt8.toNat_add]
  rfl
theorem HV.cell {W : World} {g : Nat} {l : List UInt8} (h : HV W g l) (j : Nat) (hj : j < l.length) : W.cell? ⟨g, j, none⟩ = some (.int .u8 ((l.getD j 0).toNat : Int)) := by
  rw [h.blk.cell, List.getElem?_toArray, List.getElem?_map, List.getElem?_eq_getElem hj, List.getD_eq_getElem?_getD, List.getElem?_eq_getElem hj]
  rfl
theorem HV.setCell {W : World} {g : Nat} {l : List UInt8} (h : HV W g l) (j : Nat) (y : UInt8) : HV (W.setCell ⟨g, j, none⟩ (B y)) g (l.set j y) :=
  ⟨by have := h.blk.set_ j (B y); rwa [show (l.map B).toArray.setIfInBounds j (B y) = ((l.set j y).map B).toArray by simp [List.map_set]] at this, by rw [List.length_set]; exact h.len⟩
theorem HV.apart {W : World} {g g' j : Nat} {l : List UInt8} {v : Value} (h : HV W g' l) (hne : g' ≠ g) : HV (W.setCell ⟨g, j, none⟩ v) g' l := ⟨h.blk.apart hne _, h.len⟩
theorem bump_world {w : World} {g j : Nat} {l : List UInt8} (F : World → Prop) (k : HV w g l) (v : UInt8) (hv : l.getD j 0 = v) (h : ∀ W, HV W g (bumpL l j) → Below g w W → (∀ g' m', g' ≠ g → HV w g' m' → HV W g' m') → F W) : F (w.setCell ⟨g, j, none⟩ (.int .u8 (IntKind.u8.wrap ((v.toNat : Int) + 1)))) := by
  rw [B_succ, ← hv]
  exact h _ (k.setCell j _) (below_of_grownBy (grown_setCell (grown_of_below (Below.refl _ _) _) j _) (Nat.le_refl _) (Nat.le_of_lt k.lt)) (fun g' m' hne hk => hk.apart hne)
theorem Hs.far {n' : Nat} {w W : World} {A : Option Addr} {n c k : Nat} {hs : List (List UInt8)} (h : Hs w (· < n') A n c hs) (hb : Below k w W) (hk : n' ≤ k) : Hs W (· < n') A n c hs := ⟨h.sl.below hb (fun _ _ hx => Nat.lt_of_lt_of_le hx hk), h.len, h.all⟩

/-- a row of one's own, of hashes -/
theorem owns_not_ptr {W : World} {N n g : Nat} {t : TypeId} {s : Nat} {l : List Value} (h : W.ownsRow N t s (ptrB g) n l) : False := by
  rcases h.2 with ⟨hv, _⟩ | ⟨g', cap, cur, hv, _⟩ <;> cases hv
def Fc.row (N n : Nat) (l : List (List UInt8)) : Fc := ⟨fun v W => W.ownsRow N 34 32 v n (hcells l), fun _ _ _ h hb => owns_step h hb, fun _ _ h => (owns_not_ptr h).elim⟩
def Fc.lit (n : Nat) (l : List (List UInt8)) : Fc := ⟨fun v W => ∃ A c, v = .slice A n c ∧ Hs W (fun _ => True) A n c l, fun _ _ _ ⟨A, c, h1, h2⟩ hb => ⟨A, c, h1, h2.step hb⟩, fun _ _ ⟨_, _, h, _⟩ => by cases h⟩
set_option maxHeartbeats 4000000 in
set_option maxRecDepth 100000 in
theorem consshows_any (hs : List (List UInt8)) (A : Option Addr) (ln c : Nat) (w : World) (zk zb : Int) (h : Hs w (· < w.heap.size) A ln c hs) :
    Calls Try.prog 11 #[.slice A ln c, .int .i64 zk, .int .i64 zb] w fun e w' => e = .returned (.bool true) ∧ Below w.heap.size w w' := by
  by_cases hbig : 100 < ln
  · have hd : decide ((100 : Int) < (ln : Int)) = true := by simp; omega
    clear h
    go_enter Try.func11, Try.ntmps11
    go_wp2_with (go_at_call 39; refine (known12_any _).mono ?_; rintro e w2 ⟨rfl, hb2⟩)
    go_ret
    exact ⟨rfl, hb2⟩
  have hd : decide ((100 : Int) < (ln : Int)) = false := by simp; omega
  by_cases hz : ln = 0
  · subst hz
    clear h
    go_enter Try.func11, Try.ntmps11
    go_wp2_with (go_at_call 39; refine (known12_any _).mono ?_; rintro e w2 ⟨rfl, hb2⟩)
    go_ret
    exact ⟨rfl, hb2⟩
  have hd0 : ((ln : Int) == 0) = false := by simp; omega
  obtain ⟨hm1, hm2⟩ := tmod_range zk ln
  have hl : ln ≤ 100 := by omega
  have hw1 : IntKind.i64.wrap ((ln : Int) + 1) = (ln : Int) + 1 := IntWalk.i64_in _ (by omega)
  obtain ⟨k, hk, hkn⟩ := rem_nat zk ln
  have Hk := Lib.hid hk
  have hroom := h.sl.room
  have hmx := h.sl.max
  unfold maxLen at hmx
  have hlen := h.len
  have hall := h.all
  have Hh := Lib.hid h
  have Hall := Lib.hid hall
  have Hlen := Lib.hid hlen
  clear hbig h hk hlen hall
  go_enter Try.func11, Try.ntmps11
  go_upto_region 5 with fail
  rw [Hk.out]
  clear hm1 hm2 hw1
  have hlk := (Hh.out.take k hkn)
  have ck0 := checkE_taken hs k (by rw [Hlen.out]; omega)
  have ef := stepsA_fine k hs.length (by rw [Hlen.out]; omega)
  rw [Hlen.out] at ck0
  have hof1 := fun W (hb : Below w.heap.size w W) => rof_any (hs.take k) A k c W ((hlk.step hb).weak fun _ _ _ => trivial) (by omega)
  have hof2 := fun W (hb : Below w.heap.size w W) => rof_any hs A ln c W ((Hh.out.step hb).weak fun _ _ _ => trivial) (by omega)
  have hpr := fun W (hb : Below w.heap.size w W) => cprove_any hs A ln c W k ((Hh.out.step hb).weak fun _ _ _ => trivial) (by omega)
  rw [ef] at hpr
  have hp32 := rootsS_all hs Hall.out k
  have hpl : (rootsS hs k).length ≤ 64 := by rw [length_rootsS]; exact stepsA_len k _ (by rw [Hlen.out]; omega)
  have hal := length_rootL (hs.take k) (Hall.out.take k)
  have hbl := length_rootL hs Hall.out
  have hnp0 : k = 0 → (rootsS hs k).length = 0 := fun e => by
    rw [length_rootsS, e, show ((0 : Nat) : Int) = 0 from rfl, stepsA_none]
    rfl
  have ck1 := fun (h1 : 1 ≤ k) y hy => checkE_second hs k h1 (by rw [Hlen.out]; omega) y hy
  have ck2 := fun (h1 : 1 ≤ k) x y (p : List (List UInt8)) hp => checkE_length k hs.length h1 (by rw [Hlen.out]; omega) x y p hp
  have ck3 := fun (h1 : 1 ≤ k) x hx hp => checkE_first hs k h1 (by rw [Hlen.out]; omega) x hx hp
  have cbo := fun (h1 : 1 ≤ k) => bothE_roots hs k h1 (by rw [Hlen.out]; omega)
  rw [← length_rootsS] at ck2
  rw [Hlen.out] at ck1 ck2 ck3 cbo
  obtain ⟨p, hp⟩ : ∃ r, rootsS hs k = r := ⟨_, rfl⟩
  obtain ⟨a, ha⟩ : ∃ r, rootL (hs.take k) = r := ⟨_, rfl⟩
  obtain ⟨b, hb⟩ : ∃ r, rootL hs = r := ⟨_, rfl⟩
  rw [hp] at ck0 ck1 ck2 ck3 cbo hpr hp32 hpl hnp0
  rw [ha] at ck0 ck1 ck3 cbo hof1 hal
  rw [hb] at ck0 ck1 ck3 cbo hof2 hbl
  obtain ⟨np, hnp⟩ : ∃ k, p.length = k := ⟨_, rfl⟩
  rw [hnp] at hpr hpl hnp0 ck2
  have hc0 := fun A c W (h : Hs W (fun _ => True) A np c p) => ccheck_any k ln a b p A np c W (by omega) hal hbl h
  rw [ck0] at hc0
  have Hal := Lib.hid hal
  have Hbl := Lib.hid hbl
  have Hnp := Lib.hid hnp
  have Hp32 := Lib.hid hp32
  have Hof1 := Lib.hid hof1
  have Hof2 := Lib.hid hof2
  have Hpr := Lib.hid hpr
  have Hc0 := Lib.hid hc0
  have Ck1 := Lib.hid ck1
  have Ck2 := Lib.hid ck2
  have Ck3 := Lib.hid ck3
  have Cbo := Lib.hid cbo
  have hd64 : decide ((64 : Int) < (np : Int)) = false := by simp; omega
  clear ck0 ck1 ck2 ck3 cbo ef hlk hof1 hof2 hpr hp32 hal hbl hnp hc0 hp ha hb Hh Hall Hlen Hk
  have hS : Below w.heap.size w w := Below.refl _ _
  go_wp2_with ((with_reducible show wpList _ _ _ (⟨some 42, .slice _ _ _ _ _, _, _, _, _⟩ :: _) _ _); refine wpList_run0 rfl (.slice A k c) (run_slice_op_hi (.tmp 40) (.tmp 41) rfl A ln c k rfl rfl (by omega) _) ?_; simp only [Act.put])
  refine (Hof1.out w hS).mono ?_
  rintro e W1 ⟨rfl, hb'⟩
  replace hS := hS.trans (hb'.mono hS.size)
  clear hb' Hof1
  go_wp2_with fail
  refine (Hof2.out W1 hS).mono ?_
  rintro e W2 ⟨rfl, hb'⟩
  replace hS := hS.trans (hb'.mono hS.size)
  clear hb' Hof2
  go_wp2_with (first
    | ((with_reducible show wpList _ _ _ (⟨some 9, .alloc _, _, _, _, _⟩ :: _) _ _); refine wpList_hnew rfl rfl ?_; intro W3 k9 hb'; simp only [Act.put]; have hge9 := hS.size; have hlt9 := k9.lt; replace hS := hS.trans (hb'.mono hS.size); clear hb')
    | ((with_reducible show wpList _ _ _ (⟨some 10, .alloc _, _, _, _, _⟩ :: _) _ _); refine wpList_hnew rfl rfl ?_; intro W4 k10 hb'; simp only [Act.put]; have hge10 := hS.size; have hlt10 := k10.lt; replace k9 := k9.step hb'; replace hS := hS.trans (hb'.mono hS.size); clear hb')
    | ((with_reducible show wpList _ _ _ (⟨none, .store _ (.tmp 9) _, _, _, _, _⟩ :: _) _ _); refine wpList_hset2 (.tmp 9) (.tmp 43) rfl rfl k9 rfl rfl Hal.out ?_; intro W5 k9' hb' hoth; simp only [Act.put]; replace k10 := hoth _ _ (by omega) k10; replace hS := hS.trans (hb'.mono (by omega)); clear hb' hoth)
    | ((with_reducible show wpList _ _ _ (⟨none, .store _ (.tmp 10) _, _, _, _, _⟩ :: _) _ _); refine wpList_hset2 (.tmp 10) (.tmp 45) rfl rfl k10 rfl rfl Hbl.out ?_; intro W6 k10' hb' hoth; simp only [Act.put]; replace k9' := hoth _ _ (by omega) k9'; replace hS := hS.trans (hb'.mono (by omega)); clear hb' hoth))
  generalize W2.heap.size = g9 at *
  generalize W3.heap.size = g10 at *
  clear k9 k10
  have k9 := k9'
  have k10 := k10'
  clear k9' k10'
  refine (Hpr.out W6 hS).mono ?_
  rintro e W7 ⟨vp, rfl, ho, hb'⟩
  replace hS := hS.trans (hb'.mono hS.size)
  obtain ⟨Ap, cp, rfl, hp⟩ := Hs.of_owns ho Hnp.out Hp32.out
  replace hp := hp.weak (Y := (· < W7.heap.size)) fun b hb _ => hb
  have hpr := hp.sl.room
  have hpm := hp.sl.max
  unfold maxLen at hpm
  replace k9 := k9.step hb'
  replace k10 := k10.step hb'
  clear hb' ho Hpr
  go_wp2_with (first
    | ((with_reducible show wpList _ _ _ (⟨some 62, .load _ _, _, _, _, _⟩ :: _) _ _); refine wpList_hload (.tmp 9) (by kernel_rfl) rfl k9 rfl ?_; simp only [Act.put])
    | ((with_reducible show wpList _ _ _ (⟨some 63, .load _ _, _, _, _, _⟩ :: _) _ _); refine wpList_hload (.tmp 10) (by kernel_rfl) rfl k10 rfl ?_; simp only [Act.put]))
  refine (Hc0.out Ap cp W7 (hp.weak fun _ _ _ => trivial)).mono ?_
  rintro e W8 ⟨rfl, hb'⟩
  replace hS := hS.trans (hb'.mono hS.size)
  replace hp := hp.step hb'
  replace k9 := k9.step hb'
  replace k10 := k10.step hb'
  have hs8 := hb'.size
  clear hb' Hc0
  by_cases hk0 : k = 0
  · have hn0 := hnp0 hk0
    have hke : ((k : Int) == 0) = true := by simp; omega
    have hne : ((np : Int) == 0) = true := by simp; omega
    have Hk0 := Lib.hid hk0
    have Hn0 := Lib.hid hn0
    clear hk0 hn0 hnp0 hp k9 k10
    go_wp2_with (go_at_call 39; refine (known12_any _).mono ?_; rintro e W9 ⟨rfl, hb'⟩)
    go_ret
    exact ⟨rfl, hS.trans (hb'.mono hS.size)⟩
  have hke : ((k : Int) == 0) = false := by simp; omega
  have hl9 := k9.lt
  have hl10 := k10.lt
  clear hnp0
  obtain ⟨hm5, hm6⟩ := tmod_range zb 31
  rw [show (((31 : Nat) : Int) + 1) = 32 from rfl] at hm5 hm6
  obtain ⟨j, hj, hj32⟩ : ∃ j : Nat, (zb.tmod 32 + 32) % 32 = (j : Int) ∧ j < 32 := ⟨((zb.tmod 32 + 32) % 32).toNat, by omega, by omega⟩
  have Hj := Lib.hid hj
  clear hj
  obtain ⟨bj, hbj⟩ : ∃ v, b.getD j 0 = v := ⟨_, rfl⟩
  obtain ⟨aj, haj⟩ : ∃ v, a.getD j 0 = v := ⟨_, rfl⟩
  have Hbj := Lib.hid hbj
  have Haj := Lib.hid haj
  clear hbj haj
  go_wp2_with (first
    | ((with_reducible show wpList _ _ _ (⟨some 81, .indexAddr _ _ _, _, _, _, _⟩ :: _) _ _); rw [Hj.out])
    | ((with_reducible show wpList _ _ _ (⟨some 76, .load _ _, _, _, _, _⟩ :: _) _ _); refine wpList_hload (.tmp 10) (by kernel_rfl) rfl k10 rfl ?_; simp only [Act.put])
    | ((with_reducible show wpList _ _ _ (⟨some 13, .alloc _, _, _, _, _⟩ :: _) _ _); refine wpList_hnew rfl rfl ?_; intro W9 k13 hb'; simp only [Act.put]; have hge13 := hS.size; have hlt13 := k13.lt; replace k9 := k9.step hb'; replace k10 := k10.step hb'; replace hp := hp.step hb'; replace hS := hS.trans (hb'.mono hS.size); clear hb')
    | ((with_reducible show wpList _ _ _ (⟨none, .store _ (.tmp 13) _, _, _, _, _⟩ :: _) _ _); refine wpList_hset2 (.tmp 13) (.tmp 76) rfl rfl k13 rfl rfl Hbl.out ?_; intro W10 k13' hb' hoth; simp only [Act.put]; replace k9 := hoth _ _ (by omega) k9; replace k10 := hoth _ _ (by omega) k10; replace hp := hp.far hb' (by omega); replace hS := hS.trans (hb'.mono (by omega)); clear hb' hoth; have hc_bj := k13'.cell j (by have := Hbl.out; omega); rw [Hbj.out] at hc_bj; have hf_bj := k13'.blk.frozen j)
    | ((with_reducible show wpList _ _ _ (⟨some 85, .load _ _, _, _, _, _⟩ :: _) _ _); refine bump_world (fun W => wpList _ _ _ _ _ W) k13' _ Hbj.out ?_; intro W11 k13b hb' hoth; replace k9 := hoth _ _ (by omega) k9; replace k10 := hoth _ _ (by omega) k10; replace hp := hp.far hb' (by omega); replace hS := hS.trans (hb'.mono (by omega)); have hs11 := hb'.size; have hl13 := k13b.lt; have hlp := hs8; clear hb' hoth hc_bj hf_bj)
    | ((with_reducible show wpList _ _ _ (⟨some 85, .load _ _, _, _, _, _⟩ :: _) _ _); refine wpList_hload (.tmp 9) (by kernel_rfl) rfl k9 rfl ?_; simp only [Act.put])
    | ((with_reducible show wpList _ _ _ (⟨some 14, .alloc _, _, _, _, _⟩ :: _) _ _); refine wpList_hnew rfl rfl ?_; intro W12 k14 hb'; simp only [Act.put]; have hge14 := hS.size; have hlt14 := k14.lt; replace k9 := k9.step hb'; replace k10 := k10.step hb'; replace hp := hp.step hb'; replace k13b := k13b.step hb'; replace hS := hS.trans (hb'.mono hS.size); clear hb')
    | ((with_reducible show wpList _ _ _ (⟨none, .store _ (.tmp 14) _, _, _, _, _⟩ :: _) _ _); refine wpList_hset2 (.tmp 14) (.tmp 85) rfl rfl k14 rfl rfl Hal.out ?_; intro W13 k14' hb' hoth; simp only [Act.put]; replace k9 := hoth _ _ (by omega) k9; replace k10 := hoth _ _ (by omega) k10; replace hp := hp.far hb' (by omega); replace k13b := hoth _ _ (by omega) k13b; replace hS := hS.trans (hb'.mono (by omega)); clear hb' hoth; have hc_aj := k14'.cell j (by have := Hal.out; omega); rw [Haj.out] at hc_aj; have hf_aj := k14'.blk.frozen j)
    | ((with_reducible show wpList _ _ _ (⟨some 90, .indexAddr _ _ _, _, _, _, _⟩ :: _) _ _); rw [Hj.out]))
  refine bump_world (fun W => Code.wp _ _ _ _ W) k14' _ Haj.out ?_
  intro W14 k14b hb' hoth
  replace k9 := hoth _ _ (by omega) k9
  replace k10 := hoth _ _ (by omega) k10
  replace k13b := hoth _ _ (by omega) k13b
  replace hp := hp.far hb' (by omega)
  replace hS := hS.trans (hb'.mono (by omega))
  clear hb' hoth hc_aj hf_aj
  have Hk9 := Lib.hid k9
  have Hp := Lib.hid hp
  have ha32 : H32 [a] := fun h hh => by rw [List.mem_singleton.1 hh]; exact Hal.out
  have Ha32 := Lib.hid ha32
  have hpX := hs11
  clear k9 hp ha32
  have hT : Below (W14.heap.size) W14 W14.drew := (Below.refl _ _).drew
  refine wp_region_begin (fun W => Below (W14.heap.size) W14 W) (by kernel_rfl) hT fun _ => ?_
  generalize W14.drew = V at hT  ⊢
  refine wpAnyH_pre (f := 4) (by kernel_rfl) #[true, false, true, false, false, false] [(0, true), (2, true)] _ _ _ (by kernel_rfl) hT ?_
  simp only [List.map_cons, List.map_nil, Array.getD_eq_getD_getElem?, List.getElem?_toArray, List.getElem?_cons_succ, List.getElem?_cons_zero, Option.getD_some]
  refine wpMix_s (fun K hK => ?_)
  go_simp
  refine hK _ ?_
  clear hK K
  refine wpMix_load (by kernel_rfl) 34 (.tmp 9) rfl (g9) (0) rfl (a.map B).toArray (fun s => (Hk9.out.step s.ok).load) ?_
  simp only [Act.put]
  refine wpMix_nil ?_
  intro _
  show wpAnyH _ _ _ _ _ _ #[true, false, true, false, false, false] _ _
  refine wpAnyH_many [1, 3] (fun _ => []) (fun k => if k = 1 then 95 else if k = 3 then 97 else 0) (fun k => if k = 1 then Fc.row W14.heap.size np p else Fc.lit 1 [a]) [95, 97] 2 (fun _ => undef) (by kernel_rfl) (by decide) (by decide) (by kernel_rfl) hT ?_ ?_
  · refine List.forall_mem_cons.2 ⟨?k1, List.forall_mem_cons.2 ⟨?k3, fun _ h => by cases h⟩⟩
    case k1 =>
      intro us Vk hTk hneed
      simp only [Array.getD_eq_getD_getElem?, List.getElem?_toArray, List.getElem?_cons_succ, List.getElem?_cons_zero, Option.getD_some]
      simp only [putAll, Act.put, List.setIfInBounds_toArray, List.set_cons_succ, List.set_cons_zero]
      obtain ⟨v1, w1, hr1, ho1, hg1, -⟩ := append_slv (ty := 37) Try.underlying37 info26z (by simp [Value.cells]) (by decide) (World.ownsRow_nil Vk W14.heap.size 34 32) (Hp.out.step hTk).sl (oneB _) (by unfold maxLen; omega) (by omega) hTk.size
      rw [List.nil_append, Nat.zero_add] at ho1
      have B1 := (Below.refl Vk.heap.size Vk).grown hg1 (Nat.le_refl _) (fun k hk => by cases hk)
      refine wpMix_run (by kernel_rfl) v1 w1 (run_append_op (.const (.slice none 0 0)) (.tmp 94) 37 rfl _ _ rfl rfl hr1) (hTk.trans (B1.mono hTk.size)) ?_
      refine wpMix_nil ?_
      exact ⟨v1, by kernel_rfl, ho1, B1, fun g e => by subst e; exact (owns_not_ptr ho1).elim⟩
    case k3 =>
      intro us Vk hTk hneed
      simp only [Array.getD_eq_getD_getElem?, List.getElem?_toArray, List.getElem?_cons_succ, List.getElem?_cons_zero, Option.getD_some]
      simp only [putAll, Act.put, List.setIfInBounds_toArray, List.set_cons_succ, List.set_cons_zero]
      have hA0 : Below Vk.heap.size Vk (Vk.alloc (.cells (hcells [a]).toArray 34)) := (Below.refl _ _).alloc (Nat.le_refl _) _
      refine wpMix_run (by kernel_rfl) _ _ (run_lit_op [a] Ha32.out (by simp) (by simp) 1 _ rfl (by simp [Act.eval]) rfl _) (hTk.trans (hA0.mono hTk.size)) ?_
      refine wpMix_nil ?_
      exact ⟨_, by kernel_rfl, ⟨_, _, rfl, (Hs.lit Vk [a] Ha32.out (by simp) 1 rfl).weak fun _ _ _ => trivial⟩, hA0, fun g e => by cases e⟩
  · intro us Vt hT hF hA
    have o95 : Vt.ownsRow W14.heap.size 34 32 (us 95) np (hcells p) := hF 1 (by simp)
    obtain ⟨A1, c1, e97, h97⟩ : (Fc.lit 1 [a]).ok (us 97) Vt := hF 3 (by simp)
    have hr97 := h97.sl.room
    have hm97 := h97.sl.max
    unfold maxLen at hm97
    obtain ⟨v3, w3, hr3, ho3, hg3, -⟩ := append_slv (ty := 37) Try.underlying37 info26z (by simp [Value.cells]) (by decide) o95 h97.sl (oneB _) (by unfold maxLen; omega) (by omega) hT.size
    rw [← hcells_append] at ho3
    have B3 := (hT.grown hg3 hT.size (fun k hk => (o95.lt k hk).1))
    obtain ⟨A15, c15, rfl, hs15⟩ := Hs.of_owns ho3 (by rw [List.length_append, Hnp.out]; rfl) (Hp32.out.append Ha32.out)
    replace hs15 := hs15.weak (Y := fun _ => True) fun _ _ _ => trivial
    have hr15 := hs15.sl.room
    have hm15 := hs15.sl.max
    unfold maxLen at hm15
    simp only [putAll, Act.put, List.setIfInBounds_toArray, List.set_cons_succ, List.set_cons_zero]
    rw [e97]
    clear hF hA e97
    show wpAnyH _ _ _ _ _ _ #[true, true, true, true, false, false] _ _
    refine wpAnyH_pre (f := 0) (by kernel_rfl) #[true, true, true, true, true, true] [(4, false), (5, true)] _ _ _ (by kernel_rfl) hT ?_
    simp only [List.map_cons, List.map_nil, Array.getD_eq_getD_getElem?, List.getElem?_toArray, List.getElem?_cons_succ, List.getElem?_cons_zero, Option.getD_some]
    refine wpMix_run (by kernel_rfl) (.slice A15 (np + 1) c15) w3 (run_append_op (.tmp 95) (.tmp 97) 37 rfl _ _ rfl rfl hr3) B3 ?_
    refine wpMix_s (fun K hK => ?_)
    go_simp
    refine hK _ ?_
    clear hK K
    refine wpMix_nil ?_
    intro _
    refine wpAnyH_end (by kernel_rfl) ?_
    have hT3 : Below W14.heap.size W14 w3 := B3
    have k9 := Hk9.out.step hT3
    have hp := Hp.out.step hT3
    replace k10 := k10.step hT3
    replace k13b := k13b.step hT3
    replace k14b := k14b.step hT3
    replace hS := hS.trans (hT3.mono hS.size)
    clear hT3 B3 hT h97 o95 hr3 ho3 hg3 Hk9 Hp
    have h1k : 1 ≤ k := by omega
    have hbn := bumpL_ne b j (by have := Hbl.out; omega)
    have han := bumpL_ne a j (by have := Hal.out; omega)
    have hbl' : (bumpL b j).length = 32 := by rw [length_bumpL]; exact Hbl.out
    have hal' : (bumpL a j).length = 32 := by rw [length_bumpL]; exact Hal.out
    have hc1 := fun A c W (h : Hs W (fun _ => True) A np c p) => ccheck_any k ln a (bumpL b j) p A np c W (by omega) Hal.out hbl' h
    rw [Ck1.out h1k _ hbn] at hc1
    have hc2 := fun A c W (h : Hs W (fun _ => True) A (np + 1) c (p ++ [a])) => ccheck_any k ln a b (p ++ [a]) A (np + 1) c W (by omega) Hal.out Hbl.out h
    rw [Ck2.out h1k a b (p ++ [a]) (by rw [List.length_append, Hnp.out]; simp)] at hc2
    have hc3 := fun q (hq : np = q + 1) A c W (h : Hs W (fun _ => True) A q c (p.take q)) => (by
      have := ccheck_any k ln a b (p.take q) A q c W (by omega) Hal.out Hbl.out h
      rw [Ck2.out h1k a b (p.take q) (by rw [List.length_take, Hnp.out]; omega)] at this
      exact this : Calls _ _ _ _ _)
    have hc4 := fun (hpw : k = ln ∨ ∀ j, k ≠ 2 ^ j) A c W (h : Hs W (fun _ => True) A np c p) => (by
      have := ccheck_any k ln (bumpL a j) b p A np c W (by omega) hal' Hbl.out h
      rw [Ck3.out h1k _ han hpw] at this
      exact this : Calls _ _ _ _ _)
    have hc5 := fun A c W (h : Hs W (fun _ => True) A np c p) => cbothE_any k ln a p A np c W (by omega) Hal.out h
    rw [Cbo.out h1k] at hc5
    dsimp only at hc5
    have Hc1 := Lib.hid hc1
    have Hc2 := Lib.hid hc2
    have Hc3 := Lib.hid hc3
    have Hc4 := Lib.hid hc4
    have Hc5 := Lib.hid hc5
    clear hc1 hc2 hc3 hc4 hc5 hbn han hbl' hal' Ck1 Ck2 Ck3 Cbo
    go_wp2_with (first
      | ((with_reducible show wpList _ _ _ (⟨some 101, .load _ _, _, _, _, _⟩ :: _) _ _); refine wpList_hload (.tmp 9) (by kernel_rfl) rfl k9 rfl ?_; simp only [Act.put])
      | ((with_reducible show wpList _ _ _ (⟨some 102, .load _ _, _, _, _, _⟩ :: _) _ _); refine wpList_hload (.tmp 13) (by kernel_rfl) rfl k13b rfl ?_; simp only [Act.put]))
    refine (Hc1.out Ap cp w3 (hp.weak fun _ _ _ => trivial)).mono ?_
    rintro e U1 ⟨rfl, hb'⟩
    replace hS := hS.trans (hb'.mono hS.size)
    replace k9 := k9.step hb'
    replace k10 := k10.step hb'
    replace k14b := k14b.step hb'
    replace hp := hp.step hb'
    replace hs15 := hs15.step hb'
    clear hb' Hc1 k13b
    go_wp2_with (first
      | ((with_reducible show wpList _ _ _ (⟨some 109, .load _ _, _, _, _, _⟩ :: _) _ _); refine wpList_hload (.tmp 9) (by kernel_rfl) rfl k9 rfl ?_; simp only [Act.put])
      | ((with_reducible show wpList _ _ _ (⟨some 110, .load _ _, _, _, _, _⟩ :: _) _ _); refine wpList_hload (.tmp 10) (by kernel_rfl) rfl k10 rfl ?_; simp only [Act.put]))
    refine (Hc2.out A15 c15 U1 hs15).mono ?_
    rintro e U2 ⟨rfl, hb'⟩
    replace hS := hS.trans (hb'.mono hS.size)
    replace k9 := k9.step hb'
    replace k10 := k10.step hb'
    replace k14b := k14b.step hb'
    replace hp := hp.step hb'
    clear hb' Hc2 hs15
    go_wp2_with fail
    refine wp_share_us (fun us a' W' => a' = { tmps := #[us 0, us 1, us 2, us 3, us 4, us 5, .bool false, .int .i64 (ln : Int), .int .i64 (k : Int), .pointer (some ⟨g9, 0, none⟩), .pointer (some ⟨g10, 0, none⟩), .slice Ap np cp, us 12, us 13, .pointer (some ⟨W11.heap.size, 0, none⟩), us 15, us 16, us 17, us 18, us 19, us 20, us 21, us 22, us 23, us 24, us 25, us 26, us 27, us 28, us 29, us 30, us 31, us 32, us 33, us 34, us 35, us 36, us 37, us 38, us 39, us 40, us 41, us 42, us 43, us 44, us 45, us 46, us 47, us 48, us 49, us 50, us 51, us 52, us 53, us 54, us 55, us 56, us 57, us 58, us 59, us 60, us 61, us 62, us 63, us 64, us 65, us 66, us 67, us 68, us 69, us 70, us 71, us 72, us 73, us 74, us 75, us 76, us 77, us 78, us 79, us 80, us 81, us 82, us 83, us 84, us 85, us 86, us 87, us 88, us 89, us 90, us 91, us 92, us 93, us 94, us 95, us 96, us 97, us 98, us 99, us 100, us 101, us 102, us 103, us 104, us 105, us 106, us 107, us 108, us 109, us 110, us 111, us 112, us 113, us 114, us 115, us 116, us 117, us 118, us 119, us 120, us 121, us 122, us 123, us 124, us 125, us 126, us 127, us 128, us 129, .bool false, us 131, us 132, us 133, us 134, us 135, us 136, us 137, us 138, us 139, us 140, us 141, us 142, us 143, us 144, us 145, us 146, us 147, us 148, us 149, us 150, us 151, us 152, us 153, us 154, us 155, us 156, us 157, us 158, us 159, us 160, us 161, us 162, us 163, us 164, us 165, us 166, us 167, us 168, us 169, us 170, us 171, us 172, us 173], defers := [] } ∧ Below U2.heap.size U2 W') ?_ ?_
    · by_cases hnp0 : np = 0
      · have hdn : decide ((0 : Int) < (np : Int)) = false := by simp; omega
        have hdn2 : ¬ (0 < np) := by omega
        have Hnp0 := Lib.hid hnp0
        clear hnp0
        have hT : Below U2.heap.size U2 U2.drew := (Below.refl _ _).drew
        refine wp_region_mix (fun W => Below U2.heap.size U2 W) [(0, true), (1, true), (2, true), (3, true), (4, true), (5, true), (6, true), (7, true), (8, true), (9, true), (10, true), (11, true), (12, true), (13, false), (14, true), (15, true)] (by kernel_rfl) (by kernel_rfl) hT fun _ => ?_
        simp only [List.map_cons, List.map_nil, Array.getD_eq_getD_getElem?, List.getElem?_toArray, List.getElem?_cons_succ, List.getElem?_cons_zero, Option.getD_some]
        generalize U2.drew = V at hT ⊢
        refine wpMix_s (fun K hK => ?_)
        go_simp
        refine hK _ ?_
        clear hK K
        refine wpMix_s (fun K hK => ?_)
        go_simp
        refine hK _ ?_
        clear hK K
        refine wpMix_s (fun K hK => ?_)
        go_simp
        refine hK _ ?_
        clear hK K
        refine wpMix_s (fun K hK => ?_)
        go_simp
        refine hK _ ?_
        clear hK K
        refine wpMix_s (fun K hK => ?_)
        go_simp
        refine hK _ ?_
        clear hK K
        refine wpMix_s (fun K hK => ?_)
        go_simp
        refine hK _ ?_
        clear hK K
        refine wpMix_s (fun K hK => ?_)
        go_simp
        refine hK _ ?_
        clear hK K
        refine wpMix_s (fun K hK => ?_)
        go_simp
        refine hK _ ?_
        clear hK K
        refine wpMix_s (fun K hK => ?_)
        go_simp
        refine hK _ ?_
        clear hK K
        refine wpMix_s (fun K hK => ?_)
        go_simp
        refine hK _ ?_
        clear hK K
        refine wpMix_s (fun K hK => ?_)
        go_simp
        refine hK _ ?_
        clear hK K
        refine wpMix_s (fun K hK => ?_)
        go_simp
        refine hK _ ?_
        clear hK K
        refine wpMix_s (fun K hK => ?_)
        go_simp
        refine hK _ ?_
        clear hK K
        refine wpMix_c (fun K hK => ?_) hT
        go_simp
        refine hK _ _ ?_
        clear hK K
        refine ⟨hT, ?_⟩
        refine wpMix_s (fun K hK => ?_)
        go_simp
        refine hK _ ?_
        clear hK K
        refine wpMix_s (fun K hK => ?_)
        go_simp
        refine hK _ ?_
        clear hK K
        refine wpMix_nil ?_
        intro _
        refine ⟨?_, hT⟩
        kernel_rfl
      · have hdn : decide ((0 : Int) < (np : Int)) = true := by simp; omega
        have hdn2 : 0 < np := by omega
        obtain ⟨q, hq⟩ : ∃ q, np = q + 1 := ⟨np - 1, by omega⟩
        have hwq : IntKind.i64.wrap ((np : Int) - 1) = (q : Int) := by rw [IntWalk.i64_in _ (by omega)]; omega
        have Hq := Lib.hid hq
        have hqn : q < np := by omega
        clear hq
        have hT : Below U2.heap.size U2 U2.drew := (Below.refl _ _).drew
        refine wp_region_mix (fun W => Below U2.heap.size U2 W) [(0, true), (1, true), (2, true), (3, true), (4, true), (5, true), (6, true), (7, true), (8, true), (9, true), (10, true), (11, true), (12, true), (13, false), (14, true), (15, true)] (by kernel_rfl) (by kernel_rfl) hT fun _ => ?_
        simp only [List.map_cons, List.map_nil, Array.getD_eq_getD_getElem?, List.getElem?_toArray, List.getElem?_cons_succ, List.getElem?_cons_zero, Option.getD_some]
        generalize U2.drew = V at hT ⊢
        refine wpMix_s (fun K hK => ?_)
        go_simp
        refine hK _ ?_
        clear hK K
        refine wpMix_s (fun K hK => ?_)
        go_simp
        refine hK _ ?_
        clear hK K
        refine wpMix_s (fun K hK => ?_)
        go_simp
        refine hK _ ?_
        clear hK K
        refine wpMix_s (fun K hK => ?_)
        go_simp
        refine hK _ ?_
        clear hK K
        refine wpMix_s (fun K hK => ?_)
        go_simp
        refine hK _ ?_
        clear hK K
        refine wpMix_s (fun K hK => ?_)
        go_simp
        refine hK _ ?_
        clear hK K
        refine wpMix_load (by kernel_rfl) 34 (.tmp 9) rfl (g9) (0) rfl (a.map B).toArray (fun s => (k9.step s.ok).load) ?_
        simp only [Act.put]
        refine wpMix_load (by kernel_rfl) 34 (.tmp 10) rfl (g10) (0) rfl (b.map B).toArray (fun s => (k10.step s.ok).load) ?_
        simp only [Act.put]
        refine wpMix_s (fun K hK => ?_)
        go_simp
        refine hK _ ?_
        clear hK K
        refine wpMix_s (fun K hK => ?_)
        go_simp
        refine hK _ ?_
        clear hK K
        refine wpMix_s (fun K hK => ?_)
        go_simp
        refine hK _ ?_
        clear hK K
        refine wpMix_s (fun K hK => ?_)
        go_simp
        refine hK _ ?_
        clear hK K
        refine wpMix_v (by kernel_rfl) (.slice Ap q cp) (fun s => run_slice_op_hi (.tmp 123) (.tmp 126) rfl Ap np cp q rfl rfl (by omega) s.W) ?_
        simp only [Act.put]
        refine wpMix_c (fun K hK => ?_) hT
        go_simp
        refine (Hc3.out q Hq.out Ap cp V (((hp.step hT).take q (by omega)).weak fun _ _ _ => trivial)).mono ?_
        rintro e V_1 ⟨rfl, hb'⟩
        refine hK _ _ ?_
        clear hK K
        replace hT := hT.trans (hb'.mono hT.size)
        refine ⟨hT, ?_⟩
        clear hb'
        refine wpMix_s (fun K hK => ?_)
        go_simp
        refine hK _ ?_
        clear hK K
        refine wpMix_s (fun K hK => ?_)
        go_simp
        refine hK _ ?_
        clear hK K
        refine wpMix_nil ?_
        intro _
        refine ⟨?_, hT⟩
        kernel_rfl
    rintro us a' U3 ⟨rfl, hb'⟩
    replace hS := hS.trans (hb'.mono hS.size)
    replace k9 := k9.step hb'
    replace k10 := k10.step hb'
    replace k14b := k14b.step hb'
    replace hp := hp.step hb'
    clear hb' Hc3
    go_upto_region 20 with fail
    refine wp_share_us (fun us a' W' => a' = { tmps := #[us 0, us 1, us 2, us 3, us 4, us 5, .bool false, .int .i64 (ln : Int), .int .i64 (k : Int), .pointer (some ⟨g9, 0, none⟩), .pointer (some ⟨g10, 0, none⟩), .slice Ap np cp, us 12, us 13, .pointer (some ⟨W11.heap.size, 0, none⟩), us 15, us 16, us 17, us 18, us 19, us 20, us 21, us 22, us 23, us 24, us 25, us 26, us 27, us 28, us 29, us 30, us 31, us 32, us 33, us 34, us 35, us 36, us 37, us 38, us 39, us 40, us 41, us 42, us 43, us 44, us 45, us 46, us 47, us 48, us 49, us 50, us 51, us 52, us 53, us 54, us 55, us 56, us 57, us 58, us 59, us 60, us 61, us 62, us 63, us 64, us 65, us 66, us 67, us 68, us 69, us 70, us 71, us 72, us 73, us 74, us 75, us 76, us 77, us 78, us 79, us 80, us 81, us 82, us 83, us 84, us 85, us 86, us 87, us 88, us 89, us 90, us 91, us 92, us 93, us 94, us 95, us 96, us 97, us 98, us 99, us 100, us 101, us 102, us 103, us 104, us 105, us 106, us 107, us 108, us 109, us 110, us 111, us 112, us 113, us 114, us 115, us 116, us 117, us 118, us 119, us 120, us 121, us 122, us 123, us 124, us 125, us 126, us 127, us 128, us 129, us 130, us 131, us 132, us 133, us 134, us 135, us 136, us 137, us 138, us 139, us 140, us 141, us 142, us 143, us 144, us 145, us 146, us 147, us 148, .bool false, us 150, us 151, us 152, us 153, us 154, us 155, us 156, us 157, us 158, us 159, us 160, us 161, us 162, us 163, us 164, us 165, us 166, us 167, us 168, us 169, us 170, us 171, us 172, us 173], defers := [] } ∧ Below U3.heap.size U3 W') ?_ ?_
    · by_cases hkl : k = ln
      · have hlk := Lib.hid hkl
        subst hkl
        go_wp2_with (first
          | ((with_reducible show wpList _ _ _ (⟨some 144, .load _ _, _, _, _, _⟩ :: _) _ _); refine wpList_hload (.tmp 14) (by kernel_rfl) rfl k14b rfl ?_; simp only [Act.put])
          | ((with_reducible show wpList _ _ _ (⟨some 145, .load _ _, _, _, _, _⟩ :: _) _ _); refine wpList_hload (.tmp 10) (by kernel_rfl) rfl k10 rfl ?_; simp only [Act.put]))
        refine (Hc4.out (by simp) Ap cp U3 (hp.weak fun _ _ _ => trivial)).mono ?_
        rintro e U4 ⟨rfl, hb'⟩
        go_wp2_with fail
      have hki : ¬ ((k : Int) = (ln : Int)) := by omega
      by_cases hand : bits BinOp.and IntKind.i64 (k : Int) ((k : Int) - 1) = 0
      · clear Hc4
        go_wp2_with fail
        exact Below.refl _ _
      · have hpw : ∀ j, k ≠ 2 ^ j := fun j e => hand (by
          have hj7 : j < 7 := Nat.lt_of_not_le fun h => by
            have := Nat.pow_le_pow_right (show 0 < 2 by decide) h
            omega
          have : j = 0 ∨ j = 1 ∨ j = 2 ∨ j = 3 ∨ j = 4 ∨ j = 5 ∨ j = 6 := by omega
          rcases this with rfl | rfl | rfl | rfl | rfl | rfl | rfl <;> (rw [e]; decide))
        have hand2 : (bits BinOp.and IntKind.i64 (k : Int) ((k : Int) - 1) != 0) = true := by simpa using hand
        have hand3 : (bits BinOp.and IntKind.i64 (k : Int) ((k : Int) - 1) == 0) = false := by simpa using hand
        have Hpw := Lib.hid hpw
        clear hpw
        go_wp2_with (first
          | ((with_reducible show wpList _ _ _ (⟨some 144, .load _ _, _, _, _, _⟩ :: _) _ _); refine wpList_hload (.tmp 14) (by kernel_rfl) rfl k14b rfl ?_; simp only [Act.put])
          | ((with_reducible show wpList _ _ _ (⟨some 145, .load _ _, _, _, _, _⟩ :: _) _ _); refine wpList_hload (.tmp 10) (by kernel_rfl) rfl k10 rfl ?_; simp only [Act.put]))
        refine (Hc4.out (.inr Hpw.out) Ap cp U3 (hp.weak fun _ _ _ => trivial)).mono ?_
        rintro e U4 ⟨rfl, hb'⟩
        go_wp2_with fail
    rintro us a' U4 ⟨rfl, hb'⟩
    replace hS := hS.trans (hb'.mono hS.size)
    replace k9 := k9.step hb'
    replace k10 := k10.step hb'
    replace hp := hp.step hb'
    clear hb' Hc4 k14b
    go_wp2_with (first
      | ((with_reducible show wpList _ _ _ (⟨some 153, .load _ _, _, _, _, _⟩ :: _) _ _); refine wpList_hload (.tmp 9) (by kernel_rfl) rfl k9 rfl ?_; simp only [Act.put]))
    refine (Hc5.out Ap cp U4 (hp.weak fun _ _ _ => trivial)).mono ?_
    rintro e U5 ⟨rfl, hb'⟩
    replace hS := hS.trans (hb'.mono hS.size)
    replace k9 := k9.step hb'
    replace k10 := k10.step hb'
    have hl9' := k9.lt
    have hl10' := k10.lt
    clear hb' Hc5 hp
    go_wp2_with (first
      | ((with_reducible show wpList _ _ _ (⟨some 16, .alloc _, _, _, _, _⟩ :: _) _ _); refine wpList_hnew rfl rfl ?_; intro U6 k16 hb'; simp only [Act.put]; have hge16 := hS.size; have hlt16 := k16.lt; replace k9 := k9.step hb'; replace k10 := k10.step hb'; replace hS := hS.trans (hb'.mono hS.size); clear hb')
      | ((with_reducible show wpList _ _ _ (⟨some 17, .alloc _, _, _, _, _⟩ :: _) _ _); refine wpList_hnew rfl rfl ?_; intro U7 k17 hb'; simp only [Act.put]; have hge17 := hS.size; have hlt17 := k17.lt; replace k9 := k9.step hb'; replace k10 := k10.step hb'; replace k16 := k16.step hb'; replace hS := hS.trans (hb'.mono hS.size); clear hb')
      | ((with_reducible show wpList _ _ _ (⟨none, .store _ (.tmp 16) _, _, _, _, _⟩ :: _) _ _); refine wpList_hset2 (.tmp 16) (.tmp 156) rfl rfl k16 rfl rfl Hal.out ?_; intro U8 k16' hb' hoth; simp only [Act.put]; replace k9 := hoth _ _ (by omega) k9; replace k10 := hoth _ _ (by omega) k10; replace k17 := hoth _ _ (by omega) k17; replace hS := hS.trans (hb'.mono (by omega)); clear hb' hoth)
      | ((with_reducible show wpList _ _ _ (⟨none, .store _ (.tmp 17) _, _, _, _, _⟩ :: _) _ _); refine wpList_hset2 (.tmp 17) (.tmp 157) rfl rfl k17 rfl rfl Hbl.out ?_; intro U9 k17' hb' hoth; simp only [Act.put]; replace k9 := hoth _ _ (by omega) k9; replace k10 := hoth _ _ (by omega) k10; replace k16' := hoth _ _ (by omega) k16'; replace hS := hS.trans (hb'.mono (by omega)); clear hb' hoth)
      | ((with_reducible show wpList _ _ _ (⟨some 162, .load _ _, _, _, _, _⟩ :: _) _ _); refine wpList_hload (.tmp 16) (by kernel_rfl) rfl k16' rfl ?_; simp only [Act.put])
      | ((with_reducible show wpList _ _ _ (⟨some 163, .load _ _, _, _, _, _⟩ :: _) _ _); refine wpList_hload (.tmp 9) (by kernel_rfl) rfl k9 rfl ?_; simp only [Act.put])
      | ((with_reducible show wpList _ _ _ (⟨some 167, .load _ _, _, _, _, _⟩ :: _) _ _); refine wpList_hload (.tmp 17) (by kernel_rfl) rfl k17' rfl ?_; simp only [Act.put])
      | ((with_reducible show wpList _ _ _ (⟨some 168, .load _ _, _, _, _, _⟩ :: _) _ _); refine wpList_hload (.tmp 10) (by kernel_rfl) rfl k10 rfl ?_; simp only [Act.put])
      | ((with_reducible show wpList _ _ _ (⟨some 164, .binOp _ _ _ _ _, _, _, _, _⟩ :: _) _ _); refine wpList_runG (by kernel_rfl) (.bool true) _ (run_eql26_t (.tmp 162) (.tmp 163) _ a a rfl rfl rfl Hal.out Hal.out rfl _) ?_; simp only [Act.put])
      | ((with_reducible show wpList _ _ _ (⟨some 169, .binOp _ _ _ _ _, _, _, _, _⟩ :: _) _ _); refine wpList_runG (by kernel_rfl) (.bool true) _ (run_eql26_t (.tmp 167) (.tmp 168) _ b b rfl rfl rfl Hbl.out Hbl.out rfl _) ?_; simp only [Act.put])
      | (go_at_call 39; refine (known12_any _).mono ?_; rintro e U10 ⟨rfl, hb'⟩))
    go_ret
    exact ⟨rfl, hS.trans (hb'.mono hS.size)⟩
end Go.Proofs.Ytgcbdnoniikboaa
