/- A hash variable that comes up among others. -/
import Derived.Test.YtgcbdnoniikboaaQa29
import Derived.Test.YtgcbdnoniikboaaQa19
import Derived.Test.YtgcbdnoniikboaaQa27
namespace Go.Proofs.Ytgcbdnoniikboaa
open Go Go.RowKit

def Fc.hash (N : Nat) (l : List UInt8) : Fc := ⟨fun v W => ∃ g, v = ptrB g ∧ HV W g l ∧ N ≤ g, fun _ _ _ ⟨g, h1, h2, h3⟩ hb => ⟨g, h1, h2.step hb, h3⟩, fun g W ⟨g', h1, h2, _⟩ => by cases h1; exact h2.lt⟩
end Go.Proofs.Ytgcbdnoniikboaa
/- notarylaw12.ConsOn. -/
namespace Go.Proofs.Ytgcbdnoniikboaa
open Go Go.RowKit

theorem rem_nat (z : Int) (n : Nat) : ∃ k : Nat, (z.tmod ((n : Int) + 1) + (n : Int) + 1) % ((n : Int) + 1) = (k : Int) ∧ k ≤ n := by
  have h0 := Int.emod_nonneg (z.tmod ((n : Int) + 1) + (n : Int) + 1) (show (n : Int) + 1 ≠ 0 by omega)
  have h1 := Int.emod_lt_of_pos (z.tmod ((n : Int) + 1) + (n : Int) + 1) (show (0 : Int) < (n : Int) + 1 by omega)
  exact ⟨((z.tmod ((n : Int) + 1) + (n : Int) + 1) % ((n : Int) + 1)).toNat, by omega, by omega⟩
theorem tmod_range (z : Int) (n : Nat) : -((n : Int) + 1) < z.tmod ((n : Int) + 1) ∧ z.tmod ((n : Int) + 1) < (n : Int) + 1 := by
  have := Int.lt_tmod_of_pos z (show (0 : Int) < (n : Int) + 1 by omega)
  exact ⟨by omega, Int.tmod_lt_of_pos z (by omega)⟩

set_option maxHeartbeats 4000000 in
set_option maxRecDepth 100000 in
theorem conson_any (hs : List (List UInt8)) (A : Option Addr) (ln c : Nat) (w : World) (zm zn : Int) (h : Hs w (· < w.heap.size) A ln c hs) :
    Calls Try.prog 12 #[.slice A ln c, .int .i64 zm, .int .i64 zn] w fun e w' => e = .returned (.bool true) ∧ Below w.heap.size w w' := by
  by_cases hbig : 60 < ln
  · have hd : decide ((60 : Int) < (ln : Int)) = true := by simp; omega
    clear h
    go_enter Try.func12, Try.ntmps12
    go_wp2_with (go_at_call 39; refine (known12_any _).mono ?_; rintro e w2 ⟨rfl, hb2⟩)
    go_ret
    exact ⟨rfl, hb2⟩
  have hd : decide ((60 : Int) < (ln : Int)) = false := by simp; omega
  obtain ⟨hm1, hm2⟩ := tmod_range zn ln
  have hl : ln ≤ 60 := by omega
  have hw1 : IntKind.i64.wrap ((ln : Int) + 1) = (ln : Int) + 1 := IntWalk.i64_in _ (by omega)
  obtain ⟨n, hn, hno⟩ := rem_nat zn ln
  have Hn := Lib.hid hn
  have hroom := h.sl.room
  have hmx := h.sl.max
  unfold maxLen at hmx
  have hlen := h.len
  have hall := h.all
  have Hh := Lib.hid h
  have Hall := Lib.hid hall
  have Hlen := Lib.hid hlen
  clear hbig h hn hlen hall
  go_enter Try.func12, Try.ntmps12
  go_upto_region 5 with fail
  rw [Hn.out]
  obtain ⟨hm3, hm4⟩ := tmod_range zm n
  obtain ⟨m, hm, hmo⟩ := rem_nat zm n
  have hw2 : IntKind.i64.wrap ((n : Int) + 1) = (n : Int) + 1 := IntWalk.i64_in _ (by omega)
  have Hm := Lib.hid hm
  clear hm hm1 hm2 hw1
  go_upto_region 6 with fail
  rw [Hm.out]
  clear hm3 hm4 hw2
  have hlt := (Hh.out.take n hno)
  have hlm := (Hh.out.take m (by omega))
  have hlen1 : (hs.take n).length = n := by rw [List.length_take, Hlen.out]; omega
  have ck1 := checkE_taken (hs.take n) m (by rw [hlen1]; omega)
  have ck2 := checkE_taken hs n (by rw [Hlen.out]; omega)
  have ck3 := checkE_taken hs m (by rw [Hlen.out]; omega)
  have ef1 := stepsA_fine m (hs.take n).length (by rw [hlen1]; omega)
  have ef2 := stepsA_fine n hs.length (by rw [Hlen.out]; omega)
  have ef3 := stepsA_fine m hs.length (by rw [Hlen.out]; omega)
  rw [hlen1, List.take_take, Nat.min_eq_left hmo] at ck1
  rw [Hlen.out] at ck2 ck3
  have hof1 := fun W (hb : Below w.heap.size w W) => rof_any (hs.take m) A m c W ((hlm.step hb).weak fun _ _ _ => trivial) (by omega)
  have hof2 := fun W (hb : Below w.heap.size w W) => rof_any (hs.take n) A n c W ((hlt.step hb).weak fun _ _ _ => trivial) (by omega)
  have hof3 := fun W (hb : Below w.heap.size w W) => rof_any hs A ln c W ((Hh.out.step hb).weak fun _ _ _ => trivial) (by omega)
  have hpr1 := fun W (hb : Below w.heap.size w W) => cprove_any (hs.take n) A n c W m ((hlt.step hb).weak fun _ _ _ => trivial) (by omega)
  have hpr2 := fun W (hb : Below w.heap.size w W) => cprove_any hs A ln c W n ((Hh.out.step hb).weak fun _ _ _ => trivial) (by omega)
  have hpr3 := fun W (hb : Below w.heap.size w W) => cprove_any hs A ln c W m ((Hh.out.step hb).weak fun _ _ _ => trivial) (by omega)
  rw [ef1] at hpr1
  rw [ef2] at hpr2
  rw [ef3] at hpr3
  have hp32 := rootsS_all (hs.take n) (Hall.out.take n) m
  have hq32 := rootsS_all hs Hall.out n
  have hs32 := rootsS_all hs Hall.out m
  obtain ⟨p, hp⟩ : ∃ r, rootsS (hs.take n) m = r := ⟨_, rfl⟩
  obtain ⟨q, hq⟩ : ∃ r, rootsS hs n = r := ⟨_, rfl⟩
  obtain ⟨s, hs'⟩ : ∃ r, rootsS hs m = r := ⟨_, rfl⟩
  rw [hp] at ck1 hpr1 hp32
  rw [hq] at ck2 hpr2 hq32
  rw [hs'] at ck3 hpr3 hs32
  have hal := length_rootL (hs.take m) (Hall.out.take m)
  have hbl := length_rootL (hs.take n) (Hall.out.take n)
  have hrl := length_rootL hs Hall.out
  obtain ⟨a, ha⟩ : ∃ r, rootL (hs.take m) = r := ⟨_, rfl⟩
  obtain ⟨b, hb⟩ : ∃ r, rootL (hs.take n) = r := ⟨_, rfl⟩
  obtain ⟨r, hr⟩ : ∃ r, rootL hs = r := ⟨_, rfl⟩
  rw [ha] at ck1 ck3 hof1 hal
  rw [hb] at ck1 ck2 hof2 hbl
  rw [hr] at ck2 ck3 hof3 hrl
  obtain ⟨np, hnp⟩ : ∃ k, p.length = k := ⟨_, rfl⟩
  obtain ⟨nq, hnq⟩ : ∃ k, q.length = k := ⟨_, rfl⟩
  obtain ⟨ns, hns⟩ : ∃ k, s.length = k := ⟨_, rfl⟩
  rw [hnp] at hpr1
  rw [hnq] at hpr2
  rw [hns] at hpr3
  have hc1 := fun A c W (h : Hs W (fun _ => True) A np c p) => ccheck_any m n a b p A np c W (by omega) hal hbl h
  have hc2 := fun A c W (h : Hs W (fun _ => True) A nq c q) => ccheck_any n ln b r q A nq c W (by omega) hbl hrl h
  have hc3 := fun A c W (h : Hs W (fun _ => True) A ns c s) => ccheck_any m ln a r s A ns c W (by omega) hal hrl h
  rw [ck1] at hc1
  rw [ck2] at hc2
  rw [ck3] at hc3
  have Hp32 := Lib.hid hp32
  have Hq32 := Lib.hid hq32
  have Hs32 := Lib.hid hs32
  have Hnp := Lib.hid hnp
  have Hnq := Lib.hid hnq
  have Hns := Lib.hid hns
  have Hal := Lib.hid hal
  have Hbl := Lib.hid hbl
  have Hrl := Lib.hid hrl
  have Hof1 := Lib.hid hof1
  have Hof2 := Lib.hid hof2
  have Hof3 := Lib.hid hof3
  have Hpr1 := Lib.hid hpr1
  have Hpr2 := Lib.hid hpr2
  have Hpr3 := Lib.hid hpr3
  have Hc1 := Lib.hid hc1
  have Hc2 := Lib.hid hc2
  have Hc3 := Lib.hid hc3
  clear hp32 hq32 hs32 hnp hnq hns hal hbl hrl hof1 hof2 hof3 hpr1 hpr2 hpr3 hc1 hc2 hc3 ck1 ck2 ck3 ef1 ef2 ef3 ha hb hr hp hq hs' hlt hlm hlen1 Hh Hall Hlen Hn Hm
  have hS : Below (w.heap.size) w w.drew := (Below.refl _ _).drew
  refine wp_region_begin (fun W => Below (w.heap.size) w W) (by kernel_rfl) hS fun _ => ?_
  generalize w.drew = W0 at hS  ⊢
  refine wpAnyH_pre (f := 9) (by kernel_rfl) #[true, true, true, false, true, true, true, false, true, false, false, false, false, false, false, false] [(0, true), (1, true), (2, true), (4, true), (5, true), (6, true), (8, true)] _ _ _ (by kernel_rfl) hS ?_
  simp only [List.map_cons, List.map_nil, Array.getD_eq_getD_getElem?, List.getElem?_toArray, List.getElem?_cons_succ, List.getElem?_cons_zero, Option.getD_some]
  refine wpMix_s (fun K hK => ?_)
  go_simp
  refine hK _ ?_
  clear hK K
  refine wpMix_s (fun K hK => ?_)
  go_simp
  refine hK _ ?_
  clear hK K
  refine wpMix_v (by kernel_rfl) (.slice A m c) (fun s => run_slice_op_hi (.tmp 43) (.tmp 44) rfl A ln c m rfl rfl (by omega) s.W) ?_
  simp only [Act.put]
  refine wpMix_s (fun K hK => ?_)
  go_simp
  refine hK _ ?_
  clear hK K
  refine wpMix_s (fun K hK => ?_)
  go_simp
  refine hK _ ?_
  clear hK K
  refine wpMix_v (by kernel_rfl) (.slice A n c) (fun s => run_slice_op_hi (.tmp 47) (.tmp 48) rfl A ln c n rfl rfl (by omega) s.W) ?_
  simp only [Act.put]
  refine wpMix_s (fun K hK => ?_)
  go_simp
  refine hK _ ?_
  clear hK K
  refine wpMix_nil ?_
  intro _
  show wpAnyH _ _ _ _ _ _ #[true, true, true, false, true, true, true, false, true, false, false, false, false, false, false, false] _ _
  refine wpAnyH_many [3, 7, 9, 10, 11, 12] (fun _ => []) (fun k => if k = 3 then 46 else if k = 7 then 50 else if k = 9 then 52 else if k = 10 then 8 else if k = 11 then 9 else if k = 12 then 10 else 0) (fun k => if k = 3 then Fc.val (.agg (a.map B).toArray) (fun _ h => by cases h) else if k = 7 then Fc.val (.agg (b.map B).toArray) (fun _ h => by cases h) else if k = 9 then Fc.val (.agg (r.map B).toArray) (fun _ h => by cases h) else if k = 10 then Fc.hash w.heap.size (List.replicate 32 0) else if k = 11 then Fc.hash w.heap.size (List.replicate 32 0) else Fc.hash w.heap.size (List.replicate 32 0)) [46, 50, 52, 8, 9, 10] 3 (fun _ => undef) (by kernel_rfl) (by decide) (by decide) (by kernel_rfl) hS ?_ ?_
  · refine List.forall_mem_cons.2 ⟨?k3, List.forall_mem_cons.2 ⟨?k7, List.forall_mem_cons.2 ⟨?k9, List.forall_mem_cons.2 ⟨?k10, List.forall_mem_cons.2 ⟨?k11, List.forall_mem_cons.2 ⟨?k12, fun _ h => by cases h⟩⟩⟩⟩⟩⟩
    case k3 =>
      intro us W0k hSk hneed
      simp only [Array.getD_eq_getD_getElem?, List.getElem?_toArray, List.getElem?_cons_succ, List.getElem?_cons_zero, Option.getD_some]
      simp only [putAll, Act.put, List.setIfInBounds_toArray, List.set_cons_succ, List.set_cons_zero]
      refine wpMix_c (fun K hK => ?_) hSk
      go_simp
      refine (Hof1.out W0k hSk).mono ?_
      rintro e W0j ⟨rfl, hb'⟩
      refine hK _ _ ?_
      clear hK K
      refine ⟨hSk.trans (hb'.mono hSk.size), ?_⟩
      refine wpMix_nil ?_
      exact ⟨.agg (a.map B).toArray, by kernel_rfl, rfl, hb', fun g e => by cases e⟩
    case k7 =>
      intro us W0k hSk hneed
      simp only [Array.getD_eq_getD_getElem?, List.getElem?_toArray, List.getElem?_cons_succ, List.getElem?_cons_zero, Option.getD_some]
      simp only [putAll, Act.put, List.setIfInBounds_toArray, List.set_cons_succ, List.set_cons_zero]
      refine wpMix_c (fun K hK => ?_) hSk
      go_simp
      refine (Hof2.out W0k hSk).mono ?_
      rintro e W0j ⟨rfl, hb'⟩
      refine hK _ _ ?_
      clear hK K
      refine ⟨hSk.trans (hb'.mono hSk.size), ?_⟩
      refine wpMix_nil ?_
      exact ⟨.agg (b.map B).toArray, by kernel_rfl, rfl, hb', fun g e => by cases e⟩
    case k9 =>
      intro us W0k hSk hneed
      simp only [Array.getD_eq_getD_getElem?, List.getElem?_toArray, List.getElem?_cons_succ, List.getElem?_cons_zero, Option.getD_some]
      simp only [putAll, Act.put, List.setIfInBounds_toArray, List.set_cons_succ, List.set_cons_zero]
      refine wpMix_c (fun K hK => ?_) hSk
      go_simp
      refine (Hof3.out W0k hSk).mono ?_
      rintro e W0j ⟨rfl, hb'⟩
      refine hK _ _ ?_
      clear hK K
      refine ⟨hSk.trans (hb'.mono hSk.size), ?_⟩
      refine wpMix_nil ?_
      exact ⟨.agg (r.map B).toArray, by kernel_rfl, rfl, hb', fun g e => by cases e⟩
    case k10 =>
      intro us W0k hSk hneed
      simp only [Array.getD_eq_getD_getElem?, List.getElem?_toArray, List.getElem?_cons_succ, List.getElem?_cons_zero, Option.getD_some]
      simp only [putAll, Act.put, List.setIfInBounds_toArray, List.set_cons_succ, List.set_cons_zero]
      refine wpMix_hnew rfl rfl (fun _ hb => hSk.trans (hb.mono hSk.size)) ?_
      intro W0j kj hb'
      refine wpMix_nil ?_
      exact ⟨ptrB W0k.heap.size, by kernel_rfl, ⟨_, rfl, kj, hSk.size⟩, hb', fun g e => by cases e; exact Nat.le_refl _⟩
    case k11 =>
      intro us W0k hSk hneed
      simp only [Array.getD_eq_getD_getElem?, List.getElem?_toArray, List.getElem?_cons_succ, List.getElem?_cons_zero, Option.getD_some]
      simp only [putAll, Act.put, List.setIfInBounds_toArray, List.set_cons_succ, List.set_cons_zero]
      refine wpMix_hnew rfl rfl (fun _ hb => hSk.trans (hb.mono hSk.size)) ?_
      intro W0j kj hb'
      refine wpMix_nil ?_
      exact ⟨ptrB W0k.heap.size, by kernel_rfl, ⟨_, rfl, kj, hSk.size⟩, hb', fun g e => by cases e; exact Nat.le_refl _⟩
    case k12 =>
      intro us W0k hSk hneed
      simp only [Array.getD_eq_getD_getElem?, List.getElem?_toArray, List.getElem?_cons_succ, List.getElem?_cons_zero, Option.getD_some]
      simp only [putAll, Act.put, List.setIfInBounds_toArray, List.set_cons_succ, List.set_cons_zero]
      refine wpMix_hnew rfl rfl (fun _ hb => hSk.trans (hb.mono hSk.size)) ?_
      intro W0j kj hb'
      refine wpMix_nil ?_
      exact ⟨ptrB W0k.heap.size, by kernel_rfl, ⟨_, rfl, kj, hSk.size⟩, hb', fun g e => by cases e; exact Nat.le_refl _⟩
  · intro us W0t hS hF hA
    have e46 : us 46 = .agg (a.map B).toArray := hF 3 (by simp)
    have e50 : us 50 = .agg (b.map B).toArray := hF 7 (by simp)
    have e52 : us 52 = .agg (r.map B).toArray := hF 9 (by simp)
    obtain ⟨g8, e8, k8, h8⟩ : (Fc.hash w.heap.size (List.replicate 32 0)).ok (us 8) W0t := hF 10 (by simp)
    obtain ⟨g9, e9, k9, h9⟩ : (Fc.hash w.heap.size (List.replicate 32 0)).ok (us 9) W0t := hF 11 (by simp)
    obtain ⟨g10, e10, k10, h10⟩ : (Fc.hash w.heap.size (List.replicate 32 0)).ok (us 10) W0t := hF 12 (by simp)
    have n89 : g8 ≠ g9 := fun e => hA 10 (by simp) 11 (by simp) (by decide) g8 e8 (e ▸ e9)
    have n810 : g8 ≠ g10 := fun e => hA 10 (by simp) 12 (by simp) (by decide) g8 e8 (e ▸ e10)
    have n910 : g9 ≠ g10 := fun e => hA 11 (by simp) 12 (by simp) (by decide) g9 e9 (e ▸ e10)
    simp only [putAll, Act.put, List.setIfInBounds_toArray, List.set_cons_succ, List.set_cons_zero]
    rw [e46, e50, e52, e8, e9, e10]
    clear hF hA e46 e50 e52 e8 e9 e10
    show wpAnyH _ _ _ _ _ _ #[true, true, true, true, true, true, true, true, true, true, true, true, true, false, false, false] _ _
    refine wpAnyH_pre (f := 0) (by kernel_rfl) #[true, true, true, true, true, true, true, true, true, true, true, true, true, true, true, true] [(13, false), (14, false), (15, false)] _ _ _ (by kernel_rfl) hS ?_
    simp only [List.map_cons, List.map_nil, Array.getD_eq_getD_getElem?, List.getElem?_toArray, List.getElem?_cons_succ, List.getElem?_cons_zero, Option.getD_some]
    refine wpMix_hset (.tmp 8) (.tmp 46) rfl rfl k8 rfl rfl Hal.out (fun _ hb => hS.trans (hb.mono h8)) ?_
    intro W0_1 k8s hb' hoth
    simp only [Act.put]
    replace hS := hS.trans (hb'.mono h8)
    replace k9 := hoth _ _ n89.symm k9
    replace k10 := hoth _ _ n810.symm k10
    clear hb' hoth
    refine wpMix_hset (.tmp 9) (.tmp 50) rfl rfl k9 rfl rfl Hbl.out (fun _ hb => hS.trans (hb.mono h9)) ?_
    intro W0_2 k9s hb' hoth
    simp only [Act.put]
    replace hS := hS.trans (hb'.mono h9)
    replace k8s := hoth _ _ n89 k8s
    replace k10 := hoth _ _ n910.symm k10
    clear hb' hoth
    refine wpMix_hset (.tmp 10) (.tmp 52) rfl rfl k10 rfl rfl Hrl.out (fun _ hb => hS.trans (hb.mono h10)) ?_
    intro W0_3 k10s hb' hoth
    simp only [Act.put]
    replace hS := hS.trans (hb'.mono h10)
    replace k8s := hoth _ _ n810 k8s
    replace k9s := hoth _ _ n910 k9s
    clear hb' hoth
    refine wpMix_nil ?_
    intro _
    refine wpAnyH_end (by kernel_rfl) ?_
    have k8 := k8s
    have k9 := k9s
    have k10 := k10s
    clear k8s k9s k10s n89 n810 n910 h8 h9 h10
    go_wp2_with ((with_reducible show wpList _ _ _ (⟨some 56, .slice _ _ _ _ _, _, _, _, _⟩ :: _) _ _); refine wpList_run0 rfl (.slice A n c) (run_slice_op_hi (.tmp 54) (.tmp 55) rfl A ln c n rfl rfl (by omega) _) ?_; simp only [Act.put])
    refine (Hpr1.out W0_3 hS).mono ?_
    rintro e W1 ⟨vp, rfl, hop, hb'⟩
    replace hS := hS.trans (hb'.mono hS.size)
    obtain ⟨Ap, cp, rfl, hp⟩ := Hs.of_owns hop Hnp.out Hp32.out
    replace hp := hp.weak (Y := fun _ => True) fun _ _ _ => trivial
    have hrp := hp.sl.room
    have hmp := hp.sl.max
    unfold maxLen at hmp
    replace k8 := k8.step hb'
    replace k9 := k9.step hb'
    replace k10 := k10.step hb'
    clear hb' hop Hpr1
    go_wp2_with fail
    refine (Hpr2.out W1 hS).mono ?_
    rintro e W2 ⟨vq, rfl, hoq, hb'⟩
    replace hS := hS.trans (hb'.mono hS.size)
    obtain ⟨Aq, cq, rfl, hq⟩ := Hs.of_owns hoq Hnq.out Hq32.out
    replace hq := hq.weak (Y := fun _ => True) fun _ _ _ => trivial
    have hrq := hq.sl.room
    have hmq := hq.sl.max
    unfold maxLen at hmq
    replace k8 := k8.step hb'
    replace k9 := k9.step hb'
    replace k10 := k10.step hb'
    replace hp := hp.step hb'
    clear hb' hoq Hpr2
    go_wp2_with fail
    refine (Hpr3.out W2 hS).mono ?_
    rintro e W3 ⟨vs, rfl, hos, hb'⟩
    replace hS := hS.trans (hb'.mono hS.size)
    obtain ⟨As, cs, rfl, hs⟩ := Hs.of_owns hos Hns.out Hs32.out
    replace hs := hs.weak (Y := fun _ => True) fun _ _ _ => trivial
    have hrs := hs.sl.room
    have hms := hs.sl.max
    unfold maxLen at hms
    replace k8 := k8.step hb'
    replace k9 := k9.step hb'
    replace k10 := k10.step hb'
    replace hp := hp.step hb'
    replace hq := hq.step hb'
    clear hb' hos Hpr3
    go_wp2_with (first
      | ((with_reducible show wpList _ _ _ (⟨some 85, .load _ _, _, _, _, _⟩ :: _) _ _); refine wpList_hload (.tmp 8) (by kernel_rfl) rfl k8 rfl ?_; simp only [Act.put])
      | ((with_reducible show wpList _ _ _ (⟨some 86, .load _ _, _, _, _, _⟩ :: _) _ _); refine wpList_hload (.tmp 9) (by kernel_rfl) rfl k9 rfl ?_; simp only [Act.put]))
    refine (Hc1.out Ap cp W3 hp).mono ?_
    rintro e W4 ⟨rfl, hb'⟩
    replace hS := hS.trans (hb'.mono hS.size)
    replace k8 := k8.step hb'
    replace k9 := k9.step hb'
    replace k10 := k10.step hb'
    replace hq := hq.step hb'
    replace hs := hs.step hb'
    clear hb' Hc1
    go_wp2_with (first
      | ((with_reducible show wpList _ _ _ (⟨some 93, .load _ _, _, _, _, _⟩ :: _) _ _); refine wpList_hload (.tmp 9) (by kernel_rfl) rfl k9 rfl ?_; simp only [Act.put])
      | ((with_reducible show wpList _ _ _ (⟨some 94, .load _ _, _, _, _, _⟩ :: _) _ _); refine wpList_hload (.tmp 10) (by kernel_rfl) rfl k10 rfl ?_; simp only [Act.put]))
    refine (Hc2.out Aq cq W4 hq).mono ?_
    rintro e W5 ⟨rfl, hb'⟩
    replace hS := hS.trans (hb'.mono hS.size)
    replace k8 := k8.step hb'
    replace k9 := k9.step hb'
    replace k10 := k10.step hb'
    replace hs := hs.step hb'
    clear hb' Hc2
    go_wp2_with (first
      | ((with_reducible show wpList _ _ _ (⟨some 102, .load _ _, _, _, _, _⟩ :: _) _ _); refine wpList_hload (.tmp 8) (by kernel_rfl) rfl k8 rfl ?_; simp only [Act.put])
      | ((with_reducible show wpList _ _ _ (⟨some 103, .load _ _, _, _, _, _⟩ :: _) _ _); refine wpList_hload (.tmp 10) (by kernel_rfl) rfl k10 rfl ?_; simp only [Act.put]))
    refine (Hc3.out As cs W5 hs).mono ?_
    rintro e W6 ⟨rfl, hb'⟩
    replace hS := hS.trans (hb'.mono hS.size)
    replace k8 := k8.step hb'
    replace k9 := k9.step hb'
    replace k10 := k10.step hb'
    clear hb' Hc3
    go_wp2_with (go_at_call 39; refine (known12_any _).mono ?_; rintro e W7 ⟨rfl, hb'⟩)
    go_ret
    exact ⟨rfl, hS.trans (hb'.mono hS.size)⟩
end Go.Proofs.Ytgcbdnoniikboaa
