/- cons.Checks, notaryref12.Checks. -/
import Derived.Test.YtgcbdnoniikboaaQb135
import Derived.Test.YtgcbdnoniikboaaQb139
import Derived.Test.YtgcbdnoniikboaaQb130
import Derived.Lib.MinMax
import Derived.Test.YtgcbdnoniikboaaQb116
namespace Go.Proofs.Ytgcbdnoniikboaa
open Go Go.RowKit Go.Shelf
attribute [local go_sem] Oper.semAt_some

theorem ng_ret {Q : Exit → Act → World → Prop} {a : Act} {w : World} (h : Q .ret a w) : Exit.noGoto Q .ret a w := h
theorem checksGo_step (f : Nat → Int) (m k : Nat) (hk : k < m) : checksGo f (m - k) k = if f k = 0 then checksGo f (m - (k + 1)) (k + 1) else (k, f k) := by
  rw [show m - k = (m - (k + 1)) + 1 by omega]
  rfl
theorem checksGo_end (f : Nat → Int) (m : Nat) : checksGo f (m - m) m = (m, 0) := by rw [Nat.sub_self]; rfl

set_option maxHeartbeats 4000000 in
set_option maxRecDepth 100000 in
theorem cchecks_any (ps : List PtV) (A : Option Addr) (n c : Nat) (prs : List (List (List UInt8))) (Ap : Option Addr) (m cp : Nat) (vs : List Value) (w : World) (h : Pts w (fun _ => True) A n c ps) (h2 : HsS w (fun _ => True) Ap m cp vs prs) (hsz : ∀ p ∈ ps, p.1 ≤ 9223372036854775807) :
    Calls Try.prog 53 #[.slice A n c, .slice Ap m cp] w fun e w' => e = .returned (.tuple #[.int .i64 ((checksA ps prs).1 : Int), .int .i64 (checksA ps prs).2]) ∧ Below w.heap.size w w' := by
  have hroom := h.sl.room
  have hmx := h.sl.max
  unfold maxLen at hmx
  have hroom2 := h2.out.room
  have hmx2 := h2.out.max
  unfold maxLen at hmx2
  have hlen := h.len
  have hlen2 := h2.len
  obtain ⟨r, hr⟩ : ∃ r, checksA ps prs = r := ⟨_, rfl⟩
  rw [hr]
  unfold checksA at hr
  rw [hlen, hlen2] at hr
  have hmax : max (0 : Int) ((n : Int) - 1) = ((n - 1 : Nat) : Int) := by omega
  have hw1 : IntKind.i64.wrap ((n : Int) - 1) = (n : Int) - 1 := IntWalk.i64_in _ (by omega)
  have Hlen := Lib.hid hlen
  have Hlen2 := Lib.hid hlen2
  by_cases hmn : m ≠ n - 1
  · have hne : ((m : Int) != ((n - 1 : Nat) : Int)) = true := by simp; omega
    rw [if_pos hmn] at hr
    subst hr
    clear hlen hlen2
    go_enter Try.func53, Try.ntmps53
    go_wp2_with fail
    refine wp_scope_straight ?_
    go_wp2_with (((with_reducible show wpList _ _ _ (⟨some 17, .call _, _, _, _, _⟩ :: _) _ _); refine wpList_run0 rfl (.int .i64 ((n - 1 : Nat) : Int)) (by unfold execOp; simp [go_sem, Lib.run_max_ints, hmax]) ?_; simp only [Act.put]))
    refine ng_ret ?_
    exact bodyPost_ret (results_tmp2 rfl _ _ _) rfl ⟨rfl, Below.refl _ _⟩
  have hmn : m = n - 1 := by simpa using hmn
  rw [if_neg (by simpa using hmn)] at hr
  have hne : ((m : Int) != ((n - 1 : Nat) : Int)) = false := by simp; omega
  have Hr := Lib.hid hr
  have Hmn := Lib.hid hmn
  clear hlen hlen2 hr hmn
  go_enter Try.func53, Try.ntmps53
  go_wp2_with fail
  refine wp_scope_straight ?_
  go_upto_region 3 with (((with_reducible show wpList _ _ _ (⟨some 17, .call _, _, _, _, _⟩ :: _) _ _); refine wpList_run0 rfl (.int .i64 ((n - 1 : Nat) : Int)) (by unfold execOp; simp [go_sem, Lib.run_max_ints, hmax]) ?_; simp only [Act.put]))
  go_wp2_with fail
  refine wp_label ?_
  go_wp2_with fail
  go_loopw [6, 7, 8, 9, 10, 11, 21] (fun v6 v7 _ _ _ _ v21 wr => ∃ (k : Nat), k ≤ m ∧ v6 = .int .i64 (k : Int) ∧ v7 = .int .i64 0 ∧ v21 = .int .i64 (k : Int) ∧ Below w.heap.size w wr ∧ checksGo (checksF ps prs) (m - k) k = r) (fun _ _ _ _ _ _ v21 _ => m - (intOf v21).toNat)
  case atStart => exact ⟨0, Nat.zero_le _, rfl, rfl, rfl, Below.refl _ _, Hr.out⟩
  case round =>
    obtain ⟨k, hk, rfl, rfl, rfl, hbr, hgo⟩ := hrel
    by_cases hkm : k < m
    · have hd : decide ((k : Int) < (m : Int)) = true := by simp; omega
      rw [checksGo_step _ _ _ hkm] at hgo
      have hkn : k + 1 < n := by have := Hmn.out; omega
      obtain ⟨b, o, rfl, hbb, -⟩ := h.at_ (by omega)
      obtain ⟨bp, op, rfl, hbp, -, -⟩ := h2.out.at_ (by omega) (by decide)
      obtain ⟨Ai, ci, hv, hHs⟩ := h2.ins k (by rw [Hlen2.out]; exact hkm)
      obtain ⟨p, hp⟩ : ∃ p, prs[k]'(by rw [Hlen2.out]; exact hkm) = p := ⟨_, rfl⟩
      have hpg : prs.getD k [] = p := by rw [List.getD_eq_getElem?_getD, List.getElem?_eq_getElem (by rw [Hlen2.out]; exact hkm)]; exact hp
      rw [hp] at hv hHs
      obtain ⟨⟨x, l⟩, hpk⟩ : ∃ q, ps.getD k ptD = q := ⟨_, rfl⟩
      obtain ⟨⟨y, q⟩, hpk1⟩ : ∃ q, ps.getD (k + 1) ptD = q := ⟨_, rfl⟩
      have hll : l.length = 32 := by have := h.all.getD k (by rw [Hlen.out]; omega); rw [hpk] at this; exact this
      have hql : q.length = 32 := by have := h.all.getD (k + 1) (by rw [Hlen.out]; omega); rw [hpk1] at this; exact this
      have hyn : y ≤ 9223372036854775807 := by
        have := hsz (ps.getD (k + 1) ptD) (by rw [List.getD_eq_getElem?_getD, List.getElem?_eq_getElem (by rw [Hlen.out]; exact hkn)]; exact List.getElem_mem _)
        rw [hpk1] at this
        exact this
      have hfk : checksF ps prs k = checkE x y l q p := by unfold checksF; rw [hpk, hpk1, hpg]
      have hck := fun W (hb : Below wr.heap.size wr W) => ccheck_any x y l q p Ai p.length ci W hyn hll hql ((hHs.step hbr).step hb)
      obtain ⟨z, hz⟩ : ∃ z, checkE x y l q p = z := ⟨_, rfl⟩
      rw [hfk, hz] at hgo
      rw [hz] at hck
      obtain ⟨pl, hpl⟩ : ∃ j, p.length = j := ⟨_, rfl⟩
      rw [hpl] at hv hck
      have hcv : wr.cell? ⟨bp, op + k, none⟩ = some (.slice Ai pl ci) := by
        obtain ⟨b', o', e, -, -, h4⟩ := (h2.out.step hbr).at_ (by omega) (by decide)
        cases e
        exact h4 k _ hv
      have Hck := Lib.hid hck
      have Hll := Lib.hid hll
      have Hql := Lib.hid hql
      have Hpk := Lib.hid hpk
      have Hpk1 := Lib.hid hpk1
      replace hbb := Nat.lt_of_lt_of_le hbb hbr.size
      replace hbp := Nat.lt_of_lt_of_le hbp hbr.size
      clear hck hfk hz hpl hll hql hpk hpk1 hpg hp hv hHs hyn
      have hbd1 : 0 ≤ (k : Int) + 1 ∧ (k : Int) + 1 < (n : Int) := by omega
      have hbd0 : k < n := by omega
      have hwk : IntKind.i64.wrap ((k : Int) + 1) = (k : Int) + 1 := IntWalk.i64_in _ (by omega)
      have hld0 : ∀ s : InC (fun W => Below wr.heap.size wr W), (Instr.loadAt 89 (.pointer (some ⟨b, o + k * 33, none⟩))).run Try.prog s.W = .ok (.agg (.int .i64 x :: l.map B).toArray) s.W := fun s => by
        have := ((h.step hbr).step s.ok).load rfl k hbd0
        rw [Hpk.out] at this
        exact this
      have hld1 : ∀ s : InC (fun W => Below wr.heap.size wr W), (Instr.loadAt 89 (.pointer (some ⟨b, o + (k + 1) * 33, none⟩))).run Try.prog s.W = .ok (.agg (.int .i64 y :: q.map B).toArray) s.W := fun s => by
        have := ((h.step hbr).step s.ok).load rfl (k + 1) hkn
        rw [Hpk1.out] at this
        exact this
      have Hl0 := Lib.hid hld0
      have Hl1 := Lib.hid hld1
      clear hld0 hld1
      go_wp2_with fail
      have hS : Below (wr.heap.size) wr wr.drew := (Below.refl _ _).drew
      refine wp_region_begin (fun W => Below (wr.heap.size) wr W) (by kernel_rfl) hS fun _ => ?_
      generalize wr.drew = W0 at hS  ⊢
      refine wpAnyH_pre (f := 4) (by kernel_rfl) #[true, true, true, true, true, true, true, true, true, false, false, false, false] [(0, true), (1, true), (2, true), (3, true), (4, true), (5, true), (6, true), (7, true), (8, true)] _ _ _ (by kernel_rfl) hS ?_
      simp only [List.map_cons, List.map_nil, Array.getD_eq_getD_getElem?, List.getElem?_toArray, List.getElem?_cons_succ, List.getElem?_cons_zero, Option.getD_some]
      refine wpMix_s (fun K hK => ?_)
      go_simp
      refine hK _ ?_
      clear hK K
      refine wpMix_s (fun K hK => ?_)
      go_simp
      refine hK _ ?_
      clear hK K
      refine wpMix_s (fun K hK => ?_)
      go_simp
      refine hK _ ?_
      clear hK K
      refine wpMix_load (by kernel_rfl) 89 (.tmp 28) rfl (b) (o + k * 33) rfl (.int .i64 x :: l.map B).toArray (Hl0.out) ?_
      simp only [Act.put]
      refine wpMix_s (fun K hK => ?_)
      go_simp
      refine hK _ ?_
      clear hK K
      refine wpMix_s (fun K hK => ?_)
      go_simp
      refine hK _ ?_
      clear hK K
      refine wpMix_s (fun K hK => ?_)
      go_simp
      refine hK _ ?_
      clear hK K
      refine wpMix_s (fun K hK => ?_)
      go_simp
      refine hK _ ?_
      clear hK K
      refine wpMix_load (by kernel_rfl) 89 (.tmp 33) rfl (b) (o + (k + 1) * 33) rfl (.int .i64 y :: q.map B).toArray (Hl1.out) ?_
      simp only [Act.put]
      refine wpMix_nil ?_
      intro _
      show wpAnyH _ _ _ _ _ _ #[true, true, true, true, true, true, true, true, true, false, false, false, false] _ _
      refine wpAnyH_many [9, 10] (fun _ => []) (fun k => if k = 9 then 10 else if k = 10 then 11 else 0) (fun k => if k = 9 then Fc.pt wr.heap.size 0 (List.replicate 32 0) else Fc.pt wr.heap.size 0 (List.replicate 32 0)) [10, 11] 2 (fun j => if j = 10 then u10 else u11) (by kernel_rfl) (by decide) (by decide) (by kernel_rfl) hS ?_ ?_
      · refine List.forall_mem_cons.2 ⟨?k9, List.forall_mem_cons.2 ⟨?k10, fun _ h => by cases h⟩⟩
        case k9 =>
          intro us W0k hSk hneed
          simp only [Array.getD_eq_getD_getElem?, List.getElem?_toArray, List.getElem?_cons_succ, List.getElem?_cons_zero, Option.getD_some]
          simp only [putAll, Act.put, List.setIfInBounds_toArray, List.set_cons_succ, List.set_cons_zero]
          refine wpMix_pnew rfl rfl (fun _ hb => hSk.trans (hb.mono hSk.size)) ?_
          intro W0kj kj hb'
          refine wpMix_nil ?_
          exact ⟨ptrB W0k.heap.size, by kernel_rfl, ⟨_, rfl, kj, hSk.size⟩, hb', fun g e => by cases e; exact Nat.le_refl _⟩
        case k10 =>
          intro us W0k hSk hneed
          simp only [Array.getD_eq_getD_getElem?, List.getElem?_toArray, List.getElem?_cons_succ, List.getElem?_cons_zero, Option.getD_some]
          simp only [putAll, Act.put, List.setIfInBounds_toArray, List.set_cons_succ, List.set_cons_zero]
          refine wpMix_pnew rfl rfl (fun _ hb => hSk.trans (hb.mono hSk.size)) ?_
          intro W0kj kj hb'
          refine wpMix_nil ?_
          exact ⟨ptrB W0k.heap.size, by kernel_rfl, ⟨_, rfl, kj, hSk.size⟩, hb', fun g e => by cases e; exact Nat.le_refl _⟩
      · intro us W0t hS hF hA
        obtain ⟨g10, e10, k10, h10⟩ : (Fc.pt wr.heap.size 0 (List.replicate 32 0)).ok (us 10) W0t := hF 9 (by simp)
        obtain ⟨g11, e11, k11, h11⟩ : (Fc.pt wr.heap.size 0 (List.replicate 32 0)).ok (us 11) W0t := hF 10 (by simp)
        have n1011 : g10 ≠ g11 := fun e => hA 9 (by simp) 10 (by simp) (by decide) g10 e10 (e ▸ e11)
        simp only [putAll, Act.put, List.setIfInBounds_toArray, List.set_cons_succ, List.set_cons_zero]
        rw [e10, e11]
        clear hF hA e10 e11
        show wpAnyH _ _ _ _ _ _ #[true, true, true, true, true, true, true, true, true, true, true, false, false] _ _
        refine wpAnyH_pre (f := 0) (by kernel_rfl) #[true, true, true, true, true, true, true, true, true, true, true, true, true] [(11, false), (12, false)] _ _ _ (by kernel_rfl) hS ?_
        simp only [List.map_cons, List.map_nil, Array.getD_eq_getD_getElem?, List.getElem?_toArray, List.getElem?_cons_succ, List.getElem?_cons_zero, Option.getD_some]
        refine wpMix_pset (.tmp 10) (.tmp 29) rfl rfl k10 rfl rfl Hll.out (fun _ hb => hS.trans (hb.mono h10)) ?_
        intro W0ts k10s hb' hoth
        simp only [Act.put]
        replace hS := hS.trans (hb'.mono h10)
        replace k11 := hoth _ _ _ n1011.symm k11
        clear hb' hoth
        refine wpMix_pset (.tmp 11) (.tmp 34) rfl rfl k11 rfl rfl Hql.out (fun _ hb => hS.trans (hb.mono h11)) ?_
        intro W0tss k11s hb' hoth
        simp only [Act.put]
        replace hS := hS.trans (hb'.mono h11)
        replace k10s := hoth _ _ _ n1011 k10s
        clear hb' hoth
        refine wpMix_nil ?_
        intro _
        refine wpAnyH_end (by kernel_rfl) ?_
        have c10 := k10s.size
        have c11 := k11s.size
        have l10 := k10s.hash
        have l11 := k11s.hash
        clear h10 h11 n1011
        go_wp2_with (first
          | ((with_reducible show wpList _ _ _ (⟨some 40, .load _ _, _, _, _, _⟩ :: _) _ _); refine wpList_run0 rfl (.agg (l.map B).toArray) (run_load_op 34 (.tmp 39) rfl g10 1 rfl _ l10) ?_; simp only [Act.put])
          | ((with_reducible show wpList _ _ _ (⟨some 42, .load _ _, _, _, _, _⟩ :: _) _ _); refine wpList_run0 rfl (.agg (q.map B).toArray) (run_load_op 34 (.tmp 41) rfl g11 1 rfl _ l11) ?_; simp only [Act.put]))
        refine (Hck.out W0tss hS).mono ?_
        rintro e W9 ⟨rfl, hb'⟩
        have hB9 := hbr.trans ((hS.trans (hb'.mono hS.size)).mono hbr.size)
        clear hb' hS k10s k11s c10 c11 l10 l11
        by_cases hz0 : z = 0
        · subst hz0
          rw [if_pos rfl] at hgo
          go_wp2_with fail
          go_roundw
          case rel => exact ⟨k + 1, by omega, rfl, rfl, rfl, hB9, hgo⟩
          case measure => simp [intOf]; omega
        · have hzb : (z != 0) = true := by simp; exact hz0
          rw [if_neg hz0] at hgo
          subst hgo
          go_wp2_with fail
          refine ng_ret ?_
          exact bodyPost_ret (results_tmp2 rfl _ _ _) rfl ⟨rfl, hB9⟩
    · obtain rfl : k = m := by omega
      have hd : decide ((k : Int) < (k : Int)) = false := by simp
      rw [checksGo_end] at hgo
      subst hgo
      go_wp2_with fail
      refine ng_ret ?_
      exact bodyPost_ret (results_tmp2 rfl _ _ _) rfl ⟨rfl, hbr⟩

set_option maxHeartbeats 4000000 in
set_option maxRecDepth 100000 in
theorem rchecks_any (ps : List PtV) (A : Option Addr) (n c : Nat) (prs : List (List (List UInt8))) (Ap : Option Addr) (m cp : Nat) (vs : List Value) (w : World) (h : Pts w (fun _ => True) A n c ps) (h2 : HsS w (fun _ => True) Ap m cp vs prs) (hsz : ∀ p ∈ ps, p.1 ≤ 9223372036854775807) :
    Calls Try.prog 54 #[.slice A n c, .slice Ap m cp] w fun e w' => e = .returned (.tuple #[.int .i64 ((checksA ps prs).1 : Int), .int .i64 (checksA ps prs).2]) ∧ Below w.heap.size w w' := by
  have hroom := h.sl.room
  have hmx := h.sl.max
  unfold maxLen at hmx
  have hroom2 := h2.out.room
  have hmx2 := h2.out.max
  unfold maxLen at hmx2
  have hlen := h.len
  have hlen2 := h2.len
  obtain ⟨r, hr⟩ : ∃ r, checksA ps prs = r := ⟨_, rfl⟩
  rw [hr]
  unfold checksA at hr
  rw [hlen, hlen2] at hr
  have hw1 : IntKind.i64.wrap ((n : Int) - 1) = (n : Int) - 1 := IntWalk.i64_in _ (by omega)
  have Hlen := Lib.hid hlen
  have Hlen2 := Lib.hid hlen2
  by_cases hmn : m ≠ n - 1
  · rw [if_pos hmn] at hr
    subst hr
    by_cases hn0 : n = 0
    · have he0 : ((n : Int) == 0) = true := by simp; omega
      have hm0 : decide ((0 : Int) < (m : Int)) = true := by simp; omega
      have hmz : 0 < m := by omega
      clear hlen hlen2
      go_enter Try.func54, Try.ntmps54
      go_wp2_with fail
      exact bodyPost_ret (results_tmp2 rfl _ _ _) rfl ⟨rfl, Below.refl _ _⟩
    · have he0 : ((n : Int) == 0) = false := by simp; omega
      have hm0 : decide ((0 : Int) < (n : Int)) = true := by simp; omega
      have hmz : 0 < n := by omega
      have hne : ((m : Int) != (n : Int) - 1) = true := by simp; omega
      clear hlen hlen2
      go_enter Try.func54, Try.ntmps54
      go_wp2_with fail
      exact bodyPost_ret (results_tmp2 rfl _ _ _) rfl ⟨rfl, Below.refl _ _⟩
  have hmn : m = n - 1 := by simpa using hmn
  rw [if_neg (by simpa using hmn)] at hr
  have Hr := Lib.hid hr
  have Hmn := Lib.hid hmn
  by_cases hn0 : n = 0
  · have he0 : ((n : Int) == 0) = true := by simp; omega
    have hm0 : decide ((0 : Int) < (m : Int)) = false := by simp; omega
    have hm1 : decide ((0 : Int) < (n : Int)) = false := by simp; omega
    have hdd : decide ((0 : Int) < (0 : Int)) = false := by simp
    have hmz : ¬ 0 < m := by omega
    have hnz : ¬ 0 < n := by omega
    have Hn0 := Lib.hid hn0
    clear hlen hlen2 hr hmn hn0
    go_enter Try.func54, Try.ntmps54
    go_upto_region 3 with fail
    go_wp2_with fail
    go_loopw [6, 7] (fun v6 _ wr => ∃ (k : Nat), k ≤ m ∧ v6 = .int .i64 (k : Int) ∧ Below w.heap.size w wr ∧ checksGo (checksF ps prs) (m - k) k = r) (fun v6 _ _ => m - (intOf v6).toNat)
    case atStart => exact ⟨0, Nat.zero_le _, rfl, Below.refl _ _, Hr.out⟩
    case round =>
        obtain ⟨k, hk, rfl, hbr, hgo⟩ := hrel
        by_cases hkm : k < m
        · have hd : decide ((k : Int) < (m : Int)) = true := by simp; omega
          rw [checksGo_step _ _ _ hkm] at hgo
          have hkn : k + 1 < n := by have := Hmn.out; omega
          obtain ⟨b, o, rfl, hbb, -⟩ := h.at_ (by omega)
          obtain ⟨bp, op, rfl, hbp, -, -⟩ := h2.out.at_ (by omega) (by decide)
          obtain ⟨Ai, ci, hv, hHs⟩ := h2.ins k (by rw [Hlen2.out]; exact hkm)
          obtain ⟨p, hp⟩ : ∃ p, prs[k]'(by rw [Hlen2.out]; exact hkm) = p := ⟨_, rfl⟩
          have hpg : prs.getD k [] = p := by rw [List.getD_eq_getElem?_getD, List.getElem?_eq_getElem (by rw [Hlen2.out]; exact hkm)]; exact hp
          rw [hp] at hv hHs
          obtain ⟨⟨x, l⟩, hpk⟩ : ∃ q, ps.getD k ptD = q := ⟨_, rfl⟩
          obtain ⟨⟨y, q⟩, hpk1⟩ : ∃ q, ps.getD (k + 1) ptD = q := ⟨_, rfl⟩
          have hll : l.length = 32 := by have := h.all.getD k (by rw [Hlen.out]; omega); rw [hpk] at this; exact this
          have hql : q.length = 32 := by have := h.all.getD (k + 1) (by rw [Hlen.out]; omega); rw [hpk1] at this; exact this
          have hyn : y ≤ 9223372036854775807 := by
            have := hsz (ps.getD (k + 1) ptD) (by rw [List.getD_eq_getElem?_getD, List.getElem?_eq_getElem (by rw [Hlen.out]; exact hkn)]; exact List.getElem_mem _)
            rw [hpk1] at this
            exact this
          have hfk : checksF ps prs k = checkE x y l q p := by unfold checksF; rw [hpk, hpk1, hpg]
          have hck := fun W (hb : Below wr.heap.size wr W) => rcheck_any x y l q p Ai p.length ci W hyn hll hql ((hHs.step hbr).step hb)
          obtain ⟨z, hz⟩ : ∃ z, checkE x y l q p = z := ⟨_, rfl⟩
          rw [hfk, hz] at hgo
          rw [hz] at hck
          obtain ⟨pl, hpl⟩ : ∃ j, p.length = j := ⟨_, rfl⟩
          rw [hpl] at hv hck
          have hcv : wr.cell? ⟨bp, op + k, none⟩ = some (.slice Ai pl ci) := by
            obtain ⟨b', o', e, -, -, h4⟩ := (h2.out.step hbr).at_ (by omega) (by decide)
            cases e
            exact h4 k _ hv
          have Hck := Lib.hid hck
          have Hll := Lib.hid hll
          have Hql := Lib.hid hql
          have Hpk := Lib.hid hpk
          have Hpk1 := Lib.hid hpk1
          replace hbb := Nat.lt_of_lt_of_le hbb hbr.size
          replace hbp := Nat.lt_of_lt_of_le hbp hbr.size
          clear hck hfk hz hpl hll hql hpk hpk1 hpg hp hv hHs hyn
          have hbd1 : 0 ≤ (k : Int) + 1 ∧ (k : Int) + 1 < (n : Int) := by omega
          have hbd0 : k < n := by omega
          have hwk : IntKind.i64.wrap ((k : Int) + 1) = (k : Int) + 1 := IntWalk.i64_in _ (by omega)
          have hld0 : ∀ s : InC (fun W => Below wr.heap.size wr W), (Instr.loadAt 34 (.pointer (some ⟨b, o + k * 33 + 1, none⟩))).run Try.prog s.W = .ok (.agg (l.map B).toArray) s.W := fun s => by
            have := ((h.step hbr).step s.ok).root rfl k hbd0
            rw [Hpk.out] at this
            exact this
          have hld1 : ∀ s : InC (fun W => Below wr.heap.size wr W), (Instr.loadAt 34 (.pointer (some ⟨b, o + (k + 1) * 33 + 1, none⟩))).run Try.prog s.W = .ok (.agg (q.map B).toArray) s.W := fun s => by
            have := ((h.step hbr).step s.ok).root rfl (k + 1) hkn
            rw [Hpk1.out] at this
            exact this
          have c0 : ∀ s : InC (fun W => Below wr.heap.size wr W), s.W.cell? ⟨b, o + k * 33, none⟩ = some (.int .i64 x) := fun s => by
            have := ((h.step hbr).step s.ok).size rfl k hbd0
            rw [Hpk.out] at this
            exact this
          have c1 : ∀ s : InC (fun W => Below wr.heap.size wr W), s.W.cell? ⟨b, o + (k + 1) * 33, none⟩ = some (.int .i64 y) := fun s => by
            have := ((h.step hbr).step s.ok).size rfl (k + 1) hkn
            rw [Hpk1.out] at this
            exact this
          have cv : ∀ s : InC (fun W => Below wr.heap.size wr W), s.W.cell? ⟨bp, op + k, none⟩ = some (.slice Ai pl ci) := fun s => by rw [s.ok.cell (p := ⟨bp, op + k, none⟩) hbp]; exact hcv
          have Hl0 := Lib.hid hld0
          have Hl1 := Lib.hid hld1
          clear hld0 hld1 hcv
          go_wp2_with fail
          have hS : Below wr.heap.size wr wr.drew := (Below.refl _ _).drew
          refine wp_region_mix (fun W => Below wr.heap.size wr W) [(0, true), (1, true), (2, true), (3, true), (4, true), (5, true), (6, true), (7, true), (8, true), (9, true), (10, true), (11, true), (12, true), (13, true), (14, true), (15, true), (16, true), (17, true), (18, true), (19, true), (20, true), (21, true), (22, true), (23, true), (24, true), (25, true), (26, false), (27, true)] (by kernel_rfl) (by kernel_rfl) hS fun _ => ?_
          simp only [List.map_cons, List.map_nil, Array.getD_eq_getD_getElem?, List.getElem?_toArray, List.getElem?_cons_succ, List.getElem?_cons_zero, Option.getD_some]
          generalize wr.drew = u9 at hS ⊢
          refine wpMix_s (fun K hK => ?_)
          go_simp
          refine hK _ ?_
          clear hK K
          refine wpMix_s (fun K hK => ?_)
          go_simp
          refine hK _ ?_
          clear hK K
          refine wpMix_s (fun K hK => ?_)
          go_simp
          refine hK _ ?_
          clear hK K
          refine wpMix_s (fun K hK => ?_)
          go_simp
          refine hK _ ?_
          clear hK K
          refine wpMix_s (fun K hK => ?_)
          go_simp
          refine hK _ ?_
          clear hK K
          refine wpMix_s (fun K hK => ?_)
          go_simp
          refine hK _ ?_
          clear hK K
          refine wpMix_s (fun K hK => ?_)
          go_simp
          refine hK _ ?_
          clear hK K
          refine wpMix_s (fun K hK => ?_)
          go_simp
          refine hK _ ?_
          clear hK K
          refine wpMix_s (fun K hK => ?_)
          go_simp
          refine hK _ ?_
          clear hK K
          refine wpMix_s (fun K hK => ?_)
          go_simp
          refine hK _ ?_
          clear hK K
          refine wpMix_s (fun K hK => ?_)
          go_simp
          refine hK _ ?_
          clear hK K
          refine wpMix_s (fun K hK => ?_)
          go_simp
          refine hK _ ?_
          clear hK K
          refine wpMix_s (fun K hK => ?_)
          go_simp
          refine hK _ ?_
          clear hK K
          refine wpMix_s (fun K hK => ?_)
          go_simp
          refine hK _ ?_
          clear hK K
          refine wpMix_s (fun K hK => ?_)
          go_simp
          refine hK _ ?_
          clear hK K
          refine wpMix_load (by kernel_rfl) 34 (.tmp 49) rfl (b) (o + k * 33 + 1) rfl (l.map B).toArray (Hl0.out) ?_
          simp only [Act.put]
          refine wpMix_s (fun K hK => ?_)
          go_simp
          refine hK _ ?_
          clear hK K
          refine wpMix_s (fun K hK => ?_)
          go_simp
          refine hK _ ?_
          clear hK K
          refine wpMix_s (fun K hK => ?_)
          go_simp
          refine hK _ ?_
          clear hK K
          refine wpMix_s (fun K hK => ?_)
          go_simp
          refine hK _ ?_
          clear hK K
          refine wpMix_s (fun K hK => ?_)
          go_simp
          refine hK _ ?_
          clear hK K
          refine wpMix_load (by kernel_rfl) 34 (.tmp 55) rfl (b) (o + (k + 1) * 33 + 1) rfl (q.map B).toArray (Hl1.out) ?_
          simp only [Act.put]
          refine wpMix_s (fun K hK => ?_)
          go_simp
          refine hK _ ?_
          clear hK K
          refine wpMix_s (fun K hK => ?_)
          go_simp
          refine hK _ ?_
          clear hK K
          refine wpMix_s (fun K hK => ?_)
          go_simp
          refine hK _ ?_
          clear hK K
          refine wpMix_s (fun K hK => ?_)
          go_simp
          refine hK _ ?_
          clear hK K
          refine wpMix_c (fun K hK => ?_) hS
          go_simp
          refine (Hck.out u9 hS).mono ?_
          rintro e u9_1 ⟨rfl, hb'⟩
          refine hK _ _ ?_
          clear hK K
          replace hS := hS.trans (hb'.mono hS.size)
          refine ⟨hS, ?_⟩
          have hB9 := hbr.trans (hS.mono hbr.size)
          clear hb'
          refine wpMix_s (fun K hK => ?_)
          go_simp
          refine hK _ ?_
          clear hK K
          refine wpMix_nil ?_
          intro _
          clear hS
          by_cases hz0 : z = 0
          · subst hz0
            rw [if_pos rfl] at hgo
            go_wp2_with fail
            go_roundw
            case rel => exact ⟨k + 1, by omega, rfl, hB9, hgo⟩
            case measure => simp [intOf]; omega
          · have hzb : (z != 0) = true := by simp; exact hz0
            rw [if_neg hz0] at hgo
            subst hgo
            go_wp2_with fail
            exact bodyPost_ret (results_tmp2 rfl _ _ _) rfl ⟨rfl, hB9⟩
        · obtain rfl : k = m := by omega
          have hd : decide ((k : Int) < (k : Int)) = false := by simp
          rw [checksGo_end] at hgo
          subst hgo
          go_wp2_with fail
          exact bodyPost_ret (results_tmp2 rfl _ _ _) rfl ⟨rfl, hbr⟩
  · have he0 : ((n : Int) == 0) = false := by simp; omega
    have hm0 : decide ((0 : Int) < (n : Int)) = true := by simp; omega
    have hmz : 0 < n := by omega
    have hne : ((m : Int) != (n : Int) - 1) = false := by simp; omega
    clear hlen hlen2 hr hmn hn0
    go_enter Try.func54, Try.ntmps54
    go_upto_region 3 with fail
    go_wp2_with fail
    go_loopw [6, 7] (fun v6 _ wr => ∃ (k : Nat), k ≤ m ∧ v6 = .int .i64 (k : Int) ∧ Below w.heap.size w wr ∧ checksGo (checksF ps prs) (m - k) k = r) (fun v6 _ _ => m - (intOf v6).toNat)
    case atStart => exact ⟨0, Nat.zero_le _, rfl, Below.refl _ _, Hr.out⟩
    case round =>
        obtain ⟨k, hk, rfl, hbr, hgo⟩ := hrel
        by_cases hkm : k < m
        · have hd : decide ((k : Int) < (m : Int)) = true := by simp; omega
          rw [checksGo_step _ _ _ hkm] at hgo
          have hkn : k + 1 < n := by have := Hmn.out; omega
          obtain ⟨b, o, rfl, hbb, -⟩ := h.at_ (by omega)
          obtain ⟨bp, op, rfl, hbp, -, -⟩ := h2.out.at_ (by omega) (by decide)
          obtain ⟨Ai, ci, hv, hHs⟩ := h2.ins k (by rw [Hlen2.out]; exact hkm)
          obtain ⟨p, hp⟩ : ∃ p, prs[k]'(by rw [Hlen2.out]; exact hkm) = p := ⟨_, rfl⟩
          have hpg : prs.getD k [] = p := by rw [List.getD_eq_getElem?_getD, List.getElem?_eq_getElem (by rw [Hlen2.out]; exact hkm)]; exact hp
          rw [hp] at hv hHs
          obtain ⟨⟨x, l⟩, hpk⟩ : ∃ q, ps.getD k ptD = q := ⟨_, rfl⟩
          obtain ⟨⟨y, q⟩, hpk1⟩ : ∃ q, ps.getD (k + 1) ptD = q := ⟨_, rfl⟩
          have hll : l.length = 32 := by have := h.all.getD k (by rw [Hlen.out]; omega); rw [hpk] at this; exact this
          have hql : q.length = 32 := by have := h.all.getD (k + 1) (by rw [Hlen.out]; omega); rw [hpk1] at this; exact this
          have hyn : y ≤ 9223372036854775807 := by
            have := hsz (ps.getD (k + 1) ptD) (by rw [List.getD_eq_getElem?_getD, List.getElem?_eq_getElem (by rw [Hlen.out]; exact hkn)]; exact List.getElem_mem _)
            rw [hpk1] at this
            exact this
          have hfk : checksF ps prs k = checkE x y l q p := by unfold checksF; rw [hpk, hpk1, hpg]
          have hck := fun W (hb : Below wr.heap.size wr W) => rcheck_any x y l q p Ai p.length ci W hyn hll hql ((hHs.step hbr).step hb)
          obtain ⟨z, hz⟩ : ∃ z, checkE x y l q p = z := ⟨_, rfl⟩
          rw [hfk, hz] at hgo
          rw [hz] at hck
          obtain ⟨pl, hpl⟩ : ∃ j, p.length = j := ⟨_, rfl⟩
          rw [hpl] at hv hck
          have hcv : wr.cell? ⟨bp, op + k, none⟩ = some (.slice Ai pl ci) := by
            obtain ⟨b', o', e, -, -, h4⟩ := (h2.out.step hbr).at_ (by omega) (by decide)
            cases e
            exact h4 k _ hv
          have Hck := Lib.hid hck
          have Hll := Lib.hid hll
          have Hql := Lib.hid hql
          have Hpk := Lib.hid hpk
          have Hpk1 := Lib.hid hpk1
          replace hbb := Nat.lt_of_lt_of_le hbb hbr.size
          replace hbp := Nat.lt_of_lt_of_le hbp hbr.size
          clear hck hfk hz hpl hll hql hpk hpk1 hpg hp hv hHs hyn
          have hbd1 : 0 ≤ (k : Int) + 1 ∧ (k : Int) + 1 < (n : Int) := by omega
          have hbd0 : k < n := by omega
          have hwk : IntKind.i64.wrap ((k : Int) + 1) = (k : Int) + 1 := IntWalk.i64_in _ (by omega)
          have hld0 : ∀ s : InC (fun W => Below wr.heap.size wr W), (Instr.loadAt 34 (.pointer (some ⟨b, o + k * 33 + 1, none⟩))).run Try.prog s.W = .ok (.agg (l.map B).toArray) s.W := fun s => by
            have := ((h.step hbr).step s.ok).root rfl k hbd0
            rw [Hpk.out] at this
            exact this
          have hld1 : ∀ s : InC (fun W => Below wr.heap.size wr W), (Instr.loadAt 34 (.pointer (some ⟨b, o + (k + 1) * 33 + 1, none⟩))).run Try.prog s.W = .ok (.agg (q.map B).toArray) s.W := fun s => by
            have := ((h.step hbr).step s.ok).root rfl (k + 1) hkn
            rw [Hpk1.out] at this
            exact this
          have c0 : ∀ s : InC (fun W => Below wr.heap.size wr W), s.W.cell? ⟨b, o + k * 33, none⟩ = some (.int .i64 x) := fun s => by
            have := ((h.step hbr).step s.ok).size rfl k hbd0
            rw [Hpk.out] at this
            exact this
          have c1 : ∀ s : InC (fun W => Below wr.heap.size wr W), s.W.cell? ⟨b, o + (k + 1) * 33, none⟩ = some (.int .i64 y) := fun s => by
            have := ((h.step hbr).step s.ok).size rfl (k + 1) hkn
            rw [Hpk1.out] at this
            exact this
          have cv : ∀ s : InC (fun W => Below wr.heap.size wr W), s.W.cell? ⟨bp, op + k, none⟩ = some (.slice Ai pl ci) := fun s => by rw [s.ok.cell (p := ⟨bp, op + k, none⟩) hbp]; exact hcv
          have Hl0 := Lib.hid hld0
          have Hl1 := Lib.hid hld1
          clear hld0 hld1 hcv
          go_wp2_with fail
          have hS : Below wr.heap.size wr wr.drew := (Below.refl _ _).drew
          refine wp_region_mix (fun W => Below wr.heap.size wr W) [(0, true), (1, true), (2, true), (3, true), (4, true), (5, true), (6, true), (7, true), (8, true), (9, true), (10, true), (11, true), (12, true), (13, true), (14, true), (15, true), (16, true), (17, true), (18, true), (19, true), (20, true), (21, true), (22, true), (23, true), (24, true), (25, true), (26, false), (27, true)] (by kernel_rfl) (by kernel_rfl) hS fun _ => ?_
          simp only [List.map_cons, List.map_nil, Array.getD_eq_getD_getElem?, List.getElem?_toArray, List.getElem?_cons_succ, List.getElem?_cons_zero, Option.getD_some]
          generalize wr.drew = u9 at hS ⊢
          refine wpMix_s (fun K hK => ?_)
          go_simp
          refine hK _ ?_
          clear hK K
          refine wpMix_s (fun K hK => ?_)
          go_simp
          refine hK _ ?_
          clear hK K
          refine wpMix_s (fun K hK => ?_)
          go_simp
          refine hK _ ?_
          clear hK K
          refine wpMix_s (fun K hK => ?_)
          go_simp
          refine hK _ ?_
          clear hK K
          refine wpMix_s (fun K hK => ?_)
          go_simp
          refine hK _ ?_
          clear hK K
          refine wpMix_s (fun K hK => ?_)
          go_simp
          refine hK _ ?_
          clear hK K
          refine wpMix_s (fun K hK => ?_)
          go_simp
          refine hK _ ?_
          clear hK K
          refine wpMix_s (fun K hK => ?_)
          go_simp
          refine hK _ ?_
          clear hK K
          refine wpMix_s (fun K hK => ?_)
          go_simp
          refine hK _ ?_
          clear hK K
          refine wpMix_s (fun K hK => ?_)
          go_simp
          refine hK _ ?_
          clear hK K
          refine wpMix_s (fun K hK => ?_)
          go_simp
          refine hK _ ?_
          clear hK K
          refine wpMix_s (fun K hK => ?_)
          go_simp
          refine hK _ ?_
          clear hK K
          refine wpMix_s (fun K hK => ?_)
          go_simp
          refine hK _ ?_
          clear hK K
          refine wpMix_s (fun K hK => ?_)
          go_simp
          refine hK _ ?_
          clear hK K
          refine wpMix_s (fun K hK => ?_)
          go_simp
          refine hK _ ?_
          clear hK K
          refine wpMix_load (by kernel_rfl) 34 (.tmp 49) rfl (b) (o + k * 33 + 1) rfl (l.map B).toArray (Hl0.out) ?_
          simp only [Act.put]
          refine wpMix_s (fun K hK => ?_)
          go_simp
          refine hK _ ?_
          clear hK K
          refine wpMix_s (fun K hK => ?_)
          go_simp
          refine hK _ ?_
          clear hK K
          refine wpMix_s (fun K hK => ?_)
          go_simp
          refine hK _ ?_
          clear hK K
          refine wpMix_s (fun K hK => ?_)
          go_simp
          refine hK _ ?_
          clear hK K
          refine wpMix_s (fun K hK => ?_)
          go_simp
          refine hK _ ?_
          clear hK K
          refine wpMix_load (by kernel_rfl) 34 (.tmp 55) rfl (b) (o + (k + 1) * 33 + 1) rfl (q.map B).toArray (Hl1.out) ?_
          simp only [Act.put]
          refine wpMix_s (fun K hK => ?_)
          go_simp
          refine hK _ ?_
          clear hK K
          refine wpMix_s (fun K hK => ?_)
          go_simp
          refine hK _ ?_
          clear hK K
          refine wpMix_s (fun K hK => ?_)
          go_simp
          refine hK _ ?_
          clear hK K
          refine wpMix_s (fun K hK => ?_)
          go_simp
          refine hK _ ?_
          clear hK K
          refine wpMix_c (fun K hK => ?_) hS
          go_simp
          refine (Hck.out u9 hS).mono ?_
          rintro e u9_1 ⟨rfl, hb'⟩
          refine hK _ _ ?_
          clear hK K
          replace hS := hS.trans (hb'.mono hS.size)
          refine ⟨hS, ?_⟩
          have hB9 := hbr.trans (hS.mono hbr.size)
          clear hb'
          refine wpMix_s (fun K hK => ?_)
          go_simp
          refine hK _ ?_
          clear hK K
          refine wpMix_nil ?_
          intro _
          clear hS
          by_cases hz0 : z = 0
          · subst hz0
            rw [if_pos rfl] at hgo
            go_wp2_with fail
            go_roundw
            case rel => exact ⟨k + 1, by omega, rfl, hB9, hgo⟩
            case measure => simp [intOf]; omega
          · have hzb : (z != 0) = true := by simp; exact hz0
            rw [if_neg hz0] at hgo
            subst hgo
            go_wp2_with fail
            exact bodyPost_ret (results_tmp2 rfl _ _ _) rfl ⟨rfl, hB9⟩
        · obtain rfl : k = m := by omega
          have hd : decide ((k : Int) < (k : Int)) = false := by simp
          rw [checksGo_end] at hgo
          subst hgo
          go_wp2_with fail
          exact bodyPost_ret (results_tmp2 rfl _ _ _) rfl ⟨rfl, hbr⟩
end Go.Proofs.Ytgcbdnoniikboaa
