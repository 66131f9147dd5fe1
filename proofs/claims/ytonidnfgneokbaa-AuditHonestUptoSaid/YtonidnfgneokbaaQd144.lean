/- notaryref13.both. -/
import Derived.Test.YtonidnfgneokbaaQd143
import Derived.Test.YtonidnfgneokbaaQd139
namespace Go.Proofs.Ytonidnfgneokbaa
open Go Go.RowKit Go.Shelf
attribute [local go_sem] Oper.semAt_some

theorem run_move_op {P : Program} {ρ : Operand → Value} {o : Oper} (x : Operand) (ho : o.op = .move x) (v : Value) (hx : ρ x = v) (W : World) : (execOp ρ o).run P W = .ok (.value v) W := by
  unfold execOp
  simp only [ho, hx, Sem.run_pure]
theorem ret_hash2 {fn : Func} {p q : Tmp} {tmps : Array Value} {W : World} {g g' : Nat} {l m : List UInt8} (h : fn.results = #[.cell p 25, .cell q 25]) (hp : tmps.getD p undef = .pointer (some ⟨g, 0, none⟩)) (hq : tmps.getD q undef = .pointer (some ⟨g', 0, none⟩)) (k : HV W g l) (k' : HV W g' m) : (results fn tmps).run Try.prog W = .ok (.tuple #[.agg (l.map B).toArray, .agg (m.map B).toArray]) W := by
  have hp' : tmps[p]?.getD undef = .pointer (some ⟨g, 0, none⟩) := by simpa using hp
  have hq' : tmps[q]?.getD undef = .pointer (some ⟨g', 0, none⟩) := by simpa using hq
  have e1 := run_loadVar_row W g 25 25 (l.map B).toArray (0, 0) _ k.blk Try.underlying25 rfl (by rw [show (l.map B).toArray.size = 32 by simp [k.len]]; exact info26)
  have e2 := run_loadVar_row W g' 25 25 (m.map B).toArray (0, 0) _ k'.blk Try.underlying25 rfl (by rw [show (m.map B).toArray.size = 32 by simp [k'.len]]; exact info26)
  have hz : (l.map B).toArray.size = 32 := by simp [k.len]
  have hz' : (m.map B).toArray.size = 32 := by simp [k'.len]
  simp [results, h, hp', hq', asAddr, e1, e2]

set_option maxHeartbeats 8000000 in
set_option maxRecDepth 100000 in
theorem rboth13_rec (kd : Int) (D : Nat) : ∀ (m n : Nat) (whole : Bool) (fi : List UInt8) (pf : List (List UInt8)) (Ap : Option Addr) (np cp : Nat) (w : World), n ≤ D → 1 ≤ m → m ≤ n → n ≤ 1099511627776 → fi.length = 32 → Hs w (fun _ => True) Ap np cp pf → np = cntW whole (wayC m n) →
    Calls Try.prog 83 #[.int .i64 kd, .int .i64 (m : Int), .int .i64 (n : Int), .bool whole, .agg (fi.map B).toArray, .slice Ap np cp] w fun e w' => e = .returned (.tuple #[.agg ((bothE (hashK kd) whole (wayC m n) fi pf).map B).toArray, .agg ((bothA (hashK kd) whole (wayC m n) fi pf).map B).toArray]) ∧ Below w.heap.size w w' := by
  induction D with
  | zero => intro m n whole fi pf Ap np cp w h h1 h2; omega
  | succ D ih =>
    intro m n whole fi pf Ap np cp w hD h1 hmn hn hfl hp hnp
    have hroom := hp.sl.room
    have hmx := hp.sl.max
    unfold maxLen at hmx
    have hpl := hp.len
    have hpw := hp.weak (Y := (· < w.heap.size)) fun b hb _ => hb
    have hpall := hp.all
    obtain ⟨w0, hw0⟩ : ∃ w0, w.alloc (.cells (fi.map B).toArray 25) = w0 := ⟨_, rfl⟩
    have hb0 : Below w.heap.size w w0 := by rw [← hw0]; exact (Below.refl _ _).alloc (Nat.le_refl _) _
    have k10 : HV w0 w.heap.size fi := ⟨by rw [← hw0]; exact Blk.new _ _ _, hfl⟩
    have hl10 := k10.lt
    have Hw0 := Lib.hid hw0
    have Hpl := Lib.hid hpl
    have Hpall := Lib.hid hpall
    have Hfl := Lib.hid hfl
    clear hw0 hp hpl hpall hfl
    by_cases hme : m = n
    · subst hme
      have he : ((m : Int) == (m : Int)) = true := by simp
      clear ih
      rw [wayC_end m h1] at hnp ⊢
      rw [bothE_end, bothA_end]
      cases whole with
      | true =>
        rw [if_pos rfl]
        clear hnp
        go_enter Try.func83, Try.ntmps83
        refine Code.wp_mono (fun _ _ _ h => BP.out h) ?_
        go_wp2_with (first
          | ((with_reducible show wpList _ _ _ (⟨some 12, .alloc _, _, _, _, _⟩ :: _) _ _); rw [Hw0.out]; refine wpList_hnew rfl rfl ?_; intro w1 k12 hb1; have hl12 := k12.lt; simp only [Act.put])
          | ((with_reducible show wpList _ _ _ (⟨some 13, .alloc _, _, _, _, _⟩ :: _) _ _); refine wpList_hnew rfl rfl ?_; intro w2 k13 hb2; replace k10 := k10.step (hb1.trans (hb2.mono hb1.size)); replace k12 := k12.step hb2; have hbw := hb0.trans ((hb1.trans (hb2.mono hb1.size)).mono hb0.size); have hg12 := hb0.size; clear hb1 hb2; simp only [Act.put]))
        clear Hw0
        have hlt10 : w.heap.size < w0.heap.size := hl10
        have hS : Below w0.heap.size w2 w2.drew := (Below.refl _ _).drew
        replace k12 := k12.drew
        replace k13 := k13.drew
        have hz13 : w0.heap.size ≤ w1.heap.size := Nat.le_of_lt hl12
        refine wp_region_mix (fun W => Below w0.heap.size w2 W) [(0, true), (1, true), (2, false), (3, false)] (by kernel_rfl) (by kernel_rfl) hS fun _ => ?_
        simp only [List.map_cons, List.map_nil, Array.getD_eq_getD_getElem?, List.getElem?_toArray, List.getElem?_cons_succ, List.getElem?_cons_zero, Option.getD_some]
        generalize w2.drew = u3 at hS k12 k13 ⊢
        refine wpMix_load (by kernel_rfl) 25 (.tmp 10) rfl (w.heap.size) (0) rfl (fi.map B).toArray ((fun s => (k10.far s.ok hlt10).load)) ?_
        simp only [Act.put]
        refine wpMix_load (by kernel_rfl) 25 (.tmp 10) rfl (w.heap.size) (0) rfl (fi.map B).toArray ((fun s => (k10.far s.ok hlt10).load)) ?_
        simp only [Act.put]
        refine wpMix_hset (.tmp 12) (.tmp 24) rfl rfl k12 rfl rfl Hfl.out (fun _ hb => hS.trans (hb.mono (Nat.le_refl _))) ?_
        intro u3_1 k12s hb' hoth
        simp only [Act.put]
        replace hS := hS.trans (hb'.mono (Nat.le_refl _))
        replace k13 := hoth _ _ (by omega) k13
        clear hb' hoth
        refine wpMix_hset (.tmp 13) (.tmp 25) rfl rfl k13 rfl rfl Hfl.out (fun _ hb => hS.trans (hb.mono hz13)) ?_
        intro u3_2 k13s hb' hoth
        simp only [Act.put]
        replace hS := hS.trans (hb'.mono hz13)
        replace k12s := hoth _ _ (by omega) k12s
        clear hb' hoth
        refine wpMix_nil ?_
        intro _
        go_wp2_with fail
        exact ⟨bodyPost_ret (ret_hash2 rfl rfl rfl k12s k13s) rfl ⟨rfl, hbw.trans (hS.mono hg12)⟩⟩
      | false =>
        rw [if_neg (by simp)]
        have hnp1 : np = 1 := hnp
        subst hnp1
        have l2 := Hpall.out.getD 0 (by rw [Hpl.out]; omega)
        obtain ⟨bp, op, rfl, hbp, -, -⟩ := hpw.at_ (by omega)
        have hget0 := fun W (hb : Below w.heap.size w W) => (hpw.step hb).get rfl 0 (by omega)
        have hget := fun W (hb : Below w.heap.size w W) => (show (Instr.loadAt 25 (.pointer (some ⟨bp, op, none⟩))).run Try.prog W = .ok (.agg ((pf.getD 0 []).map B).toArray) W by have h := hget0 W hb; rw [Nat.zero_mul, Nat.add_zero] at h; exact h)
        obtain ⟨y, hy1⟩ : ∃ y, pf.getD 0 [] = y := ⟨_, rfl⟩
        rw [hy1] at l2 hget ⊢
        have Hget := Lib.hid hget
        have L2 := Lib.hid l2
        clear hnp hget hget0 l2 hy1
        go_enter Try.func83, Try.ntmps83
        refine Code.wp_mono (fun _ _ _ h => BP.out h) ?_
        go_wp2_with (first
          | ((with_reducible show wpList _ _ _ (⟨some 12, .alloc _, _, _, _, _⟩ :: _) _ _); rw [Hw0.out]; refine wpList_hnew rfl rfl ?_; intro w1 k12 hb1; have hl12 := k12.lt; simp only [Act.put])
          | ((with_reducible show wpList _ _ _ (⟨some 13, .alloc _, _, _, _, _⟩ :: _) _ _); refine wpList_hnew rfl rfl ?_; intro w2 k13 hb2; replace k10 := k10.step (hb1.trans (hb2.mono hb1.size)); replace k12 := k12.step hb2; have hbw := hb0.trans ((hb1.trans (hb2.mono hb1.size)).mono hb0.size); have hg12 := hb0.size; clear hb1 hb2; simp only [Act.put]))
        clear Hw0
        have hlt10 : w.heap.size < w0.heap.size := hl10
        have hS : Below w0.heap.size w2 w2.drew := (Below.refl _ _).drew
        replace k12 := k12.drew
        replace k13 := k13.drew
        have hz13 : w0.heap.size ≤ w1.heap.size := Nat.le_of_lt hl12
        refine wp_region_mix (fun W => Below w0.heap.size w2 W) [(0, true), (1, true), (2, true), (3, true), (4, true), (5, true), (6, false), (7, false)] (by kernel_rfl) (by kernel_rfl) hS fun _ => ?_
        simp only [List.map_cons, List.map_nil, Array.getD_eq_getD_getElem?, List.getElem?_toArray, List.getElem?_cons_succ, List.getElem?_cons_zero, Option.getD_some]
        generalize w2.drew = u3 at hS k12 k13 ⊢
        refine wpMix_s (fun K hK => ?_)
        go_simp
        refine hK _ ?_
        clear hK K
        refine wpMix_s (fun K hK => ?_)
        go_simp
        refine hK _ ?_
        clear hK K
        refine wpMix_load (by kernel_rfl) 25 (.tmp 27) rfl (bp) (op) rfl (y.map B).toArray ((fun s => Hget.out s.W (hbw.trans (s.ok.mono hg12)))) ?_
        simp only [Act.put]
        refine wpMix_s (fun K hK => ?_)
        go_simp
        refine hK _ ?_
        clear hK K
        refine wpMix_s (fun K hK => ?_)
        go_simp
        refine hK _ ?_
        clear hK K
        refine wpMix_load (by kernel_rfl) 25 (.tmp 30) rfl (bp) (op) rfl (y.map B).toArray ((fun s => Hget.out s.W (hbw.trans (s.ok.mono hg12)))) ?_
        simp only [Act.put]
        refine wpMix_hset (.tmp 12) (.tmp 28) rfl rfl k12 rfl rfl L2.out (fun _ hb => hS.trans (hb.mono (Nat.le_refl _))) ?_
        intro u3_1 k12s hb' hoth
        simp only [Act.put]
        replace hS := hS.trans (hb'.mono (Nat.le_refl _))
        replace k13 := hoth _ _ (by omega) k13
        clear hb' hoth
        refine wpMix_hset (.tmp 13) (.tmp 31) rfl rfl k13 rfl rfl L2.out (fun _ hb => hS.trans (hb.mono hz13)) ?_
        intro u3_2 k13s hb' hoth
        simp only [Act.put]
        replace hS := hS.trans (hb'.mono hz13)
        replace k12s := hoth _ _ (by omega) k12s
        clear hb' hoth
        refine wpMix_nil ?_
        intro _
        go_wp2_with fail
        exact ⟨bodyPost_ret (ret_hash2 rfl rfl rfl k12s k13s) rfl ⟨rfl, hbw.trans (hS.mono hg12)⟩⟩
    · have h2 : 2 ≤ n := by omega
      have he : ((m : Int) == (n : Int)) = false := by simp; omega
      have hkl := splitN_lt n h2
      have hkp := splitN_pos n h2
      have hsp := fun W => rsplit_any (n : Int) W (by omega)
      rw [Int.toNat_natCast] at hsp
      have hwr := fun (hk : splitN n < m) => wayC_right m n (by omega) hk
      have hwl := fun (hk : m ≤ splitN n) => wayC_left m n h1 (by omega) hk
      obtain ⟨k, hk⟩ : ∃ k, splitN n = k := ⟨_, rfl⟩
      rw [hk] at hsp hkl hkp hwr hwl
      have Hsp := Lib.hid hsp
      by_cases hik : m ≤ k
      · have hd : decide ((m : Int) ≤ (k : Int)) = true := by simp; omega
        have e := hwl hik
        rw [e, cntW_cons, Bool.not_false, Bool.and_true] at hnp
        rw [e]
        have hr1 := fun fi pf Ap np cp W => ih m k whole fi pf Ap np cp W (by omega) h1 hik (by omega)
        obtain ⟨way, hway⟩ : ∃ way, wayC m k = way := ⟨_, rfl⟩
        rw [hway] at hnp hr1 ⊢
        rw [bothE_left, bothA_left]
        obtain ⟨L, hL⟩ : ∃ L, cntW whole way = L := ⟨_, rfl⟩
        rw [hL] at hnp hr1 ⊢
        have hnp' : np = L + 1 := by omega
        subst hnp'
        have hr1 := fun W hf hp => hr1 fi (pf.take L) Ap L cp W hf hp rfl
        have htl : (pf.take L).length = cntW whole way := by rw [List.length_take, Hpl.out, hL]; omega
        have hta : ∀ x ∈ pf.take L, x.length = 32 := fun x hx => Hpall.out x (List.mem_of_mem_take hx)
        have l1 := length_bothE (hashK kd) (length_hashK kd) whole way fi (pf.take L) Hfl.out hta htl
        have l3 := length_bothA (hashK kd) (length_hashK kd) whole way fi (pf.take L) Hfl.out hta htl
        obtain ⟨x, hx1⟩ : ∃ x, bothE (hashK kd) whole way fi (pf.take L) = x := ⟨_, rfl⟩
        obtain ⟨z, hz1⟩ : ∃ x, bothA (hashK kd) whole way fi (pf.take L) = x := ⟨_, rfl⟩
        have l2 := Hpall.out.getD L (by rw [Hpl.out]; omega)
        obtain ⟨bp, op, rfl, hbp, -, -⟩ := hpw.at_ (by omega)
        have hget := fun W (hb : Below w.heap.size w W) => (hpw.step hb).get rfl L (by omega)
        obtain ⟨y, hy1⟩ : ∃ y, pf.getD L [] = y := ⟨_, rfl⟩
        rw [hx1, hz1] at hr1
        rw [hx1] at l1
        rw [hz1] at l3
        rw [hy1] at l2 hget
        rw [hx1, hz1, hy1]
        have hnd := fun W => rnode13_any z y W l3 l2
        have hnl : (nodeD (z, y)).length = 65 := by simp [nodeD, l3, l2]
        obtain ⟨q, hq⟩ : ∃ q, nodeD (z, y) = q := ⟨_, rfl⟩
        rw [hq] at hnd hnl ⊢
        have hcall := fun A n c W h => rhash13_any kd q A n c W h
        have hlr := length_hashK kd q
        obtain ⟨r, hr⟩ : ∃ r, hashK kd q = r := ⟨_, rfl⟩
        rw [hr] at hlr hcall ⊢
        have Hlr := Lib.hid hlr
        have Hnd := Lib.hid hnd
        have Hnl := Lib.hid hnl
        have Hcall := Lib.hid hcall
        clear hnd hnl hq hcall hlr hr
        have hww : IntKind.i64.wrap ((L : Int) + 1 - 1) = (L : Int) := by rw [IntWalk.i64_in _ (by omega)]; omega
        have hww2 : IntKind.i64.wrap ((((L + 1 : Nat)) : Int) - 1) = (L : Int) := by rw [IntWalk.i64_in _ (by omega)]; omega
        have hLL : (L : Int) < (L : Int) + 1 := by omega
        have Hr1 := Lib.hid hr1
        have Hget := Lib.hid hget
        have Ll1 := Lib.hid l1
        have Ll3 := Lib.hid l3
        clear ih hr1 hsp e hwr hwl hk hL hway l1 l2 l3 hx1 hy1 hz1 hget htl hta hnp
        go_enter Try.func83, Try.ntmps83
        refine Code.wp_mono (fun _ _ _ h => BP.out h) ?_
        go_wp2_with (first
          | ((with_reducible show wpList _ _ _ (⟨some 12, .alloc _, _, _, _, _⟩ :: _) _ _); rw [Hw0.out]; refine wpList_hnew rfl rfl ?_; intro w1 k12 hb1; have hl12 := k12.lt; simp only [Act.put])
          | ((with_reducible show wpList _ _ _ (⟨some 13, .alloc _, _, _, _, _⟩ :: _) _ _); refine wpList_hnew rfl rfl ?_; intro w2 k13 hb2; replace k10 := k10.step (hb1.trans (hb2.mono hb1.size)); replace k12 := k12.step hb2; have hbw := hb0.trans ((hb1.trans (hb2.mono hb1.size)).mono hb0.size); have hg12 := hb0.size; clear hb1 hb2; simp only [Act.put])
          | (go_at_call 77; refine (Hsp.out _).mono ?_; rintro e w3 ⟨rfl, hww⟩; obtain rfl : w2 = w3 := by first | exact hww | exact hww.symm))
        clear Hw0
        have hS : Below (w2.heap.size) w2 w2.drew := (Below.refl _ _).drew
        refine wp_region_begin (fun W => Below (w2.heap.size) w2 W) (by kernel_rfl) hS fun _ => ?_
        generalize w2.drew = u8 at hS  ⊢
        refine wpAnyH_pre (f := 8) (by kernel_rfl) #[true, true, true, true, true, true, true, true, false, false, false, false, false, false, false, false] [(0, true), (1, true), (2, true), (3, true), (4, true), (5, true), (6, true), (7, true)] _ _ _ (by kernel_rfl) hS ?_
        simp only [List.map_cons, List.map_nil, Array.getD_eq_getD_getElem?, List.getElem?_toArray, List.getElem?_cons_succ, List.getElem?_cons_zero, Option.getD_some]
        refine wpMix_s (fun K hK => ?_)
        go_simp
        refine hK _ ?_
        clear hK K
        refine wpMix_s (fun K hK => ?_)
        go_simp
        refine hK _ ?_
        clear hK K
        refine wpMix_s (fun K hK => ?_)
        go_simp
        refine hK _ ?_
        clear hK K
        refine wpMix_s (fun K hK => ?_)
        go_simp
        refine hK _ ?_
        clear hK K
        refine wpMix_load (by kernel_rfl) 25 (.tmp 10) rfl (w.heap.size) (0) rfl (fi.map B).toArray ((fun s => (k10.step s.ok).load)) ?_
        simp only [Act.put]
        refine wpMix_s (fun K hK => ?_)
        go_simp
        refine hK _ ?_
        clear hK K
        refine wpMix_s (fun K hK => ?_)
        go_simp
        refine hK _ ?_
        clear hK K
        refine wpMix_v (by kernel_rfl) (.slice (some ⟨bp, op, none⟩) L cp) (fun s => run_slice_op_hi (.tmp 46) (.tmp 47) rfl (some ⟨bp, op, none⟩) (L + 1) cp L rfl rfl (by omega) s.W) ?_
        simp only [Act.put]
        refine wpMix_nil ?_
        intro _
        show wpAnyH _ _ _ _ _ _ #[true, true, true, true, true, true, true, true, false, false, false, false, false, false, false, false] _ _
        refine wpAnyH_manyF [8, 9, 10, 11, 12, 13] (fun k => if k = 9 then [8] else if k = 10 then [9] else if k = 11 then [9] else []) (fun k => k == 9 || k == 10 || k == 11) (fun k => if k = 8 then 49 else if k = 9 then 40 else if k = 10 then 50 else if k = 11 then 51 else if k = 12 then 16 else if k = 13 then 17 else 0) (fun k => if k = 8 then Fc.val (.tuple #[.agg (x.map B).toArray, .agg (z.map B).toArray]) (fun _ h => by cases h) else if k = 9 then Fc.val (.tuple #[.agg (x.map B).toArray, .agg (z.map B).toArray]) (fun _ h => by cases h) else if k = 10 then Fc.val (.agg (x.map B).toArray) (fun _ h => by cases h) else if k = 11 then Fc.val (.agg (z.map B).toArray) (fun _ h => by cases h) else if k = 12 then Fc.hash w2.heap.size (List.replicate 32 0) else Fc.hash w2.heap.size (List.replicate 32 0)) [49, 40, 50, 51, 16, 17] 2 (fun _ => undef) (by kernel_rfl) (by decide) (by decide) (by kernel_rfl) hS ?_ ?_
        · refine List.forall_mem_cons.2 ⟨?k8, List.forall_mem_cons.2 ⟨?k9, List.forall_mem_cons.2 ⟨?k10, List.forall_mem_cons.2 ⟨?k11, List.forall_mem_cons.2 ⟨?k12, List.forall_mem_cons.2 ⟨?k13, fun _ h => by cases h⟩⟩⟩⟩⟩⟩
          case k8 =>
            intro us u8k hSk hneed
            simp only [Array.getD_eq_getD_getElem?, List.getElem?_toArray, List.getElem?_cons_succ, List.getElem?_cons_zero, Option.getD_some]
            simp only [putAll, Act.put, List.setIfInBounds_toArray, List.set_cons_succ, List.set_cons_zero]
            refine wpMix_c (fun K hK => ?_) hSk
            go_simp
            refine (Hr1.out u8k Hfl.out ((((hpw.step (hbw.trans (hSk.mono hbw.size))).take L (by omega))).weak fun _ _ _ => trivial)).mono ?_
            rintro e u8j ⟨rfl, hb'⟩
            refine hK _ _ ?_
            clear hK K
            refine ⟨hSk.trans (hb'.mono hSk.size), ?_⟩
            refine wpMix_nil ?_
            exact ⟨.tuple #[.agg (x.map B).toArray, .agg (z.map B).toArray], by kernel_rfl, rfl, hb', fun g e => by cases e⟩
          case k9 =>
            intro us u8k hSk hneed
            simp only [Array.getD_eq_getD_getElem?, List.getElem?_toArray, List.getElem?_cons_succ, List.getElem?_cons_zero, Option.getD_some]
            simp only [putAll, Act.put, List.setIfInBounds_toArray, List.set_cons_succ, List.set_cons_zero]
            have e_ : us 49 = .tuple #[.agg (x.map B).toArray, .agg (z.map B).toArray] := hneed 8 (by simp)
            refine wpMix_v (by kernel_rfl) (.tuple #[.agg (x.map B).toArray, .agg (z.map B).toArray]) (fun s => run_move_op (.tmp 49) rfl _ e_ s.W) ?_
            simp only [Act.put]
            refine wpMix_nil ?_
            exact ⟨.tuple #[.agg (x.map B).toArray, .agg (z.map B).toArray], by kernel_rfl, rfl, Below.refl _ _, fun g e => by cases e⟩
          case k10 =>
            intro us u8k hSk hneed
            simp only [Array.getD_eq_getD_getElem?, List.getElem?_toArray, List.getElem?_cons_succ, List.getElem?_cons_zero, Option.getD_some]
            simp only [putAll, Act.put, List.setIfInBounds_toArray, List.set_cons_succ, List.set_cons_zero]
            have e_ : us 40 = .tuple #[.agg (x.map B).toArray, .agg (z.map B).toArray] := hneed 9 (by simp)
            refine wpMix_v (by kernel_rfl) (.agg (x.map B).toArray) (fun s => run_extract_op (.tmp 40) 0 rfl #[.agg (x.map B).toArray, .agg (z.map B).toArray] e_ _ rfl s.W) ?_
            simp only [Act.put]
            refine wpMix_nil ?_
            exact ⟨.agg (x.map B).toArray, by kernel_rfl, rfl, Below.refl _ _, fun g e => by cases e⟩
          case k11 =>
            intro us u8k hSk hneed
            simp only [Array.getD_eq_getD_getElem?, List.getElem?_toArray, List.getElem?_cons_succ, List.getElem?_cons_zero, Option.getD_some]
            simp only [putAll, Act.put, List.setIfInBounds_toArray, List.set_cons_succ, List.set_cons_zero]
            have e_ : us 40 = .tuple #[.agg (x.map B).toArray, .agg (z.map B).toArray] := hneed 9 (by simp)
            refine wpMix_v (by kernel_rfl) (.agg (z.map B).toArray) (fun s => run_extract_op (.tmp 40) 1 rfl #[.agg (x.map B).toArray, .agg (z.map B).toArray] e_ _ rfl s.W) ?_
            simp only [Act.put]
            refine wpMix_nil ?_
            exact ⟨.agg (z.map B).toArray, by kernel_rfl, rfl, Below.refl _ _, fun g e => by cases e⟩
          case k12 =>
            intro us u8k hSk hneed
            simp only [Array.getD_eq_getD_getElem?, List.getElem?_toArray, List.getElem?_cons_succ, List.getElem?_cons_zero, Option.getD_some]
            simp only [putAll, Act.put, List.setIfInBounds_toArray, List.set_cons_succ, List.set_cons_zero]
            refine wpMix_hnew rfl rfl (fun _ hb => hSk.trans (hb.mono hSk.size)) ?_
            intro u8j kj hb'
            refine wpMix_nil ?_
            exact ⟨ptrB u8k.heap.size, by kernel_rfl, ⟨_, rfl, kj, hSk.size⟩, hb', fun g e => by cases e; exact Nat.le_refl _⟩
          case k13 =>
            intro us u8k hSk hneed
            simp only [Array.getD_eq_getD_getElem?, List.getElem?_toArray, List.getElem?_cons_succ, List.getElem?_cons_zero, Option.getD_some]
            simp only [putAll, Act.put, List.setIfInBounds_toArray, List.set_cons_succ, List.set_cons_zero]
            refine wpMix_hnew rfl rfl (fun _ hb => hSk.trans (hb.mono hSk.size)) ?_
            intro u8j kj hb'
            refine wpMix_nil ?_
            exact ⟨ptrB u8k.heap.size, by kernel_rfl, ⟨_, rfl, kj, hSk.size⟩, hb', fun g e => by cases e; exact Nat.le_refl _⟩
        · intro us u8t hS hF hA
          have e50 : us 50 = .agg (x.map B).toArray := hF 10 (by simp)
          have e51 : us 51 = .agg (z.map B).toArray := hF 11 (by simp)
          obtain ⟨g16, e16, k16, h16⟩ : (Fc.hash w2.heap.size (List.replicate 32 0)).ok (us 16) u8t := hF 12 (by simp)
          obtain ⟨g17, e17, k17, h17⟩ : (Fc.hash w2.heap.size (List.replicate 32 0)).ok (us 17) u8t := hF 13 (by simp)
          have h1617 : g16 ≠ g17 := fun e => hA 12 (by simp) 13 (by simp) (by decide) g16 e16 (by rw [e]; exact e17)
          simp only [putAll, Act.put, List.setIfInBounds_toArray, List.set_cons_succ, List.set_cons_zero]
          rw [e50, e51, e16, e17]
          clear hF hA e50 e51 e16 e17
          show wpAnyH _ _ _ _ _ _ #[true, true, true, true, true, true, true, true, true, true, true, true, true, true, false, false] _ _
          refine wpAnyH_pre (f := 0) (by kernel_rfl) #[true, true, true, true, true, true, true, true, true, true, true, true, true, true, true, true] [(14, false), (15, false)] _ _ _ (by kernel_rfl) hS ?_
          simp only [List.map_cons, List.map_nil, Array.getD_eq_getD_getElem?, List.getElem?_toArray, List.getElem?_cons_succ, List.getElem?_cons_zero, Option.getD_some]
          refine wpMix_hset (.tmp 16) (.tmp 50) rfl rfl k16 rfl rfl Ll1.out (fun _ hb => hS.trans (hb.mono h16)) ?_
          intro u8_1 k16s hb' hoth
          simp only [Act.put]
          replace hS := hS.trans (hb'.mono h16)
          replace k17 := hoth _ _ (fun e => h1617 e.symm) k17
          clear hb' hoth
          refine wpMix_hset (.tmp 17) (.tmp 51) rfl rfl k17 rfl rfl Ll3.out (fun _ hb => hS.trans (hb.mono h17)) ?_
          intro u8_2 k17s hb' hoth
          simp only [Act.put]
          replace hS := hS.trans (hb'.mono h17)
          replace k16s := hoth _ _ h1617 k16s
          clear hb' hoth
          refine wpMix_nil ?_
          intro _
          refine wpAnyH_end (by kernel_rfl) ?_
          have hb8 := hbw.trans (hS.mono hbw.size)
          replace k10 := k10.step hS
          replace k12 := k12.step hS
          replace k13 := k13.step hS
          clear hS k16 k17
          go_wp2_with fail
          have hS : Below u8_2.heap.size u8_2 u8_2.drew := (Below.refl _ _).drew
          refine wp_region_mix_tail7 (fun W => Below u8_2.heap.size u8_2 W) 9 [(0, true), (1, true), (2, true), (3, true), (4, true), (5, true), (6, true), (7, false), (8, false)] (by kernel_rfl) (by kernel_rfl) hS fun _ => ?_
          simp only [List.map_cons, List.map_nil, Array.getD_eq_getD_getElem?, List.getElem?_toArray, List.getElem?_cons_succ, List.getElem?_cons_zero, Option.getD_some]
          generalize u8_2.drew = v8_ at hS ⊢
          refine wpMix_load (by kernel_rfl) 25 (.tmp 16) rfl (g16) (0) rfl (x.map B).toArray ((fun s => (k16s.step s.ok).load)) ?_
          simp only [Act.put]
          refine wpMix_s (fun K hK => ?_)
          go_simp
          refine hK _ ?_
          clear hK K
          refine wpMix_load (by kernel_rfl) 25 (.tmp 17) rfl (g17) (0) rfl (z.map B).toArray ((fun s => (k17s.step s.ok).load)) ?_
          simp only [Act.put]
          refine wpMix_s (fun K hK => ?_)
          go_simp
          refine hK _ ?_
          clear hK K
          refine wpMix_s (fun K hK => ?_)
          go_simp
          refine hK _ ?_
          clear hK K
          refine wpMix_s (fun K hK => ?_)
          go_simp
          refine hK _ ?_
          clear hK K
          refine wpMix_load (by kernel_rfl) 25 (.tmp 57) rfl (bp) (op + L * 32) rfl (y.map B).toArray ((fun s => Hget.out s.W (hb8.trans (s.ok.mono hb8.size)))) ?_
          simp only [Act.put]
          have hz9 := hS.size
          refine wpMix_c (fun K hK => ?_) hS
          go_simp
          refine (Hnd.out v8_).mono ?_
          rintro e v8_a ⟨v8, rfl, hf⟩
          refine hK _ _ ?_
          clear hK K
          replace hS := hS.trans (hf.2.mono hz9)
          refine ⟨hS, ?_⟩
          obtain ⟨A8, c8, rfl, hs8⟩ := hf.sl
          replace hs8 := hs8.all
          rw [Hnl.out] at hs8 ⊢
          clear hf hz9
          have hz9 := hS.size
          refine wpMix_c (fun K hK => ?_) hS
          go_simp
          refine (Hcall.out A8 65 c8 v8_a hs8 (by decide)).mono ?_
          rintro e v8_aa ⟨rfl, hb'⟩
          refine hK _ _ ?_
          clear hK K
          replace hS := hS.trans (hb'.mono hz9)
          refine ⟨hS, ?_⟩
          clear hb' hz9 hs8
          refine wpMix_nil ?_
          intro _
          simp only [List.drop_succ_cons, List.drop_zero]
          have hbN := hb8.trans (hS.mono hb8.size)
          replace k12 := k12.step hS
          replace k13 := k13.step hS
          refine wpList_hset2 (.tmp 12) (.tmp 52) rfl rfl k12 rfl rfl Ll1.out ?_
          intro v8_y k12s hby hoy
          replace k13 := hoy _ _ (by omega) k13
          simp only [Act.put]
          go_wp2_with ((with_reducible show wpList _ _ _ [⟨none, .store _ _ _, _, _, _, _⟩] _ _); refine wpList_hset2 (.tmp 13) (.tmp 60) rfl rfl k13 rfl rfl Hlr.out ?_; intro v8_z k13s hbz hoz; replace k12s := hoz _ _ (by omega) k12s; simp only [Act.put])
          refine np_normal ?_
          go_wp2_with fail
          exact ⟨bodyPost_ret (ret_hash2 rfl rfl rfl k12s k13s) rfl ⟨rfl, (hbN.trans (hby.mono (by omega))).trans (hbz.mono (by omega))⟩⟩
      · have hd : decide ((m : Int) ≤ (k : Int)) = false := by simp; omega
        have e := hwr (by omega)
        rw [e, cntW_cons, Bool.not_true, Bool.and_false] at hnp
        rw [e]
        have hr1 := fun fi pf Ap np cp W => ih (m - k) (n - k) false fi pf Ap np cp W (by omega) (by omega) (by omega) (by omega)
        rw [show ((m - k : Nat) : Int) = (m : Int) - k by omega, show ((n - k : Nat) : Int) = (n : Int) - k by omega] at hr1
        have hw1 : IntKind.i64.wrap ((m : Int) - (k : Int)) = (m : Int) - k := IntWalk.i64_in _ (by omega)
        have hw2 : IntKind.i64.wrap ((n : Int) - (k : Int)) = (n : Int) - k := IntWalk.i64_in _ (by omega)
        obtain ⟨way, hway⟩ : ∃ way, wayC (m - k) (n - k) = way := ⟨_, rfl⟩
        rw [hway] at hnp hr1 ⊢
        rw [bothE_right, bothA_right]
        obtain ⟨L, hL⟩ : ∃ L, cntW false way = L := ⟨_, rfl⟩
        rw [hL] at hnp hr1 ⊢
        have hnp' : np = L + 1 := by omega
        subst hnp'
        have hr1 := fun W hf hp => hr1 fi (pf.take L) Ap L cp W hf hp rfl
        have htl : (pf.take L).length = cntW false way := by rw [List.length_take, Hpl.out, hL]; omega
        have hta : ∀ x ∈ pf.take L, x.length = 32 := fun x hx => Hpall.out x (List.mem_of_mem_take hx)
        have l1 := length_bothE (hashK kd) (length_hashK kd) false way fi (pf.take L) Hfl.out hta htl
        have l3 := length_bothA (hashK kd) (length_hashK kd) false way fi (pf.take L) Hfl.out hta htl
        obtain ⟨x, hx1⟩ : ∃ x, bothE (hashK kd) false way fi (pf.take L) = x := ⟨_, rfl⟩
        obtain ⟨z, hz1⟩ : ∃ x, bothA (hashK kd) false way fi (pf.take L) = x := ⟨_, rfl⟩
        have l2 := Hpall.out.getD L (by rw [Hpl.out]; omega)
        obtain ⟨bp, op, rfl, hbp, -, -⟩ := hpw.at_ (by omega)
        have hget := fun W (hb : Below w.heap.size w W) => (hpw.step hb).get rfl L (by omega)
        obtain ⟨y, hy1⟩ : ∃ y, pf.getD L [] = y := ⟨_, rfl⟩
        rw [hx1, hz1] at hr1
        rw [hx1] at l1
        rw [hz1] at l3
        rw [hy1] at l2 hget
        rw [hx1, hz1, hy1]
        have hnd := fun W => rnode13_any y x W l2 l1
        have hnl : (nodeD (y, x)).length = 65 := by simp [nodeD, l1, l2]
        obtain ⟨q, hq⟩ : ∃ q, nodeD (y, x) = q := ⟨_, rfl⟩
        rw [hq] at hnd hnl ⊢
        have hcall := fun A n c W h => rhash13_any kd q A n c W h
        have hlr := length_hashK kd q
        obtain ⟨r, hr⟩ : ∃ r, hashK kd q = r := ⟨_, rfl⟩
        rw [hr] at hlr hcall ⊢
        have hnd' := fun W => rnode13_any y z W l2 l3
        have hnl' : (nodeD (y, z)).length = 65 := by simp [nodeD, l3, l2]
        obtain ⟨q', hq'⟩ : ∃ q, nodeD (y, z) = q := ⟨_, rfl⟩
        rw [hq'] at hnd' hnl' ⊢
        have hcall' := fun A n c W h => rhash13_any kd q' A n c W h
        have hlr' := length_hashK kd q'
        obtain ⟨r', hr'⟩ : ∃ r, hashK kd q' = r := ⟨_, rfl⟩
        rw [hr'] at hlr' hcall' ⊢
        have Hlr := Lib.hid hlr
        have Hnd := Lib.hid hnd
        have Hnl := Lib.hid hnl
        have Hcall := Lib.hid hcall
        have Hlr' := Lib.hid hlr'
        have Hnd' := Lib.hid hnd'
        have Hnl' := Lib.hid hnl'
        have Hcall' := Lib.hid hcall'
        clear hnd hnl hq hcall hlr hr hnd' hnl' hq' hcall' hlr' hr'
        have hww : IntKind.i64.wrap ((L : Int) + 1 - 1) = (L : Int) := by rw [IntWalk.i64_in _ (by omega)]; omega
        have hww2 : IntKind.i64.wrap ((((L + 1 : Nat)) : Int) - 1) = (L : Int) := by rw [IntWalk.i64_in _ (by omega)]; omega
        have hLL : (L : Int) < (L : Int) + 1 := by omega
        have Hr1 := Lib.hid hr1
        have Hget := Lib.hid hget
        have Ll1 := Lib.hid l1
        have Ll3 := Lib.hid l3
        clear ih hr1 hsp e hwr hwl hk hL hway l1 l2 l3 hx1 hy1 hz1 hget htl hta hnp
        go_enter Try.func83, Try.ntmps83
        refine Code.wp_mono (fun _ _ _ h => BP.out h) ?_
        go_wp2_with (first
          | ((with_reducible show wpList _ _ _ (⟨some 12, .alloc _, _, _, _, _⟩ :: _) _ _); rw [Hw0.out]; refine wpList_hnew rfl rfl ?_; intro w1 k12 hb1; have hl12 := k12.lt; simp only [Act.put])
          | ((with_reducible show wpList _ _ _ (⟨some 13, .alloc _, _, _, _, _⟩ :: _) _ _); refine wpList_hnew rfl rfl ?_; intro w2 k13 hb2; replace k10 := k10.step (hb1.trans (hb2.mono hb1.size)); replace k12 := k12.step hb2; have hbw := hb0.trans ((hb1.trans (hb2.mono hb1.size)).mono hb0.size); have hg12 := hb0.size; clear hb1 hb2; simp only [Act.put])
          | (go_at_call 77; refine (Hsp.out _).mono ?_; rintro e w3 ⟨rfl, hww⟩; obtain rfl : w2 = w3 := by first | exact hww | exact hww.symm))
        clear Hw0
        have hS : Below (w2.heap.size) w2 w2.drew := (Below.refl _ _).drew
        refine wp_region_begin (fun W => Below (w2.heap.size) w2 W) (by kernel_rfl) hS fun _ => ?_
        generalize w2.drew = u8 at hS  ⊢
        refine wpAnyH_pre (f := 8) (by kernel_rfl) #[true, true, true, true, true, true, true, true, true, true, true, false, false, false, false, false, false, false, false] [(0, true), (1, true), (2, true), (3, true), (4, true), (5, true), (6, true), (7, true), (8, true), (9, true), (10, true)] _ _ _ (by kernel_rfl) hS ?_
        simp only [List.map_cons, List.map_nil, Array.getD_eq_getD_getElem?, List.getElem?_toArray, List.getElem?_cons_succ, List.getElem?_cons_zero, Option.getD_some]
        refine wpMix_s (fun K hK => ?_)
        go_simp
        refine hK _ ?_
        clear hK K
        refine wpMix_s (fun K hK => ?_)
        go_simp
        refine hK _ ?_
        clear hK K
        refine wpMix_s (fun K hK => ?_)
        go_simp
        refine hK _ ?_
        clear hK K
        refine wpMix_s (fun K hK => ?_)
        go_simp
        refine hK _ ?_
        clear hK K
        refine wpMix_s (fun K hK => ?_)
        go_simp
        refine hK _ ?_
        clear hK K
        refine wpMix_s (fun K hK => ?_)
        go_simp
        refine hK _ ?_
        clear hK K
        refine wpMix_s (fun K hK => ?_)
        go_simp
        refine hK _ ?_
        clear hK K
        refine wpMix_load (by kernel_rfl) 25 (.tmp 10) rfl (w.heap.size) (0) rfl (fi.map B).toArray ((fun s => (k10.step s.ok).load)) ?_
        simp only [Act.put]
        refine wpMix_s (fun K hK => ?_)
        go_simp
        refine hK _ ?_
        clear hK K
        refine wpMix_s (fun K hK => ?_)
        go_simp
        refine hK _ ?_
        clear hK K
        refine wpMix_v (by kernel_rfl) (.slice (some ⟨bp, op, none⟩) L cp) (fun s => run_slice_op_hi (.tmp 70) (.tmp 71) rfl (some ⟨bp, op, none⟩) (L + 1) cp L rfl rfl (by omega) s.W) ?_
        simp only [Act.put]
        refine wpMix_nil ?_
        intro _
        show wpAnyH _ _ _ _ _ _ #[true, true, true, true, true, true, true, true, true, true, true, false, false, false, false, false, false, false, false] _ _
        refine wpAnyH_manyF [11, 12, 13, 14, 15, 16] (fun k => if k = 12 then [11] else if k = 13 then [12] else if k = 14 then [12] else []) (fun k => k == 12 || k == 13 || k == 14) (fun k => if k = 11 then 73 else if k = 12 then 61 else if k = 13 then 74 else if k = 14 then 75 else if k = 15 then 18 else if k = 16 then 19 else 0) (fun k => if k = 11 then Fc.val (.tuple #[.agg (x.map B).toArray, .agg (z.map B).toArray]) (fun _ h => by cases h) else if k = 12 then Fc.val (.tuple #[.agg (x.map B).toArray, .agg (z.map B).toArray]) (fun _ h => by cases h) else if k = 13 then Fc.val (.agg (x.map B).toArray) (fun _ h => by cases h) else if k = 14 then Fc.val (.agg (z.map B).toArray) (fun _ h => by cases h) else if k = 15 then Fc.hash w2.heap.size (List.replicate 32 0) else Fc.hash w2.heap.size (List.replicate 32 0)) [73, 61, 74, 75, 18, 19] 2 (fun _ => undef) (by kernel_rfl) (by decide) (by decide) (by kernel_rfl) hS ?_ ?_
        · refine List.forall_mem_cons.2 ⟨?k11, List.forall_mem_cons.2 ⟨?k12, List.forall_mem_cons.2 ⟨?k13, List.forall_mem_cons.2 ⟨?k14, List.forall_mem_cons.2 ⟨?k15, List.forall_mem_cons.2 ⟨?k16, fun _ h => by cases h⟩⟩⟩⟩⟩⟩
          case k11 =>
            intro us u8k hSk hneed
            simp only [Array.getD_eq_getD_getElem?, List.getElem?_toArray, List.getElem?_cons_succ, List.getElem?_cons_zero, Option.getD_some]
            simp only [putAll, Act.put, List.setIfInBounds_toArray, List.set_cons_succ, List.set_cons_zero]
            refine wpMix_c (fun K hK => ?_) hSk
            go_simp
            refine (Hr1.out u8k Hfl.out ((((hpw.step (hbw.trans (hSk.mono hbw.size))).take L (by omega))).weak fun _ _ _ => trivial)).mono ?_
            rintro e u8j ⟨rfl, hb'⟩
            refine hK _ _ ?_
            clear hK K
            refine ⟨hSk.trans (hb'.mono hSk.size), ?_⟩
            refine wpMix_nil ?_
            exact ⟨.tuple #[.agg (x.map B).toArray, .agg (z.map B).toArray], by kernel_rfl, rfl, hb', fun g e => by cases e⟩
          case k12 =>
            intro us u8k hSk hneed
            simp only [Array.getD_eq_getD_getElem?, List.getElem?_toArray, List.getElem?_cons_succ, List.getElem?_cons_zero, Option.getD_some]
            simp only [putAll, Act.put, List.setIfInBounds_toArray, List.set_cons_succ, List.set_cons_zero]
            have e_ : us 73 = .tuple #[.agg (x.map B).toArray, .agg (z.map B).toArray] := hneed 11 (by simp)
            refine wpMix_v (by kernel_rfl) (.tuple #[.agg (x.map B).toArray, .agg (z.map B).toArray]) (fun s => run_move_op (.tmp 73) rfl _ e_ s.W) ?_
            simp only [Act.put]
            refine wpMix_nil ?_
            exact ⟨.tuple #[.agg (x.map B).toArray, .agg (z.map B).toArray], by kernel_rfl, rfl, Below.refl _ _, fun g e => by cases e⟩
          case k13 =>
            intro us u8k hSk hneed
            simp only [Array.getD_eq_getD_getElem?, List.getElem?_toArray, List.getElem?_cons_succ, List.getElem?_cons_zero, Option.getD_some]
            simp only [putAll, Act.put, List.setIfInBounds_toArray, List.set_cons_succ, List.set_cons_zero]
            have e_ : us 61 = .tuple #[.agg (x.map B).toArray, .agg (z.map B).toArray] := hneed 12 (by simp)
            refine wpMix_v (by kernel_rfl) (.agg (x.map B).toArray) (fun s => run_extract_op (.tmp 61) 0 rfl #[.agg (x.map B).toArray, .agg (z.map B).toArray] e_ _ rfl s.W) ?_
            simp only [Act.put]
            refine wpMix_nil ?_
            exact ⟨.agg (x.map B).toArray, by kernel_rfl, rfl, Below.refl _ _, fun g e => by cases e⟩
          case k14 =>
            intro us u8k hSk hneed
            simp only [Array.getD_eq_getD_getElem?, List.getElem?_toArray, List.getElem?_cons_succ, List.getElem?_cons_zero, Option.getD_some]
            simp only [putAll, Act.put, List.setIfInBounds_toArray, List.set_cons_succ, List.set_cons_zero]
            have e_ : us 61 = .tuple #[.agg (x.map B).toArray, .agg (z.map B).toArray] := hneed 12 (by simp)
            refine wpMix_v (by kernel_rfl) (.agg (z.map B).toArray) (fun s => run_extract_op (.tmp 61) 1 rfl #[.agg (x.map B).toArray, .agg (z.map B).toArray] e_ _ rfl s.W) ?_
            simp only [Act.put]
            refine wpMix_nil ?_
            exact ⟨.agg (z.map B).toArray, by kernel_rfl, rfl, Below.refl _ _, fun g e => by cases e⟩
          case k15 =>
            intro us u8k hSk hneed
            simp only [Array.getD_eq_getD_getElem?, List.getElem?_toArray, List.getElem?_cons_succ, List.getElem?_cons_zero, Option.getD_some]
            simp only [putAll, Act.put, List.setIfInBounds_toArray, List.set_cons_succ, List.set_cons_zero]
            refine wpMix_hnew rfl rfl (fun _ hb => hSk.trans (hb.mono hSk.size)) ?_
            intro u8j kj hb'
            refine wpMix_nil ?_
            exact ⟨ptrB u8k.heap.size, by kernel_rfl, ⟨_, rfl, kj, hSk.size⟩, hb', fun g e => by cases e; exact Nat.le_refl _⟩
          case k16 =>
            intro us u8k hSk hneed
            simp only [Array.getD_eq_getD_getElem?, List.getElem?_toArray, List.getElem?_cons_succ, List.getElem?_cons_zero, Option.getD_some]
            simp only [putAll, Act.put, List.setIfInBounds_toArray, List.set_cons_succ, List.set_cons_zero]
            refine wpMix_hnew rfl rfl (fun _ hb => hSk.trans (hb.mono hSk.size)) ?_
            intro u8j kj hb'
            refine wpMix_nil ?_
            exact ⟨ptrB u8k.heap.size, by kernel_rfl, ⟨_, rfl, kj, hSk.size⟩, hb', fun g e => by cases e; exact Nat.le_refl _⟩
        · intro us u8t hS hF hA
          have e50 : us 74 = .agg (x.map B).toArray := hF 13 (by simp)
          have e51 : us 75 = .agg (z.map B).toArray := hF 14 (by simp)
          obtain ⟨g16, e16, k16, h16⟩ : (Fc.hash w2.heap.size (List.replicate 32 0)).ok (us 18) u8t := hF 15 (by simp)
          obtain ⟨g17, e17, k17, h17⟩ : (Fc.hash w2.heap.size (List.replicate 32 0)).ok (us 19) u8t := hF 16 (by simp)
          have h1617 : g16 ≠ g17 := fun e => hA 15 (by simp) 16 (by simp) (by decide) g16 e16 (by rw [e]; exact e17)
          simp only [putAll, Act.put, List.setIfInBounds_toArray, List.set_cons_succ, List.set_cons_zero]
          rw [e50, e51, e16, e17]
          clear hF hA e50 e51 e16 e17
          show wpAnyH _ _ _ _ _ _ #[true, true, true, true, true, true, true, true, true, true, true, true, true, true, true, true, true, false, false] _ _
          refine wpAnyH_pre (f := 0) (by kernel_rfl) #[true, true, true, true, true, true, true, true, true, true, true, true, true, true, true, true, true, true, true] [(17, false), (18, false)] _ _ _ (by kernel_rfl) hS ?_
          simp only [List.map_cons, List.map_nil, Array.getD_eq_getD_getElem?, List.getElem?_toArray, List.getElem?_cons_succ, List.getElem?_cons_zero, Option.getD_some]
          refine wpMix_hset (.tmp 18) (.tmp 74) rfl rfl k16 rfl rfl Ll1.out (fun _ hb => hS.trans (hb.mono h16)) ?_
          intro u8_1 k16s hb' hoth
          simp only [Act.put]
          replace hS := hS.trans (hb'.mono h16)
          replace k17 := hoth _ _ (fun e => h1617 e.symm) k17
          clear hb' hoth
          refine wpMix_hset (.tmp 19) (.tmp 75) rfl rfl k17 rfl rfl Ll3.out (fun _ hb => hS.trans (hb.mono h17)) ?_
          intro u8_2 k17s hb' hoth
          simp only [Act.put]
          replace hS := hS.trans (hb'.mono h17)
          replace k16s := hoth _ _ h1617 k16s
          clear hb' hoth
          refine wpMix_nil ?_
          intro _
          refine wpAnyH_end (by kernel_rfl) ?_
          have hb8 := hbw.trans (hS.mono hbw.size)
          replace k10 := k10.step hS
          replace k12 := k12.step hS
          replace k13 := k13.step hS
          clear hS k16 k17
          go_wp2_with fail
          have hS : Below u8_2.heap.size u8_2 u8_2.drew := (Below.refl _ _).drew
          refine wp_region_mix_tail7 (fun W => Below u8_2.heap.size u8_2 W) 16 [(0, true), (1, true), (2, true), (3, true), (4, true), (5, true), (8, true), (9, true), (10, true), (11, true), (12, true), (13, true), (6, false), (7, false), (14, false), (15, false)] (by kernel_rfl) (by kernel_rfl) hS fun _ => ?_
          simp only [List.map_cons, List.map_nil, Array.getD_eq_getD_getElem?, List.getElem?_toArray, List.getElem?_cons_succ, List.getElem?_cons_zero, Option.getD_some]
          generalize u8_2.drew = v8_ at hS ⊢
          refine wpMix_s (fun K hK => ?_)
          go_simp
          refine hK _ ?_
          clear hK K
          refine wpMix_s (fun K hK => ?_)
          go_simp
          refine hK _ ?_
          clear hK K
          refine wpMix_s (fun K hK => ?_)
          go_simp
          refine hK _ ?_
          clear hK K
          refine wpMix_s (fun K hK => ?_)
          go_simp
          refine hK _ ?_
          clear hK K
          refine wpMix_load (by kernel_rfl) 25 (.tmp 79) rfl (bp) (op + L * 32) rfl (y.map B).toArray ((fun s => Hget.out s.W (hb8.trans (s.ok.mono hb8.size)))) ?_
          simp only [Act.put]
          refine wpMix_load (by kernel_rfl) 25 (.tmp 18) rfl (g16) (0) rfl (x.map B).toArray ((fun s => (k16s.step s.ok).load)) ?_
          simp only [Act.put]
          refine wpMix_s (fun K hK => ?_)
          go_simp
          refine hK _ ?_
          clear hK K
          refine wpMix_s (fun K hK => ?_)
          go_simp
          refine hK _ ?_
          clear hK K
          refine wpMix_s (fun K hK => ?_)
          go_simp
          refine hK _ ?_
          clear hK K
          refine wpMix_s (fun K hK => ?_)
          go_simp
          refine hK _ ?_
          clear hK K
          refine wpMix_load (by kernel_rfl) 25 (.tmp 87) rfl (bp) (op + L * 32) rfl (y.map B).toArray ((fun s => Hget.out s.W (hb8.trans (s.ok.mono hb8.size)))) ?_
          simp only [Act.put]
          refine wpMix_load (by kernel_rfl) 25 (.tmp 19) rfl (g17) (0) rfl (z.map B).toArray ((fun s => (k17s.step s.ok).load)) ?_
          simp only [Act.put]
          have hz9 := hS.size
          refine wpMix_c (fun K hK => ?_) hS
          go_simp
          refine (Hnd.out v8_).mono ?_
          rintro e v8_a ⟨v8, rfl, hf⟩
          refine hK _ _ ?_
          clear hK K
          replace hS := hS.trans (hf.2.mono hz9)
          refine ⟨hS, ?_⟩
          obtain ⟨A8, c8, rfl, hs8⟩ := hf.sl
          replace hs8 := hs8.all
          rw [Hnl.out] at hs8 ⊢
          clear hf hz9
          have hz9 := hS.size
          refine wpMix_c (fun K hK => ?_) hS
          go_simp
          refine (Hcall.out A8 65 c8 v8_a hs8 (by decide)).mono ?_
          rintro e v8_aa ⟨rfl, hb'⟩
          refine hK _ _ ?_
          clear hK K
          replace hS := hS.trans (hb'.mono hz9)
          refine ⟨hS, ?_⟩
          clear hb' hz9 hs8
          have hz9 := hS.size
          refine wpMix_c (fun K hK => ?_) hS
          go_simp
          refine (Hnd'.out v8_aa).mono ?_
          rintro e v8_aaa ⟨v8, rfl, hf⟩
          refine hK _ _ ?_
          clear hK K
          replace hS := hS.trans (hf.2.mono hz9)
          refine ⟨hS, ?_⟩
          obtain ⟨A8, c8, rfl, hs8⟩ := hf.sl
          replace hs8 := hs8.all
          rw [Hnl'.out] at hs8 ⊢
          clear hf hz9
          have hz9 := hS.size
          refine wpMix_c (fun K hK => ?_) hS
          go_simp
          refine (Hcall'.out A8 65 c8 v8_aaa hs8 (by decide)).mono ?_
          rintro e v8_aaaa ⟨rfl, hb'⟩
          refine hK _ _ ?_
          clear hK K
          replace hS := hS.trans (hb'.mono hz9)
          refine ⟨hS, ?_⟩
          clear hb' hz9 hs8
          refine wpMix_nil ?_
          intro _
          simp only [List.drop_succ_cons, List.drop_zero]
          have hbN := hb8.trans (hS.mono hb8.size)
          replace k12 := k12.step hS
          replace k13 := k13.step hS
          refine wpList_hset2 (.tmp 12) (.tmp 83) rfl rfl k12 rfl rfl Hlr.out ?_
          intro v8_y k12s hby hoy
          replace k13 := hoy _ _ (by omega) k13
          simp only [Act.put]
          go_wp2_with ((with_reducible show wpList _ _ _ [⟨none, .store _ _ _, _, _, _, _⟩] _ _); refine wpList_hset2 (.tmp 13) (.tmp 91) rfl rfl k13 rfl rfl Hlr'.out ?_; intro v8_z k13s hbz hoz; replace k12s := hoz _ _ (by omega) k12s; simp only [Act.put])
          refine np_normal ?_
          go_wp2_with fail
          exact ⟨bodyPost_ret (ret_hash2 rfl rfl rfl k12s k13s) rfl ⟨rfl, (hbN.trans (hby.mono (by omega))).trans (hbz.mono (by omega))⟩⟩
end Go.Proofs.Ytonidnfgneokbaa
