/- audit.Cons. -/
import Derived.Test.YtonidnfgneokbaaQd143
import Derived.Test.YtonidnfgneokbaaQd145
import Derived.Test.YtonidnfgneokbaaQd146
namespace Go.Proofs.Ytonidnfgneokbaa
open Go Go.RowKit Go.Shelf
attribute [local go_sem] Oper.semAt_some

set_option maxRecDepth 100000 in
theorem wpList_i64var {w : World} {ops : Array Oper} {rest : List Oper} {o1 o2 : Oper} {a : Act} {Q : Exit → Act → World → Prop} {i : Int} (x y : Operand) (hg1 : o1.guard = none) (hg2 : o2.guard = none) (ho1 : o1.op = .alloc 2) (ho2 : o2.op = .store 2 x y)
    (hx : (a.put o1.dst (.pointer (some ⟨w.heap.size, 0, none⟩))).eval x = .pointer (some ⟨w.heap.size, 0, none⟩)) (hy : (a.put o1.dst (.pointer (some ⟨w.heap.size, 0, none⟩))).eval y = .int .i64 i)
    (hh : ∀ W, Blk W w.heap.size 2 #[.int .i64 i] → Below w.heap.size w W → wpList Try.prog ops Q rest ((a.put o1.dst (.pointer (some ⟨w.heap.size, 0, none⟩))).put o2.dst undef) W) : wpList Try.prog ops Q (o1 :: o2 :: rest) a w := by
  refine wpList_run hg1 (.pointer (some ⟨w.heap.size, 0, none⟩)) (w.alloc (.cells #[.int .i64 0] 2)) ?_ ?_
  · unfold execOp
    rw [ho1]
    rfl
  · refine wpList_store_one hg2 2 x y ho2 w.heap.size hx (by rw [hy]; rfl) 2 (.int .i64 0) (Blk.new w 2 #[.int .i64 0]) (by kernel_rfl) ?_
    rw [hy]
    exact hh _ ((Blk.new w 2 #[.int .i64 0]).setRow_ _) (below_setRow ((Below.refl _ _).alloc (Nat.le_refl _) _) (Nat.le_refl _) _)
theorem consC_2 (H : Hf) (d : List (List UInt8)) (m : Int) (fi : List UInt8) (pf : List (List UInt8)) (h : bigD d = true) : consC H d m fi pf = (noC, 2) := by unfold consC; rw [if_pos h]
theorem consC_4 (H : Hf) (d : List (List UInt8)) (m : Int) (fi : List UInt8) (pf : List (List UInt8)) (h : ¬ bigD d = true) (h2 : m < 1 ∨ (d.length : Int) < m) : consC H d m fi pf = (noC, 4) := by unfold consC; rw [if_neg h, if_pos h2]
theorem consC_n (H : Hf) (d : List (List UInt8)) (m : Nat) (fi : List UInt8) (pf : List (List UInt8)) (h : ¬ bigD d = true) (h1 : 1 ≤ m) (h2 : m ≤ d.length) : consC H d m fi pf =
    if pf.length ≠ cntW true (wayC m d.length) then (noC, (230 : Int)) else if bothA H true (wayC m d.length) fi pf ≠ rootA H d ∨ bothE H true (wayC m d.length) fi pf ≠ fi then (noC, 230)
    else consM H (wayC m d.length) (saidL H (wayC m d.length) (seedB true (wayC m d.length) pf) (seedX true (wayC m d.length) fi pf)) d := by
  unfold consC
  rw [if_neg h, if_neg (by omega), Int.toNat_natCast]
  rfl
theorem ownW_ct (way : List Bool) : ownW true way = way.contains true := by unfold ownW; simp

set_option maxHeartbeats 16000000 in
set_option maxRecDepth 100000 in
theorem acons_any {f : Nat} {H : Hf} (hF : HFn f H) (ls : List (List UInt8)) (Ad : Option Addr) (nd cd : Nat) (m : Int) (fi : List UInt8) (pf : List (List UInt8)) (Ap : Option Addr) (np cp : Nat) (w : World)
    (hd : Es w (fun _ => True) Ad nd cd ls) (hfi : fi.length = 32) (hp : Hs w (fun _ => True) Ap np cp pf) :
    Calls Try.prog 32 #[hval f, .slice Ad nd cd, .int .i64 m, .agg (fi.map B).toArray, .slice Ap np cp] w fun e' w' => ∃ v, e' = .returned (.tuple #[v, .int .i64 (consC H ls m fi pf).2]) ∧ ClV w.heap.size (consC H ls m fi pf).1 v w' ∧ Below w.heap.size w w' := by
  have hroomd := hd.room
  have hmxd := hd.max
  unfold maxLen at hmxd
  have hroomp := hp.sl.room
  have hmxp := hp.sl.max
  unfold maxLen at hmxp
  have hdl := hd.len
  have hpl := hp.len
  have hp32 := hp.all
  obtain ⟨w0, hw0⟩ : ∃ w0, w.alloc (.cells (fi.map B).toArray 25) = w0 := ⟨_, rfl⟩
  have hb0 : Below w.heap.size w w0 := by rw [← hw0]; exact (Below.refl _ _).alloc (Nat.le_refl _) _
  have k8 : HV w0 w.heap.size fi := ⟨by rw [← hw0]; exact Blk.new _ _ _, hfi⟩
  have hs0 : w0.heap.size = w.heap.size + 1 := by rw [← hw0]; simp
  have hd' := hd.weak (Y := (· < w.heap.size)) fun b hb _ => hb
  have hp' := hp.weak (Y := (· < w.heap.size)) fun b hb _ => hb
  have Hw0 := Lib.hid hw0
  have Hs0 := Lib.hid hs0
  have Hdl := Lib.hid hdl
  have Hpl := Lib.hid hpl
  have Hp32 := Lib.hid hp32
  have Hfi := Lib.hid hfi
  clear hw0 hs0 hd hp hdl hpl hp32 hfi
  obtain ⟨big, hbig⟩ : ∃ b, bigD ls = b := ⟨_, rfl⟩
  have hlg := fun W (hb : Below w.heap.size w W) => alarge_any ls Ad nd cd W ((hd'.step hb).all)
  rw [hbig] at hlg
  have Hlg := Lib.hid hlg
  have Hbig := Lib.hid hbig
  clear hlg hbig
  by_cases hA : big = true
  · subst hA
    rw [consC_2 H ls m fi pf Hbig.out]
    go_enter Try.func32, Try.ntmps32
    refine Code.wp_mono (fun _ _ _ h => BP.out h) ?_
    go_wp2_with (first
      | ((with_reducible show wpList _ _ _ (⟨some 10, .alloc _, _, _, _, _⟩ :: _) _ _); rw [Hw0.out]; refine wpList_clnew rfl rfl ?_; intro w1 k10 hb1; replace k8 := k8.step hb1; have hb2 := hb0.trans (hb1.mono hb0.size); simp only [Act.put])
      | ((with_reducible show wpList _ _ _ (⟨some 27, .binOp _ _ _ _ _, _, _, _, _⟩ :: _) _ _); refine wpList_run0 rfl (.bool false) (run_eqnil_op (.tmp 26) (.const .nilFunc) _ rfl rfl rfl _) ?_; simp only [Act.put])
      | (go_at_call 84; refine (Hlg.out _ hb2).mono ?_; rintro e w2 ⟨rfl, hw2⟩; obtain rfl := hw2.symm)
      | ((with_reducible show wpList _ _ _ (⟨some 32, .build _ _, _, _, _, _⟩ :: _) _ _); refine wpList_run0 rfl (.agg #[.slice none 0 0, .slice none 0 0]) (by kernel_rfl) ?_; simp only [Act.put])
      | ((with_reducible show wpList _ _ _ (⟨none, .store _ (.tmp 10) (.tmp 32), _, _, _, _⟩ :: _) _ _); refine wpList_clset (.tmp 10) (.tmp 32) rfl rfl k10 rfl rfl rfl rfl ?_; intro W3 k10s hb3 hW3; clear hW3; have hbE := hb2.trans (hb3.mono (by have := Hs0.out; omega)); simp only [Act.put]))
    exact ⟨bodyPost_ret (ret_clash2 rfl rfl k10s) rfl ⟨_, rfl, ClV.zero _ _, hbE⟩⟩
  have hA1 : big = false := by simpa using hA
  subst hA1
  have hnb : ¬ bigD ls = true := by rw [Hbig.out]; simp
  have hnb2 := bigD_not ls Hbig.out
  rw [Hdl.out] at hnb2
  have Hnb := Lib.hid hnb
  have Hnb2 := Lib.hid hnb2
  clear hA hnb hnb2
  by_cases hB : m < 1 ∨ (nd : Int) < m
  · rw [consC_4 H ls m fi pf Hnb.out (by rw [Hdl.out]; exact hB)]
    have Hb := Lib.hid hB
    by_cases hi0 : m < 1
    · have hi1 : decide (m < (1 : Int)) = true := by simpa using hi0
      clear hB
      go_enter Try.func32, Try.ntmps32
      refine Code.wp_mono (fun _ _ _ h => BP.out h) ?_
      go_wp2_with (first
        | ((with_reducible show wpList _ _ _ (⟨some 10, .alloc _, _, _, _, _⟩ :: _) _ _); rw [Hw0.out]; refine wpList_clnew rfl rfl ?_; intro w1 k10 hb1; replace k8 := k8.step hb1; have hb2 := hb0.trans (hb1.mono hb0.size); simp only [Act.put])
        | ((with_reducible show wpList _ _ _ (⟨some 27, .binOp _ _ _ _ _, _, _, _, _⟩ :: _) _ _); refine wpList_run0 rfl (.bool false) (run_eqnil_op (.tmp 26) (.const .nilFunc) _ rfl rfl rfl _) ?_; simp only [Act.put])
        | (go_at_call 84; refine (Hlg.out _ hb2).mono ?_; rintro e w2 ⟨rfl, hw2⟩; obtain rfl := hw2.symm)
        | ((with_reducible show wpList _ _ _ (⟨some 41, .build _ _, _, _, _, _⟩ :: _) _ _); refine wpList_run0 rfl (.agg #[.slice none 0 0, .slice none 0 0]) (by kernel_rfl) ?_; simp only [Act.put])
        | ((with_reducible show wpList _ _ _ (⟨none, .store _ (.tmp 10) (.tmp 41), _, _, _, _⟩ :: _) _ _); refine wpList_clset (.tmp 10) (.tmp 41) rfl rfl k10 rfl rfl rfl rfl ?_; intro W3 k10s hb3 hW3; clear hW3; have hbE := hb2.trans (hb3.mono (by have := Hs0.out; omega)); simp only [Act.put]))
      exact ⟨bodyPost_ret (ret_clash2 rfl rfl k10s) rfl ⟨_, rfl, ClV.zero _ _, hbE⟩⟩
    · have hi1 : decide (m < (1 : Int)) = false := by simpa using hi0
      have hi2' : (nd : Int) < m := by omega
      have hi2 : decide ((nd : Int) < m) = true := by simpa using hi2'
      clear hB
      go_enter Try.func32, Try.ntmps32
      refine Code.wp_mono (fun _ _ _ h => BP.out h) ?_
      go_wp2_with (first
        | ((with_reducible show wpList _ _ _ (⟨some 10, .alloc _, _, _, _, _⟩ :: _) _ _); rw [Hw0.out]; refine wpList_clnew rfl rfl ?_; intro w1 k10 hb1; replace k8 := k8.step hb1; have hb2 := hb0.trans (hb1.mono hb0.size); simp only [Act.put])
        | ((with_reducible show wpList _ _ _ (⟨some 27, .binOp _ _ _ _ _, _, _, _, _⟩ :: _) _ _); refine wpList_run0 rfl (.bool false) (run_eqnil_op (.tmp 26) (.const .nilFunc) _ rfl rfl rfl _) ?_; simp only [Act.put])
        | (go_at_call 84; refine (Hlg.out _ hb2).mono ?_; rintro e w2 ⟨rfl, hw2⟩; obtain rfl := hw2.symm)
        | ((with_reducible show wpList _ _ _ (⟨some 41, .build _ _, _, _, _, _⟩ :: _) _ _); refine wpList_run0 rfl (.agg #[.slice none 0 0, .slice none 0 0]) (by kernel_rfl) ?_; simp only [Act.put])
        | ((with_reducible show wpList _ _ _ (⟨none, .store _ (.tmp 10) (.tmp 41), _, _, _, _⟩ :: _) _ _); refine wpList_clset (.tmp 10) (.tmp 41) rfl rfl k10 rfl rfl rfl rfl ?_; intro W3 k10s hb3 hW3; clear hW3; have hbE := hb2.trans (hb3.mono (by have := Hs0.out; omega)); simp only [Act.put]))
      exact ⟨bodyPost_ret (ret_clash2 rfl rfl k10s) rfl ⟨_, rfl, ClV.zero _ _, hbE⟩⟩
  rw [not_or] at hB
  obtain ⟨s, rfl⟩ : ∃ s : Nat, m = (s : Int) := ⟨m.toNat, by omega⟩
  have hs1 : 1 ≤ s := by omega
  have hsn : s ≤ nd := by omega
  have hnd : nd ≤ 65536 := Hnb2.out.1
  have hi1 : decide ((s : Int) < (1 : Int)) = false := by simp; omega
  have hi1' : ¬ (s : Int) < 1 := by omega
  have hi2 : decide ((nd : Int) < (s : Int)) = false := by simp; omega
  have hi2' : ¬ (nd : Int) < (s : Int) := by omega
  rw [consC_n H ls s fi pf Hnb.out hs1 (by rw [Hdl.out]; exact hsn), Hpl.out, Hdl.out]
  have hst := fun W g (k : Blk W g 2 #[.int .i64 (s : Int)]) => stepsC_any s nd g W k hs1 hsn (by omega)
  obtain ⟨way, hway⟩ : ∃ way, wayC s nd = way := ⟨_, rfl⟩
  have hwll : way.length ≤ nd := by rw [← hway]; exact wayF_le _ _ _ _ _
  rw [hway] at hst ⊢
  obtain ⟨L, hL⟩ : ∃ L, way.length = L := ⟨_, rfl⟩
  rw [hL] at hst hwll
  have hct := fun A c W (h : SlV W (fun _ => True) A L c 1 (bcells way)) => contb_any way A L c W h hL
  have hfit : fitsW way nd := by rw [← hway]; exact fitsW_C nd s hs1 hsn
  have hcnt : cntW true way = L + if way.contains true = true then 1 else 0 := by unfold cntW; rw [hL, ownW_ct]
  have hown := ownW_ct way
  have hsB : seedB true way pf = if way.contains true = true then pf.drop 1 else pf := by unfold seedB; rw [ownW_ct]
  have hsX : seedX true way fi pf = if way.contains true = true then pf.getD 0 [] else fi := by unfold seedX; rw [ownW_ct]
  have lX := fun (h : pf.length = cntW true way) => seedX_len true way fi pf Hfi.out Hp32.out h
  have lE := fun (h : pf.length = cntW true way) => length_bothE H hF.len true way fi pf Hfi.out Hp32.out h
  have lA := fun (h : pf.length = cntW true way) => length_bothA H hF.len true way fi pf Hfi.out Hp32.out h
  rw [Hpl.out] at lX lE lA
  rw [hcnt] at lX lE lA ⊢
  obtain ⟨ct, hcte⟩ : ∃ c, way.contains true = c := ⟨_, rfl⟩
  rw [hcte] at hct hsB hsX lX lE lA ⊢
  have Hst := Lib.hid hst
  have Hct := Lib.hid hct
  have Hway := Lib.hid hway
  have HL := Lib.hid hL
  have Hfit := Lib.hid hfit
  clear hB hst hct hway hL hfit hcte hown hcnt
  cases ct with
  | true =>
    rw [if_pos rfl] at hsB hsX lX lE lA ⊢
    by_cases hn0 : np = 0
    · subst hn0
      rw [if_pos (by omega)]
      clear hsB hsX lX lE lA
      go_enter Try.func32, Try.ntmps32
      refine Code.wp_mono (fun _ _ _ h => BP.out h) ?_
      go_wp2_with (first
        | ((with_reducible show wpList _ _ _ (⟨some 10, .alloc _, _, _, _, _⟩ :: _) _ _); rw [Hw0.out]; refine wpList_clnew rfl rfl ?_; intro w1 k10 hb1; replace k8 := k8.step hb1; have hb2 := hb0.trans (hb1.mono hb0.size); simp only [Act.put])
        | ((with_reducible show wpList _ _ _ (⟨some 27, .binOp _ _ _ _ _, _, _, _, _⟩ :: _) _ _); refine wpList_run0 rfl (.bool false) (run_eqnil_op (.tmp 26) (.const .nilFunc) _ rfl rfl rfl _) ?_; simp only [Act.put])
        | (go_at_call 84; refine (Hlg.out _ hb2).mono ?_; rintro e w2 ⟨rfl, hw2⟩; obtain rfl := hw2.symm)
        | ((with_reducible show wpList _ _ _ (⟨some 43, .build _ _, _, _, _, _⟩ :: _) _ _); refine wpList_run0 rfl (.agg #[hval f]) (by kernel_rfl) ?_; simp only [Act.put])
        | ((with_reducible show wpList _ _ _ (⟨some 13, .alloc _, _, _, _, _⟩ :: _) _ _); refine wpList_trvar (.tmp 13) (.tmp 43) rfl rfl rfl rfl rfl rfl rfl ?_; have hk10l := k10.lt; intro w3 k13 hb13; replace k8 := k8.step hb13; replace k10 := k10.step hb13; have hb4 := hb2.trans (hb13.mono hb2.size); simp only [Act.put])
        | ((with_reducible show wpList _ _ _ (⟨some 14, .alloc _, _, _, _, _⟩ :: _) _ _); refine wpList_i64var (.tmp 14) (.tmp 44) rfl rfl rfl rfl rfl rfl ?_; have hk13l := k13.lt; intro w4 k14 hb14; replace k8 := k8.step hb14; replace k10 := k10.step hb14; replace k13 := k13.step hb14; have hb4b := hb4.trans (hb14.mono hb4.size); simp only [Act.put])
        | (go_at_call 85; go_loud (refine (Hst.out _ _ k14).mono ?_; rintro e w5 ⟨v14, rfl, ho14, hg14⟩; obtain ⟨A15, c15, rfl, hsv⟩ := owns_slv ho14; have hz8 := hb0.size; have hz5' := hg14.size; have hz4' := hb14.size; replace k8 := (⟨k8.blk.grown hg14 (by intro e9; have := Option.some.inj e9; omega), k8.len⟩ : HV _ _ fi); replace k10 := k10.grown hg14 (by intro e9; have := Option.some.inj e9; omega); replace k13 := k13.grown hg14 (by intro e9; have := Option.some.inj e9; omega); have hb5 : Below w.heap.size w w5 := hb4b.trans (below_of_grown9 hg14 hb4.size hb4b.size)))
        | ((with_reducible show wpList _ _ _ (⟨some 49, .load _ _, _, _, _, _⟩ :: _) _ _); refine wpList_hload (.tmp 8) (by kernel_rfl) rfl k8 rfl ?_; simp only [Act.put])
        | ((with_reducible show wpList _ _ _ (⟨some 16, .alloc _, _, _, _, _⟩ :: _) _ _); refine wpList_hvar (.tmp 16) (.tmp 49) rfl rfl rfl rfl rfl rfl Hfi.out ?_; intro w6 k16 hb16; replace k8 := k8.step hb16; replace k10 := k10.step hb16; replace k13 := k13.step hb16; have hsv6 := hsv.step hb16; have hb6 := hb5.trans (hb16.mono hb5.size); have hz5 := hb5.size; simp only [Act.put])
        | (go_at_call 95; refine (Hct.out _ _ _ hsv6.all).mono ?_; rintro e w7 ⟨rfl, hww⟩; obtain rfl := hww.symm)
        | ((with_reducible show wpList _ _ _ (⟨some 56, .build _ _, _, _, _, _⟩ :: _) _ _); refine wpList_run0 rfl (.agg #[.slice none 0 0, .slice none 0 0]) (by kernel_rfl) ?_; simp only [Act.put])
        | ((with_reducible show wpList _ _ _ (⟨none, .store _ (.tmp 10) (.tmp 56), _, _, _, _⟩ :: _) _ _); refine wpList_clset (.tmp 10) (.tmp 56) rfl rfl k10 rfl rfl rfl rfl ?_; intro W3 k10s hb3 hW3; clear hW3; have hbE := hb6.trans (hb3.mono (by have := Hs0.out; omega)); simp only [Act.put]))
      exact ⟨bodyPost_ret (ret_clash2 rfl rfl k10s) rfl ⟨_, rfl, ClV.zero _ _, hbE⟩⟩
    have hn0' : ((np : Int) == (0 : Int)) = false := by simp; omega
    have l2 := Hp32.out.getD 0 (by rw [Hpl.out]; omega)
    obtain ⟨bp, op, rfl, hbp, -, -⟩ := hp'.at_ (by omega)
    have hget0 := fun W (hb : Below w.heap.size w W) => (hp'.step hb).get rfl 0 (by omega)
    have hget := fun W (hb : Below w.heap.size w W) => (show (Instr.loadAt 25 (.pointer (some ⟨bp, op, none⟩))).run Try.prog W = .ok (.agg ((pf.getD 0 []).map B).toArray) W by have h := hget0 W hb; rw [Nat.zero_mul, Nat.add_zero] at h; exact h)
    have hdr := hp'.drop 1 (by omega)
    obtain ⟨a0, ha0⟩ : ∃ y, pf.getD 0 [] = y := ⟨_, rfl⟩
    obtain ⟨A17, hA17⟩ : ∃ A, (if cp = 1 then (some ⟨bp, op, none⟩ : Option Addr) else (some ⟨bp, op, none⟩ : Option Addr).map (·.add (1 * 32))) = A := ⟨_, rfl⟩
    obtain ⟨B17, hB17⟩ : ∃ y, pf.drop 1 = y := ⟨_, rfl⟩
    obtain ⟨N17, hN17⟩ : ∃ N, np - 1 = N := ⟨_, rfl⟩
    obtain ⟨C17, hC17⟩ : ∃ N, cp - 1 = N := ⟨_, rfl⟩
    rw [hA17, hB17, hN17, hC17] at hdr
    have hN17' : np = N17 + 1 := by omega
    have hC17p : 1 ≤ np := by omega
    have hC17q : 0 < np := by omega
    have hs61 := fun (ρ : Operand → Value) (o : Oper) (ho : o.op = .slice 26 (.tmp 60) (some (.const (.int .i64 1))) none none) (hx : ρ (.tmp 60) = .slice (some ⟨bp, op, none⟩) np cp) (hy : ρ (.const (.int .i64 1)) = .int .i64 ((1 : Nat) : Int)) (W : World) => run_slice_op_lo (.tmp 60) (.const (.int .i64 1)) ho (some ⟨bp, op, none⟩) np cp 1 hx hy hC17p W
    rw [hA17, hN17, hC17] at hs61
    have Hs61 := Lib.hid hs61
    have HN17' := Lib.hid hN17'
    have HN17 := Lib.hid hN17
    have HC17 := Lib.hid hC17
    rw [hB17] at hsB
    rw [ha0] at hsX hget l2
    have Hget := Lib.hid hget
    have L2 := Lib.hid l2
    have HA17 := Lib.hid hA17
    clear hget hget0 l2 ha0 hA17 hB17 hN17 hC17 hs61 hN17'
    by_cases hC : N17 = L
    · subst hC
      rw [if_neg (fun h => h HN17'.out)]
      have hC1 : ((N17 : Int) != (N17 : Int)) = false := by simp
      have hC2 : ¬ ¬ (N17 : Int) = (N17 : Int) := by simp
      have hnp := HN17'.out
      have hatl := lA hnp
      have hell := lE hnp
      have h0l : a0.length = 32 := L2.out
      have hAe : bothA H true way fi pf = atI H way B17 a0 N17 := by unfold bothA; rw [hsB, hsX, HL.out]
      have hEe : bothE H true way fi pf = elderI H way B17 a0 N17 := by unfold bothE; rw [hsB, hsX, HL.out]
      rw [hAe] at hatl
      rw [hEe] at hell
      rw [hAe, hEe, hsB, hsX]
      have hsaid := fun A c W (hb : Below w.heap.size w W) (hs : SlV W (fun _ => True) A N17 c 1 (bcells way)) => said_any hF way A N17 c a0 B17 A17 C17 W hs HL.out h0l ((hdr.step hb).weak fun _ _ _ => trivial) (by omega)
      have helr := fun A c W (hb : Below w.heap.size w W) (hs : SlV W (fun _ => True) A N17 c 1 (bcells way)) => elder_any hF way A N17 c a0 B17 A17 C17 W hs HL.out ((hdr.step hb).weak fun _ _ _ => trivial) h0l
      have hrt := fun W (hb : Below w.heap.size w W) => troot13_rec hF nd ls Ad nd cd W (Nat.le_refl _) (hd'.step hb).all (by omega) (fun x hx => Nat.le_trans (Hnb2.out.2 x hx) (by decide))
      obtain ⟨at_, hat⟩ : ∃ a, atI H way B17 a0 N17 = a := ⟨_, rfl⟩
      obtain ⟨el, hel⟩ : ∃ a, elderI H way B17 a0 N17 = a := ⟨_, rfl⟩
      obtain ⟨sd, hsd⟩ : ∃ a, saidL H way B17 a0 = a := ⟨_, rfl⟩
      rw [hat, hsd] at hsaid
      rw [hel] at helr hell
      rw [hat] at hatl
      rw [hat, hel, hsd]
      obtain ⟨ro, hro⟩ : ∃ a, rootA H ls = a := ⟨_, rfl⟩
      have hrol : ro.length = 32 := by rw [← hro]; exact length_rootA H hF.len ls
      rw [hro] at hrt ⊢
      obtain ⟨res, hres⟩ : ∃ r, (if at_ ≠ ro ∨ el ≠ fi then (noC, (230 : Int)) else consM H way sd ls) = r := ⟨_, rfl⟩
      rw [hres]
      have Hres := Lib.hid hres
      have Hsaid := Lib.hid hsaid
      have Helr := Lib.hid helr
      have Hrt := Lib.hid hrt
      have Hatl := Lib.hid hatl
      have Hell := Lib.hid hell
      have Hrol := Lib.hid hrol
      have H0l := Lib.hid h0l
      clear hres hsaid helr hrt hat hsd hel hatl hell hrol h0l hAe hEe hsB hsX lX lE lA hnp
      by_cases hD : at_ = ro
      · have HD := Lib.hid hD
        by_cases hE : el = fi
        · have HE := Lib.hid hE
          have hr := Hres.out
          rw [if_neg (by rw [not_or]; exact ⟨fun h => h hD, fun h => h hE⟩)] at hr
          have Hr := Lib.hid hr
          clear hr hD hE
          go_enter Try.func32, Try.ntmps32
          refine Code.wp_mono (fun _ _ _ h => BP.out h) ?_
          go_wp2_with (first
            | ((with_reducible show wpList _ _ _ (⟨some 10, .alloc _, _, _, _, _⟩ :: _) _ _); rw [Hw0.out]; refine wpList_clnew rfl rfl ?_; intro w1 k10 hb1; replace k8 := k8.step hb1; have hb2 := hb0.trans (hb1.mono hb0.size); simp only [Act.put])
            | ((with_reducible show wpList _ _ _ (⟨some 27, .binOp _ _ _ _ _, _, _, _, _⟩ :: _) _ _); refine wpList_run0 rfl (.bool false) (run_eqnil_op (.tmp 26) (.const .nilFunc) _ rfl rfl rfl _) ?_; simp only [Act.put])
            | (go_at_call 84; refine (Hlg.out _ hb2).mono ?_; rintro e w2 ⟨rfl, hw2⟩; obtain rfl := hw2.symm)
            | ((with_reducible show wpList _ _ _ (⟨some 43, .build _ _, _, _, _, _⟩ :: _) _ _); refine wpList_run0 rfl (.agg #[hval f]) (by kernel_rfl) ?_; simp only [Act.put])
            | ((with_reducible show wpList _ _ _ (⟨some 13, .alloc _, _, _, _, _⟩ :: _) _ _); refine wpList_trvar (.tmp 13) (.tmp 43) rfl rfl rfl rfl rfl rfl rfl ?_; have hk10l := k10.lt; intro w3 k13 hb13; replace k8 := k8.step hb13; replace k10 := k10.step hb13; have hb4 := hb2.trans (hb13.mono hb2.size); simp only [Act.put])
            | ((with_reducible show wpList _ _ _ (⟨some 14, .alloc _, _, _, _, _⟩ :: _) _ _); refine wpList_i64var (.tmp 14) (.tmp 44) rfl rfl rfl rfl rfl rfl ?_; have hk13l := k13.lt; intro w4 k14 hb14; replace k8 := k8.step hb14; replace k10 := k10.step hb14; replace k13 := k13.step hb14; have hb4b := hb4.trans (hb14.mono hb4.size); simp only [Act.put])
            | (go_at_call 85; go_loud (refine (Hst.out _ _ k14).mono ?_; rintro e w5 ⟨v14, rfl, ho14, hg14⟩; obtain ⟨A15, c15, rfl, hsv⟩ := owns_slv ho14; have hz8 := hb0.size; have hz5' := hg14.size; have hz4' := hb14.size; replace k8 := (⟨k8.blk.grown hg14 (by intro e9; have := Option.some.inj e9; omega), k8.len⟩ : HV _ _ fi); replace k10 := k10.grown hg14 (by intro e9; have := Option.some.inj e9; omega); replace k13 := k13.grown hg14 (by intro e9; have := Option.some.inj e9; omega); have hb5 : Below w.heap.size w w5 := hb4b.trans (below_of_grown9 hg14 hb4.size hb4b.size)))
            | ((with_reducible show wpList _ _ _ (⟨some 49, .load _ _, _, _, _, _⟩ :: _) _ _); refine wpList_hload (.tmp 8) (by kernel_rfl) rfl k8 rfl ?_; simp only [Act.put])
            | ((with_reducible show wpList _ _ _ (⟨some 16, .alloc _, _, _, _, _⟩ :: _) _ _); refine wpList_hvar (.tmp 16) (.tmp 49) rfl rfl rfl rfl rfl rfl Hfi.out ?_; intro w6 k16 hb16; replace k8 := k8.step hb16; replace k10 := k10.step hb16; replace k13 := k13.step hb16; have hsv6 := hsv.step hb16; have hb6 := hb5.trans (hb16.mono hb5.size); have hz5 := hb5.size; simp only [Act.put])
            | (go_at_call 95; refine (Hct.out _ _ _ hsv6.all).mono ?_; rintro e w7 ⟨rfl, hww⟩; obtain rfl := hww.symm))
          have hS : Below w5.heap.size w6 w6.drew := (Below.refl _ _).drew
          have hk16l := k16.lt
          replace k16 := k16.drew
          refine wp_region_mix (fun W => Below w5.heap.size w6 W) [(0, true), (1, true), (2, true), (3, true), (4, true), (5, false), (6, true)] (by kernel_rfl) (by kernel_rfl) hS fun _ => ?_
          simp only [List.map_cons, List.map_nil, Array.getD_eq_getD_getElem?, List.getElem?_toArray, List.getElem?_cons_succ, List.getElem?_cons_zero, Option.getD_some]
          generalize w6.drew = u7 at hS k16 ⊢
          refine wpMix_s (fun K hK => ?_)
          go_simp
          refine hK _ ?_
          clear hK K
          refine wpMix_s (fun K hK => ?_)
          go_simp
          refine hK _ ?_
          clear hK K
          refine wpMix_load (by kernel_rfl) 25 (.tmp 58) rfl (bp) (op) rfl (a0.map B).toArray ((fun s => Hget.out s.W (hb6.trans (s.ok.mono hz5)))) ?_
          simp only [Act.put]
          refine wpMix_s (fun K hK => ?_)
          go_simp
          refine hK _ ?_
          clear hK K
          refine wpMix_v (by kernel_rfl) (.slice A17 N17 C17) (fun s => Hs61.out _ _ rfl rfl rfl s.W) ?_
          simp only [Act.put]
          refine wpMix_hset (.tmp 16) (.tmp 59) rfl rfl k16 rfl rfl L2.out (fun _ hb => hS.trans (hb.mono (Nat.le_refl _))) ?_
          intro u7_1 k16s hb' hoth
          simp only [Act.put]
          replace hS := hS.trans (hb'.mono (Nat.le_refl _))
          clear hb' hoth
          refine wpMix_s (fun K hK => ?_)
          go_simp
          refine hK _ ?_
          clear hK K
          refine wpMix_nil ?_
          intro _
          have hk8l : w.heap.size < w5.heap.size := by omega
          have hk10l' : w0.heap.size < w5.heap.size := by omega
          have hk13l' : w1.heap.size < w5.heap.size := by omega
          replace k8 := k8.far hS hk8l
          replace k10 := k10.below hS hk10l'
          replace k13 := k13.below hS hk13l'
          have hsv7 := hsv.step (hb16.trans hS)
          have hb7 := hb6.trans (hS.mono hz5)
          clear hS
          go_wp2_with (first
            | ((with_reducible show wpList _ _ _ (⟨some 69, .load _ _, _, _, _, _⟩ :: _) _ _); refine wpList_run0 rfl (.agg #[hval f]) (run_load_op 123 (.tmp 13) rfl _ 0 rfl _ (tree_load k13)) ?_; simp only [Act.put])
            | ((with_reducible show wpList _ _ _ (⟨some 71, .load _ _, _, _, _, _⟩ :: _) _ _); refine wpList_hload (.tmp 16) (by kernel_rfl) rfl k16s rfl ?_; simp only [Act.put])
            | (go_at_call 88; refine (Hsaid.out _ _ _ hb7 hsv7.all).mono ?_; rintro e w8 ⟨A18, c18, rfl, hP18, hb8⟩; replace k8 := k8.step hb8; replace k10 := k10.step hb8; replace k13 := k13.step hb8; replace k16s := k16s.step hb8; replace hsv7 := hsv7.step hb8; have hb9 := hb7.trans (hb8.mono hb7.size))
            | ((with_reducible show wpList _ _ _ (⟨some 19, .alloc _, _, _, _, _⟩ :: _) _ _); refine wpList_hnew rfl rfl ?_; intro w9 k19 hb19; simp only [Act.put])
            | ((with_reducible show wpList _ _ _ [⟨none, .store _ (.tmp 19) _, _, _, _, _⟩] _ _); refine wpList_hset2 (.tmp 19) (.tmp 75) rfl rfl k19 rfl rfl Hatl.out ?_; intro w10 k19s hb20 _; have hbs := hb19.trans hb20; replace k8 := k8.step hbs; replace k10 := k10.step hbs; replace k13 := k13.step hbs; replace k16s := k16s.step hbs; replace hsv7 := hsv7.step hbs; replace hP18 := hP18.step hbs; have hb10 := hb9.trans (hbs.mono hb9.size); simp only [Act.put]))
          have hS : Below w10.heap.size w10 w10.drew := (Below.refl _ _).drew
          refine wp_region_mix (fun W => Below w10.heap.size w10 W) [(0, true), (1, true), (2, true), (3, false), (4, true), (5, true), (6, true), (7, true), (8, true), (9, true), (11, true), (10, false), (12, true), (13, true)] (by kernel_rfl) (by kernel_rfl) hS fun _ => ?_
          simp only [List.map_cons, List.map_nil, Array.getD_eq_getD_getElem?, List.getElem?_toArray, List.getElem?_cons_succ, List.getElem?_cons_zero, Option.getD_some]
          generalize w10.drew = v9 at hS ⊢
          refine wpMix_load (by kernel_rfl) 25 (.tmp 19) rfl (w8.heap.size) (0) rfl (at_.map B).toArray ((fun s => (k19s.step s.ok).load)) ?_
          simp only [Act.put]
          refine wpMix_load (by kernel_rfl) 123 (.tmp 13) rfl (w1.heap.size) (0) rfl #[hval f] ((fun s => tree_load (k13.step s.ok))) ?_
          simp only [Act.put]
          refine wpMix_s (fun K hK => ?_)
          go_simp
          refine hK _ ?_
          clear hK K
          refine wpMix_c (fun K hK => ?_) hS
          go_simp
          refine (Hrt.out v9 (hb10.trans (hS.mono hb10.size))).mono ?_
          rintro e v9_1 ⟨rfl, hb'⟩
          refine hK _ _ ?_
          clear hK K
          replace hS := hS.trans (hb'.mono hS.size)
          refine ⟨hS, ?_⟩
          clear hb'
          refine wpMix_v (by kernel_rfl) (.bool false) (fun s => run_neq26_f (.tmp 76) (.tmp 79) _ at_ ro rfl rfl rfl Hatl.out Hrol.out HD.out s.W) ?_
          simp only [Act.put]
          refine wpMix_s (fun K hK => ?_)
          go_simp
          refine hK _ ?_
          clear hK K
          refine wpMix_load (by kernel_rfl) 123 (.tmp 13) rfl (w1.heap.size) (0) rfl #[hval f] ((fun s => tree_load (k13.step s.ok))) ?_
          simp only [Act.put]
          refine wpMix_s (fun K hK => ?_)
          go_simp
          refine hK _ ?_
          clear hK K
          refine wpMix_load (by kernel_rfl) 25 (.tmp 16) rfl (w5.heap.size) (0) rfl (a0.map B).toArray ((fun s => (k16s.step s.ok).load)) ?_
          simp only [Act.put]
          refine wpMix_s (fun K hK => ?_)
          go_simp
          refine hK _ ?_
          clear hK K
          refine wpMix_load (by kernel_rfl) 25 (.tmp 8) rfl (w.heap.size) (0) rfl (fi.map B).toArray ((fun s => (k8.step s.ok).load)) ?_
          simp only [Act.put]
          refine wpMix_c (fun K hK => ?_) hS
          go_simp
          refine (Helr.out _ _ v9_1 (hb10.trans (hS.mono hb10.size)) (hsv7.step hS).all).mono ?_
          rintro e v9_2 ⟨rfl, hb'⟩
          refine hK _ _ ?_
          clear hK K
          replace hS := hS.trans (hb'.mono hS.size)
          refine ⟨hS, ?_⟩
          clear hb'
          refine wpMix_v (by kernel_rfl) (.bool false) (fun s => run_neq26_f (.tmp 86) (.tmp 87) _ el fi rfl rfl rfl Hell.out Hfi.out HE.out s.W) ?_
          simp only [Act.put]
          refine wpMix_s (fun K hK => ?_)
          go_simp
          refine hK _ ?_
          clear hK K
          refine wpMix_nil ?_
          intro _
          have hb11 := hb10.trans (hS.mono hb10.size)
          replace k10 := k10.step hS
          replace k13 := k13.step hS
          have hlie := lieW_any hF ls Ad nd cd way A15 N17 c15 sd A18 c18 v9_2 (hd'.step hb11).all (hsv7.step hS).all HL.out ((hP18.step hS).weak fun _ _ _ => trivial) Hfit.out (by omega) (fun x hx => Nat.le_trans (Hnb2.out.2 x hx) (by decide))
          obtain ⟨⟨lr, rest⟩, hlr⟩ : ∃ r, lieF H way sd ls = r := ⟨_, rfl⟩
          have hr := Hr.out
          unfold consM at hr
          rw [hlr] at hlie hr
          clear hS
          have hw13 := hb11.size
          have hk10w := k10.lt
          cases lr with
          | some pq =>
            obtain ⟨p, h⟩ := pq
            dsimp only at hr
            subst hr
            have Hlie := Lib.hid hlie
            clear hlie hlr
            go_wp2_with (first
              | ((with_reducible show wpList _ _ _ (⟨some 92, .load _ _, _, _, _, _⟩ :: _) _ _); refine wpList_run0 rfl (.agg #[hval f]) (run_load_op 123 (.tmp 13) rfl _ 0 rfl _ (tree_load k13)) ?_; simp only [Act.put])
              | (go_at_call 91; refine Hlie.out.mono ?_; rintro e W4 ⟨⟨v, rfl, a8, a9, rfl, ho8, ho9⟩, hb12⟩; obtain ⟨A8, c8, rfl, -⟩ := owns_slv ho8; obtain ⟨A9, c9, rfl, -⟩ := owns_slv ho9; replace k10 := k10.step hb12; have hb13 := hb11.trans (hb12.mono hb11.size))
              | ((with_reducible show wpList _ _ _ (⟨some 20, .alloc _, _, _, _, _⟩ :: _) _ _); refine wpList_clnew rfl rfl ?_; intro W5 k20 hb17; simp only [Act.put])
              | ((with_reducible show wpList _ _ _ (⟨none, .store _ (.tmp 20) _, _, _, _, _⟩ :: _) _ _); refine wpList_clset (.tmp 20) (.tmp 97) rfl rfl k20 rfl rfl rfl rfl ?_; intro W6 k20s hb18 hW6; have hbs := hb17.trans hb18; replace k10 := k10.step hbs; replace ho8 := owns_step ho8 hbs; replace ho9 := owns_step ho9 hbs; have hb14 := hb13.trans (hbs.mono hb13.size); clear hW6; simp only [Act.put])
              | ((with_reducible show wpList _ _ _ (⟨some 101, .load _ _, _, _, _, _⟩ :: _) _ _); refine wpList_run0 rfl (.agg #[.slice A8 _ c8, .slice A9 _ c9]) (run_load_op 34 (.tmp 20) rfl _ 0 rfl _ (cl_load k20s)) ?_; simp only [Act.put])
              | ((with_reducible show wpList _ _ _ (⟨none, .store _ (.tmp 10) (.tmp 101), _, _, _, _⟩ :: _) _ _); refine wpList_clset (.tmp 10) (.tmp 101) rfl rfl k10 rfl rfl rfl rfl ?_; intro W7 k10s hb19 hW7; have hgr : W6.grownBy W7 (some w0.heap.size) := (by rw [hW7]; exact grown_setRow (grown_of_below (Below.refl _ _) _) _); replace ho8 := ho8.kept hgr (.inr fun e => by have := (ho8.lt _ e).1; omega); replace ho9 := ho9.kept hgr (.inr fun e => by have := (ho9.lt _ e).1; omega); have hbE := hb14.trans (hb19.mono (by have := Hs0.out; omega)); clear hW7 hgr; simp only [Act.put]))
            exact ⟨bodyPost_ret (ret_clash2 rfl rfl k10s) rfl ⟨_, rfl, ⟨_, _, rfl, owns_le ho8 (by omega), owns_le ho9 (by omega)⟩, hbE⟩⟩
          | none =>
            dsimp only at hr
            subst hr
            have Hlie := Lib.hid hlie
            clear hlie hlr
            go_wp2_with (first
              | ((with_reducible show wpList _ _ _ (⟨some 92, .load _ _, _, _, _, _⟩ :: _) _ _); refine wpList_run0 rfl (.agg #[hval f]) (run_load_op 123 (.tmp 13) rfl _ 0 rfl _ (tree_load k13)) ?_; simp only [Act.put])
              | (go_at_call 91; refine Hlie.out.mono ?_; rintro e W4 ⟨⟨A18', n18, c18', rfl, -⟩, hb12⟩; replace k10 := k10.step hb12; have hb13 := hb11.trans (hb12.mono hb11.size))
              | ((with_reducible show wpList _ _ _ (⟨some 20, .alloc _, _, _, _, _⟩ :: _) _ _); refine wpList_clnew rfl rfl ?_; intro W5 k20 hb17; simp only [Act.put])
              | ((with_reducible show wpList _ _ _ (⟨none, .store _ (.tmp 20) _, _, _, _, _⟩ :: _) _ _); refine wpList_clset (.tmp 20) (.tmp 97) rfl rfl k20 rfl rfl rfl rfl ?_; intro W6 k20s hb18 hW6; have hbs := hb17.trans hb18; replace k10 := k10.step hbs; have hb14 := hb13.trans (hbs.mono hb13.size); clear hW6; simp only [Act.put])
              | ((with_reducible show wpList _ _ _ (⟨some 102, .build _ _, _, _, _, _⟩ :: _) _ _); refine wpList_run0 rfl (.agg #[.slice none 0 0, .slice none 0 0]) (by kernel_rfl) ?_; simp only [Act.put])
              | ((with_reducible show wpList _ _ _ (⟨none, .store _ (.tmp 10) (.tmp 102), _, _, _, _⟩ :: _) _ _); refine wpList_clset (.tmp 10) (.tmp 102) rfl rfl k10 rfl rfl rfl rfl ?_; intro W3 k10s hb3 hW3; clear hW3; have hbE := hb14.trans (hb3.mono (by have := Hs0.out; omega)); simp only [Act.put]))
            exact ⟨bodyPost_ret (ret_clash2 rfl rfl k10s) rfl ⟨_, rfl, ClV.zero _ _, hbE⟩⟩
        · have hr := Hres.out
          rw [if_pos (.inr hE)] at hr
          subst hr
          clear hD
          go_enter Try.func32, Try.ntmps32
          refine Code.wp_mono (fun _ _ _ h => BP.out h) ?_
          go_wp2_with (first
            | ((with_reducible show wpList _ _ _ (⟨some 10, .alloc _, _, _, _, _⟩ :: _) _ _); rw [Hw0.out]; refine wpList_clnew rfl rfl ?_; intro w1 k10 hb1; replace k8 := k8.step hb1; have hb2 := hb0.trans (hb1.mono hb0.size); simp only [Act.put])
            | ((with_reducible show wpList _ _ _ (⟨some 27, .binOp _ _ _ _ _, _, _, _, _⟩ :: _) _ _); refine wpList_run0 rfl (.bool false) (run_eqnil_op (.tmp 26) (.const .nilFunc) _ rfl rfl rfl _) ?_; simp only [Act.put])
            | (go_at_call 84; refine (Hlg.out _ hb2).mono ?_; rintro e w2 ⟨rfl, hw2⟩; obtain rfl := hw2.symm)
            | ((with_reducible show wpList _ _ _ (⟨some 43, .build _ _, _, _, _, _⟩ :: _) _ _); refine wpList_run0 rfl (.agg #[hval f]) (by kernel_rfl) ?_; simp only [Act.put])
            | ((with_reducible show wpList _ _ _ (⟨some 13, .alloc _, _, _, _, _⟩ :: _) _ _); refine wpList_trvar (.tmp 13) (.tmp 43) rfl rfl rfl rfl rfl rfl rfl ?_; have hk10l := k10.lt; intro w3 k13 hb13; replace k8 := k8.step hb13; replace k10 := k10.step hb13; have hb4 := hb2.trans (hb13.mono hb2.size); simp only [Act.put])
            | ((with_reducible show wpList _ _ _ (⟨some 14, .alloc _, _, _, _, _⟩ :: _) _ _); refine wpList_i64var (.tmp 14) (.tmp 44) rfl rfl rfl rfl rfl rfl ?_; have hk13l := k13.lt; intro w4 k14 hb14; replace k8 := k8.step hb14; replace k10 := k10.step hb14; replace k13 := k13.step hb14; have hb4b := hb4.trans (hb14.mono hb4.size); simp only [Act.put])
            | (go_at_call 85; go_loud (refine (Hst.out _ _ k14).mono ?_; rintro e w5 ⟨v14, rfl, ho14, hg14⟩; obtain ⟨A15, c15, rfl, hsv⟩ := owns_slv ho14; have hz8 := hb0.size; have hz5' := hg14.size; have hz4' := hb14.size; replace k8 := (⟨k8.blk.grown hg14 (by intro e9; have := Option.some.inj e9; omega), k8.len⟩ : HV _ _ fi); replace k10 := k10.grown hg14 (by intro e9; have := Option.some.inj e9; omega); replace k13 := k13.grown hg14 (by intro e9; have := Option.some.inj e9; omega); have hb5 : Below w.heap.size w w5 := hb4b.trans (below_of_grown9 hg14 hb4.size hb4b.size)))
            | ((with_reducible show wpList _ _ _ (⟨some 49, .load _ _, _, _, _, _⟩ :: _) _ _); refine wpList_hload (.tmp 8) (by kernel_rfl) rfl k8 rfl ?_; simp only [Act.put])
            | ((with_reducible show wpList _ _ _ (⟨some 16, .alloc _, _, _, _, _⟩ :: _) _ _); refine wpList_hvar (.tmp 16) (.tmp 49) rfl rfl rfl rfl rfl rfl Hfi.out ?_; intro w6 k16 hb16; replace k8 := k8.step hb16; replace k10 := k10.step hb16; replace k13 := k13.step hb16; have hsv6 := hsv.step hb16; have hb6 := hb5.trans (hb16.mono hb5.size); have hz5 := hb5.size; simp only [Act.put])
            | (go_at_call 95; refine (Hct.out _ _ _ hsv6.all).mono ?_; rintro e w7 ⟨rfl, hww⟩; obtain rfl := hww.symm))
          have hS : Below w5.heap.size w6 w6.drew := (Below.refl _ _).drew
          have hk16l := k16.lt
          replace k16 := k16.drew
          refine wp_region_mix (fun W => Below w5.heap.size w6 W) [(0, true), (1, true), (2, true), (3, true), (4, true), (5, false), (6, true)] (by kernel_rfl) (by kernel_rfl) hS fun _ => ?_
          simp only [List.map_cons, List.map_nil, Array.getD_eq_getD_getElem?, List.getElem?_toArray, List.getElem?_cons_succ, List.getElem?_cons_zero, Option.getD_some]
          generalize w6.drew = u7 at hS k16 ⊢
          refine wpMix_s (fun K hK => ?_)
          go_simp
          refine hK _ ?_
          clear hK K
          refine wpMix_s (fun K hK => ?_)
          go_simp
          refine hK _ ?_
          clear hK K
          refine wpMix_load (by kernel_rfl) 25 (.tmp 58) rfl (bp) (op) rfl (a0.map B).toArray ((fun s => Hget.out s.W (hb6.trans (s.ok.mono hz5)))) ?_
          simp only [Act.put]
          refine wpMix_s (fun K hK => ?_)
          go_simp
          refine hK _ ?_
          clear hK K
          refine wpMix_v (by kernel_rfl) (.slice A17 N17 C17) (fun s => Hs61.out _ _ rfl rfl rfl s.W) ?_
          simp only [Act.put]
          refine wpMix_hset (.tmp 16) (.tmp 59) rfl rfl k16 rfl rfl L2.out (fun _ hb => hS.trans (hb.mono (Nat.le_refl _))) ?_
          intro u7_1 k16s hb' hoth
          simp only [Act.put]
          replace hS := hS.trans (hb'.mono (Nat.le_refl _))
          clear hb' hoth
          refine wpMix_s (fun K hK => ?_)
          go_simp
          refine hK _ ?_
          clear hK K
          refine wpMix_nil ?_
          intro _
          have hk8l : w.heap.size < w5.heap.size := by omega
          have hk10l' : w0.heap.size < w5.heap.size := by omega
          have hk13l' : w1.heap.size < w5.heap.size := by omega
          replace k8 := k8.far hS hk8l
          replace k10 := k10.below hS hk10l'
          replace k13 := k13.below hS hk13l'
          have hsv7 := hsv.step (hb16.trans hS)
          have hb7 := hb6.trans (hS.mono hz5)
          clear hS
          go_wp2_with (first
            | ((with_reducible show wpList _ _ _ (⟨some 69, .load _ _, _, _, _, _⟩ :: _) _ _); refine wpList_run0 rfl (.agg #[hval f]) (run_load_op 123 (.tmp 13) rfl _ 0 rfl _ (tree_load k13)) ?_; simp only [Act.put])
            | ((with_reducible show wpList _ _ _ (⟨some 71, .load _ _, _, _, _, _⟩ :: _) _ _); refine wpList_hload (.tmp 16) (by kernel_rfl) rfl k16s rfl ?_; simp only [Act.put])
            | (go_at_call 88; refine (Hsaid.out _ _ _ hb7 hsv7.all).mono ?_; rintro e w8 ⟨A18, c18, rfl, hP18, hb8⟩; replace k8 := k8.step hb8; replace k10 := k10.step hb8; replace k13 := k13.step hb8; replace k16s := k16s.step hb8; replace hsv7 := hsv7.step hb8; have hb9 := hb7.trans (hb8.mono hb7.size))
            | ((with_reducible show wpList _ _ _ (⟨some 19, .alloc _, _, _, _, _⟩ :: _) _ _); refine wpList_hnew rfl rfl ?_; intro w9 k19 hb19; simp only [Act.put])
            | ((with_reducible show wpList _ _ _ [⟨none, .store _ (.tmp 19) _, _, _, _, _⟩] _ _); refine wpList_hset2 (.tmp 19) (.tmp 75) rfl rfl k19 rfl rfl Hatl.out ?_; intro w10 k19s hb20 _; have hbs := hb19.trans hb20; replace k8 := k8.step hbs; replace k10 := k10.step hbs; replace k13 := k13.step hbs; replace k16s := k16s.step hbs; replace hsv7 := hsv7.step hbs; replace hP18 := hP18.step hbs; have hb10 := hb9.trans (hbs.mono hb9.size); simp only [Act.put]))
          have hS : Below w10.heap.size w10 w10.drew := (Below.refl _ _).drew
          refine wp_region_mix (fun W => Below w10.heap.size w10 W) [(0, true), (1, true), (2, true), (3, false), (4, true), (5, true), (6, true), (7, true), (8, true), (9, true), (11, true), (10, false), (12, true), (13, true)] (by kernel_rfl) (by kernel_rfl) hS fun _ => ?_
          simp only [List.map_cons, List.map_nil, Array.getD_eq_getD_getElem?, List.getElem?_toArray, List.getElem?_cons_succ, List.getElem?_cons_zero, Option.getD_some]
          generalize w10.drew = v9 at hS ⊢
          refine wpMix_load (by kernel_rfl) 25 (.tmp 19) rfl (w8.heap.size) (0) rfl (at_.map B).toArray ((fun s => (k19s.step s.ok).load)) ?_
          simp only [Act.put]
          refine wpMix_load (by kernel_rfl) 123 (.tmp 13) rfl (w1.heap.size) (0) rfl #[hval f] ((fun s => tree_load (k13.step s.ok))) ?_
          simp only [Act.put]
          refine wpMix_s (fun K hK => ?_)
          go_simp
          refine hK _ ?_
          clear hK K
          refine wpMix_c (fun K hK => ?_) hS
          go_simp
          refine (Hrt.out v9 (hb10.trans (hS.mono hb10.size))).mono ?_
          rintro e v9_1 ⟨rfl, hb'⟩
          refine hK _ _ ?_
          clear hK K
          replace hS := hS.trans (hb'.mono hS.size)
          refine ⟨hS, ?_⟩
          clear hb'
          refine wpMix_v (by kernel_rfl) (.bool false) (fun s => run_neq26_f (.tmp 76) (.tmp 79) _ at_ ro rfl rfl rfl Hatl.out Hrol.out HD.out s.W) ?_
          simp only [Act.put]
          refine wpMix_s (fun K hK => ?_)
          go_simp
          refine hK _ ?_
          clear hK K
          refine wpMix_load (by kernel_rfl) 123 (.tmp 13) rfl (w1.heap.size) (0) rfl #[hval f] ((fun s => tree_load (k13.step s.ok))) ?_
          simp only [Act.put]
          refine wpMix_s (fun K hK => ?_)
          go_simp
          refine hK _ ?_
          clear hK K
          refine wpMix_load (by kernel_rfl) 25 (.tmp 16) rfl (w5.heap.size) (0) rfl (a0.map B).toArray ((fun s => (k16s.step s.ok).load)) ?_
          simp only [Act.put]
          refine wpMix_s (fun K hK => ?_)
          go_simp
          refine hK _ ?_
          clear hK K
          refine wpMix_load (by kernel_rfl) 25 (.tmp 8) rfl (w.heap.size) (0) rfl (fi.map B).toArray ((fun s => (k8.step s.ok).load)) ?_
          simp only [Act.put]
          refine wpMix_c (fun K hK => ?_) hS
          go_simp
          refine (Helr.out _ _ v9_1 (hb10.trans (hS.mono hb10.size)) (hsv7.step hS).all).mono ?_
          rintro e v9_2 ⟨rfl, hb'⟩
          refine hK _ _ ?_
          clear hK K
          replace hS := hS.trans (hb'.mono hS.size)
          refine ⟨hS, ?_⟩
          clear hb'
          refine wpMix_v (by kernel_rfl) (.bool true) (fun s => run_neq26_t (.tmp 86) (.tmp 87) _ el fi rfl rfl rfl Hell.out Hfi.out hE s.W) ?_
          simp only [Act.put]
          refine wpMix_s (fun K hK => ?_)
          go_simp
          refine hK _ ?_
          clear hK K
          refine wpMix_nil ?_
          intro _
          have hb11 := hb10.trans (hS.mono hb10.size)
          replace k10 := k10.step hS
          replace k13 := k13.step hS
          clear hS
          go_wp2_with (first
            | ((with_reducible show wpList _ _ _ (⟨some 90, .build _ _, _, _, _, _⟩ :: _) _ _); refine wpList_run0 rfl (.agg #[.slice none 0 0, .slice none 0 0]) (by kernel_rfl) ?_; simp only [Act.put])
            | ((with_reducible show wpList _ _ _ (⟨none, .store _ (.tmp 10) (.tmp 90), _, _, _, _⟩ :: _) _ _); refine wpList_clset (.tmp 10) (.tmp 90) rfl rfl k10 rfl rfl rfl rfl ?_; intro W3 k10s hb3 hW3; clear hW3; have hbE := hb11.trans (hb3.mono (by have := Hs0.out; omega)); simp only [Act.put]))
          exact ⟨bodyPost_ret (ret_clash2 rfl rfl k10s) rfl ⟨_, rfl, ClV.zero _ _, hbE⟩⟩
      · have hr := Hres.out
        rw [if_pos (.inl hD)] at hr
        subst hr
        go_enter Try.func32, Try.ntmps32
        refine Code.wp_mono (fun _ _ _ h => BP.out h) ?_
        go_wp2_with (first
          | ((with_reducible show wpList _ _ _ (⟨some 10, .alloc _, _, _, _, _⟩ :: _) _ _); rw [Hw0.out]; refine wpList_clnew rfl rfl ?_; intro w1 k10 hb1; replace k8 := k8.step hb1; have hb2 := hb0.trans (hb1.mono hb0.size); simp only [Act.put])
          | ((with_reducible show wpList _ _ _ (⟨some 27, .binOp _ _ _ _ _, _, _, _, _⟩ :: _) _ _); refine wpList_run0 rfl (.bool false) (run_eqnil_op (.tmp 26) (.const .nilFunc) _ rfl rfl rfl _) ?_; simp only [Act.put])
          | (go_at_call 84; refine (Hlg.out _ hb2).mono ?_; rintro e w2 ⟨rfl, hw2⟩; obtain rfl := hw2.symm)
          | ((with_reducible show wpList _ _ _ (⟨some 43, .build _ _, _, _, _, _⟩ :: _) _ _); refine wpList_run0 rfl (.agg #[hval f]) (by kernel_rfl) ?_; simp only [Act.put])
          | ((with_reducible show wpList _ _ _ (⟨some 13, .alloc _, _, _, _, _⟩ :: _) _ _); refine wpList_trvar (.tmp 13) (.tmp 43) rfl rfl rfl rfl rfl rfl rfl ?_; have hk10l := k10.lt; intro w3 k13 hb13; replace k8 := k8.step hb13; replace k10 := k10.step hb13; have hb4 := hb2.trans (hb13.mono hb2.size); simp only [Act.put])
          | ((with_reducible show wpList _ _ _ (⟨some 14, .alloc _, _, _, _, _⟩ :: _) _ _); refine wpList_i64var (.tmp 14) (.tmp 44) rfl rfl rfl rfl rfl rfl ?_; have hk13l := k13.lt; intro w4 k14 hb14; replace k8 := k8.step hb14; replace k10 := k10.step hb14; replace k13 := k13.step hb14; have hb4b := hb4.trans (hb14.mono hb4.size); simp only [Act.put])
          | (go_at_call 85; go_loud (refine (Hst.out _ _ k14).mono ?_; rintro e w5 ⟨v14, rfl, ho14, hg14⟩; obtain ⟨A15, c15, rfl, hsv⟩ := owns_slv ho14; have hz8 := hb0.size; have hz5' := hg14.size; have hz4' := hb14.size; replace k8 := (⟨k8.blk.grown hg14 (by intro e9; have := Option.some.inj e9; omega), k8.len⟩ : HV _ _ fi); replace k10 := k10.grown hg14 (by intro e9; have := Option.some.inj e9; omega); replace k13 := k13.grown hg14 (by intro e9; have := Option.some.inj e9; omega); have hb5 : Below w.heap.size w w5 := hb4b.trans (below_of_grown9 hg14 hb4.size hb4b.size)))
          | ((with_reducible show wpList _ _ _ (⟨some 49, .load _ _, _, _, _, _⟩ :: _) _ _); refine wpList_hload (.tmp 8) (by kernel_rfl) rfl k8 rfl ?_; simp only [Act.put])
          | ((with_reducible show wpList _ _ _ (⟨some 16, .alloc _, _, _, _, _⟩ :: _) _ _); refine wpList_hvar (.tmp 16) (.tmp 49) rfl rfl rfl rfl rfl rfl Hfi.out ?_; intro w6 k16 hb16; replace k8 := k8.step hb16; replace k10 := k10.step hb16; replace k13 := k13.step hb16; have hsv6 := hsv.step hb16; have hb6 := hb5.trans (hb16.mono hb5.size); have hz5 := hb5.size; simp only [Act.put])
          | (go_at_call 95; refine (Hct.out _ _ _ hsv6.all).mono ?_; rintro e w7 ⟨rfl, hww⟩; obtain rfl := hww.symm))
        have hS : Below w5.heap.size w6 w6.drew := (Below.refl _ _).drew
        have hk16l := k16.lt
        replace k16 := k16.drew
        refine wp_region_mix (fun W => Below w5.heap.size w6 W) [(0, true), (1, true), (2, true), (3, true), (4, true), (5, false), (6, true)] (by kernel_rfl) (by kernel_rfl) hS fun _ => ?_
        simp only [List.map_cons, List.map_nil, Array.getD_eq_getD_getElem?, List.getElem?_toArray, List.getElem?_cons_succ, List.getElem?_cons_zero, Option.getD_some]
        generalize w6.drew = u7 at hS k16 ⊢
        refine wpMix_s (fun K hK => ?_)
        go_simp
        refine hK _ ?_
        clear hK K
        refine wpMix_s (fun K hK => ?_)
        go_simp
        refine hK _ ?_
        clear hK K
        refine wpMix_load (by kernel_rfl) 25 (.tmp 58) rfl (bp) (op) rfl (a0.map B).toArray ((fun s => Hget.out s.W (hb6.trans (s.ok.mono hz5)))) ?_
        simp only [Act.put]
        refine wpMix_s (fun K hK => ?_)
        go_simp
        refine hK _ ?_
        clear hK K
        refine wpMix_v (by kernel_rfl) (.slice A17 N17 C17) (fun s => Hs61.out _ _ rfl rfl rfl s.W) ?_
        simp only [Act.put]
        refine wpMix_hset (.tmp 16) (.tmp 59) rfl rfl k16 rfl rfl L2.out (fun _ hb => hS.trans (hb.mono (Nat.le_refl _))) ?_
        intro u7_1 k16s hb' hoth
        simp only [Act.put]
        replace hS := hS.trans (hb'.mono (Nat.le_refl _))
        clear hb' hoth
        refine wpMix_s (fun K hK => ?_)
        go_simp
        refine hK _ ?_
        clear hK K
        refine wpMix_nil ?_
        intro _
        have hk8l : w.heap.size < w5.heap.size := by omega
        have hk10l' : w0.heap.size < w5.heap.size := by omega
        have hk13l' : w1.heap.size < w5.heap.size := by omega
        replace k8 := k8.far hS hk8l
        replace k10 := k10.below hS hk10l'
        replace k13 := k13.below hS hk13l'
        have hsv7 := hsv.step (hb16.trans hS)
        have hb7 := hb6.trans (hS.mono hz5)
        clear hS
        go_wp2_with (first
          | ((with_reducible show wpList _ _ _ (⟨some 69, .load _ _, _, _, _, _⟩ :: _) _ _); refine wpList_run0 rfl (.agg #[hval f]) (run_load_op 123 (.tmp 13) rfl _ 0 rfl _ (tree_load k13)) ?_; simp only [Act.put])
          | ((with_reducible show wpList _ _ _ (⟨some 71, .load _ _, _, _, _, _⟩ :: _) _ _); refine wpList_hload (.tmp 16) (by kernel_rfl) rfl k16s rfl ?_; simp only [Act.put])
          | (go_at_call 88; refine (Hsaid.out _ _ _ hb7 hsv7.all).mono ?_; rintro e w8 ⟨A18, c18, rfl, hP18, hb8⟩; replace k8 := k8.step hb8; replace k10 := k10.step hb8; replace k13 := k13.step hb8; replace k16s := k16s.step hb8; replace hsv7 := hsv7.step hb8; have hb9 := hb7.trans (hb8.mono hb7.size))
          | ((with_reducible show wpList _ _ _ (⟨some 19, .alloc _, _, _, _, _⟩ :: _) _ _); refine wpList_hnew rfl rfl ?_; intro w9 k19 hb19; simp only [Act.put])
          | ((with_reducible show wpList _ _ _ [⟨none, .store _ (.tmp 19) _, _, _, _, _⟩] _ _); refine wpList_hset2 (.tmp 19) (.tmp 75) rfl rfl k19 rfl rfl Hatl.out ?_; intro w10 k19s hb20 _; have hbs := hb19.trans hb20; replace k8 := k8.step hbs; replace k10 := k10.step hbs; replace k13 := k13.step hbs; replace k16s := k16s.step hbs; replace hsv7 := hsv7.step hbs; replace hP18 := hP18.step hbs; have hb10 := hb9.trans (hbs.mono hb9.size); simp only [Act.put]))
        have hS : Below w10.heap.size w10 w10.drew := (Below.refl _ _).drew
        refine wp_region_mix (fun W => Below w10.heap.size w10 W) [(0, true), (1, true), (2, true), (3, false), (4, true), (5, true), (6, true), (7, true), (8, true), (9, true), (11, true), (10, false), (12, true), (13, true)] (by kernel_rfl) (by kernel_rfl) hS fun _ => ?_
        simp only [List.map_cons, List.map_nil, Array.getD_eq_getD_getElem?, List.getElem?_toArray, List.getElem?_cons_succ, List.getElem?_cons_zero, Option.getD_some]
        generalize w10.drew = v9 at hS ⊢
        refine wpMix_load (by kernel_rfl) 25 (.tmp 19) rfl (w8.heap.size) (0) rfl (at_.map B).toArray ((fun s => (k19s.step s.ok).load)) ?_
        simp only [Act.put]
        refine wpMix_load (by kernel_rfl) 123 (.tmp 13) rfl (w1.heap.size) (0) rfl #[hval f] ((fun s => tree_load (k13.step s.ok))) ?_
        simp only [Act.put]
        refine wpMix_s (fun K hK => ?_)
        go_simp
        refine hK _ ?_
        clear hK K
        refine wpMix_c (fun K hK => ?_) hS
        go_simp
        refine (Hrt.out v9 (hb10.trans (hS.mono hb10.size))).mono ?_
        rintro e v9_1 ⟨rfl, hb'⟩
        refine hK _ _ ?_
        clear hK K
        replace hS := hS.trans (hb'.mono hS.size)
        refine ⟨hS, ?_⟩
        clear hb'
        refine wpMix_v (by kernel_rfl) (.bool true) (fun s => run_neq26_t (.tmp 76) (.tmp 79) _ at_ ro rfl rfl rfl Hatl.out Hrol.out hD s.W) ?_
        simp only [Act.put]
        refine wpMix_s (fun K hK => ?_)
        go_simp
        refine hK _ ?_
        clear hK K
        refine wpMix_s (fun K hK => ?_)
        go_simp
        refine hK _ ?_
        clear hK K
        refine wpMix_s (fun K hK => ?_)
        go_simp
        refine hK _ ?_
        clear hK K
        refine wpMix_s (fun K hK => ?_)
        go_simp
        refine hK _ ?_
        clear hK K
        refine wpMix_s (fun K hK => ?_)
        go_simp
        refine hK _ ?_
        clear hK K
        refine wpMix_s (fun K hK => ?_)
        go_simp
        refine hK _ ?_
        clear hK K
        refine wpMix_c (fun K hK => ?_) hS
        go_simp
        refine hK _ _ ?_
        clear hK K
        refine ⟨hS, ?_⟩
        refine wpMix_s (fun K hK => ?_)
        go_simp
        refine hK _ ?_
        clear hK K
        refine wpMix_s (fun K hK => ?_)
        go_simp
        refine hK _ ?_
        clear hK K
        refine wpMix_nil ?_
        intro _
        have hb11 := hb10.trans (hS.mono hb10.size)
        replace k10 := k10.step hS
        replace k13 := k13.step hS
        clear hS
        go_wp2_with (first
          | ((with_reducible show wpList _ _ _ (⟨some 90, .build _ _, _, _, _, _⟩ :: _) _ _); refine wpList_run0 rfl (.agg #[.slice none 0 0, .slice none 0 0]) (by kernel_rfl) ?_; simp only [Act.put])
          | ((with_reducible show wpList _ _ _ (⟨none, .store _ (.tmp 10) (.tmp 90), _, _, _, _⟩ :: _) _ _); refine wpList_clset (.tmp 10) (.tmp 90) rfl rfl k10 rfl rfl rfl rfl ?_; intro W3 k10s hb3 hW3; clear hW3; have hbE := hb11.trans (hb3.mono (by have := Hs0.out; omega)); simp only [Act.put]))
        exact ⟨bodyPost_ret (ret_clash2 rfl rfl k10s) rfl ⟨_, rfl, ClV.zero _ _, hbE⟩⟩
    · rw [if_pos (by have := HN17'.out; omega)]
      have hC1 : ((N17 : Int) != (L : Int)) = true := by simp; omega
      have hC2 : ¬ (N17 : Int) = (L : Int) := by omega
      clear hsB hsX lX lE lA
      go_enter Try.func32, Try.ntmps32
      refine Code.wp_mono (fun _ _ _ h => BP.out h) ?_
      go_wp2_with (first
        | ((with_reducible show wpList _ _ _ (⟨some 10, .alloc _, _, _, _, _⟩ :: _) _ _); rw [Hw0.out]; refine wpList_clnew rfl rfl ?_; intro w1 k10 hb1; replace k8 := k8.step hb1; have hb2 := hb0.trans (hb1.mono hb0.size); simp only [Act.put])
        | ((with_reducible show wpList _ _ _ (⟨some 27, .binOp _ _ _ _ _, _, _, _, _⟩ :: _) _ _); refine wpList_run0 rfl (.bool false) (run_eqnil_op (.tmp 26) (.const .nilFunc) _ rfl rfl rfl _) ?_; simp only [Act.put])
        | (go_at_call 84; refine (Hlg.out _ hb2).mono ?_; rintro e w2 ⟨rfl, hw2⟩; obtain rfl := hw2.symm)
        | ((with_reducible show wpList _ _ _ (⟨some 43, .build _ _, _, _, _, _⟩ :: _) _ _); refine wpList_run0 rfl (.agg #[hval f]) (by kernel_rfl) ?_; simp only [Act.put])
        | ((with_reducible show wpList _ _ _ (⟨some 13, .alloc _, _, _, _, _⟩ :: _) _ _); refine wpList_trvar (.tmp 13) (.tmp 43) rfl rfl rfl rfl rfl rfl rfl ?_; have hk10l := k10.lt; intro w3 k13 hb13; replace k8 := k8.step hb13; replace k10 := k10.step hb13; have hb4 := hb2.trans (hb13.mono hb2.size); simp only [Act.put])
        | ((with_reducible show wpList _ _ _ (⟨some 14, .alloc _, _, _, _, _⟩ :: _) _ _); refine wpList_i64var (.tmp 14) (.tmp 44) rfl rfl rfl rfl rfl rfl ?_; have hk13l := k13.lt; intro w4 k14 hb14; replace k8 := k8.step hb14; replace k10 := k10.step hb14; replace k13 := k13.step hb14; have hb4b := hb4.trans (hb14.mono hb4.size); simp only [Act.put])
        | (go_at_call 85; go_loud (refine (Hst.out _ _ k14).mono ?_; rintro e w5 ⟨v14, rfl, ho14, hg14⟩; obtain ⟨A15, c15, rfl, hsv⟩ := owns_slv ho14; have hz8 := hb0.size; have hz5' := hg14.size; have hz4' := hb14.size; replace k8 := (⟨k8.blk.grown hg14 (by intro e9; have := Option.some.inj e9; omega), k8.len⟩ : HV _ _ fi); replace k10 := k10.grown hg14 (by intro e9; have := Option.some.inj e9; omega); replace k13 := k13.grown hg14 (by intro e9; have := Option.some.inj e9; omega); have hb5 : Below w.heap.size w w5 := hb4b.trans (below_of_grown9 hg14 hb4.size hb4b.size)))
        | ((with_reducible show wpList _ _ _ (⟨some 49, .load _ _, _, _, _, _⟩ :: _) _ _); refine wpList_hload (.tmp 8) (by kernel_rfl) rfl k8 rfl ?_; simp only [Act.put])
        | ((with_reducible show wpList _ _ _ (⟨some 16, .alloc _, _, _, _, _⟩ :: _) _ _); refine wpList_hvar (.tmp 16) (.tmp 49) rfl rfl rfl rfl rfl rfl Hfi.out ?_; intro w6 k16 hb16; replace k8 := k8.step hb16; replace k10 := k10.step hb16; replace k13 := k13.step hb16; have hsv6 := hsv.step hb16; have hb6 := hb5.trans (hb16.mono hb5.size); have hz5 := hb5.size; simp only [Act.put])
        | (go_at_call 95; refine (Hct.out _ _ _ hsv6.all).mono ?_; rintro e w7 ⟨rfl, hww⟩; obtain rfl := hww.symm))
      have hS : Below w5.heap.size w6 w6.drew := (Below.refl _ _).drew
      have hk16l := k16.lt
      replace k16 := k16.drew
      refine wp_region_mix (fun W => Below w5.heap.size w6 W) [(0, true), (1, true), (2, true), (3, true), (4, true), (5, false), (6, true)] (by kernel_rfl) (by kernel_rfl) hS fun _ => ?_
      simp only [List.map_cons, List.map_nil, Array.getD_eq_getD_getElem?, List.getElem?_toArray, List.getElem?_cons_succ, List.getElem?_cons_zero, Option.getD_some]
      generalize w6.drew = u7 at hS k16 ⊢
      refine wpMix_s (fun K hK => ?_)
      go_simp
      refine hK _ ?_
      clear hK K
      refine wpMix_s (fun K hK => ?_)
      go_simp
      refine hK _ ?_
      clear hK K
      refine wpMix_load (by kernel_rfl) 25 (.tmp 58) rfl (bp) (op) rfl (a0.map B).toArray ((fun s => Hget.out s.W (hb6.trans (s.ok.mono hz5)))) ?_
      simp only [Act.put]
      refine wpMix_s (fun K hK => ?_)
      go_simp
      refine hK _ ?_
      clear hK K
      refine wpMix_v (by kernel_rfl) (.slice A17 N17 C17) (fun s => Hs61.out _ _ rfl rfl rfl s.W) ?_
      simp only [Act.put]
      refine wpMix_hset (.tmp 16) (.tmp 59) rfl rfl k16 rfl rfl L2.out (fun _ hb => hS.trans (hb.mono (Nat.le_refl _))) ?_
      intro u7_1 k16s hb' hoth
      simp only [Act.put]
      replace hS := hS.trans (hb'.mono (Nat.le_refl _))
      clear hb' hoth
      refine wpMix_s (fun K hK => ?_)
      go_simp
      refine hK _ ?_
      clear hK K
      refine wpMix_nil ?_
      intro _
      have hk8l : w.heap.size < w5.heap.size := by omega
      have hk10l' : w0.heap.size < w5.heap.size := by omega
      have hk13l' : w1.heap.size < w5.heap.size := by omega
      replace k8 := k8.far hS hk8l
      replace k10 := k10.below hS hk10l'
      replace k13 := k13.below hS hk13l'
      have hsv7 := hsv.step (hb16.trans hS)
      have hb7 := hb6.trans (hS.mono hz5)
      clear hS
      go_wp2_with (first
        | ((with_reducible show wpList _ _ _ (⟨some 67, .build _ _, _, _, _, _⟩ :: _) _ _); refine wpList_run0 rfl (.agg #[.slice none 0 0, .slice none 0 0]) (by kernel_rfl) ?_; simp only [Act.put])
        | ((with_reducible show wpList _ _ _ (⟨none, .store _ (.tmp 10) (.tmp 67), _, _, _, _⟩ :: _) _ _); refine wpList_clset (.tmp 10) (.tmp 67) rfl rfl k10 rfl rfl rfl rfl ?_; intro W3 k10s hb3 hW3; clear hW3; have hbE := hb7.trans (hb3.mono (by have := Hs0.out; omega)); simp only [Act.put]))
      exact ⟨bodyPost_ret (ret_clash2 rfl rfl k10s) rfl ⟨_, rfl, ClV.zero _ _, hbE⟩⟩
  | false =>
    rw [if_neg (show ¬ (false = true) by simp), Nat.add_zero] at lX lE lA ⊢
    rw [if_neg (show ¬ (false = true) by simp)] at hsB hsX
    by_cases hC : np = L
    · subst hC
      rw [if_neg (by omega)]
      have hC1 : ((np : Int) != (np : Int)) = false := by simp
      have hC2 : ¬ ¬ (np : Int) = (np : Int) := by simp
      have hnp : np = np := rfl
      have hatl := lA hnp
      have hell := lE hnp
      have h0l : fi.length = 32 := Hfi.out
      have hAe : bothA H true way fi pf = atI H way pf fi np := by unfold bothA; rw [hsB, hsX, HL.out]
      have hEe : bothE H true way fi pf = elderI H way pf fi np := by unfold bothE; rw [hsB, hsX, HL.out]
      rw [hAe] at hatl
      rw [hEe] at hell
      rw [hAe, hEe, hsB, hsX]
      have hsaid := fun A c W (hb : Below w.heap.size w W) (hs : SlV W (fun _ => True) A np c 1 (bcells way)) => said_any hF way A np c fi pf Ap cp W hs HL.out h0l ((hp'.step hb).weak fun _ _ _ => trivial) (by omega)
      have helr := fun A c W (hb : Below w.heap.size w W) (hs : SlV W (fun _ => True) A np c 1 (bcells way)) => elder_any hF way A np c fi pf Ap cp W hs HL.out ((hp'.step hb).weak fun _ _ _ => trivial) h0l
      have hrt := fun W (hb : Below w.heap.size w W) => troot13_rec hF nd ls Ad nd cd W (Nat.le_refl _) (hd'.step hb).all (by omega) (fun x hx => Nat.le_trans (Hnb2.out.2 x hx) (by decide))
      obtain ⟨at_, hat⟩ : ∃ a, atI H way pf fi np = a := ⟨_, rfl⟩
      obtain ⟨el, hel⟩ : ∃ a, elderI H way pf fi np = a := ⟨_, rfl⟩
      obtain ⟨sd, hsd⟩ : ∃ a, saidL H way pf fi = a := ⟨_, rfl⟩
      rw [hat, hsd] at hsaid
      rw [hel] at helr hell
      rw [hat] at hatl
      rw [hat, hel, hsd]
      obtain ⟨ro, hro⟩ : ∃ a, rootA H ls = a := ⟨_, rfl⟩
      have hrol : ro.length = 32 := by rw [← hro]; exact length_rootA H hF.len ls
      rw [hro] at hrt ⊢
      obtain ⟨res, hres⟩ : ∃ r, (if at_ ≠ ro ∨ el ≠ fi then (noC, (230 : Int)) else consM H way sd ls) = r := ⟨_, rfl⟩
      rw [hres]
      have Hres := Lib.hid hres
      have Hsaid := Lib.hid hsaid
      have Helr := Lib.hid helr
      have Hrt := Lib.hid hrt
      have Hatl := Lib.hid hatl
      have Hell := Lib.hid hell
      have Hrol := Lib.hid hrol
      have H0l := Lib.hid h0l
      clear hres hsaid helr hrt hat hsd hel hatl hell hrol h0l hAe hEe hsB hsX lX lE lA hnp
      by_cases hD : at_ = ro
      · have HD := Lib.hid hD
        by_cases hE : el = fi
        · have HE := Lib.hid hE
          have hr := Hres.out
          rw [if_neg (by rw [not_or]; exact ⟨fun h => h hD, fun h => h hE⟩)] at hr
          have Hr := Lib.hid hr
          clear hr hD hE
          go_enter Try.func32, Try.ntmps32
          refine Code.wp_mono (fun _ _ _ h => BP.out h) ?_
          go_wp2_with (first
            | ((with_reducible show wpList _ _ _ (⟨some 10, .alloc _, _, _, _, _⟩ :: _) _ _); rw [Hw0.out]; refine wpList_clnew rfl rfl ?_; intro w1 k10 hb1; replace k8 := k8.step hb1; have hb2 := hb0.trans (hb1.mono hb0.size); simp only [Act.put])
            | ((with_reducible show wpList _ _ _ (⟨some 27, .binOp _ _ _ _ _, _, _, _, _⟩ :: _) _ _); refine wpList_run0 rfl (.bool false) (run_eqnil_op (.tmp 26) (.const .nilFunc) _ rfl rfl rfl _) ?_; simp only [Act.put])
            | (go_at_call 84; refine (Hlg.out _ hb2).mono ?_; rintro e w2 ⟨rfl, hw2⟩; obtain rfl := hw2.symm)
            | ((with_reducible show wpList _ _ _ (⟨some 43, .build _ _, _, _, _, _⟩ :: _) _ _); refine wpList_run0 rfl (.agg #[hval f]) (by kernel_rfl) ?_; simp only [Act.put])
            | ((with_reducible show wpList _ _ _ (⟨some 13, .alloc _, _, _, _, _⟩ :: _) _ _); refine wpList_trvar (.tmp 13) (.tmp 43) rfl rfl rfl rfl rfl rfl rfl ?_; have hk10l := k10.lt; intro w3 k13 hb13; replace k8 := k8.step hb13; replace k10 := k10.step hb13; have hb4 := hb2.trans (hb13.mono hb2.size); simp only [Act.put])
            | ((with_reducible show wpList _ _ _ (⟨some 14, .alloc _, _, _, _, _⟩ :: _) _ _); refine wpList_i64var (.tmp 14) (.tmp 44) rfl rfl rfl rfl rfl rfl ?_; have hk13l := k13.lt; intro w4 k14 hb14; replace k8 := k8.step hb14; replace k10 := k10.step hb14; replace k13 := k13.step hb14; have hb4b := hb4.trans (hb14.mono hb4.size); simp only [Act.put])
            | (go_at_call 85; go_loud (refine (Hst.out _ _ k14).mono ?_; rintro e w5 ⟨v14, rfl, ho14, hg14⟩; obtain ⟨A15, c15, rfl, hsv⟩ := owns_slv ho14; have hz8 := hb0.size; have hz5' := hg14.size; have hz4' := hb14.size; replace k8 := (⟨k8.blk.grown hg14 (by intro e9; have := Option.some.inj e9; omega), k8.len⟩ : HV _ _ fi); replace k10 := k10.grown hg14 (by intro e9; have := Option.some.inj e9; omega); replace k13 := k13.grown hg14 (by intro e9; have := Option.some.inj e9; omega); have hb5 : Below w.heap.size w w5 := hb4b.trans (below_of_grown9 hg14 hb4.size hb4b.size)))
            | ((with_reducible show wpList _ _ _ (⟨some 49, .load _ _, _, _, _, _⟩ :: _) _ _); refine wpList_hload (.tmp 8) (by kernel_rfl) rfl k8 rfl ?_; simp only [Act.put])
            | ((with_reducible show wpList _ _ _ (⟨some 16, .alloc _, _, _, _, _⟩ :: _) _ _); refine wpList_hvar (.tmp 16) (.tmp 49) rfl rfl rfl rfl rfl rfl Hfi.out ?_; intro w6 k16 hb16; replace k8 := k8.step hb16; replace k10 := k10.step hb16; replace k13 := k13.step hb16; have hsv6 := hsv.step hb16; have hb6 := hb5.trans (hb16.mono hb5.size); have hz5 := hb5.size; have hb7 := hb6; have k16s := k16; have hsv7 := hsv6; clear hb6 k16 hsv6; simp only [Act.put])
            | (go_at_call 95; refine (Hct.out _ _ _ hsv7.all).mono ?_; rintro e w7 ⟨rfl, hww⟩; obtain rfl := hww.symm)
            | ((with_reducible show wpList _ _ _ (⟨some 69, .load _ _, _, _, _, _⟩ :: _) _ _); refine wpList_run0 rfl (.agg #[hval f]) (run_load_op 123 (.tmp 13) rfl _ 0 rfl _ (tree_load k13)) ?_; simp only [Act.put])
            | ((with_reducible show wpList _ _ _ (⟨some 71, .load _ _, _, _, _, _⟩ :: _) _ _); refine wpList_hload (.tmp 16) (by kernel_rfl) rfl k16s rfl ?_; simp only [Act.put])
            | (go_at_call 88; refine (Hsaid.out _ _ _ hb7 hsv7.all).mono ?_; rintro e w8 ⟨A18, c18, rfl, hP18, hb8⟩; replace k8 := k8.step hb8; replace k10 := k10.step hb8; replace k13 := k13.step hb8; replace k16s := k16s.step hb8; replace hsv7 := hsv7.step hb8; have hb9 := hb7.trans (hb8.mono hb7.size))
            | ((with_reducible show wpList _ _ _ (⟨some 19, .alloc _, _, _, _, _⟩ :: _) _ _); refine wpList_hnew rfl rfl ?_; intro w9 k19 hb19; simp only [Act.put])
            | ((with_reducible show wpList _ _ _ [⟨none, .store _ (.tmp 19) _, _, _, _, _⟩] _ _); refine wpList_hset2 (.tmp 19) (.tmp 75) rfl rfl k19 rfl rfl Hatl.out ?_; intro w10 k19s hb20 _; have hbs := hb19.trans hb20; replace k8 := k8.step hbs; replace k10 := k10.step hbs; replace k13 := k13.step hbs; replace k16s := k16s.step hbs; replace hsv7 := hsv7.step hbs; replace hP18 := hP18.step hbs; have hb10 := hb9.trans (hbs.mono hb9.size); simp only [Act.put]))
          have hS : Below w10.heap.size w10 w10.drew := (Below.refl _ _).drew
          refine wp_region_mix (fun W => Below w10.heap.size w10 W) [(0, true), (1, true), (2, true), (3, false), (4, true), (5, true), (6, true), (7, true), (8, true), (9, true), (11, true), (10, false), (12, true), (13, true)] (by kernel_rfl) (by kernel_rfl) hS fun _ => ?_
          simp only [List.map_cons, List.map_nil, Array.getD_eq_getD_getElem?, List.getElem?_toArray, List.getElem?_cons_succ, List.getElem?_cons_zero, Option.getD_some]
          generalize w10.drew = v9 at hS ⊢
          refine wpMix_load (by kernel_rfl) 25 (.tmp 19) rfl (w8.heap.size) (0) rfl (at_.map B).toArray ((fun s => (k19s.step s.ok).load)) ?_
          simp only [Act.put]
          refine wpMix_load (by kernel_rfl) 123 (.tmp 13) rfl (w1.heap.size) (0) rfl #[hval f] ((fun s => tree_load (k13.step s.ok))) ?_
          simp only [Act.put]
          refine wpMix_s (fun K hK => ?_)
          go_simp
          refine hK _ ?_
          clear hK K
          refine wpMix_c (fun K hK => ?_) hS
          go_simp
          refine (Hrt.out v9 (hb10.trans (hS.mono hb10.size))).mono ?_
          rintro e v9_1 ⟨rfl, hb'⟩
          refine hK _ _ ?_
          clear hK K
          replace hS := hS.trans (hb'.mono hS.size)
          refine ⟨hS, ?_⟩
          clear hb'
          refine wpMix_v (by kernel_rfl) (.bool false) (fun s => run_neq26_f (.tmp 76) (.tmp 79) _ at_ ro rfl rfl rfl Hatl.out Hrol.out HD.out s.W) ?_
          simp only [Act.put]
          refine wpMix_s (fun K hK => ?_)
          go_simp
          refine hK _ ?_
          clear hK K
          refine wpMix_load (by kernel_rfl) 123 (.tmp 13) rfl (w1.heap.size) (0) rfl #[hval f] ((fun s => tree_load (k13.step s.ok))) ?_
          simp only [Act.put]
          refine wpMix_s (fun K hK => ?_)
          go_simp
          refine hK _ ?_
          clear hK K
          refine wpMix_load (by kernel_rfl) 25 (.tmp 16) rfl (w5.heap.size) (0) rfl (fi.map B).toArray ((fun s => (k16s.step s.ok).load)) ?_
          simp only [Act.put]
          refine wpMix_s (fun K hK => ?_)
          go_simp
          refine hK _ ?_
          clear hK K
          refine wpMix_load (by kernel_rfl) 25 (.tmp 8) rfl (w.heap.size) (0) rfl (fi.map B).toArray ((fun s => (k8.step s.ok).load)) ?_
          simp only [Act.put]
          refine wpMix_c (fun K hK => ?_) hS
          go_simp
          refine (Helr.out _ _ v9_1 (hb10.trans (hS.mono hb10.size)) (hsv7.step hS).all).mono ?_
          rintro e v9_2 ⟨rfl, hb'⟩
          refine hK _ _ ?_
          clear hK K
          replace hS := hS.trans (hb'.mono hS.size)
          refine ⟨hS, ?_⟩
          clear hb'
          refine wpMix_v (by kernel_rfl) (.bool false) (fun s => run_neq26_f (.tmp 86) (.tmp 87) _ el fi rfl rfl rfl Hell.out Hfi.out HE.out s.W) ?_
          simp only [Act.put]
          refine wpMix_s (fun K hK => ?_)
          go_simp
          refine hK _ ?_
          clear hK K
          refine wpMix_nil ?_
          intro _
          have hb11 := hb10.trans (hS.mono hb10.size)
          replace k10 := k10.step hS
          replace k13 := k13.step hS
          have hlie := lieW_any hF ls Ad nd cd way A15 np c15 sd A18 c18 v9_2 (hd'.step hb11).all (hsv7.step hS).all HL.out ((hP18.step hS).weak fun _ _ _ => trivial) Hfit.out (by omega) (fun x hx => Nat.le_trans (Hnb2.out.2 x hx) (by decide))
          obtain ⟨⟨lr, rest⟩, hlr⟩ : ∃ r, lieF H way sd ls = r := ⟨_, rfl⟩
          have hr := Hr.out
          unfold consM at hr
          rw [hlr] at hlie hr
          clear hS
          have hw13 := hb11.size
          have hk10w := k10.lt
          cases lr with
          | some pq =>
            obtain ⟨p, h⟩ := pq
            dsimp only at hr
            subst hr
            have Hlie := Lib.hid hlie
            clear hlie hlr
            go_wp2_with (first
              | ((with_reducible show wpList _ _ _ (⟨some 92, .load _ _, _, _, _, _⟩ :: _) _ _); refine wpList_run0 rfl (.agg #[hval f]) (run_load_op 123 (.tmp 13) rfl _ 0 rfl _ (tree_load k13)) ?_; simp only [Act.put])
              | (go_at_call 91; refine Hlie.out.mono ?_; rintro e W4 ⟨⟨v, rfl, a8, a9, rfl, ho8, ho9⟩, hb12⟩; obtain ⟨A8, c8, rfl, -⟩ := owns_slv ho8; obtain ⟨A9, c9, rfl, -⟩ := owns_slv ho9; replace k10 := k10.step hb12; have hb13 := hb11.trans (hb12.mono hb11.size))
              | ((with_reducible show wpList _ _ _ (⟨some 20, .alloc _, _, _, _, _⟩ :: _) _ _); refine wpList_clnew rfl rfl ?_; intro W5 k20 hb17; simp only [Act.put])
              | ((with_reducible show wpList _ _ _ (⟨none, .store _ (.tmp 20) _, _, _, _, _⟩ :: _) _ _); refine wpList_clset (.tmp 20) (.tmp 97) rfl rfl k20 rfl rfl rfl rfl ?_; intro W6 k20s hb18 hW6; have hbs := hb17.trans hb18; replace k10 := k10.step hbs; replace ho8 := owns_step ho8 hbs; replace ho9 := owns_step ho9 hbs; have hb14 := hb13.trans (hbs.mono hb13.size); clear hW6; simp only [Act.put])
              | ((with_reducible show wpList _ _ _ (⟨some 101, .load _ _, _, _, _, _⟩ :: _) _ _); refine wpList_run0 rfl (.agg #[.slice A8 _ c8, .slice A9 _ c9]) (run_load_op 34 (.tmp 20) rfl _ 0 rfl _ (cl_load k20s)) ?_; simp only [Act.put])
              | ((with_reducible show wpList _ _ _ (⟨none, .store _ (.tmp 10) (.tmp 101), _, _, _, _⟩ :: _) _ _); refine wpList_clset (.tmp 10) (.tmp 101) rfl rfl k10 rfl rfl rfl rfl ?_; intro W7 k10s hb19 hW7; have hgr : W6.grownBy W7 (some w0.heap.size) := (by rw [hW7]; exact grown_setRow (grown_of_below (Below.refl _ _) _) _); replace ho8 := ho8.kept hgr (.inr fun e => by have := (ho8.lt _ e).1; omega); replace ho9 := ho9.kept hgr (.inr fun e => by have := (ho9.lt _ e).1; omega); have hbE := hb14.trans (hb19.mono (by have := Hs0.out; omega)); clear hW7 hgr; simp only [Act.put]))
            exact ⟨bodyPost_ret (ret_clash2 rfl rfl k10s) rfl ⟨_, rfl, ⟨_, _, rfl, owns_le ho8 (by omega), owns_le ho9 (by omega)⟩, hbE⟩⟩
          | none =>
            dsimp only at hr
            subst hr
            have Hlie := Lib.hid hlie
            clear hlie hlr
            go_wp2_with (first
              | ((with_reducible show wpList _ _ _ (⟨some 92, .load _ _, _, _, _, _⟩ :: _) _ _); refine wpList_run0 rfl (.agg #[hval f]) (run_load_op 123 (.tmp 13) rfl _ 0 rfl _ (tree_load k13)) ?_; simp only [Act.put])
              | (go_at_call 91; refine Hlie.out.mono ?_; rintro e W4 ⟨⟨A18', n18, c18', rfl, -⟩, hb12⟩; replace k10 := k10.step hb12; have hb13 := hb11.trans (hb12.mono hb11.size))
              | ((with_reducible show wpList _ _ _ (⟨some 20, .alloc _, _, _, _, _⟩ :: _) _ _); refine wpList_clnew rfl rfl ?_; intro W5 k20 hb17; simp only [Act.put])
              | ((with_reducible show wpList _ _ _ (⟨none, .store _ (.tmp 20) _, _, _, _, _⟩ :: _) _ _); refine wpList_clset (.tmp 20) (.tmp 97) rfl rfl k20 rfl rfl rfl rfl ?_; intro W6 k20s hb18 hW6; have hbs := hb17.trans hb18; replace k10 := k10.step hbs; have hb14 := hb13.trans (hbs.mono hb13.size); clear hW6; simp only [Act.put])
              | ((with_reducible show wpList _ _ _ (⟨some 102, .build _ _, _, _, _, _⟩ :: _) _ _); refine wpList_run0 rfl (.agg #[.slice none 0 0, .slice none 0 0]) (by kernel_rfl) ?_; simp only [Act.put])
              | ((with_reducible show wpList _ _ _ (⟨none, .store _ (.tmp 10) (.tmp 102), _, _, _, _⟩ :: _) _ _); refine wpList_clset (.tmp 10) (.tmp 102) rfl rfl k10 rfl rfl rfl rfl ?_; intro W3 k10s hb3 hW3; clear hW3; have hbE := hb14.trans (hb3.mono (by have := Hs0.out; omega)); simp only [Act.put]))
            exact ⟨bodyPost_ret (ret_clash2 rfl rfl k10s) rfl ⟨_, rfl, ClV.zero _ _, hbE⟩⟩
        · have hr := Hres.out
          rw [if_pos (.inr hE)] at hr
          subst hr
          clear hD
          go_enter Try.func32, Try.ntmps32
          refine Code.wp_mono (fun _ _ _ h => BP.out h) ?_
          go_wp2_with (first
            | ((with_reducible show wpList _ _ _ (⟨some 10, .alloc _, _, _, _, _⟩ :: _) _ _); rw [Hw0.out]; refine wpList_clnew rfl rfl ?_; intro w1 k10 hb1; replace k8 := k8.step hb1; have hb2 := hb0.trans (hb1.mono hb0.size); simp only [Act.put])
            | ((with_reducible show wpList _ _ _ (⟨some 27, .binOp _ _ _ _ _, _, _, _, _⟩ :: _) _ _); refine wpList_run0 rfl (.bool false) (run_eqnil_op (.tmp 26) (.const .nilFunc) _ rfl rfl rfl _) ?_; simp only [Act.put])
            | (go_at_call 84; refine (Hlg.out _ hb2).mono ?_; rintro e w2 ⟨rfl, hw2⟩; obtain rfl := hw2.symm)
            | ((with_reducible show wpList _ _ _ (⟨some 43, .build _ _, _, _, _, _⟩ :: _) _ _); refine wpList_run0 rfl (.agg #[hval f]) (by kernel_rfl) ?_; simp only [Act.put])
            | ((with_reducible show wpList _ _ _ (⟨some 13, .alloc _, _, _, _, _⟩ :: _) _ _); refine wpList_trvar (.tmp 13) (.tmp 43) rfl rfl rfl rfl rfl rfl rfl ?_; have hk10l := k10.lt; intro w3 k13 hb13; replace k8 := k8.step hb13; replace k10 := k10.step hb13; have hb4 := hb2.trans (hb13.mono hb2.size); simp only [Act.put])
            | ((with_reducible show wpList _ _ _ (⟨some 14, .alloc _, _, _, _, _⟩ :: _) _ _); refine wpList_i64var (.tmp 14) (.tmp 44) rfl rfl rfl rfl rfl rfl ?_; have hk13l := k13.lt; intro w4 k14 hb14; replace k8 := k8.step hb14; replace k10 := k10.step hb14; replace k13 := k13.step hb14; have hb4b := hb4.trans (hb14.mono hb4.size); simp only [Act.put])
            | (go_at_call 85; go_loud (refine (Hst.out _ _ k14).mono ?_; rintro e w5 ⟨v14, rfl, ho14, hg14⟩; obtain ⟨A15, c15, rfl, hsv⟩ := owns_slv ho14; have hz8 := hb0.size; have hz5' := hg14.size; have hz4' := hb14.size; replace k8 := (⟨k8.blk.grown hg14 (by intro e9; have := Option.some.inj e9; omega), k8.len⟩ : HV _ _ fi); replace k10 := k10.grown hg14 (by intro e9; have := Option.some.inj e9; omega); replace k13 := k13.grown hg14 (by intro e9; have := Option.some.inj e9; omega); have hb5 : Below w.heap.size w w5 := hb4b.trans (below_of_grown9 hg14 hb4.size hb4b.size)))
            | ((with_reducible show wpList _ _ _ (⟨some 49, .load _ _, _, _, _, _⟩ :: _) _ _); refine wpList_hload (.tmp 8) (by kernel_rfl) rfl k8 rfl ?_; simp only [Act.put])
            | ((with_reducible show wpList _ _ _ (⟨some 16, .alloc _, _, _, _, _⟩ :: _) _ _); refine wpList_hvar (.tmp 16) (.tmp 49) rfl rfl rfl rfl rfl rfl Hfi.out ?_; intro w6 k16 hb16; replace k8 := k8.step hb16; replace k10 := k10.step hb16; replace k13 := k13.step hb16; have hsv6 := hsv.step hb16; have hb6 := hb5.trans (hb16.mono hb5.size); have hz5 := hb5.size; have hb7 := hb6; have k16s := k16; have hsv7 := hsv6; clear hb6 k16 hsv6; simp only [Act.put])
            | (go_at_call 95; refine (Hct.out _ _ _ hsv7.all).mono ?_; rintro e w7 ⟨rfl, hww⟩; obtain rfl := hww.symm)
            | ((with_reducible show wpList _ _ _ (⟨some 69, .load _ _, _, _, _, _⟩ :: _) _ _); refine wpList_run0 rfl (.agg #[hval f]) (run_load_op 123 (.tmp 13) rfl _ 0 rfl _ (tree_load k13)) ?_; simp only [Act.put])
            | ((with_reducible show wpList _ _ _ (⟨some 71, .load _ _, _, _, _, _⟩ :: _) _ _); refine wpList_hload (.tmp 16) (by kernel_rfl) rfl k16s rfl ?_; simp only [Act.put])
            | (go_at_call 88; refine (Hsaid.out _ _ _ hb7 hsv7.all).mono ?_; rintro e w8 ⟨A18, c18, rfl, hP18, hb8⟩; replace k8 := k8.step hb8; replace k10 := k10.step hb8; replace k13 := k13.step hb8; replace k16s := k16s.step hb8; replace hsv7 := hsv7.step hb8; have hb9 := hb7.trans (hb8.mono hb7.size))
            | ((with_reducible show wpList _ _ _ (⟨some 19, .alloc _, _, _, _, _⟩ :: _) _ _); refine wpList_hnew rfl rfl ?_; intro w9 k19 hb19; simp only [Act.put])
            | ((with_reducible show wpList _ _ _ [⟨none, .store _ (.tmp 19) _, _, _, _, _⟩] _ _); refine wpList_hset2 (.tmp 19) (.tmp 75) rfl rfl k19 rfl rfl Hatl.out ?_; intro w10 k19s hb20 _; have hbs := hb19.trans hb20; replace k8 := k8.step hbs; replace k10 := k10.step hbs; replace k13 := k13.step hbs; replace k16s := k16s.step hbs; replace hsv7 := hsv7.step hbs; replace hP18 := hP18.step hbs; have hb10 := hb9.trans (hbs.mono hb9.size); simp only [Act.put]))
          have hS : Below w10.heap.size w10 w10.drew := (Below.refl _ _).drew
          refine wp_region_mix (fun W => Below w10.heap.size w10 W) [(0, true), (1, true), (2, true), (3, false), (4, true), (5, true), (6, true), (7, true), (8, true), (9, true), (11, true), (10, false), (12, true), (13, true)] (by kernel_rfl) (by kernel_rfl) hS fun _ => ?_
          simp only [List.map_cons, List.map_nil, Array.getD_eq_getD_getElem?, List.getElem?_toArray, List.getElem?_cons_succ, List.getElem?_cons_zero, Option.getD_some]
          generalize w10.drew = v9 at hS ⊢
          refine wpMix_load (by kernel_rfl) 25 (.tmp 19) rfl (w8.heap.size) (0) rfl (at_.map B).toArray ((fun s => (k19s.step s.ok).load)) ?_
          simp only [Act.put]
          refine wpMix_load (by kernel_rfl) 123 (.tmp 13) rfl (w1.heap.size) (0) rfl #[hval f] ((fun s => tree_load (k13.step s.ok))) ?_
          simp only [Act.put]
          refine wpMix_s (fun K hK => ?_)
          go_simp
          refine hK _ ?_
          clear hK K
          refine wpMix_c (fun K hK => ?_) hS
          go_simp
          refine (Hrt.out v9 (hb10.trans (hS.mono hb10.size))).mono ?_
          rintro e v9_1 ⟨rfl, hb'⟩
          refine hK _ _ ?_
          clear hK K
          replace hS := hS.trans (hb'.mono hS.size)
          refine ⟨hS, ?_⟩
          clear hb'
          refine wpMix_v (by kernel_rfl) (.bool false) (fun s => run_neq26_f (.tmp 76) (.tmp 79) _ at_ ro rfl rfl rfl Hatl.out Hrol.out HD.out s.W) ?_
          simp only [Act.put]
          refine wpMix_s (fun K hK => ?_)
          go_simp
          refine hK _ ?_
          clear hK K
          refine wpMix_load (by kernel_rfl) 123 (.tmp 13) rfl (w1.heap.size) (0) rfl #[hval f] ((fun s => tree_load (k13.step s.ok))) ?_
          simp only [Act.put]
          refine wpMix_s (fun K hK => ?_)
          go_simp
          refine hK _ ?_
          clear hK K
          refine wpMix_load (by kernel_rfl) 25 (.tmp 16) rfl (w5.heap.size) (0) rfl (fi.map B).toArray ((fun s => (k16s.step s.ok).load)) ?_
          simp only [Act.put]
          refine wpMix_s (fun K hK => ?_)
          go_simp
          refine hK _ ?_
          clear hK K
          refine wpMix_load (by kernel_rfl) 25 (.tmp 8) rfl (w.heap.size) (0) rfl (fi.map B).toArray ((fun s => (k8.step s.ok).load)) ?_
          simp only [Act.put]
          refine wpMix_c (fun K hK => ?_) hS
          go_simp
          refine (Helr.out _ _ v9_1 (hb10.trans (hS.mono hb10.size)) (hsv7.step hS).all).mono ?_
          rintro e v9_2 ⟨rfl, hb'⟩
          refine hK _ _ ?_
          clear hK K
          replace hS := hS.trans (hb'.mono hS.size)
          refine ⟨hS, ?_⟩
          clear hb'
          refine wpMix_v (by kernel_rfl) (.bool true) (fun s => run_neq26_t (.tmp 86) (.tmp 87) _ el fi rfl rfl rfl Hell.out Hfi.out hE s.W) ?_
          simp only [Act.put]
          refine wpMix_s (fun K hK => ?_)
          go_simp
          refine hK _ ?_
          clear hK K
          refine wpMix_nil ?_
          intro _
          have hb11 := hb10.trans (hS.mono hb10.size)
          replace k10 := k10.step hS
          replace k13 := k13.step hS
          clear hS
          go_wp2_with (first
            | ((with_reducible show wpList _ _ _ (⟨some 90, .build _ _, _, _, _, _⟩ :: _) _ _); refine wpList_run0 rfl (.agg #[.slice none 0 0, .slice none 0 0]) (by kernel_rfl) ?_; simp only [Act.put])
            | ((with_reducible show wpList _ _ _ (⟨none, .store _ (.tmp 10) (.tmp 90), _, _, _, _⟩ :: _) _ _); refine wpList_clset (.tmp 10) (.tmp 90) rfl rfl k10 rfl rfl rfl rfl ?_; intro W3 k10s hb3 hW3; clear hW3; have hbE := hb11.trans (hb3.mono (by have := Hs0.out; omega)); simp only [Act.put]))
          exact ⟨bodyPost_ret (ret_clash2 rfl rfl k10s) rfl ⟨_, rfl, ClV.zero _ _, hbE⟩⟩
      · have hr := Hres.out
        rw [if_pos (.inl hD)] at hr
        subst hr
        go_enter Try.func32, Try.ntmps32
        refine Code.wp_mono (fun _ _ _ h => BP.out h) ?_
        go_wp2_with (first
          | ((with_reducible show wpList _ _ _ (⟨some 10, .alloc _, _, _, _, _⟩ :: _) _ _); rw [Hw0.out]; refine wpList_clnew rfl rfl ?_; intro w1 k10 hb1; replace k8 := k8.step hb1; have hb2 := hb0.trans (hb1.mono hb0.size); simp only [Act.put])
          | ((with_reducible show wpList _ _ _ (⟨some 27, .binOp _ _ _ _ _, _, _, _, _⟩ :: _) _ _); refine wpList_run0 rfl (.bool false) (run_eqnil_op (.tmp 26) (.const .nilFunc) _ rfl rfl rfl _) ?_; simp only [Act.put])
          | (go_at_call 84; refine (Hlg.out _ hb2).mono ?_; rintro e w2 ⟨rfl, hw2⟩; obtain rfl := hw2.symm)
          | ((with_reducible show wpList _ _ _ (⟨some 43, .build _ _, _, _, _, _⟩ :: _) _ _); refine wpList_run0 rfl (.agg #[hval f]) (by kernel_rfl) ?_; simp only [Act.put])
          | ((with_reducible show wpList _ _ _ (⟨some 13, .alloc _, _, _, _, _⟩ :: _) _ _); refine wpList_trvar (.tmp 13) (.tmp 43) rfl rfl rfl rfl rfl rfl rfl ?_; have hk10l := k10.lt; intro w3 k13 hb13; replace k8 := k8.step hb13; replace k10 := k10.step hb13; have hb4 := hb2.trans (hb13.mono hb2.size); simp only [Act.put])
          | ((with_reducible show wpList _ _ _ (⟨some 14, .alloc _, _, _, _, _⟩ :: _) _ _); refine wpList_i64var (.tmp 14) (.tmp 44) rfl rfl rfl rfl rfl rfl ?_; have hk13l := k13.lt; intro w4 k14 hb14; replace k8 := k8.step hb14; replace k10 := k10.step hb14; replace k13 := k13.step hb14; have hb4b := hb4.trans (hb14.mono hb4.size); simp only [Act.put])
          | (go_at_call 85; go_loud (refine (Hst.out _ _ k14).mono ?_; rintro e w5 ⟨v14, rfl, ho14, hg14⟩; obtain ⟨A15, c15, rfl, hsv⟩ := owns_slv ho14; have hz8 := hb0.size; have hz5' := hg14.size; have hz4' := hb14.size; replace k8 := (⟨k8.blk.grown hg14 (by intro e9; have := Option.some.inj e9; omega), k8.len⟩ : HV _ _ fi); replace k10 := k10.grown hg14 (by intro e9; have := Option.some.inj e9; omega); replace k13 := k13.grown hg14 (by intro e9; have := Option.some.inj e9; omega); have hb5 : Below w.heap.size w w5 := hb4b.trans (below_of_grown9 hg14 hb4.size hb4b.size)))
          | ((with_reducible show wpList _ _ _ (⟨some 49, .load _ _, _, _, _, _⟩ :: _) _ _); refine wpList_hload (.tmp 8) (by kernel_rfl) rfl k8 rfl ?_; simp only [Act.put])
          | ((with_reducible show wpList _ _ _ (⟨some 16, .alloc _, _, _, _, _⟩ :: _) _ _); refine wpList_hvar (.tmp 16) (.tmp 49) rfl rfl rfl rfl rfl rfl Hfi.out ?_; intro w6 k16 hb16; replace k8 := k8.step hb16; replace k10 := k10.step hb16; replace k13 := k13.step hb16; have hsv6 := hsv.step hb16; have hb6 := hb5.trans (hb16.mono hb5.size); have hz5 := hb5.size; have hb7 := hb6; have k16s := k16; have hsv7 := hsv6; clear hb6 k16 hsv6; simp only [Act.put])
          | (go_at_call 95; refine (Hct.out _ _ _ hsv7.all).mono ?_; rintro e w7 ⟨rfl, hww⟩; obtain rfl := hww.symm)
          | ((with_reducible show wpList _ _ _ (⟨some 69, .load _ _, _, _, _, _⟩ :: _) _ _); refine wpList_run0 rfl (.agg #[hval f]) (run_load_op 123 (.tmp 13) rfl _ 0 rfl _ (tree_load k13)) ?_; simp only [Act.put])
          | ((with_reducible show wpList _ _ _ (⟨some 71, .load _ _, _, _, _, _⟩ :: _) _ _); refine wpList_hload (.tmp 16) (by kernel_rfl) rfl k16s rfl ?_; simp only [Act.put])
          | (go_at_call 88; refine (Hsaid.out _ _ _ hb7 hsv7.all).mono ?_; rintro e w8 ⟨A18, c18, rfl, hP18, hb8⟩; replace k8 := k8.step hb8; replace k10 := k10.step hb8; replace k13 := k13.step hb8; replace k16s := k16s.step hb8; replace hsv7 := hsv7.step hb8; have hb9 := hb7.trans (hb8.mono hb7.size))
          | ((with_reducible show wpList _ _ _ (⟨some 19, .alloc _, _, _, _, _⟩ :: _) _ _); refine wpList_hnew rfl rfl ?_; intro w9 k19 hb19; simp only [Act.put])
          | ((with_reducible show wpList _ _ _ [⟨none, .store _ (.tmp 19) _, _, _, _, _⟩] _ _); refine wpList_hset2 (.tmp 19) (.tmp 75) rfl rfl k19 rfl rfl Hatl.out ?_; intro w10 k19s hb20 _; have hbs := hb19.trans hb20; replace k8 := k8.step hbs; replace k10 := k10.step hbs; replace k13 := k13.step hbs; replace k16s := k16s.step hbs; replace hsv7 := hsv7.step hbs; replace hP18 := hP18.step hbs; have hb10 := hb9.trans (hbs.mono hb9.size); simp only [Act.put]))
        have hS : Below w10.heap.size w10 w10.drew := (Below.refl _ _).drew
        refine wp_region_mix (fun W => Below w10.heap.size w10 W) [(0, true), (1, true), (2, true), (3, false), (4, true), (5, true), (6, true), (7, true), (8, true), (9, true), (11, true), (10, false), (12, true), (13, true)] (by kernel_rfl) (by kernel_rfl) hS fun _ => ?_
        simp only [List.map_cons, List.map_nil, Array.getD_eq_getD_getElem?, List.getElem?_toArray, List.getElem?_cons_succ, List.getElem?_cons_zero, Option.getD_some]
        generalize w10.drew = v9 at hS ⊢
        refine wpMix_load (by kernel_rfl) 25 (.tmp 19) rfl (w8.heap.size) (0) rfl (at_.map B).toArray ((fun s => (k19s.step s.ok).load)) ?_
        simp only [Act.put]
        refine wpMix_load (by kernel_rfl) 123 (.tmp 13) rfl (w1.heap.size) (0) rfl #[hval f] ((fun s => tree_load (k13.step s.ok))) ?_
        simp only [Act.put]
        refine wpMix_s (fun K hK => ?_)
        go_simp
        refine hK _ ?_
        clear hK K
        refine wpMix_c (fun K hK => ?_) hS
        go_simp
        refine (Hrt.out v9 (hb10.trans (hS.mono hb10.size))).mono ?_
        rintro e v9_1 ⟨rfl, hb'⟩
        refine hK _ _ ?_
        clear hK K
        replace hS := hS.trans (hb'.mono hS.size)
        refine ⟨hS, ?_⟩
        clear hb'
        refine wpMix_v (by kernel_rfl) (.bool true) (fun s => run_neq26_t (.tmp 76) (.tmp 79) _ at_ ro rfl rfl rfl Hatl.out Hrol.out hD s.W) ?_
        simp only [Act.put]
        refine wpMix_s (fun K hK => ?_)
        go_simp
        refine hK _ ?_
        clear hK K
        refine wpMix_s (fun K hK => ?_)
        go_simp
        refine hK _ ?_
        clear hK K
        refine wpMix_s (fun K hK => ?_)
        go_simp
        refine hK _ ?_
        clear hK K
        refine wpMix_s (fun K hK => ?_)
        go_simp
        refine hK _ ?_
        clear hK K
        refine wpMix_s (fun K hK => ?_)
        go_simp
        refine hK _ ?_
        clear hK K
        refine wpMix_s (fun K hK => ?_)
        go_simp
        refine hK _ ?_
        clear hK K
        refine wpMix_c (fun K hK => ?_) hS
        go_simp
        refine hK _ _ ?_
        clear hK K
        refine ⟨hS, ?_⟩
        refine wpMix_s (fun K hK => ?_)
        go_simp
        refine hK _ ?_
        clear hK K
        refine wpMix_s (fun K hK => ?_)
        go_simp
        refine hK _ ?_
        clear hK K
        refine wpMix_nil ?_
        intro _
        have hb11 := hb10.trans (hS.mono hb10.size)
        replace k10 := k10.step hS
        replace k13 := k13.step hS
        clear hS
        go_wp2_with (first
          | ((with_reducible show wpList _ _ _ (⟨some 90, .build _ _, _, _, _, _⟩ :: _) _ _); refine wpList_run0 rfl (.agg #[.slice none 0 0, .slice none 0 0]) (by kernel_rfl) ?_; simp only [Act.put])
          | ((with_reducible show wpList _ _ _ (⟨none, .store _ (.tmp 10) (.tmp 90), _, _, _, _⟩ :: _) _ _); refine wpList_clset (.tmp 10) (.tmp 90) rfl rfl k10 rfl rfl rfl rfl ?_; intro W3 k10s hb3 hW3; clear hW3; have hbE := hb11.trans (hb3.mono (by have := Hs0.out; omega)); simp only [Act.put]))
        exact ⟨bodyPost_ret (ret_clash2 rfl rfl k10s) rfl ⟨_, rfl, ClV.zero _ _, hbE⟩⟩
    · rw [if_pos hC]
      have hC1 : (((np : Int) : Int) != (L : Int)) = true := by simp; omega
      have hC2 : ¬ (np : Int) = (L : Int) := by omega
      clear hsB hsX lX lE lA
      go_enter Try.func32, Try.ntmps32
      refine Code.wp_mono (fun _ _ _ h => BP.out h) ?_
      go_wp2_with (first
        | ((with_reducible show wpList _ _ _ (⟨some 10, .alloc _, _, _, _, _⟩ :: _) _ _); rw [Hw0.out]; refine wpList_clnew rfl rfl ?_; intro w1 k10 hb1; replace k8 := k8.step hb1; have hb2 := hb0.trans (hb1.mono hb0.size); simp only [Act.put])
        | ((with_reducible show wpList _ _ _ (⟨some 27, .binOp _ _ _ _ _, _, _, _, _⟩ :: _) _ _); refine wpList_run0 rfl (.bool false) (run_eqnil_op (.tmp 26) (.const .nilFunc) _ rfl rfl rfl _) ?_; simp only [Act.put])
        | (go_at_call 84; refine (Hlg.out _ hb2).mono ?_; rintro e w2 ⟨rfl, hw2⟩; obtain rfl := hw2.symm)
        | ((with_reducible show wpList _ _ _ (⟨some 43, .build _ _, _, _, _, _⟩ :: _) _ _); refine wpList_run0 rfl (.agg #[hval f]) (by kernel_rfl) ?_; simp only [Act.put])
        | ((with_reducible show wpList _ _ _ (⟨some 13, .alloc _, _, _, _, _⟩ :: _) _ _); refine wpList_trvar (.tmp 13) (.tmp 43) rfl rfl rfl rfl rfl rfl rfl ?_; have hk10l := k10.lt; intro w3 k13 hb13; replace k8 := k8.step hb13; replace k10 := k10.step hb13; have hb4 := hb2.trans (hb13.mono hb2.size); simp only [Act.put])
        | ((with_reducible show wpList _ _ _ (⟨some 14, .alloc _, _, _, _, _⟩ :: _) _ _); refine wpList_i64var (.tmp 14) (.tmp 44) rfl rfl rfl rfl rfl rfl ?_; have hk13l := k13.lt; intro w4 k14 hb14; replace k8 := k8.step hb14; replace k10 := k10.step hb14; replace k13 := k13.step hb14; have hb4b := hb4.trans (hb14.mono hb4.size); simp only [Act.put])
        | (go_at_call 85; go_loud (refine (Hst.out _ _ k14).mono ?_; rintro e w5 ⟨v14, rfl, ho14, hg14⟩; obtain ⟨A15, c15, rfl, hsv⟩ := owns_slv ho14; have hz8 := hb0.size; have hz5' := hg14.size; have hz4' := hb14.size; replace k8 := (⟨k8.blk.grown hg14 (by intro e9; have := Option.some.inj e9; omega), k8.len⟩ : HV _ _ fi); replace k10 := k10.grown hg14 (by intro e9; have := Option.some.inj e9; omega); replace k13 := k13.grown hg14 (by intro e9; have := Option.some.inj e9; omega); have hb5 : Below w.heap.size w w5 := hb4b.trans (below_of_grown9 hg14 hb4.size hb4b.size)))
        | ((with_reducible show wpList _ _ _ (⟨some 49, .load _ _, _, _, _, _⟩ :: _) _ _); refine wpList_hload (.tmp 8) (by kernel_rfl) rfl k8 rfl ?_; simp only [Act.put])
        | ((with_reducible show wpList _ _ _ (⟨some 16, .alloc _, _, _, _, _⟩ :: _) _ _); refine wpList_hvar (.tmp 16) (.tmp 49) rfl rfl rfl rfl rfl rfl Hfi.out ?_; intro w6 k16 hb16; replace k8 := k8.step hb16; replace k10 := k10.step hb16; replace k13 := k13.step hb16; have hsv6 := hsv.step hb16; have hb6 := hb5.trans (hb16.mono hb5.size); have hz5 := hb5.size; simp only [Act.put])
        | (go_at_call 95; refine (Hct.out _ _ _ hsv6.all).mono ?_; rintro e w7 ⟨rfl, hww⟩; obtain rfl := hww.symm)
        | ((with_reducible show wpList _ _ _ (⟨some 67, .build _ _, _, _, _, _⟩ :: _) _ _); refine wpList_run0 rfl (.agg #[.slice none 0 0, .slice none 0 0]) (by kernel_rfl) ?_; simp only [Act.put])
        | ((with_reducible show wpList _ _ _ (⟨none, .store _ (.tmp 10) (.tmp 67), _, _, _, _⟩ :: _) _ _); refine wpList_clset (.tmp 10) (.tmp 67) rfl rfl k10 rfl rfl rfl rfl ?_; intro W3 k10s hb3 hW3; clear hW3; have hbE := hb6.trans (hb3.mono (by have := Hs0.out; omega)); simp only [Act.put]))
      exact ⟨bodyPost_ret (ret_clash2 rfl rfl k10s) rfl ⟨_, rfl, ClV.zero _ _, hbE⟩⟩
end Go.Proofs.Ytonidnfgneokbaa
