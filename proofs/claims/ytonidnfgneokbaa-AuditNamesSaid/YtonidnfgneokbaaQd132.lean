/- audit.Incl. -/
import Derived.Test.YtonidnfgneokbaaQd130
namespace Go.Proofs.Ytonidnfgneokbaa
open Go Go.RowKit Go.Shelf
attribute [local go_sem] Oper.semAt_some

set_option maxHeartbeats 16000000 in
set_option maxRecDepth 100000 in
theorem aincl_any {f : Nat} {H : Hf} (hF : HFn f H) (ls : List (List UInt8)) (Ad : Option Addr) (nd cd : Nat) (i : Int) (en : List UInt8) (Ae : Option Addr) (ne ce : Nat) (pf : List (List UInt8)) (Ap : Option Addr) (np cp : Nat) (w : World)
    (hd : Es w (fun _ => True) Ad nd cd ls) (he : Sl w (fun _ => True) Ae ne ce en) (hp : Hs w (fun _ => True) Ap np cp pf) :
    Calls Try.prog 31 #[hval f, .slice Ad nd cd, .int .i64 i, .slice Ae ne ce, .slice Ap np cp] w fun e' w' => ∃ v, e' = .returned (.tuple #[v, .int .i64 (inclC H ls i en pf).2]) ∧ ClV w.heap.size (inclC H ls i en pf).1 v w' ∧ Below w.heap.size w w' := by
  have hroomd := hd.room
  have hmxd := hd.max
  unfold maxLen at hmxd
  have hroome := he.room
  have hmxe := he.max
  unfold maxLen at hmxe
  have hroomp := hp.sl.room
  have hmxp := hp.sl.max
  unfold maxLen at hmxp
  have hdl := hd.len
  have hel := he.len
  have hpl := hp.len
  obtain ⟨w0, hw0⟩ : ∃ w0, w.alloc (.cells #[.int .i64 i] 2) = w0 := ⟨_, rfl⟩
  have hb0 : Below w.heap.size w w0 := by rw [← hw0]; exact (Below.refl _ _).alloc (Nat.le_refl _) _
  have k7 : Blk w0 w.heap.size 2 #[.int .i64 i] := by rw [← hw0]; exact Blk.new _ _ _
  have hs0 : w0.heap.size = w.heap.size + 1 := by rw [← hw0]; simp
  have hd' := hd.weak (Y := (· < w.heap.size)) fun b hb _ => hb
  have he' := he.weak (Y := (· < w.heap.size)) fun b hb _ => hb
  have hp' := hp.weak (Y := (· < w.heap.size)) fun b hb _ => hb
  have Hw0 := Lib.hid hw0
  have Hs0 := Lib.hid hs0
  have Hdl := Lib.hid hdl
  have Hel := Lib.hid hel
  have Hpl := Lib.hid hpl
  clear hw0 hs0 hd he hp hdl hel hpl
  obtain ⟨big, hbig⟩ : ∃ b, bigD ls = b := ⟨_, rfl⟩
  have hlg := fun W (hb : Below w.heap.size w W) => alarge_any ls Ad nd cd W ((hd'.step hb).all)
  rw [hbig] at hlg
  have Hlg := Lib.hid hlg
  have Hbig := Lib.hid hbig
  clear hlg hbig
  by_cases hA : big = true ∨ 4096 < ne
  · rw [inclC_2 H ls i en pf (by rw [Hbig.out, Hel.out]; exact hA)]
    by_cases hA1 : big = true
    · subst hA1
      go_enter Try.func31, Try.ntmps31
      refine Code.wp_mono (fun _ _ _ h => BP.out h) ?_
      go_wp2_with (first
        | ((with_reducible show wpList _ _ _ (⟨some 10, .alloc _, _, _, _, _⟩ :: _) _ _); rw [Hw0.out]; refine wpList_clnew rfl rfl ?_; intro w1 k10 hb1; replace k7 := k7.step hb1; have hb2 := hb0.trans (hb1.mono hb0.size); simp only [Act.put])
        | ((with_reducible show wpList _ _ _ (⟨some 24, .binOp _ _ _ _ _, _, _, _, _⟩ :: _) _ _); refine wpList_run0 rfl (.bool false) (run_eqnil_op (.tmp 23) (.const .nilFunc) _ rfl rfl rfl _) ?_; simp only [Act.put])
        | (go_at_call 84; refine (Hlg.out _ hb2).mono ?_; rintro e w2 ⟨rfl, hw2⟩; obtain rfl := hw2.symm)
        | ((with_reducible show wpList _ _ _ (⟨some 34, .build _ _, _, _, _, _⟩ :: _) _ _); refine wpList_run0 rfl (.agg #[.slice none 0 0, .slice none 0 0]) (by kernel_rfl) ?_; simp only [Act.put])
        | ((with_reducible show wpList _ _ _ (⟨none, .store _ (.tmp 10) (.tmp 34), _, _, _, _⟩ :: _) _ _); refine wpList_clset (.tmp 10) (.tmp 34) rfl rfl k10 rfl rfl rfl rfl ?_; intro W3 k10s hb3 hW3; clear hW3; have hbE := hb2.trans (hb3.mono (by have := Hs0.out; omega)); simp only [Act.put]))
      exact ⟨bodyPost_ret (ret_clash2 rfl rfl k10s) rfl ⟨_, rfl, ClV.zero _ _, hbE⟩⟩
    · have hA1 : big = false := by simpa using hA1
      subst hA1
      have hn4 : decide ((4096 : Int) < (ne : Int)) = true := by simp at hA ⊢; omega
      have hn4' : 4096 < ne := by simpa using hA
      go_enter Try.func31, Try.ntmps31
      refine Code.wp_mono (fun _ _ _ h => BP.out h) ?_
      go_wp2_with (first
        | ((with_reducible show wpList _ _ _ (⟨some 10, .alloc _, _, _, _, _⟩ :: _) _ _); rw [Hw0.out]; refine wpList_clnew rfl rfl ?_; intro w1 k10 hb1; replace k7 := k7.step hb1; have hb2 := hb0.trans (hb1.mono hb0.size); simp only [Act.put])
        | ((with_reducible show wpList _ _ _ (⟨some 24, .binOp _ _ _ _ _, _, _, _, _⟩ :: _) _ _); refine wpList_run0 rfl (.bool false) (run_eqnil_op (.tmp 23) (.const .nilFunc) _ rfl rfl rfl _) ?_; simp only [Act.put])
        | (go_at_call 84; refine (Hlg.out _ hb2).mono ?_; rintro e w2 ⟨rfl, hw2⟩; obtain rfl := hw2.symm)
        | ((with_reducible show wpList _ _ _ (⟨some 34, .build _ _, _, _, _, _⟩ :: _) _ _); refine wpList_run0 rfl (.agg #[.slice none 0 0, .slice none 0 0]) (by kernel_rfl) ?_; simp only [Act.put])
        | ((with_reducible show wpList _ _ _ (⟨none, .store _ (.tmp 10) (.tmp 34), _, _, _, _⟩ :: _) _ _); refine wpList_clset (.tmp 10) (.tmp 34) rfl rfl k10 rfl rfl rfl rfl ?_; intro W3 k10s hb3 hW3; clear hW3; have hbE := hb2.trans (hb3.mono (by have := Hs0.out; omega)); simp only [Act.put]))
      exact ⟨bodyPost_ret (ret_clash2 rfl rfl k10s) rfl ⟨_, rfl, ClV.zero _ _, hbE⟩⟩
  · rw [not_or] at hA
    have hA1 : big = false := by simpa using hA.1
    subst hA1
    have hn4 : decide ((4096 : Int) < (ne : Int)) = false := by simp; omega
    have hn4' : ¬ 4096 < ne := hA.2
    have hA2 : ne ≤ 4096 := by omega
    have hnb : ¬ (bigD ls = true ∨ 4096 < en.length) := by rw [Hbig.out, Hel.out]; simp; omega
    have hnb2 := bigD_not ls Hbig.out
    rw [Hdl.out] at hnb2
    have Hnb := Lib.hid hnb
    have Hnb2 := Lib.hid hnb2
    clear hA hnb hnb2
    by_cases hB : i < 0 ∨ (nd : Int) ≤ i
    · rw [inclC_4 H ls i en pf Hnb.out (by rw [Hdl.out]; exact hB)]
      have Hb := Lib.hid hB
      by_cases hi0 : i < 0
      · have hi1 : decide (i < (0 : Int)) = true := by simpa using hi0
        clear hB
        go_enter Try.func31, Try.ntmps31
        refine Code.wp_mono (fun _ _ _ h => BP.out h) ?_
        go_wp2_with (first
          | ((with_reducible show wpList _ _ _ (⟨some 10, .alloc _, _, _, _, _⟩ :: _) _ _); rw [Hw0.out]; refine wpList_clnew rfl rfl ?_; intro w1 k10 hb1; replace k7 := k7.step hb1; have hb2 := hb0.trans (hb1.mono hb0.size); have c7 : w1.cell? ⟨w.heap.size, 0, none⟩ = some (.int .i64 i) := (by rw [k7.cell]; rfl); simp only [Act.put])
          | ((with_reducible show wpList _ _ _ (⟨some 24, .binOp _ _ _ _ _, _, _, _, _⟩ :: _) _ _); refine wpList_run0 rfl (.bool false) (run_eqnil_op (.tmp 23) (.const .nilFunc) _ rfl rfl rfl _) ?_; simp only [Act.put])
          | (go_at_call 84; refine (Hlg.out _ hb2).mono ?_; rintro e w2 ⟨rfl, hw2⟩; obtain rfl := hw2.symm)
          | ((with_reducible show wpList _ _ _ (⟨some 43, .build _ _, _, _, _, _⟩ :: _) _ _); refine wpList_run0 rfl (.agg #[.slice none 0 0, .slice none 0 0]) (by kernel_rfl) ?_; simp only [Act.put])
          | ((with_reducible show wpList _ _ _ (⟨none, .store _ (.tmp 10) (.tmp 43), _, _, _, _⟩ :: _) _ _); refine wpList_clset (.tmp 10) (.tmp 43) rfl rfl k10 rfl rfl rfl rfl ?_; intro W3 k10s hb3 hW3; clear hW3; have hbE := hb2.trans (hb3.mono (by have := Hs0.out; omega)); simp only [Act.put]))
        exact ⟨bodyPost_ret (ret_clash2 rfl rfl k10s) rfl ⟨_, rfl, ClV.zero _ _, hbE⟩⟩
      · have hi1 : decide (i < (0 : Int)) = false := by simpa using hi0
        have hi2' : (nd : Int) ≤ i := by omega
        have hi2 : decide ((nd : Int) ≤ i) = true := by simpa using hi2'
        clear hB
        go_enter Try.func31, Try.ntmps31
        refine Code.wp_mono (fun _ _ _ h => BP.out h) ?_
        go_wp2_with (first
          | ((with_reducible show wpList _ _ _ (⟨some 10, .alloc _, _, _, _, _⟩ :: _) _ _); rw [Hw0.out]; refine wpList_clnew rfl rfl ?_; intro w1 k10 hb1; replace k7 := k7.step hb1; have hb2 := hb0.trans (hb1.mono hb0.size); have c7 : w1.cell? ⟨w.heap.size, 0, none⟩ = some (.int .i64 i) := (by rw [k7.cell]; rfl); simp only [Act.put])
          | ((with_reducible show wpList _ _ _ (⟨some 24, .binOp _ _ _ _ _, _, _, _, _⟩ :: _) _ _); refine wpList_run0 rfl (.bool false) (run_eqnil_op (.tmp 23) (.const .nilFunc) _ rfl rfl rfl _) ?_; simp only [Act.put])
          | (go_at_call 84; refine (Hlg.out _ hb2).mono ?_; rintro e w2 ⟨rfl, hw2⟩; obtain rfl := hw2.symm)
          | ((with_reducible show wpList _ _ _ (⟨some 43, .build _ _, _, _, _, _⟩ :: _) _ _); refine wpList_run0 rfl (.agg #[.slice none 0 0, .slice none 0 0]) (by kernel_rfl) ?_; simp only [Act.put])
          | ((with_reducible show wpList _ _ _ (⟨none, .store _ (.tmp 10) (.tmp 43), _, _, _, _⟩ :: _) _ _); refine wpList_clset (.tmp 10) (.tmp 43) rfl rfl k10 rfl rfl rfl rfl ?_; intro W3 k10s hb3 hW3; clear hW3; have hbE := hb2.trans (hb3.mono (by have := Hs0.out; omega)); simp only [Act.put]))
        exact ⟨bodyPost_ret (ret_clash2 rfl rfl k10s) rfl ⟨_, rfl, ClV.zero _ _, hbE⟩⟩
    · rw [not_or] at hB
      obtain ⟨s, rfl⟩ : ∃ s : Nat, i = (s : Int) := ⟨i.toNat, by omega⟩
      have hsn : s < nd := by omega
      have hnd : nd ≤ 65536 := Hnb2.out.1
      have hi1 : decide ((s : Int) < (0 : Int)) = false := by simp
      have hi2 : decide ((nd : Int) ≤ (s : Int)) = false := by simp; omega
      have hi2' : ¬ (nd : Int) ≤ (s : Int) := by omega
      rw [inclC_n H ls s en pf Hnb.out (by rw [Hdl.out]; exact hsn), Hpl.out, Hdl.out]
      have hst := fun W (k : Blk W w.heap.size 2 #[.int .i64 (s : Int)]) => stepsI_any s nd w.heap.size W k (by omega) hsn (by omega)
      obtain ⟨way, hway⟩ : ∃ way, wayI s nd = way := ⟨_, rfl⟩
      have hwll : way.length ≤ nd := by rw [← hway]; exact wayF_le _ _ _ _ _
      rw [hway] at hst ⊢
      obtain ⟨L, hL⟩ : ∃ L, way.length = L := ⟨_, rfl⟩
      rw [hL] at hst hwll ⊢
      have Hst := Lib.hid hst
      have Hway := Lib.hid hway
      have HL := Lib.hid hL
      clear hB hst hway hL
      by_cases hC : np = L
      · rw [if_neg (by omega)]
        subst hC
        have hC1 : (((np : Int) : Int) != (np : Int)) = false := by simp
        have hC2 : ¬ ¬ (np : Int) = (np : Int) := by simp
        have henter := hF.enter
        have hll : (leafD en).length = ne + 1 := by simp [leafD, Hel.out]
        have hlf := fun W (hb : Below w.heap.size w W) => aleaf_any en Ae ne ce W (he'.step hb).all (by have := hA2; omega)
        have hcall := fun A c W v (e : v = .slice A (leafD en).length c) (h : Sl W (fun _ => True) A (leafD en).length c (leafD en)) => (show Calls Try.prog f #[v] W _ from e ▸ hF.call (leafD en) A (leafD en).length c W h (by rw [hll]; have := hA2; omega))
        have hrt := fun W (hb : Below w.heap.size w W) => troot13_rec hF nd ls Ad nd cd W (Nat.le_refl _) (hd'.step hb).all (by omega) (fun x hx => Nat.le_trans (Hnb2.out.2 x hx) (by decide))
        obtain ⟨a0, ha0⟩ : ∃ a, H (leafD en) = a := ⟨_, rfl⟩
        have h0l : a0.length = 32 := by rw [← ha0]; exact hF.len _
        rw [ha0] at hcall ⊢
        obtain ⟨at_, hat⟩ : ∃ a, atI H way pf a0 np = a := ⟨_, rfl⟩
        have hatl : at_.length = 32 := by rw [← hat]; exact length_atI H hF.len a0 h0l way pf np
        obtain ⟨sd, hsd⟩ : ∃ a, saidL H way pf a0 = a := ⟨_, rfl⟩
        have hsaid := fun A c W v (hb : Below w.heap.size w W) (hs : SlV W (fun _ => True) A np c 1 (bcells way)) (e : v = .agg (a0.map B).toArray) => (show Calls Try.prog 88 #[.agg #[hval f], .slice A np c, v, .slice Ap np cp] W _ from e ▸ said_any hF way A np c a0 pf Ap cp W hs HL.out h0l ((hp'.step hb).weak fun _ _ _ => trivial) (by omega))
        rw [hat, hsd] at hsaid
        rw [hat, hsd]
        obtain ⟨ro, hro⟩ : ∃ a, rootA H ls = a := ⟨_, rfl⟩
        have hrol : ro.length = 32 := by rw [← hro]; exact length_rootA H hF.len ls
        rw [hro] at hrt ⊢
        obtain ⟨res, hres⟩ : ∃ r, (if at_ ≠ ro then (noC, (230 : Int)) else inclM H way sd ls en) = r := ⟨_, rfl⟩
        rw [hres]
        have Hres := Lib.hid hres
        clear hres
        have Hcall := Lib.hid hcall
        have Hlf := Lib.hid hlf
        have Hsaid := Lib.hid hsaid
        have Hrt := Lib.hid hrt
        have Hll := Lib.hid hll
        have Hat := Lib.hid hat
        have Hsd := Lib.hid hsd
        have Ha0 := Lib.hid ha0
        have Hro := Lib.hid hro
        have H0l := Lib.hid h0l
        have Hatl := Lib.hid hatl
        have Hrol := Lib.hid hrol
        clear hcall hlf hsaid hrt hll hat hsd ha0 hro h0l hatl hrol
        go_enter Try.func31, Try.ntmps31
        refine Code.wp_mono (fun _ _ _ h => BP.out h) ?_
        go_wp2_with (first
          | ((with_reducible show wpList _ _ _ (⟨some 10, .alloc _, _, _, _, _⟩ :: _) _ _); rw [Hw0.out]; refine wpList_clnew rfl rfl ?_; intro w1 k10 hb1; replace k7 := k7.step hb1; have hb2 := hb0.trans (hb1.mono hb0.size); have c7 : w1.cell? ⟨w.heap.size, 0, none⟩ = some (.int .i64 (s : Int)) := (by rw [k7.cell]; rfl); simp only [Act.put])
          | ((with_reducible show wpList _ _ _ (⟨some 24, .binOp _ _ _ _ _, _, _, _, _⟩ :: _) _ _); refine wpList_run0 rfl (.bool false) (run_eqnil_op (.tmp 23) (.const .nilFunc) _ rfl rfl rfl _) ?_; simp only [Act.put])
          | (go_at_call 84; refine (Hlg.out _ hb2).mono ?_; rintro e w2 ⟨rfl, hw2⟩; obtain rfl := hw2.symm)
          | ((with_reducible show wpList _ _ _ (⟨some 45, .build _ _, _, _, _, _⟩ :: _) _ _); refine wpList_run0 rfl (.agg #[hval f]) (by kernel_rfl) ?_; simp only [Act.put])
          | ((with_reducible show wpList _ _ _ (⟨some 13, .alloc _, _, _, _, _⟩ :: _) _ _); refine wpList_trvar (.tmp 13) (.tmp 45) rfl rfl rfl rfl rfl rfl rfl ?_; have hk10l := k10.lt; intro w3 k13 hb13; replace k7 := k7.step hb13; replace k10 := k10.step hb13; have hb4 := hb2.trans (hb13.mono hb2.size); simp only [Act.put])
          | (go_at_call 85; go_loud (refine (Hst.out _ k7).mono ?_; rintro e w5 ⟨v14, rfl, ho14, hg14⟩; obtain ⟨A14, c14, rfl, hsv⟩ := owns_slv ho14; have hz5 := hg14.size; have hk13l := k13.lt; replace k10 := k10.grown hg14 (by intro e9; have := Option.some.inj e9; have := Hs0.out; omega); replace k13 := k13.grown hg14 (by intro e9; have := Option.some.inj e9; have := Hs0.out; omega); have hb5 : Below w.heap.size w w5 := hb4.trans (below_of_grown9 hg14 (Nat.le_refl _) hb4.size))))
        have hS : Below (w5.heap.size) w5 w5.drew := (Below.refl _ _).drew
        refine wp_region_begin (fun W => Below (w5.heap.size) w5 W) (by kernel_rfl) hS fun _ => ?_
        generalize w5.drew = u9 at hS  ⊢
        refine wpAnyH_pre (f := 9) (by kernel_rfl) #[true, true, true, true, false, false, true, false, false, false, false, false, false, false] [(0, true), (1, true), (2, true), (3, true), (6, true)] _ _ _ (by kernel_rfl) hS ?_
        simp only [List.map_cons, List.map_nil, Array.getD_eq_getD_getElem?, List.getElem?_toArray, List.getElem?_cons_succ, List.getElem?_cons_zero, Option.getD_some]
        refine wpMix_load (by kernel_rfl) 123 (.tmp 13) rfl (w1.heap.size) (0) rfl #[hval f] ((fun s => tree_load (k13.step s.ok))) ?_
        simp only [Act.put]
        refine wpMix_s (fun K hK => ?_)
        go_simp
        refine hK _ ?_
        clear hK K
        refine wpMix_s (fun K hK => ?_)
        go_simp
        refine hK _ ?_
        clear hK K
        refine wpMix_s (fun K hK => ?_)
        go_simp
        refine hK _ ?_
        clear hK K
        refine wpMix_s (fun K hK => ?_)
        go_simp
        refine hK _ ?_
        clear hK K
        refine wpMix_nil ?_
        intro _
        show wpAnyH _ _ _ _ _ _ #[true, true, true, true, false, false, true, false, false, false, false, false, false, false] _ _
        refine wpAnyH_many [4, 5, 7, 8, 9, 10, 11, 12] (fun k => if k = 5 then [4] else if k = 7 then [5] else if k = 8 then [7] else if k = 9 then [8] else if k = 10 then [8] else if k = 12 then [9] else []) (fun k => if k = 4 then 60 else if k = 5 then 61 else if k = 7 then 63 else if k = 8 then 55 else if k = 9 then 64 else if k = 10 then 65 else if k = 11 then 16 else if k = 12 then 15 else 0) (fun k => if k = 4 then Fc.bytes w5.heap.size (leafD en) else if k = 5 then Fc.val (.agg (a0.map B).toArray) (fun _ h => by cases h) else if k = 7 then Fc.said w5.heap.size np sd (.agg (at_.map B).toArray) else if k = 8 then Fc.said w5.heap.size np sd (.agg (at_.map B).toArray) else if k = 9 then Fc.prs w5.heap.size np sd else if k = 10 then Fc.val (.agg (at_.map B).toArray) (fun _ h => by cases h) else if k = 11 then Fc.hash w5.heap.size (List.replicate 32 0) else Fc.prs w5.heap.size np sd) [60, 61, 63, 55, 64, 65, 16, 15] 1 (fun _ => undef) (by kernel_rfl) (by decide) (by decide) (by kernel_rfl) hS ?_ ?_
        · refine List.forall_mem_cons.2 ⟨?k4, List.forall_mem_cons.2 ⟨?k5, List.forall_mem_cons.2 ⟨?k7, List.forall_mem_cons.2 ⟨?k8, List.forall_mem_cons.2 ⟨?k9, List.forall_mem_cons.2 ⟨?k10, List.forall_mem_cons.2 ⟨?k11, List.forall_mem_cons.2 ⟨?k12, fun _ h => by cases h⟩⟩⟩⟩⟩⟩⟩⟩
          case k4 =>
            intro us u9k hSk hneed
            simp only [Array.getD_eq_getD_getElem?, List.getElem?_toArray, List.getElem?_cons_succ, List.getElem?_cons_zero, Option.getD_some]
            simp only [putAll, Act.put, List.setIfInBounds_toArray, List.set_cons_succ, List.set_cons_zero]
            refine wpMix_c (fun K hK => ?_) hSk
            go_simp
            refine (Hlf.out u9k (hb5.trans (hSk.mono hb5.size))).mono ?_
            rintro e u9kj ⟨v8, rfl, hfr⟩
            refine hK _ _ ?_
            clear hK K
            refine ⟨hSk.trans (hfr.2.mono hSk.size), ?_⟩
            refine wpMix_nil ?_
            obtain ⟨A8, c8, rfl, -⟩ := hfr.sl
            exact ⟨.slice A8 (leafD en).length c8, by kernel_rfl, ⟨A8, c8, rfl, owns_le hfr.1 hSk.size⟩, hfr.2, fun g e => by cases e⟩
          case k5 =>
            intro us u9k hSk hneed
            simp only [Array.getD_eq_getD_getElem?, List.getElem?_toArray, List.getElem?_cons_succ, List.getElem?_cons_zero, Option.getD_some]
            simp only [putAll, Act.put, List.setIfInBounds_toArray, List.set_cons_succ, List.set_cons_zero]
            obtain ⟨A8, c8, e60, ho8⟩ : (Fc.bytes w5.heap.size (leafD en)).ok (us 60) u9k := hneed 4 (by simp)
            have hs8 : Sl u9k (fun _ => True) A8 (leafD en).length c8 (leafD en) := by rw [e60] at ho8; obtain ⟨A9, c9, e9, hs9⟩ := owns_sl ho8; cases e9; exact hs9.all
            have E60 := Lib.hid e60
            clear e60 ho8
            refine wpMix_c (fun K hK => ?_) hSk
            go_simp
            refine (Hcall.out A8 c8 u9k (us 60) E60.out hs8).mono ?_
            rintro e u9kj ⟨rfl, hb'⟩
            refine hK _ _ ?_
            clear hK K
            refine ⟨hSk.trans (hb'.mono hSk.size), ?_⟩
            refine wpMix_nil ?_
            exact ⟨.agg (a0.map B).toArray, by kernel_rfl, rfl, hb', fun g e => by cases e⟩
          case k7 =>
            intro us u9k hSk hneed
            simp only [Array.getD_eq_getD_getElem?, List.getElem?_toArray, List.getElem?_cons_succ, List.getElem?_cons_zero, Option.getD_some]
            simp only [putAll, Act.put, List.setIfInBounds_toArray, List.set_cons_succ, List.set_cons_zero]
            have e61 : us 61 = .agg (a0.map B).toArray := hneed 5 (by simp)
            have E61 := Lib.hid e61
            clear e61
            refine wpMix_c (fun K hK => ?_) hSk
            go_simp
            refine (Hsaid.out A14 c14 u9k (us 61) (hb5.trans (hSk.mono hb5.size)) (hsv.step hSk).all E61.out).mono ?_
            rintro e u9kj ⟨A9, c9, rfl, hP, hb'⟩
            refine hK _ _ ?_
            clear hK K
            refine ⟨hSk.trans (hb'.mono hSk.size), ?_⟩
            refine wpMix_nil ?_
            exact ⟨.tuple #[.slice A9 np c9, .agg (at_.map B).toArray], by kernel_rfl, ⟨A9, c9, rfl, hP.weak fun b _ h => Nat.le_trans hSk.size h⟩, hb', fun g e => by cases e⟩
          case k8 =>
            intro us u9k hSk hneed
            simp only [Array.getD_eq_getD_getElem?, List.getElem?_toArray, List.getElem?_cons_succ, List.getElem?_cons_zero, Option.getD_some]
            simp only [putAll, Act.put, List.setIfInBounds_toArray, List.set_cons_succ, List.set_cons_zero]
            obtain ⟨A_, c_, e_, hP_⟩ : (Fc.said w5.heap.size np sd (.agg (at_.map B).toArray)).ok (us 63) u9k := hneed 7 (by simp)
            have E_ := Lib.hid e_
            clear e_
            refine wpMix_c (fun K hK => ?_) hSk
            go_simp
            refine hK _ _ ?_
            clear hK K
            refine ⟨hSk, ?_⟩
            refine wpMix_nil ?_
            exact ⟨us 63, by kernel_rfl, ⟨A_, c_, E_.out, hP_⟩, Below.refl _ _, fun g e => by rw [E_.out] at e; cases e⟩
          case k9 =>
            intro us u9k hSk hneed
            simp only [Array.getD_eq_getD_getElem?, List.getElem?_toArray, List.getElem?_cons_succ, List.getElem?_cons_zero, Option.getD_some]
            simp only [putAll, Act.put, List.setIfInBounds_toArray, List.set_cons_succ, List.set_cons_zero]
            obtain ⟨A_, c_, e_, hP_⟩ : (Fc.said w5.heap.size np sd (.agg (at_.map B).toArray)).ok (us 55) u9k := hneed 8 (by simp)
            refine wpMix_run (by kernel_rfl) (.slice A_ np c_) u9k (run_extract_op (.tmp 55) 0 rfl #[.slice A_ np c_, .agg (at_.map B).toArray] e_ _ rfl _) hSk ?_
            simp only [Act.put, List.setIfInBounds_toArray, List.set_cons_succ, List.set_cons_zero]
            refine wpMix_nil ?_
            exact ⟨.slice A_ np c_, by kernel_rfl, ⟨A_, c_, rfl, hP_⟩, Below.refl _ _, fun g e => by cases e⟩
          case k10 =>
            intro us u9k hSk hneed
            simp only [Array.getD_eq_getD_getElem?, List.getElem?_toArray, List.getElem?_cons_succ, List.getElem?_cons_zero, Option.getD_some]
            simp only [putAll, Act.put, List.setIfInBounds_toArray, List.set_cons_succ, List.set_cons_zero]
            obtain ⟨A_, c_, e_, hP_⟩ : (Fc.said w5.heap.size np sd (.agg (at_.map B).toArray)).ok (us 55) u9k := hneed 8 (by simp)
            refine wpMix_run (by kernel_rfl) (.agg (at_.map B).toArray) u9k (run_extract_op (.tmp 55) 1 rfl #[.slice A_ np c_, .agg (at_.map B).toArray] e_ _ rfl _) hSk ?_
            simp only [Act.put, List.setIfInBounds_toArray, List.set_cons_succ, List.set_cons_zero]
            refine wpMix_nil ?_
            exact ⟨.agg (at_.map B).toArray, by kernel_rfl, rfl, Below.refl _ _, fun g e => by cases e⟩
          case k11 =>
            intro us u9k hSk hneed
            simp only [Array.getD_eq_getD_getElem?, List.getElem?_toArray, List.getElem?_cons_succ, List.getElem?_cons_zero, Option.getD_some]
            simp only [putAll, Act.put, List.setIfInBounds_toArray, List.set_cons_succ, List.set_cons_zero]
            refine wpMix_hnew rfl rfl (fun _ hb => hSk.trans (hb.mono hSk.size)) ?_
            intro u9j kj hb'
            refine wpMix_nil ?_
            exact ⟨ptrB u9k.heap.size, by kernel_rfl, ⟨_, rfl, kj, hSk.size⟩, hb', fun g e => by cases e; exact Nat.le_refl _⟩
          case k12 =>
            intro us u9k hSk hneed
            simp only [Array.getD_eq_getD_getElem?, List.getElem?_toArray, List.getElem?_cons_succ, List.getElem?_cons_zero, Option.getD_some]
            simp only [putAll, Act.put, List.setIfInBounds_toArray, List.set_cons_succ, List.set_cons_zero]
            obtain ⟨A_, c_, e_, hP_⟩ : (Fc.prs w5.heap.size np sd).ok (us 64) u9k := hneed 9 (by simp)
            have E_ := Lib.hid e_
            clear e_
            refine wpMix_c (fun K hK => ?_) hSk
            go_simp
            refine hK _ _ ?_
            clear hK K
            refine ⟨hSk, ?_⟩
            refine wpMix_nil ?_
            exact ⟨us 64, by kernel_rfl, ⟨A_, c_, E_.out, hP_⟩, Below.refl _ _, fun g e => by rw [E_.out] at e; cases e⟩
        · intro us u9t hS hF hA
          have e65 : us 65 = .agg (at_.map B).toArray := hF 10 (by simp)
          obtain ⟨A15, c15, e15, hP15⟩ : (Fc.prs w5.heap.size np sd).ok (us 15) u9t := hF 12 (by simp)
          obtain ⟨g16, e16, k16, h16⟩ : (Fc.hash w5.heap.size (List.replicate 32 0)).ok (us 16) u9t := hF 11 (by simp)
          simp only [putAll, Act.put, List.setIfInBounds_toArray, List.set_cons_succ, List.set_cons_zero]
          rw [e65, e15, e16]
          clear hF hA e65 e15 e16
          show wpAnyH _ _ _ _ _ _ #[true, true, true, true, true, true, true, true, true, true, true, true, true, false] _ _
          refine wpAnyH_pre (f := 0) (by kernel_rfl) #[true, true, true, true, true, true, true, true, true, true, true, true, true, true] [(13, false)] _ _ _ (by kernel_rfl) hS ?_
          simp only [List.map_cons, List.map_nil, Array.getD_eq_getD_getElem?, List.getElem?_toArray, List.getElem?_cons_succ, List.getElem?_cons_zero, Option.getD_some]
          refine wpMix_hsetG (.tmp 16) (.tmp 65) rfl rfl k16 rfl rfl Hatl.out (fun _ hb => hS.trans (hb.mono h16)) ?_
          intro u9ts k16s hb' hgw
          simp only [Act.put]
          replace hS := hS.trans (hb'.mono h16)
          have hP15s := (hP15.apart k16).grown hgw (fun b _ hx e => hx.2 (Option.some.inj e))
          clear hb' hgw hP15
          refine wpMix_nil ?_
          intro _
          refine wpAnyH_end (by kernel_rfl) ?_
          have hb6 := hb5.trans (hS.mono hb5.size)
          replace k10 := k10.step hS
          replace k13 := k13.step hS
          have hsv6 := hsv.step hS
          clear hS
          go_wp2_with fail
          by_cases hD : at_ = ro
          · have hr := Hres.out
            rw [if_neg (fun h => h hD)] at hr
            have Hr := Lib.hid hr
            have HD := Lib.hid hD
            clear hr hD
            have hS : Below u9ts.heap.size u9ts u9ts.drew := (Below.refl _ _).drew
            refine wp_region_mix (fun W => Below u9ts.heap.size u9ts W) [(0, true), (1, true), (2, true), (3, false), (4, true)] (by kernel_rfl) (by kernel_rfl) hS fun _ => ?_
            simp only [List.map_cons, List.map_nil, Array.getD_eq_getD_getElem?, List.getElem?_toArray, List.getElem?_cons_succ, List.getElem?_cons_zero, Option.getD_some]
            generalize u9ts.drew = v9 at hS ⊢
            refine wpMix_load (by kernel_rfl) 25 (.tmp 16) rfl (g16) (0) rfl (at_.map B).toArray ((fun s => (k16s.step s.ok).load)) ?_
            simp only [Act.put]
            refine wpMix_load (by kernel_rfl) 123 (.tmp 13) rfl (w1.heap.size) (0) rfl #[hval f] ((fun s => tree_load (k13.step s.ok))) ?_
            simp only [Act.put]
            refine wpMix_s (fun K hK => ?_)
            go_simp
            refine hK _ ?_
            clear hK K
            refine wpMix_c (fun K hK => ?_) hS
            go_simp
            refine (Hrt.out v9 (hb6.trans (hS.mono hb6.size))).mono ?_
            rintro e v9_1 ⟨rfl, hb'⟩
            refine hK _ _ ?_
            clear hK K
            replace hS := hS.trans (hb'.mono hS.size)
            refine ⟨hS, ?_⟩
            clear hb'
            refine wpMix_v (by kernel_rfl) (.bool false) (fun s => run_neq26_f (.tmp 66) (.tmp 69) _ at_ ro rfl rfl rfl Hatl.out Hrol.out HD.out s.W) ?_
            simp only [Act.put]
            refine wpMix_nil ?_
            intro _
            replace k10 := k10.step hS
            replace k13 := k13.step hS
            have hb7 := hb6.trans (hS.mono hb6.size)
            have hlie := lie_any hF ls Ad nd cd s way A14 np c14 sd A15 c15 v9_1 (hd'.step hb7).all (hsv6.step hS).all HL.out ((hP15s.step hS).weak fun _ _ _ => trivial) Hway.out hsn (by omega) (fun x hx => Nat.le_trans (Hnb2.out.2 x hx) (by decide))
            obtain ⟨⟨lr, rest⟩, hlr⟩ : ∃ r, lieF H way sd ls = r := ⟨_, rfl⟩
            have hr := Hr.out
            unfold inclM at hr
            rw [hlr] at hlie hr
            clear hS
            cases lr with
            | some pq =>
              obtain ⟨p, h⟩ := pq
              dsimp only at hr
              subst hr
              have Hlie := Lib.hid hlie
              have Hlr := Lib.hid hlr
              clear hlie hlr
              have hw13 := hb7.size
              have hk10w := k10.lt
              go_wp2_with (first
                | ((with_reducible show wpList _ _ _ (⟨some 73, .load _ _, _, _, _, _⟩ :: _) _ _); refine wpList_run0 rfl (.agg #[hval f]) (run_load_op 123 (.tmp 13) rfl _ 0 rfl _ (tree_load k13)) ?_; simp only [Act.put])
                | (go_at_call 91; refine Hlie.out.mono ?_; rintro e W4 ⟨⟨v, rfl, a8, a9, rfl, ho8, ho9⟩, hb8⟩; obtain ⟨A8, c8, rfl, -⟩ := owns_slv ho8; obtain ⟨A9, c9, rfl, -⟩ := owns_slv ho9; replace k10 := k10.step hb8; have hb9 := hb7.trans (hb8.mono hb7.size))
                | ((with_reducible show wpList _ _ _ (⟨some 17, .alloc _, _, _, _, _⟩ :: _) _ _); refine wpList_clnew rfl rfl ?_; have hk10l := k10.lt; intro W5 k17 hb17; replace k10 := k10.step hb17; simp only [Act.put])
                | ((with_reducible show wpList _ _ _ (⟨none, .store _ (.tmp 17) _, _, _, _, _⟩ :: _) _ _); refine wpList_clset (.tmp 17) (.tmp 78) rfl rfl k17 rfl rfl rfl rfl ?_; intro W6 k17s hb18 hW6; replace k10 := k10.below hb18 hk10l; replace ho8 := owns_step ho8 (hb17.trans hb18); replace ho9 := owns_step ho9 (hb17.trans hb18); have hb11 := hb9.trans ((hb17.trans hb18).mono hb9.size); clear hW6; simp only [Act.put])
                | ((with_reducible show wpList _ _ _ (⟨some 83, .load _ _, _, _, _, _⟩ :: _) _ _); refine wpList_run0 rfl (.agg #[.slice A8 _ c8, .slice A9 _ c9]) (run_load_op 34 (.tmp 17) rfl _ 0 rfl _ (cl_load k17s)) ?_; simp only [Act.put])
                | ((with_reducible show wpList _ _ _ (⟨none, .store _ (.tmp 10) _, _, _, _, _⟩ :: _) _ _); refine wpList_clset (.tmp 10) (.tmp 83) rfl rfl k10 rfl rfl rfl rfl ?_; intro W7 k10s hb19 hW7; have hgr : W6.grownBy W7 (some w0.heap.size) := (by rw [hW7]; exact grown_setRow (grown_of_below (Below.refl _ _) _) _); replace ho8 := ho8.kept hgr (.inr fun e => by have := (ho8.lt _ e).1; omega); replace ho9 := ho9.kept hgr (.inr fun e => by have := (ho9.lt _ e).1; omega); have hbE := hb11.trans (hb19.mono (by have := Hs0.out; omega)); clear hW7 hgr; simp only [Act.put]))
              exact ⟨bodyPost_ret (ret_clash2 rfl rfl k10s) rfl ⟨_, rfl, ⟨_, _, rfl, owns_le ho8 (by omega), owns_le ho9 (by omega)⟩, hbE⟩⟩
            | none =>
              obtain ⟨x, hx⟩ := lieF_end H way sd s ls (by rw [Hdl.out]; exact Hway.out) (by rw [← Hsd.out]; exact length_saidL H way pf a0) (by rw [Hdl.out]; exact hsn) (by rw [hlr])
              rw [hlr] at hx
              dsimp only at hx
              subst hx
              have hr : (if en = x then (noC, (231 : Int)) else ((leafD en, leafD x), 0)) = res := hr
              have Hlie := Lib.hid hlie
              have Hlr := Lib.hid hlr
              clear hlie hlr
              have hw13 := hb7.size
              have hk10w := k10.lt
              have hbq := fun A n c A' n' c' W (h : Sl W (fun _ => True) A n c en) (h' : Sl W (fun _ => True) A' n' c' x) => bequal_any en x A A' n c n' c' W h h'
              by_cases hex : en = x
              · rw [if_pos hex] at hr
                subst hr
                rw [show (en == x) = true by simpa using hex] at hbq
                have Hbq := Lib.hid hbq
                clear hbq hex
                go_wp2_with (first
                  | ((with_reducible show wpList _ _ _ (⟨some 73, .load _ _, _, _, _, _⟩ :: _) _ _); refine wpList_run0 rfl (.agg #[hval f]) (run_load_op 123 (.tmp 13) rfl _ 0 rfl _ (tree_load k13)) ?_; simp only [Act.put])
                  | (go_at_call 91; refine Hlie.out.mono ?_; rintro e W4 ⟨⟨A18, n18, c18, rfl, hE18⟩, hb8⟩; obtain rfl : n18 = 1 := hE18.len.symm; replace k10 := k10.step hb8; have hb9 := hb7.trans (hb8.mono hb7.size))
                  | ((with_reducible show wpList _ _ _ (⟨some 17, .alloc _, _, _, _, _⟩ :: _) _ _); refine wpList_clnew rfl rfl ?_; have hk10l := k10.lt; intro W5 k17 hb17; replace k10 := k10.step hb17; simp only [Act.put])
                  | ((with_reducible show wpList _ _ _ (⟨none, .store _ (.tmp 17) _, _, _, _, _⟩ :: _) _ _); refine wpList_clset (.tmp 17) (.tmp 78) rfl rfl k17 rfl rfl rfl rfl ?_; intro W6 k17s hb18 hW6; replace k10 := k10.below hb18 hk10l; replace hE18 := hE18.step (hb17.trans hb18); have hb11 := hb9.trans ((hb17.trans hb18).mono hb9.size); clear hW6; obtain ⟨b18, o18, rfl, hbx18, -, hat18⟩ := hE18.at_ (by decide); obtain ⟨Ax, cx, hcx0, hsx0⟩ := hat18 0 (by decide); have hcx : W6.cell? ⟨b18, o18, none⟩ = some (.slice Ax x.length cx) := hcx0; have hsx : Sl W6 (fun _ => True) Ax x.length cx x := hsx0; clear hcx0 hsx0 hat18; simp only [Act.put])
                  | (go_at_call 92; refine (Hbq.out _ _ _ _ _ _ _ (he'.step hb11).all hsx.all).mono ?_; rintro e W8 ⟨rfl, hww⟩; obtain rfl := hww.symm)
                  | ((with_reducible show wpList _ _ _ (⟨some 90, .build _ _, _, _, _, _⟩ :: _) _ _); refine wpList_run0 rfl (.agg #[.slice none 0 0, .slice none 0 0]) (by kernel_rfl) ?_; simp only [Act.put])
                  | ((with_reducible show wpList _ _ _ (⟨none, .store _ (.tmp 10) (.tmp 90), _, _, _, _⟩ :: _) _ _); refine wpList_clset (.tmp 10) (.tmp 90) rfl rfl k10 rfl rfl rfl rfl ?_; intro W3 k10s hb3 hW3; clear hW3; have hbE := hb11.trans (hb3.mono (by have := Hs0.out; omega)); simp only [Act.put]))
                exact ⟨bodyPost_ret (ret_clash2 rfl rfl k10s) rfl ⟨_, rfl, ClV.zero _ _, hbE⟩⟩
              · rw [if_neg hex] at hr
                subst hr
                rw [show (en == x) = false by simpa using hex] at hbq
                have Hbq := Lib.hid hbq
                clear hbq hex
                have hxl : x.length ≤ 4096 := by
                  have h1 := lieF_sub H way sd ls
                  rw [Hlr.out] at h1
                  exact Hnb2.out.2 x (h1 x (List.mem_singleton.2 rfl))
                have Hxl := Lib.hid hxl
                clear hxl
                go_wp2_with (first
                  | ((with_reducible show wpList _ _ _ (⟨some 73, .load _ _, _, _, _, _⟩ :: _) _ _); refine wpList_run0 rfl (.agg #[hval f]) (run_load_op 123 (.tmp 13) rfl _ 0 rfl _ (tree_load k13)) ?_; simp only [Act.put])
                  | (go_at_call 91; refine Hlie.out.mono ?_; rintro e W4 ⟨⟨A18, n18, c18, rfl, hE18⟩, hb8⟩; obtain rfl : n18 = 1 := hE18.len.symm; replace k10 := k10.step hb8; have hb9 := hb7.trans (hb8.mono hb7.size))
                  | ((with_reducible show wpList _ _ _ (⟨some 17, .alloc _, _, _, _, _⟩ :: _) _ _); refine wpList_clnew rfl rfl ?_; have hk10l := k10.lt; intro W5 k17 hb17; replace k10 := k10.step hb17; simp only [Act.put])
                  | ((with_reducible show wpList _ _ _ (⟨none, .store _ (.tmp 17) _, _, _, _, _⟩ :: _) _ _); refine wpList_clset (.tmp 17) (.tmp 78) rfl rfl k17 rfl rfl rfl rfl ?_; intro W6 k17s hb18 hW6; replace k10 := k10.below hb18 hk10l; replace hE18 := hE18.step (hb17.trans hb18); have hb11 := hb9.trans ((hb17.trans hb18).mono hb9.size); clear hW6; obtain ⟨b18, o18, rfl, hbx18, -, hat18⟩ := hE18.at_ (by decide); obtain ⟨Ax, cx, hcx0, hsx0⟩ := hat18 0 (by decide); have hcx : W6.cell? ⟨b18, o18, none⟩ = some (.slice Ax x.length cx) := hcx0; have hsx : Sl W6 (fun _ => True) Ax x.length cx x := hsx0; clear hcx0 hsx0 hat18; simp only [Act.put])
                  | (go_at_call 92; refine (Hbq.out _ _ _ _ _ _ _ (he'.step hb11).all hsx.all).mono ?_; rintro e W8 ⟨rfl, hww⟩; obtain rfl := hww.symm))
                have hbx : b18 < W6.heap.size := hbx18
                have hS : Below W6.heap.size W6 W6.drew := (Below.refl _ _).drew
                have hk10l := k10.lt
                replace k10 := k10.drew
                refine wp_region_mix_tail (fun W => Below W6.heap.size W6 W) 7 [(0, true), (2, true), (3, true), (4, true), (1, false), (5, false), (6, true)] (by kernel_rfl) (by kernel_rfl) hS fun _ => ?_
                simp only [List.map_cons, List.map_nil, Array.getD_eq_getD_getElem?, List.getElem?_toArray, List.getElem?_cons_succ, List.getElem?_cons_zero, Option.getD_some]
                have hsz0 := hb11.size
                have hsz1 := hb5.size
                generalize W6.drew = u8 at hS k10 ⊢
                refine wpMix_s (fun K hK => ?_)
                go_simp
                refine hK _ ?_
                clear hK K
                refine wpMix_s (fun K hK => ?_)
                go_simp
                refine hK _ ?_
                clear hK K
                refine wpMix_s (fun K hK => ?_)
                go_simp
                refine hK _ ?_
                clear hK K
                refine wpMix_v (by kernel_rfl) (.slice Ax x.length cx) (fun s => run_load_op 23 (.tmp 94) rfl b18 o18 rfl _ (run_load_scalar (by kernel_rfl) ((s.ok.cell hbx).trans hcx))) ?_
                simp only [Act.put]
                have hz0 := hS.size
                refine wpMix_c (fun K hK => ?_) hS
                go_simp
                refine (Hlf.out u8 (hb11.trans (hS.mono hb11.size))).mono ?_
                rintro e u8a ⟨v8, rfl, hf⟩
                refine hK _ _ ?_
                clear hK K
                have hz8 := hf.2.size
                replace k10 := k10.step hf.2
                replace hS := hS.trans (hf.2.mono hS.size)
                refine ⟨hS, ?_⟩
                have ho8 := owns_le hf.1 (show w0.heap.size + 1 ≤ u8.heap.size by omega)
                clear hf
                have hz0 := hS.size
                refine wpMix_c (fun K hK => ?_) hS
                go_simp
                refine (aleaf_any x Ax x.length cx u8a (hsx.step hS).all (by have := Hxl.out; omega)).mono ?_
                rintro e u8aa ⟨v9, rfl, hf⟩
                refine hK _ _ ?_
                clear hK K
                have hz8 := hf.2.size
                replace k10 := k10.step hf.2
                replace hS := hS.trans (hf.2.mono hS.size)
                refine ⟨hS, ?_⟩
                have ho9 := owns_le hf.1 (show w0.heap.size + 1 ≤ u8a.heap.size by omega)
                replace ho8 := owns_step ho8 hf.2
                clear hf
                obtain ⟨A8, c8, rfl, -⟩ := owns_slv ho8
                obtain ⟨A9, c9, rfl, -⟩ := owns_slv ho9
                refine wpMix_v (by kernel_rfl) (.agg #[.slice A8 (leafD en).length c8, .slice A9 (leafD x).length c9]) (fun s => by kernel_rfl) ?_
                simp only [Act.put]
                refine wpMix_nil ?_
                intro _
                simp only [List.drop_succ_cons, List.drop_zero]
                refine wpList_clset (.tmp 10) (.tmp 97) rfl rfl k10 rfl rfl rfl rfl ?_
                intro W7 k10s hb19 hW7
                have hgr : u8aa.grownBy W7 (some w0.heap.size) := by rw [hW7]; exact grown_setRow (grown_of_below (Below.refl _ _) _) _
                replace ho8 := ho8.kept hgr (.inr fun e => by have := (ho8.lt _ e).1; omega)
                replace ho9 := ho9.kept hgr (.inr fun e => by have := (ho9.lt _ e).1; omega)
                have hbE := (hb11.trans (hS.mono hb11.size)).trans (hb19.mono (by have := Hs0.out; omega))
                clear hW7 hgr
                simp only [Act.put]
                go_wp2_with fail
                refine np_normal ?_
                go_wp2_with fail
                exact ⟨bodyPost_ret (ret_clash2 rfl rfl k10s) rfl ⟨_, rfl, ⟨_, _, rfl, owns_le ho8 (by have := hb0.size; omega), owns_le ho9 (by have := hb0.size; omega)⟩, hbE⟩⟩
          · have hr := Hres.out
            rw [if_pos hD] at hr
            subst hr
            have hS : Below u9ts.heap.size u9ts u9ts.drew := (Below.refl _ _).drew
            refine wp_region_mix (fun W => Below u9ts.heap.size u9ts W) [(0, true), (1, true), (2, true), (3, false), (4, true)] (by kernel_rfl) (by kernel_rfl) hS fun _ => ?_
            simp only [List.map_cons, List.map_nil, Array.getD_eq_getD_getElem?, List.getElem?_toArray, List.getElem?_cons_succ, List.getElem?_cons_zero, Option.getD_some]
            generalize u9ts.drew = v9 at hS ⊢
            refine wpMix_load (by kernel_rfl) 25 (.tmp 16) rfl (g16) (0) rfl (at_.map B).toArray ((fun s => (k16s.step s.ok).load)) ?_
            simp only [Act.put]
            refine wpMix_load (by kernel_rfl) 123 (.tmp 13) rfl (w1.heap.size) (0) rfl #[hval f] ((fun s => tree_load (k13.step s.ok))) ?_
            simp only [Act.put]
            refine wpMix_s (fun K hK => ?_)
            go_simp
            refine hK _ ?_
            clear hK K
            refine wpMix_c (fun K hK => ?_) hS
            go_simp
            refine (Hrt.out v9 (hb6.trans (hS.mono hb6.size))).mono ?_
            rintro e v9_1 ⟨rfl, hb'⟩
            refine hK _ _ ?_
            clear hK K
            replace hS := hS.trans (hb'.mono hS.size)
            refine ⟨hS, ?_⟩
            clear hb'
            refine wpMix_v (by kernel_rfl) (.bool true) (fun s => run_neq26_t (.tmp 66) (.tmp 69) _ at_ ro rfl rfl rfl Hatl.out Hrol.out hD s.W) ?_
            simp only [Act.put]
            refine wpMix_nil ?_
            intro _
            replace k10 := k10.step hS
            have hb7 := hb6.trans (hS.mono hb6.size)
            clear hS
            go_wp2_with (first
              | ((with_reducible show wpList _ _ _ (⟨some 71, .build _ _, _, _, _, _⟩ :: _) _ _); refine wpList_run0 rfl (.agg #[.slice none 0 0, .slice none 0 0]) (by kernel_rfl) ?_; simp only [Act.put])
              | ((with_reducible show wpList _ _ _ (⟨none, .store _ (.tmp 10) (.tmp 71), _, _, _, _⟩ :: _) _ _); refine wpList_clset (.tmp 10) (.tmp 71) rfl rfl k10 rfl rfl rfl rfl ?_; intro W3 k10s hb3 hW3; clear hW3; have hbE := hb7.trans (hb3.mono (by have := Hs0.out; omega)); simp only [Act.put]))
            exact ⟨bodyPost_ret (ret_clash2 rfl rfl k10s) rfl ⟨_, rfl, ClV.zero _ _, hbE⟩⟩
      · rw [if_pos hC]
        have hC1 : (((np : Int) : Int) != (L : Int)) = true := by simp; omega
        have hC2 : ¬ (np : Int) = (L : Int) := by omega
        go_enter Try.func31, Try.ntmps31
        refine Code.wp_mono (fun _ _ _ h => BP.out h) ?_
        go_wp2_with (first
          | ((with_reducible show wpList _ _ _ (⟨some 10, .alloc _, _, _, _, _⟩ :: _) _ _); rw [Hw0.out]; refine wpList_clnew rfl rfl ?_; intro w1 k10 hb1; replace k7 := k7.step hb1; have hb2 := hb0.trans (hb1.mono hb0.size); have c7 : w1.cell? ⟨w.heap.size, 0, none⟩ = some (.int .i64 (s : Int)) := (by rw [k7.cell]; rfl); simp only [Act.put])
          | ((with_reducible show wpList _ _ _ (⟨some 24, .binOp _ _ _ _ _, _, _, _, _⟩ :: _) _ _); refine wpList_run0 rfl (.bool false) (run_eqnil_op (.tmp 23) (.const .nilFunc) _ rfl rfl rfl _) ?_; simp only [Act.put])
          | (go_at_call 84; refine (Hlg.out _ hb2).mono ?_; rintro e w2 ⟨rfl, hw2⟩; obtain rfl := hw2.symm)
          | ((with_reducible show wpList _ _ _ (⟨some 45, .build _ _, _, _, _, _⟩ :: _) _ _); refine wpList_run0 rfl (.agg #[hval f]) (by kernel_rfl) ?_; simp only [Act.put])
          | ((with_reducible show wpList _ _ _ (⟨some 13, .alloc _, _, _, _, _⟩ :: _) _ _); refine wpList_trvar (.tmp 13) (.tmp 45) rfl rfl rfl rfl rfl rfl rfl ?_; have hk10l := k10.lt; intro w3 k13 hb13; replace k7 := k7.step hb13; replace k10 := k10.step hb13; have hb4 := hb2.trans (hb13.mono hb2.size); simp only [Act.put])
          | (go_at_call 85; go_loud (refine (Hst.out _ k7).mono ?_; rintro e w5 ⟨v14, rfl, ho14, hg14⟩; obtain ⟨A14, c14, rfl, hsv⟩ := owns_slv ho14; have hz5 := hg14.size; have hk13l := k13.lt; replace k10 := k10.grown hg14 (by intro e9; have := Option.some.inj e9; have := Hs0.out; omega); replace k13 := k13.grown hg14 (by intro e9; have := Option.some.inj e9; have := Hs0.out; omega); have hb5 : Below w.heap.size w w5 := hb4.trans (below_of_grown9 hg14 (Nat.le_refl _) hb4.size)))
          | ((with_reducible show wpList _ _ _ (⟨some 54, .build _ _, _, _, _, _⟩ :: _) _ _); refine wpList_run0 rfl (.agg #[.slice none 0 0, .slice none 0 0]) (by kernel_rfl) ?_; simp only [Act.put])
          | ((with_reducible show wpList _ _ _ (⟨none, .store _ (.tmp 10) (.tmp 54), _, _, _, _⟩ :: _) _ _); refine wpList_clset (.tmp 10) (.tmp 54) rfl rfl k10 rfl rfl rfl rfl ?_; intro W3 k10s hb3 hW3; clear hW3; have hbE := hb5.trans (hb3.mono (by have := Hs0.out; omega)); simp only [Act.put]))
        exact ⟨bodyPost_ret (ret_clash2 rfl rfl k10s) rfl ⟨_, rfl, ClV.zero _ _, hbE⟩⟩
end Go.Proofs.Ytonidnfgneokbaa
