/- notaryref13.Cons. -/
import Derived.Test.YtonidnfgneokbaaQd144
import Derived.Test.YtonidnfgneokbaaQd147
namespace Go.Proofs.Ytonidnfgneokbaa
open Go Go.RowKit Go.Shelf
attribute [local go_sem] Oper.semAt_some

def consG (H : Hf) (whole : Bool) (way : List Bool) (fi : List UInt8) (pf d : List (List UInt8)) : PairV × Int := consM H way (saidL H way (seedB whole way pf) (seedX whole way fi pf)) d
theorem consG_nil (H : Hf) (whole : Bool) (fi : List UInt8) (pf d : List (List UInt8)) : consG H whole [] fi pf d = (noC, 231) := by
  unfold consG consM lieF
  cases saidL H [] (seedB whole [] pf) (seedX whole [] fi pf) <;> rfl
theorem consG_cons (H : Hf) (whole b : Bool) (way : List Bool) (fi : List UInt8) (pf d : List (List UInt8)) (v : Bool) (hv : (whole && !b) = v) (L : Nat) (hL : cntW v way = L) (x y : List UInt8) (hx : rootA H (d.take (splitN d.length)) = x) (hy : rootA H (d.drop (splitN d.length)) = y) (p : PairV) (hp : pairB b (pf.getD L []) (bothA H v way fi (pf.take L)) = p) :
    consG H whole (b :: way) fi pf d = if p = (x, y) then consG H v way fi (pf.take L) (if b = true then d.drop (splitN d.length) else d.take (splitN d.length)) else ((nodeD p, nodeD (x, y)), 0) := by
  subst hL hx hy hv hp
  unfold consG bothA
  rw [saidL_cons, prI_top, seedB_take, seedX_take, seedB_top]
  unfold consM
  by_cases h : pairB b (pf.getD (cntW (whole && !b) way) []) (atI H way (seedB (whole && !b) way (pf.take (cntW (whole && !b) way))) (seedX (whole && !b) way fi (pf.take (cntW (whole && !b) way))) way.length) = (rootA H (d.take (splitN d.length)), rootA H (d.drop (splitN d.length)))
  · rw [if_pos h, lieF_step H b way _ _ d h]
  · rw [if_neg h, lieF_stop H b way _ _ d h]

set_option maxHeartbeats 16000000 in
set_option maxRecDepth 100000 in
theorem rcons_any (kd : Int) (ls : List (List UInt8)) (Ad : Option Addr) (nd cd : Nat) (m : Int) (fi : List UInt8) (pf : List (List UInt8)) (Ap : Option Addr) (np cp : Nat) (w : World)
    (hd : Es w (fun _ => True) Ad nd cd ls) (hfi : fi.length = 32) (hp : Hs w (fun _ => True) Ap np cp pf) :
    Calls Try.prog 30 #[.int .i64 kd, .slice Ad nd cd, .int .i64 m, .agg (fi.map B).toArray, .slice Ap np cp] w fun e' w' => ∃ v, e' = .returned (.tuple #[v, .int .i64 (consC (hashK kd) ls m fi pf).2]) ∧ ClV w.heap.size (consC (hashK kd) ls m fi pf).1 v w' ∧ Below w.heap.size w w' := by
  have hroomd := hd.room
  have hmxd := hd.max
  unfold maxLen at hmxd
  have hroomp := hp.sl.room
  have hmxp := hp.sl.max
  unfold maxLen at hmxp
  have hdl := hd.len
  have hpl := hp.len
  have hp32 := hp.all
  obtain ⟨w0, hw0⟩ : ∃ w0, w.alloc (.cells (fi.map B).toArray 25) = w0 := ⟨_, rfl⟩
  have hb0 : Below w.heap.size w w0 := by rw [← hw0]; exact (Below.refl _ _).alloc (Nat.le_refl _) _
  have k8 : HV w0 w.heap.size fi := ⟨by rw [← hw0]; exact Blk.new _ _ _, hfi⟩
  have hd' := hd.weak (Y := (· < w.heap.size)) fun b hb _ => hb
  have hp' := hp.weak (Y := (· < w.heap.size)) fun b hb _ => hb
  have Hw0 := Lib.hid hw0
  have Hdl := Lib.hid hdl
  have Hpl := Lib.hid hpl
  have Hp32 := Lib.hid hp32
  have Hfi := Lib.hid hfi
  clear hw0 hd hp hdl hpl hp32 hfi
  obtain ⟨big, hbig⟩ : ∃ b, bigD ls = b := ⟨_, rfl⟩
  have hlg := fun W (hb : Below w.heap.size w W) => rlarge_any ls Ad nd cd W ((hd'.step hb).all)
  rw [hbig] at hlg
  have Hlg := Lib.hid hlg
  have Hbig := Lib.hid hbig
  clear hlg hbig
  by_cases hA : big = true
  · subst hA
    rw [consC_2 (hashK kd) ls m fi pf Hbig.out]
    go_enter Try.func30, Try.ntmps30
    refine Code.wp_mono (fun _ _ _ h => BP.out h) ?_
    go_wp2_with (first
      | ((with_reducible show wpList _ _ _ (⟨some 10, .alloc _, _, _, _, _⟩ :: _) _ _); rw [Hw0.out]; refine wpList_clnew rfl rfl ?_; intro w1 k10 hb1_; have hl8 := k8.lt; replace k8 := k8.step hb1_; have hb1 := hb0.trans (hb1_.mono hb0.size); have hzG := hb0.size; clear hb1_; simp only [Act.put])
      | (go_at_call 74; refine (Hlg.out _ hb1).mono ?_; rintro e w2 ⟨rfl, hw2⟩; obtain rfl := hw2.symm)
      | ((with_reducible show wpList _ _ _ (⟨some 28, .build _ _, _, _, _, _⟩ :: _) _ _); refine wpList_run0 rfl (.agg #[.slice none 0 0, .slice none 0 0]) (by kernel_rfl) ?_; simp only [Act.put])
      | ((with_reducible show wpList _ _ _ (⟨none, .store _ (.tmp 10) (.tmp 28), _, _, _, _⟩ :: _) _ _); refine wpList_clset (.tmp 10) (.tmp 28) rfl rfl k10 rfl rfl rfl rfl ?_; intro W3 k10s hb3 hW3; clear hW3; have hbE := hb1.trans (hb3.mono hzG); simp only [Act.put]))
    exact ⟨bodyPost_ret (ret_clash2 rfl rfl k10s) rfl ⟨_, rfl, ClV.zero _ _, hbE⟩⟩
  have hA1 : big = false := by simpa using hA
  subst hA1
  have hnb : ¬ bigD ls = true := by rw [Hbig.out]; simp
  have hnb2 := bigD_not ls Hbig.out
  rw [Hdl.out] at hnb2
  have Hnb := Lib.hid hnb
  have Hnb2 := Lib.hid hnb2
  clear hA hnb hnb2
  by_cases hB : m < 1 ∨ (nd : Int) < m
  · rw [consC_4 (hashK kd) ls m fi pf Hnb.out (by rw [Hdl.out]; exact hB)]
    have Hb := Lib.hid hB
    by_cases hi0 : m < 1
    · have hi1 : decide (m < (1 : Int)) = true := by simpa using hi0
      clear hB
      go_enter Try.func30, Try.ntmps30
      refine Code.wp_mono (fun _ _ _ h => BP.out h) ?_
      go_wp2_with (first
        | ((with_reducible show wpList _ _ _ (⟨some 10, .alloc _, _, _, _, _⟩ :: _) _ _); rw [Hw0.out]; refine wpList_clnew rfl rfl ?_; intro w1 k10 hb1_; have hl8 := k8.lt; replace k8 := k8.step hb1_; have hb1 := hb0.trans (hb1_.mono hb0.size); have hzG := hb0.size; clear hb1_; simp only [Act.put])
        | (go_at_call 74; refine (Hlg.out _ hb1).mono ?_; rintro e w2 ⟨rfl, hw2⟩; obtain rfl := hw2.symm)
        | ((with_reducible show wpList _ _ _ (⟨some 36, .build _ _, _, _, _, _⟩ :: _) _ _); refine wpList_run0 rfl (.agg #[.slice none 0 0, .slice none 0 0]) (by kernel_rfl) ?_; simp only [Act.put])
        | ((with_reducible show wpList _ _ _ (⟨none, .store _ (.tmp 10) (.tmp 36), _, _, _, _⟩ :: _) _ _); refine wpList_clset (.tmp 10) (.tmp 36) rfl rfl k10 rfl rfl rfl rfl ?_; intro W3 k10s hb3 hW3; clear hW3; have hbE := hb1.trans (hb3.mono hzG); simp only [Act.put]))
      exact ⟨bodyPost_ret (ret_clash2 rfl rfl k10s) rfl ⟨_, rfl, ClV.zero _ _, hbE⟩⟩
    · have hi1 : decide (m < (1 : Int)) = false := by simpa using hi0
      have hi2' : (nd : Int) < m := by omega
      have hi2 : decide ((nd : Int) < m) = true := by simpa using hi2'
      clear hB
      go_enter Try.func30, Try.ntmps30
      refine Code.wp_mono (fun _ _ _ h => BP.out h) ?_
      go_wp2_with (first
        | ((with_reducible show wpList _ _ _ (⟨some 10, .alloc _, _, _, _, _⟩ :: _) _ _); rw [Hw0.out]; refine wpList_clnew rfl rfl ?_; intro w1 k10 hb1_; have hl8 := k8.lt; replace k8 := k8.step hb1_; have hb1 := hb0.trans (hb1_.mono hb0.size); have hzG := hb0.size; clear hb1_; simp only [Act.put])
        | (go_at_call 74; refine (Hlg.out _ hb1).mono ?_; rintro e w2 ⟨rfl, hw2⟩; obtain rfl := hw2.symm)
        | ((with_reducible show wpList _ _ _ (⟨some 36, .build _ _, _, _, _, _⟩ :: _) _ _); refine wpList_run0 rfl (.agg #[.slice none 0 0, .slice none 0 0]) (by kernel_rfl) ?_; simp only [Act.put])
        | ((with_reducible show wpList _ _ _ (⟨none, .store _ (.tmp 10) (.tmp 36), _, _, _, _⟩ :: _) _ _); refine wpList_clset (.tmp 10) (.tmp 36) rfl rfl k10 rfl rfl rfl rfl ?_; intro W3 k10s hb3 hW3; clear hW3; have hbE := hb1.trans (hb3.mono hzG); simp only [Act.put]))
      exact ⟨bodyPost_ret (ret_clash2 rfl rfl k10s) rfl ⟨_, rfl, ClV.zero _ _, hbE⟩⟩
  rw [not_or] at hB
  obtain ⟨s0, rfl⟩ : ∃ s : Nat, m = (s : Int) := ⟨m.toNat, by omega⟩
  have hs01 : 1 ≤ s0 := by omega
  have hsn0 : s0 ≤ nd := by omega
  have hnd : nd ≤ 65536 := Hnb2.out.1
  have hi1 : decide ((s0 : Int) < (1 : Int)) = false := by simp; omega
  have hi1' : ¬ (s0 : Int) < 1 := by omega
  have hi2 : decide ((nd : Int) < (s0 : Int)) = false := by simp; omega
  have hi2' : ¬ (nd : Int) < (s0 : Int) := by omega
  rw [consC_n (hashK kd) ls s0 fi pf Hnb.out hs01 (by rw [Hdl.out]; exact hsn0), Hpl.out, Hdl.out]
  have hmn := fun W => rmany_rec nd s0 nd true W (Nat.le_refl _) hs01 hsn0 (by omega)
  have hbo := fun W (hb : Below w.heap.size w W) => rboth13_rec kd nd s0 nd true fi pf Ap np cp W (Nat.le_refl _) hs01 hsn0 (by omega) Hfi.out ((hp'.step hb).weak fun _ _ _ => trivial)
  obtain ⟨way0, hway0⟩ : ∃ way, wayC s0 nd = way := ⟨_, rfl⟩
  have hwll : way0.length ≤ nd := by rw [← hway0]; exact wayF_le _ _ _ _ _
  have hcle := cntW_le true way0
  rw [hway0] at hmn hbo ⊢
  have lE := fun (h : pf.length = cntW true way0) => length_bothE (hashK kd) (length_hashK kd) true way0 fi pf Hfi.out Hp32.out h
  have lA := fun (h : pf.length = cntW true way0) => length_bothA (hashK kd) (length_hashK kd) true way0 fi pf Hfi.out Hp32.out h
  rw [Hpl.out] at lE lA
  obtain ⟨L0, hL0⟩ : ∃ L, cntW true way0 = L := ⟨_, rfl⟩
  rw [hL0] at hmn hbo lE lA hcle ⊢
  have Hmn := Lib.hid hmn
  have Hway0 := Lib.hid hway0
  have HL0 := Lib.hid hL0
  clear hB hmn hway0 hL0
  by_cases hC : np = L0
  rotate_left
  · rw [if_pos hC]
    have hC1 : (((np : Int) : Int) != (L0 : Int)) = true := by simp; omega
    have hC2 : ¬ (np : Int) = (L0 : Int) := by omega
    clear hbo lE lA
    go_enter Try.func30, Try.ntmps30
    refine Code.wp_mono (fun _ _ _ h => BP.out h) ?_
    go_wp2_with (first
      | ((with_reducible show wpList _ _ _ (⟨some 10, .alloc _, _, _, _, _⟩ :: _) _ _); rw [Hw0.out]; refine wpList_clnew rfl rfl ?_; intro w1 k10 hb1_; have hl8 := k8.lt; replace k8 := k8.step hb1_; have hb1 := hb0.trans (hb1_.mono hb0.size); have hzG := hb0.size; clear hb1_; simp only [Act.put])
      | (go_at_call 74; refine (Hlg.out _ hb1).mono ?_; rintro e w2 ⟨rfl, hw2⟩; obtain rfl := hw2.symm)
      | (go_at_call 82; refine (Hmn.out _).mono ?_; rintro e w3 ⟨rfl, hw3⟩; obtain rfl := hw3.symm)
      | ((with_reducible show wpList _ _ _ (⟨some 43, .build _ _, _, _, _, _⟩ :: _) _ _); refine wpList_run0 rfl (.agg #[.slice none 0 0, .slice none 0 0]) (by kernel_rfl) ?_; simp only [Act.put])
      | ((with_reducible show wpList _ _ _ (⟨none, .store _ (.tmp 10) (.tmp 43), _, _, _, _⟩ :: _) _ _); refine wpList_clset (.tmp 10) (.tmp 43) rfl rfl k10 rfl rfl rfl rfl ?_; intro W3 k10s hb3 hW3; clear hW3; have hbE := hb1.trans (hb3.mono hzG); simp only [Act.put]))
    exact ⟨bodyPost_ret (ret_clash2 rfl rfl k10s) rfl ⟨_, rfl, ClV.zero _ _, hbE⟩⟩
  subst hC
  rw [if_neg (by omega)]
  have hC1 : (((np : Int) : Int) != (np : Int)) = false := by simp
  have hC2 : ¬ ¬ (np : Int) = (np : Int) := by simp
  have hbo := fun W hb => hbo W hb rfl
  have hatl := lA rfl
  have hell := lE rfl
  have hrt := fun W (hb : Below w.heap.size w W) => rroot13_rec kd nd ls Ad nd cd W (Nat.le_refl _) (hd'.step hb).all (by omega) (fun x hx => Nat.le_trans (Hnb2.out.2 x hx) (by decide))
  obtain ⟨at_, hat⟩ : ∃ a, bothA (hashK kd) true way0 fi pf = a := ⟨_, rfl⟩
  obtain ⟨el, hel⟩ : ∃ a, bothE (hashK kd) true way0 fi pf = a := ⟨_, rfl⟩
  rw [hat] at hbo hatl
  rw [hel] at hbo hell
  rw [hat, hel]
  obtain ⟨ro, hro⟩ : ∃ a, rootA (hashK kd) ls = a := ⟨_, rfl⟩
  have hrol : ro.length = 32 := by rw [← hro]; exact length_rootA (hashK kd) (length_hashK kd) ls
  rw [hro] at hrt ⊢
  obtain ⟨res, hres⟩ : ∃ r, (if at_ ≠ ro ∨ el ≠ fi then (noC, (230 : Int)) else consM (hashK kd) way0 (saidL (hashK kd) way0 (seedB true way0 pf) (seedX true way0 fi pf)) ls) = r := ⟨_, rfl⟩
  rw [hres]
  have Hres := Lib.hid hres
  have Hbo := Lib.hid hbo
  have Hrt := Lib.hid hrt
  have Hatl := Lib.hid hatl
  have Hell := Lib.hid hell
  have Hrol := Lib.hid hrol
  clear hres hbo hrt hat hel hro hatl hell hrol lE lA hcle hwll
  by_cases hE : el = fi
  rotate_left
  · have hr := Hres.out
    rw [if_pos (.inr hE)] at hr
    subst hr
    go_enter Try.func30, Try.ntmps30
    refine Code.wp_mono (fun _ _ _ h => BP.out h) ?_
    go_wp2_with (first
      | ((with_reducible show wpList _ _ _ (⟨some 10, .alloc _, _, _, _, _⟩ :: _) _ _); rw [Hw0.out]; refine wpList_clnew rfl rfl ?_; intro w1 k10 hb1_; have hl8 := k8.lt; replace k8 := k8.step hb1_; have hb1 := hb0.trans (hb1_.mono hb0.size); have hzG := hb0.size; clear hb1_; simp only [Act.put])
      | (go_at_call 74; refine (Hlg.out _ hb1).mono ?_; rintro e w2 ⟨rfl, hw2⟩; obtain rfl := hw2.symm)
      | (go_at_call 82; refine (Hmn.out _).mono ?_; rintro e w3 ⟨rfl, hw3⟩; obtain rfl := hw3.symm)
      | ((with_reducible show wpList _ _ _ (⟨some 48, .load _ _, _, _, _, _⟩ :: _) _ _); refine wpList_hload (.tmp 8) (by kernel_rfl) rfl k8 rfl ?_; simp only [Act.put])
      | (go_at_call 83; refine (Hbo.out _ hb1).mono ?_; rintro e w4 ⟨rfl, hb4⟩; replace k8 := k8.step hb4; replace k10 := k10.step hb4; have hb5 := hb1.trans (hb4.mono hb1.size))
      | ((with_reducible show wpList _ _ _ (⟨some 13, .alloc _, _, _, _, _⟩ :: _) _ _); refine wpList_hnew rfl rfl ?_; intro w6 k13 hb6; have hl13 := k13.lt; simp only [Act.put])
      | ((with_reducible show wpList _ _ _ (⟨some 14, .alloc _, _, _, _, _⟩ :: _) _ _); refine wpList_hnew rfl rfl ?_; intro w7 k14 hb7; replace k13 := k13.step hb7; have hb67 := hb6.trans (hb7.mono hb6.size); simp only [Act.put])
      | ((with_reducible show wpList _ _ _ (⟨none, .store _ (.tmp 13) _, _, _, _, _⟩ :: _) _ _); refine wpList_hset2 (.tmp 13) (.tmp 51) rfl rfl k13 rfl rfl Hell.out ?_; intro w8 k13s hb8 ho8; replace k14 := ho8 _ _ (by omega) k14; have hb68 := hb67.trans hb8; simp only [Act.put])
      | ((with_reducible show wpList _ _ _ (⟨none, .store _ (.tmp 14) _, _, _, _, _⟩ :: _) _ _); refine wpList_hset2 (.tmp 14) (.tmp 52) rfl rfl k14 rfl rfl Hatl.out ?_; intro w9 k14s hb9 ho9; replace k13s := ho9 _ _ (by omega) k13s; have hb69 := hb68.trans (hb9.mono (Nat.le_of_lt hl13)); replace k8 := k8.step hb69; replace k10 := k10.step hb69; have hb10 := hb5.trans (hb69.mono hb5.size); clear hb6 hb7 hb67 hb8 hb68 hb9 ho8 ho9; simp only [Act.put]))
    have hS : Below w9.heap.size w9 w9.drew := (Below.refl _ _).drew
    refine wp_region_mix (fun W => Below w9.heap.size w9 W) [(0, true), (1, true), (2, true), (3, true), (4, true), (5, true), (6, true), (7, false), (8, true), (9, true)] (by kernel_rfl) (by kernel_rfl) hS fun _ => ?_
    simp only [List.map_cons, List.map_nil, Array.getD_eq_getD_getElem?, List.getElem?_toArray, List.getElem?_cons_succ, List.getElem?_cons_zero, Option.getD_some]
    generalize w9.drew = x9 at hS ⊢
    refine wpMix_load (by kernel_rfl) 25 (.tmp 13) rfl (w4.heap.size) (0) rfl (el.map B).toArray ((fun s => (k13s.step s.ok).load)) ?_
    simp only [Act.put]
    refine wpMix_load (by kernel_rfl) 25 (.tmp 8) rfl (w.heap.size) (0) rfl (fi.map B).toArray ((fun s => (k8.step s.ok).load)) ?_
    simp only [Act.put]
    refine wpMix_v (by kernel_rfl) (.bool true) (fun s => run_neq26_t (.tmp 53) (.tmp 54) _ el fi rfl rfl rfl Hell.out Hfi.out hE s.W) ?_
    simp only [Act.put]
    refine wpMix_s (fun K hK => ?_)
    go_simp
    refine hK _ ?_
    clear hK K
    refine wpMix_s (fun K hK => ?_)
    go_simp
    refine hK _ ?_
    clear hK K
    refine wpMix_s (fun K hK => ?_)
    go_simp
    refine hK _ ?_
    clear hK K
    refine wpMix_s (fun K hK => ?_)
    go_simp
    refine hK _ ?_
    clear hK K
    refine wpMix_c (fun K hK => ?_) hS
    go_simp
    refine hK _ _ ?_
    clear hK K
    refine ⟨hS, ?_⟩
    refine wpMix_s (fun K hK => ?_)
    go_simp
    refine hK _ ?_
    clear hK K
    refine wpMix_s (fun K hK => ?_)
    go_simp
    refine hK _ ?_
    clear hK K
    refine wpMix_nil ?_
    intro _
    have hb11 := hb10.trans (hS.mono hb10.size)
    replace k8 := k8.step hS
    replace k10 := k10.step hS
    clear hS
    go_wp2_with (first
      | ((with_reducible show wpList _ _ _ (⟨some 63, .build _ _, _, _, _, _⟩ :: _) _ _); refine wpList_run0 rfl (.agg #[.slice none 0 0, .slice none 0 0]) (by kernel_rfl) ?_; simp only [Act.put])
      | ((with_reducible show wpList _ _ _ (⟨none, .store _ (.tmp 10) (.tmp 63), _, _, _, _⟩ :: _) _ _); refine wpList_clset (.tmp 10) (.tmp 63) rfl rfl k10 rfl rfl rfl rfl ?_; intro W3 k10s hb3 hW3; clear hW3; have hbE := hb11.trans (hb3.mono hzG); simp only [Act.put]))
    exact ⟨bodyPost_ret (ret_clash2 rfl rfl k10s) rfl ⟨_, rfl, ClV.zero _ _, hbE⟩⟩
  have HE := Lib.hid hE
  clear hE
  by_cases hD : at_ = ro
  rotate_left
  · have hr := Hres.out
    rw [if_pos (.inl hD)] at hr
    subst hr
    go_enter Try.func30, Try.ntmps30
    refine Code.wp_mono (fun _ _ _ h => BP.out h) ?_
    go_wp2_with (first
      | ((with_reducible show wpList _ _ _ (⟨some 10, .alloc _, _, _, _, _⟩ :: _) _ _); rw [Hw0.out]; refine wpList_clnew rfl rfl ?_; intro w1 k10 hb1_; have hl8 := k8.lt; replace k8 := k8.step hb1_; have hb1 := hb0.trans (hb1_.mono hb0.size); have hzG := hb0.size; clear hb1_; simp only [Act.put])
      | (go_at_call 74; refine (Hlg.out _ hb1).mono ?_; rintro e w2 ⟨rfl, hw2⟩; obtain rfl := hw2.symm)
      | (go_at_call 82; refine (Hmn.out _).mono ?_; rintro e w3 ⟨rfl, hw3⟩; obtain rfl := hw3.symm)
      | ((with_reducible show wpList _ _ _ (⟨some 48, .load _ _, _, _, _, _⟩ :: _) _ _); refine wpList_hload (.tmp 8) (by kernel_rfl) rfl k8 rfl ?_; simp only [Act.put])
      | (go_at_call 83; refine (Hbo.out _ hb1).mono ?_; rintro e w4 ⟨rfl, hb4⟩; replace k8 := k8.step hb4; replace k10 := k10.step hb4; have hb5 := hb1.trans (hb4.mono hb1.size))
      | ((with_reducible show wpList _ _ _ (⟨some 13, .alloc _, _, _, _, _⟩ :: _) _ _); refine wpList_hnew rfl rfl ?_; intro w6 k13 hb6; have hl13 := k13.lt; simp only [Act.put])
      | ((with_reducible show wpList _ _ _ (⟨some 14, .alloc _, _, _, _, _⟩ :: _) _ _); refine wpList_hnew rfl rfl ?_; intro w7 k14 hb7; replace k13 := k13.step hb7; have hb67 := hb6.trans (hb7.mono hb6.size); simp only [Act.put])
      | ((with_reducible show wpList _ _ _ (⟨none, .store _ (.tmp 13) _, _, _, _, _⟩ :: _) _ _); refine wpList_hset2 (.tmp 13) (.tmp 51) rfl rfl k13 rfl rfl Hell.out ?_; intro w8 k13s hb8 ho8; replace k14 := ho8 _ _ (by omega) k14; have hb68 := hb67.trans hb8; simp only [Act.put])
      | ((with_reducible show wpList _ _ _ (⟨none, .store _ (.tmp 14) _, _, _, _, _⟩ :: _) _ _); refine wpList_hset2 (.tmp 14) (.tmp 52) rfl rfl k14 rfl rfl Hatl.out ?_; intro w9 k14s hb9 ho9; replace k13s := ho9 _ _ (by omega) k13s; have hb69 := hb68.trans (hb9.mono (Nat.le_of_lt hl13)); replace k8 := k8.step hb69; replace k10 := k10.step hb69; have hb10 := hb5.trans (hb69.mono hb5.size); clear hb6 hb7 hb67 hb8 hb68 hb9 ho8 ho9; simp only [Act.put]))
    have hS : Below w9.heap.size w9 w9.drew := (Below.refl _ _).drew
    refine wp_region_mix (fun W => Below w9.heap.size w9 W) [(0, true), (1, true), (2, true), (3, true), (4, true), (5, true), (6, true), (7, false), (8, true), (9, true)] (by kernel_rfl) (by kernel_rfl) hS fun _ => ?_
    simp only [List.map_cons, List.map_nil, Array.getD_eq_getD_getElem?, List.getElem?_toArray, List.getElem?_cons_succ, List.getElem?_cons_zero, Option.getD_some]
    generalize w9.drew = x9 at hS ⊢
    refine wpMix_load (by kernel_rfl) 25 (.tmp 13) rfl (w4.heap.size) (0) rfl (el.map B).toArray ((fun s => (k13s.step s.ok).load)) ?_
    simp only [Act.put]
    refine wpMix_load (by kernel_rfl) 25 (.tmp 8) rfl (w.heap.size) (0) rfl (fi.map B).toArray ((fun s => (k8.step s.ok).load)) ?_
    simp only [Act.put]
    refine wpMix_v (by kernel_rfl) (.bool false) (fun s => run_neq26_f (.tmp 53) (.tmp 54) _ el fi rfl rfl rfl Hell.out Hfi.out HE.out s.W) ?_
    simp only [Act.put]
    refine wpMix_s (fun K hK => ?_)
    go_simp
    refine hK _ ?_
    clear hK K
    refine wpMix_load (by kernel_rfl) 25 (.tmp 14) rfl (w6.heap.size) (0) rfl (at_.map B).toArray ((fun s => (k14s.step s.ok).load)) ?_
    simp only [Act.put]
    refine wpMix_s (fun K hK => ?_)
    go_simp
    refine hK _ ?_
    clear hK K
    refine wpMix_s (fun K hK => ?_)
    go_simp
    refine hK _ ?_
    clear hK K
    refine wpMix_c (fun K hK => ?_) hS
    go_simp
    refine (Hrt.out x9 (hb10.trans (hS.mono hb10.size))).mono ?_
    rintro e x9_1 ⟨rfl, hb'⟩
    refine hK _ _ ?_
    clear hK K
    replace hS := hS.trans (hb'.mono hS.size)
    refine ⟨hS, ?_⟩
    clear hb'
    refine wpMix_v (by kernel_rfl) (.bool true) (fun s => run_neq26_t (.tmp 57) (.tmp 60) _ at_ ro rfl rfl rfl Hatl.out Hrol.out hD s.W) ?_
    simp only [Act.put]
    refine wpMix_s (fun K hK => ?_)
    go_simp
    refine hK _ ?_
    clear hK K
    refine wpMix_nil ?_
    intro _
    have hb11 := hb10.trans (hS.mono hb10.size)
    replace k8 := k8.step hS
    replace k10 := k10.step hS
    clear hS
    go_wp2_with (first
      | ((with_reducible show wpList _ _ _ (⟨some 63, .build _ _, _, _, _, _⟩ :: _) _ _); refine wpList_run0 rfl (.agg #[.slice none 0 0, .slice none 0 0]) (by kernel_rfl) ?_; simp only [Act.put])
      | ((with_reducible show wpList _ _ _ (⟨none, .store _ (.tmp 10) (.tmp 63), _, _, _, _⟩ :: _) _ _); refine wpList_clset (.tmp 10) (.tmp 63) rfl rfl k10 rfl rfl rfl rfl ?_; intro W3 k10s hb3 hW3; clear hW3; have hbE := hb11.trans (hb3.mono hzG); simp only [Act.put]))
    exact ⟨bodyPost_ret (ret_clash2 rfl rfl k10s) rfl ⟨_, rfl, ClV.zero _ _, hbE⟩⟩
  have hr := Hres.out
  rw [if_neg (by rw [not_or]; exact ⟨fun h => h hD, fun h => h HE.out⟩)] at hr
  have Hr := Lib.hid hr
  have HD := Lib.hid hD
  clear hr hD
  go_enter Try.func30, Try.ntmps30
  refine Code.wp_mono (fun _ _ _ h => BP.out h) ?_
  go_wp2_with (first
    | ((with_reducible show wpList _ _ _ (⟨some 10, .alloc _, _, _, _, _⟩ :: _) _ _); rw [Hw0.out]; refine wpList_clnew rfl rfl ?_; intro w1 k10 hb1_; have hl8 := k8.lt; replace k8 := k8.step hb1_; have hb1 := hb0.trans (hb1_.mono hb0.size); have hzG := hb0.size; clear hb1_; simp only [Act.put])
    | (go_at_call 74; refine (Hlg.out _ hb1).mono ?_; rintro e w2 ⟨rfl, hw2⟩; obtain rfl := hw2.symm)
    | (go_at_call 82; refine (Hmn.out _).mono ?_; rintro e w3 ⟨rfl, hw3⟩; obtain rfl := hw3.symm)
    | ((with_reducible show wpList _ _ _ (⟨some 48, .load _ _, _, _, _, _⟩ :: _) _ _); refine wpList_hload (.tmp 8) (by kernel_rfl) rfl k8 rfl ?_; simp only [Act.put])
    | (go_at_call 83; refine (Hbo.out _ hb1).mono ?_; rintro e w4 ⟨rfl, hb4⟩; replace k8 := k8.step hb4; replace k10 := k10.step hb4; have hb5 := hb1.trans (hb4.mono hb1.size))
    | ((with_reducible show wpList _ _ _ (⟨some 13, .alloc _, _, _, _, _⟩ :: _) _ _); refine wpList_hnew rfl rfl ?_; intro w6 k13 hb6; have hl13 := k13.lt; simp only [Act.put])
    | ((with_reducible show wpList _ _ _ (⟨some 14, .alloc _, _, _, _, _⟩ :: _) _ _); refine wpList_hnew rfl rfl ?_; intro w7 k14 hb7; replace k13 := k13.step hb7; have hb67 := hb6.trans (hb7.mono hb6.size); simp only [Act.put])
    | ((with_reducible show wpList _ _ _ (⟨none, .store _ (.tmp 13) _, _, _, _, _⟩ :: _) _ _); refine wpList_hset2 (.tmp 13) (.tmp 51) rfl rfl k13 rfl rfl Hell.out ?_; intro w8 k13s hb8 ho8; replace k14 := ho8 _ _ (by omega) k14; have hb68 := hb67.trans hb8; simp only [Act.put])
    | ((with_reducible show wpList _ _ _ (⟨none, .store _ (.tmp 14) _, _, _, _, _⟩ :: _) _ _); refine wpList_hset2 (.tmp 14) (.tmp 52) rfl rfl k14 rfl rfl Hatl.out ?_; intro w9 k14s hb9 ho9; replace k13s := ho9 _ _ (by omega) k13s; have hb69 := hb68.trans (hb9.mono (Nat.le_of_lt hl13)); replace k8 := k8.step hb69; replace k10 := k10.step hb69; have hb10 := hb5.trans (hb69.mono hb5.size); clear hb6 hb7 hb67 hb8 hb68 hb9 ho8 ho9; simp only [Act.put]))
  have hS : Below w9.heap.size w9 w9.drew := (Below.refl _ _).drew
  refine wp_region_mix (fun W => Below w9.heap.size w9 W) [(0, true), (1, true), (2, true), (3, true), (4, true), (5, true), (6, true), (7, false), (8, true), (9, true)] (by kernel_rfl) (by kernel_rfl) hS fun _ => ?_
  simp only [List.map_cons, List.map_nil, Array.getD_eq_getD_getElem?, List.getElem?_toArray, List.getElem?_cons_succ, List.getElem?_cons_zero, Option.getD_some]
  generalize w9.drew = x9 at hS ⊢
  refine wpMix_load (by kernel_rfl) 25 (.tmp 13) rfl (w4.heap.size) (0) rfl (el.map B).toArray ((fun s => (k13s.step s.ok).load)) ?_
  simp only [Act.put]
  refine wpMix_load (by kernel_rfl) 25 (.tmp 8) rfl (w.heap.size) (0) rfl (fi.map B).toArray ((fun s => (k8.step s.ok).load)) ?_
  simp only [Act.put]
  refine wpMix_v (by kernel_rfl) (.bool false) (fun s => run_neq26_f (.tmp 53) (.tmp 54) _ el fi rfl rfl rfl Hell.out Hfi.out HE.out s.W) ?_
  simp only [Act.put]
  refine wpMix_s (fun K hK => ?_)
  go_simp
  refine hK _ ?_
  clear hK K
  refine wpMix_load (by kernel_rfl) 25 (.tmp 14) rfl (w6.heap.size) (0) rfl (at_.map B).toArray ((fun s => (k14s.step s.ok).load)) ?_
  simp only [Act.put]
  refine wpMix_s (fun K hK => ?_)
  go_simp
  refine hK _ ?_
  clear hK K
  refine wpMix_s (fun K hK => ?_)
  go_simp
  refine hK _ ?_
  clear hK K
  refine wpMix_c (fun K hK => ?_) hS
  go_simp
  refine (Hrt.out x9 (hb10.trans (hS.mono hb10.size))).mono ?_
  rintro e x9_1 ⟨rfl, hb'⟩
  refine hK _ _ ?_
  clear hK K
  replace hS := hS.trans (hb'.mono hS.size)
  refine ⟨hS, ?_⟩
  clear hb'
  refine wpMix_v (by kernel_rfl) (.bool false) (fun s => run_neq26_f (.tmp 57) (.tmp 60) _ at_ ro rfl rfl rfl Hatl.out Hrol.out HD.out s.W) ?_
  simp only [Act.put]
  refine wpMix_s (fun K hK => ?_)
  go_simp
  refine hK _ ?_
  clear hK K
  refine wpMix_nil ?_
  intro _
  have hb11 := hb10.trans (hS.mono hb10.size)
  replace k8 := k8.step hS
  replace k10 := k10.step hS
  clear hS
  clear hb1 hb4 hb5 hb10 hC1 hC2 hi1 hi2 hi1' hi2' k13s k14s hl13 hb69
  obtain ⟨g10, hg10⟩ : ∃ g, w0.heap.size = g := ⟨_, rfl⟩
  rw [hg10] at k10 hzG ⊢
  rw [hg10] at hl8
  have hr0 : consG (hashK kd) true (wayC s0 nd) fi pf ls = res := by rw [Hway0.out]; exact Hr.out
  have hnp0 : np = cntW true (wayC s0 nd) := by rw [Hway0.out, HL0.out]
  go_wp2_with fail
  go_loopw [1, 2, 4, 12, 15, 16, 17, 18, 19, 20, 21, 22, 23] (fun v1 v2 v4 _ v15 _ _ _ _ _ _ _ _ wr => ∃ (s n c np : Nat) (A Ap : Option Addr) (d pf : List (List UInt8)) (whole : Bool), v1 = .slice A n c ∧ v2 = .int .i64 (s : Int) ∧ v4 = .slice Ap np cp ∧ v15 = .bool whole ∧ Es wr (· < w.heap.size) A n c d ∧ Hs wr (· < w.heap.size) Ap np cp pf ∧ 1 ≤ s ∧ s ≤ n ∧ n ≤ nd ∧ np = cntW whole (wayC s n) ∧
    consG (hashK kd) whole (wayC s n) fi pf d = res ∧ (∀ x ∈ d, x.length ≤ 4096) ∧ HV wr w.heap.size fi ∧ Blk wr g10 34 #[.slice none 0 0, .slice none 0 0] ∧ Below w.heap.size w wr) (fun v1 _ _ _ _ _ _ _ _ _ _ _ _ _ => sliceLen v1)
  case atStart => exact ⟨s0, nd, cd, np, Ad, Ap, ls, pf, true, rfl, rfl, rfl, rfl, hd'.step hb11, hp'.step hb11, hs01, hsn0, Nat.le_refl _, hnp0, hr0, Hnb2.out.2, k8, k10, hb11⟩
  case round =>
    clear k8 k10 hb11 hr0 hnp0
    obtain ⟨s, n, c, np, A, Ap, d, pf, whole, rfl, rfl, rfl, rfl, hE, hP, hs1, hsn, hn', hnp, hres, hxd, k8, k10, hbr⟩ := hrel
    have hroom := hE.room
    have hmx := hE.max
    unfold maxLen at hmx
    have hroomP := hP.sl.room
    have hdl := hE.len
    have hPl := hP.len
    by_cases hsn2 : s < n
    · have h1n : decide ((s : Int) < (n : Int)) = true := by simp; omega
      have h2 : 2 ≤ n := by omega
      have hkl := splitN_lt n h2
      have hkp := splitN_pos n h2
      have hsp := fun W => rsplit_any (n : Int) W (by omega)
      rw [Int.toNat_natCast] at hsp
      have hwr := fun (hk : splitN n < s) => wayC_right s n hsn2 hk
      have hwl := fun (hk : s ≤ splitN n) => wayC_left s n hs1 hsn2 hk
      have hcons := fun b way v hv (L : Nat) (hL : cntW v way = L) x y hx hy p hp => consG_cons (hashK kd) whole b way fi pf d v hv L hL x y hx hy p hp
      rw [hdl] at hcons
      obtain ⟨k, hk⟩ : ∃ k, splitN n = k := ⟨_, rfl⟩
      rw [hk] at hkl hkp hsp hwr hwl hcons
      have ht1 := hE.take k (by omega)
      have ht2 := hE.drop k (by omega)
      obtain ⟨A2, hA2⟩ : ∃ A2, (if c = k then A else A.map (·.add (k * 1))) = A2 := ⟨_, rfl⟩
      rw [hA2] at ht2
      have HA2 := Lib.hid hA2
      have r1 := fun W (hb : Below wr.heap.size wr W) => rroot13_rec kd k (d.take k) A k c W (Nat.le_refl _) (ht1.step hb).all (by omega) (fun x hx' => Nat.le_trans (hxd x (List.mem_of_mem_take hx')) (by decide))
      have r2 := fun W (hb : Below wr.heap.size wr W) => rroot13_rec kd (n - k) (d.drop k) A2 (n - k) (c - k) W (Nat.le_refl _) (ht2.step hb).all (by omega) (fun x hx' => Nat.le_trans (hxd x (List.mem_of_mem_drop hx')) (by decide))
      have l1 := length_rootA (hashK kd) (length_hashK kd) (d.take k)
      have l2 := length_rootA (hashK kd) (length_hashK kd) (d.drop k)
      obtain ⟨x, hx1⟩ : ∃ x, rootA (hashK kd) (d.take k) = x := ⟨_, rfl⟩
      obtain ⟨y, hy1⟩ : ∃ y, rootA (hashK kd) (d.drop k) = y := ⟨_, rfl⟩
      replace hcons := fun b way v hv (L : Nat) (hL : cntW v way = L) p hp => hcons b way v hv L hL x y hx1 hy1 p hp
      rw [hx1] at r1 l1
      rw [hy1] at r2 l2
      have hnd2 := fun W => rnode13_any x y W l1 l2
      have hnl : (nodeD (x, y)).length = 65 := by simp [nodeD, l1, l2]
      have Hnl := Lib.hid hnl
      have Hnd := Lib.hid hnd2
      have R1 := Lib.hid r1
      have R2 := Lib.hid r2
      have Hsp := Lib.hid hsp
      have Hxd := Lib.hid hxd
      have Lx := Lib.hid l1
      have Ly := Lib.hid l2
      have HPa := Lib.hid hP.all
      have HPl := Lib.hid hPl
      clear hnd2 hnl r1 r2 hsp hxd hx1 hy1 hk hA2 l1 l2 hdl hPl
      by_cases hik : s ≤ k
      · have hd1 : decide ((s : Int) ≤ (k : Int)) = true := by simp; omega
        have e := hwl hik
        rw [e] at hnp hres
        obtain ⟨way, hway⟩ : ∃ way, wayC s k = way := ⟨_, rfl⟩
        have hboth := fun W hp' hnp' => rboth13_rec kd k s k whole fi (pf.take (cntW whole way)) Ap (cntW whole way) cp W (Nat.le_refl _) hs1 hik (by omega) Hfi.out hp' hnp'
        rw [hway] at hnp hres hboth
        rw [cntW_cons, Bool.not_false, Bool.and_true] at hnp
        obtain ⟨L, hL⟩ : ∃ L, cntW whole way = L := ⟨_, rfl⟩
        have htl : (pf.take (cntW whole way)).length = cntW whole way := by rw [List.length_take, HPl.out]; omega
        have lz := length_bothA (hashK kd) (length_hashK kd) whole way fi (pf.take (cntW whole way)) Hfi.out (fun q hq => HPa.out q (List.mem_of_mem_take hq)) htl
        have lx := length_bothE (hashK kd) (length_hashK kd) whole way fi (pf.take (cntW whole way)) Hfi.out (fun q hq => HPa.out q (List.mem_of_mem_take hq)) htl
        rw [hL] at hnp hboth lz lx
        have hnp' : np = L + 1 := by omega
        subst hnp'
        obtain ⟨xx, hxx⟩ : ∃ p, bothE (hashK kd) whole way fi (pf.take L) = p := ⟨_, rfl⟩
        obtain ⟨p1, hp1⟩ : ∃ p, bothA (hashK kd) whole way fi (pf.take L) = p := ⟨_, rfl⟩
        obtain ⟨p2, hp2⟩ : ∃ p, pf.getD L [] = p := ⟨_, rfl⟩
        rw [hcons false way whole (by simp) L hL (p1, p2) (by rw [hp1, hp2]; rfl), if_neg (by simp : ¬ false = true)] at hres
        have hboth := fun W (hb : Below wr.heap.size wr W) => hboth W (((hP.step hb).take L (by omega)).weak fun _ _ _ => trivial) rfl
        rw [hxx, hp1] at hboth
        rw [hp1] at lz
        rw [hxx] at lx
        obtain ⟨bp, op, rfl, hbp, -, -⟩ := hP.at_ (by omega)
        have hget := fun W (hb : Below wr.heap.size wr W) => (hP.step hb).get rfl L (by omega)
        have lg := HPa.out.getD L (by rw [HPl.out]; omega)
        rw [hp2] at hget lg
        have hnd3 := fun W => rnode13_any p1 p2 W lz lg
        have hnl3 : (nodeD (p1, p2)).length = 65 := by simp [nodeD, lz, lg]
        have hww : IntKind.i64.wrap ((L : Int) + 1 - 1) = (L : Int) := by rw [IntWalk.i64_in _ (by omega)]; omega
        have hww2 : IntKind.i64.wrap ((((L + 1 : Nat)) : Int) - 1) = (L : Int) := by rw [IntWalk.i64_in _ (by omega)]; omega
        have hLL : (L : Int) < (L : Int) + 1 := by omega
        have Hres2 := Lib.hid hres
        have Hway := Lib.hid hway
        have HwL := Lib.hid hL
        have Hr1 := Lib.hid hboth
        have Hget := Lib.hid hget
        have Hnd3 := Lib.hid hnd3
        have Hnl3 := Lib.hid hnl3
        have Lz := Lib.hid lz
        have Ll1 := Lib.hid lx
        have lp1 : p1.length = 32 := lz
        have Lp1 := Lib.hid lp1
        clear hres hway hL hboth hget hnd3 hnl3 hcons hwr hwl e hp1 hp2 lg lz lx lp1 hxx htl hnp
        go_wp2_with (first
          | (go_at_call 77; refine (Hsp.out wr).mono ?_; rintro e w9_ ⟨rfl, rfl⟩))
        have hz0 := hbr.size
        have hk10l := k10.lt
        have hS : Below wr.heap.size wr wr.drew := (Below.refl _ _).drew
        refine wp_region_mix (fun W => Below wr.heap.size wr W) [(0, true), (1, true), (2, true), (3, true), (5, true), (6, true), (7, true), (8, true), (4, false), (9, false), (10, false), (11, true)] (by kernel_rfl) (by kernel_rfl) hS fun _ => ?_
        simp only [List.map_cons, List.map_nil, Array.getD_eq_getD_getElem?, List.getElem?_toArray, List.getElem?_cons_succ, List.getElem?_cons_zero, Option.getD_some]
        generalize wr.drew = u0 at hS ⊢
        refine wpMix_s (fun K hK => ?_)
        go_simp
        refine hK _ ?_
        clear hK K
        refine wpMix_s (fun K hK => ?_)
        go_simp
        refine hK _ ?_
        clear hK K
        refine wpMix_s (fun K hK => ?_)
        go_simp
        refine hK _ ?_
        clear hK K
        refine wpMix_v (by kernel_rfl) (.slice A k c) (fun s => run_slice_hiB (.tmp 76) (.tmp 77) rfl A n c k rfl rfl (by omega) s.W) ?_
        simp only [Act.put]
        refine wpMix_s (fun K hK => ?_)
        go_simp
        refine hK _ ?_
        clear hK K
        refine wpMix_s (fun K hK => ?_)
        go_simp
        refine hK _ ?_
        clear hK K
        refine wpMix_s (fun K hK => ?_)
        go_simp
        refine hK _ ?_
        clear hK K
        refine wpMix_v (by kernel_rfl) (.slice A2 (n - k) (c - k)) (fun s => by rw [← HA2.out]; exact run_slice_loB (.tmp 81) (.tmp 82) rfl A n c k rfl rfl (by omega) s.W) ?_
        simp only [Act.put]
        refine wpMix_c (fun K hK => ?_) hS
        go_simp
        refine (R1.out u0 hS).mono ?_
        rintro e u0_1 ⟨rfl, hb'⟩
        refine hK _ _ ?_
        clear hK K
        replace hS := hS.trans (hb'.mono hS.size)
        refine ⟨hS, ?_⟩
        clear hb'
        refine wpMix_c (fun K hK => ?_) hS
        go_simp
        refine (R2.out u0_1 hS).mono ?_
        rintro e u0_2 ⟨rfl, hb'⟩
        refine hK _ _ ?_
        clear hK K
        replace hS := hS.trans (hb'.mono hS.size)
        refine ⟨hS, ?_⟩
        clear hb'
        have hzS := hS.size
        refine wpMix_c (fun K hK => ?_) hS
        go_simp
        refine (Hnd.out u0_2).mono ?_
        rintro e u0_2a ⟨v8, rfl, hf⟩
        refine hK _ _ ?_
        clear hK K
        have ho8 := owns_le hf.1 (show g10 + 1 ≤ u0_2.heap.size by omega)
        have hz8 := hf.2.size
        replace hS := hS.trans (hf.2.mono hS.size)
        refine ⟨hS, ?_⟩
        clear hf hzS
        obtain ⟨A8, c8, rfl, -⟩ := owns_slv ho8
        rw [Hnl.out] at ho8 ⊢
        refine wpMix_s (fun K hK => ?_)
        go_simp
        refine hK _ ?_
        clear hK K
        refine wpMix_nil ?_
        intro _
        have hb8 := hbr.trans (hS.mono hbr.size)
        have hb88 := hS
        replace k8 := k8.step hS
        replace k10 := k10.step hS
        clear hS
        go_wp2_with fail
        have hS : Below (u0_2a.heap.size) u0_2a u0_2a.drew := (Below.refl _ _).drew
        refine wp_region_begin (fun W => Below (u0_2a.heap.size) u0_2a W) (by kernel_rfl) hS fun _ => ?_
        generalize u0_2a.drew = u8 at hS  ⊢
        refine wpAnyH_pre (f := 8) (by kernel_rfl) #[true, true, true, true, true, true, true, true, false, false, false, false, false, false, false, false] [(0, true), (1, true), (2, true), (3, true), (4, true), (5, true), (6, true), (7, true)] _ _ _ (by kernel_rfl) hS ?_
        simp only [List.map_cons, List.map_nil, Array.getD_eq_getD_getElem?, List.getElem?_toArray, List.getElem?_cons_succ, List.getElem?_cons_zero, Option.getD_some]
        refine wpMix_s (fun K hK => ?_)
        go_simp
        refine hK _ ?_
        clear hK K
        refine wpMix_s (fun K hK => ?_)
        go_simp
        refine hK _ ?_
        clear hK K
        refine wpMix_s (fun K hK => ?_)
        go_simp
        refine hK _ ?_
        clear hK K
        refine wpMix_s (fun K hK => ?_)
        go_simp
        refine hK _ ?_
        clear hK K
        refine wpMix_load (by kernel_rfl) 25 (.tmp 8) rfl (w.heap.size) (0) rfl (fi.map B).toArray ((fun s => (k8.step s.ok).load)) ?_
        simp only [Act.put]
        refine wpMix_s (fun K hK => ?_)
        go_simp
        refine hK _ ?_
        clear hK K
        refine wpMix_s (fun K hK => ?_)
        go_simp
        refine hK _ ?_
        clear hK K
        refine wpMix_v (by kernel_rfl) (.slice (some ⟨bp, op, none⟩) L cp) (fun s => run_slice_op_hi (.tmp 95) (.tmp 96) rfl (some ⟨bp, op, none⟩) (L + 1) cp L rfl rfl (by omega) s.W) ?_
        simp only [Act.put]
        refine wpMix_nil ?_
        intro _
        show wpAnyH _ _ _ _ _ _ #[true, true, true, true, true, true, true, true, false, false, false, false, false, false, false, false] _ _
        refine wpAnyH_manyF [8, 9, 10, 11, 12, 13] (fun k => if k = 9 then [8] else if k = 10 then [9] else if k = 11 then [9] else []) (fun k => k == 9 || k == 10 || k == 11) (fun k => if k = 8 then 98 else if k = 9 then 89 else if k = 10 then 99 else if k = 11 then 100 else if k = 12 then 20 else if k = 13 then 21 else 0) (fun k => if k = 8 then Fc.val (.tuple #[.agg (xx.map B).toArray, .agg (p1.map B).toArray]) (fun _ h => by cases h) else if k = 9 then Fc.val (.tuple #[.agg (xx.map B).toArray, .agg (p1.map B).toArray]) (fun _ h => by cases h) else if k = 10 then Fc.val (.agg (xx.map B).toArray) (fun _ h => by cases h) else if k = 11 then Fc.val (.agg (p1.map B).toArray) (fun _ h => by cases h) else if k = 12 then Fc.hash u0_2a.heap.size (List.replicate 32 0) else Fc.hash u0_2a.heap.size (List.replicate 32 0)) [98, 89, 99, 100, 20, 21] 2 (fun j => if j = 98 then u98 else if j = 89 then u89 else if j = 99 then u99 else if j = 100 then u100 else if j = 20 then u20 else if j = 21 then u21 else undef) (by kernel_rfl) (by decide) (by decide) (by kernel_rfl) hS ?_ ?_
        · refine List.forall_mem_cons.2 ⟨?k8, List.forall_mem_cons.2 ⟨?k9, List.forall_mem_cons.2 ⟨?k10, List.forall_mem_cons.2 ⟨?k11, List.forall_mem_cons.2 ⟨?k12, List.forall_mem_cons.2 ⟨?k13, fun _ h => by cases h⟩⟩⟩⟩⟩⟩
          case k8 =>
            intro us u8k hSk hneed
            simp only [Array.getD_eq_getD_getElem?, List.getElem?_toArray, List.getElem?_cons_succ, List.getElem?_cons_zero, Option.getD_some]
            simp only [putAll, Act.put, List.setIfInBounds_toArray, List.set_cons_succ, List.set_cons_zero]
            refine wpMix_c (fun K hK => ?_) hSk
            go_simp
            refine (Hr1.out u8k (hb88.trans (hSk.mono hb88.size))).mono ?_
            rintro e u8j ⟨rfl, hb'⟩
            refine hK _ _ ?_
            clear hK K
            refine ⟨hSk.trans (hb'.mono hSk.size), ?_⟩
            refine wpMix_nil ?_
            exact ⟨.tuple #[.agg (xx.map B).toArray, .agg (p1.map B).toArray], by kernel_rfl, rfl, hb', fun g e => by cases e⟩
          case k9 =>
            intro us u8k hSk hneed
            simp only [Array.getD_eq_getD_getElem?, List.getElem?_toArray, List.getElem?_cons_succ, List.getElem?_cons_zero, Option.getD_some]
            simp only [putAll, Act.put, List.setIfInBounds_toArray, List.set_cons_succ, List.set_cons_zero]
            have e_ : us 98 = .tuple #[.agg (xx.map B).toArray, .agg (p1.map B).toArray] := hneed 8 (by simp)
            refine wpMix_v (by kernel_rfl) (.tuple #[.agg (xx.map B).toArray, .agg (p1.map B).toArray]) (fun s => run_move_op (.tmp 98) rfl _ e_ s.W) ?_
            simp only [Act.put]
            refine wpMix_nil ?_
            exact ⟨.tuple #[.agg (xx.map B).toArray, .agg (p1.map B).toArray], by kernel_rfl, rfl, Below.refl _ _, fun g e => by cases e⟩
          case k10 =>
            intro us u8k hSk hneed
            simp only [Array.getD_eq_getD_getElem?, List.getElem?_toArray, List.getElem?_cons_succ, List.getElem?_cons_zero, Option.getD_some]
            simp only [putAll, Act.put, List.setIfInBounds_toArray, List.set_cons_succ, List.set_cons_zero]
            have e_ : us 89 = .tuple #[.agg (xx.map B).toArray, .agg (p1.map B).toArray] := hneed 9 (by simp)
            refine wpMix_v (by kernel_rfl) (.agg (xx.map B).toArray) (fun s => run_extract_op (.tmp 89) 0 rfl #[.agg (xx.map B).toArray, .agg (p1.map B).toArray] e_ _ rfl s.W) ?_
            simp only [Act.put]
            refine wpMix_nil ?_
            exact ⟨.agg (xx.map B).toArray, by kernel_rfl, rfl, Below.refl _ _, fun g e => by cases e⟩
          case k11 =>
            intro us u8k hSk hneed
            simp only [Array.getD_eq_getD_getElem?, List.getElem?_toArray, List.getElem?_cons_succ, List.getElem?_cons_zero, Option.getD_some]
            simp only [putAll, Act.put, List.setIfInBounds_toArray, List.set_cons_succ, List.set_cons_zero]
            have e_ : us 89 = .tuple #[.agg (xx.map B).toArray, .agg (p1.map B).toArray] := hneed 9 (by simp)
            refine wpMix_v (by kernel_rfl) (.agg (p1.map B).toArray) (fun s => run_extract_op (.tmp 89) 1 rfl #[.agg (xx.map B).toArray, .agg (p1.map B).toArray] e_ _ rfl s.W) ?_
            simp only [Act.put]
            refine wpMix_nil ?_
            exact ⟨.agg (p1.map B).toArray, by kernel_rfl, rfl, Below.refl _ _, fun g e => by cases e⟩
          case k12 =>
            intro us u8k hSk hneed
            simp only [Array.getD_eq_getD_getElem?, List.getElem?_toArray, List.getElem?_cons_succ, List.getElem?_cons_zero, Option.getD_some]
            simp only [putAll, Act.put, List.setIfInBounds_toArray, List.set_cons_succ, List.set_cons_zero]
            refine wpMix_hnew rfl rfl (fun _ hb => hSk.trans (hb.mono hSk.size)) ?_
            intro u8j kj hb'
            refine wpMix_nil ?_
            exact ⟨ptrB u8k.heap.size, by kernel_rfl, ⟨_, rfl, kj, hSk.size⟩, hb', fun g e => by cases e; exact Nat.le_refl _⟩
          case k13 =>
            intro us u8k hSk hneed
            simp only [Array.getD_eq_getD_getElem?, List.getElem?_toArray, List.getElem?_cons_succ, List.getElem?_cons_zero, Option.getD_some]
            simp only [putAll, Act.put, List.setIfInBounds_toArray, List.set_cons_succ, List.set_cons_zero]
            refine wpMix_hnew rfl rfl (fun _ hb => hSk.trans (hb.mono hSk.size)) ?_
            intro u8j kj hb'
            refine wpMix_nil ?_
            exact ⟨ptrB u8k.heap.size, by kernel_rfl, ⟨_, rfl, kj, hSk.size⟩, hb', fun g e => by cases e; exact Nat.le_refl _⟩
        · intro us u8t hS hF hA
          have e50 : us 99 = .agg (xx.map B).toArray := hF 10 (by simp)
          have e51 : us 100 = .agg (p1.map B).toArray := hF 11 (by simp)
          obtain ⟨g16, e16, k16, h16⟩ : (Fc.hash u0_2a.heap.size (List.replicate 32 0)).ok (us 20) u8t := hF 12 (by simp)
          obtain ⟨g17, e17, k17, h17⟩ : (Fc.hash u0_2a.heap.size (List.replicate 32 0)).ok (us 21) u8t := hF 13 (by simp)
          have h1617 : g16 ≠ g17 := fun e => hA 12 (by simp) 13 (by simp) (by decide) g16 e16 (by rw [e]; exact e17)
          simp only [putAll, Act.put, List.setIfInBounds_toArray, List.set_cons_succ, List.set_cons_zero]
          rw [e50, e51, e16, e17]
          clear hF hA e50 e51 e16 e17
          show wpAnyH _ _ _ _ _ _ #[true, true, true, true, true, true, true, true, true, true, true, true, true, true, false, false] _ _
          refine wpAnyH_pre (f := 0) (by kernel_rfl) #[true, true, true, true, true, true, true, true, true, true, true, true, true, true, true, true] [(14, false), (15, false)] _ _ _ (by kernel_rfl) hS ?_
          simp only [List.map_cons, List.map_nil, Array.getD_eq_getD_getElem?, List.getElem?_toArray, List.getElem?_cons_succ, List.getElem?_cons_zero, Option.getD_some]
          refine wpMix_hset (.tmp 20) (.tmp 99) rfl rfl k16 rfl rfl Ll1.out (fun _ hb => hS.trans (hb.mono h16)) ?_
          intro u8_1 k16s hb' hoth
          simp only [Act.put]
          replace hS := hS.trans (hb'.mono h16)
          replace k17 := hoth _ _ (fun e => h1617 e.symm) k17
          clear hb' hoth
          refine wpMix_hset (.tmp 21) (.tmp 100) rfl rfl k17 rfl rfl Lz.out (fun _ hb => hS.trans (hb.mono h17)) ?_
          intro u8_2 k17s hb' hoth
          simp only [Act.put]
          replace hS := hS.trans (hb'.mono h17)
          replace k16s := hoth _ _ h1617 k16s
          clear hb' hoth
          refine wpMix_nil ?_
          intro _
          refine wpAnyH_end (by kernel_rfl) ?_
          have hb9 := hb8.trans (hS.mono hb8.size)
          have hb89 := hb88.trans (hS.mono hb88.size)
          replace k8 := k8.step hS
          replace k10 := k10.step hS
          replace ho8 := owns_step ho8 hS
          have hz9 := hb89.size
          clear hS k16 k17
          go_wp2_with fail
          replace ho8 := owns_step ho8 (Below.refl u8_2.heap.size u8_2).drew
          have hS : Below u8_2.heap.size u8_2 u8_2.drew := (Below.refl _ _).drew
          refine wp_region_mix (fun W => Below u8_2.heap.size u8_2 W) [(0, true), (1, true), (2, true), (3, true), (4, true), (5, false), (6, true)] (by kernel_rfl) (by kernel_rfl) hS fun _ => ?_
          simp only [List.map_cons, List.map_nil, Array.getD_eq_getD_getElem?, List.getElem?_toArray, List.getElem?_cons_succ, List.getElem?_cons_zero, Option.getD_some]
          generalize u8_2.drew = u1 at hS ho8 ⊢
          refine wpMix_load (by kernel_rfl) 25 (.tmp 21) rfl (g17) (0) rfl (p1.map B).toArray ((fun s => (k17s.step s.ok).load)) ?_
          simp only [Act.put]
          refine wpMix_s (fun K hK => ?_)
          go_simp
          refine hK _ ?_
          clear hK K
          refine wpMix_s (fun K hK => ?_)
          go_simp
          refine hK _ ?_
          clear hK K
          refine wpMix_s (fun K hK => ?_)
          go_simp
          refine hK _ ?_
          clear hK K
          refine wpMix_load (by kernel_rfl) 25 (.tmp 104) rfl (bp) (op + L * 32) rfl (p2.map B).toArray ((fun s => Hget.out s.W (hb89.trans (s.ok.mono hb89.size)))) ?_
          simp only [Act.put]
          have hzS := hS.size
          refine wpMix_c (fun K hK => ?_) hS
          go_simp
          refine (Hnd3.out u1).mono ?_
          rintro e u1a ⟨v9, rfl, hf⟩
          refine hK _ _ ?_
          clear hK K
          have ho9 := owns_le hf.1 (show g10 + 1 ≤ u1.heap.size by omega)
          have hz9_ := hf.2.size
          replace ho8 := owns_step ho8 hf.2
          replace hS := hS.trans (hf.2.mono hS.size)
          refine ⟨hS, ?_⟩
          clear hf hzS
          obtain ⟨A9, c9, rfl, -⟩ := owns_slv ho9
          rw [Hnl3.out] at ho9 ⊢
          refine wpMix_s (fun K hK => ?_)
          go_simp
          refine hK _ ?_
          clear hK K
          refine wpMix_nil ?_
          intro _
          have hs8 : Sl u1a (fun _ => True) A8 65 c8 (nodeD (x, y)) := by have h9 := ho8; rw [← Hnl.out] at h9; obtain ⟨A_, c_, e_, h_⟩ := owns_sl h9; rw [Hnl.out] at e_ h_; cases e_; exact h_.all
          have hs9 : Sl u1a (fun _ => True) A9 65 c9 (nodeD (p1, p2)) := by have h9 := ho9; rw [← Hnl3.out] at h9; obtain ⟨A_, c_, e_, h_⟩ := owns_sl h9; rw [Hnl3.out] at e_ h_; cases e_; exact h_.all
          have st8 := run_str hs8
          have st9 := run_str hs9
          have hbN := hb9.trans (hS.mono hb9.size)
          replace k10 := k10.step hS
          replace k8 := k8.step hS
          have hbS9 := hb89.trans (hS.mono hb89.size)
          clear hS k16s k17s
          by_cases hpe : (p1, p2) = (x, y)
          · have hr := Hres2.out
            rw [if_pos hpe] at hr
            have Hr2 := Lib.hid hr
            have hne := fun (ρ : Operand → Value) (o : Oper) (a b : Operand) (ty : TypeId) (ho : o.op = .binOp .neq 9 a b ty) (hx : ρ a = .string (bstr (nodeD (p1, p2)))) (hy : ρ b = .string (bstr (nodeD (x, y)))) (W : World) => run_neqs_op (o := o) (ρ := ρ) a b ty _ _ ho hx hy W
            rw [show (nodeD (p1, p2) != nodeD (x, y)) = false by rw [hpe]; simp] at hne
            have Hne := Lib.hid hne
            clear hr hne hpe
            go_wp2_with (first
              | ((with_reducible show wpList _ _ _ (⟨some 132, .binOp _ _ _ _ _, _, _, _, _⟩ :: _) _ _); refine wpList_run0 rfl (.bool false) (Hne.out _ _ (.tmp 129) (.tmp 131) _ rfl rfl rfl _) ?_; simp only [Act.put])
              | ((with_reducible show wpList _ _ _ (⟨some 138, .slice _ _ _ _ _, _, _, _, _⟩ :: _) _ _); refine wpList_run0 rfl (.slice (some ⟨bp, op, none⟩) L cp) (run_slice_op_hi (.tmp 136) (.tmp 137) rfl (some ⟨bp, op, none⟩) (L + 1) cp L rfl rfl (by omega) _) ?_; simp only [Act.put])
              | ((with_reducible show wpList _ _ _ (⟨some 144, .slice _ _ _ _ _, _, _, _, _⟩ :: _) _ _); refine wpList_run0 rfl (.slice A k c) (run_slice_hiB (.tmp 142) (.tmp 143) rfl A n c k rfl rfl (by omega) _) ?_; simp only [Act.put])
              | ((with_reducible show wpList _ _ _ (⟨some 147, .slice _ _ _ _ _, _, _, _, _⟩ :: _) _ _); refine wpList_run0 rfl (.slice A2 (n - k) (c - k)) (by rw [← HA2.out]; exact run_slice_loB (.tmp 145) (.tmp 146) rfl A n c k rfl rfl (by omega) _) ?_; simp only [Act.put]))
            go_roundw
            case rel => exact ⟨s, k, c, L, A, some ⟨bp, op, none⟩, d.take k, pf.take L, whole, rfl, rfl, rfl, rfl, ht1.step hbS9, (hP.step hbS9).take L (by omega), hs1, hik, by omega, by rw [Hway.out, HwL.out], by rw [Hway.out]; exact Hr2.out, fun x hx => Hxd.out x (List.mem_of_mem_take hx), k8, k10, hbN⟩
            case measure => simp [sliceLen]; omega
          · have hr := Hres2.out
            rw [if_neg hpe] at hr
            subst hr
            have hne := fun (ρ : Operand → Value) (o : Oper) (a b : Operand) (ty : TypeId) (ho : o.op = .binOp .neq 9 a b ty) (hx : ρ a = .string (bstr (nodeD (p1, p2)))) (hy : ρ b = .string (bstr (nodeD (x, y)))) (W : World) => run_neqs_op (o := o) (ρ := ρ) a b ty _ _ ho hx hy W
            rw [show (nodeD (p1, p2) != nodeD (x, y)) = true by simpa using fun h => hpe (nodeD_inj (by exact Lp1.out) (by exact Lx.out) h)] at hne
            have Hne := Lib.hid hne
            clear hne hpe
            go_wp2_with (first
              | ((with_reducible show wpList _ _ _ (⟨some 132, .binOp _ _ _ _ _, _, _, _, _⟩ :: _) _ _); refine wpList_run0 rfl (.bool true) (Hne.out _ _ (.tmp 129) (.tmp 131) _ rfl rfl rfl _) ?_; simp only [Act.put])
              | ((with_reducible show wpList _ _ _ (⟨some 135, .build _ _, _, _, _, _⟩ :: _) _ _); refine wpList_run0 rfl (.agg #[.slice A9 65 c9, .slice A8 65 c8]) (by kernel_rfl) ?_; simp only [Act.put])
              | ((with_reducible show wpList _ _ _ (⟨none, .store _ (.tmp 10) _, _, _, _, _⟩ :: _) _ _); refine wpList_clset (.tmp 10) (.tmp 135) rfl rfl k10 rfl rfl rfl rfl ?_; intro W8 k10s hb3 hW8; have hgr : u1a.grownBy W8 (some g10) := (by rw [hW8]; exact grown_setRow (grown_of_below (Below.refl _ _) _) _); replace ho8 := ho8.kept hgr (.inr fun e => by have := (ho8.lt _ e).1; omega); replace ho9 := ho9.kept hgr (.inr fun e => by have := (ho9.lt _ e).1; omega); have hbE := hbN.trans (hb3.mono hzG); clear hW8 hgr; simp only [Act.put]))
            exact ⟨bodyPost_ret (ret_clash2 rfl rfl k10s) rfl ⟨_, rfl, ⟨_, _, rfl, by rw [Hnl3.out]; exact owns_le ho9 (by omega), by rw [Hnl.out]; exact owns_le ho8 (by omega)⟩, hbE⟩⟩
      · have hd1 : decide ((s : Int) ≤ (k : Int)) = false := by simp; omega
        have e := hwr (by omega)
        rw [e] at hnp hres
        obtain ⟨way, hway⟩ : ∃ way, wayC (s - k) (n - k) = way := ⟨_, rfl⟩
        have hboth := fun W hp' hnp' => rboth13_rec kd (n - k) (s - k) (n - k) false fi (pf.take (cntW false way)) Ap (cntW false way) cp W (Nat.le_refl _) (by omega) (by omega) (by omega) Hfi.out hp' hnp'
        rw [show ((s - k : Nat) : Int) = (s : Int) - k by omega, show ((n - k : Nat) : Int) = (n : Int) - k by omega] at hboth
        have hw1 : IntKind.i64.wrap ((s : Int) - (k : Int)) = (s : Int) - k := IntWalk.i64_in _ (by omega)
        have hw2 : IntKind.i64.wrap ((n : Int) - (k : Int)) = (n : Int) - k := IntWalk.i64_in _ (by omega)
        rw [hway] at hnp hres hboth
        rw [cntW_cons, Bool.not_true, Bool.and_false] at hnp
        obtain ⟨L, hL⟩ : ∃ L, cntW false way = L := ⟨_, rfl⟩
        have htl : (pf.take (cntW false way)).length = cntW false way := by rw [List.length_take, HPl.out]; omega
        have lz := length_bothA (hashK kd) (length_hashK kd) false way fi (pf.take (cntW false way)) Hfi.out (fun q hq => HPa.out q (List.mem_of_mem_take hq)) htl
        have lx := length_bothE (hashK kd) (length_hashK kd) false way fi (pf.take (cntW false way)) Hfi.out (fun q hq => HPa.out q (List.mem_of_mem_take hq)) htl
        rw [hL] at hnp hboth lz lx
        have hnp' : np = L + 1 := by omega
        subst hnp'
        obtain ⟨xx, hxx⟩ : ∃ p, bothE (hashK kd) false way fi (pf.take L) = p := ⟨_, rfl⟩
        obtain ⟨p2, hp2⟩ : ∃ p, bothA (hashK kd) false way fi (pf.take L) = p := ⟨_, rfl⟩
        obtain ⟨p1, hp1⟩ : ∃ p, pf.getD L [] = p := ⟨_, rfl⟩
        rw [hcons true way false (by simp) L hL (p1, p2) (by rw [hp1, hp2]; rfl), if_pos rfl] at hres
        have hboth := fun W (hb : Below wr.heap.size wr W) => hboth W (((hP.step hb).take L (by omega)).weak fun _ _ _ => trivial) rfl
        rw [hxx, hp2] at hboth
        rw [hp2] at lz
        rw [hxx] at lx
        obtain ⟨bp, op, rfl, hbp, -, -⟩ := hP.at_ (by omega)
        have hget := fun W (hb : Below wr.heap.size wr W) => (hP.step hb).get rfl L (by omega)
        have lg := HPa.out.getD L (by rw [HPl.out]; omega)
        rw [hp1] at hget lg
        have hnd3 := fun W => rnode13_any p1 p2 W lg lz
        have hnl3 : (nodeD (p1, p2)).length = 65 := by simp [nodeD, lz, lg]
        have hww : IntKind.i64.wrap ((L : Int) + 1 - 1) = (L : Int) := by rw [IntWalk.i64_in _ (by omega)]; omega
        have hww2 : IntKind.i64.wrap ((((L + 1 : Nat)) : Int) - 1) = (L : Int) := by rw [IntWalk.i64_in _ (by omega)]; omega
        have hLL : (L : Int) < (L : Int) + 1 := by omega
        have Hres2 := Lib.hid hres
        have Hway := Lib.hid hway
        have HwL := Lib.hid hL
        have Hr1 := Lib.hid hboth
        have Hget := Lib.hid hget
        have Hnd3 := Lib.hid hnd3
        have Hnl3 := Lib.hid hnl3
        have Lz := Lib.hid lz
        have Ll1 := Lib.hid lx
        have lp1 : p1.length = 32 := lg
        have Lp1 := Lib.hid lp1
        clear hres hway hL hboth hget hnd3 hnl3 hcons hwr hwl e hp1 hp2 lg lz lx lp1 hxx htl hnp
        go_wp2_with (first
          | (go_at_call 77; refine (Hsp.out wr).mono ?_; rintro e w9_ ⟨rfl, rfl⟩))
        have hz0 := hbr.size
        have hk10l := k10.lt
        have hS : Below wr.heap.size wr wr.drew := (Below.refl _ _).drew
        refine wp_region_mix (fun W => Below wr.heap.size wr W) [(0, true), (1, true), (2, true), (3, true), (5, true), (6, true), (7, true), (8, true), (4, false), (9, false), (10, false), (11, true)] (by kernel_rfl) (by kernel_rfl) hS fun _ => ?_
        simp only [List.map_cons, List.map_nil, Array.getD_eq_getD_getElem?, List.getElem?_toArray, List.getElem?_cons_succ, List.getElem?_cons_zero, Option.getD_some]
        generalize wr.drew = u0 at hS ⊢
        refine wpMix_s (fun K hK => ?_)
        go_simp
        refine hK _ ?_
        clear hK K
        refine wpMix_s (fun K hK => ?_)
        go_simp
        refine hK _ ?_
        clear hK K
        refine wpMix_s (fun K hK => ?_)
        go_simp
        refine hK _ ?_
        clear hK K
        refine wpMix_v (by kernel_rfl) (.slice A k c) (fun s => run_slice_hiB (.tmp 76) (.tmp 77) rfl A n c k rfl rfl (by omega) s.W) ?_
        simp only [Act.put]
        refine wpMix_s (fun K hK => ?_)
        go_simp
        refine hK _ ?_
        clear hK K
        refine wpMix_s (fun K hK => ?_)
        go_simp
        refine hK _ ?_
        clear hK K
        refine wpMix_s (fun K hK => ?_)
        go_simp
        refine hK _ ?_
        clear hK K
        refine wpMix_v (by kernel_rfl) (.slice A2 (n - k) (c - k)) (fun s => by rw [← HA2.out]; exact run_slice_loB (.tmp 81) (.tmp 82) rfl A n c k rfl rfl (by omega) s.W) ?_
        simp only [Act.put]
        refine wpMix_c (fun K hK => ?_) hS
        go_simp
        refine (R1.out u0 hS).mono ?_
        rintro e u0_1 ⟨rfl, hb'⟩
        refine hK _ _ ?_
        clear hK K
        replace hS := hS.trans (hb'.mono hS.size)
        refine ⟨hS, ?_⟩
        clear hb'
        refine wpMix_c (fun K hK => ?_) hS
        go_simp
        refine (R2.out u0_1 hS).mono ?_
        rintro e u0_2 ⟨rfl, hb'⟩
        refine hK _ _ ?_
        clear hK K
        replace hS := hS.trans (hb'.mono hS.size)
        refine ⟨hS, ?_⟩
        clear hb'
        have hzS := hS.size
        refine wpMix_c (fun K hK => ?_) hS
        go_simp
        refine (Hnd.out u0_2).mono ?_
        rintro e u0_2a ⟨v8, rfl, hf⟩
        refine hK _ _ ?_
        clear hK K
        have ho8 := owns_le hf.1 (show g10 + 1 ≤ u0_2.heap.size by omega)
        have hz8 := hf.2.size
        replace hS := hS.trans (hf.2.mono hS.size)
        refine ⟨hS, ?_⟩
        clear hf hzS
        obtain ⟨A8, c8, rfl, -⟩ := owns_slv ho8
        rw [Hnl.out] at ho8 ⊢
        refine wpMix_s (fun K hK => ?_)
        go_simp
        refine hK _ ?_
        clear hK K
        refine wpMix_nil ?_
        intro _
        have hb8 := hbr.trans (hS.mono hbr.size)
        have hb88 := hS
        replace k8 := k8.step hS
        replace k10 := k10.step hS
        clear hS
        go_wp2_with fail
        have hS : Below (u0_2a.heap.size) u0_2a u0_2a.drew := (Below.refl _ _).drew
        refine wp_region_begin (fun W => Below (u0_2a.heap.size) u0_2a W) (by kernel_rfl) hS fun _ => ?_
        generalize u0_2a.drew = u8 at hS  ⊢
        refine wpAnyH_pre (f := 8) (by kernel_rfl) #[true, true, true, true, true, true, true, true, true, true, true, false, false, false, false, false, false, false, false] [(0, true), (1, true), (2, true), (3, true), (4, true), (5, true), (6, true), (7, true), (8, true), (9, true), (10, true)] _ _ _ (by kernel_rfl) hS ?_
        simp only [List.map_cons, List.map_nil, Array.getD_eq_getD_getElem?, List.getElem?_toArray, List.getElem?_cons_succ, List.getElem?_cons_zero, Option.getD_some]
        refine wpMix_s (fun K hK => ?_)
        go_simp
        refine hK _ ?_
        clear hK K
        refine wpMix_s (fun K hK => ?_)
        go_simp
        refine hK _ ?_
        clear hK K
        refine wpMix_s (fun K hK => ?_)
        go_simp
        refine hK _ ?_
        clear hK K
        refine wpMix_s (fun K hK => ?_)
        go_simp
        refine hK _ ?_
        clear hK K
        refine wpMix_s (fun K hK => ?_)
        go_simp
        refine hK _ ?_
        clear hK K
        refine wpMix_s (fun K hK => ?_)
        go_simp
        refine hK _ ?_
        clear hK K
        refine wpMix_s (fun K hK => ?_)
        go_simp
        refine hK _ ?_
        clear hK K
        refine wpMix_load (by kernel_rfl) 25 (.tmp 8) rfl (w.heap.size) (0) rfl (fi.map B).toArray ((fun s => (k8.step s.ok).load)) ?_
        simp only [Act.put]
        refine wpMix_s (fun K hK => ?_)
        go_simp
        refine hK _ ?_
        clear hK K
        refine wpMix_s (fun K hK => ?_)
        go_simp
        refine hK _ ?_
        clear hK K
        refine wpMix_v (by kernel_rfl) (.slice (some ⟨bp, op, none⟩) L cp) (fun s => run_slice_op_hi (.tmp 116) (.tmp 117) rfl (some ⟨bp, op, none⟩) (L + 1) cp L rfl rfl (by omega) s.W) ?_
        simp only [Act.put]
        refine wpMix_nil ?_
        intro _
        show wpAnyH _ _ _ _ _ _ #[true, true, true, true, true, true, true, true, true, true, true, false, false, false, false, false, false, false, false] _ _
        refine wpAnyH_manyF [11, 12, 13, 14, 15, 16] (fun k => if k = 12 then [11] else if k = 13 then [12] else if k = 14 then [12] else []) (fun k => k == 12 || k == 13 || k == 14) (fun k => if k = 11 then 119 else if k = 12 then 107 else if k = 13 then 120 else if k = 14 then 121 else if k = 15 then 22 else if k = 16 then 23 else 0) (fun k => if k = 11 then Fc.val (.tuple #[.agg (xx.map B).toArray, .agg (p2.map B).toArray]) (fun _ h => by cases h) else if k = 12 then Fc.val (.tuple #[.agg (xx.map B).toArray, .agg (p2.map B).toArray]) (fun _ h => by cases h) else if k = 13 then Fc.val (.agg (xx.map B).toArray) (fun _ h => by cases h) else if k = 14 then Fc.val (.agg (p2.map B).toArray) (fun _ h => by cases h) else if k = 15 then Fc.hash u0_2a.heap.size (List.replicate 32 0) else Fc.hash u0_2a.heap.size (List.replicate 32 0)) [119, 107, 120, 121, 22, 23] 2 (fun j => if j = 119 then u119 else if j = 107 then u107 else if j = 120 then u120 else if j = 121 then u121 else if j = 22 then u22 else if j = 23 then u23 else undef) (by kernel_rfl) (by decide) (by decide) (by kernel_rfl) hS ?_ ?_
        · refine List.forall_mem_cons.2 ⟨?k11, List.forall_mem_cons.2 ⟨?k12, List.forall_mem_cons.2 ⟨?k13, List.forall_mem_cons.2 ⟨?k14, List.forall_mem_cons.2 ⟨?k15, List.forall_mem_cons.2 ⟨?k16, fun _ h => by cases h⟩⟩⟩⟩⟩⟩
          case k11 =>
            intro us u8k hSk hneed
            simp only [Array.getD_eq_getD_getElem?, List.getElem?_toArray, List.getElem?_cons_succ, List.getElem?_cons_zero, Option.getD_some]
            simp only [putAll, Act.put, List.setIfInBounds_toArray, List.set_cons_succ, List.set_cons_zero]
            refine wpMix_c (fun K hK => ?_) hSk
            go_simp
            refine (Hr1.out u8k (hb88.trans (hSk.mono hb88.size))).mono ?_
            rintro e u8j ⟨rfl, hb'⟩
            refine hK _ _ ?_
            clear hK K
            refine ⟨hSk.trans (hb'.mono hSk.size), ?_⟩
            refine wpMix_nil ?_
            exact ⟨.tuple #[.agg (xx.map B).toArray, .agg (p2.map B).toArray], by kernel_rfl, rfl, hb', fun g e => by cases e⟩
          case k12 =>
            intro us u8k hSk hneed
            simp only [Array.getD_eq_getD_getElem?, List.getElem?_toArray, List.getElem?_cons_succ, List.getElem?_cons_zero, Option.getD_some]
            simp only [putAll, Act.put, List.setIfInBounds_toArray, List.set_cons_succ, List.set_cons_zero]
            have e_ : us 119 = .tuple #[.agg (xx.map B).toArray, .agg (p2.map B).toArray] := hneed 11 (by simp)
            refine wpMix_v (by kernel_rfl) (.tuple #[.agg (xx.map B).toArray, .agg (p2.map B).toArray]) (fun s => run_move_op (.tmp 119) rfl _ e_ s.W) ?_
            simp only [Act.put]
            refine wpMix_nil ?_
            exact ⟨.tuple #[.agg (xx.map B).toArray, .agg (p2.map B).toArray], by kernel_rfl, rfl, Below.refl _ _, fun g e => by cases e⟩
          case k13 =>
            intro us u8k hSk hneed
            simp only [Array.getD_eq_getD_getElem?, List.getElem?_toArray, List.getElem?_cons_succ, List.getElem?_cons_zero, Option.getD_some]
            simp only [putAll, Act.put, List.setIfInBounds_toArray, List.set_cons_succ, List.set_cons_zero]
            have e_ : us 107 = .tuple #[.agg (xx.map B).toArray, .agg (p2.map B).toArray] := hneed 12 (by simp)
            refine wpMix_v (by kernel_rfl) (.agg (xx.map B).toArray) (fun s => run_extract_op (.tmp 107) 0 rfl #[.agg (xx.map B).toArray, .agg (p2.map B).toArray] e_ _ rfl s.W) ?_
            simp only [Act.put]
            refine wpMix_nil ?_
            exact ⟨.agg (xx.map B).toArray, by kernel_rfl, rfl, Below.refl _ _, fun g e => by cases e⟩
          case k14 =>
            intro us u8k hSk hneed
            simp only [Array.getD_eq_getD_getElem?, List.getElem?_toArray, List.getElem?_cons_succ, List.getElem?_cons_zero, Option.getD_some]
            simp only [putAll, Act.put, List.setIfInBounds_toArray, List.set_cons_succ, List.set_cons_zero]
            have e_ : us 107 = .tuple #[.agg (xx.map B).toArray, .agg (p2.map B).toArray] := hneed 12 (by simp)
            refine wpMix_v (by kernel_rfl) (.agg (p2.map B).toArray) (fun s => run_extract_op (.tmp 107) 1 rfl #[.agg (xx.map B).toArray, .agg (p2.map B).toArray] e_ _ rfl s.W) ?_
            simp only [Act.put]
            refine wpMix_nil ?_
            exact ⟨.agg (p2.map B).toArray, by kernel_rfl, rfl, Below.refl _ _, fun g e => by cases e⟩
          case k15 =>
            intro us u8k hSk hneed
            simp only [Array.getD_eq_getD_getElem?, List.getElem?_toArray, List.getElem?_cons_succ, List.getElem?_cons_zero, Option.getD_some]
            simp only [putAll, Act.put, List.setIfInBounds_toArray, List.set_cons_succ, List.set_cons_zero]
            refine wpMix_hnew rfl rfl (fun _ hb => hSk.trans (hb.mono hSk.size)) ?_
            intro u8j kj hb'
            refine wpMix_nil ?_
            exact ⟨ptrB u8k.heap.size, by kernel_rfl, ⟨_, rfl, kj, hSk.size⟩, hb', fun g e => by cases e; exact Nat.le_refl _⟩
          case k16 =>
            intro us u8k hSk hneed
            simp only [Array.getD_eq_getD_getElem?, List.getElem?_toArray, List.getElem?_cons_succ, List.getElem?_cons_zero, Option.getD_some]
            simp only [putAll, Act.put, List.setIfInBounds_toArray, List.set_cons_succ, List.set_cons_zero]
            refine wpMix_hnew rfl rfl (fun _ hb => hSk.trans (hb.mono hSk.size)) ?_
            intro u8j kj hb'
            refine wpMix_nil ?_
            exact ⟨ptrB u8k.heap.size, by kernel_rfl, ⟨_, rfl, kj, hSk.size⟩, hb', fun g e => by cases e; exact Nat.le_refl _⟩
        · intro us u8t hS hF hA
          have e50 : us 120 = .agg (xx.map B).toArray := hF 13 (by simp)
          have e51 : us 121 = .agg (p2.map B).toArray := hF 14 (by simp)
          obtain ⟨g16, e16, k16, h16⟩ : (Fc.hash u0_2a.heap.size (List.replicate 32 0)).ok (us 22) u8t := hF 15 (by simp)
          obtain ⟨g17, e17, k17, h17⟩ : (Fc.hash u0_2a.heap.size (List.replicate 32 0)).ok (us 23) u8t := hF 16 (by simp)
          have h1617 : g16 ≠ g17 := fun e => hA 15 (by simp) 16 (by simp) (by decide) g16 e16 (by rw [e]; exact e17)
          simp only [putAll, Act.put, List.setIfInBounds_toArray, List.set_cons_succ, List.set_cons_zero]
          rw [e50, e51, e16, e17]
          clear hF hA e50 e51 e16 e17
          show wpAnyH _ _ _ _ _ _ #[true, true, true, true, true, true, true, true, true, true, true, true, true, true, true, true, true, false, false] _ _
          refine wpAnyH_pre (f := 0) (by kernel_rfl) #[true, true, true, true, true, true, true, true, true, true, true, true, true, true, true, true, true, true, true] [(17, false), (18, false)] _ _ _ (by kernel_rfl) hS ?_
          simp only [List.map_cons, List.map_nil, Array.getD_eq_getD_getElem?, List.getElem?_toArray, List.getElem?_cons_succ, List.getElem?_cons_zero, Option.getD_some]
          refine wpMix_hset (.tmp 22) (.tmp 120) rfl rfl k16 rfl rfl Ll1.out (fun _ hb => hS.trans (hb.mono h16)) ?_
          intro u8_1 k16s hb' hoth
          simp only [Act.put]
          replace hS := hS.trans (hb'.mono h16)
          replace k17 := hoth _ _ (fun e => h1617 e.symm) k17
          clear hb' hoth
          refine wpMix_hset (.tmp 23) (.tmp 121) rfl rfl k17 rfl rfl Lz.out (fun _ hb => hS.trans (hb.mono h17)) ?_
          intro u8_2 k17s hb' hoth
          simp only [Act.put]
          replace hS := hS.trans (hb'.mono h17)
          replace k16s := hoth _ _ h1617 k16s
          clear hb' hoth
          refine wpMix_nil ?_
          intro _
          refine wpAnyH_end (by kernel_rfl) ?_
          have hb9 := hb8.trans (hS.mono hb8.size)
          have hb89 := hb88.trans (hS.mono hb88.size)
          replace k8 := k8.step hS
          replace k10 := k10.step hS
          replace ho8 := owns_step ho8 hS
          have hz9 := hb89.size
          clear hS k16 k17
          go_wp2_with fail
          replace ho8 := owns_step ho8 (Below.refl u8_2.heap.size u8_2).drew
          have hS : Below u8_2.heap.size u8_2 u8_2.drew := (Below.refl _ _).drew
          refine wp_region_mix (fun W => Below u8_2.heap.size u8_2 W) [(0, true), (1, true), (2, true), (3, true), (4, true), (5, false), (6, true)] (by kernel_rfl) (by kernel_rfl) hS fun _ => ?_
          simp only [List.map_cons, List.map_nil, Array.getD_eq_getD_getElem?, List.getElem?_toArray, List.getElem?_cons_succ, List.getElem?_cons_zero, Option.getD_some]
          generalize u8_2.drew = u1 at hS ho8 ⊢
          refine wpMix_s (fun K hK => ?_)
          go_simp
          refine hK _ ?_
          clear hK K
          refine wpMix_s (fun K hK => ?_)
          go_simp
          refine hK _ ?_
          clear hK K
          refine wpMix_s (fun K hK => ?_)
          go_simp
          refine hK _ ?_
          clear hK K
          refine wpMix_load (by kernel_rfl) 25 (.tmp 124) rfl (bp) (op + L * 32) rfl (p1.map B).toArray ((fun s => Hget.out s.W (hb89.trans (s.ok.mono hb89.size)))) ?_
          simp only [Act.put]
          refine wpMix_load (by kernel_rfl) 25 (.tmp 23) rfl (g17) (0) rfl (p2.map B).toArray ((fun s => (k17s.step s.ok).load)) ?_
          simp only [Act.put]
          have hzS := hS.size
          refine wpMix_c (fun K hK => ?_) hS
          go_simp
          refine (Hnd3.out u1).mono ?_
          rintro e u1a ⟨v9, rfl, hf⟩
          refine hK _ _ ?_
          clear hK K
          have ho9 := owns_le hf.1 (show g10 + 1 ≤ u1.heap.size by omega)
          have hz9_ := hf.2.size
          replace ho8 := owns_step ho8 hf.2
          replace hS := hS.trans (hf.2.mono hS.size)
          refine ⟨hS, ?_⟩
          clear hf hzS
          obtain ⟨A9, c9, rfl, -⟩ := owns_slv ho9
          rw [Hnl3.out] at ho9 ⊢
          refine wpMix_s (fun K hK => ?_)
          go_simp
          refine hK _ ?_
          clear hK K
          refine wpMix_nil ?_
          intro _
          have hs8 : Sl u1a (fun _ => True) A8 65 c8 (nodeD (x, y)) := by have h9 := ho8; rw [← Hnl.out] at h9; obtain ⟨A_, c_, e_, h_⟩ := owns_sl h9; rw [Hnl.out] at e_ h_; cases e_; exact h_.all
          have hs9 : Sl u1a (fun _ => True) A9 65 c9 (nodeD (p1, p2)) := by have h9 := ho9; rw [← Hnl3.out] at h9; obtain ⟨A_, c_, e_, h_⟩ := owns_sl h9; rw [Hnl3.out] at e_ h_; cases e_; exact h_.all
          have st8 := run_str hs8
          have st9 := run_str hs9
          have hbN := hb9.trans (hS.mono hb9.size)
          replace k10 := k10.step hS
          replace k8 := k8.step hS
          have hbS9 := hb89.trans (hS.mono hb89.size)
          clear hS k16s k17s
          by_cases hpe : (p1, p2) = (x, y)
          · have hr := Hres2.out
            rw [if_pos hpe] at hr
            have Hr2 := Lib.hid hr
            have hne := fun (ρ : Operand → Value) (o : Oper) (a b : Operand) (ty : TypeId) (ho : o.op = .binOp .neq 9 a b ty) (hx : ρ a = .string (bstr (nodeD (p1, p2)))) (hy : ρ b = .string (bstr (nodeD (x, y)))) (W : World) => run_neqs_op (o := o) (ρ := ρ) a b ty _ _ ho hx hy W
            rw [show (nodeD (p1, p2) != nodeD (x, y)) = false by rw [hpe]; simp] at hne
            have Hne := Lib.hid hne
            clear hr hne hpe
            go_wp2_with (first
              | ((with_reducible show wpList _ _ _ (⟨some 132, .binOp _ _ _ _ _, _, _, _, _⟩ :: _) _ _); refine wpList_run0 rfl (.bool false) (Hne.out _ _ (.tmp 129) (.tmp 131) _ rfl rfl rfl _) ?_; simp only [Act.put])
              | ((with_reducible show wpList _ _ _ (⟨some 138, .slice _ _ _ _ _, _, _, _, _⟩ :: _) _ _); refine wpList_run0 rfl (.slice (some ⟨bp, op, none⟩) L cp) (run_slice_op_hi (.tmp 136) (.tmp 137) rfl (some ⟨bp, op, none⟩) (L + 1) cp L rfl rfl (by omega) _) ?_; simp only [Act.put])
              | ((with_reducible show wpList _ _ _ (⟨some 144, .slice _ _ _ _ _, _, _, _, _⟩ :: _) _ _); refine wpList_run0 rfl (.slice A k c) (run_slice_hiB (.tmp 142) (.tmp 143) rfl A n c k rfl rfl (by omega) _) ?_; simp only [Act.put])
              | ((with_reducible show wpList _ _ _ (⟨some 147, .slice _ _ _ _ _, _, _, _, _⟩ :: _) _ _); refine wpList_run0 rfl (.slice A2 (n - k) (c - k)) (by rw [← HA2.out]; exact run_slice_loB (.tmp 145) (.tmp 146) rfl A n c k rfl rfl (by omega) _) ?_; simp only [Act.put]))
            go_roundw
            case rel => exact ⟨s - k, n - k, c - k, L, A2, some ⟨bp, op, none⟩, d.drop k, pf.take L, false, rfl, by go_num, rfl, rfl, ht2.step hbS9, (hP.step hbS9).take L (by omega), by omega, by omega, by omega, by rw [Hway.out, HwL.out], by rw [Hway.out]; exact Hr2.out, fun x hx => Hxd.out x (List.mem_of_mem_drop hx), k8, k10, hbN⟩
            case measure => simp [sliceLen]; omega
          · have hr := Hres2.out
            rw [if_neg hpe] at hr
            subst hr
            have hne := fun (ρ : Operand → Value) (o : Oper) (a b : Operand) (ty : TypeId) (ho : o.op = .binOp .neq 9 a b ty) (hx : ρ a = .string (bstr (nodeD (p1, p2)))) (hy : ρ b = .string (bstr (nodeD (x, y)))) (W : World) => run_neqs_op (o := o) (ρ := ρ) a b ty _ _ ho hx hy W
            rw [show (nodeD (p1, p2) != nodeD (x, y)) = true by simpa using fun h => hpe (nodeD_inj (by exact Lp1.out) (by exact Lx.out) h)] at hne
            have Hne := Lib.hid hne
            clear hne hpe
            go_wp2_with (first
              | ((with_reducible show wpList _ _ _ (⟨some 132, .binOp _ _ _ _ _, _, _, _, _⟩ :: _) _ _); refine wpList_run0 rfl (.bool true) (Hne.out _ _ (.tmp 129) (.tmp 131) _ rfl rfl rfl _) ?_; simp only [Act.put])
              | ((with_reducible show wpList _ _ _ (⟨some 135, .build _ _, _, _, _, _⟩ :: _) _ _); refine wpList_run0 rfl (.agg #[.slice A9 65 c9, .slice A8 65 c8]) (by kernel_rfl) ?_; simp only [Act.put])
              | ((with_reducible show wpList _ _ _ (⟨none, .store _ (.tmp 10) _, _, _, _, _⟩ :: _) _ _); refine wpList_clset (.tmp 10) (.tmp 135) rfl rfl k10 rfl rfl rfl rfl ?_; intro W8 k10s hb3 hW8; have hgr : u1a.grownBy W8 (some g10) := (by rw [hW8]; exact grown_setRow (grown_of_below (Below.refl _ _) _) _); replace ho8 := ho8.kept hgr (.inr fun e => by have := (ho8.lt _ e).1; omega); replace ho9 := ho9.kept hgr (.inr fun e => by have := (ho9.lt _ e).1; omega); have hbE := hbN.trans (hb3.mono hzG); clear hW8 hgr; simp only [Act.put]))
            exact ⟨bodyPost_ret (ret_clash2 rfl rfl k10s) rfl ⟨_, rfl, ⟨_, _, rfl, by rw [Hnl3.out]; exact owns_le ho9 (by omega), by rw [Hnl.out]; exact owns_le ho8 (by omega)⟩, hbE⟩⟩
    · obtain rfl : s = n := by omega
      have h1n : decide ((s : Int) < (s : Int)) = false := by simp
      rw [wayC_end s hs1, consG_nil] at hres
      subst hres
      go_wp2_with (first
      | ((with_reducible show wpList _ _ _ (⟨some 151, .build _ _, _, _, _, _⟩ :: _) _ _); refine wpList_run0 rfl (.agg #[.slice none 0 0, .slice none 0 0]) (by kernel_rfl) ?_; simp only [Act.put])
      | ((with_reducible show wpList _ _ _ (⟨none, .store _ (.tmp 10) (.tmp 151), _, _, _, _⟩ :: _) _ _); refine wpList_clset (.tmp 10) (.tmp 151) rfl rfl k10 rfl rfl rfl rfl ?_; intro W3 k10s hb3 hW3; clear hW3; have hbE := hbr.trans (hb3.mono hzG); simp only [Act.put]))
      exact ⟨bodyPost_ret (ret_clash2 rfl rfl k10s) rfl ⟨_, rfl, ClV.zero _ _, hbE⟩⟩
end Go.Proofs.Ytonidnfgneokbaa
