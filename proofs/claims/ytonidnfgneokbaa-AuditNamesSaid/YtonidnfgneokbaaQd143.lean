/- audit.Lists. -/
import Derived.Test.YtonidnfgneokbaaQd142
namespace Go.Proofs.Ytonidnfgneokbaa
open Go Go.RowKit Go.Shelf
attribute [local go_sem] Oper.semAt_some

theorem listsC_2 (H : Hf) (a b : List (List UInt8)) (h : bigD a = true ∨ bigD b = true) : listsC H a b = (noC, 2) := by unfold listsC; rw [if_pos h]
theorem listsC_230 (H : Hf) (a b : List (List UInt8)) (h : ¬ (bigD a = true ∨ bigD b = true)) (h2 : a.length ≠ b.length ∨ rootA H a ≠ rootA H b) : listsC H a b = (noC, 230) := by unfold listsC; rw [if_neg h, if_pos h2]
theorem listsC_231 (H : Hf) (a b : List (List UInt8)) (h : ¬ (bigD a = true ∨ bigD b = true)) (h2 : ¬ (a.length ≠ b.length ∨ rootA H a ≠ rootA H b)) (h3 : a = b) : listsC H a b = (noC, 231) := by unfold listsC; rw [if_neg h, if_neg h2, if_pos h3]
theorem listsC_0 (H : Hf) (a b : List (List UInt8)) (h : ¬ (bigD a = true ∨ bigD b = true)) (h2 : ¬ (a.length ≠ b.length ∨ rootA H a ≠ rootA H b)) (h3 : a ≠ b) : listsC H a b = (downL H a b, 0) := by unfold listsC; rw [if_neg h, if_neg h2, if_neg h3]

set_option maxHeartbeats 16000000 in
set_option maxRecDepth 100000 in
theorem alists_any {f : Nat} {H : Hf} (hF : HFn f H) (ls ms : List (List UInt8)) (A A' : Option Addr) (n c n' c' : Nat) (w : World)
    (h : Es w (fun _ => True) A n c ls) (h' : Es w (fun _ => True) A' n' c' ms) :
    Calls Try.prog 33 #[hval f, .slice A n c, .slice A' n' c'] w fun e' w' => ∃ v, e' = .returned (.tuple #[v, .int .i64 (listsC H ls ms).2]) ∧ ClV w.heap.size (listsC H ls ms).1 v w' ∧ Below w.heap.size w w' := by
  have hroom := h.room
  have hmx := h.max
  unfold maxLen at hmx
  have hroom' := h'.room
  have hmx' := h'.max
  unfold maxLen at hmx'
  have hlen := h.len
  have hlen' := h'.len
  have hd := h.weak (Y := (· < w.heap.size)) fun b hb _ => hb
  have hd' := h'.weak (Y := (· < w.heap.size)) fun b hb _ => hb
  obtain ⟨b1, hb1⟩ : ∃ b, bigD ls = b := ⟨_, rfl⟩
  obtain ⟨b2, hb2⟩ : ∃ b, bigD ms = b := ⟨_, rfl⟩
  have hl1 := fun W (hb : Below w.heap.size w W) => alarge_any ls A n c W ((hd.step hb).all)
  have hl2 := fun W (hb : Below w.heap.size w W) => alarge_any ms A' n' c' W ((hd'.step hb).all)
  rw [hb1] at hl1
  rw [hb2] at hl2
  have HL1 := Lib.hid hl1
  have HL2 := Lib.hid hl2
  have Hb1 := Lib.hid hb1
  have Hb2 := Lib.hid hb2
  have Hlen := Lib.hid hlen
  have Hlen' := Lib.hid hlen'
  clear h h' hl1 hl2 hb1 hb2 hlen hlen'
  by_cases hA : b1 = true
  · subst hA
    rw [listsC_2 H ls ms (.inl Hb1.out)]
    go_enter Try.func33, Try.ntmps33
    refine Code.wp_mono (fun _ _ _ h => BP.out h) ?_
    go_wp2_with (first
      | ((with_reducible show wpList _ _ _ (⟨some 6, .alloc _, _, _, _, _⟩ :: _) _ _); refine wpList_clnew rfl rfl ?_; intro w1 k6 hb1; simp only [Act.put])
      | ((with_reducible show wpList _ _ _ (⟨some 12, .binOp _ _ _ _ _, _, _, _, _⟩ :: _) _ _); refine wpList_run0 rfl (.bool false) (run_eqnil_op (.tmp 11) (.const .nilFunc) _ rfl rfl rfl _) ?_; simp only [Act.put])
      | (go_at_call_of 84 (Value.slice A n c); refine (HL1.out _ hb1).mono ?_; rintro e w2 ⟨rfl, hw2⟩; obtain rfl := hw2.symm)
      | (go_at_call_of 84 (Value.slice A' n' c'); refine (HL2.out _ hb1).mono ?_; rintro e w2 ⟨rfl, hw2⟩; obtain rfl := hw2.symm)
      | ((with_reducible show wpList _ _ _ (⟨some 21, .build _ _, _, _, _, _⟩ :: _) _ _); refine wpList_run0 rfl (.agg #[.slice none 0 0, .slice none 0 0]) (by kernel_rfl) ?_; simp only [Act.put])
      | ((with_reducible show wpList _ _ _ (⟨none, .store _ (.tmp 6) (.tmp 21), _, _, _, _⟩ :: _) _ _); refine wpList_clset (.tmp 6) (.tmp 21) rfl rfl k6 rfl rfl rfl rfl ?_; intro W3 k6s hb3 hW3; clear hW3; have hbE := hb1.trans (hb3.mono (Nat.le_refl _)); simp only [Act.put]))
    exact ⟨bodyPost_ret (ret_clash2 rfl rfl k6s) rfl ⟨_, rfl, ClV.zero _ _, hbE⟩⟩
  have hA1 : b1 = false := by simpa using hA
  subst hA1
  by_cases hA : b2 = true
  · subst hA
    rw [listsC_2 H ls ms (.inr Hb2.out)]
    go_enter Try.func33, Try.ntmps33
    refine Code.wp_mono (fun _ _ _ h => BP.out h) ?_
    go_wp2_with (first
      | ((with_reducible show wpList _ _ _ (⟨some 6, .alloc _, _, _, _, _⟩ :: _) _ _); refine wpList_clnew rfl rfl ?_; intro w1 k6 hb1; simp only [Act.put])
      | ((with_reducible show wpList _ _ _ (⟨some 12, .binOp _ _ _ _ _, _, _, _, _⟩ :: _) _ _); refine wpList_run0 rfl (.bool false) (run_eqnil_op (.tmp 11) (.const .nilFunc) _ rfl rfl rfl _) ?_; simp only [Act.put])
      | (go_at_call_of 84 (Value.slice A n c); refine (HL1.out _ hb1).mono ?_; rintro e w2 ⟨rfl, hw2⟩; obtain rfl := hw2.symm)
      | (go_at_call_of 84 (Value.slice A' n' c'); refine (HL2.out _ hb1).mono ?_; rintro e w2 ⟨rfl, hw2⟩; obtain rfl := hw2.symm)
      | ((with_reducible show wpList _ _ _ (⟨some 21, .build _ _, _, _, _, _⟩ :: _) _ _); refine wpList_run0 rfl (.agg #[.slice none 0 0, .slice none 0 0]) (by kernel_rfl) ?_; simp only [Act.put])
      | ((with_reducible show wpList _ _ _ (⟨none, .store _ (.tmp 6) (.tmp 21), _, _, _, _⟩ :: _) _ _); refine wpList_clset (.tmp 6) (.tmp 21) rfl rfl k6 rfl rfl rfl rfl ?_; intro W3 k6s hb3 hW3; clear hW3; have hbE := hb1.trans (hb3.mono (Nat.le_refl _)); simp only [Act.put]))
    exact ⟨bodyPost_ret (ret_clash2 rfl rfl k6s) rfl ⟨_, rfl, ClV.zero _ _, hbE⟩⟩
  have hA1 : b2 = false := by simpa using hA
  subst hA1
  have hnb : ¬ (bigD ls = true ∨ bigD ms = true) := by rw [Hb1.out, Hb2.out]; simp
  have hs1 := bigD_not ls Hb1.out
  have hs2 := bigD_not ms Hb2.out
  rw [Hlen.out] at hs1
  rw [Hlen'.out] at hs2
  have Hnb := Lib.hid hnb
  have Hs1 := Lib.hid hs1
  have Hs2 := Lib.hid hs2
  clear hA hnb hs1 hs2
  by_cases hnn : n = n'
  rotate_left
  · rw [listsC_230 H ls ms Hnb.out (.inl (by rw [Hlen.out, Hlen'.out]; exact hnn))]
    have hn1 : (((n : Int)) != (n' : Int)) = true := by simp; omega
    have hn2 : ¬ (n : Int) = (n' : Int) := by omega
    go_enter Try.func33, Try.ntmps33
    refine Code.wp_mono (fun _ _ _ h => BP.out h) ?_
    go_wp2_with (first
      | ((with_reducible show wpList _ _ _ (⟨some 6, .alloc _, _, _, _, _⟩ :: _) _ _); refine wpList_clnew rfl rfl ?_; intro w1 k6 hb1; simp only [Act.put])
      | ((with_reducible show wpList _ _ _ (⟨some 12, .binOp _ _ _ _ _, _, _, _, _⟩ :: _) _ _); refine wpList_run0 rfl (.bool false) (run_eqnil_op (.tmp 11) (.const .nilFunc) _ rfl rfl rfl _) ?_; simp only [Act.put])
      | (go_at_call_of 84 (Value.slice A n c); refine (HL1.out _ hb1).mono ?_; rintro e w2 ⟨rfl, hw2⟩; obtain rfl := hw2.symm)
      | (go_at_call_of 84 (Value.slice A' n' c'); refine (HL2.out _ hb1).mono ?_; rintro e w2 ⟨rfl, hw2⟩; obtain rfl := hw2.symm)
      | ((with_reducible show wpList _ _ _ (⟨some 23, .build _ _, _, _, _, _⟩ :: _) _ _); refine wpList_run0 rfl (.agg #[hval f]) (by kernel_rfl) ?_; simp only [Act.put])
      | ((with_reducible show wpList _ _ _ (⟨some 8, .alloc _, _, _, _, _⟩ :: _) _ _); have hk6l := k6.lt; refine wpList_trvar (.tmp 8) (.tmp 23) rfl rfl rfl rfl rfl rfl rfl ?_; intro w3 k8 hb13; replace k6 := k6.step hb13; have hb4 := hb1.trans (hb13.mono hb1.size); simp only [Act.put]))
    have hS : Below w3.heap.size w3 w3.drew := (Below.refl _ _).drew
    refine wp_region_mix (fun W => Below w3.heap.size w3 W) [(0, true), (1, true), (2, true), (3, true), (4, true), (5, true), (6, true), (7, true), (9, true), (10, true), (8, false), (11, false), (12, true), (13, true), (14, true)] (by kernel_rfl) (by kernel_rfl) hS fun _ => ?_
    simp only [List.map_cons, List.map_nil, Array.getD_eq_getD_getElem?, List.getElem?_toArray, List.getElem?_cons_succ, List.getElem?_cons_zero, Option.getD_some]
    generalize w3.drew = u6 at hS ⊢
    refine wpMix_s (fun K hK => ?_)
    go_simp
    refine hK _ ?_
    clear hK K
    refine wpMix_s (fun K hK => ?_)
    go_simp
    refine hK _ ?_
    clear hK K
    refine wpMix_s (fun K hK => ?_)
    go_simp
    refine hK _ ?_
    clear hK K
    refine wpMix_s (fun K hK => ?_)
    go_simp
    refine hK _ ?_
    clear hK K
    refine wpMix_s (fun K hK => ?_)
    go_simp
    refine hK _ ?_
    clear hK K
    refine wpMix_s (fun K hK => ?_)
    go_simp
    refine hK _ ?_
    clear hK K
    refine wpMix_s (fun K hK => ?_)
    go_simp
    refine hK _ ?_
    clear hK K
    refine wpMix_s (fun K hK => ?_)
    go_simp
    refine hK _ ?_
    clear hK K
    refine wpMix_s (fun K hK => ?_)
    go_simp
    refine hK _ ?_
    clear hK K
    refine wpMix_s (fun K hK => ?_)
    go_simp
    refine hK _ ?_
    clear hK K
    refine wpMix_c (fun K hK => ?_) hS
    go_simp
    refine hK _ _ ?_
    clear hK K
    refine ⟨hS, ?_⟩
    refine wpMix_c (fun K hK => ?_) hS
    go_simp
    refine hK _ _ ?_
    clear hK K
    refine ⟨hS, ?_⟩
    refine wpMix_s (fun K hK => ?_)
    go_simp
    refine hK _ ?_
    clear hK K
    refine wpMix_s (fun K hK => ?_)
    go_simp
    refine hK _ ?_
    clear hK K
    refine wpMix_s (fun K hK => ?_)
    go_simp
    refine hK _ ?_
    clear hK K
    refine wpMix_nil ?_
    intro _
    have hb6 := hb4.trans (hS.mono hb4.size)
    replace k6 := k6.step hS
    replace k8 := k8.step hS
    clear hS
    go_wp2_with (first
      | ((with_reducible show wpList _ _ _ (⟨some 39, .build _ _, _, _, _, _⟩ :: _) _ _); refine wpList_run0 rfl (.agg #[.slice none 0 0, .slice none 0 0]) (by kernel_rfl) ?_; simp only [Act.put])
      | ((with_reducible show wpList _ _ _ (⟨none, .store _ (.tmp 6) (.tmp 39), _, _, _, _⟩ :: _) _ _); refine wpList_clset (.tmp 6) (.tmp 39) rfl rfl k6 rfl rfl rfl rfl ?_; intro W3 k6s hb3 hW3; clear hW3; have hbE := hb6.trans (hb3.mono (Nat.le_refl _)); simp only [Act.put]))
    exact ⟨bodyPost_ret (ret_clash2 rfl rfl k6s) rfl ⟨_, rfl, ClV.zero _ _, hbE⟩⟩
  subst hnn
  have hn1 : (((n : Int)) != (n : Int)) = false := by simp
  have hrt1 := fun W (hb : Below w.heap.size w W) => troot13_rec hF n ls A n c W (Nat.le_refl _) (hd.step hb).all (by have := Hs1.out.1; omega) (fun x hx => Nat.le_trans (Hs1.out.2 x hx) (by decide))
  have hrt2 := fun W (hb : Below w.heap.size w W) => troot13_rec hF n ms A' n c' W (Nat.le_refl _) (hd'.step hb).all (by have := Hs1.out.1; omega) (fun x hx => Nat.le_trans (Hs2.out.2 x hx) (by decide))
  obtain ⟨x, hx⟩ : ∃ x, rootA H ls = x := ⟨_, rfl⟩
  obtain ⟨y, hy⟩ : ∃ x, rootA H ms = x := ⟨_, rfl⟩
  have hxl : x.length = 32 := by rw [← hx]; exact length_rootA H hF.len ls
  have hyl : y.length = 32 := by rw [← hy]; exact length_rootA H hF.len ms
  rw [hx] at hrt1
  rw [hy] at hrt2
  have Hrt1 := Lib.hid hrt1
  have Hrt2 := Lib.hid hrt2
  have Hx := Lib.hid hx
  have Hy := Lib.hid hy
  have Hxl := Lib.hid hxl
  have Hyl := Lib.hid hyl
  clear hrt1 hrt2 hx hy hxl hyl
  by_cases hxy : x = y
  rotate_left
  · rw [listsC_230 H ls ms Hnb.out (.inr (by rw [Hx.out, Hy.out]; exact hxy))]
    go_enter Try.func33, Try.ntmps33
    refine Code.wp_mono (fun _ _ _ h => BP.out h) ?_
    go_wp2_with (first
      | ((with_reducible show wpList _ _ _ (⟨some 6, .alloc _, _, _, _, _⟩ :: _) _ _); refine wpList_clnew rfl rfl ?_; intro w1 k6 hb1; simp only [Act.put])
      | ((with_reducible show wpList _ _ _ (⟨some 12, .binOp _ _ _ _ _, _, _, _, _⟩ :: _) _ _); refine wpList_run0 rfl (.bool false) (run_eqnil_op (.tmp 11) (.const .nilFunc) _ rfl rfl rfl _) ?_; simp only [Act.put])
      | (go_at_call_of 84 (Value.slice A n c); refine (HL1.out _ hb1).mono ?_; rintro e w2 ⟨rfl, hw2⟩; obtain rfl := hw2.symm)
      | (go_at_call_of 84 (Value.slice A' n c'); refine (HL2.out _ hb1).mono ?_; rintro e w2 ⟨rfl, hw2⟩; obtain rfl := hw2.symm)
      | ((with_reducible show wpList _ _ _ (⟨some 23, .build _ _, _, _, _, _⟩ :: _) _ _); refine wpList_run0 rfl (.agg #[hval f]) (by kernel_rfl) ?_; simp only [Act.put])
      | ((with_reducible show wpList _ _ _ (⟨some 8, .alloc _, _, _, _, _⟩ :: _) _ _); have hk6l := k6.lt; refine wpList_trvar (.tmp 8) (.tmp 23) rfl rfl rfl rfl rfl rfl rfl ?_; intro w3 k8 hb13; replace k6 := k6.step hb13; have hb4 := hb1.trans (hb13.mono hb1.size); simp only [Act.put]))
    have hS : Below w3.heap.size w3 w3.drew := (Below.refl _ _).drew
    refine wp_region_mix (fun W => Below w3.heap.size w3 W) [(0, true), (1, true), (2, true), (3, true), (4, true), (5, true), (6, true), (7, true), (9, true), (10, true), (8, false), (11, false), (12, true), (13, true), (14, true)] (by kernel_rfl) (by kernel_rfl) hS fun _ => ?_
    simp only [List.map_cons, List.map_nil, Array.getD_eq_getD_getElem?, List.getElem?_toArray, List.getElem?_cons_succ, List.getElem?_cons_zero, Option.getD_some]
    generalize w3.drew = u6 at hS ⊢
    refine wpMix_s (fun K hK => ?_)
    go_simp
    refine hK _ ?_
    clear hK K
    refine wpMix_s (fun K hK => ?_)
    go_simp
    refine hK _ ?_
    clear hK K
    refine wpMix_s (fun K hK => ?_)
    go_simp
    refine hK _ ?_
    clear hK K
    refine wpMix_s (fun K hK => ?_)
    go_simp
    refine hK _ ?_
    clear hK K
    refine wpMix_s (fun K hK => ?_)
    go_simp
    refine hK _ ?_
    clear hK K
    refine wpMix_s (fun K hK => ?_)
    go_simp
    refine hK _ ?_
    clear hK K
    refine wpMix_load (by kernel_rfl) 123 (.tmp 8) rfl (w1.heap.size) (0) rfl #[hval f] ((fun s => tree_load (k8.step s.ok))) ?_
    simp only [Act.put]
    refine wpMix_s (fun K hK => ?_)
    go_simp
    refine hK _ ?_
    clear hK K
    refine wpMix_load (by kernel_rfl) 123 (.tmp 8) rfl (w1.heap.size) (0) rfl #[hval f] ((fun s => tree_load (k8.step s.ok))) ?_
    simp only [Act.put]
    refine wpMix_s (fun K hK => ?_)
    go_simp
    refine hK _ ?_
    clear hK K
    refine wpMix_c (fun K hK => ?_) hS
    go_simp
    refine (Hrt1.out u6 (hb4.trans (hS.mono hb4.size))).mono ?_
    rintro e u6_1 ⟨rfl, hb'⟩
    refine hK _ _ ?_
    clear hK K
    replace hS := hS.trans (hb'.mono hS.size)
    refine ⟨hS, ?_⟩
    clear hb'
    refine wpMix_c (fun K hK => ?_) hS
    go_simp
    refine (Hrt2.out u6_1 (hb4.trans (hS.mono hb4.size))).mono ?_
    rintro e u6_2 ⟨rfl, hb'⟩
    refine hK _ _ ?_
    clear hK K
    replace hS := hS.trans (hb'.mono hS.size)
    refine ⟨hS, ?_⟩
    clear hb'
    refine wpMix_v (by kernel_rfl) (.bool true) (fun s => run_neq26_t (.tmp 33) (.tmp 36) _ x y rfl rfl rfl Hxl.out Hyl.out hxy s.W) ?_
    simp only [Act.put]
    refine wpMix_s (fun K hK => ?_)
    go_simp
    refine hK _ ?_
    clear hK K
    refine wpMix_s (fun K hK => ?_)
    go_simp
    refine hK _ ?_
    clear hK K
    refine wpMix_nil ?_
    intro _
    have hb6 := hb4.trans (hS.mono hb4.size)
    replace k6 := k6.step hS
    replace k8 := k8.step hS
    clear hS
    go_wp2_with (first
      | ((with_reducible show wpList _ _ _ (⟨some 39, .build _ _, _, _, _, _⟩ :: _) _ _); refine wpList_run0 rfl (.agg #[.slice none 0 0, .slice none 0 0]) (by kernel_rfl) ?_; simp only [Act.put])
      | ((with_reducible show wpList _ _ _ (⟨none, .store _ (.tmp 6) (.tmp 39), _, _, _, _⟩ :: _) _ _); refine wpList_clset (.tmp 6) (.tmp 39) rfl rfl k6 rfl rfl rfl rfl ?_; intro W3 k6s hb3 hW3; clear hW3; have hbE := hb6.trans (hb3.mono (Nat.le_refl _)); simp only [Act.put]))
    exact ⟨bodyPost_ret (ret_clash2 rfl rfl k6s) rfl ⟨_, rfl, ClV.zero _ _, hbE⟩⟩
  have Hxy := Lib.hid hxy
  have hnr : ¬ (ls.length ≠ ms.length ∨ rootA H ls ≠ rootA H ms) := by rw [Hlen.out, Hlen'.out, Hx.out, Hy.out]; simp [hxy]
  have Hnr := Lib.hid hnr
  have heq := fun W (hb : Below w.heap.size w W) => equalfn_any ls ms A A' n c n c' W (hd.step hb).all (hd'.step hb).all
  clear hxy hnr
  by_cases hlm : ls = ms
  · rw [listsC_231 H ls ms Hnb.out Hnr.out hlm]
    rw [decide_eq_true hlm] at heq
    have Heq := Lib.hid heq
    clear heq hlm
    go_enter Try.func33, Try.ntmps33
    refine Code.wp_mono (fun _ _ _ h => BP.out h) ?_
    go_wp2_with (first
      | ((with_reducible show wpList _ _ _ (⟨some 6, .alloc _, _, _, _, _⟩ :: _) _ _); refine wpList_clnew rfl rfl ?_; intro w1 k6 hb1; simp only [Act.put])
      | ((with_reducible show wpList _ _ _ (⟨some 12, .binOp _ _ _ _ _, _, _, _, _⟩ :: _) _ _); refine wpList_run0 rfl (.bool false) (run_eqnil_op (.tmp 11) (.const .nilFunc) _ rfl rfl rfl _) ?_; simp only [Act.put])
      | (go_at_call_of 84 (Value.slice A n c); refine (HL1.out _ hb1).mono ?_; rintro e w2 ⟨rfl, hw2⟩; obtain rfl := hw2.symm)
      | (go_at_call_of 84 (Value.slice A' n c'); refine (HL2.out _ hb1).mono ?_; rintro e w2 ⟨rfl, hw2⟩; obtain rfl := hw2.symm)
      | ((with_reducible show wpList _ _ _ (⟨some 23, .build _ _, _, _, _, _⟩ :: _) _ _); refine wpList_run0 rfl (.agg #[hval f]) (by kernel_rfl) ?_; simp only [Act.put])
      | ((with_reducible show wpList _ _ _ (⟨some 8, .alloc _, _, _, _, _⟩ :: _) _ _); have hk6l := k6.lt; refine wpList_trvar (.tmp 8) (.tmp 23) rfl rfl rfl rfl rfl rfl rfl ?_; intro w3 k8 hb13; replace k6 := k6.step hb13; have hb4 := hb1.trans (hb13.mono hb1.size); simp only [Act.put]))
    have hS : Below w3.heap.size w3 w3.drew := (Below.refl _ _).drew
    refine wp_region_mix (fun W => Below w3.heap.size w3 W) [(0, true), (1, true), (2, true), (3, true), (4, true), (5, true), (6, true), (7, true), (9, true), (10, true), (8, false), (11, false), (12, true), (13, true), (14, true)] (by kernel_rfl) (by kernel_rfl) hS fun _ => ?_
    simp only [List.map_cons, List.map_nil, Array.getD_eq_getD_getElem?, List.getElem?_toArray, List.getElem?_cons_succ, List.getElem?_cons_zero, Option.getD_some]
    generalize w3.drew = u6 at hS ⊢
    refine wpMix_s (fun K hK => ?_)
    go_simp
    refine hK _ ?_
    clear hK K
    refine wpMix_s (fun K hK => ?_)
    go_simp
    refine hK _ ?_
    clear hK K
    refine wpMix_s (fun K hK => ?_)
    go_simp
    refine hK _ ?_
    clear hK K
    refine wpMix_s (fun K hK => ?_)
    go_simp
    refine hK _ ?_
    clear hK K
    refine wpMix_s (fun K hK => ?_)
    go_simp
    refine hK _ ?_
    clear hK K
    refine wpMix_s (fun K hK => ?_)
    go_simp
    refine hK _ ?_
    clear hK K
    refine wpMix_load (by kernel_rfl) 123 (.tmp 8) rfl (w1.heap.size) (0) rfl #[hval f] ((fun s => tree_load (k8.step s.ok))) ?_
    simp only [Act.put]
    refine wpMix_s (fun K hK => ?_)
    go_simp
    refine hK _ ?_
    clear hK K
    refine wpMix_load (by kernel_rfl) 123 (.tmp 8) rfl (w1.heap.size) (0) rfl #[hval f] ((fun s => tree_load (k8.step s.ok))) ?_
    simp only [Act.put]
    refine wpMix_s (fun K hK => ?_)
    go_simp
    refine hK _ ?_
    clear hK K
    refine wpMix_c (fun K hK => ?_) hS
    go_simp
    refine (Hrt1.out u6 (hb4.trans (hS.mono hb4.size))).mono ?_
    rintro e u6_1 ⟨rfl, hb'⟩
    refine hK _ _ ?_
    clear hK K
    replace hS := hS.trans (hb'.mono hS.size)
    refine ⟨hS, ?_⟩
    clear hb'
    refine wpMix_c (fun K hK => ?_) hS
    go_simp
    refine (Hrt2.out u6_1 (hb4.trans (hS.mono hb4.size))).mono ?_
    rintro e u6_2 ⟨rfl, hb'⟩
    refine hK _ _ ?_
    clear hK K
    replace hS := hS.trans (hb'.mono hS.size)
    refine ⟨hS, ?_⟩
    clear hb'
    refine wpMix_v (by kernel_rfl) (.bool false) (fun s => run_neq26_f (.tmp 33) (.tmp 36) _ x y rfl rfl rfl Hxl.out Hyl.out Hxy.out s.W) ?_
    simp only [Act.put]
    refine wpMix_s (fun K hK => ?_)
    go_simp
    refine hK _ ?_
    clear hK K
    refine wpMix_s (fun K hK => ?_)
    go_simp
    refine hK _ ?_
    clear hK K
    refine wpMix_nil ?_
    intro _
    have hb6 := hb4.trans (hS.mono hb4.size)
    replace k6 := k6.step hS
    replace k8 := k8.step hS
    clear hS
    go_wp2_with (first
      | (go_at_call 97; refine (Heq.out _ hb6).mono ?_; rintro e w7 ⟨rfl, hww⟩; obtain rfl := hww.symm)
      | ((with_reducible show wpList _ _ _ (⟨some 44, .build _ _, _, _, _, _⟩ :: _) _ _); refine wpList_run0 rfl (.agg #[.slice none 0 0, .slice none 0 0]) (by kernel_rfl) ?_; simp only [Act.put])
      | ((with_reducible show wpList _ _ _ (⟨none, .store _ (.tmp 6) (.tmp 44), _, _, _, _⟩ :: _) _ _); refine wpList_clset (.tmp 6) (.tmp 44) rfl rfl k6 rfl rfl rfl rfl ?_; intro W3 k6s hb3 hW3; clear hW3; have hbE := hb6.trans (hb3.mono (Nat.le_refl _)); simp only [Act.put]))
    exact ⟨bodyPost_ret (ret_clash2 rfl rfl k6s) rfl ⟨_, rfl, ClV.zero _ _, hbE⟩⟩
  · rw [listsC_0 H ls ms Hnb.out Hnr.out hlm]
    rw [decide_eq_false hlm] at heq
    have Heq := Lib.hid heq
    have hn0 : 1 ≤ n := by
      rcases Nat.eq_zero_or_pos n with e | e
      · exact absurd ((List.length_eq_zero_iff.1 (Hlen.out.trans e)).trans (List.length_eq_zero_iff.1 (Hlen'.out.trans e)).symm) hlm
      · exact e
    have hdn := fun g8 g9 W (hb : Below w.heap.size w W) (kt : Blk W g8 123 #[hval f]) (kd : Blk W g9 137 #[.func (.func 98) #[] #[.pointer (some ⟨g8, 0, none⟩), .pointer (some ⟨g9, 0, none⟩)]]) => down_rec hF g8 g9 n ls ms A A' n c c' W (Nat.le_refl _) hn0 Hs1.out.1 (hd.step hb).all (hd'.step hb).all Hs1.out.2 Hs2.out.2 kt kd
    obtain ⟨res, hres⟩ : ∃ r, downL H ls ms = r := ⟨_, rfl⟩
    rw [hres] at hdn ⊢
    have Hdn := Lib.hid hdn
    clear heq hlm hdn hres
    go_enter Try.func33, Try.ntmps33
    refine Code.wp_mono (fun _ _ _ h => BP.out h) ?_
    go_wp2_with (first
      | ((with_reducible show wpList _ _ _ (⟨some 6, .alloc _, _, _, _, _⟩ :: _) _ _); refine wpList_clnew rfl rfl ?_; intro w1 k6 hb1; simp only [Act.put])
      | ((with_reducible show wpList _ _ _ (⟨some 12, .binOp _ _ _ _ _, _, _, _, _⟩ :: _) _ _); refine wpList_run0 rfl (.bool false) (run_eqnil_op (.tmp 11) (.const .nilFunc) _ rfl rfl rfl _) ?_; simp only [Act.put])
      | (go_at_call_of 84 (Value.slice A n c); refine (HL1.out _ hb1).mono ?_; rintro e w2 ⟨rfl, hw2⟩; obtain rfl := hw2.symm)
      | (go_at_call_of 84 (Value.slice A' n c'); refine (HL2.out _ hb1).mono ?_; rintro e w2 ⟨rfl, hw2⟩; obtain rfl := hw2.symm)
      | ((with_reducible show wpList _ _ _ (⟨some 23, .build _ _, _, _, _, _⟩ :: _) _ _); refine wpList_run0 rfl (.agg #[hval f]) (by kernel_rfl) ?_; simp only [Act.put])
      | ((with_reducible show wpList _ _ _ (⟨some 8, .alloc _, _, _, _, _⟩ :: _) _ _); have hk6l := k6.lt; refine wpList_trvar (.tmp 8) (.tmp 23) rfl rfl rfl rfl rfl rfl rfl ?_; intro w3 k8 hb13; replace k6 := k6.step hb13; have hb4 := hb1.trans (hb13.mono hb1.size); simp only [Act.put]))
    have hS : Below w3.heap.size w3 w3.drew := (Below.refl _ _).drew
    refine wp_region_mix (fun W => Below w3.heap.size w3 W) [(0, true), (1, true), (2, true), (3, true), (4, true), (5, true), (6, true), (7, true), (9, true), (10, true), (8, false), (11, false), (12, true), (13, true), (14, true)] (by kernel_rfl) (by kernel_rfl) hS fun _ => ?_
    simp only [List.map_cons, List.map_nil, Array.getD_eq_getD_getElem?, List.getElem?_toArray, List.getElem?_cons_succ, List.getElem?_cons_zero, Option.getD_some]
    generalize w3.drew = u6 at hS ⊢
    refine wpMix_s (fun K hK => ?_)
    go_simp
    refine hK _ ?_
    clear hK K
    refine wpMix_s (fun K hK => ?_)
    go_simp
    refine hK _ ?_
    clear hK K
    refine wpMix_s (fun K hK => ?_)
    go_simp
    refine hK _ ?_
    clear hK K
    refine wpMix_s (fun K hK => ?_)
    go_simp
    refine hK _ ?_
    clear hK K
    refine wpMix_s (fun K hK => ?_)
    go_simp
    refine hK _ ?_
    clear hK K
    refine wpMix_s (fun K hK => ?_)
    go_simp
    refine hK _ ?_
    clear hK K
    refine wpMix_load (by kernel_rfl) 123 (.tmp 8) rfl (w1.heap.size) (0) rfl #[hval f] ((fun s => tree_load (k8.step s.ok))) ?_
    simp only [Act.put]
    refine wpMix_s (fun K hK => ?_)
    go_simp
    refine hK _ ?_
    clear hK K
    refine wpMix_load (by kernel_rfl) 123 (.tmp 8) rfl (w1.heap.size) (0) rfl #[hval f] ((fun s => tree_load (k8.step s.ok))) ?_
    simp only [Act.put]
    refine wpMix_s (fun K hK => ?_)
    go_simp
    refine hK _ ?_
    clear hK K
    refine wpMix_c (fun K hK => ?_) hS
    go_simp
    refine (Hrt1.out u6 (hb4.trans (hS.mono hb4.size))).mono ?_
    rintro e u6_1 ⟨rfl, hb'⟩
    refine hK _ _ ?_
    clear hK K
    replace hS := hS.trans (hb'.mono hS.size)
    refine ⟨hS, ?_⟩
    clear hb'
    refine wpMix_c (fun K hK => ?_) hS
    go_simp
    refine (Hrt2.out u6_1 (hb4.trans (hS.mono hb4.size))).mono ?_
    rintro e u6_2 ⟨rfl, hb'⟩
    refine hK _ _ ?_
    clear hK K
    replace hS := hS.trans (hb'.mono hS.size)
    refine ⟨hS, ?_⟩
    clear hb'
    refine wpMix_v (by kernel_rfl) (.bool false) (fun s => run_neq26_f (.tmp 33) (.tmp 36) _ x y rfl rfl rfl Hxl.out Hyl.out Hxy.out s.W) ?_
    simp only [Act.put]
    refine wpMix_s (fun K hK => ?_)
    go_simp
    refine hK _ ?_
    clear hK K
    refine wpMix_s (fun K hK => ?_)
    go_simp
    refine hK _ ?_
    clear hK K
    refine wpMix_nil ?_
    intro _
    have hb6 := hb4.trans (hS.mono hb4.size)
    replace k6 := k6.step hS
    replace k8 := k8.step hS
    clear hS
    have hk6l := k6.lt
    have hk8l := k8.lt
    go_wp2_with (first
      | (go_at_call 97; refine (Heq.out _ hb6).mono ?_; rintro e w7 ⟨rfl, hww⟩; obtain rfl := hww.symm)
      | ((with_reducible show wpList _ _ _ (⟨some 9, .alloc _, _, _, _, _⟩ :: _) _ _); refine wpList_run rfl (.pointer (some ⟨u6_2.heap.size, 0, none⟩)) (u6_2.alloc (.cells #[.nilFunc] 137)) (by kernel_rfl) ?_; have k9 := Blk.new u6_2 137 #[Value.nilFunc]; have hba := (Below.refl u6_2.heap.size u6_2).alloc (Nat.le_refl _) (.cells #[Value.nilFunc] 137); generalize u6_2.alloc (.cells #[Value.nilFunc] 137) = w8 at k9 hba ⊢; replace k6 := k6.step hba; replace k8 := k8.step hba; have hb8 := hb6.trans (hba.mono hb6.size); have c9 : w8.cell? ⟨u6_2.heap.size, 0, none⟩ = some .nilFunc := (by rw [k9.cell]; rfl); have f9 := k9.frozen 0; have hst : (store ⟨u6_2.heap.size, 0, none⟩ (.func (.func 98) #[] #[.pointer (some ⟨w1.heap.size, 0, none⟩), .pointer (some ⟨u6_2.heap.size, 0, none⟩)])).run Try.prog w8 = .ok () (w8.setCell ⟨u6_2.heap.size, 0, none⟩ (.func (.func 98) #[] #[.pointer (some ⟨w1.heap.size, 0, none⟩), .pointer (some ⟨u6_2.heap.size, 0, none⟩)])) := (by rw [run_store _ _ _ _ _ rfl]; simp [c9, f9]); clear hba; simp only [Act.put])
      | ((with_reducible show wpList _ _ _ (⟨some 46, .load _ _, _, _, _, _⟩ :: _) _ _); have k9s := k9.set_ 0 (.func (.func 98) #[] #[.pointer (some ⟨w1.heap.size, 0, none⟩), .pointer (some ⟨u6_2.heap.size, 0, none⟩)]); have hbc : Below u6_2.heap.size w8 (w8.setCell ⟨u6_2.heap.size, 0, none⟩ (.func (.func 98) #[] #[.pointer (some ⟨w1.heap.size, 0, none⟩), .pointer (some ⟨u6_2.heap.size, 0, none⟩)])) := (Below.refl _ _).setCell (p := ⟨u6_2.heap.size, 0, none⟩) (Nat.le_refl _) _; generalize w8.setCell ⟨u6_2.heap.size, 0, none⟩ (.func (.func 98) #[] #[.pointer (some ⟨w1.heap.size, 0, none⟩), .pointer (some ⟨u6_2.heap.size, 0, none⟩)]) = w9 at k9s hbc ⊢; replace k6 := k6.below hbc hk6l; replace k8 := k8.below hbc hk8l; have hb9 := hb8.trans (hbc.mono hb6.size); clear c9 f9 hbc; refine wpList_run0 rfl (.func (.func 98) #[] #[.pointer (some ⟨w1.heap.size, 0, none⟩), .pointer (some ⟨u6_2.heap.size, 0, none⟩)]) (run_load_op 137 (.tmp 9) rfl _ 0 rfl _ (run_load_scalar (by kernel_rfl) (by rw [k9s.cell]; rfl))) ?_; simp only [Act.put]))
    refine (Hdn.out _ _ _ hb9 k8 k9s).mono ?_
    rintro e w10 ⟨v, rfl, ⟨a8, a9, rfl, ho8, ho9⟩, hb10⟩
    obtain ⟨A8, c8, rfl, -⟩ := owns_slv ho8
    obtain ⟨A9, c9, rfl, -⟩ := owns_slv ho9
    have hz9 := hb9.size
    have hk6m := k6.lt
    replace k6 := k6.step hb10
    have hb11 := hb9.trans (hb10.mono hb9.size)
    go_wp2_with ((with_reducible show wpList _ _ _ (⟨none, .store _ (.tmp 6) (.tmp 49), _, _, _, _⟩ :: _) _ _); refine wpList_clset (.tmp 6) (.tmp 49) rfl rfl k6 rfl rfl rfl rfl ?_; intro W7 k6s hb3 hW7; have hgr : w10.grownBy W7 (some w.heap.size) := (by rw [hW7]; exact grown_setRow (grown_of_below (Below.refl _ _) _) _); replace ho8 := ho8.kept hgr (.inr fun e => by have := (ho8.lt _ e).1; omega); replace ho9 := ho9.kept hgr (.inr fun e => by have := (ho9.lt _ e).1; omega); have hbE := hb11.trans (hb3.mono (Nat.le_refl _)); clear hW7 hgr; simp only [Act.put])
    exact ⟨bodyPost_ret (ret_clash2 rfl rfl k6s) rfl ⟨_, rfl, ⟨_, _, rfl, owns_le ho8 hz9, owns_le ho9 hz9⟩, hbE⟩⟩
end Go.Proofs.Ytonidnfgneokbaa
