/- notaryref13.Lists. -/
import Derived.Test.YtonidnfgneokbaaQd143
namespace Go.Proofs.Ytonidnfgneokbaa
open Go Go.RowKit Go.Shelf
attribute [local go_sem] Oper.semAt_some

set_option maxHeartbeats 16000000 in
set_option maxRecDepth 100000 in
theorem rlists_any (kd : Int) (ls ms : List (List UInt8)) (A A' : Option Addr) (n0 c c' : Nat) (n1 : Nat) (w : World)
    (h : Es w (fun _ => True) A n0 c ls) (h' : Es w (fun _ => True) A' n1 c' ms) :
    Calls Try.prog 28 #[.int .i64 kd, .slice A n0 c, .slice A' n1 c'] w fun e' w' => ∃ v, e' = .returned (.tuple #[v, .int .i64 (listsC (hashK kd) ls ms).2]) ∧ ClV w.heap.size (listsC (hashK kd) ls ms).1 v w' ∧ Below w.heap.size w w' := by
  have hroom := h.room
  have hmx := h.max
  unfold maxLen at hmx
  have hroom' := h'.room
  have hmx' := h'.max
  unfold maxLen at hmx'
  have hlen := h.len
  have hlen' := h'.len
  have hd := h.weak (Y := (· < w.heap.size)) fun b hb _ => hb
  have hd' := h'.weak (Y := (· < w.heap.size)) fun b hb _ => hb
  obtain ⟨b1, hb1⟩ : ∃ b, bigD ls = b := ⟨_, rfl⟩
  obtain ⟨b2, hb2⟩ : ∃ b, bigD ms = b := ⟨_, rfl⟩
  have hl1 := fun W (hb : Below w.heap.size w W) => rlarge_any ls A n0 c W ((hd.step hb).all)
  have hl2 := fun W (hb : Below w.heap.size w W) => rlarge_any ms A' n1 c' W ((hd'.step hb).all)
  rw [hb1] at hl1
  rw [hb2] at hl2
  have HL1 := Lib.hid hl1
  have HL2 := Lib.hid hl2
  have Hb1 := Lib.hid hb1
  have Hb2 := Lib.hid hb2
  have Hlen := Lib.hid hlen
  have Hlen' := Lib.hid hlen'
  clear h h' hl1 hl2 hb1 hb2 hlen hlen'
  by_cases hA : b1 = true
  · subst hA
    rw [listsC_2 (hashK kd) ls ms (.inl Hb1.out)]
    go_enter Try.func28, Try.ntmps28
    refine Code.wp_mono (fun _ _ _ h => BP.out h) ?_
    go_wp2_with (first
      | ((with_reducible show wpList _ _ _ (⟨some 6, .alloc _, _, _, _, _⟩ :: _) _ _); refine wpList_clnew rfl rfl ?_; intro w1 k6 hb1; simp only [Act.put])
      | (go_at_call_of 74 (Value.slice A n0 c); refine (HL1.out _ hb1).mono ?_; rintro e w2 ⟨rfl, hw2⟩; obtain rfl := hw2.symm)
      | (go_at_call_of 74 (Value.slice A' n1 c'); refine (HL2.out _ hb1).mono ?_; rintro e w2 ⟨rfl, hw2⟩; obtain rfl := hw2.symm)
      | ((with_reducible show wpList _ _ _ (⟨some 17, .build _ _, _, _, _, _⟩ :: _) _ _); refine wpList_run0 rfl (.agg #[.slice none 0 0, .slice none 0 0]) (by kernel_rfl) ?_; simp only [Act.put])
      | ((with_reducible show wpList _ _ _ (⟨none, .store _ (.tmp 6) (.tmp 17), _, _, _, _⟩ :: _) _ _); refine wpList_clset (.tmp 6) (.tmp 17) rfl rfl k6 rfl rfl rfl rfl ?_; intro W3 k6s hb3 hW3; clear hW3; have hbE := hb1.trans (hb3.mono (Nat.le_refl _)); simp only [Act.put]))
    exact ⟨bodyPost_ret (ret_clash2 rfl rfl k6s) rfl ⟨_, rfl, ClV.zero _ _, hbE⟩⟩
  have hA1 : b1 = false := by simpa using hA
  subst hA1
  by_cases hA : b2 = true
  · subst hA
    rw [listsC_2 (hashK kd) ls ms (.inr Hb2.out)]
    go_enter Try.func28, Try.ntmps28
    refine Code.wp_mono (fun _ _ _ h => BP.out h) ?_
    go_wp2_with (first
      | ((with_reducible show wpList _ _ _ (⟨some 6, .alloc _, _, _, _, _⟩ :: _) _ _); refine wpList_clnew rfl rfl ?_; intro w1 k6 hb1; simp only [Act.put])
      | (go_at_call_of 74 (Value.slice A n0 c); refine (HL1.out _ hb1).mono ?_; rintro e w2 ⟨rfl, hw2⟩; obtain rfl := hw2.symm)
      | (go_at_call_of 74 (Value.slice A' n1 c'); refine (HL2.out _ hb1).mono ?_; rintro e w2 ⟨rfl, hw2⟩; obtain rfl := hw2.symm)
      | ((with_reducible show wpList _ _ _ (⟨some 17, .build _ _, _, _, _, _⟩ :: _) _ _); refine wpList_run0 rfl (.agg #[.slice none 0 0, .slice none 0 0]) (by kernel_rfl) ?_; simp only [Act.put])
      | ((with_reducible show wpList _ _ _ (⟨none, .store _ (.tmp 6) (.tmp 17), _, _, _, _⟩ :: _) _ _); refine wpList_clset (.tmp 6) (.tmp 17) rfl rfl k6 rfl rfl rfl rfl ?_; intro W3 k6s hb3 hW3; clear hW3; have hbE := hb1.trans (hb3.mono (Nat.le_refl _)); simp only [Act.put]))
    exact ⟨bodyPost_ret (ret_clash2 rfl rfl k6s) rfl ⟨_, rfl, ClV.zero _ _, hbE⟩⟩
  have hA1 : b2 = false := by simpa using hA
  subst hA1
  have hnb : ¬ (bigD ls = true ∨ bigD ms = true) := by rw [Hb1.out, Hb2.out]; simp
  have hs1 := bigD_not ls Hb1.out
  have hs2 := bigD_not ms Hb2.out
  rw [Hlen.out] at hs1
  rw [Hlen'.out] at hs2
  have Hnb := Lib.hid hnb
  have Hs1 := Lib.hid hs1
  have Hs2 := Lib.hid hs2
  clear hA hnb hs1 hs2
  by_cases hnn : n0 = n1
  rotate_left
  · rw [listsC_230 (hashK kd) ls ms Hnb.out (.inl (by rw [Hlen.out, Hlen'.out]; exact hnn))]
    have hn1 : (((n0 : Int)) != (n1 : Int)) = true := by simp; omega
    have hn2 : ¬ (n0 : Int) = (n1 : Int) := by omega
    go_enter Try.func28, Try.ntmps28
    refine Code.wp_mono (fun _ _ _ h => BP.out h) ?_
    go_wp2_with (first
      | ((with_reducible show wpList _ _ _ (⟨some 6, .alloc _, _, _, _, _⟩ :: _) _ _); refine wpList_clnew rfl rfl ?_; intro w1 k6 hb1; simp only [Act.put])
      | (go_at_call_of 74 (Value.slice A n0 c); refine (HL1.out _ hb1).mono ?_; rintro e w2 ⟨rfl, hw2⟩; obtain rfl := hw2.symm)
      | (go_at_call_of 74 (Value.slice A' n1 c'); refine (HL2.out _ hb1).mono ?_; rintro e w2 ⟨rfl, hw2⟩; obtain rfl := hw2.symm)
      | ((with_reducible show wpList _ _ _ (⟨some 32, .build _ _, _, _, _, _⟩ :: _) _ _); refine wpList_run0 rfl (.agg #[.slice none 0 0, .slice none 0 0]) (by kernel_rfl) ?_; simp only [Act.put])
      | ((with_reducible show wpList _ _ _ (⟨none, .store _ (.tmp 6) (.tmp 32), _, _, _, _⟩ :: _) _ _); refine wpList_clset (.tmp 6) (.tmp 32) rfl rfl k6 rfl rfl rfl rfl ?_; intro W3 k6s hb3 hW3; clear hW3; have hbE := hb1.trans (hb3.mono (Nat.le_refl _)); simp only [Act.put]))
    exact ⟨bodyPost_ret (ret_clash2 rfl rfl k6s) rfl ⟨_, rfl, ClV.zero _ _, hbE⟩⟩
  subst hnn
  have hn1 : (((n0 : Int)) != (n0 : Int)) = false := by simp
  have hrt1 := fun W (hb : Below w.heap.size w W) => rroot13_rec kd n0 ls A n0 c W (Nat.le_refl _) (hd.step hb).all (by have := Hs1.out.1; omega) (fun x hx => Nat.le_trans (Hs1.out.2 x hx) (by decide))
  have hrt2 := fun W (hb : Below w.heap.size w W) => rroot13_rec kd n0 ms A' n0 c' W (Nat.le_refl _) (hd'.step hb).all (by have := Hs1.out.1; omega) (fun x hx => Nat.le_trans (Hs2.out.2 x hx) (by decide))
  obtain ⟨x, hx⟩ : ∃ x, rootA (hashK kd) ls = x := ⟨_, rfl⟩
  obtain ⟨y, hy⟩ : ∃ x, rootA (hashK kd) ms = x := ⟨_, rfl⟩
  have hxl : x.length = 32 := by rw [← hx]; exact length_rootA (hashK kd) (length_hashK kd) ls
  have hyl : y.length = 32 := by rw [← hy]; exact length_rootA (hashK kd) (length_hashK kd) ms
  rw [hx] at hrt1
  rw [hy] at hrt2
  have Hrt1 := Lib.hid hrt1
  have Hrt2 := Lib.hid hrt2
  have Hx := Lib.hid hx
  have Hy := Lib.hid hy
  have Hxl := Lib.hid hxl
  have Hyl := Lib.hid hyl
  clear hrt1 hrt2 hx hy hxl hyl
  by_cases hxy : x = y
  rotate_left
  · rw [listsC_230 (hashK kd) ls ms Hnb.out (.inr (by rw [Hx.out, Hy.out]; exact hxy))]
    go_enter Try.func28, Try.ntmps28
    refine Code.wp_mono (fun _ _ _ h => BP.out h) ?_
    go_wp2_with (first
      | ((with_reducible show wpList _ _ _ (⟨some 6, .alloc _, _, _, _, _⟩ :: _) _ _); refine wpList_clnew rfl rfl ?_; intro w1 k6 hb1; simp only [Act.put])
      | (go_at_call_of 74 (Value.slice A n0 c); refine (HL1.out _ hb1).mono ?_; rintro e w2 ⟨rfl, hw2⟩; obtain rfl := hw2.symm)
      | (go_at_call_of 74 (Value.slice A' n0 c'); refine (HL2.out _ hb1).mono ?_; rintro e w2 ⟨rfl, hw2⟩; obtain rfl := hw2.symm)
      | (go_at_call_of 36 (Value.slice A n0 c); refine (Hrt1.out _ hb1).mono ?_; rintro e w4 ⟨rfl, hb4⟩; have hb5 := hb1.trans (hb4.mono hb1.size); replace k6 := k6.step hb4)
      | (go_at_call_of 36 (Value.slice A' n0 c'); refine (Hrt2.out _ hb5).mono ?_; rintro e w6 ⟨rfl, hb6⟩; have hb7 := hb5.trans (hb6.mono hb5.size); replace k6 := k6.step hb6)
      | ((with_reducible show wpList _ _ _ (⟨some 30, .binOp _ _ _ _ _, _, _, _, _⟩ :: _) _ _); refine wpList_runG (by kernel_rfl) (.bool true) _ (run_neq26_t (.tmp 26) (.tmp 29) _ x y rfl rfl rfl Hxl.out Hyl.out hxy _) ?_; simp only [Act.put])
      | ((with_reducible show wpList _ _ _ (⟨some 32, .build _ _, _, _, _, _⟩ :: _) _ _); refine wpList_run0 rfl (.agg #[.slice none 0 0, .slice none 0 0]) (by kernel_rfl) ?_; simp only [Act.put])
      | ((with_reducible show wpList _ _ _ (⟨none, .store _ (.tmp 6) (.tmp 32), _, _, _, _⟩ :: _) _ _); refine wpList_clset (.tmp 6) (.tmp 32) rfl rfl k6 rfl rfl rfl rfl ?_; intro W3 k6s hb3 hW3; clear hW3; have hbE := hb7.trans (hb3.mono (Nat.le_refl _)); simp only [Act.put]))
    exact ⟨bodyPost_ret (ret_clash2 rfl rfl k6s) rfl ⟨_, rfl, ClV.zero _ _, hbE⟩⟩
  have Hxy := Lib.hid hxy
  have hnr : ¬ (ls.length ≠ ms.length ∨ rootA (hashK kd) ls ≠ rootA (hashK kd) ms) := by rw [Hlen.out, Hlen'.out, Hx.out, Hy.out]; simp [hxy]
  have Hnr := Lib.hid hnr
  have heq := fun W (hb : Below w.heap.size w W) => same13_any ls ms A A' n0 c n0 c' W (hd.step hb).all (hd'.step hb).all
  clear hxy hnr
  by_cases hlm : ls = ms
  · rw [listsC_231 (hashK kd) ls ms Hnb.out Hnr.out hlm]
    rw [decide_eq_true hlm] at heq
    have Heq := Lib.hid heq
    clear heq hlm
    go_enter Try.func28, Try.ntmps28
    refine Code.wp_mono (fun _ _ _ h => BP.out h) ?_
    go_wp2_with (first
      | ((with_reducible show wpList _ _ _ (⟨some 6, .alloc _, _, _, _, _⟩ :: _) _ _); refine wpList_clnew rfl rfl ?_; intro w1 k6 hb1; simp only [Act.put])
      | (go_at_call_of 74 (Value.slice A n0 c); refine (HL1.out _ hb1).mono ?_; rintro e w2 ⟨rfl, hw2⟩; obtain rfl := hw2.symm)
      | (go_at_call_of 74 (Value.slice A' n0 c'); refine (HL2.out _ hb1).mono ?_; rintro e w2 ⟨rfl, hw2⟩; obtain rfl := hw2.symm)
      | (go_at_call_of 36 (Value.slice A n0 c); refine (Hrt1.out _ hb1).mono ?_; rintro e w4 ⟨rfl, hb4⟩; have hb5 := hb1.trans (hb4.mono hb1.size); replace k6 := k6.step hb4)
      | (go_at_call_of 36 (Value.slice A' n0 c'); refine (Hrt2.out _ hb5).mono ?_; rintro e w6 ⟨rfl, hb6⟩; have hb7 := hb5.trans (hb6.mono hb5.size); replace k6 := k6.step hb6)
      | ((with_reducible show wpList _ _ _ (⟨some 30, .binOp _ _ _ _ _, _, _, _, _⟩ :: _) _ _); refine wpList_runG (by kernel_rfl) (.bool false) _ (run_neq26_f (.tmp 26) (.tmp 29) _ x y rfl rfl rfl Hxl.out Hyl.out Hxy.out _) ?_; simp only [Act.put])
      | (go_at_call 81; refine (Heq.out _ hb7).mono ?_; rintro e w8 ⟨rfl, hb8⟩; have hb9 := hb7.trans (hb8.mono hb7.size); replace k6 := k6.step hb8)
      | ((with_reducible show wpList _ _ _ (⟨some 36, .build _ _, _, _, _, _⟩ :: _) _ _); refine wpList_run0 rfl (.agg #[.slice none 0 0, .slice none 0 0]) (by kernel_rfl) ?_; simp only [Act.put])
      | ((with_reducible show wpList _ _ _ (⟨none, .store _ (.tmp 6) (.tmp 36), _, _, _, _⟩ :: _) _ _); refine wpList_clset (.tmp 6) (.tmp 36) rfl rfl k6 rfl rfl rfl rfl ?_; intro W3 k6s hb3 hW3; clear hW3; have hbE := hb9.trans (hb3.mono (Nat.le_refl _)); simp only [Act.put]))
    exact ⟨bodyPost_ret (ret_clash2 rfl rfl k6s) rfl ⟨_, rfl, ClV.zero _ _, hbE⟩⟩
  · rw [listsC_0 (hashK kd) ls ms Hnb.out Hnr.out hlm]
    rw [decide_eq_false hlm] at heq
    have Heq := Lib.hid heq
    have hn0 : 1 ≤ n0 := by
      rcases Nat.eq_zero_or_pos n0 with e | e
      · exact absurd ((List.length_eq_zero_iff.1 (Hlen.out.trans e)).trans (List.length_eq_zero_iff.1 (Hlen'.out.trans e)).symm) hlm
      · exact e
    obtain ⟨res, hres⟩ : ∃ r, downL (hashK kd) ls ms = r := ⟨_, rfl⟩
    rw [hres]
    have Hres0 := Lib.hid hres
    clear heq hlm hres
    go_enter Try.func28, Try.ntmps28
    refine Code.wp_mono (fun _ _ _ h => BP.out h) ?_
    go_wp2_with (first
      | ((with_reducible show wpList _ _ _ (⟨some 6, .alloc _, _, _, _, _⟩ :: _) _ _); refine wpList_clnew rfl rfl ?_; intro w1 k6 hb1; simp only [Act.put])
      | (go_at_call_of 74 (Value.slice A n0 c); refine (HL1.out _ hb1).mono ?_; rintro e w2 ⟨rfl, hw2⟩; obtain rfl := hw2.symm)
      | (go_at_call_of 74 (Value.slice A' n0 c'); refine (HL2.out _ hb1).mono ?_; rintro e w2 ⟨rfl, hw2⟩; obtain rfl := hw2.symm)
      | (go_at_call_of 36 (Value.slice A n0 c); refine (Hrt1.out _ hb1).mono ?_; rintro e w4 ⟨rfl, hb4⟩; have hb5 := hb1.trans (hb4.mono hb1.size); replace k6 := k6.step hb4)
      | (go_at_call_of 36 (Value.slice A' n0 c'); refine (Hrt2.out _ hb5).mono ?_; rintro e w6 ⟨rfl, hb6⟩; have hb7 := hb5.trans (hb6.mono hb5.size); replace k6 := k6.step hb6)
      | ((with_reducible show wpList _ _ _ (⟨some 30, .binOp _ _ _ _ _, _, _, _, _⟩ :: _) _ _); refine wpList_runG (by kernel_rfl) (.bool false) _ (run_neq26_f (.tmp 26) (.tmp 29) _ x y rfl rfl rfl Hxl.out Hyl.out Hxy.out _) ?_; simp only [Act.put])
      | (go_at_call 81; refine (Heq.out _ hb7).mono ?_; rintro e w8 ⟨rfl, hb8⟩; have hb9 := hb7.trans (hb8.mono hb7.size); replace k6 := k6.step hb8))
    go_loopw [1, 2, 8, 9, 10] (fun v1 v2 _ _ _ wr => ∃ (n c c' : Nat) (A A' : Option Addr) (d e : List (List UInt8)), v1 = .slice A n c ∧ v2 = .slice A' n c' ∧ Es wr (· < w.heap.size) A n c d ∧ Es wr (· < w.heap.size) A' n c' e ∧ 1 ≤ n ∧ n ≤ n0 ∧
      downL (hashK kd) d e = res ∧ (∀ x ∈ d, x.length ≤ 4096) ∧ (∀ x ∈ e, x.length ≤ 4096) ∧ Blk wr w.heap.size 34 #[.slice none 0 0, .slice none 0 0] ∧ Below w.heap.size w wr) (fun v1 _ _ _ _ _ => sliceLen v1)
    case atStart => exact ⟨n0, c, c', A, A', ls, ms, rfl, rfl, hd.step hb9, hd'.step hb9, hn0, Nat.le_refl _, Hres0.out, Hs1.out.2, Hs2.out.2, k6, hb9⟩
    case round =>
      clear k6 hb9 hb1 hb4 hb5 hb6 hb7 hb8 hn1 hroom hmx hroom' hmx' hd hd'
      obtain ⟨n, c, c', A, A', d, e, rfl, rfl, hE, hG, hn1, hn', hres, hxd, hxe, k6, hbr⟩ := hrel
      have hroom := hE.room
      have hmx := hE.max
      unfold maxLen at hmx
      have hroom' := hG.room
      have hmx' := hG.max
      unfold maxLen at hmx'
      have hlen := hE.len
      have hlen' := hG.len
      have hk6l := k6.lt
      have hnd : n ≤ 65536 := Nat.le_trans hn' Hs1.out.1
      by_cases h2 : 2 ≤ n
      · have h1n : decide ((1 : Int) < (n : Int)) = true := by simp; omega
        have hkl := splitN_lt n h2
        have hkp := splitN_pos n h2
        have hsp := fun W => rsplit_any (n : Int) W (by omega)
        rw [Int.toNat_natCast] at hsp
        have hdm := downL_more (hashK kd) d e (by omega)
        unfold rtsA at hdm
        rw [hlen, hlen'] at hdm
        obtain ⟨k, hk⟩ : ∃ k, splitN n = k := ⟨_, rfl⟩
        rw [hk] at hkl hkp hsp hdm
        have ht1 := hE.take k (by omega)
        have ht2 := hE.drop k (by omega)
        have hu1 := hG.take k (by omega)
        have hu2 := hG.drop k (by omega)
        obtain ⟨A2, hA2⟩ : ∃ A2, (if c = k then A else A.map (·.add (k * 1))) = A2 := ⟨_, rfl⟩
        obtain ⟨B2, hB2⟩ : ∃ A2, (if c' = k then A' else A'.map (·.add (k * 1))) = A2 := ⟨_, rfl⟩
        rw [hA2] at ht2
        rw [hB2] at hu2
        have HA2 := Lib.hid hA2
        have HB2 := Lib.hid hB2
        have r1 := fun W (hb : Below wr.heap.size wr W) => rroot13_rec kd k (d.take k) A k c W (Nat.le_refl _) (ht1.step hb).all (by omega) (fun x hx' => Nat.le_trans (hxd x (List.mem_of_mem_take hx')) (by decide))
        have r2 := fun W (hb : Below wr.heap.size wr W) => rroot13_rec kd (n - k) (d.drop k) A2 (n - k) (c - k) W (Nat.le_refl _) (ht2.step hb).all (by omega) (fun x hx' => Nat.le_trans (hxd x (List.mem_of_mem_drop hx')) (by decide))
        have r3 := fun W (hb : Below wr.heap.size wr W) => rroot13_rec kd k (e.take k) A' k c' W (Nat.le_refl _) (hu1.step hb).all (by omega) (fun x h9 => Nat.le_trans (hxe x (List.mem_of_mem_take h9)) (by decide))
        have r4 := fun W (hb : Below wr.heap.size wr W) => rroot13_rec kd (n - k) (e.drop k) B2 (n - k) (c' - k) W (Nat.le_refl _) (hu2.step hb).all (by omega) (fun x h9 => Nat.le_trans (hxe x (List.mem_of_mem_drop h9)) (by decide))
        have q1 := fun W (hb : Below wr.heap.size wr W) => same13_any (d.take k) (e.take k) A A' k c k c' W (ht1.step hb).all (hu1.step hb).all
        have l1 := length_rootA (hashK kd) (length_hashK kd) (d.take k)
        have l2 := length_rootA (hashK kd) (length_hashK kd) (d.drop k)
        have l3 := length_rootA (hashK kd) (length_hashK kd) (e.take k)
        have l4 := length_rootA (hashK kd) (length_hashK kd) (e.drop k)
        obtain ⟨x1, hx1⟩ : ∃ x, rootA (hashK kd) (d.take k) = x := ⟨_, rfl⟩
        obtain ⟨x2, hx2⟩ : ∃ x, rootA (hashK kd) (d.drop k) = x := ⟨_, rfl⟩
        obtain ⟨y1, hy1⟩ : ∃ x, rootA (hashK kd) (e.take k) = x := ⟨_, rfl⟩
        obtain ⟨y2, hy2⟩ : ∃ x, rootA (hashK kd) (e.drop k) = x := ⟨_, rfl⟩
        rw [hx1] at r1 l1 hdm
        rw [hx2] at r2 l2 hdm
        rw [hy1] at r3 l3 hdm
        rw [hy2] at r4 l4 hdm
        have hnd1 := fun W => rnode13_any x1 x2 W l1 l2
        have hnd2 := fun W => rnode13_any y1 y2 W l3 l4
        have hnl1 : (nodeD (x1, x2)).length = 65 := by simp [nodeD, l1, l2]
        have hnl2 : (nodeD (y1, y2)).length = 65 := by simp [nodeD, l3, l4]
        obtain ⟨qe, hqe⟩ : ∃ q, decide (d.take k = e.take k) = q := ⟨_, rfl⟩
        rw [hqe] at q1
        have hdm2 : res = if (x1, x2) ≠ (y1, y2) then (nodeD (x1, x2), nodeD (y1, y2)) else if qe = true then downL (hashK kd) (d.drop k) (e.drop k) else downL (hashK kd) (d.take k) (e.take k) := by
          rw [← hres, hdm, ← hqe]
          simp only [decide_eq_true_eq]
        have Hdm := Lib.hid hdm2
        have HR1 := Lib.hid r1
        have HR2 := Lib.hid r2
        have HR3 := Lib.hid r3
        have HR4 := Lib.hid r4
        have HQ1 := Lib.hid q1
        have L1 := Lib.hid l1
        have L3 := Lib.hid l3
        have Hnd1 := Lib.hid hnd1
        have Hnd2 := Lib.hid hnd2
        have Hnl1 := Lib.hid hnl1
        have Hnl2 := Lib.hid hnl2
        have Hsp := Lib.hid hsp
        have Hxd := Lib.hid hxd
        have Hxe := Lib.hid hxe
        clear hdm hdm2 r1 r2 r3 r4 q1 l1 l2 l3 l4 hnd1 hnd2 hnl1 hnl2 hsp hx1 hx2 hy1 hy2 hqe hA2 hB2 hk hlen hlen' hres hxd hxe
        go_wp2_with (go_at_call 77; refine (Hsp.out wr).mono ?_; rintro e w9 ⟨rfl, rfl⟩)
        have hz0 := hbr.size
        have hS : Below wr.heap.size wr wr.drew := (Below.refl _ _).drew
        refine wp_region_mix (fun W => Below wr.heap.size wr W) [(0, true), (1, true), (2, true), (3, true), (5, true), (6, true), (7, true), (8, true), (4, false), (9, false), (10, false), (11, true)] (by kernel_rfl) (by kernel_rfl) hS fun _ => ?_
        simp only [List.map_cons, List.map_nil, Array.getD_eq_getD_getElem?, List.getElem?_toArray, List.getElem?_cons_succ, List.getElem?_cons_zero, Option.getD_some]
        generalize wr.drew = u0 at hS ⊢
        refine wpMix_s (fun K hK => ?_)
        go_simp
        refine hK _ ?_
        clear hK K
        refine wpMix_s (fun K hK => ?_)
        go_simp
        refine hK _ ?_
        clear hK K
        refine wpMix_s (fun K hK => ?_)
        go_simp
        refine hK _ ?_
        clear hK K
        refine wpMix_v (by kernel_rfl) (.slice A k c) (fun s => run_slice_hiB (.tmp 44) (.tmp 45) rfl A n c k rfl rfl (by omega) s.W) ?_
        simp only [Act.put]
        refine wpMix_s (fun K hK => ?_)
        go_simp
        refine hK _ ?_
        clear hK K
        refine wpMix_s (fun K hK => ?_)
        go_simp
        refine hK _ ?_
        clear hK K
        refine wpMix_s (fun K hK => ?_)
        go_simp
        refine hK _ ?_
        clear hK K
        refine wpMix_v (by kernel_rfl) (.slice A2 (n - k) (c - k)) (fun s => by rw [← HA2.out]; exact run_slice_loB (.tmp 49) (.tmp 50) rfl A n c k rfl rfl (by omega) s.W) ?_
        simp only [Act.put]
        refine wpMix_c (fun K hK => ?_) hS
        go_simp
        refine (HR1.out u0 hS).mono ?_
        rintro e u0_1 ⟨rfl, hb'⟩
        refine hK _ _ ?_
        clear hK K
        replace hS := hS.trans (hb'.mono hS.size)
        refine ⟨hS, ?_⟩
        clear hb'
        refine wpMix_c (fun K hK => ?_) hS
        go_simp
        refine (HR2.out u0_1 hS).mono ?_
        rintro e u0_2 ⟨rfl, hb'⟩
        refine hK _ _ ?_
        clear hK K
        replace hS := hS.trans (hb'.mono hS.size)
        refine ⟨hS, ?_⟩
        clear hb'
        have hzS := hS.size
        refine wpMix_c (fun K hK => ?_) hS
        go_simp
        refine (Hnd1.out u0_2).mono ?_
        rintro e u0_2a ⟨v8, rfl, hf⟩
        refine hK _ _ ?_
        clear hK K
        have ho8 := owns_le hf.1 (show w.heap.size + 1 ≤ u0_2.heap.size by omega)
        replace hS := hS.trans (hf.2.mono hS.size)
        refine ⟨hS, ?_⟩
        clear hf hzS
        obtain ⟨A8, c8, rfl, -⟩ := owns_slv ho8
        rw [Hnl1.out] at ho8 ⊢
        refine wpMix_s (fun K hK => ?_)
        go_simp
        refine hK _ ?_
        clear hK K
        refine wpMix_nil ?_
        intro _
        have hW1 := hS
        have hz1 := hS.size
        clear hS
        go_wp2_with fail
        replace ho8 := owns_step ho8 (Below.refl u0_2a.heap.size u0_2a).drew
        have hS : Below u0_2a.heap.size u0_2a u0_2a.drew := (Below.refl _ _).drew
        refine wp_region_mix (fun W => Below u0_2a.heap.size u0_2a W) [(0, true), (1, true), (2, true), (3, true), (5, true), (6, true), (7, true), (8, true), (4, false), (9, false), (10, false), (11, true)] (by kernel_rfl) (by kernel_rfl) hS fun _ => ?_
        simp only [List.map_cons, List.map_nil, Array.getD_eq_getD_getElem?, List.getElem?_toArray, List.getElem?_cons_succ, List.getElem?_cons_zero, Option.getD_some]
        generalize u0_2a.drew = u1 at hS ho8 ⊢
        refine wpMix_s (fun K hK => ?_)
        go_simp
        refine hK _ ?_
        clear hK K
        refine wpMix_s (fun K hK => ?_)
        go_simp
        refine hK _ ?_
        clear hK K
        refine wpMix_s (fun K hK => ?_)
        go_simp
        refine hK _ ?_
        clear hK K
        refine wpMix_v (by kernel_rfl) (.slice A' k c') (fun s => run_slice_hiB (.tmp 55) (.tmp 56) rfl A' n c' k rfl rfl (by omega) s.W) ?_
        simp only [Act.put]
        refine wpMix_s (fun K hK => ?_)
        go_simp
        refine hK _ ?_
        clear hK K
        refine wpMix_s (fun K hK => ?_)
        go_simp
        refine hK _ ?_
        clear hK K
        refine wpMix_s (fun K hK => ?_)
        go_simp
        refine hK _ ?_
        clear hK K
        refine wpMix_v (by kernel_rfl) (.slice B2 (n - k) (c' - k)) (fun s => by rw [← HB2.out]; exact run_slice_loB (.tmp 60) (.tmp 61) rfl A' n c' k rfl rfl (by omega) s.W) ?_
        simp only [Act.put]
        refine wpMix_c (fun K hK => ?_) hS
        go_simp
        refine (HR3.out u1 (hW1.trans (hS.mono hW1.size))).mono ?_
        rintro e u1_1 ⟨rfl, hb'⟩
        refine hK _ _ ?_
        clear hK K
        replace hS := hS.trans (hb'.mono hS.size)
        refine ⟨hS, ?_⟩
        replace ho8 := owns_step ho8 hb'
        clear hb'
        refine wpMix_c (fun K hK => ?_) hS
        go_simp
        refine (HR4.out u1_1 (hW1.trans (hS.mono hW1.size))).mono ?_
        rintro e u1_2 ⟨rfl, hb'⟩
        refine hK _ _ ?_
        clear hK K
        replace hS := hS.trans (hb'.mono hS.size)
        refine ⟨hS, ?_⟩
        replace ho8 := owns_step ho8 hb'
        clear hb'
        have hzS := hS.size
        refine wpMix_c (fun K hK => ?_) hS
        go_simp
        refine (Hnd2.out u1_2).mono ?_
        rintro e u1_2a ⟨v9, rfl, hf⟩
        refine hK _ _ ?_
        clear hK K
        have ho9 := owns_le hf.1 (show w.heap.size + 1 ≤ u1_2.heap.size by omega)
        replace ho8 := owns_step ho8 hf.2
        replace hS := hS.trans (hf.2.mono hS.size)
        refine ⟨hS, ?_⟩
        clear hf hzS
        obtain ⟨A9, c9, rfl, -⟩ := owns_slv ho9
        rw [Hnl2.out] at ho9 ⊢
        refine wpMix_s (fun K hK => ?_)
        go_simp
        refine hK _ ?_
        clear hK K
        refine wpMix_nil ?_
        intro _
        have hW2 := hW1.trans (hS.mono hW1.size)
        have hb8 := hbr.trans (hW2.mono hbr.size)
        replace k6 := k6.step hW2
        have hs8 : Sl u1_2a (fun _ => True) A8 65 c8 (nodeD (x1, x2)) := by have h9 := ho8; rw [← Hnl1.out] at h9; obtain ⟨A_, c_, e_, h_⟩ := owns_sl h9; rw [Hnl1.out] at e_ h_; cases e_; exact h_.all
        have hs9 : Sl u1_2a (fun _ => True) A9 65 c9 (nodeD (y1, y2)) := by have h9 := ho9; rw [← Hnl2.out] at h9; obtain ⟨A_, c_, e_, h_⟩ := owns_sl h9; rw [Hnl2.out] at e_ h_; cases e_; exact h_.all
        have st8 := run_str hs8
        have st9 := run_str hs9
        clear hS hs8 hs9
        by_cases hpe : (x1, x2) = (y1, y2)
        · have hr := Hdm.out
          rw [if_neg (fun h => h hpe)] at hr
          have Hr := Lib.hid hr
          have hne := fun (ρ : Operand → Value) (o : Oper) (a b : Operand) (ty : TypeId) (ho : o.op = .binOp .neq 9 a b ty) (hx : ρ a = .string (bstr (nodeD (x1, x2)))) (hy : ρ b = .string (bstr (nodeD (y1, y2)))) (W : World) => run_neqs_op (o := o) (ρ := ρ) a b ty _ _ ho hx hy W
          rw [show (nodeD (x1, x2) != nodeD (y1, y2)) = false by rw [hpe]; simp] at hne
          have Hne := Lib.hid hne
          clear hr hne hpe
          go_wp2_with ((with_reducible show wpList _ _ _ (⟨some 69, .binOp _ _ _ _ _, _, _, _, _⟩ :: _) _ _); refine wpList_run0 rfl (.bool false) (Hne.out _ _ (.tmp 66) (.tmp 68) _ rfl rfl rfl _) ?_; simp only [Act.put])
          clear st8 st9
          have hS : Below u1_2a.heap.size u1_2a u1_2a.drew := (Below.refl _ _).drew
          refine wp_region_mix (fun W => Below u1_2a.heap.size u1_2a W) [(0, true), (1, true), (2, true), (3, true), (4, true), (5, true), (6, false)] (by kernel_rfl) (by kernel_rfl) hS fun _ => ?_
          simp only [List.map_cons, List.map_nil, Array.getD_eq_getD_getElem?, List.getElem?_toArray, List.getElem?_cons_succ, List.getElem?_cons_zero, Option.getD_some]
          generalize u1_2a.drew = u3 at hS ⊢
          refine wpMix_s (fun K hK => ?_)
          go_simp
          refine hK _ ?_
          clear hK K
          refine wpMix_s (fun K hK => ?_)
          go_simp
          refine hK _ ?_
          clear hK K
          refine wpMix_v (by kernel_rfl) (.slice A k c) (fun s => run_slice_hiB (.tmp 73) (.tmp 74) rfl A n c k rfl rfl (by omega) s.W) ?_
          simp only [Act.put]
          refine wpMix_s (fun K hK => ?_)
          go_simp
          refine hK _ ?_
          clear hK K
          refine wpMix_s (fun K hK => ?_)
          go_simp
          refine hK _ ?_
          clear hK K
          refine wpMix_v (by kernel_rfl) (.slice A' k c') (fun s => run_slice_hiB (.tmp 76) (.tmp 77) rfl A' n c' k rfl rfl (by omega) s.W) ?_
          simp only [Act.put]
          refine wpMix_c (fun K hK => ?_) hS
          go_simp
          refine (HQ1.out u3 (hW2.trans (hS.mono hW2.size))).mono ?_
          rintro e u3_1 ⟨rfl, hb'⟩
          refine hK _ _ ?_
          clear hK K
          replace hS := hS.trans (hb'.mono hS.size)
          refine ⟨hS, ?_⟩
          clear hb'
          refine wpMix_nil ?_
          intro _
          have hb9 := hb8.trans (hS.mono hb8.size)
          have hbS := hW2.trans (hS.mono hW2.size)
          replace k6 := k6.step hS
          clear hS
          cases qe with
          | true =>
            have hr : res = downL (hashK kd) (d.drop k) (e.drop k) := by have h9 := Hr.out; rwa [if_pos rfl] at h9
            have Hr2 := Lib.hid hr
            clear hr
            go_wp2_with fail
            have hS : Below u3_1.heap.size u3_1 u3_1.drew := (Below.refl _ _).drew
            refine wp_region_mix (fun W => Below u3_1.heap.size u3_1 W) [(0, true), (1, true), (2, true), (3, true), (4, true), (5, true), (6, true), (7, true)] (by kernel_rfl) (by kernel_rfl) hS fun _ => ?_
            simp only [List.map_cons, List.map_nil, Array.getD_eq_getD_getElem?, List.getElem?_toArray, List.getElem?_cons_succ, List.getElem?_cons_zero, Option.getD_some]
            generalize u3_1.drew = u4 at hS ⊢
            refine wpMix_s (fun K hK => ?_)
            go_simp
            refine hK _ ?_
            clear hK K
            refine wpMix_s (fun K hK => ?_)
            go_simp
            refine hK _ ?_
            clear hK K
            refine wpMix_v (by kernel_rfl) (.slice A2 (n - k) (c - k)) (fun s => by rw [← HA2.out]; exact run_slice_loB (.tmp 80) (.tmp 81) rfl A n c k rfl rfl (by omega) s.W) ?_
            simp only [Act.put]
            refine wpMix_s (fun K hK => ?_)
            go_simp
            refine hK _ ?_
            clear hK K
            refine wpMix_s (fun K hK => ?_)
            go_simp
            refine hK _ ?_
            clear hK K
            refine wpMix_v (by kernel_rfl) (.slice B2 (n - k) (c' - k)) (fun s => by rw [← HB2.out]; exact run_slice_loB (.tmp 83) (.tmp 84) rfl A' n c' k rfl rfl (by omega) s.W) ?_
            simp only [Act.put]
            refine wpMix_s (fun K hK => ?_)
            go_simp
            refine hK _ ?_
            clear hK K
            refine wpMix_s (fun K hK => ?_)
            go_simp
            refine hK _ ?_
            clear hK K
            refine wpMix_nil ?_
            intro _
            have hbT := hb9.trans (hS.mono hb9.size)
            have hbU := hbS.trans (hS.mono hbS.size)
            replace k6 := k6.step hS
            clear hS
            go_wp2_with fail
            go_roundw
            case rel => exact ⟨n - k, c - k, c' - k, A2, B2, d.drop k, e.drop k, rfl, rfl, ht2.step hbU, hu2.step hbU, by omega, by omega, Hr2.out.symm, fun x hx => Hxd.out x (List.mem_of_mem_drop hx), fun x hx => Hxe.out x (List.mem_of_mem_drop hx), k6, hbT⟩
            case measure => simp [sliceLen]; omega
          | false =>
            have hr : res = downL (hashK kd) (d.take k) (e.take k) := by have h9 := Hr.out; rwa [if_neg (by simp)] at h9
            have Hr2 := Lib.hid hr
            clear hr
            go_wp2_with fail
            have hS : Below u3_1.heap.size u3_1 u3_1.drew := (Below.refl _ _).drew
            refine wp_region_mix (fun W => Below u3_1.heap.size u3_1 W) [(0, true), (1, true), (2, true), (3, true), (4, true), (5, true), (6, true), (7, true)] (by kernel_rfl) (by kernel_rfl) hS fun _ => ?_
            simp only [List.map_cons, List.map_nil, Array.getD_eq_getD_getElem?, List.getElem?_toArray, List.getElem?_cons_succ, List.getElem?_cons_zero, Option.getD_some]
            generalize u3_1.drew = u4 at hS ⊢
            refine wpMix_s (fun K hK => ?_)
            go_simp
            refine hK _ ?_
            clear hK K
            refine wpMix_s (fun K hK => ?_)
            go_simp
            refine hK _ ?_
            clear hK K
            refine wpMix_v (by kernel_rfl) (.slice A k c) (fun s => run_slice_hiB (.tmp 86) (.tmp 87) rfl A n c k rfl rfl (by omega) s.W) ?_
            simp only [Act.put]
            refine wpMix_s (fun K hK => ?_)
            go_simp
            refine hK _ ?_
            clear hK K
            refine wpMix_s (fun K hK => ?_)
            go_simp
            refine hK _ ?_
            clear hK K
            refine wpMix_v (by kernel_rfl) (.slice A' k c') (fun s => run_slice_hiB (.tmp 89) (.tmp 90) rfl A' n c' k rfl rfl (by omega) s.W) ?_
            simp only [Act.put]
            refine wpMix_s (fun K hK => ?_)
            go_simp
            refine hK _ ?_
            clear hK K
            refine wpMix_s (fun K hK => ?_)
            go_simp
            refine hK _ ?_
            clear hK K
            refine wpMix_nil ?_
            intro _
            have hbT := hb9.trans (hS.mono hb9.size)
            have hbU := hbS.trans (hS.mono hbS.size)
            replace k6 := k6.step hS
            clear hS
            go_wp2_with fail
            go_roundw
            case rel => exact ⟨k, c, c', A, A', d.take k, e.take k, rfl, rfl, ht1.step hbU, hu1.step hbU, hkp, by omega, Hr2.out.symm, fun x hx => Hxd.out x (List.mem_of_mem_take hx), fun x hx => Hxe.out x (List.mem_of_mem_take hx), k6, hbT⟩
            case measure => simp [sliceLen]; omega
        · have hr := Hdm.out
          rw [if_pos hpe] at hr
          subst hr
          have hne := fun (ρ : Operand → Value) (o : Oper) (a b : Operand) (ty : TypeId) (ho : o.op = .binOp .neq 9 a b ty) (hx : ρ a = .string (bstr (nodeD (x1, x2)))) (hy : ρ b = .string (bstr (nodeD (y1, y2)))) (W : World) => run_neqs_op (o := o) (ρ := ρ) a b ty _ _ ho hx hy W
          rw [show (nodeD (x1, x2) != nodeD (y1, y2)) = true by simpa using fun h => hpe (nodeD_inj (by exact L1.out) (by exact L3.out) h)] at hne
          have Hne := Lib.hid hne
          clear hne hpe
          go_wp2_with (first
            | ((with_reducible show wpList _ _ _ (⟨some 69, .binOp _ _ _ _ _, _, _, _, _⟩ :: _) _ _); refine wpList_run0 rfl (.bool true) (Hne.out _ _ (.tmp 66) (.tmp 68) _ rfl rfl rfl _) ?_; simp only [Act.put])
            | ((with_reducible show wpList _ _ _ (⟨some 72, .build _ _, _, _, _, _⟩ :: _) _ _); refine wpList_run0 rfl (.agg #[.slice A8 65 c8, .slice A9 65 c9]) (by kernel_rfl) ?_; simp only [Act.put])
            | ((with_reducible show wpList _ _ _ (⟨none, .store _ (.tmp 6) _, _, _, _, _⟩ :: _) _ _); refine wpList_clset (.tmp 6) (.tmp 72) rfl rfl k6 rfl rfl rfl rfl ?_; intro W8 k6s hb3 hW8; have hgr : u1_2a.grownBy W8 (some w.heap.size) := (by rw [hW8]; exact grown_setRow (grown_of_below (Below.refl _ _) _) _); replace ho8 := ho8.kept hgr (.inr fun e => by have := (ho8.lt _ e).1; omega); replace ho9 := ho9.kept hgr (.inr fun e => by have := (ho9.lt _ e).1; omega); have hbE := hb8.trans (hb3.mono (Nat.le_refl _)); clear hW8 hgr; simp only [Act.put]))
          exact ⟨bodyPost_ret (ret_clash2 rfl rfl k6s) rfl ⟨_, rfl, ⟨_, _, rfl, by rw [Hnl1.out]; exact owns_le ho8 (Nat.le_succ _), by rw [Hnl2.out]; exact owns_le ho9 (Nat.le_succ _)⟩, hbE⟩⟩
      · obtain rfl : n = 1 := by omega
        rw [downL_one (hashK kd) d e hlen] at hres
        obtain ⟨b, o, rfl, hbb, -, hat⟩ := hE.at_ (by decide)
        obtain ⟨Ai, ci, hc0, hsl⟩ := hat 0 (by decide)
        obtain ⟨b', o', rfl, hbb', -, hat'⟩ := hG.at_ (by decide)
        obtain ⟨Ai', ci', hc0', hsl'⟩ := hat' 0 (by decide)
        have hgx : (d.getD 0 []).length ≤ 4096 := hxd _ (by rw [List.getD_eq_getElem?_getD, List.getElem?_eq_getElem (by omega)]; exact List.getElem_mem _)
        have hgx' : (e.getD 0 []).length ≤ 4096 := hxe _ (by rw [List.getD_eq_getElem?_getD, List.getElem?_eq_getElem (by omega)]; exact List.getElem_mem _)
        obtain ⟨xx, hx0⟩ : ∃ x, d.getD 0 [] = x := ⟨_, rfl⟩
        obtain ⟨yy, hy0⟩ : ∃ x, e.getD 0 [] = x := ⟨_, rfl⟩
        rw [hx0] at hc0 hsl hgx hres
        rw [hy0] at hc0' hsl' hgx' hres
        subst hres
        have hc : wr.cell? ⟨b, o, none⟩ = some (.slice Ai xx.length ci) := hc0
        have hc' : wr.cell? ⟨b', o', none⟩ = some (.slice Ai' yy.length ci') := hc0'
        have HX := Lib.hid hgx
        have HY := Lib.hid hgx'
        have hbw : b < wr.heap.size := hbb
        have hbw' : b' < wr.heap.size := hbb'
        have hzr := hbr.size
        clear hat hat' hx0 hy0 hgx hgx' hc0 hc0' hxd hxe hE hG
        go_wp2_with fail
        replace k6 := k6.drew
        have hS : Below wr.heap.size wr wr.drew := (Below.refl _ _).drew
        refine wp_region_mix_tail (fun W => Below wr.heap.size wr W) 9 [(0, true), (1, true), (2, true), (4, true), (5, true), (6, true), (3, false), (7, false), (8, true)] (by kernel_rfl) (by kernel_rfl) hS fun _ => ?_
        simp only [List.map_cons, List.map_nil, Array.getD_eq_getD_getElem?, List.getElem?_toArray, List.getElem?_cons_succ, List.getElem?_cons_zero, Option.getD_some]
        generalize wr.drew = u5 at hS k6 ⊢
        refine wpMix_s (fun K hK => ?_)
        go_simp
        refine hK _ ?_
        clear hK K
        refine wpMix_s (fun K hK => ?_)
        go_simp
        refine hK _ ?_
        clear hK K
        refine wpMix_v (by kernel_rfl) (.slice Ai xx.length ci) (fun s => run_load_op 23 (.tmp 93) rfl b o rfl _ (run_load_scalar (by kernel_rfl) ((s.ok.cell (p := ⟨b, o, none⟩) hbw).trans hc))) ?_
        simp only [Act.put]
        refine wpMix_s (fun K hK => ?_)
        go_simp
        refine hK _ ?_
        clear hK K
        refine wpMix_s (fun K hK => ?_)
        go_simp
        refine hK _ ?_
        clear hK K
        refine wpMix_v (by kernel_rfl) (.slice Ai' yy.length ci') (fun s => run_load_op 23 (.tmp 97) rfl b' o' rfl _ (run_load_scalar (by kernel_rfl) ((s.ok.cell (p := ⟨b', o', none⟩) hbw').trans hc'))) ?_
        simp only [Act.put]
        have hz0_ := hS.size
        refine wpMix_c (fun K hK => ?_) hS
        go_simp
        refine (rleaf_any xx Ai xx.length ci u5 ((hsl.step hS).all) (by have := HX.out; omega)).mono ?_
        rintro e u5a ⟨v8, rfl, hf⟩
        refine hK _ _ ?_
        clear hK K
        have hz8 := hf.2.size
        replace k6 := k6.step hf.2
        replace hS := hS.trans (hf.2.mono hS.size)
        refine ⟨hS, ?_⟩
        have ho8 := owns_le hf.1 (show w.heap.size + 1 ≤ u5.heap.size by omega)
        clear hf
        have hz0_ := hS.size
        refine wpMix_c (fun K hK => ?_) hS
        go_simp
        refine (rleaf_any yy Ai' yy.length ci' u5a ((hsl'.step hS).all) (by have := HY.out; omega)).mono ?_
        rintro e u5aa ⟨v9, rfl, hf⟩
        refine hK _ _ ?_
        clear hK K
        have hz8 := hf.2.size
        replace k6 := k6.step hf.2
        replace hS := hS.trans (hf.2.mono hS.size)
        refine ⟨hS, ?_⟩
        have ho9 := owns_le hf.1 (show w.heap.size + 1 ≤ u5a.heap.size by omega)
        replace ho8 := owns_step ho8 hf.2
        clear hf
        obtain ⟨A8, c8, rfl, -⟩ := owns_slv ho8
        obtain ⟨A9, c9, rfl, -⟩ := owns_slv ho9
        refine wpMix_v (by kernel_rfl) (.agg #[.slice A8 (leafD xx).length c8, .slice A9 (leafD yy).length c9]) (fun s => by kernel_rfl) ?_
        simp only [Act.put]
        refine wpMix_nil ?_
        intro _
        simp only [List.drop_succ_cons, List.drop_zero]
        refine wpList_clset (.tmp 6) (.tmp 100) rfl rfl k6 rfl rfl rfl rfl ?_
        intro W7 k6s hb19 hW7
        have hgr : u5aa.grownBy W7 (some w.heap.size) := by rw [hW7]; exact grown_setRow (grown_of_below (Below.refl _ _) _) _
        replace ho8 := ho8.kept hgr (.inr fun e => by have := (ho8.lt _ e).1; omega)
        replace ho9 := ho9.kept hgr (.inr fun e => by have := (ho9.lt _ e).1; omega)
        have hbE := (hbr.trans (hS.mono hbr.size)).trans (hb19.mono (Nat.le_refl _))
        clear hW7 hgr
        simp only [Act.put]
        go_wp2_with fail
        refine np_normal ?_
        go_wp2_with fail
        exact ⟨bodyPost_ret (ret_clash2 rfl rfl k6s) rfl ⟨_, rfl, ⟨_, _, rfl, owns_le ho8 (Nat.le_succ _), owns_le ho9 (Nat.le_succ _)⟩, hbE⟩⟩
end Go.Proofs.Ytonidnfgneokbaa
