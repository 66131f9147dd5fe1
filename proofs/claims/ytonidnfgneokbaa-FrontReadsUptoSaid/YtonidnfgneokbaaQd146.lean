/- notaryref10: Root, Parts. -/
import Derived.Test.YtonidnfgneokbaaQd145
namespace Go.Proofs.Ytonidnfgneokbaa
open Go Go.RowKit Go.Shelf
attribute [local go_sem] Oper.semAt_some

theorem rootG_drop (ps : FrV) (j : Nat) (h : j + 1 < ps.length) : rootG (ps.drop j) = hNode (ps.getD j (0, [])).2 (rootG (ps.drop (j + 1))) := by
  rw [drop_atF (0, []) ps j (by omega), drop_atF (0, []) ps (j + 1) h]
  rfl
theorem rootG_last (ps : FrV) (j : Nat) (h : j + 1 = ps.length) : rootG (ps.drop j) = (ps.getD j (0, [])).2 := by
  rw [drop_atF (0, []) ps j (by omega), List.drop_of_length_le (by omega)]
  rfl
theorem of_none (w : World) : Calls Try.prog 102 #[.slice none 0 0] w fun e w' => e = .returned (.agg (hEmpty.map B).toArray) ∧ Below w.heap.size w w' := hrof_any [] none 0 0 w Sl.nil (by omega)
set_option maxHeartbeats 4000000 in
set_option maxRecDepth 100000 in
theorem rfroot_nil (w : World) : Calls Try.prog 126 #[.pointer none] w fun e w' => e = .returned (.agg ((List.replicate 32 (0 : UInt8)).map B).toArray) ∧ Below w.heap.size w w' := by
  have h32 : (List.replicate 32 (0 : UInt8)).length = 32 := rfl
  obtain ⟨z, hz⟩ : ∃ z, List.replicate 32 (0 : UInt8) = z := ⟨_, rfl⟩
  rw [hz] at h32 ⊢
  have Hz := Lib.hid hz
  clear hz
  go_enter Try.func126, Try.ntmps126
  go_wp2_with (first
    | ((with_reducible show wpList _ _ _ (⟨some 2, .alloc _, _, _, _, _⟩ :: _) _ _); refine wpList_hnew rfl rfl ?_; intro w1 k2 hb1; simp only [Act.put])
    | ((with_reducible show wpList _ _ _ (⟨some 7, .build _ _, _, _, _, _⟩ :: _) _ _); refine wpList_run0 rfl (.agg (z.map B).toArray) (by rw [← Hz.out]; kernel_rfl) ?_; simp only [Act.put])
    | ((with_reducible show wpList _ _ _ [⟨none, .store _ (.tmp 2) _, _, _, _, _⟩] _ _); refine wpList_hset (.tmp 2) (.tmp 7) rfl rfl k2 rfl rfl h32 ?_; intro w2 k2b hb2 hW2; clear hW2; simp only [Act.put]))
  exact bodyPost_ret (ret_hash rfl rfl k2b) rfl ⟨rfl, hb1.trans hb2⟩
set_option maxHeartbeats 4000000 in
set_option maxRecDepth 100000 in
theorem rfroot_any (g : Nat) (ps : FrV) (w : World) (h : FrP w g ps) (hm63 : ps.length ≤ 63) : Calls Try.prog 126 #[fptr g] w fun e w' => e = .returned (.agg ((rootG ps).map B).toArray) ∧ Below w.heap.size w w' := by
  have h32 := h.all
  obtain ⟨A, n, c, hk, hP⟩ := h.ex
  have hlen : ps.length = n := by rw [← hP.len, length_fpq]
  have hkg := hk.lt
  have hrl := length_rootG ps h32
  obtain ⟨res, hres⟩ : ∃ r, rootG ps = r := ⟨_, rfl⟩
  rw [hres] at hrl ⊢
  have Hres := Lib.hid hres
  have Hk := Lib.hid hk
  rcases Nat.eq_zero_or_pos n with rfl | hn0
  · obtain rfl : ps = [] := List.eq_nil_of_length_eq_zero hlen
    have hcall := fun W => of_none W
    rw [show hEmpty = res from hres] at hcall
    have Hcall := Lib.hid hcall
    clear hcall hres h hP hk hlen
    go_enter Try.func126, Try.ntmps126
    go_wp2_with (first
      | ((with_reducible show wpList _ _ _ (⟨some 2, .alloc _, _, _, _, _⟩ :: _) _ _); refine wpList_hnew rfl rfl ?_; intro w1 k2 hb1; have c11 : w1.cell? ⟨g, 0, none⟩ = some (.slice A 0 c) := (by rw [(Hk.out.step hb1).cell]; rfl); simp only [Act.put])
      | (go_at_call 102; refine (Hcall.out w1).mono ?_; rintro e w2 ⟨rfl, hb2⟩; replace k2 := k2.step hb2)
      | ((with_reducible show wpList _ _ _ [⟨none, .store _ (.tmp 2) _, _, _, _, _⟩] _ _); refine wpList_hset (.tmp 2) (.tmp 14) rfl rfl k2 rfl rfl hrl ?_; intro w3 k2b hb3 hW2; clear hW2; simp only [Act.put]))
    exact bodyPost_ret (ret_hash rfl rfl k2b) rfl ⟨rfl, (hb1.trans (hb2.mono hb1.size)).trans hb3⟩
  · obtain ⟨m, rfl⟩ : ∃ m, n = m + 1 := ⟨n - 1, by omega⟩
    have hne0 : (((m + 1 : Nat) : Int) == 0) = false := by simp; omega
    have hne0' : ((m : Int) + 1 == 0) = false := by simp; omega
    obtain ⟨b, o, rfl, hbw, -⟩ := hP.at_ (by omega)
    have hroom := hP.sl.room
    have hmx := hP.sl.max
    unfold maxLen at hmx
    have hw1 : IntKind.i64.wrap ((m : Int) + 1 - 1) = (m : Int) := by rw [IntWalk.i64_in _ (by omega)]; omega
    have hw2 : IntKind.i64.wrap ((m : Int) + 1 - 2) = (m : Int) - 1 := by rw [IntWalk.i64_in _ (by omega)]; omega
    have hmm : (m : Int) < (m : Int) + 1 := by omega
    have hwm : IntKind.i64.wrap (m : Int) = (m : Int) := IntWalk.i64_in _ (by omega)
    have hhs := fun W (hb : Below w.heap.size w W) => (hP.step hb).hash rfl m (Nat.lt_succ_self m)
    rw [fpq_getD ps m (by omega), ← rootG_last ps m (by omega)] at hhs
    have HP := Lib.hid hP
    have hll := length_rootG (ps.drop m) (fun p hp => h32 p (List.mem_of_mem_drop hp))
    have Hhs := Lib.hid hhs
    have H32 := Lib.hid h32
    have Hlen := Lib.hid hlen
    obtain ⟨last, hlast⟩ : ∃ x, rootG (ps.drop m) = x := ⟨_, rfl⟩
    have Hlast := Lib.hid hlast
    have hhs2 : ∀ W, Below w.heap.size w W → (Instr.loadAt 25 (.pointer (some ⟨b, o + m * 33 + 1, none⟩))).run Try.prog W = .ok (.agg (last.map B).toArray) W := fun W hb => by have := hhs W hb; rw [hlast] at this; exact this
    have Hhs2 := Lib.hid hhs2
    rw [hlast] at hll
    clear hhs hhs2 hP h hk h32 hlen hlast hres Hhs
    go_enter Try.func126, Try.ntmps126
    go_wp2_with ((with_reducible show wpList _ _ _ (⟨some 2, .alloc _, _, _, _, _⟩ :: _) _ _); refine wpList_hnew rfl rfl ?_; intro w1 k2 hb1; have c11 : w1.cell? ⟨g, 0, none⟩ = some (.slice (some ⟨b, o, none⟩) (m + 1) c) := (by rw [(Hk.out.step hb1).cell]; rfl); simp only [Act.put])
    have c18 : ∀ s : InC (fun W => Below w1.heap.size w1 W), s.W.cell? ⟨g, 0, none⟩ = some (.slice (some ⟨b, o, none⟩) (m + 1) c) := fun s => by rw [((Hk.out.step hb1).step s.ok).cell]; rfl
    have hS : Below w1.heap.size w1 w1.drew := (Below.refl _ _).drew
    refine wp_region_mix_tail (fun W => Below w1.heap.size w1 W) 14 [(0, true), (1, true), (2, true), (3, true), (4, true), (5, true), (6, true), (7, true), (8, true), (9, true), (10, true), (11, true), (12, true), (13, false)] (by kernel_rfl) (by kernel_rfl) hS fun _ => ?_
    simp only [List.map_cons, List.map_nil, Array.getD_eq_getD_getElem?, List.getElem?_toArray, List.getElem?_cons_succ, List.getElem?_cons_zero, Option.getD_some]
    generalize w1.drew = u2 at hS ⊢
    refine wpMix_s (fun K hK => ?_)
    go_simp
    refine hK _ ?_
    clear hK K
    refine wpMix_s (fun K hK => ?_)
    go_simp
    refine hK _ ?_
    clear hK K
    refine wpMix_s (fun K hK => ?_)
    go_simp
    refine hK _ ?_
    clear hK K
    refine wpMix_s (fun K hK => ?_)
    go_simp
    refine hK _ ?_
    clear hK K
    refine wpMix_s (fun K hK => ?_)
    go_simp
    refine hK _ ?_
    clear hK K
    refine wpMix_s (fun K hK => ?_)
    go_simp
    refine hK _ ?_
    clear hK K
    refine wpMix_s (fun K hK => ?_)
    go_simp
    refine hK _ ?_
    clear hK K
    refine wpMix_s (fun K hK => ?_)
    go_simp
    refine hK _ ?_
    clear hK K
    refine wpMix_s (fun K hK => ?_)
    go_simp
    refine hK _ ?_
    clear hK K
    refine wpMix_s (fun K hK => ?_)
    go_simp
    refine hK _ ?_
    clear hK K
    refine wpMix_s (fun K hK => ?_)
    go_simp
    refine hK _ ?_
    clear hK K
    refine wpMix_s (fun K hK => ?_)
    go_simp
    refine hK _ ?_
    clear hK K
    refine wpMix_load (by kernel_rfl) 25 (.tmp 26) rfl (b) (o + m * 33 + 1) rfl (last.map B).toArray ((fun s => Hhs2.out s.W (hb1.trans (s.ok.mono hb1.size)))) ?_
    simp only [Act.put]
    have k3g := hS.size
    refine wpMix_hnew rfl rfl (fun _ hb => hS.trans (hb.mono hS.size)) ?_
    intro u2_1 k3 hb'
    simp only [Act.put]
    replace hS := hS.trans (hb'.mono hS.size)
    clear hb'
    refine wpMix_nil ?_
    intro _
    simp only [List.drop_succ_cons, List.drop_zero]
    have k2s := k2.step hS
    have hwk2 := k2.lt
    go_wp2_with ((with_reducible show wpList _ _ _ [⟨none, .store _ (.tmp 3) _, _, _, _, _⟩] _ _); refine wpList_hset (.tmp 3) (.tmp 27) rfl rfl k3 rfl rfl hll ?_; intro w5 k3b hb5 hW5; clear hW5; simp only [Act.put])
    have hbel5 := ((hb1.trans (hS.mono hb1.size)).trans (hb5.mono (Nat.le_trans hb1.size k3g)))
    have c31 : w5.cell? ⟨g, 0, none⟩ = some (.slice (some ⟨b, o, none⟩) (m + 1) c) := by rw [(Hk.out.below hbel5 hkg).cell]; rfl
    refine np_normal ?_
    go_wp2_with fail
    have k25 : HV w5 w.heap.size (List.replicate 32 0) := k2s.far hb5 (Nat.lt_of_lt_of_le hwk2 k3g)
    have hwb : w.heap.size < u2.heap.size := Nat.lt_of_lt_of_le hwk2 k3g
    obtain ⟨b3, hb3e⟩ : ∃ x, u2.heap.size = x := ⟨_, rfl⟩
    rw [hb3e] at k3b hwb ⊢
    clear k2s hb3e k3 hb5 hS k2 hb1 hwk2 k3g c31 Hhs2
    go_loopw [4] (fun v4 wr => ∃ j : Nat, j ≤ m ∧ v4 = .int .i64 ((j : Int) - 1) ∧ HV wr b3 (rootG (ps.drop j)) ∧ HV wr w.heap.size (List.replicate 32 0) ∧ Below w.heap.size w wr) (fun v4 _ => (intOf v4 + 1).toNat)
    case atStart => exact ⟨m, Nat.le_refl _, rfl, by rw [Hlast.out]; exact k3b, k25, hbel5⟩
    case round =>
      clear k3b k25 hbel5
      obtain ⟨j, hj, rfl, k3, k2, hbel⟩ := hrel
      rcases Nat.eq_zero_or_pos j with rfl | hjp
      · rw [List.drop_zero, Hres.out] at k3
        go_wp2_with (first
          | ((with_reducible show wpList _ _ _ (⟨some 48, .load _ _, _, _, _, _⟩ :: _) _ _); refine wpList_hload (.tmp 3) (by kernel_rfl) rfl k3 rfl ?_; simp only [Act.put])
          | ((with_reducible show wpList _ _ _ [⟨none, .store _ (.tmp 2) _, _, _, _, _⟩] _ _); refine wpList_hset (.tmp 2) (.tmp 48) rfl rfl k2 rfl rfl hrl ?_; intro w7 k2b hb7 hW2; clear hW2; simp only [Act.put]))
        exact bodyPost_ret (ret_hash rfl rfl k2b) rfl ⟨rfl, hbel.trans hb7⟩
      · obtain ⟨l, rfl⟩ : ∃ l, j = l + 1 := ⟨j - 1, by omega⟩
        have hll' : ((l + 1 : Nat) : Int) - 1 = (l : Int) := by omega
        rw [hll']
        have hwl : IntKind.i64.wrap ((l : Int) - 1) = (l : Int) - 1 := IntWalk.i64_in _ (by omega)
        have hge : decide ((0 : Int) ≤ (l : Int)) = true := by simp
        have hlm : (l : Int) < (m : Int) + 1 := by omega
        have hrd := rootG_drop ps l (by rw [Hlen.out]; omega)
        have hhs := fun W (hb : Below wr.heap.size wr W) => ((HP.out.step hbel).step hb).hash rfl l (by omega)
        have hxl := (H32.out : F32 ps)
        have hx32 : (ps.getD l (0, [])).2.length = 32 := by
          rw [List.getD_eq_getElem?_getD, List.getElem?_eq_getElem (by rw [Hlen.out]; omega)]
          exact hxl _ (List.getElem_mem _)
        rw [fpq_getD ps l (by rw [Hlen.out]; omega)] at hhs
        have hhs : ∀ W, Below wr.heap.size wr W → (Instr.loadAt 25 (.pointer (some ⟨b, o + l * 33 + 1, none⟩))).run Try.prog W = .ok (.agg ((ps.getD l (0, [])).2.map B).toArray) W := hhs
        obtain ⟨x, hx⟩ : ∃ x, (ps.getD l (0, [])).2 = x := ⟨_, rfl⟩
        rw [hx] at hhs hrd hx32
        obtain ⟨cur, hcur⟩ : ∃ x, rootG (ps.drop (l + 1)) = x := ⟨_, rfl⟩
        rw [hcur] at hrd k3
        have hcl := k3.len
        have hnl := length_hNode x cur
        have hcm := fun W => hrnode_any x cur W hx32 hcl
        obtain ⟨nx, hnx⟩ : ∃ n, hNode x cur = n := ⟨_, rfl⟩
        rw [hnx] at hrd hnl hcm
        have Hhs := Lib.hid hhs
        have Hrd := Lib.hid hrd
        have Hcm := Lib.hid hcm
        clear hhs hrd hcm hnx hcur hx hxl
        have c41 : ∀ s : InC (fun W => Below wr.heap.size wr W), s.W.cell? ⟨g, 0, none⟩ = some (.slice (some ⟨b, o, none⟩) (m + 1) c) := fun s => by rw [((Hk.out.below hbel hkg).step s.ok).cell]; rfl
        go_wp2_with fail
        have hS : Below wr.heap.size wr wr.drew := (Below.refl _ _).drew
        refine wp_region_mix_tail (fun W => Below wr.heap.size wr W) 10 [(0, true), (1, true), (2, true), (3, true), (4, true), (5, true), (6, true), (7, true), (8, true), (9, false)] (by kernel_rfl) (by kernel_rfl) hS fun _ => ?_
        simp only [List.map_cons, List.map_nil, Array.getD_eq_getD_getElem?, List.getElem?_toArray, List.getElem?_cons_succ, List.getElem?_cons_zero, Option.getD_some]
        generalize wr.drew = u4 at hS ⊢
        refine wpMix_s (fun K hK => ?_)
        go_simp
        refine hK _ ?_
        clear hK K
        refine wpMix_s (fun K hK => ?_)
        go_simp
        refine hK _ ?_
        clear hK K
        refine wpMix_s (fun K hK => ?_)
        go_simp
        refine hK _ ?_
        clear hK K
        refine wpMix_s (fun K hK => ?_)
        go_simp
        refine hK _ ?_
        clear hK K
        refine wpMix_s (fun K hK => ?_)
        go_simp
        refine hK _ ?_
        clear hK K
        refine wpMix_s (fun K hK => ?_)
        go_simp
        refine hK _ ?_
        clear hK K
        refine wpMix_s (fun K hK => ?_)
        go_simp
        refine hK _ ?_
        clear hK K
        refine wpMix_load (by kernel_rfl) 25 (.tmp 44) rfl (b) (o + l * 33 + 1) rfl (x.map B).toArray ((fun s => Hhs.out s.W s.ok)) ?_
        simp only [Act.put]
        refine wpMix_load (by kernel_rfl) 25 (.tmp 3) rfl (b3) (0) rfl (cur.map B).toArray ((fun s => (k3.step s.ok).load)) ?_
        simp only [Act.put]
        refine wpMix_c (fun K hK => ?_) hS
        go_simp
        refine (Hcm.out u4).mono ?_
        rintro e u4_1 ⟨rfl, hb'⟩
        refine hK _ _ ?_
        clear hK K
        replace hS := hS.trans (hb'.mono hS.size)
        refine ⟨hS, ?_⟩
        clear hb'
        refine wpMix_nil ?_
        intro _
        simp only [List.drop_succ_cons, List.drop_zero]
        have k3s := k3.step hS
        have k2s := k2.step hS
        go_wp2_with ((with_reducible show wpList _ _ _ [⟨none, .store _ (.tmp 3) _, _, _, _, _⟩] _ _); refine wpList_hset (.tmp 3) (.tmp 47) rfl rfl k3s rfl rfl hnl ?_; intro w7 k3c hb7 hW2; clear hW2; simp only [Act.put])
        refine np_normal ?_
        go_wp2_with fail
        go_roundw
        case rel => exact ⟨l, by omega, rfl, by rw [Hrd.out]; exact k3c, k2s.far hb7 hwb, (hbel.trans (hS.mono hbel.size)).trans (hb7.mono (Nat.le_of_lt hwb))⟩
        case measure => simp [intOf] <;> omega
end Go.Proofs.Ytonidnfgneokbaa
