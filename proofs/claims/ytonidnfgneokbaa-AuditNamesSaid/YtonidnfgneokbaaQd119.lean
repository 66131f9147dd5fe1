/- audit.split, tree.root. -/
import Derived.Test.YtonidnfgneokbaaQd118
namespace Go.Proofs.Ytonidnfgneokbaa
open Go Go.RowKit Go.Shelf
attribute [local go_sem] Oper.semAt_some

theorem run_build_pair (x y : List UInt8) (hx : x.length = 32) (hy : y.length = 32) (W : World) : (Instr.build 139 #[(0, .agg (x.map B).toArray), (1, .agg (y.map B).toArray)]).run Try.prog W = .ok (.agg ((x ++ y).map B).toArray) W := by
  refine run_build W 139 _ _ ?_
  obtain ⟨it, hit⟩ : ∃ i, Try.prog.info? 139 = some i := Option.isSome_iff_exists.1 (by kernel_rfl)
  obtain ⟨ie, hie⟩ : ∃ i, Try.prog.info? 25 = some i := Option.isSome_iff_exists.1 (by kernel_rfl)
  have hz : it.zero = some (.agg ((List.replicate 64 (0 : UInt8)).map B).toArray) := by
    have : (Try.prog.info? 139).bind (·.zero) = some (.agg ((List.replicate 64 (0 : UInt8)).map B).toArray) := by kernel_rfl
    rw [hit] at this; exact this
  have hs : ie.size = 32 := by
    have : (Try.prog.info? 25).map (·.size) = some 32 := by kernel_rfl
    rw [hie] at this; exact Option.some.inj this
  have hu : Try.prog.underlying 139 = some (.array 2 25) := by kernel_rfl
  unfold Program.built
  simp only [hit, hu, hz, hie, hs]
  have hc : ∀ v ∈ [Value.agg (x.map B).toArray, Value.agg (y.map B).toArray], v.cells.size = 32 := by
    intro v hv
    simp only [List.mem_cons, List.not_mem_nil, or_false] at hv
    rcases hv with rfl | rfl <;> simp [Value.cells, hx, hy]
  have := Great.fill_whole (s := 32) (by decide) [Value.agg (x.map B).toArray, Value.agg (y.map B).toArray] (Value.agg ((List.replicate 64 (0 : UInt8)).map B).toArray).cells hc (by simp [Value.cells])
  refine Eq.trans this ?_
  simp [Value.cells]
theorem run_build_pair_op {ρ : Operand → Value} {o : Oper} (x y : List UInt8) (hx : x.length = 32) (hy : y.length = 32) (a b : Operand) (ho : o.op = .build 139 #[(0, a), (1, b)]) (ha : ρ a = .agg (x.map B).toArray) (hb : ρ b = .agg (y.map B).toArray) (W : World) :
    (execOp ρ o).run Try.prog W = .ok (.value (.agg ((x ++ y).map B).toArray)) W := by
  unfold execOp
  have hm : (#[(0, a), (1, b)] : Array (Nat × Operand)).map (fun (i, x) => (i, ρ x)) = #[(0, .agg (x.map B).toArray), (1, .agg (y.map B).toArray)] := by simp [ha, hb]
  simp only [ho, Sem.run_bind, Sem.run_pure, hm, run_build_pair x y hx hy W, Result.andThen_ok]

set_option maxHeartbeats 1000000 in
theorem asplit_any (m : Nat) (w : World) (h2 : 2 ≤ m) (hm : m ≤ 1099511627776) :
    Calls Try.prog 99 #[.int .i64 (m : Int)] w fun e w' => e = .returned (.int .i64 (splitN m : Int)) ∧ w' = w := by
  obtain ⟨s, hs⟩ : ∃ s, splitN m = s := ⟨_, rfl⟩
  have hsl := splitN_lt m h2
  have Hs := Lib.hid hs
  rw [hs] at hsl ⊢
  clear hs
  go_enter Try.func99, Try.ntmps99
  go_wp2_with fail
  go_loop [3] (fun v => ∃ j k : Nat, 1 ≤ k ∧ k < m ∧ k = 2 ^ j ∧ v = .int .i64 (k : Int)) (fun v => m - (intOf v).toNat)
  case atStart => exact ⟨0, 1, by omega, by omega, rfl, rfl⟩
  case round =>
    obtain ⟨j, k, hk1, hkm, hk, rfl⟩ := hrel
    have hsh : IntKind.i64.wrap ((k : Int) * 2) = ((2 * k : Nat) : Int) := by rw [IntWalk.i64_in _ (by omega)]; omega
    by_cases hlt : 2 * k < m
    · have Hk := Lib.hid hk
      clear hk
      have hd : decide (((2 * k : Nat) : Int) < (m : Int)) = true := by simp; omega
      go_wp2_with fail
      go_round
      case rel => exact ⟨j + 1, 2 * k, by omega, by omega, by rw [Nat.pow_succ, Hk.out]; omega, by go_num⟩
      case measure => simp [intOf]; omega
    · have hks : s = k := by rw [← Hs.out, splitN_eq m j (by omega) (by rw [Nat.pow_succ]; omega), hk]
      subst hks
      clear hk
      have hd : decide (((2 * s : Nat) : Int) < (m : Int)) = false := by simp; omega
      go_wp2_with fail
      go_ret
      exact ⟨rfl, rfl⟩

set_option maxHeartbeats 4000000 in
set_option maxRecDepth 100000 in
theorem troot13_rec {f : Nat} {H : Hf} (hF : HFn f H) (D : Nat) : ∀ (ls : List (List UInt8)) (A : Option Addr) (n c : Nat) (w : World), n ≤ D → Es w (fun _ => True) A n c ls → n ≤ 1099511627776 → (∀ x ∈ ls, x.length ≤ 1000000000) →
    Calls Try.prog 90 #[.agg #[hval f], .slice A n c] w fun e w' => e = .returned (.agg ((rootA H ls).map B).toArray) ∧ Below w.heap.size w w' := by
  induction D with
  | zero => ?z
  | succ D ih => ?s
  all_goals
    intro ls A n c w hD h hn hx
    have hlen := h.len
    have hroom := h.room
    have hmx := h.max
    unfold maxLen at hmx
    have henter := hF.enter
    have hlr := length_rootA H hF.len ls
    obtain ⟨w0, hw0⟩ : ∃ w0, w.alloc (.cells #[hval f] 123) = w0 := ⟨_, rfl⟩
    have hb0 : Below w.heap.size w w0 := by rw [← hw0]; exact (Below.refl _ _).alloc (Nat.le_refl _) _
    have k2 : Blk w0 w.heap.size 123 #[hval f] := by rw [← hw0]; exact Blk.new _ _ _
    have Hw0 := Lib.hid hw0
    clear hw0
  case z =>
    obtain rfl : n = 0 := by omega
    obtain rfl : ls = [] := List.length_eq_zero_iff.1 hlen
    rw [rootA_nil] at hlr ⊢
    have hcall := hF.call [] none 0 0
    obtain ⟨r, hr⟩ : ∃ r, H [] = r := ⟨_, rfl⟩
    rw [hr] at hlr hcall ⊢
    have Hlr := Lib.hid hlr
    have Hcall := Lib.hid hcall
    clear hr hcall hlr hF hx h
    go_enter Try.func90, Try.ntmps90
    go_wp2_with ((with_reducible show wpList _ _ _ (⟨some 4, .alloc _, _, _, _, _⟩ :: _) _ _); rw [Hw0.out]; refine wpList_hnew rfl rfl ?_; intro w1 k4 hb01; have c2 : w1.cell? ⟨w.heap.size, 0, none⟩ = some (hval f) := (by rw [(k2.step hb01).cell]; rfl); simp only [Act.put])
    obtain ⟨g4, hg4⟩ : ∃ g, w0.heap.size = g := ⟨_, rfl⟩
    try rw [hg4] at k4 ⊢
    have hgl : w.heap.size < g4 := by rw [← hg4]; exact k2.lt
    replace k2 := k2.step hb01
    have hb1 := hb0.trans (hb01.mono hb0.size)
    have hS : Below g4 w1 w1.drew := (Below.refl _ _).drew
    have hg41 := k4.lt
    clear hS
    refine (Hcall.out w1 Sl.nil (by decide)).mono ?_
    rintro e w2 ⟨rfl, hb2⟩
    replace k4 := k4.step hb2
    go_wp2_with ((with_reducible show wpList _ _ _ (⟨none, .store _ _ _, _, _, _, _⟩ :: _) _ _); refine wpList_hset2 (.tmp 4) (.tmp 29) rfl rfl k4 rfl rfl Hlr.out ?_; intro w3 k4s hb3 _; simp only [Act.put])
    exact bodyPost_ret (ret_hash rfl rfl k4s) rfl ⟨rfl, (hb1.trans (hb2.mono hb1.size)).trans (hb3.mono (by omega))⟩
  case s =>
    by_cases h0 : n = 0
    · subst h0
      obtain rfl : ls = [] := List.length_eq_zero_iff.1 hlen
      rw [rootA_nil] at hlr ⊢
      clear ih
      have hcall := hF.call [] none 0 0
      obtain ⟨r, hr⟩ : ∃ r, H [] = r := ⟨_, rfl⟩
      rw [hr] at hlr hcall ⊢
      have Hlr := Lib.hid hlr
      have Hcall := Lib.hid hcall
      clear hr hcall hlr hF hx h
      go_enter Try.func90, Try.ntmps90
      go_wp2_with ((with_reducible show wpList _ _ _ (⟨some 4, .alloc _, _, _, _, _⟩ :: _) _ _); rw [Hw0.out]; refine wpList_hnew rfl rfl ?_; intro w1 k4 hb01; have c2 : w1.cell? ⟨w.heap.size, 0, none⟩ = some (hval f) := (by rw [(k2.step hb01).cell]; rfl); simp only [Act.put])
      obtain ⟨g4, hg4⟩ : ∃ g, w0.heap.size = g := ⟨_, rfl⟩
      try rw [hg4] at k4 ⊢
      have hgl : w.heap.size < g4 := by rw [← hg4]; exact k2.lt
      replace k2 := k2.step hb01
      have hb1 := hb0.trans (hb01.mono hb0.size)
      have hS : Below g4 w1 w1.drew := (Below.refl _ _).drew
      have hg41 := k4.lt
      clear hS
      refine (Hcall.out w1 Sl.nil (by decide)).mono ?_
      rintro e w2 ⟨rfl, hb2⟩
      replace k4 := k4.step hb2
      go_wp2_with ((with_reducible show wpList _ _ _ (⟨none, .store _ _ _, _, _, _, _⟩ :: _) _ _); refine wpList_hset2 (.tmp 4) (.tmp 29) rfl rfl k4 rfl rfl Hlr.out ?_; intro w3 k4s hb3 _; simp only [Act.put])
      exact bodyPost_ret (ret_hash rfl rfl k4s) rfl ⟨rfl, (hb1.trans (hb2.mono hb1.size)).trans (hb3.mono (by omega))⟩
    by_cases h1 : n = 1
    · subst h1
      rw [rootA_one H ls hlen] at hlr ⊢
      obtain ⟨b, o, rfl, hbb, -, hat⟩ := (h.weak (Y := (· < w.heap.size)) fun b hb _ => hb).at_ (by omega)
      obtain ⟨Ai, ci, hc, hsl⟩ := hat 0 (by omega)
      have hxl : (ls.getD 0 []).length ≤ 1000000000 := hx _ (by rw [List.getD_eq_getElem?_getD, List.getElem?_eq_getElem (by omega)]; exact List.getElem_mem _)
      obtain ⟨e1, he1⟩ : ∃ e, ls.getD 0 [] = e := ⟨_, rfl⟩
      rw [he1] at hlr hc hsl hxl ⊢
      obtain ⟨m, hm⟩ : ∃ m, e1.length = m := ⟨_, rfl⟩
      rw [hm] at hc hsl hxl
      have hlf := fun W (hs : Sl W (fun _ => True) Ai m ci e1) => aleaf_any e1 Ai m ci W hs (by omega)
      have hll : (leafD e1).length = m + 1 := by simp [leafD, hm]
      obtain ⟨q, hq⟩ : ∃ q, leafD e1 = q := ⟨_, rfl⟩
      rw [hq] at hlr hlf hll ⊢
      have hcall := fun A n c W h => hF.call q A n c W h
      obtain ⟨r, hr⟩ : ∃ r, H q = r := ⟨_, rfl⟩
      rw [hr] at hlr hcall ⊢
      have Hlr := Lib.hid hlr
      have Hlf := Lib.hid hlf
      have Hll := Lib.hid hll
      have Hcall := Lib.hid hcall
      clear ih hlen he1 hm hlf hll hq hcall hr hlr hat hx hF
      go_enter Try.func90, Try.ntmps90
      go_wp2_with ((with_reducible show wpList _ _ _ (⟨some 4, .alloc _, _, _, _, _⟩ :: _) _ _); rw [Hw0.out]; refine wpList_hnew rfl rfl ?_; intro w1 k4 hb01; simp only [Act.put])
      obtain ⟨g4, hg4⟩ : ∃ g, w0.heap.size = g := ⟨_, rfl⟩
      try rw [hg4] at k4 ⊢
      have hgl : w.heap.size < g4 := by rw [← hg4]; exact k2.lt
      replace k2 := k2.step hb01
      have hb1 := hb0.trans (hb01.mono hb0.size)
      have hS : Below g4 w1 w1.drew := (Below.refl _ _).drew
      have hg41 := k4.lt
      have cA : ∀ s : InC (fun W => Below g4 w1 W), s.W.cell? ⟨w.heap.size, 0, none⟩ = some (hval f) := fun s => by rw [(k2.below s.ok (by omega)).cell]; rfl
      have hsl1 := (hsl.step hb0).step hb01
      have hc1 : w1.cell? ⟨b, o, none⟩ = some (.slice Ai m ci) := by
        rw [hb01.cell (p := ⟨b, o, none⟩) (by show b < w0.heap.size; have := hb0.size; omega), hb0.cell (p := ⟨b, o, none⟩) hbb]
        exact hc
      have cB : ∀ s : InC (fun W => Below g4 w1 W), s.W.cell? ⟨b, o, none⟩ = some (.slice Ai m ci) := fun s => by rw [s.ok.cell (p := ⟨b, o, none⟩) (by show b < g4; omega)]; exact hc1
      clear hc hc1 hb01 hg4
      refine wp_region_mix (fun W => Below g4 w1 W) [(0, true), (1, true), (2, true), (3, true), (4, true), (5, false), (6, false), (7, false)] (by kernel_rfl) (by kernel_rfl) hS fun _ => ?_
      simp only [List.map_cons, List.map_nil, Array.getD_eq_getD_getElem?, List.getElem?_toArray, List.getElem?_cons_succ, List.getElem?_cons_zero, Option.getD_some]
      have hsd : w1.drew.heap.size = w1.heap.size := rfl
      replace k4 := k4.drew
      generalize w1.drew = u9 at hS k4 hsd ⊢
      refine wpMix_s (fun K hK => ?_)
      go_simp
      refine hK _ ?_
      clear hK K
      refine wpMix_s (fun K hK => ?_)
      go_simp
      refine hK _ ?_
      clear hK K
      refine wpMix_s (fun K hK => ?_)
      go_simp
      refine hK _ ?_
      clear hK K
      refine wpMix_s (fun K hK => ?_)
      go_simp
      refine hK _ ?_
      clear hK K
      refine wpMix_s (fun K hK => ?_)
      go_simp
      refine hK _ ?_
      clear hK K
      have hz9 := hS.size
      refine wpMix_c (fun K hK => ?_) hS
      go_simp
      refine (Hlf.out u9 ((hsl1.below hS (fun b _ hx => Nat.lt_trans hx hgl)).all)).mono ?_
      rintro e u9a ⟨v8, rfl, hf⟩
      refine hK _ _ ?_
      clear hK K
      have hz8 := hf.2.size
      replace k4 := k4.step hf.2
      replace hS := hS.trans (hf.2.mono (by omega))
      refine ⟨hS, ?_⟩
      obtain ⟨A8, c8, rfl, hs8⟩ := hf.sl
      replace hs8 := hs8.all
      rw [Hll.out] at hs8 ⊢
      clear hf
      refine wpMix_c (fun K hK => ?_) hS
      go_simp
      refine (Hcall.out A8 (m + 1) c8 u9a hs8 (by omega)).mono ?_
      rintro e u9aa ⟨rfl, hb'⟩
      refine hK _ _ ?_
      clear hK K
      replace k4 := k4.step hb'
      replace hS := hS.trans (hb'.mono (by omega))
      refine ⟨hS, ?_⟩
      clear hb' hs8
      refine wpMix_hset (.tmp 4) (.tmp 38) rfl rfl k4 rfl rfl Hlr.out (fun _ hb => hS.trans (hb.mono (Nat.le_refl _))) ?_
      intro u9_1 k4s hb' hoth
      simp only [Act.put]
      replace hS := hS.trans (hb'.mono (Nat.le_refl _))
      clear hb' hoth
      refine wpMix_nil ?_
      intro _
      go_wp2_with fail
      exact bodyPost_ret (ret_hash rfl rfl k4s) rfl ⟨rfl, hb1.trans (hS.mono (by omega))⟩
    · have h2 : 2 ≤ n := by omega
      have hkl := splitN_lt n h2
      have hkp := splitN_pos n h2
      rw [rootA_more H ls (by omega), hlen] at hlr ⊢
      have hsp := fun W => asplit_any n W h2 hn
      obtain ⟨k, hk⟩ : ∃ k, splitN n = k := ⟨_, rfl⟩
      rw [hk] at hlr hsp hkl hkp ⊢
      have r1 := fun W (hs : Es W (fun _ => True) A k c (ls.take k)) => ih (ls.take k) A k c W (by omega) hs (by omega) (fun x hx' => hx x (List.mem_of_mem_take hx'))
      have r2 := fun A n' c W (hs : Es W (fun _ => True) A n' c (ls.drop k)) (hl : n' ≤ D) (hl' : n' ≤ 1099511627776) => ih (ls.drop k) A n' c W hl hs hl' (fun x hx' => hx x (List.mem_of_mem_drop hx'))
      have l1 := length_rootA H hF.len (ls.take k)
      have l2 := length_rootA H hF.len (ls.drop k)
      have ht1 := (h.weak (Y := (· < w.heap.size)) fun b hb _ => hb).take k (by omega)
      have ht2 := (h.weak (Y := (· < w.heap.size)) fun b hb _ => hb).drop k (by omega)
      obtain ⟨A2, hA2⟩ : ∃ A2, (if c = k then A else A.map (·.add (k * 1))) = A2 := ⟨_, rfl⟩
      rw [hA2] at ht2
      have HA2 := Lib.hid hA2
      clear hA2
      obtain ⟨x, hx1⟩ : ∃ x, rootA H (ls.take k) = x := ⟨_, rfl⟩
      obtain ⟨y, hy1⟩ : ∃ y, rootA H (ls.drop k) = y := ⟨_, rfl⟩
      rw [hx1] at r1 l1 hlr ⊢
      rw [hy1] at r2 l2 hlr ⊢
      have hnd := fun W => tnode13_any hF x y W l1 l2
      obtain ⟨z, hz⟩ : ∃ z, x ++ y = z := ⟨_, rfl⟩
      rw [hz] at hnd
      have Hz := Lib.hid hz
      clear hz
      obtain ⟨r, hr⟩ : ∃ r, H (nodeD (x, y)) = r := ⟨_, rfl⟩
      rw [hr] at hlr hnd ⊢
      have Hlr := Lib.hid hlr
      have Hsp := Lib.hid hsp
      have R1 := Lib.hid r1
      have R2 := Lib.hid r2
      have L1 := Lib.hid l1
      have L2 := Lib.hid l2
      have Hnd := Lib.hid hnd
      clear ih hlen hlr hsp hk r1 r2 l1 l2 hx1 hy1 hnd hr hx hF
      go_enter Try.func90, Try.ntmps90
      have he0 : ((n : Int) == 0) = false := by simp; omega
      have he1 : ((n : Int) == 1) = false := by simp; omega
      have he0' : n ≠ 0 := h0
      have he1' : n ≠ 1 := h1
      go_wp2_with ((with_reducible show wpList _ _ _ (⟨some 4, .alloc _, _, _, _, _⟩ :: _) _ _); rw [Hw0.out]; refine wpList_hnew rfl rfl ?_; intro w1 k4 hb01; simp only [Act.put])
      obtain ⟨g4, hg4⟩ : ∃ g, w0.heap.size = g := ⟨_, rfl⟩
      try rw [hg4] at k4 ⊢
      have hgl : w.heap.size < g4 := by rw [← hg4]; exact k2.lt
      replace k2 := k2.step hb01
      have hb1 := hb0.trans (hb01.mono hb0.size)
      have hS : Below g4 w1 w1.drew := (Below.refl _ _).drew
      have hg41 := k4.lt
      refine (Hsp.out w1).mono ?_
      rintro e w1' ⟨rfl, hww⟩
      obtain rfl : w1 = w1' := hww.symm
      replace ht1 := ((ht1.step hb0).step hb01)
      replace ht2 := ((ht2.step hb0).step hb01)
      clear hb01 hg4
      go_wp2_with fail
      refine wp_region_mix (fun W => Below g4 w1 W) [(0, true), (1, true), (2, true), (3, true), (4, true), (6, true), (7, true), (8, true), (9, true), (5, false), (10, false), (11, true), (12, false), (13, false)] (by kernel_rfl) (by kernel_rfl) hS fun _ => ?_
      simp only [List.map_cons, List.map_nil, Array.getD_eq_getD_getElem?, List.getElem?_toArray, List.getElem?_cons_succ, List.getElem?_cons_zero, Option.getD_some]
      have hsd : w1.drew.heap.size = w1.heap.size := rfl
      replace k4 := k4.drew
      generalize w1.drew = u9 at hS k4 hsd ⊢
      refine wpMix_load (by kernel_rfl) 123 (.tmp 2) rfl (w.heap.size) (0) rfl #[hval f] ((fun s => tree_load (k2.below s.ok (by omega)))) ?_
      simp only [Act.put]
      refine wpMix_load (by kernel_rfl) 123 (.tmp 2) rfl (w.heap.size) (0) rfl #[hval f] ((fun s => tree_load (k2.below s.ok (by omega)))) ?_
      simp only [Act.put]
      refine wpMix_s (fun K hK => ?_)
      go_simp
      refine hK _ ?_
      clear hK K
      refine wpMix_s (fun K hK => ?_)
      go_simp
      refine hK _ ?_
      clear hK K
      refine wpMix_v (by kernel_rfl) (.slice A k c) (fun s => run_slice_hiB (.tmp 14) (.tmp 15) rfl A n c k rfl rfl (by omega) s.W) ?_
      simp only [Act.put]
      refine wpMix_load (by kernel_rfl) 123 (.tmp 2) rfl (w.heap.size) (0) rfl #[hval f] ((fun s => tree_load (k2.below s.ok (by omega)))) ?_
      simp only [Act.put]
      refine wpMix_s (fun K hK => ?_)
      go_simp
      refine hK _ ?_
      clear hK K
      refine wpMix_s (fun K hK => ?_)
      go_simp
      refine hK _ ?_
      clear hK K
      refine wpMix_v (by kernel_rfl) (.slice A2 (n - k) (c - k)) (fun s => by rw [← HA2.out]; exact run_slice_loB (.tmp 19) (.tmp 20) rfl A n c k rfl rfl (by omega) s.W) ?_
      simp only [Act.put]
      have hz9 := hS.size
      refine wpMix_c (fun K hK => ?_) hS
      go_simp
      refine (R1.out u9 ((ht1.below hS (fun b _ hx => Nat.lt_trans hx hgl)).all)).mono ?_
      rintro e u9a ⟨rfl, hb'⟩
      refine hK _ _ ?_
      clear hK K
      have hz8 := hb'.size
      replace k4 := k4.step hb'
      replace hS := hS.trans (hb'.mono (by omega))
      refine ⟨hS, ?_⟩
      clear hb' hz9
      have hz9 := hS.size
      refine wpMix_c (fun K hK => ?_) hS
      go_simp
      refine (R2.out _ _ _ u9a ((ht2.below hS (fun b _ hx => Nat.lt_trans hx hgl)).all) (by omega) (by omega)).mono ?_
      rintro e u9aa ⟨rfl, hb'⟩
      refine hK _ _ ?_
      clear hK K
      have hz8 := hb'.size
      replace k4 := k4.step hb'
      replace hS := hS.trans (hb'.mono (by omega))
      refine ⟨hS, ?_⟩
      clear hb' hz9
      refine wpMix_v (by kernel_rfl) (.agg (z.map B).toArray) (fun s => by rw [← Hz.out]; exact run_build_pair_op x y L1.out L2.out (.tmp 17) (.tmp 22) rfl rfl rfl s.W) ?_
      simp only [Act.put]
      have hz9 := hS.size
      refine wpMix_c (fun K hK => ?_) hS
      go_simp
      refine (Hnd.out u9aa).mono ?_
      rintro e u9aaa ⟨rfl, hb'⟩
      refine hK _ _ ?_
      clear hK K
      have hz8 := hb'.size
      replace k4 := k4.step hb'
      replace hS := hS.trans (hb'.mono (by omega))
      refine ⟨hS, ?_⟩
      clear hb' hz9
      refine wpMix_hset (.tmp 4) (.tmp 24) rfl rfl k4 rfl rfl Hlr.out (fun _ hb => hS.trans (hb.mono (Nat.le_refl _))) ?_
      intro u9_1 k4s hb' hoth
      simp only [Act.put]
      replace hS := hS.trans (hb'.mono (Nat.le_refl _))
      clear hb' hoth
      refine wpMix_nil ?_
      intro _
      go_wp2_with fail
      exact bodyPost_ret (ret_hash rfl rfl k4s) rfl ⟨rfl, hb1.trans (hS.mono (by omega))⟩
end Go.Proofs.Ytonidnfgneokbaa
