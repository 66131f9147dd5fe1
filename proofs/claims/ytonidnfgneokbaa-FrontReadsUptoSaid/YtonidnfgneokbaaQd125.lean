/- (*Front).Grow. -/
import Derived.Test.YtonidnfgneokbaaQd124
namespace Go.Proofs.Ytonidnfgneokbaa
open Go Go.RowKit Go.Shelf
attribute [local go_sem] Oper.semAt_some

theorem i64_and_natF (a b : Nat) (ha : a < 9223372036854775808) (hb : b < 9223372036854775808) : bits .and .i64 (a : Int) (b : Int) = ((a &&& b : Nat) : Int) := by
  have h1 : a &&& b < 2 ^ 63 := Nat.lt_of_le_of_lt Nat.and_le_left (by omega)
  show IntKind.i64.wrap ((BitVec.ofInt 64 (a : Int) &&& BitVec.ofInt 64 (b : Int)).toNat : Int) = _
  have e1 : (BitVec.ofInt 64 (a : Int)).toNat = a := by rw [BitVec.toNat_ofInt]; omega
  have e2 : (BitVec.ofInt 64 (b : Int)).toNat = b := by rw [BitVec.toNat_ofInt]; omega
  rw [BitVec.toNat_and, e1, e2, IntKind.wrap_i64]
  omega
set_option maxHeartbeats 4000000 in
set_option maxRecDepth 100000 in
theorem fgrow_nil (lv : Int) (x : List UInt8) (w : World) : Calls Try.prog 51 #[.pointer none, .int .i64 lv, .agg (x.map B).toArray] w fun e w' => e = .returned (.int .i64 1) ∧ Below w.heap.size w w' := by
  obtain ⟨w0, hw0⟩ : ∃ w0, w.alloc (.cells (x.map B).toArray 25) = w0 := ⟨_, rfl⟩
  have hb0 : Below w.heap.size w w0 := by rw [← hw0]; exact (Below.refl _ _).alloc (Nat.le_refl _) _
  have Hw0 := Lib.hid hw0
  clear hw0
  go_enter Try.func51, Try.ntmps51
  go_wp2_with (rw [Hw0.out])
  go_ret
  exact ⟨rfl, hb0⟩
set_option maxHeartbeats 4000000 in
set_option maxRecDepth 100000 in
theorem fgrow_any (g : Nat) (ps : FrV) (lv : Int) (x : List UInt8) (w : World) (h : FrO w g ps) (ho : FrOk ps) (hx : x.length = 32) :
    Calls Try.prog 51 #[fptr g, .int .i64 lv, .agg (x.map B).toArray] w fun e w' => e = .returned (.int .i64 (growE ps lv x).2) ∧ FrO w' g (growE ps lv x).1 ∧ w.grownBy w' (some g) := by
  obtain ⟨w0, hw0⟩ : ∃ w0, w.alloc (.cells (x.map B).toArray 25) = w0 := ⟨_, rfl⟩
  have hb0 : Below w.heap.size w w0 := by rw [← hw0]; exact (Below.refl _ _).alloc (Nat.le_refl _) _
  have k5 : HV w0 w.heap.size x := ⟨by rw [← hw0]; exact Blk.new _ _ _, hx⟩
  have h0 := h.step hb0
  have Hw0 := Lib.hid hw0
  have Ho := Lib.hid ho
  clear hw0 h ho
  obtain ⟨res, hres⟩ : ∃ r, growE ps lv x = r := ⟨_, rfl⟩
  rw [hres]
  unfold growE at hres
  rcases Int.lt_or_le lv 0 with hneg | hpos
  · rw [if_pos (.inl hneg)] at hres
    subst hres
    have hd : decide (lv < 0) = true := by simp; omega
    go_enter Try.func51, Try.ntmps51
    go_wp2_with (rw [Hw0.out])
    go_ret
    exact ⟨rfl, h0, grown_of_below hb0 _⟩
  have hd0 : decide (lv < 0) = false := by simp; omega
  have hd0' : ¬ lv < 0 := by omega
  rcases Int.lt_or_le 62 lv with hbig | hsm
  · rw [if_pos (.inr hbig)] at hres
    subst hres
    have hd : decide (62 < lv) = true := by simp; omega
    go_enter Try.func51, Try.ntmps51
    go_wp2_with (rw [Hw0.out])
    go_ret
    exact ⟨rfl, h0, grown_of_below hb0 _⟩
  have hd1 : decide (62 < lv) = false := by simp; omega
  have hd1' : ¬ 62 < lv := by omega
  obtain ⟨l, rfl⟩ : ∃ l : Nat, lv = l := ⟨lv.toNat, by omega⟩
  rw [if_neg (by omega), Int.toNat_natCast] at hres
  have hl : l ≤ 62 := by omega
  have hsz := fun W (hb : Below w0.heap.size w0 W) => fsize_some (h0.step hb) Ho.out
  have htop := Ho.out.top
  have hcm := fun W (hF : FrO W g ps) => fcome_any g ps (l, x) W hF hx hl (by have := Ho.out.len; omega)
  obtain ⟨sz, hsze⟩ : ∃ s, szF ps = s := ⟨_, rfl⟩
  rw [hsze] at hsz htop hres
  have hp62 : 2 ^ l ≤ 2 ^ 62 := Nat.pow_le_pow_right (by decide) hl
  have hp0 := Nat.two_pow_pos l
  have hmod : sz &&& (2 ^ l - 1) = sz % 2 ^ l := Nat.and_two_pow_sub_one_eq_mod sz l
  have hsh : ∀ (ρ : Operand → Value) (o : Oper) (y : Operand) (ty : TypeId) (_ : o.op = .binOp .shl 2 (.const (.int .i64 1)) y ty) (_ : ρ (.const (.int .i64 1)) = .int .i64 1) (_ : ρ y = .int .i64 (l : Int)) (W : World), (execOp ρ o).run Try.prog W = .ok (.value (.int .i64 ((2 ^ l : Nat) : Int))) W := fun ρ o y ty h1 h2 h3 W => by
    have := run_shl1_op y ty l hl h1 h2 h3 W
    rw [show ((2 : Int) ^ l) = ((2 ^ l : Nat) : Int) by simp] at this
    exact this
  obtain ⟨pw, hpw⟩ : ∃ p, 2 ^ l = p := ⟨_, rfl⟩
  rw [hpw] at hp62 hp0 hmod hsh hres
  obtain ⟨md, hmd⟩ : ∃ m, sz % pw = m := ⟨_, rfl⟩
  rw [hmd] at hmod hres
  have hand : bits .and .i64 (sz : Int) ((pw : Int) - 1) = (md : Int) := by
    rw [show (pw : Int) - 1 = ((pw - 1 : Nat) : Int) by omega, i64_and_natF sz (pw - 1) (by omega) (by omega), hmod]
  have hw1 : IntKind.i64.wrap ((pw : Int) - 1) = (pw : Int) - 1 := IntWalk.i64_in _ (by omega)
  have hw2 : IntKind.i64.wrap (9223372036854775807 - (sz : Int)) = 9223372036854775807 - (sz : Int) := IntWalk.i64_in _ (by omega)
  have Hsz := Lib.hid hsz
  have Hsh := Lib.hid hsh
  have Hcm := Lib.hid hcm
  clear hsz hsze hpw hmd hmod hsh hcm Ho
  by_cases hmd0 : md = 0
  · rw [if_neg (by simp [hmd0])] at hres
    subst hmd0
    have hne : (!(((0 : Nat) : Int) == 0)) = false := by simp
    by_cases hb : 9223372036854775807 < sz + pw
    · rw [if_pos hb] at hres
      subst hres
      have hd : decide (9223372036854775807 - (sz : Int) < (pw : Int)) = true := by simp; omega
      have hd' : 9223372036854775807 - (sz : Int) < (pw : Int) := by omega
      go_enter Try.func51, Try.ntmps51
      go_wp2_with (rw [Hw0.out])
      have hS : Below w0.heap.size w0 w0.drew := (Below.refl _ _).drew
      refine wp_region_mix (fun W => Below w0.heap.size w0 W) [(0, true), (2, true), (3, true), (4, true), (1, false), (5, true), (6, true), (7, true)] (by kernel_rfl) (by kernel_rfl) hS fun _ => ?_
      simp only [List.map_cons, List.map_nil, Array.getD_eq_getD_getElem?, List.getElem?_toArray, List.getElem?_cons_succ, List.getElem?_cons_zero, Option.getD_some]
      generalize w0.drew = u2 at hS ⊢
      refine wpMix_s (fun K hK => ?_)
      go_simp
      refine hK _ ?_
      clear hK K
      refine wpMix_s (fun K hK => ?_)
      go_simp
      refine hK _ ?_
      clear hK K
      refine wpMix_v (by kernel_rfl) (.int .i64 (pw : Int)) (fun s => Hsh.out _ _ (.tmp 20) _ rfl rfl rfl s.W) ?_
      simp only [Act.put]
      refine wpMix_s (fun K hK => ?_)
      go_simp
      refine hK _ ?_
      clear hK K
      refine wpMix_c (fun K hK => ?_) hS
      go_simp
      refine (Hsz.out u2 hS).mono ?_
      rintro e u2_1 ⟨rfl, hb'⟩
      refine hK _ _ ?_
      clear hK K
      replace hS := hS.trans (hb'.mono hS.size)
      refine ⟨hS, ?_⟩
      clear hb'
      refine wpMix_s (fun K hK => ?_)
      go_simp
      refine hK _ ?_
      clear hK K
      refine wpMix_s (fun K hK => ?_)
      go_simp
      refine hK _ ?_
      clear hK K
      refine wpMix_s (fun K hK => ?_)
      go_simp
      refine hK _ ?_
      clear hK K
      refine wpMix_nil ?_
      intro _
      go_wp2_with fail
      have hS7 : Below u2_1.heap.size u2_1 u2_1.drew := (Below.refl _ _).drew
      refine wp_region_mix (fun W => Below u2_1.heap.size u2_1 W) [(0, true), (1, true), (2, true), (3, false), (4, true), (5, true), (6, true)] (by kernel_rfl) (by kernel_rfl) hS7 fun _ => ?_
      simp only [List.map_cons, List.map_nil, Array.getD_eq_getD_getElem?, List.getElem?_toArray, List.getElem?_cons_succ, List.getElem?_cons_zero, Option.getD_some]
      generalize u2_1.drew = u3 at hS7 ⊢
      refine wpMix_s (fun K hK => ?_)
      go_simp
      refine hK _ ?_
      clear hK K
      refine wpMix_v (by kernel_rfl) (.int .i64 (pw : Int)) (fun s => Hsh.out _ _ (.tmp 26) _ rfl rfl rfl s.W) ?_
      simp only [Act.put]
      refine wpMix_s (fun K hK => ?_)
      go_simp
      refine hK _ ?_
      clear hK K
      refine wpMix_c (fun K hK => ?_) hS7
      go_simp
      refine (Hsz.out u3 (hS.trans (hS7.mono hS.size))).mono ?_
      rintro e u3_1 ⟨rfl, hb'⟩
      refine hK _ _ ?_
      clear hK K
      replace hS7 := hS7.trans (hb'.mono hS7.size)
      refine ⟨hS7, ?_⟩
      clear hb'
      refine wpMix_s (fun K hK => ?_)
      go_simp
      refine hK _ ?_
      clear hK K
      refine wpMix_s (fun K hK => ?_)
      go_simp
      refine hK _ ?_
      clear hK K
      refine wpMix_s (fun K hK => ?_)
      go_simp
      refine hK _ ?_
      clear hK K
      refine wpMix_nil ?_
      intro _
      go_wp2_with fail
      go_ret
      exact ⟨rfl, (h0.step hS).step hS7, grown_of_below ((hb0.trans (hS.mono hb0.size)).trans (hS7.mono (Nat.le_trans hb0.size hS.size))) _⟩
    · rw [if_neg hb] at hres
      have hd : decide (9223372036854775807 - (sz : Int) < (pw : Int)) = false := by simp; omega
      have hd' : ¬ 9223372036854775807 - (sz : Int) < (pw : Int) := by omega
      go_enter Try.func51, Try.ntmps51
      go_wp2_with (rw [Hw0.out])
      have hS : Below w0.heap.size w0 w0.drew := (Below.refl _ _).drew
      refine wp_region_mix (fun W => Below w0.heap.size w0 W) [(0, true), (2, true), (3, true), (4, true), (1, false), (5, true), (6, true), (7, true)] (by kernel_rfl) (by kernel_rfl) hS fun _ => ?_
      simp only [List.map_cons, List.map_nil, Array.getD_eq_getD_getElem?, List.getElem?_toArray, List.getElem?_cons_succ, List.getElem?_cons_zero, Option.getD_some]
      generalize w0.drew = u2 at hS ⊢
      refine wpMix_s (fun K hK => ?_)
      go_simp
      refine hK _ ?_
      clear hK K
      refine wpMix_s (fun K hK => ?_)
      go_simp
      refine hK _ ?_
      clear hK K
      refine wpMix_v (by kernel_rfl) (.int .i64 (pw : Int)) (fun s => Hsh.out _ _ (.tmp 20) _ rfl rfl rfl s.W) ?_
      simp only [Act.put]
      refine wpMix_s (fun K hK => ?_)
      go_simp
      refine hK _ ?_
      clear hK K
      refine wpMix_c (fun K hK => ?_) hS
      go_simp
      refine (Hsz.out u2 hS).mono ?_
      rintro e u2_1 ⟨rfl, hb'⟩
      refine hK _ _ ?_
      clear hK K
      replace hS := hS.trans (hb'.mono hS.size)
      refine ⟨hS, ?_⟩
      clear hb'
      refine wpMix_s (fun K hK => ?_)
      go_simp
      refine hK _ ?_
      clear hK K
      refine wpMix_s (fun K hK => ?_)
      go_simp
      refine hK _ ?_
      clear hK K
      refine wpMix_s (fun K hK => ?_)
      go_simp
      refine hK _ ?_
      clear hK K
      refine wpMix_nil ?_
      intro _
      go_wp2_with fail
      have hS7 : Below u2_1.heap.size u2_1 u2_1.drew := (Below.refl _ _).drew
      refine wp_region_mix (fun W => Below u2_1.heap.size u2_1 W) [(0, true), (1, true), (2, true), (3, false), (4, true), (5, true), (6, true)] (by kernel_rfl) (by kernel_rfl) hS7 fun _ => ?_
      simp only [List.map_cons, List.map_nil, Array.getD_eq_getD_getElem?, List.getElem?_toArray, List.getElem?_cons_succ, List.getElem?_cons_zero, Option.getD_some]
      generalize u2_1.drew = u3 at hS7 ⊢
      refine wpMix_s (fun K hK => ?_)
      go_simp
      refine hK _ ?_
      clear hK K
      refine wpMix_v (by kernel_rfl) (.int .i64 (pw : Int)) (fun s => Hsh.out _ _ (.tmp 26) _ rfl rfl rfl s.W) ?_
      simp only [Act.put]
      refine wpMix_s (fun K hK => ?_)
      go_simp
      refine hK _ ?_
      clear hK K
      refine wpMix_c (fun K hK => ?_) hS7
      go_simp
      refine (Hsz.out u3 (hS.trans (hS7.mono hS.size))).mono ?_
      rintro e u3_1 ⟨rfl, hb'⟩
      refine hK _ _ ?_
      clear hK K
      replace hS7 := hS7.trans (hb'.mono hS7.size)
      refine ⟨hS7, ?_⟩
      clear hb'
      refine wpMix_s (fun K hK => ?_)
      go_simp
      refine hK _ ?_
      clear hK K
      refine wpMix_s (fun K hK => ?_)
      go_simp
      refine hK _ ?_
      clear hK K
      refine wpMix_s (fun K hK => ?_)
      go_simp
      refine hK _ ?_
      clear hK K
      refine wpMix_nil ?_
      intro _
      have k57 := (k5.step hS).step hS7
      have h07 := (h0.step hS).step hS7
      have hg7 := grown_of_below ((hb0.trans (hS.mono hb0.size)).trans (hS7.mono (Nat.le_trans hb0.size hS.size))) (some g)
      go_wp2_with (first
        | ((with_reducible show wpList _ _ _ (⟨some 34, .load _ _, _, _, _, _⟩ :: _) _ _); refine wpList_hload (.tmp 5) (by kernel_rfl) rfl k57 rfl ?_; simp only [Act.put])
        | ((with_reducible show wpList _ _ _ (⟨some 35, .build _ _, _, _, _, _⟩ :: _) _ _); refine wpList_run0 rfl (.agg (Value.int .i64 (l : Int) :: x.map B).toArray) (run_build_fp_op (l : Int) x hx (.tmp 33) (.tmp 34) rfl rfl rfl _) ?_; simp only [Act.put])
        | (go_at_call 117; refine (Hcm.out _ h07).mono ?_; rintro e w9 ⟨rfl, hF9, hg9⟩))
      go_ret
      rw [← hres]
      exact ⟨rfl, hF9, grown_same hg7 hg9⟩
  · rw [if_pos hmd0] at hres
    subst hres
    have hne : (!((md : Int) == 0)) = true := by simp; omega
    have hne' : ((md : Int) == 0) = false := by simp; omega
    have hne2 : ¬ (md : Int) = 0 := by omega
    go_enter Try.func51, Try.ntmps51
    go_wp2_with (rw [Hw0.out])
    have hS : Below w0.heap.size w0 w0.drew := (Below.refl _ _).drew
    refine wp_region_mix (fun W => Below w0.heap.size w0 W) [(0, true), (2, true), (3, true), (4, true), (1, false), (5, true), (6, true), (7, true)] (by kernel_rfl) (by kernel_rfl) hS fun _ => ?_
    simp only [List.map_cons, List.map_nil, Array.getD_eq_getD_getElem?, List.getElem?_toArray, List.getElem?_cons_succ, List.getElem?_cons_zero, Option.getD_some]
    generalize w0.drew = u2 at hS ⊢
    refine wpMix_s (fun K hK => ?_)
    go_simp
    refine hK _ ?_
    clear hK K
    refine wpMix_s (fun K hK => ?_)
    go_simp
    refine hK _ ?_
    clear hK K
    refine wpMix_v (by kernel_rfl) (.int .i64 (pw : Int)) (fun s => Hsh.out _ _ (.tmp 20) _ rfl rfl rfl s.W) ?_
    simp only [Act.put]
    refine wpMix_s (fun K hK => ?_)
    go_simp
    refine hK _ ?_
    clear hK K
    refine wpMix_c (fun K hK => ?_) hS
    go_simp
    refine (Hsz.out u2 hS).mono ?_
    rintro e u2_1 ⟨rfl, hb'⟩
    refine hK _ _ ?_
    clear hK K
    replace hS := hS.trans (hb'.mono hS.size)
    refine ⟨hS, ?_⟩
    clear hb'
    refine wpMix_s (fun K hK => ?_)
    go_simp
    refine hK _ ?_
    clear hK K
    refine wpMix_s (fun K hK => ?_)
    go_simp
    refine hK _ ?_
    clear hK K
    refine wpMix_s (fun K hK => ?_)
    go_simp
    refine hK _ ?_
    clear hK K
    refine wpMix_nil ?_
    intro _
    go_wp2_with fail
    go_ret
    exact ⟨rfl, h0.step hS, grown_of_below (hb0.trans (hS.mono hb0.size)) _⟩
end Go.Proofs.Ytonidnfgneokbaa
