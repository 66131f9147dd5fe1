/- FrontMeanwhile: what All tells is what there is when a loop over it begins. -/
import Derived.Test.YtonidnfgneokbaaQd233
import Derived.Test.YtonidnfgneokbaaQd234
namespace Go.Proofs.Ytonidnfgneokbaa
open Go Go.RowKit Go.Shelf
attribute [local go_sem] Oper.semAt_some

theorem run_sub1 {ρ : Operand → Value} {o : Oper} (x y z : Operand) (ho : o.op = .slice 22 x (some y) (some z) none) (A : Option Addr) (n c k : Nat) (hx : ρ x = .slice A n c) (hy : ρ y = .int .i64 (k : Int)) (hz : ρ z = .int .i64 ((k : Int) + 1)) (hb : k + 1 ≤ c) (W : World) :
    (execOp ρ o).run Try.prog W = .ok (.value (.slice (if c = k then A else A.map (·.add (k * 1))) 1 (c - k))) W := by
  have := run_slice_bothBs x y z ho A n c k (k + 1) hx hy (by rw [hz]; congr 1) (by omega) hb W
  rw [show k + 1 - k = 1 by omega] at this
  exact this
set_option maxHeartbeats 16000000 in
set_option maxRecDepth 100000 in
theorem frontMeanwhile_any (size : Int) (hs : List (List UInt8)) (A : Option Addr) (n c : Nat) (es : List (List UInt8)) (A2 : Option Addr) (n2 c2 : Nat) (w : World) (hz : size ≤ 9223372036854775807) (h : Hs w (fun b => b < w.heap.size) A n c hs) (hE : Es w (fun b => b < w.heap.size) A2 n2 c2 es) (hm : ∀ x ∈ es, x.length ≤ 1073741824) :
    Calls Try.prog 10 #[.agg #[.int .i64 size, .slice A n c], .slice A2 n2 c2] w fun e w' => e = .returned (.bool true) ∧ Below w.heap.size w w' := by
  have hroom := hE.room
  have hmx := hE.max
  unfold maxLen at hmx
  have hlenE := hE.len
  obtain ⟨w1, hw1⟩ : ∃ x, w.alloc (.cells #[.int .i64 size, .slice A n c] 85) = x := ⟨_, rfl⟩
  obtain ⟨w2, hw2⟩ : ∃ x, w1.alloc (.cells #[.slice A2 n2 c2] 22) = x := ⟨_, rfl⟩
  obtain ⟨w3, hw3⟩ : ∃ x, w2.alloc (.cells #[.bool false] 4) = x := ⟨_, rfl⟩
  have hb1 : Below w.heap.size w w1 := by rw [← hw1]; exact (Below.refl _ _).alloc (Nat.le_refl _) _
  have hb2 : Below w1.heap.size w1 w2 := by rw [← hw2]; exact (Below.refl _ _).alloc (Nat.le_refl _) _
  have hb3 : Below w2.heap.size w2 w3 := by rw [← hw3]; exact (Below.refl _ _).alloc (Nat.le_refl _) _
  have k2 : Blk w1 w.heap.size 85 #[.int .i64 size, .slice A n c] := by rw [← hw1]; exact Blk.new _ _ _
  have k3 : Blk w2 w1.heap.size 22 #[.slice A2 n2 c2] := by rw [← hw2]; exact Blk.new _ _ _
  have k4 : Blk w3 w2.heap.size 4 #[.bool false] := by rw [← hw3]; exact Blk.new _ _ _
  have s1 : w.heap.size < w1.heap.size := k2.lt
  have s2 : w1.heap.size < w2.heap.size := k3.lt
  have s3 : w2.heap.size < w3.heap.size := k4.lt
  replace k2 := (k2.step hb2).step hb3
  replace k3 := k3.step hb3
  have hb13 : Below w.heap.size w w3 := hb1.trans ((hb2.trans (hb3.mono hb2.size)).mono hb1.size)
  have c20 : w3.cell? ⟨w.heap.size, 0, none⟩ = some (.int .i64 size) := by rw [k2.cell]; rfl
  have c21 : w3.cell? ⟨w.heap.size, 1, none⟩ = some (.slice A n c) := by rw [k2.cell]; rfl
  have hfr := ffrom_any size hs A n c w3 ((h.step hb13).weak fun _ _ _ => trivial) hz
  have hrr := fun W (hb : Below w3.heap.size w3 W) => rfrom_any size hs A n c W (((h.step hb13).step hb).weak fun _ _ _ => trivial) hz
  have Hw1 := Lib.hid hw1
  have Hw2 := Lib.hid hw2
  have Hw3 := Lib.hid hw3
  have Hok := Lib.hid (fromE_ok size hs h.all hz)
  clear hw1 hw2 hw3 hb1 hb2 hb3 h
  rcases fromE_two size hs with ⟨ps, hps⟩ | hps
  · have hok : FrOk ps := (Hok.out ps (by rw [hps])).1
    rw [hps] at hfr hrr
    have Hfr := Lib.hid hfr
    have Hrr := Lib.hid hrr
    clear hfr hrr hps Hok
    refine (callsIn_wide (n := 5)).1 ?_
    refine callsIn_of_wp_marks Try.func10 rfl trivial ?_ rfl
    simp only [Try.ntmps10, List.size_toArray, List.length_cons, List.length_nil, Nat.reduceAdd, Nat.reduceSub, Array.replicate_succ, Array.replicate_zero, List.push_toArray, List.append_toArray, List.nil_append, List.cons_append]
    refine wpIn_wide.2 ?_
    go_wp2_with (first
      | rw [Hw1.out]
      | rw [Hw2.out]
      | rw [Hw3.out]
      | (go_at_call 55; refine Hfr.out.mono ?_; rintro e w4 ⟨v5, rfl, hO, hb4⟩; obtain ⟨gf, rfl, hgf, hFF⟩ := hO.some'; clear hO; have l5 := hFF.fro.lt; have k2 := k2.step hb4)
      | ((with_reducible show wpList _ _ _ (⟨some 5, .alloc _, _, _, _, _⟩ :: _) _ _); refine wpList_var1 (T := 61) (z := .pointer none) (.tmp 5) (.tmp 20) rfl rfl (by kernel_rfl) sizePF rfl rfl rfl rfl ?_; intro w5 k5 hb5; have s5 := k5.lt; replace k2 := k2.step hb5; replace hFF := hFF.step hb5; have hb35 := hb4.trans (hb5.mono hb4.size); have c20' : w5.cell? ⟨w.heap.size, 0, none⟩ = some (.int .i64 size) := (by rw [k2.cell]; rfl); have c21' : w5.cell? ⟨w.heap.size, 1, none⟩ = some (.slice A n c) := (by rw [k2.cell]; rfl); simp only [Act.put])
      | (go_at_call 56; refine (Hrr.out w5 hb35).mono ?_; rintro e w6 ⟨v7, rfl, hO', hb6⟩; obtain ⟨gr, rfl, hgr, hRR⟩ := hO'.some'; clear hO'; have l7 := hRR.frp.lt; have s6 := hb6.size; replace hFF := hFF.step hb6; replace k5 := k5.step hb6; have hb36 := hb35.trans (hb6.mono hb35.size))
      | ((with_reducible show wpList _ _ _ (⟨some 7, .alloc _, _, _, _, _⟩ :: _) _ _); refine wpList_var1 (T := 79) (z := .pointer none) (.tmp 7) (.tmp 28) rfl rfl (by kernel_rfl) sizePR rfl rfl rfl rfl ?_; intro w7 k7 hb7; have s7 := k7.lt; replace hFF := hFF.step hb7; replace hRR := hRR.step hb7; replace k5 := k5.step hb7; have hb37 := hb36.trans (hb7.mono hb36.size); have c5 : w7.cell? ⟨w4.heap.size, 0, none⟩ = some (fptr gf) := (by rw [k5.cell]; rfl); have c7 : w7.cell? ⟨w6.heap.size, 0, none⟩ = some (fptr gr) := (by rw [k7.cell]; rfl); simp only [Act.put])
      | (go_at_call 41; refine (num10_any _ _).mono ?_; rintro e wn ⟨rfl, hww⟩; obtain rfl := hww.symm)
      | (go_at_call 50; refine (fall_any (fptr gf) w7 rfl).mono ?_; rintro e w8 ⟨rfl, hbx, hb8⟩; have s8 := hbx.lt; have hnil := eql_all_nil w7.heap.size w8; replace hFF := hFF.step hb8; replace hRR := hRR.step hb8; replace k5 := k5.step hb8; replace k7 := k7.step hb8; have hb38 := hb37.trans (hb8.mono hb37.size); have c7' : w8.cell? ⟨w6.heap.size, 0, none⟩ = some (fptr gr) := (by rw [k7.cell]; rfl))
      | (go_at_call 57; refine (rfcopy_any gr ps w8 hRR.frp).mono ?_; rintro e w9 ⟨rfl, hW9, hb9⟩; have s9 := hW9.lt; replace hFF := hFF.step hb9; replace hRR := hRR.step hb9; replace k5 := k5.step hb9; replace k7 := k7.step hb9; replace hbx := hbx.step hb9; have hb39 := hb38.trans (hb9.mono hb38.size))
      | ((with_reducible show wpList _ _ _ (⟨some 10, .alloc _, _, _, _, _⟩ :: _) _ _); refine wpList_var1 (T := 79) (z := .pointer none) (.tmp 10) (.tmp 49) rfl rfl (by kernel_rfl) sizePR rfl rfl rfl rfl ?_; intro w10 k10 hb10; have s10 := k10.lt; replace hFF := hFF.step hb10; replace hRR := hRR.step hb10; replace k5 := k5.step hb10; replace k7 := k7.step hb10; replace hW9 := hW9.step hb10; replace hbx := hbx.step hb10; have hb310 := hb39.trans (hb10.mono hb39.size); simp only [Act.put])
      | ((with_reducible show wpList _ _ _ (⟨some 11, .alloc _, _, _, _, _⟩ :: _) _ _); refine wpList_var1 (T := 3) (z := .int .i64 0) (.tmp 11) (.const (.int .i64 0)) rfl rfl (by kernel_rfl) sizeInt rfl rfl rfl rfl ?_; intro w11 k11 hb11; have s11 := k11.lt; replace hFF := hFF.step hb11; replace hRR := hRR.step hb11; replace k5 := k5.step hb11; replace k7 := k7.step hb11; replace k10 := k10.step hb11; replace hW9 := hW9.step hb11; replace hbx := hbx.step hb11; have hb311 := hb310.trans (hb11.mono hb310.size); simp only [Act.put]))
    replace k3 := k3.step hb311
    replace k4 := k4.step hb311
    have hEw := hE.step (Below.mono (hb13.trans (hb311.mono hb13.size)) (Nat.le_refl _))
    have hbw : Below w.heap.size w w11 := hb13.trans (hb311.mono hb13.size)
    have hF11 : HasO w11 (fptr gf) (some ps) := .inr ⟨gf, ps, rfl, rfl, hFF.fro, hok⟩
    have hR11 : HasR w11 (fptr gr) (some ps) := .inr ⟨gr, ps, rfl, rfl, hRR.frp, hok⟩
    obtain ⟨U, hU⟩ : ∃ U : Nat → Prop, (fun b => b = w10.heap.size ∨ MfM (fptr gf) (fptr gr) b) = U := ⟨_, rfl⟩
    have hUo : ∀ b, U b → b = w10.heap.size ∨ b = gf ∨ b = gr := fun b hb => by
      rw [← hU] at hb
      rcases hb with h | h | h
      · exact .inl h
      · cases h; exact .inr (.inl rfl)
      · cases h; exact .inr (.inr rfl)
    have hUi : ∀ b, b = w10.heap.size ∨ MfM (fptr gf) (fptr gr) b → U b := fun b hb => by rw [← hU]; exact hb
    have hsm : ∀ X k, MwI w11 w10.heap.size (fptr gf) (fptr gr) k X → SmallM U X := fun X k hI b hb => by
      obtain ⟨qs, h1, h2⟩ := hI.pr.ex
      rw [← hU] at hb
      rcases hb with h | h
      · rw [h]; exact ⟨_, _, hI.b11, by simp⟩
      · exact h1.both h2 b h
    have hI0 : MwI w11 w10.heap.size (fptr gf) (fptr gr) 0 w11 := ⟨k11, ⟨ps, hF11, hR11⟩, KB.refl _ _⟩
    have hA : AllOk (fptr gf) ps w11 := hF11.all
    have hkb : ∀ X k, MwI w11 w10.heap.size (fptr gf) (fptr gr) k X → KB U w11 X := fun X k hI => by rw [← hU]; exact hI.kb
    have hn63 := hok.len
    have h32 := hok.h32
    have Hsm := Lib.hid hsm
    have Hkb := Lib.hid hkb
    have HUo := Lib.hid hUo
    have HUi := Lib.hid hUi
    have H32 := Lib.hid h32
    have Hk3 := Lib.hid k3
    have Hk4 := Lib.hid k4
    have Hk5 := Lib.hid k5
    have Hk7 := Lib.hid k7
    have Hk10 := Lib.hid k10
    have HW := Lib.hid hW9
    have HE := Lib.hid hEw
    have Hbw := Lib.hid hbw
    have HS0 := Lib.hid (hsm _ _ hI0)
    clear k2 k3 k4 k5 k7 k10 k11 hb4 hb5 hb6 hb7 hb8 hb9 hb10 hb11 hb35 hb36 hb37 hb38 hb39 hb310 hb311 hb13 c20 c21 c20' c21' c5 c7 c7' hE hEw hFF hRR hF11 hR11 hW9 hnil hsm hkb hUo hUi hbw h32
    refine wp_range_U (gf := 118) (lb := #[.pointer (some ⟨w7.heap.size, 0, none⟩)]) rfl (enters_of Try.func118 (by kernel_rfl) rfl)
      (hA w11 w7.heap.size U (Below.refl _ _) hbx (fun b hb => by have := HUo.out b hb; omega)) (fun _ _ _ _ h => by rw [show _ = _ from h]; rfl)
      (fun _ => MwI w11 w10.heap.size (fptr gf) (fptr gr)) (fun _ _ _ _ => False)
      (fun _ => MwI.own (by omega) (Nat.le_refl _)) (fun _ _ _ _ _ _ h _ _ => h.elim) (fun _ _ => hI0) ?round ?done ?stop
    case round =>
      clear hI0 hbx hA
      intro li n₁ k vs X hl hln hnX hk hI hy
      have hy : vs = _ := hy
      subst hy
      have hq := fpq_getD ps k hk
      obtain ⟨⟨l, z⟩, hx⟩ : ∃ x, ps.getD k (0, []) = x := ⟨_, rfl⟩
      have hzl : z.length = 32 := by
        have : (ps.getD k (0, [])).2.length = 32 := by
          rw [List.getD_eq_getElem?_getD, List.getElem?_eq_getElem hk]
          exact H32.out _ (List.getElem_mem hk)
        rw [hx] at this
        exact this
      rw [hx] at hq ⊢
      dsimp only at hq ⊢
      rw [show ((2 ^ l : Nat) : Int) = (2 : Int) ^ l by simp] at hq
      obtain ⟨m, hm'⟩ : ∃ m, (2 : Int) ^ l = m := ⟨_, rfl⟩
      rw [hm'] at hq ⊢
      have Hzl := Lib.hid hzl
      have Hq := Lib.hid hq
      clear hx hm' hzl hq
      gi_wp2_with ((with_reducible show wpListIn _ _ _ _ _ (⟨some 13, .alloc _, _, _, _, _⟩ :: _) _ _); refine wpListIn_of2 (openR li) rfl ?_; refine wpList_hvar (.tmp 13) (.tmp 52) rfl rfl rfl rfl rfl rfl Hzl.out ?_; intro X1 k13 hb13; refine thenN_nil ?_; simp only [Act.put])
      refine ⟨KeepU.below hb13, ?_⟩
      intro X2 hturn
      have hI2 := hturn.own (MwI.own (by omega) (Nat.le_refl _)) (hI.step hb13)
      have k13' : HV X2 X.heap.size z := ⟨hturn.blk k13.blk, Hzl.out⟩
      have hX2 : n₁ ≤ X2.heap.size := by rw [hturn.size]; exact Nat.le_trans hnX hb13.size
      clear hI k13 hb13 hturn
      generalize X.heap.size = g13 at k13' hnX ⊢
      have hK2 := Hkb.out _ _ hI2
      have hw9 := hK2.frp HS0.out HW.out (fun h => by have := HUo.out _ h; omega)
      obtain ⟨A9, n9, c9, hk9, hP9⟩ := hw9.ex
      have hl9 : ps.length = n9 := by rw [← hP9.len, length_fpq]
      have hkn : k < n9 := by rw [← hl9]; exact hk
      obtain ⟨b, o', rfl, -, -⟩ := hP9.at_ (by omega)
      have hroom9 := hP9.sl.room
      have hmx9 := hP9.sl.max
      unfold maxLen at hmx9
      have hS : Below X2.heap.size X2 X2.drew := (Below.refl _ _).drew
      have c11 : ∀ s : InC (fun W => Below X2.heap.size X2 W), s.W.cell? ⟨w10.heap.size, 0, none⟩ = some (.int .i64 (k : Int)) := fun s => by rw [(hI2.b11.step s.ok).cell]; rfl
      have c10 : ∀ s : InC (fun W => Below X2.heap.size X2 W), s.W.cell? ⟨w9.heap.size, 0, none⟩ = some (fptr w8.heap.size) := fun s => by rw [((hK2.blk Hk10.out (fun h => by have := HUo.out _ h; omega)).step s.ok).cell]; rfl
      have c9' : ∀ s : InC (fun W => Below X2.heap.size X2 W), s.W.cell? ⟨w8.heap.size, 0, none⟩ = some (.slice (some ⟨b, o', none⟩) n9 c9) := fun s => by rw [(hk9.step s.ok).cell]; rfl
      have cm : ∀ s : InC (fun W => Below X2.heap.size X2 W), s.W.cell? ⟨b, o' + k * 33, none⟩ = some (.int .i64 m) := fun s => by
        have := (hP9.step s.ok).num rfl k hkn
        rw [Hq.out] at this
        exact this
      have Lz := Lib.hid (fun s : InC (fun W => Below X2.heap.size X2 W) => by
        have := (hP9.step s.ok).hash rfl k hkn
        rw [Hq.out] at this
        exact this)
      have L13 := Lib.hid (fun s : InC (fun W => Below X2.heap.size X2 W) => (k13'.step s.ok).load)
      have hge1 : decide (n9 ≤ k) = false := by simp; omega
      have hge2 : decide ((n9 : Int) ≤ (k : Int)) = false := by simp; omega
      clear k13' hk9 hP9 hw9 hl9
      gi_wp2
      refine wpIn_region_mix (openR li) rfl (fun _ _ h => h) (fun W => Below X2.heap.size X2 W) [(0, true), (1, true), (2, true), (3, true), (4, true), (5, true), (6, true), (7, true), (8, true), (9, true), (10, true), (11, true), (12, true), (13, true), (14, true), (15, true), (16, true), (17, true), (18, true), (19, true), (20, true), (21, true), (22, true), (23, true), (24, true), (25, true), (26, true), (27, true), (28, true), (29, true), (30, true)] (by kernel_rfl) (by kernel_rfl) hS fun _ => ?_
      simp only [List.map_cons, List.map_nil, Array.getD_eq_getD_getElem?, List.getElem?_toArray, List.getElem?_cons_succ, List.getElem?_cons_zero, Option.getD_some]
      generalize X2.drew = u0 at hS ⊢
      refine wpMix_s (fun K hK => ?_)
      go_simp
      refine hK _ ?_
      clear hK K
      refine wpMix_s (fun K hK => ?_)
      go_simp
      refine hK _ ?_
      clear hK K
      refine wpMix_s (fun K hK => ?_)
      go_simp
      refine hK _ ?_
      clear hK K
      refine wpMix_s (fun K hK => ?_)
      go_simp
      refine hK _ ?_
      clear hK K
      refine wpMix_s (fun K hK => ?_)
      go_simp
      refine hK _ ?_
      clear hK K
      refine wpMix_s (fun K hK => ?_)
      go_simp
      refine hK _ ?_
      clear hK K
      refine wpMix_s (fun K hK => ?_)
      go_simp
      refine hK _ ?_
      clear hK K
      refine wpMix_s (fun K hK => ?_)
      go_simp
      refine hK _ ?_
      clear hK K
      refine wpMix_s (fun K hK => ?_)
      go_simp
      refine hK _ ?_
      clear hK K
      refine wpMix_s (fun K hK => ?_)
      go_simp
      refine hK _ ?_
      clear hK K
      refine wpMix_s (fun K hK => ?_)
      go_simp
      refine hK _ ?_
      clear hK K
      refine wpMix_s (fun K hK => ?_)
      go_simp
      refine hK _ ?_
      clear hK K
      refine wpMix_s (fun K hK => ?_)
      go_simp
      refine hK _ ?_
      clear hK K
      refine wpMix_s (fun K hK => ?_)
      go_simp
      refine hK _ ?_
      clear hK K
      refine wpMix_s (fun K hK => ?_)
      go_simp
      refine hK _ ?_
      clear hK K
      refine wpMix_s (fun K hK => ?_)
      go_simp
      refine hK _ ?_
      clear hK K
      refine wpMix_s (fun K hK => ?_)
      go_simp
      refine hK _ ?_
      clear hK K
      refine wpMix_s (fun K hK => ?_)
      go_simp
      refine hK _ ?_
      clear hK K
      refine wpMix_s (fun K hK => ?_)
      go_simp
      refine hK _ ?_
      clear hK K
      refine wpMix_s (fun K hK => ?_)
      go_simp
      refine hK _ ?_
      clear hK K
      refine wpMix_load (by kernel_rfl) 25 (.tmp 13) rfl (g13) (0) rfl (z.map B).toArray (L13.out) ?_
      simp only [Act.put]
      refine wpMix_s (fun K hK => ?_)
      go_simp
      refine hK _ ?_
      clear hK K
      refine wpMix_s (fun K hK => ?_)
      go_simp
      refine hK _ ?_
      clear hK K
      refine wpMix_s (fun K hK => ?_)
      go_simp
      refine hK _ ?_
      clear hK K
      refine wpMix_s (fun K hK => ?_)
      go_simp
      refine hK _ ?_
      clear hK K
      refine wpMix_s (fun K hK => ?_)
      go_simp
      refine hK _ ?_
      clear hK K
      refine wpMix_s (fun K hK => ?_)
      go_simp
      refine hK _ ?_
      clear hK K
      refine wpMix_s (fun K hK => ?_)
      go_simp
      refine hK _ ?_
      clear hK K
      refine wpMix_load (by kernel_rfl) 25 (.tmp 80) rfl (b) (o' + k * 33 + 1) rfl (z.map B).toArray (Lz.out) ?_
      simp only [Act.put]
      refine wpMix_v (by kernel_rfl) (.bool false) (fun s => run_neq26_f (.tmp 73) (.tmp 81) _ z z rfl rfl rfl Hzl.out Hzl.out rfl s.W) ?_
      simp only [Act.put]
      refine wpMix_s (fun K hK => ?_)
      go_simp
      refine hK _ ?_
      clear hK K
      refine wpMix_nil ?_
      intro _
      generalize u0 = X3 at *
      have hI3 := hI2.step hS
      have hK3 : KeepU w11.heap.size n₁ U X2 X3 := KeepU.below hS
      have hX3 : n₁ ≤ X3.heap.size := Nat.le_trans hX2 hS.size
      clear hI2 hK2 hS c11 c10 c9' cm
      have hKw := Hkb.out _ _ hI3
      have hSm3 := Hsm.out _ _ hI3
      have hgM : ∀ b, MfM (fptr gf) (fptr gr) b → b = gf ∨ b = gr := fun b h => by
        rcases h with h | h
        · cases h; exact .inl rfl
        · cases h; exact .inr rfl
      have c11 : ∀ s : InC (KB (MfM (fptr gf) (fptr gr)) X3), s.W.cell? ⟨w10.heap.size, 0, none⟩ = some (.int .i64 (k : Int)) := fun s => by rw [(s.ok.blk hI3.b11 (fun h => by have := hgM _ h; omega)).cell]; rfl
      have d3 : ∀ s : InC (KB (MfM (fptr gf) (fptr gr)) X3), s.W.cell? ⟨w1.heap.size, 0, none⟩ = some (.slice A2 n2 c2) := fun s => by rw [(s.ok.blk (hKw.blk Hk3.out (fun h => by have := HUo.out _ h; omega)) (fun h => by have := hgM _ h; omega)).cell]; rfl
      have d5 : ∀ s : InC (KB (MfM (fptr gf) (fptr gr)) X3), s.W.cell? ⟨w4.heap.size, 0, none⟩ = some (fptr gf) := fun s => by rw [(s.ok.blk (hKw.blk Hk5.out (fun h => by have := HUo.out _ h; omega)) (fun h => by have := hgM _ h; omega)).cell]; rfl
      have d7 : ∀ s : InC (KB (MfM (fptr gf) (fptr gr)) X3), s.W.cell? ⟨w6.heap.size, 0, none⟩ = some (fptr gr) := fun s => by rw [(s.ok.blk (hKw.blk Hk7.out (fun h => by have := HUo.out _ h; omega)) (fun h => by have := hgM _ h; omega)).cell]; rfl
      have key : ∀ X4, KB U X3 X4 → Pair X4 (fptr gf) (fptr gr) → Blk X4 w10.heap.size 3 #[.int .i64 (k : Int)] → n₁ ≤ X4.heap.size ∧ X4.cell? ⟨w10.heap.size, 0, none⟩ = some (.int .i64 (k : Int)) ∧ X4.frozen? ⟨w10.heap.size, 0, none⟩ = false ∧ KeepU w11.heap.size n₁ U X2 (X4.setCell ⟨w10.heap.size, 0, none⟩ (.int .i64 ((k : Int) + 1))) ∧ MwI w11 w10.heap.size (fptr gf) (fptr gr) (k + 1) (X4.setCell ⟨w10.heap.size, 0, none⟩ (.int .i64 ((k : Int) + 1))) := by
        intro X4 hK4 hp4 hb4
        have hkk : ((k : Int) + 1) = ((k + 1 : Nat) : Int) := by omega
        have hg9 := grownBy_setCell' X4 w10.heap.size (.int .i64 ((k : Int) + 1))
        have hsing : SmallM (fun b => b = w10.heap.size) X4 := fun b hb => by have hb : b = _ := hb; rw [hb]; exact ⟨_, _, hb4, by simp⟩
        have hkb9 : KB (fun b => b = w10.heap.size) X4 (X4.setCell ⟨w10.heap.size, 0, none⟩ (.int .i64 ((k : Int) + 1))) := KB.of_grown hg9 fun r e => (Option.some.inj e).symm
        obtain ⟨qs, h1, h2⟩ := hp4.ex
        refine ⟨Nat.le_trans hX3 hK4.size, by rw [hb4.cell]; rfl, hb4.frozen 0, (hK3.trans (hK4.keepU fun b hb => ⟨.inr hb, let ⟨T, cs, h, _⟩ := hSm3 b hb; ⟨T, cs, h⟩⟩)).trans (KeepU.setCell hb4 (.inr (HUi.out _ (.inl rfl))) 0 _), ?_, ⟨qs, h1.kb hkb9 hsing (fun b hb e => by cases hb; have e : gf = _ := e; omega), h2.kb hkb9 hsing (fun b hb e => by cases hb; have e : gr = _ := e; omega)⟩, ?_⟩
        · have := hb4.set_ 0 (.int .i64 ((k : Int) + 1))
          rw [← hkk]
          exact this
        · have h9 := (hKw.trans hK4).trans (hkb9.mono fun b hb => HUi.out _ (.inl hb))
          rw [← hU] at h9
          exact h9
      have Key := Lib.hid key
      have hI3k := hI3.b11
      obtain ⟨qs, hF3, hR3⟩ := hI3.pr.ex
      have hE3 := hKw.es HE.out (fun b _ hx hu => by have := HUo.out b hu; have hx : b < w.heap.size := hx; omega)
      have hwk : IntKind.i64.wrap ((k : Int) + 1) = (k : Int) + 1 := IntWalk.i64_in _ (by omega)
      clear key hKw hI3 hK3
      by_cases hkm : k < n2
      · have hlt1 : decide ((k : Int) < (n2 : Int)) = true := by simp; omega
        have hd1 : decide (k < n2) = true := by simp; omega
        have hgz : es.drop k = (es.drop k).take 1 ++ es.drop (k + 1) := by rw [← List.drop_drop, List.take_append_drop]
        have hE1 := (hE3.drop k (by omega)).take 1 (by omega)
        obtain ⟨e1, he1⟩ : ∃ e, (es.drop k).take 1 = e := ⟨_, rfl⟩
        have hm1 : ∀ x ∈ e1, x.length ≤ 1073741824 := fun x hx => hm x (List.mem_of_mem_drop (List.mem_of_mem_take (by rw [he1]; exact hx)))
        rw [he1] at hE1
        obtain ⟨Ak, hAk⟩ : ∃ A', (if c2 = k then A2 else A2.map (·.add (k * 1))) = A' := ⟨_, rfl⟩
        rw [hAk] at hE1
        have hcall := fun W (hb : Below X3.heap.size X3 W) => comes_any (fptr gf) (fptr gr) (some qs) 1 0 0 0 0 e1 [] Ak 1 (c2 - k) none 0 0 W (hF3.step hb) (hR3.step hb) (fun b h1 h2 => by cases h1; have h2 : fptr gr = fptr gf := h2; cases h2; omega)
          ((hE1.step hb).weak fun b _ hx hu => by have := HUo.out b (HUi.out b (.inr hu)); have hx : b < w.heap.size := hx; omega) Hs.empty (by decide) (by decide) hm1
        have Hcall := Lib.hid hcall
        have HAk := Lib.hid hAk
        clear hcall hAk he1 hgz hE1 hE3 hm1 hF3 hR3
        have hSb : Below X3.heap.size X3 X3.drew := (Below.refl _ _).drew
        have hS : KB (MfM (fptr gf) (fptr gr)) X3 X3.drew := KB.of_below hSb
        gi_wp2
        refine wpIn_region_mix (openR li) rfl (fun _ _ h => h) (KB (MfM (fptr gf) (fptr gr)) X3) [(0, true), (1, true), (2, true), (3, true), (4, true), (5, true), (6, true), (7, true), (8, true), (9, true), (10, true), (11, true), (12, true), (13, false), (14, true), (15, true)] (by kernel_rfl) (by kernel_rfl) hS fun _ => ?_
        simp only [List.map_cons, List.map_nil, Array.getD_eq_getD_getElem?, List.getElem?_toArray, List.getElem?_cons_succ, List.getElem?_cons_zero, Option.getD_some]
        generalize X3.drew = u1 at hS hSb ⊢
        refine wpMix_s (fun K hK => ?_)
        go_simp
        refine hK _ ?_
        clear hK K
        refine wpMix_s (fun K hK => ?_)
        go_simp
        refine hK _ ?_
        clear hK K
        refine wpMix_s (fun K hK => ?_)
        go_simp
        refine hK _ ?_
        clear hK K
        refine wpMix_s (fun K hK => ?_)
        go_simp
        refine hK _ ?_
        clear hK K
        refine wpMix_s (fun K hK => ?_)
        go_simp
        refine hK _ ?_
        clear hK K
        refine wpMix_s (fun K hK => ?_)
        go_simp
        refine hK _ ?_
        clear hK K
        refine wpMix_s (fun K hK => ?_)
        go_simp
        refine hK _ ?_
        clear hK K
        refine wpMix_s (fun K hK => ?_)
        go_simp
        refine hK _ ?_
        clear hK K
        refine wpMix_s (fun K hK => ?_)
        go_simp
        refine hK _ ?_
        clear hK K
        refine wpMix_s (fun K hK => ?_)
        go_simp
        refine hK _ ?_
        clear hK K
        refine wpMix_s (fun K hK => ?_)
        go_simp
        refine hK _ ?_
        clear hK K
        refine wpMix_v (by kernel_rfl) (.slice Ak 1 (c2 - k)) (fun s => by rw [← HAk.out]; exact run_sub1 (.tmp 91) (.tmp 92) (.tmp 94) rfl A2 n2 c2 k rfl rfl rfl (by omega) s.W) ?_
        simp only [Act.put]
        refine wpMix_v (by kernel_rfl) (.agg (stepCells 1 0 0 0 0 Ak 1 (c2 - k) none 0 0)) (fun s => by kernel_rfl) ?_
        simp only [Act.put]
        refine wpMix_c (fun K hK => ?_) hS
        go_simp
        refine (Hcall.out u1 hSb).mono ?_
        rintro e u1X ⟨rfl, hF4, hR4, hK4⟩
        refine hK _ _ ?_
        clear hK K
        refine ⟨hS.trans hK4, ?_⟩
        refine wpMix_s (fun K hK => ?_)
        go_simp
        refine hK _ ?_
        clear hK K
        refine wpMix_s (fun K hK => ?_)
        go_simp
        refine hK _ ?_
        clear hK K
        refine wpMix_nil ?_
        intro _
        obtain ⟨hX4, c11, f11, hk4, hi4⟩ := Key.out u1X ((KB.of_below hSb).trans (hK4.mono fun b hb => HUi.out b (.inr hb))) ⟨_, hF4, hR4⟩ (hK4.blk (hI3k.step hSb) (fun h => by have := hgM _ h; omega))
        have Hk4' := Lib.hid hk4
        have Hi4' := Lib.hid hi4
        clear hk4 hi4 hS hSb hgM hK4 hF4 hR4 Key hI3k d3 d5 d7 hSm3
        gi_wp2
        exact ⟨Hk4'.out, Hi4'.out⟩
      · have hlt1 : decide ((k : Int) < (n2 : Int)) = false := by simp; omega
        have hd1 : decide (k < n2) = false := by simp; omega
        have hSb : Below X3.heap.size X3 X3.drew := (Below.refl _ _).drew
        have hS : KB (MfM (fptr gf) (fptr gr)) X3 X3.drew := KB.of_below hSb
        gi_wp2
        refine wpIn_region_mix (openR li) rfl (fun _ _ h => h) (KB (MfM (fptr gf) (fptr gr)) X3) [(0, true), (1, true), (2, true), (3, true), (4, true), (5, true), (6, true), (7, true), (8, true), (9, true), (10, true), (11, true), (12, true), (13, false), (14, true), (15, true)] (by kernel_rfl) (by kernel_rfl) hS fun _ => ?_
        simp only [List.map_cons, List.map_nil, Array.getD_eq_getD_getElem?, List.getElem?_toArray, List.getElem?_cons_succ, List.getElem?_cons_zero, Option.getD_some]
        generalize X3.drew = u1 at hS hSb ⊢
        refine wpMix_s (fun K hK => ?_)
        go_simp
        refine hK _ ?_
        clear hK K
        refine wpMix_s (fun K hK => ?_)
        go_simp
        refine hK _ ?_
        clear hK K
        refine wpMix_s (fun K hK => ?_)
        go_simp
        refine hK _ ?_
        clear hK K
        refine wpMix_s (fun K hK => ?_)
        go_simp
        refine hK _ ?_
        clear hK K
        refine wpMix_s (fun K hK => ?_)
        go_simp
        refine hK _ ?_
        clear hK K
        refine wpMix_s (fun K hK => ?_)
        go_simp
        refine hK _ ?_
        clear hK K
        refine wpMix_s (fun K hK => ?_)
        go_simp
        refine hK _ ?_
        clear hK K
        refine wpMix_s (fun K hK => ?_)
        go_simp
        refine hK _ ?_
        clear hK K
        refine wpMix_s (fun K hK => ?_)
        go_simp
        refine hK _ ?_
        clear hK K
        refine wpMix_s (fun K hK => ?_)
        go_simp
        refine hK _ ?_
        clear hK K
        refine wpMix_s (fun K hK => ?_)
        go_simp
        refine hK _ ?_
        clear hK K
        refine wpMix_s (fun K hK => ?_)
        go_simp
        refine hK _ ?_
        clear hK K
        refine wpMix_s (fun K hK => ?_)
        go_simp
        refine hK _ ?_
        clear hK K
        refine wpMix_c (fun K hK => ?_) hS
        go_simp
        refine hK _ _ ?_
        clear hK K
        refine ⟨hS, ?_⟩
        refine wpMix_s (fun K hK => ?_)
        go_simp
        refine hK _ ?_
        clear hK K
        refine wpMix_s (fun K hK => ?_)
        go_simp
        refine hK _ ?_
        clear hK K
        refine wpMix_nil ?_
        intro _
        obtain ⟨hX4, c11, f11, hk4, hi4⟩ := Key.out u1 (KB.of_below hSb) ⟨_, hF3.step hSb, hR3.step hSb⟩ (hI3k.step hSb)
        have Hk4' := Lib.hid hk4
        have Hi4' := Lib.hid hi4
        clear hk4 hi4 hS hSb hgM hF3 hR3 Key hI3k d3 d5 d7 hSm3 hE3
        gi_wp2
        exact ⟨Hk4'.out, Hi4'.out⟩
    case done =>
      clear hI0 hbx hA
      intro D n₁ X hD hDn hI hK
      have hK2 := Hkb.out _ _ hI
      have hw9 := hK2.frp HS0.out HW.out (fun h => by have := HUo.out _ h; omega)
      obtain ⟨A9, n9, c9, hk9, hP9⟩ := hw9.ex
      have hl9 : ps.length = n9 := by rw [← hP9.len, length_fpq]
      have hroom9 := hP9.sl.room
      have hmx9 := hP9.sl.max
      unfold maxLen at hmx9
      have c11 : ∀ s : InC (fun W => Below X.heap.size X W), s.W.cell? ⟨w10.heap.size, 0, none⟩ = some (.int .i64 (n9 : Int)) := fun s => by rw [(hI.b11.step s.ok).cell, hl9]; rfl
      have c10 : ∀ s : InC (fun W => Below X.heap.size X W), s.W.cell? ⟨w9.heap.size, 0, none⟩ = some (fptr w8.heap.size) := fun s => by rw [((hK2.blk Hk10.out (fun h => by have := HUo.out _ h; omega)).step s.ok).cell]; rfl
      have c9' : ∀ s : InC (fun W => Below X.heap.size X W), s.W.cell? ⟨w8.heap.size, 0, none⟩ = some (.slice A9 n9 c9) := fun s => by rw [(hk9.step s.ok).cell]; rfl
      have d5 : ∀ s : InC (fun W => Below X.heap.size X W), s.W.cell? ⟨w4.heap.size, 0, none⟩ = some (fptr gf) := fun s => by rw [((hK2.blk Hk5.out (fun h => by have := HUo.out _ h; omega)).step s.ok).cell]; rfl
      have d7 : ∀ s : InC (fun W => Below X.heap.size X W), s.W.cell? ⟨w6.heap.size, 0, none⟩ = some (fptr gr) := fun s => by rw [((hK2.blk Hk7.out (fun h => by have := HUo.out _ h; omega)).step s.ok).cell]; rfl
      have k4 := hK2.blk Hk4.out (fun h => by have := HUo.out _ h; omega)
      have hbX : Below w.heap.size w X := Hbw.out.trans (hK2.below (fun b hb => by have := HUo.out b hb; omega) (by have := Hbw.out.size; omega))
      obtain ⟨qs, hF, hR⟩ := hI.pr.ex
      clear hI hw9 hk9 hP9 hK2
      have hS : Below X.heap.size X X.drew := (Below.refl _ _).drew
      go_wp2_with fail
      refine wp_region_mix_last (fun W => Below X.heap.size X W) 20 [(0, true), (1, true), (2, true), (3, true), (4, true), (5, true), (6, true), (7, true), (8, true), (9, true), (10, false), (11, true), (12, true), (13, true), (14, true), (15, false), (16, true), (17, true), (18, false), (19, true)] (by kernel_rfl) (by kernel_rfl) hS fun _ => ?_
      simp only [List.map_cons, List.map_nil, Array.getD_eq_getD_getElem?, List.getElem?_toArray, List.getElem?_cons_succ, List.getElem?_cons_zero, Option.getD_some]
      generalize X.drew = u2 at hS ⊢
      refine wpMix_s (fun K hK => ?_)
      go_simp
      refine hK _ ?_
      clear hK K
      refine wpMix_s (fun K hK => ?_)
      go_simp
      refine hK _ ?_
      clear hK K
      refine wpMix_s (fun K hK => ?_)
      go_simp
      refine hK _ ?_
      clear hK K
      refine wpMix_s (fun K hK => ?_)
      go_simp
      refine hK _ ?_
      clear hK K
      refine wpMix_s (fun K hK => ?_)
      go_simp
      refine hK _ ?_
      clear hK K
      refine wpMix_s (fun K hK => ?_)
      go_simp
      refine hK _ ?_
      clear hK K
      refine wpMix_s (fun K hK => ?_)
      go_simp
      refine hK _ ?_
      clear hK K
      refine wpMix_s (fun K hK => ?_)
      go_simp
      refine hK _ ?_
      clear hK K
      refine wpMix_s (fun K hK => ?_)
      go_simp
      refine hK _ ?_
      clear hK K
      refine wpMix_s (fun K hK => ?_)
      go_simp
      refine hK _ ?_
      clear hK K
      refine wpMix_c (fun K hK => ?_) hS
      go_simp
      refine (tells_any _ _ (some qs) u2 (hF.step hS) (hR.step hS)).mono ?_
      rintro e u2_1 ⟨rfl, hb'⟩
      refine hK _ _ ?_
      clear hK K
      replace hS := hS.trans (hb'.mono hS.size)
      refine ⟨hS, ?_⟩
      clear hb'
      refine wpMix_s (fun K hK => ?_)
      go_simp
      refine hK _ ?_
      clear hK K
      refine wpMix_s (fun K hK => ?_)
      go_simp
      refine hK _ ?_
      clear hK K
      refine wpMix_s (fun K hK => ?_)
      go_simp
      refine hK _ ?_
      clear hK K
      refine wpMix_s (fun K hK => ?_)
      go_simp
      refine hK _ ?_
      clear hK K
      refine wpMix_c (fun K hK => ?_) hS
      go_simp
      refine (goes_any _ _ (some qs) 0 u2_1 (hF.step hS) (hR.step hS)).mono ?_
      rintro e u2_2 ⟨rfl, hb'⟩
      refine hK _ _ ?_
      clear hK K
      replace hS := hS.trans (hb'.mono hS.size)
      refine ⟨hS, ?_⟩
      clear hb'
      refine wpMix_s (fun K hK => ?_)
      go_simp
      refine hK _ ?_
      clear hK K
      refine wpMix_s (fun K hK => ?_)
      go_simp
      refine hK _ ?_
      clear hK K
      refine wpMix_c (fun K hK => ?_) hS
      go_simp
      refine (known10_any u2_2).mono ?_
      rintro e u2_3 ⟨rfl, hb'⟩
      refine hK _ _ ?_
      clear hK K
      replace hS := hS.trans (hb'.mono hS.size)
      refine ⟨hS, ?_⟩
      clear hb'
      refine wpMix_s (fun K hK => ?_)
      go_simp
      refine hK _ ?_
      clear hK K
      refine wpMix_nil ?_
      intro _
      simp only [List.drop_succ_cons, List.drop_zero]
      have k4' := k4.step hS
      have c4 : u2_3.cell? ⟨w2.heap.size, 0, none⟩ = some (.bool false) := by rw [k4'.cell]; rfl
      have f4 := k4'.frozen 0
      have k4'' := k4'.set_ 0 (.bool true)
      have hM : MarksOk w.heap.size [D] (u2_3.setCell ⟨w2.heap.size, 0, none⟩ (.bool true)) := (((MarksOk.nil _ _).cons (by have := Hbw.out.size; omega) hK (by simp)).step hS).cell k4' (.bool true)
      have hbE : Below w.heap.size w (u2_3.setCell ⟨w2.heap.size, 0, none⟩ (.bool true)) := (hbX.trans (hS.mono hbX.size)).setCell (by show w.heap.size ≤ w2.heap.size; omega) _
      clear hF hR hS c11 c10 c9' d5 d7 hbX k4' hK
      go_wp2_with fail
      refine np_normal ?_
      go_wp2_with fail
      refine leaves_marks (N := w.heap.size) [D] _ hM fun w' ht => ⟨_, results_cb10 rfl _ _ w2.heap.size true rfl (ht.blk _ _ _ k4''), rfl, hbE.trans ht.bel⟩
    case stop =>
      rintro D n₁ cd k X hD hDn hk h hK
      exact h.elim
  · rw [hps] at hfr hrr
    have Hfr := Lib.hid hfr
    have Hrr := Lib.hid hrr
    clear hfr hrr hps Hok
    refine (callsIn_wide (n := 5)).1 ?_
    refine callsIn_of_wp_marks Try.func10 rfl trivial ?_ rfl
    simp only [Try.ntmps10, List.size_toArray, List.length_cons, List.length_nil, Nat.reduceAdd, Nat.reduceSub, Array.replicate_succ, Array.replicate_zero, List.push_toArray, List.append_toArray, List.nil_append, List.cons_append]
    refine wpIn_wide.2 ?_
    go_wp2_with (first
      | rw [Hw1.out]
      | rw [Hw2.out]
      | rw [Hw3.out]
      | (go_at_call 55; refine Hfr.out.mono ?_; rintro e w4 ⟨v5, rfl, hO, hb4⟩; obtain rfl := hO.none'; clear hO; have k2 := k2.step hb4)
      | ((with_reducible show wpList _ _ _ (⟨some 5, .alloc _, _, _, _, _⟩ :: _) _ _); refine wpList_var1 (T := 61) (z := .pointer none) (.tmp 5) (.tmp 20) rfl rfl (by kernel_rfl) sizePF rfl rfl rfl rfl ?_; intro w5 k5 hb5; replace k2 := k2.step hb5; have hb35 := hb4.trans (hb5.mono hb4.size); have c20' : w5.cell? ⟨w.heap.size, 0, none⟩ = some (.int .i64 size) := (by rw [k2.cell]; rfl); have c21' : w5.cell? ⟨w.heap.size, 1, none⟩ = some (.slice A n c) := (by rw [k2.cell]; rfl); simp only [Act.put])
      | (go_at_call 56; refine (Hrr.out w5 hb35).mono ?_; rintro e w6 ⟨v7, rfl, hO', hb6⟩; obtain rfl := hO'.none'; clear hO'; replace k5 := k5.step hb6; have hb36 := hb35.trans (hb6.mono hb35.size))
      | ((with_reducible show wpList _ _ _ (⟨some 7, .alloc _, _, _, _, _⟩ :: _) _ _); refine wpList_var1 (T := 79) (z := .pointer none) (.tmp 7) (.tmp 28) rfl rfl (by kernel_rfl) sizePR rfl rfl rfl rfl ?_; intro w7 k7 hb7; replace k5 := k5.step hb7; have hb37 := hb36.trans (hb7.mono hb36.size); have c5 : w7.cell? ⟨w4.heap.size, 0, none⟩ = some (.pointer none) := (by rw [k5.cell]; rfl); have c7 : w7.cell? ⟨w6.heap.size, 0, none⟩ = some (.pointer none) := (by rw [k7.cell]; rfl); simp only [Act.put])
      | (go_at_call 41; refine (num10_any _ _).mono ?_; rintro e wn ⟨rfl, hww⟩; obtain rfl := hww.symm)
      | (go_at_call 50; refine (fall_any (.pointer none) w7 rfl).mono ?_; rintro e w8 ⟨rfl, hbx, hb8⟩; have hnil := eql_all_nil w7.heap.size w8; replace k7 := k7.step hb8; have hb38 := hb37.trans (hb8.mono hb37.size); have c7' : w8.cell? ⟨w6.heap.size, 0, none⟩ = some (.pointer none) := (by rw [k7.cell]; rfl))
      | (go_at_call 39; refine (known10_any _).mono ?_; rintro e w9 ⟨rfl, hb9⟩; have hb39 := hb38.trans (hb9.mono hb38.size); have k49 := k4.step hb39; have c4 : w9.cell? ⟨w2.heap.size, 0, none⟩ = some (.bool false) := (by rw [k49.cell]; rfl); have f4 := k49.frozen 0))
    have k4'' := k49.set_ 0 (.bool true)
    have hbE : Below w.heap.size w (w9.setCell ⟨w2.heap.size, 0, none⟩ (.bool true)) := (hb13.trans (hb39.mono hb13.size)).setCell (by show w.heap.size ≤ w2.heap.size; omega) _
    exact ⟨_, results_cb10 rfl _ _ w2.heap.size true rfl k4'', rfl, hbE⟩
end Go.Proofs.Ytonidnfgneokbaa
