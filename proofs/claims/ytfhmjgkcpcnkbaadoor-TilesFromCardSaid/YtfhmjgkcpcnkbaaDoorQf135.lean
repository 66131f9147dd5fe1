/- notarylaw14.works. -/
import Derived.Test.YtfhmjgkcpcnkbaaDoorQf134
import Derived.Test.YtfhmjgkcpcnkbaaDoorQf118
namespace Go.Proofs.YtfhmjgkcpcnkbaaDoor
open Go Go.RowKit Go.Shelf
attribute [local go_sem] Oper.semAt_some

theorem HV.kb {W W' : World} {g : Nat} {l : List UInt8} {M : Nat → Prop} (h : HV W g l) (hk : KB M W W') (hm : ¬ M g) : HV W' g l := ⟨hk.blk h.blk hm, h.len⟩
theorem eqnil_tall (g : Nat) (W : World) : (binOp .eql 56 (.func (.func 46) #[] #[.pointer (some ⟨g, 0, none⟩)]) .nilFunc).run Tryd.prog W = .ok (.bool false) W := by kernel_rfl
/-- between two rounds: how many there were, in a box -/
structure CtI (w : World) (m : Nat) (W : World) : Prop where
  box : Blk W w.heap.size 3 #[.int .i64 (m : Int)]
  bel : Below w.heap.size w W
theorem CtI.grown {w W W' : World} {m : Nat} {row : Option Nat} (h : CtI w m W) (hg : W.grownBy W' row) (hr : ∀ r, row = some r → w.heap.size ≤ r ∧ ∃ o, W.heap[r]? = some o ∧ o.isCells = false) : CtI w m W' :=
  ⟨h.box.grown hg (fun e => by
      obtain ⟨_, o, ho, hc⟩ := hr w.heap.size e.symm
      rw [show W.heap[w.heap.size]? = _ from h.box] at ho; cases ho; cases hc), h.bel.grown hg h.bel.size fun k e => (hr k e).1⟩
theorem CtI.own_ {w : World} {B : Nat} (f : Nat → Nat) (hB : w.heap.size ≤ B) : OwnFrom B (fun k W => CtI w (f k) W) := fun _ _ _ _ h hg hr => h.grown hg fun r e => ⟨Nat.le_trans hB (hr r e).1, (hr r e).2⟩
theorem splitNT2 : splitN 2 = 1 := by decide
theorem splitNT3 : splitN 3 = 2 := by decide
theorem root3 (a b c : List UInt8) : rootT [a, b, c] 3 = (hNode (hNode a b) c, 0) := by
  unfold rootT
  rw [if_pos (by simp)]
  show (rootL [a, b, c], (0 : Int)) = _
  rw [rootL_more [a, b, c] (by simp), show splitN ([a, b, c] : HL).length = 2 from splitNT3]
  show (hNode (rootL [a, b]) (rootL [c]), (0 : Int)) = _
  rw [rootL_one, rootL_more [a, b] (by simp), show splitN ([a, b] : HL).length = 1 from splitNT2]
  show (hNode (hNode (rootL [a]) (rootL [b])) c, (0 : Int)) = _
  rw [rootL_one, rootL_one]
theorem tile3 (a b c : List UInt8) : tileG 1 [a, b, c] 0 1 = [c] := by
  show tileG 1 [a, b, c] ((0 : Nat) : Int) ((1 : Nat) : Int) = [c]
  rw [tileG_nat, lvT_zero]
  rfl
theorem tiles3 (a b c : List UInt8) : (tilesL 1 [a, b, c]).length = 3 := by
  rw [tilesL_len]
  show (gR 1 0 3).length = 3
  decide +kernel
set_option maxHeartbeats 8000000 in
set_option maxRecDepth 100000 in
theorem works14_any (w : World) (hT : Tab w) : Calls Tryd.prog 10 #[] w fun e w' => e = .returned (.bool true) ∧ Below w.heap.size w w' := by
  obtain ⟨a, ha⟩ : ∃ a, oneHash 1 = a := ⟨_, rfl⟩
  obtain ⟨b, hb⟩ : ∃ b, oneHash 2 = b := ⟨_, rfl⟩
  obtain ⟨c, hc⟩ : ∃ c, oneHash 3 = c := ⟨_, rfl⟩
  have hal : a.length = 32 := by rw [← ha]; exact length_oneHash _
  have hbl : b.length = 32 := by rw [← hb]; exact length_oneHash _
  have hcl : c.length = 32 := by rw [← hc]; exact length_oneHash _
  have h32 : H32 [a, b, c] := by
    intro h hh
    simp only [List.mem_cons, List.not_mem_nil, or_false] at hh
    rcases hh with rfl | rfl | rfl <;> assumption
  have hnew : Calls Tryd.prog 23 #[.int .i64 1] w _ := tnew_any 1 w (by decide) (by decide)
  have h0s := hT.lt
  have Ha := Lib.hid ha
  have Hb := Lib.hid hb
  have Hc := Lib.hid hc
  have Hal := Lib.hid hal
  have Hbl := Lib.hid hbl
  have Hcl := Lib.hid hcl
  have H3 := Lib.hid h32
  have HT := Lib.hid hT
  have Hnew := Lib.hid hnew
  clear ha hb hc hal hbl hcl h32 hT hnew
  refine (callsIn_wide (n := 5)).1 ?_
  refine callsIn_of_wp_marks Tryd.func10 rfl trivial ?_ rfl
  simp only [Tryd.ntmps10, List.size_toArray, List.length_nil, Nat.reduceSub, Array.replicate_succ, Array.replicate_zero, List.push_toArray, List.append_toArray, List.nil_append, List.cons_append]
  refine wpIn_wide.2 ?_
  go_wp2_with fail
  refine Hnew.out.mono ?_
  rintro e w1 ⟨p, m, rfl, ht, hb1⟩
  have hlt := fun k hk => ht.t.ltR k hk
  have Hlt := Lib.hid hlt
  have Ht := Lib.hid ht
  have heq := fun (g : Nat) (W : World) => eqnil_tall g W
  clear hlt ht Hnew
  go_wp2_with (first
    | (go_at_call 9; refine (num14_any _ _).mono ?_; rintro e w2 ⟨rfl, hw⟩; obtain rfl := hw))
  refine (tall_any _ _ rfl).mono ?_
  rintro e w2 ⟨rfl, -, hb2⟩
  have hbB := hb1.trans (hb2.mono hb1.size)
  go_wp2_with (first
    | ((with_reducible show wpList _ _ _ (⟨some 29, .build _ _, _, _, _, _⟩ :: _) _ _); refine wpList_run0 rfl (.agg (a.map B).toArray) (by rw [← Ha.out]; kernel_rfl) ?_; simp only [Act.put, List.setIfInBounds_toArray, List.set_cons_succ, List.set_cons_zero])
    | ((with_reducible show wpList _ _ _ (⟨some 30, .build _ _, _, _, _, _⟩ :: _) _ _); refine wpList_run0 rfl (.agg (b.map B).toArray) (by rw [← Hb.out]; kernel_rfl) ?_; simp only [Act.put, List.setIfInBounds_toArray, List.set_cons_succ, List.set_cons_zero])
    | ((with_reducible show wpList _ _ _ (⟨some 31, .build _ _, _, _, _, _⟩ :: _) _ _); refine wpList_run0 rfl (.agg (c.map B).toArray) (by rw [← Hc.out]; kernel_rfl) ?_; simp only [Act.put, List.setIfInBounds_toArray, List.set_cons_succ, List.set_cons_zero])
    | ((with_reducible show wpList _ _ _ (⟨some 3, .alloc _, _, _, _, _⟩ :: _) _ _); refine wpList_hnew rfl rfl ?_; intro w3 k3 hb3; simp only [Act.put, List.setIfInBounds_toArray, List.set_cons_succ, List.set_cons_zero])
    | ((with_reducible show wpList _ _ _ (⟨some 4, .alloc _, _, _, _, _⟩ :: _) _ _); refine wpList_hnew rfl rfl ?_; intro w4 k4 hb4; have l34 := k3.lt; replace k3 := k3.step hb4; replace hb3 := hb3.trans (hb4.mono hb3.size); simp only [Act.put, List.setIfInBounds_toArray, List.set_cons_succ, List.set_cons_zero])
    | ((with_reducible show wpList _ _ _ (⟨some 5, .alloc _, _, _, _, _⟩ :: _) _ _); refine wpList_hnew rfl rfl ?_; intro w5 k5 hb5; have l45 := k4.lt; replace k3 := k3.step hb5; replace k4 := k4.step hb5; replace hb3 := hb3.trans (hb5.mono hb3.size); simp only [Act.put, List.setIfInBounds_toArray, List.set_cons_succ, List.set_cons_zero])
    | ((with_reducible show wpList _ _ _ (⟨none, .store _ (.tmp 3) _, _, _, _, _⟩ :: _) _ _); refine wpList_hset2 (.tmp 3) (.tmp 29) rfl rfl k3 rfl rfl Hal.out ?_; intro w6 k3a hb6 ho; replace k4 := ho _ _ (by omega) k4; replace k5 := ho _ _ (by omega) k5; replace hb3 := hb3.trans (hb6.mono (Nat.le_refl _)); clear ho; simp only [Act.put])
    | ((with_reducible show wpList _ _ _ (⟨none, .store _ (.tmp 4) _, _, _, _, _⟩ :: _) _ _); refine wpList_hset2 (.tmp 4) (.tmp 30) rfl rfl k4 rfl rfl Hbl.out ?_; intro w7 k4a hb7 ho; replace k3a := ho _ _ (by omega) k3a; replace k5 := ho _ _ (by omega) k5; replace hb3 := hb3.trans (hb7.mono (by omega)); clear ho; simp only [Act.put])
    | ((with_reducible show wpList _ _ _ (⟨none, .store _ (.tmp 5) _, _, _, _, _⟩ :: _) _ _); refine wpList_hset2 (.tmp 5) (.tmp 31) rfl rfl k5 rfl rfl Hcl.out ?_; intro w8 k5a hb8 ho; replace k3a := ho _ _ (by omega) k3a; replace k4a := ho _ _ (by omega) k4a; replace hb3 := hb3.trans (hb8.mono (by omega)); clear ho; simp only [Act.put])
    | ((with_reducible show wpList _ _ _ (⟨some 33, .load _ _, _, _, _, _⟩ :: _) _ _); refine wpList_hload (.tmp 3) (by kernel_rfl) rfl k3a rfl ?_; simp only [Act.put, List.setIfInBounds_toArray, List.set_cons_succ, List.set_cons_zero])
    | ((with_reducible show wpList _ _ _ (⟨some 34, .load _ _, _, _, _, _⟩ :: _) _ _); refine wpList_hload (.tmp 4) (by kernel_rfl) rfl k4a rfl ?_; simp only [Act.put, List.setIfInBounds_toArray, List.set_cons_succ, List.set_cons_zero])
    | ((with_reducible show wpList _ _ _ (⟨some 35, .load _ _, _, _, _, _⟩ :: _) _ _); refine wpList_hload (.tmp 5) (by kernel_rfl) rfl k5a rfl ?_; simp only [Act.put, List.setIfInBounds_toArray, List.set_cons_succ, List.set_cons_zero])
    | ((with_reducible show wpList _ _ _ (⟨some 36, .buildSlice _ _ _, _, _, _, _⟩ :: _) _ _); refine wpList_run rfl _ _ (run_lit_op [a, b, c] H3.out (by simp) (by simp) 3 _ rfl (by simp [Act.eval]) rfl _) ?_; simp only [Act.put, List.setIfInBounds_toArray, List.set_cons_succ, List.set_cons_zero]))
  have hb2z := hb2.size
  have hb1z := hb1.size
  obtain ⟨g3, hg3⟩ : ∃ g, w2.heap.size = g := ⟨_, rfl⟩
  obtain ⟨g4, hg4⟩ : ∃ g, w3.heap.size = g := ⟨_, rfl⟩
  obtain ⟨g5, hg5⟩ : ∃ g, w4.heap.size = g := ⟨_, rfl⟩
  rw [hg3] at k3a hb3 l34 hb2z ⊢
  rw [hg4] at k4a l34 l45 ⊢
  rw [hg5] at k5a l45 ⊢
  have hb38 : Below w1.heap.size w1 w8 := hb2.trans (hb3.mono hb2z)
  obtain ⟨w9, hw9⟩ : ∃ x, w8.alloc (.cells (hcells [a, b, c]).toArray 48) = x := ⟨_, rfl⟩
  have hb9 : Below w8.heap.size w8 w9 := by rw [← hw9]; exact (Below.refl _ _).alloc (Nat.le_refl _) _
  have hsl : Hs w9 (fun b => ¬ TiW p m (fun _ _ => none) b) (some ⟨w8.heap.size, 0, none⟩) 3 3 [a, b, c] := by
    rw [← hw9]
    exact ⟨SlV.lit w8 _ _ _ (by rw [hcells_len _ H3.out]; rfl) (by unfold maxLen; decide) (fun hm => by have := (Hlt.out _ hm).2; have := hb38.size; omega), rfl, H3.out⟩
  have hb19 := hb38.trans (hb9.mono hb38.size)
  have ht9 := Ht.out.step hb19
  have hap := tappend_any w.heap.size p m 1 _ [] [a, b, c] _ 3 3 w9 ht9 hsl (by simp)
  rw [List.nil_append] at hap
  rw [hw9]
  have Hap := Lib.hid hap
  have hz19 := hb19.size
  clear hap hw9 hsl ht9 hb38
  refine Hap.out.mono ?_
  clear Hap
  rintro e w10 ⟨rfl, f1, ht, hk10, hn10⟩
  replace k3a := (k3a.step hb9).kb hk10 (fun hm => by have := (Hlt.out _ hm).2; omega)
  replace k4a := (k4a.step hb9).kb hk10 (fun hm => by have := (Hlt.out _ hm).2; omega)
  replace k5a := (k5a.step hb9).kb hk10 (fun hm => by have := (Hlt.out _ hm).2; omega)
  have hB := (hb1.trans (hb19.mono hb1z)).trans (hk10.below (fun b hb => (Hlt.out b hb).1) (by omega))
  have htl : Calls Tryd.prog 29 #[.pointer (some ⟨p, 0, none⟩), .int .i64 0, .int .i64 1] w10 (fun e w' => ∃ v, e = .returned (.tuple #[v, .bool true]) ∧ w'.ownsRow w10.heap.size 48 32 v 1 (hcells [c]) ∧ Below w10.heap.size w10 w') := by
    have h := ttile_any _ p m 1 f1 [a, b, c] 0 1 w10 ht (by unfold I64; decide) (by unfold I64; decide)
    rw [tile3] at h
    exact h
  have Htl := Lib.hid htl
  have Ht1 := Lib.hid ht
  have HB := Lib.hid hB
  have Hn10 := Lib.hid hn10
  clear htl ht hB hk10 hb9 hb19 hb1 hb2 hbB hb3 hb8 hb7 hb6 hn10 Ht
  go_wp2_with fail
  refine Htl.out.mono ?_
  rintro e w11 ⟨v7, rfl, ho7, hb11⟩
  have hrt : Calls Tryd.prog 16 #[.pointer (some ⟨p, 0, none⟩), .int .i64 3] w11 (fun e w' => e = .returned (.tuple #[.agg ((hNode (hNode a b) c).map B).toArray, .int .i64 0]) ∧ Below w11.heap.size w11 w') := by
    have h := tRoot_any _ p m 1 f1 [a, b, c] 3 w11 (Ht1.out.step hb11) ((HT.out.below HB.out h0s).step hb11)
    rw [root3] at h
    exact h
  have hrl : (hNode (hNode a b) c).length = 32 := length_hNode _ _
  obtain ⟨A7, c7, rfl, hs7⟩ := owns_slv ho7
  have hH7 : Hs w11 (fun b => w10.heap.size ≤ b) A7 1 c7 [c] := ⟨hs7.weak fun b _ h => h.1, rfl, fun h hh => by rw [List.mem_singleton.1 hh]; exact Hcl.out⟩
  replace k3a := k3a.step hb11
  replace k4a := k4a.step hb11
  replace k5a := k5a.step hb11
  have Hrt := Lib.hid hrt
  have Hrl := Lib.hid hrl
  have HB11 := Lib.hid hb11
  clear hrt hrl ho7 hs7 Htl hb11
  go_wp2_with fail
  refine Hrt.out.mono ?_
  rintro e w12 ⟨rfl, hb12⟩
  replace k3a := k3a.step hb12
  replace k4a := k4a.step hb12
  replace k5a := k5a.step hb12
  replace hH7 := hH7.step hb12
  have HB12 := Lib.hid (HB11.out.trans (hb12.mono HB11.out.size))
  obtain ⟨r, hr⟩ : ∃ r, hNode (hNode a b) c = r := ⟨_, rfl⟩
  rw [hr] at Hrl ⊢
  have Hr := Lib.hid hr
  clear hr Hrt HB11 hb12
  go_wp2_with ((with_reducible show wpList _ _ _ (⟨some 9, .alloc _, _, _, _, _⟩ :: _) _ _); refine wpList_hvar (.tmp 9) (.tmp 46) rfl rfl rfl rfl rfl rfl Hrl.out ?_; intro w13 k9 hb13; replace k3a := k3a.step hb13; replace k4a := k4a.step hb13; replace k5a := k5a.step hb13; replace hH7 := hH7.step hb13; have HB13 := Lib.hid (HB12.out.trans (hb13.mono HB12.out.size)); clear hb13 HB12; simp only [Act.put, List.setIfInBounds_toArray, List.set_cons_succ, List.set_cons_zero])
  obtain ⟨g9, hg9⟩ : ∃ g, w12.heap.size = g := ⟨_, rfl⟩
  rw [hg9] at k9 ⊢
  clear hg9
  refine (tall_any _ w13 rfl).mono ?_
  rintro e w14 ⟨rfl, hbx, hb14⟩
  replace k3a := k3a.step hb14
  replace k4a := k4a.step hb14
  replace k5a := k5a.step hb14
  replace k9 := k9.step hb14
  replace hH7 := hH7.step hb14
  have hb1014 := HB13.out.trans (hb14.mono HB13.out.size)
  have hbxl := hbx.lt
  have hbxg := HB13.out.size
  obtain ⟨bx, hbxe⟩ : ∃ g, w13.heap.size = g := ⟨_, rfl⟩
  rw [hbxe] at hbx hbxl hbxg ⊢
  clear hbxe HB13 hb14
  have ht14 := Ht1.out.step hb1014
  have hlt14 := fun k hk => Ht1.out.t.ltR k hk
  have hB14 := HB.out.trans (hb1014.mono HB.out.size)
  have hz1014 := hb1014.size
  have Hlt1 := Lib.hid hlt14
  have HT14 := Lib.hid (HT.out.below hB14 h0s)
  have HB14 := Lib.hid hB14
  have Ht14 := Lib.hid ht14
  clear Ht1 hlt14 hB14 ht14 hb1014 HB HT
  obtain ⟨w15, hw15⟩ : ∃ x, w14.alloc (.cells #[.int .i64 0] 3) = x := ⟨_, rfl⟩
  have k12 : Blk w15 w14.heap.size 3 #[.int .i64 0] := by rw [← hw15]; exact Blk.new _ _ _
  have hb15 : Below w14.heap.size w14 w15 := by rw [← hw15]; exact (Below.refl _ _).alloc (Nat.le_refl _) _
  have Hw15 := Lib.hid hw15
  clear hw15
  go_wp2_with (first
    | ((with_reducible show wpList _ _ _ (⟨some 12, .alloc _, _, _, _, _⟩ :: _) _ _); refine wpList_run rfl (.pointer (some ⟨w14.heap.size, 0, none⟩)) w15 (by rw [← Hw15.out]; kernel_rfl) ?_; have c12 : w15.cell? ⟨w14.heap.size, 0, none⟩ = some (.int .i64 0) := (by rw [k12.cell]; rfl); have f12 := k12.frozen 0; simp only [Act.put, List.setIfInBounds_toArray, List.set_cons_succ, List.set_cons_zero]))
  have hI0 : CtI w14 0 (w15.setCell ⟨w14.heap.size, 0, none⟩ (.int .i64 0)) := ⟨k12.set_ 0 _, hb15.setCell (p := ⟨w14.heap.size, 0, none⟩) (Nat.le_refl _) _⟩
  obtain ⟨w16, hw16⟩ : ∃ x, w15.setCell ⟨w14.heap.size, 0, none⟩ (.int .i64 0) = x := ⟨_, rfl⟩
  rw [hw16] at hI0 ⊢
  clear hw16 k12 hb15 c12 f12 Hw15 heq
  have hz16 := hI0.bel.size
  have h16l := hI0.box.lt
  have hseq := tall_seq _ p m 1 bx f1 [a, b, c] (· = w14.heap.size) w16 (Ht14.out.step hI0.bel) (hbx.step hI0.bel) (fun b hb => by have hb : b = w14.heap.size := hb; omega) (by show ¬ bx = _; omega) (fun b hb e => by have := (Hlt1.out b hb).2; have e : b = w14.heap.size := e; omega)
  rw [tiles3] at hseq
  refine wp_range_U (gf := 46) (lb := #[.pointer (some ⟨bx, 0, none⟩)]) rfl (enters_of Tryd.func46 (by kernel_rfl) rfl)
    hseq (fun _ _ _ _ h => by obtain ⟨t, -, v, rfl, -⟩ := h; rfl)
    (fun _ k => CtI w14 k) (fun _ _ _ _ => False) (fun n₁ => CtI.own_ (fun k => k) (by omega)) (fun _ _ _ _ _ _ h _ _ => h.elim) (fun _ _ => hI0) ?round ?done ?stop
  case round =>
    clear hI0 hseq
    intro li n₁ k vs X hl hln hnX hk hI hy
    obtain ⟨t, -, v, rfl, -⟩ := hy
    gi_wp2
    refine ⟨KeepU.refl _ _ _ _, ?_⟩
    intro X2 hturn
    have hI2 := hturn.own (CtI.own_ (w := w14) (fun _ => k) (show w14.heap.size ≤ w16.heap.size by omega)) (s := k) hI
    clear hI hturn hnX
    have c12 : X2.cell? ⟨w14.heap.size, 0, none⟩ = some (.int .i64 (k : Int)) := by rw [hI2.box.cell]; rfl
    have f12 := hI2.box.frozen 0
    have hwk : IntKind.i64.wrap ((k : Int) + 1) = (k : Int) + 1 := IntWalk.i64_in _ (by omega)
    gi_wp2
    refine ⟨KeepU.setCell (U := (· = w14.heap.size)) hI2.box (.inr rfl) 0 _, ?_⟩
    have h9 : CtI w14 (k + 1) (X2.setCell ⟨w14.heap.size, 0, none⟩ (.int .i64 ((k + 1 : Nat) : Int))) := ⟨hI2.box.set_ 0 _, hI2.bel.setCell (p := ⟨w14.heap.size, 0, none⟩) (Nat.le_refl _) _⟩
    rw [show ((k + 1 : Nat) : Int) = (k : Int) + 1 by omega] at h9
    exact h9
  case done =>
    clear hI0 hseq
    intro D n₁ X hD hDn hI hK
    have k3f := k3a.step hI.bel
    have k4f := k4a.step hI.bel
    have k5f := k5a.step hI.bel
    have k9f := k9.step hI.bel
    have hH := hH7.step hI.bel
    have htX := Ht14.out.step hI.bel
    obtain ⟨b7, o7, rfl, -, -, hat⟩ := hH.at_ (by decide)
    have hrm := hH.sl.room
    have hmm := hH.sl.max
    unfold maxLen at hmm
    have hS : Below X.heap.size X X.drew := (Below.refl _ _).drew
    have c12 : ∀ s : InC (fun V => Below X.heap.size X V), s.W.cell? ⟨w14.heap.size, 0, none⟩ = some (.int .i64 3) := fun s => by rw [(hI.box.step s.ok).cell]; rfl
    have hbX := HB14.out.trans (hI.bel.mono HB14.out.size)
    have hld := fun V (hV : Below X.heap.size X V) => (hH.step hV).get rfl 0 (by decide)
    have Hld := Lib.hid hld
    have HI := Lib.hid hI
    clear k3a k4a k5a k9 hH7 hat hH hld hI
    go_wp2_with fail
    refine wp_region_mix (fun V => Below X.heap.size X V) [(0, true), (1, false), (2, true), (3, true), (4, true), (5, false), (6, true), (7, true), (8, true), (9, true), (10, true), (11, true), (12, true), (13, true), (14, true), (15, true), (16, true), (17, true), (18, true), (19, true), (20, true), (21, true), (22, true), (23, true), (24, true), (25, false), (26, true), (27, true), (28, true), (29, true), (30, true), (31, true), (33, true), (32, false), (34, false), (35, true), (36, true), (37, true), (38, true), (39, true), (40, true), (41, true)] (by kernel_rfl) (by kernel_rfl) hS fun _ => ?_
    simp only [List.map_cons, List.map_nil, Array.getD_eq_getD_getElem?, List.getElem?_toArray, List.getElem?_cons_succ, List.getElem?_cons_zero, Option.getD_some]
    generalize X.drew = V0 at hS ⊢
    refine wpMix_s (fun K hK => ?_)
    go_simp
    refine hK _ ?_
    clear hK K
    refine wpMix_c (fun K hK => ?_) hS
    go_simp
    refine (num14_any _ _).mono ?_
    rintro e V9 ⟨rfl, hww⟩
    obtain rfl := hww
    refine hK _ _ ?_
    clear hK K
    refine ⟨hS, ?_⟩
    refine wpMix_s (fun K hK => ?_)
    go_simp
    refine hK _ ?_
    clear hK K
    refine wpMix_s (fun K hK => ?_)
    go_simp
    refine hK _ ?_
    clear hK K
    refine wpMix_s (fun K hK => ?_)
    go_simp
    refine hK _ ?_
    clear hK K
    refine wpMix_c (fun K hK => ?_) hS
    go_simp
    refine (tsize_any (htX.step hS)).mono ?_
    rintro e V0e ⟨rfl, hww⟩
    obtain rfl := hww.symm
    refine hK _ _ ?_
    clear hK K
    refine ⟨hS, ?_⟩
    refine wpMix_s (fun K hK => ?_)
    go_simp
    refine hK _ ?_
    clear hK K
    refine wpMix_s (fun K hK => ?_)
    go_simp
    refine hK _ ?_
    clear hK K
    refine wpMix_s (fun K hK => ?_)
    go_simp
    refine hK _ ?_
    clear hK K
    refine wpMix_s (fun K hK => ?_)
    go_simp
    refine hK _ ?_
    clear hK K
    refine wpMix_s (fun K hK => ?_)
    go_simp
    refine hK _ ?_
    clear hK K
    refine wpMix_s (fun K hK => ?_)
    go_simp
    refine hK _ ?_
    clear hK K
    refine wpMix_s (fun K hK => ?_)
    go_simp
    refine hK _ ?_
    clear hK K
    refine wpMix_s (fun K hK => ?_)
    go_simp
    refine hK _ ?_
    clear hK K
    refine wpMix_s (fun K hK => ?_)
    go_simp
    refine hK _ ?_
    clear hK K
    refine wpMix_s (fun K hK => ?_)
    go_simp
    refine hK _ ?_
    clear hK K
    refine wpMix_s (fun K hK => ?_)
    go_simp
    refine hK _ ?_
    clear hK K
    refine wpMix_s (fun K hK => ?_)
    go_simp
    refine hK _ ?_
    clear hK K
    refine wpMix_s (fun K hK => ?_)
    go_simp
    refine hK _ ?_
    clear hK K
    refine wpMix_load (by kernel_rfl) 48 (.tmp 74) rfl (b7) (o7) rfl (c.map B).toArray (fun s => by have := Hld.out s.W s.ok; simpa using this) ?_
    simp only [Act.put, List.setIfInBounds_toArray, List.set_cons_succ, List.set_cons_zero]
    refine wpMix_load (by kernel_rfl) 48 (.tmp 5) rfl (g5) (0) rfl (c.map B).toArray (fun s => (k5f.step s.ok).load) ?_
    simp only [Act.put, List.setIfInBounds_toArray, List.set_cons_succ, List.set_cons_zero]
    refine wpMix_v (by kernel_rfl) (.bool true) (fun s => run_eql26_t (.tmp 75) (.tmp 76) _ c c rfl rfl rfl Hcl.out Hcl.out rfl s.W) ?_
    simp only [Act.put, List.setIfInBounds_toArray, List.set_cons_succ, List.set_cons_zero]
    refine wpMix_s (fun K hK => ?_)
    go_simp
    refine hK _ ?_
    clear hK K
    refine wpMix_s (fun K hK => ?_)
    go_simp
    refine hK _ ?_
    clear hK K
    refine wpMix_s (fun K hK => ?_)
    go_simp
    refine hK _ ?_
    clear hK K
    refine wpMix_c (fun K hK => ?_) hS
    go_simp
    refine (num14_any _ _).mono ?_
    rintro e V9 ⟨rfl, hww⟩
    obtain rfl := hww
    refine hK _ _ ?_
    clear hK K
    refine ⟨hS, ?_⟩
    refine wpMix_s (fun K hK => ?_)
    go_simp
    refine hK _ ?_
    clear hK K
    refine wpMix_s (fun K hK => ?_)
    go_simp
    refine hK _ ?_
    clear hK K
    refine wpMix_s (fun K hK => ?_)
    go_simp
    refine hK _ ?_
    clear hK K
    refine wpMix_load (by kernel_rfl) 48 (.tmp 9) rfl (g9) (0) rfl (r.map B).toArray (fun s => (k9f.step s.ok).load) ?_
    simp only [Act.put, List.setIfInBounds_toArray, List.set_cons_succ, List.set_cons_zero]
    refine wpMix_load (by kernel_rfl) 48 (.tmp 3) rfl (g3) (0) rfl (a.map B).toArray (fun s => (k3f.step s.ok).load) ?_
    simp only [Act.put, List.setIfInBounds_toArray, List.set_cons_succ, List.set_cons_zero]
    refine wpMix_load (by kernel_rfl) 48 (.tmp 4) rfl (g4) (0) rfl (b.map B).toArray (fun s => (k4f.step s.ok).load) ?_
    simp only [Act.put, List.setIfInBounds_toArray, List.set_cons_succ, List.set_cons_zero]
    refine wpMix_load (by kernel_rfl) 48 (.tmp 5) rfl (g5) (0) rfl (c.map B).toArray (fun s => (k5f.step s.ok).load) ?_
    simp only [Act.put, List.setIfInBounds_toArray, List.set_cons_succ, List.set_cons_zero]
    refine wpMix_c (fun K hK => ?_) hS
    go_simp
    refine (hnode_any a b V0 Hal.out Hbl.out).mono ?_
    rintro e V0_1 ⟨rfl, hb'⟩
    refine hK _ _ ?_
    clear hK K
    replace hS := hS.trans (hb'.mono hS.size)
    refine ⟨hS, ?_⟩
    clear hb'
    refine wpMix_c (fun K hK => ?_) hS
    go_simp
    refine (hnode_any (hNode a b) c V0_1 (length_hNode _ _) Hcl.out).mono ?_
    rintro e V0_2 ⟨rfl, hb'⟩
    refine hK _ _ ?_
    clear hK K
    replace hS := hS.trans (hb'.mono hS.size)
    refine ⟨hS, ?_⟩
    clear hb'
    refine wpMix_v (by kernel_rfl) (.bool true) (fun s => run_eql26_t (.tmp 85) (.tmp 90) _ r (hNode (hNode a b) c) rfl rfl rfl Hrl.out (length_hNode _ _) Hr.out.symm s.W) ?_
    simp only [Act.put, List.setIfInBounds_toArray, List.set_cons_succ, List.set_cons_zero]
    refine wpMix_s (fun K hK => ?_)
    go_simp
    refine hK _ ?_
    clear hK K
    refine wpMix_s (fun K hK => ?_)
    go_simp
    refine hK _ ?_
    clear hK K
    refine wpMix_s (fun K hK => ?_)
    go_simp
    refine hK _ ?_
    clear hK K
    refine wpMix_s (fun K hK => ?_)
    go_simp
    refine hK _ ?_
    clear hK K
    refine wpMix_s (fun K hK => ?_)
    go_simp
    refine hK _ ?_
    clear hK K
    refine wpMix_s (fun K hK => ?_)
    go_simp
    refine hK _ ?_
    clear hK K
    refine wpMix_nil ?_
    intro _
    have hz14 := HB14.out.size
    have hM : MarksOk w.heap.size [D] V0_2 := (((MarksOk.nil _ _).cons (by omega) hK (by simp)).step hS)
    have hbE := hbX.trans (hS.mono hbX.size)
    clear hS hbX c12 k3f k4f k5f k9f HI htX
    go_wp2_with fail
    exact leaves_marks (N := w.heap.size) [D] _ hM fun w' ht => ⟨_, results_tmp rfl _ _ _, rfl, hbE.trans ht.bel⟩
  case stop =>
    rintro D n₁ cd k X hD hDn hk h hK
    exact h.elim
end Go.Proofs.YtfhmjgkcpcnkbaaDoor
