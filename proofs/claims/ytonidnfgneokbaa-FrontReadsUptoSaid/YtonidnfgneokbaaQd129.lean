/- slices.EqualFunc of parts; (*Front).Same, Copy. -/
import Derived.Test.YtonidnfgneokbaaQd128
namespace Go.Proofs.Ytonidnfgneokbaa
open Go Go.RowKit Go.Shelf
attribute [local go_sem] Oper.semAt_some

theorem drop_atF {α : Type} (d : α) (ls : List α) (k : Nat) (h : k < ls.length) : ls.drop k = ls.getD k d :: ls.drop (k + 1) := by
  rw [List.drop_eq_getElem_cons h, List.getD_eq_getElem?_getD, List.getElem?_eq_getElem h]; rfl
theorem dec_consF {α : Type} [DecidableEq α] (x y : α) (l m : List α) : decide (x :: l = y :: m) = (decide (x = y) && decide (l = m)) := by
  by_cases h : x = y
  · subst h; simp
  · simp [h]
theorem fpc_inj (a b : FrV) : decide (fpc a = fpc b) = decide (a = b) := by
  have h : fpc a = fpc b ↔ a = b := by
    constructor
    · intro h
      induction a generalizing b with
      | nil => cases b with
        | nil => rfl
        | cons q b => cases h
      | cons p a ih =>
        cases b with
        | nil => cases h
        | cons q b =>
          obtain ⟨x1, x2⟩ := p
          obtain ⟨y1, y2⟩ := q
          injection h with e e3
          injection e with e1 e2
          have e1 : (x1 : Int) = (y1 : Int) := e1
          have e2 : x2 = y2 := e2
          rw [e2, show x1 = y1 by omega, ih b e3]
    · rintro rfl; rfl
  simp only [h]
set_option maxHeartbeats 4000000 in
set_option maxRecDepth 100000 in
theorem eqfp_any (ls ms : List PcV) (A A' : Option Addr) (n c n' c' : Nat) (w : World) (h : Pcs w (fun _ => True) A n c ls) (h' : Pcs w (fun _ => True) A' n' c' ms) :
    Calls Try.prog 120 #[.slice A n c, .slice A' n' c', .func (.func 121) #[] #[]] w fun e w' => e = .returned (.bool (decide (ls = ms))) ∧ Below w.heap.size w w' := by
  have hroom := h.sl.room
  have hmx := h.sl.max
  unfold maxLen at hmx
  have hroom' := h'.sl.room
  have hmx' := h'.sl.max
  unfold maxLen at hmx'
  obtain ⟨r, hr⟩ : ∃ r, decide (ls = ms) = r := ⟨_, rfl⟩
  rw [hr]
  have hlen := h.len
  have hlen' := h'.len
  by_cases hnn : n = n'
  · subst hnn
    have Hr := Lib.hid hr
    have Hlen := Lib.hid hlen
    have Hlen' := Lib.hid hlen'
    have hn1 : (((n : Int)) != (n : Int)) = false := by simp
    clear hr hlen hlen'
    go_enter Try.func120, Try.ntmps120
    go_wp2_with fail
    go_loopw [7, 8, 9, 17] (fun _ _ _ v17 wr => ∃ k : Nat, k ≤ n ∧ v17 = .int .i64 (k : Int) ∧ decide (ls.drop k = ms.drop k) = r ∧ Below w.heap.size w wr) (fun _ _ _ v17 _ => n - (intOf v17).toNat)
    case atStart => exact ⟨0, Nat.zero_le _, rfl, Hr.out, Below.refl _ _⟩
    case round =>
      obtain ⟨k, hk, rfl, hf, hW⟩ := hrel
      by_cases hkn : k < n
      · have hd : decide ((k : Int) < (n : Int)) = true := by simp; omega
        have hwk : IntKind.i64.wrap ((k : Int) + 1) = (k : Int) + 1 := IntWalk.i64_in _ (by omega)
        have hP := h.step hW
        have hP' := h'.step hW
        obtain ⟨b, o, rfl, -, -⟩ := hP.at_ (by omega)
        obtain ⟨b', o', rfl, -, -⟩ := hP'.at_ (by omega)
        have hl1 := fun W (hb : Below wr.heap.size wr W) => (hP.step hb).load aggFp sizeFp rfl k hkn
        have hl2 := fun W (hb : Below wr.heap.size wr W) => (hP'.step hb).load aggFp sizeFp rfl k hkn
        have hx32 := hP.all.getD k (by rw [Hlen.out]; exact hkn)
        have hy32 := hP'.all.getD k (by rw [Hlen'.out]; exact hkn)
        rw [drop_atF pcD ls k (by rw [Hlen.out]; exact hkn), drop_atF pcD ms k (by rw [Hlen'.out]; exact hkn), dec_consF] at hf
        obtain ⟨⟨xn, x⟩, hx⟩ : ∃ x, ls.getD k pcD = x := ⟨_, rfl⟩
        obtain ⟨⟨yn, y⟩, hy⟩ : ∃ x, ms.getD k pcD = x := ⟨_, rfl⟩
        rw [hx] at hl1 hx32 hf
        rw [hy] at hl2 hy32 hf
        have h1 := fun W => same1_any (xn, x) (yn, y) W hx32 hy32
        obtain ⟨q, hq⟩ : ∃ q, decide ((xn, x) = (yn, y)) = q := ⟨_, rfl⟩
        rw [hq] at h1 hf
        have H1 := Lib.hid h1
        have Hf := Lib.hid hf
        have Hl1 := Lib.hid hl1
        have Hl2 := Lib.hid hl2
        have hx32 : x.length = 32 := hx32
        have hy32 : y.length = 32 := hy32
        clear h1 hf hq hx hy hl1 hl2 hP hP'
        cases q with
        | true =>
          go_wp2_with (first
            | ((with_reducible show wpList _ _ _ (⟨some 21, .load _ _, _, _, _, _⟩ :: _) _ _); refine wpList_run0 rfl (.agg (Value.int .i64 xn :: x.map B).toArray) (run_load_op 156 (.tmp 20) rfl b (o + k * 33) rfl _ (Hl1.out wr (Below.refl _ _))) ?_; simp only [Act.put])
            | ((with_reducible show wpList _ _ _ (⟨some 8, .alloc _, _, _, _, _⟩ :: _) _ _); refine wpList_boxnew (T := 156) (fun W => by kernel_rfl) rfl ?_; intro w1 k8 hb1; simp only [Act.put])
            | ((with_reducible show wpList _ _ _ [⟨none, .store _ (.tmp 8) _, _, _, _, _⟩] _ _); refine wpList_boxset sizeFp (.tmp 8) (.tmp 21) rfl rfl k8 rfl rfl hx32 ?_; intro w2 k8b hb2; have hb12 := hb1.trans hb2; simp only [Act.put])
            | ((with_reducible show wpList _ _ _ (⟨some 25, .load _ _, _, _, _, _⟩ :: _) _ _); refine wpList_run0 rfl (.agg (Value.int .i64 yn :: y.map B).toArray) (run_load_op 156 (.tmp 24) rfl b' (o' + k * 33) rfl _ (Hl2.out w2 hb12)) ?_; simp only [Act.put])
            | ((with_reducible show wpList _ _ _ (⟨some 9, .alloc _, _, _, _, _⟩ :: _) _ _); refine wpList_fpvar (.tmp 9) (.tmp 25) rfl rfl rfl rfl rfl rfl hy32 ?_; intro w3 k9 hb3; have k8c := k8b.step hb3; have hb13 := hb12.trans (hb3.mono hb12.size); simp only [Act.put])
            | ((with_reducible show wpList _ _ _ (⟨some 27, .load _ _, _, _, _, _⟩ :: _) _ _); refine wpList_run0 rfl (.agg (Value.int .i64 xn :: x.map B).toArray) (run_load_op 156 (.tmp 8) rfl _ 0 rfl _ (k8c.load aggFp sizeFp)) ?_; simp only [Act.put])
            | ((with_reducible show wpList _ _ _ (⟨some 28, .load _ _, _, _, _, _⟩ :: _) _ _); refine wpList_run0 rfl (.agg (Value.int .i64 yn :: y.map B).toArray) (run_load_op 156 (.tmp 9) rfl _ 0 rfl _ (k9.load aggFp sizeFp)) ?_; simp only [Act.put])
            | (go_at_call 121; refine (H1.out w3).mono ?_; rintro e w4 ⟨rfl, hb4⟩; have hb14 := hb13.trans (hb4.mono hb13.size)))
          go_roundw
          case rel => exact ⟨k + 1, by omega, by go_num, by simpa using Hf.out, hW.trans (hb14.mono hW.size)⟩
          case measure => simp [intOf]; omega
        | false =>
          obtain rfl : false = r := by simpa using Hf.out
          go_wp2_with (first
            | ((with_reducible show wpList _ _ _ (⟨some 21, .load _ _, _, _, _, _⟩ :: _) _ _); refine wpList_run0 rfl (.agg (Value.int .i64 xn :: x.map B).toArray) (run_load_op 156 (.tmp 20) rfl b (o + k * 33) rfl _ (Hl1.out wr (Below.refl _ _))) ?_; simp only [Act.put])
            | ((with_reducible show wpList _ _ _ (⟨some 8, .alloc _, _, _, _, _⟩ :: _) _ _); refine wpList_boxnew (T := 156) (fun W => by kernel_rfl) rfl ?_; intro w1 k8 hb1; simp only [Act.put])
            | ((with_reducible show wpList _ _ _ [⟨none, .store _ (.tmp 8) _, _, _, _, _⟩] _ _); refine wpList_boxset sizeFp (.tmp 8) (.tmp 21) rfl rfl k8 rfl rfl hx32 ?_; intro w2 k8b hb2; have hb12 := hb1.trans hb2; simp only [Act.put])
            | ((with_reducible show wpList _ _ _ (⟨some 25, .load _ _, _, _, _, _⟩ :: _) _ _); refine wpList_run0 rfl (.agg (Value.int .i64 yn :: y.map B).toArray) (run_load_op 156 (.tmp 24) rfl b' (o' + k * 33) rfl _ (Hl2.out w2 hb12)) ?_; simp only [Act.put])
            | ((with_reducible show wpList _ _ _ (⟨some 9, .alloc _, _, _, _, _⟩ :: _) _ _); refine wpList_fpvar (.tmp 9) (.tmp 25) rfl rfl rfl rfl rfl rfl hy32 ?_; intro w3 k9 hb3; have k8c := k8b.step hb3; have hb13 := hb12.trans (hb3.mono hb12.size); simp only [Act.put])
            | ((with_reducible show wpList _ _ _ (⟨some 27, .load _ _, _, _, _, _⟩ :: _) _ _); refine wpList_run0 rfl (.agg (Value.int .i64 xn :: x.map B).toArray) (run_load_op 156 (.tmp 8) rfl _ 0 rfl _ (k8c.load aggFp sizeFp)) ?_; simp only [Act.put])
            | ((with_reducible show wpList _ _ _ (⟨some 28, .load _ _, _, _, _, _⟩ :: _) _ _); refine wpList_run0 rfl (.agg (Value.int .i64 yn :: y.map B).toArray) (run_load_op 156 (.tmp 9) rfl _ 0 rfl _ (k9.load aggFp sizeFp)) ?_; simp only [Act.put])
            | (go_at_call 121; refine (H1.out w3).mono ?_; rintro e w4 ⟨rfl, hb4⟩; have hb14 := hb13.trans (hb4.mono hb13.size)))
          go_ret
          exact ⟨rfl, hW.trans (hb14.mono hW.size)⟩
      · obtain rfl : k = n := by omega
        have hd : decide ((k : Int) < (k : Int)) = false := by simp
        rw [List.drop_of_length_le (by rw [Hlen.out]; exact Nat.le_refl _), List.drop_of_length_le (by rw [Hlen'.out]; exact Nat.le_refl _)] at hf
        obtain rfl : true = r := by simpa using hf
        go_wp2_with fail
        go_ret
        exact ⟨rfl, hW⟩
  · obtain rfl : false = r := by
      rw [← hr]
      exact (decide_eq_false fun e => hnn (by rw [← hlen, ← hlen', e])).symm
    have hn1 : (((n : Int)) != (n' : Int)) = true := by simp; omega
    have hn2 : ¬ (n : Int) = (n' : Int) := by omega
    clear hr
    go_enter Try.func120, Try.ntmps120
    go_wp2_with fail
    go_ret
    exact ⟨rfl, Below.refl _ _⟩

set_option maxHeartbeats 4000000 in
set_option maxRecDepth 100000 in
theorem fsame_nilL (v : Value) (w : World) (hv : v = .pointer none ∨ ∃ g, v = fptr g) : Calls Try.prog 52 #[.pointer none, v] w fun e w' => e = .returned (.bool false) ∧ w' = w := by
  rcases hv with rfl | ⟨g, rfl⟩
  · go_enter Try.func52, Try.ntmps52
    go_wp2_with fail
    go_ret
    exact ⟨rfl, rfl⟩
  · go_enter Try.func52, Try.ntmps52
    go_wp2_with fail
    go_ret
    exact ⟨rfl, rfl⟩
set_option maxHeartbeats 4000000 in
set_option maxRecDepth 100000 in
theorem fsame_nilR (g : Nat) (w : World) : Calls Try.prog 52 #[fptr g, .pointer none] w fun e w' => e = .returned (.bool false) ∧ w' = w := by
  go_enter Try.func52, Try.ntmps52
  go_wp2_with fail
  go_ret
  exact ⟨rfl, rfl⟩
set_option maxHeartbeats 4000000 in
set_option maxRecDepth 100000 in
theorem fsame_any (g g' : Nat) (ps qs : FrV) (w : World) (h : FrO w g ps) (h' : FrO w g' qs) : Calls Try.prog 52 #[fptr g, fptr g'] w fun e w' => e = .returned (.bool (decide (ps = qs))) ∧ Below w.heap.size w w' := by
  obtain ⟨A, n, c, hk, hP⟩ := h.ex
  obtain ⟨A', n', c', hk', hP'⟩ := h'.ex
  have hcall := fun W (hb : Below w.heap.size w W) => eqfp_any (fpc ps) (fpc qs) A A' n c n' c' W (hP.step hb) (hP'.step hb)
  rw [fpc_inj] at hcall
  obtain ⟨r, hr⟩ : ∃ r, decide (ps = qs) = r := ⟨_, rfl⟩
  rw [hr] at hcall ⊢
  have Hcall := Lib.hid hcall
  have e1 : ∀ s : InC (fun W => Below w.heap.size w W), s.W.cell? ⟨g, 0, none⟩ = some (.slice A n c) := fun s => by rw [(hk.step s.ok).cell]; rfl
  have e2 : ∀ s : InC (fun W => Below w.heap.size w W), s.W.cell? ⟨g', 0, none⟩ = some (.slice A' n' c') := fun s => by rw [(hk'.step s.ok).cell]; rfl
  clear hcall hr hP hP' hk hk' h h'
  go_enter Try.func52, Try.ntmps52
  go_wp2_with fail
  have hS : Below w.heap.size w w.drew := (Below.refl _ _).drew
  refine wp_region_mix (fun W => Below w.heap.size w W) [(0, true), (1, true), (2, true), (3, true), (4, true), (5, true), (6, true), (7, true), (8, false), (9, true)] (by kernel_rfl) (by kernel_rfl) hS fun _ => ?_
  simp only [List.map_cons, List.map_nil, Array.getD_eq_getD_getElem?, List.getElem?_toArray, List.getElem?_cons_succ, List.getElem?_cons_zero, Option.getD_some]
  generalize w.drew = u2 at hS ⊢
  refine wpMix_s (fun K hK => ?_)
  go_simp
  refine hK _ ?_
  clear hK K
  refine wpMix_s (fun K hK => ?_)
  go_simp
  refine hK _ ?_
  clear hK K
  refine wpMix_s (fun K hK => ?_)
  go_simp
  refine hK _ ?_
  clear hK K
  refine wpMix_s (fun K hK => ?_)
  go_simp
  refine hK _ ?_
  clear hK K
  refine wpMix_s (fun K hK => ?_)
  go_simp
  refine hK _ ?_
  clear hK K
  refine wpMix_s (fun K hK => ?_)
  go_simp
  refine hK _ ?_
  clear hK K
  refine wpMix_s (fun K hK => ?_)
  go_simp
  refine hK _ ?_
  clear hK K
  refine wpMix_s (fun K hK => ?_)
  go_simp
  refine hK _ ?_
  clear hK K
  refine wpMix_c (fun K hK => ?_) hS
  go_simp
  refine (Hcall.out u2 hS).mono ?_
  rintro e u2_1 ⟨rfl, hb'⟩
  refine hK _ _ ?_
  clear hK K
  replace hS := hS.trans (hb'.mono hS.size)
  refine ⟨hS, ?_⟩
  clear hb'
  refine wpMix_s (fun K hK => ?_)
  go_simp
  refine hK _ ?_
  clear hK K
  refine wpMix_nil ?_
  intro _
  go_wp2_with fail
  go_ret
  exact ⟨rfl, hS⟩

set_option maxHeartbeats 4000000 in
set_option maxRecDepth 100000 in
theorem fcopy_nil (w : World) : Calls Try.prog 63 #[.pointer none] w fun e w' => e = .returned (.pointer none) ∧ w' = w := by
  go_enter Try.func63, Try.ntmps63
  go_wp2_with fail
  go_ret
  exact ⟨rfl, rfl⟩
set_option maxHeartbeats 4000000 in
set_option maxRecDepth 100000 in
theorem fcopy_any (g : Nat) (ps : FrV) (w : World) (h : FrO w g ps) (ho : FrOk ps) : Calls Try.prog 63 #[fptr g] w fun e w' => ∃ g', e = .returned (fptr g') ∧ w.heap.size ≤ g' ∧ FrO w' g' ps ∧ Below w.heap.size w w' := by
  obtain ⟨A, n, c, hk, hP⟩ := h.ex
  have hlen : (fpc ps).length = n := hP.len
  have hcall := clonep_any (fpc ps) A n c w hP (by have := ho.len; rw [length_fpc] at hlen; omega)
  have c1 : w.cell? ⟨g, 0, none⟩ = some (.slice A n c) := by rw [hk.cell]; rfl
  have Hcall := Lib.hid hcall
  have Hlen := Lib.hid hlen
  have H32 := Lib.hid (fpc_32 ps ho.h32)
  clear hcall hP h ho hk hlen
  go_enter Try.func63, Try.ntmps63
  go_wp2_with (go_at_call 119; refine Hcall.out.mono ?_; rintro e w1 ⟨v, rfl, ho1, hb1⟩; obtain ⟨A9, c9, rfl, hs9⟩ := Pcs.of_owns ho1 Hlen.out H32.out)
  go_ret
  exact ⟨w1.heap.size, rfl, hb1.size, ⟨A9, n, c9, Blk.new _ _ _, (hs9.every.step ((Below.refl _ _).alloc (Nat.le_refl _) _))⟩, hb1.trans ((Below.refl _ _).alloc hb1.size _)⟩
end Go.Proofs.Ytonidnfgneokbaa
