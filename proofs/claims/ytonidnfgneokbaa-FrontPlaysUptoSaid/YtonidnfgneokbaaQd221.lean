/- slices.EqualFunc of parts; (*Front).Same, Copy. -/
import Derived.Test.YtonidnfgneokbaaQd220
import Derived.Test.YtonidnfgneokbaaQd214
import Derived.Test.YtonidnfgneokbaaQd210
namespace Go.Proofs.Ytonidnfgneokbaa
open Go Go.RowKit Go.Shelf
attribute [local go_sem] Oper.semAt_some

theorem drop_atF {α : Type} (d : α) (ls : List α) (k : Nat) (h : k < ls.length) : ls.drop k = ls.getD k d :: ls.drop (k + 1) := by
  rw [List.drop_eq_getElem_cons h, List.getD_eq_getElem?_getD, List.getElem?_eq_getElem h]; rfl
theorem dec_consF {α : Type} [DecidableEq α] (x y : α) (l m : List α) : decide (x :: l = y :: m) = (decide (x = y) && decide (l = m)) := by
  by_cases h : x = y
  · subst h; simp
  · simp [h]
theorem fpc_inj (a b : FrV) : decide (fpc a = fpc b) = decide (a = b) := by
  have h : fpc a = fpc b ↔ a = b := by
    constructor
    · intro h
      induction a generalizing b with
      | nil => cases b with
        | nil => rfl
        | cons q b => cases h
      | cons p a ih =>
        cases b with
        | nil => cases h
        | cons q b =>
          obtain ⟨x1, x2⟩ := p
          obtain ⟨y1, y2⟩ := q
          injection h with e e3
          injection e with e1 e2
          have e1 : (x1 : Int) = (y1 : Int) := e1
          have e2 : x2 = y2 := e2
          rw [e2, show x1 = y1 by omega, ih b e3]
    · rintro rfl; rfl
  simp only [h]
set_option maxHeartbeats 4000000 in
set_option maxRecDepth 100000 in
theorem eqfp_any (ls ms : List PcV) (A A' : Option Addr) (n c n' c' : Nat) (w : World) (h : Pcs w (fun _ => True) A n c ls) (h' : Pcs w (fun _ => True) A' n' c' ms) :
    Calls Try.prog 120 #[.slice A n c, .slice A' n' c', .func (.func 121) #[] #[]] w fun e w' => e = .returned (.bool (decide (ls = ms))) ∧ Below w.heap.size w w' := by
  have hroom := h.sl.room
  have hmx := h.sl.max
  unfold maxLen at hmx
  have hroom' := h'.sl.room
  have hmx' := h'.sl.max
  unfold maxLen at hmx'
  obtain ⟨r, hr⟩ : ∃ r, decide (ls = ms) = r := ⟨_, rfl⟩
  rw [hr]
  have hlen := h.len
  have hlen' := h'.len
  by_cases hnn : n = n'
  · subst hnn
    have Hr := Lib.hid hr
    have Hlen := Lib.hid hlen
    have Hlen' := Lib.hid hlen'
    have hn1 : (((n : Int)) != (n : Int)) = false := by simp
    clear hr hlen hlen'
    go_enter Try.func120, Try.ntmps120
    go_wp2_with fail
    go_loopw [7, 8, 9, 17] (fun _ _ _ v17 wr => ∃ k : Nat, k ≤ n ∧ v17 = .int .i64 (k : Int) ∧ decide (ls.drop k = ms.drop k) = r ∧ Below w.heap.size w wr) (fun _ _ _ v17 _ => n - (intOf v17).toNat)
    case atStart => exact ⟨0, Nat.zero_le _, rfl, Hr.out, Below.refl _ _⟩
    case round =>
      obtain ⟨k, hk, rfl, hf, hW⟩ := hrel
      by_cases hkn : k < n
      · have hd : decide ((k : Int) < (n : Int)) = true := by simp; omega
        have hwk : IntKind.i64.wrap ((k : Int) + 1) = (k : Int) + 1 := IntWalk.i64_in _ (by omega)
        have hP := h.step hW
        have hP' := h'.step hW
        obtain ⟨b, o, rfl, -, -⟩ := hP.at_ (by omega)
        obtain ⟨b', o', rfl, -, -⟩ := hP'.at_ (by omega)
        have hl1 := fun W (hb : Below wr.heap.size wr W) => (hP.step hb).load aggFp sizeFp rfl k hkn
        have hl2 := fun W (hb : Below wr.heap.size wr W) => (hP'.step hb).load aggFp sizeFp rfl k hkn
        have hx32 := hP.all.getD k (by rw [Hlen.out]; exact hkn)
        have hy32 := hP'.all.getD k (by rw [Hlen'.out]; exact hkn)
        rw [drop_atF pcD ls k (by rw [Hlen.out]; exact hkn), drop_atF pcD ms k (by rw [Hlen'.out]; exact hkn), dec_consF] at hf
        obtain ⟨⟨xn, x⟩, hx⟩ : ∃ x, ls.getD k pcD = x := ⟨_, rfl⟩
        obtain ⟨⟨yn, y⟩, hy⟩ : ∃ x, ms.getD k pcD = x := ⟨_, rfl⟩
        rw [hx] at hl1 hx32 hf
        rw [hy] at hl2 hy32 hf
        have h1 := fun W => same1_any (xn, x) (yn, y) W hx32 hy32
        obtain ⟨q, hq⟩ : ∃ q, decide ((xn, x) = (yn, y)) = q := ⟨_, rfl⟩
        rw [hq] at h1 hf
        have H1 := Lib.hid h1
        have Hf := Lib.hid hf
        have Hl1 := Lib.hid hl1
        have Hl2 := Lib.hid hl2
        have hx32 : x.length = 32 := hx32
        have hy32 : y.length = 32 := hy32
        clear h1 hf hq hx hy hl1 hl2 hP hP'
        cases q with
        | true =>
          go_wp2_with (first
            | ((with_reducible show wpList _ _ _ (⟨some 21, .load _ _, _, _, _, _⟩ :: _) _ _); refine wpList_run0 rfl (.agg (Value.int .i64 xn :: x.map B).toArray) (run_load_op 156 (.tmp 20) rfl b (o + k * 33) rfl _ (Hl1.out wr (Below.refl _ _))) ?_; simp only [Act.put])
            | ((with_reducible show wpList _ _ _ (⟨some 8, .alloc _, _, _, _, _⟩ :: _) _ _); refine wpList_boxnew (T := 156) (fun W => by kernel_rfl) rfl ?_; intro w1 k8 hb1; simp only [Act.put])
            | ((with_reducible show wpList _ _ _ [⟨none, .store _ (.tmp 8) _, _, _, _, _⟩] _ _); refine wpList_boxset sizeFp (.tmp 8) (.tmp 21) rfl rfl k8 rfl rfl hx32 ?_; intro w2 k8b hb2; have hb12 := hb1.trans hb2; simp only [Act.put])
            | ((with_reducible show wpList _ _ _ (⟨some 25, .load _ _, _, _, _, _⟩ :: _) _ _); refine wpList_run0 rfl (.agg (Value.int .i64 yn :: y.map B).toArray) (run_load_op 156 (.tmp 24) rfl b' (o' + k * 33) rfl _ (Hl2.out w2 hb12)) ?_; simp only [Act.put])
            | ((with_reducible show wpList _ _ _ (⟨some 9, .alloc _, _, _, _, _⟩ :: _) _ _); refine wpList_fpvar (.tmp 9) (.tmp 25) rfl rfl rfl rfl rfl rfl hy32 ?_; intro w3 k9 hb3; have k8c := k8b.step hb3; have hb13 := hb12.trans (hb3.mono hb12.size); simp only [Act.put])
            | ((with_reducible show wpList _ _ _ (⟨some 27, .load _ _, _, _, _, _⟩ :: _) _ _); refine wpList_run0 rfl (.agg (Value.int .i64 xn :: x.map B).toArray) (run_load_op 156 (.tmp 8) rfl _ 0 rfl _ (k8c.load aggFp sizeFp)) ?_; simp only [Act.put])
            | ((with_reducible show wpList _ _ _ (⟨some 28, .load _ _, _, _, _, _⟩ :: _) _ _); refine wpList_run0 rfl (.agg (Value.int .i64 yn :: y.map B).toArray) (run_load_op 156 (.tmp 9) rfl _ 0 rfl _ (k9.load aggFp sizeFp)) ?_; simp only [Act.put])
            | (go_at_call 121; refine (H1.out w3).mono ?_; rintro e w4 ⟨rfl, hb4⟩; have hb14 := hb13.trans (hb4.mono hb13.size)))
          go_roundw
          case rel => exact ⟨k + 1, by omega, by go_num, by simpa using Hf.out, hW.trans (hb14.mono hW.size)⟩
          case measure => simp [intOf]; omega
        | false =>
          obtain rfl : false = r := by simpa using Hf.out
          go_wp2_with (first
            | ((with_reducible show wpList _ _ _ (⟨some 21, .load _ _, _, _, _, _⟩ :: _) _ _); refine wpList_run0 rfl (.agg (Value.int .i64 xn :: x.map B).toArray) (run_load_op 156 (.tmp 20) rfl b (o + k * 33) rfl _ (Hl1.out wr (Below.refl _ _))) ?_; simp only [Act.put])
            | ((with_reducible show wpList _ _ _ (⟨some 8, .alloc _, _, _, _, _⟩ :: _) _ _); refine wpList_boxnew (T := 156) (fun W => by kernel_rfl) rfl ?_; intro w1 k8 hb1; simp only [Act.put])
            | ((with_reducible show wpList _ _ _ [⟨none, .store _ (.tmp 8) _, _, _, _, _⟩] _ _); refine wpList_boxset sizeFp (.tmp 8) (.tmp 21) rfl rfl k8 rfl rfl hx32 ?_; intro w2 k8b hb2; have hb12 := hb1.trans hb2; simp only [Act.put])
            | ((with_reducible show wpList _ _ _ (⟨some 25, .load _ _, _, _, _, _⟩ :: _) _ _); refine wpList_run0 rfl (.agg (Value.int .i64 yn :: y.map B).toArray) (run_load_op 156 (.tmp 24) rfl b' (o' + k * 33) rfl _ (Hl2.out w2 hb12)) ?_; simp only [Act.put])
            | ((with_reducible show wpList _ _ _ (⟨some 9, .alloc _, _, _, _, _⟩ :: _) _ _); refine wpList_fpvar (.tmp 9) (.tmp 25) rfl rfl rfl rfl rfl rfl hy32 ?_; intro w3 k9 hb3; have k8c := k8b.step hb3; have hb13 := hb12.trans (hb3.mono hb12.size); simp only [Act.put])
            | ((with_reducible show wpList _ _ _ (⟨some 27, .load _ _, _, _, _, _⟩ :: _) _ _); refine wpList_run0 rfl (.agg (Value.int .i64 xn :: x.map B).toArray) (run_load_op 156 (.tmp 8) rfl _ 0 rfl _ (k8c.load aggFp sizeFp)) ?_; simp only [Act.put])
            | ((with_reducible show wpList _ _ _ (⟨some 28, .load _ _, _, _, _, _⟩ :: _) _ _); refine wpList_run0 rfl (.agg (Value.int .i64 yn :: y.map B).toArray) (run_load_op 156 (.tmp 9) rfl _ 0 rfl _ (k9.load aggFp sizeFp)) ?_; simp only [Act.put])
            | (go_at_call 121; refine (H1.out w3).mono ?_; rintro e w4 ⟨rfl, hb4⟩; have hb14 := hb13.trans (hb4.mono hb13.size)))
          go_ret
          exact ⟨rfl, hW.trans (hb14.mono hW.size)⟩
      · obtain rfl : k = n := by omega
        have hd : decide ((k : Int) < (k : Int)) = false := by simp
        rw [List.drop_of_length_le (by rw [Hlen.out]; exact Nat.le_refl _), List.drop_of_length_le (by rw [Hlen'.out]; exact Nat.le_refl _)] at hf
        obtain rfl : true = r := by simpa using hf
        go_wp2_with fail
        go_ret
        exact ⟨rfl, hW⟩
  · obtain rfl : false = r := by
      rw [← hr]
      exact (decide_eq_false fun e => hnn (by rw [← hlen, ← hlen', e])).symm
    have hn1 : (((n : Int)) != (n' : Int)) = true := by simp; omega
    have hn2 : ¬ (n : Int) = (n' : Int) := by omega
    clear hr
    go_enter Try.func120, Try.ntmps120
    go_wp2_with fail
    go_ret
    exact ⟨rfl, Below.refl _ _⟩

set_option maxHeartbeats 4000000 in
set_option maxRecDepth 100000 in
theorem fsame_nilL (v : Value) (w : World) (hv : v = .pointer none ∨ ∃ g, v = fptr g) : Calls Try.prog 52 #[.pointer none, v] w fun e w' => e = .returned (.bool false) ∧ w' = w := by
  rcases hv with rfl | ⟨g, rfl⟩
  · go_enter Try.func52, Try.ntmps52
    go_wp2_with fail
    go_ret
    exact ⟨rfl, rfl⟩
  · go_enter Try.func52, Try.ntmps52
    go_wp2_with fail
    go_ret
    exact ⟨rfl, rfl⟩
set_option maxHeartbeats 4000000 in
set_option maxRecDepth 100000 in
theorem fsame_nilR (g : Nat) (w : World) : Calls Try.prog 52 #[fptr g, .pointer none] w fun e w' => e = .returned (.bool false) ∧ w' = w := by
  go_enter Try.func52, Try.ntmps52
  go_wp2_with fail
  go_ret
  exact ⟨rfl, rfl⟩
set_option maxHeartbeats 4000000 in
set_option maxRecDepth 100000 in
theorem fsame_any (g g' : Nat) (ps qs : FrV) (w : World) (h : FrO w g ps) (h' : FrO w g' qs) : Calls Try.prog 52 #[fptr g, fptr g'] w fun e w' => e = .returned (.bool (decide (ps = qs))) ∧ Below w.heap.size w w' := by
  obtain ⟨A, n, c, hk, hP⟩ := h.ex
  obtain ⟨A', n', c', hk', hP'⟩ := h'.ex
  have hcall := fun W (hb : Below w.heap.size w W) => eqfp_any (fpc ps) (fpc qs) A A' n c n' c' W (hP.step hb) (hP'.step hb)
  rw [fpc_inj] at hcall
  obtain ⟨r, hr⟩ : ∃ r, decide (ps = qs) = r := ⟨_, rfl⟩
  rw [hr] at hcall ⊢
  have Hcall := Lib.hid hcall
  have e1 : ∀ s : InC (fun W => Below w.heap.size w W), s.W.cell? ⟨g, 0, none⟩ = some (.slice A n c) := fun s => by rw [(hk.step s.ok).cell]; rfl
  have e2 : ∀ s : InC (fun W => Below w.heap.size w W), s.W.cell? ⟨g', 0, none⟩ = some (.slice A' n' c') := fun s => by rw [(hk'.step s.ok).cell]; rfl
  clear hcall hr hP hP' hk hk' h h'
  go_enter Try.func52, Try.ntmps52
  go_wp2_with fail
  have hS : Below w.heap.size w w.drew := (Below.refl _ _).drew
  refine wp_region_mix (fun W => Below w.heap.size w W) [(0, true), (1, true), (2, true), (3, true), (4, true), (5, true), (6, true), (7, true), (8, false), (9, true)] (by kernel_rfl) (by kernel_rfl) hS fun _ => ?_
  simp only [List.map_cons, List.map_nil, Array.getD_eq_getD_getElem?, List.getElem?_toArray, List.getElem?_cons_succ, List.getElem?_cons_zero, Option.getD_some]
  generalize w.drew = u2 at hS ⊢
  refine wpMix_s (fun K hK => ?_)
  go_simp
  refine hK _ ?_
  clear hK K
  refine wpMix_s (fun K hK => ?_)
  go_simp
  refine hK _ ?_
  clear hK K
  refine wpMix_s (fun K hK => ?_)
  go_simp
  refine hK _ ?_
  clear hK K
  refine wpMix_s (fun K hK => ?_)
  go_simp
  refine hK _ ?_
  clear hK K
  refine wpMix_s (fun K hK => ?_)
  go_simp
  refine hK _ ?_
  clear hK K
  refine wpMix_s (fun K hK => ?_)
  go_simp
  refine hK _ ?_
  clear hK K
  refine wpMix_s (fun K hK => ?_)
  go_simp
  refine hK _ ?_
  clear hK K
  refine wpMix_s (fun K hK => ?_)
  go_simp
  refine hK _ ?_
  clear hK K
  refine wpMix_c (fun K hK => ?_) hS
  go_simp
  refine (Hcall.out u2 hS).mono ?_
  rintro e u2_1 ⟨rfl, hb'⟩
  refine hK _ _ ?_
  clear hK K
  replace hS := hS.trans (hb'.mono hS.size)
  refine ⟨hS, ?_⟩
  clear hb'
  refine wpMix_s (fun K hK => ?_)
  go_simp
  refine hK _ ?_
  clear hK K
  refine wpMix_nil ?_
  intro _
  go_wp2_with fail
  go_ret
  exact ⟨rfl, hS⟩

set_option maxHeartbeats 4000000 in
set_option maxRecDepth 100000 in
theorem fcopy_nil (w : World) : Calls Try.prog 63 #[.pointer none] w fun e w' => e = .returned (.pointer none) ∧ w' = w := by
  go_enter Try.func63, Try.ntmps63
  go_wp2_with fail
  go_ret
  exact ⟨rfl, rfl⟩
set_option maxHeartbeats 4000000 in
set_option maxRecDepth 100000 in
theorem fcopy_any (g : Nat) (ps : FrV) (w : World) (h : FrO w g ps) (ho : FrOk ps) : Calls Try.prog 63 #[fptr g] w fun e w' => ∃ g', e = .returned (fptr g') ∧ w.heap.size ≤ g' ∧ FrO w' g' ps ∧ Below w.heap.size w w' := by
  obtain ⟨A, n, c, hk, hP⟩ := h.ex
  have hlen : (fpc ps).length = n := hP.len
  have hcall := clonep_any (fpc ps) A n c w hP (by have := ho.len; rw [length_fpc] at hlen; omega)
  have c1 : w.cell? ⟨g, 0, none⟩ = some (.slice A n c) := by rw [hk.cell]; rfl
  have Hcall := Lib.hid hcall
  have Hlen := Lib.hid hlen
  have H32 := Lib.hid (fpc_32 ps ho.h32)
  clear hcall hP h ho hk hlen
  go_enter Try.func63, Try.ntmps63
  go_wp2_with (go_at_call 119; refine Hcall.out.mono ?_; rintro e w1 ⟨v, rfl, ho1, hb1⟩; obtain ⟨A9, c9, rfl, hs9⟩ := Pcs.of_owns ho1 Hlen.out H32.out)
  go_ret
  exact ⟨w1.heap.size, rfl, hb1.size, ⟨A9, n, c9, Blk.new _ _ _, (hs9.every.step ((Below.refl _ _).alloc (Nat.le_refl _) _))⟩, hb1.trans ((Below.refl _ _).alloc hb1.size _)⟩
end Go.Proofs.Ytonidnfgneokbaa
/- As MixT, where what is waited for lies farther back. No program in sight. -/
namespace Go.Proofs.Ytonidnfgneokbaa
open Go

section
variable {P : Program} {ops : Array Oper} {Q : Exit → Act → World → Prop} {md : Region.Mode} {S : World → Prop} {k : Nat}
def waitsT7 (md : Region.Mode) (ops : Array Oper) (k i : Nat) : Bool := waitsF md ops 6 k i
theorem waitsT_spec7 {listed : Array Bool} {j i : Nat} {oj : Oper} (hcl : Cl md ops listed) (hoj : ops[j]? = some oj) (hall : ∀ e ∈ oj.after, Region.binds md e = true → listed.getD e.on false = true) (h : waitsT7 md ops j i = true) : listed.getD i false = true :=
  waitsF_spec hcl 6 j oj hoj hall h

theorem wpAnyT_first7 {i : Nat} {oi : Oper} {v : Value} (hi : ops[i]? = some oi) (hsel : ∀ (j : Nat) (o : Oper) cs b, ops[j]? = some o → o.op ≠ .select cs b) (hw : ∀ j, k ≤ j → j < ops.size → waitsT7 md ops j i = true)
    (hQ : ∀ c a w, Q (.panic c) (a.put oi.dst v) w → Q (.panic c) a w) :
    ∀ (fuel : Nat) (listed : Array Bool) (a : Act) (w : World), Cl md ops listed →
      (∀ j oj, ops[j]? = some oj → j ≠ i → listed.getD j true = false → (∀ e ∈ oj.after, Region.binds md e = true → e.on ≠ i) → oi.apart ops oj = true) →
      i ∈ Region.ready md ops listed → YieldsIf P ops S oi v a → S w →
      wpAnyT P md ops Q S k fuel (listed.setIfInBounds i true) (a.put oi.dst v) w → wpAnyT P md ops Q S k (fuel + 1) listed a w := by
  intro fuel
  induction fuel with
  | zero =>
    intro listed a w _ _ hr hy hS H
    refine ⟨fun h => (by rw [h] at hr; cases hr), fun j hj => ?_⟩
    by_cases hji : j = i
    · subst hji; exact hy.wpOp hi hS ⟨fun _ => hS, H⟩
    · have := ready_mono hj hji
      rw [H.1] at this
      cases this
  | succ fuel ih =>
    intro listed a w hcl hfree hr hy hS H
    refine ⟨fun h => (by rw [h] at hr; cases hr), fun j hj => ?_⟩
    by_cases hji : j = i
    · subst hji; exact hy.wpOp hi hS ⟨fun _ => hS, H⟩
    · have h1 := H.2 j (ready_mono hj hji)
      obtain ⟨hjun, oj, hoj, hall⟩ := mem_ready.1 hj
      have hnot : ∀ e ∈ oj.after, Region.binds md e = true → e.on ≠ i := fun e he hb heq => by
        have h1 := hall e he hb
        have h0 := (mem_ready.1 hr).1
        rw [heq] at h1
        rcases Nat.lt_or_ge i listed.size with h' | h'
        · simp [h'] at h0 h1; rw [h0] at h1; cases h1
        · simp [Array.getElem?_eq_none h'] at h1
      have hjk : j < k := by
        rcases Nat.lt_or_ge j k with h' | h'
        · exact h'
        · exfalso
          have hl := waitsT_spec7 hcl hoj hall (hw j h' (Array.getElem?_eq_some_iff.1 hoj).1)
          have h0 := (mem_ready.1 hr).1
          rcases Nat.lt_or_ge i listed.size with h' | h'
          · simp [h'] at h0 hl; rw [h0] at hl; cases hl
          · simp [Array.getElem?_eq_none h'] at hl
      have h2 := wpOp_putIf hoj (hfree j oj hoj hji hjun hnot) (fun cs b => hsel i oi cs b hi) (fun cs b => hsel j oj cs b hoj) hQ hy h1
      have hfree' : ∀ m ok, ops[m]? = some ok → m ≠ i → (listed.setIfInBounds j true).getD m true = false →
          (∀ e ∈ ok.after, Region.binds md e = true → e.on ≠ i) → oi.apart ops ok = true := fun m ok hm hmi hun hno => by
        refine hfree m ok hm hmi ?_ hno
        by_cases hjm : j = m
        · subst hjm; exact hjun
        · rw [getD_set_ne true hjm] at hun; exact hun
      refine wpOp_mono (fun a' w' h3 => ⟨fun _ => h3.2.1 hjk, ih (listed.setIfInBounds j true) a' w' (hcl.put hj) hfree' (ready_mono hr (Ne.symm hji)) h3.1 (h3.2.1 hjk) ?_⟩) h2
      rw [Array.setIfInBounds_comm _ _ hji]
      exact h3.2.2

theorem wpAnyT_pre7 (hsel : Region.noSelect ops = true) (f : Nat) (listed' : Array Bool) : ∀ (l : List (Nat × Bool)) (listed : Array Bool) (a : Act) (w : World), mixTo ops l listed = some listed' →
    (l.all fun x => (decide (x.1 < k)) && (!x.2 || ((List.range ops.size).all fun j => decide (j < k) || waitsT7 .any ops j x.1))) = true → Cl .any ops listed → S w →
    wpMix0 P ops S Q (fun a w => S w → wpAnyT P .any ops (NoPanic Q) S k f listed' a w) (l.map fun x => (ops.getD x.1 default, x.2)) a w → wpAnyT P .any ops (NoPanic Q) S k (l.length + f) listed a w
  | [], listed, a, w, hB, _, _, hS, h => by
    simp only [mixTo, Option.some.injEq] at hB
    subst hB
    simpa using h hS
  | (i, true) :: l, listed, a, w, hB, hall, hcl, hS, h => by
    simp only [List.all_cons, Bool.and_eq_true, Bool.not_true, Bool.false_or] at hall
    simp only [mixTo] at hB
    split at hB
    case isFalse => cases hB
    rename_i hB0
    simp only [Bool.and_eq_true] at hB0
    obtain ⟨hr, hf⟩ := hB0
    have hr' : i ∈ Region.ready .any ops listed := by simpa using hr
    obtain ⟨_, oi, hoi, _⟩ := mem_ready.1 hr'
    have hget : ops.getD i default = oi := by simp [hoi]
    simp only [List.map_cons, wpMix0, hget] at h
    have hy : ∃ v, YieldsIf P ops S oi v a ∧ wpMix0 P ops S Q (fun a w => S w → wpAnyT P .any ops (NoPanic Q) S k f listed' a w) (l.map fun x => (ops.getD x.1 default, x.2)) (a.put oi.dst v) w := by
      by_cases hw : Region.wanted oi (yielded ops a.tmps) = true
      · rw [if_pos hw] at h
        obtain ⟨v, h1, h2⟩ := h
        exact ⟨v, .inl ⟨hw, fun w' hw' => h1 ⟨w', hw'⟩⟩, h2⟩
      · rw [if_neg hw] at h
        exact ⟨undef, .inr ⟨by simpa using hw, rfl⟩, h⟩
    obtain ⟨v, hy, h2⟩ := hy
    have := wpAnyT_first7 hoi (Region.noSelect_spec hsel) (fun j hkj hj => by have := List.all_eq_true.1 hall.1.2 j (List.mem_range.2 hj); simp only [Bool.or_eq_true, decide_eq_true_eq] at this; rcases this with h' | h'; exact absurd h' (by omega); exact h') (fun _ _ _ hp => hp) (l.length + f) listed a w hcl (Region.free_spec hoi hf) hr' hy hS
      (wpAnyT_pre7 hsel f listed' l _ _ w hB hall.2 (hcl.put hr') hS h2)
    rw [List.length_cons, show l.length + 1 + f = l.length + f + 1 by omega]
    exact this
  | (i, false) :: l, listed, a, w, hB, hall, hcl, hS, h => by
    simp only [List.all_cons, Bool.and_eq_true] at hall
    simp only [mixTo] at hB
    split at hB
    case isFalse => cases hB
    rename_i hB0
    have hr : Region.ready .any ops listed = [i] := by simpa using hB0
    have hr' : i ∈ Region.ready .any ops listed := by rw [hr]; simp
    obtain ⟨_, oi, hoi, _⟩ := mem_ready.1 hr'
    have hget : ops.getD i default = oi := by simp [hoi]
    simp only [List.map_cons, wpMix0, hget] at h
    rw [List.length_cons, show l.length + 1 + f = l.length + f + 1 by omega]
    refine ⟨fun h0 => (by rw [h0] at hr; cases hr), fun j hj => ?_⟩
    rw [hr] at hj
    obtain rfl : j = i := by simpa using hj
    unfold wpOp
    simp only [hoi]
    by_cases hw : Region.wanted oi (yielded ops a.tmps) = true
    · rw [if_pos hw] at h ⊢
      exact .inl (Oper.wp_mono (fun a' w' ⟨h1, h2⟩ => ⟨fun _ => h1, wpAnyT_pre7 hsel f listed' l _ a' w' hB hall.2 (hcl.put hr') h1 h2⟩) h)
    · rw [if_neg hw] at h ⊢
      exact ⟨fun _ => hS, wpAnyT_pre7 hsel f listed' l _ _ w hB hall.2 (hcl.put hr') hS h⟩
end


def mixTailOk7 (l : List Oper) (n : Nat) (order : List (Nat × Bool)) : Bool :=
  Region.noSelect l.toArray && (order.length == n) && (decide (n ≤ l.length)) && (order.all fun x => (decide (x.1 < n)) && (!x.2 || ((List.range l.toArray.size).all fun j => decide (j < n) || waitsT7 .any l.toArray j x.1))) &&
    ((mixTo l.toArray order (Array.replicate l.length false)).map fun x => tailOk l.toArray (l.length - n) n x).getD false
theorem wpAny_mix_tail7 {P : Program} {Q : Exit → Act → World → Prop} {a : Act} {w : World} {l : List Oper} (S : World → Prop) (n : Nat) (order : List (Nat × Bool)) (hB : mixTailOk7 l n order = true) (hS : S w.drew)
    (h : Nonempty (InC S) → wpMix0 P l.toArray S Q (fun a w => S w → wpList P l.toArray (NoPanic Q) (l.drop n) a w) (order.map fun x => (l.toArray.getD x.1 default, x.2)) a w.drew) :
    wpAny P .any l.toArray (NoPanic Q) l.length (Array.replicate l.length false) a w.drew := by
  unfold mixTailOk7 at hB
  simp only [Bool.and_eq_true, beq_iff_eq, decide_eq_true_eq] at hB
  obtain ⟨⟨⟨⟨hsel, hlen⟩, hn⟩, hall⟩, hmix⟩ := hB
  cases hx : mixTo l.toArray order (Array.replicate l.length false) with
  | none => rw [hx] at hmix; cases hmix
  | some listed' =>
    rw [hx] at hmix
    simp only [Option.map_some, Option.getD_some] at hmix
    have := wpAnyT_pre7 (P := P) (Q := Q) (S := S) (k := n) hsel (l.length - n) listed' order (Array.replicate l.length false) a w.drew hx hall (fun m om hm hl => by simp only [Array.getD_eq_getD_getElem?, Array.getElem?_replicate] at hl; split at hl <;> cases hl) hS
      (wpMix0_mono _ _ _ (fun a' w' h' hs => wpAnyT_tail _ n _ _ _ (Nat.le_refl _) (by omega) hmix (h' hs)) _ _ (h ⟨⟨_, hS⟩⟩))
    have := wpAny_of_T _ _ _ _ this
    rwa [hlen, show n + (l.length - n) = l.length by omega] at this
theorem wp_region_mix_tail7 {P : Program} {id : Nat} {Q : Exit → Act → World → Prop} {a : Act} {w : World} {l : List Oper} (S : World → Prop) (n : Nat) (order : List (Nat × Bool)) (hm : P.follows .mixedOrders = true) (hB : mixTailOk7 l n order = true) (hS : S w.drew)
    (h : Nonempty (InC S) → wpMix P l.toArray S Q (fun a w => S w → wpList P l.toArray (NoPanic Q) (l.drop n) a w) (order.map fun x => (l.toArray.getD x.1 default, x.2)) a w.drew) : (Code.region id l.toArray true).wp P Q a w := by
  refine Code.wp_mono (Q := NoPanic Q) NoPanic.imp (wp_region_any hm ?_)
  have := wpAny_mix_tail7 S n order hB hS fun hne => (h hne).out
  simpa using this
theorem wpIn_region_mix_tail7 {P : Program} {id : Nat} {Q : Exit → Act → World → Prop} {a : Act} {w : World} {l : List Oper} {F : Fence} {m : Nat} (hF : Fence.Open F) (hnd : noDefer l = true) (hout : ∀ a w, ¬ Q .outgrown a w) (S : World → Prop) (n : Nat) (order : List (Nat × Bool)) (hm : P.follows .mixedOrders = true) (hB : mixTailOk7 l n order = true) (hS : S w.drew)
    (h : Nonempty (InC S) → wpMix P l.toArray S Q (fun a w => S w → wpList P l.toArray (NoPanic Q) (l.drop n) a w) (order.map fun x => (l.toArray.getD x.1 default, x.2)) a w.drew) : (Code.region id l.toArray true).wpIn F m P Q a w := by
  refine wpIn_mono (Q := NoPanic Q) (wpIn_region_any hm (wpAnyIn_of_any hF (by simpa using hnd) hout _ _ _ _ ?_)) NoPanic.imp
  have := wpAny_mix_tail7 S n order hB hS fun hne => (h hne).out
  simpa using this
end Go.Proofs.Ytonidnfgneokbaa
/- front.From. -/
namespace Go.Proofs.Ytonidnfgneokbaa
open Go Go.RowKit Go.Shelf
attribute [local go_sem] Oper.semAt_some

/-- a front that lies behind lo, its parts too -/
structure FrOF (W : World) (lo g : Nat) (ps : FrV) : Prop where
  ex : ∃ A n c, Blk W g 107 #[.slice A n c] ∧ Pcs W (fun b => lo ≤ b) A n c (fpc ps)
theorem FrOF.fro {W : World} {lo g : Nat} {ps : FrV} (h : FrOF W lo g ps) : FrO W g ps := let ⟨A, n, c, h1, h2⟩ := h.ex; ⟨A, n, c, h1, h2.weak fun _ _ _ => trivial⟩
theorem FrOF.step {W W' : World} {lo g : Nat} {ps : FrV} (h : FrOF W lo g ps) (hb : Below W.heap.size W W') : FrOF W' lo g ps := let ⟨A, n, c, h1, h2⟩ := h.ex; ⟨A, n, c, h1.step hb, h2.step hb⟩
theorem FrOF.le {W : World} {lo lo' g : Nat} {ps : FrV} (h : FrOF W lo g ps) (hl : lo' ≤ lo) : FrOF W lo' g ps := let ⟨A, n, c, h1, h2⟩ := h.ex; ⟨A, n, c, h1, h2.weak fun _ _ hx => Nat.le_trans hl hx⟩
theorem FrOF.grown {W W' : World} {lo g r : Nat} {ps : FrV} (h : FrOF W lo g ps) (hg : W.grownBy W' (some r)) (hr : r < lo) (hgr : g ≠ r) : FrOF W' lo g ps := let ⟨A, n, c, h1, h2⟩ := h.ex; ⟨A, n, c, h1.grown hg (fun e => hgr (Option.some.inj e)), h2.grown hg (fun b _ hx e => by have e := Option.some.inj e; have hx : lo ≤ b := hx; omega)⟩
/-- a front, or none -/
def FrOpt (W : World) (lo : Nat) (v : Value) (o : Option FrV) : Prop := (o = none ∧ v = .pointer none) ∨ ∃ g ps, o = some ps ∧ v = fptr g ∧ lo ≤ g ∧ FrOF W lo g ps
theorem FrOpt.step {W W' : World} {lo : Nat} {v : Value} {o : Option FrV} (h : FrOpt W lo v o) (hb : Below W.heap.size W W') : FrOpt W' lo v o := by
  rcases h with h | ⟨g, ps, h1, h2, h3, h4⟩
  · exact .inl h
  · exact .inr ⟨g, ps, h1, h2, h3, h4.step hb⟩
theorem bit_and_one (n l : Nat) (hn : n < 9223372036854775808) : bits .and .i64 ((n : Int) / 2 ^ l) 1 = if n.testBit l = true then 1 else 0 := by
  have h1 : n / 2 ^ l ≤ n := Nat.div_le_self _ _
  have h2 : ((n : Int) / 2 ^ l) = ((n / 2 ^ l : Nat) : Int) := by simp
  rw [h2, show (1 : Int) = ((1 : Nat) : Int) from rfl, i64_and_natF _ 1 (by omega) (by decide), Nat.and_one_is_mod, Nat.testBit_eq_decide_div_mod_eq]
  rcases Nat.mod_two_eq_zero_or_one (n / 2 ^ l) with h | h <;> rw [h] <;> simp

set_option maxHeartbeats 1000000 in
set_option maxRecDepth 100000 in
theorem fnew_own (w : World) : Calls Try.prog 40 #[] w fun e w' => e = .returned (.pointer (some ⟨w.heap.size, 0, none⟩)) ∧ Blk w' w.heap.size 107 #[.slice none 0 0] ∧ Below w.heap.size w w' := by
  have k : Blk (w.alloc (.cells #[.slice none 0 0] 107)) w.heap.size 107 #[.slice none 0 0] := Blk.new _ _ _
  have hb : Below w.heap.size w (w.alloc (.cells #[.slice none 0 0] 107)) := (Below.refl _ _).alloc (Nat.le_refl _) _
  go_enter Try.func40, Try.ntmps40
  go_wp2_with fail
  go_ret
  exact ⟨rfl, k, hb⟩
/-- between two rounds of From -/
structure FmC (w : World) (g b1 : Nat) (v : Value) (m : Nat) (cur : FrV) (W : World) : Prop where
  len : cur.length = m
  obj : Blk W g 107 #[v]
  own : W.ownsRow b1 156 33 v m (pccells (fpc cur))
  bel : Below w.heap.size w W
  all : F32 cur
theorem FmC.step {w W W' : World} {g b1 m : Nat} {v : Value} {cur : FrV} (h : FmC w g b1 v m cur W) (hb : Below W.heap.size W W') : FmC w g b1 v m cur W' := ⟨h.len, h.obj.step hb, owns_step h.own hb, h.bel.trans (hb.mono h.bel.size), h.all⟩
theorem FmC.fro {w W : World} {g b1 m : Nat} {v : Value} {cur : FrV} (h : FmC w g b1 v m cur W) : FrOF W b1 g cur := by
  obtain ⟨A, c, rfl, hs⟩ := Pcs.of_owns h.own ((length_fpc cur).trans h.len) (fpc_32 cur h.all)
  exact ⟨A, _, c, h.obj, hs.weak fun b _ hb => hb.1⟩
/-- what has come so far of a size and hashes; j levels are left -/
structure FmP (n : Nat) (hs : List (List UInt8)) (j : Nat) (cur : FrV) : Prop where
  lev : levelsF n 63 = cur.map (·.1) ++ levelsF n j
  pre : hs.take cur.length = cur.map (·.2)
  le : cur.length ≤ hs.length
theorem FmP.skip {n : Nat} {hs : List (List UInt8)} {j : Nat} {cur : FrV} (h : FmP n hs (j + 1) cur) (hb : n.testBit j = false) : FmP n hs j cur := by
  have h1 := h.lev
  unfold levelsF at h1
  refine ⟨?_, h.pre, h.le⟩
  conv at h1 => rhs; rw [if_neg (by simp [hb])]
  exact h1
theorem FmP.add {n : Nat} {hs : List (List UInt8)} {j : Nat} {cur : FrV} (h : FmP n hs (j + 1) cur) (hb : n.testBit j = true) (hl : cur.length < hs.length) : FmP n hs j (cur ++ [(j, hs.getD cur.length [])]) := by
  have e : levelsF n (j + 1) = j :: levelsF n j := by conv => lhs; unfold levelsF
                                                      rw [if_pos hb]
  have h1 := h.lev
  rw [e] at h1
  refine ⟨by rw [h1]; simp, ?_, by simp; omega⟩
  rw [List.length_append, List.length_singleton, take_snocF hs cur.length hl, h.pre]
  simp
theorem FmP.bad {n : Nat} {hs : List (List UInt8)} {j : Nat} {cur : FrV} (h : FmP n hs (j + 1) cur) (hb : n.testBit j = true) (hl : cur.length = hs.length) : (levelsF n 63).length ≠ hs.length := by
  have e : levelsF n (j + 1) = j :: levelsF n j := by conv => lhs; unfold levelsF
                                                      rw [if_pos hb]
  rw [h.lev, e]
  simp
  omega
theorem FmP.done {n : Nat} {hs : List (List UInt8)} {cur : FrV} (h : FmP n hs 0 cur) : (levelsF n 63).length = cur.length ∧ (cur.length = hs.length → (levelsF n 63).zip hs = cur) := by
  have h1 : levelsF n 63 = cur.map (·.1) := by
    have := h.lev
    rw [show levelsF n 0 = [] from rfl, List.append_nil] at this
    exact this
  refine ⟨by rw [h1, List.length_map], fun e => ?_⟩
  have h2 : hs = cur.map (·.2) := by rw [← h.pre, e, List.take_length]
  rw [h1, h2]
  clear h h1 h2 e
  induction cur with
  | nil => rfl
  | cons p cur ih =>
    rw [List.map_cons, List.map_cons, List.zip_cons_cons, ih]
theorem FmP.len {n : Nat} {hs : List (List UInt8)} {j : Nat} {cur : FrV} (h : FmP n hs j cur) : cur.length ≤ 63 := by
  have h1 : (levelsF n 63).length ≤ 63 := by
    have : ∀ k, (levelsF n k).length ≤ k := by
      intro k
      induction k with
      | zero => exact Nat.le_refl _
      | succ k ih =>
        unfold levelsF
        split
        · rw [List.length_cons]; omega
        · omega
    exact this 63
  rw [h.lev, List.length_append, List.length_map] at h1
  omega

set_option maxHeartbeats 4000000 in
set_option maxRecDepth 100000 in
theorem ffrom_any (size : Int) (hs : List (List UInt8)) (A : Option Addr) (n c : Nat) (w : World) (h : Hs w (fun _ => True) A n c hs) (hz : size ≤ 9223372036854775807) :
    Calls Try.prog 55 #[.int .i64 size, .slice A n c] w fun e w' => ∃ v, e = .returned (.tuple #[v, .int .i64 (fromE size hs).2]) ∧ FrOpt w' w.heap.size v (fromE size hs).1 ∧ Below w.heap.size w w' := by
  have hlen := h.len
  have hroom := h.sl.room
  have hmx := h.sl.max
  unfold maxLen at hmx
  obtain ⟨res, hres⟩ : ∃ r, fromE size hs = r := ⟨_, rfl⟩
  rw [hres]
  unfold fromE at hres
  rcases Int.lt_or_le size 0 with hneg | hpos
  · rw [if_pos hneg] at hres
    subst hres
    have hd : decide (size < 0) = true := by simp; omega
    go_enter Try.func55, Try.ntmps55
    go_wp2_with fail
    exact bodyPost_ret (results_tmp2 rfl _ _ _) rfl ⟨_, rfl, .inl ⟨rfl, rfl⟩, Below.refl _ _⟩
  have hd0 : decide (size < 0) = false := by simp; omega
  have hd0' : ¬ size < 0 := by omega
  obtain ⟨sz, rfl⟩ : ∃ l : Nat, size = l := ⟨size.toNat, by omega⟩
  rw [if_neg hd0', Int.toNat_natCast] at hres
  have hbit : ∀ l, bits .and .i64 ((sz : Int) / 2 ^ l) 1 = if sz.testBit l = true then 1 else 0 := fun l => bit_and_one sz l (by omega)
  have Hbit := Lib.hid hbit
  have Hlen := Lib.hid hlen
  have Hh := Lib.hid h
  have Hres := Lib.hid hres
  clear hbit hlen h hres hz
  go_enter Try.func55, Try.ntmps55
  go_wp2_with (go_at_call 40; refine (fnew_own w).mono ?_; rintro e w1 ⟨rfl, k1, hb1⟩)
  have hg1 := k1.lt
  have hC : FmC w w.heap.size w1.heap.size (.slice none 0 0) 0 [] w1 := ⟨rfl, k1, World.ownsRow_nil _ _ _ _, hb1, fun _ h => by cases h⟩
  have hP : FmP sz hs 63 [] := ⟨rfl, by simp, Nat.zero_le _⟩
  obtain ⟨b1, hb1e⟩ : ∃ b, w1.heap.size = b := ⟨_, rfl⟩
  rw [hb1e] at hC hg1
  have hbs : b1 ≤ w1.heap.size := by omega
  clear k1 hb1 hb1e
  go_loopw [7] (fun v7 wr => ∃ (j : Nat) (v : Value) (m : Nat) (cur : FrV), j ≤ 63 ∧ v7 = .int .i64 ((j : Int) - 1) ∧ FmC w w.heap.size b1 v m cur wr ∧ FmP sz hs j cur ∧ b1 ≤ wr.heap.size) (fun v7 _ => (intOf v7 + 1).toNat)
  case atStart => exact ⟨63, _, 0, [], Nat.le_refl _, rfl, hC, hP, hbs⟩
  case round =>
    clear hC hP hbs
    obtain ⟨j, v, m, cur, hj, rfl, hC, hP, hbs⟩ := hrel
    obtain ⟨A6, c6, rfl, hs6⟩ := Pcs.of_owns hC.own ((length_fpc cur).trans hC.len) (fpc_32 cur hC.all)
    have hroom6 := hs6.sl.room
    have hmx6 := hs6.sl.max
    unfold maxLen at hmx6
    have hP63 := hP.len
    have hcl := hP.le
    have hall := Lib.hid hC.all
    have hm := hC.len
    rw [Hlen.out] at hcl
    rw [hm] at hP63 hcl
    have Hm := Lib.hid hm
    have HP := Lib.hid hP
    have c14 : wr.cell? ⟨w.heap.size, 0, none⟩ = some (.slice A6 m c6) := by rw [hC.obj.cell]; rfl
    clear hm hP hs6
    rcases Nat.eq_zero_or_pos j with rfl | hjp
    · obtain ⟨hd1, hd2⟩ := HP.out.done
      rw [Hm.out] at hd1 hd2
      by_cases hmn : m = n
      · subst hmn
        have hr := Hres.out
        rw [if_neg (by rw [hd1, Hlen.out]; simp), hd2 Hlen.out.symm] at hr
        have hne : (!((m : Int) == (m : Int))) = false := by simp
        go_wp2_with fail
        refine bodyPost_ret (results_tmp2 rfl _ _ _) rfl ?_
        rw [← hr]
        exact ⟨_, rfl, .inr ⟨_, _, rfl, rfl, Nat.le_refl _, hC.fro.le (Nat.le_of_lt hg1)⟩, hC.bel⟩
      · have hr := Hres.out
        rw [if_pos (by rw [hd1, Hlen.out]; exact hmn)] at hr
        have hne : ((m : Int) == (n : Int)) = false := by simp; omega
        have hne2 : ¬ (m : Int) = (n : Int) := by omega
        go_wp2_with fail
        refine bodyPost_ret (results_tmp2 rfl _ _ _) rfl ?_
        rw [← hr]
        exact ⟨_, rfl, .inl ⟨rfl, rfl⟩, hC.bel⟩
    · obtain ⟨l, rfl⟩ : ∃ l, j = l + 1 := ⟨j - 1, by omega⟩
      have hll : ((l + 1 : Nat) : Int) - 1 = (l : Int) := by omega
      rw [hll]
      have hwl : IntKind.i64.wrap ((l : Int) - 1) = (l : Int) - 1 := IntWalk.i64_in _ (by omega)
      have hge : decide ((0 : Int) ≤ (l : Int)) = true := by simp
      have hb := Hbit.out l
      have hl62 : l ≤ 62 := by omega
      by_cases ht : sz.testBit l = true
      · rw [if_pos ht] at hb
        by_cases hmn : m = n
        · subst hmn
          have hr := Hres.out
          rw [if_pos (HP.out.bad ht (by rw [Hm.out, Hlen.out]))] at hr
          have heq : ((m : Int) == (m : Int)) = true := by simp
          go_wp2_with fail
          refine bodyPost_ret (results_tmp2 rfl _ _ _) rfl ?_
          rw [← hr]
          exact ⟨_, rfl, .inl ⟨rfl, rfl⟩, hC.bel⟩
        · have heq : ((m : Int) == (n : Int)) = false := by simp; omega
          have hne2 : ¬ (m : Int) = (n : Int) := by omega
          have hmn : m < n := by omega
          have hmi : decide ((m : Int) < (n : Int)) = true := by simp; omega
          have hH : Hs wr (fun b => b < b1) A n c hs := (Hh.out.weak (Y := fun b => b < b1) fun b hb _ => Nat.lt_trans hb hg1).step hC.bel
          obtain ⟨b, o, rfl, hbw, -, -⟩ := hH.at_ (by omega)
          have hget := fun W (hb : Below b1 wr W) => (hH.below hb fun b hb hx => hx).get rfl m hmn
          have hx32 := Hh.out.all.getD m (by rw [Hlen.out]; exact hmn)
          have hadd := HP.out.add ht (by rw [Hm.out, Hlen.out]; exact hmn)
          rw [Hm.out] at hadd
          obtain ⟨x, hx⟩ : ∃ x, hs.getD m [] = x := ⟨_, rfl⟩
          rw [hx] at hget hx32 hadd
          have Hget := Lib.hid hget
          have Hadd := Lib.hid hadd
          have c14' : ∀ s : InC (fun W => Below b1 wr W), s.W.cell? ⟨w.heap.size, 0, none⟩ = some (.slice A6 m c6) := fun s => by rw [(hC.obj.below s.ok hg1).cell]; rfl
          clear hget hadd hx hH
          go_wp2_with fail
          have hS : Below b1 wr wr.drew := (Below.refl _ _).drew
          have hCs : FmC w w.heap.size b1 (.slice A6 m c6) m cur wr.drew := hC.step ((Below.refl _ _).drew)
          have hbsu : b1 ≤ wr.drew.heap.size := hbs
          refine wp_region_mix_tail (fun W => Below b1 wr W) 17 [(0, true), (1, true), (2, true), (3, true), (4, true), (5, true), (6, true), (7, true), (8, true), (9, true), (10, true), (11, true), (12, true), (13, true), (14, true), (15, false), (16, false)] (by kernel_rfl) (by kernel_rfl) hS fun _ => ?_
          simp only [List.map_cons, List.map_nil, Array.getD_eq_getD_getElem?, List.getElem?_toArray, List.getElem?_cons_succ, List.getElem?_cons_zero, Option.getD_some]
          generalize wr.drew = u2 at hS hCs hbsu ⊢
          obtain ⟨v9, W9, hr9, ho9, hb9⟩ := append_pc (S := 105) Try.underlying105 infoFp (by rw [length_fpc, hC.len]; exact hCs.own : u2.ownsRow b1 156 33 _ (fpc cur).length (pccells (fpc cur))) ((l : Int), x) hx32 (by rw [length_fpc, hC.len]; omega) hbsu
          have hbA : Below u2.heap.size u2 (u2.alloc (.cells (pccell ((l : Int), x)).toArray 156)) := (Below.refl _ _).alloc (Nat.le_refl _) _
          have hkg9 := (hCs.obj.step hbA).below hb9 hg1
          have hbel9 := (hCs.bel.trans (hbA.mono hCs.bel.size)).trans (hb9.mono (Nat.le_of_lt hg1))
          have hfe : fpc cur ++ [((l : Int), x)] = fpc (cur ++ [(l, x)]) := (fpc_append cur [(l, x)]).symm
          have hn9 : (cur ++ [(l, x)]).length = m + 1 := by rw [List.length_append, hC.len]; rfl
          rw [hfe, length_fpc, hn9] at ho9
          obtain ⟨gb9, c9, rfl, hgb9⟩ := owns_someB ho9 (by omega)
          have h329 : F32 (cur ++ [(l, x)]) := fun q hq => by
            rcases List.mem_append.1 hq with hq | hq
            · exact hC.all q hq
            · rw [List.mem_singleton.1 hq]; exact hx32
          have hbs9 : b1 ≤ W9.heap.size := Nat.le_trans (Nat.le_trans hbsu hbA.size) hb9.size
          refine wpMix_s (fun K hK => ?_)
          go_simp
          refine hK _ ?_
          clear hK K
          refine wpMix_s (fun K hK => ?_)
          go_simp
          refine hK _ ?_
          clear hK K
          refine wpMix_s (fun K hK => ?_)
          go_simp
          refine hK _ ?_
          clear hK K
          refine wpMix_s (fun K hK => ?_)
          go_simp
          refine hK _ ?_
          clear hK K
          refine wpMix_s (fun K hK => ?_)
          go_simp
          refine hK _ ?_
          clear hK K
          refine wpMix_s (fun K hK => ?_)
          go_simp
          refine hK _ ?_
          clear hK K
          refine wpMix_s (fun K hK => ?_)
          go_simp
          refine hK _ ?_
          clear hK K
          refine wpMix_s (fun K hK => ?_)
          go_simp
          refine hK _ ?_
          clear hK K
          refine wpMix_s (fun K hK => ?_)
          go_simp
          refine hK _ ?_
          clear hK K
          refine wpMix_s (fun K hK => ?_)
          go_simp
          refine hK _ ?_
          clear hK K
          refine wpMix_s (fun K hK => ?_)
          go_simp
          refine hK _ ?_
          clear hK K
          refine wpMix_s (fun K hK => ?_)
          go_simp
          refine hK _ ?_
          clear hK K
          refine wpMix_s (fun K hK => ?_)
          go_simp
          refine hK _ ?_
          clear hK K
          refine wpMix_load (by kernel_rfl) 25 (.tmp 40) rfl (b) (o + m * 32) rfl (x.map B).toArray ((fun s => Hget.out s.W s.ok)) ?_
          simp only [Act.put]
          refine wpMix_v (by kernel_rfl) (.agg (Value.int .i64 (l : Int) :: x.map B).toArray) ((fun s => run_build_fp_op (l : Int) x hx32 (.tmp 33) (.tmp 41) rfl rfl rfl s.W)) ?_
          simp only [Act.put]
          refine wpMix_run (by kernel_rfl) (.slice (some ⟨u2.heap.size, 0, none⟩) 1 1) (u2.alloc (.cells (pccell ((l : Int), x)).toArray 156)) (run_lit_oneF_op (x := .agg (pccell ((l : Int), x)).toArray) Try.underlying105 infoFp (by simp [Value.cells, hx32]) (by decide) (by decide) (.tmp 42) rfl rfl _) (hS.alloc hbsu _) ?_
          simp only [Act.put]
          refine wpMix_run (by kernel_rfl) (.slice (some ⟨gb9, 0, none⟩) (m + 1) c9) (W9) (run_append_op (.tmp 32) (.tmp 43) 105 rfl _ _ rfl rfl hr9) ((hS.alloc hbsu _).trans hb9) ?_
          simp only [Act.put]
          refine wpMix_nil ?_
          intro _
          simp only [List.drop_succ_cons, List.drop_zero]
          go_wp2_with (first
            | ((with_reducible show wpList _ _ _ [⟨none, .store _ _ _, _, _, _, _⟩] _ _); refine wpList_store_one rfl 105 (.tmp 46) (.tmp 44) rfl w.heap.size rfl rfl 107 (.slice A6 m c6) hkg9 (by kernel_rfl) ?_; show wpList _ _ _ _ _ (W9.setRow w.heap.size #[Value.slice (some ⟨gb9, 0, none⟩) (m + 1) c9]); simp only [Act.put]))
          have hgr : W9.grownBy (W9.setRow w.heap.size #[Value.slice (some ⟨gb9, 0, none⟩) (m + 1) c9]) (some w.heap.size) := grown_setRow (grown_of_below (Below.refl _ _) _) _
          refine np_normal ?_
          go_wp2_with fail
          go_roundw
          case rel => exact ⟨l, _, m + 1, cur ++ [(l, x)], by omega, rfl, ⟨hn9, hkg9.setRow_ _, ho9.kept hgr (.inr fun e => by have e : gb9 = w.heap.size := Option.some.inj e; omega), below_setRow hbel9 (Nat.le_refl _) _, h329⟩, Hadd.out, Nat.le_trans hbs9 hgr.size⟩
          case measure => simp [intOf] <;> omega
      · rw [if_neg ht] at hb
        go_wp2_with fail
        go_roundw
        case rel => exact ⟨l, _, m, cur, by omega, rfl, hC, HP.out.skip (by simpa using ht), hbs⟩
        case measure => simp [intOf] <;> omega
end Go.Proofs.Ytonidnfgneokbaa
/- Numbers as bytes, the highest first (plain). -/
namespace Go.Proofs.Ytonidnfgneokbaa
open Go

def beN : Nat → Nat → List UInt8
  | 0, _ => []
  | k + 1, x => UInt8.ofNat (x / 256 ^ k) :: beN k x
theorem length_beN : ∀ k x, (beN k x).length = k
  | 0, _ => rfl
  | k + 1, x => by rw [beN, List.length_cons, length_beN k x]
theorem beN_snoc : ∀ k x, beN (k + 1) x = beN k (x / 256) ++ [UInt8.ofNat x]
  | 0, x => by simp [beN]
  | k + 1, x => by
    conv => lhs; unfold beN
    rw [beN_snoc k x]
    conv => rhs; unfold beN
    rw [Nat.div_div_eq_div_mul, List.cons_append, show 256 * 256 ^ k = 256 ^ (k + 1) by rw [Nat.pow_succ, Nat.mul_comm]]
def numN (l : List UInt8) : Nat := l.foldl (fun a c => 256 * a + c.toNat) 0
theorem numN_nil : numN [] = 0 := rfl
theorem numN_snoc (l : List UInt8) (c : UInt8) : numN (l ++ [c]) = 256 * numN l + c.toNat := by
  unfold numN
  rw [List.foldl_append]
  rfl
theorem snoc_casesB (l : List UInt8) (n : Nat) (h : l.length = n + 1) : ∃ m c, l = m ++ [c] ∧ m.length = n := by
  rcases List.eq_nil_or_concat l with rfl | ⟨m, c, e⟩
  · cases h
  · rw [List.concat_eq_append] at e
    subst e
    exact ⟨m, c, rfl, by simpa using h⟩
theorem numN_lt : ∀ (n : Nat) (l : List UInt8), l.length = n → numN l < 256 ^ n
  | 0, l, h => by rw [List.length_eq_zero_iff.1 h]; decide
  | n + 1, l, h => by
    obtain ⟨m, c, rfl, hm⟩ := snoc_casesB l n h
    have h1 := numN_lt n m hm
    have h2 := c.toNat_lt
    rw [numN_snoc, Nat.pow_succ]
    omega
theorem numN_beN : ∀ k x, numN (beN k x) = x % 256 ^ k
  | 0, x => by rw [Nat.pow_zero, Nat.mod_one]; rfl
  | k + 1, x => by
    rw [beN_snoc, numN_snoc, numN_beN k (x / 256), Nat.pow_succ, Nat.mul_comm (256 ^ k) 256, Nat.mod_mul]
    have : (UInt8.ofNat x).toNat = x % 256 := by simp
    rw [this]
    omega
theorem beN_numN : ∀ (n : Nat) (l : List UInt8), l.length = n → beN n (numN l) = l
  | 0, l, h => by rw [List.length_eq_zero_iff.1 h]; rfl
  | n + 1, l, h => by
    obtain ⟨m, c, rfl, hm⟩ := snoc_casesB l n h
    have h2 := c.toNat_lt
    have e1 : (256 * numN m + c.toNat) / 256 = numN m := by omega
    have e2 : UInt8.ofNat (256 * numN m + c.toNat) = c := by
      apply UInt8.toNat_inj.1
      rw [UInt8.toNat_ofNat']
      omega
    rw [beN_snoc, numN_snoc, e1, e2, beN_numN n m hm]
end Go.Proofs.Ytonidnfgneokbaa
