/- Two lists of entries: are they one? -/
import Derived.Test.YtonidnfgneokbaaQd135
import Derived.Test.YtonidnfgneokbaaQd131
namespace Go.Proofs.Ytonidnfgneokbaa
open Go Go.RowKit Go.Shelf
attribute [local go_sem] Oper.semAt_some

theorem drop_at (ls : List (List UInt8)) (k : Nat) (h : k < ls.length) : ls.drop k = ls.getD k [] :: ls.drop (k + 1) := by
  rw [List.drop_eq_getElem_cons h, List.getD_eq_getElem?_getD, List.getElem?_eq_getElem h]; rfl
theorem dec_cons (x y : List UInt8) (l m : List (List UInt8)) : decide (x :: l = y :: m) = (x == y && decide (l = m)) := by
  by_cases h : x = y
  · subst h; simp
  · simp [h]
set_option maxHeartbeats 2000000 in
set_option maxRecDepth 100000 in
theorem equalfn_any (ls ms : List (List UInt8)) (A A' : Option Addr) (n c n' c' : Nat) (w : World) (h : Es w (fun _ => True) A n c ls) (h' : Es w (fun _ => True) A' n' c' ms) : Calls Try.prog 97 #[.slice A n c, .slice A' n' c', .func (.func 92) #[] #[]] w fun e w' => e = .returned (.bool (decide (ls = ms))) ∧ w' = w := by
  have hroom := h.room
  have hmx := h.max
  unfold maxLen at hmx
  have hroom' := h'.room
  have hmx' := h'.max
  unfold maxLen at hmx'
  obtain ⟨r, hr⟩ : ∃ r, decide (ls = ms) = r := ⟨_, rfl⟩
  rw [hr]
  have hlen := h.len
  have hlen' := h'.len
  by_cases hnn : n = n'
  · subst hnn
    have Hr := Lib.hid hr
    have Hlen := Lib.hid hlen
    have Hlen' := Lib.hid hlen'
    have hn1 : (((n : Int)) != (n : Int)) = false := by simp
    clear hr hlen hlen'
    go_enter Try.func97, Try.ntmps97
    go_wp2_with fail
    go_loopw [7, 8, 9, 17] (fun _ _ _ v17 wr => ∃ k : Nat, k ≤ n ∧ v17 = .int .i64 (k : Int) ∧ decide (ls.drop k = ms.drop k) = r ∧ wr = w) (fun _ _ _ v17 _ => n - (intOf v17).toNat)
    case atStart => exact ⟨0, Nat.zero_le _, rfl, Hr.out, rfl⟩
    case round =>
      obtain ⟨k, hk, rfl, hf, rfl⟩ := hrel
      by_cases hkn : k < n
      · have hd : decide ((k : Int) < (n : Int)) = true := by simp; omega
        have hwk : IntKind.i64.wrap ((k : Int) + 1) = (k : Int) + 1 := IntWalk.i64_in _ (by omega)
        obtain ⟨b, o, rfl, -, -, hat⟩ := h.at_ (by omega)
        obtain ⟨Ai, ci, hc, hsl⟩ := hat k hkn
        obtain ⟨b', o', rfl, -, -, hat'⟩ := h'.at_ (by omega)
        obtain ⟨Ai', ci', hc', hsl'⟩ := hat' k hkn
        rw [drop_at ls k (by rw [Hlen.out]; exact hkn), drop_at ms k (by rw [Hlen'.out]; exact hkn), dec_cons] at hf
        have h1 := bequal_any (ls.getD k []) (ms.getD k []) Ai Ai' (ls.getD k []).length ci (ms.getD k []).length ci' wr hsl hsl'
        obtain ⟨x, hx⟩ : ∃ x, ls.getD k [] = x := ⟨_, rfl⟩
        obtain ⟨y, hy⟩ : ∃ x, ms.getD k [] = x := ⟨_, rfl⟩
        rw [hx] at hc h1 hf
        rw [hy] at hc' h1 hf
        obtain ⟨q, hq⟩ : ∃ q, (x == y) = q := ⟨_, rfl⟩
        rw [hq] at h1 hf
        have H1 := Lib.hid h1
        have Hf := Lib.hid hf
        clear h1 hf hq hx hy hat hat' hsl hsl'
        cases q with
        | true =>
          go_wp2_with (go_at_call 92; refine H1.out.mono ?_; rintro e w2 ⟨rfl, hww⟩; obtain rfl := hww.symm)
          go_roundw
          case rel => exact ⟨k + 1, by omega, by go_num, by simpa using Hf.out, by first | rfl | trivial⟩
          case measure => simp [intOf]; omega
        | false =>
          obtain rfl : false = r := by simpa using Hf.out
          go_wp2_with (go_at_call 92; refine H1.out.mono ?_; rintro e w2 ⟨rfl, hww⟩; obtain rfl := hww.symm)
          go_ret
          exact ⟨rfl, rfl⟩
      · obtain rfl : k = n := by omega
        have hd : decide ((k : Int) < (k : Int)) = false := by simp
        rw [List.drop_of_length_le (by rw [Hlen.out]; exact Nat.le_refl _), List.drop_of_length_le (by rw [Hlen'.out]; exact Nat.le_refl _)] at hf
        obtain rfl : true = r := by simpa using hf
        go_wp2_with fail
        go_ret
        exact ⟨rfl, rfl⟩
  · obtain rfl : false = r := by
      rw [← hr]
      exact (decide_eq_false fun e => hnn (by rw [← hlen, ← hlen', e])).symm
    have hn1 : (((n : Int)) != (n' : Int)) = true := by simp; omega
    have hn2 : ¬ (n : Int) = (n' : Int) := by omega
    clear hr
    go_enter Try.func97, Try.ntmps97
    go_wp2_with fail
    go_ret
    exact ⟨rfl, rfl⟩

set_option maxHeartbeats 2000000 in
set_option maxRecDepth 100000 in
theorem same13_any (ls ms : List (List UInt8)) (A A' : Option Addr) (n c n' c' : Nat) (w : World) (h : Es w (fun _ => True) A n c ls) (h' : Es w (fun _ => True) A' n' c' ms) : Calls Try.prog 81 #[.slice A n c, .slice A' n' c'] w fun e w' => e = .returned (.bool (decide (ls = ms))) ∧ Below w.heap.size w w' := by
  have hroom := h.room
  have hmx := h.max
  unfold maxLen at hmx
  have hroom' := h'.room
  have hmx' := h'.max
  unfold maxLen at hmx'
  obtain ⟨r, hr⟩ : ∃ r, decide (ls = ms) = r := ⟨_, rfl⟩
  rw [hr]
  have hlen := h.len
  have hlen' := h'.len
  by_cases hnn : n = n'
  · subst hnn
    have Hr := Lib.hid hr
    have Hlen := Lib.hid hlen
    have Hlen' := Lib.hid hlen'
    have hn1 : (((n : Int)) != (n : Int)) = false := by simp
    clear hr hlen hlen'
    go_enter Try.func81, Try.ntmps81
    go_wp2_with fail
    go_loopw [5] (fun v5 wr => ∃ k : Nat, k ≤ n ∧ v5 = .int .i64 (k : Int) ∧ decide (ls.drop k = ms.drop k) = r ∧ Below w.heap.size w wr) (fun v5 _ => n - (intOf v5).toNat)
    case atStart => exact ⟨0, Nat.zero_le _, rfl, Hr.out, Below.refl _ _⟩
    case round =>
      obtain ⟨k, hk, rfl, hf, hW⟩ := hrel
      by_cases hkn : k < n
      · have hd : decide ((k : Int) < (n : Int)) = true := by simp; omega
        have hwk : IntKind.i64.wrap ((k : Int) + 1) = (k : Int) + 1 := IntWalk.i64_in _ (by omega)
        obtain ⟨b, o, rfl, hb, -, hat⟩ := h.at_ (by omega)
        obtain ⟨Ai, ci, hc, hsl⟩ := hat k hkn
        obtain ⟨b', o', rfl, hb', -, hat'⟩ := h'.at_ (by omega)
        obtain ⟨Ai', ci', hc', hsl'⟩ := hat' k hkn
        rw [drop_at ls k (by rw [Hlen.out]; exact hkn), drop_at ms k (by rw [Hlen'.out]; exact hkn), dec_cons] at hf
        have e1 : ∀ s : InC (fun W => Below w.heap.size w W), s.W.cell? ⟨b, o + k, none⟩ = some (.slice Ai (ls.getD k []).length ci) := fun s => by rw [s.ok.cell (p := ⟨b, o + k, none⟩) hb]; exact hc
        have e2 : ∀ s : InC (fun W => Below w.heap.size w W), s.W.cell? ⟨b', o' + k, none⟩ = some (.slice Ai' (ms.getD k []).length ci') := fun s => by rw [s.ok.cell (p := ⟨b', o' + k, none⟩) hb']; exact hc'
        have e3 : ∀ s : InC (fun W => Below w.heap.size w W), (convert 23 9 (.slice Ai (ls.getD k []).length ci)).run Try.prog s.W = .ok (.string (bstr (ls.getD k []))) s.W := fun s => run_str (hsl.step s.ok)
        have e4 : ∀ s : InC (fun W => Below w.heap.size w W), (convert 23 9 (.slice Ai' (ms.getD k []).length ci')).run Try.prog s.W = .ok (.string (bstr (ms.getD k []))) s.W := fun s => run_str (hsl'.step s.ok)
        obtain ⟨x, hx⟩ : ∃ x, ls.getD k [] = x := ⟨_, rfl⟩
        obtain ⟨y, hy⟩ : ∃ x, ms.getD k [] = x := ⟨_, rfl⟩
        rw [hx] at hf e1 e3
        rw [hy] at hf e2 e4
        have hne := fun (ρ : Operand → Value) (o : Oper) (a b : Operand) (ty : TypeId) (ho : o.op = .binOp .neq 9 a b ty) (hx : ρ a = .string (bstr x)) (hy : ρ b = .string (bstr y)) (W : World) => run_neqs_op (o := o) (ρ := ρ) a b ty _ _ ho hx hy W
        rw [show (x != y) = !(x == y) from rfl] at hne
        obtain ⟨q, hq⟩ : ∃ q, (x == y) = q := ⟨_, rfl⟩
        rw [hq] at hne hf
        have Hne := Lib.hid hne
        have Hf := Lib.hid hf
        clear hne hf hq hx hy hat hat' hsl hsl' hc hc'
        go_upto_region 6 with fail
        cases q with
        | true =>
          have hS : Below w.heap.size w wr.drew := hW.drew
          refine wp_region_mix (fun W => Below w.heap.size w W) [(0, true), (1, true), (2, true), (3, true), (4, true), (5, true), (6, true), (7, true), (8, true), (9, true), (10, true)] (by kernel_rfl) (by kernel_rfl) hS fun _ => ?_
          simp only [List.map_cons, List.map_nil, Array.getD_eq_getD_getElem?, List.getElem?_toArray, List.getElem?_cons_succ, List.getElem?_cons_zero, Option.getD_some]
          generalize wr.drew = W0 at hS ⊢
          refine wpMix_s (fun K hK => ?_)
          go_simp
          refine hK _ ?_
          clear hK K
          refine wpMix_s (fun K hK => ?_)
          go_simp
          refine hK _ ?_
          clear hK K
          refine wpMix_s (fun K hK => ?_)
          go_simp
          refine hK _ ?_
          clear hK K
          refine wpMix_s (fun K hK => ?_)
          go_simp
          refine hK _ ?_
          clear hK K
          refine wpMix_s (fun K hK => ?_)
          go_simp
          refine hK _ ?_
          clear hK K
          refine wpMix_s (fun K hK => ?_)
          go_simp
          refine hK _ ?_
          clear hK K
          refine wpMix_s (fun K hK => ?_)
          go_simp
          refine hK _ ?_
          clear hK K
          refine wpMix_s (fun K hK => ?_)
          go_simp
          refine hK _ ?_
          clear hK K
          refine wpMix_s (fun K hK => ?_)
          go_simp
          refine hK _ ?_
          clear hK K
          refine wpMix_s (fun K hK => ?_)
          go_simp
          refine hK _ ?_
          clear hK K
          refine wpMix_v (by kernel_rfl) (.bool false) (fun s => Hne.out _ _ (.tmp 21) (.tmp 26) _ rfl rfl rfl s.W) ?_
          simp only [Act.put]
          refine wpMix_nil ?_
          intro _
          clear e1 e2 e3 e4
          go_wp2_with fail
          go_roundw
          case rel => exact ⟨k + 1, by omega, by go_num, by simpa using Hf.out, hS⟩
          case measure => simp [intOf]; omega
        | false =>
          obtain rfl : false = r := by simpa using Hf.out
          have hS : Below w.heap.size w wr.drew := hW.drew
          refine wp_region_mix (fun W => Below w.heap.size w W) [(0, true), (1, true), (2, true), (3, true), (4, true), (5, true), (6, true), (7, true), (8, true), (9, true), (10, true)] (by kernel_rfl) (by kernel_rfl) hS fun _ => ?_
          simp only [List.map_cons, List.map_nil, Array.getD_eq_getD_getElem?, List.getElem?_toArray, List.getElem?_cons_succ, List.getElem?_cons_zero, Option.getD_some]
          generalize wr.drew = W0 at hS ⊢
          refine wpMix_s (fun K hK => ?_)
          go_simp
          refine hK _ ?_
          clear hK K
          refine wpMix_s (fun K hK => ?_)
          go_simp
          refine hK _ ?_
          clear hK K
          refine wpMix_s (fun K hK => ?_)
          go_simp
          refine hK _ ?_
          clear hK K
          refine wpMix_s (fun K hK => ?_)
          go_simp
          refine hK _ ?_
          clear hK K
          refine wpMix_s (fun K hK => ?_)
          go_simp
          refine hK _ ?_
          clear hK K
          refine wpMix_s (fun K hK => ?_)
          go_simp
          refine hK _ ?_
          clear hK K
          refine wpMix_s (fun K hK => ?_)
          go_simp
          refine hK _ ?_
          clear hK K
          refine wpMix_s (fun K hK => ?_)
          go_simp
          refine hK _ ?_
          clear hK K
          refine wpMix_s (fun K hK => ?_)
          go_simp
          refine hK _ ?_
          clear hK K
          refine wpMix_s (fun K hK => ?_)
          go_simp
          refine hK _ ?_
          clear hK K
          refine wpMix_v (by kernel_rfl) (.bool true) (fun s => Hne.out _ _ (.tmp 21) (.tmp 26) _ rfl rfl rfl s.W) ?_
          simp only [Act.put]
          refine wpMix_nil ?_
          intro _
          clear e1 e2 e3 e4
          go_wp2_with fail
          go_ret
          exact ⟨rfl, hS⟩
      · obtain rfl : k = n := by omega
        have hd : decide ((k : Int) < (k : Int)) = false := by simp
        rw [List.drop_of_length_le (by rw [Hlen.out]; exact Nat.le_refl _), List.drop_of_length_le (by rw [Hlen'.out]; exact Nat.le_refl _)] at hf
        obtain rfl : true = r := by simpa using hf
        go_wp2_with fail
        go_ret
        exact ⟨rfl, hW⟩
  · obtain rfl : false = r := by
      rw [← hr]
      exact (decide_eq_false fun e => hnn (by rw [← hlen, ← hlen', e])).symm
    have hn1 : (((n : Int)) != (n' : Int)) = true := by simp; omega
    have hn2 : ¬ (n : Int) = (n' : Int) := by omega
    clear hr
    go_enter Try.func81, Try.ntmps81
    go_wp2_with fail
    go_ret
    exact ⟨rfl, Below.refl _ _⟩
end Go.Proofs.Ytonidnfgneokbaa
