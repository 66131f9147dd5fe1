/- Too much; bytes held against each other; is it a clash. -/
import Derived.Test.YtonidnfgneokbaaQd128
namespace Go.Proofs.Ytonidnfgneokbaa
open Go Go.RowKit Go.Shelf
attribute [local go_sem] Oper.semAt_some

def longB (x : List UInt8) : Bool := decide (4096 < x.length)
theorem large1_any (l : List UInt8) (A : Option Addr) (n c : Nat) (w : World) (h : Sl w (fun _ => True) A n c l) : Calls Try.prog 136 #[.slice A n c] w fun e w' => e = .returned (.bool (longB l)) ∧ w' = w := by
  have hl := h.len
  have hm := h.max
  have hr := h.room
  unfold maxLen at hm
  have hd : decide ((4096 : Int) < (n : Int)) = longB l := by unfold longB; rw [hl]; simp only [decide_eq_decide]; omega
  have hd2 : decide (4096 < n) = longB l := by unfold longB; rw [hl]
  go_enter Try.func136, Try.ntmps136
  go_wp2_with fail
  go_ret
  exact ⟨by first | (rw [← hd]; done) | (rw [← hd2]; done) | rfl, rfl⟩
/-- where the first one is that is too long -/
def firstLong : List (List UInt8) → Nat → Int
  | [], _ => -1
  | x :: l, k => if longB x = true then (k : Int) else firstLong l (k + 1)
theorem firstLong_any : ∀ (l : List (List UInt8)) (k : Nat), decide ((0 : Int) ≤ firstLong l k) = l.any longB
  | [], k => by simp [firstLong]
  | x :: l, k => by
    unfold firstLong
    rw [List.any_cons]
    split
    · rename_i h; rw [h]; simp
    · rename_i h; rw [firstLong_any l (k + 1)]; simp [h]
set_option maxHeartbeats 1000000 in
set_option maxRecDepth 100000 in
theorem indexfn_any (ls : List (List UInt8)) (A : Option Addr) (n c : Nat) (w : World) (h : Es w (fun _ => True) A n c ls) : Calls Try.prog 149 #[.slice A n c, .func (.func 136) #[] #[]] w fun e w' => e = .returned (.int .i64 (firstLong ls 0)) ∧ w' = w := by
  have hroom := h.room
  have hmx := h.max
  unfold maxLen at hmx
  obtain ⟨r, hr⟩ : ∃ r, firstLong ls 0 = r := ⟨_, rfl⟩
  rw [hr]
  have hlen := h.len
  have Hr := Lib.hid hr
  have Hlen := Lib.hid hlen
  clear hr hlen
  go_enter Try.func149, Try.ntmps149
  go_wp2_with fail
  go_loopw [5, 8] (fun _ v8 wr => ∃ k : Nat, k ≤ n ∧ v8 = .int .i64 (k : Int) ∧ firstLong (ls.drop k) k = r ∧ wr = w) (fun _ v8 _ => n - (intOf v8).toNat)
  case atStart => exact ⟨0, Nat.zero_le _, rfl, Hr.out, rfl⟩
  case round =>
    obtain ⟨k, hk, rfl, hf, rfl⟩ := hrel
    by_cases hkn : k < n
    · have hd : decide ((k : Int) < (n : Int)) = true := by simp; omega
      have hwk : IntKind.i64.wrap ((k : Int) + 1) = (k : Int) + 1 := IntWalk.i64_in _ (by omega)
      obtain ⟨b, o, rfl, -, -, hat⟩ := h.at_ (by omega)
      obtain ⟨Ai, ci, hc, hsl⟩ := hat k hkn
      rw [List.drop_eq_getElem_cons (by rw [Hlen.out]; exact hkn), show ls[k]'(by rw [Hlen.out]; exact hkn) = ls.getD k [] by rw [List.getD_eq_getElem?_getD, List.getElem?_eq_getElem (by rw [Hlen.out]; exact hkn)]; rfl] at hf
      unfold firstLong at hf
      have h1 := large1_any (ls.getD k []) Ai (ls.getD k []).length ci wr hsl
      obtain ⟨m, hm⟩ : ∃ m, (ls.getD k []).length = m := ⟨_, rfl⟩
      rw [hm] at hc h1
      have H1 := Lib.hid h1
      have Hf := Lib.hid hf
      clear h1 hf hat hsl hm
      cases hb : longB (ls.getD k []) with
      | true =>
        have e := Hf.out
        rw [if_pos hb] at e
        subst e
        go_wp2_with (go_at_call 136; refine H1.out.mono ?_; rintro e w1 ⟨rfl, hw⟩; obtain rfl : wr = w1 := hw.symm; rw [hb])
        go_ret
        exact ⟨rfl, rfl⟩
      | false =>
        have e := Hf.out
        rw [if_neg (by rw [hb]; simp)] at e
        go_wp2_with (go_at_call 136; refine H1.out.mono ?_; rintro e w1 ⟨rfl, hw⟩; obtain rfl : wr = w1 := hw.symm; rw [hb])
        go_roundw
        case rel => exact ⟨k + 1, by omega, by go_num, e, by first | rfl | trivial⟩
        case measure => simp [intOf]; omega
    · obtain rfl : n = k := by omega
      have hd : decide ((n : Int) < (n : Int)) = false := by simp
      rw [List.drop_of_length_le (by rw [Hlen.out]; exact Nat.le_refl _)] at hf
      have hf : (-1 : Int) = r := hf
      subst hf
      go_wp2_with fail
      go_ret
      exact ⟨rfl, rfl⟩
theorem contfn_any (ls : List (List UInt8)) (A : Option Addr) (n c : Nat) (w : World) (h : Es w (fun _ => True) A n c ls) : Calls Try.prog 135 #[.slice A n c, .func (.func 136) #[] #[]] w fun e w' => e = .returned (.bool (ls.any longB)) ∧ w' = w := by
  have h1 := indexfn_any ls A n c w h
  have h2 := firstLong_any ls 0
  obtain ⟨r, hr⟩ : ∃ r, firstLong ls 0 = r := ⟨_, rfl⟩
  rw [hr] at h1 h2
  have H1 := Lib.hid h1
  clear h1 hr
  go_enter Try.func135, Try.ntmps135
  go_wp2_with (go_at_call 149; refine H1.out.mono ?_; rintro e w1 ⟨rfl, hw⟩; obtain rfl : w = w1 := hw.symm)
  go_ret
  exact ⟨by first | rfl | (rw [← h2]; rfl), rfl⟩
theorem alarge_any (ls : List (List UInt8)) (A : Option Addr) (n c : Nat) (w : World) (h : Es w (fun _ => True) A n c ls) : Calls Try.prog 84 #[.slice A n c] w fun e w' => e = .returned (.bool (bigD ls)) ∧ w' = w := by
  have hlen := h.len
  have hbd : bigD ls = (decide (65536 < n) || ls.any longB) := by unfold bigD; rw [hlen]; rfl
  have h1 := contfn_any ls A n c w h
  rw [hbd]
  obtain ⟨q, hq⟩ : ∃ q, ls.any longB = q := ⟨_, rfl⟩
  rw [hq] at h1 ⊢
  have H1 := Lib.hid h1
  clear h1 hq hbd hlen h
  by_cases hn : 65536 < n
  · have hd : decide ((65536 : Int) < (n : Int)) = true := by simp; omega
    rw [show decide (65536 < n) = true by simpa using hn, Bool.true_or]
    go_enter Try.func84, Try.ntmps84
    go_wp2_with fail
    go_ret
    exact ⟨rfl, rfl⟩
  · have hd : decide ((65536 : Int) < (n : Int)) = false := by simp; omega
    rw [show decide (65536 < n) = false by simpa using hn, Bool.false_or]
    go_enter Try.func84, Try.ntmps84
    go_wp2_with (go_at_call 135; refine H1.out.mono ?_; rintro e w1 ⟨rfl, hw⟩; obtain rfl : w = w1 := hw.symm)
    go_ret
    exact ⟨by first | rfl | (cases q <;> rfl), rfl⟩
set_option maxHeartbeats 1000000 in
set_option maxRecDepth 100000 in
theorem rlarge_any (ls : List (List UInt8)) (A : Option Addr) (n c : Nat) (w : World) (h : Es w (fun _ => True) A n c ls) : Calls Try.prog 74 #[.slice A n c] w fun e w' => e = .returned (.bool (bigD ls)) ∧ w' = w := by
  have hlen := h.len
  have hroom := h.room
  have hmx := h.max
  unfold maxLen at hmx
  have hbd : bigD ls = (decide (65536 < n) || ls.any longB) := by unfold bigD; rw [hlen]; rfl
  rw [hbd]
  have Hlen := Lib.hid hlen
  clear hbd hlen
  by_cases hn : 65536 < n
  · have hd : decide ((65536 : Int) < (n : Int)) = true := by simp; omega
    rw [show decide (65536 < n) = true by simpa using hn, Bool.true_or]
    go_enter Try.func74, Try.ntmps74
    go_wp2_with fail
    go_ret
    exact ⟨rfl, rfl⟩
  · have hd : decide ((65536 : Int) < (n : Int)) = false := by simp; omega
    rw [show decide (65536 < n) = false by simpa using hn, Bool.false_or]
    obtain ⟨q, hq⟩ : ∃ q, ls.any longB = q := ⟨_, rfl⟩
    rw [hq]
    have Hq := Lib.hid hq
    clear hq
    go_enter Try.func74, Try.ntmps74
    go_wp2_with fail
    go_loopw [3] (fun v3 wr => ∃ k : Nat, k ≤ n ∧ v3 = .int .i64 (k : Int) ∧ (ls.drop k).any longB = q ∧ wr = w) (fun v3 _ => n - (intOf v3).toNat)
    case atStart => exact ⟨0, Nat.zero_le _, rfl, Hq.out, rfl⟩
    case round =>
      obtain ⟨k, hk, rfl, hf, rfl⟩ := hrel
      by_cases hkn : k < n
      · have hd : decide ((k : Int) < (n : Int)) = true := by simp; omega
        have hwk : IntKind.i64.wrap ((k : Int) + 1) = (k : Int) + 1 := IntWalk.i64_in _ (by omega)
        obtain ⟨b, o, rfl, -, -, hat⟩ := h.at_ (by omega)
        obtain ⟨Ai, ci, hc, hsl⟩ := hat k hkn
        rw [List.drop_eq_getElem_cons (by rw [Hlen.out]; exact hkn), show ls[k]'(by rw [Hlen.out]; exact hkn) = ls.getD k [] by rw [List.getD_eq_getElem?_getD, List.getElem?_eq_getElem (by rw [Hlen.out]; exact hkn)]; rfl, List.any_cons] at hf
        obtain ⟨m, hm⟩ : ∃ m, (ls.getD k []).length = m := ⟨_, rfl⟩
        have hlb : longB (ls.getD k []) = decide (4096 < m) := by unfold longB; rw [hm]
        rw [hm] at hc
        rw [hlb] at hf
        have Hf := Lib.hid hf
        clear hf hat hsl hm hlb
        by_cases hb : 4096 < m
        · have hd2 : decide ((4096 : Int) < (m : Int)) = true := by simp; omega
          have e := Hf.out
          rw [show decide (4096 < m) = true by simpa using hb, Bool.true_or] at e
          subst e
          go_wp2_with fail
          go_ret
          exact ⟨rfl, rfl⟩
        · have hd2 : decide ((4096 : Int) < (m : Int)) = false := by simp; omega
          have e := Hf.out
          rw [show decide (4096 < m) = false by simpa using hb, Bool.false_or] at e
          go_wp2_with fail
          go_roundw
          case rel => exact ⟨k + 1, by omega, by go_num, e, by first | rfl | trivial⟩
          case measure => simp [intOf]; omega
      · obtain rfl : n = k := by omega
        have hd : decide ((n : Int) < (n : Int)) = false := by simp
        rw [List.drop_of_length_le (by rw [Hlen.out]; exact Nat.le_refl _)] at hf
        have hf : false = q := hf
        subst hf
        go_wp2_with fail
        go_ret
        exact ⟨rfl, rfl⟩

set_option maxHeartbeats 400000 in
theorem bequal_any (l m : List UInt8) (A A' : Option Addr) (n c n' c' : Nat) (w : World) (h : Sl w (fun _ => True) A n c l) (h' : Sl w (fun _ => True) A' n' c' m) : Calls Try.prog 92 #[.slice A n c, .slice A' n' c'] w fun e w' => e = .returned (.bool (l == m)) ∧ w' = w := by
  have Hh := Lib.hid h
  have Hh' := Lib.hid h'
  clear h h'
  go_enter Try.func92, Try.ntmps92
  go_wp2_with (first
    | ((with_reducible show wpList _ _ _ (⟨some 6, .convert _ _ _, _, _, _, _⟩ :: _) _ _); refine wpList_run0 rfl (.string (bstr l)) (run_str_op (.tmp 5) rfl rfl Hh.out) ?_; simp only [Act.put])
    | ((with_reducible show wpList _ _ _ (⟨some 8, .convert _ _ _, _, _, _, _⟩ :: _) _ _); refine wpList_run0 rfl (.string (bstr m)) (run_str_op (.tmp 7) rfl rfl Hh'.out) ?_; simp only [Act.put])
    | ((with_reducible show wpList _ _ _ (⟨some 9, .binOp _ _ _ _ _, _, _, _, _⟩ :: _) _ _); refine wpList_run0 rfl (.bool (l == m)) (run_eqstr_op (.tmp 6) (.tmp 8) _ l m rfl rfl rfl _) ?_; simp only [Act.put]))
  go_ret
  exact ⟨rfl, rfl⟩

set_option maxHeartbeats 400000 in
theorem rsame1_any (l m : List UInt8) (A A' : Option Addr) (n c n' c' : Nat) (w : World) (h : Sl w (fun _ => True) A n c l) (h' : Sl w (fun _ => True) A' n' c' m) : Calls Try.prog 23 #[.slice A n c, .slice A' n' c'] w fun e w' => e = .returned (.bool (l == m)) ∧ w' = w := by
  have Hh := Lib.hid h
  have Hh' := Lib.hid h'
  clear h h'
  go_enter Try.func23, Try.ntmps23
  go_wp2_with (first
    | ((with_reducible show wpList _ _ _ (⟨some 6, .convert _ _ _, _, _, _, _⟩ :: _) _ _); refine wpList_run0 rfl (.string (bstr l)) (run_str_op (.tmp 5) rfl rfl Hh.out) ?_; simp only [Act.put])
    | ((with_reducible show wpList _ _ _ (⟨some 8, .convert _ _ _, _, _, _, _⟩ :: _) _ _); refine wpList_run0 rfl (.string (bstr m)) (run_str_op (.tmp 7) rfl rfl Hh'.out) ?_; simp only [Act.put])
    | ((with_reducible show wpList _ _ _ (⟨some 9, .binOp _ _ _ _ _, _, _, _, _⟩ :: _) _ _); refine wpList_run0 rfl (.bool (l == m)) (run_eqstr_op (.tmp 6) (.tmp 8) _ l m rfl rfl rfl _) ?_; simp only [Act.put]))
  go_ret
  exact ⟨rfl, rfl⟩
end Go.Proofs.Ytonidnfgneokbaa
