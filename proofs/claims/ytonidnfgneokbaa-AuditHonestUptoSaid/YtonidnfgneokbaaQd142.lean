/- How many hashes a proof has that one tree goes on another; does a way turn to the right. -/
import Derived.Test.YtonidnfgneokbaaQd141
namespace Go.Proofs.Ytonidnfgneokbaa
open Go Go.RowKit Go.Shelf
attribute [local go_sem] Oper.semAt_some

theorem cntW_cons (whole b : Bool) (way : List Bool) : cntW whole (b :: way) = 1 + cntW (whole && !b) way := by
  unfold cntW
  cases b with
  | true => rw [ownW_true, Bool.not_true, Bool.and_false, ownW_part, List.length_cons]; simp; omega
  | false => rw [ownW_false, Bool.not_false, Bool.and_true, List.length_cons]; omega
theorem cntW_le (whole : Bool) (way : List Bool) : cntW whole way ≤ way.length + 1 := by
  unfold cntW
  split <;> omega
set_option maxHeartbeats 4000000 in
set_option maxRecDepth 100000 in
theorem rmany_rec (D : Nat) : ∀ (m n : Nat) (whole : Bool) (w : World), n ≤ D → 1 ≤ m → m ≤ n → n ≤ 1099511627776 →
    Calls Try.prog 82 #[.int .i64 (m : Int), .int .i64 (n : Int), .bool whole] w fun e w' => e = .returned (.int .i64 (cntW whole (wayC m n) : Int)) ∧ w' = w := by
  induction D with
  | zero => intro m n whole w h h1 h2; omega
  | succ D ih =>
    intro m n whole w hD h1 hmn hn
    by_cases hmn1 : m = n
    · subst hmn1
      rw [wayC_end m h1]
      have he : ((m : Int) == (m : Int)) = true := by simp
      clear ih
      cases whole with
      | true =>
        go_enter Try.func82, Try.ntmps82
        go_wp2_with fail
        go_ret
        exact ⟨rfl, rfl⟩
      | false =>
        go_enter Try.func82, Try.ntmps82
        go_wp2_with fail
        go_ret
        exact ⟨rfl, rfl⟩
    · have h2 : 2 ≤ n := by omega
      have he : ((m : Int) == (n : Int)) = false := by simp; omega
      have hkl := splitN_lt n h2
      have hkp := splitN_pos n h2
      have hsp := rsplit_any (n : Int) w (by omega)
      rw [Int.toNat_natCast] at hsp
      have hwr := fun (hk : splitN n < m) => wayC_right m n (by omega) hk
      have hwl := fun (hk : m ≤ splitN n) => wayC_left m n h1 (by omega) hk
      have wl : ∀ (a b : Nat), (wayC a b).length ≤ b := fun a b => wayF_le _ _ b a b
      obtain ⟨k, hk⟩ : ∃ k, splitN n = k := ⟨_, rfl⟩
      rw [hk] at hsp hkl hkp hwr hwl
      have Hsp := Lib.hid hsp
      by_cases hik : m ≤ k
      · have hd : decide ((m : Int) ≤ (k : Int)) = true := by simp; omega
        have ih1 := ih m k whole w (by omega) h1 hik (by omega)
        rw [hwl hik, cntW_cons, Bool.not_false, Bool.and_true]
        have hl := wl m k
        have hl2 := cntW_le whole (wayC m k)
        obtain ⟨L, hL⟩ : ∃ L, cntW whole (wayC m k) = L := ⟨_, rfl⟩
        rw [hL] at ih1 hl2 ⊢
        have hww : IntKind.i64.wrap (1 + (L : Int)) = 1 + (L : Int) := IntWalk.i64_in _ (by omega)
        have Hih := Lib.hid ih1
        clear ih ih1 hsp hwr hwl hk wl hL
        go_enter Try.func82, Try.ntmps82
        go_wp2_with (first
          | (go_at_call 77; refine Hsp.out.mono ?_; rintro e w1 ⟨rfl, rfl⟩)
          | (go_at_call 82; refine Hih.out.mono ?_; rintro e w1 ⟨rfl, hw⟩; obtain rfl := hw.symm))
        go_ret
        exact ⟨by show Ending.returned (Value.int .i64 (1 + (L : Int))) = _; rw [show (1 + (L : Int)) = ((1 + L : Nat) : Int) by omega], rfl⟩
      · have hd : decide ((m : Int) ≤ (k : Int)) = false := by simp; omega
        have ih1 := ih (m - k) (n - k) false w (by omega) (by omega) (by omega) (by omega)
        rw [show ((m - k : Nat) : Int) = (m : Int) - k by omega, show ((n - k : Nat) : Int) = (n : Int) - k by omega] at ih1
        have hw1 : IntKind.i64.wrap ((m : Int) - (k : Int)) = (m : Int) - k := IntWalk.i64_in _ (by omega)
        have hw2 : IntKind.i64.wrap ((n : Int) - (k : Int)) = (n : Int) - k := IntWalk.i64_in _ (by omega)
        rw [hwr (by omega), cntW_cons, Bool.not_true, Bool.and_false]
        have hl := wl (m - k) (n - k)
        have hl2 := cntW_le false (wayC (m - k) (n - k))
        obtain ⟨L, hL⟩ : ∃ L, cntW false (wayC (m - k) (n - k)) = L := ⟨_, rfl⟩
        rw [hL] at ih1 hl2 ⊢
        have hww : IntKind.i64.wrap (1 + (L : Int)) = 1 + (L : Int) := IntWalk.i64_in _ (by omega)
        have Hih := Lib.hid ih1
        clear ih ih1 hsp hwr hwl hk wl hL
        go_enter Try.func82, Try.ntmps82
        go_wp2_with (first
          | (go_at_call 77; refine Hsp.out.mono ?_; rintro e w1 ⟨rfl, rfl⟩)
          | (go_at_call 82; refine Hih.out.mono ?_; rintro e w1 ⟨rfl, hw⟩; obtain rfl := hw.symm))
        go_ret
        exact ⟨by show Ending.returned (Value.int .i64 (1 + (L : Int))) = _; rw [show (1 + (L : Int)) = ((1 + L : Nat) : Int) by omega], rfl⟩

def firstTrue : List Bool → Nat → Int
  | [], _ => -1
  | b :: l, k => if b = true then (k : Int) else firstTrue l (k + 1)
theorem firstTrue_any : ∀ (l : List Bool) (k : Nat), decide ((0 : Int) ≤ firstTrue l k) = l.contains true
  | [], k => by simp [firstTrue]
  | b :: l, k => by
    unfold firstTrue
    cases b with
    | true => simp
    | false => rw [if_neg (by simp), firstTrue_any l (k + 1)]; simp
set_option maxHeartbeats 2000000 in
set_option maxRecDepth 100000 in
theorem indexb_any (way : List Bool) (A : Option Addr) (n c : Nat) (w : World) (h : SlV w (fun _ => True) A n c 1 (bcells way)) (hl : way.length = n) : Calls Try.prog 138 #[.slice A n c, .bool true] w fun e w' => e = .returned (.int .i64 (firstTrue way 0)) ∧ w' = w := by
  have hroom := h.room
  have hmx := h.max
  unfold maxLen at hmx
  obtain ⟨r, hr⟩ : ∃ r, firstTrue way 0 = r := ⟨_, rfl⟩
  rw [hr]
  have Hr := Lib.hid hr
  have Hl := Lib.hid hl
  clear hr hl
  go_enter Try.func138, Try.ntmps138
  go_wp2_with fail
  go_loopw [5, 8] (fun _ v8 wr => ∃ k : Nat, k ≤ n ∧ v8 = .int .i64 (k : Int) ∧ firstTrue (way.drop k) k = r ∧ wr = w) (fun _ v8 _ => n - (intOf v8).toNat)
  case atStart => exact ⟨0, Nat.zero_le _, rfl, Hr.out, rfl⟩
  case round =>
    obtain ⟨k, hk, rfl, hf, rfl⟩ := hrel
    by_cases hkn : k < n
    · have hd : decide ((k : Int) < (n : Int)) = true := by simp; omega
      have hwk : IntKind.i64.wrap ((k : Int) + 1) = (k : Int) + 1 := IntWalk.i64_in _ (by omega)
      obtain ⟨b, o, rfl, -, -, hat⟩ := h.at_ (by omega) (by decide)
      have hc := hat k (.bool (way.getD k false)) (by rw [List.getElem?_map, List.getD_eq_getElem?_getD, List.getElem?_eq_getElem (by rw [Hl.out]; exact hkn)]; rfl)
      rw [show way.drop k = way.getD k false :: way.drop (k + 1) by rw [List.drop_eq_getElem_cons (by rw [Hl.out]; exact hkn), List.getD_eq_getElem?_getD, List.getElem?_eq_getElem (by rw [Hl.out]; exact hkn)]; rfl] at hf
      obtain ⟨q, hq⟩ : ∃ q, way.getD k false = q := ⟨_, rfl⟩
      rw [hq] at hc hf
      unfold firstTrue at hf
      have Hf := Lib.hid hf
      clear hf hat hq
      cases q with
      | true =>
        have e := Hf.out
        rw [if_pos rfl] at e
        subst e
        go_wp2_with fail
        go_ret
        exact ⟨rfl, rfl⟩
      | false =>
        have e := Hf.out
        rw [if_neg (by simp)] at e
        have He := Lib.hid e
        clear e
        go_wp2_with fail
        go_roundw
        case rel => exact ⟨k + 1, by omega, by go_num, He.out, by first | rfl | trivial⟩
        case measure => simp [intOf]; omega
    · obtain rfl : n = k := by omega
      have hd : decide ((n : Int) < (n : Int)) = false := by simp
      rw [List.drop_of_length_le (by rw [Hl.out]; exact Nat.le_refl _)] at hf
      have hf : (-1 : Int) = r := hf
      subst hf
      go_wp2_with fail
      go_ret
      exact ⟨rfl, rfl⟩
theorem contb_any (way : List Bool) (A : Option Addr) (n c : Nat) (w : World) (h : SlV w (fun _ => True) A n c 1 (bcells way)) (hl : way.length = n) : Calls Try.prog 95 #[.slice A n c, .bool true] w fun e w' => e = .returned (.bool (way.contains true)) ∧ w' = w := by
  have h1 := indexb_any way A n c w h hl
  have h2 := firstTrue_any way 0
  obtain ⟨r, hr⟩ : ∃ r, firstTrue way 0 = r := ⟨_, rfl⟩
  rw [hr] at h1 h2
  have H1 := Lib.hid h1
  have H2 := Lib.hid h2
  clear h1 h2 hr
  go_enter Try.func95, Try.ntmps95
  go_wp2_with (go_at_call 138; refine H1.out.mono ?_; rintro e w1 ⟨rfl, hw⟩; obtain rfl : w = w1 := hw.symm)
  go_ret
  exact ⟨by rw [← H2.out]; rfl, rfl⟩
end Go.Proofs.Ytonidnfgneokbaa
