/- audit.steps: the way to an entry. -/
import Derived.Test.YtonidnfgneokbaaQd124
namespace Go.Proofs.Ytonidnfgneokbaa
open Go Go.RowKit Go.Shelf
attribute [local go_sem] Oper.semAt_some

theorem infoBool : (Try.prog.info? 4).map (fun i => (i.zero, i.size, i.bytes)) = some (some (.bool false), 1, 1) := by kernel_rfl
abbrev bcells (l : List Bool) : List Value := l.map Value.bool
theorem oneBool (l : List Bool) : ∀ v ∈ bcells l, v.oneCell' = true := fun v hv => by obtain ⟨b, _, rfl⟩ := List.mem_map.1 hv; rfl
set_option maxHeartbeats 1000000 in
theorem inclR_any (i k n : Nat) (g : Nat) (w : World) (hg : Blk w g 2 #[.int .i64 (i : Int)]) (hi : i ≤ 1099511627776) (hk : k ≤ 1099511627776) :
    Calls Try.prog 86 #[.int .i64 (k : Int), .int .i64 (n : Int), .pointer (some ⟨g, 0, none⟩)] w fun e w' => e = .returned (.bool (rtI i k)) ∧ w' = (if k ≤ i then w.setCell ⟨g, 0, none⟩ (.int .i64 ((i - k : Nat) : Int)) else w) := by
  have c : w.cell? ⟨g, 0, none⟩ = some (.int .i64 (i : Int)) := by rw [hg.cell]; rfl
  have f := hg.frozen 0
  unfold rtI
  by_cases h : k ≤ i
  · have hd : decide ((k : Int) ≤ (i : Int)) = true := by simp; omega
    have hd2 : decide (k ≤ i) = true := by simp; omega
    have hw : IntKind.i64.wrap ((i : Int) - (k : Int)) = ((i - k : Nat) : Int) := by rw [IntWalk.i64_in _ (by omega)]; omega
    rw [if_pos h, hd2]
    go_enter Try.func86, Try.ntmps86
    go_wp2_with fail
    go_ret
    exact ⟨rfl, rfl⟩
  · have hd : decide ((k : Int) ≤ (i : Int)) = false := by simp; omega
    have hd2 : decide (k ≤ i) = false := by simp; omega
    rw [if_neg h, hd2]
    go_enter Try.func86, Try.ntmps86
    go_wp2_with fail
    go_ret
    exact ⟨rfl, rfl⟩
theorem inclE_any (n : Nat) (w : World) : Calls Try.prog 87 #[.int .i64 (n : Int)] w fun e w' => e = .returned (.bool (n == 1)) ∧ w' = w := by
  have hd : ((n : Int) == 1) = (n == 1) := by
    by_cases h : n = 1
    · subst h; rfl
    · rw [show (n == 1) = false by simp; exact h]; simp; omega
  go_enter Try.func87, Try.ntmps87
  go_wp2_with fail
  go_ret
  exact ⟨by first | (rw [hd]) | rfl, rfl⟩

/-- one block may change, and what is new -/
theorem grown_trans9 {a w w' : World} {g : Nat} {row : Option Nat} (h : a.grownBy w (some g)) (h2 : w.grownBy w' row) (hr : ∀ j, row = some j → a.heap.size ≤ j) : a.grownBy w' (some g) :=
  ⟨h2.os.trans h.os, h2.tape.trans h.tape, h2.output.trans h.output, Nat.le_trans h.size h2.size, fun k hk hne => (h2.block k (Nat.lt_of_lt_of_le hk h.size) (fun e => by have := hr k e.symm; omega)).trans (h.block k hk hne)⟩
set_option maxHeartbeats 4000000 in
set_option maxRecDepth 100000 in
theorem stepsI_any (i n g : Nat) (w : World) (hg : Blk w g 2 #[.int .i64 (i : Int)]) (h1 : 1 ≤ n) (hi : i < n) (hn : n ≤ 1099511627776) :
    Calls Try.prog 85 #[.int .i64 (n : Int), .func (.func 86) #[] #[.pointer (some ⟨g, 0, none⟩)], .func (.func 87) #[] #[]] w fun e w' =>
      ∃ v, e = .returned v ∧ w'.ownsRow w.heap.size 4 1 v (wayI i n).length (bcells (wayI i n)) ∧ w.grownBy w' (some g) := by
  obtain ⟨way, hway⟩ : ∃ way, wayI i n = way := ⟨_, rfl⟩
  have hwl : way.length ≤ n := by rw [← hway]; exact wayF_le _ _ _ _ _
  rw [hway]
  have hglt := hg.lt
  have hba : Below w.heap.size w (w.alloc (.cells #[] 4)) := (Below.refl _ _).alloc (Nat.le_refl _) _
  have ho0 : (w.alloc (.cells #[] 4)).ownsRow w.heap.size 4 1 (.slice (some ⟨w.heap.size, 0, none⟩) 0 0) 0 [] := World.ownsRow_lit w #[] 0 (Nat.le_refl _) (by decide) rfl
  have hg0 : w.grownBy (w.alloc (.cells #[] 4)) (some g) := grown_of_below hba _
  have hgb0 := hg.step hba
  have Hway := Lib.hid hway
  have Hwl := Lib.hid hwl
  clear hway hba hwl
  go_enter Try.func85, Try.ntmps85
  go_wp2_with fail
  go_loopw [0, 7, 8, 9] (fun v0 v7 _ _ wr => ∃ (s m : Nat) (pre : List Bool) (v : Value), v0 = .int .i64 (m : Int) ∧ v = v7 ∧ 1 ≤ m ∧ s < m ∧ m ≤ n ∧ wayI i n = pre ++ wayI s m ∧ Blk wr g 2 #[.int .i64 (s : Int)] ∧ wr.ownsRow w.heap.size 4 1 v pre.length (bcells pre) ∧ w.grownBy wr (some g)) (fun v0 _ _ _ _ => (intOf v0).toNat)
  case atStart => exact ⟨i, n, [], _, rfl, rfl, h1, hi, Nat.le_refl _, rfl, hgb0, ho0, hg0⟩
  case round =>
    clear hgb0 ho0 hg0
    obtain ⟨s, m, pre, v7, rfl, rfl, hm1, hsm, hmn, hw, hbk, ho, hgr⟩ := hrel
    have Hw := Lib.hid hw
    have hpl : pre.length ≤ n := by have := Hwl.out; rw [← Hway.out, hw, List.length_append] at this; omega
    clear hw
    have hen := inclE_any m wr
    have Hen := Lib.hid hen
    clear hen
    by_cases hm : m = 1
    · subst hm
      have hwe : way = pre := by rw [← Hway.out, Hw.out, wayI_one, List.append_nil]
      subst hwe
      go_wp2_with (go_at_call 87; refine Hen.out.mono ?_; rintro e w1 ⟨rfl, hw1⟩; obtain rfl : wr = w1 := hw1.symm)
      go_ret
      exact ⟨_, rfl, ho, hgr⟩
    · have hmb : (m == 1) = false := by simp; exact hm
      have hkl := splitN_lt m (by omega)
      have hkp := splitN_pos m (by omega)
      have hsp := asplit_any m wr (by omega) (by omega)
      have hwr := fun (hk : splitN m ≤ s) => wayI_right s m (by omega) hsm hk
      have hwl := fun (hk : s < splitN m) => wayI_left s m (by omega) hk
      obtain ⟨k, hk⟩ : ∃ k, splitN m = k := ⟨_, rfl⟩
      rw [hk] at hkl hkp hsp hwr hwl
      have hrt := inclR_any s k m g wr hbk (by omega) (by omega)
      have Hsp := Lib.hid hsp
      have Hrt := Lib.hid hrt
      clear hk hsp hrt
      by_cases hks : k ≤ s
      · have hrv : rtI s k = true := by simp [rtI]; exact hks
        have hwn : IntKind.i64.wrap ((m : Int) - (k : Int)) = ((m - k : Nat) : Int) := by rw [IntWalk.i64_in _ (by omega)]; omega
        have hwx := hwr hks
        obtain ⟨W1, hW1⟩ : ∃ W1, wr.setCell ⟨g, 0, none⟩ (.int .i64 ((s - k : Nat) : Int)) = W1 := ⟨_, rfl⟩
        have hbk1 : Blk W1 g 2 #[.int .i64 ((s - k : Nat) : Int)] := by rw [← hW1]; exact hbk.set_ 0 _
        have hgr1 : w.grownBy W1 (some g) := by rw [← hW1]; exact grown_setCell hgr 0 _
        have ho1 : W1.ownsRow w.heap.size 4 1 v7 pre.length (bcells pre) := by rw [← hW1]; exact ho.kept (grown_setCell (grown_of_below (Below.refl _ _) (some g)) 0 _) (.inr fun e => by have := (ho.lt g e).1; omega)
        have HW1 := Lib.hid hW1
        clear ho hgr hbk hW1
        have hba : Below W1.heap.size W1 (W1.alloc (.cells #[.bool true] 4)) := (Below.refl _ _).alloc (Nat.le_refl _) _
        have ho2 := owns_step ho1 hba
        obtain ⟨v3, W3, hr3, ho3, hg3, -⟩ := append_slv (ty := 124) Try.underlying124 infoBool rfl (by decide) ho2 (SlV.lit (s := 1) (n := 1) W1 (fun _ => True) 4 [.bool true] rfl (by decide) trivial) (by simp [Value.oneCell']) (by unfold maxLen; omega) (by omega) (Nat.le_trans hgr1.size hba.size)
        have hgr2 := grown_below hgr1 hba
        have hgr3 : w.grownBy W3 (some g) := grown_trans9 hgr2 hg3 (fun j hj => (ho2.lt j hj).1)
        have hbk2 : Blk W3 g 2 _ := (hbk1.step hba).grown hg3 (fun e => by have := (ho2.lt g e.symm).1; omega)
        have Hr3 := Lib.hid hr3
        clear hr3 ho1 ho2 hgr1 hgr2 hg3 hba hbk1
        go_wp2_with (first
          | (go_at_call 87; refine Hen.out.mono ?_; rintro e w1 ⟨rfl, hw1⟩; obtain rfl : wr = w1 := hw1.symm; rw [hmb])
          | (go_at_call 99; refine Hsp.out.mono ?_; rintro e w1 ⟨rfl, hw1⟩; obtain rfl : wr = w1 := hw1.symm)
          | (go_at_call 86; refine Hrt.out.mono ?_; rintro e w1 ⟨rfl, hw1⟩; rw [if_pos hks] at hw1; rw [HW1.out] at hw1; rw [hrv]; subst hw1)
          | ((with_reducible show wpList _ _ _ (⟨some 23, .buildSlice _ _ _, _, _, _, _⟩ :: _) _ _); refine wpList_run rfl (.slice (some ⟨W1.heap.size, 0, none⟩) 1 1) (W1.alloc (.cells #[.bool true] 4)) (by kernel_rfl) ?_; simp only [Act.put])
          | ((with_reducible show wpList _ _ _ (⟨some 24, .call _, _, _, _, _⟩ :: _) _ _); refine wpList_run rfl v3 W3 (run_append_op (.tmp 21) (.tmp 23) 124 rfl _ _ rfl rfl Hr3.out) ?_; simp only [Act.put]))
        go_roundw
        case rel => exact ⟨s - k, m - k, pre ++ [true], _, by go_num, rfl, by omega, by omega, by omega, by rw [Hw.out, hwx, List.append_assoc]; rfl, hbk2, by rw [List.length_append]; show World.ownsRow _ _ _ _ _ (pre.length + 1) _; rw [show bcells (pre ++ [true]) = bcells pre ++ [.bool true] by simp]; exact ho3, hgr3⟩
        case measure => simp [intOf]; omega
      · have hrv : rtI s k = false := by simp [rtI]; omega
        have hwx := hwl (by omega)
        have hbk1 := hbk
        have hgr1 := hgr
        have ho1 := ho
        obtain ⟨W1, hW1⟩ : ∃ W1, wr = W1 := ⟨_, rfl⟩
        rw [hW1] at hbk1 hgr1 ho1
        have HW1 := Lib.hid hW1
        clear ho hgr hbk hW1
        have hba : Below W1.heap.size W1 (W1.alloc (.cells #[.bool false] 4)) := (Below.refl _ _).alloc (Nat.le_refl _) _
        have ho2 := owns_step ho1 hba
        obtain ⟨v3, W3, hr3, ho3, hg3, -⟩ := append_slv (ty := 124) Try.underlying124 infoBool rfl (by decide) ho2 (SlV.lit (s := 1) (n := 1) W1 (fun _ => True) 4 [.bool false] rfl (by decide) trivial) (by simp [Value.oneCell']) (by unfold maxLen; omega) (by omega) (Nat.le_trans hgr1.size hba.size)
        have hgr2 := grown_below hgr1 hba
        have hgr3 : w.grownBy W3 (some g) := grown_trans9 hgr2 hg3 (fun j hj => (ho2.lt j hj).1)
        have hbk2 : Blk W3 g 2 _ := (hbk1.step hba).grown hg3 (fun e => by have := (ho2.lt g e.symm).1; omega)
        have Hr3 := Lib.hid hr3
        clear hr3 ho1 ho2 hgr1 hgr2 hg3 hba hbk1
        go_wp2_with (first
          | (go_at_call 87; refine Hen.out.mono ?_; rintro e w1 ⟨rfl, hw1⟩; obtain rfl : wr = w1 := hw1.symm; rw [hmb])
          | (go_at_call 99; refine Hsp.out.mono ?_; rintro e w1 ⟨rfl, hw1⟩; obtain rfl : wr = w1 := hw1.symm)
          | (go_at_call 86; refine Hrt.out.mono ?_; rintro e w1 ⟨rfl, hw1⟩; rw [if_neg hks] at hw1; rw [HW1.out] at hw1; rw [hrv]; subst hw1)
          | ((with_reducible show wpList _ _ _ (⟨some 23, .buildSlice _ _ _, _, _, _, _⟩ :: _) _ _); refine wpList_run rfl (.slice (some ⟨W1.heap.size, 0, none⟩) 1 1) (W1.alloc (.cells #[.bool false] 4)) (by kernel_rfl) ?_; simp only [Act.put])
          | ((with_reducible show wpList _ _ _ (⟨some 24, .call _, _, _, _, _⟩ :: _) _ _); refine wpList_run rfl v3 W3 (run_append_op (.tmp 21) (.tmp 23) 124 rfl _ _ rfl rfl Hr3.out) ?_; simp only [Act.put]))
        go_roundw
        case rel => exact ⟨s, k, pre ++ [false], _, by go_num, rfl, by omega, by omega, by omega, by rw [Hw.out, hwx, List.append_assoc]; rfl, hbk2, by rw [List.length_append]; show World.ownsRow _ _ _ _ _ (pre.length + 1) _; rw [show bcells (pre ++ [false]) = bcells pre ++ [.bool false] by simp]; exact ho3, hgr3⟩
        case measure => simp [intOf]; omega
end Go.Proofs.Ytonidnfgneokbaa
