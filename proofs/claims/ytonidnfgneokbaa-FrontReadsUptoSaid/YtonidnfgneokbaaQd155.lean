/- FrontReads. -/
import Derived.Test.YtonidnfgneokbaaQd153
import Derived.Test.YtonidnfgneokbaaQd154
namespace Go.Proofs.Ytonidnfgneokbaa
open Go Go.RowKit Go.Shelf
attribute [local go_sem] Oper.semAt_some

theorem FrPOpt.some' {W : World} {lo : Nat} {v : Value} {ps : FrV} (h : FrPOpt W lo v (some ps)) : ∃ g, v = fptr g ∧ lo ≤ g ∧ FrPF W lo g ps := by
  rcases h with ⟨h, _⟩ | ⟨g, qs, h1, h2, h3, h4⟩
  · cases h
  · cases h1
    exact ⟨g, h2, h3, h4⟩
theorem FrPOpt.none' {W : World} {lo : Nat} {v : Value} (h : FrPOpt W lo v none) : v = .pointer none := by
  rcases h with ⟨_, h⟩ | ⟨g, qs, h1, h2, h3, h4⟩
  · exact h
  · cases h1
/-- the two fronts, in the case that they are there or not -/
def Both (W : World) (lo : Nat) (f r : Value) (o : Option FrV) : Prop := (o = none ∧ f = .pointer none ∧ r = .pointer none) ∨ ∃ g g' ps, o = some ps ∧ f = fptr g ∧ r = fptr g' ∧ lo ≤ g ∧ lo ≤ g' ∧ FrOF W lo g ps ∧ FrPF W lo g' ps ∧ FrOk ps

theorem Both.grown {W W' : World} {lo gm : Nat} {f r : Value} {o : Option FrV} (h : Both W lo f r o) (hg : W.grownBy W' (some gm)) (hl : gm < lo) : Both W' lo f r o := by
  rcases h with h | ⟨g, g', ps, h1, h2, h3, h4, h5, h6, h7, h8⟩
  · exact .inl h
  · exact .inr ⟨g, g', ps, h1, h2, h3, h4, h5, h6.grown hg hl (by omega), h7.grown hg hl (by omega), h8⟩
theorem Both.hasO {W : World} {lo : Nat} {f r : Value} {o : Option FrV} (h : Both W lo f r o) : HasO W f o := by
  rcases h with ⟨h1, h2, _⟩ | ⟨g, g', ps, h1, h2, h3, h4, h5, h6, h7, h8⟩
  · exact .inl ⟨h1, h2⟩
  · exact .inr ⟨g, ps, h1, h2, h6.fro, h8⟩
theorem Both.hasR {W : World} {lo : Nat} {f r : Value} {o : Option FrV} (h : Both W lo f r o) : HasR W r o := by
  rcases h with ⟨h1, _, h2⟩ | ⟨g, g', ps, h1, h2, h3, h4, h5, h6, h7, h8⟩
  · exact .inl ⟨h1, h2⟩
  · exact .inr ⟨g', ps, h1, h3, h7.frp, h8⟩

set_option maxHeartbeats 8000000 in
set_option maxRecDepth 100000 in
theorem frontReads_any (b : List UInt8) (A : Option Addr) (n c : Nat) (w : World) (h : Sl w (fun _ => True) A n c b) (hn : n ≤ 2097152) : Calls Try.prog 9 #[.slice A n c] w fun e w' => e = .returned (.bool true) ∧ Below w.heap.size w w' := by
  have hlen := h.len
  have hroom := h.room
  have hmx := h.max
  unfold maxLen at hmx
  -- the bytes, with a mark behind them
  obtain ⟨v10, w1, hr10, ho10, hR10⟩ := append_slb (xs := []) (World.ownsRow_nil w w.heap.size 5 1) h (by simp; omega) (Nat.le_refl _)
  rw [List.nil_append] at ho10
  have hb1 : Below w.heap.size w w1 := (Below.refl _ _).grown hR10.gr (Nat.le_refl _) (fun r e => by cases e)
  obtain ⟨v12, w2, hr12, ho12, hR12⟩ := lit_byte ho10 165 (by omega) hb1.size
  have hb2 : Below w.heap.size w w2 := hb1.grown hR12.gr hb1.size (fun r e => (ho10.lt r e).1)
  have hl12 : (b ++ [165]).length = n + 1 := by rw [List.length_append, hlen]; rfl
  rw [hl12] at ho12
  obtain ⟨gm, cm, rfl, hgm⟩ := owns_someB ho12 (by omega)
  obtain ⟨A_, c_, e_, hs12⟩ := owns_slv ho12
  injection e_ with e1 _ e2
  subst e1 e2
  have hgl : gm < w2.heap.size := (ho12.lt gm rfl).2
  have hS12 : Sl w2 (fun b => b < w2.heap.size) (some ⟨gm, 0, none⟩) (n + 1) cm (b ++ [165]) := ⟨(hs12.weak fun b hb _ => hb).bs, hl12, hs12.room, hs12.nil, hs12.max⟩
  have hcm := hs12.room
  have hcx := hs12.max
  unfold maxLen at hcx
  have hSm : Sl w2 (fun b => b < w2.heap.size) (some ⟨gm, 0, none⟩) n cm b := by
    have := hS12.take n (by omega)
    rw [List.take_append_of_le_length (by omega), List.take_of_length_le (by omega)] at this
    exact this
  have hrd := fread_any b (some ⟨gm, 0, none⟩) n cm w2 (hSm.weak fun _ _ _ => trivial) (by omega)
  have hrr := fun W (hb : Below w.heap.size w W) => rfread_any b A n c W (h.step hb) (by omega)
  have hbb : (b == b) = true := by simp
  have hcn : (b ++ [165]).getD n 0 = 165 := by rw [← hlen, List.getD_eq_getElem?_getD, List.getElem?_append_right (Nat.le_refl _), Nat.sub_self]; rfl
  have Hbb := Lib.hid hbb
  have Hr10 := Lib.hid hr10
  have Hr12 := Lib.hid hr12
  have Hlen := Lib.hid hlen
  have H := Lib.hid h
  have Hcn := Lib.hid hcn
  obtain ⟨A1, c1, rfl, -⟩ := owns_slv ho10
  rw [hlen] at Hr10 Hr12
  clear hbb hr10 hr12 ho10 hR10 hR12 hb1 hs12 hcn h
  -- is there a front?
  have key : ∀ (o : Option FrV) (er : Int), (∀ W, Below w.heap.size w W → True) → readF b = (o, er) → (o = none ∧ er = 200 ∨ ∃ ps, o = some ps ∧ er = 0 ∧ FrOk ps ∧ bytesF ps = b) →
      Calls Try.prog 9 #[.slice A n c] w fun e w' => e = .returned (.bool true) ∧ Below w.heap.size w w' := by
    intro o er _ hread hcase
    rw [hread] at hrd hrr
    have Hrd := Lib.hid hrd
    have Hrr := Lib.hid hrr
    clear hrd hrr hread
    rcases hcase with ⟨rfl, rfl⟩ | ⟨ps, rfl, rfl, hok, hbytes⟩
    · go_enter Try.func9, Try.ntmps9
      go_wp2_with (first
        | ((with_reducible show wpList _ _ _ (⟨some 10, .call _, _, _, _, _⟩ :: _) _ _); refine wpList_run rfl (.slice A1 n c1) w1 (run_append_op (.const (.slice none 0 0)) (.tmp 9) 23 rfl _ _ rfl rfl Hr10.out) ?_; simp only [Act.put])
        | ((with_reducible show wpList _ _ _ (⟨some 11, .buildSlice _ _ _, _, _, _, _⟩ :: _) _ _); refine wpList_run rfl (.slice (some ⟨w1.heap.size, 0, none⟩) 1 1) (w1.alloc (.cells #[B 165] 5)) (by kernel_rfl) ?_; simp only [Act.put])
        | ((with_reducible show wpList _ _ _ (⟨some 12, .call _, _, _, _, _⟩ :: _) _ _); refine wpList_run rfl (.slice (some ⟨gm, 0, none⟩) (n + 1) cm) w2 (run_append_op (.tmp 10) (.tmp 11) 23 rfl _ _ rfl rfl Hr12.out) ?_; simp only [Act.put])
        | ((with_reducible show wpList _ _ _ (⟨some 15, .slice _ _ _ _ _, _, _, _, _⟩ :: _) _ _); refine wpList_run0 rfl (.slice (some ⟨gm, 0, none⟩) n cm) (run_slice_hi8 (.tmp 12) (.tmp 14) rfl _ (n + 1) cm n rfl rfl (by omega) _) ?_; simp only [Act.put])
        | (go_at_call 47; refine Hrd.out.mono ?_; rintro e w3 ⟨v3, rfl, hO, hb3⟩; obtain rfl := hO.none'; have hb23 := hb2.trans (hb3.mono hb2.size))
        | (go_at_call 53; refine (Hrr.out w3 hb23).mono ?_; rintro e w4 ⟨v4, rfl, hO4, hb4⟩; obtain rfl := hO4.none'; have hb24 := hb23.trans (hb4.mono hb23.size); replace hSm := (hSm.step hb3).step hb4; replace hS12 := (hS12.step hb3).step hb4; have ho12 := owns_step (owns_step ho12 hb3) hb4; have c52 : w4.cell? ⟨gm, n, none⟩ = some (B 165) := (by obtain ⟨b', o', e, -, -, hat⟩ := hS12.cells (by omega); cases e; have h9 := hat n (by omega); rw [Nat.zero_add, Hcn.out] at h9; exact h9); have Hs := Lib.hid (same10_any b b _ _ n _ n _ w4 (hSm.weak fun _ _ _ => trivial) (H.out.step hb24)); rw [Hbb.out] at Hs)
        | ((with_reducible show wpList _ _ _ (⟨some 48, .slice _ _ _ _ _, _, _, _, _⟩ :: _) _ _); refine wpList_runG (by kernel_rfl) (.slice (some ⟨gm, 0, none⟩) (n + 1) cm) _ (run_slice_hi8 (.tmp 44) (.tmp 47) rfl _ n cm (n + 1) rfl (by rfl) (by omega) _) ?_; simp only [Act.put])
        | (go_at_call 23; refine Hs.out.mono ?_; rintro e w5 ⟨rfl, hww⟩; obtain rfl := hww.symm)
        | (go_at_call 41; refine (num10_any _ _).mono ?_; rintro e wn ⟨rfl, hww⟩; obtain rfl := hww.symm))
      have hBo : Both w4 w2.heap.size (.pointer none) (.pointer none) none := .inl ⟨rfl, rfl, rfl⟩
      have hl2 : gm < w2.heap.size := hgl
      have hge2 := hgm
      clear hSm hS12 Hs
      obtain ⟨lo, hlo⟩ : ∃ x, w2.heap.size = x := ⟨_, rfl⟩
      rw [hlo] at hl2 hBo
      obtain ⟨ys, hys⟩ : ∃ x, (b ++ [165]).map B = x := ⟨_, rfl⟩
      rw [hys] at ho12
      clear hys hlo
      go_loopw [8] (fun v8 wr => ∃ (q : Nat) (ys : List Value), q ≤ n ∧ v8 = .int .i64 (q : Int) ∧ wr.ownsRow w.heap.size 5 1 (.slice (some ⟨gm, 0, none⟩) (n + 1) cm) (n + 1) ys ∧ Both wr lo (.pointer none) (.pointer none) none ∧ Below w.heap.size w wr) (fun v8 _ => n - (intOf v8).toNat)
      case atStart => exact ⟨0, ys, Nat.zero_le _, rfl, ho12, hBo, hb24⟩
      case round =>
        clear ho12 hBo hb24 ys c52
        obtain ⟨q, ys, hq, rfl, ho, hBo, hB⟩ := hrel
        by_cases hqn : q < n
        · have hd : decide ((q : Int) < (n : Int)) = true := by simp; omega
          have hwq : IntKind.i64.wrap ((q : Int) + 1) = (q : Int) + 1 := IntWalk.i64_in _ (by omega)
          obtain ⟨cs, hk1, hs1, ys', hon⟩ := owns_set10 ho (by omega : q < n + 1) (.int .u8 99)
          obtain ⟨c0, hc0⟩ : ∃ u, wr.cell? ⟨gm, q, none⟩ = some u := by
            rw [hk1.cell]
            exact ⟨_, Array.getElem?_eq_getElem hs1⟩
          have f0 := hk1.frozen q
          have hBn : Below w.heap.size w (wr.setCell ⟨gm, q, none⟩ (.int .u8 99)) := hB.setCell (p := ⟨gm, q, none⟩) hge2 _
          have hBo2 := hBo.grown (grown_setCell (grown_of_below (Below.refl _ wr) (some gm)) q (.int .u8 99)) hl2
          have Ho := Lib.hid hon
          have HB := Lib.hid hBn
          have HBo := Lib.hid hBo2
          clear hon hBn hBo2
          go_wp2_with fail
          go_roundw
          case rel => exact ⟨q + 1, ys', by omega, by go_num, Ho.out, HBo.out, HB.out⟩
          case measure => simp [intOf]; omega
        · obtain rfl : q = n := by omega
          have hd : decide ((q : Int) < (q : Int)) = false := by simp
          have hHO := hBo.hasO
          have hHR := hBo.hasR
          clear ho hBo
          go_wp2_with (first
            | (go_at_call 54; refine (tells_any _ _ _ wr hHO hHR).mono ?_; rintro e w6 ⟨rfl, hb6⟩; have hB6 := hB.trans (hb6.mono hB.size))
            | (go_at_call 39; refine (known10_any w6).mono ?_; rintro e w9 ⟨rfl, hb9⟩))
          go_ret
          exact ⟨rfl, hB6.trans (hb9.mono hB6.size)⟩
    · have Hby := Lib.hid hbytes
      go_enter Try.func9, Try.ntmps9
      go_wp2_with (first
        | ((with_reducible show wpList _ _ _ (⟨some 10, .call _, _, _, _, _⟩ :: _) _ _); refine wpList_run rfl (.slice A1 n c1) w1 (run_append_op (.const (.slice none 0 0)) (.tmp 9) 23 rfl _ _ rfl rfl Hr10.out) ?_; simp only [Act.put])
        | ((with_reducible show wpList _ _ _ (⟨some 11, .buildSlice _ _ _, _, _, _, _⟩ :: _) _ _); refine wpList_run rfl (.slice (some ⟨w1.heap.size, 0, none⟩) 1 1) (w1.alloc (.cells #[B 165] 5)) (by kernel_rfl) ?_; simp only [Act.put])
        | ((with_reducible show wpList _ _ _ (⟨some 12, .call _, _, _, _, _⟩ :: _) _ _); refine wpList_run rfl (.slice (some ⟨gm, 0, none⟩) (n + 1) cm) w2 (run_append_op (.tmp 10) (.tmp 11) 23 rfl _ _ rfl rfl Hr12.out) ?_; simp only [Act.put])
        | ((with_reducible show wpList _ _ _ (⟨some 15, .slice _ _ _ _ _, _, _, _, _⟩ :: _) _ _); refine wpList_run0 rfl (.slice (some ⟨gm, 0, none⟩) n cm) (run_slice_hi8 (.tmp 12) (.tmp 14) rfl _ (n + 1) cm n rfl rfl (by omega) _) ?_; simp only [Act.put])
        | (go_at_call 47; refine Hrd.out.mono ?_; rintro e w3 ⟨v3, rfl, hO, hb3⟩; obtain ⟨gf, rfl, hgf, hFF⟩ := hO.some'; have hb23 := hb2.trans (hb3.mono hb2.size))
        | (go_at_call 53; refine (Hrr.out w3 hb23).mono ?_; rintro e w4 ⟨v4, rfl, hO4, hb4⟩; obtain ⟨gr, rfl, hgr, hRR⟩ := hO4.some'; have hb24 := hb23.trans (hb4.mono hb23.size); replace hFF := hFF.step hb4; replace hSm := (hSm.step hb3).step hb4; replace hS12 := (hS12.step hb3).step hb4; have ho12 := owns_step (owns_step ho12 hb3) hb4; have c52 : w4.cell? ⟨gm, n, none⟩ = some (B 165) := (by obtain ⟨b', o', e, -, -, hat⟩ := hS12.cells (by omega); cases e; have h9 := hat n (by omega); rw [Nat.zero_add, Hcn.out] at h9; exact h9); have Hs := Lib.hid (same10_any b b _ _ n _ n _ w4 (hSm.weak fun _ _ _ => trivial) (H.out.step hb24)); rw [Hbb.out] at Hs)
        | ((with_reducible show wpList _ _ _ (⟨some 48, .slice _ _ _ _ _, _, _, _, _⟩ :: _) _ _); refine wpList_runG (by kernel_rfl) (.slice (some ⟨gm, 0, none⟩) (n + 1) cm) _ (run_slice_hi8 (.tmp 44) (.tmp 47) rfl _ n cm (n + 1) rfl (by rfl) (by omega) _) ?_; simp only [Act.put])
        | (go_at_call 23; refine Hs.out.mono ?_; rintro e w5 ⟨rfl, hww⟩; obtain rfl := hww.symm)
        | (go_at_call 41; refine (num10_any _ _).mono ?_; rintro e wn ⟨rfl, hww⟩; obtain rfl := hww.symm))
      have hBo : Both w4 w2.heap.size (fptr gf) (fptr gr) (some ps) := .inr ⟨gf, gr, ps, rfl, rfl, rfl, hgf, Nat.le_trans hb3.size hgr, hFF, hRR.le hb3.size, hok⟩
      have hl2 : gm < w2.heap.size := hgl
      have hge2 := hgm
      clear hSm hS12 Hs
      obtain ⟨lo, hlo⟩ : ∃ x, w2.heap.size = x := ⟨_, rfl⟩
      rw [hlo] at hl2 hBo
      obtain ⟨ys, hys⟩ : ∃ x, (b ++ [165]).map B = x := ⟨_, rfl⟩
      rw [hys] at ho12
      clear hys hlo
      go_loopw [8] (fun v8 wr => ∃ (q : Nat) (ys : List Value), q ≤ n ∧ v8 = .int .i64 (q : Int) ∧ wr.ownsRow w.heap.size 5 1 (.slice (some ⟨gm, 0, none⟩) (n + 1) cm) (n + 1) ys ∧ Both wr lo (fptr gf) (fptr gr) (some ps) ∧ Below w.heap.size w wr) (fun v8 _ => n - (intOf v8).toNat)
      case atStart => exact ⟨0, ys, Nat.zero_le _, rfl, ho12, hBo, hb24⟩
      case round =>
        clear ho12 hBo hb24 ys c52
        obtain ⟨q, ys, hq, rfl, ho, hBo, hB⟩ := hrel
        by_cases hqn : q < n
        · have hd : decide ((q : Int) < (n : Int)) = true := by simp; omega
          have hwq : IntKind.i64.wrap ((q : Int) + 1) = (q : Int) + 1 := IntWalk.i64_in _ (by omega)
          obtain ⟨cs, hk1, hs1, ys', hon⟩ := owns_set10 ho (by omega : q < n + 1) (.int .u8 99)
          obtain ⟨c0, hc0⟩ : ∃ u, wr.cell? ⟨gm, q, none⟩ = some u := by
            rw [hk1.cell]
            exact ⟨_, Array.getElem?_eq_getElem hs1⟩
          have f0 := hk1.frozen q
          have hBn : Below w.heap.size w (wr.setCell ⟨gm, q, none⟩ (.int .u8 99)) := hB.setCell (p := ⟨gm, q, none⟩) hge2 _
          have hBo2 := hBo.grown (grown_setCell (grown_of_below (Below.refl _ wr) (some gm)) q (.int .u8 99)) hl2
          have Ho := Lib.hid hon
          have HB := Lib.hid hBn
          have HBo := Lib.hid hBo2
          clear hon hBn hBo2
          go_wp2_with fail
          go_roundw
          case rel => exact ⟨q + 1, ys', by omega, by go_num, Ho.out, HBo.out, HB.out⟩
          case measure => simp [intOf]; omega
        · obtain rfl : q = n := by omega
          have hd : decide ((q : Int) < (q : Int)) = false := by simp
          have hHO := hBo.hasO
          have hHR := hBo.hasR
          clear ho hBo
          go_wp2_with (first
            | (go_at_call 54; refine (tells_any _ _ _ wr hHO hHR).mono ?_; rintro e w6 ⟨rfl, hb6⟩; have hB6 := hB.trans (hb6.mono hB.size))
            | (go_at_call 48; refine (bytes_o _ _ w6 (hHO.step hb6)).mono ?_; rintro e w7 ⟨v72, rfl, hF7⟩; obtain ⟨A72, c72, rfl, hs72⟩ := hF7.slE; have hB7 := hB6.trans (hF7.2.mono hB6.size); have Hs := Lib.hid (same10_any _ b _ _ _ _ q _ w7 (hs72.weak fun _ _ _ => trivial) (H.out.step hB7)); rw [show bytesO (some ps) = b from Hby.out, Hbb.out, Hlen.out] at Hs; rw [show bytesO (some ps) = b from Hby.out, Hlen.out])
            | (go_at_call 23; refine Hs.out.mono ?_; rintro e w8 ⟨rfl, hww⟩; obtain rfl := hww.symm)
            | (go_at_call 39; refine (known10_any w7).mono ?_; rintro e w9 ⟨rfl, hb9⟩))
          go_ret
          exact ⟨rfl, hB7.trans (hb9.mono hB7.size)⟩
  have hlen := Hlen.out
  rcases readF_two b with ⟨ps, hps⟩ | hps
  · obtain ⟨h1, h2⟩ := readF_some b ps (by rw [hps])
    exact key _ _ (fun _ _ => trivial) hps (.inr ⟨ps, rfl, rfl, h1, h2⟩)
  · exact key _ _ (fun _ _ => trivial) hps (.inl ⟨rfl, rfl⟩)
end Go.Proofs.Ytonidnfgneokbaa
