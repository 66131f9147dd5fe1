/- (*Front).Append, Grow. -/
import Derived.Test.YtonidnfgneokbaaQd123
namespace Go.Proofs.Ytonidnfgneokbaa
open Go Go.RowKit Go.Shelf
attribute [local go_sem] Oper.semAt_some

theorem owns_hs {w : World} {base n : Nat} {v : Value} {hs : List (List UInt8)} (h : w.ownsRow base 25 32 v n (hcells hs)) (hn : hs.length = n) (h32 : H32 hs) : ∃ A c, v = .slice A n c ∧ Hs w (fun b => base ≤ b) A n c hs := by
  obtain ⟨A, c, hv, hs'⟩ := owns_slv h
  exact ⟨A, c, hv, hs'.weak fun b _ hb => hb.1, hn, h32⟩
def longE (es : List (List UInt8)) : Bool := es.any fun x => decide (4096 < x.length)
theorem longE_snoc (es : List (List UInt8)) (k : Nat) (h : k < es.length) : longE (es.take (k + 1)) = (longE (es.take k) || decide (4096 < (es.getD k []).length)) := by
  unfold longE
  rw [take_snocF es k h, List.any_append]
  simp
theorem longE_of_take (es : List (List UInt8)) (k : Nat) (h : longE (es.take k) = true) : longE es = true := by
  unfold longE at h ⊢
  rw [List.any_eq_true] at h ⊢
  obtain ⟨x, hx, h⟩ := h
  exact ⟨x, List.mem_of_mem_take hx, h⟩
theorem map_take_snoc (es : List (List UInt8)) (k : Nat) (h : k < es.length) : (es.take (k + 1)).map hLeaf = (es.take k).map hLeaf ++ [hLeaf (es.getD k [])] := by
  rw [take_snocF es k h, List.map_append]
  rfl
theorem h32_leaves (es : List (List UInt8)) : H32 (es.map hLeaf) := fun x hx => by obtain ⟨e, _, rfl⟩ := List.mem_map.1 hx; exact length_hLeaf e

set_option maxHeartbeats 4000000 in
set_option maxRecDepth 100000 in
theorem fappend_nil (A : Option Addr) (n c : Nat) (w : World) : Calls Try.prog 42 #[.pointer none, .slice A n c] w fun e w' => e = .returned (.int .i64 1) ∧ w' = w := by
  go_enter Try.func42, Try.ntmps42
  go_wp2_with fail
  go_ret
  exact ⟨rfl, rfl⟩
set_option maxHeartbeats 4000000 in
set_option maxRecDepth 100000 in
theorem fappend_any (g : Nat) (ps : FrV) (es : List (List UInt8)) (A : Option Addr) (n c : Nat) (w : World) (h : FrO w g ps) (ho : FrOk ps) (hh : Es w (fun _ => True) A n c es) (hn : n ≤ 100000000) (hm : ∀ x ∈ es, x.length ≤ 1073741824) :
    Calls Try.prog 42 #[fptr g, .slice A n c] w fun e w' => e = .returned (.int .i64 (appendE ps es).2) ∧ FrO w' g (appendE ps es).1 ∧ w.grownBy w' (some g) := by
  have hlen := hh.len
  have hroom := hh.room
  have hmx := hh.max
  unfold maxLen at hmx
  have H := Lib.hid h
  have Ho := Lib.hid ho
  have Hh := Lib.hid hh
  have Hm := Lib.hid hm
  have Hlen := Lib.hid hlen
  have hlit : ∀ b : World, (b.alloc (.cells #[] 25)).ownsRow b.heap.size 25 32 (.slice (some ⟨b.heap.size, 0, none⟩) 0 0) 0 [] := fun b => World.ownsRow_lit (base := b.heap.size) (e := 25) (size := 32) b #[] 0 (Nat.le_refl _) (by unfold maxLen; decide) (by simp)
  have Hlit := Lib.hid hlit
  clear h ho hh hm hlen hlit
  go_enter Try.func42, Try.ntmps42
  have hb1 : Below w.heap.size w (w.alloc (.cells #[] 25)) := (Below.refl _ _).alloc (Nat.le_refl _) _
  have ho1 := Hlit.out w
  go_wp2_with ((with_reducible show wpList _ _ _ (⟨some 10, .buildSlice _ _ _, _, _, _, _⟩ :: _) _ _); refine wpList_run rfl (.slice (some ⟨w.heap.size, 0, none⟩) 0 0) (w.alloc (.cells #[] 25)) (by kernel_rfl) ?_; generalize w.alloc (.cells #[] 25) = w1 at hb1 ho1 ⊢; simp only [Act.put])
  clear Hlit
  go_loopw [5, 13] (fun v i wr => ∃ k : Nat, k ≤ n ∧ i = .int .i64 k ∧ wr.ownsRow w.heap.size 25 32 v k (hcells ((es.take k).map hLeaf)) ∧ Below w.heap.size w wr ∧ longE (es.take k) = false) (fun _ i _ => n - (intOf i).toNat)
  case atStart => exact ⟨0, Nat.zero_le _, rfl, ho1, hb1, rfl⟩
  case round =>
    clear ho1 hb1
    obtain ⟨k, hk, rfl, ho, hB, hlg⟩ := hrel
    by_cases hlt : k < n
    · have hd : decide ((k : Int) < (n : Int)) = true := by simp; omega
      have hkl : k < es.length := by rw [Hlen.out]; exact hlt
      have hwk : IntKind.i64.wrap ((k : Int) + 1) = (k : Int) + 1 := IntWalk.i64_in _ (by omega)
      obtain ⟨b, o, rfl, hbw, -, hat⟩ := Hh.out.at_ (by omega)
      obtain ⟨Ai, ci, hcell, hsl⟩ := hat k hlt
      have hce : wr.cell? ⟨b, o + k, none⟩ = some (.slice Ai (es.getD k []).length ci) := by rw [hB.cell (p := ⟨b, o + k, none⟩) hbw]; exact hcell
      have hsl' := (hsl.below hB (fun b hb _ => hb)).all
      have hxm : (es.getD k []).length ≤ 1073741824 := by
        rw [List.getD_eq_getElem?_getD, List.getElem?_eq_getElem hkl]
        exact Hm.out _ (List.getElem_mem hkl)
      have hsn := longE_snoc es k hkl
      rw [hlg, Bool.false_or] at hsn
      have hms := map_take_snoc es k hkl
      have hml : ((es.take k).map hLeaf).length = k := by rw [List.length_map, List.length_take, Hlen.out]; omega
      clear hcell hsl hat
      obtain ⟨x, hx⟩ : ∃ x, es.getD k [] = x := ⟨_, rfl⟩
      rw [hx] at hce hsl' hxm hsn hms
      have Hsl := Lib.hid hsl'
      have Hsn := Lib.hid hsn
      have Hms := Lib.hid hms
      clear hx hsl' hsn hms hlg
      obtain ⟨m, hm⟩ : ∃ m, x.length = m := ⟨_, rfl⟩
      rw [hm] at hce hxm
      have Hmm := Lib.hid hm
      clear hm
      by_cases hlong : 4096 < m
      · have hd2 : decide ((4096 : Int) < (m : Int)) = true := by simp; omega
        have hd2' : (4096 : Int) < (m : Int) := by omega
        go_wp2_with fail
        go_ret
        have hE : longE es = true := longE_of_take es (k + 1) (by rw [Hsn.out, Hmm.out]; simpa using hlong)
        have hA : appendE ps es = (ps, 3) := by unfold appendE; exact if_pos hE
        rw [hA]
        exact ⟨rfl, H.out.step hB, grown_of_below hB _⟩
      · have hd2 : decide ((4096 : Int) < (m : Int)) = false := by simp; omega
        have hd2' : ¬ (4096 : Int) < (m : Int) := by omega
        have hleaf := hleaf_any x Ai x.length ci wr Hsl.out (by rw [Hmm.out]; omega)
        rw [Hmm.out] at hleaf
        obtain ⟨y, hy⟩ : ∃ y, hLeaf x = y := ⟨_, rfl⟩
        have hyl : y.length = 32 := by rw [← hy]; exact length_hLeaf _
        rw [hy] at hleaf
        have hms := Hms.out
        rw [hy] at hms
        have Hy := Lib.hid hms
        have Hyl := Lib.hid hyl
        have Hlf := Lib.hid hleaf
        clear hy hyl hms hleaf
        obtain ⟨q, hq⟩ : ∃ q, (es.take k).map hLeaf = q := ⟨_, rfl⟩
        rw [hq] at ho hml
        have Hq := Lib.hid hq
        clear hq
        go_wp2_with fail
        refine Hlf.out.mono ?_
        rintro e w2 ⟨rfl, hb2⟩
        obtain ⟨v3, w3, hr3, ho3, hg3, -⟩ := append_hw (by rw [hml]; exact owns_step ho hb2 : w2.ownsRow w.heap.size 25 32 u5 q.length (hcells q)) y Hyl.out (by omega) (Nat.le_trans hB.size hb2.size)
        have hB3 := (hB.trans (hb2.mono hB.size)).grown hg3 (Nat.le_trans hB.size hb2.size) (fun r e => (ho.lt r e).1)
        have Hr3 := Lib.hid hr3
        rw [List.length_append, hml] at ho3
        clear hr3 hg3
        go_wp2_with (first
          | ((with_reducible show wpList _ _ _ (⟨some 23, .buildSlice _ _ _, _, _, _, _⟩ :: _) _ _); refine wpList_run rfl _ _ (run_litH1_op y Hyl.out (.tmp 22) rfl rfl _) ?_; simp only [Act.put])
          | ((with_reducible show wpList _ _ _ (⟨some 24, .call _, _, _, _, _⟩ :: _) _ _); refine wpList_run rfl v3 w3 (run_append_op (.tmp 20) (.tmp 23) 26 rfl _ _ rfl rfl Hr3.out) ?_; simp only [Act.put]))
        go_roundw
        case rel => exact ⟨k + 1, by omega, by go_num, by rw [Hy.out, Hq.out]; exact ho3, hB3, by rw [Hsn.out, Hmm.out]; simpa using hlong⟩
        case measure => simp [intOf]; omega
    · obtain rfl : k = n := by omega
      have hd : decide ((k : Int) < (k : Int)) = false := by simp
      rw [List.take_of_length_le (by rw [Hlen.out]; exact Nat.le_refl _)] at ho hlg
      have hA : appendE ps es = leafE ps (es.map hLeaf) := by unfold appendE; exact if_neg (by show ¬ longE es = true; rw [hlg]; simp)
      obtain ⟨A9, c9, rfl, hH⟩ := owns_hs ho (by rw [List.length_map, Hlen.out]) (h32_leaves es)
      have hlf := fleaf_any g ps (es.map hLeaf) A9 k c9 wr (H.out.step hB) Ho.out (hH.weak fun _ _ _ => trivial) (by omega)
      rw [← hA] at hlf
      have Hlf := Lib.hid hlf
      clear hlf hA hH ho hlg
      go_wp2_with (go_at_call 49; refine Hlf.out.mono ?_; rintro e w2 ⟨rfl, hF2, hg2⟩)
      go_ret
      exact ⟨rfl, hF2, grown_same (grown_of_below hB (some g)) hg2⟩
end Go.Proofs.Ytonidnfgneokbaa
