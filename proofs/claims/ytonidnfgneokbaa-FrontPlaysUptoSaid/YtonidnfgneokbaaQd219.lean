/- (*Front).Append, Grow. -/
import Derived.Test.YtonidnfgneokbaaQd218
import Derived.Test.YtonidnfgneokbaaQd211
import Derived.Test.YtonidnfgneokbaaQd209
namespace Go.Proofs.Ytonidnfgneokbaa
open Go Go.RowKit Go.Shelf
attribute [local go_sem] Oper.semAt_some

theorem owns_hs {w : World} {base n : Nat} {v : Value} {hs : List (List UInt8)} (h : w.ownsRow base 25 32 v n (hcells hs)) (hn : hs.length = n) (h32 : H32 hs) : ∃ A c, v = .slice A n c ∧ Hs w (fun b => base ≤ b) A n c hs := by
  obtain ⟨A, c, hv, hs'⟩ := owns_slv h
  exact ⟨A, c, hv, hs'.weak fun b _ hb => hb.1, hn, h32⟩
def longE (es : List (List UInt8)) : Bool := es.any fun x => decide (4096 < x.length)
theorem longE_snoc (es : List (List UInt8)) (k : Nat) (h : k < es.length) : longE (es.take (k + 1)) = (longE (es.take k) || decide (4096 < (es.getD k []).length)) := by
  unfold longE
  rw [take_snocF es k h, List.any_append]
  simp
theorem longE_of_take (es : List (List UInt8)) (k : Nat) (h : longE (es.take k) = true) : longE es = true := by
  unfold longE at h ⊢
  rw [List.any_eq_true] at h ⊢
  obtain ⟨x, hx, h⟩ := h
  exact ⟨x, List.mem_of_mem_take hx, h⟩
theorem map_take_snoc (es : List (List UInt8)) (k : Nat) (h : k < es.length) : (es.take (k + 1)).map hLeaf = (es.take k).map hLeaf ++ [hLeaf (es.getD k [])] := by
  rw [take_snocF es k h, List.map_append]
  rfl
theorem h32_leaves (es : List (List UInt8)) : H32 (es.map hLeaf) := fun x hx => by obtain ⟨e, _, rfl⟩ := List.mem_map.1 hx; exact length_hLeaf e

set_option maxHeartbeats 4000000 in
set_option maxRecDepth 100000 in
theorem fappend_nil (A : Option Addr) (n c : Nat) (w : World) : Calls Try.prog 42 #[.pointer none, .slice A n c] w fun e w' => e = .returned (.int .i64 1) ∧ w' = w := by
  go_enter Try.func42, Try.ntmps42
  go_wp2_with fail
  go_ret
  exact ⟨rfl, rfl⟩
set_option maxHeartbeats 4000000 in
set_option maxRecDepth 100000 in
theorem fappend_any (g : Nat) (ps : FrV) (es : List (List UInt8)) (A : Option Addr) (n c : Nat) (w : World) (h : FrO w g ps) (ho : FrOk ps) (hh : Es w (fun _ => True) A n c es) (hn : n ≤ 100000000) (hm : ∀ x ∈ es, x.length ≤ 1073741824) :
    Calls Try.prog 42 #[fptr g, .slice A n c] w fun e w' => e = .returned (.int .i64 (appendE ps es).2) ∧ FrO w' g (appendE ps es).1 ∧ w.grownBy w' (some g) := by
  have hlen := hh.len
  have hroom := hh.room
  have hmx := hh.max
  unfold maxLen at hmx
  have H := Lib.hid h
  have Ho := Lib.hid ho
  have Hh := Lib.hid hh
  have Hm := Lib.hid hm
  have Hlen := Lib.hid hlen
  have hlit : ∀ b : World, (b.alloc (.cells #[] 25)).ownsRow b.heap.size 25 32 (.slice (some ⟨b.heap.size, 0, none⟩) 0 0) 0 [] := fun b => World.ownsRow_lit (base := b.heap.size) (e := 25) (size := 32) b #[] 0 (Nat.le_refl _) (by unfold maxLen; decide) (by simp)
  have Hlit := Lib.hid hlit
  clear h ho hh hm hlen hlit
  go_enter Try.func42, Try.ntmps42
  have hb1 : Below w.heap.size w (w.alloc (.cells #[] 25)) := (Below.refl _ _).alloc (Nat.le_refl _) _
  have ho1 := Hlit.out w
  go_wp2_with ((with_reducible show wpList _ _ _ (⟨some 10, .buildSlice _ _ _, _, _, _, _⟩ :: _) _ _); refine wpList_run rfl (.slice (some ⟨w.heap.size, 0, none⟩) 0 0) (w.alloc (.cells #[] 25)) (by kernel_rfl) ?_; generalize w.alloc (.cells #[] 25) = w1 at hb1 ho1 ⊢; simp only [Act.put])
  clear Hlit
  go_loopw [5, 13] (fun v i wr => ∃ k : Nat, k ≤ n ∧ i = .int .i64 k ∧ wr.ownsRow w.heap.size 25 32 v k (hcells ((es.take k).map hLeaf)) ∧ Below w.heap.size w wr ∧ longE (es.take k) = false) (fun _ i _ => n - (intOf i).toNat)
  case atStart => exact ⟨0, Nat.zero_le _, rfl, ho1, hb1, rfl⟩
  case round =>
    clear ho1 hb1
    obtain ⟨k, hk, rfl, ho, hB, hlg⟩ := hrel
    by_cases hlt : k < n
    · have hd : decide ((k : Int) < (n : Int)) = true := by simp; omega
      have hkl : k < es.length := by rw [Hlen.out]; exact hlt
      have hwk : IntKind.i64.wrap ((k : Int) + 1) = (k : Int) + 1 := IntWalk.i64_in _ (by omega)
      obtain ⟨b, o, rfl, hbw, -, hat⟩ := Hh.out.at_ (by omega)
      obtain ⟨Ai, ci, hcell, hsl⟩ := hat k hlt
      have hce : wr.cell? ⟨b, o + k, none⟩ = some (.slice Ai (es.getD k []).length ci) := by rw [hB.cell (p := ⟨b, o + k, none⟩) hbw]; exact hcell
      have hsl' := (hsl.below hB (fun b hb _ => hb)).all
      have hxm : (es.getD k []).length ≤ 1073741824 := by
        rw [List.getD_eq_getElem?_getD, List.getElem?_eq_getElem hkl]
        exact Hm.out _ (List.getElem_mem hkl)
      have hsn := longE_snoc es k hkl
      rw [hlg, Bool.false_or] at hsn
      have hms := map_take_snoc es k hkl
      have hml : ((es.take k).map hLeaf).length = k := by rw [List.length_map, List.length_take, Hlen.out]; omega
      clear hcell hsl hat
      obtain ⟨x, hx⟩ : ∃ x, es.getD k [] = x := ⟨_, rfl⟩
      rw [hx] at hce hsl' hxm hsn hms
      have Hsl := Lib.hid hsl'
      have Hsn := Lib.hid hsn
      have Hms := Lib.hid hms
      clear hx hsl' hsn hms hlg
      obtain ⟨m, hm⟩ : ∃ m, x.length = m := ⟨_, rfl⟩
      rw [hm] at hce hxm
      have Hmm := Lib.hid hm
      clear hm
      by_cases hlong : 4096 < m
      · have hd2 : decide ((4096 : Int) < (m : Int)) = true := by simp; omega
        have hd2' : (4096 : Int) < (m : Int) := by omega
        go_wp2_with fail
        go_ret
        have hE : longE es = true := longE_of_take es (k + 1) (by rw [Hsn.out, Hmm.out]; simpa using hlong)
        have hA : appendE ps es = (ps, 3) := by unfold appendE; exact if_pos hE
        rw [hA]
        exact ⟨rfl, H.out.step hB, grown_of_below hB _⟩
      · have hd2 : decide ((4096 : Int) < (m : Int)) = false := by simp; omega
        have hd2' : ¬ (4096 : Int) < (m : Int) := by omega
        have hleaf := hleaf_any x Ai x.length ci wr Hsl.out (by rw [Hmm.out]; omega)
        rw [Hmm.out] at hleaf
        obtain ⟨y, hy⟩ : ∃ y, hLeaf x = y := ⟨_, rfl⟩
        have hyl : y.length = 32 := by rw [← hy]; exact length_hLeaf _
        rw [hy] at hleaf
        have hms := Hms.out
        rw [hy] at hms
        have Hy := Lib.hid hms
        have Hyl := Lib.hid hyl
        have Hlf := Lib.hid hleaf
        clear hy hyl hms hleaf
        obtain ⟨q, hq⟩ : ∃ q, (es.take k).map hLeaf = q := ⟨_, rfl⟩
        rw [hq] at ho hml
        have Hq := Lib.hid hq
        clear hq
        go_wp2_with fail
        refine Hlf.out.mono ?_
        rintro e w2 ⟨rfl, hb2⟩
        obtain ⟨v3, w3, hr3, ho3, hg3, -⟩ := append_hw (by rw [hml]; exact owns_step ho hb2 : w2.ownsRow w.heap.size 25 32 u5 q.length (hcells q)) y Hyl.out (by omega) (Nat.le_trans hB.size hb2.size)
        have hB3 := (hB.trans (hb2.mono hB.size)).grown hg3 (Nat.le_trans hB.size hb2.size) (fun r e => (ho.lt r e).1)
        have Hr3 := Lib.hid hr3
        rw [List.length_append, hml] at ho3
        clear hr3 hg3
        go_wp2_with (first
          | ((with_reducible show wpList _ _ _ (⟨some 23, .buildSlice _ _ _, _, _, _, _⟩ :: _) _ _); refine wpList_run rfl _ _ (run_litH1_op y Hyl.out (.tmp 22) rfl rfl _) ?_; simp only [Act.put])
          | ((with_reducible show wpList _ _ _ (⟨some 24, .call _, _, _, _, _⟩ :: _) _ _); refine wpList_run rfl v3 w3 (run_append_op (.tmp 20) (.tmp 23) 26 rfl _ _ rfl rfl Hr3.out) ?_; simp only [Act.put]))
        go_roundw
        case rel => exact ⟨k + 1, by omega, by go_num, by rw [Hy.out, Hq.out]; exact ho3, hB3, by rw [Hsn.out, Hmm.out]; simpa using hlong⟩
        case measure => simp [intOf]; omega
    · obtain rfl : k = n := by omega
      have hd : decide ((k : Int) < (k : Int)) = false := by simp
      rw [List.take_of_length_le (by rw [Hlen.out]; exact Nat.le_refl _)] at ho hlg
      have hA : appendE ps es = leafE ps (es.map hLeaf) := by unfold appendE; exact if_neg (by show ¬ longE es = true; rw [hlg]; simp)
      obtain ⟨A9, c9, rfl, hH⟩ := owns_hs ho (by rw [List.length_map, Hlen.out]) (h32_leaves es)
      have hlf := fleaf_any g ps (es.map hLeaf) A9 k c9 wr (H.out.step hB) Ho.out (hH.weak fun _ _ _ => trivial) (by omega)
      rw [← hA] at hlf
      have Hlf := Lib.hid hlf
      clear hlf hA hH ho hlg
      go_wp2_with (go_at_call 49; refine Hlf.out.mono ?_; rintro e w2 ⟨rfl, hF2, hg2⟩)
      go_ret
      exact ⟨rfl, hF2, grown_same (grown_of_below hB (some g)) hg2⟩
end Go.Proofs.Ytonidnfgneokbaa
/- (*Front).Grow. -/
namespace Go.Proofs.Ytonidnfgneokbaa
open Go Go.RowKit Go.Shelf
attribute [local go_sem] Oper.semAt_some

theorem i64_and_natF (a b : Nat) (ha : a < 9223372036854775808) (hb : b < 9223372036854775808) : bits .and .i64 (a : Int) (b : Int) = ((a &&& b : Nat) : Int) := by
  have h1 : a &&& b < 2 ^ 63 := Nat.lt_of_le_of_lt Nat.and_le_left (by omega)
  show IntKind.i64.wrap ((BitVec.ofInt 64 (a : Int) &&& BitVec.ofInt 64 (b : Int)).toNat : Int) = _
  have e1 : (BitVec.ofInt 64 (a : Int)).toNat = a := by rw [BitVec.toNat_ofInt]; omega
  have e2 : (BitVec.ofInt 64 (b : Int)).toNat = b := by rw [BitVec.toNat_ofInt]; omega
  rw [BitVec.toNat_and, e1, e2, IntKind.wrap_i64]
  omega
set_option maxHeartbeats 4000000 in
set_option maxRecDepth 100000 in
theorem fgrow_nil (lv : Int) (x : List UInt8) (w : World) : Calls Try.prog 51 #[.pointer none, .int .i64 lv, .agg (x.map B).toArray] w fun e w' => e = .returned (.int .i64 1) ∧ Below w.heap.size w w' := by
  obtain ⟨w0, hw0⟩ : ∃ w0, w.alloc (.cells (x.map B).toArray 25) = w0 := ⟨_, rfl⟩
  have hb0 : Below w.heap.size w w0 := by rw [← hw0]; exact (Below.refl _ _).alloc (Nat.le_refl _) _
  have Hw0 := Lib.hid hw0
  clear hw0
  go_enter Try.func51, Try.ntmps51
  go_wp2_with (rw [Hw0.out])
  go_ret
  exact ⟨rfl, hb0⟩
set_option maxHeartbeats 4000000 in
set_option maxRecDepth 100000 in
theorem fgrow_any (g : Nat) (ps : FrV) (lv : Int) (x : List UInt8) (w : World) (h : FrO w g ps) (ho : FrOk ps) (hx : x.length = 32) :
    Calls Try.prog 51 #[fptr g, .int .i64 lv, .agg (x.map B).toArray] w fun e w' => e = .returned (.int .i64 (growE ps lv x).2) ∧ FrO w' g (growE ps lv x).1 ∧ w.grownBy w' (some g) := by
  obtain ⟨w0, hw0⟩ : ∃ w0, w.alloc (.cells (x.map B).toArray 25) = w0 := ⟨_, rfl⟩
  have hb0 : Below w.heap.size w w0 := by rw [← hw0]; exact (Below.refl _ _).alloc (Nat.le_refl _) _
  have k5 : HV w0 w.heap.size x := ⟨by rw [← hw0]; exact Blk.new _ _ _, hx⟩
  have h0 := h.step hb0
  have Hw0 := Lib.hid hw0
  have Ho := Lib.hid ho
  clear hw0 h ho
  obtain ⟨res, hres⟩ : ∃ r, growE ps lv x = r := ⟨_, rfl⟩
  rw [hres]
  unfold growE at hres
  rcases Int.lt_or_le lv 0 with hneg | hpos
  · rw [if_pos (.inl hneg)] at hres
    subst hres
    have hd : decide (lv < 0) = true := by simp; omega
    go_enter Try.func51, Try.ntmps51
    go_wp2_with (rw [Hw0.out])
    go_ret
    exact ⟨rfl, h0, grown_of_below hb0 _⟩
  have hd0 : decide (lv < 0) = false := by simp; omega
  have hd0' : ¬ lv < 0 := by omega
  rcases Int.lt_or_le 62 lv with hbig | hsm
  · rw [if_pos (.inr hbig)] at hres
    subst hres
    have hd : decide (62 < lv) = true := by simp; omega
    go_enter Try.func51, Try.ntmps51
    go_wp2_with (rw [Hw0.out])
    go_ret
    exact ⟨rfl, h0, grown_of_below hb0 _⟩
  have hd1 : decide (62 < lv) = false := by simp; omega
  have hd1' : ¬ 62 < lv := by omega
  obtain ⟨l, rfl⟩ : ∃ l : Nat, lv = l := ⟨lv.toNat, by omega⟩
  rw [if_neg (by omega), Int.toNat_natCast] at hres
  have hl : l ≤ 62 := by omega
  have hsz := fun W (hb : Below w0.heap.size w0 W) => fsize_some (h0.step hb) Ho.out
  have htop := Ho.out.top
  have hcm := fun W (hF : FrO W g ps) => fcome_any g ps (l, x) W hF hx hl (by have := Ho.out.len; omega)
  obtain ⟨sz, hsze⟩ : ∃ s, szF ps = s := ⟨_, rfl⟩
  rw [hsze] at hsz htop hres
  have hp62 : 2 ^ l ≤ 2 ^ 62 := Nat.pow_le_pow_right (by decide) hl
  have hp0 := Nat.two_pow_pos l
  have hmod : sz &&& (2 ^ l - 1) = sz % 2 ^ l := Nat.and_two_pow_sub_one_eq_mod sz l
  have hsh : ∀ (ρ : Operand → Value) (o : Oper) (y : Operand) (ty : TypeId) (_ : o.op = .binOp .shl 2 (.const (.int .i64 1)) y ty) (_ : ρ (.const (.int .i64 1)) = .int .i64 1) (_ : ρ y = .int .i64 (l : Int)) (W : World), (execOp ρ o).run Try.prog W = .ok (.value (.int .i64 ((2 ^ l : Nat) : Int))) W := fun ρ o y ty h1 h2 h3 W => by
    have := run_shl1_op y ty l hl h1 h2 h3 W
    rw [show ((2 : Int) ^ l) = ((2 ^ l : Nat) : Int) by simp] at this
    exact this
  obtain ⟨pw, hpw⟩ : ∃ p, 2 ^ l = p := ⟨_, rfl⟩
  rw [hpw] at hp62 hp0 hmod hsh hres
  obtain ⟨md, hmd⟩ : ∃ m, sz % pw = m := ⟨_, rfl⟩
  rw [hmd] at hmod hres
  have hand : bits .and .i64 (sz : Int) ((pw : Int) - 1) = (md : Int) := by
    rw [show (pw : Int) - 1 = ((pw - 1 : Nat) : Int) by omega, i64_and_natF sz (pw - 1) (by omega) (by omega), hmod]
  have hw1 : IntKind.i64.wrap ((pw : Int) - 1) = (pw : Int) - 1 := IntWalk.i64_in _ (by omega)
  have hw2 : IntKind.i64.wrap (9223372036854775807 - (sz : Int)) = 9223372036854775807 - (sz : Int) := IntWalk.i64_in _ (by omega)
  have Hsz := Lib.hid hsz
  have Hsh := Lib.hid hsh
  have Hcm := Lib.hid hcm
  clear hsz hsze hpw hmd hmod hsh hcm Ho
  by_cases hmd0 : md = 0
  · rw [if_neg (by simp [hmd0])] at hres
    subst hmd0
    have hne : (!(((0 : Nat) : Int) == 0)) = false := by simp
    by_cases hb : 9223372036854775807 < sz + pw
    · rw [if_pos hb] at hres
      subst hres
      have hd : decide (9223372036854775807 - (sz : Int) < (pw : Int)) = true := by simp; omega
      have hd' : 9223372036854775807 - (sz : Int) < (pw : Int) := by omega
      go_enter Try.func51, Try.ntmps51
      go_wp2_with (rw [Hw0.out])
      have hS : Below w0.heap.size w0 w0.drew := (Below.refl _ _).drew
      refine wp_region_mix (fun W => Below w0.heap.size w0 W) [(0, true), (2, true), (3, true), (4, true), (1, false), (5, true), (6, true), (7, true)] (by kernel_rfl) (by kernel_rfl) hS fun _ => ?_
      simp only [List.map_cons, List.map_nil, Array.getD_eq_getD_getElem?, List.getElem?_toArray, List.getElem?_cons_succ, List.getElem?_cons_zero, Option.getD_some]
      generalize w0.drew = u2 at hS ⊢
      refine wpMix_s (fun K hK => ?_)
      go_simp
      refine hK _ ?_
      clear hK K
      refine wpMix_s (fun K hK => ?_)
      go_simp
      refine hK _ ?_
      clear hK K
      refine wpMix_v (by kernel_rfl) (.int .i64 (pw : Int)) (fun s => Hsh.out _ _ (.tmp 20) _ rfl rfl rfl s.W) ?_
      simp only [Act.put]
      refine wpMix_s (fun K hK => ?_)
      go_simp
      refine hK _ ?_
      clear hK K
      refine wpMix_c (fun K hK => ?_) hS
      go_simp
      refine (Hsz.out u2 hS).mono ?_
      rintro e u2_1 ⟨rfl, hb'⟩
      refine hK _ _ ?_
      clear hK K
      replace hS := hS.trans (hb'.mono hS.size)
      refine ⟨hS, ?_⟩
      clear hb'
      refine wpMix_s (fun K hK => ?_)
      go_simp
      refine hK _ ?_
      clear hK K
      refine wpMix_s (fun K hK => ?_)
      go_simp
      refine hK _ ?_
      clear hK K
      refine wpMix_s (fun K hK => ?_)
      go_simp
      refine hK _ ?_
      clear hK K
      refine wpMix_nil ?_
      intro _
      go_wp2_with fail
      have hS7 : Below u2_1.heap.size u2_1 u2_1.drew := (Below.refl _ _).drew
      refine wp_region_mix (fun W => Below u2_1.heap.size u2_1 W) [(0, true), (1, true), (2, true), (3, false), (4, true), (5, true), (6, true)] (by kernel_rfl) (by kernel_rfl) hS7 fun _ => ?_
      simp only [List.map_cons, List.map_nil, Array.getD_eq_getD_getElem?, List.getElem?_toArray, List.getElem?_cons_succ, List.getElem?_cons_zero, Option.getD_some]
      generalize u2_1.drew = u3 at hS7 ⊢
      refine wpMix_s (fun K hK => ?_)
      go_simp
      refine hK _ ?_
      clear hK K
      refine wpMix_v (by kernel_rfl) (.int .i64 (pw : Int)) (fun s => Hsh.out _ _ (.tmp 26) _ rfl rfl rfl s.W) ?_
      simp only [Act.put]
      refine wpMix_s (fun K hK => ?_)
      go_simp
      refine hK _ ?_
      clear hK K
      refine wpMix_c (fun K hK => ?_) hS7
      go_simp
      refine (Hsz.out u3 (hS.trans (hS7.mono hS.size))).mono ?_
      rintro e u3_1 ⟨rfl, hb'⟩
      refine hK _ _ ?_
      clear hK K
      replace hS7 := hS7.trans (hb'.mono hS7.size)
      refine ⟨hS7, ?_⟩
      clear hb'
      refine wpMix_s (fun K hK => ?_)
      go_simp
      refine hK _ ?_
      clear hK K
      refine wpMix_s (fun K hK => ?_)
      go_simp
      refine hK _ ?_
      clear hK K
      refine wpMix_s (fun K hK => ?_)
      go_simp
      refine hK _ ?_
      clear hK K
      refine wpMix_nil ?_
      intro _
      go_wp2_with fail
      go_ret
      exact ⟨rfl, (h0.step hS).step hS7, grown_of_below ((hb0.trans (hS.mono hb0.size)).trans (hS7.mono (Nat.le_trans hb0.size hS.size))) _⟩
    · rw [if_neg hb] at hres
      have hd : decide (9223372036854775807 - (sz : Int) < (pw : Int)) = false := by simp; omega
      have hd' : ¬ 9223372036854775807 - (sz : Int) < (pw : Int) := by omega
      go_enter Try.func51, Try.ntmps51
      go_wp2_with (rw [Hw0.out])
      have hS : Below w0.heap.size w0 w0.drew := (Below.refl _ _).drew
      refine wp_region_mix (fun W => Below w0.heap.size w0 W) [(0, true), (2, true), (3, true), (4, true), (1, false), (5, true), (6, true), (7, true)] (by kernel_rfl) (by kernel_rfl) hS fun _ => ?_
      simp only [List.map_cons, List.map_nil, Array.getD_eq_getD_getElem?, List.getElem?_toArray, List.getElem?_cons_succ, List.getElem?_cons_zero, Option.getD_some]
      generalize w0.drew = u2 at hS ⊢
      refine wpMix_s (fun K hK => ?_)
      go_simp
      refine hK _ ?_
      clear hK K
      refine wpMix_s (fun K hK => ?_)
      go_simp
      refine hK _ ?_
      clear hK K
      refine wpMix_v (by kernel_rfl) (.int .i64 (pw : Int)) (fun s => Hsh.out _ _ (.tmp 20) _ rfl rfl rfl s.W) ?_
      simp only [Act.put]
      refine wpMix_s (fun K hK => ?_)
      go_simp
      refine hK _ ?_
      clear hK K
      refine wpMix_c (fun K hK => ?_) hS
      go_simp
      refine (Hsz.out u2 hS).mono ?_
      rintro e u2_1 ⟨rfl, hb'⟩
      refine hK _ _ ?_
      clear hK K
      replace hS := hS.trans (hb'.mono hS.size)
      refine ⟨hS, ?_⟩
      clear hb'
      refine wpMix_s (fun K hK => ?_)
      go_simp
      refine hK _ ?_
      clear hK K
      refine wpMix_s (fun K hK => ?_)
      go_simp
      refine hK _ ?_
      clear hK K
      refine wpMix_s (fun K hK => ?_)
      go_simp
      refine hK _ ?_
      clear hK K
      refine wpMix_nil ?_
      intro _
      go_wp2_with fail
      have hS7 : Below u2_1.heap.size u2_1 u2_1.drew := (Below.refl _ _).drew
      refine wp_region_mix (fun W => Below u2_1.heap.size u2_1 W) [(0, true), (1, true), (2, true), (3, false), (4, true), (5, true), (6, true)] (by kernel_rfl) (by kernel_rfl) hS7 fun _ => ?_
      simp only [List.map_cons, List.map_nil, Array.getD_eq_getD_getElem?, List.getElem?_toArray, List.getElem?_cons_succ, List.getElem?_cons_zero, Option.getD_some]
      generalize u2_1.drew = u3 at hS7 ⊢
      refine wpMix_s (fun K hK => ?_)
      go_simp
      refine hK _ ?_
      clear hK K
      refine wpMix_v (by kernel_rfl) (.int .i64 (pw : Int)) (fun s => Hsh.out _ _ (.tmp 26) _ rfl rfl rfl s.W) ?_
      simp only [Act.put]
      refine wpMix_s (fun K hK => ?_)
      go_simp
      refine hK _ ?_
      clear hK K
      refine wpMix_c (fun K hK => ?_) hS7
      go_simp
      refine (Hsz.out u3 (hS.trans (hS7.mono hS.size))).mono ?_
      rintro e u3_1 ⟨rfl, hb'⟩
      refine hK _ _ ?_
      clear hK K
      replace hS7 := hS7.trans (hb'.mono hS7.size)
      refine ⟨hS7, ?_⟩
      clear hb'
      refine wpMix_s (fun K hK => ?_)
      go_simp
      refine hK _ ?_
      clear hK K
      refine wpMix_s (fun K hK => ?_)
      go_simp
      refine hK _ ?_
      clear hK K
      refine wpMix_s (fun K hK => ?_)
      go_simp
      refine hK _ ?_
      clear hK K
      refine wpMix_nil ?_
      intro _
      have k57 := (k5.step hS).step hS7
      have h07 := (h0.step hS).step hS7
      have hg7 := grown_of_below ((hb0.trans (hS.mono hb0.size)).trans (hS7.mono (Nat.le_trans hb0.size hS.size))) (some g)
      go_wp2_with (first
        | ((with_reducible show wpList _ _ _ (⟨some 34, .load _ _, _, _, _, _⟩ :: _) _ _); refine wpList_hload (.tmp 5) (by kernel_rfl) rfl k57 rfl ?_; simp only [Act.put])
        | ((with_reducible show wpList _ _ _ (⟨some 35, .build _ _, _, _, _, _⟩ :: _) _ _); refine wpList_run0 rfl (.agg (Value.int .i64 (l : Int) :: x.map B).toArray) (run_build_fp_op (l : Int) x hx (.tmp 33) (.tmp 34) rfl rfl rfl _) ?_; simp only [Act.put])
        | (go_at_call 117; refine (Hcm.out _ h07).mono ?_; rintro e w9 ⟨rfl, hF9, hg9⟩))
      go_ret
      rw [← hres]
      exact ⟨rfl, hF9, grown_same hg7 hg9⟩
  · rw [if_pos hmd0] at hres
    subst hres
    have hne : (!((md : Int) == 0)) = true := by simp; omega
    have hne' : ((md : Int) == 0) = false := by simp; omega
    have hne2 : ¬ (md : Int) = 0 := by omega
    go_enter Try.func51, Try.ntmps51
    go_wp2_with (rw [Hw0.out])
    have hS : Below w0.heap.size w0 w0.drew := (Below.refl _ _).drew
    refine wp_region_mix (fun W => Below w0.heap.size w0 W) [(0, true), (2, true), (3, true), (4, true), (1, false), (5, true), (6, true), (7, true)] (by kernel_rfl) (by kernel_rfl) hS fun _ => ?_
    simp only [List.map_cons, List.map_nil, Array.getD_eq_getD_getElem?, List.getElem?_toArray, List.getElem?_cons_succ, List.getElem?_cons_zero, Option.getD_some]
    generalize w0.drew = u2 at hS ⊢
    refine wpMix_s (fun K hK => ?_)
    go_simp
    refine hK _ ?_
    clear hK K
    refine wpMix_s (fun K hK => ?_)
    go_simp
    refine hK _ ?_
    clear hK K
    refine wpMix_v (by kernel_rfl) (.int .i64 (pw : Int)) (fun s => Hsh.out _ _ (.tmp 20) _ rfl rfl rfl s.W) ?_
    simp only [Act.put]
    refine wpMix_s (fun K hK => ?_)
    go_simp
    refine hK _ ?_
    clear hK K
    refine wpMix_c (fun K hK => ?_) hS
    go_simp
    refine (Hsz.out u2 hS).mono ?_
    rintro e u2_1 ⟨rfl, hb'⟩
    refine hK _ _ ?_
    clear hK K
    replace hS := hS.trans (hb'.mono hS.size)
    refine ⟨hS, ?_⟩
    clear hb'
    refine wpMix_s (fun K hK => ?_)
    go_simp
    refine hK _ ?_
    clear hK K
    refine wpMix_s (fun K hK => ?_)
    go_simp
    refine hK _ ?_
    clear hK K
    refine wpMix_s (fun K hK => ?_)
    go_simp
    refine hK _ ?_
    clear hK K
    refine wpMix_nil ?_
    intro _
    go_wp2_with fail
    go_ret
    exact ⟨rfl, h0.step hS, grown_of_below (hb0.trans (hS.mono hb0.size)) _⟩
end Go.Proofs.Ytonidnfgneokbaa
/- slices.Reverse of hashes. -/
namespace Go.Proofs.Ytonidnfgneokbaa
open Go Go.RowKit

/-- k at either end have changed places -/
def revH (os : List (List UInt8)) (k : Nat) : List (List UInt8) := (List.range os.length).map fun p => os.getD (if p < k ∨ os.length ≤ p + k then os.length - 1 - p else p) []
theorem length_revH (os : List (List UInt8)) (k : Nat) : (revH os k).length = os.length := by simp [revH]
theorem revH_zero (os : List (List UInt8)) : revH os 0 = os := by
  apply List.ext_getElem
  · simp [revH]
  · intro i h1 h2
    simp only [revH, List.getElem_map, List.getElem_range]
    rw [if_neg (by omega), List.getD_eq_getElem?_getD, List.getElem?_eq_getElem h2]; rfl
theorem revH_getD (os : List (List UInt8)) (k p : Nat) (h : p < os.length) : (revH os k).getD p [] = os.getD (if p < k ∨ os.length ≤ p + k then os.length - 1 - p else p) [] := by
  rw [List.getD_eq_getElem?_getD, List.getElem?_eq_getElem (by rw [length_revH]; exact h)]
  simp [revH]
theorem revH_step (os : List (List UInt8)) (k j : Nat) (h : k < j) (hj : j + k + 1 = os.length) :
    ((revH os k).set k ((revH os k).getD j [])).set j ((revH os k).getD k []) = revH os (k + 1) := by
  rw [revH_getD os k j (by omega), revH_getD os k k (by omega), if_neg (by omega), if_neg (by omega)]
  apply List.ext_getElem
  · simp [revH]
  · intro i h1 h2
    have hi : i < os.length := by rw [length_revH] at h2; exact h2
    rw [List.getElem_set, List.getElem_set]
    simp only [revH, List.getElem_map, List.getElem_range]
    by_cases e1 : j = i
    · rw [if_pos e1, if_pos (by omega)]; congr 1; omega
    · rw [if_neg e1]
      by_cases e2 : k = i
      · rw [if_pos e2, if_pos (by omega)]; congr 1; omega
      · rw [if_neg e2]
        by_cases e3 : i < k ∨ os.length ≤ i + k
        · rw [if_pos e3, if_pos (by omega)]
        · rw [if_neg e3, if_neg (by omega)]
theorem revH_end (os : List (List UInt8)) (k : Nat) (h : os.length ≤ 2 * k + 1) : revH os k = os.reverse := by
  apply List.ext_getElem
  · simp [revH]
  · intro i h1 h2
    have hi : i < os.length := by rw [length_revH] at h1; exact h1
    simp only [revH, List.getElem_map, List.getElem_range, List.getElem_reverse]
    by_cases e : i < k ∨ os.length ≤ i + k
    · rw [if_pos e, List.getD_eq_getElem?_getD, List.getElem?_eq_getElem (by omega)]; rfl
    · rw [if_neg e, List.getD_eq_getElem?_getD, List.getElem?_eq_getElem (by omega)]
      have : os.length - 1 - i = i := by omega
      simp [this]

theorem revH_32 (os : List (List UInt8)) (k : Nat) (h : H32 os) : H32 (revH os k) := fun x hx => by
  unfold revH at hx
  obtain ⟨p, hp, rfl⟩ := List.mem_map.1 hx
  have hp := List.mem_range.1 hp
  exact h.getD _ (by split <;> omega)
structure RvH (base g n c : Nat) (l : List (List UInt8)) (w W : World) : Prop where
  own : W.ownsRow base 25 32 (.slice (some ⟨g, 0, none⟩) n c) n (hcells l)
  grow : w.grownBy W (some g)

set_option maxHeartbeats 1000000 in
set_option maxRecDepth 100000 in
theorem revh_any (os : List (List UInt8)) (v : Value) (n base : Nat) (w : World) (h : w.ownsRow base 25 32 v n (hcells os)) (hl : os.length = n) (h32 : H32 os) (hn : n ≤ 1000000000) :
    Calls Try.prog 106 #[v] w fun e w' => (∃ r, e = .returned r) ∧ w'.ownsRow base 25 32 v n (hcells os.reverse) ∧ w.grownBy w' v.ownBlock := by
  by_cases h0 : n = 0
  · subst h0
    have hnil : os = [] := List.eq_nil_of_length_eq_zero hl
    subst hnil
    obtain ⟨A, c, rfl, hs⟩ := owns_slv h
    go_enter Try.func106, Try.ntmps106
    go_wp2_with fail
    go_loopw [2, 3] (fun i j wr => i = .int .i64 0 ∧ j = .int .i64 (-1) ∧ w = wr) (fun _ _ _ => 0)
    case atStart => exact ⟨rfl, rfl, rfl⟩
    case round =>
      obtain ⟨rfl, rfl, rfl⟩ := hrel
      go_wp2_with fail
      go_end0
      exact ⟨⟨_, rfl⟩, h, ⟨rfl, rfl, rfl, Nat.le_refl _, fun _ _ _ => rfl⟩⟩
  · obtain ⟨g, c, rfl⟩ : ∃ g c, v = .slice (some ⟨g, 0, none⟩) n c := by
      rcases h.2 with ⟨_, h1⟩ | ⟨g, c, cur, hv, _⟩
      · omega
      · exact ⟨g, c, hv⟩
    have hC0 : RvH base g n c (revH os 0) w w := ⟨by rw [revH_zero]; exact h, ⟨rfl, rfl, rfl, Nat.le_refl _, fun _ _ _ => rfl⟩⟩
    have Hl := Lib.hid hl
    have H32o := Lib.hid h32
    clear h hl h32
    go_enter Try.func106, Try.ntmps106
    go_wp2_with fail
    go_loopw [2, 3] (fun i j wr => ∃ (k : Nat) (ji : Int), ji = (n : Int) - 1 - k ∧ 2 * k ≤ n ∧ i = .int .i64 k ∧ j = .int .i64 ji ∧ RvH base g n c (revH os k) w wr) (fun i _ _ => n - (intOf i).toNat)
    case atStart => exact ⟨0, (n : Int) - 1, by simp, by omega, rfl, rfl, hC0⟩
    case round =>
      clear hC0
      obtain ⟨k, ji, hji, hk, rfl, rfl, hC⟩ := hrel
      by_cases hlt : (k : Int) < ji
      · obtain ⟨j, rfl⟩ : ∃ j : Nat, ji = (j : Int) := ⟨ji.toNat, by omega⟩
        have hjn : j < n := by omega
        have hkn : k < n := by omega
        have hkj : k < j := by omega
        have hsum : j + k + 1 = n := by omega
        obtain ⟨l, hll⟩ : ∃ l, revH os k = l := ⟨_, rfl⟩
        have hlen : l.length = n := by rw [← hll, length_revH, Hl.out]
        have hl32 : H32 l := by rw [← hll]; exact revH_32 os k H32o.out
        have hst := revH_step os k j hkj (by rw [Hl.out]; exact hsum)
        rw [hll] at hC hst
        obtain ⟨x, hx⟩ : ∃ x, l.getD k [] = x := ⟨_, rfl⟩
        obtain ⟨y, hy⟩ : ∃ y, l.getD j [] = y := ⟨_, rfl⟩
        have hx32 := hl32.getD k (by rw [hlen]; exact hkn)
        have hy32 := hl32.getD j (by rw [hlen]; exact hjn)
        rw [hx] at hx32
        rw [hy] at hy32
        rw [hx, hy] at hst
        have Hx32 := Lib.hid hx32
        have Hy32 := Lib.hid hy32
        have Hl32 := Lib.hid hl32
        have hld : ∀ s : InC (RvH base g n c l w), (Instr.loadAt 25 (.pointer (some ⟨g, j * 32, none⟩))).run Try.prog s.W = .ok (.agg (y.map B).toArray) s.W ∧ (Instr.loadAt 25 (.pointer (some ⟨g, k * 32, none⟩))).run Try.prog s.W = .ok (.agg (x.map B).toArray) s.W := fun s => by
          obtain ⟨A', c', hv, hs0⟩ := owns_slv s.ok.own
          have hs : Hs s.W (fun _ => True) A' n c' l := ⟨hs0.weak fun _ _ _ => trivial, hlen, hl32⟩
          cases hv
          have h1 := hs.get rfl j hjn
          have h2 := hs.get rfl k hkn
          rw [Nat.zero_add] at h1 h2
          rw [hy] at h1
          rw [hx] at h2
          exact ⟨h1, h2⟩
        have Hld := Lib.hid hld
        have Hst := Lib.hid hst
        have Hlen := Lib.hid hlen
        have Hsum := Lib.hid hsum
        have hw1 : (0 : Int) ≤ (j : Int) := by omega
        have hC0 : RvH base g n c l w wr.drew := ⟨owns_step hC.own (Below.refl _ _).drew, grown_drew hC.grow⟩
        clear hll hx hy hld hst hlen hji hsum hC hx32 hy32 hl32
        go_wp2_with fail
        refine wp_region_begin (fun _ => True) (by kernel_rfl) trivial fun _ => ?_
        generalize wr.drew = W0 at hC0 ⊢
        refine wpAnyH_pre (f := 6) (by kernel_rfl) #[true, true, true, true, true, true, true, false, true, true, true, false, false, false, false, false] [(0, true), (1, true), (2, true), (3, true), (4, true), (5, true), (6, true), (8, true), (9, true), (10, true)] _ _ _ (by kernel_rfl) trivial ?_
        simp only [List.map_cons, List.map_nil, Array.getD_eq_getD_getElem?, List.getElem?_toArray, List.getElem?_cons_succ, List.getElem?_cons_zero, Option.getD_some]
        refine wpMix_s (fun K hK => ?_)
        go_simp
        refine hK _ ?_
        clear hK K
        refine wpMix_s (fun K hK => ?_)
        go_simp
        refine hK _ ?_
        clear hK K
        refine wpMix_s (fun K hK => ?_)
        go_simp
        refine hK _ ?_
        clear hK K
        refine wpMix_s (fun K hK => ?_)
        go_simp
        refine hK _ ?_
        clear hK K
        refine wpMix_s (fun K hK => ?_)
        go_simp
        refine hK _ ?_
        clear hK K
        refine wpMix_s (fun K hK => ?_)
        go_simp
        refine hK _ ?_
        clear hK K
        refine wpMix_s (fun K hK => ?_)
        go_simp
        refine hK _ ?_
        clear hK K
        refine wpMix_s (fun K hK => ?_)
        go_simp
        refine hK _ ?_
        clear hK K
        refine wpMix_s (fun K hK => ?_)
        go_simp
        refine hK _ ?_
        clear hK K
        refine wpMix_s (fun K hK => ?_)
        go_simp
        refine hK _ ?_
        clear hK K
        refine wpMix_nil ?_
        intro _
        refine wpAnyH_shared (T := Unit) 4 #[true, true, true, true, true, true, true, true, true, true, true, true, false, false, false, false] (fun _ => [(21, .agg (y.map B).toArray), (25, .agg (x.map B).toArray)]) (fun _ W => RvH base g n c l w W) ?tail ?head
        case head =>
          intro key
          simp only [List.foldl_cons, List.foldl_nil, Act.put, List.setIfInBounds_toArray, List.set_cons_succ, List.set_cons_zero] at key
          refine wpAnyH_fork (f := 5) (i := 7) (j := 11) (by kernel_rfl) trivial ?_ ?_
          · simp only [Array.getD_eq_getD_getElem?, List.getElem?_toArray, List.getElem?_cons_succ, List.getElem?_cons_zero, Option.getD_some]
            refine wpMix_run (by kernel_rfl) (.agg (y.map B).toArray) W0 (run_load_op 25 (.tmp 20) rfl g (j * 32) rfl _ (Hld.out ⟨W0, hC0⟩).1) trivial ?_
            simp only [Act.put]
            refine wpMix_nil ?_
            intro _
            show wpAnyH _ _ _ _ _ _ #[true, true, true, true, true, true, true, true, true, true, true, false, false, false, false, false] _ _
            refine wpAnyH_pre (f := 4) (by kernel_rfl) #[true, true, true, true, true, true, true, true, true, true, true, true, false, false, false, false] [(11, false)] _ _ _ (by kernel_rfl) trivial ?_
            simp only [List.map_cons, List.map_nil, Array.getD_eq_getD_getElem?, List.getElem?_toArray, List.getElem?_cons_succ, List.getElem?_cons_zero, Option.getD_some]
            refine wpMix_run (by kernel_rfl) (.agg (x.map B).toArray) W0 (run_load_op 25 (.tmp 24) rfl g (k * 32) rfl _ (Hld.out ⟨W0, hC0⟩).2) trivial ?_
            simp only [Act.put]
            refine wpMix_nil ?_
            intro _
            exact key () _ hC0
          · simp only [Array.getD_eq_getD_getElem?, List.getElem?_toArray, List.getElem?_cons_succ, List.getElem?_cons_zero, Option.getD_some]
            refine wpMix_run (by kernel_rfl) (.agg (x.map B).toArray) W0 (run_load_op 25 (.tmp 24) rfl g (k * 32) rfl _ (Hld.out ⟨W0, hC0⟩).2) trivial ?_
            simp only [Act.put]
            refine wpMix_nil ?_
            intro _
            show wpAnyH _ _ _ _ _ _ #[true, true, true, true, true, true, true, false, true, true, true, true, false, false, false, false] _ _
            refine wpAnyH_pre (f := 4) (by kernel_rfl) #[true, true, true, true, true, true, true, true, true, true, true, true, false, false, false, false] [(7, false)] _ _ _ (by kernel_rfl) trivial ?_
            simp only [List.map_cons, List.map_nil, Array.getD_eq_getD_getElem?, List.getElem?_toArray, List.getElem?_cons_succ, List.getElem?_cons_zero, Option.getD_some]
            refine wpMix_run (by kernel_rfl) (.agg (y.map B).toArray) W0 (run_load_op 25 (.tmp 20) rfl g (j * 32) rfl _ (Hld.out ⟨W0, hC0⟩).1) trivial ?_
            simp only [Act.put]
            refine wpMix_nil ?_
            intro _
            exact key () _ hC0
        case tail =>
          clear hC0
          rintro ⟨⟩ W3 hC3
          simp only [List.foldl_cons, List.foldl_nil, Act.put, List.setIfInBounds_toArray, List.set_cons_succ, List.set_cons_zero]
          refine wpAnyH_pre (f := 0) (by kernel_rfl) #[true, true, true, true, true, true, true, true, true, true, true, true, true, true, true, true] [(12, true), (13, false), (14, true), (15, false)] _ _ _ (by kernel_rfl) trivial ?_
          simp only [List.map_cons, List.map_nil, Array.getD_eq_getD_getElem?, List.getElem?_toArray, List.getElem?_cons_succ, List.getElem?_cons_zero, Option.getD_some]
          refine wpMix_s (fun K hK => ?_)
          go_simp
          refine hK _ ?_
          clear hK K
          obtain ⟨cur, hb1, hs1, hbg, ho1⟩ := owns_put hC3.own k hkn (y.map B) (by rw [List.length_map]; exact Hy32.out)
          rw [hcells_set l Hl32.out k y (by rw [Hlen.out]; exact hkn)] at ho1
          have hg1 := grown_setRow hC3.grow (cur.toList.take (k * 32) ++ y.map B ++ cur.toList.drop (k * 32 + 32)).toArray
          refine wpMix_store_agg rfl 25 (.tmp 26) (.tmp 21) rfl 32 size26 g (k * 32) (y.map B).toArray rfl rfl (by simp [Hy32.out]) (oneCell_B _) 25 _ hb1 hs1 trivial ?_
          simp only [Act.put]
          refine (mix_world (S := fun _ => True) (RvH base g n c (l.set k y) w) ⟨ho1, hg1⟩ (fun _ _ => trivial) ?_).2
          clear hb1 ho1 hg1 hC3
          intro W4 hC4
          refine wpMix_s (fun K hK => ?_)
          go_simp
          refine hK _ ?_
          clear hK K
          obtain ⟨cur2, hb2, hs2, -, ho2⟩ := owns_put hC4.own j hjn (x.map B) (by rw [List.length_map]; exact Hx32.out)
          rw [hcells_set (l.set k y) (Hl32.out.set k Hy32.out) j x (by rw [List.length_set, Hlen.out]; exact hjn), Hst.out] at ho2
          have hg2 := grown_setRow hC4.grow (cur2.toList.take (j * 32) ++ x.map B ++ cur2.toList.drop (j * 32 + 32)).toArray
          refine wpMix_store_agg rfl 25 (.tmp 27) (.tmp 25) rfl 32 size26 g (j * 32) (x.map B).toArray rfl rfl (by simp [Hx32.out]) (oneCell_B _) 25 _ hb2 hs2 trivial ?_
          simp only [Act.put]
          refine (mix_world (S := fun _ => True) (RvH base g n c (revH os (k + 1)) w) ⟨ho2, hg2⟩ (fun _ _ => trivial) ?_).2
          clear hb2 ho2 hg2 hC4
          intro W5 hC5
          refine wpMix_nil ?_
          intro _
          refine wpAnyH_end (by kernel_rfl) ?_
          go_wp2_with fail
          go_roundw
          case rel => exact ⟨k + 1, (j : Int) - 1, by have := Hsum.out; omega, by have := Hsum.out; omega, by go_num, rfl, hC5⟩
          case measure => simp [intOf]; omega
      · have hend := revH_end os k (by rw [Hl.out]; omega)
        have ho := hC.own
        rw [hend] at ho
        have hg := hC.grow
        clear hend hji hC
        go_wp2_with fail
        go_end0
        exact ⟨⟨_, rfl⟩, ho, hg⟩
end Go.Proofs.Ytonidnfgneokbaa
/- notaryref03.Sum; notarylaw03.kept. -/
namespace Go.Proofs.Ytonidnfgneokbaa
open Go.RowKit

theorem Und.take_ok' (b : List UInt8) : (Und.new.take b).ok := Und.take_ok _ _ Und.new_ok

set_option maxHeartbeats 1000000 in
set_option maxRecDepth 100000 in
theorem rsum_any (b : List UInt8) (A : Option Addr) (n c : Nat) (w : World) (h : Sl w (fun _ => True) A n c b) (hmax : n ≤ 1099511627776) :
    Calls Try.prog 141 #[.slice A n c] w fun e w' => e = .returned (.agg ((sha256 b).map B).toArray) ∧ Below w.heap.size w w' := by
  have hlen := h.len
  obtain ⟨v, hv⟩ : ∃ v, Und.new.take b = v := ⟨_, rfl⟩
  have hvl : v.len = n := by rw [← hv, Und.take_len, ← hlen]; exact Nat.zero_add _
  have hvok : v.ok := by rw [← hv]; exact Und.take_ok' b
  have hvs : v.sum = sha256 b := by rw [← hv]; rfl
  have htk : ∀ w, Sl w (fun _ => True) A n c b → Calls Try.prog 155 #[undV Und.new (.slice none 0 0), .slice A n c] w fun e w' => ∃ A' n' c', e = .returned (undV v (.slice A' n' c')) ∧ Sl w' (fun _ => True) A' n' c' v.rest ∧ Below w.heap.size w w' := fun w h => by
    rw [← hv]
    exact rtake_any Und.new b none 0 0 A n c w Sl.nil h (by omega) (by have : Und.new.len = 0 := rfl; omega)
  obtain ⟨x0, hx0⟩ : ∃ x0, undV Und.new (.slice none 0 0) = x0 := ⟨_, rfl⟩
  have hnew := fun w => rnew_any w
  rw [hx0] at htk hnew
  obtain ⟨r, hr⟩ : ∃ r, sha256 b = r := ⟨_, rfl⟩
  rw [hr] at hvs ⊢
  have hrl : r.length = 32 := by rw [← hr]; exact length_sha256 _
  have Hrl := Lib.hid hrl
  have Hvs := Lib.hid hvs
  have Hvl := Lib.hid hvl
  have Htk := Lib.hid htk
  have Hnew := Lib.hid hnew
  clear hv hx0 hr hrl hvs hvl htk hnew hlen
  go_enter Try.func141, Try.ntmps141
  go_wp2_with (first
    | (go_at_call 154; refine (Hnew.out _).mono ?_; rintro e w1 ⟨rfl, hb1⟩; have k1 := (Blk.new w _ _).below hb1 (by simp); have hB1 := ((Below.refl _ _).alloc (Nat.le_refl _) _).trans (hb1.mono (by simp)))
    | (go_at_call 155; refine (Htk.out _ (h.step hB1)).mono ?_; rintro e w2 ⟨A2, n2, c2, rfl, hs2, hb2⟩; have k2 := k1.below hb2 k1.lt; have hB2 := hB1.trans (hb2.mono hB1.size))
    | (go_at_call 156; refine (rend_any v A2 n2 c2 _ hs2 hvok (by rw [Hvl.out]; omega)).mono ?_; rintro e w3 ⟨rfl, hb3⟩; have k3 := k2.below hb3 k2.lt; have hB3 := hB2.trans (hb3.mono hB2.size); rw [Hvs.out])
    | ((with_reducible show wpList _ _ _ (⟨none, .store _ _ _, _, _, _, _⟩ :: _) _ _); refine wpList_store_blk rfl 25 (.tmp 2) (.tmp 6) rfl 32 size26 w.heap.size (r.map B).toArray rfl rfl (by simp [Hrl.out]) (oneCell_B _) 25 _ k3 (by rfl) ?_; simp only [Act.put]))
  refine bodyPost_ret (results_cell_row rfl _ _ w.heap.size 25 (r.map B).toArray (0, 0) _ rfl (k3.setRow_ _) Try.underlying25 rfl (by rw [show (r.map B).toArray.size = 32 by simp [Hrl.out]]; exact info26)) rfl ⟨rfl, ?_⟩
  exact below_setRow hB3 (Nat.le_refl _) _

/-- lent bytes: read, and the byte behind them -/
structure LentB (w : World) (X : Nat → Prop) (g n c : Nat) (l : List UInt8) : Prop where
  sl : Sl w X (some ⟨g, 0, none⟩) n c l
  lt : n < c
  mark : w.cell? ⟨g, n, none⟩ = some (.int .u8 165)
  x : X g
  in_ : g < w.heap.size
theorem LentB.step {w w' : World} {X : Nat → Prop} {g n c : Nat} {l : List UInt8} (h : LentB w X g n c l) (hb : Below w.heap.size w w') : LentB w' X g n c l :=
  ⟨h.sl.step hb, h.lt, by rw [hb.cell (p := ⟨g, n, none⟩) h.in_]; exact h.mark, h.x, Nat.lt_of_lt_of_le h.in_ hb.size⟩
theorem LentB.grown {w w' : World} {X : Nat → Prop} {g n c : Nat} {l : List UInt8} {row : Option Nat} (h : LentB w X g n c l) (hg : w.grownBy w' row) (hX : ∀ b, b < w.heap.size → X b → some b ≠ row) : LentB w' X g n c l :=
  ⟨h.sl.grown hg hX, h.lt, by rw [World.cell?_of_block (w := w) (hg.block g h.in_ (hX g h.in_ h.x))]; exact h.mark, h.x, Nat.lt_of_lt_of_le h.in_ hg.size⟩
theorem LentB.of_own {w : World} {X : Nat → Prop} {g c : Nat} {l : List UInt8} {cur : Array Value} (h : Own w g c (l ++ [0xa5]) cur) (hX : X g) : LentB w X g l.length c l := by
  have hr := h.room
  rw [List.length_append] at hr
  simp only [List.length_singleton] at hr
  have hget : ∀ j u, ((l ++ [0xa5]).map B)[j]? = some u → w.cell? ⟨g, j, none⟩ = some u := fun j u hu => by
    rw [h.blk.cell, ← Array.getElem?_toList]
    rw [← h.pre, List.getElem?_take] at hu
    split at hu
    · exact hu
    · cases hu
  refine ⟨⟨fun _ => ⟨g, 0, rfl, h.blk.lt, hX, fun j u hu => ?_⟩, rfl, by omega, by simp, h.max⟩, by omega, ?_, hX, h.blk.lt⟩
  · rw [Nat.zero_add]
    refine hget j u ?_
    rw [List.map_append, List.getElem?_append_left (List.getElem?_eq_some_iff.1 hu).1]
    exact hu
  · refine hget _ _ ?_
    rw [List.map_append, List.getElem?_append_right (by simp)]
    simp
end Go.Proofs.Ytonidnfgneokbaa
