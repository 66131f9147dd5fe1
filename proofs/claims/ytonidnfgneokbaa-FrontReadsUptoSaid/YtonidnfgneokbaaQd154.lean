/- notarylaw10.tells. -/
import Derived.Test.YtonidnfgneokbaaQd152
namespace Go.Proofs.Ytonidnfgneokbaa
open Go Go.RowKit Go.Shelf
attribute [local go_sem] Oper.semAt_some

def x99 : List UInt8 := 99 :: List.replicate 31 0
theorem x99_32 : x99.length = 32 := rfl
theorem owns_set10 {w : World} {base g n c k : Nat} {T : TypeId} {xs : List Value} (h : w.ownsRow base T 1 (.slice (some ⟨g, 0, none⟩) n c) n xs) (hk : k < n) (u : Value) :
    ∃ cs : Array Value, Blk w g T cs ∧ k < cs.size ∧ ∃ xs', (w.setCell ⟨g, k, none⟩ u).ownsRow base T 1 (.slice (some ⟨g, 0, none⟩) n c) n xs' := by
  rcases h.2 with ⟨hv, _⟩ | ⟨g', cap, cur, hv, hg, hb, hnc, hcm, hcs, ht⟩
  · cases hv
  · cases hv
    refine ⟨cur, hb, by omega, (cur.setIfInBounds k u).toList.take (n * 1), by simp [hcs]; omega, .inr ⟨g, _, cur.setIfInBounds k u, rfl, hg, Blk.set_ hb k u, hnc, hcm, by simp [hcs], rfl⟩⟩

set_option maxHeartbeats 8000000 in
set_option maxRecDepth 100000 in
theorem tells_any (f r : Value) (o : Option FrV) (w : World) (hf : HasO w f o) (hr : HasR w r o) : Calls Try.prog 54 #[f, r] w fun e w' => e = .returned (.bool true) ∧ Below w.heap.size w w' := by
  have hrl := hf.root
  have h32 := hf.h32
  have hfw := hf.few
  have hfb := hf.fewB
  have Hsz := Lib.hid fun W (hb : Below w.heap.size w W) => size_o f o W (hf.step hb)
  have Hrt := Lib.hid fun W (hb : Below w.heap.size w W) => root_o f o W (hf.step hb)
  have Hpt := Lib.hid (point_o f o w hf)
  have Hpa := Lib.hid fun W (hb : Below w.heap.size w W) => parts_o f o W (hf.step hb)
  have Hby := Lib.hid fun W (hb : Below w.heap.size w W) => bytes_o f o W (hf.step hb)
  have Gsz := Lib.hid fun W (hb : Below w.heap.size w W) => rsize_o r o W (hr.step hb)
  have Grt := Lib.hid fun W (hb : Below w.heap.size w W) => rroot_o r o W (hr.step hb)
  have Gpa := Lib.hid fun W (hb : Below w.heap.size w W) => rparts_o r o W (hr.step hb)
  have Gby := Lib.hid fun W (hb : Below w.heap.size w W) => rbytes_o r o W (hr.step hb)
  clear hf hr
  obtain ⟨sz, hsz⟩ : ∃ s, szO o = s := ⟨_, rfl⟩
  obtain ⟨root, hroot⟩ : ∃ s, rootO o = s := ⟨_, rfl⟩
  obtain ⟨hs, hhs⟩ : ∃ s, hashO o = s := ⟨_, rfl⟩
  obtain ⟨bs, hbs⟩ : ∃ s, bytesO o = s := ⟨_, rfl⟩
  rw [hsz] at Hsz Hpt Gsz
  rw [hroot] at Hrt Hpt Grt hrl
  rw [hhs] at Hpa Gpa h32 hfw
  rw [hbs] at Hby Gby hfb
  obtain ⟨n, hn⟩ : ∃ n, hs.length = n := ⟨_, rfl⟩
  rw [hn] at Hpa Gpa hfw
  have Hn := Lib.hid hn
  have H32 := Lib.hid h32
  have hbb : (bs == bs) = true := by simp
  have Hbb := Lib.hid hbb
  obtain ⟨m, hm⟩ : ∃ n, bs.length = n := ⟨_, rfl⟩
  rw [hm] at hfb
  have Hm := Lib.hid hm
  clear hsz hroot hhs hbs hn h32 hm hbb
  go_enter Try.func54, Try.ntmps54
  go_wp2_with (first
    | (go_at_call 67; refine Hpt.out.mono ?_; rintro e w1 ⟨rfl, hbel⟩; have hsz1 := hbel.size)
    | ((with_reducible show wpList _ _ _ (⟨some 5, .alloc _, _, _, _, _⟩ :: _) _ _); refine wpList_boxnew (T := 109) (fun W => by kernel_rfl) rfl ?_; intro w2 k5 hb; replace hbel := hbel.trans (hb.mono hbel.size); clear hb; simp only [Act.put])
    | ((with_reducible show wpList _ _ _ [⟨none, .store _ (.tmp 5) _, _, _, _, _⟩] _ _); refine wpList_boxset ptSizeF (.tmp 5) (.tmp 11) rfl rfl k5 rfl rfl hrl ?_; intro w3 k5b hb; replace hbel := hbel.trans (hb.mono hsz1); clear hb k5; simp only [Act.put]))
  have c26 : ∀ s : InC (fun W => Below w3.heap.size w3 W), s.W.cell? ⟨w1.heap.size, 0, none⟩ = some (.int .i64 (sz : Int)) := fun s => (k5b.step s.ok).num
  have hS : Below w3.heap.size w3 w3.drew := (Below.refl _ _).drew
  refine wp_region_mix (fun W => Below w3.heap.size w3 W) [(0, true), (2, true), (1, false), (3, false), (4, true), (5, true), (6, true), (8, true), (7, false), (9, false), (10, true), (11, true), (12, true), (13, true), (14, true), (15, true), (16, false), (17, true), (18, true), (19, true), (20, true), (21, true), (22, true), (23, false), (24, true), (25, true)] (by kernel_rfl) (by kernel_rfl) hS fun _ => ?_
  simp only [List.map_cons, List.map_nil, Array.getD_eq_getD_getElem?, List.getElem?_toArray, List.getElem?_cons_succ, List.getElem?_cons_zero, Option.getD_some]
  generalize w3.drew = u2 at hS ⊢
  refine wpMix_s (fun K hK => ?_)
  go_simp
  refine hK _ ?_
  clear hK K
  refine wpMix_s (fun K hK => ?_)
  go_simp
  refine hK _ ?_
  clear hK K
  refine wpMix_c (fun K hK => ?_) hS
  go_simp
  refine (Hsz.out u2 (hbel.trans (hS.mono hbel.size))).mono ?_
  rintro e u2_1 ⟨rfl, hb'⟩
  refine hK _ _ ?_
  clear hK K
  replace hS := hS.trans (hb'.mono hS.size)
  refine ⟨hS, ?_⟩
  clear hb'
  refine wpMix_c (fun K hK => ?_) hS
  go_simp
  refine (Gsz.out u2_1 (hbel.trans (hS.mono hbel.size))).mono ?_
  rintro e u2e ⟨rfl, hww⟩
  obtain rfl := hww.symm
  refine hK _ _ ?_
  clear hK K
  refine ⟨hS, ?_⟩
  refine wpMix_s (fun K hK => ?_)
  go_simp
  refine hK _ ?_
  clear hK K
  refine wpMix_s (fun K hK => ?_)
  go_simp
  refine hK _ ?_
  clear hK K
  refine wpMix_s (fun K hK => ?_)
  go_simp
  refine hK _ ?_
  clear hK K
  refine wpMix_s (fun K hK => ?_)
  go_simp
  refine hK _ ?_
  clear hK K
  refine wpMix_c (fun K hK => ?_) hS
  go_simp
  refine (Hrt.out u2_1 (hbel.trans (hS.mono hbel.size))).mono ?_
  rintro e u2_2 ⟨rfl, hb'⟩
  refine hK _ _ ?_
  clear hK K
  replace hS := hS.trans (hb'.mono hS.size)
  refine ⟨hS, ?_⟩
  clear hb'
  refine wpMix_c (fun K hK => ?_) hS
  go_simp
  refine (Grt.out u2_2 (hbel.trans (hS.mono hbel.size))).mono ?_
  rintro e u2_3 ⟨rfl, hb'⟩
  refine hK _ _ ?_
  clear hK K
  replace hS := hS.trans (hb'.mono hS.size)
  refine ⟨hS, ?_⟩
  clear hb'
  refine wpMix_v (by kernel_rfl) (.bool false) ((fun s => run_neq26_f (.tmp 19) (.tmp 21) _ root root rfl rfl rfl hrl hrl rfl s.W)) ?_
  simp only [Act.put]
  refine wpMix_s (fun K hK => ?_)
  go_simp
  refine hK _ ?_
  clear hK K
  refine wpMix_s (fun K hK => ?_)
  go_simp
  refine hK _ ?_
  clear hK K
  refine wpMix_s (fun K hK => ?_)
  go_simp
  refine hK _ ?_
  clear hK K
  refine wpMix_s (fun K hK => ?_)
  go_simp
  refine hK _ ?_
  clear hK K
  refine wpMix_s (fun K hK => ?_)
  go_simp
  refine hK _ ?_
  clear hK K
  refine wpMix_c (fun K hK => ?_) hS
  go_simp
  refine (Gsz.out u2_3 (hbel.trans (hS.mono hbel.size))).mono ?_
  rintro e u2e ⟨rfl, hww⟩
  obtain rfl := hww.symm
  refine hK _ _ ?_
  clear hK K
  refine ⟨hS, ?_⟩
  refine wpMix_s (fun K hK => ?_)
  go_simp
  refine hK _ ?_
  clear hK K
  refine wpMix_s (fun K hK => ?_)
  go_simp
  refine hK _ ?_
  clear hK K
  refine wpMix_s (fun K hK => ?_)
  go_simp
  refine hK _ ?_
  clear hK K
  refine wpMix_s (fun K hK => ?_)
  go_simp
  refine hK _ ?_
  clear hK K
  refine wpMix_load (by kernel_rfl) 25 (.tmp 32) rfl (w1.heap.size) (1) rfl (root.map B).toArray ((fun s => (k5b.step s.ok).hash)) ?_
  simp only [Act.put]
  refine wpMix_s (fun K hK => ?_)
  go_simp
  refine hK _ ?_
  clear hK K
  refine wpMix_c (fun K hK => ?_) hS
  go_simp
  refine (Grt.out u2_3 (hbel.trans (hS.mono hbel.size))).mono ?_
  rintro e u2_4 ⟨rfl, hb'⟩
  refine hK _ _ ?_
  clear hK K
  replace hS := hS.trans (hb'.mono hS.size)
  refine ⟨hS, ?_⟩
  clear hb'
  refine wpMix_v (by kernel_rfl) (.bool false) ((fun s => run_neq26_f (.tmp 33) (.tmp 35) _ root root rfl rfl rfl hrl hrl rfl s.W)) ?_
  simp only [Act.put]
  refine wpMix_s (fun K hK => ?_)
  go_simp
  refine hK _ ?_
  clear hK K
  refine wpMix_nil ?_
  intro _
  have hbel2 := hbel.trans (hS.mono hbel.size)
  clear c26 hS hbel
  go_wp2_with (first
    | (go_at_call 68; refine (Hpa.out _ hbel2).mono ?_; rintro e w4 ⟨v6, rfl, ho6, hb⟩; have hbel20 := hbel2.size; have hs4 := hb.size; replace hbel2 := hbel2.trans (hb.mono hbel2.size); clear hb)
    | (go_at_call 48; refine (Hby.out w4 hbel2).mono ?_; rintro e w5 ⟨v7, rfl, ho7, hb⟩; have hlt6 := fun r e => (ho6.lt r e).2; have hge6 := hbel20; replace ho6 := owns_step ho6 hb; replace hbel2 := hbel2.trans (hb.mono hbel2.size); rw [Hm.out] at ho7; obtain ⟨A6, c6, rfl, hs6⟩ := owns_slv ho6; obtain ⟨A7, c7, rfl, hs7⟩ := owns_slv ho7; clear hb)
    | (go_at_call 127; refine (Gpa.out w5 hbel2).mono ?_; rintro e w6 ⟨v44, rfl, ho44, hb⟩; replace ho6 := owns_step ho6 hb; replace ho7 := owns_step ho7 hb; replace hbel2 := hbel2.trans (hb.mono hbel2.size); obtain ⟨A44, c44, rfl, hs44⟩ := owns_hs ho44 Hn.out H32.out; obtain ⟨A6', c6', e6, hs6'⟩ := owns_hs ho6 Hn.out H32.out; injection e6 with e61 _ e62; subst e61 e62; have Hsame := Lib.hid (sameh10_any hs _ _ n _ _ w6 (hs6'.weak fun _ _ _ => trivial) (hs44.weak fun _ _ _ => trivial)); clear hb hs44 hs6' ho44 hs6 hs7)
    | (go_at_call 22; refine Hsame.out.mono ?_; rintro e w7 ⟨rfl, hb⟩; replace ho6 := owns_step ho6 hb; replace ho7 := owns_step ho7 hb; replace hbel2 := hbel2.trans (hb.mono hbel2.size); clear hb Hsame)
    | (go_at_call 64; refine (Gby.out w7 hbel2).mono ?_; rintro e w8 ⟨v50, rfl, hF⟩; obtain ⟨A50, c50, rfl, hs50⟩ := hF.slE; replace ho6 := owns_step ho6 hF.2; replace ho7 := owns_step ho7 hF.2; replace hbel2 := hbel2.trans (hF.2.mono hbel2.size); obtain ⟨A7', c7', e7, hs7'⟩ := owns_slv ho7; injection e7 with e71 _ e72; subst e71 e72; have Hsame := Lib.hid (same10_any bs bs _ _ m _ _ _ w8 ⟨(hs7'.weak fun _ _ _ => trivial).bs, Hm.out, hs7'.room, hs7'.nil, hs7'.max⟩ (hs50.weak fun _ _ _ => trivial)); rw [Hbb.out] at Hsame; clear hF hs50 hs7')
    | (go_at_call 23; refine Hsame.out.mono ?_; rintro e w9 ⟨rfl, hww⟩; obtain rfl := hww.symm; clear Hsame))
  obtain ⟨b6, hb6e⟩ : ∃ x, u2_4.heap.size = x := ⟨_, rfl⟩
  obtain ⟨b7, hb7e⟩ : ∃ x, w4.heap.size = x := ⟨_, rfl⟩
  rw [hb6e] at ho6 hge6
  rw [hb7e] at ho7 hlt6
  have hge7 : w.heap.size ≤ b7 := by omega
  have hx99 : x99.length = 32 := x99_32
  clear hb6e hb7e hbel20 hs4
  obtain ⟨xs, hxs⟩ : ∃ x, hcells hs = x := ⟨_, rfl⟩
  obtain ⟨ys, hys⟩ : ∃ x, bs.map B = x := ⟨_, rfl⟩
  rw [hxs] at ho6
  rw [hys] at ho7
  clear hxs hys
  go_loopw [8] (fun v8 wr => ∃ (k : Nat) (xs ys : List Value), k ≤ n ∧ v8 = .int .i64 (k : Int) ∧ wr.ownsRow b6 25 32 (.slice A6 n c6) n xs ∧ wr.ownsRow b7 5 1 (.slice A7 m c7) m ys ∧ Below w.heap.size w wr) (fun v8 _ => n - (intOf v8).toNat)
  case atStart => exact ⟨0, xs, ys, Nat.zero_le _, rfl, ho6, ho7, hbel2⟩
  case round =>
    clear ho6 ho7 hbel2 xs ys
    obtain ⟨k, xs, ys, hk, rfl, ho6, ho7, hB⟩ := hrel
    by_cases hkn : k < n
    · have hd : decide ((k : Int) < (n : Int)) = true := by simp; omega
      have hwk : IntKind.i64.wrap ((k : Int) + 1) = (k : Int) + 1 := IntWalk.i64_in _ (by omega)
      obtain ⟨g6, c6', e6, hg6⟩ := owns_someB ho6 (by omega)
      injection e6 with e61 _ e62
      subst e61 e62
      obtain ⟨cur, hk1, hs1, -, ho6n⟩ := owns_put ho6 k hkn (x99.map B) (by rw [List.length_map]; exact hx99)
      have hgr : wr.grownBy (wr.setRow g6 (cur.toList.take (k * 32) ++ (x99.map B).toArray.toList ++ cur.toList.drop (k * 32 + 32)).toArray) (some g6) := grown_setRow (grown_of_below (Below.refl _ _) _) _
      have hg67 : g6 < b7 := hlt6 g6 rfl
      have ho7n := owns_keptF ho7 hgr hg67
      have hBn := hB.grown hgr hB.size (fun r e => by have e := Option.some.inj e; omega)
      obtain ⟨W2, hW2⟩ : ∃ x, wr.setRow g6 (cur.toList.take (k * 32) ++ (x99.map B).toArray.toList ++ cur.toList.drop (k * 32 + 32)).toArray = x := ⟨_, rfl⟩
      obtain ⟨xs', ho6n⟩ : ∃ xs', W2.ownsRow b6 25 32 (.slice (some ⟨g6, 0, none⟩) n c6) n xs' := ⟨_, by rw [← hW2]; exact ho6n⟩
      rw [hW2] at ho7n hBn
      have HW2 := Lib.hid hW2
      clear hW2 hgr
      go_wp2_with (first
        | ((with_reducible show wpList _ _ _ (⟨some 62, .build _ _, _, _, _, _⟩ :: _) _ _); refine wpList_run0 rfl (.agg (x99.map B).toArray) (by kernel_rfl) ?_; simp only [Act.put])
        | ((with_reducible show wpList _ _ _ [⟨none, .store _ (.tmp 63) _, _, _, _, _⟩] _ _); refine wpList_store_agg rfl 25 (.tmp 63) (.tmp 62) rfl 32 size26 g6 (k * 32) (x99.map B).toArray rfl rfl (by simp [hx99]) (oneCell_B _) 25 cur hk1 hs1 ?_; rw [HW2.out]; simp only [Act.put]))
      go_roundw
      case rel => exact ⟨k + 1, _, ys, by omega, by go_num, ho6n, ho7n, hBn⟩
      case measure => simp [intOf]; omega
    · obtain rfl : k = n := by omega
      have hd : decide ((k : Int) < (k : Int)) = false := by simp
      go_wp2_with fail
      go_loopw [9] (fun v9 wr => ∃ (q : Nat) (ys : List Value), q ≤ m ∧ v9 = .int .i64 (q : Int) ∧ wr.ownsRow b7 5 1 (.slice A7 m c7) m ys ∧ Below w.heap.size w wr) (fun v9 _ => m - (intOf v9).toNat)
      case atStart => exact ⟨0, ys, Nat.zero_le _, rfl, ho7, hB⟩
      case round =>
        clear ho6 ho7 hB xs ys hd
        obtain ⟨q, ys, hq, rfl, ho7, hB⟩ := hrel
        by_cases hqm : q < m
        · have hd : decide ((q : Int) < (m : Int)) = true := by simp; omega
          have hwq : IntKind.i64.wrap ((q : Int) + 1) = (q : Int) + 1 := IntWalk.i64_in _ (by omega)
          obtain ⟨g7, c7', e7, hg7⟩ := owns_someB ho7 (by omega)
          injection e7 with e71 _ e72
          subst e71 e72
          obtain ⟨cs, hk1, hs1, ys', ho7n⟩ := owns_set10 ho7 hqm (.int .u8 99)
          obtain ⟨c0, hc0⟩ : ∃ u, wr.cell? ⟨g7, q, none⟩ = some u := by
            rw [hk1.cell]
            exact ⟨_, Array.getElem?_eq_getElem hs1⟩
          have f0 := hk1.frozen q
          have hBn : Below w.heap.size w (wr.setCell ⟨g7, q, none⟩ (.int .u8 99)) := hB.setCell (p := ⟨g7, q, none⟩) (by show w.heap.size ≤ g7; omega) _
          have Ho := Lib.hid ho7n
          have HB := Lib.hid hBn
          clear ho7n hBn
          go_wp2_with fail
          go_roundw
          case rel => exact ⟨q + 1, ys', by omega, by go_num, Ho.out, HB.out⟩
          case measure => simp [intOf]; omega
        · obtain rfl : q = m := by omega
          have hd : decide ((q : Int) < (q : Int)) = false := by simp
          clear ho7
          go_wp2_with (first
            | (go_at_call 68; refine (Hpa.out _ hB).mono ?_; rintro e w4 ⟨v6, rfl, ho6, hb⟩; replace hB := hB.trans (hb.mono hB.size); obtain ⟨A66, c66, rfl, hs66⟩ := owns_hs ho6 Hn.out H32.out; clear hb)
            | (go_at_call 127; refine (Gpa.out w4 hB).mono ?_; rintro e w6 ⟨v44, rfl, ho44, hb⟩; replace hB := hB.trans (hb.mono hB.size); obtain ⟨A44, c44, rfl, hs44⟩ := owns_hs ho44 Hn.out H32.out; have Hsame := Lib.hid (sameh10_any hs _ _ k _ _ w6 ((hs66.weak fun _ _ _ => trivial).step hb) (hs44.weak fun _ _ _ => trivial)); clear hb hs44 ho44)
            | (go_at_call 22; refine Hsame.out.mono ?_; rintro e w7 ⟨rfl, hb⟩; replace hB := hB.trans (hb.mono hB.size); clear hb Hsame)
            | (go_at_call 48; refine (Hby.out w7 hB).mono ?_; rintro e w8 ⟨v80, rfl, hF⟩; obtain ⟨A80, c80, rfl, hs80⟩ := hF.slE; rw [Hm.out] at hs80 ⊢; replace hB := hB.trans (hF.2.mono hB.size); clear hF)
            | (go_at_call 64; refine (Gby.out w8 hB).mono ?_; rintro e w9 ⟨v82, rfl, hF⟩; obtain ⟨A82, c82, rfl, hs82⟩ := hF.slE; rw [Hm.out] at hs82 ⊢; have Hsame := Lib.hid (same10_any bs bs _ _ q _ q _ w9 ((hs80.weak fun _ _ _ => trivial).step hF.2) (hs82.weak fun _ _ _ => trivial)); rw [Hbb.out] at Hsame; replace hB := hB.trans (hF.2.mono hB.size); clear hF hs80 hs82)
            | (go_at_call 23; refine Hsame.out.mono ?_; rintro e w10 ⟨rfl, hww⟩; obtain rfl := hww.symm; clear Hsame))
          go_ret
          exact ⟨rfl, hB⟩
end Go.Proofs.Ytonidnfgneokbaa
