/- audit.Lists, down: where two lists are unlike. -/
import Derived.Test.YtonidnfgneokbaaQd136
import Derived.Test.YtonidnfgneokbaaQd140
import Derived.Test.YtonidnfgneokbaaQd141
namespace Go.Proofs.Ytonidnfgneokbaa
open Go Go.RowKit Go.Shelf
attribute [local go_sem] Oper.semAt_some

theorem ret_clash1 {fn : Func} {p : Tmp} {tmps : Array Value} {W : World} {g : Nat} {a b : Value} (h : fn.results = #[.cell p 34]) (hp : tmps.getD p undef = .pointer (some ⟨g, 0, none⟩)) (k : Blk W g 34 #[a, b]) : (results fn tmps).run Try.prog W = .ok (.agg #[a, b]) W :=
  results_cell_row h tmps W g 34 #[a, b] (0, 0) _ hp k Try.underlying34 rfl (by kernel_rfl)
section
variable {ops : Array Oper} {Q : Exit → Act → World → Prop} {S : World → Prop} {R : Act → World → Prop} {o : Oper} {l : List (Oper × Bool)} {a : Act} {w : World}
theorem wpMix_prsetG {m m' : List UInt8} {g : Nat} (x y : Operand) (hg : o.guard = none) (ho : o.op = .store 139 x y) (k : PV w g m') (hx : a.eval x = .pointer (some ⟨g, 0, none⟩)) (hy : a.eval y = .agg (m.map B).toArray) (hl : m.length = 64) (hS : ∀ W, Below g w W → S W)
    (h : ∀ W, PV W g m → Below g w W → w.grownBy W (some g) → wpMix Try.prog ops S Q R l (a.put o.dst undef) W) : wpMix Try.prog ops S Q R ((o, false) :: l) a w := by
  have hb : Below g w (w.setRow g (m.map B).toArray) := below_setRow (Below.refl _ _) (Nat.le_refl _) _
  exact wpMix_store_blk hg 139 x y ho 64 pairSize g (m.map B).toArray hx hy (by simp [hl]) (oneCell_B _) 139 _ k.blk (by simp [k.len]) (hS _ hb) (h _ ⟨k.blk.setRow_ _, hl⟩ hb (grown_setRow (grown_of_below (Below.refl _ _) _) _))
end
theorem PV.grown {w w' : World} {g : Nat} {z : List UInt8} {row : Option Nat} (h : PV w g z) (hg : w.grownBy w' row) (hX : some g ≠ row) : PV w' g z := ⟨h.blk.grown hg hX, h.len⟩

set_option maxHeartbeats 16000000 in
set_option maxRecDepth 100000 in
theorem down_rec {f : Nat} {H : Hf} (hF : HFn f H) (g8 g9 : Nat) (D : Nat) : ∀ (ls ms : List (List UInt8)) (A A' : Option Addr) (n c c' : Nat) (w : World), n ≤ D → 1 ≤ n → n ≤ 65536 → Es w (fun _ => True) A n c ls → Es w (fun _ => True) A' n c' ms → (∀ x ∈ ls, x.length ≤ 4096) → (∀ x ∈ ms, x.length ≤ 4096) →
    Blk w g8 123 #[hval f] → Blk w g9 137 #[.func (.func 98) #[] #[.pointer (some ⟨g8, 0, none⟩), .pointer (some ⟨g9, 0, none⟩)]] →
    Calls Try.prog 98 #[.slice A n c, .slice A' n c', .pointer (some ⟨g8, 0, none⟩), .pointer (some ⟨g9, 0, none⟩)] w fun e w' => ∃ v, e = .returned v ∧ ClV w.heap.size (downL H ls ms) v w' ∧ Below w.heap.size w w' := by
  induction D with
  | zero => intro ls ms A A' n c c' w h h1; omega
  | succ D ih =>
    intro ls ms A A' n c c' w hD h1 hn h h' hx hx' kt kd
    have hlen := h.len
    have hroom := h.room
    have hmx := h.max
    unfold maxLen at hmx
    have hlen' := h'.len
    have hroom' := h'.room
    have hmx' := h'.max
    unfold maxLen at hmx'
    have hw := h.weak (Y := (· < w.heap.size)) fun b hb _ => hb
    have hw' := h'.weak (Y := (· < w.heap.size)) fun b hb _ => hb
    by_cases hn1 : n = 1
    · subst hn1
      rw [downL_one H ls ms hlen]
      obtain ⟨b, o, rfl, hbb, -, hat⟩ := hw.at_ (by decide)
      obtain ⟨Ai, ci, hc, hsl⟩ := hat 0 (by decide)
      obtain ⟨b', o', rfl, hbb', -, hat'⟩ := hw'.at_ (by decide)
      obtain ⟨Ai', ci', hc', hsl'⟩ := hat' 0 (by decide)
      have hgx : (ls.getD 0 []).length ≤ 4096 := hx _ (by rw [List.getD_eq_getElem?_getD, List.getElem?_eq_getElem (by omega)]; exact List.getElem_mem _)
      have hgx' : (ms.getD 0 []).length ≤ 4096 := hx' _ (by rw [List.getD_eq_getElem?_getD, List.getElem?_eq_getElem (by omega)]; exact List.getElem_mem _)
      obtain ⟨x, hx0⟩ : ∃ x, ls.getD 0 [] = x := ⟨_, rfl⟩
      obtain ⟨y, hy0⟩ : ∃ x, ms.getD 0 [] = x := ⟨_, rfl⟩
      rw [hx0] at hc hsl hgx ⊢
      rw [hy0] at hc' hsl' hgx' ⊢
      have hc0 : w.cell? ⟨b, o, none⟩ = some (.slice Ai x.length ci) := hc
      have hc0' : w.cell? ⟨b', o', none⟩ = some (.slice Ai' y.length ci') := hc'
      have HX := Lib.hid hgx
      have HY := Lib.hid hgx'
      clear ih hx hx' hat hat' hx0 hy0 hgx hgx' hc hc' hD hlen hlen' h h' hw hw'
      have hbw : b < w.heap.size := hbb
      have hbw' : b' < w.heap.size := hbb'
      go_enter Try.func98, Try.ntmps98
      refine Code.wp_mono (fun _ _ _ h => BP.out h) ?_
      go_wp2_with ((with_reducible show wpList _ _ _ (⟨some 6, .alloc _, _, _, _, _⟩ :: _) _ _); refine wpList_clnew rfl rfl ?_; intro w1 k6 hb1; simp only [Act.put])
      have hk6l := k6.lt
      have hsz1 := hb1.size
      replace k6 := k6.drew
      have hS : Below w1.heap.size w1 w1.drew := (Below.refl _ _).drew
      refine wp_region_mix_tail (fun W => Below w1.heap.size w1 W) 9 [(0, true), (1, true), (2, true), (4, true), (5, true), (6, true), (3, false), (7, false), (8, true)] (by kernel_rfl) (by kernel_rfl) hS fun _ => ?_
      simp only [List.map_cons, List.map_nil, Array.getD_eq_getD_getElem?, List.getElem?_toArray, List.getElem?_cons_succ, List.getElem?_cons_zero, Option.getD_some]
      generalize w1.drew = u2 at hS k6 ⊢
      refine wpMix_s (fun K hK => ?_)
      go_simp
      refine hK _ ?_
      clear hK K
      refine wpMix_s (fun K hK => ?_)
      go_simp
      refine hK _ ?_
      clear hK K
      refine wpMix_v (by kernel_rfl) (.slice Ai x.length ci) (fun s => run_load_op 23 (.tmp 14) rfl b o rfl _ (run_load_scalar (by kernel_rfl) (((hb1.trans (s.ok.mono hb1.size)).cell (p := ⟨b, o, none⟩) hbw).trans hc0))) ?_
      simp only [Act.put]
      refine wpMix_s (fun K hK => ?_)
      go_simp
      refine hK _ ?_
      clear hK K
      refine wpMix_s (fun K hK => ?_)
      go_simp
      refine hK _ ?_
      clear hK K
      refine wpMix_v (by kernel_rfl) (.slice Ai' y.length ci') (fun s => run_load_op 23 (.tmp 18) rfl b' o' rfl _ (run_load_scalar (by kernel_rfl) (((hb1.trans (s.ok.mono hb1.size)).cell (p := ⟨b', o', none⟩) hbw').trans hc0'))) ?_
      simp only [Act.put]
      have hz0_ := hS.size
      refine wpMix_c (fun K hK => ?_) hS
      go_simp
      refine (aleaf_any x Ai x.length ci u2 ((hsl.step (hb1.trans (hS.mono hb1.size))).all) (by have := HX.out; omega)).mono ?_
      rintro e u2a ⟨v8, rfl, hf⟩
      refine hK _ _ ?_
      clear hK K
      have hz8 := hf.2.size
      replace k6 := k6.step hf.2
      replace hS := hS.trans (hf.2.mono hS.size)
      refine ⟨hS, ?_⟩
      have ho8 := owns_le hf.1 (show w.heap.size + 1 ≤ u2.heap.size by omega)
      clear hf
      have hz0_ := hS.size
      refine wpMix_c (fun K hK => ?_) hS
      go_simp
      refine (aleaf_any y Ai' y.length ci' u2a ((hsl'.step (hb1.trans (hS.mono hb1.size))).all) (by have := HY.out; omega)).mono ?_
      rintro e u2aa ⟨v9, rfl, hf⟩
      refine hK _ _ ?_
      clear hK K
      have hz8 := hf.2.size
      replace k6 := k6.step hf.2
      replace hS := hS.trans (hf.2.mono hS.size)
      refine ⟨hS, ?_⟩
      have ho9 := owns_le hf.1 (show w.heap.size + 1 ≤ u2a.heap.size by omega)
      replace ho8 := owns_step ho8 hf.2
      clear hf
      obtain ⟨A8, c8, rfl, -⟩ := owns_slv ho8
      obtain ⟨A9, c9, rfl, -⟩ := owns_slv ho9
      refine wpMix_v (by kernel_rfl) (.agg #[.slice A8 (leafD x).length c8, .slice A9 (leafD y).length c9]) (fun s => by kernel_rfl) ?_
      simp only [Act.put]
      refine wpMix_nil ?_
      intro _
      simp only [List.drop_succ_cons, List.drop_zero]
      refine wpList_clset (.tmp 6) (.tmp 21) rfl rfl k6 rfl rfl rfl rfl ?_
      intro W7 k6s hb19 hW7
      have hgr : u2aa.grownBy W7 (some w.heap.size) := by rw [hW7]; exact grown_setRow (grown_of_below (Below.refl _ _) _) _
      replace ho8 := ho8.kept hgr (.inr fun e => by have := (ho8.lt _ e).1; omega)
      replace ho9 := ho9.kept hgr (.inr fun e => by have := (ho9.lt _ e).1; omega)
      have hbE := ((hb1.trans (hS.mono hb1.size))).trans (hb19.mono (Nat.le_refl _))
      clear hW7 hgr
      simp only [Act.put]
      go_wp2_with fail
      refine np_normal ?_
      go_wp2_with fail
      exact ⟨bodyPost_ret (ret_clash1 rfl rfl k6s) rfl ⟨_, rfl, ⟨_, _, rfl, owns_le ho8 (Nat.le_succ _), owns_le ho9 (Nat.le_succ _)⟩, hbE⟩⟩
    · have h2 : 2 ≤ n := by omega
      have hkl := splitN_lt n h2
      have hkp := splitN_pos n h2
      have hsp := fun W => asplit_any n W h2 (by omega)
      have hdm := downL_more H ls ms (by omega)
      unfold rtsA at hdm
      rw [hlen, hlen'] at hdm
      obtain ⟨k, hk⟩ : ∃ k, splitN n = k := ⟨_, rfl⟩
      rw [hk] at hkl hkp hsp hdm
      have ht1 := hw.take k (by omega)
      have ht2 := hw.drop k (by omega)
      have hu1 := hw'.take k (by omega)
      have hu2 := hw'.drop k (by omega)
      obtain ⟨A2, hA2⟩ : ∃ A2, (if c = k then A else A.map (·.add (k * 1))) = A2 := ⟨_, rfl⟩
      obtain ⟨B2, hB2⟩ : ∃ A2, (if c' = k then A' else A'.map (·.add (k * 1))) = A2 := ⟨_, rfl⟩
      rw [hA2] at ht2
      rw [hB2] at hu2
      have HA2 := Lib.hid hA2
      have HB2 := Lib.hid hB2
      have r1 := fun W (hb : Below w.heap.size w W) => troot13_rec hF k (ls.take k) A k c W (Nat.le_refl _) (ht1.step hb).all (by omega) (fun x hx' => Nat.le_trans (hx x (List.mem_of_mem_take hx')) (by decide))
      have r2 := fun W (hb : Below w.heap.size w W) => troot13_rec hF (n - k) (ls.drop k) A2 (n - k) (c - k) W (Nat.le_refl _) (ht2.step hb).all (by omega) (fun x hx' => Nat.le_trans (hx x (List.mem_of_mem_drop hx')) (by decide))
      have r3 := fun W (hb : Below w.heap.size w W) => troot13_rec hF k (ms.take k) A' k c' W (Nat.le_refl _) (hu1.step hb).all (by omega) (fun x h9 => Nat.le_trans (hx' x (List.mem_of_mem_take h9)) (by decide))
      have r4 := fun W (hb : Below w.heap.size w W) => troot13_rec hF (n - k) (ms.drop k) B2 (n - k) (c' - k) W (Nat.le_refl _) (hu2.step hb).all (by omega) (fun x h9 => Nat.le_trans (hx' x (List.mem_of_mem_drop h9)) (by decide))
      have q1 := fun W (hb : Below w.heap.size w W) => equalfn_any (ls.take k) (ms.take k) A A' k c k c' W (ht1.step hb).all (hu1.step hb).all
      have d1 := fun W (hb : Below w.heap.size w W) => ih (ls.take k) (ms.take k) A A' k c c' W (by omega) hkp (by omega) (ht1.step hb).all (hu1.step hb).all (fun x h9 => hx x (List.mem_of_mem_take h9)) (fun x h9 => hx' x (List.mem_of_mem_take h9)) (kt.step hb) (kd.step hb)
      have d2 := fun W (hb : Below w.heap.size w W) => ih (ls.drop k) (ms.drop k) A2 B2 (n - k) (c - k) (c' - k) W (by omega) (by omega) (by omega) (ht2.step hb).all (hu2.step hb).all (fun x h9 => hx x (List.mem_of_mem_drop h9)) (fun x h9 => hx' x (List.mem_of_mem_drop h9)) (kt.step hb) (kd.step hb)
      have l1 := length_rootA H hF.len (ls.take k)
      have l2 := length_rootA H hF.len (ls.drop k)
      have l3 := length_rootA H hF.len (ms.take k)
      have l4 := length_rootA H hF.len (ms.drop k)
      obtain ⟨res, hres⟩ : ∃ r, downL H ls ms = r := ⟨_, rfl⟩
      rw [hres] at hdm ⊢
      obtain ⟨x1, hx1⟩ : ∃ x, rootA H (ls.take k) = x := ⟨_, rfl⟩
      obtain ⟨x2, hx2⟩ : ∃ x, rootA H (ls.drop k) = x := ⟨_, rfl⟩
      obtain ⟨y1, hy1⟩ : ∃ x, rootA H (ms.take k) = x := ⟨_, rfl⟩
      obtain ⟨y2, hy2⟩ : ∃ x, rootA H (ms.drop k) = x := ⟨_, rfl⟩
      rw [hx1] at r1 l1 hdm
      rw [hx2] at r2 l2 hdm
      rw [hy1] at r3 l3 hdm
      rw [hy2] at r4 l4 hdm
      obtain ⟨z, hz⟩ : ∃ z, x1 ++ x2 = z := ⟨_, rfl⟩
      obtain ⟨z', hz'⟩ : ∃ z, y1 ++ y2 = z := ⟨_, rfl⟩
      have hzl : z.length = 64 := by rw [← hz]; simp [l1, l2]
      have hzl' : z'.length = 64 := by rw [← hz']; simp [l3, l4]
      have pb1 := fun W => pbytes_any x1 x2 W l1 l2
      have pb2 := fun W => pbytes_any y1 y2 W l3 l4
      rw [hz] at pb1
      rw [hz'] at pb2
      obtain ⟨qe, hqe⟩ : ∃ q, decide (ls.take k = ms.take k) = q := ⟨_, rfl⟩
      rw [hqe] at q1
      obtain ⟨dl, hdl⟩ : ∃ r, downL H (ls.take k) (ms.take k) = r := ⟨_, rfl⟩
      obtain ⟨dr, hdr⟩ : ∃ r, downL H (ls.drop k) (ms.drop k) = r := ⟨_, rfl⟩
      rw [hdl] at d1 hdm
      rw [hdr] at d2 hdm
      have hdm2 : res = if (x1, x2) ≠ (y1, y2) then (nodeD (x1, x2), nodeD (y1, y2)) else if qe = true then dr else dl := by
        rw [hdm, ← hqe]
        simp only [decide_eq_true_eq]
      have Hdm := Lib.hid hdm2
      have HR1 := Lib.hid r1
      have HR2 := Lib.hid r2
      have HR3 := Lib.hid r3
      have HR4 := Lib.hid r4
      have HQ1 := Lib.hid q1
      have HD1 := Lib.hid d1
      have HD2 := Lib.hid d2
      have L1 := Lib.hid l1
      have L2 := Lib.hid l2
      have L3 := Lib.hid l3
      have L4 := Lib.hid l4
      have Hz := Lib.hid hz
      have Hz' := Lib.hid hz'
      have Hzl := Lib.hid hzl
      have Hzl' := Lib.hid hzl'
      have Pb1 := Lib.hid pb1
      have Pb2 := Lib.hid pb2
      have Hsp := Lib.hid hsp
      have hn0 : ((n : Int) == 1) = false := by simp; omega
      clear ih hdm hdm2 r1 r2 r3 r4 q1 d1 d2 l1 l2 l3 l4 hz hz' hzl hzl' pb1 pb2 hsp hx hx' hx1 hx2 hy1 hy2 hres hdl hdr hqe hA2 hB2 hk hlen hlen' h h' ht1 ht2 hu1 hu2 hw hw'
      go_enter Try.func98, Try.ntmps98
      refine Code.wp_mono (fun _ _ _ h => BP.out h) ?_
      go_wp2_with (first
        | ((with_reducible show wpList _ _ _ (⟨some 6, .alloc _, _, _, _, _⟩ :: _) _ _); refine wpList_clnew rfl rfl ?_; intro w1 k6 hb1; simp only [Act.put])
        | (go_at_call 99; refine (Hsp.out _).mono ?_; rintro e w2 ⟨rfl, hww⟩; obtain rfl : w1 = w2 := by first | exact hww | exact hww.symm))
      have hS : Below (w1.heap.size) w1 w1.drew := (Below.refl _ _).drew
      refine wp_region_begin (fun W => Below (w1.heap.size) w1 W) (by kernel_rfl) hS fun _ => ?_
      generalize w1.drew = u4 at hS  ⊢
      refine wpAnyH_pre (f := 10) (by kernel_rfl) #[true, true, true, true, false, true, true, true, true, false, false, true, true, true, true, false, true, true, true, true, false, false, false, false, false, false] [(0, true), (1, true), (2, true), (3, true), (5, true), (6, true), (7, true), (8, true), (11, true), (12, true), (13, true), (14, true), (16, true), (17, true), (18, true), (19, true)] _ _ _ (by kernel_rfl) hS ?_
      simp only [List.map_cons, List.map_nil, Array.getD_eq_getD_getElem?, List.getElem?_toArray, List.getElem?_cons_succ, List.getElem?_cons_zero, Option.getD_some]
      refine wpMix_load (by kernel_rfl) 123 (.tmp 2) rfl (g8) (0) rfl #[hval f] ((fun s => tree_load (kt.step (hb1.trans (s.ok.mono hb1.size))))) ?_
      simp only [Act.put]
      refine wpMix_s (fun K hK => ?_)
      go_simp
      refine hK _ ?_
      clear hK K
      refine wpMix_s (fun K hK => ?_)
      go_simp
      refine hK _ ?_
      clear hK K
      refine wpMix_v (by kernel_rfl) (.slice A k c) (fun s => run_slice_hiB (.tmp 26) (.tmp 27) rfl A n c k rfl rfl (by omega) s.W) ?_
      simp only [Act.put]
      refine wpMix_load (by kernel_rfl) 123 (.tmp 2) rfl (g8) (0) rfl #[hval f] ((fun s => tree_load (kt.step (hb1.trans (s.ok.mono hb1.size))))) ?_
      simp only [Act.put]
      refine wpMix_s (fun K hK => ?_)
      go_simp
      refine hK _ ?_
      clear hK K
      refine wpMix_s (fun K hK => ?_)
      go_simp
      refine hK _ ?_
      clear hK K
      refine wpMix_v (by kernel_rfl) (.slice A2 (n - k) (c - k)) (fun s => by rw [← HA2.out]; exact run_slice_loB (.tmp 31) (.tmp 32) rfl A n c k rfl rfl (by omega) s.W) ?_
      simp only [Act.put]
      refine wpMix_load (by kernel_rfl) 123 (.tmp 2) rfl (g8) (0) rfl #[hval f] ((fun s => tree_load (kt.step (hb1.trans (s.ok.mono hb1.size))))) ?_
      simp only [Act.put]
      refine wpMix_s (fun K hK => ?_)
      go_simp
      refine hK _ ?_
      clear hK K
      refine wpMix_s (fun K hK => ?_)
      go_simp
      refine hK _ ?_
      clear hK K
      refine wpMix_v (by kernel_rfl) (.slice A' k c') (fun s => run_slice_hiB (.tmp 37) (.tmp 38) rfl A' n c' k rfl rfl (by omega) s.W) ?_
      simp only [Act.put]
      refine wpMix_load (by kernel_rfl) 123 (.tmp 2) rfl (g8) (0) rfl #[hval f] ((fun s => tree_load (kt.step (hb1.trans (s.ok.mono hb1.size))))) ?_
      simp only [Act.put]
      refine wpMix_s (fun K hK => ?_)
      go_simp
      refine hK _ ?_
      clear hK K
      refine wpMix_s (fun K hK => ?_)
      go_simp
      refine hK _ ?_
      clear hK K
      refine wpMix_v (by kernel_rfl) (.slice B2 (n - k) (c' - k)) (fun s => by rw [← HB2.out]; exact run_slice_loB (.tmp 42) (.tmp 43) rfl A' n c' k rfl rfl (by omega) s.W) ?_
      simp only [Act.put]
      refine wpMix_nil ?_
      intro _
      show wpAnyH _ _ _ _ _ _ #[true, true, true, true, false, true, true, true, true, false, false, true, true, true, true, false, true, true, true, true, false, false, false, false, false, false] _ _
      refine wpAnyH_manyF [4, 9, 10, 15, 20, 21, 22, 23] (fun k => if k = 10 then [4, 9] else if k = 21 then [15, 20] else []) (fun k => k == 10 || k == 21) (fun k => if k = 4 then 29 else if k = 9 then 34 else if k = 10 then 35 else if k = 15 then 40 else if k = 20 then 45 else if k = 21 then 46 else if k = 22 then 8 else if k = 23 then 9 else 0) (fun k => if k = 4 then Fc.val (.agg (x1.map B).toArray) (fun _ h => by cases h) else if k = 9 then Fc.val (.agg (x2.map B).toArray) (fun _ h => by cases h) else if k = 10 then Fc.val (.agg (z.map B).toArray) (fun _ h => by cases h) else if k = 15 then Fc.val (.agg (y1.map B).toArray) (fun _ h => by cases h) else if k = 20 then Fc.val (.agg (y2.map B).toArray) (fun _ h => by cases h) else if k = 21 then Fc.val (.agg (z'.map B).toArray) (fun _ h => by cases h) else if k = 22 then Fc.pair w1.heap.size (List.replicate 64 0) else Fc.pair w1.heap.size (List.replicate 64 0)) [29, 34, 35, 40, 45, 46, 8, 9] 2 (fun _ => undef) (by kernel_rfl) (by decide) (by decide) (by kernel_rfl) hS ?_ ?_
      · refine List.forall_mem_cons.2 ⟨?k4, List.forall_mem_cons.2 ⟨?k9, List.forall_mem_cons.2 ⟨?k10, List.forall_mem_cons.2 ⟨?k15, List.forall_mem_cons.2 ⟨?k20, List.forall_mem_cons.2 ⟨?k21, List.forall_mem_cons.2 ⟨?k22, List.forall_mem_cons.2 ⟨?k23, fun _ h => by cases h⟩⟩⟩⟩⟩⟩⟩⟩
        case k4 =>
          intro us u4k hSk hneed
          simp only [Array.getD_eq_getD_getElem?, List.getElem?_toArray, List.getElem?_cons_succ, List.getElem?_cons_zero, Option.getD_some]
          simp only [putAll, Act.put, List.setIfInBounds_toArray, List.set_cons_succ, List.set_cons_zero]
          refine wpMix_c (fun K hK => ?_) hSk
          go_simp
          refine (HR1.out u4k (hb1.trans (hSk.mono hb1.size))).mono ?_
          rintro e u4j ⟨rfl, hb'⟩
          refine hK _ _ ?_
          clear hK K
          refine ⟨hSk.trans (hb'.mono hSk.size), ?_⟩
          refine wpMix_nil ?_
          exact ⟨.agg (x1.map B).toArray, by kernel_rfl, rfl, hb', fun g e => by cases e⟩
        case k9 =>
          intro us u4k hSk hneed
          simp only [Array.getD_eq_getD_getElem?, List.getElem?_toArray, List.getElem?_cons_succ, List.getElem?_cons_zero, Option.getD_some]
          simp only [putAll, Act.put, List.setIfInBounds_toArray, List.set_cons_succ, List.set_cons_zero]
          refine wpMix_c (fun K hK => ?_) hSk
          go_simp
          refine (HR2.out u4k (hb1.trans (hSk.mono hb1.size))).mono ?_
          rintro e u4j ⟨rfl, hb'⟩
          refine hK _ _ ?_
          clear hK K
          refine ⟨hSk.trans (hb'.mono hSk.size), ?_⟩
          refine wpMix_nil ?_
          exact ⟨.agg (x2.map B).toArray, by kernel_rfl, rfl, hb', fun g e => by cases e⟩
        case k10 =>
          intro us u4k hSk hneed
          simp only [Array.getD_eq_getD_getElem?, List.getElem?_toArray, List.getElem?_cons_succ, List.getElem?_cons_zero, Option.getD_some]
          simp only [putAll, Act.put, List.setIfInBounds_toArray, List.set_cons_succ, List.set_cons_zero]
          have ea_ : us 29 = .agg (x1.map B).toArray := hneed 4 (by simp)
          have eb_ : us 34 = .agg (x2.map B).toArray := hneed 9 (by simp)
          refine wpMix_v (by kernel_rfl) (.agg (z.map B).toArray) (fun s => by rw [← Hz.out]; exact run_build_pair_op x1 x2 L1.out L2.out (.tmp 29) (.tmp 34) rfl ea_ eb_ s.W) ?_
          simp only [Act.put]
          refine wpMix_nil ?_
          exact ⟨.agg (z.map B).toArray, by kernel_rfl, rfl, Below.refl _ _, fun g e => by cases e⟩
        case k15 =>
          intro us u4k hSk hneed
          simp only [Array.getD_eq_getD_getElem?, List.getElem?_toArray, List.getElem?_cons_succ, List.getElem?_cons_zero, Option.getD_some]
          simp only [putAll, Act.put, List.setIfInBounds_toArray, List.set_cons_succ, List.set_cons_zero]
          refine wpMix_c (fun K hK => ?_) hSk
          go_simp
          refine (HR3.out u4k (hb1.trans (hSk.mono hb1.size))).mono ?_
          rintro e u4j ⟨rfl, hb'⟩
          refine hK _ _ ?_
          clear hK K
          refine ⟨hSk.trans (hb'.mono hSk.size), ?_⟩
          refine wpMix_nil ?_
          exact ⟨.agg (y1.map B).toArray, by kernel_rfl, rfl, hb', fun g e => by cases e⟩
        case k20 =>
          intro us u4k hSk hneed
          simp only [Array.getD_eq_getD_getElem?, List.getElem?_toArray, List.getElem?_cons_succ, List.getElem?_cons_zero, Option.getD_some]
          simp only [putAll, Act.put, List.setIfInBounds_toArray, List.set_cons_succ, List.set_cons_zero]
          refine wpMix_c (fun K hK => ?_) hSk
          go_simp
          refine (HR4.out u4k (hb1.trans (hSk.mono hb1.size))).mono ?_
          rintro e u4j ⟨rfl, hb'⟩
          refine hK _ _ ?_
          clear hK K
          refine ⟨hSk.trans (hb'.mono hSk.size), ?_⟩
          refine wpMix_nil ?_
          exact ⟨.agg (y2.map B).toArray, by kernel_rfl, rfl, hb', fun g e => by cases e⟩
        case k21 =>
          intro us u4k hSk hneed
          simp only [Array.getD_eq_getD_getElem?, List.getElem?_toArray, List.getElem?_cons_succ, List.getElem?_cons_zero, Option.getD_some]
          simp only [putAll, Act.put, List.setIfInBounds_toArray, List.set_cons_succ, List.set_cons_zero]
          have ea_ : us 40 = .agg (y1.map B).toArray := hneed 15 (by simp)
          have eb_ : us 45 = .agg (y2.map B).toArray := hneed 20 (by simp)
          refine wpMix_v (by kernel_rfl) (.agg (z'.map B).toArray) (fun s => by rw [← Hz'.out]; exact run_build_pair_op y1 y2 L3.out L4.out (.tmp 40) (.tmp 45) rfl ea_ eb_ s.W) ?_
          simp only [Act.put]
          refine wpMix_nil ?_
          exact ⟨.agg (z'.map B).toArray, by kernel_rfl, rfl, Below.refl _ _, fun g e => by cases e⟩
        case k22 =>
          intro us u4k hSk hneed
          simp only [Array.getD_eq_getD_getElem?, List.getElem?_toArray, List.getElem?_cons_succ, List.getElem?_cons_zero, Option.getD_some]
          simp only [putAll, Act.put, List.setIfInBounds_toArray, List.set_cons_succ, List.set_cons_zero]
          refine wpMix_prnew rfl rfl (fun _ hb => hSk.trans (hb.mono hSk.size)) ?_
          intro u4kj kj hb'
          refine wpMix_nil ?_
          exact ⟨ptrB u4k.heap.size, by kernel_rfl, ⟨_, rfl, kj, hSk.size⟩, hb', fun g e => by cases e; exact Nat.le_refl _⟩
        case k23 =>
          intro us u4k hSk hneed
          simp only [Array.getD_eq_getD_getElem?, List.getElem?_toArray, List.getElem?_cons_succ, List.getElem?_cons_zero, Option.getD_some]
          simp only [putAll, Act.put, List.setIfInBounds_toArray, List.set_cons_succ, List.set_cons_zero]
          refine wpMix_prnew rfl rfl (fun _ hb => hSk.trans (hb.mono hSk.size)) ?_
          intro u4kj kj hb'
          refine wpMix_nil ?_
          exact ⟨ptrB u4k.heap.size, by kernel_rfl, ⟨_, rfl, kj, hSk.size⟩, hb', fun g e => by cases e; exact Nat.le_refl _⟩
      · intro us u4t hS hF hA
        have e35 : us 35 = .agg (z.map B).toArray := hF 10 (by simp)
        have e46 : us 46 = .agg (z'.map B).toArray := hF 21 (by simp)
        obtain ⟨p8, e8, k8, h8⟩ : (Fc.pair w1.heap.size (List.replicate 64 0)).ok (us 8) u4t := hF 22 (by simp)
        obtain ⟨p9, e9, k9, h9⟩ : (Fc.pair w1.heap.size (List.replicate 64 0)).ok (us 9) u4t := hF 23 (by simp)
        have h89 : p8 ≠ p9 := fun e => hA 22 (by simp) 23 (by simp) (by decide) p8 e8 (by rw [e]; exact e9)
        simp only [putAll, Act.put, List.setIfInBounds_toArray, List.set_cons_succ, List.set_cons_zero]
        rw [e35, e46, e8, e9]
        clear hF hA e35 e46 e8 e9
        show wpAnyH _ _ _ _ _ _ #[true, true, true, true, true, true, true, true, true, true, true, true, true, true, true, true, true, true, true, true, true, true, true, true, false, false] _ _
        refine wpAnyH_pre (f := 0) (by kernel_rfl) #[true, true, true, true, true, true, true, true, true, true, true, true, true, true, true, true, true, true, true, true, true, true, true, true, true, true] [(24, false), (25, false)] _ _ _ (by kernel_rfl) hS ?_
        simp only [List.map_cons, List.map_nil, Array.getD_eq_getD_getElem?, List.getElem?_toArray, List.getElem?_cons_succ, List.getElem?_cons_zero, Option.getD_some]
        refine wpMix_prsetG (.tmp 8) (.tmp 35) rfl rfl k8 rfl rfl Hzl.out (fun _ hb => hS.trans (hb.mono h8)) ?_
        intro u4ts k8s hb' hgw
        simp only [Act.put]
        replace hS := hS.trans (hb'.mono h8)
        replace k9 := k9.grown hgw (fun e => h89 (Option.some.inj e).symm)
        clear hb' hgw k8
        refine wpMix_prsetG (.tmp 9) (.tmp 46) rfl rfl k9 rfl rfl Hzl'.out (fun _ hb => hS.trans (hb.mono h9)) ?_
        intro u4tss k9s hb' hgw
        simp only [Act.put]
        replace hS := hS.trans (hb'.mono h9)
        replace k8s := k8s.grown hgw (fun e => h89 (Option.some.inj e))
        clear hb' hgw k9
        refine wpMix_nil ?_
        intro _
        refine wpAnyH_end (by kernel_rfl) ?_
        have hb4 := hb1.trans (hS.mono hb1.size)
        have hk6l := k6.lt
        replace k6 := k6.step hS
        replace kt := kt.step hb4
        replace kd := kd.step hb4
        have hz4 := hS.size
        clear hS
        by_cases he : x1 = y1 ∧ x2 = y2
        · have hv : (!(x1 == y1 && x2 == y2)) = false := by simp [he.1, he.2]
          have hr := Hdm.out
          rw [if_neg (by rw [he.1, he.2]; simp)] at hr
          have Hr := Lib.hid hr
          have Hv := Lib.hid hv
          clear hv he hr
          go_wp2_with (first
            | ((with_reducible show wpList _ _ _ (⟨some 48, .load _ _, _, _, _, _⟩ :: _) _ _); refine wpList_run0 rfl (.agg (z.map B).toArray) (run_load_op 139 (.tmp 8) rfl _ 0 rfl _ k8s.load) ?_; simp only [Act.put])
            | ((with_reducible show wpList _ _ _ (⟨some 49, .load _ _, _, _, _, _⟩ :: _) _ _); refine wpList_run0 rfl (.agg (z'.map B).toArray) (run_load_op 139 (.tmp 9) rfl _ 0 rfl _ k9s.load) ?_; simp only [Act.put])
            | ((with_reducible show wpList _ _ _ (⟨some 50, .binOp _ _ _ _ _, _, _, _, _⟩ :: _) _ _); refine wpList_run0 rfl (.bool false) (run_neq_pair_op (.tmp 48) (.tmp 49) _ z z' x1 x2 y1 y2 Hz.out Hz'.out rfl rfl rfl L1.out L2.out L3.out L4.out _ Hv.out _) ?_; simp only [Act.put]))
          have hS : Below u4tss.heap.size u4tss u4tss.drew := (Below.refl _ _).drew
          have hz5 := hb4.size
          have hz6 := hb1.size
          refine wp_region_mix (fun W => Below u4tss.heap.size u4tss W) [(0, true), (1, true), (2, true), (3, true), (4, true), (5, true), (6, false), (7, true)] (by kernel_rfl) (by kernel_rfl) hS fun _ => ?_
          simp only [List.map_cons, List.map_nil, Array.getD_eq_getD_getElem?, List.getElem?_toArray, List.getElem?_cons_succ, List.getElem?_cons_zero, Option.getD_some]
          generalize u4tss.drew = u7 at hS ⊢
          refine wpMix_s (fun K hK => ?_)
          go_simp
          refine hK _ ?_
          clear hK K
          refine wpMix_s (fun K hK => ?_)
          go_simp
          refine hK _ ?_
          clear hK K
          refine wpMix_v (by kernel_rfl) (.slice A k c) (fun s => run_slice_hiB (.tmp 57) (.tmp 58) rfl A n c k rfl rfl (by omega) s.W) ?_
          simp only [Act.put]
          refine wpMix_s (fun K hK => ?_)
          go_simp
          refine hK _ ?_
          clear hK K
          refine wpMix_s (fun K hK => ?_)
          go_simp
          refine hK _ ?_
          clear hK K
          refine wpMix_v (by kernel_rfl) (.slice A' k c') (fun s => run_slice_hiB (.tmp 60) (.tmp 61) rfl A' n c' k rfl rfl (by omega) s.W) ?_
          simp only [Act.put]
          refine wpMix_c (fun K hK => ?_) hS
          go_simp
          refine (HQ1.out u7 (hb4.trans (hS.mono hb4.size))).mono ?_
          rintro e u7e ⟨rfl, hww⟩
          obtain rfl := hww.symm
          refine hK _ _ ?_
          clear hK K
          refine ⟨hS, ?_⟩
          refine wpMix_s (fun K hK => ?_)
          go_simp
          refine hK _ ?_
          clear hK K
          refine wpMix_nil ?_
          intro _
          have hS9 := hS
          clear hS
          have hb7 := hb4.trans (hS9.mono hb4.size)
          replace k6 := k6.step hS9
          replace kt := kt.step hS9
          replace kd := kd.step hS9
          cases qe with
          | true =>
            have hr : res = dr := by have h9 := Hr.out; rwa [if_pos rfl] at h9
            subst hr
            go_wp2_with fail
            have hS : Below u7.heap.size u7 u7.drew := (Below.refl _ _).drew
            have hz5 := hb7.size
            have hz6 := hb1.size
            have hz7 := hS9.size
            replace k6 := k6.drew
            refine wp_region_mix_tail (fun W => Below u7.heap.size u7 W) 8 [(0, true), (1, true), (2, true), (3, true), (4, true), (5, true), (6, true), (7, false)] (by kernel_rfl) (by kernel_rfl) hS fun _ => ?_
            simp only [List.map_cons, List.map_nil, Array.getD_eq_getD_getElem?, List.getElem?_toArray, List.getElem?_cons_succ, List.getElem?_cons_zero, Option.getD_some]
            generalize u7.drew = u8 at hS k6 ⊢
            refine wpMix_v (by kernel_rfl) (.func (.func 98) #[] #[.pointer (some ⟨g8, 0, none⟩), .pointer (some ⟨g9, 0, none⟩)]) (fun s => run_load_op 137 (.tmp 3) rfl g9 0 rfl _ (run_load_scalar (by kernel_rfl) (by rw [(kd.step s.ok).cell]; rfl))) ?_
            simp only [Act.put]
            refine wpMix_s (fun K hK => ?_)
            go_simp
            refine hK _ ?_
            clear hK K
            refine wpMix_s (fun K hK => ?_)
            go_simp
            refine hK _ ?_
            clear hK K
            refine wpMix_v (by kernel_rfl) (.slice A2 (n - k) (c - k)) (fun s => by rw [← HA2.out]; exact run_slice_loB (.tmp 65) (.tmp 66) rfl A n c k rfl rfl (by omega) s.W) ?_
            simp only [Act.put]
            refine wpMix_s (fun K hK => ?_)
            go_simp
            refine hK _ ?_
            clear hK K
            refine wpMix_s (fun K hK => ?_)
            go_simp
            refine hK _ ?_
            clear hK K
            refine wpMix_v (by kernel_rfl) (.slice B2 (n - k) (c' - k)) (fun s => by rw [← HB2.out]; exact run_slice_loB (.tmp 68) (.tmp 69) rfl A' n c' k rfl rfl (by omega) s.W) ?_
            simp only [Act.put]
            have hz0_ := hS.size
            refine wpMix_c (fun K hK => ?_) hS
            go_simp
            refine (HD2.out u8 (hb7.trans (hS.mono hb7.size))).mono ?_
            rintro e u8a ⟨v8, rfl, ⟨a8, a9, rfl, ho8, ho9⟩, hb'⟩
            refine hK _ _ ?_
            clear hK K
            have hz8 := hb'.size
            replace k6 := k6.step hb'
            replace hS := hS.trans (hb'.mono hS.size)
            refine ⟨hS, ?_⟩
            replace ho8 := owns_le ho8 (show w.heap.size + 1 ≤ u8.heap.size by omega)
            replace ho9 := owns_le ho9 (show w.heap.size + 1 ≤ u8.heap.size by omega)
            obtain ⟨A8, c8, rfl, -⟩ := owns_slv ho8
            obtain ⟨A9, c9, rfl, -⟩ := owns_slv ho9
            refine wpMix_nil ?_
            intro _
            simp only [List.drop_succ_cons, List.drop_zero]
            refine wpList_clset (.tmp 6) (.tmp 71) rfl rfl k6 rfl rfl rfl rfl ?_
            intro W7 k6s hb19 hW7
            have hgr : u8a.grownBy W7 (some w.heap.size) := by rw [hW7]; exact grown_setRow (grown_of_below (Below.refl _ _) _) _
            replace ho8 := ho8.kept hgr (.inr fun e => by have := (ho8.lt _ e).1; omega)
            replace ho9 := ho9.kept hgr (.inr fun e => by have := (ho9.lt _ e).1; omega)
            have hbE := ((hb7.trans (hS.mono hb7.size))).trans (hb19.mono (Nat.le_refl _))
            clear hW7 hgr
            simp only [Act.put]
            go_wp2_with fail
            refine np_normal ?_
            go_wp2_with fail
            exact ⟨bodyPost_ret (ret_clash1 rfl rfl k6s) rfl ⟨_, rfl, ⟨_, _, rfl, owns_le ho8 (Nat.le_succ _), owns_le ho9 (Nat.le_succ _)⟩, hbE⟩⟩
          | false =>
            have hr : res = dl := by have h9 := Hr.out; rwa [if_neg (by simp)] at h9
            subst hr
            go_wp2_with fail
            have hS : Below u7.heap.size u7 u7.drew := (Below.refl _ _).drew
            have hz5 := hb7.size
            have hz6 := hb1.size
            have hz7 := hS9.size
            replace k6 := k6.drew
            refine wp_region_mix_tail (fun W => Below u7.heap.size u7 W) 8 [(0, true), (1, true), (2, true), (3, true), (4, true), (5, true), (6, true), (7, false)] (by kernel_rfl) (by kernel_rfl) hS fun _ => ?_
            simp only [List.map_cons, List.map_nil, Array.getD_eq_getD_getElem?, List.getElem?_toArray, List.getElem?_cons_succ, List.getElem?_cons_zero, Option.getD_some]
            generalize u7.drew = u9 at hS k6 ⊢
            refine wpMix_v (by kernel_rfl) (.func (.func 98) #[] #[.pointer (some ⟨g8, 0, none⟩), .pointer (some ⟨g9, 0, none⟩)]) (fun s => run_load_op 137 (.tmp 3) rfl g9 0 rfl _ (run_load_scalar (by kernel_rfl) (by rw [(kd.step s.ok).cell]; rfl))) ?_
            simp only [Act.put]
            refine wpMix_s (fun K hK => ?_)
            go_simp
            refine hK _ ?_
            clear hK K
            refine wpMix_s (fun K hK => ?_)
            go_simp
            refine hK _ ?_
            clear hK K
            refine wpMix_v (by kernel_rfl) (.slice A k c) (fun s => run_slice_hiB (.tmp 73) (.tmp 74) rfl A n c k rfl rfl (by omega) s.W) ?_
            simp only [Act.put]
            refine wpMix_s (fun K hK => ?_)
            go_simp
            refine hK _ ?_
            clear hK K
            refine wpMix_s (fun K hK => ?_)
            go_simp
            refine hK _ ?_
            clear hK K
            refine wpMix_v (by kernel_rfl) (.slice A' k c') (fun s => run_slice_hiB (.tmp 76) (.tmp 77) rfl A' n c' k rfl rfl (by omega) s.W) ?_
            simp only [Act.put]
            have hz0_ := hS.size
            refine wpMix_c (fun K hK => ?_) hS
            go_simp
            refine (HD1.out u9 (hb7.trans (hS.mono hb7.size))).mono ?_
            rintro e u9a ⟨v8, rfl, ⟨a8, a9, rfl, ho8, ho9⟩, hb'⟩
            refine hK _ _ ?_
            clear hK K
            have hz8 := hb'.size
            replace k6 := k6.step hb'
            replace hS := hS.trans (hb'.mono hS.size)
            refine ⟨hS, ?_⟩
            replace ho8 := owns_le ho8 (show w.heap.size + 1 ≤ u9.heap.size by omega)
            replace ho9 := owns_le ho9 (show w.heap.size + 1 ≤ u9.heap.size by omega)
            obtain ⟨A8, c8, rfl, -⟩ := owns_slv ho8
            obtain ⟨A9, c9, rfl, -⟩ := owns_slv ho9
            refine wpMix_nil ?_
            intro _
            simp only [List.drop_succ_cons, List.drop_zero]
            refine wpList_clset (.tmp 6) (.tmp 79) rfl rfl k6 rfl rfl rfl rfl ?_
            intro W7 k6s hb19 hW7
            have hgr : u9a.grownBy W7 (some w.heap.size) := by rw [hW7]; exact grown_setRow (grown_of_below (Below.refl _ _) _) _
            replace ho8 := ho8.kept hgr (.inr fun e => by have := (ho8.lt _ e).1; omega)
            replace ho9 := ho9.kept hgr (.inr fun e => by have := (ho9.lt _ e).1; omega)
            have hbE := ((hb7.trans (hS.mono hb7.size))).trans (hb19.mono (Nat.le_refl _))
            clear hW7 hgr
            simp only [Act.put]
            go_wp2_with fail
            refine np_normal ?_
            go_wp2_with fail
            exact ⟨bodyPost_ret (ret_clash1 rfl rfl k6s) rfl ⟨_, rfl, ⟨_, _, rfl, owns_le ho8 (Nat.le_succ _), owns_le ho9 (Nat.le_succ _)⟩, hbE⟩⟩
        · have hv : (!(x1 == y1 && x2 == y2)) = true := by
            rw [Bool.not_eq_true', Bool.and_eq_false_iff]
            by_cases h1 : x1 = y1
            · exact .inr (by simpa using fun h2 => he ⟨h1, h2⟩)
            · exact .inl (by simpa using h1)
          have hr := Hdm.out
          rw [if_pos (fun e => he ⟨congrArg Prod.fst e, congrArg Prod.snd e⟩)] at hr
          subst hr
          have Hv := Lib.hid hv
          clear hv he
          go_wp2_with (first
            | ((with_reducible show wpList _ _ _ (⟨some 48, .load _ _, _, _, _, _⟩ :: _) _ _); refine wpList_run0 rfl (.agg (z.map B).toArray) (run_load_op 139 (.tmp 8) rfl _ 0 rfl _ k8s.load) ?_; simp only [Act.put])
            | ((with_reducible show wpList _ _ _ (⟨some 49, .load _ _, _, _, _, _⟩ :: _) _ _); refine wpList_run0 rfl (.agg (z'.map B).toArray) (run_load_op 139 (.tmp 9) rfl _ 0 rfl _ k9s.load) ?_; simp only [Act.put])
            | ((with_reducible show wpList _ _ _ (⟨some 50, .binOp _ _ _ _ _, _, _, _, _⟩ :: _) _ _); refine wpList_run0 rfl (.bool true) (run_neq_pair_op (.tmp 48) (.tmp 49) _ z z' x1 x2 y1 y2 Hz.out Hz'.out rfl rfl rfl L1.out L2.out L3.out L4.out _ Hv.out _) ?_; simp only [Act.put]))
          have hS : Below u4tss.heap.size u4tss u4tss.drew := (Below.refl _ _).drew
          have hz5 := hb4.size
          have hz6 := hb1.size
          replace k6 := k6.drew
          refine wp_region_mix_tail (fun W => Below u4tss.heap.size u4tss W) 5 [(0, true), (2, true), (1, false), (3, false), (4, true)] (by kernel_rfl) (by kernel_rfl) hS fun _ => ?_
          simp only [List.map_cons, List.map_nil, Array.getD_eq_getD_getElem?, List.getElem?_toArray, List.getElem?_cons_succ, List.getElem?_cons_zero, Option.getD_some]
          generalize u4tss.drew = u6 at hS k6 ⊢
          refine wpMix_load (by kernel_rfl) 139 (.tmp 8) rfl (p8) (0) rfl (z.map B).toArray ((fun s => (k8s.step s.ok).load)) ?_
          simp only [Act.put]
          refine wpMix_load (by kernel_rfl) 139 (.tmp 9) rfl (p9) (0) rfl (z'.map B).toArray ((fun s => (k9s.step s.ok).load)) ?_
          simp only [Act.put]
          have hz0_ := hS.size
          refine wpMix_c (fun K hK => ?_) hS
          go_simp
          refine (Pb1.out u6).mono ?_
          rintro e u6a ⟨v8, rfl, hf⟩
          refine hK _ _ ?_
          clear hK K
          have hz8 := hf.2.size
          replace k6 := k6.step hf.2
          replace hS := hS.trans (hf.2.mono hS.size)
          refine ⟨hS, ?_⟩
          have ho8 := owns_le hf.1 (show w.heap.size + 1 ≤ u6.heap.size by omega)
          clear hf
          have hz0_ := hS.size
          refine wpMix_c (fun K hK => ?_) hS
          go_simp
          refine (Pb2.out u6a).mono ?_
          rintro e u6aa ⟨v9, rfl, hf⟩
          refine hK _ _ ?_
          clear hK K
          have hz8 := hf.2.size
          replace k6 := k6.step hf.2
          replace hS := hS.trans (hf.2.mono hS.size)
          refine ⟨hS, ?_⟩
          have ho9 := owns_le hf.1 (show w.heap.size + 1 ≤ u6a.heap.size by omega)
          replace ho8 := owns_step ho8 hf.2
          clear hf
          obtain ⟨A8, c8, rfl, -⟩ := owns_slv ho8
          obtain ⟨A9, c9, rfl, -⟩ := owns_slv ho9
          refine wpMix_v (by kernel_rfl) (.agg #[.slice A8 (nodeD (x1, x2)).length c8, .slice A9 (nodeD (y1, y2)).length c9]) (fun s => by kernel_rfl) ?_
          simp only [Act.put]
          refine wpMix_nil ?_
          intro _
          simp only [List.drop_succ_cons, List.drop_zero]
          refine wpList_clset (.tmp 6) (.tmp 55) rfl rfl k6 rfl rfl rfl rfl ?_
          intro W7 k6s hb19 hW7
          have hgr : u6aa.grownBy W7 (some w.heap.size) := by rw [hW7]; exact grown_setRow (grown_of_below (Below.refl _ _) _) _
          replace ho8 := ho8.kept hgr (.inr fun e => by have := (ho8.lt _ e).1; omega)
          replace ho9 := ho9.kept hgr (.inr fun e => by have := (ho9.lt _ e).1; omega)
          have hbE := ((hb4.trans (hS.mono hb4.size))).trans (hb19.mono (Nat.le_refl _))
          clear hW7 hgr
          simp only [Act.put]
          go_wp2_with fail
          refine np_normal ?_
          go_wp2_with fail
          exact ⟨bodyPost_ret (ret_clash1 rfl rfl k6s) rfl ⟨_, rfl, ⟨_, _, rfl, owns_le ho8 (Nat.le_succ _), owns_le ho9 (Nat.le_succ _)⟩, hbE⟩⟩
end Go.Proofs.Ytonidnfgneokbaa
