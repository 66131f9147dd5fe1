/- notaryref14.Same, From. -/
import Derived.Test.YtfhmjgkcpcnkbaaDoorQf131
namespace Go.Proofs.YtfhmjgkcpcnkbaaDoor
open Go Go.RowKit
attribute [local go_sem] Oper.semAt_some

theorem run_neqI_op {ρ : Operand → Value} {o : Oper} {T : TypeId} (x y : Operand) (ty : TypeId) (a b : Int) (v : Bool) (ho : o.op = .binOp .neq T x y ty) (hx : ρ x = .int .i64 a) (hy : ρ y = .int .i64 b) (hv : (a != b) = v) (W : World) :
    (execOp ρ o).run Tryd.prog W = .ok (.value (.bool v)) W := by
  subst hv
  unfold execOp
  simp only [ho, hx, hy]
  go_simp
theorem Ts.cells {W : World} {X : Nat → Prop} {A : Option Addr} {n c : Nat} {ts : List TileV} (h : Ts W X A n c ts) {b o : Nat} (hA : A = some ⟨b, o, none⟩) (i : Nat) (hi : i < ts.length) : ∃ Ai ci, (∀ V, Below W.heap.size W V → V.cell? ⟨b, o + i * 3, none⟩ = some (.int .i64 (ts[i]).1) ∧ V.cell? ⟨b, o + i * 3 + 1, none⟩ = some (.int .i64 (ts[i]).2.1) ∧ V.cell? ⟨b, o + i * 3 + 2, none⟩ = some (.slice Ai (ts[i]).2.2.length ci)) ∧ Hs W X Ai (ts[i]).2.2.length ci (ts[i]).2.2 ∧
    (∀ V, Below W.heap.size W V → (Instr.loadAt 38 (.pointer (some ⟨b, o + i * 3, none⟩))).run Tryd.prog V = .ok (.agg #[.int .i64 (ts[i]).1, .int .i64 (ts[i]).2.1, .slice Ai (ts[i]).2.2.length ci]) V) := by
  have hn : 0 < n := by have := h.len; omega
  obtain ⟨b', o', e, hb, -, hat⟩ := h.at_ hn
  rw [hA] at e
  cases e
  obtain ⟨Ai, ci, h1, h2, h3, h4, h5⟩ := hat i hi
  refine ⟨Ai, ci, fun V hV => ⟨(World.cell?_of_block (hV.block b hb)).trans h1, (World.cell?_of_block (hV.block b hb)).trans h2, (World.cell?_of_block (hV.block b hb)).trans h3⟩, h4, fun V hV => ?_⟩
  refine run_load_agg (aggTile _) (sizeTile _) b (o + i * 3) [.int .i64 (ts[i]).1, .int .i64 (ts[i]).2.1, .slice Ai (ts[i]).2.2.length ci] rfl fun j u hu => ?_
  rcases j with _ | _ | _ | j
  · cases hu; exact (World.cell?_of_block (hV.block b hb)).trans h1
  · cases hu; exact (World.cell?_of_block (hV.block b hb)).trans h2
  · cases hu; exact (World.cell?_of_block (hV.block b hb)).trans h3
  · cases hu
theorem tile_snoc (ts : List TileV) (k : Nat) (h : k < ts.length) : ts.take (k + 1) = ts.take k ++ [ts[k]] := List.take_succ_eq_append_getElem h
set_option maxHeartbeats 8000000 in
set_option maxRecDepth 100000 in
theorem rsameT_any (ts us : List TileV) (A A' : Option Addr) (n n' c c' : Nat) (w : World) (h1 : Ts w (fun _ => True) A n c ts) (h2 : Ts w (fun _ => True) A' n' c' us) (hn : n ≤ 1000000) (hn' : n' ≤ 1000000) (hs1 : ∀ t ∈ ts, t.2.2.length ≤ 1000000) (hs2 : ∀ t ∈ us, t.2.2.length ≤ 1000000) :
    Calls Tryd.prog 40 #[.slice A n c, .slice A' n' c'] w fun e w' => e = .returned (.bool (decide (ts = us))) ∧ Below w.heap.size w w' := by
  have hl1 := h1.len
  have hl2 := h2.len
  have hr1 := h1.room
  have hr2 := h2.room
  unfold maxLen at hr1 hr2
  by_cases hne : n = n'
  · subst hne
    obtain ⟨res, hres⟩ : ∃ r, decide (ts = us) = r := ⟨_, rfl⟩
    rw [hres]
    have Hres := Lib.hid hres
    have H1 := Lib.hid h1
    have H2 := Lib.hid h2
    have Hl1 := Lib.hid hl1
    have Hl2 := Lib.hid hl2
    have Hs1 := Lib.hid hs1
    have Hs2 := Lib.hid hs2
    clear hres h1 h2 hl1 hl2 hs1 hs2
    go_enter Tryd.func40, Tryd.ntmps40
    go_wp2_with fail
    go_loopw [5] (fun v wr => ∃ q : Nat, q ≤ n ∧ v = .int .i64 (q : Int) ∧ ts.take q = us.take q ∧ Below w.heap.size w wr) (fun v _ => n - (intOf v).toNat)
    case atStart => exact ⟨0, Nat.zero_le _, rfl, rfl, Below.refl _ _⟩
    case round =>
      obtain ⟨q, hq, rfl, htk, hb⟩ := hrel
      by_cases hlq : q < n
      · have hd : decide ((q : Int) < (n : Int)) = true := by simp; omega
        have hwq : IntKind.i64.wrap ((q : Int) + 1) = (q : Int) + 1 := IntWalk.i64_in _ (by omega)
        have hq1 : q < ts.length := by rw [Hl1.out]; exact hlq
        have hq2 : q < us.length := by rw [Hl2.out]; exact hlq
        obtain ⟨b1, o1, rfl, -, -, -⟩ := H1.out.at_ (by omega)
        obtain ⟨b2, o2, rfl, -, -, -⟩ := H2.out.at_ (by omega)
        obtain ⟨Ax, cx, hcx, hhx, -⟩ := (H1.out.step hb).cells rfl q hq1
        obtain ⟨Ay, cy, hcy, hhy, -⟩ := (H2.out.step hb).cells rfl q hq2
        have hsx := Hs1.out _ (List.getElem_mem hq1)
        have hsy := Hs2.out _ (List.getElem_mem hq2)
        have t1 := tile_snoc ts q hq1
        have t2 := tile_snoc us q hq2
        have hgd : ts = us → ts[q] = us[q] := fun e => by simp [e]
        obtain ⟨⟨xl, xi, xh⟩, hx⟩ : ∃ x, ts[q] = x := ⟨_, rfl⟩
        obtain ⟨⟨yl, yi, yh⟩, hy⟩ : ∃ y, us[q] = y := ⟨_, rfl⟩
        rw [hx] at hcx hhx hsx t1 hgd
        rw [hy] at hcy hhy hsy t2 hgd
        dsimp only at hcx hhx hsx hcy hhy hsy
        obtain ⟨nx, hnx⟩ : ∃ k, xh.length = k := ⟨_, rfl⟩
        obtain ⟨ny, hny⟩ : ∃ k, yh.length = k := ⟨_, rfl⟩
        rw [hnx] at hcx hhx hsx
        rw [hny] at hcy hhy hsy
        have hsame := fun V (hV : Below wr.heap.size wr V) => same8_any xh yh Ax Ay nx ny cx cy V (hhx.step hV) (hhy.step hV) (by omega) (by omega)
        have c21 : ∀ s : InC (fun V => Below wr.heap.size wr V), s.W.cell? ⟨b1, o1 + q * 3, none⟩ = some (.int .i64 xl) := fun s => (hcx s.W s.ok).1
        have c26 : ∀ s : InC (fun V => Below wr.heap.size wr V), s.W.cell? ⟨b2, o2 + q * 3, none⟩ = some (.int .i64 yl) := fun s => (hcy s.W s.ok).1
        have c33 : ∀ s : InC (fun V => Below wr.heap.size wr V), s.W.cell? ⟨b1, o1 + q * 3 + 1, none⟩ = some (.int .i64 xi) := fun s => (hcx s.W s.ok).2.1
        have c38 : ∀ s : InC (fun V => Below wr.heap.size wr V), s.W.cell? ⟨b2, o2 + q * 3 + 1, none⟩ = some (.int .i64 yi) := fun s => (hcy s.W s.ok).2.1
        have c46 : ∀ s : InC (fun V => Below wr.heap.size wr V), s.W.cell? ⟨b1, o1 + q * 3 + 2, none⟩ = some (.slice Ax nx cx) := fun s => (hcx s.W s.ok).2.2
        have c51 : ∀ s : InC (fun V => Below wr.heap.size wr V), s.W.cell? ⟨b2, o2 + q * 3 + 2, none⟩ = some (.slice Ay ny cy) := fun s => (hcy s.W s.ok).2.2
        have Hb := Lib.hid hb
        have Hgd := Lib.hid hgd
        have Ht1 := Lib.hid t1
        have Ht2 := Lib.hid t2
        have Htk := Lib.hid htk
        have hS : Below wr.heap.size wr wr.drew := (Below.refl _ _).drew
        clear hcx hcy hhx hhy t1 t2 hgd hb htk hnx hny hx hy hq1 hq2
        by_cases hl : xl = yl
        · have b1_ : (xl != yl) = false := by simp [hl]
          have Hb1 := Lib.hid b1_
          by_cases hi : xi = yi
          · have b2_ : (xi != yi) = false := by simp [hi]
            have Hb2 := Lib.hid b2_
            by_cases hh : xh = yh
            · have dd : decide (xh = yh) = true := by simpa using hh
              have htk2 : ts.take (q + 1) = us.take (q + 1) := by rw [Ht1.out, Ht2.out, Htk.out, hl, hi, hh]
              have Htk2 := Lib.hid htk2
              rw [dd] at hsame
              have Hsame := Lib.hid hsame
              clear dd htk2 hl hi hh b1_ b2_ hsame
              go_upto_region 6 with fail
              refine wp_region_mix (fun V => Below wr.heap.size wr V) [(0, true), (1, true), (2, true), (3, true), (4, true), (5, true), (6, true), (7, true), (8, true), (9, true), (10, true), (11, true), (12, true), (13, true), (14, true), (15, true), (16, true), (17, true), (18, true), (19, true), (20, true), (21, true), (22, true), (23, true), (24, true), (25, true), (26, true), (27, true), (28, true), (29, true), (30, true), (31, true), (32, true), (33, true), (34, true), (35, false), (36, true), (37, true)] (by kernel_rfl) (by kernel_rfl) hS fun _ => ?_
              simp only [List.map_cons, List.map_nil, Array.getD_eq_getD_getElem?, List.getElem?_toArray, List.getElem?_cons_succ, List.getElem?_cons_zero, Option.getD_some]
              generalize wr.drew = V0 at hS ⊢
              refine wpMix_s (fun K hK => ?_)
              go_simp
              refine hK _ ?_
              clear hK K
              refine wpMix_s (fun K hK => ?_)
              go_simp
              refine hK _ ?_
              clear hK K
              refine wpMix_s (fun K hK => ?_)
              go_simp
              refine hK _ ?_
              clear hK K
              refine wpMix_s (fun K hK => ?_)
              go_simp
              refine hK _ ?_
              clear hK K
              refine wpMix_s (fun K hK => ?_)
              go_simp
              refine hK _ ?_
              clear hK K
              refine wpMix_s (fun K hK => ?_)
              go_simp
              refine hK _ ?_
              clear hK K
              refine wpMix_s (fun K hK => ?_)
              go_simp
              refine hK _ ?_
              clear hK K
              refine wpMix_s (fun K hK => ?_)
              go_simp
              refine hK _ ?_
              clear hK K
              refine wpMix_s (fun K hK => ?_)
              go_simp
              refine hK _ ?_
              clear hK K
              refine wpMix_s (fun K hK => ?_)
              go_simp
              refine hK _ ?_
              clear hK K
              refine wpMix_v (by kernel_rfl) (.bool false) (fun s => run_neqI_op (.tmp 21) (.tmp 26) _ xl yl _ rfl rfl rfl Hb1.out s.W) ?_
              simp only [Act.put, List.setIfInBounds_toArray, List.set_cons_succ, List.set_cons_zero]
              refine wpMix_s (fun K hK => ?_)
              go_simp
              refine hK _ ?_
              clear hK K
              refine wpMix_s (fun K hK => ?_)
              go_simp
              refine hK _ ?_
              clear hK K
              refine wpMix_s (fun K hK => ?_)
              go_simp
              refine hK _ ?_
              clear hK K
              refine wpMix_s (fun K hK => ?_)
              go_simp
              refine hK _ ?_
              clear hK K
              refine wpMix_s (fun K hK => ?_)
              go_simp
              refine hK _ ?_
              clear hK K
              refine wpMix_s (fun K hK => ?_)
              go_simp
              refine hK _ ?_
              clear hK K
              refine wpMix_s (fun K hK => ?_)
              go_simp
              refine hK _ ?_
              clear hK K
              refine wpMix_s (fun K hK => ?_)
              go_simp
              refine hK _ ?_
              clear hK K
              refine wpMix_s (fun K hK => ?_)
              go_simp
              refine hK _ ?_
              clear hK K
              refine wpMix_s (fun K hK => ?_)
              go_simp
              refine hK _ ?_
              clear hK K
              refine wpMix_s (fun K hK => ?_)
              go_simp
              refine hK _ ?_
              clear hK K
              refine wpMix_v (by kernel_rfl) (.bool false) (fun s => run_neqI_op (.tmp 33) (.tmp 38) _ xi yi _ rfl rfl rfl Hb2.out s.W) ?_
              simp only [Act.put, List.setIfInBounds_toArray, List.set_cons_succ, List.set_cons_zero]
              refine wpMix_s (fun K hK => ?_)
              go_simp
              refine hK _ ?_
              clear hK K
              refine wpMix_s (fun K hK => ?_)
              go_simp
              refine hK _ ?_
              clear hK K
              refine wpMix_s (fun K hK => ?_)
              go_simp
              refine hK _ ?_
              clear hK K
              refine wpMix_s (fun K hK => ?_)
              go_simp
              refine hK _ ?_
              clear hK K
              refine wpMix_s (fun K hK => ?_)
              go_simp
              refine hK _ ?_
              clear hK K
              refine wpMix_s (fun K hK => ?_)
              go_simp
              refine hK _ ?_
              clear hK K
              refine wpMix_s (fun K hK => ?_)
              go_simp
              refine hK _ ?_
              clear hK K
              refine wpMix_s (fun K hK => ?_)
              go_simp
              refine hK _ ?_
              clear hK K
              refine wpMix_s (fun K hK => ?_)
              go_simp
              refine hK _ ?_
              clear hK K
              refine wpMix_s (fun K hK => ?_)
              go_simp
              refine hK _ ?_
              clear hK K
              refine wpMix_s (fun K hK => ?_)
              go_simp
              refine hK _ ?_
              clear hK K
              refine wpMix_s (fun K hK => ?_)
              go_simp
              refine hK _ ?_
              clear hK K
              refine wpMix_c (fun K hK => ?_) hS
              go_simp
              refine (Hsame.out V0 hS).mono ?_
              rintro e V0_1 ⟨rfl, hb'⟩
              refine hK _ _ ?_
              clear hK K
              replace hS := hS.trans (hb'.mono hS.size)
              refine ⟨hS, ?_⟩
              clear hb'
              refine wpMix_s (fun K hK => ?_)
              go_simp
              refine hK _ ?_
              clear hK K
              refine wpMix_s (fun K hK => ?_)
              go_simp
              refine hK _ ?_
              clear hK K
              refine wpMix_nil ?_
              intro _
              have Hbe := Lib.hid (Hb.out.trans (hS.mono Hb.out.size))
              clear hS c21 c26 c33 c38 c46 c51
              go_wp2_with fail
              go_roundw
              case rel => exact ⟨q + 1, by omega, by go_num, Htk2.out, Hbe.out⟩
              case measure => simp [intOf]; omega
            · have dd : decide (xh = yh) = false := by simpa using hh
              have hr : res = false := by rw [← Hres.out]; exact decide_eq_false fun e => hh (by have := Hgd.out e; cases this; rfl)
              have Hr := Lib.hid hr
              rw [dd] at hsame
              have Hsame := Lib.hid hsame
              clear dd hr hl hi hh b1_ b2_ hsame
              go_upto_region 6 with fail
              refine wp_region_mix (fun V => Below wr.heap.size wr V) [(0, true), (1, true), (2, true), (3, true), (4, true), (5, true), (6, true), (7, true), (8, true), (9, true), (10, true), (11, true), (12, true), (13, true), (14, true), (15, true), (16, true), (17, true), (18, true), (19, true), (20, true), (21, true), (22, true), (23, true), (24, true), (25, true), (26, true), (27, true), (28, true), (29, true), (30, true), (31, true), (32, true), (33, true), (34, true), (35, false), (36, true), (37, true)] (by kernel_rfl) (by kernel_rfl) hS fun _ => ?_
              simp only [List.map_cons, List.map_nil, Array.getD_eq_getD_getElem?, List.getElem?_toArray, List.getElem?_cons_succ, List.getElem?_cons_zero, Option.getD_some]
              generalize wr.drew = V0 at hS ⊢
              refine wpMix_s (fun K hK => ?_)
              go_simp
              refine hK _ ?_
              clear hK K
              refine wpMix_s (fun K hK => ?_)
              go_simp
              refine hK _ ?_
              clear hK K
              refine wpMix_s (fun K hK => ?_)
              go_simp
              refine hK _ ?_
              clear hK K
              refine wpMix_s (fun K hK => ?_)
              go_simp
              refine hK _ ?_
              clear hK K
              refine wpMix_s (fun K hK => ?_)
              go_simp
              refine hK _ ?_
              clear hK K
              refine wpMix_s (fun K hK => ?_)
              go_simp
              refine hK _ ?_
              clear hK K
              refine wpMix_s (fun K hK => ?_)
              go_simp
              refine hK _ ?_
              clear hK K
              refine wpMix_s (fun K hK => ?_)
              go_simp
              refine hK _ ?_
              clear hK K
              refine wpMix_s (fun K hK => ?_)
              go_simp
              refine hK _ ?_
              clear hK K
              refine wpMix_s (fun K hK => ?_)
              go_simp
              refine hK _ ?_
              clear hK K
              refine wpMix_v (by kernel_rfl) (.bool false) (fun s => run_neqI_op (.tmp 21) (.tmp 26) _ xl yl _ rfl rfl rfl Hb1.out s.W) ?_
              simp only [Act.put, List.setIfInBounds_toArray, List.set_cons_succ, List.set_cons_zero]
              refine wpMix_s (fun K hK => ?_)
              go_simp
              refine hK _ ?_
              clear hK K
              refine wpMix_s (fun K hK => ?_)
              go_simp
              refine hK _ ?_
              clear hK K
              refine wpMix_s (fun K hK => ?_)
              go_simp
              refine hK _ ?_
              clear hK K
              refine wpMix_s (fun K hK => ?_)
              go_simp
              refine hK _ ?_
              clear hK K
              refine wpMix_s (fun K hK => ?_)
              go_simp
              refine hK _ ?_
              clear hK K
              refine wpMix_s (fun K hK => ?_)
              go_simp
              refine hK _ ?_
              clear hK K
              refine wpMix_s (fun K hK => ?_)
              go_simp
              refine hK _ ?_
              clear hK K
              refine wpMix_s (fun K hK => ?_)
              go_simp
              refine hK _ ?_
              clear hK K
              refine wpMix_s (fun K hK => ?_)
              go_simp
              refine hK _ ?_
              clear hK K
              refine wpMix_s (fun K hK => ?_)
              go_simp
              refine hK _ ?_
              clear hK K
              refine wpMix_s (fun K hK => ?_)
              go_simp
              refine hK _ ?_
              clear hK K
              refine wpMix_v (by kernel_rfl) (.bool false) (fun s => run_neqI_op (.tmp 33) (.tmp 38) _ xi yi _ rfl rfl rfl Hb2.out s.W) ?_
              simp only [Act.put, List.setIfInBounds_toArray, List.set_cons_succ, List.set_cons_zero]
              refine wpMix_s (fun K hK => ?_)
              go_simp
              refine hK _ ?_
              clear hK K
              refine wpMix_s (fun K hK => ?_)
              go_simp
              refine hK _ ?_
              clear hK K
              refine wpMix_s (fun K hK => ?_)
              go_simp
              refine hK _ ?_
              clear hK K
              refine wpMix_s (fun K hK => ?_)
              go_simp
              refine hK _ ?_
              clear hK K
              refine wpMix_s (fun K hK => ?_)
              go_simp
              refine hK _ ?_
              clear hK K
              refine wpMix_s (fun K hK => ?_)
              go_simp
              refine hK _ ?_
              clear hK K
              refine wpMix_s (fun K hK => ?_)
              go_simp
              refine hK _ ?_
              clear hK K
              refine wpMix_s (fun K hK => ?_)
              go_simp
              refine hK _ ?_
              clear hK K
              refine wpMix_s (fun K hK => ?_)
              go_simp
              refine hK _ ?_
              clear hK K
              refine wpMix_s (fun K hK => ?_)
              go_simp
              refine hK _ ?_
              clear hK K
              refine wpMix_s (fun K hK => ?_)
              go_simp
              refine hK _ ?_
              clear hK K
              refine wpMix_s (fun K hK => ?_)
              go_simp
              refine hK _ ?_
              clear hK K
              refine wpMix_c (fun K hK => ?_) hS
              go_simp
              refine (Hsame.out V0 hS).mono ?_
              rintro e V0_1 ⟨rfl, hb'⟩
              refine hK _ _ ?_
              clear hK K
              replace hS := hS.trans (hb'.mono hS.size)
              refine ⟨hS, ?_⟩
              clear hb'
              refine wpMix_s (fun K hK => ?_)
              go_simp
              refine hK _ ?_
              clear hK K
              refine wpMix_s (fun K hK => ?_)
              go_simp
              refine hK _ ?_
              clear hK K
              refine wpMix_nil ?_
              intro _
              have Hbe := Lib.hid (Hb.out.trans (hS.mono Hb.out.size))
              clear hS c21 c26 c33 c38 c46 c51
              go_wp2_with fail
              go_ret
              rw [Hr.out]
              exact ⟨rfl, Hbe.out⟩
          · have b2_ : (xi != yi) = true := by simpa using hi
            have Hb2 := Lib.hid b2_
            have hr : res = false := by rw [← Hres.out]; exact decide_eq_false fun e => hi (by have := Hgd.out e; cases this; rfl)
            have Hr := Lib.hid hr
            clear hr hl hi b1_ b2_ hsame
            go_upto_region 6 with fail
            refine wp_region_mix (fun V => Below wr.heap.size wr V) [(0, true), (1, true), (2, true), (3, true), (4, true), (5, true), (6, true), (7, true), (8, true), (9, true), (10, true), (11, true), (12, true), (13, true), (14, true), (15, true), (16, true), (17, true), (18, true), (19, true), (20, true), (21, true), (22, true), (23, true), (24, true), (25, true), (26, true), (27, true), (28, true), (29, true), (30, true), (31, true), (32, true), (33, true), (34, true), (35, false), (36, true), (37, true)] (by kernel_rfl) (by kernel_rfl) hS fun _ => ?_
            simp only [List.map_cons, List.map_nil, Array.getD_eq_getD_getElem?, List.getElem?_toArray, List.getElem?_cons_succ, List.getElem?_cons_zero, Option.getD_some]
            generalize wr.drew = V0 at hS ⊢
            refine wpMix_s (fun K hK => ?_)
            go_simp
            refine hK _ ?_
            clear hK K
            refine wpMix_s (fun K hK => ?_)
            go_simp
            refine hK _ ?_
            clear hK K
            refine wpMix_s (fun K hK => ?_)
            go_simp
            refine hK _ ?_
            clear hK K
            refine wpMix_s (fun K hK => ?_)
            go_simp
            refine hK _ ?_
            clear hK K
            refine wpMix_s (fun K hK => ?_)
            go_simp
            refine hK _ ?_
            clear hK K
            refine wpMix_s (fun K hK => ?_)
            go_simp
            refine hK _ ?_
            clear hK K
            refine wpMix_s (fun K hK => ?_)
            go_simp
            refine hK _ ?_
            clear hK K
            refine wpMix_s (fun K hK => ?_)
            go_simp
            refine hK _ ?_
            clear hK K
            refine wpMix_s (fun K hK => ?_)
            go_simp
            refine hK _ ?_
            clear hK K
            refine wpMix_s (fun K hK => ?_)
            go_simp
            refine hK _ ?_
            clear hK K
            refine wpMix_v (by kernel_rfl) (.bool false) (fun s => run_neqI_op (.tmp 21) (.tmp 26) _ xl yl _ rfl rfl rfl Hb1.out s.W) ?_
            simp only [Act.put, List.setIfInBounds_toArray, List.set_cons_succ, List.set_cons_zero]
            refine wpMix_s (fun K hK => ?_)
            go_simp
            refine hK _ ?_
            clear hK K
            refine wpMix_s (fun K hK => ?_)
            go_simp
            refine hK _ ?_
            clear hK K
            refine wpMix_s (fun K hK => ?_)
            go_simp
            refine hK _ ?_
            clear hK K
            refine wpMix_s (fun K hK => ?_)
            go_simp
            refine hK _ ?_
            clear hK K
            refine wpMix_s (fun K hK => ?_)
            go_simp
            refine hK _ ?_
            clear hK K
            refine wpMix_s (fun K hK => ?_)
            go_simp
            refine hK _ ?_
            clear hK K
            refine wpMix_s (fun K hK => ?_)
            go_simp
            refine hK _ ?_
            clear hK K
            refine wpMix_s (fun K hK => ?_)
            go_simp
            refine hK _ ?_
            clear hK K
            refine wpMix_s (fun K hK => ?_)
            go_simp
            refine hK _ ?_
            clear hK K
            refine wpMix_s (fun K hK => ?_)
            go_simp
            refine hK _ ?_
            clear hK K
            refine wpMix_s (fun K hK => ?_)
            go_simp
            refine hK _ ?_
            clear hK K
            refine wpMix_v (by kernel_rfl) (.bool true) (fun s => run_neqI_op (.tmp 33) (.tmp 38) _ xi yi _ rfl rfl rfl Hb2.out s.W) ?_
            simp only [Act.put, List.setIfInBounds_toArray, List.set_cons_succ, List.set_cons_zero]
            refine wpMix_s (fun K hK => ?_)
            go_simp
            refine hK _ ?_
            clear hK K
            refine wpMix_s (fun K hK => ?_)
            go_simp
            refine hK _ ?_
            clear hK K
            refine wpMix_s (fun K hK => ?_)
            go_simp
            refine hK _ ?_
            clear hK K
            refine wpMix_s (fun K hK => ?_)
            go_simp
            refine hK _ ?_
            clear hK K
            refine wpMix_s (fun K hK => ?_)
            go_simp
            refine hK _ ?_
            clear hK K
            refine wpMix_s (fun K hK => ?_)
            go_simp
            refine hK _ ?_
            clear hK K
            refine wpMix_s (fun K hK => ?_)
            go_simp
            refine hK _ ?_
            clear hK K
            refine wpMix_s (fun K hK => ?_)
            go_simp
            refine hK _ ?_
            clear hK K
            refine wpMix_s (fun K hK => ?_)
            go_simp
            refine hK _ ?_
            clear hK K
            refine wpMix_s (fun K hK => ?_)
            go_simp
            refine hK _ ?_
            clear hK K
            refine wpMix_s (fun K hK => ?_)
            go_simp
            refine hK _ ?_
            clear hK K
            refine wpMix_s (fun K hK => ?_)
            go_simp
            refine hK _ ?_
            clear hK K
            refine wpMix_c (fun K hK => ?_) hS
            go_simp
            refine hK _ _ ?_
            clear hK K
            refine ⟨hS, ?_⟩
            refine wpMix_s (fun K hK => ?_)
            go_simp
            refine hK _ ?_
            clear hK K
            refine wpMix_s (fun K hK => ?_)
            go_simp
            refine hK _ ?_
            clear hK K
            refine wpMix_nil ?_
            intro _
            have Hbe := Lib.hid (Hb.out.trans (hS.mono Hb.out.size))
            clear hS c21 c26 c33 c38 c46 c51
            go_wp2_with fail
            go_ret
            rw [Hr.out]
            exact ⟨rfl, Hbe.out⟩
        · have b1_ : (xl != yl) = true := by simpa using hl
          have Hb1 := Lib.hid b1_
          have hr : res = false := by rw [← Hres.out]; exact decide_eq_false fun e => hl (by have := Hgd.out e; cases this; rfl)
          have Hr := Lib.hid hr
          clear hr hl b1_ hsame
          go_upto_region 6 with fail
          refine wp_region_mix (fun V => Below wr.heap.size wr V) [(0, true), (1, true), (2, true), (3, true), (4, true), (5, true), (6, true), (7, true), (8, true), (9, true), (10, true), (11, true), (12, true), (13, true), (14, true), (15, true), (16, true), (17, true), (18, true), (19, true), (20, true), (21, true), (22, true), (23, true), (24, true), (25, true), (26, true), (27, true), (28, true), (29, true), (30, true), (31, true), (32, true), (33, true), (34, true), (35, false), (36, true), (37, true)] (by kernel_rfl) (by kernel_rfl) hS fun _ => ?_
          simp only [List.map_cons, List.map_nil, Array.getD_eq_getD_getElem?, List.getElem?_toArray, List.getElem?_cons_succ, List.getElem?_cons_zero, Option.getD_some]
          generalize wr.drew = V0 at hS ⊢
          refine wpMix_s (fun K hK => ?_)
          go_simp
          refine hK _ ?_
          clear hK K
          refine wpMix_s (fun K hK => ?_)
          go_simp
          refine hK _ ?_
          clear hK K
          refine wpMix_s (fun K hK => ?_)
          go_simp
          refine hK _ ?_
          clear hK K
          refine wpMix_s (fun K hK => ?_)
          go_simp
          refine hK _ ?_
          clear hK K
          refine wpMix_s (fun K hK => ?_)
          go_simp
          refine hK _ ?_
          clear hK K
          refine wpMix_s (fun K hK => ?_)
          go_simp
          refine hK _ ?_
          clear hK K
          refine wpMix_s (fun K hK => ?_)
          go_simp
          refine hK _ ?_
          clear hK K
          refine wpMix_s (fun K hK => ?_)
          go_simp
          refine hK _ ?_
          clear hK K
          refine wpMix_s (fun K hK => ?_)
          go_simp
          refine hK _ ?_
          clear hK K
          refine wpMix_s (fun K hK => ?_)
          go_simp
          refine hK _ ?_
          clear hK K
          refine wpMix_v (by kernel_rfl) (.bool true) (fun s => run_neqI_op (.tmp 21) (.tmp 26) _ xl yl _ rfl rfl rfl Hb1.out s.W) ?_
          simp only [Act.put, List.setIfInBounds_toArray, List.set_cons_succ, List.set_cons_zero]
          refine wpMix_s (fun K hK => ?_)
          go_simp
          refine hK _ ?_
          clear hK K
          refine wpMix_s (fun K hK => ?_)
          go_simp
          refine hK _ ?_
          clear hK K
          refine wpMix_s (fun K hK => ?_)
          go_simp
          refine hK _ ?_
          clear hK K
          refine wpMix_s (fun K hK => ?_)
          go_simp
          refine hK _ ?_
          clear hK K
          refine wpMix_s (fun K hK => ?_)
          go_simp
          refine hK _ ?_
          clear hK K
          refine wpMix_s (fun K hK => ?_)
          go_simp
          refine hK _ ?_
          clear hK K
          refine wpMix_s (fun K hK => ?_)
          go_simp
          refine hK _ ?_
          clear hK K
          refine wpMix_s (fun K hK => ?_)
          go_simp
          refine hK _ ?_
          clear hK K
          refine wpMix_s (fun K hK => ?_)
          go_simp
          refine hK _ ?_
          clear hK K
          refine wpMix_s (fun K hK => ?_)
          go_simp
          refine hK _ ?_
          clear hK K
          refine wpMix_s (fun K hK => ?_)
          go_simp
          refine hK _ ?_
          clear hK K
          refine wpMix_s (fun K hK => ?_)
          go_simp
          refine hK _ ?_
          clear hK K
          refine wpMix_s (fun K hK => ?_)
          go_simp
          refine hK _ ?_
          clear hK K
          refine wpMix_s (fun K hK => ?_)
          go_simp
          refine hK _ ?_
          clear hK K
          refine wpMix_s (fun K hK => ?_)
          go_simp
          refine hK _ ?_
          clear hK K
          refine wpMix_s (fun K hK => ?_)
          go_simp
          refine hK _ ?_
          clear hK K
          refine wpMix_s (fun K hK => ?_)
          go_simp
          refine hK _ ?_
          clear hK K
          refine wpMix_s (fun K hK => ?_)
          go_simp
          refine hK _ ?_
          clear hK K
          refine wpMix_s (fun K hK => ?_)
          go_simp
          refine hK _ ?_
          clear hK K
          refine wpMix_s (fun K hK => ?_)
          go_simp
          refine hK _ ?_
          clear hK K
          refine wpMix_s (fun K hK => ?_)
          go_simp
          refine hK _ ?_
          clear hK K
          refine wpMix_s (fun K hK => ?_)
          go_simp
          refine hK _ ?_
          clear hK K
          refine wpMix_s (fun K hK => ?_)
          go_simp
          refine hK _ ?_
          clear hK K
          refine wpMix_s (fun K hK => ?_)
          go_simp
          refine hK _ ?_
          clear hK K
          refine wpMix_c (fun K hK => ?_) hS
          go_simp
          refine hK _ _ ?_
          clear hK K
          refine ⟨hS, ?_⟩
          refine wpMix_s (fun K hK => ?_)
          go_simp
          refine hK _ ?_
          clear hK K
          refine wpMix_s (fun K hK => ?_)
          go_simp
          refine hK _ ?_
          clear hK K
          refine wpMix_nil ?_
          intro _
          have Hbe := Lib.hid (Hb.out.trans (hS.mono Hb.out.size))
          clear hS c21 c26 c33 c38 c46 c51
          go_wp2_with fail
          go_ret
          rw [Hr.out]
          exact ⟨rfl, Hbe.out⟩
      · obtain rfl : q = n := by omega
        have hd : decide ((q : Int) < (q : Int)) = false := by simp
        have hr : res = true := by
          rw [← Hres.out, decide_eq_true_eq]
          rw [List.take_of_length_le (by rw [Hl1.out]; exact Nat.le_refl _), List.take_of_length_le (by rw [Hl2.out]; exact Nat.le_refl _)] at htk
          exact htk
        have Hr := Lib.hid hr
        have Hb2 := Lib.hid hb
        clear hr htk hb
        go_wp2_with fail
        go_ret
        rw [Hr.out]
        exact ⟨rfl, Hb2.out⟩
  · have hr : decide (ts = us) = false := decide_eq_false fun e => hne (by rw [← hl1, ← hl2, e])
    rw [hr]
    have hb : ((n : Int) == (n' : Int)) = false := by simp; omega
    have hbn : (n == n') = false := by simpa using hne
    clear h1 h2 hl1 hl2 hr hne hs1 hs2
    go_enter Tryd.func40, Tryd.ntmps40
    go_wp2_with fail
    go_ret
    exact ⟨rfl, Below.refl _ _⟩
end Go.Proofs.YtfhmjgkcpcnkbaaDoor
/- notaryref14.From. -/
namespace Go.Proofs.YtfhmjgkcpcnkbaaDoor
open Go Go.RowKit
attribute [local go_sem] Oper.semAt_some

/-- the leaves' hashes of tiles -/
def leaves0 (ts : List TileV) : HL := ts.flatMap fun t => if t.1 = 0 then t.2.2 else []
theorem leaves0_snoc (ts : List TileV) (t : TileV) : leaves0 (ts ++ [t]) = leaves0 ts ++ if t.1 = 0 then t.2.2 else [] := by simp [leaves0]
theorem leaves0_take (ts : List TileV) (k : Nat) : (leaves0 (ts.take k)).length ≤ (leaves0 ts).length := by
  have : leaves0 ts = leaves0 (ts.take k) ++ leaves0 (ts.drop k) := by
    unfold leaves0
    rw [← List.flatMap_append, List.take_append_drop]
  rw [this, List.length_append]
  omega
/-- what From answers: the leaves, the error -/
def fromT14 (z size : Int) (ts : List TileV) : HL × Int :=
  if z < 1 ∨ 8 < z ∨ size < 0 then ([], 2) else if ((leaves0 ts).length : Int) ≠ size then ([], 240) else if ts = tilesL z.toNat (leaves0 ts) then (leaves0 ts, 0) else ([], 240)
theorem tilesL_rows (h : Nat) (L : HL) (t : TileV) (ht : t ∈ tilesL h L) : t.2.2.length ≤ 2 ^ h := by
  unfold tilesL at ht
  obtain ⟨y, -, rfl⟩ := List.mem_map.1 ht
  exact tileG_len h L (y.1 : Int) (y.2.1 : Int)
theorem leaves0_32 {W : World} {X : Nat → Prop} {A : Option Addr} {n c : Nat} {ts : List TileV} (h : Ts W X A n c ts) : H32 (leaves0 ts) := by
  intro x hx
  unfold leaves0 at hx
  obtain ⟨t, ht, hx⟩ := List.mem_flatMap.1 hx
  split at hx
  · obtain ⟨i, hi, rfl⟩ := List.getElem_of_mem ht
    obtain ⟨b, o, hA, -, -, -⟩ := h.at_ (by have := h.len; omega)
    obtain ⟨Ai, ci, -, hh, -⟩ := h.cells hA i hi
    exact hh.all x hx
  · cases hx
theorem grown_own {W W' : World} {lo n s : Nat} {e : TypeId} {v : Value} {xs : List Value} {w : World} (hb : Below lo w W) (ho : W.ownsRow lo e s v n xs) (hg : W.grownBy W' v.ownBlock) (hlo : lo ≤ W.heap.size) : Below lo w W' :=
  hb.grown hg hlo fun k hk => by
    rcases ho.2 with ⟨rfl, _⟩ | ⟨g, cap, cur, rfl, hg0, _⟩
    · cases hk
    · cases hk
      exact hg0
set_option maxHeartbeats 8000000 in
set_option maxRecDepth 100000 in
theorem rfrom_any (z size : Int) (ts : List TileV) (A : Option Addr) (n c : Nat) (w : World) (h : Ts w (fun _ => True) A n c ts) (hn : n ≤ 1000000) (hs : ∀ t ∈ ts, t.2.2.length ≤ 1000000) (hlv : (leaves0 ts).length ≤ 65536) (hsz : I64 size) :
    Calls Tryd.prog 13 #[.int .i64 z, .int .i64 size, .slice A n c] w fun e w' => ∃ v, e = .returned (.tuple #[v, .int .i64 (fromT14 z size ts).2]) ∧ w'.ownsRow w.heap.size 48 32 v (fromT14 z size ts).1.length (hcells (fromT14 z size ts).1) ∧ Below w.heap.size w w' := by
  have hl := h.len
  have hr := h.room
  unfold maxLen at hr
  obtain ⟨res, hres⟩ : ∃ x, fromT14 z size ts = x := ⟨_, rfl⟩
  rw [hres]
  by_cases hbad : z < 1 ∨ 8 < z ∨ size < 0
  · have hr2 : res = ([], 2) := by rw [← hres]; exact if_pos hbad
    rw [hr2]
    clear h hl hs hlv hsz hres hr2
    by_cases h1 : z < 1
    · have d1 : decide (z < 1) = true := by simpa using h1
      clear hbad h1
      go_enter Tryd.func13, Tryd.ntmps13
      go_wp2_with fail
      go_ret2
      exact ⟨_, rfl, World.ownsRow_nil _ _ _ _, Below.refl _ _⟩
    have d1 : decide (z < 1) = false := by simpa using h1
    by_cases h2 : 8 < z
    · have d2 : decide (8 < z) = true := by simpa using h2
      clear hbad h1 h2
      go_enter Tryd.func13, Tryd.ntmps13
      go_wp2_with fail
      go_ret2
      exact ⟨_, rfl, World.ownsRow_nil _ _ _ _, Below.refl _ _⟩
    have d2 : decide (8 < z) = false := by simpa using h2
    have d3 : decide (size < 0) = true := by simp; omega
    clear hbad h1 h2
    go_enter Tryd.func13, Tryd.ntmps13
    go_wp2_with fail
    go_ret2
    exact ⟨_, rfl, World.ownsRow_nil _ _ _ _, Below.refl _ _⟩
  obtain ⟨h0, rfl⟩ : ∃ k : Nat, z = k := ⟨z.toNat, by omega⟩
  have e1 : decide ((h0 : Int) < 1) = false := by simp; omega
  have e1n : decide (h0 < 1) = false := by simp; omega
  have e2 : decide ((8 : Int) < (h0 : Int)) = false := by simp; omega
  have e2n : decide (8 < h0) = false := by simp; omega
  have e3 : decide (size < 0) = false := by simp; omega
  have hfr : fromT14 (h0 : Int) size ts = if ((leaves0 ts).length : Int) ≠ size then ([], 240) else if ts = tilesL h0 (leaves0 ts) then (leaves0 ts, 0) else ([], 240) := by
    unfold fromT14
    rw [if_neg hbad]
    rfl
  rw [hres] at hfr
  have hh1 : 1 ≤ h0 := by omega
  have hh8 : h0 ≤ 8 := by omega
  obtain ⟨L, hL⟩ : ∃ L, leaves0 ts = L := ⟨_, rfl⟩
  have hlt := leaves0_take ts
  rw [hL] at hfr hlv hlt
  obtain ⟨m, hm⟩ : ∃ m, L.length = m := ⟨_, rfl⟩
  rw [hm] at hfr hlv hlt
  have Hfr := Lib.hid hfr
  have H := Lib.hid h
  have Hl := Lib.hid hl
  have Hs_ := Lib.hid hs
  have HL := Lib.hid hL
  have Hm := Lib.hid hm
  have Hlt := Lib.hid hlt
  clear hres hfr h hl hs hL hm hlt hbad
  go_enter Tryd.func13, Tryd.ntmps13
  go_wp2_with fail
  clear e1 e1n e2 e2n e3
  go_loopw [8, 9] (fun v8 v9 wr => ∃ i : Nat, i ≤ n ∧ v9 = .int .i64 (i : Int) ∧ wr.ownsRow w.heap.size 48 32 v8 (leaves0 (ts.take i)).length (hcells (leaves0 (ts.take i))) ∧ Below w.heap.size w wr) (fun _ v9 _ => n - (intOf v9).toNat)
  case atStart => exact ⟨0, Nat.zero_le _, rfl, World.ownsRow_nil _ _ _ _, Below.refl _ _⟩
  case round =>
    obtain ⟨i, hi, rfl, ho, hb⟩ := hrel
    have hz := hb.size
    obtain ⟨A8, c8, rfl, hs8⟩ := owns_slv ho
    have hr8 := hs8.room
    have hm8 := hs8.max
    unfold maxLen at hm8
    have hlti := Hlt.out i
    obtain ⟨k8, hk8⟩ : ∃ k, (leaves0 (ts.take i)).length = k := ⟨_, rfl⟩
    rw [hk8] at ho hr8 hlti hs8 ⊢
    by_cases hin : i < n
    · have hd : decide ((i : Int) < (n : Int)) = true := by simp; omega
      have hwi : IntKind.i64.wrap ((i : Int) + 1) = (i : Int) + 1 := IntWalk.i64_in _ (by omega)
      have hit : i < ts.length := by rw [Hl.out]; exact hin
      obtain ⟨b, o, rfl, -, -, -⟩ := H.out.at_ (by omega)
      obtain ⟨Ax, cx, hcx, hhx, -⟩ := (H.out.step hb).cells rfl i hit
      have hsn := tile_snoc ts i hit
      have hsx := Hs_.out _ (List.getElem_mem hit)
      obtain ⟨⟨xl, xi, xh⟩, hx⟩ : ∃ x, ts[i] = x := ⟨_, rfl⟩
      rw [hx] at hcx hhx hsn hsx
      dsimp only at hcx hhx hsx
      have hlv1 : leaves0 (ts.take (i + 1)) = leaves0 (ts.take i) ++ if xl = 0 then xh else [] := by rw [hsn, leaves0_snoc]
      obtain ⟨c1, -, c3⟩ := hcx wr (Below.refl _ _)
      obtain ⟨nx, hnx⟩ : ∃ k, xh.length = k := ⟨_, rfl⟩
      rw [hnx] at c3 hhx hsx
      have hrx := hhx.sl.room
      have hmx := hhx.sl.max
      unfold maxLen at hmx
      by_cases hx0 : xl = 0
      · subst hx0
        rw [if_pos rfl] at hlv1
        obtain ⟨v4, w4, hr4, ho4, hg4, -⟩ := append_slv (ty := 36) Tryd.underlying36 info26z (by simp [Value.cells]) (by decide) ho hhx.sl (fun u hu => by obtain ⟨y, -, rfl⟩ := List.mem_map.1 hu; rfl) (by unfold maxLen; omega) (by omega) hz
        rw [← hcells_append, ← hlv1, show k8 + nx = (leaves0 (ts.take (i + 1))).length by rw [hlv1, List.length_append, hk8, hnx]] at ho4
        have hb4 := grown_own hb ho hg4 hz
        have Hr4 := Lib.hid hr4
        have Ho4 := Lib.hid ho4
        have Hb4 := Lib.hid hb4
        clear hlv1 hr4 ho4 hg4 hb4 hcx hhx hsn hx hnx ho hb hs8 hk8 hit
        go_wp2_with ((with_reducible show wpList _ _ _ (⟨some 39, .call _, _, _, _, _⟩ :: _) _ _); refine wpList_run rfl v4 w4 (run_append_op (.tmp 33) (.tmp 38) 36 rfl _ _ rfl rfl Hr4.out) ?_; simp only [Act.put, List.setIfInBounds_toArray, List.set_cons_succ, List.set_cons_zero])
        go_roundw
        case rel => exact ⟨i + 1, by omega, by go_num, Ho4.out, Hb4.out⟩
        case measure => simp [intOf]; omega
      · have hb0 : (xl == 0) = false := by simpa using hx0
        rw [if_neg hx0, List.append_nil] at hlv1
        have hk9 : (leaves0 (ts.take (i + 1))).length = k8 := by rw [hlv1]; exact hk8
        rw [← hlv1] at ho
        have Hk9 := Lib.hid hk9
        have Ho := Lib.hid ho
        have Hb := Lib.hid hb
        clear hlv1 hk9 hcx hhx hsn hx hnx ho hb hs8 hit hx0
        go_wp2_with fail
        go_roundw
        case rel => exact ⟨i + 1, by omega, by go_num, by rw [Hk9.out]; exact Ho.out, Hb.out⟩
        case measure => simp [intOf]; omega
    · obtain rfl : i = n := by omega
      have hd : decide ((i : Int) < (i : Int)) = false := by simp
      rw [List.take_of_length_le (by rw [Hl.out]; exact Nat.le_refl _), HL.out] at ho hs8
      rw [List.take_of_length_le (by rw [Hl.out]; exact Nat.le_refl _), HL.out, Hm.out] at hk8
      subst hk8
      by_cases hsm : (m : Int) = size
      · subst hsm
        have h32 : H32 L := by rw [← HL.out]; exact leaves0_32 H.out
        have hcall := rall_any L A8 (L.length) c8 h0 wr ⟨(by rw [Hm.out]; exact hs8.weak fun _ _ _ => trivial), rfl, h32⟩ hh1 hh8 (by rw [Hm.out]; omega)
        rw [Hm.out] at hcall
        have hno : ((m : Int) == (m : Int)) = true := by simp
        obtain ⟨us, hus⟩ : ∃ u, tilesL h0 L = u := ⟨_, rfl⟩
        have hul : us.length ≤ 65536 := by
          have := tilesL_le h0 L hh1
          rw [← hus]
          have := Hm.out
          omega
        have hux : ∀ t ∈ us, t.2.2.length ≤ 1000000 := by
          intro t ht
          rw [← hus] at ht
          have h1 := tilesL_rows h0 L t ht
          have : 2 ^ h0 ≤ 2 ^ 8 := Nat.pow_le_pow_right (by decide) hh8
          omega
        have hr3 : res = if ts = us then (L, 0) else ([], 240) := by
          rw [Hfr.out, if_neg (by simp), hus]
        rw [hus] at hcall
        have Hc := Lib.hid hcall
        have Hr3 := Lib.hid hr3
        have Hul := Lib.hid hul
        have Hux := Lib.hid hux
        have Ho := Lib.hid ho
        have Hb := Lib.hid hb
        clear hcall hr3 hul hux ho hb hs8 hus h32
        go_wp2_with fail
        refine Hc.out.mono ?_
        rintro e w5 ⟨v5, rfl, ho5, hb5⟩
        obtain ⟨A5, c5, rfl, ht5⟩ := ho5.view
        have hsm := rsameT_any ts us A A5 i us.length c c5 w5 (H.out.step (Hb.out.trans (hb5.mono hz))) (ht5.weak fun _ _ _ => trivial) hn (by have := Hul.out; omega) Hs_.out Hux.out
        have Hsm := Lib.hid hsm
        have Ho6 := Lib.hid (owns_step Ho.out hb5)
        have Hb6 := Lib.hid (Hb.out.trans (hb5.mono hz))
        clear hsm hb5 ho5 ht5
        go_wp2_with fail
        refine Hsm.out.mono ?_
        rintro e w6 ⟨rfl, hb6⟩
        have Ho7 := Lib.hid (owns_step Ho6.out hb6)
        have Hb7 := Lib.hid (Hb6.out.trans (hb6.mono Hb6.out.size))
        clear hb6
        by_cases htu : ts = us
        · have hd2 : decide (ts = us) = true := by simpa using htu
          have hr4 : res = (L, 0) := by rw [Hr3.out, if_pos htu]
          have Hr := Lib.hid hr4
          clear hr4 htu
          go_wp2_with fail
          go_ret2
          rw [Hr.out]
          exact ⟨_, rfl, by rw [Hm.out]; exact Ho7.out, Hb7.out⟩
        · have hd2 : decide (ts = us) = false := by simpa using htu
          have hr4 : res = ([], 240) := by rw [Hr3.out, if_neg htu]
          have Hr := Lib.hid hr4
          clear hr4 htu
          go_wp2_with fail
          go_ret2
          rw [Hr.out]
          exact ⟨_, rfl, World.ownsRow_nil _ _ _ _, Hb7.out⟩
      · have hb0 : ((m : Int) == size) = false := by simpa using hsm
        have hr2 : res = ([], 240) := by rw [Hfr.out, if_pos hsm]
        have Hr := Lib.hid hr2
        have Hb := Lib.hid hb
        clear ho hs8 hb hr2 hsm
        go_wp2_with fail
        go_ret2
        rw [Hr.out]
        exact ⟨_, rfl, World.ownsRow_nil _ _ _ _, Hb.out⟩
end Go.Proofs.YtfhmjgkcpcnkbaaDoor
