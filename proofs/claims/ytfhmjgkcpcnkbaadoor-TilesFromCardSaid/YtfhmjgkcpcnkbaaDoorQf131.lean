/- Tiles of one's own in memory; notaryref14.All. -/
import Derived.Test.YtfhmjgkcpcnkbaaDoorQf126
import Derived.Test.YtfhmjgkcpcnkbaaDoorQf130
namespace Go.Proofs.YtfhmjgkcpcnkbaaDoor
open Go Go.RowKit
attribute [local go_sem] Oper.semAt_some

theorem own_two {W : World} {lo lo' n n' s s' k : Nat} {e e' : TypeId} {v v' : Value} {xs xs' : List Value} (h : W.ownsRow lo e s v n xs) (h' : W.ownsRow lo' e' s' v' n' xs') (hne : e ≠ e') (hk : v.ownBlock = some k) : v'.ownBlock ≠ some k := by
  intro hk'
  rcases h.2 with ⟨rfl, _⟩ | ⟨g, cap, cur, rfl, _, hg, _⟩
  · cases hk
  · cases hk
    rcases h'.2 with ⟨rfl, _⟩ | ⟨g', cap', cur', rfl, _, hg', _⟩
    · cases hk'
    · cases hk'
      rw [hg] at hg'
      injection hg' with hg'
      injection hg' with _ h2
      exact hne h2
/-- the rows are these tiles, each one's hashes in memory of their own; from the i-th on -/
structure TOwn (W : World) (lo i : Nat) (rs : List TrV) (ts : List TileV) : Prop where
  len : rs.length = ts.length
  head : ∀ j (h1 : j < rs.length) (h2 : j < ts.length), (rs[j]).1 = (ts[j]).1 ∧ (rs[j]).2.1 = (ts[j]).2.1 ∧ ∃ A c, (rs[j]).2.2 = .slice A (ts[j]).2.2.length c
  own : ∀ j (h1 : j < rs.length) (h2 : j < ts.length), i ≤ j → W.ownsRow lo 48 32 (rs[j]).2.2 (ts[j]).2.2.length (hcells (ts[j]).2.2)
  all : ∀ j (h2 : j < ts.length), H32 (ts[j]).2.2
  apart : ∀ j j' k (h1 : j < rs.length) (h2 : j' < rs.length), (rs[j]).2.2.ownBlock = some k → (rs[j']).2.2.ownBlock = some k → j = j'
/-- a slice of tiles of one's own -/
structure TsO (W : World) (lo : Nat) (v : Value) (ts : List TileV) : Prop where
  ex : ∃ rs, W.ownsRow lo 38 3 v ts.length (tcells_ rs) ∧ TOwn W lo 0 rs ts
section
variable {W W' : World} {lo i : Nat} {v : Value} {rs : List TrV} {ts : List TileV} {M : Nat → Prop}
theorem TOwn.step (h : TOwn W lo i rs ts) (hb : Below W.heap.size W W') : TOwn W' lo i rs ts := ⟨h.len, h.head, fun j h1 h2 hi => owns_step (h.own j h1 h2 hi) hb, h.all, h.apart⟩
theorem TsO.step (h : TsO W lo v ts) (hb : Below W.heap.size W W') : TsO W' lo v ts := let ⟨rs, h1, h2⟩ := h.ex; ⟨rs, owns_step h1 hb, h2.step hb⟩
theorem TsO.nil (W : World) (lo : Nat) : TsO W lo (.slice none 0 0) [] := ⟨[], World.ownsRow_nil _ _ _ _, ⟨rfl, fun j h1 => absurd h1 (by simp), fun j h1 => absurd h1 (by simp), fun j h2 => absurd h2 (by simp), fun j j' k h1 => absurd h1 (by simp)⟩⟩
theorem TsO.view (h : TsO W lo v ts) : ∃ A c, v = .slice A ts.length c ∧ Ts W (lo ≤ ·) A ts.length c ts := by
  obtain ⟨rs, h1, h2⟩ := h.ex
  obtain ⟨A, c, rfl, hs⟩ := owns_slv h1
  refine ⟨A, c, rfl, ⟨rs, hs.weak fun b _ hb => hb.1, h2.len, fun j k1 k2 => ?_⟩, rfl⟩
  obtain ⟨e1, e2, Aj, cj, e3⟩ := h2.head j k1 k2
  have ho := h2.own j k1 k2 (Nat.zero_le _)
  obtain ⟨A', c', e4, hs'⟩ := owns_slv ho
  exact ⟨e1, e2, A', c', e4, ⟨hs'.weak fun b _ hb => hb.1, rfl, h2.all j k2⟩⟩
/-- one tile more -/
theorem TsO.app {W0 : World} {t : TileV} (h : TsO W0 lo v ts) (hb : Below W0.heap.size W0 W) (hlo : lo ≤ W0.heap.size) (hn : ts.length ≤ 1000000) {A : Option Addr} {c : Nat} (ho : W.ownsRow W0.heap.size 48 32 (.slice A t.2.2.length c) t.2.2.length (hcells t.2.2)) (h32 : H32 t.2.2) :
    ∃ A' c' W', (Builtin.append_ #[33, 33] 33 #[v, .slice (some ⟨W.heap.size, 0, none⟩) 1 1]).run Tryd.prog (W.alloc (.cells #[.int .i64 t.1, .int .i64 t.2.1, .slice A t.2.2.length c] 38)) = .ok (.slice A' (ts.length + 1) c') W' ∧
      TsO W' lo (.slice A' (ts.length + 1) c') (ts ++ [t]) ∧ Below lo W W' := by
  obtain ⟨rs, h1, h2⟩ := h.ex
  obtain ⟨r, hr⟩ : ∃ r : TrV, (t.1, t.2.1, Value.slice A t.2.2.length c) = r := ⟨_, rfl⟩
  have hrc : (#[.int .i64 t.1, .int .i64 t.2.1, .slice A t.2.2.length c] : Array Value) = (tcell r).toArray := by rw [← hr]; rfl
  rw [hrc]
  obtain ⟨W1, hW1⟩ : ∃ x, W.alloc (.cells (tcell r).toArray 38) = x := ⟨_, rfl⟩
  have hb1 : Below W.heap.size W W1 := by rw [← hW1]; exact (Below.refl _ _).alloc (Nat.le_refl _) _
  have k1 : Blk W1 W.heap.size 38 (tcell r).toArray := by rw [← hW1]; exact Blk.new _ _ _
  have hs : SlV W1 (fun _ => True) (some ⟨W.heap.size, 0, none⟩) 1 1 3 (tcell r) := SlV.of_blk (n := 1) (s := 3) k1 rfl (by decide) trivial
  have hone : ∀ u ∈ tcell r, u.oneCell' = true := by
    intro u hu
    rw [← hr] at hu
    simp only [tcell, List.mem_cons, List.not_mem_nil, or_false] at hu
    rcases hu with rfl | rfl | rfl <;> rfl
  rw [hW1]
  have hz := hb.size
  obtain ⟨v', W', hra, ho', hg, hv⟩ := append_slv (ty := 33) Tryd.underlying33 infoTile rfl (by decide) (owns_step (owns_step h1 hb) hb1) hs hone (by unfold maxLen; omega) (by omega) (by have := hb1.size; omega)
  rw [← tcells_one, ← tcells_append] at ho'
  obtain ⟨A', c', rfl, -⟩ := owns_slv ho'
  have hkeep : ∀ {u : Value} {n : Nat} {xs : List Value} {l' : Nat}, W1.ownsRow l' 48 32 u n xs → W'.ownsRow l' 48 32 u n xs := fun {u n xs l'} hu => by
    refine hu.kept hg ?_
    rcases hu.2 with ⟨rfl, _⟩ | ⟨g, cap, cur, rfl, _, _, _⟩
    · exact .inl rfl
    · exact .inr fun e => own_two hu (owns_step (owns_step h1 hb) hb1) (by decide) rfl e.symm
  refine ⟨A', c', W', hra, ⟨rs ++ [r], by rw [List.length_append]; exact ho', ?_⟩, (hb1.mono (Nat.le_trans hlo hz)).trans ((Below.refl lo W1).grown hg (by have := hb1.size; omega) fun k hk => ?_)⟩
  · have hnew : W'.ownsRow lo 48 32 (.slice A t.2.2.length c) t.2.2.length (hcells t.2.2) := owns_le (hkeep (owns_step ho hb1)) hlo
    have hlen := h2.len
    refine ⟨by rw [List.length_append, List.length_append, hlen]; rfl, fun j k1 k2 => ?_, fun j k1 k2 _ => ?_, fun j k2 => ?_, fun j j' k k1 k2 e1 e2 => ?_⟩
    · by_cases hj : j < rs.length
      · rw [List.getElem_append_left hj, List.getElem_append_left (by rw [← hlen]; exact hj)]
        exact h2.head j hj _
      · have e : j = rs.length := by simp at k1; omega
        subst e
        have ea : (rs ++ [r])[rs.length] = r := by simp
        have eb : (ts ++ [t])[rs.length] = t := by simp [hlen]
        rw [ea, eb, ← hr]
        exact ⟨rfl, rfl, A, c, rfl⟩
    · by_cases hj : j < rs.length
      · rw [List.getElem_append_left hj, List.getElem_append_left (by rw [← hlen]; exact hj)]
        exact hkeep (owns_step (owns_step (h2.own j hj _ (Nat.zero_le _)) hb) hb1)
      · have e : j = rs.length := by simp at k1; omega
        subst e
        have ea : (rs ++ [r])[rs.length] = r := by simp
        have eb : (ts ++ [t])[rs.length] = t := by simp [hlen]
        rw [ea, eb, ← hr]
        exact hnew
    · by_cases hj : j < ts.length
      · rw [List.getElem_append_left hj]
        exact h2.all j hj
      · have e : j = ts.length := by simp at k2; omega
        subst e
        simpa using h32
    · have old : ∀ x (hx : x < rs.length), (rs[x]).2.2.ownBlock = some k → k < W0.heap.size := fun x hx hk => ((h2.own x hx (by rw [← hlen]; exact hx) (Nat.zero_le _)).lt k hk).2
      have new : r.2.2.ownBlock = some k → W0.heap.size ≤ k := fun hk => by rw [← hr] at hk; exact (ho.lt k hk).1
      by_cases hj : j < rs.length
      · rw [List.getElem_append_left hj] at e1
        by_cases hj' : j' < rs.length
        · rw [List.getElem_append_left hj'] at e2
          exact h2.apart j j' k hj hj' e1 e2
        · have e : j' = rs.length := by simp at k2; omega
          subst e
          rw [show (rs ++ [r])[rs.length] = r by simp] at e2
          have := old j hj e1
          have := new e2
          omega
      · have e : j = rs.length := by simp at k1; omega
        subst e
        rw [show (rs ++ [r])[rs.length] = r by simp] at e1
        by_cases hj' : j' < rs.length
        · rw [List.getElem_append_left hj'] at e2
          have := old j' hj' e2
          have := new e1
          omega
        · simp at k2; omega
  · rcases h1.2 with ⟨rfl, _⟩ | ⟨g, cap, cur, rfl, hg0, _⟩
    · cases hk
    · cases hk
      exact hg0
end
theorem offT_le2 (h n : Nat) (hh : 1 ≤ h) : ∀ l, offT h n l + cT h l n ≤ n
  | 0 => by
    have : cT h 0 n = n := by unfold cT; simp
    rw [offT_zero, this]; omega
  | l + 1 => by
    have h1 := offT_le2 h n hh l
    have h3 := cT_half h l n hh
    have h2 : nT h l n ≤ (cT h l n + 1) / 2 := by
      unfold nT
      split
      · omega
      · rename_i hc
        have h2 : 2 ≤ 2 ^ h := Nat.le_trans (by decide) (Nat.pow_le_pow_right (n := 2) (by decide) hh)
        have h4 : (cT h l n - 1) / 2 ^ h ≤ (cT h l n - 1) / 2 := Nat.div_le_div_left h2 (by decide)
        omega
    rw [offT_succ]
    omega
theorem gR_le2 (h n : Nat) (hh : 1 ≤ h) : (gR h 0 n).length ≤ n := by
  have h1 := offT_le2 h n hh 63
  have h2 : (gR h 0 n).length = offT h n 63 := rfl
  omega
theorem tilesL_le (h : Nat) (L : HL) (hh : 1 ≤ h) : (tilesL h L).length ≤ L.length := by rw [tilesL_len]; exact gR_le2 h _ hh
theorem tilesL_get (h : Nat) (L : HL) (i : Nat) (hi : i < (gR h 0 L.length).length) : (tilesL h L)[i]? = some ((((gR h 0 L.length)[i]).1 : Int), (((gR h 0 L.length)[i]).2.1 : Int), tileG h L ((gR h 0 L.length)[i]).1 ((gR h 0 L.length)[i]).2.1) := by
  unfold tilesL
  rw [List.getElem?_map, List.getElem?_eq_getElem hi]
  rfl
set_option maxRecDepth 100000 in
theorem run_litTile_op {ρ : Operand → Value} {o : Oper} (x : Operand) (a b : Int) (A : Option Addr) (n c : Nat) (ho : o.op = .buildSlice 33 1 #[(0, x)]) (hx : ρ x = .agg #[.int .i64 a, .int .i64 b, .slice A n c]) (W : World) :
    (execOp ρ o).run Tryd.prog W = .ok (.value (.slice (some ⟨W.heap.size, 0, none⟩) 1 1)) (W.alloc (.cells #[.int .i64 a, .int .i64 b, .slice A n c] 38)) := by
  unfold execOp
  simp only [ho, Sem.run_bind, Sem.run_pure, List.map_toArray, List.map_cons, List.map_nil, hx]
  kernel_rfl
set_option maxHeartbeats 8000000 in
set_option maxRecDepth 100000 in
theorem rall_any (L : HL) (A : Option Addr) (n c h : Nat) (w : World) (hL : Hs w (fun _ => True) A n c L) (h1 : 1 ≤ h) (h8 : h ≤ 8) (hn : n ≤ 65536) :
    Calls Tryd.prog 22 #[.slice A n c, .int .i64 (h : Int)] w fun e w' => ∃ v, e = .returned v ∧ TsO w' w.heap.size v (tilesL h L) ∧ Below w.heap.size w w' := by
  have hlen := hL.len
  have hroom := hL.sl.room
  have hmx := hL.sl.max
  unfold maxLen at hmx
  have hpl := rplaces_any h 0 n w h1 h8 (Nat.zero_le _) (by omega)
  have hgn := gR_le2 h n h1
  have hpa : placesA h 0 n = (gR h 0 n, true) := if_pos (by omega)
  rw [hpa] at hpl
  have hpl : Calls Tryd.prog 37 #[.int .i64 (h : Int), .int .i64 0, .int .i64 (n : Int)] w _ := hpl
  have hget := tilesL_get h L
  have htl := tilesL_len h L
  rw [hlen] at hget htl
  obtain ⟨np, hnp⟩ : ∃ x, (gR h 0 n).length = x := ⟨_, rfl⟩
  rw [hnp] at hgn htl
  have Hpl := Lib.hid hpl
  have Hget := Lib.hid hget
  have Hnp := Lib.hid hnp
  have Htl := Lib.hid htl
  have HL := Lib.hid hL
  clear hpl hpa hget hnp htl hL hlen
  go_enter Tryd.func22, Tryd.ntmps22
  go_wp2_with fail
  refine Hpl.out.mono ?_
  rintro e w1 ⟨v5, rfl, ho5, hb1⟩
  rw [Hnp.out] at ho5
  obtain ⟨A5, c5, rfl, -⟩ := owns_slv ho5
  have hp5 := Pls.of_owns ho5 Hnp.out
  have hrm := hp5.sl.room
  have hmm := hp5.sl.max
  unfold maxLen at hmm
  have hz1 := hb1.size
  have Hp5 := Lib.hid hp5
  have Hb1 := Lib.hid hb1
  have HL1 := Lib.hid (HL.out.step hb1)
  clear ho5 hp5 hb1 Hpl
  go_wp2_with fail
  go_loopw [7, 8] (fun v7 v8 wr => ∃ i : Nat, i ≤ np ∧ v8 = .int .i64 (i : Int) ∧ TsO wr w1.heap.size v7 ((tilesL h L).take i) ∧ Below w1.heap.size w1 wr) (fun _ v8 _ => np - (intOf v8).toNat)
  case atStart => exact ⟨0, Nat.zero_le _, rfl, TsO.nil _ _, Below.refl _ _⟩
  case round =>
    obtain ⟨i, hi, rfl, hO, hb⟩ := hrel
    obtain ⟨A7, c7, hv7, hts7⟩ := hO.view
    obtain ⟨q7, hq7⟩ : ∃ x, ((tilesL h L).take i).length = x := ⟨_, rfl⟩
    rw [hq7] at hv7
    subst hv7
    have hroom7 := hts7.room
    rw [hq7] at hroom7
    clear hts7
    have hz := hb.size
    by_cases hin : i < np
    · have hd : decide ((i : Int) < (np : Int)) = true := by simp; omega
      have hwi : IntKind.i64.wrap ((i : Int) + 1) = (i : Int) + 1 := IntWalk.i64_in _ (by omega)
      have hig : i < (gR h 0 n).length := by rw [Hnp.out]; exact hin
      have hit : i < (tilesL h L).length := by rw [Htl.out]; exact hin
      obtain ⟨b5, o5, rfl, -, -, hat5⟩ := (Hp5.out.step hb).sl.at_ (by omega) (by decide)
      have hte := Hget.out i hig
      obtain ⟨⟨l, j, wd⟩, hg⟩ : ∃ x, (gR h 0 n)[i] = x := ⟨_, rfl⟩
      rw [hg] at hte
      dsimp only at hte
      have hc : ∀ k u, (plcell (l, j, wd))[k]? = some u → wr.cell? ⟨b5, o5 + (i * 3 + k), none⟩ = some u := fun k u hu => hat5 (i * 3 + k) u (flat_atC _ (plcell3 _) i k u (by rw [List.length_map, Hnp.out]; exact hin) (by
        rw [List.getD_eq_getElem?_getD, List.getElem?_map, List.getElem?_eq_getElem hig, hg]
        exact hu))
      have hc0 := hc 0 _ rfl
      have hc1 := hc 1 _ rfl
      have hlt5 : b5 < wr.heap.size := by
        rcases Nat.lt_or_ge b5 wr.heap.size with h0 | h0
        · exact h0
        · unfold World.cell? at hc0
          rw [Array.getElem?_eq_none h0] at hc0
          cases hc0
      have c27 : ∀ s : InC (fun V => Below wr.heap.size wr V), s.W.cell? ⟨b5, o5 + i * 3, none⟩ = some (.int .i64 (l : Int)) := fun s => (World.cell?_of_block (s.ok.block b5 hlt5)).trans (by rw [Nat.add_zero] at hc0; exact hc0)
      have c31 : ∀ s : InC (fun V => Below wr.heap.size wr V), s.W.cell? ⟨b5, o5 + i * 3 + 1, none⟩ = some (.int .i64 (j : Int)) := fun s => (World.cell?_of_block (s.ok.block b5 hlt5)).trans (by rw [← Nat.add_assoc] at hc1; exact hc1)
      have htk : (tilesL h L).take (i + 1) = (tilesL h L).take i ++ [((l : Int), (j : Int), tileG h L l j)] := by
        rw [List.take_add_one, hte]
        rfl
      have hcall := fun V (hV : Below wr.heap.size wr V) => rtile_any L A n c h (l : Int) (j : Int) V ((HL1.out.step hb).step hV) h1 h8 (by omega)
      have h32 := tileG_32 h L HL1.out.all l j
      have hlk : ((tilesL h L).take i).length = i := by rw [List.length_take]; omega
      have Hcall := Lib.hid hcall
      have Htk := Lib.hid htk
      have H32 := Lib.hid h32
      have HO := Lib.hid hO
      have Hb := Lib.hid hb
      have Hlk := Lib.hid hlk
      have hS : Below wr.heap.size wr wr.drew := (Below.refl _ _).drew
      clear hat5 hte hg hc hc0 hc1 htk hcall h32 hO hb hlk hig hit
      go_upto_region 6 with fail
      refine wp_region_mix_tail7 (fun V => Below wr.heap.size wr V) 26 [(0, true), (1, true), (2, true), (3, true), (4, true), (5, true), (6, true), (7, true), (8, true), (9, true), (10, true), (11, true), (12, true), (13, true), (14, true), (15, true), (16, true), (17, true), (18, true), (19, true), (20, true), (21, true), (22, true), (23, false), (24, true), (25, false)] (by kernel_rfl) (by kernel_rfl) hS fun _ => ?_
      simp only [List.map_cons, List.map_nil, Array.getD_eq_getD_getElem?, List.getElem?_toArray, List.getElem?_cons_succ, List.getElem?_cons_zero, Option.getD_some]
      have W0g := Lib.hid hS.size
      generalize wr.drew = W0 at hS W0g ⊢
      refine wpMix_s (fun K hK => ?_)
      go_simp
      refine hK _ ?_
      clear hK K
      refine wpMix_s (fun K hK => ?_)
      go_simp
      refine hK _ ?_
      clear hK K
      refine wpMix_s (fun K hK => ?_)
      go_simp
      refine hK _ ?_
      clear hK K
      refine wpMix_s (fun K hK => ?_)
      go_simp
      refine hK _ ?_
      clear hK K
      refine wpMix_s (fun K hK => ?_)
      go_simp
      refine hK _ ?_
      clear hK K
      refine wpMix_s (fun K hK => ?_)
      go_simp
      refine hK _ ?_
      clear hK K
      refine wpMix_s (fun K hK => ?_)
      go_simp
      refine hK _ ?_
      clear hK K
      refine wpMix_s (fun K hK => ?_)
      go_simp
      refine hK _ ?_
      clear hK K
      refine wpMix_s (fun K hK => ?_)
      go_simp
      refine hK _ ?_
      clear hK K
      refine wpMix_s (fun K hK => ?_)
      go_simp
      refine hK _ ?_
      clear hK K
      refine wpMix_s (fun K hK => ?_)
      go_simp
      refine hK _ ?_
      clear hK K
      refine wpMix_s (fun K hK => ?_)
      go_simp
      refine hK _ ?_
      clear hK K
      refine wpMix_s (fun K hK => ?_)
      go_simp
      refine hK _ ?_
      clear hK K
      refine wpMix_s (fun K hK => ?_)
      go_simp
      refine hK _ ?_
      clear hK K
      refine wpMix_s (fun K hK => ?_)
      go_simp
      refine hK _ ?_
      clear hK K
      refine wpMix_s (fun K hK => ?_)
      go_simp
      refine hK _ ?_
      clear hK K
      refine wpMix_s (fun K hK => ?_)
      go_simp
      refine hK _ ?_
      clear hK K
      refine wpMix_s (fun K hK => ?_)
      go_simp
      refine hK _ ?_
      clear hK K
      refine wpMix_s (fun K hK => ?_)
      go_simp
      refine hK _ ?_
      clear hK K
      refine wpMix_s (fun K hK => ?_)
      go_simp
      refine hK _ ?_
      clear hK K
      refine wpMix_s (fun K hK => ?_)
      go_simp
      refine hK _ ?_
      clear hK K
      refine wpMix_s (fun K hK => ?_)
      go_simp
      refine hK _ ?_
      clear hK K
      refine wpMix_s (fun K hK => ?_)
      go_simp
      refine hK _ ?_
      clear hK K
      refine wpMix_c (fun K hK => ?_) hS
      go_simp
      refine (Hcall.out W0 hS).mono ?_
      rintro e W0_1 ⟨v4, rfl, ho4, hb'⟩
      refine hK _ _ ?_
      clear hK K
      replace hS := hS.trans (hb'.mono hS.size)
      refine ⟨hS, ?_⟩
      obtain ⟨A4, c4, rfl, -⟩ := owns_slv ho4
      refine wpMix_v (by kernel_rfl) (.agg #[.int .i64 (l : Int), .int .i64 (j : Int), .slice A4 (tileG h L l j).length c4]) (fun s => by kernel_rfl) ?_
      simp only [Act.put, List.setIfInBounds_toArray, List.set_cons_succ, List.set_cons_zero]
      obtain ⟨A9, c9, W9, hr9, hO9, hb9⟩ := HO.out.app (t := ((l : Int), (j : Int), tileG h L l j)) hS hz (by rw [Hlk.out]; omega) (owns_le ho4 W0g.out) H32.out
      rw [← Htk.out] at hO9
      rw [Hlk.out] at hr9 hO9
      have HE := Lib.hid (And.intro hO9 ((Hb.out.trans (hS.mono hz)).trans hb9))
      obtain ⟨W8, hW8⟩ : ∃ z, W0_1.alloc (.cells #[.int .i64 (l : Int), .int .i64 (j : Int), .slice A4 (tileG h L l j).length c4] 38) = z := ⟨_, rfl⟩
      have hb8 : Below W0_1.heap.size W0_1 W8 := by rw [← hW8]; exact (Below.refl _ _).alloc (Nat.le_refl _) _
      refine wpMix_run (by kernel_rfl) (.slice (some ⟨W0_1.heap.size, 0, none⟩) 1 1) W8 (by rw [← hW8]; exact run_litTile_op (.tmp 46) (l : Int) (j : Int) A4 (tileG h L l j).length c4 rfl rfl _) (hS.trans (hb8.mono hS.size)) ?_
      simp only [Act.put, List.setIfInBounds_toArray, List.set_cons_succ, List.set_cons_zero]
      refine wpMix_nil ?_
      intro _
      simp only [List.drop_succ_cons, List.drop_zero]
      have hq7i : q7 = i := by rw [← hq7]; exact Hlk.out
      subst hq7i
      go_wp2_with ((with_reducible show wpList _ _ _ (⟨some 48, .call _, _, _, _, _⟩ :: _) _ _); refine wpList_run rfl (.slice A9 (q7 + 1) c9) W9 (run_append_op (.tmp 22) (.tmp 47) 33 rfl _ _ rfl rfl (by rw [← hW8]; exact hr9)) ?_; simp only [Act.put, List.setIfInBounds_toArray, List.set_cons_succ, List.set_cons_zero])
      refine np_normal ?_
      go_wp2_with fail
      go_roundw
      case rel => exact ⟨q7 + 1, by omega, by go_num, HE.out.1, HE.out.2⟩
      case measure => simp [intOf]; omega
    · obtain rfl : i = np := by omega
      have hd : decide ((i : Int) < (i : Int)) = false := by simp
      rw [List.take_of_length_le (by rw [Htl.out]; exact Nat.le_refl _)] at hO
      obtain ⟨rs, ho1, ho2⟩ := hO.ex
      have hO2 : TsO wr w.heap.size (.slice A7 q7 c7) (tilesL h L) := ⟨rs, owns_le ho1 hz1, ⟨ho2.len, ho2.head, fun j k1 k2 k3 => owns_le (ho2.own j k1 k2 k3) hz1, ho2.all, ho2.apart⟩⟩
      have HO := Lib.hid hO2
      have Hb := Lib.hid (Hb1.out.trans (hb.mono hz1))
      clear hO ho1 ho2 hO2 hb
      go_wp2_with fail
      go_ret
      exact ⟨_, rfl, HO.out, Hb.out⟩
end Go.Proofs.YtfhmjgkcpcnkbaaDoor
