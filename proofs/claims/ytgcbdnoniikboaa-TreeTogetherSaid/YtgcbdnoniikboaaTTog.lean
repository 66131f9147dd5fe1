/- notarylaw09.together. -/
import Derived.Test.YtgcbdnoniikboaaTFold
import Derived.Test.YtgcbdnoniikboaaTWhole
import Derived.Test.YtgcbdnoniikboaaRunG
namespace Go.Proofs.Ytgcbdnoniikboaa
open Go Go.RowKit

theorem natR_getDT (l : List (Nat × Nat)) (q : Nat) (h : q < l.length) : (natR l).getD q (0, 0) = (((l.getD q (0, 0)).1 : Int), ((l.getD q (0, 0)).2 : Int)) := by
  simp [natR, List.getD_eq_getElem?_getD, List.getElem?_eq_getElem h]
theorem i64_and_natT (a b : Nat) (ha : a < 9223372036854775808) (hb : b < 9223372036854775808) : bits .and .i64 (a : Int) (b : Int) = ((a &&& b : Nat) : Int) := by
  have h1 : a &&& b < 9223372036854775808 := Nat.lt_of_le_of_lt Nat.and_le_left ha
  show IntKind.i64.wrap ((BitVec.ofInt 64 (a : Int) &&& BitVec.ofInt 64 (b : Int)).toNat : Int) = _
  rw [BitVec.toNat_and, ofInt_u64 a (by omega), ofInt_u64 b (by omega), IntKind.wrap_i64]
  omega
theorem and_pred_zeroT (i j : Nat) (h : i = 2 ^ j) (h1 : 1 ≤ i) (hi : i < 9223372036854775808) : bits .and .i64 (i : Int) ((i : Int) - 1) = 0 := by
  have e : i &&& (i - 1) = 0 := by rw [h, Nat.and_two_pow_sub_one_eq_mod, Nat.mod_self]
  clear h
  rw [show (i : Int) - 1 = ((i - 1 : Nat) : Int) by omega, i64_and_natT _ _ (by omega) (by omega), e]
  rfl
/-- one hash more -/
theorem append_h {w : World} {base : Nat} {v : Value} {l : List (List UInt8)} (h : w.ownsRow base 34 32 v l.length (hcells l)) (x : List UInt8) (hx : x.length = 32) (hn : l.length ≤ 1000000000) (hb : base ≤ w.heap.size) :
    ∃ v' w', (Builtin.append_ #[37, 37] 37 #[v, .slice (some ⟨w.heap.size, 0, none⟩) 1 1]).run Try.prog (w.alloc (.cells (hcells [x]).toArray 34)) = .ok v' w' ∧
      w'.ownsRow base 34 32 v' (l ++ [x]).length (hcells (l ++ [x])) ∧ w.grownBy w' v.ownBlock ∧ (v'.ownBlock = v.ownBlock ∨ ∃ k, v'.ownBlock = some k ∧ w.heap.size ≤ k) := by
  have h32 : H32 [x] := by intro h hh; rw [List.mem_singleton.1 hh]; exact hx
  have hbA : Below w.heap.size w (w.alloc (.cells (hcells [x]).toArray 34)) := (Below.refl _ _).alloc (Nat.le_refl _) _
  obtain ⟨v', w', hr, ho, hg, hf⟩ := append_slv (ty := 37) Try.underlying37 info26z (by simp [Value.cells]) (by decide) (owns_step h hbA) (Hs.lit w [x] h32 (by simp) 1 rfl).sl (oneB _) (by unfold maxLen; omega) (by omega) (Nat.le_trans hb hbA.size)
  rw [← hcells_append] at ho
  refine ⟨v', w', hr, by rw [List.length_append]; exact ho, ⟨hg.os, hg.tape, hg.output, Nat.le_trans hbA.size hg.size, fun k hk hne => ?_⟩, ?_⟩
  · rw [hg.block k (Nat.lt_of_lt_of_le hk hbA.size) hne, hbA.block k hk]
  · rcases hf with hf | ⟨k, hf, hk⟩
    · exact .inl hf
    · exact .inr ⟨k, hf, by have := hbA.size; omega⟩
theorem whole_step (ws : List (Nat × Nat)) (k at_ n : Nat) (h : ws.drop k = wholeL at_ (n - at_)) (hk : k < ws.length) (ha : at_ ≤ n) :
    ∃ j p, p = 2 ^ j ∧ 1 ≤ p ∧ at_ + p ≤ n ∧ n - (at_ + p) < p ∧ ws.getD k (0, 0) = (at_, at_ + p) ∧ ws.drop (k + 1) = wholeL (at_ + p) (n - (at_ + p)) := by
  have hne : n - at_ ≠ 0 := by
    intro e
    rw [e, wholeL_zero] at h
    have := congrArg List.length h
    rw [List.length_drop, List.length_nil] at this
    omega
  rw [wholeL_more _ _ hne, List.drop_eq_getElem_cons hk, List.cons.injEq] at h
  have h1 := Nat.log2_self_le hne
  have h2 := Nat.lt_log2_self (n := n - at_)
  have h3 := Nat.two_pow_pos (n - at_).log2
  rw [Nat.pow_succ] at h2
  refine ⟨(n - at_).log2, _, rfl, h3, by omega, by omega, ?_, ?_⟩
  · rw [List.getD_eq_getElem?_getD, List.getElem?_eq_getElem hk]; exact h.1
  · rw [h.2, Nat.sub_sub]

structure TgC (w : World) (A : Option Addr) (n c : Nat) (hs : List (List UInt8)) (zs : Array Value) (Aw : Option Addr) (m cw : Nat) (ws : List (Nat × Nat)) (pre : List (List UInt8)) (v : Value) (W : World) : Prop where
  res : Blk W w.heap.size 34 zs
  src : Hs W (fun b => b < w.heap.size) A n c hs
  wh : Rs W (fun b => w.heap.size + 1 ≤ b ∧ some b ≠ v.ownBlock) Aw m cw (natR ws)
  own : W.ownsRow (w.heap.size + 1) 34 32 v pre.length (hcells pre)
  bel : Below w.heap.size w W
section
variable {w : World} {A : Option Addr} {n c : Nat} {hs : List (List UInt8)} {zs : Array Value} {Aw : Option Addr} {m cw : Nat} {ws : List (Nat × Nat)} {pre : List (List UInt8)} {v : Value} {W W' : World}
theorem TgC.size (h : TgC w A n c hs zs Aw m cw ws pre v W) : w.heap.size + 1 ≤ W.heap.size := h.res.lt
theorem TgC.step (h : TgC w A n c hs zs Aw m cw ws pre v W) (hb : Below W.heap.size W W') : TgC w A n c hs zs Aw m cw ws pre v W' :=
  ⟨h.res.below hb h.res.lt, h.src.step hb, h.wh.step hb, owns_step h.own hb, h.bel.trans (hb.mono h.bel.size)⟩
theorem TgC.drew (h : TgC w A n c hs zs Aw m cw ws pre v W) : TgC w A n c hs zs Aw m cw ws pre v W.drew := h.step (Below.refl _ _).drew
theorem TgC.at_ {b o : Nat} (h : TgC w A n c hs zs (some ⟨b, o, none⟩) m cw ws pre v W) (q : Nat) (hq : q < m) : W.cell? ⟨b, o + q * 2, none⟩ = some (.int .i64 ((ws.getD q (0, 0)).1 : Int)) ∧ W.cell? ⟨b, o + q * 2 + 1, none⟩ = some (.int .i64 ((ws.getD q (0, 0)).2 : Int)) := by
  obtain ⟨b', o', hA, -, -, hc⟩ := h.wh.at_ (by omega)
  cases hA
  have := hc q hq
  rw [natR_getDT ws q (by have := h.wh.len; rw [natR_length] at this; omega)] at this
  exact this
theorem TgC.app (h : TgC w A n c hs zs Aw m cw ws pre v W) {v' : Value} {x : List UInt8} (hg : W.grownBy W' v.ownBlock) (hf : v'.ownBlock = v.ownBlock ∨ ∃ k, v'.ownBlock = some k ∧ W.heap.size ≤ k)
    (ho : W'.ownsRow (w.heap.size + 1) 34 32 v' (pre ++ [x]).length (hcells (pre ++ [x]))) : TgC w A n c hs zs Aw m cw ws (pre ++ [x]) v' W' := by
  refine ⟨h.res.grown hg ?_, h.src.grown hg ?_, ?_, ho, h.bel.grown hg h.bel.size fun k hk => by have := (h.own.lt k hk).1; omega⟩
  · intro e; have := (h.own.lt _ e.symm).1; omega
  · intro b _ hx e; have := (h.own.lt _ e.symm).1; omega
  · refine (h.wh.weak (Y := fun b => (w.heap.size + 1 ≤ b ∧ some b ≠ v'.ownBlock) ∧ some b ≠ v.ownBlock) fun b hb hx => ⟨⟨hx.1, ?_⟩, hx.2⟩).grown hg (fun b _ hx => hx.2) |>.weak fun b _ hx => hx.1
    rcases hf with hf | ⟨k, hf, hk⟩
    · rw [hf]; exact hx.2
    · rw [hf]; intro e; cases e; omega
end

set_option maxHeartbeats 4000000 in
set_option maxRecDepth 100000 in
theorem together_any (hs : List (List UInt8)) (A : Option Addr) (n c : Nat) (w : World) (h : Hs w (fun _ => True) A n c hs) (hn : n ≤ 4398046511104) :
    Calls Try.prog 29 #[.slice A n c] w fun e w' => e = .returned (.tuple #[.agg ((rootL hs).map B).toArray, .bool true]) ∧ Below w.heap.size w w' := by
  obtain ⟨zs, hzs⟩ : ∃ zs, zeroHash = zs := ⟨_, rfl⟩
  have hzl : zs.size = 32 := by rw [← hzs]; rfl
  have hroom := h.sl.room
  have hmax := h.sl.max
  unfold maxLen at hmax
  have hb0 := (Below.refl w.heap.size w).alloc (Nat.le_refl _) (.cells zs 34)
  have k0 := Blk.new w 34 zs
  have h0 : Hs (w.alloc (.cells zs 34)) (fun b => b < w.heap.size) A n c hs := (h.weak (Y := fun b => b < w.heap.size) fun b hb _ => hb).step hb0
  have hlen := h.len
  have h32 := h.all
  have hwh := twhole_any (n : Int) (w.alloc (.cells zs 34)) (by omega)
  rw [Int.toNat_natCast, show (w.alloc (.cells zs 34)).heap.size = w.heap.size + 1 by simp] at hwh
  obtain ⟨r, hr⟩ : ∃ r, rootL hs = r := ⟨_, rfl⟩
  have hrl : r.length = 32 := by rw [← hr]; exact length_rootL hs h.all
  have hfold : n ≠ 0 → foldR (rootsL hs (wholeL 0 n)) = r := fun hne => by
    rw [← hr, ← hlen]; exact foldR_roots hs (by intro e; rw [e] at hlen; exact hne hlen.symm)
  have hmpos : n ≠ 0 → wholeL 0 n ≠ [] := fun hne => wholeL_ne 0 n hne
  have hm63 : (wholeL 0 n).length ≤ 64 := wholeL_len 63 0 n (by omega)
  obtain ⟨ws, hws⟩ : ∃ ws, wholeL 0 n = ws := ⟨_, rfl⟩
  rw [hws] at hwh hfold hmpos hm63
  rw [hr]
  obtain ⟨m, hm⟩ : ∃ m, ws.length = m := ⟨_, rfl⟩
  rw [hm] at hwh hm63
  have hm0 : n ≠ 0 → m ≠ 0 := fun hne e => hmpos hne (List.eq_nil_of_length_eq_zero (hm.trans e))
  have Hzs := Lib.hid hzs
  have Hzl := Lib.hid hzl
  have Hrl := Lib.hid hrl
  have Hr := Lib.hid hr
  have Hlen := Lib.hid hlen
  have HH32 := Lib.hid h32
  have Hwh := Lib.hid hwh
  have Hws := Lib.hid hws
  have Hm := Lib.hid hm
  have Hfold := Lib.hid hfold
  clear hzs hzl hrl hr hlen h32 hwh hws hm hfold hmpos h
  by_cases hn0 : n = 0
  · subst hn0
    have hnil : hs = [] := List.eq_nil_of_length_eq_zero Hlen.out
    subst hnil
    obtain rfl : r = hEmpty := Hr.out.symm
    have hmz : m = 0 := by rw [← Hm.out, ← Hws.out]; rfl
    subst hmz
    clear h0
    go_enter Try.func29, Try.ntmps29
    go_wp2_with ((with_reducible show wpList _ _ _ (⟨some 2, .alloc _, _, _, _, _⟩ :: _) _ _); refine wpList_run rfl (.pointer (some ⟨w.heap.size, 0, none⟩)) (w.alloc (.cells zs 34)) (by rw [← Hzs.out]; rfl) ?_; simp only [Act.put])
    refine Hwh.out.mono ?_
    rintro e w1 ⟨v, rfl, ho, hb1⟩
    obtain ⟨Aw, cw, rfl, -⟩ := Rs.of_owns ho (by rw [natR_length]; exact Hm.out)
    have hb1' : Below (w.alloc (.cells zs 34)).heap.size (w.alloc (.cells zs 34)) w1 := by simpa using hb1
    have k1 := k0.below hb1' k0.lt
    have B1 := hb0.trans (hb1'.mono hb0.size)
    go_wp2_with (first
      | (go_at_call 56; refine (rempty_any _).mono ?_; rintro e w2 ⟨rfl, hb2⟩; have k2 := k1.below hb2 k1.lt; have B2 := B1.trans (hb2.mono B1.size))
      | ((with_reducible show wpList _ _ _ (⟨none, .store _ _ _, _, _, _, _⟩ :: _) _ _); refine wpList_store_blk rfl 34 (.tmp 2) (.tmp 19) rfl 32 size26 w.heap.size (hEmpty.map B).toArray rfl rfl (by simp [Hrl.out]) (oneCell_B _) 34 _ k2 Hzl.out ?_; simp only [Act.put]))
    refine bodyPost_ret (tuple_cellT rfl _ _ w.heap.size (hEmpty.map B).toArray _ _ rfl (k2.setRow_ _) Try.underlying34 (by rw [show (hEmpty.map B).toArray.size = 32 by simp [Hrl.out]]; exact info26)) rfl ⟨rfl, ?_⟩
    exact below_setRow B2 (Nat.le_refl _) _
  have hm0' := hm0 hn0
  clear hm0
  have hfold := Hfold.out hn0
  have Hfold2 := Lib.hid hfold
  clear hfold Hfold
  have dn0 : ((n : Int) == 0) = false := by simp; omega
  go_enter Try.func29, Try.ntmps29
  go_wp2_with ((with_reducible show wpList _ _ _ (⟨some 2, .alloc _, _, _, _, _⟩ :: _) _ _); refine wpList_run rfl (.pointer (some ⟨w.heap.size, 0, none⟩)) (w.alloc (.cells zs 34)) (by rw [← Hzs.out]; rfl) ?_; simp only [Act.put])
  refine Hwh.out.mono ?_
  rintro e w1 ⟨v, rfl, ho, hb1⟩
  obtain ⟨Aw, cw, rfl, hsw⟩ := Rs.of_owns ho (by rw [natR_length]; exact Hm.out)
  have hwr := hsw.sl.room
  have hwm := hsw.sl.max
  unfold maxLen at hwm
  have hC1 : TgC w A n c hs zs Aw m cw ws [] (.slice none 0 0) w1 := by
    have hb1' : Below (w.alloc (.cells zs 34)).heap.size (w.alloc (.cells zs 34)) w1 := by simpa using hb1
    exact ⟨k0.below hb1' k0.lt, h0.step hb1', hsw.weak fun b _ hx => ⟨hx.1, by simp [Value.ownBlock]⟩, World.ownsRow_nil _ _ _ _, hb0.trans (hb1'.mono hb0.size)⟩
  clear ho hb1 hsw h0 k0 hb0 Hwh
  go_wp2_with fail
  clear dn0
  go_loopw [5, 6, 7] (fun a5 a6 a7 wr => ∃ (k x1 : Nat) (v : Value) (pre : List (List UInt8)), k ≤ m ∧ a7 = .int .i64 (k : Int) ∧ a5 = .int .i64 (x1 : Int) ∧ v = a6 ∧ pre = rootsL hs (ws.take k) ∧ x1 ≤ n ∧ ws.drop k = wholeL x1 (n - x1) ∧ (∀ k', k = k' + 1 → (ws.getD k' (0, 0)).1 ≤ (ws.getD k' (0, 0)).2 ∧ n - x1 < (ws.getD k' (0, 0)).2 - (ws.getD k' (0, 0)).1 ∧ (ws.getD k' (0, 0)).2 ≤ n) ∧ TgC w A n c hs zs Aw m cw ws pre v wr) (fun _ _ a7 _ => m - (intOf a7).toNat)
  case atStart => exact ⟨0, 0, _, [], Nat.zero_le _, rfl, rfl, rfl, rfl, Nat.zero_le _, by rw [List.drop_zero, Nat.sub_zero]; exact Hws.out.symm, fun k' h => absurd h (by omega), hC1⟩
  case round =>
    clear hC1
    obtain ⟨k, x1, v, pre, hk, rfl, rfl, rfl, hpre, hx1, hdr, hprev, hC⟩ := hrel
    by_cases hlt : k < m
    · obtain ⟨b, o, hA, -, -, -⟩ := hC.wh.at_ (by omega)
      subst hA
      obtain ⟨j, p, hp, hp1, hxp, hpn, hgd, hdr2⟩ := whole_step ws k x1 n hdr (by rw [Hm.out]; exact hlt) hx1
      have hat : ∀ s : InC (TgC w A n c hs zs (some ⟨b, o, none⟩) m cw ws pre v), s.W.cell? ⟨b, o + k * 2, none⟩ = some (.int .i64 ((ws.getD k (0, 0)).1 : Int)) ∧ s.W.cell? ⟨b, o + k * 2 + 1, none⟩ = some (.int .i64 ((ws.getD k (0, 0)).2 : Int)) := fun s => s.ok.at_ k hlt
      obtain ⟨x2, hx2⟩ : ∃ x2, x1 + p = x2 := ⟨_, rfl⟩
      rw [hx2] at hgd hdr2 hxp hpn
      have hgd' := hgd
      rw [hgd] at hat
      have e1 : ∀ s : InC (TgC w A n c hs zs (some ⟨b, o, none⟩) m cw ws pre v), s.W.cell? ⟨b, o + k * 2, none⟩ = some (.int .i64 (x1 : Int)) := fun s => (hat s).1
      have e2 : ∀ s : InC (TgC w A n c hs zs (some ⟨b, o, none⟩) m cw ws pre v), s.W.cell? ⟨b, o + k * 2 + 1, none⟩ = some (.int .i64 (x2 : Int)) := fun s => (hat s).2
      have hroot : rootsL hs (ws.take (k + 1)) = pre ++ [stretchL hs x1 x2] := by
        rw [hpre, List.take_succ_eq_append_getElem (by rw [Hm.out]; exact hlt), rootsL, rootsL, List.map_append]
        rw [List.getD_eq_getElem?_getD, List.getElem?_eq_getElem (by rw [Hm.out]; exact hlt), Option.getD_some] at hgd'
        rw [hgd']; rfl
      have hprel : pre.length ≤ 64 := by rw [hpre, rootsL, List.length_map, List.length_take]; omega
      have hst := fun W h' => tstretch_ok hs A n c W x1 x2 h' hn (by omega) hxp
      have hrl := length_stretchL hs x1 x2 HH32.out
      obtain ⟨x, hx⟩ : ∃ x, stretchL hs x1 x2 = x := ⟨_, rfl⟩
      rw [hx] at hroot hst hrl
      have hw1 : IntKind.i64.wrap ((x2 : Int) - (x1 : Int)) = (p : Int) := by rw [IntWalk.i64_in _ (by omega)]; omega
      have hw2 : IntKind.i64.wrap ((p : Int) - 1) = (p : Int) - 1 := IntWalk.i64_in _ (by omega)
      have hband := and_pred_zeroT p j hp hp1 (by omega)
      have d1 : decide ((p : Int) < 1) = false := by simp; omega
      have d2 : decide ((n : Int) < (x2 : Int)) = false := by simp; omega
      have d2' : decide (n < x2) = false := by simp; omega
      have Hroot := Lib.hid hroot
      have Hst := Lib.hid hst
      have Hrl2 := Lib.hid hrl
      have Hdr2 := Lib.hid hdr2
      have Hgd := Lib.hid hgd
      have hprev' := hprev
      clear hprev' hat hp hdr hdr2 hgd hgd' hroot hst hrl hx hpre
      go_wp2_with fail
      refine wp_region_mix (TgC w A n c hs zs (some ⟨b, o, none⟩) m cw ws pre v) [(0, true), (1, true), (2, true), (3, true), (4, true), (5, true), (6, true), (7, true), (8, true), (9, true), (10, true), (11, true)] (by kernel_rfl) (by kernel_rfl) hC.drew fun _ => ?_
      simp only [List.map_cons, List.map_nil, Array.getD_eq_getD_getElem?, List.getElem?_toArray, List.getElem?_cons_succ, List.getElem?_cons_zero, Option.getD_some]
      iterate 12 (refine wpMix_s (fun K hK => ?_); go_simp; refine hK _ ?_; clear hK K)
      refine wpMix_nil ?_
      clear hC
      intro hC
      generalize wr.drew = W1 at hC ⊢
      go_wp2_with fail
      rcases Nat.eq_zero_or_pos k with hk0 | hk0
      · subst hk0
        clear hprev
        simp only [Nat.zero_mul, Nat.add_zero] at e1 e2
        refine wp_region_mix (TgC w A n c hs zs (some ⟨b, o, none⟩) m cw ws pre v) [(0, true), (1, true), (2, true), (3, true), (4, true), (5, true), (6, true), (7, true), (8, true), (9, true), (10, true), (11, true), (12, true), (13, true), (14, true), (15, true), (16, true), (17, true), (18, true), (19, true), (20, true), (21, true), (22, true), (23, true), (24, true), (25, true), (26, true), (27, true), (28, true), (29, true), (30, true), (31, true), (32, true), (33, true), (34, true), (35, true), (36, true), (37, true), (38, true), (39, true), (40, true), (41, true), (42, true), (43, true), (44, true), (45, true), (46, true), (47, true), (48, true)] (by kernel_rfl) (by kernel_rfl) hC.drew fun _ => ?_
        simp only [List.map_cons, List.map_nil, Array.getD_eq_getD_getElem?, List.getElem?_toArray, List.getElem?_cons_succ, List.getElem?_cons_zero, Option.getD_some]
        iterate 49 (refine wpMix_s (fun K hK => ?_); go_simp; refine hK _ ?_; clear hK K)
        refine wpMix_nil ?_
        clear hC
        intro hC
        generalize W1.drew = W2 at hC ⊢
        obtain ⟨g1, g2⟩ := hC.at_ 0 hlt
        rw [Hgd.out] at g1 g2
        simp only [Nat.zero_mul, Nat.add_zero] at g1 g2
        have g3 : W2.cell? ⟨b, o, none⟩ = some (.int .i64 (x1 : Int)) := g1
        have g4 : W2.cell? ⟨b, o + 1, none⟩ = some (.int .i64 (x2 : Int)) := g2
        clear g1 g2
        go_wp2_with fail
        clear e1 e2 hw1 hw2 hband d1 d2 d2'
        refine (Hst.out _ (hC.src.weak fun _ _ _ => trivial)).mono ?_
        rintro e W3 ⟨rfl, hb3⟩
        have hC3 := hC.step hb3
        clear hb3 hC g3 g4
        have hC4 := hC3.step ((Below.refl _ _).alloc (Nat.le_refl _) (.cells zs 34))
        have k4 := Blk.new W3 34 zs
        have hC5 : TgC w A n c hs zs (some ⟨b, o, none⟩) m cw ws pre v ((W3.alloc (.cells zs 34)).setRow W3.heap.size (x.map B).toArray) := hC3.step (below_setRow ((Below.refl _ _).alloc (Nat.le_refl _) _) (Nat.le_refl _) _)
        have k5 := k4.setRow_ (x.map B).toArray
        obtain ⟨W5, hW5⟩ : ∃ W5, (W3.alloc (.cells zs 34)).setRow W3.heap.size (x.map B).toArray = W5 := ⟨_, rfl⟩
        rw [hW5] at hC5 k5
        obtain ⟨v6, W6, hr6, ho6, hg6, hf6⟩ := append_h hC5.own x Hrl2.out (by omega) hC5.size
        have hC6 := hC5.app hg6 hf6 ho6
        obtain ⟨-, f2⟩ := hC6.at_ 0 hlt
        simp only [Nat.zero_mul, Nat.add_zero] at f2
        rw [Hgd.out] at f2
        have f3 : W6.cell? ⟨b, o + 1, none⟩ = some (.int .i64 (x2 : Int)) := f2
        have hx32 : H32 [x] := by intro h hh; rw [List.mem_singleton.1 hh]; exact Hrl2.out
        have Hr6 := Lib.hid hr6
        clear hr6 ho6 hg6 hf6 hC3 hC4 hC5 f2
        go_wp2_with (first
          | ((with_reducible show wpList _ _ _ (⟨some 9, .alloc _, _, _, _, _⟩ :: _) _ _); refine wpList_run rfl (.pointer (some ⟨W3.heap.size, 0, none⟩)) (W3.alloc (.cells zs 34)) (by rw [← Hzs.out]; rfl) ?_; simp only [Act.put])
          | ((with_reducible show wpList _ _ _ (⟨none, .store _ _ _, _, _, _, _⟩ :: _) _ _); refine wpList_store_blk rfl 34 (.tmp 9) (.tmp 97) rfl 32 size26 W3.heap.size (x.map B).toArray rfl rfl (by simp [Hrl2.out]) (oneCell_B _) 34 _ k4 Hzl.out ?_; simp only [Act.put]; rw [hW5])
          | ((with_reducible show wpList _ _ _ (⟨some 103, .load _ _, _, _, _, _⟩ :: _) _ _); refine wpList_load rfl 34 (.tmp 9) rfl W3.heap.size 0 rfl (x.map B).toArray (run_load_blk (agg26 _) (size26 _) _ _ (by simp [Hrl2.out]) k5) ?_; simp only [Act.put])
          | ((with_reducible show wpList _ _ _ (⟨some 104, .buildSlice _ _ _, _, _, _, _⟩ :: _) _ _); refine wpList_run rfl _ _ (run_lit_op [x] hx32 (by simp) (by simp) 1 _ rfl (by simp [Act.eval]) rfl _) ?_; simp only [Act.put])
          | ((with_reducible show wpList _ _ _ (⟨some 105, .call _, _, _, _, _⟩ :: _) _ _); refine wpList_run rfl v6 W6 (run_append_op (.tmp 102) (.tmp 104) 37 rfl _ _ rfl rfl Hr6.out) ?_; simp only [Act.put]))
        refine ⟨⟨0 + 1, x2, v6, pre ++ [x], by omega, by go_num, rfl, rfl, Hroot.out.symm, by omega, Hdr2.out, fun k2 hk2 => ?_, hC6⟩, by simp [intOf]; omega⟩
        obtain rfl : k2 = 0 := by omega
        rw [Hgd.out]
        show x1 ≤ x2 ∧ n - x2 < x2 - x1 ∧ x2 ≤ n
        omega

      · obtain ⟨k', rfl⟩ : ∃ k', k = k' + 1 := ⟨k - 1, by omega⟩
        obtain ⟨q1, q2, q3⟩ := hprev k' rfl
        clear hprev
        have hat : ∀ s : InC (TgC w A n c hs zs (some ⟨b, o, none⟩) m cw ws pre v), s.W.cell? ⟨b, o + k' * 2, none⟩ = some (.int .i64 ((ws.getD k' (0, 0)).1 : Int)) ∧ s.W.cell? ⟨b, o + k' * 2 + 1, none⟩ = some (.int .i64 ((ws.getD k' (0, 0)).2 : Int)) := fun s => s.ok.at_ k' (by omega)
        obtain ⟨y, hy⟩ : ∃ y, ws.getD k' (0, 0) = y := ⟨_, rfl⟩
        rw [hy] at q1 q2 q3 hat
        have e3 := fun s => (hat s).1
        have e4 := fun s => (hat s).2
        have hw3 : IntKind.i64.wrap ((y.2 : Int) - (y.1 : Int)) = (y.2 : Int) - (y.1 : Int) := IntWalk.i64_in _ (by omega)
        have d3 : decide ((y.2 : Int) - (y.1 : Int) ≤ (p : Int)) = false := by simp; omega
        have hk'm : k' < m := by omega
        have hwk : IntKind.i64.wrap ((k' : Int) + 1 - 1) = (k' : Int) := by rw [IntWalk.i64_in _ (by omega)]; omega
        have hwk2 : IntKind.i64.wrap (k' : Int) = (k' : Int) := IntWalk.i64_in _ (by omega)
        have hki : (k' : Int) + 1 < (m : Int) := by omega
        have hki0 : (0 : Int) ≤ (k' : Int) + 1 := by omega
        clear hat hy
        refine wp_region_mix (TgC w A n c hs zs (some ⟨b, o, none⟩) m cw ws pre v) [(0, true), (1, true), (2, true), (3, true), (4, true), (5, true), (6, true), (7, true), (8, true), (9, true), (10, true), (11, true), (12, true), (13, true), (14, true), (15, true), (16, true), (17, true), (18, true), (19, true), (20, true), (21, true), (22, true), (23, true), (24, true), (25, true), (26, true), (27, true), (28, true), (29, true), (30, true), (31, true), (32, true), (33, true), (34, true), (35, true), (36, true), (37, true), (38, true), (39, true), (40, true), (41, true), (42, true), (43, true), (44, true), (45, true), (46, true), (47, true), (48, true)] (by kernel_rfl) (by kernel_rfl) hC.drew fun _ => ?_
        simp only [List.map_cons, List.map_nil, Array.getD_eq_getD_getElem?, List.getElem?_toArray, List.getElem?_cons_succ, List.getElem?_cons_zero, Option.getD_some]
        iterate 49 (refine wpMix_s (fun K hK => ?_); go_simp; refine hK _ ?_; clear hK K)
        refine wpMix_nil ?_
        clear hC
        intro hC
        generalize W1.drew = W2 at hC ⊢
        obtain ⟨g1, g2⟩ := hC.at_ (k' + 1) hlt
        rw [Hgd.out] at g1 g2
        have g3 : W2.cell? ⟨b, o + (k' + 1) * 2, none⟩ = some (.int .i64 (x1 : Int)) := g1
        have g4 : W2.cell? ⟨b, o + (k' + 1) * 2 + 1, none⟩ = some (.int .i64 (x2 : Int)) := g2
        clear g1 g2
        go_wp2_with fail
        clear e3 e4 hw3 d3 hwk hwk2
        clear e1 e2 hw1 hw2 hband d1 d2 d2'
        refine (Hst.out _ (hC.src.weak fun _ _ _ => trivial)).mono ?_
        rintro e W3 ⟨rfl, hb3⟩
        have hC3 := hC.step hb3
        clear hb3 hC g3 g4
        have hC4 := hC3.step ((Below.refl _ _).alloc (Nat.le_refl _) (.cells zs 34))
        have k4 := Blk.new W3 34 zs
        have hC5 : TgC w A n c hs zs (some ⟨b, o, none⟩) m cw ws pre v ((W3.alloc (.cells zs 34)).setRow W3.heap.size (x.map B).toArray) := hC3.step (below_setRow ((Below.refl _ _).alloc (Nat.le_refl _) _) (Nat.le_refl _) _)
        have k5 := k4.setRow_ (x.map B).toArray
        obtain ⟨W5, hW5⟩ : ∃ W5, (W3.alloc (.cells zs 34)).setRow W3.heap.size (x.map B).toArray = W5 := ⟨_, rfl⟩
        rw [hW5] at hC5 k5
        obtain ⟨v6, W6, hr6, ho6, hg6, hf6⟩ := append_h hC5.own x Hrl2.out (by omega) hC5.size
        have hC6 := hC5.app hg6 hf6 ho6
        obtain ⟨-, f2⟩ := hC6.at_ (k' + 1) hlt
        rw [Hgd.out] at f2
        have f3 : W6.cell? ⟨b, o + (k' + 1) * 2 + 1, none⟩ = some (.int .i64 (x2 : Int)) := f2
        have hx32 : H32 [x] := by intro h hh; rw [List.mem_singleton.1 hh]; exact Hrl2.out
        have Hr6 := Lib.hid hr6
        clear hr6 ho6 hg6 hf6 hC3 hC4 hC5 f2
        go_wp2_with (first
          | ((with_reducible show wpList _ _ _ (⟨some 9, .alloc _, _, _, _, _⟩ :: _) _ _); refine wpList_run rfl (.pointer (some ⟨W3.heap.size, 0, none⟩)) (W3.alloc (.cells zs 34)) (by rw [← Hzs.out]; rfl) ?_; simp only [Act.put])
          | ((with_reducible show wpList _ _ _ (⟨none, .store _ _ _, _, _, _, _⟩ :: _) _ _); refine wpList_store_blk rfl 34 (.tmp 9) (.tmp 97) rfl 32 size26 W3.heap.size (x.map B).toArray rfl rfl (by simp [Hrl2.out]) (oneCell_B _) 34 _ k4 Hzl.out ?_; simp only [Act.put]; rw [hW5])
          | ((with_reducible show wpList _ _ _ (⟨some 103, .load _ _, _, _, _, _⟩ :: _) _ _); refine wpList_load rfl 34 (.tmp 9) rfl W3.heap.size 0 rfl (x.map B).toArray (run_load_blk (agg26 _) (size26 _) _ _ (by simp [Hrl2.out]) k5) ?_; simp only [Act.put])
          | ((with_reducible show wpList _ _ _ (⟨some 104, .buildSlice _ _ _, _, _, _, _⟩ :: _) _ _); refine wpList_run rfl _ _ (run_lit_op [x] hx32 (by simp) (by simp) 1 _ rfl (by simp [Act.eval]) rfl _) ?_; simp only [Act.put])
          | ((with_reducible show wpList _ _ _ (⟨some 105, .call _, _, _, _, _⟩ :: _) _ _); refine wpList_run rfl v6 W6 (run_append_op (.tmp 102) (.tmp 104) 37 rfl _ _ rfl rfl Hr6.out) ?_; simp only [Act.put]))
        refine ⟨⟨(k' + 1) + 1, x2, v6, pre ++ [x], by omega, by go_num, rfl, rfl, Hroot.out.symm, by omega, Hdr2.out, fun k2 hk2 => ?_, hC6⟩, by simp [intOf]; omega⟩
        obtain rfl : k2 = (k' + 1) := by omega
        rw [Hgd.out]
        show x1 ≤ x2 ∧ n - x2 < x2 - x1 ∧ x2 ≤ n
        omega
    · obtain rfl : k = m := by omega
      have hx1n : x1 = n := by
        rcases Nat.eq_or_lt_of_le hx1 with h | h
        · exact h
        · have := wholeL_ne x1 (n - x1) (by omega)
          rw [List.drop_of_length_le (by rw [Hm.out]; exact Nat.le_refl _)] at hdr
          exact absurd hdr.symm this
      subst hx1n
      rw [List.take_of_length_le (by rw [Hm.out]; exact Nat.le_refl _)] at hpre
      have hfr : foldR pre = r := by rw [hpre]; exact Hfold2.out
      have hprel : pre.length = k := by rw [hpre, rootsL, List.length_map, Hm.out]
      have h32p : H32 pre := by rw [hpre]; exact rootsL_all hs HH32.out ws
      have ho := hC.own
      rw [hprel] at ho
      obtain ⟨Ar, cr, rfl, hsr⟩ := Hs.of_owns ho hprel h32p
      obtain ⟨br, or, hA, hbr, -, hat⟩ := hsr.at_ (by omega)
      obtain ⟨wo, hwo⟩ : ∃ wo : World, wo = wr := ⟨_, rfl⟩
      subst hwo
      subst hA
      have hrr := hsr.sl.room
      have hrm := hsr.sl.max
      unfold maxLen at hrm
      obtain ⟨j, hj⟩ : ∃ j, j + 1 = k := ⟨k - 1, by omega⟩
      have hjk : j < k := by omega
      have hwk : IntKind.i64.wrap ((k : Int) - 1) = (j : Int) := by rw [IntWalk.i64_in _ (by omega)]; omega
      have hwk2 : IntKind.i64.wrap ((k : Int) - 2) = (j : Int) - 1 := by rw [IntWalk.i64_in _ (by omega)]; omega
      have hk0 : ((k : Int) == 0) = false := by simp; omega
      have hlast := foldR_last pre j (by omega)
      have hyl : (pre.getD j []).length = 32 := h32p.getD j (by omega)
      have hdrop := fun i (hi : i < j) => foldR_drop pre i (by omega)
      have hgl := fun i (hi : i < k) => h32p.getD i (by omega)
      have hfl : ∀ i, i ≤ j → (foldR (pre.drop i)).length = 32 := fun i hi => by
        rw [List.drop_eq_getElem_cons (by omega)]
        exact length_foldR _ _ (by rw [← List.drop_eq_getElem_cons (by omega)]; exact h32p.drop i)
      have hB := hC.bel
      have hres := hC.res
      have hgo : ∀ W, Below wo.heap.size wo W → ∀ i, i < k → (Instr.loadAt 34 (.pointer (some ⟨br, or + i * 32, none⟩))).run Try.prog W = .ok (.agg ((pre.getD i []).map B).toArray) W := fun W hW i hi => by
        obtain ⟨b', o', hA', -, -, hat'⟩ := (hsr.step hW).at_ (by omega)
        cases hA'
        exact hat' i hi
      have hl0 := hgo wo (Below.refl _ _) j hjk
      have k1 := (Blk.new wo 34 zs).setRow_ ((pre.getD j []).map B).toArray
      have hB1 : Below wo.heap.size wo ((wo.alloc (.cells zs 34)).setRow wo.heap.size ((pre.getD j []).map B).toArray) := below_setRow ((Below.refl _ _).alloc (Nat.le_refl _) _) (Nat.le_refl _) _
      have k00 := Blk.new wo 34 zs
      obtain ⟨y, hy⟩ : ∃ y, pre.getD j [] = y := ⟨_, rfl⟩
      rw [hy] at hl0 hyl hB1 k1
      have hya : y = foldR (pre.drop j) := by rw [hlast, hy]
      obtain ⟨W1, hW1⟩ : ∃ W1, (wo.alloc (.cells zs 34)).setRow wo.heap.size (y.map B).toArray = W1 := ⟨_, rfl⟩
      rw [hW1] at k1 hB1
      rw [hya] at k1
      have Hdrop := Lib.hid hdrop
      have Hgl := Lib.hid hgl
      have Hfl := Lib.hid hfl
      have Hgo := Lib.hid hgo
      have Hyl := Lib.hid hyl
      have Hfr := Lib.hid hfr
      clear hprev hdr hpre hC ho hsr hat hdrop hgl hfl hgo hlast hya hfr h32p hy
      go_wp2_with (first
        | ((with_reducible show wpList _ _ _ (⟨some 120, .load _ _, _, _, _, _⟩ :: _) _ _); refine wpList_load rfl 34 (.tmp 119) rfl br (or + j * 32) rfl (y.map B).toArray hl0 ?_; simp only [Act.put])
        | ((with_reducible show wpList _ _ _ (⟨some 11, .alloc _, _, _, _, _⟩ :: _) _ _); refine wpList_run rfl (.pointer (some ⟨wo.heap.size, 0, none⟩)) (wo.alloc (.cells zs 34)) (by rw [← Hzs.out]; rfl) ?_; simp only [Act.put])
        | ((with_reducible show wpList _ _ _ (⟨none, .store _ _ _, _, _, _, _⟩ :: _) _ _); refine wpList_store_blk rfl 34 (.tmp 11) (.tmp 120) rfl 32 size26 wo.heap.size (y.map B).toArray rfl rfl (by simp [Hyl.out]) (oneCell_B _) 34 _ k00 Hzl.out ?_; simp only [Act.put]; rw [hW1]))
      clear hk0 hwk hwk2 hl0 k00 hW1 Hyl
      go_loopw [12] (fun v W => ∃ i : Nat, i ≤ j ∧ v = .int .i64 ((i : Int) - 1) ∧ Blk W wo.heap.size 34 ((foldR (pre.drop i)).map B).toArray ∧ Below wo.heap.size wo W) (fun v _ => (intOf v + 1).toNat)
      case atStart => exact ⟨j, Nat.le_refl _, rfl, k1, hB1⟩
      case round =>
        clear k1 hB1
        obtain ⟨i, hi, rfl, k2, hB2⟩ := hrel
        by_cases hi0 : i = 0
        · subst hi0
          rw [List.drop_zero, Hfr.out] at k2
          have hres2 := hres.below hB2 hres.lt
          go_wp2_with (first
            | ((with_reducible show wpList _ _ _ (⟨some 134, .load _ _, _, _, _, _⟩ :: _) _ _); refine wpList_load rfl 34 (.tmp 11) rfl wo.heap.size 0 rfl (r.map B).toArray (run_load_blk (agg26 _) (size26 _) _ _ (by simp [Hrl.out]) k2) ?_; simp only [Act.put])
            | ((with_reducible show wpList _ _ _ (⟨none, .store _ _ _, _, _, _, _⟩ :: _) _ _); refine wpList_store_blk rfl 34 (.tmp 2) (.tmp 134) rfl 32 size26 w.heap.size (r.map B).toArray rfl rfl (by simp [Hrl.out]) (oneCell_B _) 34 _ hres2 Hzl.out ?_; simp only [Act.put]))
          refine bodyPost_ret (tuple_cellT rfl _ _ w.heap.size (r.map B).toArray _ _ rfl (hres2.setRow_ _) Try.underlying34 (by rw [show (r.map B).toArray.size = 32 by simp [Hrl.out]]; exact info26)) rfl ⟨rfl, ?_⟩
          exact below_setRow (hB.trans (hB2.mono hB.size)) (Nat.le_refl _) _
        · obtain ⟨i', rfl⟩ : ∃ i', i = i' + 1 := ⟨i - 1, by omega⟩
          have ei : (((i' + 1 : Nat) : Int) - 1) = (i' : Int) := by omega
          rw [ei]
          clear ei hi0
          have hi'k : i' < k := by omega
          have hfd := Hdrop.out i' (by omega)
          have hyl := Hgl.out i' hi'k
          have hzl2 := Hfl.out (i' + 1) hi
          have hrl2 := Hfl.out i' (by omega)
          have hgo := fun W hW => Hgo.out W hW i' hi'k
          obtain ⟨y, hy⟩ : ∃ y, pre.getD i' [] = y := ⟨_, rfl⟩
          obtain ⟨z, hz⟩ : ∃ z, foldR (pre.drop (i' + 1)) = z := ⟨_, rfl⟩
          obtain ⟨x, hx⟩ : ∃ x, foldR (pre.drop i') = x := ⟨_, rfl⟩
          rw [hy] at hyl hgo hfd
          rw [hz] at hzl2 k2 hfd
          rw [hx] at hrl2 hfd
          have hN := fun W => hrnode_any y z W hyl hzl2
          rw [← hfd] at hN
          have HN := Lib.hid hN
          have Hyl := Lib.hid hyl
          have Hzl2 := Lib.hid hzl2
          have Hrl2 := Lib.hid hrl2
          have Hx := Lib.hid hx
          have Hg2 := Lib.hid hgo
          clear hN hyl hzl2 hrl2 hx hfd hy hz hgo
          go_wp2_with fail
          have hS : Below wr.heap.size wr wr.drew := (Below.refl _ _).drew
          refine wp_region_mix_last (fun W => Below wr.heap.size wr W) 6 [(0, true), (1, true), (2, true), (3, true), (4, true), (5, false)] (by kernel_rfl) (by kernel_rfl) hS fun _ => ?_
          simp only [List.map_cons, List.map_nil, Array.getD_eq_getD_getElem?, List.getElem?_toArray, List.getElem?_cons_succ, List.getElem?_cons_zero, Option.getD_some]
          generalize wr.drew = W0 at hS ⊢
          refine wpMix_s (fun K hK => ?_)
          go_simp
          refine hK _ ?_
          clear hK K
          refine wpMix_s (fun K hK => ?_)
          go_simp
          refine hK _ ?_
          clear hK K
          refine wpMix_s (fun K hK => ?_)
          go_simp
          refine hK _ ?_
          clear hK K
          refine wpMix_load (by kernel_rfl) 34 (.tmp 130) rfl (br) (or + i' * 32) rfl (y.map B).toArray (fun s => Hg2.out _ (hB2.trans (s.ok.mono hB2.size))) ?_
          simp only [Act.put]
          refine wpMix_load (by kernel_rfl) 34 (.tmp 11) rfl (wo.heap.size) (0) rfl (z.map B).toArray (fun s => run_load_blk (agg26 _) (size26 _) _ _ (by simp [Hzl2.out]) (k2.below s.ok k2.lt)) ?_
          simp only [Act.put]
          refine wpMix_c (fun K hK => ?_) hS
          go_simp
          refine (HN.out W0).mono ?_
          rintro e W3 ⟨rfl, hb'⟩
          refine hK _ _ ?_
          clear hK K
          replace hS := hS.trans (hb'.mono hS.size)
          refine ⟨hS, ?_⟩
          clear hb'
          refine wpMix_nil ?_
          intro _
          simp only [List.drop_succ_cons, List.drop_zero]
          have k3 := k2.below hS k2.lt
          go_wp2_with ((with_reducible show wpList _ _ _ (⟨none, .store _ _ _, _, _, _, _⟩ :: _) _ _); refine wpList_store_blk rfl 34 (.tmp 11) (.tmp 133) rfl 32 size26 wo.heap.size (x.map B).toArray rfl rfl (by simp [Hrl2.out]) (oneCell_B _) 34 _ k3 (by simp [Hzl2.out]) ?_; simp only [Act.put])
          refine np_normal ?_
          go_wp2_with fail
          refine ⟨⟨i', by omega, by go_num, by rw [Hx.out]; exact k3.setRow_ _, below_setRow (hB2.trans (hS.mono hB2.size)) (Nat.le_refl _) _⟩, by simp [intOf]⟩
end Go.Proofs.Ytgcbdnoniikboaa
