/- notaryref08.Same of any two rows; tiles in memory. -/
import Derived.Test.YtfhmjgkcpcnkbaaDoorQf123
import Derived.Test.YtfhmjgkcpcnkbaaDoorQf107
import Derived.Test.YtfhmjgkcpcnkbaaDoorQf110
import Derived.Test.YtfhmjgkcpcnkbaaDoorQf122
import Derived.Test.YtfhmjgkcpcnkbaaDoorQf114
namespace Go.Proofs.YtfhmjgkcpcnkbaaDoor
open Go Go.RowKit
attribute [local go_sem] Oper.semAt_some

theorem take_snocT (l : HL) (k : Nat) (h : k < l.length) : l.take (k + 1) = l.take k ++ [l.getD k []] := by
  rw [List.take_succ_eq_append_getElem h, List.getD_eq_getElem?_getD, List.getElem?_eq_getElem h]; rfl
set_option maxHeartbeats 2000000 in
set_option maxRecDepth 100000 in
theorem same8_any (hs hs' : HL) (A A' : Option Addr) (n n' c c' : Nat) (w : World) (h1 : Hs w (fun _ => True) A n c hs) (h2 : Hs w (fun _ => True) A' n' c' hs') (hn : n ≤ 4398046511104) (hn' : n' ≤ 4398046511104) :
    Calls Tryd.prog 30 #[.slice A n c, .slice A' n' c'] w fun e w' => e = .returned (.bool (decide (hs = hs'))) ∧ Below w.heap.size w w' := by
  have hl1 := h1.len
  have hl2 := h2.len
  have hr1 := h1.sl.room
  have hr2 := h2.sl.room
  have hm1 := h1.sl.max
  have hm2 := h2.sl.max
  unfold maxLen at hm1 hm2
  by_cases hne : n = n'
  · subst hne
    obtain ⟨res, hres⟩ : ∃ r, decide (hs = hs') = r := ⟨_, rfl⟩
    rw [hres]
    have Hres := Lib.hid hres
    have H1 := Lib.hid h1
    have H2 := Lib.hid h2
    have Hl1 := Lib.hid hl1
    have Hl2 := Lib.hid hl2
    clear hres h1 h2 hl1 hl2
    go_enter Tryd.func30, Tryd.ntmps30
    go_wp2_with fail
    go_loopw [5] (fun v wr => ∃ q : Nat, q ≤ n ∧ v = .int .i64 (q : Int) ∧ hs.take q = hs'.take q ∧ Below w.heap.size w wr) (fun v _ => n - (intOf v).toNat)
    case atStart => exact ⟨0, Nat.zero_le _, rfl, rfl, Below.refl _ _⟩
    case round =>
      obtain ⟨q, hq, rfl, htk, hb⟩ := hrel
      by_cases hlq : q < n
      · have hd : decide ((q : Int) < (n : Int)) = true := by simp; omega
        have hwq : IntKind.i64.wrap ((q : Int) + 1) = (q : Int) + 1 := IntWalk.i64_in _ (by omega)
        obtain ⟨b1, o1, rfl, -, -, -⟩ := H1.out.at_ (by omega)
        obtain ⟨b2, o2, rfl, -, -, -⟩ := H2.out.at_ (by omega)
        have l1 := fun V (hV : Below wr.heap.size wr V) => ((H1.out.step hb).step hV).get rfl q hlq
        have l2 := fun V (hV : Below wr.heap.size wr V) => ((H2.out.step hb).step hV).get rfl q hlq
        have hx32 := H1.out.all.getD q (by rw [Hl1.out]; exact hlq)
        have hy32 := H2.out.all.getD q (by rw [Hl2.out]; exact hlq)
        have t1 := take_snocT hs q (by rw [Hl1.out]; exact hlq)
        have t2 := take_snocT hs' q (by rw [Hl2.out]; exact hlq)
        have hgd : hs = hs' → hs.getD q [] = hs'.getD q [] := fun e => by rw [e]
        obtain ⟨x, hx⟩ : ∃ x, hs.getD q [] = x := ⟨_, rfl⟩
        obtain ⟨y, hy⟩ : ∃ y, hs'.getD q [] = y := ⟨_, rfl⟩
        rw [hx] at l1 hx32 t1 hgd
        rw [hy] at l2 hy32 t2 hgd
        have Hx32 := Lib.hid hx32
        have Hy32 := Lib.hid hy32
        have Hlx := Lib.hid l1
        have Hly := Lib.hid l2
        have Hb := Lib.hid hb
        have hS : Below wr.heap.size wr wr.drew := (Below.refl _ _).drew
        by_cases hxy : x = y
        · have htk2 : hs.take (q + 1) = hs'.take (q + 1) := by rw [t1, t2, htk, hxy]
          have Htk := Lib.hid htk2
          have Hxy := Lib.hid hxy
          clear hx hy hx32 hy32 l1 l2 t1 t2 hgd hb htk htk2 hxy
          go_upto_region 6 with fail
          refine wp_region_mix (fun V => Below wr.heap.size wr V) [(0, true), (1, true), (2, true), (3, true), (4, true), (5, true), (6, true), (7, true), (8, true)] (by kernel_rfl) (by kernel_rfl) hS fun _ => ?_
          simp only [List.map_cons, List.map_nil, Array.getD_eq_getD_getElem?, List.getElem?_toArray, List.getElem?_cons_succ, List.getElem?_cons_zero, Option.getD_some]
          generalize wr.drew = V0 at hS ⊢
          refine wpMix_s (fun K hK => ?_)
          go_simp
          refine hK _ ?_
          clear hK K
          refine wpMix_s (fun K hK => ?_)
          go_simp
          refine hK _ ?_
          clear hK K
          refine wpMix_s (fun K hK => ?_)
          go_simp
          refine hK _ ?_
          clear hK K
          refine wpMix_load (by kernel_rfl) 48 (.tmp 19) rfl (b1) (o1 + q * 32) rfl (x.map B).toArray (fun s => Hlx.out s.W s.ok) ?_
          simp only [Act.put, List.setIfInBounds_toArray, List.set_cons_succ, List.set_cons_zero]
          refine wpMix_s (fun K hK => ?_)
          go_simp
          refine hK _ ?_
          clear hK K
          refine wpMix_s (fun K hK => ?_)
          go_simp
          refine hK _ ?_
          clear hK K
          refine wpMix_s (fun K hK => ?_)
          go_simp
          refine hK _ ?_
          clear hK K
          refine wpMix_load (by kernel_rfl) 48 (.tmp 23) rfl (b2) (o2 + q * 32) rfl (y.map B).toArray (fun s => Hly.out s.W s.ok) ?_
          simp only [Act.put, List.setIfInBounds_toArray, List.set_cons_succ, List.set_cons_zero]
          refine wpMix_v (by kernel_rfl) (.bool false) (fun s => run_neq26_f (.tmp 20) (.tmp 24) _ x y rfl rfl rfl Hx32.out Hy32.out Hxy.out s.W) ?_
          simp only [Act.put, List.setIfInBounds_toArray, List.set_cons_succ, List.set_cons_zero]
          refine wpMix_nil ?_
          intro _
          have Hb2 := Lib.hid (Hb.out.trans (hS.mono Hb.out.size))
          clear hS
          go_wp2_with fail
          go_roundw
          case rel => exact ⟨q + 1, by omega, by go_num, Htk.out, Hb2.out⟩
          case measure => simp [intOf]; omega
        · have hr : res = false := by rw [← Hres.out]; exact decide_eq_false fun e => hxy (hgd e)
          have Hr := Lib.hid hr
          have Hxy := Lib.hid hxy
          clear hx hy hx32 hy32 l1 l2 t1 t2 hgd hb htk hxy hr
          go_upto_region 6 with fail
          refine wp_region_mix (fun V => Below wr.heap.size wr V) [(0, true), (1, true), (2, true), (3, true), (4, true), (5, true), (6, true), (7, true), (8, true)] (by kernel_rfl) (by kernel_rfl) hS fun _ => ?_
          simp only [List.map_cons, List.map_nil, Array.getD_eq_getD_getElem?, List.getElem?_toArray, List.getElem?_cons_succ, List.getElem?_cons_zero, Option.getD_some]
          generalize wr.drew = V0 at hS ⊢
          refine wpMix_s (fun K hK => ?_)
          go_simp
          refine hK _ ?_
          clear hK K
          refine wpMix_s (fun K hK => ?_)
          go_simp
          refine hK _ ?_
          clear hK K
          refine wpMix_s (fun K hK => ?_)
          go_simp
          refine hK _ ?_
          clear hK K
          refine wpMix_load (by kernel_rfl) 48 (.tmp 19) rfl (b1) (o1 + q * 32) rfl (x.map B).toArray (fun s => Hlx.out s.W s.ok) ?_
          simp only [Act.put, List.setIfInBounds_toArray, List.set_cons_succ, List.set_cons_zero]
          refine wpMix_s (fun K hK => ?_)
          go_simp
          refine hK _ ?_
          clear hK K
          refine wpMix_s (fun K hK => ?_)
          go_simp
          refine hK _ ?_
          clear hK K
          refine wpMix_s (fun K hK => ?_)
          go_simp
          refine hK _ ?_
          clear hK K
          refine wpMix_load (by kernel_rfl) 48 (.tmp 23) rfl (b2) (o2 + q * 32) rfl (y.map B).toArray (fun s => Hly.out s.W s.ok) ?_
          simp only [Act.put, List.setIfInBounds_toArray, List.set_cons_succ, List.set_cons_zero]
          refine wpMix_v (by kernel_rfl) (.bool true) (fun s => run_neq26_t (.tmp 20) (.tmp 24) _ x y rfl rfl rfl Hx32.out Hy32.out Hxy.out s.W) ?_
          simp only [Act.put, List.setIfInBounds_toArray, List.set_cons_succ, List.set_cons_zero]
          refine wpMix_nil ?_
          intro _
          have Hb2 := Lib.hid (Hb.out.trans (hS.mono Hb.out.size))
          clear hS
          go_wp2_with fail
          go_ret
          rw [Hr.out]
          exact ⟨rfl, Hb2.out⟩
      · obtain rfl : q = n := by omega
        have hd : decide ((q : Int) < (q : Int)) = false := by simp
        have hr : res = true := by
          rw [← Hres.out, decide_eq_true_eq]
          rw [List.take_of_length_le (by rw [Hl1.out]; exact Nat.le_refl _), List.take_of_length_le (by rw [Hl2.out]; exact Nat.le_refl _)] at htk
          exact htk
        have Hr := Lib.hid hr
        have Hb2 := Lib.hid hb
        clear hr htk hb
        go_wp2_with fail
        go_ret
        rw [Hr.out]
        exact ⟨rfl, Hb2.out⟩
  · have hr : decide (hs = hs') = false := decide_eq_false fun e => hne (by rw [← hl1, ← hl2, e])
    rw [hr]
    have hb : ((n : Int) == (n' : Int)) = false := by simp; omega
    have hbn : (n == n') = false := by simpa using hne
    clear h1 h2 hl1 hl2 hr hne
    go_enter Tryd.func30, Tryd.ntmps30
    go_wp2_with fail
    go_ret
    exact ⟨rfl, Below.refl _ _⟩

/-! ### tiles -/

/-- a row of a slice of tiles: level, number, the hashes' slice -/
abbrev TrV := Int × Int × Value
def tcell (r : TrV) : List Value := [.int .i64 r.1, .int .i64 r.2.1, r.2.2]
def tcells_ (l : List TrV) : List Value := (l.map tcell).flatten
theorem tcell3 (l : List TrV) : ∀ cs ∈ l.map tcell, cs.length = 3 := fun cs h => by obtain ⟨p, -, rfl⟩ := List.mem_map.1 h; rfl
theorem tcells_len (l : List TrV) : (tcells_ l).length = l.length * 3 := by unfold tcells_; rw [flat_len _ (tcell3 l), List.length_map]
theorem tcells_append (a b : List TrV) : tcells_ (a ++ b) = tcells_ a ++ tcells_ b := by simp [tcells_]
theorem tcells_one (p : TrV) : tcells_ [p] = tcell p := by simp [tcells_]
theorem tcells_get (l : List TrV) (i j : Nat) (v : Value) (hi : i < l.length) (hv : (tcell l[i])[j]? = some v) : (tcells_ l)[i * 3 + j]? = some v := by
  unfold tcells_
  refine flat_atC _ (tcell3 l) i j v (by rw [List.length_map]; exact hi) ?_
  rw [List.getD_eq_getElem?_getD, List.getElem?_map, List.getElem?_eq_getElem hi]
  exact hv
theorem infoTile : (Tryd.prog.info? 38).map (fun i => (i.zero, i.size, i.bytes)) = some (some (.agg #[.int .i64 0, .int .i64 0, .slice none 0 0]), 3, 40) := by kernel_rfl
/-- the rows are these tiles -/
structure TMat (W : World) (X : Nat → Prop) (rs : List TrV) (ts : List TileV) : Prop where
  len : rs.length = ts.length
  at_ : ∀ i (h1 : i < rs.length) (h2 : i < ts.length), (rs[i]).1 = (ts[i]).1 ∧ (rs[i]).2.1 = (ts[i]).2.1 ∧ ∃ A c, (rs[i]).2.2 = .slice A (ts[i]).2.2.length c ∧ Hs W X A (ts[i]).2.2.length c (ts[i]).2.2
/-- a slice of tiles: the row and the hashes lie where X says -/
structure Ts (W : World) (X : Nat → Prop) (A : Option Addr) (n c : Nat) (ts : List TileV) : Prop where
  ex : ∃ rs, SlV W X A n c 3 (tcells_ rs) ∧ TMat W X rs ts
  len : ts.length = n
section
variable {W W' : World} {X Y : Nat → Prop} {A : Option Addr} {n c lo : Nat} {ts : List TileV} {rs : List TrV} {M : Nat → Prop}
theorem TMat.weak (h : TMat W X rs ts) (hX : ∀ b, b < W.heap.size → X b → Y b) : TMat W Y rs ts := ⟨h.len, fun i h1 h2 => let ⟨e1, e2, A, c, e3, e4⟩ := h.at_ i h1 h2; ⟨e1, e2, A, c, e3, e4.weak hX⟩⟩
theorem TMat.step (h : TMat W X rs ts) (hb : Below W.heap.size W W') : TMat W' X rs ts := ⟨h.len, fun i h1 h2 => let ⟨e1, e2, A, c, e3, e4⟩ := h.at_ i h1 h2; ⟨e1, e2, A, c, e3, e4.step hb⟩⟩
theorem TMat.kb (h : TMat W X rs ts) (hk : KB M W W') (hX : ∀ b, b < W.heap.size → X b → ¬ M b) : TMat W' X rs ts := ⟨h.len, fun i h1 h2 => let ⟨e1, e2, A, c, e3, e4⟩ := h.at_ i h1 h2; ⟨e1, e2, A, c, e3, e4.kb hk hX⟩⟩
theorem Ts.weak (h : Ts W X A n c ts) (hX : ∀ b, b < W.heap.size → X b → Y b) : Ts W Y A n c ts := let ⟨rs, h1, h2⟩ := h.ex; ⟨⟨rs, h1.weak hX, h2.weak hX⟩, h.len⟩
theorem Ts.step (h : Ts W X A n c ts) (hb : Below W.heap.size W W') : Ts W' X A n c ts := let ⟨rs, h1, h2⟩ := h.ex; ⟨⟨rs, h1.step hb, h2.step hb⟩, h.len⟩
theorem Ts.kb (h : Ts W X A n c ts) (hk : KB M W W') (hX : ∀ b, b < W.heap.size → X b → ¬ M b) : Ts W' X A n c ts := let ⟨rs, h1, h2⟩ := h.ex; ⟨⟨rs, hk.slv h1 hX, h2.kb hk hX⟩, h.len⟩
theorem Ts.lt (h : Ts W X A n c ts) : Ts W (fun b => X b ∧ b < W.heap.size) A n c ts := h.weak fun _ hb hx => ⟨hx, hb⟩
theorem Ts.room (h : Ts W X A n c ts) : n ≤ c ∧ c ≤ maxLen := let ⟨_, h1, _⟩ := h.ex; ⟨h1.room, h1.max⟩
/-- one tile: its cells, its hashes -/
theorem Ts.at_ (h : Ts W X A n c ts) (hn : 0 < n) : ∃ b o, A = some ⟨b, o, none⟩ ∧ b < W.heap.size ∧ X b ∧ ∀ i (hi : i < ts.length), ∃ Ai ci, W.cell? ⟨b, o + i * 3, none⟩ = some (.int .i64 (ts[i]).1) ∧ W.cell? ⟨b, o + i * 3 + 1, none⟩ = some (.int .i64 (ts[i]).2.1) ∧
    W.cell? ⟨b, o + i * 3 + 2, none⟩ = some (.slice Ai (ts[i]).2.2.length ci) ∧ Hs W X Ai (ts[i]).2.2.length ci (ts[i]).2.2 ∧ (Instr.loadAt 38 (.pointer (some ⟨b, o + i * 3, none⟩))).run Tryd.prog W = .ok (.agg #[.int .i64 (ts[i]).1, .int .i64 (ts[i]).2.1, .slice Ai (ts[i]).2.2.length ci]) W := by
  obtain ⟨rs, h1, h2⟩ := h.ex
  obtain ⟨b, o, e1, e2, e3, e4⟩ := h1.at_ hn (by decide)
  refine ⟨b, o, e1, e2, e3, fun i hi => ?_⟩
  have hir : i < rs.length := by rw [h2.len]; exact hi
  obtain ⟨f1, f2, Ai, ci, f3, f4⟩ := h2.at_ i hir hi
  have g0 : W.cell? ⟨b, o + i * 3, none⟩ = some (.int .i64 (ts[i]).1) := e4 (i * 3) _ (tcells_get rs i 0 _ hir (by rw [← f1]; rfl))
  have g1 : W.cell? ⟨b, o + i * 3 + 1, none⟩ = some (.int .i64 (ts[i]).2.1) := by rw [Nat.add_assoc]; exact e4 (i * 3 + 1) _ (tcells_get rs i 1 _ hir (by rw [← f2]; rfl))
  have g2 : W.cell? ⟨b, o + i * 3 + 2, none⟩ = some (.slice Ai (ts[i]).2.2.length ci) := by rw [Nat.add_assoc]; exact e4 (i * 3 + 2) _ (tcells_get rs i 2 _ hir (by rw [← f3]; rfl))
  refine ⟨Ai, ci, g0, g1, g2, f4, run_load_agg (aggTile _) (sizeTile _) b (o + i * 3) [.int .i64 (ts[i]).1, .int .i64 (ts[i]).2.1, .slice Ai (ts[i]).2.2.length ci] rfl fun j u hu => ?_⟩
  rcases j with _ | _ | _ | j
  · cases hu; exact g0
  · cases hu; exact g1
  · cases hu; exact g2
  · cases hu
theorem TMat.snoc (h : TMat W X rs ts) {r : TrV} {t : TileV} (e1 : r.1 = t.1) (e2 : r.2.1 = t.2.1) {A : Option Addr} {c : Nat} (e3 : r.2.2 = .slice A t.2.2.length c) (e4 : Hs W X A t.2.2.length c t.2.2) : TMat W X (rs ++ [r]) (ts ++ [t]) := by
  refine ⟨by rw [List.length_append, List.length_append, h.len]; rfl, fun i h1 h2 => ?_⟩
  by_cases hi : i < rs.length
  · have hi2 : i < ts.length := by rw [← h.len]; exact hi
    rw [List.getElem_append_left hi, List.getElem_append_left hi2]
    exact h.at_ i hi hi2
  · have h3 : i = rs.length := by rw [List.length_append] at h1; simp at h1; omega
    subst h3
    have h4 : rs.length = ts.length := h.len
    have ea : (rs ++ [r])[rs.length] = r := by simp
    have eb : (ts ++ [t])[rs.length] = t := by simp [h4]
    rw [ea, eb]
    exact ⟨e1, e2, A, c, e3, e4⟩
end
end Go.Proofs.YtfhmjgkcpcnkbaaDoor
/- A law's argument that is a height, a size and tiles, opened. -/
namespace Go.Proofs.YtfhmjgkcpcnkbaaDoor
open Go Go.RowKit Go.WideShapes Go.ChangeShapes Go.ChangeAt

/-- a tile as it lies in a slice -/
structure TRw where
  a : Int
  b : Int
  A : Option Addr
  n : Nat
  c : Nat
  l : HL
def TRw.cells (t : TRw) : List Value := [.int .i64 t.a, .int .i64 t.b, .slice t.A t.n t.c]
section
variable {H : Type} {enc : TypeId × Value → H} {P : Program} {W : World} {base : Nat} {held : Bool}
theorem three_ofT {α : Type} {xs : List α} (h : xs.length = 3) : ∃ a b c, xs = [a, b, c] := by
  match xs, h with
  | [a, b, c], _ => exact ⟨a, b, c, rfl⟩
theorem open_tilef {t eH q : TypeId} {f0 f1 f2 : Field} {fuel : Nat} {cs : List Value} {x : DataW H × List MemPlace} (ht : P.underlying t = some (.struct #[f0, f1, f2])) (o0 : f0.offset = 0) (o1 : f1.offset = 1) (o2 : f2.offset = 2)
    (u0 : P.underlying f0.type = some (.int .i64)) (u1 : P.underlying f1.type = some (.int .i64)) (u2 : P.underlying f2.type = some (.slice eH)) (uH : P.underlying eH = some (.array 32 q)) (hq : P.underlying q = some (.int .u8))
    (c0 : P.cellsOf f0.type = 1) (c1 : P.cellsOf f1.type = 1) (c2 : P.cellsOf f2.type = 1) (cH : P.cellsOf eH = 32) (cq : P.cellsOf q = 1) (hct : P.cellsOf t = 3)
    (h : DataW.trod enc P W 0 (fun _ => true) held fuel t cs = some x) :
    ∃ s : TRw, cs = s.cells ∧ Hs W (· < W.heap.size) s.A s.n s.c s.l := by
  obtain ⟨xs, k, _, hx, hl, hlen, hf⟩ := DataW.trod_struct ht h
  obtain ⟨y0, y1, y2, rfl⟩ := three_ofT (show xs.length = 3 from hlen)
  have g0 : _ = some y0 := hf 0 f0 rfl
  have g1 : _ = some y1 := hf 1 f1 rfl
  have g2 : _ = some y2 := hf 2 f2 rfl
  rw [o0, c0] at g0
  rw [o1, c1] at g1
  rw [o2, c2] at g2
  rw [hct] at hl
  obtain ⟨a0, e0, _⟩ := open_intf u0 g0
  obtain ⟨a1, e1, _⟩ := open_intf u1 g1
  obtain ⟨A, n, c, hs, e2, s2, _⟩ := open_hashes u2 uH hq cq cH g2
  refine ⟨⟨a0, a1, A, n, c, hs⟩, ?_, s2⟩
  match cs, hl with
  | [x0, x1, x2], _ =>
    simp only [List.drop_succ_cons, List.drop_zero, List.take_succ_cons, List.take_zero, List.cons.injEq, and_true] at e0 e1 e2
    rw [e0, e1, e2]
    rfl
theorem open_tiles {t e eH q : TypeId} {f0 f1 f2 : Field} {fuel : Nat} {cs : List Value} {x : DataW H × List MemPlace} (hte : P.underlying t = some (.slice e)) (ht : P.underlying e = some (.struct #[f0, f1, f2])) (o0 : f0.offset = 0) (o1 : f1.offset = 1) (o2 : f2.offset = 2)
    (u0 : P.underlying f0.type = some (.int .i64)) (u1 : P.underlying f1.type = some (.int .i64)) (u2 : P.underlying f2.type = some (.slice eH)) (uH : P.underlying eH = some (.array 32 q)) (hq : P.underlying q = some (.int .u8))
    (c0 : P.cellsOf f0.type = 1) (c1 : P.cellsOf f1.type = 1) (c2 : P.cellsOf f2.type = 1) (cH : P.cellsOf eH = 32) (cq : P.cellsOf q = 1) (hct : P.cellsOf e = 3)
    (h : DataW.trod enc P W 0 (fun _ => true) held fuel t cs = some x) :
    ∃ (A : Option Addr) (n c : Nat) (ts : List TileV), cs = [Value.slice A n c] ∧ Ts W (· < W.heap.size) A n c ts := by
  obtain ⟨A, n, c, L, xs, h1, h2, h3, h4, h5, h6, -⟩ := open_slR (fun (s : TRw) cs => cs = s.cells ∧ Hs W (· < W.heap.size) s.A s.n s.c s.l) (fun _ => 0) hte hct (by decide) (fun fuel cs y hy _ => by
    obtain ⟨s, g1, g2⟩ := open_tilef ht o0 o1 o2 u0 u1 u2 uH hq c0 c1 c2 cH cq hct hy
    exact ⟨s, ⟨g1, g2⟩, bulk_one _⟩) h
  have hL : L = (xs.map fun s => ((s.a, s.b, Value.slice s.A s.n s.c) : TrV)).map tcell := by
    apply List.ext_getElem
    · simp [h3, h4]
    · intro i hi1 hi2
      simp only [List.length_map] at hi2
      rw [List.getElem_map, List.getElem_map]
      exact (h6 i xs[i] L[i] (List.getElem?_eq_getElem hi2) (List.getElem?_eq_getElem hi1)).1
  have hat : ∀ i (hi : i < xs.length), Hs W (· < W.heap.size) xs[i].A xs[i].n xs[i].c xs[i].l := fun i hi => (h6 i xs[i] (L[i]'(by omega)) (List.getElem?_eq_getElem hi) (List.getElem?_eq_getElem (by omega))).2
  refine ⟨A, n, c, xs.map fun s => (s.a, s.b, s.l), h1, ⟨xs.map fun s => ((s.a, s.b, Value.slice s.A s.n s.c) : TrV), ?_, ?_⟩, by simp [h4]⟩
  · rw [hL] at h2
    exact h2
  · refine ⟨by simp, fun i k1 k2 => ?_⟩
    have hi : i < xs.length := by simpa using k1
    have hh := hat i hi
    simp only [List.getElem_map]
    refine ⟨trivial, trivial, xs[i].A, xs[i].c, ?_, ?_⟩
    · rw [hh.len]
    · rw [hh.len]; exact hh
theorem open_given {t tT e eH q : TypeId} {g0 g1 g2 f0 f1 f2 : Field} {v : Value} {d : DataW H} {p : List MemPlace} (hg : P.underlying t = some (.struct #[g0, g1, g2])) (q0 : g0.offset = 0) (q1 : g1.offset = 1) (q2 : g2.offset = 2)
    (v0 : P.underlying g0.type = some (.int .i64)) (v1 : P.underlying g1.type = some (.int .i64)) (v2 : g2.type = tT) (d0 : P.cellsOf g0.type = 1) (d1 : P.cellsOf g1.type = 1) (d2 : P.cellsOf g2.type = 1) (hcg : P.cellsOf t = 3)
    (hte : P.underlying tT = some (.slice e)) (ht : P.underlying e = some (.struct #[f0, f1, f2])) (o0 : f0.offset = 0) (o1 : f1.offset = 1) (o2 : f2.offset = 2)
    (u0 : P.underlying f0.type = some (.int .i64)) (u1 : P.underlying f1.type = some (.int .i64)) (u2 : P.underlying f2.type = some (.slice eH)) (uH : P.underlying eH = some (.array 32 q)) (hq : P.underlying q = some (.int .u8))
    (c0 : P.cellsOf f0.type = 1) (c1 : P.cellsOf f1.type = 1) (c2 : P.cellsOf f2.type = 1) (cH : P.cellsOf eH = 32) (cq : P.cellsOf q = 1) (hct : P.cellsOf e = 3)
    (hok : Value.okWide P W .any base t v) (h : DataW.Trod enc P W 0 (fun _ => true) held t v d p) :
    ∃ (z s : Int) (A : Option Addr) (n c : Nat) (ts : List TileV), v = .agg #[.int .i64 z, .int .i64 s, .slice A n c] ∧ (Lit.int .i64 s).wf = true ∧ Ts W (· < W.heap.size) A n c ts := by
  subst v2
  simp only [Value.okWide, hg] at hok
  obtain ⟨cs, rfl, hsz, _⟩ := hok
  obtain ⟨fuel, h⟩ := h
  obtain ⟨xs, k, _, hx, hl, hlen, hf⟩ := DataW.trod_struct hg h
  obtain ⟨y0, y1, y2, rfl⟩ := three_ofT (show xs.length = 3 from hlen)
  have w0 : _ = some y0 := hf 0 g0 rfl
  have w1 : _ = some y1 := hf 1 g1 rfl
  have w2 : _ = some y2 := hf 2 g2 rfl
  rw [q0, d0] at w0
  rw [q1, d1] at w1
  rw [q2, d2] at w2
  rw [hcg] at hl
  obtain ⟨z, e0, _⟩ := open_intf v0 w0
  obtain ⟨s, e1, ws⟩ := open_intf v1 w1
  obtain ⟨A, n, c, ts, e2, hts⟩ := open_tiles hte ht o0 o1 o2 u0 u1 u2 uH hq c0 c1 c2 cH cq hct w2
  refine ⟨z, s, A, n, c, ts, ?_, ws, hts⟩
  rw [← Array.toArray_toList (xs := cs)]
  congr 2
  simp only [Value.cells] at hl e0 e1 e2
  match hcs : cs.toList, hl with
  | [a, b, c'], _ =>
    rw [hcs] at e0 e1 e2
    simp only [List.drop_succ_cons, List.drop_zero, List.take_succ_cons, List.take_zero, List.cons.injEq, and_true] at e0 e1 e2
    rw [e0, e1, e2]
end
end Go.Proofs.YtfhmjgkcpcnkbaaDoor
/- notaryref14: width, whole, count. -/
namespace Go.Proofs.YtfhmjgkcpcnkbaaDoor
open Go Go.RowKit
attribute [local go_sem] Oper.semAt_some

set_option maxHeartbeats 2000000 in
theorem rwhole14_any (h : Nat) (w : World) (h8 : h ≤ 8) : Calls Tryd.prog 60 #[.int .i64 (h : Int)] w fun e w' => e = .returned (.int .i64 ((2 ^ h : Nat) : Int)) ∧ w' = w := by
  obtain ⟨s, hs⟩ : ∃ s, 2 ^ h = s := ⟨_, rfl⟩
  rw [hs]
  have Hs_ := Lib.hid hs
  clear hs
  go_enter Tryd.func60, Tryd.ntmps60
  go_wp2_with fail
  go_loopw [3, 4] (fun v3 v4 wr => ∃ k q : Nat, k ≤ h ∧ 2 ^ k = q ∧ v3 = .int .i64 (q : Int) ∧ v4 = .int .i64 (k : Int) ∧ wr = w) (fun _ v4 _ => h - (intOf v4).toNat)
  case atStart => exact ⟨0, 1, Nat.zero_le _, rfl, rfl, rfl, rfl⟩
  case round =>
    obtain ⟨k, q, hk, hq, rfl, rfl, hwr⟩ := hrel
    obtain rfl := hwr.symm
    clear hwr
    have hq8 : 2 ^ k ≤ 2 ^ 8 := Nat.pow_le_pow_right (by decide) (by omega)
    rw [hq] at hq8
    by_cases hkh : k < h
    · have hd : decide ((k : Int) < (h : Int)) = true := by simp; omega
      have hdn : decide (k < h) = true := by simp; omega
      have hw1 : IntKind.i64.wrap (2 * (q : Int)) = 2 * (q : Int) := IntWalk.i64_in _ (by omega)
      have hw2 : IntKind.i64.wrap ((k : Int) + 1) = (k : Int) + 1 := IntWalk.i64_in _ (by omega)
      have hn : 2 ^ (k + 1) = 2 * q := by rw [Nat.pow_succ, hq]; omega
      have Hn := Lib.hid hn
      clear hq hq8 hn
      go_wp2_with fail
      go_roundw
      case rel => exact ⟨k + 1, 2 * q, by omega, Hn.out, by go_num, by go_num, by trivial⟩
      case measure => simp [intOf]; omega
    · obtain rfl : k = h := by omega
      have hd : decide ((k : Int) < (k : Int)) = false := by simp
      have hdn : decide (k < k) = false := by simp
      obtain rfl : q = s := by rw [← hq]; exact Hs_.out
      clear hq hq8
      go_wp2_with fail
      go_ret
      exact ⟨rfl, by trivial⟩
/-- how many entries lie under a hash of a level; 0: more than there are -/
def widthT (h l : Nat) : Nat := if h * l ≤ 62 then 2 ^ (h * l) else 0
set_option maxHeartbeats 4000000 in
theorem rwidth_any (h l : Nat) (w : World) (h1 : 1 ≤ h) (h8 : h ≤ 8) (hl : l ≤ 1000) : Calls Tryd.prog 65 #[.int .i64 (h : Int), .int .i64 (l : Int)] w fun e w' => e = .returned (.int .i64 (widthT h l : Int)) ∧ w' = w := by
  obtain ⟨s, hs⟩ : ∃ s, widthT h l = s := ⟨_, rfl⟩
  rw [hs]
  have Hs_ := Lib.hid hs
  clear hs
  go_enter Tryd.func65, Tryd.ntmps65
  go_wp2_with fail
  go_loopw [5, 6] (fun v5 v6 wr => ∃ i q : Nat, i ≤ l ∧ h * i ≤ 62 ∧ 2 ^ (h * i) = q ∧ v5 = .int .i64 (q : Int) ∧ v6 = .int .i64 (i : Int) ∧ wr = w) (fun _ v6 _ => l - (intOf v6).toNat)
  case atStart => exact ⟨0, 1, Nat.zero_le _, by omega, rfl, rfl, rfl, rfl⟩
  case round =>
    obtain ⟨i, q, hi, hi62, hq, rfl, rfl, hwr⟩ := hrel
    obtain rfl := hwr.symm
    clear hwr
    by_cases hil : i < l
    · have hd : decide ((i : Int) < (l : Int)) = true := by simp; omega
      have hdn : decide (i < l) = true := by simp; omega
      have Hq := Lib.hid hq
      clear hq
      go_wp2_with fail
      go_loopw [5, 7] (fun v5 v7 wr => ∃ k q : Nat, k ≤ h ∧ h * i + k ≤ 62 ∧ 2 ^ (h * i + k) = q ∧ v5 = .int .i64 (q : Int) ∧ v7 = .int .i64 (k : Int) ∧ wr = w) (fun _ v7 _ => h - (intOf v7).toNat)
      case atStart => exact ⟨0, q, Nat.zero_le _, hi62, Hq.out, rfl, rfl, rfl⟩
      case round =>
        clear hd hdn
        obtain ⟨k, q', hk, hk62, hq', rfl, rfl, hwr⟩ := hrel
        obtain rfl := hwr.symm
        clear hwr
        by_cases hkh : k < h
        · have hd : decide ((k : Int) < (h : Int)) = true := by simp; omega
          have hdn : decide (k < h) = true := by simp; omega
          by_cases hbig : h * i + k = 62
          · have hq62 : q' = 4611686018427387904 := by rw [← hq', hbig]
            subst hq62
            have hs0 : s = 0 := by
              rw [← Hs_.out]
              unfold widthT
              rw [if_neg]
              intro hc
              have h3 : h * (i + 1) ≤ h * l := Nat.mul_le_mul_left h hil
              rw [Nat.mul_succ] at h3
              omega
            subst hs0
            clear hq' hbig Hs_
            go_wp2_with fail
            go_ret
            exact ⟨rfl, by trivial⟩
          · have hlt : 2 ^ (h * i + k) ≤ 2 ^ 61 := Nat.pow_le_pow_right (by decide) (by omega)
            rw [hq'] at hlt
            have hge : decide ((4611686018427387904 : Int) ≤ (q' : Int)) = false := by simp; omega
            have hgen : decide (4611686018427387904 ≤ q') = false := by simp; omega
            have hw1 : IntKind.i64.wrap (2 * (q' : Int)) = 2 * (q' : Int) := IntWalk.i64_in _ (by omega)
            have hw2 : IntKind.i64.wrap ((k : Int) + 1) = (k : Int) + 1 := IntWalk.i64_in _ (by omega)
            have hn : 2 ^ (h * i + (k + 1)) = 2 * q' := by rw [← Nat.add_assoc, Nat.pow_succ, hq']; omega
            have Hn := Lib.hid hn
            clear hq' hlt hn
            go_wp2_with fail
            go_roundw
            case rel => exact ⟨k + 1, 2 * q', by omega, by omega, Hn.out, by go_num, by go_num, by trivial⟩
            case measure => simp [intOf]; omega
        · obtain rfl : k = h := by omega
          have hd : decide ((k : Int) < (k : Int)) = false := by simp
          have hdn : decide (k < k) = false := by simp
          have hw2 : IntKind.i64.wrap ((i : Int) + 1) = (i : Int) + 1 := IntWalk.i64_in _ (by omega)
          have Hq' := Lib.hid hq'
          clear hq'
          go_wp2_with fail
          go_roundw
          case rel => exact ⟨i + 1, q', by omega, by rw [Nat.mul_succ]; omega, by rw [Nat.mul_succ]; exact Hq'.out, rfl, by go_num, by trivial⟩
          case measure => simp [intOf]; omega
    · obtain rfl : i = l := by omega
      have hd : decide ((i : Int) < (i : Int)) = false := by simp
      have hdn : decide (i < i) = false := by simp
      obtain rfl : q = s := by
        rw [← hq, ← Hs_.out]
        unfold widthT
        rw [if_pos hi62]
      clear hq Hs_
      go_wp2_with fail
      go_ret
      exact ⟨rfl, by trivial⟩
theorem widthT_cT (h l n : Nat) (hn : n < 9223372036854775808) : (if widthT h l = 0 then 0 else n / widthT h l) = cT h l n := by
  unfold widthT
  by_cases hc : h * l ≤ 62
  · rw [if_pos hc, if_neg (Nat.ne_of_gt (Nat.two_pow_pos _))]
    rfl
  · rw [if_neg hc, if_pos rfl, cT_zero h l n hn (by omega)]
set_option maxHeartbeats 2000000 in
theorem rcount_any (h l n : Nat) (w : World) (h1 : 1 ≤ h) (h8 : h ≤ 8) (hl : l ≤ 1000) (hn : n < 9223372036854775808) :
    Calls Tryd.prog 59 #[.int .i64 (h : Int), .int .i64 (l : Int), .int .i64 (n : Int)] w fun e w' => e = .returned (.int .i64 (cT h l n : Int)) ∧ w' = w := by
  have hv := widthT_cT h l n hn
  have hw := rwidth_any h l w h1 h8 hl
  obtain ⟨q, hq⟩ : ∃ q, widthT h l = q := ⟨_, rfl⟩
  obtain ⟨r, hr⟩ : ∃ r, cT h l n = r := ⟨_, rfl⟩
  rw [hq] at hv hw
  rw [hr] at hv ⊢
  have hrn : r ≤ n := by rw [← hr]; exact cT_le h l n
  have Hw := Lib.hid hw
  clear hw hq hr
  by_cases h0 : q = 0
  · subst h0
    rw [if_pos rfl] at hv
    subst hv
    go_enter Tryd.func59, Tryd.ntmps59
    go_wp2_with (go_at_call 65; refine Hw.out.mono ?_; rintro e w2 ⟨rfl, hw⟩; obtain rfl := hw.symm)
    go_ret
    exact ⟨rfl, by trivial⟩
  · rw [if_neg h0] at hv
    have hz : ((q : Int) == 0) = false := by simp; omega
    have hzn : (q == 0) = false := by simp; omega
    have hq0 : (q : Int) ≠ 0 := by omega
    have hqv : (n : Int) / (q : Int) = (r : Int) := by rw [← hv]; rfl
    have hwr : IntKind.i64.wrap (r : Int) = (r : Int) := IntWalk.i64_in _ (by omega)
    clear hv
    go_enter Tryd.func59, Tryd.ntmps59
    go_wp2_with (go_at_call 65; refine Hw.out.mono ?_; rintro e w2 ⟨rfl, hw⟩; obtain rfl := hw.symm)
    go_ret
    exact ⟨rfl, by trivial⟩
end Go.Proofs.YtfhmjgkcpcnkbaaDoor
/- What paths and steps cover. No program in sight. -/
namespace Go.Proofs.YtfhmjgkcpcnkbaaDoor

def spanSum (l : List (Nat × Nat)) : Nat := (l.map fun x => x.2 - x.1).sum
theorem spanSum_append (l m : List (Nat × Nat)) : spanSum (l ++ m) = spanSum l + spanSum m := by simp [spanSum]
theorem spanSum_one (x : Nat × Nat) : spanSum [x] = x.2 - x.1 := by simp [spanSum]
def apartR (x y : Nat × Nat) : Prop := x.2 ≤ y.1 ∨ y.2 ≤ x.1

structure PathOk (i a b : Nat) (l : List (Nat × Nat)) : Prop where
  each : ∀ x ∈ l, a ≤ x.1 ∧ x.1 < x.2 ∧ x.2 ≤ b ∧ (x.2 ≤ i ∨ i < x.1)
  sum : spanSum l + 1 = b - a
  apart : l.Pairwise apartR
theorem pathL_ok (d : Nat) : ∀ i a b : Nat, b - a ≤ d → a ≤ i → i < b → PathOk i a b (pathL i a b) := by
  induction d with
  | zero => intro i a b h h1 h2; omega
  | succ d ih =>
    intro i a b h h1 h2
    by_cases hb : b - a < 2
    · rw [pathL_small i a b hb]
      exact ⟨by simp, by simp [spanSum]; omega, List.Pairwise.nil⟩
    · have hl := splitN_lt (b - a) (by omega)
      have hp := splitN_pos (b - a) (by omega)
      by_cases hi : i < a + splitN (b - a)
      · rw [pathL_left i a b (by omega) hi]
        have hr := ih i a (a + splitN (b - a)) (by omega) h1 hi
        refine ⟨fun x hx => ?_, ?_, ?_⟩
        · rcases List.mem_append.1 hx with hx | hx
          · obtain ⟨g1, g2, g3, g4⟩ := hr.each x hx
            exact ⟨g1, g2, by omega, g4⟩
          · rw [List.mem_singleton.1 hx]
            exact ⟨by show a ≤ a + _; omega, by show a + _ < b; omega, Nat.le_refl _, .inr hi⟩
        · rw [spanSum_append, spanSum_one]
          have := hr.sum
          show spanSum _ + (b - (a + splitN (b - a))) + 1 = b - a
          omega
        · refine List.pairwise_append.2 ⟨hr.apart, List.pairwise_singleton _ _, fun x hx y hy => ?_⟩
          rw [List.mem_singleton.1 hy]
          exact .inl (hr.each x hx).2.2.1
      · rw [pathL_right i a b (by omega) hi]
        have hr := ih i (a + splitN (b - a)) b (by omega) (by omega) h2
        refine ⟨fun x hx => ?_, ?_, ?_⟩
        · rcases List.mem_append.1 hx with hx | hx
          · obtain ⟨g1, g2, g3, g4⟩ := hr.each x hx
            exact ⟨by omega, g2, g3, g4⟩
          · rw [List.mem_singleton.1 hx]
            exact ⟨Nat.le_refl _, by show a < a + _; omega, by show a + _ ≤ b; omega, .inl (by show a + _ ≤ i; omega)⟩
        · rw [spanSum_append, spanSum_one]
          have := hr.sum
          show spanSum _ + (a + splitN (b - a) - a) + 1 = b - a
          omega
        · refine List.pairwise_append.2 ⟨hr.apart, List.pairwise_singleton _ _, fun x hx y hy => ?_⟩
          rw [List.mem_singleton.1 hy]
          exact .inr (hr.each x hx).1
theorem pathL_len (d : Nat) : ∀ i a b : Nat, b - a ≤ 2 ^ d → (pathL i a b).length ≤ d := by
  induction d with
  | zero => intro i a b h; rw [pathL_small i a b (by omega)]; simp
  | succ d ih =>
    intro i a b h
    by_cases hb : b - a < 2
    · rw [pathL_small i a b hb]; simp
    · obtain ⟨j, h1, h2, h3⟩ := splitN_pow (b - a) (by omega)
      have hj : j ≤ d := by
        have : 2 ^ j < 2 ^ (d + 1) := by omega
        have := (Nat.pow_lt_pow_iff_right (a := 2) (by decide)).1 this
        omega
      have hjd : 2 ^ j ≤ 2 ^ d := Nat.pow_le_pow_right (by decide) hj
      have e : 2 ^ (j + 1) = 2 * 2 ^ j := by rw [Nat.pow_succ]; omega
      by_cases hi : i < a + splitN (b - a)
      · rw [pathL_left i a b (by omega) hi, List.length_append]
        have := ih i a (a + splitN (b - a)) (by omega)
        simp; omega
      · rw [pathL_right i a b (by omega) hi, List.length_append]
        have := ih i (a + splitN (b - a)) b (by omega)
        simp; omega

/-- from a stretch up, each time one that is beside it -/
def upP : Nat × Nat → List (Nat × Nat) → Option (Nat × Nat)
  | p, [] => some p
  | p, x :: l => if x.2 = p.1 then upP (x.1, p.2) l else if x.1 = p.2 then upP (p.1, x.2) l else none
theorem upP_snoc (x : Nat × Nat) : ∀ (l : List (Nat × Nat)) (p q : Nat × Nat), upP p l = some q → upP p (l ++ [x]) = upP q [x]
  | [], p, q, h => by cases h; rfl
  | y :: l, p, q, h => by
    simp only [List.cons_append, upP] at h ⊢
    split at h
    · rename_i g; rw [if_pos g]; exact upP_snoc x l _ q h
    · rename_i g
      split at h
      · rename_i g'; rw [if_neg g, if_pos g']; exact upP_snoc x l _ q h
      · cases h
theorem pathL_up (d : Nat) : ∀ i a b : Nat, b - a ≤ d → a ≤ i → i < b → upP (i, i + 1) (pathL i a b) = some (a, b) := by
  induction d with
  | zero => intro i a b h h1 h2; omega
  | succ d ih =>
    intro i a b h h1 h2
    by_cases hb : b - a < 2
    · rw [pathL_small i a b hb]
      have e1 : i = a := by omega
      have e2 : i + 1 = b := by omega
      rw [upP, e2, e1]
    · have hl := splitN_lt (b - a) (by omega)
      have hp := splitN_pos (b - a) (by omega)
      by_cases hi : i < a + splitN (b - a)
      · rw [pathL_left i a b (by omega) hi, upP_snoc _ _ _ _ (ih i a _ (by omega) h1 hi)]
        simp only [upP]
        rw [if_neg (by omega)]
        simp
      · rw [pathL_right i a b (by omega) hi, upP_snoc _ _ _ _ (ih i _ b (by omega) (by omega) h2)]
        simp [upP]

/-- what lies within [0, m), what behind -/
def withinSum (m : Nat) (l : List (Nat × Nat)) : Nat := spanSum (l.filter fun x => decide (x.2 ≤ m))
def behindSum (m : Nat) (l : List (Nat × Nat)) : Nat := spanSum (l.filter fun x => !decide (x.2 ≤ m))
theorem withinSum_append (m : Nat) (l k : List (Nat × Nat)) : withinSum m (l ++ k) = withinSum m l + withinSum m k := by simp [withinSum, spanSum_append]
theorem behindSum_append (m : Nat) (l k : List (Nat × Nat)) : behindSum m (l ++ k) = behindSum m l + behindSum m k := by simp [behindSum, spanSum_append]
theorem withinSum_one (m : Nat) (x : Nat × Nat) : withinSum m [x] = if x.2 ≤ m then x.2 - x.1 else 0 := by
  by_cases h : x.2 ≤ m <;> simp [withinSum, spanSum, h]
theorem behindSum_one (m : Nat) (x : Nat × Nat) : behindSum m [x] = if x.2 ≤ m then 0 else x.2 - x.1 := by
  by_cases h : x.2 ≤ m <;> simp [behindSum, spanSum, h]

structure StepsOk (m a n : Nat) (whole : Bool) (l : List (Nat × Nat)) : Prop where
  each : ∀ x ∈ l, a ≤ x.1 ∧ x.1 < x.2 ∧ x.2 ≤ a + n ∧ (x.2 ≤ a + m ∨ a + m ≤ x.1)
  apart : l.Pairwise apartR
  behind : behindSum (a + m) l = n - m
  within : withinSum (a + m) l = m ∨ (withinSum (a + m) l = 0 ∧ whole = true ∧ (m = n ∨ ∃ j, m = 2 ^ j))
theorem stepsL_ok (d : Nat) : ∀ (m a n : Nat) (whole : Bool), n ≤ d → 1 ≤ m → m ≤ n → StepsOk m a n whole (stepsL m a n whole) := by
  induction d with
  | zero => intro m a n whole h h1 h2; omega
  | succ d ih =>
    intro m a n whole h h1 h2
    by_cases hmn : m = n
    · subst hmn
      rw [stepsL_eq m a whole h1]
      cases whole with
      | true => exact ⟨by simp, by simp, by simp [behindSum, spanSum], .inr ⟨by simp [withinSum, spanSum], rfl, .inl rfl⟩⟩
      | false =>
        refine ⟨?_, by simp, ?_, .inl ?_⟩
        · simp only [Bool.false_eq_true, if_false, List.mem_singleton]
          rintro x rfl
          exact ⟨Nat.le_refl _, by show a < a + m; omega, Nat.le_refl _, .inl (Nat.le_refl _)⟩
        · simp [behindSum_one]
        · simp [withinSum_one]
    · have hl := splitN_lt n (by omega)
      have hp := splitN_pos n (by omega)
      by_cases hk : m ≤ splitN n
      · rw [stepsL_left m a n whole h1 (by omega) hk]
        have hr := ih m a (splitN n) whole (by omega) h1 hk
        have hx2 : ¬ a + n ≤ a + m := by omega
        refine ⟨fun x hx => ?_, ?_, ?_, ?_⟩
        · rcases List.mem_append.1 hx with hx | hx
          · obtain ⟨g1, g2, g3, g4⟩ := hr.each x hx
            exact ⟨g1, g2, by omega, g4⟩
          · rw [List.mem_singleton.1 hx]
            exact ⟨by show a ≤ a + splitN n; omega, by show a + splitN n < a + n; omega, Nat.le_refl _, .inr (by show a + m ≤ a + splitN n; omega)⟩
        · refine List.pairwise_append.2 ⟨hr.apart, List.pairwise_singleton _ _, fun x hx y hy => ?_⟩
          rw [List.mem_singleton.1 hy]
          exact .inl (hr.each x hx).2.2.1
        · rw [behindSum_append, behindSum_one, hr.behind, if_neg hx2]
          show splitN n - m + (a + n - (a + splitN n)) = n - m
          omega
        · rw [withinSum_append, withinSum_one, if_neg hx2]
          rcases hr.within with g | ⟨g1, g2, g3⟩
          · exact .inl (by omega)
          · refine .inr ⟨by omega, g2, .inr ?_⟩
            rcases g3 with g3 | g3
            · obtain ⟨j, hj, _, _⟩ := splitN_pow n (by omega)
              exact ⟨j, by omega⟩
            · exact g3
      · rw [stepsL_right m a n whole h1 (by omega) hk]
        have hr := ih (m - splitN n) (a + splitN n) (n - splitN n) false (by omega) (by omega) (by omega)
        have e : a + splitN n + (m - splitN n) = a + m := by omega
        have hx2 : a + splitN n ≤ a + m := by omega
        have hbe := hr.behind
        have hwi := hr.within
        rw [e] at hbe hwi
        refine ⟨fun x hx => ?_, ?_, ?_, ?_⟩
        · rcases List.mem_append.1 hx with hx | hx
          · obtain ⟨g1, g2, g3, g4⟩ := hr.each x hx
            exact ⟨by omega, g2, by omega, by omega⟩
          · rw [List.mem_singleton.1 hx]
            exact ⟨Nat.le_refl _, by show a < a + splitN n; omega, by show a + splitN n ≤ a + n; omega, .inl hx2⟩
        · refine List.pairwise_append.2 ⟨hr.apart, List.pairwise_singleton _ _, fun x hx y hy => ?_⟩
          rw [List.mem_singleton.1 hy]
          exact .inr (hr.each x hx).1
        · rw [behindSum_append, behindSum_one, if_pos hx2]
          clear hwi hr ih
          omega
        · rw [withinSum_append, withinSum_one, if_pos hx2]
          refine .inl ?_
          rcases hwi with g | ⟨_, g2, _⟩
          · rw [g]; show m - splitN n + (a + splitN n - a) = m; omega
          · cases g2
theorem stepsL_len (d : Nat) : ∀ (m a n : Nat) (whole : Bool), 1 ≤ m → m ≤ n → n ≤ 2 ^ d → (stepsL m a n whole).length ≤ d + 1 := by
  induction d with
  | zero =>
    intro m a n whole h1 h2 h
    obtain rfl : m = n := by omega
    rw [stepsL_eq m a whole h1]
    cases whole <;> simp
  | succ d ih =>
    intro m a n whole h1 h2 h
    by_cases hmn : m = n
    · subst hmn
      rw [stepsL_eq m a whole h1]
      cases whole <;> simp
    · obtain ⟨j, g1, g2, g3⟩ := splitN_pow n (by omega)
      have hj : j ≤ d := by
        have : 2 ^ j < 2 ^ (d + 1) := by omega
        have := (Nat.pow_lt_pow_iff_right (a := 2) (by decide)).1 this
        omega
      have hjd : 2 ^ j ≤ 2 ^ d := Nat.pow_le_pow_right (by decide) hj
      have e : 2 ^ (j + 1) = 2 * 2 ^ j := by rw [Nat.pow_succ]; omega
      by_cases hk : m ≤ splitN n
      · rw [stepsL_left m a n whole h1 (by omega) hk, List.length_append]
        have := ih m a (splitN n) whole h1 hk (by omega)
        simp; omega
      · rw [stepsL_right m a n whole h1 (by omega) hk, List.length_append]
        have := ih (m - splitN n) (a + splitN n) (n - splitN n) false (by omega) (by omega) (by omega)
        simp; omega
end Go.Proofs.YtfhmjgkcpcnkbaaDoor
