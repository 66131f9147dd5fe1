/- tiles: what All hands out, round by round. -/
import Derived.Test.YtfhmjgkcpcnkbaaDoorQf122
import Derived.Test.YtfhmjgkcpcnkbaaDoorQf117
import Derived.Test.YtfhmjgkcpcnkbaaDoorQf118
import Derived.Shelf.Spec.TrailingZeros
import Derived.Test.YtfhmjgkcpcnkbaaDoorQf119
namespace Go.Proofs.YtfhmjgkcpcnkbaaDoor
open Go Go.RowKit Go.Shelf
attribute [local go_sem] Oper.semAt_some

theorem KeepU.hs {B n₁ : Nat} {U : Nat → Prop} {W W' : World} {X : Nat → Prop} {A : Option Addr} {n c : Nat} {hs : HL} (h : KeepU B n₁ U W W') (hh : Hs W X A n c hs) (hm : ∀ b, b < W.heap.size → X b → b < n₁ ∧ ¬ U b) : Hs W' X A n c hs := ⟨h.slv hh.sl hm, hh.len, hh.all⟩
theorem MapF.keepU {B n₁ : Nat} {U : Nat → Prop} {W W' : World} {m N : Nat} {f : Int → Int → Option Value} (h : MapF W m N f) (hk : KeepU B n₁ U W W') (hm : B ≤ m) : MapF W' m N f := by
  obtain ⟨es, clock, hb, r⟩ := h
  exact ⟨es, clock, hk.f.same m _ hm hb rfl, r⟩
/-- what is looked at while All goes on: the box, the tree's own cells, the copy of its map, its rows -/
structure ItV (bx p m0 mc N h : Nat) (f : Int → Int → Option Value) (L : HL) (X : Nat → Prop) (W : World) : Prop where
  box : Blk W bx 40 #[.pointer (some ⟨p, 0, none⟩)]
  blk : Blk W p 73 (tiArr h L.length m0)
  map : MapF W mc N f
  rows : ∀ a b, ∃ A c, (f a b).getD nilS = .slice A (tileG h L a b).length c ∧ Hs W X A (tileG h L a b).length c (tileG h L a b)
section
variable {bx p m0 mc N h : Nat} {f : Int → Int → Option Value} {L : HL} {X : Nat → Prop} {W W' : World}
theorem ItV.step (v : ItV bx p m0 mc N h f L X W) (hb : Below W.heap.size W W') : ItV bx p m0 mc N h f L X W' :=
  ⟨v.box.below hb v.box.lt, v.blk.below hb v.blk.lt, v.map.step hb, fun a b => let ⟨A, c, h1, h2⟩ := v.rows a b; ⟨A, c, h1, h2.step hb⟩⟩
theorem ItV.keepU {B n₁ : Nat} {U : Nat → Prop} (v : ItV bx p m0 mc N h f L X W) (hk : KeepU B n₁ U W W') (hm : B ≤ mc) (hx : bx < n₁ ∧ ¬ U bx) (hp : p < n₁ ∧ ¬ U p) (hX : ∀ b, X b → b < n₁ ∧ ¬ U b) : ItV bx p m0 mc N h f L X W' :=
  ⟨hk.blk v.box hx.1 hx.2, hk.blk v.blk hp.1 hp.2, v.map.keepU hk hm, fun a b => let ⟨A, c, h1, h2⟩ := v.rows a b; ⟨A, c, h1, hk.hs h2 fun b _ hb => hX b hb⟩⟩
theorem ItV.c1 (v : ItV bx p m0 mc N h f L X W) : W.cell? ⟨bx, 0, none⟩ = some (.pointer (some ⟨p, 0, none⟩)) := by rw [v.box.cell]; rfl
theorem ItV.c0 (v : ItV bx p m0 mc N h f L X W) : W.cell? ⟨p, 0, none⟩ = some (.int .i64 (h : Int)) := by rw [v.blk.cell]; rfl
end
/-- a round is handed a tile, its hashes in memory of their own -/
def TileY (h : Nat) (L : HL) (n₁ k : Nat) (vs : Array Value) (W : World) : Prop := ∃ t, (tilesL h L)[k]? = some t ∧ ∃ v, vs = #[.agg #[.int .i64 t.1, .int .i64 t.2.1, v]] ∧ W.ownsRow n₁ 48 32 v t.2.2.length (hcells t.2.2)
theorem run_shrT_op {ρ : Operand → Value} {o : Oper} (x y : Operand) (ty : TypeId) (n h : Nat) (hh : h ≤ 62) (ho : o.op = .binOp .shr 2 x y ty) (hx : ρ x = .int .i64 (n : Int)) (hy : ρ y = .int .i64 (h : Int)) (W : World) :
    (execOp ρ o).run Tryd.prog W = .ok (.value (.int .i64 ((n / 2 ^ h : Nat) : Int))) W := by
  have h0 : (0 : Int) ≤ (h : Int) := by omega
  have h1 : (h : Int) ≤ 64 := by omega
  unfold execOp
  simp only [ho, hx, hy]
  go_simp
theorem aggTile : ∀ w : World, (isAgg 38).run Tryd.prog w = .ok true w := fun _ => by kernel_rfl
theorem sizeTile : ∀ w : World, (sizeOf 38).run Tryd.prog w = .ok 3 w := fun _ => by kernel_rfl
theorem sizeHl : ∀ w : World, (sizeOf 36).run Tryd.prog w = .ok 1 w := fun _ => by kernel_rfl
/-- a row is copied behind nothing -/
theorem copy_row {w : World} {X : Nat → Prop} {A : Option Addr} {n c : Nat} {L : HL} (hs : Hs w X A n c L) (hn : n ≤ 1000000) :
    ∃ A' c' W', (Builtin.append_ #[36, 36] 36 #[.slice none 0 0, .slice A n c]).run Tryd.prog w = .ok (.slice A' n c') W' ∧ W'.ownsRow w.heap.size 48 32 (.slice A' n c') n (hcells L) ∧ Below w.heap.size w W' := by
  obtain ⟨v', W', hr, ho, hg, hv'⟩ := append_slv (ty := 36) Tryd.underlying36 info26z rfl (by decide) (World.ownsRow_nil w w.heap.size 48 32) hs.sl.all (fun u hu => by obtain ⟨y, -, rfl⟩ := List.mem_map.1 hu; rfl) (by unfold maxLen; omega) (by omega) (Nat.le_refl _)
  rw [List.nil_append, Nat.zero_add] at ho
  obtain ⟨A', c', rfl, -⟩ := owns_slv ho
  exact ⟨A', c', W', hr, ho, (Below.refl _ _).grown hg (Nat.le_refl _) fun k hk => by cases hk⟩
set_option maxRecDepth 100000 in
set_option maxHeartbeats 8000000 in
theorem tall_seq (lo p m0 h bx : Nat) (f : Int → Int → Option Value) (L : HL) (U : Nat → Prop) (w : World) (ht : Ti lo p m0 h f L w) (hbx : Blk w bx 40 #[.pointer (some ⟨p, 0, none⟩)]) (hU : ∀ b, U b → b < w.heap.size) (hU1 : ¬ U bx) (hU2 : ∀ b, TiW p m0 f b → ¬ U b) :
    SeqU Tryd.prog 46 #[.pointer (some ⟨bx, 0, none⟩)] (tilesL h L).length U (TileY h L) w := by
  intro ly J Jx W hW hJ hJx hY h0
  have ht1 := ht.step hW
  have kb := hbx.below hW hbx.lt
  have h1 := ht.h1
  have h8 := ht.h8
  have hmax := ht.max
  have hzb := kb.lt
  have hzp := ht1.t.blk.lt
  have hUW : ∀ b, U b → b < W.heap.size := fun b hb => Nat.lt_of_lt_of_le (hU b hb) hW.size
  have hUp : ¬ U p := hU2 p (.inl rfl)
  have hmc := fun V (hV : Below W.heap.size W V) => mclone_any (ht1.t.map.step hV)
  have hrows : ∀ a b, ∃ A c, (f a b).getD nilS = .slice A (tileG h L a b).length c ∧ Hs W (fun b => b < W.heap.size ∧ ¬ U b) A (tileG h L a b).length c (tileG h L a b) := fun a b => by
    obtain ⟨A, c, hv, hs⟩ := owns_slv (ht1.t.rows.get a b)
    refine ⟨A, c, hv, hs.weak fun k hk hx => ⟨hk, ?_⟩, rfl, tileG_32 h L ht.all a b⟩
    cases hf : f a b with
    | none => rw [hf] at hx; cases hx.2
    | some v0 => rw [hf] at hx; exact hU2 k (.inr (.inr ⟨a, b, v0, hf, hx.2.symm⟩))
  have hst := h0 W.heap.size (Nat.le_refl _)
  have hlen : (tilesL h L).length = (gR h 0 L.length).length := tilesL_len h L
  have c1 : ∀ s : InC (fun V => Below W.heap.size W V), s.W.cell? ⟨bx, 0, none⟩ = some (.pointer (some ⟨p, 0, none⟩)) := fun s => by rw [(kb.below s.ok kb.lt).cell]; rfl
  have c2 : ∀ s : InC (fun V => Below W.heap.size W V), s.W.cell? ⟨p, 2, none⟩ = some (.map (some m0)) := fun s => (ht1.step s.ok).c2
  have c3 : ∀ s : InC (fun V => Below W.heap.size W V), s.W.cell? ⟨p, 1, none⟩ = some (.int .i64 (L.length : Int)) := fun s => (ht1.step s.ok).c1
  have c1w : W.cell? ⟨bx, 0, none⟩ = some (.pointer (some ⟨p, 0, none⟩)) := by rw [kb.cell]; rfl
  have c2w : W.cell? ⟨p, 2, none⟩ = some (.map (some m0)) := ht1.c2
  have hq := fun w => run_eql_map_nil_sl (P := Tryd.prog) w 71 _ _ (some m0) Tryd.underlying71
  have hblk := ht1.t.blk
  obtain ⟨n, hn⟩ : ∃ n, L.length = n := ⟨_, rfl⟩
  rw [hn] at c3 hlen hmax
  have Hn := Lib.hid hn
  have HJ := Lib.hid hJ
  have HY := Lib.hid hY
  have Hst := Lib.hid hst
  have Hlen := Lib.hid hlen
  have HUW := Lib.hid hUW
  have Hmc := Lib.hid hmc
  have Hrows := Lib.hid hrows
  have Hblk := Lib.hid hblk
  have Hkb := Lib.hid kb
  have HU1 := Lib.hid hU1
  have HU2 := Lib.hid hUp
  have hS : Below W.heap.size W W.drew := (Below.refl _ _).drew
  clear hJx hJ hY h0 hst hlen hUW hmc hrows hblk kb ht ht1 hbx hU hU1 hU2 hW hn hUp
  refine callsIn_of_wp Tryd.func46 rfl trivial ?_ rfl
  simp only [Tryd.ntmps46, List.size_toArray, List.length_cons, List.length_nil, Nat.reduceAdd, Nat.reduceSub, Array.replicate_succ, Array.replicate_zero, List.push_toArray, List.append_toArray, List.nil_append, List.cons_append]
  gi_wp2
  refine wpIn_region_mix openW rfl (fun _ _ h => by obtain ⟨⟨v, hv⟩, -⟩ := h; cases hv) (fun V => Below W.heap.size W V) [(0, true), (1, true), (2, true), (3, true), (5, true), (6, true), (7, true), (8, true), (4, false), (9, true), (10, true)] (by kernel_rfl) (by kernel_rfl) hS fun _ => ?_
  simp only [List.map_cons, List.map_nil, Array.getD_eq_getD_getElem?, List.getElem?_toArray, List.getElem?_cons_succ, List.getElem?_cons_zero, Option.getD_some]
  have Z0g := Lib.hid hS.size
  generalize W.drew = Z0 at hS Z0g ⊢
  refine wpMix_s (fun K hK => ?_)
  go_simp
  refine hK _ ?_
  clear hK K
  refine wpMix_s (fun K hK => ?_)
  go_simp
  refine hK _ ?_
  clear hK K
  refine wpMix_s (fun K hK => ?_)
  go_simp
  refine hK _ ?_
  clear hK K
  refine wpMix_s (fun K hK => ?_)
  go_simp
  refine hK _ ?_
  clear hK K
  refine wpMix_s (fun K hK => ?_)
  go_simp
  refine hK _ ?_
  clear hK K
  refine wpMix_s (fun K hK => ?_)
  go_simp
  refine hK _ ?_
  clear hK K
  refine wpMix_s (fun K hK => ?_)
  go_simp
  refine hK _ ?_
  clear hK K
  refine wpMix_s (fun K hK => ?_)
  go_simp
  refine hK _ ?_
  clear hK K
  refine wpMix_c (fun K hK => ?_) hS
  go_simp
  refine (Hmc.out Z0 hS).mono ?_
  rintro e Z0_1 ⟨rfl, hmc, hb'⟩
  refine hK _ _ ?_
  clear hK K
  replace hS := hS.trans (hb'.mono hS.size)
  refine ⟨hS, ?_⟩
  have hmcB := Z0g.out
  clear hb'
  refine wpMix_s (fun K hK => ?_)
  go_simp
  refine hK _ ?_
  clear hK K
  refine wpMix_s (fun K hK => ?_)
  go_simp
  refine hK _ ?_
  clear hK K
  refine wpMix_nil ?_
  intro _
  have hgr := Below.trans (Below.refl W.heap.size W) hS
  have hJ1 := HJ.out W.heap.size 0 W Z0_1 none Hst.out (grown_of_below hS none) (fun r e => by cases e)
  have hV1 : ItV bx p m0 Z0.heap.size (64 * L.length) h f L (fun b => b < W.heap.size ∧ ¬ U b) Z0_1 := ⟨Hkb.out.step hS, Hblk.out.step hS, hmc, fun a b => let ⟨A, c, e1, e2⟩ := Hrows.out a b; ⟨A, c, e1, e2.step hS⟩⟩
  have hz1 := hS.size
  clear hgr hS Hst Hmc Hkb Hblk Hrows hmc c1 c2 c3 c1w c2w hq
  gi_wp2
  obtain ⟨mc, hmce⟩ : ∃ mc, Z0.heap.size = mc := ⟨_, rfl⟩
  rw [hmce] at hV1 hmcB ⊢
  clear hmce
  gi_loopw [5] (fun v5 wr => ∃ l : Nat, v5 = .int .i64 (l : Int) ∧ l ≤ 63 ∧ W.heap.size ≤ wr.heap.size ∧ J W.heap.size (offT h n l) wr ∧ ItV bx p m0 mc (64 * L.length) h f L (fun b => b < W.heap.size ∧ ¬ U b) wr) (fun v5 _ => 63 - (intOf v5).toNat)
  case atStart => exact ⟨0, rfl, by omega, hz1, hJ1, hV1⟩
  case round =>
    clear hJ1 hV1 hz1
    obtain ⟨l, rfl, hl63, hsz, hJs, hV⟩ := hrel
    have k1 := hV.c1
    have k0 := hV.c0
    have hcnt := tcount_any h l n wr h1 h8 (by omega) (by omega)
    obtain ⟨ct, hct⟩ : ∃ ct, cT h l n = ct := ⟨_, rfl⟩
    rw [hct] at hcnt
    have Hcnt := Lib.hid hcnt
    have HV := Lib.hid hV
    have HJs := Lib.hid hJs
    clear hcnt hV hJs
    gi_wp2
    refine ⟨trivial, callsIn_any openW (Hcnt.out.mono ?_)⟩
    rintro e w' ⟨rfl, hw⟩
    obtain rfl := hw.symm
    clear hw
    by_cases h0 : ct = 0
    · subst h0
      have hd : decide ((0 : Int) < ((0 : Nat) : Int)) = false := by decide
      have hoff := offT_end h n l hl63 hct
      clear hct k1 k0 Hcnt
      gi_wp2
      go_end0
      exact ⟨⟨_, rfl⟩, _, Nat.le_refl _, .inl (by rw [Hlen.out, ← hoff]; exact HJs.out)⟩
    · have hd : decide ((0 : Int) < (ct : Int)) = true := by simp; omega
      have hl62 := (cT_lev h l n h1 (by omega) (by omega)).2
      have hctn : ct ≤ n := by rw [← hct]; exact cT_le h l n
      have hws : IntKind.i64.wrap ((ct : Int) - 1) = ((ct - 1 : Nat) : Int) := by rw [IntWalk.i64_in _ (by omega)]; omega
      obtain ⟨q, hqe⟩ : ∃ q, (ct - 1) / 2 ^ h = q := ⟨_, rfl⟩
      have hqn : q ≤ ct := by rw [← hqe]; have := Nat.div_le_self (ct - 1) (2 ^ h); omega
      have hwa : IntKind.i64.wrap ((q : Int) + 1) = ((q + 1 : Nat) : Int) := by rw [IntWalk.i64_in _ (by omega)]; omega
      have hnT : nT h l n = q + 1 := by unfold nT; rw [hct, if_neg h0, hqe]
      have Hqe := Lib.hid hqe
      have HnT := Lib.hid hnT
      have Hct := Lib.hid hct
      have hcnt5 := fun V (hV : Below wr.heap.size wr V) => tcount_any h l n V h1 h8 (by omega) (by omega)
      rw [hct] at hcnt5
      have Hcnt5 := Lib.hid hcnt5
      have c1 : ∀ s : InC (fun V => Below wr.heap.size wr V), s.W.cell? ⟨bx, 0, none⟩ = some (.pointer (some ⟨p, 0, none⟩)) := fun s => (HV.out.step s.ok).c1
      have c0 : ∀ s : InC (fun V => Below wr.heap.size wr V), s.W.cell? ⟨p, 0, none⟩ = some (.int .i64 (h : Int)) := fun s => (HV.out.step s.ok).c0
      have hS : Below wr.heap.size wr wr.drew := (Below.refl _ _).drew
      clear hqe hnT hct hcnt5 Hcnt k1 k0
      gi_wp2
      refine wpIn_region_mix openW rfl (fun _ _ h => by obtain ⟨⟨v, hv⟩, -⟩ := h; cases hv) (fun V => Below wr.heap.size wr V) [(0, true), (1, true), (2, true), (3, true), (4, true), (5, true), (8, true), (9, true), (10, true), (11, true), (14, true), (6, false), (7, true), (12, true), (13, true)] (by kernel_rfl) (by kernel_rfl) hS fun _ => ?_
      simp only [List.map_cons, List.map_nil, Array.getD_eq_getD_getElem?, List.getElem?_toArray, List.getElem?_cons_succ, List.getElem?_cons_zero, Option.getD_some]
      generalize wr.drew = Y0 at hS ⊢
      refine wpMix_s (fun K hK => ?_)
      go_simp
      refine hK _ ?_
      clear hK K
      refine wpMix_s (fun K hK => ?_)
      go_simp
      refine hK _ ?_
      clear hK K
      refine wpMix_s (fun K hK => ?_)
      go_simp
      refine hK _ ?_
      clear hK K
      refine wpMix_s (fun K hK => ?_)
      go_simp
      refine hK _ ?_
      clear hK K
      refine wpMix_s (fun K hK => ?_)
      go_simp
      refine hK _ ?_
      clear hK K
      refine wpMix_s (fun K hK => ?_)
      go_simp
      refine hK _ ?_
      clear hK K
      refine wpMix_s (fun K hK => ?_)
      go_simp
      refine hK _ ?_
      clear hK K
      refine wpMix_s (fun K hK => ?_)
      go_simp
      refine hK _ ?_
      clear hK K
      refine wpMix_s (fun K hK => ?_)
      go_simp
      refine hK _ ?_
      clear hK K
      refine wpMix_s (fun K hK => ?_)
      go_simp
      refine hK _ ?_
      clear hK K
      refine wpMix_s (fun K hK => ?_)
      go_simp
      refine hK _ ?_
      clear hK K
      refine wpMix_c (fun K hK => ?_) hS
      go_simp
      refine (Hcnt5.out Y0 hS).mono ?_
      rintro e Y0e ⟨rfl, hww⟩
      obtain rfl := hww.symm
      refine hK _ _ ?_
      clear hK K
      refine ⟨hS, ?_⟩
      refine wpMix_s (fun K hK => ?_)
      go_simp
      refine hK _ ?_
      clear hK K
      refine wpMix_v (by kernel_rfl) (.int .i64 (q : Int)) (fun s => by rw [← Hqe.out]; exact run_shrT_op (.tmp 43) (.tmp 47) _ (ct - 1) h (by omega) rfl rfl rfl s.W) ?_
      simp only [Act.put, List.setIfInBounds_toArray, List.set_cons_succ, List.set_cons_zero]
      refine wpMix_s (fun K hK => ?_)
      go_simp
      refine hK _ ?_
      clear hK K
      refine wpMix_nil ?_
      intro _
      have hJ5 := HJ.out W.heap.size (offT h n l) wr Y0 none HJs.out (grown_of_below hS none) (fun r e => by cases e)
      have hV5 := HV.out.step hS
      have hz5 : W.heap.size ≤ Y0.heap.size := Nat.le_trans hsz hS.size
      clear c1 c0 hS HV HJs Hcnt5
      gi_wp2
      gi_loopw [50] (fun v50 wr => ∃ j : Nat, v50 = .int .i64 (j : Int) ∧ j ≤ q + 1 ∧ W.heap.size ≤ wr.heap.size ∧ J W.heap.size (offT h n l + j) wr ∧ ItV bx p m0 mc (64 * L.length) h f L (fun b => b < W.heap.size ∧ ¬ U b) wr) (fun v50 _ => q + 1 - (intOf v50).toNat)
      case atStart => exact ⟨0, rfl, by omega, hz5, hJ5, hV5⟩
      case round =>
        clear hJ5 hV5 hz5 hd hws hwa
        obtain ⟨j, rfl, hjq, hszi, hJi, hVi⟩ := hrel
        by_cases hjl : j < q + 1
        · have hd : decide ((j : Int) < ((q + 1 : Nat) : Int)) = true := by simp only [decide_eq_true_eq]; omega
          have hwk : IntKind.i64.wrap ((j : Int) + 1) = (j : Int) + 1 := IntWalk.i64_in _ (by omega)
          have hil : I64 (l : Int) := ⟨by omega, by omega⟩
          have hij : I64 (j : Int) := ⟨by omega, by omega⟩
          have htl := tilesL_at h L l j hl62 (by rw [Hn.out, HnT.out]; exact hjl)
          rw [Hn.out] at htl
          have hkl : offT h n l + j < (tilesL h L).length := (List.getElem?_eq_some_iff.1 htl).1
          obtain ⟨xb, hxb⟩ : ∃ xb, wr.heap.size = xb := ⟨_, rfl⟩
          obtain ⟨A6, c6, hv6, hr6⟩ := hVi.rows l j
          have hlook := fun V (hV : Below wr.heap.size wr V) => (hVi.step hV).map.look false hil hij
          have h256 : (tileG h L l j).length ≤ 256 := Nat.le_trans (tileG_len h _ _ _) (Nat.pow_le_pow_right (n := 2) (by decide) h8)
          obtain ⟨G, hG⟩ : ∃ G, tileG h L l j = G := ⟨_, rfl⟩
          rw [hG] at hv6 hr6 h256 htl
          simp only [hv6, Bool.false_eq_true, if_false] at hlook
          obtain ⟨gl, hgl⟩ : ∃ gl, G.length = gl := ⟨_, rfl⟩
          rw [hgl] at hv6 hr6 h256 hlook
          have Hhyp := Lib.hid hlook
          have Hr6 := Lib.hid hr6
          have Hgl := Lib.hid hgl
          have Htl := Lib.hid htl
          have HVi := Lib.hid hVi
          have HJi := Lib.hid hJi
          have Hxb := Lib.hid hxb
          have Hkl := Lib.hid hkl
          clear hlook hr6 hgl htl hVi hJi hv6 hG hil hij hkl hxb
          obtain ⟨w7, hw7⟩ : ∃ x, wr.alloc (.cells #[.int .i64 (l : Int), .int .i64 (j : Int), .slice none 0 0] 38) = x := ⟨_, rfl⟩
          have k7 : Blk w7 wr.heap.size 38 #[.int .i64 (l : Int), .int .i64 (j : Int), .slice none 0 0] := by rw [← hw7]; exact Blk.new _ _ _
          have hb7 : Below wr.heap.size wr w7 := by rw [← hw7]; exact (Below.refl _ _).alloc (Nat.le_refl _) _
          have Hw7 := Lib.hid hw7
          have Hk7 := Lib.hid k7
          clear hw7 k7
          gi_wp2
          rw [Hw7.out]
          have k7 := Hk7.out
          clear Hk7 Hw7
          have c7 : ∀ s : InC (fun V => Below w7.heap.size w7 V), s.W.cell? ⟨wr.heap.size, 2, none⟩ = some (.slice none 0 0) := fun s => by rw [(k7.step s.ok).cell]; rfl
          have hS : Below w7.heap.size w7 w7.drew := (Below.refl _ _).drew
          have Hb7 := Lib.hid hb7
          have hzl := hb7.size
          clear hb7
          refine wpIn_region_mix_tailY openW rfl (fun _ _ h => by obtain ⟨⟨v, hv⟩, -⟩ := h; cases hv) (fun V => Below w7.heap.size w7 V) 9 [(0, true), (1, true), (2, true), (3, true), (4, true), (5, true), (6, true), (7, false), (8, true)] (by kernel_rfl) (by kernel_rfl) hS fun _ => ?_
          simp only [List.map_cons, List.map_nil, Array.getD_eq_getD_getElem?, List.getElem?_toArray, List.getElem?_cons_succ, List.getElem?_cons_zero, Option.getD_some]
          generalize w7.drew = V0 at hS ⊢
          refine wpMix_s (fun K hK => ?_)
          go_simp
          refine hK _ ?_
          clear hK K
          refine wpMix_s (fun K hK => ?_)
          go_simp
          refine hK _ ?_
          clear hK K
          refine wpMix_s (fun K hK => ?_)
          go_simp
          refine hK _ ?_
          clear hK K
          refine wpMix_s (fun K hK => ?_)
          go_simp
          refine hK _ ?_
          clear hK K
          refine wpMix_s (fun K hK => ?_)
          go_simp
          refine hK _ ?_
          clear hK K
          refine wpMix_s (fun K hK => ?_)
          go_simp
          refine hK _ ?_
          clear hK K
          refine wpMix_v (by kernel_rfl) (.slice A6 gl c6) (fun s => run_lookup_opT 71 (.tmp 58) (.tmp 61) rfl _ _ rfl rfl (Hhyp.out s.W (Hb7.out.trans (Below.mono s.ok Hb7.out.size)))) ?_
          simp only [Act.put, List.setIfInBounds_toArray, List.set_cons_succ, List.set_cons_zero]
          obtain ⟨A8, c8, W8, hr8, ho8, hb8⟩ := copy_row (Hr6.out.step (Hb7.out.trans (hS.mono Hb7.out.size))) (by omega)
          have hS8 : Below w7.heap.size w7 W8 := hS.trans (hb8.mono hS.size)
          have Ho8 := Lib.hid (owns_le ho8 (Nat.le_trans Hb7.out.size hS.size))
          have HB9 := Lib.hid (Hb7.out.trans (hS8.mono Hb7.out.size))
          refine wpMix_run (by kernel_rfl) (.slice A8 gl c8) W8 (run_append_op (.tmp 57) (.tmp 62) 36 rfl _ _ rfl rfl hr8) hS8 ?_
          simp only [Act.put, List.setIfInBounds_toArray, List.set_cons_succ, List.set_cons_zero]
          replace hS := hS8
          clear hS8 hr8 ho8 hb8
          refine wpMix_s (fun K hK => ?_)
          go_simp
          refine hK _ ?_
          clear hK K
          refine wpMix_nil ?_
          intro _
          simp only [List.drop_succ_cons, List.drop_zero]
          obtain ⟨xb, hxb⟩ : ∃ xb, wr.heap.size = xb := ⟨_, rfl⟩
          rw [hxb] at k7 HB9 hzl c7 Ho8 ⊢
          have k8 := k7.step hS
          have hcx : W8.cell? ⟨xb, 2, none⟩ = some (.slice none 0 0) := by rw [k8.cell]; rfl
          have hfx := k8.frozen 2
          obtain ⟨w9, hw9⟩ : ∃ x, W8.setCell ⟨xb, 2, none⟩ (.slice A8 gl c8) = x := ⟨_, rfl⟩
          have k9 : Blk w9 xb 38 #[.int .i64 (l : Int), .int .i64 (j : Int), .slice A8 gl c8] := by rw [← hw9]; exact k8.set_ 2 _
          have hk9 : KB (fun b => b = xb) W8 w9 := by rw [← hw9]; exact KB.of_grown (grown_setCell (World.grownBy.refl _ (some xb)) 2 _) fun r e => (Option.some.inj e).symm
          have hB9 : Below wr.heap.size wr w9 := by
            rw [hxb]
            exact HB9.out.trans (hk9.below (fun b e => by omega) (by have := hS.size; omega))
          have ho9 : w9.ownsRow W.heap.size 48 32 (.slice A8 gl c8) gl (hcells G) := owns_le (hk9.own Ho8.out fun b hb e => by subst e; exact own_blkty Ho8.out k8 (by decide) hb) (by omega)
          have hld : (Instr.loadAt 38 (.pointer (some ⟨xb, 0, none⟩))).run Tryd.prog w9 = .ok (.agg #[.int .i64 (l : Int), .int .i64 (j : Int), .slice A8 gl c8]) w9 := run_load_blk (aggTile _) (sizeTile _) xb _ rfl k9
          have hJ9 := HJ.out W.heap.size (offT h n l + j) wr w9 none HJi.out (grown_of_below hB9 none) (fun r e => by cases e)
          have hV9 := HVi.out.step hB9
          have hz9 : W.heap.size ≤ w9.heap.size := Nat.le_trans hszi hB9.size
          obtain ⟨fn, tmps, assign, body, hy, hR⟩ := HY.out W.heap.size (offT h n l + j) #[.agg #[.int .i64 (l : Int), .int .i64 (j : Int), .slice A8 gl c8]] w9 (Nat.le_refl _) hz9 Hkl.out hJ9 ⟨_, Htl.out, _, rfl, by rw [Hgl.out]; exact ho9⟩
          have Hw9 := Lib.hid hw9
          have Hld := Lib.hid hld
          have HV9 := Lib.hid hV9
          clear hw9 k7 k8 k9 hk9 hB9 ho9 hld hJ9 hV9 c7 hS HB9 Ho8 HJi HVi hzl
          gi_wp2_with ((with_reducible show wpListIn _ _ _ _ _ (⟨none, .store _ _ _, _, _, _, _⟩ :: _) _ _); refine wpListIn_of1 openW rfl ?_; refine wpList_put1i rfl 36 (.tmp 64) (.tmp 63) rfl sizeHl ⟨xb, 2, none⟩ (.slice A8 gl c8) rfl rfl rfl _ hcx hfx ?_; refine thenN_nil ?_; simp only [Act.put]; rw [Hw9.out])
          clear hcx hfx
          refine np_normal ?_
          gi_wp2_with ((with_reducible show wpListIn _ _ _ _ _ (⟨some 66, .load _ _, _, _, _, _⟩ :: _) _ _); refine wpListIn_of1 openW rfl ?_; refine wpList_cell 38 (.tmp 7) xb 0 (.agg #[.int .i64 (l : Int), .int .i64 (j : Int), .slice A8 gl c8]) (by kernel_rfl) rfl rfl Hld.out ?_; refine thenN_nil ?_; simp only [Act.put, List.setIfInBounds_toArray, List.set_cons_succ, List.set_cons_zero])
          refine hR.mono ?_
          clear hR hy
          rintro e w4 (⟨rfl, hj4, hk4⟩ | ⟨rfl, hjx4, hk4⟩)
          · have hV4 := HV9.out.keepU hk4 hmcB ⟨hzb, HU1.out⟩ ⟨hzp, HU2.out⟩ fun b hb => hb
            have hz4 := hk4.size
            clear HV9 Hld Hw9
            gi_wp2
            exact ⟨⟨j + 1, by go_num, by omega, by omega, hj4, hV4⟩, by simp [intOf]; omega⟩
          · gi_wp2
            refine bodyPost_ret (by exact results_none rfl _ _ _) rfl ?_
            exact ⟨⟨_, rfl⟩, _, Nat.le_refl _, .inr ⟨offT h n l + j, Hkl.out, hjx4⟩⟩
        · obtain rfl : j = q + 1 := by omega
          have hd : decide (((q + 1 : Nat) : Int) < ((q + 1 : Nat) : Int)) = false := by simp
          have hwl : IntKind.i64.wrap ((l : Int) + 1) = ((l + 1 : Nat) : Int) := by rw [IntWalk.i64_in _ (by omega)]; omega
          gi_wp2
          exact ⟨⟨l + 1, by go_num, by omega, hszi, by rw [offT_succ, HnT.out]; exact hJi, hVi⟩, by simp [intOf]; omega⟩
end Go.Proofs.YtfhmjgkcpcnkbaaDoor
/- tiles: the root of a whole stretch, in plain Lean; math/bits.TrailingZeros64. -/
namespace Go.Proofs.YtfhmjgkcpcnkbaaDoor
open Go Go.RowKit
attribute [local go_sem] Oper.semAt_some

theorem pf_split (h k : Nat) : 2 ^ k = 2 ^ (k % h) * 2 ^ (h * (k / h)) := by
  rw [← Nat.pow_add]
  congr 1
  have := Nat.div_add_mod k h
  omega
theorem pf_shift (h k c : Nat) : c * 2 ^ k / 2 ^ (h * (k / h)) = c * 2 ^ (k % h) := by
  rw [pf_split h k, ← Nat.mul_assoc, Nat.mul_div_cancel _ (Nat.two_pow_pos _)]
theorem pf_cnt (h k c : Nat) (L : HL) (hc : (c + 1) * 2 ^ k ≤ L.length) : (c + 1) * 2 ^ (k % h) ≤ cT h (k / h) L.length := by
  unfold cT
  rw [Nat.le_div_iff_mul_le (Nat.two_pow_pos _), Nat.mul_assoc, ← pf_split]
  exact hc
theorem pf_in (h k c : Nat) (hh : 1 ≤ h) : c * 2 ^ (k % h) % 2 ^ h + 2 ^ (k % h) ≤ 2 ^ h := by
  have hm : k % h < h := Nat.mod_lt _ hh
  obtain ⟨d, hd⟩ : ∃ d, h = k % h + d := ⟨h - k % h, by omega⟩
  have e : 2 ^ h = 2 ^ (k % h) * 2 ^ d := by rw [← Nat.pow_add, ← hd]
  rw [e, Nat.mul_comm c, Nat.mul_mod_mul_left]
  have h1 : c % 2 ^ d < 2 ^ d := Nat.mod_lt _ (Nat.two_pow_pos _)
  have h2 : 2 ^ (k % h) * (c % 2 ^ d) + 2 ^ (k % h) = 2 ^ (k % h) * (c % 2 ^ d + 1) := by rw [Nat.mul_add, Nat.mul_one]
  rw [h2]
  exact Nat.mul_le_mul_left _ h1
theorem pf_len (h k c : Nat) (L : HL) (hh : 1 ≤ h) (hc : (c + 1) * 2 ^ k ≤ L.length) : c * 2 ^ (k % h) % 2 ^ h + 2 ^ (k % h) ≤ (ck (2 ^ h) (c * 2 ^ (k % h) / 2 ^ h) (lvT h (k / h) L)).length := by
  have h1 := pf_in h k c hh
  have h2 := pf_cnt h k c L hc
  have h3 := Nat.div_add_mod (c * 2 ^ (k % h)) (2 ^ h)
  unfold ck
  rw [List.length_take, List.length_drop, lvT_len]
  rw [Nat.add_mul, Nat.one_mul] at h2
  rw [Nat.mul_comm (2 ^ h)] at h3
  omega
theorem pf_root (h k c : Nat) (L : HL) (hh : 1 ≤ h) (hc : (c + 1) * 2 ^ k ≤ L.length) :
    rootL (((ck (2 ^ h) (c * 2 ^ (k % h) / 2 ^ h) (lvT h (k / h) L)).drop (c * 2 ^ (k % h) % 2 ^ h)).take (2 ^ (k % h))) = rootL ((L.drop (c * 2 ^ k)).take (2 ^ k)) := by
  have hl := pf_len h k c L hh hc
  have h2 : (c + 1) * (2 ^ (k % h) * 2 ^ (h * (k / h))) ≤ L.length := by rw [← pf_split]; exact hc
  have h4 := root_chunks (h * (k / h)) L (k % h) c h2
  have h5 : ck (2 ^ (k % h) * 2 ^ (h * (k / h))) c L = (L.drop (c * 2 ^ k)).take (2 ^ k) := by rw [← pf_split]; rfl
  rw [← h5, ← h4]
  congr 1
  have h3 := Nat.div_add_mod (c * 2 ^ (k % h)) (2 ^ h)
  rw [Nat.mul_comm (2 ^ h)] at h3
  apply List.ext_getElem
  · rw [List.length_take, List.length_drop, List.length_map, List.length_range]; omega
  · intro i h6 h7
    have hi : i < 2 ^ (k % h) := by simpa using h7
    rw [List.getElem_take, List.getElem_drop, List.getElem_map, List.getElem_range]
    obtain ⟨h8, h9⟩ := ck_get (2 ^ h) (c * 2 ^ (k % h) / 2 ^ h) (lvT h (k / h) L) (c * 2 ^ (k % h) % 2 ^ h + i) (by omega)
    rw [h9, lvT_get]
    congr 2
    omega
theorem pow2_is : ∀ (k n : Nat), n ≤ k → pow2 n = true → ∃ j, n = 2 ^ j
  | 0, n, hk, h => by
    obtain rfl : n = 0 := by omega
    cases h
  | k + 1, n, hk, h => by
    by_cases h2 : 2 ≤ n
    · obtain ⟨he, hp⟩ := pow2_half n h h2
      obtain ⟨j, hj⟩ := pow2_is k (n / 2) (by omega) hp
      exact ⟨j + 1, by rw [Nat.pow_succ, ← hj]; omega⟩
    · have h0 : n ≠ 0 := by rintro rfl; cases h
      exact ⟨0, by rw [Nat.pow_zero]; omega⟩
theorem ctz_pow (j : Nat) (hj : j < 63) : Lib.ctz 64 (2 ^ j) = j := by
  have hp := Nat.two_pow_pos j
  have hlt : 2 ^ j < 2 ^ 64 := Nat.pow_lt_pow_right (by decide) (by omega)
  unfold Lib.ctz
  rw [if_neg (by omega)]
  obtain ⟨m, hm, hc⟩ := Lib.ctzFrom_spec 64 (2 ^ j) hp hlt
  generalize Lib.ctzFrom 64 (2 ^ j) = c at hm hc ⊢
  have hle : c ≤ j := by
    apply Classical.byContradiction
    intro hne
    have h1 : 2 ^ (j + 1) ≤ 2 ^ c := Nat.pow_le_pow_right (by decide) (by omega)
    have h2 : 2 ^ c ≤ 2 ^ c * (2 * m + 1) := Nat.le_mul_of_pos_right _ (by omega)
    rw [Nat.pow_succ] at h1
    omega
  obtain ⟨d, rfl⟩ : ∃ d, j = c + d := ⟨j - c, by omega⟩
  rw [Nat.pow_add] at hm
  have h3 := Nat.eq_of_mul_eq_mul_left (Nat.two_pow_pos c) hm
  cases d with
  | zero => rfl
  | succ d => rw [Nat.pow_succ] at h3; omega
/-- the table that TrailingZeros64 looks into -/
def Tab (W : World) : Prop := TabAt 0 Lib.deBruijn64tab W
section
variable {W W' : World} {M : Nat → Prop} {N : Nat}
theorem Tab.block (h : Tab W) (hb : W'.heap[0]? = W.heap[0]?) : Tab W' := fun j hj => (World.cell?_of_block hb).trans (h j hj)
theorem Tab.lt (h : Tab W) : 0 < W.heap.size := by
  have := h 0 (by decide)
  unfold World.cell? at this
  rcases Nat.eq_zero_or_pos W.heap.size with h0 | h0
  · rw [Array.getElem?_eq_none (by omega)] at this; cases this
  · exact h0
theorem Tab.below (h : Tab W) (hb : Below N W W') (hN : 0 < N) : Tab W' := h.block (hb.block 0 hN)
theorem Tab.step (h : Tab W) (hb : Below W.heap.size W W') : Tab W' := h.below hb h.lt
theorem Tab.kb (h : Tab W) (hk : KB M W W') (hM : ¬ M 0) : Tab W' := h.block (hk.block 0 h.lt hM)
end
set_option maxHeartbeats 1000000 in
theorem tz64_core (x k idx : Nat) (w : World) (hx0 : ((x : Int) == 0) = false)
    (key : IntKind.u64.wrap (bits BinOp.and IntKind.u64 (x : Int) (IntKind.u64.wrap (-(x : Int))) * 285870213051353865) / 288230376151711744 = (idx : Int))
    (hi : idx < 64) (hk : k < 64) (hcell : w.cell? ⟨0, idx, none⟩ = some (.int .u8 k)) :
    Calls Tryd.prog 81 #[.int .u64 (x : Int)] w fun e w' => e = .returned (.int .i64 (k : Int)) ∧ w' = w := by
  go_enter Tryd.func81, Tryd.ntmps81
  go_wp2_with (simp only [key])
  go_ret
  exact ⟨rfl, rfl⟩
theorem tz64_any (x : Nat) (hx : x < 18446744073709551616) (hx0 : x ≠ 0) (w : World) (hT : Tab w) :
    Calls Tryd.prog 81 #[.int .u64 (x : Int)] w fun e w' => e = .returned (.int .i64 (Lib.ctz 64 x : Int)) ∧ w' = w := by
  obtain ⟨hlow, hk⟩ := Lib.lowest_bit 64 x hx0 hx
  obtain ⟨hi, htab⟩ := Lib.deBruijn64_at _ hk
  have hcell := hT _ hi
  rw [htab] at hcell
  exact tz64_core x _ _ w (by simp; omega) (tz64_key x _ hx hx0 hlow) hi hk hcell
end Go.Proofs.YtfhmjgkcpcnkbaaDoor
/- tiles: perfect, the root of a whole stretch. -/
namespace Go.Proofs.YtfhmjgkcpcnkbaaDoor
open Go Go.RowKit
attribute [local go_sem] Oper.semAt_some

theorem run_slice_op_bothH {ρ : Operand → Value} {o : Oper} (x y z : Operand) (ho : o.op = .slice 36 x (some y) (some z) none) (A : Option Addr) (n c a b m : Nat) (hx : ρ x = .slice A n c) (hy : ρ y = .int .i64 (a : Int)) (hz : ρ z = .int .i64 (b : Int)) (hbm : b = a + m) (hb : b ≤ c) (W : World) :
    (execOp ρ o).run Tryd.prog W = .ok (.value (.slice (if c = a then A else A.map (·.add (a * 32))) m (c - a))) W := by
  obtain rfl : m = b - a := by omega
  have hab : a ≤ b := by omega
  unfold execOp
  simp only [ho, hx, hy, hz, Option.map_some, Option.map_none]
  simp only [run_sliceAt_slice W 36 _ _ _ _ sliceT57, run_slice_lh W 36 A n c sliceT57 .i64 .i64 (a : Int) (b : Int) (by omega) (by omega) (by omega), size57, Sem.run_bind, Sem.run_pure, Result.andThen_ok, sliced, Int.toNat_natCast]
theorem run_quoT_op {ρ : Operand → Value} {o : Oper} (x y : Operand) (ty : TypeId) (n h : Nat) (hh : h ≠ 0) (ho : o.op = .binOp .quo 3 x y ty) (hx : ρ x = .int .i64 (n : Int)) (hy : ρ y = .int .i64 (h : Int)) (hn : n < 9223372036854775808) (W : World) :
    (execOp ρ o).run Tryd.prog W = .ok (.value (.int .i64 ((n / h : Nat) : Int))) W := by
  have h0 : (h : Int) ≠ 0 := by omega
  have hq : n / h ≤ n := Nat.div_le_self _ _
  obtain ⟨q, hqe⟩ : ∃ q, n / h = q := ⟨_, rfl⟩
  have e : (n : Int) / (h : Int) = (q : Int) := by rw [← hqe]; rfl
  rw [hqe] at hq ⊢
  clear hqe
  have h1 : IntKind.i64.wrap (q : Int) = (q : Int) := IntWalk.i64_in _ ⟨by omega, by omega⟩
  unfold execOp
  simp only [ho, hx, hy]
  go_simp
theorem run_remT_op {ρ : Operand → Value} {o : Oper} (x y : Operand) (ty : TypeId) (n h : Nat) (hh : h ≠ 0) (ho : o.op = .binOp .rem 3 x y ty) (hx : ρ x = .int .i64 (n : Int)) (hy : ρ y = .int .i64 (h : Int)) (W : World) :
    (execOp ρ o).run Tryd.prog W = .ok (.value (.int .i64 ((n % h : Nat) : Int))) W := by
  have h0 : (h : Int) ≠ 0 := by omega
  obtain ⟨q, hqe⟩ : ∃ q, n % h = q := ⟨_, rfl⟩
  have e : (n : Int).tmod (h : Int) = (q : Int) := by rw [← hqe, Int.tmod_eq_emod_of_nonneg (by omega)]; rfl
  rw [hqe]
  clear hqe
  unfold execOp
  simp only [ho, hx, hy]
  go_simp
set_option maxHeartbeats 4000000 in
set_option maxRecDepth 100000 in
theorem tperfect_any (lo p m h : Nat) (f : Int → Int → Option Value) (L : HL) (c k : Nat) (w : World) (ht : Ti lo p m h f L w) (hc : (c + 1) * 2 ^ k ≤ L.length) :
    Calls Tryd.prog 80 #[.pointer (some ⟨p, 0, none⟩), .int .i64 ((c * 2 ^ k : Nat) : Int), .int .i64 (k : Int)] w fun e w' => e = .returned (.agg ((rootL ((L.drop (c * 2 ^ k)).take (2 ^ k))).map B).toArray) ∧ Below w.heap.size w w' := by
  have h1 := ht.h1
  have h8 := ht.h8
  have hmax := ht.max
  have hpk := Nat.two_pow_pos k
  have hck : c * 2 ^ k + 2 ^ k ≤ L.length := by rw [Nat.add_mul, Nat.one_mul] at hc; exact hc
  have hk17 : k < 17 := by
    apply Classical.byContradiction
    intro hne
    have := Nat.pow_le_pow_right (n := 2) (by decide) (show 17 ≤ k by omega)
    omega
  have hsh := pf_shift h k c
  have hrt := pf_root h k c L h1 hc
  have hln := pf_len h k c L h1 hc
  have hmo8 : k % h < h := Nat.mod_lt _ h1
  have hlvk : k / h ≤ k := Nat.div_le_self _ _
  have hsk : h * (k / h) ≤ k := Nat.mul_div_le k h
  have hm2 : 2 ^ (k % h) ≤ 256 := Nat.pow_le_pow_right (n := 2) (by decide) (show k % h ≤ 8 by omega)
  have hs2 : 2 ^ h ≤ 256 := Nat.pow_le_pow_right (n := 2) (by decide) h8
  obtain ⟨r, hr⟩ : ∃ r, rootL ((L.drop (c * 2 ^ k)).take (2 ^ k)) = r := ⟨_, rfl⟩
  have hr32 : r.length = 32 := by rw [← hr]; exact length_rootL _ ((ht.all.drop _).take _)
  obtain ⟨fr, hfr⟩ : ∃ fr, c * 2 ^ k = fr := ⟨_, rfl⟩
  obtain ⟨lv, hlv⟩ : ∃ lv, k / h = lv := ⟨_, rfl⟩
  obtain ⟨mo, hmo⟩ : ∃ mo, k % h = mo := ⟨_, rfl⟩
  rw [hr] at hrt ⊢
  rw [hfr] at hsh hck ⊢
  rw [hlv] at hsh hrt hln hlvk hsk
  rw [hmo] at hsh hrt hln hmo8 hm2
  obtain ⟨n, hn⟩ : ∃ n, c * 2 ^ mo = n := ⟨_, rfl⟩
  rw [hn] at hsh hrt hln
  obtain ⟨s, hs⟩ : ∃ s, h * lv = s := ⟨_, rfl⟩
  rw [hs] at hsh hsk
  have hws : IntKind.i64.wrap ((lv : Int) * (h : Int)) = (s : Int) := by
    rw [← Int.natCast_mul, Nat.mul_comm, hs, IntWalk.i64_in _ (by omega)]
  have hnf : n ≤ fr := by rw [← hsh]; exact Nat.div_le_self _ _
  obtain ⟨b, hb⟩ : ∃ b, n / 2 ^ h = b := ⟨_, rfl⟩
  have hbn : b ≤ n := by rw [← hb]; exact Nat.div_le_self _ _
  obtain ⟨a, ha⟩ : ∃ a, n % 2 ^ h = a := ⟨_, rfl⟩
  rw [hb, ha] at hrt hln
  rw [← tileG_nat] at hrt hln
  have hil : I64 (lv : Int) := ⟨by omega, by omega⟩
  have hib : I64 (b : Int) := ⟨by omega, by omega⟩
  obtain ⟨A, cp, hv, hsl⟩ := owns_slv (ht.t.rows.get lv b)
  have hH : Hs w (fun _ => True) A (tileG h L lv b).length cp (tileG h L lv b) := ⟨hsl.all, rfl, tileG_32 h L ht.all lv b⟩
  have hroom := hsl.room
  have hlook := fun V (hV : Below w.heap.size w V) => (ht.step hV).t.map.look false hil hib
  simp only [hv, Bool.false_eq_true, if_false] at hlook
  have h256 := tileG_len h L lv b
  obtain ⟨G, hG⟩ : ∃ G, tileG h L lv b = G := ⟨_, rfl⟩
  rw [hG] at hrt hln hlook hH h256 hroom
  obtain ⟨m2, hm2e⟩ : ∃ m2, 2 ^ mo = m2 := ⟨_, rfl⟩
  obtain ⟨s2, hs2e⟩ : ∃ s2, 2 ^ h = s2 := ⟨_, rfl⟩
  have hpm := Nat.two_pow_pos mo
  have hps := Nat.two_pow_pos h
  have hand : bits .and .i64 (n : Int) ((s2 - 1 : Nat) : Int) = (a : Int) := by
    rw [i64_and_nat n (s2 - 1) (by omega) (by omega), ← hs2e, Nat.and_two_pow_sub_one_eq_mod, ha]
  have hsh1 : IntKind.i64.wrap ((2 : Int) ^ h) = (s2 : Int) := by rw [← hs2e]; exact pow8 h h8
  have hsh2 : IntKind.i64.wrap ((2 : Int) ^ mo) = (m2 : Int) := by rw [← hm2e]; exact pow8 mo (by omega)
  have hh0' : (0 : Int) ≤ (h : Int) := by omega
  have hh64 : (h : Int) ≤ 64 := by omega
  have hmo0 : (0 : Int) ≤ (mo : Int) := by omega
  have hmo64 : (mo : Int) ≤ 64 := by omega
  rw [hm2e] at hln hm2 hrt hpm
  rw [hs2e] at hs2 h256 hps
  have hwsub : IntKind.i64.wrap ((s2 : Int) - 1) = ((s2 - 1 : Nat) : Int) := by rw [IntWalk.i64_in _ (by omega)]; omega
  obtain ⟨hi, hhi⟩ : ∃ hi, a + m2 = hi := ⟨_, rfl⟩
  have hwadd : IntKind.i64.wrap ((a : Int) + (m2 : Int)) = (hi : Int) := by rw [IntWalk.i64_in _ (by omega)]; omega
  have htop : topL ((G.drop a).take m2) = r := by
    rw [topL_root mo _ (by rw [List.length_take, List.length_drop, hm2e]; omega), hrt]
  obtain ⟨A', hA'⟩ : ∃ x, (if cp = a then A else A.map (·.add (a * 32))) = x := ⟨_, rfl⟩
  obtain ⟨cq, hcq⟩ : ∃ x, cp - a = x := ⟨_, rfl⟩
  have hHt : Hs w (fun _ => True) A' m2 cq ((G.drop a).take m2) := by
    have h9 := (hH.take (a + m2) hln).drop a (by omega)
    rw [List.drop_take, Nat.add_sub_cancel_left] at h9
    rwa [hA', hcq] at h9
  have hcall := fun V (hV : Below w.heap.size w V) => top_ok ((G.drop a).take m2) _ _ _ V (hHt.step hV) (by rw [← hm2e]; exact pow2_two mo) (by omega)
  rw [htop] at hcall
  have hsop := fun (ρ : Operand → Value) (o : Oper) (ho : o.op = .slice 36 (.tmp 56) (some (.tmp 57)) (some (.tmp 61)) none) (hx : ρ (.tmp 56) = .slice A G.length cp) (hy : ρ (.tmp 57) = .int .i64 (a : Int)) (hz : ρ (.tmp 61) = .int .i64 (hi : Int)) (W : World) => run_slice_op_bothH (.tmp 56) (.tmp 57) (.tmp 61) ho A G.length cp a hi m2 hx hy hz (by omega) (by omega) W
  rw [hA', hcq] at hsop
  have hT := fun V (hV : Below w.heap.size w V) => ht.step hV
  have Hcall := Lib.hid hcall
  have Hlook := Lib.hid hlook
  have HT := Lib.hid hT
  have Hr32 := Lib.hid hr32
  have Hsh := Lib.hid hsh
  have Hlv := Lib.hid hlv
  have Hmo := Lib.hid hmo
  have Hb := Lib.hid hb
  have Hm2e := Lib.hid hm2e
  have Hs2e := Lib.hid hs2e
  have Hsop := Lib.hid hsop
  have hh0 : h ≠ 0 := by omega
  have Hh0 := Lib.hid hh0
  have hk63 : k < 9223372036854775808 := by omega
  have hs62 : s ≤ 62 := by omega
  have hmo8' : mo ≤ 8 := by omega
  have hh62 : h ≤ 62 := by omega
  clear hcall hlook hT hr32 hsh hlv hmo hb hm2e hs2e hHt htop hH hsl hv hG hrt hln ha hn hs hfr hr hh0 hsop hA' hcq hhi hil hib hroom hmax hc hck hpk hpm hps hk17 ht
  go_enter Tryd.func80, Tryd.ntmps80
  refine Code.wp_mono (fun _ _ _ h => BP.out h) ?_
  go_wp2_with ((with_reducible show wpList _ _ _ (⟨some 6, .alloc _, _, _, _, _⟩ :: _) _ _); refine wpList_hnew rfl rfl ?_; intro w1 k6 hb1; simp only [Act.put, List.setIfInBounds_toArray, List.set_cons_succ, List.set_cons_zero])
  have k6l := k6.lt
  have c0 : ∀ s : InC (fun V => Below w1.heap.size w1 V), s.W.cell? ⟨p, 0, none⟩ = some (.int .i64 (h : Int)) := fun s => (HT.out s.W (hb1.trans (Below.mono s.ok hb1.size))).c0
  have hS : Below w1.heap.size w1 w1.drew := (Below.refl _ _).drew
  refine wp_region_mix (fun W => Below w1.heap.size w1 W) [(0, true), (1, true), (2, true), (3, true), (4, true), (5, true), (6, true), (7, true), (8, true), (9, true), (10, true), (11, true), (12, true), (13, true)] (by kernel_rfl) (by kernel_rfl) hS fun _ => ?_
  simp only [List.map_cons, List.map_nil, Array.getD_eq_getD_getElem?, List.getElem?_toArray, List.getElem?_cons_succ, List.getElem?_cons_zero, Option.getD_some]
  generalize w1.drew = W0 at hS ⊢
  refine wpMix_s (fun K hK => ?_)
  go_simp
  refine hK _ ?_
  clear hK K
  refine wpMix_s (fun K hK => ?_)
  go_simp
  refine hK _ ?_
  clear hK K
  refine wpMix_s (fun K hK => ?_)
  go_simp
  refine hK _ ?_
  clear hK K
  refine wpMix_s (fun K hK => ?_)
  go_simp
  refine hK _ ?_
  clear hK K
  refine wpMix_s (fun K hK => ?_)
  go_simp
  refine hK _ ?_
  clear hK K
  refine wpMix_v (by kernel_rfl) (.int .i64 (lv : Int)) (fun s => by rw [← Hlv.out]; exact run_quoT_op (.tmp 14) (.tmp 18) _ k h Hh0.out rfl rfl rfl hk63 s.W) ?_
  simp only [Act.put, List.setIfInBounds_toArray, List.set_cons_succ, List.set_cons_zero]
  refine wpMix_s (fun K hK => ?_)
  go_simp
  refine hK _ ?_
  clear hK K
  refine wpMix_s (fun K hK => ?_)
  go_simp
  refine hK _ ?_
  clear hK K
  refine wpMix_s (fun K hK => ?_)
  go_simp
  refine hK _ ?_
  clear hK K
  refine wpMix_s (fun K hK => ?_)
  go_simp
  refine hK _ ?_
  clear hK K
  refine wpMix_s (fun K hK => ?_)
  go_simp
  refine hK _ ?_
  clear hK K
  refine wpMix_v (by kernel_rfl) (.int .i64 (mo : Int)) (fun s => by rw [← Hmo.out]; exact run_remT_op (.tmp 20) (.tmp 24) _ k h Hh0.out rfl rfl rfl s.W) ?_
  simp only [Act.put, List.setIfInBounds_toArray, List.set_cons_succ, List.set_cons_zero]
  refine wpMix_s (fun K hK => ?_)
  go_simp
  refine hK _ ?_
  clear hK K
  refine wpMix_s (fun K hK => ?_)
  go_simp
  refine hK _ ?_
  clear hK K
  refine wpMix_nil ?_
  intro _
  have k6 := k6.step hS
  have hb2 := hb1.trans (hS.mono hb1.size)
  have c0 : W0.cell? ⟨p, 0, none⟩ = some (.int .i64 (h : Int)) := (HT.out _ hb2).c0
  clear hS hb1
  go_wp2_with ((with_reducible show wpList _ _ _ (⟨some 33, .binOp _ _ _ _ _, _, _, _, _⟩ :: _) _ _); refine wpList_run0 rfl (.int .i64 (n : Int)) (by rw [← Hsh.out]; exact run_shrT_op (.tmp 26) (.tmp 32) _ fr s hs62 rfl rfl rfl _) ?_; simp only [Act.put, List.setIfInBounds_toArray, List.set_cons_succ, List.set_cons_zero])
  clear c0
  have c0 : ∀ s : InC (fun V => Below W0.heap.size W0 V), s.W.cell? ⟨p, 0, none⟩ = some (.int .i64 (h : Int)) := fun s => (HT.out s.W (hb2.trans (Below.mono s.ok hb2.size))).c0
  have c2 : ∀ s : InC (fun V => Below W0.heap.size W0 V), s.W.cell? ⟨p, 2, none⟩ = some (.map (some m)) := fun s => (HT.out s.W (hb2.trans (Below.mono s.ok hb2.size))).c2
  have hS : Below W0.heap.size W0 W0.drew := (Below.refl _ _).drew
  refine wp_region_mix (fun W => Below W0.heap.size W0 W) [(0, true), (1, true), (2, true), (3, true), (4, true), (5, true), (6, true), (7, true), (8, true), (9, true), (10, true), (11, true), (12, true), (13, true)] (by kernel_rfl) (by kernel_rfl) hS fun _ => ?_
  simp only [List.map_cons, List.map_nil, Array.getD_eq_getD_getElem?, List.getElem?_toArray, List.getElem?_cons_succ, List.getElem?_cons_zero, Option.getD_some]
  generalize W0.drew = V0 at hS ⊢
  refine wpMix_s (fun K hK => ?_)
  go_simp
  refine hK _ ?_
  clear hK K
  refine wpMix_s (fun K hK => ?_)
  go_simp
  refine hK _ ?_
  clear hK K
  refine wpMix_s (fun K hK => ?_)
  go_simp
  refine hK _ ?_
  clear hK K
  refine wpMix_s (fun K hK => ?_)
  go_simp
  refine hK _ ?_
  clear hK K
  refine wpMix_s (fun K hK => ?_)
  go_simp
  refine hK _ ?_
  clear hK K
  refine wpMix_s (fun K hK => ?_)
  go_simp
  refine hK _ ?_
  clear hK K
  refine wpMix_s (fun K hK => ?_)
  go_simp
  refine hK _ ?_
  clear hK K
  refine wpMix_s (fun K hK => ?_)
  go_simp
  refine hK _ ?_
  clear hK K
  refine wpMix_s (fun K hK => ?_)
  go_simp
  refine hK _ ?_
  clear hK K
  refine wpMix_s (fun K hK => ?_)
  go_simp
  refine hK _ ?_
  clear hK K
  refine wpMix_v (by kernel_rfl) (.int .i64 (b : Int)) (fun s => by rw [← Hb.out]; exact run_shrT_op (.tmp 39) (.tmp 43) _ n h hh62 rfl rfl rfl s.W) ?_
  simp only [Act.put, List.setIfInBounds_toArray, List.set_cons_succ, List.set_cons_zero]
  refine wpMix_s (fun K hK => ?_)
  go_simp
  refine hK _ ?_
  clear hK K
  refine wpMix_v (by kernel_rfl) (.slice A G.length cp) (fun s => run_lookup_opT 71 (.tmp 37) (.tmp 45) rfl _ _ rfl rfl (Hlook.out _ (hb2.trans (Below.mono s.ok hb2.size)))) ?_
  simp only [Act.put, List.setIfInBounds_toArray, List.set_cons_succ, List.set_cons_zero]
  refine wpMix_s (fun K hK => ?_)
  go_simp
  refine hK _ ?_
  clear hK K
  refine wpMix_nil ?_
  intro _
  have k6 := k6.step hS
  have hb3 := hb2.trans (hS.mono hb2.size)
  have c0 : V0.cell? ⟨p, 0, none⟩ = some (.int .i64 (h : Int)) := (HT.out _ hb3).c0
  clear hS hb2 c2
  go_wp2_with (first
    | ((with_reducible show wpList _ _ _ (⟨some 62, .slice _ _ _ _ _, _, _, _, _⟩ :: _) _ _); refine wpList_run0 rfl (.slice A' m2 cq) (Hsop.out _ _ rfl rfl rfl rfl _) ?_; simp only [Act.put, List.setIfInBounds_toArray, List.set_cons_succ, List.set_cons_zero])
    | (go_at_call 70; refine (Hcall.out _ hb3).mono ?_; rintro e w4 ⟨rfl, hb4⟩; replace k6 := k6.step hb4; replace hb3 := hb3.trans (hb4.mono hb3.size); clear c0 hb4)
    | ((with_reducible show wpList _ _ _ (⟨some 12, .alloc _, _, _, _, _⟩ :: _) _ _); refine wpList_hvar (.tmp 12) (.tmp 64) rfl rfl rfl rfl rfl rfl Hr32.out ?_; intro w5 k12 hb5; replace k6 := k6.step hb5; replace hb3 := hb3.trans (hb5.mono hb3.size); clear hb5; simp only [Act.put, List.setIfInBounds_toArray, List.set_cons_succ, List.set_cons_zero])
    | ((with_reducible show wpList _ _ _ (⟨some 66, .load _ _, _, _, _, _⟩ :: _) _ _); refine wpList_hload (.tmp 12) (by kernel_rfl) rfl k12 rfl ?_; simp only [Act.put, List.setIfInBounds_toArray, List.set_cons_succ, List.set_cons_zero])
    | ((with_reducible show wpList _ _ _ (⟨none, .store _ _ _, _, _, _, _⟩ :: _) _ _); refine wpList_hset (.tmp 6) (.tmp 66) rfl rfl k6 rfl rfl Hr32.out ?_; intro w6 k66 hb6 _; replace hb3 := hb3.trans (hb6.mono (Nat.le_refl _)); simp only [Act.put]))
  exact ⟨bodyPost_ret (ret_hash rfl rfl k66) rfl ⟨rfl, hb3⟩⟩
end Go.Proofs.YtfhmjgkcpcnkbaaDoor
