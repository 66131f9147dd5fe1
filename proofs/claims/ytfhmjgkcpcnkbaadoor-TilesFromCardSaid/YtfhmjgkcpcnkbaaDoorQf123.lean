/- tiles: what All hands out, round by round. -/
import Derived.Test.YtfhmjgkcpcnkbaaDoorQf122
import Derived.Test.YtfhmjgkcpcnkbaaDoorQf117
import Derived.Test.YtfhmjgkcpcnkbaaDoorQf118
import Derived.Test.YtfhmjgkcpcnkbaaDoorQf110
import Derived.Lib.LazyBuf
import Derived.Test.YtfhmjgkcpcnkbaaDoorQf106
namespace Go.Proofs.YtfhmjgkcpcnkbaaDoor
open Go Go.RowKit Go.Shelf
attribute [local go_sem] Oper.semAt_some

theorem KeepU.hs {B n₁ : Nat} {U : Nat → Prop} {W W' : World} {X : Nat → Prop} {A : Option Addr} {n c : Nat} {hs : HL} (h : KeepU B n₁ U W W') (hh : Hs W X A n c hs) (hm : ∀ b, b < W.heap.size → X b → b < n₁ ∧ ¬ U b) : Hs W' X A n c hs := ⟨h.slv hh.sl hm, hh.len, hh.all⟩
theorem MapF.keepU {B n₁ : Nat} {U : Nat → Prop} {W W' : World} {m N : Nat} {f : Int → Int → Option Value} (h : MapF W m N f) (hk : KeepU B n₁ U W W') (hm : B ≤ m) : MapF W' m N f := by
  obtain ⟨es, clock, hb, r⟩ := h
  exact ⟨es, clock, hk.f.same m _ hm hb rfl, r⟩
/-- what is looked at while All goes on: the box, the tree's own cells, the copy of its map, its rows -/
structure ItV (bx p m0 mc N h : Nat) (f : Int → Int → Option Value) (L : HL) (X : Nat → Prop) (W : World) : Prop where
  box : Blk W bx 40 #[.pointer (some ⟨p, 0, none⟩)]
  blk : Blk W p 73 (tiArr h L.length m0)
  map : MapF W mc N f
  rows : ∀ a b, ∃ A c, (f a b).getD nilS = .slice A (tileG h L a b).length c ∧ Hs W X A (tileG h L a b).length c (tileG h L a b)
section
variable {bx p m0 mc N h : Nat} {f : Int → Int → Option Value} {L : HL} {X : Nat → Prop} {W W' : World}
theorem ItV.step (v : ItV bx p m0 mc N h f L X W) (hb : Below W.heap.size W W') : ItV bx p m0 mc N h f L X W' :=
  ⟨v.box.below hb v.box.lt, v.blk.below hb v.blk.lt, v.map.step hb, fun a b => let ⟨A, c, h1, h2⟩ := v.rows a b; ⟨A, c, h1, h2.step hb⟩⟩
theorem ItV.keepU {B n₁ : Nat} {U : Nat → Prop} (v : ItV bx p m0 mc N h f L X W) (hk : KeepU B n₁ U W W') (hm : B ≤ mc) (hx : bx < n₁ ∧ ¬ U bx) (hp : p < n₁ ∧ ¬ U p) (hX : ∀ b, X b → b < n₁ ∧ ¬ U b) : ItV bx p m0 mc N h f L X W' :=
  ⟨hk.blk v.box hx.1 hx.2, hk.blk v.blk hp.1 hp.2, v.map.keepU hk hm, fun a b => let ⟨A, c, h1, h2⟩ := v.rows a b; ⟨A, c, h1, hk.hs h2 fun b _ hb => hX b hb⟩⟩
theorem ItV.c1 (v : ItV bx p m0 mc N h f L X W) : W.cell? ⟨bx, 0, none⟩ = some (.pointer (some ⟨p, 0, none⟩)) := by rw [v.box.cell]; rfl
theorem ItV.c0 (v : ItV bx p m0 mc N h f L X W) : W.cell? ⟨p, 0, none⟩ = some (.int .i64 (h : Int)) := by rw [v.blk.cell]; rfl
end
/-- a round is handed a tile, its hashes in memory of their own -/
def TileY (h : Nat) (L : HL) (n₁ k : Nat) (vs : Array Value) (W : World) : Prop := ∃ t, (tilesL h L)[k]? = some t ∧ ∃ v, vs = #[.agg #[.int .i64 t.1, .int .i64 t.2.1, v]] ∧ W.ownsRow n₁ 48 32 v t.2.2.length (hcells t.2.2)
theorem run_shrT_op {ρ : Operand → Value} {o : Oper} (x y : Operand) (ty : TypeId) (n h : Nat) (hh : h ≤ 62) (ho : o.op = .binOp .shr 2 x y ty) (hx : ρ x = .int .i64 (n : Int)) (hy : ρ y = .int .i64 (h : Int)) (W : World) :
    (execOp ρ o).run Tryd.prog W = .ok (.value (.int .i64 ((n / 2 ^ h : Nat) : Int))) W := by
  have h0 : (0 : Int) ≤ (h : Int) := by omega
  have h1 : (h : Int) ≤ 64 := by omega
  unfold execOp
  simp only [ho, hx, hy]
  go_simp
theorem aggTile : ∀ w : World, (isAgg 38).run Tryd.prog w = .ok true w := fun _ => by kernel_rfl
theorem sizeTile : ∀ w : World, (sizeOf 38).run Tryd.prog w = .ok 3 w := fun _ => by kernel_rfl
theorem sizeHl : ∀ w : World, (sizeOf 36).run Tryd.prog w = .ok 1 w := fun _ => by kernel_rfl
/-- a row is copied behind nothing -/
theorem copy_row {w : World} {X : Nat → Prop} {A : Option Addr} {n c : Nat} {L : HL} (hs : Hs w X A n c L) (hn : n ≤ 1000000) :
    ∃ A' c' W', (Builtin.append_ #[36, 36] 36 #[.slice none 0 0, .slice A n c]).run Tryd.prog w = .ok (.slice A' n c') W' ∧ W'.ownsRow w.heap.size 48 32 (.slice A' n c') n (hcells L) ∧ Below w.heap.size w W' := by
  obtain ⟨v', W', hr, ho, hg, hv'⟩ := append_slv (ty := 36) Tryd.underlying36 info26z rfl (by decide) (World.ownsRow_nil w w.heap.size 48 32) hs.sl.all (fun u hu => by obtain ⟨y, -, rfl⟩ := List.mem_map.1 hu; rfl) (by unfold maxLen; omega) (by omega) (Nat.le_refl _)
  rw [List.nil_append, Nat.zero_add] at ho
  obtain ⟨A', c', rfl, -⟩ := owns_slv ho
  exact ⟨A', c', W', hr, ho, (Below.refl _ _).grown hg (Nat.le_refl _) fun k hk => by cases hk⟩
set_option maxRecDepth 100000 in
set_option maxHeartbeats 8000000 in
theorem tall_seq (lo p m0 h bx : Nat) (f : Int → Int → Option Value) (L : HL) (U : Nat → Prop) (w : World) (ht : Ti lo p m0 h f L w) (hbx : Blk w bx 40 #[.pointer (some ⟨p, 0, none⟩)]) (hU : ∀ b, U b → b < w.heap.size) (hU1 : ¬ U bx) (hU2 : ∀ b, TiW p m0 f b → ¬ U b) :
    SeqU Tryd.prog 46 #[.pointer (some ⟨bx, 0, none⟩)] (tilesL h L).length U (TileY h L) w := by
  intro ly J Jx W hW hJ hJx hY h0
  have ht1 := ht.step hW
  have kb := hbx.below hW hbx.lt
  have h1 := ht.h1
  have h8 := ht.h8
  have hmax := ht.max
  have hzb := kb.lt
  have hzp := ht1.t.blk.lt
  have hUW : ∀ b, U b → b < W.heap.size := fun b hb => Nat.lt_of_lt_of_le (hU b hb) hW.size
  have hUp : ¬ U p := hU2 p (.inl rfl)
  have hmc := fun V (hV : Below W.heap.size W V) => mclone_any (ht1.t.map.step hV)
  have hrows : ∀ a b, ∃ A c, (f a b).getD nilS = .slice A (tileG h L a b).length c ∧ Hs W (fun b => b < W.heap.size ∧ ¬ U b) A (tileG h L a b).length c (tileG h L a b) := fun a b => by
    obtain ⟨A, c, hv, hs⟩ := owns_slv (ht1.t.rows.get a b)
    refine ⟨A, c, hv, hs.weak fun k hk hx => ⟨hk, ?_⟩, rfl, tileG_32 h L ht.all a b⟩
    cases hf : f a b with
    | none => rw [hf] at hx; cases hx.2
    | some v0 => rw [hf] at hx; exact hU2 k (.inr (.inr ⟨a, b, v0, hf, hx.2.symm⟩))
  have hst := h0 W.heap.size (Nat.le_refl _)
  have hlen : (tilesL h L).length = (gR h 0 L.length).length := tilesL_len h L
  have c1 : ∀ s : InC (fun V => Below W.heap.size W V), s.W.cell? ⟨bx, 0, none⟩ = some (.pointer (some ⟨p, 0, none⟩)) := fun s => by rw [(kb.below s.ok kb.lt).cell]; rfl
  have c2 : ∀ s : InC (fun V => Below W.heap.size W V), s.W.cell? ⟨p, 2, none⟩ = some (.map (some m0)) := fun s => (ht1.step s.ok).c2
  have c3 : ∀ s : InC (fun V => Below W.heap.size W V), s.W.cell? ⟨p, 1, none⟩ = some (.int .i64 (L.length : Int)) := fun s => (ht1.step s.ok).c1
  have c1w : W.cell? ⟨bx, 0, none⟩ = some (.pointer (some ⟨p, 0, none⟩)) := by rw [kb.cell]; rfl
  have c2w : W.cell? ⟨p, 2, none⟩ = some (.map (some m0)) := ht1.c2
  have hq := fun w => run_eql_map_nil_sl (P := Tryd.prog) w 71 _ _ (some m0) Tryd.underlying71
  have hblk := ht1.t.blk
  obtain ⟨n, hn⟩ : ∃ n, L.length = n := ⟨_, rfl⟩
  rw [hn] at c3 hlen hmax
  have Hn := Lib.hid hn
  have HJ := Lib.hid hJ
  have HY := Lib.hid hY
  have Hst := Lib.hid hst
  have Hlen := Lib.hid hlen
  have HUW := Lib.hid hUW
  have Hmc := Lib.hid hmc
  have Hrows := Lib.hid hrows
  have Hblk := Lib.hid hblk
  have Hkb := Lib.hid kb
  have HU1 := Lib.hid hU1
  have HU2 := Lib.hid hUp
  have hS : Below W.heap.size W W.drew := (Below.refl _ _).drew
  clear hJx hJ hY h0 hst hlen hUW hmc hrows hblk kb ht ht1 hbx hU hU1 hU2 hW hn hUp
  refine callsIn_of_wp Tryd.func46 rfl trivial ?_ rfl
  simp only [Tryd.ntmps46, List.size_toArray, List.length_cons, List.length_nil, Nat.reduceAdd, Nat.reduceSub, Array.replicate_succ, Array.replicate_zero, List.push_toArray, List.append_toArray, List.nil_append, List.cons_append]
  gi_wp2
  refine wpIn_region_mix openW rfl (fun _ _ h => by obtain ⟨⟨v, hv⟩, -⟩ := h; cases hv) (fun V => Below W.heap.size W V) [(0, true), (1, true), (2, true), (3, true), (5, true), (6, true), (7, true), (8, true), (4, false), (9, true), (10, true)] (by kernel_rfl) (by kernel_rfl) hS fun _ => ?_
  simp only [List.map_cons, List.map_nil, Array.getD_eq_getD_getElem?, List.getElem?_toArray, List.getElem?_cons_succ, List.getElem?_cons_zero, Option.getD_some]
  have Z0g := Lib.hid hS.size
  generalize W.drew = Z0 at hS Z0g ⊢
  refine wpMix_s (fun K hK => ?_)
  go_simp
  refine hK _ ?_
  clear hK K
  refine wpMix_s (fun K hK => ?_)
  go_simp
  refine hK _ ?_
  clear hK K
  refine wpMix_s (fun K hK => ?_)
  go_simp
  refine hK _ ?_
  clear hK K
  refine wpMix_s (fun K hK => ?_)
  go_simp
  refine hK _ ?_
  clear hK K
  refine wpMix_s (fun K hK => ?_)
  go_simp
  refine hK _ ?_
  clear hK K
  refine wpMix_s (fun K hK => ?_)
  go_simp
  refine hK _ ?_
  clear hK K
  refine wpMix_s (fun K hK => ?_)
  go_simp
  refine hK _ ?_
  clear hK K
  refine wpMix_s (fun K hK => ?_)
  go_simp
  refine hK _ ?_
  clear hK K
  refine wpMix_c (fun K hK => ?_) hS
  go_simp
  refine (Hmc.out Z0 hS).mono ?_
  rintro e Z0_1 ⟨rfl, hmc, hb'⟩
  refine hK _ _ ?_
  clear hK K
  replace hS := hS.trans (hb'.mono hS.size)
  refine ⟨hS, ?_⟩
  have hmcB := Z0g.out
  clear hb'
  refine wpMix_s (fun K hK => ?_)
  go_simp
  refine hK _ ?_
  clear hK K
  refine wpMix_s (fun K hK => ?_)
  go_simp
  refine hK _ ?_
  clear hK K
  refine wpMix_nil ?_
  intro _
  have hgr := Below.trans (Below.refl W.heap.size W) hS
  have hJ1 := HJ.out W.heap.size 0 W Z0_1 none Hst.out (grown_of_below hS none) (fun r e => by cases e)
  have hV1 : ItV bx p m0 Z0.heap.size (64 * L.length) h f L (fun b => b < W.heap.size ∧ ¬ U b) Z0_1 := ⟨Hkb.out.step hS, Hblk.out.step hS, hmc, fun a b => let ⟨A, c, e1, e2⟩ := Hrows.out a b; ⟨A, c, e1, e2.step hS⟩⟩
  have hz1 := hS.size
  clear hgr hS Hst Hmc Hkb Hblk Hrows hmc c1 c2 c3 c1w c2w hq
  gi_wp2
  obtain ⟨mc, hmce⟩ : ∃ mc, Z0.heap.size = mc := ⟨_, rfl⟩
  rw [hmce] at hV1 hmcB ⊢
  clear hmce
  gi_loopw [5] (fun v5 wr => ∃ l : Nat, v5 = .int .i64 (l : Int) ∧ l ≤ 63 ∧ W.heap.size ≤ wr.heap.size ∧ J W.heap.size (offT h n l) wr ∧ ItV bx p m0 mc (64 * L.length) h f L (fun b => b < W.heap.size ∧ ¬ U b) wr) (fun v5 _ => 63 - (intOf v5).toNat)
  case atStart => exact ⟨0, rfl, by omega, hz1, hJ1, hV1⟩
  case round =>
    clear hJ1 hV1 hz1
    obtain ⟨l, rfl, hl63, hsz, hJs, hV⟩ := hrel
    have k1 := hV.c1
    have k0 := hV.c0
    have hcnt := tcount_any h l n wr h1 h8 (by omega) (by omega)
    obtain ⟨ct, hct⟩ : ∃ ct, cT h l n = ct := ⟨_, rfl⟩
    rw [hct] at hcnt
    have Hcnt := Lib.hid hcnt
    have HV := Lib.hid hV
    have HJs := Lib.hid hJs
    clear hcnt hV hJs
    gi_wp2
    refine ⟨trivial, callsIn_any openW (Hcnt.out.mono ?_)⟩
    rintro e w' ⟨rfl, hw⟩
    obtain rfl := hw.symm
    clear hw
    by_cases h0 : ct = 0
    · subst h0
      have hd : decide ((0 : Int) < ((0 : Nat) : Int)) = false := by decide
      have hoff := offT_end h n l hl63 hct
      clear hct k1 k0 Hcnt
      gi_wp2
      go_end0
      exact ⟨⟨_, rfl⟩, _, Nat.le_refl _, .inl (by rw [Hlen.out, ← hoff]; exact HJs.out)⟩
    · have hd : decide ((0 : Int) < (ct : Int)) = true := by simp; omega
      have hl62 := (cT_lev h l n h1 (by omega) (by omega)).2
      have hctn : ct ≤ n := by rw [← hct]; exact cT_le h l n
      have hws : IntKind.i64.wrap ((ct : Int) - 1) = ((ct - 1 : Nat) : Int) := by rw [IntWalk.i64_in _ (by omega)]; omega
      obtain ⟨q, hqe⟩ : ∃ q, (ct - 1) / 2 ^ h = q := ⟨_, rfl⟩
      have hqn : q ≤ ct := by rw [← hqe]; have := Nat.div_le_self (ct - 1) (2 ^ h); omega
      have hwa : IntKind.i64.wrap ((q : Int) + 1) = ((q + 1 : Nat) : Int) := by rw [IntWalk.i64_in _ (by omega)]; omega
      have hnT : nT h l n = q + 1 := by unfold nT; rw [hct, if_neg h0, hqe]
      have Hqe := Lib.hid hqe
      have HnT := Lib.hid hnT
      have Hct := Lib.hid hct
      have hcnt5 := fun V (hV : Below wr.heap.size wr V) => tcount_any h l n V h1 h8 (by omega) (by omega)
      rw [hct] at hcnt5
      have Hcnt5 := Lib.hid hcnt5
      have c1 : ∀ s : InC (fun V => Below wr.heap.size wr V), s.W.cell? ⟨bx, 0, none⟩ = some (.pointer (some ⟨p, 0, none⟩)) := fun s => (HV.out.step s.ok).c1
      have c0 : ∀ s : InC (fun V => Below wr.heap.size wr V), s.W.cell? ⟨p, 0, none⟩ = some (.int .i64 (h : Int)) := fun s => (HV.out.step s.ok).c0
      have hS : Below wr.heap.size wr wr.drew := (Below.refl _ _).drew
      clear hqe hnT hct hcnt5 Hcnt k1 k0
      gi_wp2
      refine wpIn_region_mix openW rfl (fun _ _ h => by obtain ⟨⟨v, hv⟩, -⟩ := h; cases hv) (fun V => Below wr.heap.size wr V) [(0, true), (1, true), (2, true), (3, true), (4, true), (5, true), (8, true), (9, true), (10, true), (11, true), (14, true), (6, false), (7, true), (12, true), (13, true)] (by kernel_rfl) (by kernel_rfl) hS fun _ => ?_
      simp only [List.map_cons, List.map_nil, Array.getD_eq_getD_getElem?, List.getElem?_toArray, List.getElem?_cons_succ, List.getElem?_cons_zero, Option.getD_some]
      generalize wr.drew = Y0 at hS ⊢
      refine wpMix_s (fun K hK => ?_)
      go_simp
      refine hK _ ?_
      clear hK K
      refine wpMix_s (fun K hK => ?_)
      go_simp
      refine hK _ ?_
      clear hK K
      refine wpMix_s (fun K hK => ?_)
      go_simp
      refine hK _ ?_
      clear hK K
      refine wpMix_s (fun K hK => ?_)
      go_simp
      refine hK _ ?_
      clear hK K
      refine wpMix_s (fun K hK => ?_)
      go_simp
      refine hK _ ?_
      clear hK K
      refine wpMix_s (fun K hK => ?_)
      go_simp
      refine hK _ ?_
      clear hK K
      refine wpMix_s (fun K hK => ?_)
      go_simp
      refine hK _ ?_
      clear hK K
      refine wpMix_s (fun K hK => ?_)
      go_simp
      refine hK _ ?_
      clear hK K
      refine wpMix_s (fun K hK => ?_)
      go_simp
      refine hK _ ?_
      clear hK K
      refine wpMix_s (fun K hK => ?_)
      go_simp
      refine hK _ ?_
      clear hK K
      refine wpMix_s (fun K hK => ?_)
      go_simp
      refine hK _ ?_
      clear hK K
      refine wpMix_c (fun K hK => ?_) hS
      go_simp
      refine (Hcnt5.out Y0 hS).mono ?_
      rintro e Y0e ⟨rfl, hww⟩
      obtain rfl := hww.symm
      refine hK _ _ ?_
      clear hK K
      refine ⟨hS, ?_⟩
      refine wpMix_s (fun K hK => ?_)
      go_simp
      refine hK _ ?_
      clear hK K
      refine wpMix_v (by kernel_rfl) (.int .i64 (q : Int)) (fun s => by rw [← Hqe.out]; exact run_shrT_op (.tmp 43) (.tmp 47) _ (ct - 1) h (by omega) rfl rfl rfl s.W) ?_
      simp only [Act.put, List.setIfInBounds_toArray, List.set_cons_succ, List.set_cons_zero]
      refine wpMix_s (fun K hK => ?_)
      go_simp
      refine hK _ ?_
      clear hK K
      refine wpMix_nil ?_
      intro _
      have hJ5 := HJ.out W.heap.size (offT h n l) wr Y0 none HJs.out (grown_of_below hS none) (fun r e => by cases e)
      have hV5 := HV.out.step hS
      have hz5 : W.heap.size ≤ Y0.heap.size := Nat.le_trans hsz hS.size
      clear c1 c0 hS HV HJs Hcnt5
      gi_wp2
      gi_loopw [50] (fun v50 wr => ∃ j : Nat, v50 = .int .i64 (j : Int) ∧ j ≤ q + 1 ∧ W.heap.size ≤ wr.heap.size ∧ J W.heap.size (offT h n l + j) wr ∧ ItV bx p m0 mc (64 * L.length) h f L (fun b => b < W.heap.size ∧ ¬ U b) wr) (fun v50 _ => q + 1 - (intOf v50).toNat)
      case atStart => exact ⟨0, rfl, by omega, hz5, hJ5, hV5⟩
      case round =>
        clear hJ5 hV5 hz5 hd hws hwa
        obtain ⟨j, rfl, hjq, hszi, hJi, hVi⟩ := hrel
        by_cases hjl : j < q + 1
        · have hd : decide ((j : Int) < ((q + 1 : Nat) : Int)) = true := by simp only [decide_eq_true_eq]; omega
          have hwk : IntKind.i64.wrap ((j : Int) + 1) = (j : Int) + 1 := IntWalk.i64_in _ (by omega)
          have hil : I64 (l : Int) := ⟨by omega, by omega⟩
          have hij : I64 (j : Int) := ⟨by omega, by omega⟩
          have htl := tilesL_at h L l j hl62 (by rw [Hn.out, HnT.out]; exact hjl)
          rw [Hn.out] at htl
          have hkl : offT h n l + j < (tilesL h L).length := (List.getElem?_eq_some_iff.1 htl).1
          obtain ⟨xb, hxb⟩ : ∃ xb, wr.heap.size = xb := ⟨_, rfl⟩
          obtain ⟨A6, c6, hv6, hr6⟩ := hVi.rows l j
          have hlook := fun V (hV : Below wr.heap.size wr V) => (hVi.step hV).map.look false hil hij
          have h256 : (tileG h L l j).length ≤ 256 := Nat.le_trans (tileG_len h _ _ _) (Nat.pow_le_pow_right (n := 2) (by decide) h8)
          obtain ⟨G, hG⟩ : ∃ G, tileG h L l j = G := ⟨_, rfl⟩
          rw [hG] at hv6 hr6 h256 htl
          simp only [hv6, Bool.false_eq_true, if_false] at hlook
          obtain ⟨gl, hgl⟩ : ∃ gl, G.length = gl := ⟨_, rfl⟩
          rw [hgl] at hv6 hr6 h256 hlook
          have Hhyp := Lib.hid hlook
          have Hr6 := Lib.hid hr6
          have Hgl := Lib.hid hgl
          have Htl := Lib.hid htl
          have HVi := Lib.hid hVi
          have HJi := Lib.hid hJi
          have Hxb := Lib.hid hxb
          have Hkl := Lib.hid hkl
          clear hlook hr6 hgl htl hVi hJi hv6 hG hil hij hkl hxb
          obtain ⟨w7, hw7⟩ : ∃ x, wr.alloc (.cells #[.int .i64 (l : Int), .int .i64 (j : Int), .slice none 0 0] 38) = x := ⟨_, rfl⟩
          have k7 : Blk w7 wr.heap.size 38 #[.int .i64 (l : Int), .int .i64 (j : Int), .slice none 0 0] := by rw [← hw7]; exact Blk.new _ _ _
          have hb7 : Below wr.heap.size wr w7 := by rw [← hw7]; exact (Below.refl _ _).alloc (Nat.le_refl _) _
          have Hw7 := Lib.hid hw7
          have Hk7 := Lib.hid k7
          clear hw7 k7
          gi_wp2
          rw [Hw7.out]
          have k7 := Hk7.out
          clear Hk7 Hw7
          have c7 : ∀ s : InC (fun V => Below w7.heap.size w7 V), s.W.cell? ⟨wr.heap.size, 2, none⟩ = some (.slice none 0 0) := fun s => by rw [(k7.step s.ok).cell]; rfl
          have hS : Below w7.heap.size w7 w7.drew := (Below.refl _ _).drew
          have Hb7 := Lib.hid hb7
          have hzl := hb7.size
          clear hb7
          refine wpIn_region_mix_tailY openW rfl (fun _ _ h => by obtain ⟨⟨v, hv⟩, -⟩ := h; cases hv) (fun V => Below w7.heap.size w7 V) 9 [(0, true), (1, true), (2, true), (3, true), (4, true), (5, true), (6, true), (7, false), (8, true)] (by kernel_rfl) (by kernel_rfl) hS fun _ => ?_
          simp only [List.map_cons, List.map_nil, Array.getD_eq_getD_getElem?, List.getElem?_toArray, List.getElem?_cons_succ, List.getElem?_cons_zero, Option.getD_some]
          generalize w7.drew = V0 at hS ⊢
          refine wpMix_s (fun K hK => ?_)
          go_simp
          refine hK _ ?_
          clear hK K
          refine wpMix_s (fun K hK => ?_)
          go_simp
          refine hK _ ?_
          clear hK K
          refine wpMix_s (fun K hK => ?_)
          go_simp
          refine hK _ ?_
          clear hK K
          refine wpMix_s (fun K hK => ?_)
          go_simp
          refine hK _ ?_
          clear hK K
          refine wpMix_s (fun K hK => ?_)
          go_simp
          refine hK _ ?_
          clear hK K
          refine wpMix_s (fun K hK => ?_)
          go_simp
          refine hK _ ?_
          clear hK K
          refine wpMix_v (by kernel_rfl) (.slice A6 gl c6) (fun s => run_lookup_opT 71 (.tmp 58) (.tmp 61) rfl _ _ rfl rfl (Hhyp.out s.W (Hb7.out.trans (Below.mono s.ok Hb7.out.size)))) ?_
          simp only [Act.put, List.setIfInBounds_toArray, List.set_cons_succ, List.set_cons_zero]
          obtain ⟨A8, c8, W8, hr8, ho8, hb8⟩ := copy_row (Hr6.out.step (Hb7.out.trans (hS.mono Hb7.out.size))) (by omega)
          have hS8 : Below w7.heap.size w7 W8 := hS.trans (hb8.mono hS.size)
          have Ho8 := Lib.hid (owns_le ho8 (Nat.le_trans Hb7.out.size hS.size))
          have HB9 := Lib.hid (Hb7.out.trans (hS8.mono Hb7.out.size))
          refine wpMix_run (by kernel_rfl) (.slice A8 gl c8) W8 (run_append_op (.tmp 57) (.tmp 62) 36 rfl _ _ rfl rfl hr8) hS8 ?_
          simp only [Act.put, List.setIfInBounds_toArray, List.set_cons_succ, List.set_cons_zero]
          replace hS := hS8
          clear hS8 hr8 ho8 hb8
          refine wpMix_s (fun K hK => ?_)
          go_simp
          refine hK _ ?_
          clear hK K
          refine wpMix_nil ?_
          intro _
          simp only [List.drop_succ_cons, List.drop_zero]
          obtain ⟨xb, hxb⟩ : ∃ xb, wr.heap.size = xb := ⟨_, rfl⟩
          rw [hxb] at k7 HB9 hzl c7 Ho8 ⊢
          have k8 := k7.step hS
          have hcx : W8.cell? ⟨xb, 2, none⟩ = some (.slice none 0 0) := by rw [k8.cell]; rfl
          have hfx := k8.frozen 2
          obtain ⟨w9, hw9⟩ : ∃ x, W8.setCell ⟨xb, 2, none⟩ (.slice A8 gl c8) = x := ⟨_, rfl⟩
          have k9 : Blk w9 xb 38 #[.int .i64 (l : Int), .int .i64 (j : Int), .slice A8 gl c8] := by rw [← hw9]; exact k8.set_ 2 _
          have hk9 : KB (fun b => b = xb) W8 w9 := by rw [← hw9]; exact KB.of_grown (grown_setCell (World.grownBy.refl _ (some xb)) 2 _) fun r e => (Option.some.inj e).symm
          have hB9 : Below wr.heap.size wr w9 := by
            rw [hxb]
            exact HB9.out.trans (hk9.below (fun b e => by omega) (by have := hS.size; omega))
          have ho9 : w9.ownsRow W.heap.size 48 32 (.slice A8 gl c8) gl (hcells G) := owns_le (hk9.own Ho8.out fun b hb e => by subst e; exact own_blkty Ho8.out k8 (by decide) hb) (by omega)
          have hld : (Instr.loadAt 38 (.pointer (some ⟨xb, 0, none⟩))).run Tryd.prog w9 = .ok (.agg #[.int .i64 (l : Int), .int .i64 (j : Int), .slice A8 gl c8]) w9 := run_load_blk (aggTile _) (sizeTile _) xb _ rfl k9
          have hJ9 := HJ.out W.heap.size (offT h n l + j) wr w9 none HJi.out (grown_of_below hB9 none) (fun r e => by cases e)
          have hV9 := HVi.out.step hB9
          have hz9 : W.heap.size ≤ w9.heap.size := Nat.le_trans hszi hB9.size
          obtain ⟨fn, tmps, assign, body, hy, hR⟩ := HY.out W.heap.size (offT h n l + j) #[.agg #[.int .i64 (l : Int), .int .i64 (j : Int), .slice A8 gl c8]] w9 (Nat.le_refl _) hz9 Hkl.out hJ9 ⟨_, Htl.out, _, rfl, by rw [Hgl.out]; exact ho9⟩
          have Hw9 := Lib.hid hw9
          have Hld := Lib.hid hld
          have HV9 := Lib.hid hV9
          clear hw9 k7 k8 k9 hk9 hB9 ho9 hld hJ9 hV9 c7 hS HB9 Ho8 HJi HVi hzl
          gi_wp2_with ((with_reducible show wpListIn _ _ _ _ _ (⟨none, .store _ _ _, _, _, _, _⟩ :: _) _ _); refine wpListIn_of1 openW rfl ?_; refine wpList_put1i rfl 36 (.tmp 64) (.tmp 63) rfl sizeHl ⟨xb, 2, none⟩ (.slice A8 gl c8) rfl rfl rfl _ hcx hfx ?_; refine thenN_nil ?_; simp only [Act.put]; rw [Hw9.out])
          clear hcx hfx
          refine np_normal ?_
          gi_wp2_with ((with_reducible show wpListIn _ _ _ _ _ (⟨some 66, .load _ _, _, _, _, _⟩ :: _) _ _); refine wpListIn_of1 openW rfl ?_; refine wpList_cell 38 (.tmp 7) xb 0 (.agg #[.int .i64 (l : Int), .int .i64 (j : Int), .slice A8 gl c8]) (by kernel_rfl) rfl rfl Hld.out ?_; refine thenN_nil ?_; simp only [Act.put, List.setIfInBounds_toArray, List.set_cons_succ, List.set_cons_zero])
          refine hR.mono ?_
          clear hR hy
          rintro e w4 (⟨rfl, hj4, hk4⟩ | ⟨rfl, hjx4, hk4⟩)
          · have hV4 := HV9.out.keepU hk4 hmcB ⟨hzb, HU1.out⟩ ⟨hzp, HU2.out⟩ fun b hb => hb
            have hz4 := hk4.size
            clear HV9 Hld Hw9
            gi_wp2
            exact ⟨⟨j + 1, by go_num, by omega, by omega, hj4, hV4⟩, by simp [intOf]; omega⟩
          · gi_wp2
            refine bodyPost_ret (by exact results_none rfl _ _ _) rfl ?_
            exact ⟨⟨_, rfl⟩, _, Nat.le_refl _, .inr ⟨offT h n l + j, Hkl.out, hjx4⟩⟩
        · obtain rfl : j = q + 1 := by omega
          have hd : decide (((q + 1 : Nat) : Int) < ((q + 1 : Nat) : Int)) = false := by simp
          have hwl : IntKind.i64.wrap ((l : Int) + 1) = ((l + 1 : Nat) : Int) := by rw [IntWalk.i64_in _ (by omega)]; omega
          gi_wp2
          exact ⟨⟨l + 1, by go_num, by omega, hszi, by rw [offT_succ, HnT.out]; exact hJi, hVi⟩, by simp [intOf]; omega⟩
end Go.Proofs.YtfhmjgkcpcnkbaaDoor
/- A tree's edge: parts that come (plain). -/
namespace Go.Proofs.YtfhmjgkcpcnkbaaDoor
open Go

/-- parts: each with its level and its hash -/
abbrev FrV := List (Nat × List UInt8)
abbrev FpV := Nat × List UInt8
/-- a part comes; the parts stand with the last ahead -/
def comeR : FrV → FpV → FrV
  | [], p => [p]
  | q :: r, p => if q.1 = p.1 then comeR r (p.1 + 1, hNode q.2 p.2) else p :: q :: r
def comeF (ps : FrV) (p : FpV) : FrV := (comeR ps.reverse p).reverse
theorem comeF_nil (p : FpV) : comeF [] p = [p] := rfl
theorem comeF_step (l : FrV) (q p : FpV) (h : q.1 = p.1) : comeF (l ++ [q]) p = comeF l (p.1 + 1, hNode q.2 p.2) := by
  unfold comeF
  rw [List.reverse_append, List.reverse_singleton, List.singleton_append]
  conv => lhs; unfold comeR
  rw [if_pos h]
theorem comeF_stop (l : FrV) (q p : FpV) (h : q.1 ≠ p.1) : comeF (l ++ [q]) p = l ++ [q] ++ [p] := by
  unfold comeF
  rw [List.reverse_append, List.reverse_singleton, List.singleton_append]
  unfold comeR
  rw [if_neg h]
  simp
/-- how many entries -/
def szF (ps : FrV) : Nat := (ps.map fun p => 2 ^ p.1).sum
theorem szF_nil : szF [] = 0 := rfl
theorem szF_append (a b : FrV) : szF (a ++ b) = szF a + szF b := by unfold szF; rw [List.map_append, List.sum_append]
theorem szF_one (p : FpV) : szF [p] = 2 ^ p.1 := by simp [szF]
/-- the levels fall -/
def DecF (ps : FrV) : Prop := ps.Pairwise fun a b => b.1 < a.1
def F32 (ps : FrV) : Prop := ∀ p ∈ ps, p.2.length = 32
def F62 (ps : FrV) : Prop := ∀ p ∈ ps, p.1 ≤ 62
theorem snoc_cases (ps : FrV) : ps = [] ∨ ∃ l q, ps = l ++ [q] := by
  rcases List.eq_nil_or_concat ps with h | ⟨l, q, h⟩
  · exact .inl h
  · exact .inr ⟨l, q, by rw [h, List.concat_eq_append]⟩
theorem come_size : ∀ (n : Nat) (ps : FrV), ps.length = n → ∀ p : FpV, szF (comeF ps p) = szF ps + 2 ^ p.1
  | 0, ps, h, p => by
    rw [List.length_eq_zero_iff.1 h, comeF_nil, szF_one, szF_nil, Nat.zero_add]
  | n + 1, ps, h, p => by
    rcases snoc_cases ps with rfl | ⟨l, q, rfl⟩
    · cases h
    · by_cases hq : q.1 = p.1
      · rw [comeF_step l q p hq, come_size n l (by simpa using h), szF_append, szF_one, hq, Nat.pow_succ]
        omega
      · rw [comeF_stop l q p hq, szF_append, szF_one]
theorem szF_come (ps : FrV) (p : FpV) : szF (comeF ps p) = szF ps + 2 ^ p.1 := come_size _ ps rfl p
theorem come_mem : ∀ (n : Nat) (ps : FrV), ps.length = n → ∀ p : FpV, F32 ps → p.2.length = 32 → F32 (comeF ps p)
  | 0, ps, h, p, _, h2 => by
    rw [List.length_eq_zero_iff.1 h, comeF_nil]
    intro x hx
    rw [List.mem_singleton.1 hx]; exact h2
  | n + 1, ps, h, p, h1, h2 => by
    rcases snoc_cases ps with rfl | ⟨l, q, rfl⟩
    · cases h
    · by_cases hq : q.1 = p.1
      · rw [comeF_step l q p hq]
        exact come_mem n l (by simpa using h) _ (fun x hx => h1 x (List.mem_append_left _ hx)) (length_hNode _ _)
      · rw [comeF_stop l q p hq]
        intro x hx
        rcases List.mem_append.1 hx with hx | hx
        · exact h1 x hx
        · rw [List.mem_singleton.1 hx]; exact h2
theorem F32_come (ps : FrV) (p : FpV) (h : F32 ps) (hp : p.2.length = 32) : F32 (comeF ps p) := come_mem _ ps rfl p h hp
theorem come_dec : ∀ (n : Nat) (ps : FrV), ps.length = n → ∀ p : FpV, DecF ps → (∀ q ∈ ps, p.1 ≤ q.1) → DecF (comeF ps p)
  | 0, ps, h, p, _, _ => by
    rw [List.length_eq_zero_iff.1 h, comeF_nil]
    exact List.pairwise_singleton _ _
  | n + 1, ps, h, p, hd, hq => by
    rcases snoc_cases ps with rfl | ⟨l, q, rfl⟩
    · cases h
    · have hd' := List.pairwise_append.1 hd
      by_cases hqp : q.1 = p.1
      · rw [comeF_step l q p hqp]
        refine come_dec n l (by simpa using h) _ hd'.1 fun x hx => ?_
        have h3 : q.1 < x.1 := hd'.2.2 x hx q (List.mem_singleton.2 rfl)
        show p.1 + 1 ≤ x.1
        omega
      · rw [comeF_stop l q p hqp]
        refine List.pairwise_append.2 ⟨hd, List.pairwise_singleton _ _, fun x hx y hy => ?_⟩
        rw [List.mem_singleton.1 hy]
        have h1 := hq q (List.mem_append_right _ (List.mem_singleton.2 rfl))
        rcases List.mem_append.1 hx with hx | hx
        · have h3 : q.1 < x.1 := hd'.2.2 x hx q (List.mem_singleton.2 rfl)
          omega
        · rw [List.mem_singleton.1 hx]; omega
theorem DecF_come (ps : FrV) (p : FpV) (h : DecF ps) (hp : ∀ q ∈ ps, p.1 ≤ q.1) : DecF (comeF ps p) := come_dec _ ps rfl p h hp
theorem pow_le_szF (ps : FrV) (p : FpV) (h : p ∈ ps) : 2 ^ p.1 ≤ szF ps := by
  obtain ⟨a, b, rfl⟩ := List.append_of_mem h
  rw [show a ++ p :: b = a ++ ([p] ++ b) by simp, szF_append, szF_append, szF_one]
  omega
/-- a size that is a number has no level above 62 -/
theorem F62_of_size (ps : FrV) (h : szF ps ≤ 9223372036854775807) : F62 ps := fun p hp => by
  have h1 := pow_le_szF ps p hp
  rcases Nat.lt_or_ge 62 p.1 with h2 | h2
  · have h3 : 2 ^ 63 ≤ 2 ^ p.1 := Nat.pow_le_pow_right (by decide) h2
    omega
  · exact h2
/-- falling levels: what is behind is less than the one ahead -/
theorem szF_lt : ∀ (ps : FrV), DecF ps → ∀ k, (∀ p ∈ ps, p.1 < k) → szF ps < 2 ^ k
  | [], _, k, _ => by rw [szF_nil]; exact Nat.two_pow_pos k
  | p :: ps, hd, k, hk => by
    have hd' := List.pairwise_cons.1 hd
    have h1 := szF_lt ps hd'.2 p.1 fun q hq => hd'.1 q hq
    have h2 := hk p List.mem_cons_self
    have h3 : 2 ^ (p.1 + 1) ≤ 2 ^ k := Nat.pow_le_pow_right (by decide) h2
    rw [Nat.pow_succ] at h3
    rw [show p :: ps = [p] ++ ps from rfl, szF_append, szF_one]
    omega
theorem szF_mod : ∀ (ps : FrV) (k : Nat), (∀ p ∈ ps, k ≤ p.1) → szF ps % 2 ^ k = 0
  | [], k, _ => by rw [szF_nil]; exact Nat.zero_mod _
  | p :: ps, k, h => by
    have h1 := szF_mod ps k fun q hq => h q (List.mem_cons_of_mem _ hq)
    have h2 := h p List.mem_cons_self
    rw [show p :: ps = [p] ++ ps from rfl, szF_append, szF_one]
    have h3 : 2 ^ p.1 % 2 ^ k = 0 := by
      obtain ⟨d, hd⟩ : ∃ d, p.1 = k + d := ⟨p.1 - k, by omega⟩
      rw [hd, Nat.pow_add]
      exact Nat.mul_mod_right _ _
    rw [Nat.add_mod, h1, h3]
    simp
/-- where a size has no remainder, no level is lower -/
theorem dec_of_mod (ps : FrV) (k : Nat) (hd : DecF ps) (h : szF ps % 2 ^ k = 0) : ∀ p ∈ ps, k ≤ p.1 := by
  intro p hp
  rcases Nat.lt_or_ge p.1 k with hlt | hge
  · exfalso
    -- those of a lower level are last, and less than 2^k together
    obtain ⟨a, b, hab, ha, hb⟩ : ∃ a b, ps = a ++ b ∧ (∀ q ∈ a, k ≤ q.1) ∧ ∀ q ∈ b, q.1 < k := by
      clear h hp hlt
      induction ps with
      | nil => exact ⟨[], [], rfl, fun _ h => (by cases h), fun _ h => (by cases h)⟩
      | cons q r ih =>
        have hd' := List.pairwise_cons.1 hd
        rcases Nat.lt_or_ge q.1 k with h1 | h1
        · refine ⟨[], q :: r, rfl, fun _ h => (by cases h), fun x hx => ?_⟩
          rcases List.mem_cons.1 hx with rfl | hx
          · exact h1
          · have := hd'.1 x hx; omega
        · obtain ⟨a, b, e, ha, hb⟩ := ih hd'.2
          refine ⟨q :: a, b, by rw [e]; rfl, fun x hx => ?_, hb⟩
          rcases List.mem_cons.1 hx with rfl | hx
          · exact h1
          · exact ha x hx
    subst hab
    have h1 := szF_mod a k ha
    have h2 := szF_lt b (List.pairwise_append.1 hd).2.1 k hb
    have hpb : p ∈ b := by
      rcases List.mem_append.1 hp with h3 | h3
      · have := ha p h3; omega
      · exact h3
    have h4 := pow_le_szF b p hpb
    have h5 := Nat.two_pow_pos p.1
    rw [szF_append, Nat.add_mod, h1, Nat.zero_add, Nat.mod_mod, Nat.mod_eq_of_lt h2] at h
    omega
  · exact hge
/-- the root of parts -/
def rootG : FrV → List UInt8
  | [] => hEmpty
  | [p] => p.2
  | p :: q :: r => hNode p.2 (rootG (q :: r))
theorem length_rootG : ∀ ps : FrV, F32 ps → (rootG ps).length = 32
  | [], _ => length_hEmpty
  | [p], h => h p (List.mem_singleton.2 rfl)
  | _ :: _ :: _, _ => length_hNode _ _
/-- leaves come, one by one -/
def leafF : FrV → List (List UInt8) → FrV
  | ps, [] => ps
  | ps, h :: hs => leafF (comeF ps (0, h)) hs
theorem szF_leaf : ∀ (hs : List (List UInt8)) (ps : FrV), szF (leafF ps hs) = szF ps + hs.length
  | [], _ => rfl
  | h :: hs, ps => by
    show szF (leafF (comeF ps (0, h)) hs) = _
    rw [szF_leaf hs, szF_come, List.length_cons]
    show szF ps + 2 ^ 0 + hs.length = _
    omega
theorem leafF_ok : ∀ (hs : List (List UInt8)) (ps : FrV), F32 ps → DecF ps → (∀ h ∈ hs, h.length = 32) → F32 (leafF ps hs) ∧ DecF (leafF ps hs)
  | [], _, h1, h2, _ => ⟨h1, h2⟩
  | h :: hs, ps, h1, h2, h3 => leafF_ok hs _ (F32_come ps _ h1 (h3 h List.mem_cons_self)) (DecF_come ps _ h2 fun _ _ => Nat.zero_le _) fun x hx => h3 x (List.mem_cons_of_mem _ hx)
theorem leafF_snoc (ps : FrV) (hs : List (List UInt8)) (h : List UInt8) : leafF ps (hs ++ [h]) = comeF (leafF ps hs) (0, h) := by
  induction hs generalizing ps with
  | nil => rfl
  | cons x hs ih => exact ih _
end Go.Proofs.YtfhmjgkcpcnkbaaDoor
/- Parts side by side in memory; fronts; front.New, slices.Clone of parts. -/
namespace Go.Proofs.YtfhmjgkcpcnkbaaDoor
open Go Go.RowKit Go.Shelf
attribute [local go_sem] Oper.semAt_some

abbrev PcV := Int × List UInt8
def pcD : PcV := (0, [])
abbrev pccell (p : PcV) : List Value := Value.int .i64 p.1 :: p.2.map B
theorem oneCell_pc (n : Int) (l : List UInt8) : ∀ v ∈ (Value.int .i64 n :: l.map B).toArray.toList, v.oneCell' = true := by
  intro v hv
  simp only [List.mem_cons, List.mem_map] at hv
  rcases hv with rfl | ⟨b, _, rfl⟩ <;> rfl
theorem flat_atC {s : Nat} : ∀ (L : List (List Value)) (_ : ∀ cs ∈ L, cs.length = s) (k j : Nat) (v : Value) (_ : k < L.length) (_ : (L.getD k [])[j]? = some v), L.flatten[k * s + j]? = some v
  | cs :: L, hL, 0, j, v, _, h => by
    have h : cs[j]? = some v := h
    rw [List.flatten_cons, Nat.zero_mul, Nat.zero_add, List.getElem?_append_left (List.getElem?_eq_some_iff.1 h).1]
    exact h
  | cs :: L, hL, k + 1, j, v, hk, h => by
    have hc := hL cs (by simp)
    have := flat_atC L (fun x hx => hL x (by simp [hx])) k j v (by simpa using hk) h
    rw [List.flatten_cons, List.getElem?_append_right (by rw [hc, Nat.succ_mul]; omega), hc, show (k + 1) * s + j - s = k * s + j by rw [Nat.succ_mul]; omega]
    exact this
theorem flat_lenC {s : Nat} : ∀ (L : List (List Value)), (∀ cs ∈ L, cs.length = s) → L.flatten.length = L.length * s
  | [], _ => by simp
  | cs :: L, h => by
    rw [List.flatten_cons, List.length_append, h cs (by simp), flat_lenC L (fun x hx => h x (by simp [hx])), List.length_cons, Nat.succ_mul]
    omega
def pccells (ps : List PcV) : List Value := (ps.map pccell).flatten
def Pc32 (ps : List PcV) : Prop := ∀ p ∈ ps, p.2.length = 32
structure Pcs (w : World) (X : Nat → Prop) (A : Option Addr) (n c : Nat) (ps : List PcV) : Prop where
  sl : SlV w X A n c 33 (pccells ps)
  len : ps.length = n
  all : Pc32 ps
theorem pccells_append (a b : List PcV) : pccells (a ++ b) = pccells a ++ pccells b := by simp [pccells]
theorem Pc32.append {a b : List PcV} (h : Pc32 a) (k : Pc32 b) : Pc32 (a ++ b) := fun x hx => (List.mem_append.1 hx).elim (h x) (k x)
theorem Pc32.getD {ps : List PcV} (h : Pc32 ps) (k : Nat) (hk : k < ps.length) : (ps.getD k pcD).2.length = 32 := by
  rw [List.getD_eq_getElem?_getD, List.getElem?_eq_getElem hk]
  exact h _ (List.getElem_mem hk)
theorem Pc32.cell {ps : List PcV} (h : Pc32 ps) : ∀ cs ∈ ps.map pccell, cs.length = 33 := fun cs hc => by
  obtain ⟨p, hp, rfl⟩ := List.mem_map.1 hc
  simp [h p hp]
theorem pccells_len (ps : List PcV) (h : Pc32 ps) : (pccells ps).length = ps.length * 33 := by
  unfold pccells
  rw [flat_lenC _ h.cell, List.length_map]
theorem onePc (ps : List PcV) : ∀ v ∈ pccells ps, v.oneCell' = true := fun v hv => by
  obtain ⟨cs, h1, h2⟩ := List.mem_flatten.1 hv
  obtain ⟨p, _, rfl⟩ := List.mem_map.1 h1
  exact oneCell_pc p.1 p.2 v h2
section
variable {w w' : World} {X Y : Nat → Prop} {A : Option Addr} {n c : Nat} {ps : List PcV}
theorem Pcs.weak (h : Pcs w X A n c ps) (hX : ∀ b, b < w.heap.size → X b → Y b) : Pcs w Y A n c ps := ⟨h.sl.weak hX, h.len, h.all⟩
theorem Pcs.every (h : Pcs w X A n c ps) : Pcs w (fun _ => True) A n c ps := h.weak fun _ _ _ => trivial
theorem Pcs.step (h : Pcs w X A n c ps) (hb : Below w.heap.size w w') : Pcs w' X A n c ps := ⟨h.sl.step hb, h.len, h.all⟩
theorem Pcs.grown {row : Option Nat} (h : Pcs w X A n c ps) (hg : w.grownBy w' row) (hX : ∀ b, b < w.heap.size → X b → some b ≠ row) : Pcs w' X A n c ps := ⟨h.sl.grown hg hX, h.len, h.all⟩
theorem Pcs.empty : Pcs w X none 0 0 [] := ⟨SlV.empty, rfl, fun _ h => absurd h (by simp)⟩
theorem Pcs.of_owns {T : TypeId} {base : Nat} {v : Value} (h : w.ownsRow base T 33 v n (pccells ps)) (hn : ps.length = n) (ha : Pc32 ps) : ∃ A c, v = .slice A n c ∧ Pcs w (fun b => base ≤ b ∧ some b = v.ownBlock) A n c ps := by
  obtain ⟨A, c, hv, hs⟩ := owns_slv h
  exact ⟨A, c, hv, hs, hn, ha⟩
theorem Pcs.take (h : Pcs w X A n c ps) (k : Nat) (hk : k ≤ n) : Pcs w X A k c (ps.take k) := by
  refine ⟨?_, by rw [List.length_take, h.len]; omega, fun p hp => h.all p (List.mem_of_mem_take hp)⟩
  have e : pccells (ps.take k) = (pccells ps).take (k * 33) := by
    have h1 : pccells ps = pccells (ps.take k) ++ pccells (ps.drop k) := by rw [← pccells_append, List.take_append_drop]
    have h2 := pccells_len (ps.take k) fun p hp => h.all p (List.mem_of_mem_take hp)
    rw [List.length_take, h.len, Nat.min_eq_left hk] at h2
    obtain ⟨q, hq⟩ : ∃ q, pccells (ps.take k) = q := ⟨_, rfl⟩
    rw [hq] at h1 h2 ⊢
    rw [h1, List.take_append_of_le_length (by rw [h2]; exact Nat.le_refl _), List.take_of_length_le (by rw [h2]; exact Nat.le_refl _)]
  rw [e]
  exact h.sl.take k hk
theorem Pcs.at_ (h : Pcs w X A n c ps) (hn : 0 < n) : ∃ b o, A = some ⟨b, o, none⟩ ∧ b < w.heap.size ∧ X b := by
  obtain ⟨b, o, h1, h2, h3, -⟩ := h.sl.at_ hn (by decide)
  exact ⟨b, o, h1, h2, h3⟩
theorem Pcs.cell (h : Pcs w X A n c ps) {b o : Nat} (hA : A = some ⟨b, o, none⟩) (i : Nat) (hi : i < n) (j : Nat) (v : Value) (hv : (pccell (ps.getD i pcD))[j]? = some v) : w.cell? ⟨b, o + i * 33 + j, none⟩ = some v := by
  obtain ⟨b', o', e, -, -, h4⟩ := h.sl.at_ (by omega) (by decide)
  rw [hA] at e
  cases e
  rw [Nat.add_assoc]
  refine h4 _ v (flat_atC _ h.all.cell i j v (by rw [List.length_map, h.len]; exact hi) ?_)
  rw [List.getD_eq_getElem?_getD, List.getElem?_map, List.getElem?_eq_getElem (l := ps) (by rw [h.len]; exact hi)]
  rw [List.getD_eq_getElem?_getD, List.getElem?_eq_getElem (l := ps) (by rw [h.len]; exact hi)] at hv
  exact hv
theorem Pcs.num (h : Pcs w X A n c ps) {b o : Nat} (hA : A = some ⟨b, o, none⟩) (i : Nat) (hi : i < n) : w.cell? ⟨b, o + i * 33, none⟩ = some (.int .i64 (ps.getD i pcD).1) := h.cell hA i hi 0 _ rfl
theorem Pcs.hash (h : Pcs w X A n c ps) {b o : Nat} (hA : A = some ⟨b, o, none⟩) (i : Nat) (hi : i < n) : (Instr.loadAt 48 (.pointer (some ⟨b, o + i * 33 + 1, none⟩))).run Tryd.prog w = .ok (.agg ((ps.getD i pcD).2.map B).toArray) w :=
  run_load_agg (agg26 _) (size26 _) b (o + i * 33 + 1) ((ps.getD i pcD).2.map B) (by rw [List.length_map, h.all.getD i (by rw [h.len]; exact hi)]) fun j u hu => by
    rw [show o + i * 33 + 1 + j = o + i * 33 + (j + 1) by omega]
    exact h.cell hA i hi (j + 1) u (by rw [List.getElem?_cons_succ]; exact hu)
theorem Pcs.load {T : TypeId} (hT : ∀ w : World, (isAgg T).run Tryd.prog w = .ok true w) (hs : ∀ w : World, (sizeOf T).run Tryd.prog w = .ok 33 w) (h : Pcs w X A n c ps) {b o : Nat} (hA : A = some ⟨b, o, none⟩) (i : Nat) (hi : i < n) :
    (Instr.loadAt T (.pointer (some ⟨b, o + i * 33, none⟩))).run Tryd.prog w = .ok (.agg (.int .i64 (ps.getD i pcD).1 :: (ps.getD i pcD).2.map B).toArray) w :=
  run_load_agg (hT _) (hs _) b (o + i * 33) (pccell (ps.getD i pcD)) (by rw [List.length_cons, List.length_map, h.all.getD i (by rw [h.len]; exact hi)]) fun j u hu => h.cell hA i hi j u hu
/-- parts lie nowhere where less than 33 cells are -/
theorem Pcs.apart (h : Pcs w X A n c ps) {g : Nat} {T : TypeId} {cs : Array Value} (k : Blk w g T cs) (hk : cs.size < 33) : Pcs w (fun b => X b ∧ b ≠ g) A n c ps := by
  refine ⟨⟨fun hne => ?_, h.sl.len, h.sl.room, h.sl.nil, h.sl.max⟩, h.len, h.all⟩
  obtain ⟨b, o, h1, h2, h3, h4⟩ := h.sl.bs hne
  refine ⟨b, o, h1, h2, ⟨h3, fun e => ?_⟩, h4⟩
  subst e
  have hlen := pccells_len ps h.all
  have hq : 0 < ps.length := by
    rcases Nat.eq_zero_or_pos ps.length with e | e
    · rw [List.length_eq_zero_iff.1 e] at hne; exact absurd rfl hne
    · exact e
  have h5 := h4 32 _ (List.getElem?_eq_getElem (by rw [hlen]; omega))
  rw [k.cell, Array.getElem?_eq_none (by omega)] at h5
  cases h5
end
/-- a front's parts, as they lie -/
def fpc (ps : FrV) : List PcV := ps.map fun p => ((p.1 : Int), p.2)
theorem fpc_append (a b : FrV) : fpc (a ++ b) = fpc a ++ fpc b := by simp [fpc]
theorem length_fpc (ps : FrV) : (fpc ps).length = ps.length := by simp [fpc]
theorem fpc_32 (ps : FrV) (h : F32 ps) : Pc32 (fpc ps) := fun p hp => by
  obtain ⟨q, hq, rfl⟩ := List.mem_map.1 hp
  exact h q hq
theorem fpc_getD (ps : FrV) (i : Nat) : (fpc ps).getD i pcD = (((ps.getD i (0, [])).1 : Int), (ps.getD i (0, [])).2) := by
  unfold fpc
  rw [List.getD_eq_getElem?_getD, List.getElem?_map, List.getD_eq_getElem?_getD]
  cases ps[i]? <;> rfl
end Go.Proofs.YtfhmjgkcpcnkbaaDoor
/- notaryref08.Same: where two rows are alike. -/
namespace Go.Proofs.YtfhmjgkcpcnkbaaDoor
open Go Go.RowKit

structure Sm8C (w : World) (A A' : Option Addr) (n c c' : Nat) (hs : List (List UInt8)) (W : World) : Prop where
  h1 : Hs W (fun _ => True) A n c hs
  h2 : Hs W (fun _ => True) A' n c' hs
  bel : Below w.heap.size w W
theorem Sm8C.drew {w W : World} {A A' : Option Addr} {n c c' : Nat} {hs : List (List UInt8)} (h : Sm8C w A A' n c c' hs W) : Sm8C w A A' n c c' hs W.drew := ⟨h.h1.drew, h.h2.drew, h.bel.drew⟩

set_option maxHeartbeats 1000000 in
set_option maxRecDepth 100000 in
theorem same_any (hs : List (List UInt8)) (A A' : Option Addr) (n c c' : Nat) (w : World) (h1 : Hs w (fun _ => True) A n c hs) (h2 : Hs w (fun _ => True) A' n c' hs) (hn : n ≤ 4398046511104) :
    Calls Tryd.prog 30 #[.slice A n c, .slice A' n c'] w fun e w' => e = .returned (.bool true) ∧ Below w.heap.size w w' := by
  have hlen := h1.len
  have hc1 := h1.sl.room
  have hc2 := h2.sl.room
  have hC0 : Sm8C w A A' n c c' hs w := ⟨h1, h2, Below.refl _ _⟩
  clear h1 h2
  have Hlen := Lib.hid hlen
  clear hlen
  go_enter Tryd.func30, Tryd.ntmps30
  go_wp2_with fail
  go_loopw [5] (fun v wr => ∃ (q : Nat), q ≤ n ∧ v = .int .i64 q ∧ Sm8C w A A' n c c' hs wr) (fun v _ => n - (intOf v).toNat)
  case atStart => exact ⟨0, by omega, rfl, hC0⟩
  case round =>
    clear hC0
    obtain ⟨q, hq, rfl, hC⟩ := hrel
    by_cases hlq : q < n
    · obtain ⟨b1, o1, hA1, -, -, -⟩ := hC.h1.at_ (by omega)
      obtain ⟨b2, o2, hA2, -, -, -⟩ := hC.h2.at_ (by omega)
      subst hA1 hA2
      obtain ⟨x, hx⟩ : ∃ x, hs.getD q [] = x := ⟨_, rfl⟩
      have hxl : x.length = 32 := by rw [← hx]; exact hC.h1.all.getD q (by rw [Hlen.out]; exact hlq)
      have l1 : ∀ s : InC (Sm8C w (some ⟨b1, o1, none⟩) (some ⟨b2, o2, none⟩) n c c' hs), (Instr.loadAt 48 (.pointer (some ⟨b1, o1 + q * 32, none⟩))).run Tryd.prog s.W = .ok (.agg (x.map B).toArray) s.W := fun s => by
        obtain ⟨b, o, hA, -, -, hld⟩ := s.ok.h1.at_ (by omega)
        cases hA
        rw [← hx]; exact hld q hlq
      have l2 : ∀ s : InC (Sm8C w (some ⟨b1, o1, none⟩) (some ⟨b2, o2, none⟩) n c c' hs), (Instr.loadAt 48 (.pointer (some ⟨b2, o2 + q * 32, none⟩))).run Tryd.prog s.W = .ok (.agg (x.map B).toArray) s.W := fun s => by
        obtain ⟨b, o, hA, -, -, hld⟩ := s.ok.h2.at_ (by omega)
        cases hA
        rw [← hx]; exact hld q hlq
      have Hx := Lib.hid hx
      have Hxl := Lib.hid hxl
      have Hl1 := Lib.hid l1
      have Hl2 := Lib.hid l2
      clear hx hxl l1 l2
      go_upto_region 6 with fail
      refine wp_region_mix (Sm8C w (some ⟨b1, o1, none⟩) (some ⟨b2, o2, none⟩) n c c' hs) [(0, true), (1, true), (2, true), (3, true), (4, true), (5, true), (6, true), (7, true), (8, true)] (by kernel_rfl) (by kernel_rfl) hC.drew fun _ => ?_
      simp only [List.map_cons, List.map_nil, Array.getD_eq_getD_getElem?, List.getElem?_toArray, List.getElem?_cons_succ, List.getElem?_cons_zero, Option.getD_some]
      iterate 3 (refine wpMix_s (fun K hK => ?_); go_simp; refine hK _ ?_; clear hK K)
      refine wpMix_load (by kernel_rfl) 48 (.tmp 19) rfl b1 (o1 + q * 32) rfl (x.map B).toArray Hl1.out ?_
      simp only [Act.put]
      iterate 3 (refine wpMix_s (fun K hK => ?_); go_simp; refine hK _ ?_; clear hK K)
      refine wpMix_load (by kernel_rfl) 48 (.tmp 23) rfl b2 (o2 + q * 32) rfl (x.map B).toArray Hl2.out ?_
      simp only [Act.put]
      refine wpMix_v (by kernel_rfl) (.bool false) (fun s => run_neq26_f (.tmp 20) (.tmp 24) _ x x rfl rfl rfl Hxl.out Hxl.out rfl s.W) ?_
      simp only [Act.put]
      refine wpMix_nil ?_
      intro hC1
      generalize wr.drew = W1 at hC1 ⊢
      go_wp2_with fail
      refine ⟨⟨q + 1, by omega, by go_num, hC1⟩, by simp [intOf]; omega⟩
    · have hqn : q = n := by omega
      subst hqn
      go_wp2_with fail
      go_ret
      exact ⟨rfl, hC.bel⟩
end Go.Proofs.YtfhmjgkcpcnkbaaDoor
