/- notarylaw09.TreeRoots. -/
import Derived.Test.YtgcbdnoniikboaaQa14
import Derived.Test.YtgcbdnoniikboaaQa15
import Derived.Test.YtgcbdnoniikboaaQa16
namespace Go.Proofs.Ytgcbdnoniikboaa
open Go Go.RowKit

theorem load_cell0 {W : World} {g : Nat} {a b : Int} (h : Blk W g 29 #[.int .i64 a, .int .i64 b]) : (Instr.loadAt 2 (.pointer (some ⟨g, 0, none⟩))).run Try.prog W = .ok (.int .i64 a) W := by
  have hc : W.cell? ⟨g, 0, none⟩ = some (.int .i64 a) := h.cell 0
  exact run_load_scalar (notagg64 W) hc
structure TrL (w : World) (hs : List (List UInt8)) (A : Option Addr) (n c : Nat) (A' : Option Addr) (c' N : Nat) (W : World) : Prop where
  src : Hs W (· < w.heap.size) A n c hs
  lent : Hs W (fun b => w.heap.size ≤ b ∧ b < N) A' (n + 1) c' (hs ++ [markH])
  le : N ≤ W.heap.size
  ge : w.heap.size ≤ N
  bel : Below w.heap.size w W
theorem TrL.step {w W W' : World} {hs : List (List UInt8)} {A A' : Option Addr} {n c c' N : Nat} (h : TrL w hs A n c A' c' N W) (hb : Below W.heap.size W W') : TrL w hs A n c A' c' N W' :=
  ⟨h.src.step hb, h.lent.step hb, Nat.le_trans h.le hb.size, h.ge, h.bel.trans (hb.mono h.bel.size)⟩
theorem TrL.setRow {w W : World} {hs : List (List UInt8)} {A A' : Option Addr} {n c c' N : Nat} (h : TrL w hs A n c A' c' N W) (g : Nat) (cs : Array Value) (hg : N ≤ g) : TrL w hs A n c A' c' N (W.setRow g cs) :=
  ⟨h.src.setRow g cs (by have := h.ge; omega), h.lent.setRow g cs (by omega), by simpa using h.le, h.ge, below_setRow h.bel (Nat.le_trans h.ge hg) _⟩
structure TrR (w : World) (hs : List (List UInt8)) (A : Option Addr) (n c : Nat) (A' : Option Addr) (c' N g ca : Nat) (Ab : Option Addr) (cb : Nat) (k : Nat) (W : World) : Prop where
  l : TrL w hs A n c A' c' N W
  gl : N ≤ g
  ra : ∃ cur, W.ownsRow N 34 32 (.slice (some ⟨g, 0, none⟩) (n + 1) ca) (n + 1) (hcells cur) ∧ cur.length = n + 1 ∧ H32 cur ∧ ∀ j, k ≤ j → j ≤ n → cur.getD j [] = rootL (hs.take j)
  rb : Hs W (fun b => b ≠ g) Ab (n + 1) cb (headsL hs n)
section
variable {w W W' : World} {hs : List (List UInt8)} {A A' Ab : Option Addr} {n c c' N g ca cb k : Nat}
theorem TrR.step (h : TrR w hs A n c A' c' N g ca Ab cb k W) (hb : Below W.heap.size W W') : TrR w hs A n c A' c' N g ca Ab cb k W' :=
  ⟨h.l.step hb, h.gl, let ⟨cur, h1, h2⟩ := h.ra; ⟨cur, owns_step h1 hb, h2⟩, h.rb.step hb⟩
theorem TrR.load (h : TrR w hs A n c A' c' N g ca Ab cb k W) (hk : k ≤ n) : (Instr.loadAt 34 (.pointer (some ⟨g, k * 32, none⟩))).run Try.prog W = .ok (.agg ((rootL (hs.take k)).map B).toArray) W := by
  obtain ⟨cur, h1, h2, h3, h4⟩ := h.ra
  obtain ⟨A1, c1, hv, hh⟩ := Hs.of_owns h1 h2 h3
  cases hv
  have := hh.get rfl k (by omega)
  rwa [h4 k (Nat.le_refl _) hk, Nat.zero_add] at this
theorem TrR.put (h : TrR w hs A n c A' c' N g ca Ab cb k W) (hk : k ≤ n) (x : List UInt8) (hx : x.length = 32) : ∃ (cur : Array Value) (W' : World), Blk W g 34 cur ∧ k * 32 + 32 ≤ cur.size ∧
    W.setRow g (cur.toList.take (k * 32) ++ (x.map B).toArray.toList ++ cur.toList.drop (k * 32 + 32)).toArray = W' ∧ TrR w hs A n c A' c' N g ca Ab cb (k + 1) W' := by
  obtain ⟨cur, h1, h2, h3, h4⟩ := h.ra
  obtain ⟨cu, g1, g2, g3, g4⟩ := owns_put h1 k (by omega) (x.map B) (by simp [hx])
  refine ⟨cu, _, g1, g2, rfl, h.l.setRow g _ h.gl, h.gl, ⟨cur.set k x, ?_, by simp [h2], h3.set k hx, fun j hj hn => ?_⟩, h.rb.setRow g _ (fun e => e rfl)⟩
  · rw [hcells_set cur h3 k x (by omega)] at g4
    exact g4
  · rw [← h4 j (by omega) hn, List.getD_eq_getElem?_getD, List.getD_eq_getElem?_getD, List.getElem?_set_ne (by omega)]
end

set_option maxHeartbeats 4000000 in
set_option maxRecDepth 100000 in
theorem treeroots_any (hs : List (List UInt8)) (A : Option Addr) (n c : Nat) (w : World) (a b lv : Int) (h : Hs w (· < w.heap.size) A n c hs) :
    Calls Try.prog 7 #[.slice A n c, .agg #[.int .i64 a, .int .i64 b], .int .i64 lv] w fun e w' => e = .returned (.bool true) ∧ Below w.heap.size w w' := by
  have kp0 := Blk.new w 29 #[.int .i64 a, .int .i64 b]
  have hb0 : Below w.heap.size w (w.alloc (.cells #[.int .i64 a, .int .i64 b] 29)) := (Below.refl _ _).alloc (Nat.le_refl _) _
  by_cases hbig : 100 < n
  · have hd : decide ((100 : Int) < (n : Int)) = true := by simp; omega
    clear h
    go_enter Try.func7, Try.ntmps7
    go_wp2_with (go_at_call 15; refine (known9_any _).mono ?_; rintro e w2 ⟨rfl, hb2⟩)
    go_ret
    exact ⟨rfl, hb0.trans (hb2.mono (by simp))⟩
  have hn : n ≤ 100 := by omega
  have hd : decide ((100 : Int) < (n : Int)) = false := by simp; omega
  have hroom := h.sl.room
  have hmax := h.sl.max
  unfold maxLen at hmax
  have hlen := h.len
  have h32 := h.all
  have h0 := h.step hb0
  have Hlen := Lib.hid hlen
  have HH32 := Lib.hid h32
  clear hlen h32 hbig h
  go_enter Try.func7, Try.ntmps7
  go_wp2_with fail
  refine (lent9_any hs A n c _ (h0.weak fun _ _ _ => trivial) (by omega)).mono ?_
  rintro e w1 ⟨A', c', rfl, hl1, hb1⟩
  have kp := kp0.step hb1
  have hroom' := hl1.sl.room
  have hmax' := hl1.sl.max
  unfold maxLen at hmax'
  have hT : TrL w hs A n c A' c' w1.heap.size w1 := ⟨h0.step hb1, hl1.weak fun b hb hx => ⟨Nat.le_trans hb0.size hx, hb⟩, Nat.le_refl _, Nat.le_trans hb0.size hb1.size, hb0.trans (hb1.mono (by simp))⟩
  generalize w1.heap.size = N at hT
  clear h0 kp0 hb0 hb1 hl1
  obtain ⟨s, hs'⟩ : ∃ s, stretchR hs a b = s := ⟨_, rfl⟩
  obtain ⟨d, hd'⟩ : ∃ d, nodeR hs lv a = d := ⟨_, rfl⟩
  have hsl : s.1.length = 32 := by rw [← hs']; exact length_stretchR hs a b HH32.out
  have hdl : d.1.length = 32 := by rw [← hd']; exact length_nodeR hs lv a HH32.out
  have Hs' := Lib.hid hs'
  have Hd' := Lib.hid hd'
  have Hsl := Lib.hid hsl
  have Hdl := Lib.hid hdl
  clear hs' hd' hsl hdl
  go_wp2_with (first
    | ((with_reducible show wpList _ _ _ (⟨some 28, .load _ _, _, _, _, _⟩ :: _) _ _); refine wpList_cell 29 (.tmp 4) w.heap.size 0 (.agg #[.int .i64 a, .int .i64 b]) (by kernel_rfl) rfl rfl (run_load_blk (aggR _) (sizeR _) _ _ rfl kp) ?_; simp only [Act.put]))
  have hmw : Hs w1 (fun _ => True) A' n c' hs := by
    have := (hT.lent.take n (by omega)).weak (Y := fun _ => True) fun _ _ _ => trivial
    rwa [show (hs ++ [markH]).take n = hs by rw [← Hlen.out]; simp] at this
  have hsw : Hs w1 (fun _ => True) A n c hs := hT.src.weak fun _ _ _ => trivial
  refine (tstretch_any hs A' n c' _ a b hmw (by omega)).mono ?_
  rw [Hs'.out]
  clear hmw hsw
  rintro e wc0 ⟨rfl, hb⟩
  replace hT := hT.step hb
  replace kp := kp.step hb
  clear hb
  go_wp2_with (first
    | ((with_reducible show wpList _ _ _ (⟨some 8, .alloc _, _, _, _, _⟩ :: _) _ _); refine wpList_hvar (.tmp 8) (.tmp 30) rfl rfl rfl rfl rfl rfl Hsl.out ?_; intro wv0 k8 hb; simp only [Act.put]; replace hT := hT.step hb; replace kp := kp.step hb; clear hb)
    | ((with_reducible show wpList _ _ _ (⟨some 34, .load _ _, _, _, _, _⟩ :: _) _ _); refine wpList_cell 29 (.tmp 4) w.heap.size 0 (.agg #[.int .i64 a, .int .i64 b]) (by kernel_rfl) rfl rfl (run_load_blk (aggR _) (sizeR _) _ _ rfl kp) ?_; simp only [Act.put]))
  have hmw : Hs wv0 (fun _ => True) A' n c' hs := by
    have := (hT.lent.take n (by omega)).weak (Y := fun _ => True) fun _ _ _ => trivial
    rwa [show (hs ++ [markH]).take n = hs by rw [← Hlen.out]; simp] at this
  have hsw : Hs wv0 (fun _ => True) A n c hs := hT.src.weak fun _ _ _ => trivial
  refine (rstretch_any hs A n c _ a b hsw (by omega)).mono ?_
  rw [Hs'.out]
  clear hmw hsw
  rintro e wc1 ⟨rfl, hb⟩
  replace hT := hT.step hb
  replace kp := kp.step hb
  replace k8 := k8.step hb
  clear hb
  go_wp2_with (first
    | ((with_reducible show wpList _ _ _ (⟨some 10, .alloc _, _, _, _, _⟩ :: _) _ _); refine wpList_hvar (.tmp 10) (.tmp 36) rfl rfl rfl rfl rfl rfl Hsl.out ?_; intro wv1 k10 hb; simp only [Act.put]; replace hT := hT.step hb; replace kp := kp.step hb; replace k8 := k8.step hb; clear hb)
    | ((with_reducible show wpList _ _ _ (⟨some 42, .load _ _, _, _, _, _⟩ :: _) _ _); refine wpList_cell 2 (.tmp 41) w.heap.size 0 (.int .i64 a) (by kernel_rfl) rfl rfl (load_cell0 kp) ?_; simp only [Act.put]))
  have hmw : Hs wv1 (fun _ => True) A' n c' hs := by
    have := (hT.lent.take n (by omega)).weak (Y := fun _ => True) fun _ _ _ => trivial
    rwa [show (hs ++ [markH]).take n = hs by rw [← Hlen.out]; simp] at this
  have hsw : Hs wv1 (fun _ => True) A n c hs := hT.src.weak fun _ _ _ => trivial
  refine (tnode_any hs A' n c' _ lv a hmw (by omega)).mono ?_
  rw [Hd'.out]
  clear hmw hsw
  rintro e wc2 ⟨rfl, hb⟩
  replace hT := hT.step hb
  replace kp := kp.step hb
  replace k8 := k8.step hb
  replace k10 := k10.step hb
  clear hb
  go_wp2_with (first
    | ((with_reducible show wpList _ _ _ (⟨some 12, .alloc _, _, _, _, _⟩ :: _) _ _); refine wpList_hvar (.tmp 12) (.tmp 44) rfl rfl rfl rfl rfl rfl Hdl.out ?_; intro wv2 k12 hb; simp only [Act.put]; replace hT := hT.step hb; replace kp := kp.step hb; replace k8 := k8.step hb; replace k10 := k10.step hb; clear hb)
    | ((with_reducible show wpList _ _ _ (⟨some 50, .load _ _, _, _, _, _⟩ :: _) _ _); refine wpList_cell 2 (.tmp 49) w.heap.size 0 (.int .i64 a) (by kernel_rfl) rfl rfl (load_cell0 kp) ?_; simp only [Act.put]))
  have hmw : Hs wv2 (fun _ => True) A' n c' hs := by
    have := (hT.lent.take n (by omega)).weak (Y := fun _ => True) fun _ _ _ => trivial
    rwa [show (hs ++ [markH]).take n = hs by rw [← Hlen.out]; simp] at this
  have hsw : Hs wv2 (fun _ => True) A n c hs := hT.src.weak fun _ _ _ => trivial
  refine (rnode_any hs A n c _ lv a hsw (by omega)).mono ?_
  rw [Hd'.out]
  clear hmw hsw
  rintro e wc3 ⟨rfl, hb⟩
  replace hT := hT.step hb
  replace kp := kp.step hb
  replace k8 := k8.step hb
  replace k10 := k10.step hb
  replace k12 := k12.step hb
  clear hb
  go_wp2_with (first
    | ((with_reducible show wpList _ _ _ (⟨some 14, .alloc _, _, _, _, _⟩ :: _) _ _); refine wpList_hvar (.tmp 14) (.tmp 52) rfl rfl rfl rfl rfl rfl Hdl.out ?_; intro wv3 k14 hb; simp only [Act.put]; replace hT := hT.step hb; replace kp := kp.step hb; replace k8 := k8.step hb; replace k10 := k10.step hb; replace k12 := k12.step hb; clear hb))
  have hmw : Hs wv3 (fun _ => True) A' n c' hs := by
    have := (hT.lent.take n (by omega)).weak (Y := fun _ => True) fun _ _ _ => trivial
    rwa [show (hs ++ [markH]).take n = hs by rw [← Hlen.out]; simp] at this
  refine (troots_any hs A' n c' _ hmw (by omega)).mono ?_
  clear hmw
  rintro e w5 ⟨va, rfl, ho5, hb⟩
  have ho5' := owns_le ho5 hT.le
  replace hT := hT.step hb
  replace k8 := k8.step hb
  replace k10 := k10.step hb
  replace k12 := k12.step hb
  replace k14 := k14.step hb
  clear hb
  go_wp2_with fail
  have hmw : Hs w5 (fun _ => True) A' n c' hs := by
    have := (hT.lent.take n (by omega)).weak (Y := fun _ => True) fun _ _ _ => trivial
    rwa [show (hs ++ [markH]).take n = hs by rw [← Hlen.out]; simp] at this
  refine (troots_any hs A' n c' _ hmw (by omega)).mono ?_
  clear hmw
  rintro e w6 ⟨vb, rfl, ho6, hb⟩
  obtain ⟨g, ca, rfl⟩ := owns_some ho5 (by omega)
  have hg5 := ho5.lt g rfl
  obtain ⟨Ab, cb, rfl, hb6⟩ := Hs.of_owns ho6 (length_headsL hs n) (headsL_all hs HH32.out n)
  have hR : TrR w hs A n c A' c' N g ca Ab cb 0 w6 := ⟨hT.step hb, by have := hT.le; have := (ho5'.lt g rfl).1; omega, ⟨headsL hs n, owns_step ho5' hb, length_headsL hs n, headsL_all hs HH32.out n, fun j _ hj => headsL_getD hs n j hj⟩, hb6.weak fun b _ hx => by have := hx.1; omega⟩
  replace hT := hT.step hb
  replace k8 := k8.step hb
  replace k10 := k10.step hb
  replace k12 := k12.step hb
  replace k14 := k14.step hb
  clear hb ho5 ho6 ho5' hb6 hg5
  have hof := fun W (hW : Below w6.heap.size w6 W) => tof_any hs A' n c' W (by
    have := ((hT.step hW).lent.take n (by omega)).weak (Y := fun _ => True) fun _ _ _ => trivial
    rwa [show (hs ++ [markH]).take n = hs by rw [← Hlen.out]; simp] at this) (by omega)
  have hrf := fun W (hW : Below w6.heap.size w6 W) => rof_any hs A n c W ((hT.step hW).src.weak fun _ _ _ => trivial) (by omega)
  have hke := fun W (hW : Below w6.heap.size w6 W) => kept9_any hs A' A n c' c W ((hT.step hW).lent.weak fun _ _ _ => trivial) ((hT.step hW).src.weak fun _ _ _ => trivial) (by omega)
  obtain ⟨r, hr⟩ : ∃ r, rootL hs = r := ⟨_, rfl⟩
  have hrl : r.length = 32 := by rw [← hr]; exact length_rootL hs HH32.out
  rw [hr] at hof hrf
  have hwn : IntKind.i64.wrap ((n : Int) + 1) = (n : Int) + 1 := IntWalk.i64_in _ (by omega)
  have Hof := Lib.hid hof
  have Hrf := Lib.hid hrf
  have Hke := Lib.hid hke
  have Hrl := Lib.hid hrl
  have Hwn := Lib.hid hwn
  clear hof hrf hke hrl hr kp hT hwn
  go_wp2_with (first
    | ((with_reducible show wpList _ _ _ (⟨some 58, .load _ _, _, _, _, _⟩ :: _) _ _); refine wpList_hload (.tmp 8) (by kernel_rfl) rfl k8 rfl ?_; simp only [Act.put])
    | ((with_reducible show wpList _ _ _ (⟨some 59, .load _ _, _, _, _, _⟩ :: _) _ _); refine wpList_hload (.tmp 10) (by kernel_rfl) rfl k10 rfl ?_; simp only [Act.put])
    | ((with_reducible show wpList _ _ _ (⟨some 60, .binOp _ _ _ _ _, _, _, _, _⟩ :: _) _ _); refine wpList_runG (by kernel_rfl) (.bool false) _ (run_neq26_f (.tmp 58) (.tmp 59) _ s.1 s.1 rfl rfl rfl Hsl.out Hsl.out rfl _) ?_; simp only [Act.put])
    | ((with_reducible show wpList _ _ _ (⟨some 67, .load _ _, _, _, _, _⟩ :: _) _ _); refine wpList_hload (.tmp 12) (by kernel_rfl) rfl k12 rfl ?_; simp only [Act.put])
    | ((with_reducible show wpList _ _ _ (⟨some 68, .load _ _, _, _, _, _⟩ :: _) _ _); refine wpList_hload (.tmp 14) (by kernel_rfl) rfl k14 rfl ?_; simp only [Act.put])
    | ((with_reducible show wpList _ _ _ (⟨some 69, .binOp _ _ _ _ _, _, _, _, _⟩ :: _) _ _); refine wpList_runG (by kernel_rfl) (.bool false) _ (run_neq26_f (.tmp 67) (.tmp 68) _ d.1 d.1 rfl rfl rfl Hdl.out Hdl.out rfl _) ?_; simp only [Act.put])
    | (go_at_call 28; refine (Hof.out _ (Below.refl _ _)).mono ?_; rintro e w7 ⟨rfl, hb7⟩)
    | (go_at_call 19; refine (Hrf.out _ hb7).mono ?_; rintro e w8 ⟨rfl, hb8⟩; have hb9 := hb7.trans (hb8.mono hb7.size))
    | ((with_reducible show wpList _ _ _ (⟨some 81, .binOp _ _ _ _ _, _, _, _, _⟩ :: _) _ _); refine wpList_runG (by kernel_rfl) (.bool false) _ (run_neq26_f (.tmp 78) (.tmp 80) _ r r rfl rfl rfl Hrl.out Hrl.out rfl _) ?_; simp only [Act.put])
    | (go_at_call 37; refine (Hke.out _ hb9).mono ?_; rintro e w9 ⟨rfl, hb10⟩; have hb11 := hb9.trans (hb10.mono hb9.size)))
  clear k8 k10 k12 k14 hb7 hb8 hb9 hb10
  replace hR := hR.step hb11
  clear hb11 Hof Hrf Hke
  go_loopw [18] (fun a18 wr => ∃ (k : Nat), k ≤ n + 1 ∧ a18 = .int .i64 (k : Int) ∧ TrR w hs A n c A' c' N g ca Ab cb k wr) (fun a18 _ => n + 1 - (intOf a18).toNat)
  case atStart => exact ⟨0, by omega, rfl, hR⟩
  case round =>
    clear hR
    obtain ⟨k, hk, rfl, hR⟩ := hrel
    by_cases hlt : k ≤ n
    · have hki : (k : Int) < (n : Int) + 1 := by omega
      have hwk : IntKind.i64.wrap ((k : Int) + 1) = (k : Int) + 1 := IntWalk.i64_in _ (by omega)
      have hld := fun W (hW : Below wr.heap.size wr W) => (hR.step hW).load hlt
      have hof := fun W (hW : Below wr.heap.size wr W) => rof_any (hs.take k) A k c W (((hR.step hW).l.src.take k (by omega)).weak fun _ _ _ => trivial) (by omega)
      have hrl : (rootL (hs.take k)).length = 32 := length_rootL _ (HH32.out.take k)
      obtain ⟨q, hq⟩ : ∃ q, rootL (hs.take k) = q := ⟨_, rfl⟩
      rw [hq] at hrl
      simp only [hq] at hld hof
      have Hld := Lib.hid hld
      have Hof := Lib.hid hof
      have Hrl := Lib.hid hrl
      clear hld hof hrl hq
      go_wp2_with fail
      have hS : Below wr.heap.size wr wr.drew := (Below.refl _ _).drew
      refine wp_region_mix (fun W => Below wr.heap.size wr W) [(0, true), (1, true), (2, true), (3, true), (4, true), (5, true), (6, true), (7, false), (8, true)] (by kernel_rfl) (by kernel_rfl) hS fun _ => ?_
      simp only [List.map_cons, List.map_nil, Array.getD_eq_getD_getElem?, List.getElem?_toArray, List.getElem?_cons_succ, List.getElem?_cons_zero, Option.getD_some]
      generalize wr.drew = W0 at hS ⊢
      refine wpMix_s (fun K hK => ?_)
      go_simp
      refine hK _ ?_
      clear hK K
      refine wpMix_s (fun K hK => ?_)
      go_simp
      refine hK _ ?_
      clear hK K
      refine wpMix_s (fun K hK => ?_)
      go_simp
      refine hK _ ?_
      clear hK K
      refine wpMix_load (by kernel_rfl) 34 (.tmp 105) rfl (g) (k * 32) rfl (q.map B).toArray (fun u => Hld.out _ u.ok) ?_
      simp only [Act.put]
      refine wpMix_s (fun K hK => ?_)
      go_simp
      refine hK _ ?_
      clear hK K
      refine wpMix_s (fun K hK => ?_)
      go_simp
      refine hK _ ?_
      clear hK K
      refine wpMix_v (by kernel_rfl) (.slice A k c) (fun u => run_slice_op_hi (.tmp 107) (.tmp 108) rfl A n c k rfl rfl (by omega) u.W) ?_
      simp only [Act.put]
      refine wpMix_c (fun K hK => ?_) hS
      go_simp
      refine (Hof.out W0 hS).mono ?_
      rintro e W0_1 ⟨rfl, hb'⟩
      refine hK _ _ ?_
      clear hK K
      replace hS := hS.trans (hb'.mono hS.size)
      refine ⟨hS, ?_⟩
      clear hb'
      refine wpMix_v (by kernel_rfl) (.bool false) (fun u => run_neq26_f (.tmp 106) (.tmp 110) _ q q rfl rfl rfl Hrl.out Hrl.out rfl u.W) ?_
      simp only [Act.put]
      refine wpMix_nil ?_
      intro _
      replace hR := hR.step hS
      obtain ⟨cur, W5, hcu, hfit, hW5, hR2⟩ := hR.put hlt (oneHash 9) (length_oneHash 9)
      obtain ⟨nine, h9⟩ : ∃ x, oneHash 9 = x := ⟨_, rfl⟩
      rw [h9] at hW5
      have h9l : nine.length = 32 := by rw [← h9]; rfl
      have H9 := Lib.hid h9
      have H9l := Lib.hid h9l
      have HW5 := Lib.hid hW5
      clear h9 h9l hR hW5
      go_wp2_with (first
        | ((with_reducible show wpList _ _ _ (⟨some 114, .build _ _, _, _, _, _⟩ :: _) _ _); refine wpList_run0 rfl (.agg (nine.map B).toArray) (by rw [← H9.out]; kernel_rfl) ?_; simp only [Act.put])
        | ((with_reducible show wpList _ _ _ (⟨none, .store _ _ _, _, _, _, _⟩ :: _) _ _); refine wpList_store_agg rfl 34 (.tmp 115) (.tmp 114) rfl 32 size26 g (k * 32) (nine.map B).toArray rfl rfl (by simp [H9l.out]) (oneCell_B _) 34 cur hcu hfit ?_; simp only [Act.put]; rw [HW5.out]))
      go_roundw
      case rel => exact ⟨k + 1, by omega, by go_num, hR2⟩
      case measure => simp [intOf]; omega
    · have hke := Lib.hid (show k = n + 1 by omega)
      have hR := hke.out ▸ hR
      go_wp2_with fail
      go_loopw [19] (fun a19 wr => ∃ (k : Nat), k ≤ n + 1 ∧ a19 = .int .i64 (k : Int) ∧ TrR w hs A n c A' c' N g ca Ab cb (n + 1) wr) (fun a19 _ => n + 1 - (intOf a19).toNat)
      case atStart => exact ⟨0, by omega, rfl, hR⟩
      case round =>
        clear hR hlt hk hke
        rename_i k0
        obtain ⟨k, hk, rfl, hR⟩ := hrel
        by_cases hlt : k ≤ n
        · have hki : (k : Int) < (n : Int) + 1 := by omega
          have hwk : IntKind.i64.wrap ((k : Int) + 1) = (k : Int) + 1 := IntWalk.i64_in _ (by omega)
          obtain ⟨bb, ob, hAb, -, -, -⟩ := hR.rb.at_ (by omega)
          subst hAb
          have hld := fun W (hW : Below wr.heap.size wr W) => ((hR.step hW).rb).get rfl k (by omega)
          have hof := fun W (hW : Below wr.heap.size wr W) => rof_any (hs.take k) A k c W (((hR.step hW).l.src.take k (by omega)).weak fun _ _ _ => trivial) (by omega)
          rw [headsL_getD hs n k hlt] at hld
          have hrl : (rootL (hs.take k)).length = 32 := length_rootL _ (HH32.out.take k)
          have hcbr := hR.rb.sl.room
          have hcbm := hR.rb.sl.max
          unfold maxLen at hcbm
          obtain ⟨q, hq⟩ : ∃ q, rootL (hs.take k) = q := ⟨_, rfl⟩
          rw [hq] at hrl
          simp only [hq] at hld hof
          have Hld := Lib.hid hld
          have Hof := Lib.hid hof
          have Hrl := Lib.hid hrl
          clear hld hof hrl hq
          go_wp2_with fail
          have hS : Below wr.heap.size wr wr.drew := (Below.refl _ _).drew
          refine wp_region_mix (fun W => Below wr.heap.size wr W) [(0, true), (1, true), (2, true), (3, true), (4, true), (5, true), (6, true), (7, false), (8, true)] (by kernel_rfl) (by kernel_rfl) hS fun _ => ?_
          simp only [List.map_cons, List.map_nil, Array.getD_eq_getD_getElem?, List.getElem?_toArray, List.getElem?_cons_succ, List.getElem?_cons_zero, Option.getD_some]
          generalize wr.drew = W0 at hS ⊢
          refine wpMix_s (fun K hK => ?_)
          go_simp
          refine hK _ ?_
          clear hK K
          refine wpMix_s (fun K hK => ?_)
          go_simp
          refine hK _ ?_
          clear hK K
          refine wpMix_s (fun K hK => ?_)
          go_simp
          refine hK _ ?_
          clear hK K
          refine wpMix_load (by kernel_rfl) 34 (.tmp 124) rfl (bb) (ob + k * 32) rfl (q.map B).toArray (fun u => Hld.out _ u.ok) ?_
          simp only [Act.put]
          refine wpMix_s (fun K hK => ?_)
          go_simp
          refine hK _ ?_
          clear hK K
          refine wpMix_s (fun K hK => ?_)
          go_simp
          refine hK _ ?_
          clear hK K
          refine wpMix_v (by kernel_rfl) (.slice A k c) (fun u => run_slice_op_hi (.tmp 126) (.tmp 127) rfl A n c k rfl rfl (by omega) u.W) ?_
          simp only [Act.put]
          refine wpMix_c (fun K hK => ?_) hS
          go_simp
          refine (Hof.out W0 hS).mono ?_
          rintro e W0_1 ⟨rfl, hb'⟩
          refine hK _ _ ?_
          clear hK K
          replace hS := hS.trans (hb'.mono hS.size)
          refine ⟨hS, ?_⟩
          clear hb'
          refine wpMix_v (by kernel_rfl) (.bool false) (fun u => run_neq26_f (.tmp 125) (.tmp 129) _ q q rfl rfl rfl Hrl.out Hrl.out rfl u.W) ?_
          simp only [Act.put]
          refine wpMix_nil ?_
          intro _
          go_wp2_with fail
          go_roundw
          case rel => exact ⟨k + 1, by omega, by go_num, hR.step hS⟩
          case measure => simp [intOf]; omega
        · obtain rfl : k = n + 1 := by omega
          have hke := kept9_any hs A' A n c' c wr (hR.l.lent.weak fun _ _ _ => trivial) (hR.l.src.weak fun _ _ _ => trivial) (by omega)
          have hbl := hR.l.bel
          have Hke := Lib.hid hke
          clear hke hR
          go_wp2_with (first
            | (go_at_call 37; refine (Hke.out).mono ?_; rintro e w9 ⟨rfl, hb10⟩)
            | (go_at_call 15; refine (known9_any _).mono ?_; rintro e wf ⟨rfl, hbf⟩))
          go_ret
          have hb12 := hbl.trans (hb10.mono hbl.size)
          exact ⟨rfl, hb12.trans (hbf.mono hb12.size)⟩

end Go.Proofs.Ytgcbdnoniikboaa
