/- notaryref03: Under.Take. -/
import Derived.Test.YtgcbdnoniikboaaRef3
namespace Go.Proofs.Ytgcbdnoniikboaa
open Go.RowKit

/-- between two statements of Take -/
structure TkC (w : World) (cs zs : Array Value) (A : Option Addr) (n c : Nat) (l : List UInt8) (W : World) : Prop where
  st : Blk W w.heap.size 117 cs
  z : Blk W (w.heap.size + 1) 117 zs
  bel : Below w.heap.size w W
  rest : Sl W (fun b => w.heap.size + 1 < b) A n c l

theorem TkC.step {w W W' : World} {cs zs : Array Value} {A : Option Addr} {n c : Nat} {l : List UInt8} (h : TkC w cs zs A n c l W) (hb : Below W.heap.size W W') : TkC w cs zs A n c l W' :=
  ⟨h.st.below hb h.st.lt, h.z.below hb h.z.lt, h.bel.trans (hb.mono h.bel.size), h.rest.step hb⟩
theorem TkC.set_ {w W : World} {cs zs : Array Value} {A : Option Addr} {n c : Nat} {l : List UInt8} (h : TkC w cs zs A n c l W) (cs' : Array Value) : TkC w cs' zs A n c l (W.setRow w.heap.size cs') :=
  ⟨h.st.setRow_ cs', h.z.setRow_apart (by omega) cs', below_setRow h.bel (Nat.le_refl _) _, ((h.rest.weak fun b _ hb => (by omega : b ≠ w.heap.size)).setRow _ cs').bs.weak (fun b _ hb => hb) |> fun hb => ⟨fun hl => by
    obtain ⟨b, o, h1, h2, h3, h4⟩ := hb hl
    obtain ⟨b', o', g1, g2, g3, g4⟩ := h.rest.bs hl
    rw [h1] at g1
    cases g1
    exact ⟨b, o, h1, h2, g3, h4⟩, h.rest.len, h.rest.room, h.rest.none, h.rest.max⟩⟩
theorem TkC.cut {w W : World} {cs zs : Array Value} {A : Option Addr} {n c : Nat} {l : List UInt8} (h : TkC w cs zs A n c l W) (hn : 64 ≤ n) : TkC w cs zs (if c = 64 then A else A.map (·.add (64 * 1))) (n - 64) (c - 64) (l.drop 64) W :=
  ⟨h.st, h.z, h.bel, h.rest.drop 64 hn⟩

set_option maxHeartbeats 1000000 in
set_option maxRecDepth 100000 in
theorem rtake_any (u : Und) (b : List UInt8) (A0 : Option Addr) (n0 c0 : Nat) (A : Option Addr) (n c : Nat) (w : World) (h0 : Sl w (fun _ => True) A0 n0 c0 u.rest) (hb : Sl w (fun _ => True) A n c b) (hmax : n0 + n ≤ 1099511627776) (hlen : u.len + n < 9223372036854775808) :
    Calls Try.prog 80 #[undV u (.slice A0 n0 c0), .slice A n c] w fun e w' => ∃ A' n' c', e = .returned (undV (u.take b) (.slice A' n' c')) ∧ Sl w' (fun _ => True) A' n' c' (u.take b).rest ∧ Below w.heap.size w w' := by
  have Hbn := Lib.hid hb.len
  obtain ⟨sl, hsl⟩ : ∃ sl, u.st.list = sl := ⟨_, rfl⟩
  have hsl8 : sl.length = 8 := by rw [← hsl]; rfl
  obtain ⟨cs, hcs⟩ : ∃ cs, (undCells sl u.len (.slice A0 n0 c0)).toArray = cs := ⟨_, rfl⟩
  have hc8 : cs[8]? = some (.int .i64 (u.len : Int)) := by rw [← hcs, List.getElem?_toArray]; exact undCells_8 hsl8
  have hc9 : cs[9]? = some (.slice A0 n0 c0) := by rw [← hcs, List.getElem?_toArray]; exact undCells_9 hsl8
  obtain ⟨zs, hzs⟩ : ∃ zs, (undCells (List.replicate 8 0) 0 (.slice none 0 0)).toArray = zs := ⟨_, rfl⟩
  have hz : zs.size = 10 := by rw [← hzs]; rfl
  unfold undV
  rw [hsl, hcs]
  have Hsl := Lib.hid hsl
  have Hsl8 := Lib.hid hsl8
  have Hcs := Lib.hid hcs
  have Hzs := Lib.hid hzs
  have Hz := Lib.hid hz
  have Hc8 := Lib.hid hc8
  have Hc9 := Lib.hid hc9
  clear hsl hsl8 hcs hzs hc8 hc9 hz
  go_enter Try.func80, Try.ntmps80
  go_upto_region 1 with (fail)
  refine wp_world (fun W => Blk W w.heap.size 117 cs ∧ Blk W (w.heap.size + 1) 117 zs ∧ Below w.heap.size w W ∧ Sl W (fun _ => True) A0 n0 c0 u.rest ∧ Sl W (fun _ => True) A n c b ∧ w.heap.size + 1 < W.heap.size) ⟨(Blk.new _ _ _).alloc _, by rw [← Hzs.out]; exact Blk.new' _ _ _ _ (by simp), ((Below.refl _ _).alloc (Nat.le_refl _) _).alloc (by simp) _, (h0.alloc _).alloc _, (hb.alloc _).alloc _, by simp⟩ ?_
  rintro W1 ⟨k1, z1, B1, s0, s1, hW1⟩
  obtain ⟨v1, w1, hr1, ho1, hg1⟩ := append_sl (base := W1.heap.size) (xs := []) (World.ownsRow_nil W1 _ _ _) s0 (by simp; omega) (Nat.le_refl _)
  rw [List.nil_append] at ho1
  have b1 : Below W1.heap.size W1 w1 := ⟨hg1.os, hg1.tape, hg1.output, hg1.size, fun k hk => hg1.block k hk (by simp [Value.ownBlock])⟩
  obtain ⟨v2, w2, hr2, ho2, hg2⟩ := append_sl ho1 (s1.step b1) (by have := s0.len; omega) b1.size
  have b2 : Below W1.heap.size W1 w2 := below_append b1 ho1 hg2 (Nat.le_refl _) b1.size
  obtain ⟨l, hl⟩ : ∃ l, u.rest ++ b = l := ⟨_, rfl⟩
  rw [hl] at ho2
  have hll : l.length = n0 + n := by rw [← hl, List.length_append, s0.len, s1.len]
  obtain ⟨A2, c2, rfl, hs2⟩ := owns_sl ho2
  have c9 : W1.cell? ⟨w.heap.size, 9, none⟩ = some (.slice A0 n0 c0) := by rw [k1.cell]; exact Hc9.out
  have hC : TkC w cs zs A2 l.length c2 l w2 := ⟨k1.below b2 k1.lt, z1.below b2 z1.lt, B1.trans (b2.mono B1.size), hs2.weak fun _ _ h => by omega⟩
  have Hr1 := Lib.hid hr1
  have Hr2 := Lib.hid hr2
  have Hl := Lib.hid hl
  have Hll := Lib.hid hll
  clear hr1 hr2 hl hll ho1 ho2 hg1 hg2 b1 b2 s0 s1 hs2 B1 z1 h0 hb
  go_wp2_with (first
    | ((with_reducible show wpList _ _ _ (⟨some 8, .call _, _, _, _, _⟩ :: _) _ _); refine wpList_run rfl v1 w1 (run_append_op (.const (.slice none 0 0)) (.tmp 7) 32 rfl _ _ rfl rfl Hr1.out) ?_; simp only [Act.put])
    | ((with_reducible show wpList _ _ _ (⟨some 10, .call _, _, _, _, _⟩ :: _) _ _); refine wpList_run rfl _ w2 (run_append_op (.tmp 8) (.tmp 9) 32 rfl _ _ rfl rfl Hr2.out) ?_; simp only [Act.put]))
  clear c9 k1 hW1
  go_loopw [5] (fun i wr => ∃ (q : Nat) (A' : Option Addr) (n' c' : Nat) (bs : Array Value), 64 * q ≤ l.length ∧ n' = l.length - 64 * q ∧ i = .slice A' n' c' ∧ bs = (undCells (u.st.blocks l q).list u.len (.slice A0 n0 c0)).toArray ∧ TkC w bs zs A' n' c' (l.drop (64 * q)) wr) (fun i _ => sliceLen i)
  case atStart => exact ⟨0, A2, l.length, c2, cs, by omega, by omega, rfl, by rw [← Hcs.out, ← Hsl.out]; rfl, hC⟩
  case round =>
    obtain ⟨q, A', n', c', bs, hq, hn', rfl, hbs, hC⟩ := hrel
    have Hn := Lib.hid hn'
    have Hbs := Lib.hid hbs
    clear hn' hbs
    have hroom := hC.rest.room
    have hcmax : c' ≤ 9223372036854775807 := by have := hC.rest.max; unfold maxLen at this; exact this
    by_cases hge : 64 ≤ n'
    · obtain ⟨bl, hbl⟩ : ∃ bl, (l.drop (64 * q)).take 64 = bl := ⟨_, rfl⟩
      obtain ⟨s1, hs1⟩ : ∃ s1, u.st.blocks l q = s1 := ⟨_, rfl⟩
      obtain ⟨gb, o, rfl, hgb, hgx, hcl⟩ := hC.rest.cells (by omega)
      have hbl64 : bl.length = 64 := by rw [← hbl, List.length_take, List.length_drop]; have := Hn.out; omega
      have sl1 := fun W => run_slice_high (P := Try.prog) sliceT23 size23 (some ⟨gb, o, none⟩) n' c' 64 (by omega) W
      have sl2 := fun W => run_slice_low (P := Try.prog) sliceT23 size23 (some ⟨gb, o, none⟩) n' c' 64 hge W
      have hne : gb ≠ w.heap.size := by omega
      have l1 : ∀ s : InC (TkC w bs zs (some ⟨gb, o, none⟩) n' c' (l.drop (64 * q))), (Instr.loadAt 115 (.pointer (some ⟨w.heap.size, 0, none⟩))).run Try.prog s.W = .ok (.agg (s1.list.map U).toArray) s.W := fun s => by
        refine run_load_agg (agg33 _) (size33 _) _ 0 (s1.list.map U) rfl fun j v hv => ?_
        rw [Nat.zero_add, s.ok.st.cell, Hbs.out, hs1]
        exact undCells_get rfl j v hv
      have hblock : ∀ s : InC (TkC w bs zs (some ⟨gb, o, none⟩) n' c' (l.drop (64 * q))), Calls Try.prog 86 #[.agg (s1.list.map U).toArray, .slice (some ⟨gb, o, none⟩) 64 c'] s.W fun e w' => e = .returned (.agg ((s1.block bl).list.map U).toArray) ∧ Below s.W.heap.size s.W w' := fun s => by
        obtain ⟨gb', o', hA, hgb', _, hcl'⟩ := s.ok.rest.cells (by omega)
        cases hA
        have := refblock_any s1.list bl gb o 64 c' s.W rfl hbl64 rfl (by omega) hgb' (fun j hj => by
          rw [hcl' j (by omega), ← hbl]
          simp [List.getD_eq_getElem?_getD, List.getElem?_take_of_lt hj])
        rw [show S8.of s1.list = s1 from rfl] at this
        exact this
      have h64 : (64 : Int) ≤ (n' : Int) := by omega
      have Hblock := Lib.hid hblock
      have Hbl := Lib.hid hbl
      have Hs1 := Lib.hid hs1
      have Hcl := Lib.hid hcl
      have Hhq := Lib.hid hq
      clear hblock hbl hs1 hbl64 hcl hq
      go_wp2_with fail
      refine wp_region_class_tail (TkC w bs zs (some ⟨gb, o, none⟩) n' c' (l.drop (64 * q))) 6 (by kernel_rfl) (by kernel_rfl) ⟨hC.st.drew, hC.z.drew, hC.bel.drew, hC.rest.drew⟩ fun _ => ?_
      simp only [List.take_succ_cons, List.take_zero, List.drop_succ_cons, List.drop_zero]
      repeat (first | ((with_reducible refine wpQuiet_load rfl 115 (.tmp 14) rfl w.heap.size 0 rfl _ l1 ?_); simp only [Act.put, List.setIfInBounds_toArray, List.set_cons_succ, List.set_cons_zero]) | go_big_quiet_step ((go_at_call 86; refine (Hblock.out _).mono ?_; rintro e w' ⟨rfl, hbe⟩; refine ⟨rfl, ⟨_, TkC.step (InC.ok _) hbe⟩, rfl⟩)))
      refine wpQuiet_nil ?_
      intro W3 hC3
      have hsz : (undCells s1.list u.len (.slice A0 n0 c0)).length = 10 := undCells_len _ _ rfl
      have hst : (bs.toList.take 0 ++ ((s1.block bl).list.map U).toArray.toList ++ bs.toList.drop (0 + 8)).toArray = (undCells (s1.block bl).list u.len (.slice A0 n0 c0)).toArray := by
        rw [Hbs.out, Hs1.out, undCells_st rfl]
      go_wp2_with (refine wpList_store_agg rfl 115 (.tmp 19) (.tmp 18) rfl 8 size33 w.heap.size 0 ((s1.block bl).list.map U).toArray rfl rfl rfl (oneCell_U _) 117 _ hC3.st (by rw [Hbs.out, List.size_toArray, Hs1.out, hsz]; omega) ?_; rw [hst]; simp only [Act.put]; refine wpList_world (fun W => TkC w (undCells (s1.block bl).list u.len (.slice A0 n0 c0)).toArray zs (some ⟨gb, o, none⟩) n' c' (l.drop (64 * q)) W) (hC3.set_ _) ?_; clear hst hsz hC3; intro W4 hC4)
      go_roundw
      case rel =>
        refine ⟨q + 1, _, _, _, (undCells (s1.block bl).list u.len (.slice A0 n0 c0)).toArray, by have := Hn.out; have := Hhq.out; omega, ?_, rfl, ?_, ?_⟩
        · have := Hn.out; omega
        · rw [show u.st.blocks l (q + 1) = (u.st.blocks l q).block ((l.drop (64 * q)).take 64) from rfl, Hs1.out, Hbl.out]
        · have := hC4.cut hge
          rw [List.drop_drop] at this
          rw [show 64 * (q + 1) = 64 * q + 64 by omega]
          simpa [addr_add] using this
      case measure =>
        show n' - 64 < n'
        omega
    · have hlt : (64 : Int) ≤ (n' : Int) ↔ False := ⟨fun h => by omega, False.elim⟩
      have hq0 : l.length / 64 = q := by have := Hn.out; omega
      obtain ⟨s1, hs1⟩ : ∃ s1, u.st.blocks l q = s1 := ⟨_, rfl⟩
      rw [hs1] at Hbs
      have htk : u.take b = ⟨s1, u.len + n, l.drop (64 * q)⟩ := by
        have hn := Hll.out
        unfold Und.take
        rw [Hl.out, hq0, hs1]
        rw [Hbn.out]
      have e1 : (u.len : Int) + (n : Int) = ((u.len + n : Nat) : Int) := by omega
      have c8 : wr.cell? ⟨w.heap.size, 8, none⟩ = some (.int .i64 (u.len : Int)) := by rw [hC.st.cell, Hbs.out, List.getElem?_toArray]; exact undCells_8 rfl
      have c9 : wr.cell? ⟨w.heap.size, 9, none⟩ = some (.slice A0 n0 c0) := by rw [hC.st.cell, Hbs.out, List.getElem?_toArray]; exact undCells_9 rfl
      have f8 := hC.st.frozen 8
      have f9 := hC.st.frozen 9
      have Htk := Lib.hid htk
      have He1 := Lib.hid e1
      have Hs1 := Lib.hid hs1
      clear htk e1 hs1 hge hq0
      go_upto_region 7 with (fail)
      rw [He1.out]
      refine wp_world (fun W => Blk W w.heap.size 117 (undCells s1.list (u.len + n) (.slice A' n' c')).toArray ∧ Blk W (w.heap.size + 1) 117 zs ∧ Below w.heap.size w W ∧ Sl W (fun b => w.heap.size + 1 < b) A' n' c' (l.drop (64 * q))) ⟨?_, ?_, ?_, ?_⟩ ?_
      · have := (hC.st.set_ 8 (.int .i64 ((u.len + n : Nat) : Int))).set_ 9 (.slice A' n' c')
        rw [Hbs.out, undCells_set8 rfl, undCells_set9 rfl] at this
        exact this
      · exact (hC.z.apart (by omega) _).apart (by omega) _
      · exact (hC.bel.setCell (Nat.le_refl _) _).setCell (Nat.le_refl _) _
      · exact (hC.rest.setCell _ (by simp)).setCell _ (by simp)
      clear c8 c9 f8 f9 hC Hbs
      rintro W5 ⟨k5, z5, B5, s5⟩
      obtain ⟨ds, hds⟩ : ∃ ds, (undCells s1.list (u.len + n) (.slice A' n' c')).toArray = ds := ⟨_, rfl⟩
      have hd : ds.size = 10 := by rw [← hds, List.size_toArray, undCells_len _ _ rfl]
      have hone : ∀ v ∈ ds.toList, v.oneCell' = true := by rw [← hds]; exact undCells_one
      rw [hds] at k5
      have Hds := Lib.hid hds
      have Hd := Lib.hid hd
      clear hds hd
      go_wp2_with (first
        | ((with_reducible show wpList _ _ _ (⟨some 30, .load _ _, _, _, _, _⟩ :: _) _ _); refine wpList_load rfl 117 (.tmp 2) rfl w.heap.size 0 rfl ds (run_load_blk (agg77 _) (size77 _) _ _ Hd.out k5) ?_; simp only [Act.put])
        | ((with_reducible show wpList _ _ _ (⟨none, .store _ _ _, _, _, _, _⟩ :: _) _ _); refine wpList_store_blk rfl 117 (.tmp 4) (.tmp 30) rfl 10 size77 (w.heap.size + 1) ds rfl rfl Hd.out hone 117 _ z5 Hz.out ?_; simp only [Act.put]))
      refine bodyPost_ret (results_cell_row rfl _ _ (w.heap.size + 1) 117 ds (0, 0) _ rfl (z5.setRow_ _) Try.underlying117 rfl (by rw [Hd.out]; exact info77)) rfl ⟨A', n', c', ?_, ?_, below_setRow B5 (by omega) _⟩
      · rw [Htk.out, ← Hds.out]
      · rw [Htk.out]
        exact ((s5.weak fun b _ hb => (by omega : b ≠ w.heap.size + 1)).setRow _ _).all
end Go.Proofs.Ytgcbdnoniikboaa
