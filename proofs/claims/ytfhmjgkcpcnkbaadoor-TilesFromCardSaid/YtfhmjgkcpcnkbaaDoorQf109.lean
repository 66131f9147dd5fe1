/- notaryref03: First, New, Take. -/
import Derived.Test.YtfhmjgkcpcnkbaaDoorQf107
import Derived.Test.YtfhmjgkcpcnkbaaDoorQf108
import Derived.Test.YtfhmjgkcpcnkbaaDoorQf105
import Derived.Test.YtfhmjgkcpcnkbaaDoorQf106
namespace Go.Proofs.YtfhmjgkcpcnkbaaDoor
open Go.RowKit

/-- the document's sum under way, as a value: its ten cells -/
def undCells (st : List UInt32) (n : Nat) (r : Value) : List Value := st.map U ++ [.int .i64 (n : Int), r]
def undV (u : Und) (r : Value) : Value := .agg (undCells u.st.list u.len r).toArray

theorem size77 : ∀ w : World, (sizeOf 138).run Tryd.prog w = .ok 10 w := fun _ => by kernel_rfl
theorem agg77 : ∀ w : World, (isAgg 138).run Tryd.prog w = .ok true w := fun _ => by kernel_rfl
theorem info77 : (Tryd.prog.info? 138).map (·.size) = some 10 := by kernel_rfl
theorem info33 : (Tryd.prog.info? 136).map (·.size) = some 8 := by kernel_rfl

theorem undCells_len {st : List UInt32} (n : Nat) (r : Value) (h : st.length = 8) : (undCells st n r).length = 10 := by simp [undCells, h]
theorem undCells_one {st : List UInt32} {n : Nat} {A : Option Addr} {a b : Nat} : ∀ v ∈ (undCells st n (.slice A a b)).toArray.toList, v.oneCell' = true := by
  intro v hv
  simp only [undCells, List.mem_append, List.mem_map, List.mem_cons, List.not_mem_nil, or_false] at hv
  rcases hv with ⟨_, _, rfl⟩ | rfl | rfl <;> rfl
theorem undCells_8 {st : List UInt32} {n : Nat} {r : Value} (h : st.length = 8) : (undCells st n r)[8]? = some (.int .i64 (n : Int)) := by
  unfold undCells; rw [List.getElem?_append_right (by simp [h])]; simp [h]
theorem undCells_9 {st : List UInt32} {n : Nat} {r : Value} (h : st.length = 8) : (undCells st n r)[9]? = some r := by
  unfold undCells; rw [List.getElem?_append_right (by simp [h])]; simp [h]
theorem undCells_set8 {st : List UInt32} {n m : Nat} {r : Value} (h : st.length = 8) : (undCells st n r).toArray.setIfInBounds 8 (.int .i64 (m : Int)) = (undCells st m r).toArray := by
  simp only [List.setIfInBounds_toArray, undCells]
  rw [List.set_append_right _ _ (by simp [h])]; simp [h]
theorem undCells_set9 {st : List UInt32} {n : Nat} {r r' : Value} (h : st.length = 8) : (undCells st n r).toArray.setIfInBounds 9 r' = (undCells st n r').toArray := by
  simp only [List.setIfInBounds_toArray, undCells]
  rw [List.set_append_right _ _ (by simp [h])]; simp [h]
theorem undCells_st {st st' : List UInt32} {n : Nat} {r : Value} (h : st.length = 8) : ((undCells st n r).toArray.toList.take 0 ++ (st'.map U).toArray.toList ++ (undCells st n r).toArray.toList.drop (0 + 8)) = undCells st' n r := by
  simp only [undCells]
  rw [List.drop_append]
  simp [h]
theorem undCells_get {st : List UInt32} {n : Nat} {r : Value} (_h : st.length = 8) (j : Nat) (v : Value) (hv : (st.map U)[j]? = some v) : (undCells st n r).toArray[j]? = some v := by
  have hj : j < (st.map U).length := (List.getElem?_eq_some_iff.1 hv).1
  rw [List.getElem?_toArray, undCells, List.getElem?_append_left hj]
  exact hv

set_option maxHeartbeats 1000000 in
set_option maxRecDepth 100000 in
theorem rfirst_any (w : World) :
    Calls Tryd.prog 93 #[] w fun e w' => e = .returned (.agg (H256.map U).toArray) ∧ Below w.heap.size w w' := by
  go_enter Tryd.func93, Tryd.ntmps93
  go_wp2_with (first
    | (refine wpList_run0 (o := ⟨some 1, .build _ _, _, _, _, _⟩) rfl (.agg (H256.map U).toArray) (by kernel_rfl) ?_)
    | (refine wpList_store_blk rfl 136 (.tmp 0) (.tmp 1) rfl 8 size33 w.heap.size (H256.map U).toArray rfl (by kernel_rfl) (by rfl) (oneCell_U _) 136 _ (Blk.new _ _ _) (by rfl) ?_))
  refine bodyPost_ret (results_cell_row rfl _ _ w.heap.size 136 (H256.map U).toArray (0, 0) _ rfl ((Blk.new _ _ _).setRow_ _) Tryd.underlying136 rfl (by kernel_rfl)) rfl ⟨rfl, ?_⟩
  exact below_setRow ((Below.refl _ _).alloc (Nat.le_refl _) _) (Nat.le_refl _) _

set_option maxHeartbeats 1000000 in
set_option maxRecDepth 100000 in
theorem rnew_any (w : World) :
    Calls Tryd.prog 82 #[] w fun e w' => e = .returned (undV Und.new (.slice none 0 0)) ∧ Below w.heap.size w w' := by
  obtain ⟨cs, hcs⟩ : ∃ cs, (undCells Und.new.st.list Und.new.len (.slice none 0 0)).toArray = cs := ⟨_, rfl⟩
  obtain ⟨fs, hfs⟩ : ∃ fs, (H256.map U).toArray = fs := ⟨_, rfl⟩
  have hone : ∀ v ∈ cs.toList, v.oneCell' = true := by rw [← hcs]; exact undCells_one
  have hsz : cs.size = 10 := by rw [← hcs]; rfl
  have hb : ∀ w : World, (Instr.build 138 #[(0, .agg fs)]).run Tryd.prog w = .ok (.agg cs) w := fun _ => by rw [← hcs, ← hfs]; kernel_rfl
  have hf := fun w => rfirst_any w
  rw [hfs] at hf
  have Hfs := Lib.hid hfs
  have Hcs := Lib.hid hcs
  have Hone := Lib.hid hone
  have Hb := Lib.hid hb
  have Hf := Lib.hid hf
  clear hcs hfs hone hb hf
  unfold undV
  rw [Hcs.out]
  go_enter Tryd.func82, Tryd.ntmps82
  go_wp2_with (first
    | (go_at_call 93; refine (Hf.out _).mono ?_; rintro e w1 ⟨rfl, hb1⟩; have k1 := (Blk.new w _ _).below hb1 (by simp); have hB := ((Below.refl _ _).alloc (Nat.le_refl _) _).trans (hb1.mono (by simp)))
    | (refine wpList_run0 (o := ⟨some 2, .build _ _, _, _, _, _⟩) rfl (.agg cs) (by rw [← Hcs.out, ← Hfs.out]; kernel_rfl) ?_)
    | (refine wpList_store_blk rfl 138 (.tmp 0) (.tmp 2) rfl 10 size77 w.heap.size cs rfl rfl hsz Hone.out 138 _ k1 (by rfl) ?_))
  refine bodyPost_ret (results_cell_row rfl _ _ w.heap.size 138 cs (0, 0) _ rfl (k1.setRow_ _) Tryd.underlying138 rfl (by rw [hsz]; exact info77)) rfl ⟨rfl, ?_⟩
  exact below_setRow hB (Nat.le_refl _) _
end Go.Proofs.YtfhmjgkcpcnkbaaDoor
/- notaryref03: Under.Take. -/
namespace Go.Proofs.YtfhmjgkcpcnkbaaDoor
open Go.RowKit

/-- between two statements of Take -/
structure TkC (w : World) (cs zs : Array Value) (A : Option Addr) (n c : Nat) (l : List UInt8) (W : World) : Prop where
  st : Blk W w.heap.size 138 cs
  z : Blk W (w.heap.size + 1) 138 zs
  bel : Below w.heap.size w W
  rest : Sl W (fun b => w.heap.size + 1 < b) A n c l

theorem TkC.step {w W W' : World} {cs zs : Array Value} {A : Option Addr} {n c : Nat} {l : List UInt8} (h : TkC w cs zs A n c l W) (hb : Below W.heap.size W W') : TkC w cs zs A n c l W' :=
  ⟨h.st.below hb h.st.lt, h.z.below hb h.z.lt, h.bel.trans (hb.mono h.bel.size), h.rest.step hb⟩
theorem TkC.set_ {w W : World} {cs zs : Array Value} {A : Option Addr} {n c : Nat} {l : List UInt8} (h : TkC w cs zs A n c l W) (cs' : Array Value) : TkC w cs' zs A n c l (W.setRow w.heap.size cs') :=
  ⟨h.st.setRow_ cs', h.z.setRow_apart (by omega) cs', below_setRow h.bel (Nat.le_refl _) _, ((h.rest.weak fun b _ hb => (by omega : b ≠ w.heap.size)).setRow _ cs').bs.weak (fun b _ hb => hb) |> fun hb => ⟨fun hl => by
    obtain ⟨b, o, h1, h2, h3, h4⟩ := hb hl
    obtain ⟨b', o', g1, g2, g3, g4⟩ := h.rest.bs hl
    rw [h1] at g1
    cases g1
    exact ⟨b, o, h1, h2, g3, h4⟩, h.rest.len, h.rest.room, h.rest.none, h.rest.max⟩⟩
theorem TkC.cut {w W : World} {cs zs : Array Value} {A : Option Addr} {n c : Nat} {l : List UInt8} (h : TkC w cs zs A n c l W) (hn : 64 ≤ n) : TkC w cs zs (if c = 64 then A else A.map (·.add (64 * 1))) (n - 64) (c - 64) (l.drop 64) W :=
  ⟨h.st, h.z, h.bel, h.rest.drop 64 hn⟩

set_option maxHeartbeats 1000000 in
set_option maxRecDepth 100000 in
theorem rtakeF_any (u : Und) (b : List UInt8) (A0 : Option Addr) (n0 c0 : Nat) (A : Option Addr) (n c : Nat) (w : World) (h0 : Sl w (fun _ => True) A0 n0 c0 u.rest) (hb : Sl w (fun _ => True) A n c b) (hmax : n0 + n ≤ 1099511627776) (hlen : u.len + n < 9223372036854775808) :
    Calls Tryd.prog 83 #[undV u (.slice A0 n0 c0), .slice A n c] w fun e w' => ∃ A' n' c', e = .returned (undV (u.take b) (.slice A' n' c')) ∧ Sl w' (fun b => w.heap.size ≤ b) A' n' c' (u.take b).rest ∧ Below w.heap.size w w' := by
  have Hbn := Lib.hid hb.len
  obtain ⟨sl, hsl⟩ : ∃ sl, u.st.list = sl := ⟨_, rfl⟩
  have hsl8 : sl.length = 8 := by rw [← hsl]; rfl
  obtain ⟨cs, hcs⟩ : ∃ cs, (undCells sl u.len (.slice A0 n0 c0)).toArray = cs := ⟨_, rfl⟩
  have hc8 : cs[8]? = some (.int .i64 (u.len : Int)) := by rw [← hcs, List.getElem?_toArray]; exact undCells_8 hsl8
  have hc9 : cs[9]? = some (.slice A0 n0 c0) := by rw [← hcs, List.getElem?_toArray]; exact undCells_9 hsl8
  obtain ⟨zs, hzs⟩ : ∃ zs, (undCells (List.replicate 8 0) 0 (.slice none 0 0)).toArray = zs := ⟨_, rfl⟩
  have hz : zs.size = 10 := by rw [← hzs]; rfl
  unfold undV
  rw [hsl, hcs]
  have Hsl := Lib.hid hsl
  have Hsl8 := Lib.hid hsl8
  have Hcs := Lib.hid hcs
  have Hzs := Lib.hid hzs
  have Hz := Lib.hid hz
  have Hc8 := Lib.hid hc8
  have Hc9 := Lib.hid hc9
  clear hsl hsl8 hcs hzs hc8 hc9 hz
  go_enter Tryd.func83, Tryd.ntmps83
  go_upto_region 1 with (fail)
  refine wp_world (fun W => Blk W w.heap.size 138 cs ∧ Blk W (w.heap.size + 1) 138 zs ∧ Below w.heap.size w W ∧ Sl W (fun _ => True) A0 n0 c0 u.rest ∧ Sl W (fun _ => True) A n c b ∧ w.heap.size + 1 < W.heap.size) ⟨(Blk.new _ _ _).alloc _, by rw [← Hzs.out]; exact Blk.new' _ _ _ _ (by simp), ((Below.refl _ _).alloc (Nat.le_refl _) _).alloc (by simp) _, (h0.alloc _).alloc _, (hb.alloc _).alloc _, by simp⟩ ?_
  rintro W1 ⟨k1, z1, B1, s0, s1, hW1⟩
  obtain ⟨v1, w1, hr1, ho1, hg1⟩ := append_sl (base := W1.heap.size) (xs := []) (World.ownsRow_nil W1 _ _ _) s0 (by simp; omega) (Nat.le_refl _)
  rw [List.nil_append] at ho1
  have b1 : Below W1.heap.size W1 w1 := ⟨hg1.os, hg1.tape, hg1.output, hg1.size, fun k hk => hg1.block k hk (by simp [Value.ownBlock])⟩
  obtain ⟨v2, w2, hr2, ho2, hg2⟩ := append_sl ho1 (s1.step b1) (by have := s0.len; omega) b1.size
  have b2 : Below W1.heap.size W1 w2 := below_append b1 ho1 hg2 (Nat.le_refl _) b1.size
  obtain ⟨l, hl⟩ : ∃ l, u.rest ++ b = l := ⟨_, rfl⟩
  rw [hl] at ho2
  have hll : l.length = n0 + n := by rw [← hl, List.length_append, s0.len, s1.len]
  obtain ⟨A2, c2, rfl, hs2⟩ := owns_sl ho2
  have c9 : W1.cell? ⟨w.heap.size, 9, none⟩ = some (.slice A0 n0 c0) := by rw [k1.cell]; exact Hc9.out
  have hC : TkC w cs zs A2 l.length c2 l w2 := ⟨k1.below b2 k1.lt, z1.below b2 z1.lt, B1.trans (b2.mono B1.size), hs2.weak fun _ _ h => by omega⟩
  have Hr1 := Lib.hid hr1
  have Hr2 := Lib.hid hr2
  have Hl := Lib.hid hl
  have Hll := Lib.hid hll
  clear hr1 hr2 hl hll ho1 ho2 hg1 hg2 b1 b2 s0 s1 hs2 B1 z1 h0 hb
  go_wp2_with (first
    | ((with_reducible show wpList _ _ _ (⟨some 8, .call _, _, _, _, _⟩ :: _) _ _); refine wpList_run rfl v1 w1 (run_append_op (.const (.slice none 0 0)) (.tmp 7) 104 rfl _ _ rfl rfl Hr1.out) ?_; simp only [Act.put])
    | ((with_reducible show wpList _ _ _ (⟨some 10, .call _, _, _, _, _⟩ :: _) _ _); refine wpList_run rfl _ w2 (run_append_op (.tmp 8) (.tmp 9) 104 rfl _ _ rfl rfl Hr2.out) ?_; simp only [Act.put]))
  clear c9 k1 hW1
  go_loopw [5] (fun i wr => ∃ (q : Nat) (A' : Option Addr) (n' c' : Nat) (bs : Array Value), 64 * q ≤ l.length ∧ n' = l.length - 64 * q ∧ i = .slice A' n' c' ∧ bs = (undCells (u.st.blocks l q).list u.len (.slice A0 n0 c0)).toArray ∧ TkC w bs zs A' n' c' (l.drop (64 * q)) wr) (fun i _ => sliceLen i)
  case atStart => exact ⟨0, A2, l.length, c2, cs, by omega, by omega, rfl, by rw [← Hcs.out, ← Hsl.out]; rfl, hC⟩
  case round =>
    obtain ⟨q, A', n', c', bs, hq, hn', rfl, hbs, hC⟩ := hrel
    have Hn := Lib.hid hn'
    have Hbs := Lib.hid hbs
    clear hn' hbs
    have hroom := hC.rest.room
    have hcmax : c' ≤ 9223372036854775807 := by have := hC.rest.max; unfold maxLen at this; exact this
    by_cases hge : 64 ≤ n'
    · obtain ⟨bl, hbl⟩ : ∃ bl, (l.drop (64 * q)).take 64 = bl := ⟨_, rfl⟩
      obtain ⟨s1, hs1⟩ : ∃ s1, u.st.blocks l q = s1 := ⟨_, rfl⟩
      obtain ⟨gb, o, rfl, hgb, hgx, hcl⟩ := hC.rest.cells (by omega)
      have hbl64 : bl.length = 64 := by rw [← hbl, List.length_take, List.length_drop]; have := Hn.out; omega
      have sl1 := fun W => run_slice_high (P := Tryd.prog) sliceT23 size23 (some ⟨gb, o, none⟩) n' c' 64 (by omega) W
      have sl2 := fun W => run_slice_low (P := Tryd.prog) sliceT23 size23 (some ⟨gb, o, none⟩) n' c' 64 hge W
      have hne : gb ≠ w.heap.size := by omega
      have l1 : ∀ s : InC (TkC w bs zs (some ⟨gb, o, none⟩) n' c' (l.drop (64 * q))), (Instr.loadAt 136 (.pointer (some ⟨w.heap.size, 0, none⟩))).run Tryd.prog s.W = .ok (.agg (s1.list.map U).toArray) s.W := fun s => by
        refine run_load_agg (agg33 _) (size33 _) _ 0 (s1.list.map U) rfl fun j v hv => ?_
        rw [Nat.zero_add, s.ok.st.cell, Hbs.out, hs1]
        exact undCells_get rfl j v hv
      have hblock : ∀ s : InC (TkC w bs zs (some ⟨gb, o, none⟩) n' c' (l.drop (64 * q))), Calls Tryd.prog 94 #[.agg (s1.list.map U).toArray, .slice (some ⟨gb, o, none⟩) 64 c'] s.W fun e w' => e = .returned (.agg ((s1.block bl).list.map U).toArray) ∧ Below s.W.heap.size s.W w' := fun s => by
        obtain ⟨gb', o', hA, hgb', _, hcl'⟩ := s.ok.rest.cells (by omega)
        cases hA
        have := refblock_any s1.list bl gb o 64 c' s.W rfl hbl64 rfl (by omega) hgb' (fun j hj => by
          rw [hcl' j (by omega), ← hbl]
          simp [List.getD_eq_getElem?_getD, List.getElem?_take_of_lt hj])
        rw [show S8.of s1.list = s1 from rfl] at this
        exact this
      have h64 : (64 : Int) ≤ (n' : Int) := by omega
      have Hblock := Lib.hid hblock
      have Hbl := Lib.hid hbl
      have Hs1 := Lib.hid hs1
      have Hcl := Lib.hid hcl
      have Hhq := Lib.hid hq
      clear hblock hbl hs1 hbl64 hcl hq
      go_wp2_with fail
      refine wp_region_class_tail (TkC w bs zs (some ⟨gb, o, none⟩) n' c' (l.drop (64 * q))) 6 (by kernel_rfl) (by kernel_rfl) ⟨hC.st.drew, hC.z.drew, hC.bel.drew, hC.rest.drew⟩ fun _ => ?_
      simp only [List.take_succ_cons, List.take_zero, List.drop_succ_cons, List.drop_zero]
      repeat (first | ((with_reducible refine wpQuiet_load rfl 136 (.tmp 14) rfl w.heap.size 0 rfl _ l1 ?_); simp only [Act.put, List.setIfInBounds_toArray, List.set_cons_succ, List.set_cons_zero]) | go_big_quiet_step ((go_at_call 94; refine (Hblock.out _).mono ?_; rintro e w' ⟨rfl, hbe⟩; refine ⟨rfl, ⟨_, TkC.step (InC.ok _) hbe⟩, rfl⟩)))
      refine wpQuiet_nil ?_
      intro W3 hC3
      have hsz : (undCells s1.list u.len (.slice A0 n0 c0)).length = 10 := undCells_len _ _ rfl
      have hst : (bs.toList.take 0 ++ ((s1.block bl).list.map U).toArray.toList ++ bs.toList.drop (0 + 8)).toArray = (undCells (s1.block bl).list u.len (.slice A0 n0 c0)).toArray := by
        rw [Hbs.out, Hs1.out, undCells_st rfl]
      go_wp2_with (refine wpList_store_agg rfl 136 (.tmp 19) (.tmp 18) rfl 8 size33 w.heap.size 0 ((s1.block bl).list.map U).toArray rfl rfl rfl (oneCell_U _) 138 _ hC3.st (by rw [Hbs.out, List.size_toArray, Hs1.out, hsz]; omega) ?_; rw [hst]; simp only [Act.put]; refine wpList_world (fun W => TkC w (undCells (s1.block bl).list u.len (.slice A0 n0 c0)).toArray zs (some ⟨gb, o, none⟩) n' c' (l.drop (64 * q)) W) (hC3.set_ _) ?_; clear hst hsz hC3; intro W4 hC4)
      go_roundw
      case rel =>
        refine ⟨q + 1, _, _, _, (undCells (s1.block bl).list u.len (.slice A0 n0 c0)).toArray, by have := Hn.out; have := Hhq.out; omega, ?_, rfl, ?_, ?_⟩
        · have := Hn.out; omega
        · rw [show u.st.blocks l (q + 1) = (u.st.blocks l q).block ((l.drop (64 * q)).take 64) from rfl, Hs1.out, Hbl.out]
        · have := hC4.cut hge
          rw [List.drop_drop] at this
          rw [show 64 * (q + 1) = 64 * q + 64 by omega]
          simpa [addr_add] using this
      case measure =>
        show n' - 64 < n'
        omega
    · have hlt : (64 : Int) ≤ (n' : Int) ↔ False := ⟨fun h => by omega, False.elim⟩
      have hq0 : l.length / 64 = q := by have := Hn.out; omega
      obtain ⟨s1, hs1⟩ : ∃ s1, u.st.blocks l q = s1 := ⟨_, rfl⟩
      rw [hs1] at Hbs
      have htk : u.take b = ⟨s1, u.len + n, l.drop (64 * q)⟩ := by
        have hn := Hll.out
        unfold Und.take
        rw [Hl.out, hq0, hs1]
        rw [Hbn.out]
      have e1 : (u.len : Int) + (n : Int) = ((u.len + n : Nat) : Int) := by omega
      have c8 : wr.cell? ⟨w.heap.size, 8, none⟩ = some (.int .i64 (u.len : Int)) := by rw [hC.st.cell, Hbs.out, List.getElem?_toArray]; exact undCells_8 rfl
      have c9 : wr.cell? ⟨w.heap.size, 9, none⟩ = some (.slice A0 n0 c0) := by rw [hC.st.cell, Hbs.out, List.getElem?_toArray]; exact undCells_9 rfl
      have f8 := hC.st.frozen 8
      have f9 := hC.st.frozen 9
      have Htk := Lib.hid htk
      have He1 := Lib.hid e1
      have Hs1 := Lib.hid hs1
      clear htk e1 hs1 hge hq0
      go_upto_region 7 with (fail)
      rw [He1.out]
      refine wp_world (fun W => Blk W w.heap.size 138 (undCells s1.list (u.len + n) (.slice A' n' c')).toArray ∧ Blk W (w.heap.size + 1) 138 zs ∧ Below w.heap.size w W ∧ Sl W (fun b => w.heap.size + 1 < b) A' n' c' (l.drop (64 * q))) ⟨?_, ?_, ?_, ?_⟩ ?_
      · have := (hC.st.set_ 8 (.int .i64 ((u.len + n : Nat) : Int))).set_ 9 (.slice A' n' c')
        rw [Hbs.out, undCells_set8 rfl, undCells_set9 rfl] at this
        exact this
      · exact (hC.z.apart (by omega) _).apart (by omega) _
      · exact (hC.bel.setCell (Nat.le_refl _) _).setCell (Nat.le_refl _) _
      · exact (hC.rest.setCell _ (by simp)).setCell _ (by simp)
      clear c8 c9 f8 f9 hC Hbs
      rintro W5 ⟨k5, z5, B5, s5⟩
      obtain ⟨ds, hds⟩ : ∃ ds, (undCells s1.list (u.len + n) (.slice A' n' c')).toArray = ds := ⟨_, rfl⟩
      have hd : ds.size = 10 := by rw [← hds, List.size_toArray, undCells_len _ _ rfl]
      have hone : ∀ v ∈ ds.toList, v.oneCell' = true := by rw [← hds]; exact undCells_one
      rw [hds] at k5
      have Hds := Lib.hid hds
      have Hd := Lib.hid hd
      clear hds hd
      go_wp2_with (first
        | ((with_reducible show wpList _ _ _ (⟨some 30, .load _ _, _, _, _, _⟩ :: _) _ _); refine wpList_load rfl 138 (.tmp 2) rfl w.heap.size 0 rfl ds (run_load_blk (agg77 _) (size77 _) _ _ Hd.out k5) ?_; simp only [Act.put])
        | ((with_reducible show wpList _ _ _ (⟨none, .store _ _ _, _, _, _, _⟩ :: _) _ _); refine wpList_store_blk rfl 138 (.tmp 4) (.tmp 30) rfl 10 size77 (w.heap.size + 1) ds rfl rfl Hd.out hone 138 _ z5 Hz.out ?_; simp only [Act.put]))
      refine bodyPost_ret (results_cell_row rfl _ _ (w.heap.size + 1) 138 ds (0, 0) _ rfl (z5.setRow_ _) Tryd.underlying138 rfl (by rw [Hd.out]; exact info77)) rfl ⟨A', n', c', ?_, ?_, below_setRow B5 (by omega) _⟩
      · rw [Htk.out, ← Hds.out]
      · rw [Htk.out]
        exact (s5.weak (Y := fun b => w.heap.size + 1 < b) fun b _ hb => hb).grown (grown_setRow (World.grownBy.refl _ _) ds) (fun b _ hb => by simp; omega) |>.weak fun b _ hb => by omega
theorem rtake_any (u : Und) (b : List UInt8) (A0 : Option Addr) (n0 c0 : Nat) (A : Option Addr) (n c : Nat) (w : World) (h0 : Sl w (fun _ => True) A0 n0 c0 u.rest) (hb : Sl w (fun _ => True) A n c b) (hmax : n0 + n ≤ 1099511627776) (hlen : u.len + n < 9223372036854775808) :
    Calls Tryd.prog 83 #[undV u (.slice A0 n0 c0), .slice A n c] w fun e w' => ∃ A' n' c', e = .returned (undV (u.take b) (.slice A' n' c')) ∧ Sl w' (fun _ => True) A' n' c' (u.take b).rest ∧ Below w.heap.size w w' :=
  (rtakeF_any u b A0 n0 c0 A n c w h0 hb hmax hlen).mono fun _ _ ⟨A', n', c', h1, h2, h3⟩ => ⟨A', n', c', h1, h2.all, h3⟩
end Go.Proofs.YtfhmjgkcpcnkbaaDoor
/- notaryref03: Under.End, Sum. -/
namespace Go.Proofs.YtfhmjgkcpcnkbaaDoor
open Go.RowKit

theorem wpMix_store_blk {P : Program} {ops : Array Oper} {Q : Exit → Act → World → Prop} {S : World → Prop} {R : Act → World → Prop} {o : Oper} {l : List (Oper × Bool)} {a : Act} {w : World} (hgd : o.guard = none) (ty : TypeId) (x y : Operand) (ho : o.op = .store ty x y)
    (n : Nat) (hsz : ∀ w : World, (sizeOf ty).run P w = .ok n w) (g : Nat) (vs : Array Value) (hx : a.eval x = .pointer (some ⟨g, 0, none⟩)) (hy : a.eval y = .agg vs) (hv : vs.size = n) (h1 : ∀ v ∈ vs.toList, v.oneCell' = true)
    (t : TypeId) (cur : Array Value) (hg : Blk w g t cur) (hc : cur.size = n) (hS : S (w.setRow g vs)) (h : wpMix P ops S Q R l (a.put o.dst undef) (w.setRow g vs)) : wpMix P ops S Q R ((o, false) :: l) a w := by
  refine ⟨?_⟩
  unfold wpMix0
  rw [if_pos (by simp [Region.wanted, hgd])]
  unfold Oper.wp execOp
  simp only [ho, hx, hy, run_store_blk (P := P) (hsz w) g vs cur hv h1 hg hc, Sem.run_bind, Sem.run_pure, Result.andThen_ok, Oper.upon]
  exact ⟨hS, h.out⟩

/-- between two statements of End -/
structure EdC (w : World) (cs : Array Value) (h : List UInt8) (r : Value) (xs : List UInt8) (X : Nat → Prop) (A : Option Addr) (a c : Nat) (l : List UInt8) (W : World) : Prop where
  st : Blk W w.heap.size 138 cs
  z : Blk W (w.heap.size + 1) 48 (h.map B).toArray
  bel : Below w.heap.size w W
  own : W.ownsRow (w.heap.size + 2) 5 1 r xs.length (xs.map B)
  rest : Sl W X A a c l
  big : w.heap.size + 1 < W.heap.size

theorem EdC.step {w W W' : World} {cs : Array Value} {h : List UInt8} {r : Value} {xs : List UInt8} {X : Nat → Prop} {A : Option Addr} {a c : Nat} {l : List UInt8} (hE : EdC w cs h r xs X A a c l W) (hb : Below W.heap.size W W') : EdC w cs h r xs X A a c l W' :=
  ⟨hE.st.below hb hE.st.lt, hE.z.below hb hE.z.lt, hE.bel.trans (hb.mono hE.bel.size), owns_step hE.own hb, hE.rest.step hb, Nat.lt_of_lt_of_le hE.big hb.size⟩
theorem EdC.set_ {w W : World} {cs : Array Value} {h : List UInt8} {r : Value} {xs : List UInt8} {A : Option Addr} {a c : Nat} {l : List UInt8} (hE : EdC w cs h r xs (· < w.heap.size) A a c l W) (cs' : Array Value) : EdC w cs' h r xs (· < w.heap.size) A a c l (W.setRow w.heap.size cs') := by
  have hlt : ∀ k, r.ownBlock = some k → w.heap.size + 2 ≤ k := fun k hk => (hE.own.lt k hk).1
  refine ⟨hE.st.setRow_ cs', hE.z.setRow_apart (by omega) cs', below_setRow hE.bel (Nat.le_refl _) _, ?_, ⟨hE.rest.bs.keep (by simp) fun p _ hx => ?_, hE.rest.len, hE.rest.room, hE.rest.none, hE.rest.max⟩, by simpa using hE.big⟩
  · refine hE.own.kept (row := some w.heap.size) ⟨rfl, rfl, rfl, by simp, fun k _ hk => setRow_other W _ k _ (fun e => hk (by rw [e]))⟩ ?_
    cases hr : r.ownBlock with
    | none => exact .inl rfl
    | some k => exact .inr (fun e => by have := hlt k hr; cases e; omega)
  · have hx' : p.block < w.heap.size := hx
    exact World.cell?_of_block (setRow_other W _ _ cs' (by omega))
theorem EdC.grow {w W W' : World} {cs : Array Value} {h : List UInt8} {r v : Value} {xs ys : List UInt8} {A : Option Addr} {a c : Nat} {l : List UInt8} (hE : EdC w cs h r xs (· < w.heap.size) A a c l W)
    (ho : W'.ownsRow (w.heap.size + 2) 5 1 v ys.length (ys.map B)) (hg : W.grownBy W' r.ownBlock) : EdC w cs h v ys (· < w.heap.size) A a c l W' := by
  have hlt : ∀ k, r.ownBlock = some k → w.heap.size + 2 ≤ k := fun k hk => (hE.own.lt k hk).1
  have hb := hE.big
  refine ⟨hE.st.grown hg fun e => ?_, hE.z.grown hg fun e => ?_, hE.bel.grown hg (by omega) fun k hk => ?_, ho, hE.rest.grown hg fun b _ hx e => ?_, ?_⟩
  · have := hlt _ e.symm; omega
  · have := hlt _ e.symm; omega
  · have := hlt k hk; omega
  · have := hlt b e.symm; have : b < w.heap.size := hx; omega
  · have := hg.size; omega
theorem EdC.app {w W W' : World} {cs : Array Value} {h : List UInt8} {r v : Value} {xs ys : List UInt8} {A : Option Addr} {a c : Nat} {l : List UInt8} {o : Obj} (hE : EdC w cs h r xs (· < w.heap.size) A a c l W)
    (ho : W'.ownsRow (w.heap.size + 2) 5 1 v ys.length (ys.map B)) (hg : (W.alloc o).grownBy W' r.ownBlock) : EdC w cs h v ys (· < w.heap.size) A a c l W' := by
  have hlt : ∀ k, r.ownBlock = some k → w.heap.size + 2 ≤ k := fun k hk => (hE.own.lt k hk).1
  have hb := hE.big
  refine ⟨(hE.st.alloc o).grown hg fun e => ?_, (hE.z.alloc o).grown hg fun e => ?_, (hE.bel.alloc hE.bel.size o).grown hg (by simp; omega) fun k hk => ?_, ho, (hE.rest.alloc o).grown hg fun b _ hx e => ?_, ?_⟩
  · have := hlt _ e.symm; omega
  · have := hlt _ e.symm; omega
  · have := hlt k hk; omega
  · have := hlt b e.symm; have : b < w.heap.size := hx; omega
  · have := hg.size; simp at this; omega

set_option maxHeartbeats 1000000 in
set_option maxRecDepth 100000 in
theorem rend_any (u : Und) (A : Option Addr) (n c : Nat) (w : World) (h : Sl w (fun _ => True) A n c u.rest) (hok : u.ok) (hl : u.len ≤ 1152921504606846976) :
    Calls Tryd.prog 84 #[undV u (.slice A n c)] w fun e w' => e = .returned (.agg (u.sum.map B).toArray) ∧ Below w.heap.size w w' := by
  have hn64 : n < 64 := by have := h.len; unfold Und.ok at hok; omega
  have hnl : n = u.len % 64 := by have := h.len; unfold Und.ok at hok; omega
  obtain ⟨cs, hcs⟩ : ∃ cs, (undCells u.st.list u.len (.slice A n c)).toArray = cs := ⟨_, rfl⟩
  have hc8 : cs[8]? = some (.int .i64 (u.len : Int)) := by rw [← hcs, List.getElem?_toArray]; exact undCells_8 rfl
  have hc9 : cs[9]? = some (.slice A n c) := by rw [← hcs, List.getElem?_toArray]; exact undCells_9 rfl
  obtain ⟨N, hN⟩ : ∃ N, u.len * 8 = N := ⟨_, rfl⟩
  have eN : (u.len : Int) * 8 = (N : Int) := by omega
  have hNl : N ≤ 9223372036854775808 := by omega
  unfold undV
  rw [hcs]
  have Hcs := Lib.hid hcs
  have Hc8 := Lib.hid hc8
  have Hc9 := Lib.hid hc9
  have HN := Lib.hid hN
  have HeN := Lib.hid eN
  have Hnl := Lib.hid hnl
  have Hok := Lib.hid hok
  clear hcs hc8 hc9 hN eN hnl hok
  go_enter Tryd.func84, Tryd.ntmps84
  go_upto_region 1 with (fail)
  refine wp_world (fun W => Blk W w.heap.size 138 cs ∧ Blk W (w.heap.size + 1) 48 ((List.replicate 32 0).map B).toArray ∧ Below w.heap.size w W ∧ Sl W (· < w.heap.size) A n c u.rest ∧ w.heap.size + 1 + 1 = W.heap.size) ⟨(Blk.new _ _ _).alloc _, Blk.new' _ _ _ _ (by simp), ((Below.refl _ _).alloc (Nat.le_refl _) _).alloc (by simp) _, ((h.weak fun b hb _ => hb).alloc _).alloc _, by simp⟩ ?_
  rintro W1 ⟨k1, z1, B1, s0, hW1⟩
  have c8 : W1.cell? ⟨w.heap.size, 8, none⟩ = some (.int .i64 (u.len : Int)) := by rw [k1.cell]; exact Hc8.out
  have Hw := Lib.hid hW1
  clear hW1 h
  go_upto_region 2 with (fail)
  rw [HeN.out]
  clear c8
  go_wp2_with fail
  obtain ⟨z, hz⟩ : ∃ z, (119 - n) % 64 = z := ⟨_, rfl⟩
  have hz64 : z < 64 := by omega
  have Hz := Lib.hid hz
  clear hz
  go_loopw [4] (fun i wr => ∃ (j : Nat) (A' : Option Addr) (c' : Nat), j ≤ z ∧ i = .slice A' (j + 1) c' ∧ EdC w cs (List.replicate 32 0) (.slice A' (j + 1) c') (128 :: List.replicate j 0) (· < w.heap.size) A n c u.rest wr) (fun i _ => 100 - sliceLen i)
  case atStart =>
    refine ⟨0, _, _, by omega, rfl, k1.alloc _, z1.alloc _, B1.alloc (by have := Hw.out; omega) _, ?_, s0.alloc _, by have := Hw.out; simp; omega⟩
    exact World.ownsRow_lit W1 #[.int .u8 128] 1 (by have := Hw.out; omega) (by decide) rfl
  case round =>
    obtain ⟨j, A', c', hj, rfl, hE⟩ := hrel
    have c9 : wr.cell? ⟨w.heap.size, 9, none⟩ = some (.slice A n c) := by rw [hE.st.cell]; exact Hc9.out
    by_cases hjz : j < z
    · have t1 : (((n : Int) + ((j : Int) + 1) + 8) % 64 != 0) = true := by
        have := Hz.out
        rw [bne_iff_ne]
        omega
      obtain ⟨v2, W2, hr2, ho2, hg2⟩ := append_sl (hE.own.alloc (.cells ([(0 : UInt8)].map B).toArray 5)) (sl_lit wr [0] 1 rfl (by decide)) (by simp; omega) (by have := hE.big; simp; omega)
      have hE2 := hE.app ho2 hg2
      obtain ⟨A2, c2, rfl, -⟩ := owns_sl ho2
      have hxl : (128 :: List.replicate j (0 : UInt8) ++ [0]).length = j + 1 + 1 := by simp
      have hxe : 128 :: List.replicate j (0 : UInt8) ++ [0] = 128 :: List.replicate (j + 1) 0 := by rw [List.replicate_succ']; rfl
      rw [hxl] at hE2 hr2
      rw [hxe] at hE2
      have Hr2 := Lib.hid hr2
      clear hr2 hxl hxe ho2 hg2
      go_wp2_with ((with_reducible show wpList _ _ _ (⟨some 22, .call _, _, _, _, _⟩ :: _) _ _); refine wpList_run rfl _ W2 (run_append_op (.tmp 20) (.tmp 21) 104 rfl _ _ rfl rfl Hr2.out) ?_; simp only [Act.put])
      go_roundw
      case rel => exact ⟨j + 1, A2, c2, by omega, rfl, hE2⟩
      case measure => simp only [sliceLen]; omega
    · have hjz' : j = z := by omega
      have t1 : (((n : Int) + ((j : Int) + 1) + 8) % 64 != 0) = false := by
        have := Hz.out
        rw [bne_eq_false_iff_eq]
        omega
      obtain ⟨p, hp⟩ : ∃ p, 128 :: List.replicate j (0 : UInt8) = p := ⟨_, rfl⟩
      rw [hp] at hE
      have hpl : p.length = j + 1 := by rw [← hp]; simp
      have hpad : p ++ num8 N = u.pad := by
        unfold Und.pad
        rw [← hE.rest.len] at Hz
        rw [Hz.out, HN.out, ← hp, hjz']
        rfl
      have Hp := Lib.hid hp
      have Hpl := Lib.hid hpl
      have Hpad := Lib.hid hpad
      have Hjz := Lib.hid hjz'
      clear hp hpl hpad hjz hjz' B1 z1 k1 s0
      go_wp2_with fail
      refine wp_region_mix_last (fun W => Blk W w.heap.size 138 cs) 6 [(0, true), (1, true), (2, true), (3, false), (4, false), (5, false)] (by kernel_rfl) (by kernel_rfl) hE.st.drew fun _ => ?_
      simp only [List.map_cons, List.map_nil, Array.getD_eq_getD_getElem?, List.getElem?_toArray, List.getElem?_cons_succ, List.getElem?_cons_zero, Option.getD_some]
      have hE1 : EdC w cs (List.replicate 32 0) (.slice A' (j + 1) c') p (· < w.heap.size) A n c u.rest wr.drew := ⟨hE.st.drew, hE.z.drew, hE.bel.drew, hE.own, hE.rest.drew, hE.big⟩
      generalize wr.drew = W0 at hE1 ⊢
      clear hE c9
      have hsz : cs.size = 10 := by rw [← Hcs.out, List.size_toArray, undCells_len _ _ rfl]
      have Hsz := Lib.hid hsz
      clear hsz
      refine wpMix_load (by kernel_rfl) 138 (.tmp 1) rfl w.heap.size 0 rfl cs (fun s => run_load_blk (agg77 _) (size77 _) _ _ Hsz.out s.ok) ?_
      simp only [Act.put]
      iterate 2 (refine wpMix_s (fun K hK => ?_); go_simp; refine hK _ ?_; clear hK K)
      refine wpMix_c (fun K hK => ?_) hE1.st
      go_simp
      refine (eight_any N _ (by omega)).mono ?_
      rintro e w1 ⟨v8, rfl, hF⟩
      refine hK _ _ ?_
      clear hK K
      have hE2 := hE1.step hF.2
      refine ⟨hE2.st, ?_⟩
      obtain ⟨A8, c8, rfl, hs8⟩ := hF.sl
      obtain ⟨v9, w2, hr9, ho9, hg9⟩ := append_sl hE2.own hs8 (by rw [Hpl.out, length_num8]; omega) (by have := hE2.big; omega)
      rw [Hpad.out] at ho9
      have hE3 := hE2.grow ho9 hg9
      obtain ⟨A9, c9, rfl, hs9⟩ := owns_sl ho9
      have Hr9 := Lib.hid hr9
      have Hs9 := Lib.hid hs9
      clear hr9 ho9 hg9 hs8 hF hE1 hE2 hs9
      refine wpMix_run (by kernel_rfl) _ w2 (run_append_op (.tmp 24) (.tmp 26) 104 rfl _ _ rfl rfl Hr9.out) hE3.st ?_
      simp only [Act.put]
      refine wpMix_c (fun K hK => ?_) hE3.st
      go_simp
      rw [show (Value.agg cs) = undV u (.slice A n c) by unfold undV; rw [Hcs.out]]
      refine (rtake_any u u.pad A n c A9 u.pad.length c9 w2 hE3.rest.all Hs9.out.all ?_ ?_).mono ?_
      · have : u.pad.length = z + 1 + 8 := by rw [← Hpad.out, List.length_append, Hpl.out, Hjz.out, length_num8]
        omega
      · have : u.pad.length = z + 1 + 8 := by rw [← Hpad.out, List.length_append, Hpl.out, Hjz.out, length_num8]
        omega
      rintro e w3 ⟨A5, n5, c5, rfl, hs5, hb5⟩
      refine hK _ _ ?_
      clear hK K
      have hE4 := hE3.step hb5
      refine ⟨hE4.st, ?_⟩
      obtain ⟨ds, hds⟩ : ∃ ds, (undCells (u.take u.pad).st.list (u.take u.pad).len (.slice A5 n5 c5)).toArray = ds := ⟨_, rfl⟩
      have hdl : ds.size = 10 := by rw [← hds, List.size_toArray, undCells_len _ _ rfl]
      have hd1 : ∀ v ∈ ds.toList, v.oneCell' = true := by rw [← hds]; exact undCells_one
      unfold undV
      rw [hds]
      have Hds := Lib.hid hds
      have Hdl := Lib.hid hdl
      have Hd1 := Lib.hid hd1
      clear hds hdl hd1
      refine wpMix_nil ?_
      intro _
      simp only [List.drop_succ_cons, List.drop_zero]
      refine wpList_store_blk rfl 138 (.tmp 1) (.tmp 28) rfl 10 size77 w.heap.size ds rfl rfl Hdl.out Hd1.out 138 _ hE4.st Hsz.out ?_
      simp only [Act.put]
      refine wpList_world (fun W => EdC w ds (List.replicate 32 0) (.slice A9 u.pad.length c9) u.pad (· < w.heap.size) A n c u.rest W) (hE4.set_ _) ?_
      clear hE4 hE3 hb5 hs5
      intro W6 hE6
      refine wpList_nil (np_normal ?_)
      go_upto_region 7 with (fail)
      refine wp_world (fun W => EdC w ds (List.replicate 32 0) (.slice A9 u.pad.length c9) u.pad (· < w.heap.size) A n c u.rest W ∧ Blk W W6.heap.size 48 ((List.replicate 32 0).map B).toArray) ⟨hE6.step ((Below.refl _ _).alloc (Nat.le_refl _) _), Blk.new _ _ _⟩ ?_
      have hbig := hE6.big
      clear hE6
      rintro W7 ⟨hE7, kh7⟩
      generalize W6.heap.size = g7 at *
      refine wp_region_mix (fun W => Blk W w.heap.size 138 ds) [(0, true), (1, true), (2, true), (3, false), (4, false)] (by kernel_rfl) (by kernel_rfl) hE7.st.drew fun _ => ?_
      simp only [List.map_cons, List.map_nil, Array.getD_eq_getD_getElem?, List.getElem?_toArray, List.getElem?_cons_succ, List.getElem?_cons_zero, Option.getD_some]
      have hE8 : EdC w ds (List.replicate 32 0) (.slice A9 u.pad.length c9) u.pad (· < w.heap.size) A n c u.rest W7.drew := ⟨hE7.st.drew, hE7.z.drew, hE7.bel.drew, hE7.own, hE7.rest.drew, hE7.big⟩
      have kh8 : Blk W7.drew g7 48 ((List.replicate 32 0).map B).toArray := kh7.drew
      generalize W7.drew = W8 at hE8 kh8 ⊢
      clear hE7 kh7
      obtain ⟨s2, hs2⟩ : ∃ s2, (u.take u.pad).st = s2 := ⟨_, rfl⟩
      rw [hs2] at Hds
      have hld : ∀ s : InC (fun W => Blk W w.heap.size 138 ds), (Instr.loadAt 136 (.pointer (some ⟨w.heap.size, 0, none⟩))).run Tryd.prog s.W = .ok (.agg (s2.list.map U).toArray) s.W := fun s => by
        refine run_load_agg (agg33 _) (size33 _) _ 0 (s2.list.map U) rfl fun j v hv => ?_
        rw [Nat.zero_add, s.ok.cell, ← Hds.out]
        exact undCells_get rfl j v hv
      have Hs2 := Lib.hid hs2
      clear hs2
      iterate 2 (refine wpMix_s (fun K hK => ?_); go_simp; refine hK _ ?_; clear hK K)
      refine wpMix_load (by kernel_rfl) 136 (.tmp 30) rfl w.heap.size 0 rfl _ hld ?_
      simp only [Act.put]
      refine wpMix_c (fun K hK => ?_) hE8.st
      go_simp
      refine (words_any _ _ rfl).mono ?_
      rintro e w9 ⟨v9, rfl, hF⟩
      refine hK _ _ ?_
      clear hK K
      have hE9 := hE8.step hF.2
      have kh9 := kh8.below hF.2 kh8.lt
      refine ⟨hE9.st, ?_⟩
      obtain ⟨Aw, cw, rfl, hsw⟩ := hF.sl
      have hwl : (s2.list.flatMap word4).length = 32 := rfl
      have hcp := run_copy_blk (P := Tryd.prog) 3 Tryd.underlying104 one5 g7 0 48 _ 32 32 _ Aw ((s2.list.flatMap word4).map B) 32 cw kh9 (by rw [List.length_map, hwl]) hsw.bs (by simp) (oneB _)
      rw [show Nat.min 32 32 = 32 from rfl, List.take_zero, List.nil_append, List.take_of_length_le (by rw [List.length_map, hwl]; omega), List.drop_eq_nil_of_le (by simp), List.append_nil] at hcp
      have kh10 := kh9.setRow_ (((s2.list.flatMap word4).map B).toArray)
      have st10 := hE9.st.setRow_apart (g' := g7) (by omega) (((s2.list.flatMap word4).map B).toArray)
      have z10 := hE9.z.setRow_apart (g' := g7) (by omega) (((s2.list.flatMap word4).map B).toArray)
      have B10 := below_setRow hE9.bel (g := g7) (by omega) (((s2.list.flatMap word4).map B).toArray)
      have Hcp := Lib.hid hcp
      have hfin : u.sum = s2.list.flatMap word4 := by rw [← Hs2.out]; rfl
      have Hfin := Lib.hid hfin
      clear hcp hfin hE9 kh9 hsw hF kh8 hE8 hld
      refine wpMix_run (by kernel_rfl) _ _ (run_copy_op (.tmp 29) (.tmp 32) 104 rfl _ _ rfl rfl Hcp.out) st10 ?_
      simp only [Act.put]
      refine wpMix_nil ?_
      intro _
      generalize w9.setRow g7 _ = w10 at kh10 st10 z10 B10 ⊢
      obtain ⟨hs, hhs⟩ : ∃ hs, s2.list.flatMap word4 = hs := ⟨_, rfl⟩
      rw [hhs] at hwl kh10 Hfin
      have hsz : ((hs.map B).toArray).size = 32 := by simp [hwl]
      have Hhs := Lib.hid hhs
      have Hhsz := Lib.hid hsz
      have Hwl := Lib.hid hwl
      clear hhs hwl hsz
      go_wp2_with (first
        | ((with_reducible show wpList _ _ _ (⟨some 34, .load _ _, _, _, _, _⟩ :: _) _ _); refine wpList_load rfl 48 (.tmp 5) rfl g7 0 rfl (hs.map B).toArray (run_load_blk (agg26 _) (size26 _) _ _ Hhsz.out kh10) ?_; simp only [Act.put])
        | ((with_reducible show wpList _ _ _ (⟨none, .store _ _ _, _, _, _, _⟩ :: _) _ _); refine wpList_store_blk rfl 48 (.tmp 2) (.tmp 34) rfl 32 size26 (w.heap.size + 1) (hs.map B).toArray rfl rfl Hhsz.out (oneCell_B _) 48 _ z10 (by rfl) ?_; simp only [Act.put]))
      refine bodyPost_ret (results_cell_row rfl _ _ (w.heap.size + 1) 48 (hs.map B).toArray (0, 0) _ rfl (z10.setRow_ _) Tryd.underlying48 rfl (by rw [Hhsz.out]; exact info26)) rfl ⟨by rw [Hfin.out], ?_⟩
      exact below_setRow B10 (by omega) _
end Go.Proofs.YtfhmjgkcpcnkbaaDoor
