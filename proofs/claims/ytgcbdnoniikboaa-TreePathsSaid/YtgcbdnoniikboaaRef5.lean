/- notaryref03: Under.End, Sum. -/
import Derived.Test.YtgcbdnoniikboaaRef4
import Derived.Test.YtgcbdnoniikboaaSums
import Derived.Test.YtgcbdnoniikboaaMix2
namespace Go.Proofs.Ytgcbdnoniikboaa
open Go.RowKit

theorem wpMix_store_blk {P : Program} {ops : Array Oper} {Q : Exit → Act → World → Prop} {S : World → Prop} {R : Act → World → Prop} {o : Oper} {l : List (Oper × Bool)} {a : Act} {w : World} (hgd : o.guard = none) (ty : TypeId) (x y : Operand) (ho : o.op = .store ty x y)
    (n : Nat) (hsz : ∀ w : World, (sizeOf ty).run P w = .ok n w) (g : Nat) (vs : Array Value) (hx : a.eval x = .pointer (some ⟨g, 0, none⟩)) (hy : a.eval y = .agg vs) (hv : vs.size = n) (h1 : ∀ v ∈ vs.toList, v.oneCell' = true)
    (t : TypeId) (cur : Array Value) (hg : Blk w g t cur) (hc : cur.size = n) (hS : S (w.setRow g vs)) (h : wpMix P ops S Q R l (a.put o.dst undef) (w.setRow g vs)) : wpMix P ops S Q R ((o, false) :: l) a w := by
  refine ⟨?_⟩
  unfold wpMix0
  rw [if_pos (by simp [Region.wanted, hgd])]
  unfold Oper.wp execOp
  simp only [ho, hx, hy, run_store_blk (P := P) (hsz w) g vs cur hv h1 hg hc, Sem.run_bind, Sem.run_pure, Result.andThen_ok, Oper.upon]
  exact ⟨hS, h.out⟩

/-- between two statements of End -/
structure EdC (w : World) (cs : Array Value) (h : List UInt8) (r : Value) (xs : List UInt8) (X : Nat → Prop) (A : Option Addr) (a c : Nat) (l : List UInt8) (W : World) : Prop where
  st : Blk W w.heap.size 117 cs
  z : Blk W (w.heap.size + 1) 34 (h.map B).toArray
  bel : Below w.heap.size w W
  own : W.ownsRow (w.heap.size + 2) 5 1 r xs.length (xs.map B)
  rest : Sl W X A a c l
  big : w.heap.size + 1 < W.heap.size

theorem EdC.step {w W W' : World} {cs : Array Value} {h : List UInt8} {r : Value} {xs : List UInt8} {X : Nat → Prop} {A : Option Addr} {a c : Nat} {l : List UInt8} (hE : EdC w cs h r xs X A a c l W) (hb : Below W.heap.size W W') : EdC w cs h r xs X A a c l W' :=
  ⟨hE.st.below hb hE.st.lt, hE.z.below hb hE.z.lt, hE.bel.trans (hb.mono hE.bel.size), owns_step hE.own hb, hE.rest.step hb, Nat.lt_of_lt_of_le hE.big hb.size⟩
theorem EdC.set_ {w W : World} {cs : Array Value} {h : List UInt8} {r : Value} {xs : List UInt8} {A : Option Addr} {a c : Nat} {l : List UInt8} (hE : EdC w cs h r xs (· < w.heap.size) A a c l W) (cs' : Array Value) : EdC w cs' h r xs (· < w.heap.size) A a c l (W.setRow w.heap.size cs') := by
  have hlt : ∀ k, r.ownBlock = some k → w.heap.size + 2 ≤ k := fun k hk => (hE.own.lt k hk).1
  refine ⟨hE.st.setRow_ cs', hE.z.setRow_apart (by omega) cs', below_setRow hE.bel (Nat.le_refl _) _, ?_, ⟨hE.rest.bs.keep (by simp) fun p _ hx => ?_, hE.rest.len, hE.rest.room, hE.rest.none, hE.rest.max⟩, by simpa using hE.big⟩
  · refine hE.own.kept (row := some w.heap.size) ⟨rfl, rfl, rfl, by simp, fun k _ hk => setRow_other W _ k _ (fun e => hk (by rw [e]))⟩ ?_
    cases hr : r.ownBlock with
    | none => exact .inl rfl
    | some k => exact .inr (fun e => by have := hlt k hr; cases e; omega)
  · have hx' : p.block < w.heap.size := hx
    exact World.cell?_of_block (setRow_other W _ _ cs' (by omega))
theorem EdC.grow {w W W' : World} {cs : Array Value} {h : List UInt8} {r v : Value} {xs ys : List UInt8} {A : Option Addr} {a c : Nat} {l : List UInt8} (hE : EdC w cs h r xs (· < w.heap.size) A a c l W)
    (ho : W'.ownsRow (w.heap.size + 2) 5 1 v ys.length (ys.map B)) (hg : W.grownBy W' r.ownBlock) : EdC w cs h v ys (· < w.heap.size) A a c l W' := by
  have hlt : ∀ k, r.ownBlock = some k → w.heap.size + 2 ≤ k := fun k hk => (hE.own.lt k hk).1
  have hb := hE.big
  refine ⟨hE.st.grown hg fun e => ?_, hE.z.grown hg fun e => ?_, hE.bel.grown hg (by omega) fun k hk => ?_, ho, hE.rest.grown hg fun b _ hx e => ?_, ?_⟩
  · have := hlt _ e.symm; omega
  · have := hlt _ e.symm; omega
  · have := hlt k hk; omega
  · have := hlt b e.symm; have : b < w.heap.size := hx; omega
  · have := hg.size; omega
theorem EdC.app {w W W' : World} {cs : Array Value} {h : List UInt8} {r v : Value} {xs ys : List UInt8} {A : Option Addr} {a c : Nat} {l : List UInt8} {o : Obj} (hE : EdC w cs h r xs (· < w.heap.size) A a c l W)
    (ho : W'.ownsRow (w.heap.size + 2) 5 1 v ys.length (ys.map B)) (hg : (W.alloc o).grownBy W' r.ownBlock) : EdC w cs h v ys (· < w.heap.size) A a c l W' := by
  have hlt : ∀ k, r.ownBlock = some k → w.heap.size + 2 ≤ k := fun k hk => (hE.own.lt k hk).1
  have hb := hE.big
  refine ⟨(hE.st.alloc o).grown hg fun e => ?_, (hE.z.alloc o).grown hg fun e => ?_, (hE.bel.alloc hE.bel.size o).grown hg (by simp; omega) fun k hk => ?_, ho, (hE.rest.alloc o).grown hg fun b _ hx e => ?_, ?_⟩
  · have := hlt _ e.symm; omega
  · have := hlt _ e.symm; omega
  · have := hlt k hk; omega
  · have := hlt b e.symm; have : b < w.heap.size := hx; omega
  · have := hg.size; simp at this; omega

set_option maxHeartbeats 1000000 in
set_option maxRecDepth 100000 in
theorem rend_any (u : Und) (A : Option Addr) (n c : Nat) (w : World) (h : Sl w (fun _ => True) A n c u.rest) (hok : u.ok) (hl : u.len ≤ 1152921504606846976) :
    Calls Try.prog 81 #[undV u (.slice A n c)] w fun e w' => e = .returned (.agg (u.sum.map B).toArray) ∧ Below w.heap.size w w' := by
  have hn64 : n < 64 := by have := h.len; unfold Und.ok at hok; omega
  have hnl : n = u.len % 64 := by have := h.len; unfold Und.ok at hok; omega
  obtain ⟨cs, hcs⟩ : ∃ cs, (undCells u.st.list u.len (.slice A n c)).toArray = cs := ⟨_, rfl⟩
  have hc8 : cs[8]? = some (.int .i64 (u.len : Int)) := by rw [← hcs, List.getElem?_toArray]; exact undCells_8 rfl
  have hc9 : cs[9]? = some (.slice A n c) := by rw [← hcs, List.getElem?_toArray]; exact undCells_9 rfl
  obtain ⟨N, hN⟩ : ∃ N, u.len * 8 = N := ⟨_, rfl⟩
  have eN : (u.len : Int) * 8 = (N : Int) := by omega
  have hNl : N ≤ 9223372036854775808 := by omega
  unfold undV
  rw [hcs]
  have Hcs := Lib.hid hcs
  have Hc8 := Lib.hid hc8
  have Hc9 := Lib.hid hc9
  have HN := Lib.hid hN
  have HeN := Lib.hid eN
  have Hnl := Lib.hid hnl
  have Hok := Lib.hid hok
  clear hcs hc8 hc9 hN eN hnl hok
  go_enter Try.func81, Try.ntmps81
  go_upto_region 1 with (fail)
  refine wp_world (fun W => Blk W w.heap.size 117 cs ∧ Blk W (w.heap.size + 1) 34 ((List.replicate 32 0).map B).toArray ∧ Below w.heap.size w W ∧ Sl W (· < w.heap.size) A n c u.rest ∧ w.heap.size + 1 + 1 = W.heap.size) ⟨(Blk.new _ _ _).alloc _, Blk.new' _ _ _ _ (by simp), ((Below.refl _ _).alloc (Nat.le_refl _) _).alloc (by simp) _, ((h.weak fun b hb _ => hb).alloc _).alloc _, by simp⟩ ?_
  rintro W1 ⟨k1, z1, B1, s0, hW1⟩
  have c8 : W1.cell? ⟨w.heap.size, 8, none⟩ = some (.int .i64 (u.len : Int)) := by rw [k1.cell]; exact Hc8.out
  have Hw := Lib.hid hW1
  clear hW1 h
  go_upto_region 2 with (fail)
  rw [HeN.out]
  clear c8
  go_wp2_with fail
  obtain ⟨z, hz⟩ : ∃ z, (119 - n) % 64 = z := ⟨_, rfl⟩
  have hz64 : z < 64 := by omega
  have Hz := Lib.hid hz
  clear hz
  go_loopw [4] (fun i wr => ∃ (j : Nat) (A' : Option Addr) (c' : Nat), j ≤ z ∧ i = .slice A' (j + 1) c' ∧ EdC w cs (List.replicate 32 0) (.slice A' (j + 1) c') (128 :: List.replicate j 0) (· < w.heap.size) A n c u.rest wr) (fun i _ => 100 - sliceLen i)
  case atStart =>
    refine ⟨0, _, _, by omega, rfl, k1.alloc _, z1.alloc _, B1.alloc (by have := Hw.out; omega) _, ?_, s0.alloc _, by have := Hw.out; simp; omega⟩
    exact World.ownsRow_lit W1 #[.int .u8 128] 1 (by have := Hw.out; omega) (by decide) rfl
  case round =>
    obtain ⟨j, A', c', hj, rfl, hE⟩ := hrel
    have c9 : wr.cell? ⟨w.heap.size, 9, none⟩ = some (.slice A n c) := by rw [hE.st.cell]; exact Hc9.out
    by_cases hjz : j < z
    · have t1 : (((n : Int) + ((j : Int) + 1) + 8) % 64 != 0) = true := by
        have := Hz.out
        rw [bne_iff_ne]
        omega
      obtain ⟨v2, W2, hr2, ho2, hg2⟩ := append_sl (hE.own.alloc (.cells ([(0 : UInt8)].map B).toArray 5)) (sl_lit wr [0] 1 rfl (by decide)) (by simp; omega) (by have := hE.big; simp; omega)
      have hE2 := hE.app ho2 hg2
      obtain ⟨A2, c2, rfl, -⟩ := owns_sl ho2
      have hxl : (128 :: List.replicate j (0 : UInt8) ++ [0]).length = j + 1 + 1 := by simp
      have hxe : 128 :: List.replicate j (0 : UInt8) ++ [0] = 128 :: List.replicate (j + 1) 0 := by rw [List.replicate_succ']; rfl
      rw [hxl] at hE2 hr2
      rw [hxe] at hE2
      have Hr2 := Lib.hid hr2
      clear hr2 hxl hxe ho2 hg2
      go_wp2_with ((with_reducible show wpList _ _ _ (⟨some 22, .call _, _, _, _, _⟩ :: _) _ _); refine wpList_run rfl _ W2 (run_append_op (.tmp 20) (.tmp 21) 32 rfl _ _ rfl rfl Hr2.out) ?_; simp only [Act.put])
      go_roundw
      case rel => exact ⟨j + 1, A2, c2, by omega, rfl, hE2⟩
      case measure => simp only [sliceLen]; omega
    · have hjz' : j = z := by omega
      have t1 : (((n : Int) + ((j : Int) + 1) + 8) % 64 != 0) = false := by
        have := Hz.out
        rw [bne_eq_false_iff_eq]
        omega
      obtain ⟨p, hp⟩ : ∃ p, 128 :: List.replicate j (0 : UInt8) = p := ⟨_, rfl⟩
      rw [hp] at hE
      have hpl : p.length = j + 1 := by rw [← hp]; simp
      have hpad : p ++ num8 N = u.pad := by
        unfold Und.pad
        rw [← hE.rest.len] at Hz
        rw [Hz.out, HN.out, ← hp, hjz']
        rfl
      have Hp := Lib.hid hp
      have Hpl := Lib.hid hpl
      have Hpad := Lib.hid hpad
      have Hjz := Lib.hid hjz'
      clear hp hpl hpad hjz hjz' B1 z1 k1 s0
      go_wp2_with fail
      refine wp_region_mix_last (fun W => Blk W w.heap.size 117 cs) 6 [(0, true), (1, true), (2, true), (3, false), (4, false), (5, false)] (by kernel_rfl) (by kernel_rfl) hE.st.drew fun _ => ?_
      simp only [List.map_cons, List.map_nil, Array.getD_eq_getD_getElem?, List.getElem?_toArray, List.getElem?_cons_succ, List.getElem?_cons_zero, Option.getD_some]
      have hE1 : EdC w cs (List.replicate 32 0) (.slice A' (j + 1) c') p (· < w.heap.size) A n c u.rest wr.drew := ⟨hE.st.drew, hE.z.drew, hE.bel.drew, hE.own, hE.rest.drew, hE.big⟩
      generalize wr.drew = W0 at hE1 ⊢
      clear hE c9
      have hsz : cs.size = 10 := by rw [← Hcs.out, List.size_toArray, undCells_len _ _ rfl]
      have Hsz := Lib.hid hsz
      clear hsz
      refine wpMix_load (by kernel_rfl) 117 (.tmp 1) rfl w.heap.size 0 rfl cs (fun s => run_load_blk (agg77 _) (size77 _) _ _ Hsz.out s.ok) ?_
      simp only [Act.put]
      iterate 2 (refine wpMix_s (fun K hK => ?_); go_simp; refine hK _ ?_; clear hK K)
      refine wpMix_c (fun K hK => ?_) hE1.st
      go_simp
      refine (eight_any N _ (by omega)).mono ?_
      rintro e w1 ⟨v8, rfl, hF⟩
      refine hK _ _ ?_
      clear hK K
      have hE2 := hE1.step hF.2
      refine ⟨hE2.st, ?_⟩
      obtain ⟨A8, c8, rfl, hs8⟩ := hF.sl
      obtain ⟨v9, w2, hr9, ho9, hg9⟩ := append_sl hE2.own hs8 (by rw [Hpl.out, length_num8]; omega) (by have := hE2.big; omega)
      rw [Hpad.out] at ho9
      have hE3 := hE2.grow ho9 hg9
      obtain ⟨A9, c9, rfl, hs9⟩ := owns_sl ho9
      have Hr9 := Lib.hid hr9
      have Hs9 := Lib.hid hs9
      clear hr9 ho9 hg9 hs8 hF hE1 hE2 hs9
      refine wpMix_run (by kernel_rfl) _ w2 (run_append_op (.tmp 24) (.tmp 26) 32 rfl _ _ rfl rfl Hr9.out) hE3.st ?_
      simp only [Act.put]
      refine wpMix_c (fun K hK => ?_) hE3.st
      go_simp
      rw [show (Value.agg cs) = undV u (.slice A n c) by unfold undV; rw [Hcs.out]]
      refine (rtake_any u u.pad A n c A9 u.pad.length c9 w2 hE3.rest.all Hs9.out.all ?_ ?_).mono ?_
      · have : u.pad.length = z + 1 + 8 := by rw [← Hpad.out, List.length_append, Hpl.out, Hjz.out, length_num8]
        omega
      · have : u.pad.length = z + 1 + 8 := by rw [← Hpad.out, List.length_append, Hpl.out, Hjz.out, length_num8]
        omega
      rintro e w3 ⟨A5, n5, c5, rfl, hs5, hb5⟩
      refine hK _ _ ?_
      clear hK K
      have hE4 := hE3.step hb5
      refine ⟨hE4.st, ?_⟩
      obtain ⟨ds, hds⟩ : ∃ ds, (undCells (u.take u.pad).st.list (u.take u.pad).len (.slice A5 n5 c5)).toArray = ds := ⟨_, rfl⟩
      have hdl : ds.size = 10 := by rw [← hds, List.size_toArray, undCells_len _ _ rfl]
      have hd1 : ∀ v ∈ ds.toList, v.oneCell' = true := by rw [← hds]; exact undCells_one
      unfold undV
      rw [hds]
      have Hds := Lib.hid hds
      have Hdl := Lib.hid hdl
      have Hd1 := Lib.hid hd1
      clear hds hdl hd1
      refine wpMix_nil ?_
      intro _
      simp only [List.drop_succ_cons, List.drop_zero]
      refine wpList_store_blk rfl 117 (.tmp 1) (.tmp 28) rfl 10 size77 w.heap.size ds rfl rfl Hdl.out Hd1.out 117 _ hE4.st Hsz.out ?_
      simp only [Act.put]
      refine wpList_world (fun W => EdC w ds (List.replicate 32 0) (.slice A9 u.pad.length c9) u.pad (· < w.heap.size) A n c u.rest W) (hE4.set_ _) ?_
      clear hE4 hE3 hb5 hs5
      intro W6 hE6
      refine wpList_nil (np_normal ?_)
      go_upto_region 7 with (fail)
      refine wp_world (fun W => EdC w ds (List.replicate 32 0) (.slice A9 u.pad.length c9) u.pad (· < w.heap.size) A n c u.rest W ∧ Blk W W6.heap.size 34 ((List.replicate 32 0).map B).toArray) ⟨hE6.step ((Below.refl _ _).alloc (Nat.le_refl _) _), Blk.new _ _ _⟩ ?_
      have hbig := hE6.big
      clear hE6
      rintro W7 ⟨hE7, kh7⟩
      generalize W6.heap.size = g7 at *
      refine wp_region_mix (fun W => Blk W w.heap.size 117 ds) [(0, true), (1, true), (2, true), (3, false), (4, false)] (by kernel_rfl) (by kernel_rfl) hE7.st.drew fun _ => ?_
      simp only [List.map_cons, List.map_nil, Array.getD_eq_getD_getElem?, List.getElem?_toArray, List.getElem?_cons_succ, List.getElem?_cons_zero, Option.getD_some]
      have hE8 : EdC w ds (List.replicate 32 0) (.slice A9 u.pad.length c9) u.pad (· < w.heap.size) A n c u.rest W7.drew := ⟨hE7.st.drew, hE7.z.drew, hE7.bel.drew, hE7.own, hE7.rest.drew, hE7.big⟩
      have kh8 : Blk W7.drew g7 34 ((List.replicate 32 0).map B).toArray := kh7.drew
      generalize W7.drew = W8 at hE8 kh8 ⊢
      clear hE7 kh7
      obtain ⟨s2, hs2⟩ : ∃ s2, (u.take u.pad).st = s2 := ⟨_, rfl⟩
      rw [hs2] at Hds
      have hld : ∀ s : InC (fun W => Blk W w.heap.size 117 ds), (Instr.loadAt 115 (.pointer (some ⟨w.heap.size, 0, none⟩))).run Try.prog s.W = .ok (.agg (s2.list.map U).toArray) s.W := fun s => by
        refine run_load_agg (agg33 _) (size33 _) _ 0 (s2.list.map U) rfl fun j v hv => ?_
        rw [Nat.zero_add, s.ok.cell, ← Hds.out]
        exact undCells_get rfl j v hv
      have Hs2 := Lib.hid hs2
      clear hs2
      iterate 2 (refine wpMix_s (fun K hK => ?_); go_simp; refine hK _ ?_; clear hK K)
      refine wpMix_load (by kernel_rfl) 115 (.tmp 30) rfl w.heap.size 0 rfl _ hld ?_
      simp only [Act.put]
      refine wpMix_c (fun K hK => ?_) hE8.st
      go_simp
      refine (words_any _ _ rfl).mono ?_
      rintro e w9 ⟨v9, rfl, hF⟩
      refine hK _ _ ?_
      clear hK K
      have hE9 := hE8.step hF.2
      have kh9 := kh8.below hF.2 kh8.lt
      refine ⟨hE9.st, ?_⟩
      obtain ⟨Aw, cw, rfl, hsw⟩ := hF.sl
      have hwl : (s2.list.flatMap word4).length = 32 := rfl
      have hcp := run_copy_blk (P := Try.prog) 3 Try.underlying32 one5 g7 0 34 _ 32 32 _ Aw ((s2.list.flatMap word4).map B) 32 cw kh9 (by rw [List.length_map, hwl]) hsw.bs (by simp) (oneB _)
      rw [show Nat.min 32 32 = 32 from rfl, List.take_zero, List.nil_append, List.take_of_length_le (by rw [List.length_map, hwl]; omega), List.drop_eq_nil_of_le (by simp), List.append_nil] at hcp
      have kh10 := kh9.setRow_ (((s2.list.flatMap word4).map B).toArray)
      have st10 := hE9.st.setRow_apart (g' := g7) (by omega) (((s2.list.flatMap word4).map B).toArray)
      have z10 := hE9.z.setRow_apart (g' := g7) (by omega) (((s2.list.flatMap word4).map B).toArray)
      have B10 := below_setRow hE9.bel (g := g7) (by omega) (((s2.list.flatMap word4).map B).toArray)
      have Hcp := Lib.hid hcp
      have hfin : u.sum = s2.list.flatMap word4 := by rw [← Hs2.out]; rfl
      have Hfin := Lib.hid hfin
      clear hcp hfin hE9 kh9 hsw hF kh8 hE8 hld
      refine wpMix_run (by kernel_rfl) _ _ (run_copy_op (.tmp 29) (.tmp 32) 32 rfl _ _ rfl rfl Hcp.out) st10 ?_
      simp only [Act.put]
      refine wpMix_nil ?_
      intro _
      generalize w9.setRow g7 _ = w10 at kh10 st10 z10 B10 ⊢
      obtain ⟨hs, hhs⟩ : ∃ hs, s2.list.flatMap word4 = hs := ⟨_, rfl⟩
      rw [hhs] at hwl kh10 Hfin
      have hsz : ((hs.map B).toArray).size = 32 := by simp [hwl]
      have Hhs := Lib.hid hhs
      have Hhsz := Lib.hid hsz
      have Hwl := Lib.hid hwl
      clear hhs hwl hsz
      go_wp2_with (first
        | ((with_reducible show wpList _ _ _ (⟨some 34, .load _ _, _, _, _, _⟩ :: _) _ _); refine wpList_load rfl 34 (.tmp 5) rfl g7 0 rfl (hs.map B).toArray (run_load_blk (agg26 _) (size26 _) _ _ Hhsz.out kh10) ?_; simp only [Act.put])
        | ((with_reducible show wpList _ _ _ (⟨none, .store _ _ _, _, _, _, _⟩ :: _) _ _); refine wpList_store_blk rfl 34 (.tmp 2) (.tmp 34) rfl 32 size26 (w.heap.size + 1) (hs.map B).toArray rfl rfl Hhsz.out (oneCell_B _) 34 _ z10 (by rfl) ?_; simp only [Act.put]))
      refine bodyPost_ret (results_cell_row rfl _ _ (w.heap.size + 1) 34 (hs.map B).toArray (0, 0) _ rfl (z10.setRow_ _) Try.underlying34 rfl (by rw [Hhsz.out]; exact info26)) rfl ⟨by rw [Hfin.out], ?_⟩
      exact below_setRow B10 (by omega) _
end Go.Proofs.Ytgcbdnoniikboaa
