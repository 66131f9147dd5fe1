/- wire: Writer. -/
import Derived.Test.YtonidnfgneokbaaQd221
import Derived.Test.YtonidnfgneokbaaQd222
namespace Go.Proofs.Ytonidnfgneokbaa
open Go Go.RowKit Go.Shelf
attribute [local go_sem] Oper.semAt_some

set_option maxHeartbeats 4000000 in
set_option maxRecDepth 100000 in
theorem width_any (w : World) : Calls Try.prog 157 #[] w fun e w' => e = .returned (.int .i64 8) ∧ w' = w := by
  go_enter Try.func157, Try.ntmps157
  go_wp2_with fail
  go_loopw [1, 2] (fun v1 v2 wr => ∃ k : Nat, k ≤ 8 ∧ v1 = .int .i64 (k : Int) ∧ v2 = .int .u64 ((18446744073709551615 / 256 ^ k : Nat) : Int) ∧ wr = w) (fun v1 _ _ => 8 - (intOf v1).toNat)
  case atStart => exact ⟨0, by omega, rfl, rfl, rfl⟩
  case round =>
    obtain ⟨k, hk, rfl, rfl, rfl⟩ := hrel
    have hk9 : k = 0 ∨ k = 1 ∨ k = 2 ∨ k = 3 ∨ k = 4 ∨ k = 5 ∨ k = 6 ∨ k = 7 ∨ k = 8 := by omega
    rcases hk9 with rfl | rfl | rfl | rfl | rfl | rfl | rfl | rfl | rfl
    · simp only [Nat.reducePow, Nat.reduceDiv]
      go_wp2_with fail
      go_roundw
      case rel => exact ⟨1, by omega, rfl, rfl, by first | rfl | trivial⟩
      case measure => simp [intOf]
    · simp only [Nat.reducePow, Nat.reduceDiv]
      go_wp2_with fail
      go_roundw
      case rel => exact ⟨2, by omega, rfl, rfl, by first | rfl | trivial⟩
      case measure => simp [intOf]
    · simp only [Nat.reducePow, Nat.reduceDiv]
      go_wp2_with fail
      go_roundw
      case rel => exact ⟨3, by omega, rfl, rfl, by first | rfl | trivial⟩
      case measure => simp [intOf]
    · simp only [Nat.reducePow, Nat.reduceDiv]
      go_wp2_with fail
      go_roundw
      case rel => exact ⟨4, by omega, rfl, rfl, by first | rfl | trivial⟩
      case measure => simp [intOf]
    · simp only [Nat.reducePow, Nat.reduceDiv]
      go_wp2_with fail
      go_roundw
      case rel => exact ⟨5, by omega, rfl, rfl, by first | rfl | trivial⟩
      case measure => simp [intOf]
    · simp only [Nat.reducePow, Nat.reduceDiv]
      go_wp2_with fail
      go_roundw
      case rel => exact ⟨6, by omega, rfl, rfl, by first | rfl | trivial⟩
      case measure => simp [intOf]
    · simp only [Nat.reducePow, Nat.reduceDiv]
      go_wp2_with fail
      go_roundw
      case rel => exact ⟨7, by omega, rfl, rfl, by first | rfl | trivial⟩
      case measure => simp [intOf]
    · simp only [Nat.reducePow, Nat.reduceDiv]
      go_wp2_with fail
      go_roundw
      case rel => exact ⟨8, by omega, rfl, rfl, by first | rfl | trivial⟩
      case measure => simp [intOf]
    · simp only [Nat.reducePow, Nat.reduceDiv]
      go_wp2_with fail
      go_ret
      exact ⟨rfl, rfl⟩

/-- a row has grown: the row itself, and new memory -/
structure RwR (w w' : World) (v v' : Value) : Prop where
  own : v'.ownBlock = v.ownBlock ∨ ∃ k, v'.ownBlock = some k ∧ w.heap.size ≤ k
  gr : w.grownBy w' v.ownBlock
theorem RwR.refl (w : World) (v : Value) : RwR w w v v := ⟨.inl rfl, ⟨rfl, rfl, rfl, Nat.le_refl _, fun _ _ _ => rfl⟩⟩
theorem RwR.trans {w w1 w' : World} {v v1 v' : Value} (h : RwR w w1 v v1) (k : RwR w1 w' v1 v') : RwR w w' v v' := by
  refine ⟨?_, k.gr.os.trans h.gr.os, k.gr.tape.trans h.gr.tape, k.gr.output.trans h.gr.output, Nat.le_trans h.gr.size k.gr.size, fun i hi hne => ?_⟩
  · rcases k.own with e | ⟨r, e, hr⟩
    · rcases h.own with e2 | ⟨r, e2, hr⟩
      · exact .inl (e.trans e2)
      · exact .inr ⟨r, e.trans e2, hr⟩
    · exact .inr ⟨r, e, Nat.le_trans h.gr.size hr⟩
  · rw [k.gr.block i (Nat.lt_of_lt_of_le hi h.gr.size) (fun e => ?_), h.gr.block i hi hne]
    rcases h.own with e2 | ⟨r, e2, hr⟩
    · exact hne (by rw [← e2]; exact e)
    · rw [e2] at e
      have e : i = r := Option.some.inj e
      omega
theorem infoB1 : (Try.prog.info? 5).map (fun i => (i.zero, i.size, i.bytes)) = some (some (.int .u8 0), 1, 1) := by kernel_rfl
theorem oneBs (l : List UInt8) : ∀ u ∈ l.map B, u.oneCell' = true := fun u hu => by
  obtain ⟨x, _, rfl⟩ := List.mem_map.1 hu
  rfl
theorem append_slb {w : World} {base : Nat} {v : Value} {xs l : List UInt8} {X : Nat → Prop} {A : Option Addr} {n c : Nat} (hown : w.ownsRow base 5 1 v xs.length (xs.map B)) (h : Sl w X A n c l) (hb : xs.length + n ≤ 140737488355328) (hbase : base ≤ w.heap.size) :
    ∃ v' w', (Builtin.append_ #[23, 23] 23 #[v, .slice A n c]).run Try.prog w = .ok v' w' ∧ w'.ownsRow base 5 1 v' (xs ++ l).length ((xs ++ l).map B) ∧ RwR w w' v v' := by
  obtain ⟨v', w', hr, ho, hg, hf⟩ := append_slv (ty := 23) Try.underlying23 infoB1 (by simp [Value.cells]) (by decide) hown h.v (oneBs l) (by unfold maxLen; omega) (by omega) hbase
  exact ⟨v', w', hr, by rw [List.length_append, List.map_append, h.len]; exact ho, hf, hg⟩
theorem lit_byte {w : World} {base : Nat} {v : Value} {q : List UInt8} (h : w.ownsRow base 5 1 v q.length (q.map B)) (x : UInt8) (hq : q.length ≤ 70368744177664) (hb : base ≤ w.heap.size) :
    ∃ v' w', (Builtin.append_ #[23, 23] 23 #[v, .slice (some ⟨w.heap.size, 0, none⟩) 1 1]).run Try.prog (w.alloc (.cells #[B x] 5)) = .ok v' w' ∧ w'.ownsRow base 5 1 v' (q ++ [x]).length ((q ++ [x]).map B) ∧ RwR w w' v v' := by
  have hbA : Below w.heap.size w (w.alloc (.cells #[B x] 5)) := (Below.refl _ _).alloc (Nat.le_refl _) _
  have hs : Sl (w.alloc (.cells #[B x] 5)) (fun _ => True) (some ⟨w.heap.size, 0, none⟩) 1 1 [x] := Sl.of_blk (Blk.new w 5 #[B x]) [x] 1 rfl (by unfold maxLen; decide) fun j u hu => by rw [Nat.zero_add]; simpa using hu
  obtain ⟨v', w', hr, ho, hg⟩ := append_slb (owns_step h hbA) hs (by omega) (Nat.le_trans hb hbA.size)
  exact ⟨v', w', hr, ho, RwR.trans ⟨.inl rfl, grown_of_below hbA _⟩ hg⟩
theorem wrap_byte (x k : Nat) : IntKind.u8.wrap ((x : Int) / 2 ^ (8 * k)) = ((UInt8.ofNat (x / 256 ^ k)).toNat : Int) := by
  have h1 : (2 : Int) ^ (8 * k) = ((256 ^ k : Nat) : Int) := by rw [Int.pow_mul]; simp
  rw [h1, ← Int.natCast_ediv]
  obtain ⟨m, hm⟩ : ∃ m, x / 256 ^ k = m := ⟨_, rfl⟩
  rw [hm, UInt8.toNat_ofNat', IntKind.wrap_u8]
  omega
set_option maxHeartbeats 4000000 in
set_option maxRecDepth 100000 in
theorem form_any (v : Value) (q : List UInt8) (x base : Nat) (w : World) (h : w.ownsRow base 5 1 v q.length (q.map B)) (hb : base ≤ w.heap.size) (hq : q.length ≤ 1099511627776) :
    Calls Try.prog 160 #[v, .int .i64 8, .int .u64 (x : Int)] w fun e w' => ∃ v', e = .returned v' ∧ w'.ownsRow base 5 1 v' (q ++ beN 8 x).length ((q ++ beN 8 x).map B) ∧ RwR w w' v v' := by
  obtain ⟨res, hres⟩ : ∃ r, q ++ beN 8 x = r := ⟨_, rfl⟩
  rw [hres]
  have Hres := Lib.hid hres
  clear hres
  go_enter Try.func160, Try.ntmps160
  go_wp2_with fail
  go_loopw [0, 7] (fun v0 v7 wr => ∃ (j : Nat) (cur : List UInt8), j ≤ 8 ∧ v7 = .int .i64 ((j : Int) - 1) ∧ cur ++ beN j x = res ∧ cur.length + j ≤ 1099511627784 ∧ wr.ownsRow base 5 1 v0 cur.length (cur.map B) ∧ RwR w wr v v0) (fun _ v7 _ => (intOf v7 + 1).toNat)
  case atStart => exact ⟨8, q, Nat.le_refl _, rfl, Hres.out, by omega, h, RwR.refl _ _⟩
  case round =>
    clear h
    obtain ⟨j, cur, hj, rfl, hc, hcl, ho, hB⟩ := hrel
    rcases Nat.eq_zero_or_pos j with rfl | hjp
    · obtain rfl : cur = res := by rw [← hc]; simp [beN]
      go_wp2_with fail
      go_ret
      exact ⟨_, rfl, ho, hB⟩
    · obtain ⟨l, rfl⟩ : ∃ l, j = l + 1 := ⟨j - 1, by omega⟩
      have hll : ((l + 1 : Nat) : Int) - 1 = (l : Int) := by omega
      rw [hll]
      have hwl : IntKind.i64.wrap ((l : Int) - 1) = (l : Int) - 1 := IntWalk.i64_in _ (by omega)
      have hw8 : IntKind.i64.wrap (8 * (l : Int)) = ((8 * l : Nat) : Int) := by rw [IntWalk.i64_in _ (by omega)]; omega
      have hge : decide ((0 : Int) ≤ (l : Int)) = true := by simp
      have hwb := wrap_byte x l
      rw [beN] at hc
      obtain ⟨y, hy⟩ : ∃ y, UInt8.ofNat (x / 256 ^ l) = y := ⟨_, rfl⟩
      rw [hy] at hwb hc
      obtain ⟨v3, w3, hr3, ho3, hg3⟩ := lit_byte ho y (by omega) (Nat.le_trans hb hB.gr.size)
      have hb3 := hB.trans hg3
      have Hr3 := Lib.hid hr3
      have Hc := Lib.hid hc
      clear hr3 hc hy
      go_wp2_with (first
        | ((with_reducible show wpList _ _ _ (⟨some 20, .buildSlice _ _ _, _, _, _, _⟩ :: _) _ _); refine wpList_run rfl (.slice (some ⟨wr.heap.size, 0, none⟩) 1 1) (wr.alloc (.cells #[B y] 5)) (by kernel_rfl) ?_; simp only [Act.put])
        | ((with_reducible show wpList _ _ _ (⟨some 21, .call _, _, _, _, _⟩ :: _) _ _); refine wpList_run rfl v3 w3 (run_append_op (.tmp 14) (.tmp 20) 23 rfl _ _ rfl rfl Hr3.out) ?_; simp only [Act.put]))
      go_roundw
      case rel => exact ⟨l, cur ++ [y], by omega, rfl, by rw [List.append_assoc]; exact Hc.out, by rw [List.length_append, List.length_singleton]; omega, ho3, hb3⟩
      case measure => simp [intOf] <;> omega

/-- a writer and its bytes -/
structure WrV (W : World) (g b1 : Nat) (v : Value) (l : List UInt8) : Prop where
  blk : Blk W g 185 #[v]
  own : W.ownsRow b1 5 1 v l.length (l.map B)
  lt : g < b1
  le : b1 ≤ W.heap.size
section
variable {W W' W1 : World} {g b1 : Nat} {v v' v1 : Value} {l : List UInt8}
theorem WrV.step (h : WrV W g b1 v l) (hb : Below W.heap.size W W') : WrV W' g b1 v l := ⟨h.blk.step hb, owns_step h.own hb, h.lt, Nat.le_trans h.le hb.size⟩
theorem WrV.grown {row : Option Nat} (h : WrV W g b1 v l) (hg : W.grownBy W' row) (hr : ∀ r, row = some r → ∃ o, W.heap[r]? = some o ∧ o.isCells = false) : WrV W' g b1 v l :=
  ⟨h.blk.grown hg (fun e => by
      obtain ⟨o, ho, hc⟩ := hr g e.symm
      rw [show W.heap[g]? = _ from h.blk] at ho; cases ho; cases hc), h.own.kept hg (by
      rcases h.own.2 with ⟨rfl, _⟩ | ⟨g, cap, cur, rfl, _, hb, _⟩
      · exact .inl rfl
      · refine .inr fun e => ?_
        obtain ⟨o, ho, hc⟩ := hr g e.symm
        rw [show W.heap[g]? = _ from hb] at ho; cases ho; cases hc), h.lt, Nat.le_trans h.le hg.size⟩
/-- what a writer changes: itself, its row, and new memory -/
structure WrR (W W' : World) (g : Nat) (v v' : Value) : Prop where
  own : v'.ownBlock = v.ownBlock ∨ ∃ k, v'.ownBlock = some k ∧ W.heap.size ≤ k
  os : W'.os = W.os
  tape : W'.tape = W.tape
  output : W'.output = W.output
  size : W.heap.size ≤ W'.heap.size
  block : ∀ k, k < W.heap.size → k ≠ g → some k ≠ v.ownBlock → W'.heap[k]? = W.heap[k]?
theorem WrR.of (h1 : RwR W W1 v v') (h2 : W1.grownBy W' (some g)) : WrR W W' g v v' :=
  ⟨h1.own, h2.os.trans h1.gr.os, h2.tape.trans h1.gr.tape, h2.output.trans h1.gr.output, Nat.le_trans h1.gr.size h2.size, fun k hk h3 h4 => (h2.block k (Nat.lt_of_lt_of_le hk h1.gr.size) (fun e => h3 (Option.some.inj e))).trans (h1.gr.block k hk h4)⟩
theorem WrR.after (hb : Below W.heap.size W W1) (h : WrR W1 W' g v v') : WrR W W' g v v' :=
  ⟨by rcases h.own with e | ⟨k, e, hk⟩
      · exact .inl e
      · exact .inr ⟨k, e, Nat.le_trans hb.size hk⟩, h.os.trans hb.os, h.tape.trans hb.tape, h.output.trans hb.output, Nat.le_trans hb.size h.size, fun k hk h3 h4 => (h.block k (Nat.lt_of_lt_of_le hk hb.size) h3 h4).trans (hb.block k hk)⟩
theorem WrR.below (h : WrR W W' g v v') {N : Nat} (hg : N ≤ g) (hv : ∀ r, v.ownBlock = some r → N ≤ r) (hN : N ≤ W.heap.size) : Below N W W' :=
  ⟨h.os, h.tape, h.output, h.size, fun k hk => h.block k (Nat.lt_of_lt_of_le hk hN) (by omega) (fun e => by have := hv k e.symm; omega)⟩
theorem WrR.blk (h : WrR W W' g v v') {r : Nat} {t : TypeId} {cs : Array Value} (k : Blk W r t cs) (h1 : r ≠ g) (h2 : some r ≠ v.ownBlock) : Blk W' r t cs := by
  show W'.heap[r]? = _
  rw [h.block r k.lt h1 h2]
  exact k
/-- the bytes are written anew -/
theorem WrV.put {v0 : Value} (k : Blk W g 185 #[v0]) (ho : W.ownsRow b1 5 1 v l.length (l.map B)) (lt : g < b1) (le : b1 ≤ W.heap.size) : WrV (W.setRow g #[v]) g b1 v l :=
  have hgr : W.grownBy (W.setRow g #[v]) (some g) := grown_setRow (grown_of_below (Below.refl _ _) _) _
  ⟨k.setRow_ _, ho.kept hgr (by
      rcases ho.2 with ⟨rfl, _⟩ | ⟨g', cap, cur, rfl, hl, _⟩
      · exact .inl rfl
      · refine .inr fun e => ?_
        have e : g' = g := Option.some.inj e
        omega), lt, Nat.le_trans le hgr.size⟩
end

set_option maxHeartbeats 1000000 in
set_option maxRecDepth 100000 in
theorem wnew_any (w : World) : Calls Try.prog 113 #[] w fun e w' => e = .returned (.pointer (some ⟨w.heap.size, 0, none⟩)) ∧ WrV w' w.heap.size w'.heap.size (.slice none 0 0) [] ∧ Below w.heap.size w w' := by
  have k : Blk (w.alloc (.cells #[.slice none 0 0] 185)) w.heap.size 185 #[.slice none 0 0] := Blk.new _ _ _
  have hb : Below w.heap.size w (w.alloc (.cells #[.slice none 0 0] 185)) := (Below.refl _ _).alloc (Nat.le_refl _) _
  go_enter Try.func113, Try.ntmps113
  go_wp2_with fail
  go_ret
  exact ⟨rfl, ⟨k, World.ownsRow_nil _ _ _ _, k.lt, Nat.le_refl _⟩, hb⟩
set_option maxHeartbeats 4000000 in
set_option maxRecDepth 100000 in
theorem wput_any (g b1 : Nat) (v : Value) (l : List UInt8) (x : Nat) (w : World) (h : WrV w g b1 v l) (hl : l.length ≤ 1099511627776) :
    Calls Try.prog 146 #[.pointer (some ⟨g, 0, none⟩), .int .u64 (x : Int)] w fun e w' => e = .returned (.int .i64 0) ∧ ∃ v', WrV w' g b1 v' (l ++ beN 8 x) ∧ WrR w w' g v v' := by
  have hk := h.blk
  have ho := h.own
  have hlt := h.lt
  have hle := h.le
  obtain ⟨res, hres⟩ : ∃ r, l ++ beN 8 x = r := ⟨_, rfl⟩
  have hform := fun W (ho : W.ownsRow b1 5 1 v l.length (l.map B)) (hle : b1 ≤ W.heap.size) => form_any v l x b1 W ho hle hl
  rw [hres] at hform ⊢
  have Hform := Lib.hid hform
  have c11 : ∀ s : InC (fun W => Below b1 w W), s.W.cell? ⟨g, 0, none⟩ = some v := fun s => by rw [(hk.below s.ok hlt).cell]; rfl
  clear hform hres h
  go_enter Try.func146, Try.ntmps146
  go_wp2_with fail
  have hS : Below b1 w w.drew := (Below.refl _ _).drew
  have hou : w.drew.ownsRow b1 5 1 v l.length (l.map B) := owns_step ho ((Below.refl _ _).drew)
  have hlu : b1 ≤ w.drew.heap.size := hle
  have hSw : Below w.heap.size w w.drew := (Below.refl _ _).drew
  refine wp_region_mix_tail (fun W => Below b1 w W) 8 [(0, true), (1, true), (2, true), (3, true), (4, true), (6, true), (5, false), (7, false)] (by kernel_rfl) (by kernel_rfl) hS fun _ => ?_
  simp only [List.map_cons, List.map_nil, Array.getD_eq_getD_getElem?, List.getElem?_toArray, List.getElem?_cons_succ, List.getElem?_cons_zero, Option.getD_some]
  generalize w.drew = u2 at hS hou hlu hSw ⊢
  refine wpMix_s (fun K hK => ?_)
  go_simp
  refine hK _ ?_
  clear hK K
  refine wpMix_s (fun K hK => ?_)
  go_simp
  refine hK _ ?_
  clear hK K
  refine wpMix_s (fun K hK => ?_)
  go_simp
  refine hK _ ?_
  clear hK K
  refine wpMix_s (fun K hK => ?_)
  go_simp
  refine hK _ ?_
  clear hK K
  refine wpMix_s (fun K hK => ?_)
  go_simp
  refine hK _ ?_
  clear hK K
  refine wpMix_s (fun K hK => ?_)
  go_simp
  refine hK _ ?_
  clear hK K
  refine wpMix_c (fun K hK => ?_) hS
  go_simp
  refine (width_any u2).mono ?_
  rintro e u2e ⟨rfl, hww⟩
  obtain rfl := hww.symm
  refine hK _ _ ?_
  clear hK K
  refine ⟨hS, ?_⟩
  refine wpMix_c (fun K hK => ?_) hS
  go_simp
  refine (Hform.out u2 hou hlu).mono ?_
  rintro e W9 ⟨v9, rfl, ho9, hR9⟩
  refine hK _ _ ?_
  clear hK K
  obtain ⟨A9, c9, rfl, -⟩ := owns_slv ho9
  have hRw : RwR w W9 v (.slice A9 res.length c9) := RwR.trans ⟨.inl rfl, grown_of_below hSw _⟩ hR9
  replace hS : Below b1 w W9 := (Below.refl _ _).grown hRw.gr hle (fun r e => (ho.lt r e).1)
  refine ⟨hS, ?_⟩
  refine wpMix_nil ?_
  intro _
  simp only [List.drop_succ_cons, List.drop_zero]
  have hk9 := hk.below hS hlt
  go_wp2_with ((with_reducible show wpList _ _ _ [⟨none, .store _ _ _, _, _, _, _⟩] _ _); refine wpList_store_one rfl 23 (.tmp 16) (.tmp 14) rfl g rfl rfl 185 v hk9 (by kernel_rfl) ?_; show wpList _ _ _ _ _ (W9.setRow g #[Value.slice A9 res.length c9]); simp only [Act.put])
  refine np_normal ?_
  go_wp2_with fail
  go_ret
  exact ⟨rfl, _, WrV.put hk9 ho9 hlt (Nat.le_trans hle hS.size), WrR.of hRw (grown_setRow (grown_of_below (Below.refl _ _) _) _)⟩
set_option maxHeartbeats 4000000 in
set_option maxRecDepth 100000 in
theorem wsigned_any (g b1 : Nat) (v : Value) (l : List UInt8) (x : Nat) (w : World) (h : WrV w g b1 v l) (hl : l.length ≤ 1099511627776) (hx : x ≤ 9223372036854775807) :
    Calls Try.prog 114 #[.pointer (some ⟨g, 0, none⟩), .int .i64 (x : Int)] w fun e w' => e = .returned (.int .i64 0) ∧ ∃ v', WrV w' g b1 v' (l ++ beN 8 x) ∧ WrR w w' g v v' := by
  have hp := wput_any g b1 v l x w h hl
  have hw : IntKind.u64.wrap (x : Int) = (x : Int) := by rw [IntKind.wrap_u64]; omega
  have Hp := Lib.hid hp
  clear hp h
  go_enter Try.func114, Try.ntmps114
  go_wp2_with (go_at_call 146; refine Hp.out.mono ?_; rintro e w1 ⟨rfl, h1⟩)
  go_ret
  exact ⟨rfl, h1⟩
set_option maxHeartbeats 4000000 in
set_option maxRecDepth 100000 in
theorem wraw_any (g b1 : Nat) (v : Value) (l m : List UInt8) (A : Option Addr) (n c : Nat) (w : World) (h : WrV w g b1 v l) (hs : Sl w (fun _ => True) A n c m) (hl : l.length + n ≤ 1099511627776) :
    Calls Try.prog 147 #[.pointer (some ⟨g, 0, none⟩), .slice A n c] w fun e w' => e = .returned (.int .i64 0) ∧ ∃ v', WrV w' g b1 v' (l ++ m) ∧ WrR w w' g v v' := by
  have hk := h.blk
  have ho := h.own
  have hlt := h.lt
  have hle := h.le
  obtain ⟨v9, W9, hr9, ho9, hg9⟩ := append_slb ho hs (by omega) hle
  have hb9 : Below b1 w W9 := (Below.refl _ _).grown hg9.gr hle (fun r e => (ho.lt r e).1)
  have hk9 := hk.below hb9 hlt
  obtain ⟨A9, c9, rfl, -⟩ := owns_slv ho9
  obtain ⟨res, hres⟩ : ∃ r, l ++ m = r := ⟨_, rfl⟩
  rw [hres] at hr9 ho9 hg9 ⊢
  have Hr9 := Lib.hid hr9
  have c11 : w.cell? ⟨g, 0, none⟩ = some v := by rw [hk.cell]; rfl
  clear hr9 hs h hres
  go_enter Try.func147, Try.ntmps147
  go_wp2_with (first
    | ((with_reducible show wpList _ _ _ (⟨some 13, .call _, _, _, _, _⟩ :: _) _ _); refine wpList_run rfl _ W9 (run_append_op (.tmp 11) (.tmp 12) 23 rfl _ _ rfl rfl Hr9.out) ?_; simp only [Act.put])
    | ((with_reducible show wpList _ _ _ [⟨none, .store _ _ _, _, _, _, _⟩] _ _); refine wpList_store_one rfl 23 (.tmp 15) (.tmp 13) rfl g rfl rfl 185 v hk9 (by kernel_rfl) ?_; show wpList _ _ _ _ _ (W9.setRow g #[Value.slice A9 res.length c9]); simp only [Act.put]))
  go_ret
  exact ⟨rfl, _, WrV.put hk9 ho9 hlt (Nat.le_trans hle hb9.size), WrR.of hg9 (grown_setRow (grown_of_below (Below.refl _ _) _) _)⟩
set_option maxHeartbeats 4000000 in
set_option maxRecDepth 100000 in
theorem whash_any (g b1 : Nat) (v : Value) (l x : List UInt8) (w : World) (h : WrV w g b1 v l) (hx : x.length = 32) (hl : l.length ≤ 1000000000000) :
    Calls Try.prog 115 #[.pointer (some ⟨g, 0, none⟩), .agg (x.map B).toArray] w fun e w' => e = .returned (.int .i64 0) ∧ ∃ v', WrV w' g b1 v' (l ++ x) ∧ WrR w w' g v v' := by
  obtain ⟨w0, hw0⟩ : ∃ w0, w.alloc (.cells (x.map B).toArray 25) = w0 := ⟨_, rfl⟩
  have hb0 : Below w.heap.size w w0 := by rw [← hw0]; exact (Below.refl _ _).alloc (Nat.le_refl _) _
  have k3 : HV w0 w.heap.size x := ⟨by rw [← hw0]; exact Blk.new _ _ _, hx⟩
  have hp := wraw_any g b1 v l x _ 32 32 w0 (h.step hb0) (Sl.of_hv k3) (by omega)
  have Hp := Lib.hid hp
  have Hw0 := Lib.hid hw0
  clear hp h hw0
  go_enter Try.func115, Try.ntmps115
  go_wp2_with (first
    | rw [Hw0.out]
    | ((with_reducible show wpList _ _ _ (⟨some 6, .slice _ _ _ _ _, _, _, _, _⟩ :: _) _ _); refine wpList_run0 rfl _ (run_slice_allO (.tmp 3) rfl w.heap.size 0 rfl _) ?_; simp only [Act.put])
    | (go_at_call 147; refine Hp.out.mono ?_; rintro e w1 ⟨rfl, v1, h1, h2⟩))
  go_ret
  exact ⟨rfl, v1, h1, h2.after hb0⟩
set_option maxHeartbeats 1000000 in
set_option maxRecDepth 100000 in
theorem cloneb_any (l : List UInt8) (A : Option Addr) (n c : Nat) (w : World) (h : Sl w (fun _ => True) A n c l) (hn : n ≤ 1099511627776) :
    Calls Try.prog 142 #[.slice A n c] w fun e w' => ∃ v, e = .returned v ∧ Fresh w w' v l := by
  cases A with
  | none =>
    obtain ⟨rfl, rfl⟩ := h.none rfl
    obtain rfl : l = [] := List.eq_nil_of_length_eq_zero h.len
    clear h
    have hnil := fun w => run_eql_slice_nil (P := Try.prog) w 23 5 none 0 0 Try.underlying23
    go_enter Try.func142, Try.ntmps142
    go_wp2_with fail
    go_ret
    exact ⟨_, rfl, World.ownsRow_nil _ _ _ _, Below.refl _ _⟩
  | some a =>
    have hroom := h.room
    have hmx := h.max
    unfold maxLen at hmx
    have hb1 : Below w.heap.size w (w.alloc (.cells #[] 5)) := (Below.refl _ _).alloc (Nat.le_refl _) _
    have ho0 : (w.alloc (.cells #[] 5)).ownsRow w.heap.size 5 1 (.slice (some ⟨w.heap.size, 0, none⟩) 0 0) ([] : List UInt8).length (([] : List UInt8).map B) :=
      World.ownsRow_lit (base := w.heap.size) (e := 5) (size := 1) w #[] 0 (Nat.le_refl _) (by unfold maxLen; decide) (by simp)
    obtain ⟨v1, w1, hr1, ho1, hg1⟩ := append_sl ho0 (h.step hb1) (by simp; omega) hb1.size
    rw [List.nil_append] at ho1
    have hb2 := hb1.grown hg1 hb1.size (fun k hk => by cases hk; exact Nat.le_refl _)
    have Hr1 := Lib.hid hr1
    have hnil := fun w => run_eql_slice_nil (P := Try.prog) w 23 5 (some a) n c Try.underlying23
    clear hr1 ho0 hg1 hb1 h
    go_enter Try.func142, Try.ntmps142
    go_wp2_with ((with_reducible show wpList _ _ _ (⟨some 7, .call _, _, _, _, _⟩ :: _) _ _); refine wpList_run rfl v1 w1 (run_append_op (.tmp 5) (.tmp 6) 23 rfl _ _ rfl rfl Hr1.out) ?_; simp only [Act.put])
    go_ret
    exact ⟨_, rfl, ho1, hb2⟩
set_option maxHeartbeats 1000000 in
set_option maxRecDepth 100000 in
theorem wbytes_any (g b1 : Nat) (v : Value) (l : List UInt8) (w : World) (h : WrV w g b1 v l) (hl : l.length ≤ 1099511627776) :
    Calls Try.prog 116 #[.pointer (some ⟨g, 0, none⟩)] w fun e w' => ∃ v, e = .returned v ∧ Fresh w w' v l := by
  have hk := h.blk
  have ho := h.own
  obtain ⟨A9, c9, rfl, hs⟩ := owns_slv ho
  have hc := cloneb_any l A9 l.length c9 w ⟨(hs.weak fun _ _ _ => trivial).bs, rfl, hs.room, hs.nil, hs.max⟩ hl
  have c8 : w.cell? ⟨g, 0, none⟩ = some (.slice A9 l.length c9) := by rw [hk.cell]; rfl
  have Hc := Lib.hid hc
  clear hc ho hs h hk
  go_enter Try.func116, Try.ntmps116
  go_wp2_with (go_at_call 142; refine Hc.out.mono ?_; rintro e w1 ⟨v, rfl, h1⟩)
  go_ret
  exact ⟨_, rfl, h1⟩
end Go.Proofs.Ytonidnfgneokbaa
/- wire: Reader. -/
namespace Go.Proofs.Ytonidnfgneokbaa
open Go Go.RowKit Go.Shelf
attribute [local go_sem] Oper.semAt_some

theorem numN_take (l : List UInt8) (k : Nat) (h : k < l.length) : numN (l.take (k + 1)) = 256 * numN (l.take k) + (l.getD k 0).toNat := by
  rw [List.take_succ_eq_append_getElem h, numN_snoc, List.getD_eq_getElem?_getD, List.getElem?_eq_getElem h]
  rfl
theorem u64_or_byte (x c : Nat) (hx : 256 * x + c < 18446744073709551616) (hc : c < 256) : bits .or .u64 ((x : Int) * 256) (c : Int) = ((256 * x + c : Nat) : Int) := by
  have h0 : (x : Int) * 256 = ((2 ^ 8 * x : Nat) : Int) := by omega
  rw [h0]
  have h3 : 2 ^ 8 * x ||| c = 2 ^ 8 * x + c := (Nat.two_pow_add_eq_or_of_lt (by omega : c < 2 ^ 8) x).symm
  show IntKind.u64.wrap ((BitVec.ofInt 64 ((2 ^ 8 * x : Nat) : Int) ||| BitVec.ofInt 64 (c : Int)).toNat : Int) = _
  have e1 : (BitVec.ofInt 64 ((2 ^ 8 * x : Nat) : Int)).toNat = 2 ^ 8 * x := by rw [BitVec.toNat_ofInt]; omega
  have e2 : (BitVec.ofInt 64 (c : Int)).toNat = c := by rw [BitVec.toNat_ofInt]; omega
  rw [BitVec.toNat_or, e1, e2, h3, IntKind.wrap_u64]
  omega
set_option maxHeartbeats 4000000 in
set_option maxRecDepth 100000 in
theorem wnumber_any (l : List UInt8) (A : Option Addr) (n c : Nat) (w : World) (h : Sl w (fun _ => True) A n c l) (hn : n ≤ 8) :
    Calls Try.prog 159 #[.slice A n c] w fun e w' => e = .returned (.int .u64 (numN l : Int)) ∧ w' = w := by
  have hlen := h.len
  have hroom := h.room
  have hmx := h.max
  unfold maxLen at hmx
  obtain ⟨res, hres⟩ : ∃ r, numN l = r := ⟨_, rfl⟩
  rw [hres]
  have Hres := Lib.hid hres
  have Hlen := Lib.hid hlen
  clear hres hlen
  go_enter Try.func159, Try.ntmps159
  go_wp2_with fail
  go_loopw [3, 5, 8] (fun v3 _ v8 wr => ∃ k : Nat, k ≤ n ∧ v8 = .int .i64 (k : Int) ∧ v3 = .int .u64 (numN (l.take k) : Int) ∧ wr = w) (fun _ _ v8 _ => n - (intOf v8).toNat)
  case atStart => exact ⟨0, Nat.zero_le _, rfl, by rw [List.take_zero]; rfl, rfl⟩
  case round =>
    obtain ⟨k, hk, rfl, rfl, rfl⟩ := hrel
    by_cases hkn : k < n
    · have hd : decide ((k : Int) < (n : Int)) = true := by simp; omega
      have hwk : IntKind.i64.wrap ((k : Int) + 1) = (k : Int) + 1 := IntWalk.i64_in _ (by omega)
      obtain ⟨b, o, rfl, -, -, hat⟩ := h.cells (by omega)
      have hce := hat k hkn
      have hnt := numN_take l k (by rw [Hlen.out]; exact hkn)
      have hlt := numN_lt _ (l.take (k + 1)) rfl
      have h8 : 256 ^ (l.take (k + 1)).length ≤ 256 ^ 8 := Nat.pow_le_pow_right (by decide) (by rw [List.length_take, Hlen.out]; omega)
      have hlt : numN (l.take (k + 1)) < 256 ^ 8 := Nat.lt_of_lt_of_le hlt h8
      obtain ⟨m, hm⟩ : ∃ m, numN (l.take k) = m := ⟨_, rfl⟩
      obtain ⟨y, hy⟩ : ∃ y, l.getD k 0 = y := ⟨_, rfl⟩
      rw [hm, hy] at hnt
      rw [hy] at hce
      have hy2 := y.toNat_lt
      have hor := u64_or_byte m y.toNat (by omega) (by omega)
      rw [← hnt] at hor
      have hwy : IntKind.u64.wrap (y.toNat : Int) = (y.toNat : Int) := by rw [IntKind.wrap_u64]; omega
      have hm2 : m < 72057594037927936 := by omega
      obtain ⟨z, hz⟩ : ∃ z, numN (l.take (k + 1)) = z := ⟨_, rfl⟩
      rw [hz] at hor
      have Hz := Lib.hid hz
      rw [hm]
      clear hat hnt hlt h8 hy hm hz
      go_wp2_with fail
      go_roundw
      case rel => exact ⟨k + 1, by omega, by go_num, by rw [Hz.out], by first | rfl | trivial⟩
      case measure => simp [intOf] <;> omega
    · obtain rfl : k = n := by omega
      have hd : decide ((k : Int) < (k : Int)) = false := by simp
      rw [List.take_of_length_le (by rw [Hlen.out]; exact Nat.le_refl _), Hres.out]
      go_wp2_with fail
      go_ret
      exact ⟨rfl, rfl⟩

/-- a reader, its bytes, how many have been read -/
structure RdO (W : World) (X : Nat → Prop) (g : Nat) (l : List UInt8) (p : Nat) : Prop where
  ex : ∃ A n c, Blk W g 179 #[.slice A n c, .int .i64 (p : Int)] ∧ Sl W X A n c l
  off : ∀ b, X b → b ≠ g
  le : p ≤ l.length
theorem RdO.step {W W' : World} {X : Nat → Prop} {g p : Nat} {l : List UInt8} (h : RdO W X g l p) (hb : Below W.heap.size W W') : RdO W' X g l p := ⟨let ⟨A, n, c, h1, h2⟩ := h.ex; ⟨A, n, c, h1.step hb, h2.step hb⟩, h.off, h.le⟩
theorem RdO.lt {W : World} {X : Nat → Prop} {g p : Nat} {l : List UInt8} (h : RdO W X g l p) : g < W.heap.size := let ⟨_, _, _, h1, _⟩ := h.ex; h1.lt
theorem RdO.weak {W : World} {X Y : Nat → Prop} {g p : Nat} {l : List UInt8} (h : RdO W X g l p) (h1 : ∀ b, b < W.heap.size → X b → Y b) (h2 : ∀ b, Y b → b ≠ g) : RdO W Y g l p := ⟨let ⟨A, n, c, k1, k2⟩ := h.ex; ⟨A, n, c, k1, k2.weak h1⟩, h2, h.le⟩
theorem RdO.grown {W W' : World} {X : Nat → Prop} {g p r : Nat} {l : List UInt8} (h : RdO W X g l p) (hg : W.grownBy W' (some r)) (h1 : g ≠ r) (h2 : ∀ b, X b → b ≠ r) : RdO W' X g l p := ⟨let ⟨A, n, c, k1, k2⟩ := h.ex; ⟨A, n, c, k1.grown hg (fun e => h1 (Option.some.inj e)), k2.grown hg (fun b _ hb e => h2 b hb (Option.some.inj e))⟩, h.off, h.le⟩
theorem sliceB1 : Try.prog.underlying 23 = some (.slice (Try.prog.elem 23)) := by kernel_rfl
theorem sizeB1 : ∀ W : World, (sizeOf (Try.prog.elem 23)).run Try.prog W = .ok 1 W := fun _ => by kernel_rfl
theorem run_slice_op_bothB {ρ : Operand → Value} {o : Oper} (x y z : Operand) (ho : o.op = .slice 23 x (some y) (some z) none) (A : Option Addr) (n c a b : Nat) (hx : ρ x = .slice A n c) (hy : ρ y = .int .i64 (a : Int)) (hz : ρ z = .int .i64 (b : Int)) (hab : a ≤ b) (hb : b ≤ c) (W : World) :
    (execOp ρ o).run Try.prog W = .ok (.value (.slice (if c = a then A else A.map (·.add (a * 1))) (b - a) (c - a))) W := by
  unfold execOp
  simp only [ho, hx, hy, hz, Option.map_some, Option.map_none]
  simp only [run_sliceAt_slice W 23 _ _ _ _ sliceB1, run_slice_lh W 23 A n c sliceB1 .i64 .i64 (a : Int) (b : Int) (by omega) (by omega) (by omega), sizeB1, Sem.run_bind, Sem.run_pure, Result.andThen_ok, sliced, Int.toNat_natCast]

set_option maxHeartbeats 4000000 in
set_option maxRecDepth 100000 in
theorem rdleft_any (X : Nat → Prop) (g : Nat) (l : List UInt8) (p : Nat) (w : World) (h : RdO w X g l p) :
    Calls Try.prog 111 #[.pointer (some ⟨g, 0, none⟩)] w fun e w' => e = .returned (.int .i64 ((l.length - p : Nat) : Int)) ∧ Below w.heap.size w w' := by
  obtain ⟨A, n, c, hk, hs⟩ := h.ex
  have hle := h.le
  have hlen := hs.len
  have hmx := hs.max
  have hroom := hs.room
  unfold maxLen at hmx
  have hw : IntKind.i64.wrap ((n : Int) - (p : Int)) = ((l.length - p : Nat) : Int) := by rw [IntWalk.i64_in _ (by omega)]; omega
  have c8 : ∀ s : InC (fun W => Below w.heap.size w W), s.W.cell? ⟨g, 0, none⟩ = some (.slice A n c) := fun s => by rw [(hk.step s.ok).cell]; rfl
  have c13 : ∀ s : InC (fun W => Below w.heap.size w W), s.W.cell? ⟨g, 1, none⟩ = some (.int .i64 (p : Int)) := fun s => by rw [(hk.step s.ok).cell]; rfl
  obtain ⟨d, hd⟩ : ∃ d, l.length - p = d := ⟨_, rfl⟩
  rw [hd] at hw ⊢
  clear hd hs hk h hlen
  go_enter Try.func111, Try.ntmps111
  go_wp2_with fail
  have hS : Below w.heap.size w w.drew := (Below.refl _ _).drew
  refine wp_region_mix (fun W => Below w.heap.size w W) [(0, true), (1, true), (2, true), (3, true), (4, true), (5, true), (6, true), (7, true), (8, true), (9, true), (10, true)] (by kernel_rfl) (by kernel_rfl) hS fun _ => ?_
  simp only [List.map_cons, List.map_nil, Array.getD_eq_getD_getElem?, List.getElem?_toArray, List.getElem?_cons_succ, List.getElem?_cons_zero, Option.getD_some]
  generalize w.drew = u2 at hS ⊢
  refine wpMix_s (fun K hK => ?_)
  go_simp
  refine hK _ ?_
  clear hK K
  refine wpMix_s (fun K hK => ?_)
  go_simp
  refine hK _ ?_
  clear hK K
  refine wpMix_s (fun K hK => ?_)
  go_simp
  refine hK _ ?_
  clear hK K
  refine wpMix_s (fun K hK => ?_)
  go_simp
  refine hK _ ?_
  clear hK K
  refine wpMix_s (fun K hK => ?_)
  go_simp
  refine hK _ ?_
  clear hK K
  refine wpMix_s (fun K hK => ?_)
  go_simp
  refine hK _ ?_
  clear hK K
  refine wpMix_s (fun K hK => ?_)
  go_simp
  refine hK _ ?_
  clear hK K
  refine wpMix_s (fun K hK => ?_)
  go_simp
  refine hK _ ?_
  clear hK K
  refine wpMix_s (fun K hK => ?_)
  go_simp
  refine hK _ ?_
  clear hK K
  refine wpMix_s (fun K hK => ?_)
  go_simp
  refine hK _ ?_
  clear hK K
  refine wpMix_s (fun K hK => ?_)
  go_simp
  refine hK _ ?_
  clear hK K
  refine wpMix_nil ?_
  intro _
  go_wp2_with fail
  go_ret
  exact ⟨rfl, hS⟩
set_option maxHeartbeats 4000000 in
set_option maxRecDepth 100000 in
theorem rdnew_any (l : List UInt8) (A : Option Addr) (n c : Nat) (w : World) (h : Sl w (fun _ => True) A n c l) (hn : n ≤ 1099511627776) :
    Calls Try.prog 109 #[.slice A n c] w fun e w' => ∃ g, e = .returned (.pointer (some ⟨g, 0, none⟩)) ∧ w.heap.size ≤ g ∧ RdO w' (fun b => w.heap.size ≤ b ∧ b < g) g l 0 ∧ Below w.heap.size w w' := by
  have hc := cloneb_any l A n c w h hn
  have Hc := Lib.hid hc
  clear hc h
  go_enter Try.func109, Try.ntmps109
  go_wp2_with (go_at_call 142; refine Hc.out.mono ?_; rintro e w1 ⟨v, rfl, ho, hb⟩; obtain ⟨A1, c1, rfl, hs⟩ := owns_slv ho)
  go_ret
  refine ⟨w1.heap.size, rfl, hb.size, ⟨⟨A1, _, c1, Blk.new _ _ _, ?_⟩, fun b hb => Nat.ne_of_lt hb.2, Nat.zero_le _⟩, hb.trans ((Below.refl _ _).alloc hb.size _)⟩
  have hs2 := hs.weak (Y := fun b => w.heap.size ≤ b ∧ b < w1.heap.size) fun b hb hx => ⟨hx.1, hb⟩
  exact Sl.alloc ⟨hs2.bs, rfl, hs2.room, hs2.nil, hs2.max⟩ _
set_option maxHeartbeats 4000000 in
set_option maxRecDepth 100000 in
theorem take1_any (gx : Nat) (l : List UInt8) (A : Option Addr) (n c : Nat) (u : Int) (w : World) (h : Sl w (fun _ => True) A n c l) (hn : n ≤ 8) (hk : Blk w gx 163 #[.int .u64 u]) :
    Calls Try.prog 158 #[.slice A n c, .pointer (some ⟨gx, 0, none⟩)] w fun e w' => e = .returned (.int .i64 0) ∧ Blk w' gx 163 #[.int .u64 (numN l : Int)] ∧ w.grownBy w' (some gx) := by
  have hnum := wnumber_any l A n c w h hn
  obtain ⟨z, hz⟩ : ∃ z, numN l = z := ⟨_, rfl⟩
  rw [hz] at hnum ⊢
  have Hnum := Lib.hid hnum
  have c1 : w.cell? ⟨gx, 0, none⟩ = some (.int .u64 u) := by rw [hk.cell]; rfl
  have f1 := hk.frozen 0
  clear hnum hz h
  go_enter Try.func158, Try.ntmps158
  go_wp2_with (go_at_call 159; refine Hnum.out.mono ?_; rintro e w2 ⟨rfl, hww⟩; obtain rfl := hww.symm)
  go_ret
  exact ⟨rfl, hk.set_ 0 _, grownBy_setCell' _ _ _⟩

theorem run_toArray_opF {ρ : Operand → Value} {o : Oper} (x : Operand) (ho : o.op = .sliceToArrayPointer 25 x) (a : Addr) (n c : Nat) (hx : ρ x = .slice (some a) n c) (hn : 32 ≤ n) (W : World) : (execOp ρ o).run Try.prog W = .ok (.value (.pointer (some a))) W := by
  unfold execOp
  simp only [ho, hx, run_arrayAt (P := Try.prog) (w := W) 25 5 32 (some a) n c (by kernel_rfl) hn, Sem.run_bind, Sem.run_pure, Result.andThen_ok]
theorem Sl.hash {W : World} {X : Nat → Prop} {b o n c : Nat} {l : List UInt8} (h : Sl W X (some ⟨b, o, .none⟩) n c l) (hl : l.length = 32) : (Instr.loadAt 25 (.pointer (some ⟨b, o, .none⟩))).run Try.prog W = .ok (.agg (l.map B).toArray) W :=
  run_load_agg (agg26 _) (size26 _) b o (l.map B) (by simp [hl]) fun j u hu => by
    obtain ⟨b', o', e, -, -, hat⟩ := h.cells (by have := h.len; omega)
    cases e
    rcases Nat.lt_or_ge j l.length with hj | hj
    · rw [hat j (by have := h.len; omega)]
      rw [List.getElem?_map, List.getElem?_eq_getElem hj] at hu
      rw [List.getD_eq_getElem?_getD, List.getElem?_eq_getElem hj]
      exact hu
    · rw [List.getElem?_eq_none (by simpa using hj)] at hu
      cases hu
set_option maxHeartbeats 4000000 in
set_option maxRecDepth 100000 in
theorem hash1_any (gx : Nat) (l z : List UInt8) (A : Option Addr) (c : Nat) (w : World) (h : Sl w (fun _ => True) A 32 c l) (hk : HV w gx z) :
    Calls Try.prog 145 #[.slice A 32 c, .pointer (some ⟨gx, 0, none⟩)] w fun e w' => e = .returned (.int .i64 0) ∧ HV w' gx l ∧ w.grownBy w' (some gx) := by
  have hl := h.len
  obtain ⟨b, o, rfl, -, -, -⟩ := h.cells (by omega)
  have hld := h.hash hl
  have Hld := Lib.hid hld
  clear hld h
  go_enter Try.func145, Try.ntmps145
  go_wp2_with (first
    | ((with_reducible show wpList _ _ _ (⟨some 5, .sliceToArrayPointer _ _, _, _, _, _⟩ :: _) _ _); refine wpList_run0 rfl _ (run_toArray_opF (.tmp 4) rfl ⟨b, o, none⟩ 32 c rfl (Nat.le_refl _) _) ?_; simp only [Act.put])
    | ((with_reducible show wpList _ _ _ (⟨some 6, .load _ _, _, _, _, _⟩ :: _) _ _); refine wpList_run0 rfl (.agg (l.map B).toArray) (run_load_op 25 (.tmp 5) rfl b o rfl _ Hld.out) ?_; simp only [Act.put])
    | ((with_reducible show wpList _ _ _ [⟨none, .store _ (.tmp 1) _, _, _, _, _⟩] _ _); refine wpList_hset (.tmp 1) (.tmp 6) rfl rfl hk rfl rfl hl ?_; intro w2 k2 hb2 hW2; have hg2 : w.grownBy w2 (some gx) := (by rw [hW2]; exact grown_setRow (grown_of_below (Below.refl _ _) _) _); clear hW2; simp only [Act.put]))
  go_ret
  exact ⟨rfl, k2, hg2⟩

/-- two blocks are written, at most -/
structure K2 (w w' : World) (g gx : Nat) : Prop where
  os : w'.os = w.os
  tape : w'.tape = w.tape
  output : w'.output = w.output
  size : w.heap.size ≤ w'.heap.size
  block : ∀ k, k < w.heap.size → k ≠ g → k ≠ gx → w'.heap[k]? = w.heap[k]?
theorem K2.grown {w0 w w' : World} {g gx : Nat} (h : K2 w w' g gx) (hg : w0.grownBy w (some g)) (hx : w0.heap.size ≤ gx) : w0.grownBy w' (some g) :=
  ⟨h.os.trans hg.os, h.tape.trans hg.tape, h.output.trans hg.output, Nat.le_trans hg.size h.size, fun k hk hne => (h.block k (Nat.lt_of_lt_of_le hk hg.size) (fun e => hne (by rw [e])) (by omega)).trans (hg.block k hk hne)⟩
theorem K2.of {w w1 w' : World} {g gx : Nat} (h1 : w.grownBy w1 (some g)) (h2 : w1.grownBy w' (some gx)) : K2 w w' g gx :=
  ⟨h2.os.trans h1.os, h2.tape.trans h1.tape, h2.output.trans h1.output, Nat.le_trans h1.size h2.size, fun k hk h3 h4 => (h2.block k (Nat.lt_of_lt_of_le hk h1.size) (fun e => h4 (Option.some.inj e))).trans (h1.block k hk (fun e => h3 (Option.some.inj e)))⟩
theorem K2.g {w w' : World} {g gx : Nat} (h1 : w.grownBy w' (some g)) : K2 w w' g gx := ⟨h1.os, h1.tape, h1.output, h1.size, fun k hk h3 _ => h1.block k hk (fun e => h3 (Option.some.inj e))⟩

set_option maxHeartbeats 4000000 in
set_option maxRecDepth 100000 in
theorem nextT_any (X : Nat → Prop) (g gx : Nat) (l : List UInt8) (p : Nat) (u : Int) (w : World) (h : RdO w X g l p) (hk : Blk w gx 163 #[.int .u64 u]) (hgx : gx ≠ g) (hXx : ∀ b, X b → b ≠ gx) :
    Calls Try.prog 144 #[.pointer (some ⟨g, 0, none⟩), .int .i64 8, .func (.func 158) #[] #[.pointer (some ⟨gx, 0, none⟩)]] w fun e w' =>
      (p + 8 ≤ l.length ∧ e = .returned (.int .i64 0) ∧ RdO w' X g l (p + 8) ∧ Blk w' gx 163 #[.int .u64 (numN ((l.drop p).take 8) : Int)] ∨ ¬ p + 8 ≤ l.length ∧ e = .returned (.int .i64 110) ∧ RdO w' X g l p ∧ Blk w' gx 163 #[.int .u64 u]) ∧ K2 w w' g gx := by
  have hleft := rdleft_any X g l p w h
  obtain ⟨A, n, c, hkg, hs⟩ := h.ex
  have hle := h.le
  have hoff := h.off
  have hlen := hs.len
  have hmx := hs.max
  have hroom := hs.room
  unfold maxLen at hmx
  have Hleft := Lib.hid hleft
  obtain ⟨d, hd⟩ : ∃ d, l.length - p = d := ⟨_, rfl⟩
  rw [hd] at hleft
  have Hleft := Lib.hid hleft
  by_cases hfit : p + 8 ≤ l.length
  · have hdec : decide ((d : Int) < 8) = false := by simp; omega
    have hdec' : ¬ (d : Int) < 8 := by omega
    have hw : IntKind.i64.wrap ((p : Int) + 8) = ((p + 8 : Nat) : Int) := by rw [IntWalk.i64_in _ (by omega)]; omega
    have hw' : ((p + 8 : Nat) : Int) = (p : Int) + 8 := by omega
    go_enter Try.func144, Try.ntmps144
    clear hleft hd
    go_wp2_with (first
      | (go_at_call 111; refine Hleft.out.mono ?_; rintro e w1 ⟨rfl, hb1⟩; replace hkg := hkg.step hb1; replace hs := hs.step hb1; replace hk := hk.step hb1; have c20 : w1.cell? ⟨g, 1, none⟩ = some (.int .i64 (p : Int)) := (by rw [hkg.cell]; rfl); have f20 := hkg.frozen 1; obtain ⟨W2, hW2⟩ : ∃ W2, w1.setCell ⟨g, 1, none⟩ (.int .i64 ((p : Int) + 8)) = W2 := ⟨_, rfl⟩; have hk2 : Blk W2 g 179 #[.slice A n c, .int .i64 ((p : Int) + 8)] := (by rw [← hW2]; exact hkg.set_ 1 _); have c33 : W2.cell? ⟨g, 0, none⟩ = some (.slice A n c) := (by rw [hk2.cell]; rfl); have hs2 : Sl W2 X A n c l := (by rw [← hW2]; exact hs.setCell (p := ⟨g, 1, none⟩) _ (fun hX => hoff g hX rfl)); have hgs : w1.grownBy W2 (some g) := (by rw [← hW2]; exact grown_setCell (grown_of_below (Below.refl _ _) _) 1 _); have hkx := hk.grown hgs (fun e => hgx (Option.some.inj e)); have hgW := grown_same (grown_of_below hb1 (some g)) hgs; have hsl := (((hs2.take (p + 8) (by omega)).drop p (by omega)).weak (Y := fun _ => True) fun _ _ _ => trivial); rw [if_neg (by omega : ¬ c = p), Nat.mul_one, Nat.add_sub_cancel_left, List.drop_take, Nat.add_sub_cancel_left] at hsl; have Hw2 := Lib.hid hW2; have Hsl := Lib.hid hsl; clear hW2 hsl hgs hb1)
      | rw [Hw2.out]
      | (go_at_call 158; refine (take1_any gx ((l.drop p).take 8) _ 8 _ u W2 Hsl.out (Nat.le_refl _) hkx).mono ?_; rintro e W3 ⟨rfl, hk3, hg3⟩))
    go_ret
    have hk4 : Blk W3 g 179 #[.slice A n c, .int .i64 ((p + 8 : Nat) : Int)] := by rw [hw']; exact hk2.grown hg3 (fun e => hgx (Option.some.inj e).symm)
    exact ⟨.inl ⟨hfit, rfl, ⟨⟨A, n, c, hk4, hs2.grown hg3 (fun b _ hX e => hXx b hX (Option.some.inj e))⟩, hoff, hfit⟩, hk3⟩, K2.of hgW hg3⟩
  · have hdec : decide ((d : Int) < 8) = true := by simp; omega
    have hdec' : (d : Int) < 8 := by omega
    go_enter Try.func144, Try.ntmps144
    clear hleft hd
    go_wp2_with (go_at_call 111; refine Hleft.out.mono ?_; rintro e w1 ⟨rfl, hb1⟩)
    go_ret
    exact ⟨.inr ⟨hfit, rfl, h.step hb1, hk.step hb1⟩, K2.g (grown_of_below hb1 _)⟩


set_option maxHeartbeats 4000000 in
set_option maxRecDepth 100000 in
theorem nextH_any (X : Nat → Prop) (g gx : Nat) (l : List UInt8) (p : Nat) (z : List UInt8) (w : World) (h : RdO w X g l p) (hk : HV w gx z) (hgx : gx ≠ g) (hXx : ∀ b, X b → b ≠ gx) :
    Calls Try.prog 144 #[.pointer (some ⟨g, 0, none⟩), .int .i64 32, .func (.func 145) #[] #[.pointer (some ⟨gx, 0, none⟩)]] w fun e w' =>
      (p + 32 ≤ l.length ∧ e = .returned (.int .i64 0) ∧ RdO w' X g l (p + 32) ∧ HV w' gx ((l.drop p).take 32) ∨ ¬ p + 32 ≤ l.length ∧ e = .returned (.int .i64 110) ∧ RdO w' X g l p ∧ HV w' gx z) ∧ K2 w w' g gx := by
  have hleft := rdleft_any X g l p w h
  obtain ⟨A, n, c, hkg, hs⟩ := h.ex
  have hle := h.le
  have hoff := h.off
  have hlen := hs.len
  have hmx := hs.max
  have hroom := hs.room
  unfold maxLen at hmx
  have Hleft := Lib.hid hleft
  obtain ⟨d, hd⟩ : ∃ d, l.length - p = d := ⟨_, rfl⟩
  rw [hd] at hleft
  have Hleft := Lib.hid hleft
  by_cases hfit : p + 32 ≤ l.length
  · have hdec : decide ((d : Int) < 32) = false := by simp; omega
    have hdec' : ¬ (d : Int) < 32 := by omega
    have hw : IntKind.i64.wrap ((p : Int) + 32) = ((p + 32 : Nat) : Int) := by rw [IntWalk.i64_in _ (by omega)]; omega
    have hw' : ((p + 32 : Nat) : Int) = (p : Int) + 32 := by omega
    go_enter Try.func144, Try.ntmps144
    clear hleft hd
    go_wp2_with (first
      | (go_at_call 111; refine Hleft.out.mono ?_; rintro e w1 ⟨rfl, hb1⟩; replace hkg := hkg.step hb1; replace hs := hs.step hb1; replace hk := hk.step hb1; have c20 : w1.cell? ⟨g, 1, none⟩ = some (.int .i64 (p : Int)) := (by rw [hkg.cell]; rfl); have f20 := hkg.frozen 1; obtain ⟨W2, hW2⟩ : ∃ W2, w1.setCell ⟨g, 1, none⟩ (.int .i64 ((p : Int) + 32)) = W2 := ⟨_, rfl⟩; have hk2 : Blk W2 g 179 #[.slice A n c, .int .i64 ((p : Int) + 32)] := (by rw [← hW2]; exact hkg.set_ 1 _); have c33 : W2.cell? ⟨g, 0, none⟩ = some (.slice A n c) := (by rw [hk2.cell]; rfl); have hs2 : Sl W2 X A n c l := (by rw [← hW2]; exact hs.setCell (p := ⟨g, 1, none⟩) _ (fun hX => hoff g hX rfl)); have hgs : w1.grownBy W2 (some g) := (by rw [← hW2]; exact grown_setCell (grown_of_below (Below.refl _ _) _) 1 _); have hkx := (⟨hk.blk.grown hgs (fun e => hgx (Option.some.inj e)), hk.len⟩ : HV W2 gx z); have hgW := grown_same (grown_of_below hb1 (some g)) hgs; have hsl := (((hs2.take (p + 32) (by omega)).drop p (by omega)).weak (Y := fun _ => True) fun _ _ _ => trivial); rw [if_neg (by omega : ¬ c = p), Nat.mul_one, Nat.add_sub_cancel_left, List.drop_take, Nat.add_sub_cancel_left] at hsl; have Hw2 := Lib.hid hW2; have Hsl := Lib.hid hsl; clear hW2 hsl hgs hb1)
      | rw [Hw2.out]
      | (go_at_call 145; refine (hash1_any gx ((l.drop p).take 32) z _ _ W2 Hsl.out hkx).mono ?_; rintro e W3 ⟨rfl, hk3, hg3⟩))
    go_ret
    have hk4 : Blk W3 g 179 #[.slice A n c, .int .i64 ((p + 32 : Nat) : Int)] := by rw [hw']; exact hk2.grown hg3 (fun e => hgx (Option.some.inj e).symm)
    exact ⟨.inl ⟨hfit, rfl, ⟨⟨A, n, c, hk4, hs2.grown hg3 (fun b _ hX e => hXx b hX (Option.some.inj e))⟩, hoff, hfit⟩, hk3⟩, K2.of hgW hg3⟩
  · have hdec : decide ((d : Int) < 32) = true := by simp; omega
    have hdec' : (d : Int) < 32 := by omega
    go_enter Try.func144, Try.ntmps144
    clear hleft hd
    go_wp2_with (go_at_call 111; refine Hleft.out.mono ?_; rintro e w1 ⟨rfl, hb1⟩)
    go_ret
    exact ⟨.inr ⟨hfit, rfl, h.step hb1, hk.step hb1⟩, K2.g (grown_of_below hb1 _)⟩

end Go.Proofs.Ytonidnfgneokbaa
