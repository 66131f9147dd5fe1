/- wire: Writer. -/
import Derived.Test.YtonidnfgneokbaaQd131
import Derived.Test.YtonidnfgneokbaaQd132
import Derived.Test.YtonidnfgneokbaaQd134
namespace Go.Proofs.Ytonidnfgneokbaa
open Go Go.RowKit Go.Shelf
attribute [local go_sem] Oper.semAt_some

set_option maxHeartbeats 4000000 in
set_option maxRecDepth 100000 in
theorem width_any (w : World) : Calls Try.prog 157 #[] w fun e w' => e = .returned (.int .i64 8) ∧ w' = w := by
  go_enter Try.func157, Try.ntmps157
  go_wp2_with fail
  go_loopw [1, 2] (fun v1 v2 wr => ∃ k : Nat, k ≤ 8 ∧ v1 = .int .i64 (k : Int) ∧ v2 = .int .u64 ((18446744073709551615 / 256 ^ k : Nat) : Int) ∧ wr = w) (fun v1 _ _ => 8 - (intOf v1).toNat)
  case atStart => exact ⟨0, by omega, rfl, rfl, rfl⟩
  case round =>
    obtain ⟨k, hk, rfl, rfl, rfl⟩ := hrel
    have hk9 : k = 0 ∨ k = 1 ∨ k = 2 ∨ k = 3 ∨ k = 4 ∨ k = 5 ∨ k = 6 ∨ k = 7 ∨ k = 8 := by omega
    rcases hk9 with rfl | rfl | rfl | rfl | rfl | rfl | rfl | rfl | rfl
    · simp only [Nat.reducePow, Nat.reduceDiv]
      go_wp2_with fail
      go_roundw
      case rel => exact ⟨1, by omega, rfl, rfl, by first | rfl | trivial⟩
      case measure => simp [intOf]
    · simp only [Nat.reducePow, Nat.reduceDiv]
      go_wp2_with fail
      go_roundw
      case rel => exact ⟨2, by omega, rfl, rfl, by first | rfl | trivial⟩
      case measure => simp [intOf]
    · simp only [Nat.reducePow, Nat.reduceDiv]
      go_wp2_with fail
      go_roundw
      case rel => exact ⟨3, by omega, rfl, rfl, by first | rfl | trivial⟩
      case measure => simp [intOf]
    · simp only [Nat.reducePow, Nat.reduceDiv]
      go_wp2_with fail
      go_roundw
      case rel => exact ⟨4, by omega, rfl, rfl, by first | rfl | trivial⟩
      case measure => simp [intOf]
    · simp only [Nat.reducePow, Nat.reduceDiv]
      go_wp2_with fail
      go_roundw
      case rel => exact ⟨5, by omega, rfl, rfl, by first | rfl | trivial⟩
      case measure => simp [intOf]
    · simp only [Nat.reducePow, Nat.reduceDiv]
      go_wp2_with fail
      go_roundw
      case rel => exact ⟨6, by omega, rfl, rfl, by first | rfl | trivial⟩
      case measure => simp [intOf]
    · simp only [Nat.reducePow, Nat.reduceDiv]
      go_wp2_with fail
      go_roundw
      case rel => exact ⟨7, by omega, rfl, rfl, by first | rfl | trivial⟩
      case measure => simp [intOf]
    · simp only [Nat.reducePow, Nat.reduceDiv]
      go_wp2_with fail
      go_roundw
      case rel => exact ⟨8, by omega, rfl, rfl, by first | rfl | trivial⟩
      case measure => simp [intOf]
    · simp only [Nat.reducePow, Nat.reduceDiv]
      go_wp2_with fail
      go_ret
      exact ⟨rfl, rfl⟩

/-- a row has grown: the row itself, and new memory -/
structure RwR (w w' : World) (v v' : Value) : Prop where
  own : v'.ownBlock = v.ownBlock ∨ ∃ k, v'.ownBlock = some k ∧ w.heap.size ≤ k
  gr : w.grownBy w' v.ownBlock
theorem RwR.refl (w : World) (v : Value) : RwR w w v v := ⟨.inl rfl, ⟨rfl, rfl, rfl, Nat.le_refl _, fun _ _ _ => rfl⟩⟩
theorem RwR.trans {w w1 w' : World} {v v1 v' : Value} (h : RwR w w1 v v1) (k : RwR w1 w' v1 v') : RwR w w' v v' := by
  refine ⟨?_, k.gr.os.trans h.gr.os, k.gr.tape.trans h.gr.tape, k.gr.output.trans h.gr.output, Nat.le_trans h.gr.size k.gr.size, fun i hi hne => ?_⟩
  · rcases k.own with e | ⟨r, e, hr⟩
    · rcases h.own with e2 | ⟨r, e2, hr⟩
      · exact .inl (e.trans e2)
      · exact .inr ⟨r, e.trans e2, hr⟩
    · exact .inr ⟨r, e, Nat.le_trans h.gr.size hr⟩
  · rw [k.gr.block i (Nat.lt_of_lt_of_le hi h.gr.size) (fun e => ?_), h.gr.block i hi hne]
    rcases h.own with e2 | ⟨r, e2, hr⟩
    · exact hne (by rw [← e2]; exact e)
    · rw [e2] at e
      have e : i = r := Option.some.inj e
      omega
theorem infoB1 : (Try.prog.info? 5).map (fun i => (i.zero, i.size, i.bytes)) = some (some (.int .u8 0), 1, 1) := by kernel_rfl
theorem oneBs (l : List UInt8) : ∀ u ∈ l.map B, u.oneCell' = true := fun u hu => by
  obtain ⟨x, _, rfl⟩ := List.mem_map.1 hu
  rfl
theorem append_slb {w : World} {base : Nat} {v : Value} {xs l : List UInt8} {X : Nat → Prop} {A : Option Addr} {n c : Nat} (hown : w.ownsRow base 5 1 v xs.length (xs.map B)) (h : Sl w X A n c l) (hb : xs.length + n ≤ 140737488355328) (hbase : base ≤ w.heap.size) :
    ∃ v' w', (Builtin.append_ #[23, 23] 23 #[v, .slice A n c]).run Try.prog w = .ok v' w' ∧ w'.ownsRow base 5 1 v' (xs ++ l).length ((xs ++ l).map B) ∧ RwR w w' v v' := by
  obtain ⟨v', w', hr, ho, hg, hf⟩ := append_slv (ty := 23) Try.underlying23 infoB1 (by simp [Value.cells]) (by decide) hown h.v (oneBs l) (by unfold maxLen; omega) (by omega) hbase
  exact ⟨v', w', hr, by rw [List.length_append, List.map_append, h.len]; exact ho, hf, hg⟩
theorem lit_byte {w : World} {base : Nat} {v : Value} {q : List UInt8} (h : w.ownsRow base 5 1 v q.length (q.map B)) (x : UInt8) (hq : q.length ≤ 70368744177664) (hb : base ≤ w.heap.size) :
    ∃ v' w', (Builtin.append_ #[23, 23] 23 #[v, .slice (some ⟨w.heap.size, 0, none⟩) 1 1]).run Try.prog (w.alloc (.cells #[B x] 5)) = .ok v' w' ∧ w'.ownsRow base 5 1 v' (q ++ [x]).length ((q ++ [x]).map B) ∧ RwR w w' v v' := by
  have hbA : Below w.heap.size w (w.alloc (.cells #[B x] 5)) := (Below.refl _ _).alloc (Nat.le_refl _) _
  have hs : Sl (w.alloc (.cells #[B x] 5)) (fun _ => True) (some ⟨w.heap.size, 0, none⟩) 1 1 [x] := Sl.of_blk (Blk.new w 5 #[B x]) [x] 1 rfl (by unfold maxLen; decide) fun j u hu => by rw [Nat.zero_add]; simpa using hu
  obtain ⟨v', w', hr, ho, hg⟩ := append_slb (owns_step h hbA) hs (by omega) (Nat.le_trans hb hbA.size)
  exact ⟨v', w', hr, ho, RwR.trans ⟨.inl rfl, grown_of_below hbA _⟩ hg⟩
theorem wrap_byte (x k : Nat) : IntKind.u8.wrap ((x : Int) / 2 ^ (8 * k)) = ((UInt8.ofNat (x / 256 ^ k)).toNat : Int) := by
  have h1 : (2 : Int) ^ (8 * k) = ((256 ^ k : Nat) : Int) := by rw [Int.pow_mul]; simp
  rw [h1, ← Int.natCast_ediv]
  obtain ⟨m, hm⟩ : ∃ m, x / 256 ^ k = m := ⟨_, rfl⟩
  rw [hm, UInt8.toNat_ofNat', IntKind.wrap_u8]
  omega
set_option maxHeartbeats 4000000 in
set_option maxRecDepth 100000 in
theorem form_any (v : Value) (q : List UInt8) (x base : Nat) (w : World) (h : w.ownsRow base 5 1 v q.length (q.map B)) (hb : base ≤ w.heap.size) (hq : q.length ≤ 1099511627776) :
    Calls Try.prog 160 #[v, .int .i64 8, .int .u64 (x : Int)] w fun e w' => ∃ v', e = .returned v' ∧ w'.ownsRow base 5 1 v' (q ++ beN 8 x).length ((q ++ beN 8 x).map B) ∧ RwR w w' v v' := by
  obtain ⟨res, hres⟩ : ∃ r, q ++ beN 8 x = r := ⟨_, rfl⟩
  rw [hres]
  have Hres := Lib.hid hres
  clear hres
  go_enter Try.func160, Try.ntmps160
  go_wp2_with fail
  go_loopw [0, 7] (fun v0 v7 wr => ∃ (j : Nat) (cur : List UInt8), j ≤ 8 ∧ v7 = .int .i64 ((j : Int) - 1) ∧ cur ++ beN j x = res ∧ cur.length + j ≤ 1099511627784 ∧ wr.ownsRow base 5 1 v0 cur.length (cur.map B) ∧ RwR w wr v v0) (fun _ v7 _ => (intOf v7 + 1).toNat)
  case atStart => exact ⟨8, q, Nat.le_refl _, rfl, Hres.out, by omega, h, RwR.refl _ _⟩
  case round =>
    clear h
    obtain ⟨j, cur, hj, rfl, hc, hcl, ho, hB⟩ := hrel
    rcases Nat.eq_zero_or_pos j with rfl | hjp
    · obtain rfl : cur = res := by rw [← hc]; simp [beN]
      go_wp2_with fail
      go_ret
      exact ⟨_, rfl, ho, hB⟩
    · obtain ⟨l, rfl⟩ : ∃ l, j = l + 1 := ⟨j - 1, by omega⟩
      have hll : ((l + 1 : Nat) : Int) - 1 = (l : Int) := by omega
      rw [hll]
      have hwl : IntKind.i64.wrap ((l : Int) - 1) = (l : Int) - 1 := IntWalk.i64_in _ (by omega)
      have hw8 : IntKind.i64.wrap (8 * (l : Int)) = ((8 * l : Nat) : Int) := by rw [IntWalk.i64_in _ (by omega)]; omega
      have hge : decide ((0 : Int) ≤ (l : Int)) = true := by simp
      have hwb := wrap_byte x l
      rw [beN] at hc
      obtain ⟨y, hy⟩ : ∃ y, UInt8.ofNat (x / 256 ^ l) = y := ⟨_, rfl⟩
      rw [hy] at hwb hc
      obtain ⟨v3, w3, hr3, ho3, hg3⟩ := lit_byte ho y (by omega) (Nat.le_trans hb hB.gr.size)
      have hb3 := hB.trans hg3
      have Hr3 := Lib.hid hr3
      have Hc := Lib.hid hc
      clear hr3 hc hy
      go_wp2_with (first
        | ((with_reducible show wpList _ _ _ (⟨some 20, .buildSlice _ _ _, _, _, _, _⟩ :: _) _ _); refine wpList_run rfl (.slice (some ⟨wr.heap.size, 0, none⟩) 1 1) (wr.alloc (.cells #[B y] 5)) (by kernel_rfl) ?_; simp only [Act.put])
        | ((with_reducible show wpList _ _ _ (⟨some 21, .call _, _, _, _, _⟩ :: _) _ _); refine wpList_run rfl v3 w3 (run_append_op (.tmp 14) (.tmp 20) 23 rfl _ _ rfl rfl Hr3.out) ?_; simp only [Act.put]))
      go_roundw
      case rel => exact ⟨l, cur ++ [y], by omega, rfl, by rw [List.append_assoc]; exact Hc.out, by rw [List.length_append, List.length_singleton]; omega, ho3, hb3⟩
      case measure => simp [intOf] <;> omega

/-- a writer and its bytes -/
structure WrV (W : World) (g b1 : Nat) (v : Value) (l : List UInt8) : Prop where
  blk : Blk W g 185 #[v]
  own : W.ownsRow b1 5 1 v l.length (l.map B)
  lt : g < b1
  le : b1 ≤ W.heap.size
section
variable {W W' W1 : World} {g b1 : Nat} {v v' v1 : Value} {l : List UInt8}
theorem WrV.step (h : WrV W g b1 v l) (hb : Below W.heap.size W W') : WrV W' g b1 v l := ⟨h.blk.step hb, owns_step h.own hb, h.lt, Nat.le_trans h.le hb.size⟩
theorem WrV.grown {row : Option Nat} (h : WrV W g b1 v l) (hg : W.grownBy W' row) (hr : ∀ r, row = some r → ∃ o, W.heap[r]? = some o ∧ o.isCells = false) : WrV W' g b1 v l :=
  ⟨h.blk.grown hg (fun e => by
      obtain ⟨o, ho, hc⟩ := hr g e.symm
      rw [show W.heap[g]? = _ from h.blk] at ho; cases ho; cases hc), h.own.kept hg (by
      rcases h.own.2 with ⟨rfl, _⟩ | ⟨g, cap, cur, rfl, _, hb, _⟩
      · exact .inl rfl
      · refine .inr fun e => ?_
        obtain ⟨o, ho, hc⟩ := hr g e.symm
        rw [show W.heap[g]? = _ from hb] at ho; cases ho; cases hc), h.lt, Nat.le_trans h.le hg.size⟩
/-- what a writer changes: itself, its row, and new memory -/
structure WrR (W W' : World) (g : Nat) (v v' : Value) : Prop where
  own : v'.ownBlock = v.ownBlock ∨ ∃ k, v'.ownBlock = some k ∧ W.heap.size ≤ k
  os : W'.os = W.os
  tape : W'.tape = W.tape
  output : W'.output = W.output
  size : W.heap.size ≤ W'.heap.size
  block : ∀ k, k < W.heap.size → k ≠ g → some k ≠ v.ownBlock → W'.heap[k]? = W.heap[k]?
theorem WrR.of (h1 : RwR W W1 v v') (h2 : W1.grownBy W' (some g)) : WrR W W' g v v' :=
  ⟨h1.own, h2.os.trans h1.gr.os, h2.tape.trans h1.gr.tape, h2.output.trans h1.gr.output, Nat.le_trans h1.gr.size h2.size, fun k hk h3 h4 => (h2.block k (Nat.lt_of_lt_of_le hk h1.gr.size) (fun e => h3 (Option.some.inj e))).trans (h1.gr.block k hk h4)⟩
theorem WrR.after (hb : Below W.heap.size W W1) (h : WrR W1 W' g v v') : WrR W W' g v v' :=
  ⟨by rcases h.own with e | ⟨k, e, hk⟩
      · exact .inl e
      · exact .inr ⟨k, e, Nat.le_trans hb.size hk⟩, h.os.trans hb.os, h.tape.trans hb.tape, h.output.trans hb.output, Nat.le_trans hb.size h.size, fun k hk h3 h4 => (h.block k (Nat.lt_of_lt_of_le hk hb.size) h3 h4).trans (hb.block k hk)⟩
theorem WrR.below (h : WrR W W' g v v') {N : Nat} (hg : N ≤ g) (hv : ∀ r, v.ownBlock = some r → N ≤ r) (hN : N ≤ W.heap.size) : Below N W W' :=
  ⟨h.os, h.tape, h.output, h.size, fun k hk => h.block k (Nat.lt_of_lt_of_le hk hN) (by omega) (fun e => by have := hv k e.symm; omega)⟩
theorem WrR.blk (h : WrR W W' g v v') {r : Nat} {t : TypeId} {cs : Array Value} (k : Blk W r t cs) (h1 : r ≠ g) (h2 : some r ≠ v.ownBlock) : Blk W' r t cs := by
  show W'.heap[r]? = _
  rw [h.block r k.lt h1 h2]
  exact k
/-- the bytes are written anew -/
theorem WrV.put {v0 : Value} (k : Blk W g 185 #[v0]) (ho : W.ownsRow b1 5 1 v l.length (l.map B)) (lt : g < b1) (le : b1 ≤ W.heap.size) : WrV (W.setRow g #[v]) g b1 v l :=
  have hgr : W.grownBy (W.setRow g #[v]) (some g) := grown_setRow (grown_of_below (Below.refl _ _) _) _
  ⟨k.setRow_ _, ho.kept hgr (by
      rcases ho.2 with ⟨rfl, _⟩ | ⟨g', cap, cur, rfl, hl, _⟩
      · exact .inl rfl
      · refine .inr fun e => ?_
        have e : g' = g := Option.some.inj e
        omega), lt, Nat.le_trans le hgr.size⟩
end

set_option maxHeartbeats 1000000 in
set_option maxRecDepth 100000 in
theorem wnew_any (w : World) : Calls Try.prog 113 #[] w fun e w' => e = .returned (.pointer (some ⟨w.heap.size, 0, none⟩)) ∧ WrV w' w.heap.size w'.heap.size (.slice none 0 0) [] ∧ Below w.heap.size w w' := by
  have k : Blk (w.alloc (.cells #[.slice none 0 0] 185)) w.heap.size 185 #[.slice none 0 0] := Blk.new _ _ _
  have hb : Below w.heap.size w (w.alloc (.cells #[.slice none 0 0] 185)) := (Below.refl _ _).alloc (Nat.le_refl _) _
  go_enter Try.func113, Try.ntmps113
  go_wp2_with fail
  go_ret
  exact ⟨rfl, ⟨k, World.ownsRow_nil _ _ _ _, k.lt, Nat.le_refl _⟩, hb⟩
set_option maxHeartbeats 4000000 in
set_option maxRecDepth 100000 in
theorem wput_any (g b1 : Nat) (v : Value) (l : List UInt8) (x : Nat) (w : World) (h : WrV w g b1 v l) (hl : l.length ≤ 1099511627776) :
    Calls Try.prog 146 #[.pointer (some ⟨g, 0, none⟩), .int .u64 (x : Int)] w fun e w' => e = .returned (.int .i64 0) ∧ ∃ v', WrV w' g b1 v' (l ++ beN 8 x) ∧ WrR w w' g v v' := by
  have hk := h.blk
  have ho := h.own
  have hlt := h.lt
  have hle := h.le
  obtain ⟨res, hres⟩ : ∃ r, l ++ beN 8 x = r := ⟨_, rfl⟩
  have hform := fun W (ho : W.ownsRow b1 5 1 v l.length (l.map B)) (hle : b1 ≤ W.heap.size) => form_any v l x b1 W ho hle hl
  rw [hres] at hform ⊢
  have Hform := Lib.hid hform
  have c11 : ∀ s : InC (fun W => Below b1 w W), s.W.cell? ⟨g, 0, none⟩ = some v := fun s => by rw [(hk.below s.ok hlt).cell]; rfl
  clear hform hres h
  go_enter Try.func146, Try.ntmps146
  go_wp2_with fail
  have hS : Below b1 w w.drew := (Below.refl _ _).drew
  have hou : w.drew.ownsRow b1 5 1 v l.length (l.map B) := owns_step ho ((Below.refl _ _).drew)
  have hlu : b1 ≤ w.drew.heap.size := hle
  have hSw : Below w.heap.size w w.drew := (Below.refl _ _).drew
  refine wp_region_mix_tail (fun W => Below b1 w W) 8 [(0, true), (1, true), (2, true), (3, true), (4, true), (6, true), (5, false), (7, false)] (by kernel_rfl) (by kernel_rfl) hS fun _ => ?_
  simp only [List.map_cons, List.map_nil, Array.getD_eq_getD_getElem?, List.getElem?_toArray, List.getElem?_cons_succ, List.getElem?_cons_zero, Option.getD_some]
  generalize w.drew = u2 at hS hou hlu hSw ⊢
  refine wpMix_s (fun K hK => ?_)
  go_simp
  refine hK _ ?_
  clear hK K
  refine wpMix_s (fun K hK => ?_)
  go_simp
  refine hK _ ?_
  clear hK K
  refine wpMix_s (fun K hK => ?_)
  go_simp
  refine hK _ ?_
  clear hK K
  refine wpMix_s (fun K hK => ?_)
  go_simp
  refine hK _ ?_
  clear hK K
  refine wpMix_s (fun K hK => ?_)
  go_simp
  refine hK _ ?_
  clear hK K
  refine wpMix_s (fun K hK => ?_)
  go_simp
  refine hK _ ?_
  clear hK K
  refine wpMix_c (fun K hK => ?_) hS
  go_simp
  refine (width_any u2).mono ?_
  rintro e u2e ⟨rfl, hww⟩
  obtain rfl := hww.symm
  refine hK _ _ ?_
  clear hK K
  refine ⟨hS, ?_⟩
  refine wpMix_c (fun K hK => ?_) hS
  go_simp
  refine (Hform.out u2 hou hlu).mono ?_
  rintro e W9 ⟨v9, rfl, ho9, hR9⟩
  refine hK _ _ ?_
  clear hK K
  obtain ⟨A9, c9, rfl, -⟩ := owns_slv ho9
  have hRw : RwR w W9 v (.slice A9 res.length c9) := RwR.trans ⟨.inl rfl, grown_of_below hSw _⟩ hR9
  replace hS : Below b1 w W9 := (Below.refl _ _).grown hRw.gr hle (fun r e => (ho.lt r e).1)
  refine ⟨hS, ?_⟩
  refine wpMix_nil ?_
  intro _
  simp only [List.drop_succ_cons, List.drop_zero]
  have hk9 := hk.below hS hlt
  go_wp2_with ((with_reducible show wpList _ _ _ [⟨none, .store _ _ _, _, _, _, _⟩] _ _); refine wpList_store_one rfl 23 (.tmp 16) (.tmp 14) rfl g rfl rfl 185 v hk9 (by kernel_rfl) ?_; show wpList _ _ _ _ _ (W9.setRow g #[Value.slice A9 res.length c9]); simp only [Act.put])
  refine np_normal ?_
  go_wp2_with fail
  go_ret
  exact ⟨rfl, _, WrV.put hk9 ho9 hlt (Nat.le_trans hle hS.size), WrR.of hRw (grown_setRow (grown_of_below (Below.refl _ _) _) _)⟩
set_option maxHeartbeats 4000000 in
set_option maxRecDepth 100000 in
theorem wsigned_any (g b1 : Nat) (v : Value) (l : List UInt8) (x : Nat) (w : World) (h : WrV w g b1 v l) (hl : l.length ≤ 1099511627776) (hx : x ≤ 9223372036854775807) :
    Calls Try.prog 114 #[.pointer (some ⟨g, 0, none⟩), .int .i64 (x : Int)] w fun e w' => e = .returned (.int .i64 0) ∧ ∃ v', WrV w' g b1 v' (l ++ beN 8 x) ∧ WrR w w' g v v' := by
  have hp := wput_any g b1 v l x w h hl
  have hw : IntKind.u64.wrap (x : Int) = (x : Int) := by rw [IntKind.wrap_u64]; omega
  have Hp := Lib.hid hp
  clear hp h
  go_enter Try.func114, Try.ntmps114
  go_wp2_with (go_at_call 146; refine Hp.out.mono ?_; rintro e w1 ⟨rfl, h1⟩)
  go_ret
  exact ⟨rfl, h1⟩
set_option maxHeartbeats 4000000 in
set_option maxRecDepth 100000 in
theorem wraw_any (g b1 : Nat) (v : Value) (l m : List UInt8) (A : Option Addr) (n c : Nat) (w : World) (h : WrV w g b1 v l) (hs : Sl w (fun _ => True) A n c m) (hl : l.length + n ≤ 1099511627776) :
    Calls Try.prog 147 #[.pointer (some ⟨g, 0, none⟩), .slice A n c] w fun e w' => e = .returned (.int .i64 0) ∧ ∃ v', WrV w' g b1 v' (l ++ m) ∧ WrR w w' g v v' := by
  have hk := h.blk
  have ho := h.own
  have hlt := h.lt
  have hle := h.le
  obtain ⟨v9, W9, hr9, ho9, hg9⟩ := append_slb ho hs (by omega) hle
  have hb9 : Below b1 w W9 := (Below.refl _ _).grown hg9.gr hle (fun r e => (ho.lt r e).1)
  have hk9 := hk.below hb9 hlt
  obtain ⟨A9, c9, rfl, -⟩ := owns_slv ho9
  obtain ⟨res, hres⟩ : ∃ r, l ++ m = r := ⟨_, rfl⟩
  rw [hres] at hr9 ho9 hg9 ⊢
  have Hr9 := Lib.hid hr9
  have c11 : w.cell? ⟨g, 0, none⟩ = some v := by rw [hk.cell]; rfl
  clear hr9 hs h hres
  go_enter Try.func147, Try.ntmps147
  go_wp2_with (first
    | ((with_reducible show wpList _ _ _ (⟨some 13, .call _, _, _, _, _⟩ :: _) _ _); refine wpList_run rfl _ W9 (run_append_op (.tmp 11) (.tmp 12) 23 rfl _ _ rfl rfl Hr9.out) ?_; simp only [Act.put])
    | ((with_reducible show wpList _ _ _ [⟨none, .store _ _ _, _, _, _, _⟩] _ _); refine wpList_store_one rfl 23 (.tmp 15) (.tmp 13) rfl g rfl rfl 185 v hk9 (by kernel_rfl) ?_; show wpList _ _ _ _ _ (W9.setRow g #[Value.slice A9 res.length c9]); simp only [Act.put]))
  go_ret
  exact ⟨rfl, _, WrV.put hk9 ho9 hlt (Nat.le_trans hle hb9.size), WrR.of hg9 (grown_setRow (grown_of_below (Below.refl _ _) _) _)⟩
set_option maxHeartbeats 4000000 in
set_option maxRecDepth 100000 in
theorem whash_any (g b1 : Nat) (v : Value) (l x : List UInt8) (w : World) (h : WrV w g b1 v l) (hx : x.length = 32) (hl : l.length ≤ 1000000000000) :
    Calls Try.prog 115 #[.pointer (some ⟨g, 0, none⟩), .agg (x.map B).toArray] w fun e w' => e = .returned (.int .i64 0) ∧ ∃ v', WrV w' g b1 v' (l ++ x) ∧ WrR w w' g v v' := by
  obtain ⟨w0, hw0⟩ : ∃ w0, w.alloc (.cells (x.map B).toArray 25) = w0 := ⟨_, rfl⟩
  have hb0 : Below w.heap.size w w0 := by rw [← hw0]; exact (Below.refl _ _).alloc (Nat.le_refl _) _
  have k3 : HV w0 w.heap.size x := ⟨by rw [← hw0]; exact Blk.new _ _ _, hx⟩
  have hp := wraw_any g b1 v l x _ 32 32 w0 (h.step hb0) (Sl.of_hv k3) (by omega)
  have Hp := Lib.hid hp
  have Hw0 := Lib.hid hw0
  clear hp h hw0
  go_enter Try.func115, Try.ntmps115
  go_wp2_with (first
    | rw [Hw0.out]
    | ((with_reducible show wpList _ _ _ (⟨some 6, .slice _ _ _ _ _, _, _, _, _⟩ :: _) _ _); refine wpList_run0 rfl _ (run_slice_allO (.tmp 3) rfl w.heap.size 0 rfl _) ?_; simp only [Act.put])
    | (go_at_call 147; refine Hp.out.mono ?_; rintro e w1 ⟨rfl, v1, h1, h2⟩))
  go_ret
  exact ⟨rfl, v1, h1, h2.after hb0⟩
set_option maxHeartbeats 1000000 in
set_option maxRecDepth 100000 in
theorem cloneb_any (l : List UInt8) (A : Option Addr) (n c : Nat) (w : World) (h : Sl w (fun _ => True) A n c l) (hn : n ≤ 1099511627776) :
    Calls Try.prog 142 #[.slice A n c] w fun e w' => ∃ v, e = .returned v ∧ Fresh w w' v l := by
  cases A with
  | none =>
    obtain ⟨rfl, rfl⟩ := h.none rfl
    obtain rfl : l = [] := List.eq_nil_of_length_eq_zero h.len
    clear h
    have hnil := fun w => run_eql_slice_nil (P := Try.prog) w 23 5 none 0 0 Try.underlying23
    go_enter Try.func142, Try.ntmps142
    go_wp2_with fail
    go_ret
    exact ⟨_, rfl, World.ownsRow_nil _ _ _ _, Below.refl _ _⟩
  | some a =>
    have hroom := h.room
    have hmx := h.max
    unfold maxLen at hmx
    have hb1 : Below w.heap.size w (w.alloc (.cells #[] 5)) := (Below.refl _ _).alloc (Nat.le_refl _) _
    have ho0 : (w.alloc (.cells #[] 5)).ownsRow w.heap.size 5 1 (.slice (some ⟨w.heap.size, 0, none⟩) 0 0) ([] : List UInt8).length (([] : List UInt8).map B) :=
      World.ownsRow_lit (base := w.heap.size) (e := 5) (size := 1) w #[] 0 (Nat.le_refl _) (by unfold maxLen; decide) (by simp)
    obtain ⟨v1, w1, hr1, ho1, hg1⟩ := append_sl ho0 (h.step hb1) (by simp; omega) hb1.size
    rw [List.nil_append] at ho1
    have hb2 := hb1.grown hg1 hb1.size (fun k hk => by cases hk; exact Nat.le_refl _)
    have Hr1 := Lib.hid hr1
    have hnil := fun w => run_eql_slice_nil (P := Try.prog) w 23 5 (some a) n c Try.underlying23
    clear hr1 ho0 hg1 hb1 h
    go_enter Try.func142, Try.ntmps142
    go_wp2_with ((with_reducible show wpList _ _ _ (⟨some 7, .call _, _, _, _, _⟩ :: _) _ _); refine wpList_run rfl v1 w1 (run_append_op (.tmp 5) (.tmp 6) 23 rfl _ _ rfl rfl Hr1.out) ?_; simp only [Act.put])
    go_ret
    exact ⟨_, rfl, ho1, hb2⟩
set_option maxHeartbeats 1000000 in
set_option maxRecDepth 100000 in
theorem wbytes_any (g b1 : Nat) (v : Value) (l : List UInt8) (w : World) (h : WrV w g b1 v l) (hl : l.length ≤ 1099511627776) :
    Calls Try.prog 116 #[.pointer (some ⟨g, 0, none⟩)] w fun e w' => ∃ v, e = .returned v ∧ Fresh w w' v l := by
  have hk := h.blk
  have ho := h.own
  obtain ⟨A9, c9, rfl, hs⟩ := owns_slv ho
  have hc := cloneb_any l A9 l.length c9 w ⟨(hs.weak fun _ _ _ => trivial).bs, rfl, hs.room, hs.nil, hs.max⟩ hl
  have c8 : w.cell? ⟨g, 0, none⟩ = some (.slice A9 l.length c9) := by rw [hk.cell]; rfl
  have Hc := Lib.hid hc
  clear hc ho hs h hk
  go_enter Try.func116, Try.ntmps116
  go_wp2_with (go_at_call 142; refine Hc.out.mono ?_; rintro e w1 ⟨v, rfl, h1⟩)
  go_ret
  exact ⟨_, rfl, h1⟩
end Go.Proofs.Ytonidnfgneokbaa
