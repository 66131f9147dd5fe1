/- The document's model in memory; Size; the program's Last and Job. -/
import Derived.Test.YtobcfgbkhgkelaaQe224
import Derived.Test.YtobcfgbkhgkelaaQe228
import Derived.Test.YtobcfgbkhgkelaaQe225
import Derived.Test.YtobcfgbkhgkelaaQe222
import Derived.Test.YtobcfgbkhgkelaaQe227
import Derived.Test.YtobcfgbkhgkelaaQe213
namespace Go.Proofs.Ytobcfgbkhgkelaa
open Go Go.RowKit Go.Shelf
attribute [local go_sem] Oper.semAt_some

/-- the values that name its rows -/
structure XdR where
  e : Value
  q : Value
  b : Value
def xcell (R : XdR) (m : MoV) (i : Nat) : Value :=
  if i = 0 then .int .i64 m.seg else if i = 1 then .int .i64 m.cap else if i = 2 then R.e else if i = 3 then R.q else if i = 4 then .bool m.has else if i = 5 then .int .i64 m.lastS
  else if i < 38 then B (m.lastR.getD (i - 6) 0) else if i = 38 then R.b else if i = 39 then .bool m.pointing else if i = 40 then .int .i64 m.ptS else if i < 73 then B (m.ptR.getD (i - 41) 0)
  else .bool m.only
def xdArr (R : XdR) (m : MoV) : Array Value := ((List.range 74).map (xcell R m)).toArray
theorem xd_size (R : XdR) (m : MoV) : (xdArr R m).size = 74 := by simp [xdArr]
theorem xd_at (R : XdR) (m : MoV) (i : Nat) (h : i < 74) : (xdArr R m)[i]? = some (xcell R m i) := by simp [xdArr, h]
theorem xd_ext {R : XdR} {m : MoV} {cs : Array Value} (hs : cs.size = 74) (h : ∀ i, i < 74 → cs[i]? = some (xcell R m i)) : cs = xdArr R m := by
  apply Array.ext_getElem?
  intro i
  by_cases hi : i < 74
  · rw [h i hi, xd_at _ _ _ hi]
  · rw [Array.getElem?_eq_none (by omega), Array.getElem?_eq_none (by rw [xd_size]; omega)]
theorem xd_set {R R' : XdR} {m m' : MoV} (k : Nat) (_hk : k < 74) (v : Value) (hv : xcell R' m' k = v) (h : ∀ i, i < 74 → i ≠ k → xcell R' m' i = xcell R m i) : (xdArr R m).setIfInBounds k v = xdArr R' m' := by
  refine xd_ext (by simp [xd_size]) fun i hi => ?_
  rw [Array.getElem?_setIfInBounds]
  by_cases e : k = i
  · subst e; rw [if_pos rfl, if_pos (by rw [xd_size]; omega), hv]
  · rw [if_neg e, xd_at _ _ _ hi, h i hi (fun e' => e e'.symm)]
/-- a model of the document's in memory: its rows are never written over; others write to Z -/
structure Xd (Z : Nat → Prop) (g : Nat) (R : XdR) (m : MoV) (W : World) : Prop where
  blk : Blk W g 89 (xdArr R m)
  lastL : m.lastR.length = 32
  ptL : m.ptR.length = 32
  ents : ∃ A c, R.e = .slice A m.ents.length c ∧ Es W (fun b => ¬ (b = g ∨ Z b)) A m.ents.length c m.ents
  queue : ∃ A c, R.q = .slice A m.queue.length c ∧ Es W (fun b => ¬ (b = g ∨ Z b)) A m.queue.length c m.queue
  begun : ∃ A c, R.b = .slice A m.begun.length c ∧ Es W (fun b => ¬ (b = g ∨ Z b)) A m.begun.length c m.begun
  zlt : ∀ b, Z b → b < W.heap.size
  zno : ¬ Z g
section
variable {W W' : World} {Z Z' M : Nat → Prop} {g : Nat} {R : XdR} {m : MoV}
/-- others write -/
theorem Xd.kbZ (h : Xd Z g R m W) (hk : KB M W W') (hM : ∀ b, b < W.heap.size → M b → Z b) (hz : ∀ b, Z' b → b < W'.heap.size) (hzz : ∀ b, Z' b → Z b ∨ W.heap.size ≤ b) : Xd Z' g R m W' := by
  have hlt : ∀ b, b < W.heap.size → Z' b → Z b := fun b hl hz' => (hzz b hz').elim id fun h' => absurd hl (by omega)
  have hE : ∀ {A : Option Addr} {n c : Nat} {ls : List (List UInt8)}, Es W (fun b => ¬ (b = g ∨ Z b)) A n c ls → Es W' (fun b => ¬ (b = g ∨ Z' b)) A n c ls := fun h2 =>
    ((h2.weak (Y := fun b => ¬ (b = g ∨ Z b) ∧ b < W.heap.size) fun b hl hx => ⟨hx, hl⟩).kb hk fun b _ hx hm => hx.1 (.inr (hM b hx.2 hm))).weak fun b _ hx hm => hx.1 (hm.imp id (hlt b hx.2))
  exact ⟨hk.blk h.blk fun hm => h.zno (hM g h.blk.lt hm), h.lastL, h.ptL, let ⟨A, c, h1, h2⟩ := h.ents; ⟨A, c, h1, hE h2⟩, let ⟨A, c, h1, h2⟩ := h.queue; ⟨A, c, h1, hE h2⟩, let ⟨A, c, h1, h2⟩ := h.begun; ⟨A, c, h1, hE h2⟩, hz, fun hz' => h.zno (hlt g h.blk.lt hz')⟩
theorem Xd.step (h : Xd Z g R m W) (hb : Below W.heap.size W W') : Xd Z g R m W' :=
  h.kbZ (M := fun _ => False) (KB.of_below hb) (fun _ _ h => h.elim) (fun b hz => Nat.lt_of_lt_of_le (h.zlt b hz) hb.size) (fun _ h => .inl h)
theorem Xd.cell (h : Xd Z g R m W) (i : Nat) (hi : i < 74) : W.cell? ⟨g, i, none⟩ = some (xcell R m i) := by rw [h.blk.cell, xd_at _ _ _ hi]
theorem Xd.loadLast (h : Xd Z g R m W) : (Instr.loadAt 28 (.pointer (some ⟨g, 5, none⟩))).run Try.prog W = .ok (.agg (.int .i64 m.lastS :: m.lastR.map B).toArray) W :=
  run_load_agg (ptAgg _) (ptSize _) g 5 (.int .i64 m.lastS :: m.lastR.map B) (by simp [h.lastL]) fun j u hu => by
    have hj : j < 33 := by have := (List.getElem?_eq_some_iff.1 hu).1; simp [h.lastL] at this; omega
    rw [h.cell _ (by omega)]
    by_cases h0 : j = 0
    · subst h0
      rw [List.getElem?_cons_zero] at hu
      exact hu
    · obtain ⟨i, rfl⟩ : ∃ i, j = i + 1 := ⟨j - 1, by omega⟩
      rw [List.getElem?_cons_succ, List.getElem?_map, List.getElem?_eq_getElem (by rw [h.lastL]; omega)] at hu
      rw [← hu]
      unfold xcell
      simp only [show 5 + (i + 1) ≠ 0 by omega, show 5 + (i + 1) ≠ 1 by omega, show 5 + (i + 1) ≠ 2 by omega, show 5 + (i + 1) ≠ 3 by omega, show 5 + (i + 1) ≠ 4 by omega, show 5 + (i + 1) ≠ 5 by omega, show 5 + (i + 1) < 38 by omega, if_false, if_true]
      rw [show 5 + (i + 1) - 6 = i by omega, List.getD_eq_getElem?_getD, List.getElem?_eq_getElem (by rw [h.lastL]; omega)]
      rfl
theorem Xd.loadPt (h : Xd Z g R m W) : (Instr.loadAt 28 (.pointer (some ⟨g, 40, none⟩))).run Try.prog W = .ok (.agg (.int .i64 m.ptS :: m.ptR.map B).toArray) W :=
  run_load_agg (ptAgg _) (ptSize _) g 40 (.int .i64 m.ptS :: m.ptR.map B) (by simp [h.ptL]) fun j u hu => by
    have hj : j < 33 := by have := (List.getElem?_eq_some_iff.1 hu).1; simp [h.ptL] at this; omega
    rw [h.cell _ (by omega)]
    by_cases h0 : j = 0
    · subst h0
      rw [List.getElem?_cons_zero] at hu
      exact hu
    · obtain ⟨i, rfl⟩ : ∃ i, j = i + 1 := ⟨j - 1, by omega⟩
      rw [List.getElem?_cons_succ, List.getElem?_map, List.getElem?_eq_getElem (by rw [h.ptL]; omega)] at hu
      rw [← hu]
      unfold xcell
      simp only [show 40 + (i + 1) ≠ 0 by omega, show 40 + (i + 1) ≠ 1 by omega, show 40 + (i + 1) ≠ 2 by omega, show 40 + (i + 1) ≠ 3 by omega, show 40 + (i + 1) ≠ 4 by omega, show 40 + (i + 1) ≠ 5 by omega, show ¬ 40 + (i + 1) < 38 by omega, show 40 + (i + 1) ≠ 38 by omega, show 40 + (i + 1) ≠ 39 by omega, show 40 + (i + 1) ≠ 40 by omega, show 40 + (i + 1) < 73 by omega, if_false, if_true]
      rw [show 40 + (i + 1) - 41 = i by omega, List.getD_eq_getElem?_getD, List.getElem?_eq_getElem (by rw [h.ptL]; omega)]
      rfl
theorem Xd.loadJob (h : Xd Z g R m W) : (Instr.loadAt 37 (.pointer (some ⟨g, 0, none⟩))).run Try.prog W = .ok (.agg #[.int .i64 m.seg, .int .i64 m.cap]) W :=
  run_load_agg (aggCf _) (sizeCf _) g 0 [.int .i64 m.seg, .int .i64 m.cap] rfl fun j u hu => by
    rw [h.cell _ (by have := (List.getElem?_eq_some_iff.1 hu).1; simp at this; omega)]
    match j, hu with
    | 0, hu => exact hu
    | 1, hu => exact hu
theorem xsize_any (h : Xd Z g R m W) : Calls Try.prog 48 #[.pointer (some ⟨g, 0, none⟩)] W fun e w' => e = .returned (.int .i64 (m.ents.length : Int)) ∧ w' = W := by
  obtain ⟨A, c, he, hs⟩ := h.ents
  have hr := hs.room
  have hm := hs.max
  unfold maxLen at hm
  have c2 : W.cell? ⟨g, 2, none⟩ = some (.slice A m.ents.length c) := (h.cell 2 (by decide)).trans (congrArg some he)
  clear h he hs
  go_enter Try.func48, Try.ntmps48
  go_wp2_with fail
  go_ret
  exact ⟨rfl, rfl⟩
end
section
variable {W : World} {Z : Nat → Prop} {lo g : Nat} {R : MdR} {m : MoV}
set_option maxHeartbeats 2000000 in
set_option maxRecDepth 100000 in
theorem mlast_any (h : Md Z lo g R m W) : Calls Try.prog 30 #[.pointer (some ⟨g, 0, none⟩)] W fun e w' => e = .returned (.tuple #[.agg (.int .i64 m.lastS :: m.lastR.map B).toArray, .bool m.has]) ∧ Below W.heap.size W w' := by
  have hlL := h.lastL
  obtain ⟨w1, hw1⟩ : ∃ x, W.alloc (.cells zptC 28) = x := ⟨_, rfl⟩
  have k1 : Blk w1 W.heap.size 28 zptC := by rw [← hw1]; exact Blk.new _ _ _
  have B1 : Below W.heap.size W w1 := by rw [← hw1]; exact (Below.refl _ _).alloc (Nat.le_refl _) _
  have h1 := h.step B1
  have hn := mnone_any h1
  have ll : ∀ s : InC (fun V => Below W.heap.size w1 V), (Instr.loadAt 28 (.pointer (some ⟨g, 6, none⟩))).run Try.prog s.W = .ok (.agg (.int .i64 m.lastS :: m.lastR.map B).toArray) s.W := fun s => md_loadLast (h.step (B1.trans s.ok)).blk hlL
  have c39 : ∀ s : InC (fun V => Below W.heap.size w1 V), s.W.cell? ⟨g, 39, none⟩ = some (.bool m.has) := fun s => (h.step (B1.trans s.ok)).cell 39 (by decide)
  have Ll := Lib.hid ll
  have Hw1 := Lib.hid hw1
  have hS : Below W.heap.size w1 w1.drew := (Below.refl _ _).drew
  have kd := k1.drew
  have z1 := k1.lt
  clear hw1 h h1 ll
  go_enter Try.func30, Try.ntmps30
  go_upto_region 3 with (first
    | ((with_reducible show wpList _ _ _ (⟨some 2, .alloc _, _, _, _, _⟩ :: _) _ _); refine wpList_run rfl (.pointer (some ⟨W.heap.size, 0, none⟩)) w1 (by rw [← Hw1.out]; kernel_rfl) ?_; simp only [Act.put, List.setIfInBounds_toArray, List.set_cons_succ, List.set_cons_zero])
    | (go_at_call 43; refine hn.mono ?_; rintro e w' ⟨rfl, hw⟩; obtain rfl := hw.symm))
  refine wp_region_mix (fun V => Below W.heap.size w1 V) [(0, true), (1, true), (2, true), (3, true), (4, true), (5, true), (6, true), (7, true), (8, false), (9, true)] (by kernel_rfl) (by kernel_rfl) hS fun _ => ?_
  simp only [List.map_cons, List.map_nil, Array.getD_eq_getD_getElem?, List.getElem?_toArray, List.getElem?_cons_succ, List.getElem?_cons_zero, Option.getD_some]
  generalize w1.drew = Z0 at hS kd ⊢
  refine wpMix_s (fun K hK => ?_)
  go_simp
  refine hK _ ?_
  clear hK K
  refine wpMix_s (fun K hK => ?_)
  go_simp
  refine hK _ ?_
  clear hK K
  refine wpMix_s (fun K hK => ?_)
  go_simp
  refine hK _ ?_
  clear hK K
  refine wpMix_load (by kernel_rfl) 28 (.tmp 9) rfl (g) (6) rfl (.int .i64 m.lastS :: m.lastR.map B).toArray (Ll.out) ?_
  simp only [Act.put, List.setIfInBounds_toArray, List.set_cons_succ, List.set_cons_zero]
  refine wpMix_s (fun K hK => ?_)
  go_simp
  refine hK _ ?_
  clear hK K
  refine wpMix_s (fun K hK => ?_)
  go_simp
  refine hK _ ?_
  clear hK K
  refine wpMix_s (fun K hK => ?_)
  go_simp
  refine hK _ ?_
  clear hK K
  refine wpMix_s (fun K hK => ?_)
  go_simp
  refine hK _ ?_
  clear hK K
  refine wpMix_store_blk rfl 28 (.tmp 2) (.tmp 10) rfl 33 ptSize W.heap.size (.int .i64 m.lastS :: m.lastR.map B).toArray rfl rfl (by simp [hlL]) (oneCell_pt _ _) 28 _ kd (by decide) (below_setRow hS (Nat.le_refl _) _) ?_
  simp only [Act.put]
  have p2 : PB (Z0.setRow W.heap.size (.int .i64 m.lastS :: m.lastR.map B).toArray) W.heap.size m.lastS m.lastR := ⟨kd.setRow_ _, hlL⟩
  replace hS := below_setRow hS (Nat.le_refl W.heap.size) (.int .i64 m.lastS :: m.lastR.map B).toArray
  obtain ⟨Z1, hZ1⟩ : ∃ x, Z0.setRow W.heap.size (.int .i64 m.lastS :: m.lastR.map B).toArray = x := ⟨_, rfl⟩
  rw [hZ1] at hS p2 ⊢
  clear hZ1 kd
  refine wpMix_s (fun K hK => ?_)
  go_simp
  refine hK _ ?_
  clear hK K
  refine wpMix_nil ?_
  intro _
  go_wp2_with fail
  exact bodyPost_ret (tuple_pt rfl _ _ W.heap.size m.lastS m.lastR rfl p2) rfl ⟨rfl, B1.trans hS⟩
theorem md_loadJob (h : Md Z lo g R m W) : (Instr.loadAt 37 (.pointer (some ⟨g, 3, none⟩))).run Try.prog W = .ok (.agg #[.int .i64 m.seg, .int .i64 m.cap]) W :=
  run_load_agg (aggCf _) (sizeCf _) g 3 [.int .i64 m.seg, .int .i64 m.cap] rfl fun j u hu => by
    rw [h.cell _ (by have := (List.getElem?_eq_some_iff.1 hu).1; simp at this; omega)]
    match j, hu with
    | 0, hu => exact hu
    | 1, hu => exact hu
set_option maxHeartbeats 2000000 in
set_option maxRecDepth 100000 in
theorem mjob_any (h : Md Z lo g R m W) : Calls Try.prog 36 #[.pointer (some ⟨g, 0, none⟩)] W fun e w' => e = .returned (.agg #[.int .i64 m.seg, .int .i64 m.cap]) ∧ Below W.heap.size W w' := by
  obtain ⟨w1, hw1⟩ : ∃ x, W.alloc (.cells #[.int .i64 0, .int .i64 0] 37) = x := ⟨_, rfl⟩
  have k1 : Blk w1 W.heap.size 37 #[.int .i64 0, .int .i64 0] := by rw [← hw1]; exact Blk.new _ _ _
  have B1 : Below W.heap.size W w1 := by rw [← hw1]; exact (Below.refl _ _).alloc (Nat.le_refl _) _
  have h1 := h.step B1
  have hn := mnone_any h1
  have Lj := Lib.hid (md_loadJob h1)
  have B2 := below_setRow B1 (Nat.le_refl W.heap.size) #[.int .i64 m.seg, .int .i64 m.cap]
  have k2 := k1.setRow_ #[.int .i64 m.seg, .int .i64 m.cap]
  have Hw1 := Lib.hid hw1
  clear hw1 h h1
  go_enter Try.func36, Try.ntmps36
  go_wp2_with (first
    | ((with_reducible show wpList _ _ _ (⟨some 2, .alloc _, _, _, _, _⟩ :: _) _ _); refine wpList_run rfl (.pointer (some ⟨W.heap.size, 0, none⟩)) w1 (by rw [← Hw1.out]; kernel_rfl) ?_; simp only [Act.put, List.setIfInBounds_toArray, List.set_cons_succ, List.set_cons_zero])
    | (go_at_call 43; refine hn.mono ?_; rintro e w' ⟨rfl, hw⟩; obtain rfl := hw.symm)
    | ((with_reducible show wpList _ _ _ (⟨some 9, .load _ _, _, _, _, _⟩ :: _) _ _); refine wpList_load rfl 37 (.tmp 8) rfl g 3 rfl _ Lj.out ?_; simp only [Act.put, List.setIfInBounds_toArray, List.set_cons_succ, List.set_cons_zero])
    | ((with_reducible show wpList _ _ _ (⟨none, .store _ (.tmp 2) _, _, _, _, _⟩ :: _) _ _); refine wpList_store_blk rfl 37 (.tmp 2) (.tmp 9) rfl 2 sizeCf W.heap.size #[.int .i64 m.seg, .int .i64 m.cap] rfl rfl rfl (by intro v hv; simp at hv; rcases hv with rfl | rfl <;> rfl) 37 _ k1 rfl ?_; simp only [Act.put]))
  exact bodyPost_ret (results_cell_row rfl _ _ W.heap.size 37 #[.int .i64 m.seg, .int .i64 m.cap] (0, 0) _ rfl k2 Try.underlying37 rfl (by kernel_rfl)) rfl ⟨rfl, B2⟩
end
theorem neqPt_self {ρ : Operand → Value} {o : Oper} (a b : Operand) (ty : TypeId) (n : Int) (x : List UInt8) (ho : o.op = .binOp .neq 28 a b ty) (ha : ρ a = .agg (Value.int .i64 n :: x.map B).toArray) (hb : ρ b = .agg (Value.int .i64 n :: x.map B).toArray) (h1 : x.length = 32) (W : World) :
    (execOp ρ o).run Try.prog W = .ok (.value (.bool false)) W := by
  have h := neqPt_op (ρ := ρ) (o := o) a b ty n n x x ho ha hb h1 h1 W
  rw [ptEq_self] at h
  exact h
theorem underCf : Try.prog.underlying 37 = some (.struct (Try.prog.fieldsOf 37)) := by kernel_rfl
theorem heldCf : Try.prog.stoodInHeld 37 = false := by kernel_rfl
theorem guardCf : Try.prog.eqGuardType Try.prog.depth 37 = false := by kernel_rfl
theorem run_neqCf_f {ρ : Operand → Value} {o : Oper} (x y : Operand) (ty : TypeId) (a b : Int) (ho : o.op = .binOp .neq 37 x y ty) (hx : ρ x = .agg #[.int .i64 a, .int .i64 b]) (hy : ρ y = .agg #[.int .i64 a, .int .i64 b]) (W : World) :
    (execOp ρ o).run Try.prog W = .ok (.value (.bool false)) W := by
  have hf : (Try.prog.fieldsOf 37).toList = [{ name := "Segment", type := 3, offset := 0, embedded := false, tag := "", pkgPath := "", byteOffset := 0 }, { name := "Queue", type := 3, offset := 1, embedded := false, tag := "", pkgPath := "", byteOffset := 8 }] := by kernel_rfl
  have hr : (binOp .neq 37 (.agg #[.int .i64 a, .int .i64 b]) (.agg #[.int .i64 a, .int .i64 b])).run Try.prog W = .ok (.bool false) W := by
    rw [run_neq_struct, run_equalIn_agg W 9999 _ _ _ underCf heldCf, hf]
    simp [go_sem, part, Op.eqFields]
  unfold execOp
  simp only [ho, hx, hy, run_eqGuard_agg W .neq 37 x y _ _ guardCf, Sem.run_bind, Sem.run_pure, hr, Result.andThen_ok]
end Go.Proofs.Ytobcfgbkhgkelaa
/- notarylaw24.known: two entries are flushed, published, read. -/
namespace Go.Proofs.Ytobcfgbkhgkelaa
open Go Go.RowKit
attribute [local go_sem] Oper.semAt_some

def kn0 : MoV := MoV.new 2 2
def kn1 : MoV := { MoV.new 2 2 with queue := [[97]] }
def kn2 : MoV := { MoV.new 2 2 with queue := [[97], [98]] }
def kn3 : MoV := { MoV.new 2 2 with ents := [[97], [98]] }
def kn4 : MoV := kn3.publish
theorem kn_s1 : kn0.submit [97] = (0, kn1) := by simp [MoV.submit, kn0, kn1, MoV.new]
theorem kn_s2 : kn1.submit [98] = (0, kn2) := by simp [MoV.submit, kn1, kn2, MoV.new]
theorem kn_s3 : kn2.submit [99] = (5, kn2) := by simp [MoV.submit, kn2, MoV.new]
theorem kn_fl : kn2.flush = kn3 := rfl
theorem kn_al (root : List UInt8) (hr : kn3.nowR = root) : kn4.allows [[97], [98]] true 2 root = true := by
  have h1 : kn4.lastS = 2 := rfl
  have h2 : kn4.lastR = root := hr
  have h3 : kn4.ents = [[97], [98]] := rfl
  have h4 : kn4.begun = [] := rfl
  have h5 : kn4.has = true := rfl
  unfold MoV.allows
  rw [h1, h2, h3, h4, h5]
  simp [ptEq_self]
theorem conv_opM {ρ : Operand → Value} {o : Oper} {W W' : World} {v x' : Value} (t u : TypeId) (x : Operand) (ho : o.op = .convert t u x) (hx : ρ x = x') (h : (convert t u x').run Try.prog W = .ok v W') : (execOp ρ o).run Try.prog W = .ok (.value v) W' := by
  unfold execOp
  simp only [ho, hx, Sem.run_bind, Sem.run_pure, h, Result.andThen_ok]
theorem litB (w : World) (x : UInt8) : ∃ w2, (convert 22 22 (.slice (some ⟨w.heap.size, 0, none⟩) 1 1)).run Try.prog (w.alloc (.cells #[B x] 5)) = .ok (.slice (some ⟨w.heap.size, 0, none⟩) 1 1) w2 ∧ Sl w2 (w.heap.size ≤ ·) (some ⟨w.heap.size, 0, none⟩) 1 1 [x] ∧ Below w.heap.size w w2 := by
  obtain ⟨w2, h1, h2, h3⟩ := conv_new w #[B x] [x] 1 rfl rfl
  exact ⟨w2, h1, ⟨h2, rfl, Nat.le_refl _, (fun e => by cases e), by decide⟩, h3⟩
theorem small_any (w : World) : Calls Try.prog 23 #[] w fun e w' => e = .returned (.agg #[.int .i64 2, .int .i64 2]) ∧ Below w.heap.size w w' := by
  have k1 := Blk.new w 37 #[.int .i64 0, .int .i64 0]
  go_enter Try.func23, Try.ntmps23
  go_wp2_with (first
    | ((with_reducible show wpList _ _ _ (⟨some 0, .alloc _, _, _, _, _⟩ :: _) _ _); refine wpList_run rfl (.pointer (some ⟨w.heap.size, 0, none⟩)) (w.alloc (.cells #[.int .i64 0, .int .i64 0] 37)) (by kernel_rfl) ?_; simp only [Act.put])
    | ((with_reducible show wpList _ _ _ (⟨some 1, .build _ _, _, _, _, _⟩ :: _) _ _); refine wpList_run0 rfl (.agg #[.int .i64 2, .int .i64 2]) (by kernel_rfl) ?_; simp only [Act.put])
    | ((with_reducible show wpList _ _ _ (⟨none, .store _ _ _, _, _, _, _⟩ :: _) _ _); refine wpList_store_blk rfl 37 (.tmp 0) (.tmp 1) rfl 2 sizeCf w.heap.size #[.int .i64 2, .int .i64 2] rfl rfl rfl (by intro v hv; simp at hv; rcases hv with rfl | rfl <;> rfl) 37 _ k1 rfl ?_; simp only [Act.put]))
  exact bodyPost_ret (results_cell_row rfl _ _ w.heap.size 37 #[.int .i64 2, .int .i64 2] (0, 0) _ rfl (k1.setRow_ _) Try.underlying37 rfl (by kernel_rfl)) rfl ⟨rfl, below_setRow ((Below.refl _ _).alloc (Nat.le_refl _) _) (Nat.le_refl _) _⟩
theorem MdS.below {Z : Nat → Prop} {lo g N : Nat} {R : MdR} {m m' : MoV} {W W' : World} (h : MdS Z lo g R m' W W') (hM : Md Z lo g R m W) (hN : N ≤ lo) : Below N W W' :=
  h.kb.below (fun b hb => by have := (hM.lt b hb).1; omega) (by have := hM.size; omega)
/-- a thing found, in the law's words -/
def fcOf (E : Option Addr) (n c : Nat) (fs : Int) (fr : List UInt8) : Array Value := (Value.slice E n c :: .int .i64 0 :: .slice none 0 0 :: .int .i64 0 :: .bool true :: .int .i64 fs :: fr.map B).toArray
theorem builtFc (E : Option Addr) (n c : Nat) (fs : Int) (fr : List UInt8) (h : fr.length = 32) : Try.prog.built 30 [(0, .slice E n c), (4, .bool true), (5, .agg (.int .i64 fs :: fr.map B).toArray)] = some (fcOf E n c fs fr) := by
  obtain ⟨a0, a1, a2, a3, a4, a5, a6, a7, a8, a9, a10, a11, a12, a13, a14, a15, a16, a17, a18, a19, a20, a21, a22, a23, a24, a25, a26, a27, a28, a29, a30, a31, rfl⟩ := explode32 fr h
  kernel_rfl
theorem Fnd.of (E : Option Addr) (n c : Nat) (fs : Int) (fr : List UInt8) (h : fr.length = 32) : Fnd (fcOf E n c fs fr) E n c true fs fr := by
  refine ⟨by simp [fcOf, h], rfl, rfl, fun j v hv => ?_, h⟩
  unfold fcOf
  rw [List.getElem?_toArray, show 5 + j = j + 5 by omega]
  exact hv
theorem build_opM {ρ : Operand → Value} {o : Oper} {W : World} {cs : Array Value} {x' y' z' : Value} (T : TypeId) (x y z : Operand) (i j k : Nat) (ho : o.op = .build T #[(i, x), (j, y), (k, z)]) (hx : ρ x = x') (hy : ρ y = y') (hz : ρ z = z') (h : Try.prog.built T [(i, x'), (j, y'), (k, z')] = some cs) : (execOp ρ o).run Try.prog W = .ok (.value (.agg cs)) W := by
  have hm : (#[(i, x), (j, y), (k, z)] : Array (Nat × Operand)).map (fun (i, x) => (i, ρ x)) = #[(i, x'), (j, y'), (k, z')] := by simp [hx, hy, hz]
  unfold execOp
  simp only [ho, Sem.run_bind, Sem.run_pure, hm, run_build W T _ cs h, Result.andThen_ok]
theorem litS_run (g1 g2 : Nat) (W : World) : (Instr.buildSlice 23 2 #[(0, .slice (some ⟨g1, 0, none⟩) 1 1), (1, .slice (some ⟨g2, 0, none⟩) 1 1)]).run Try.prog W = .ok (.slice (some ⟨W.heap.size, 0, none⟩) 2 2) (W.alloc (.cells #[.slice (some ⟨g1, 0, none⟩) 1 1, .slice (some ⟨g2, 0, none⟩) 1 1] 22)) := by
  kernel_rfl
theorem litS_op {ρ : Operand → Value} {o : Oper} (g1 g2 : Nat) (x y : Operand) (ho : o.op = .buildSlice 23 2 #[(0, x), (1, y)]) (hx : ρ x = .slice (some ⟨g1, 0, none⟩) 1 1) (hy : ρ y = .slice (some ⟨g2, 0, none⟩) 1 1) (W : World) : (execOp ρ o).run Try.prog W = .ok (.value (.slice (some ⟨W.heap.size, 0, none⟩) 2 2)) (W.alloc (.cells #[.slice (some ⟨g1, 0, none⟩) 1 1, .slice (some ⟨g2, 0, none⟩) 1 1] 22)) := by
  unfold execOp
  have hm : (#[(0, x), (1, y)] : Array (Nat × Operand)).map (fun (i, x) => (i, ρ x)) = #[(0, .slice (some ⟨g1, 0, none⟩) 1 1), (1, .slice (some ⟨g2, 0, none⟩) 1 1)] := by simp [hx, hy]
  simp only [ho, Sem.run_bind, Sem.run_pure, hm, litS_run g1 g2 W, Result.andThen_ok]
theorem strM_op {ρ : Operand → Value} {o : Oper} {W : World} {X : Nat → Prop} {A : Option Addr} {n c : Nat} {l : List UInt8} (x : Operand) (ho : o.op = .convert 22 9 x) (hx : ρ x = .slice A n c) (h : Sl W X A n c l) :
    (execOp ρ o).run Try.prog W = .ok (.value (.string (bstr l))) W := conv_opM _ _ x ho hx (run_str h)
theorem es_lit2M (W : World) (A1 A2 : Option Addr) (n1 k1 n2 k2 : Nat) (l1 l2 : List UInt8) (h1 : Sl W (fun _ => True) A1 n1 k1 l1) (h2 : Sl W (fun _ => True) A2 n2 k2 l2) :
    Es (W.alloc (.cells #[.slice A1 n1 k1, .slice A2 n2 k2] 22)) (fun _ => True) (some ⟨W.heap.size, 0, none⟩) 2 2 [l1, l2] := by
  refine ⟨⟨[.slice A1 n1 k1, .slice A2 n2 k2], SlV.lit (s := 1) W (fun _ => True) 22 _ rfl (by decide) trivial, fun i hi => ?_⟩, rfl⟩
  match i, hi with
  | 0, _ => have e := h1.len; subst e; exact ⟨A1, k1, rfl, h1.alloc _⟩
  | 1, _ => have e := h2.len; subst e; exact ⟨A2, k2, rfl, h2.alloc _⟩
theorem load_opM {P : Program} {ρ : Operand → Value} {o : Oper} {w : World} {v p : Value} (ty : TypeId) (x : Operand) (ho : o.op = .load ty x) (hx : ρ x = p) (h : (Instr.loadAt ty p).run P w = .ok v w) : (execOp ρ o).run P w = .ok (.value v) w := by
  unfold execOp
  simp only [ho, hx, Sem.run_bind, Sem.run_pure, h, Result.andThen_ok]
set_option maxHeartbeats 16000000 in
set_option maxRecDepth 100000 in
theorem known24_any (w : World) :
    Calls Try.prog 8 #[] w fun e w' => e = .returned (.bool true) ∧ Below w.heap.size w w' := by
  obtain ⟨Z, hZ⟩ : ∃ Z : Nat → Prop, ∀ b, ¬ Z b := ⟨fun _ => False, fun _ h => h⟩
  obtain ⟨root, hroot⟩ : ∃ x, kn3.nowR = x := ⟨_, rfl⟩
  have hr32 : root.length = 32 := by rw [← hroot]; exact length_rootL _ (H32.lvs _)
  have hal := kn_al root hroot
  have Hroot := Lib.hid hroot
  have Hal := Lib.hid hal
  clear hroot hal
  go_enter Try.func8, Try.ntmps8
  refine Code.wp_mono (fun _ _ _ h => BP.out h) ?_
  go_wp2_with fail
  refine (small_any w).mono ?_
  rintro e w1 ⟨rfl, B1⟩
  go_wp2_with fail
  refine (mnew_any Z 2 2 w1 (fun b hb => (hZ b hb).elim) (by decide)).mono ?_
  rintro e w2 ⟨g, R, rfl, h2, hb2⟩
  have B2 := B1.trans (hb2.mono B1.size)
  obtain ⟨lo, hlo⟩ : ∃ x, w1.heap.size = x := ⟨_, rfl⟩
  have hwl : w.heap.size ≤ lo := by rw [← hlo]; exact B1.size
  rw [hlo] at h2
  have h2 : Md Z lo g R kn0 w2 := h2
  clear hlo hb2 B1
  obtain ⟨w3, hc3, hs3, hb3⟩ := litB w2 97
  have h3 := h2.step hb3
  have B3 := B2.trans (hb3.mono B2.size)
  have Hc3 := Lib.hid hc3
  clear hc3 h2 hb3 B2
  go_wp2_with (first
    | ((with_reducible show wpList _ _ _ (⟨some 23, .buildSlice _ _ _, _, _, _, _⟩ :: _) _ _); refine wpList_runG (by kernel_rfl) (.slice (some ⟨w2.heap.size, 0, none⟩) 1 1) (w2.alloc (.cells #[B 97] 5)) (by kernel_rfl) ?_; simp only [Act.put])
    | ((with_reducible show wpList _ _ _ (⟨some 24, .convert _ _ _, _, _, _, _⟩ :: _) _ _); refine wpList_runG (by kernel_rfl) _ w3 (conv_opM 22 22 (.tmp 23) rfl rfl Hc3.out) ?_; simp only [Act.put]))
  refine (msubmit_any Z lo g R kn0 w3 h3 _ 1 1 [97] hs3.all (by decide) (by decide)).mono ?_
  rintro e w4 ⟨rfl, hS4⟩
  rw [kn_s1] at hS4 ⊢
  have B4 := B3.trans ((hS4.below h3 hwl).mono (Nat.le_refl _))
  obtain ⟨R4, h4, -⟩ := hS4.ex
  clear hS4 h3 B3 hs3
  obtain ⟨w5, hc5, hs5, hb5⟩ := litB w4 98
  have h5 := h4.step hb5
  have B5 := B4.trans (hb5.mono B4.size)
  have Hc5 := Lib.hid hc5
  clear hc5 h4 hb5 B4
  go_wp2_with (first
    | ((with_reducible show wpList _ _ _ (⟨some 30, .buildSlice _ _ _, _, _, _, _⟩ :: _) _ _); refine wpList_runG (by kernel_rfl) (.slice (some ⟨w4.heap.size, 0, none⟩) 1 1) (w4.alloc (.cells #[B 98] 5)) (by kernel_rfl) ?_; simp only [Act.put])
    | ((with_reducible show wpList _ _ _ (⟨some 31, .convert _ _ _, _, _, _, _⟩ :: _) _ _); refine wpList_runG (by kernel_rfl) _ w5 (conv_opM 22 22 (.tmp 30) rfl rfl Hc5.out) ?_; simp only [Act.put]))
  refine (msubmit_any Z lo g R4 kn1 w5 h5 _ 1 1 [98] hs5.all (by decide) (by decide)).mono ?_
  rintro e w6 ⟨rfl, hS6⟩
  rw [kn_s2] at hS6 ⊢
  have B6 := B5.trans ((hS6.below h5 hwl).mono (Nat.le_refl _))
  obtain ⟨R6, h6, -⟩ := hS6.ex
  clear hS6 h5 B5 hs5
  obtain ⟨w7, hc7, hs7, hb7⟩ := litB w6 99
  have h7 := h6.step hb7
  have B7 := B6.trans (hb7.mono B6.size)
  have Hc7 := Lib.hid hc7
  clear hc7 h6 hb7 B6
  go_wp2_with (first
    | ((with_reducible show wpList _ _ _ (⟨some 37, .buildSlice _ _ _, _, _, _, _⟩ :: _) _ _); refine wpList_runG (by kernel_rfl) (.slice (some ⟨w6.heap.size, 0, none⟩) 1 1) (w6.alloc (.cells #[B 99] 5)) (by kernel_rfl) ?_; simp only [Act.put])
    | ((with_reducible show wpList _ _ _ (⟨some 38, .convert _ _ _, _, _, _, _⟩ :: _) _ _); refine wpList_runG (by kernel_rfl) _ w7 (conv_opM 22 22 (.tmp 37) rfl rfl Hc7.out) ?_; simp only [Act.put]))
  refine (msubmit_any Z lo g R6 kn2 w7 h7 _ 1 1 [99] hs7.all (by decide) (by decide)).mono ?_
  rintro e w8 ⟨rfl, hS8⟩
  rw [kn_s3] at hS8 ⊢
  have B8 := B7.trans ((hS8.below h7 hwl).mono (Nat.le_refl _))
  obtain ⟨R8, h8, -⟩ := hS8.ex
  clear hS8 h7 B7 hs7
  go_wp2_with fail
  refine (mflush_any Z lo g R8 kn2 w8 h8 rfl (by decide)).mono ?_
  rintro e w9 ⟨rfl, hS9⟩
  rw [kn_fl] at hS9
  have hl1 : ((kn2.ents.length : Nat) : Int) = 0 := rfl
  have hl2 : ((kn2.queue.length : Nat) : Int) = 2 := rfl
  rw [hl1, hl2]
  clear hl1 hl2
  have B9 := B8.trans ((hS9.below h8 hwl).mono (Nat.le_refl _))
  obtain ⟨R9, h9, -⟩ := hS9.ex
  clear hS9 h8 B8
  go_wp2_with fail
  refine (mpublish_any Z lo g R9 kn3 w9 h9 rfl).mono ?_
  rintro e w10 ⟨rfl, hS10⟩
  rw [Hroot.out]
  have B10 := B9.trans ((hS10.below h9 hwl).mono (Nat.le_refl _))
  obtain ⟨R10, h10, -⟩ := hS10.ex
  have h10 : Md Z lo g R10 kn4 w10 := h10
  clear hS10 h9 B9
  go_wp2_with ((with_reducible show wpList _ _ _ (⟨some 6, .alloc _, _, _, _, _⟩ :: _) _ _); refine wpList_pnv (n := 2) (l := root) (.tmp 6) (.tmp 51) rfl rfl rfl rfl rfl rfl hr32 ?_; intro w11 p11 hb11; simp only [Act.put])
  have h11 := h10.step hb11
  have B11 := B10.trans (hb11.mono B10.size)
  refine (mread_any Z lo g R10 kn4 w11 h11 1 (by decide)).mono ?_
  rintro e w12 ⟨A12, c12, rfl, hs12, hb12⟩
  have h12 := h11.step hb12
  have p12 := p11.step hb12
  have B12 := B11.trans (hb12.mono B11.size)
  have hg1 : kn4.ents.getD 1 [] = [98] := rfl
  rw [hg1] at hs12 ⊢
  have hr12 := hs12.room
  have hm12 := hs12.max
  unfold maxLen at hm12
  have c60 := p12.size
  clear h10 h11 B10 B11 hb11 hb12 p11
  obtain ⟨w13, hc13, hs13, hb13⟩ := litB w12 97
  obtain ⟨w14, hc14, hs14, hb14⟩ := litB w13 98
  have hs13' := hs13.step hb14
  have hs12' := (hs12.step hb13).step hb14
  have h14 := (h12.step hb13).step hb14
  have p14 := (p12.step hb13).step hb14
  have B14 := (B12.trans (hb13.mono B12.size)).trans (hb14.mono (Nat.le_trans B12.size hb13.size))
  have Hc13 := Lib.hid hc13
  have Hc14 := Lib.hid hc14
  have hst : ∀ (ρ : Operand → Value) (o : Oper) (x : Operand), o.op = .convert 22 9 x → ρ x = .slice A12 1 c12 → (execOp ρ o).run Try.prog w12 = .ok (.value (.string ⟨#[98]⟩)) w12 := fun _ _ x ho hx => strM_op x ho hx hs12
  have Hst := Lib.hid hst
  have Hs13' := Lib.hid hs13'
  have Hs14 := Lib.hid hs14
  have H14 := Lib.hid h14
  have P14 := Lib.hid p14
  obtain ⟨w15, hw15⟩ : ∃ x, w14.alloc (.cells #[.slice (some ⟨w12.heap.size, 0, none⟩) 1 1, .slice (some ⟨w13.heap.size, 0, none⟩) 1 1] 22) = x := ⟨_, rfl⟩
  have hld : (Instr.loadAt 28 (.pointer (some ⟨w10.heap.size, 0, none⟩))).run Try.prog w15 = .ok (.agg (.int .i64 2 :: root.map B).toArray) w15 := by
    rw [← hw15]
    exact (p14.step ((Below.refl _ _).alloc (Nat.le_refl _) _)).load
  have Hld := Lib.hid hld
  have Hw15 := Lib.hid hw15
  clear hld hst hc13 hc14 hs12 hs12' hs13 hs13' hs14 h14 p14 p12 hg1 h12 hw15 hb13 hb14
  go_wp2_with (first
    | ((with_reducible show wpList _ _ _ (⟨some 79, .convert _ _ _, _, _, _, _⟩ :: _) _ _); refine wpList_runG (by kernel_rfl) (.string ⟨#[98]⟩) _ (Hst.out _ _ (.tmp 78) rfl rfl) ?_; simp only [Act.put, List.setIfInBounds_toArray, List.set_cons_succ, List.set_cons_zero])
    | ((with_reducible show wpList _ _ _ (⟨some 80, .binOp _ _ _ _ _, _, _, _, _⟩ :: _) _ _); refine wpList_runG (by kernel_rfl) (.bool true) _ (by kernel_rfl) ?_; simp only [Act.put, List.setIfInBounds_toArray, List.set_cons_succ, List.set_cons_zero])
    | ((with_reducible show wpList _ _ _ (⟨some 88, .buildSlice _ _ _, _, _, _, _⟩ :: _) _ _); refine wpList_runG (by kernel_rfl) (.slice (some ⟨w12.heap.size, 0, none⟩) 1 1) (w12.alloc (.cells #[B 97] 5)) (by kernel_rfl) ?_; simp only [Act.put, List.setIfInBounds_toArray, List.set_cons_succ, List.set_cons_zero])
    | ((with_reducible show wpList _ _ _ (⟨some 89, .convert _ _ _, _, _, _, _⟩ :: _) _ _); refine wpList_runG (by kernel_rfl) _ w13 (conv_opM 22 22 (.tmp 88) rfl rfl Hc13.out) ?_; simp only [Act.put, List.setIfInBounds_toArray, List.set_cons_succ, List.set_cons_zero])
    | ((with_reducible show wpList _ _ _ (⟨some 90, .buildSlice _ _ _, _, _, _, _⟩ :: _) _ _); refine wpList_runG (by kernel_rfl) (.slice (some ⟨w13.heap.size, 0, none⟩) 1 1) (w13.alloc (.cells #[B 98] 5)) (by kernel_rfl) ?_; simp only [Act.put, List.setIfInBounds_toArray, List.set_cons_succ, List.set_cons_zero])
    | ((with_reducible show wpList _ _ _ (⟨some 91, .convert _ _ _, _, _, _, _⟩ :: _) _ _); refine wpList_runG (by kernel_rfl) _ w14 (conv_opM 22 22 (.tmp 90) rfl rfl Hc14.out) ?_; simp only [Act.put, List.setIfInBounds_toArray, List.set_cons_succ, List.set_cons_zero])
    | ((with_reducible show wpList _ _ _ (⟨some 92, .buildSlice _ _ _, _, _, _, _⟩ :: _) _ _); refine wpList_runG (by kernel_rfl) (.slice (some ⟨w14.heap.size, 0, none⟩) 2 2) (w14.alloc (.cells #[.slice (some ⟨w12.heap.size, 0, none⟩) 1 1, .slice (some ⟨w13.heap.size, 0, none⟩) 1 1] 22)) (by kernel_rfl) ?_; rw [Hw15.out]; simp only [Act.put, List.setIfInBounds_toArray, List.set_cons_succ, List.set_cons_zero])
    | ((with_reducible show wpList _ _ _ (⟨some 93, .load _ _, _, _, _, _⟩ :: _) _ _); refine wpList_runG (by kernel_rfl) _ _ (load_opM (p := .pointer (some ⟨w10.heap.size, 0, none⟩)) 28 (.tmp 6) rfl rfl Hld.out) ?_; simp only [Act.put, List.setIfInBounds_toArray, List.set_cons_succ, List.set_cons_zero])
    | ((with_reducible show wpList _ _ _ (⟨some 94, .build _ _, _, _, _, _⟩ :: _) _ _); refine wpList_runG (by kernel_rfl) _ _ (build_opM 30 (.tmp 92) (.const (.bool true)) (.tmp 93) 0 4 5 rfl rfl rfl rfl (builtFc (some ⟨w14.heap.size, 0, none⟩) 2 2 2 root hr32)) ?_; simp only [Act.put, List.setIfInBounds_toArray, List.set_cons_succ, List.set_cons_zero]))
  have h15 : Md Z lo g R10 kn4 w15 := by rw [← Hw15.out]; exact H14.out.step ((Below.refl _ _).alloc (Nat.le_refl _) _)
  have he15 : Es w15 (fun _ => True) (some ⟨w14.heap.size, 0, none⟩) 2 2 [[97], [98]] := by rw [← Hw15.out]; exact es_lit2M w14 _ _ 1 1 1 1 [97] [98] Hs13'.out.all Hs14.out.all
  have B15 : Below w.heap.size w w15 := by rw [← Hw15.out]; exact B14.alloc B14.size _
  refine (mallows_any Z lo g R10 kn4 w15 h15 _ (some ⟨w14.heap.size, 0, none⟩) 2 2 [[97], [98]] true 2 root (Fnd.of _ 2 2 2 root hr32) he15 (by decide)).mono ?_
  rintro e w16 ⟨rfl, b16⟩
  rw [Hal.out]
  have B16 := B15.trans (b16.mono B15.size)
  clear h15 he15 B15 b16 B14
  go_wp2_with fail
  refine ⟨?_⟩
  refine bodyPost_ret (results_tmp rfl _ _ _) rfl ?_
  exact ⟨rfl, B16⟩
end Go.Proofs.Ytobcfgbkhgkelaa
