/- wire: Reader. -/
import Derived.Test.YtonidnfgneokbaaQd135
namespace Go.Proofs.Ytonidnfgneokbaa
open Go Go.RowKit Go.Shelf
attribute [local go_sem] Oper.semAt_some

theorem numN_take (l : List UInt8) (k : Nat) (h : k < l.length) : numN (l.take (k + 1)) = 256 * numN (l.take k) + (l.getD k 0).toNat := by
  rw [List.take_succ_eq_append_getElem h, numN_snoc, List.getD_eq_getElem?_getD, List.getElem?_eq_getElem h]
  rfl
theorem u64_or_byte (x c : Nat) (hx : 256 * x + c < 18446744073709551616) (hc : c < 256) : bits .or .u64 ((x : Int) * 256) (c : Int) = ((256 * x + c : Nat) : Int) := by
  have h0 : (x : Int) * 256 = ((2 ^ 8 * x : Nat) : Int) := by omega
  rw [h0]
  have h3 : 2 ^ 8 * x ||| c = 2 ^ 8 * x + c := (Nat.two_pow_add_eq_or_of_lt (by omega : c < 2 ^ 8) x).symm
  show IntKind.u64.wrap ((BitVec.ofInt 64 ((2 ^ 8 * x : Nat) : Int) ||| BitVec.ofInt 64 (c : Int)).toNat : Int) = _
  have e1 : (BitVec.ofInt 64 ((2 ^ 8 * x : Nat) : Int)).toNat = 2 ^ 8 * x := by rw [BitVec.toNat_ofInt]; omega
  have e2 : (BitVec.ofInt 64 (c : Int)).toNat = c := by rw [BitVec.toNat_ofInt]; omega
  rw [BitVec.toNat_or, e1, e2, h3, IntKind.wrap_u64]
  omega
set_option maxHeartbeats 4000000 in
set_option maxRecDepth 100000 in
theorem wnumber_any (l : List UInt8) (A : Option Addr) (n c : Nat) (w : World) (h : Sl w (fun _ => True) A n c l) (hn : n ≤ 8) :
    Calls Try.prog 159 #[.slice A n c] w fun e w' => e = .returned (.int .u64 (numN l : Int)) ∧ w' = w := by
  have hlen := h.len
  have hroom := h.room
  have hmx := h.max
  unfold maxLen at hmx
  obtain ⟨res, hres⟩ : ∃ r, numN l = r := ⟨_, rfl⟩
  rw [hres]
  have Hres := Lib.hid hres
  have Hlen := Lib.hid hlen
  clear hres hlen
  go_enter Try.func159, Try.ntmps159
  go_wp2_with fail
  go_loopw [3, 5, 8] (fun v3 _ v8 wr => ∃ k : Nat, k ≤ n ∧ v8 = .int .i64 (k : Int) ∧ v3 = .int .u64 (numN (l.take k) : Int) ∧ wr = w) (fun _ _ v8 _ => n - (intOf v8).toNat)
  case atStart => exact ⟨0, Nat.zero_le _, rfl, by rw [List.take_zero]; rfl, rfl⟩
  case round =>
    obtain ⟨k, hk, rfl, rfl, rfl⟩ := hrel
    by_cases hkn : k < n
    · have hd : decide ((k : Int) < (n : Int)) = true := by simp; omega
      have hwk : IntKind.i64.wrap ((k : Int) + 1) = (k : Int) + 1 := IntWalk.i64_in _ (by omega)
      obtain ⟨b, o, rfl, -, -, hat⟩ := h.cells (by omega)
      have hce := hat k hkn
      have hnt := numN_take l k (by rw [Hlen.out]; exact hkn)
      have hlt := numN_lt _ (l.take (k + 1)) rfl
      have h8 : 256 ^ (l.take (k + 1)).length ≤ 256 ^ 8 := Nat.pow_le_pow_right (by decide) (by rw [List.length_take, Hlen.out]; omega)
      have hlt : numN (l.take (k + 1)) < 256 ^ 8 := Nat.lt_of_lt_of_le hlt h8
      obtain ⟨m, hm⟩ : ∃ m, numN (l.take k) = m := ⟨_, rfl⟩
      obtain ⟨y, hy⟩ : ∃ y, l.getD k 0 = y := ⟨_, rfl⟩
      rw [hm, hy] at hnt
      rw [hy] at hce
      have hy2 := y.toNat_lt
      have hor := u64_or_byte m y.toNat (by omega) (by omega)
      rw [← hnt] at hor
      have hwy : IntKind.u64.wrap (y.toNat : Int) = (y.toNat : Int) := by rw [IntKind.wrap_u64]; omega
      have hm2 : m < 72057594037927936 := by omega
      obtain ⟨z, hz⟩ : ∃ z, numN (l.take (k + 1)) = z := ⟨_, rfl⟩
      rw [hz] at hor
      have Hz := Lib.hid hz
      rw [hm]
      clear hat hnt hlt h8 hy hm hz
      go_wp2_with fail
      go_roundw
      case rel => exact ⟨k + 1, by omega, by go_num, by rw [Hz.out], by first | rfl | trivial⟩
      case measure => simp [intOf] <;> omega
    · obtain rfl : k = n := by omega
      have hd : decide ((k : Int) < (k : Int)) = false := by simp
      rw [List.take_of_length_le (by rw [Hlen.out]; exact Nat.le_refl _), Hres.out]
      go_wp2_with fail
      go_ret
      exact ⟨rfl, rfl⟩

/-- a reader, its bytes, how many have been read -/
structure RdO (W : World) (X : Nat → Prop) (g : Nat) (l : List UInt8) (p : Nat) : Prop where
  ex : ∃ A n c, Blk W g 179 #[.slice A n c, .int .i64 (p : Int)] ∧ Sl W X A n c l
  off : ∀ b, X b → b ≠ g
  le : p ≤ l.length
theorem RdO.step {W W' : World} {X : Nat → Prop} {g p : Nat} {l : List UInt8} (h : RdO W X g l p) (hb : Below W.heap.size W W') : RdO W' X g l p := ⟨let ⟨A, n, c, h1, h2⟩ := h.ex; ⟨A, n, c, h1.step hb, h2.step hb⟩, h.off, h.le⟩
theorem RdO.lt {W : World} {X : Nat → Prop} {g p : Nat} {l : List UInt8} (h : RdO W X g l p) : g < W.heap.size := let ⟨_, _, _, h1, _⟩ := h.ex; h1.lt
theorem RdO.weak {W : World} {X Y : Nat → Prop} {g p : Nat} {l : List UInt8} (h : RdO W X g l p) (h1 : ∀ b, b < W.heap.size → X b → Y b) (h2 : ∀ b, Y b → b ≠ g) : RdO W Y g l p := ⟨let ⟨A, n, c, k1, k2⟩ := h.ex; ⟨A, n, c, k1, k2.weak h1⟩, h2, h.le⟩
theorem RdO.grown {W W' : World} {X : Nat → Prop} {g p r : Nat} {l : List UInt8} (h : RdO W X g l p) (hg : W.grownBy W' (some r)) (h1 : g ≠ r) (h2 : ∀ b, X b → b ≠ r) : RdO W' X g l p := ⟨let ⟨A, n, c, k1, k2⟩ := h.ex; ⟨A, n, c, k1.grown hg (fun e => h1 (Option.some.inj e)), k2.grown hg (fun b _ hb e => h2 b hb (Option.some.inj e))⟩, h.off, h.le⟩
theorem sliceB1 : Try.prog.underlying 23 = some (.slice (Try.prog.elem 23)) := by kernel_rfl
theorem sizeB1 : ∀ W : World, (sizeOf (Try.prog.elem 23)).run Try.prog W = .ok 1 W := fun _ => by kernel_rfl
theorem run_slice_op_bothB {ρ : Operand → Value} {o : Oper} (x y z : Operand) (ho : o.op = .slice 23 x (some y) (some z) none) (A : Option Addr) (n c a b : Nat) (hx : ρ x = .slice A n c) (hy : ρ y = .int .i64 (a : Int)) (hz : ρ z = .int .i64 (b : Int)) (hab : a ≤ b) (hb : b ≤ c) (W : World) :
    (execOp ρ o).run Try.prog W = .ok (.value (.slice (if c = a then A else A.map (·.add (a * 1))) (b - a) (c - a))) W := by
  unfold execOp
  simp only [ho, hx, hy, hz, Option.map_some, Option.map_none]
  simp only [run_sliceAt_slice W 23 _ _ _ _ sliceB1, run_slice_lh W 23 A n c sliceB1 .i64 .i64 (a : Int) (b : Int) (by omega) (by omega) (by omega), sizeB1, Sem.run_bind, Sem.run_pure, Result.andThen_ok, sliced, Int.toNat_natCast]

set_option maxHeartbeats 4000000 in
set_option maxRecDepth 100000 in
theorem rdleft_any (X : Nat → Prop) (g : Nat) (l : List UInt8) (p : Nat) (w : World) (h : RdO w X g l p) :
    Calls Try.prog 111 #[.pointer (some ⟨g, 0, none⟩)] w fun e w' => e = .returned (.int .i64 ((l.length - p : Nat) : Int)) ∧ Below w.heap.size w w' := by
  obtain ⟨A, n, c, hk, hs⟩ := h.ex
  have hle := h.le
  have hlen := hs.len
  have hmx := hs.max
  have hroom := hs.room
  unfold maxLen at hmx
  have hw : IntKind.i64.wrap ((n : Int) - (p : Int)) = ((l.length - p : Nat) : Int) := by rw [IntWalk.i64_in _ (by omega)]; omega
  have c8 : ∀ s : InC (fun W => Below w.heap.size w W), s.W.cell? ⟨g, 0, none⟩ = some (.slice A n c) := fun s => by rw [(hk.step s.ok).cell]; rfl
  have c13 : ∀ s : InC (fun W => Below w.heap.size w W), s.W.cell? ⟨g, 1, none⟩ = some (.int .i64 (p : Int)) := fun s => by rw [(hk.step s.ok).cell]; rfl
  obtain ⟨d, hd⟩ : ∃ d, l.length - p = d := ⟨_, rfl⟩
  rw [hd] at hw ⊢
  clear hd hs hk h hlen
  go_enter Try.func111, Try.ntmps111
  go_wp2_with fail
  have hS : Below w.heap.size w w.drew := (Below.refl _ _).drew
  refine wp_region_mix (fun W => Below w.heap.size w W) [(0, true), (1, true), (2, true), (3, true), (4, true), (5, true), (6, true), (7, true), (8, true), (9, true), (10, true)] (by kernel_rfl) (by kernel_rfl) hS fun _ => ?_
  simp only [List.map_cons, List.map_nil, Array.getD_eq_getD_getElem?, List.getElem?_toArray, List.getElem?_cons_succ, List.getElem?_cons_zero, Option.getD_some]
  generalize w.drew = u2 at hS ⊢
  refine wpMix_s (fun K hK => ?_)
  go_simp
  refine hK _ ?_
  clear hK K
  refine wpMix_s (fun K hK => ?_)
  go_simp
  refine hK _ ?_
  clear hK K
  refine wpMix_s (fun K hK => ?_)
  go_simp
  refine hK _ ?_
  clear hK K
  refine wpMix_s (fun K hK => ?_)
  go_simp
  refine hK _ ?_
  clear hK K
  refine wpMix_s (fun K hK => ?_)
  go_simp
  refine hK _ ?_
  clear hK K
  refine wpMix_s (fun K hK => ?_)
  go_simp
  refine hK _ ?_
  clear hK K
  refine wpMix_s (fun K hK => ?_)
  go_simp
  refine hK _ ?_
  clear hK K
  refine wpMix_s (fun K hK => ?_)
  go_simp
  refine hK _ ?_
  clear hK K
  refine wpMix_s (fun K hK => ?_)
  go_simp
  refine hK _ ?_
  clear hK K
  refine wpMix_s (fun K hK => ?_)
  go_simp
  refine hK _ ?_
  clear hK K
  refine wpMix_s (fun K hK => ?_)
  go_simp
  refine hK _ ?_
  clear hK K
  refine wpMix_nil ?_
  intro _
  go_wp2_with fail
  go_ret
  exact ⟨rfl, hS⟩
set_option maxHeartbeats 4000000 in
set_option maxRecDepth 100000 in
theorem rdnew_any (l : List UInt8) (A : Option Addr) (n c : Nat) (w : World) (h : Sl w (fun _ => True) A n c l) (hn : n ≤ 1099511627776) :
    Calls Try.prog 109 #[.slice A n c] w fun e w' => ∃ g, e = .returned (.pointer (some ⟨g, 0, none⟩)) ∧ w.heap.size ≤ g ∧ RdO w' (fun b => w.heap.size ≤ b ∧ b < g) g l 0 ∧ Below w.heap.size w w' := by
  have hc := cloneb_any l A n c w h hn
  have Hc := Lib.hid hc
  clear hc h
  go_enter Try.func109, Try.ntmps109
  go_wp2_with (go_at_call 142; refine Hc.out.mono ?_; rintro e w1 ⟨v, rfl, ho, hb⟩; obtain ⟨A1, c1, rfl, hs⟩ := owns_slv ho)
  go_ret
  refine ⟨w1.heap.size, rfl, hb.size, ⟨⟨A1, _, c1, Blk.new _ _ _, ?_⟩, fun b hb => Nat.ne_of_lt hb.2, Nat.zero_le _⟩, hb.trans ((Below.refl _ _).alloc hb.size _)⟩
  have hs2 := hs.weak (Y := fun b => w.heap.size ≤ b ∧ b < w1.heap.size) fun b hb hx => ⟨hx.1, hb⟩
  exact Sl.alloc ⟨hs2.bs, rfl, hs2.room, hs2.nil, hs2.max⟩ _
set_option maxHeartbeats 4000000 in
set_option maxRecDepth 100000 in
theorem take1_any (gx : Nat) (l : List UInt8) (A : Option Addr) (n c : Nat) (u : Int) (w : World) (h : Sl w (fun _ => True) A n c l) (hn : n ≤ 8) (hk : Blk w gx 163 #[.int .u64 u]) :
    Calls Try.prog 158 #[.slice A n c, .pointer (some ⟨gx, 0, none⟩)] w fun e w' => e = .returned (.int .i64 0) ∧ Blk w' gx 163 #[.int .u64 (numN l : Int)] ∧ w.grownBy w' (some gx) := by
  have hnum := wnumber_any l A n c w h hn
  obtain ⟨z, hz⟩ : ∃ z, numN l = z := ⟨_, rfl⟩
  rw [hz] at hnum ⊢
  have Hnum := Lib.hid hnum
  have c1 : w.cell? ⟨gx, 0, none⟩ = some (.int .u64 u) := by rw [hk.cell]; rfl
  have f1 := hk.frozen 0
  clear hnum hz h
  go_enter Try.func158, Try.ntmps158
  go_wp2_with (go_at_call 159; refine Hnum.out.mono ?_; rintro e w2 ⟨rfl, hww⟩; obtain rfl := hww.symm)
  go_ret
  exact ⟨rfl, hk.set_ 0 _, grownBy_setCell' _ _ _⟩

theorem run_toArray_opF {ρ : Operand → Value} {o : Oper} (x : Operand) (ho : o.op = .sliceToArrayPointer 25 x) (a : Addr) (n c : Nat) (hx : ρ x = .slice (some a) n c) (hn : 32 ≤ n) (W : World) : (execOp ρ o).run Try.prog W = .ok (.value (.pointer (some a))) W := by
  unfold execOp
  simp only [ho, hx, run_arrayAt (P := Try.prog) (w := W) 25 5 32 (some a) n c (by kernel_rfl) hn, Sem.run_bind, Sem.run_pure, Result.andThen_ok]
theorem Sl.hash {W : World} {X : Nat → Prop} {b o n c : Nat} {l : List UInt8} (h : Sl W X (some ⟨b, o, .none⟩) n c l) (hl : l.length = 32) : (Instr.loadAt 25 (.pointer (some ⟨b, o, .none⟩))).run Try.prog W = .ok (.agg (l.map B).toArray) W :=
  run_load_agg (agg26 _) (size26 _) b o (l.map B) (by simp [hl]) fun j u hu => by
    obtain ⟨b', o', e, -, -, hat⟩ := h.cells (by have := h.len; omega)
    cases e
    rcases Nat.lt_or_ge j l.length with hj | hj
    · rw [hat j (by have := h.len; omega)]
      rw [List.getElem?_map, List.getElem?_eq_getElem hj] at hu
      rw [List.getD_eq_getElem?_getD, List.getElem?_eq_getElem hj]
      exact hu
    · rw [List.getElem?_eq_none (by simpa using hj)] at hu
      cases hu
set_option maxHeartbeats 4000000 in
set_option maxRecDepth 100000 in
theorem hash1_any (gx : Nat) (l z : List UInt8) (A : Option Addr) (c : Nat) (w : World) (h : Sl w (fun _ => True) A 32 c l) (hk : HV w gx z) :
    Calls Try.prog 145 #[.slice A 32 c, .pointer (some ⟨gx, 0, none⟩)] w fun e w' => e = .returned (.int .i64 0) ∧ HV w' gx l ∧ w.grownBy w' (some gx) := by
  have hl := h.len
  obtain ⟨b, o, rfl, -, -, -⟩ := h.cells (by omega)
  have hld := h.hash hl
  have Hld := Lib.hid hld
  clear hld h
  go_enter Try.func145, Try.ntmps145
  go_wp2_with (first
    | ((with_reducible show wpList _ _ _ (⟨some 5, .sliceToArrayPointer _ _, _, _, _, _⟩ :: _) _ _); refine wpList_run0 rfl _ (run_toArray_opF (.tmp 4) rfl ⟨b, o, none⟩ 32 c rfl (Nat.le_refl _) _) ?_; simp only [Act.put])
    | ((with_reducible show wpList _ _ _ (⟨some 6, .load _ _, _, _, _, _⟩ :: _) _ _); refine wpList_run0 rfl (.agg (l.map B).toArray) (run_load_op 25 (.tmp 5) rfl b o rfl _ Hld.out) ?_; simp only [Act.put])
    | ((with_reducible show wpList _ _ _ [⟨none, .store _ (.tmp 1) _, _, _, _, _⟩] _ _); refine wpList_hset (.tmp 1) (.tmp 6) rfl rfl hk rfl rfl hl ?_; intro w2 k2 hb2 hW2; have hg2 : w.grownBy w2 (some gx) := (by rw [hW2]; exact grown_setRow (grown_of_below (Below.refl _ _) _) _); clear hW2; simp only [Act.put]))
  go_ret
  exact ⟨rfl, k2, hg2⟩

/-- two blocks are written, at most -/
structure K2 (w w' : World) (g gx : Nat) : Prop where
  os : w'.os = w.os
  tape : w'.tape = w.tape
  output : w'.output = w.output
  size : w.heap.size ≤ w'.heap.size
  block : ∀ k, k < w.heap.size → k ≠ g → k ≠ gx → w'.heap[k]? = w.heap[k]?
theorem K2.grown {w0 w w' : World} {g gx : Nat} (h : K2 w w' g gx) (hg : w0.grownBy w (some g)) (hx : w0.heap.size ≤ gx) : w0.grownBy w' (some g) :=
  ⟨h.os.trans hg.os, h.tape.trans hg.tape, h.output.trans hg.output, Nat.le_trans hg.size h.size, fun k hk hne => (h.block k (Nat.lt_of_lt_of_le hk hg.size) (fun e => hne (by rw [e])) (by omega)).trans (hg.block k hk hne)⟩
theorem K2.of {w w1 w' : World} {g gx : Nat} (h1 : w.grownBy w1 (some g)) (h2 : w1.grownBy w' (some gx)) : K2 w w' g gx :=
  ⟨h2.os.trans h1.os, h2.tape.trans h1.tape, h2.output.trans h1.output, Nat.le_trans h1.size h2.size, fun k hk h3 h4 => (h2.block k (Nat.lt_of_lt_of_le hk h1.size) (fun e => h4 (Option.some.inj e))).trans (h1.block k hk (fun e => h3 (Option.some.inj e)))⟩
theorem K2.g {w w' : World} {g gx : Nat} (h1 : w.grownBy w' (some g)) : K2 w w' g gx := ⟨h1.os, h1.tape, h1.output, h1.size, fun k hk h3 _ => h1.block k hk (fun e => h3 (Option.some.inj e))⟩

set_option maxHeartbeats 4000000 in
set_option maxRecDepth 100000 in
theorem nextT_any (X : Nat → Prop) (g gx : Nat) (l : List UInt8) (p : Nat) (u : Int) (w : World) (h : RdO w X g l p) (hk : Blk w gx 163 #[.int .u64 u]) (hgx : gx ≠ g) (hXx : ∀ b, X b → b ≠ gx) :
    Calls Try.prog 144 #[.pointer (some ⟨g, 0, none⟩), .int .i64 8, .func (.func 158) #[] #[.pointer (some ⟨gx, 0, none⟩)]] w fun e w' =>
      (p + 8 ≤ l.length ∧ e = .returned (.int .i64 0) ∧ RdO w' X g l (p + 8) ∧ Blk w' gx 163 #[.int .u64 (numN ((l.drop p).take 8) : Int)] ∨ ¬ p + 8 ≤ l.length ∧ e = .returned (.int .i64 110) ∧ RdO w' X g l p ∧ Blk w' gx 163 #[.int .u64 u]) ∧ K2 w w' g gx := by
  have hleft := rdleft_any X g l p w h
  obtain ⟨A, n, c, hkg, hs⟩ := h.ex
  have hle := h.le
  have hoff := h.off
  have hlen := hs.len
  have hmx := hs.max
  have hroom := hs.room
  unfold maxLen at hmx
  have Hleft := Lib.hid hleft
  obtain ⟨d, hd⟩ : ∃ d, l.length - p = d := ⟨_, rfl⟩
  rw [hd] at hleft
  have Hleft := Lib.hid hleft
  by_cases hfit : p + 8 ≤ l.length
  · have hdec : decide ((d : Int) < 8) = false := by simp; omega
    have hdec' : ¬ (d : Int) < 8 := by omega
    have hw : IntKind.i64.wrap ((p : Int) + 8) = ((p + 8 : Nat) : Int) := by rw [IntWalk.i64_in _ (by omega)]; omega
    have hw' : ((p + 8 : Nat) : Int) = (p : Int) + 8 := by omega
    go_enter Try.func144, Try.ntmps144
    clear hleft hd
    go_wp2_with (first
      | (go_at_call 111; refine Hleft.out.mono ?_; rintro e w1 ⟨rfl, hb1⟩; replace hkg := hkg.step hb1; replace hs := hs.step hb1; replace hk := hk.step hb1; have c20 : w1.cell? ⟨g, 1, none⟩ = some (.int .i64 (p : Int)) := (by rw [hkg.cell]; rfl); have f20 := hkg.frozen 1; obtain ⟨W2, hW2⟩ : ∃ W2, w1.setCell ⟨g, 1, none⟩ (.int .i64 ((p : Int) + 8)) = W2 := ⟨_, rfl⟩; have hk2 : Blk W2 g 179 #[.slice A n c, .int .i64 ((p : Int) + 8)] := (by rw [← hW2]; exact hkg.set_ 1 _); have c33 : W2.cell? ⟨g, 0, none⟩ = some (.slice A n c) := (by rw [hk2.cell]; rfl); have hs2 : Sl W2 X A n c l := (by rw [← hW2]; exact hs.setCell (p := ⟨g, 1, none⟩) _ (fun hX => hoff g hX rfl)); have hgs : w1.grownBy W2 (some g) := (by rw [← hW2]; exact grown_setCell (grown_of_below (Below.refl _ _) _) 1 _); have hkx := hk.grown hgs (fun e => hgx (Option.some.inj e)); have hgW := grown_same (grown_of_below hb1 (some g)) hgs; have hsl := (((hs2.take (p + 8) (by omega)).drop p (by omega)).weak (Y := fun _ => True) fun _ _ _ => trivial); rw [if_neg (by omega : ¬ c = p), Nat.mul_one, Nat.add_sub_cancel_left, List.drop_take, Nat.add_sub_cancel_left] at hsl; have Hw2 := Lib.hid hW2; have Hsl := Lib.hid hsl; clear hW2 hsl hgs hb1)
      | rw [Hw2.out]
      | (go_at_call 158; refine (take1_any gx ((l.drop p).take 8) _ 8 _ u W2 Hsl.out (Nat.le_refl _) hkx).mono ?_; rintro e W3 ⟨rfl, hk3, hg3⟩))
    go_ret
    have hk4 : Blk W3 g 179 #[.slice A n c, .int .i64 ((p + 8 : Nat) : Int)] := by rw [hw']; exact hk2.grown hg3 (fun e => hgx (Option.some.inj e).symm)
    exact ⟨.inl ⟨hfit, rfl, ⟨⟨A, n, c, hk4, hs2.grown hg3 (fun b _ hX e => hXx b hX (Option.some.inj e))⟩, hoff, hfit⟩, hk3⟩, K2.of hgW hg3⟩
  · have hdec : decide ((d : Int) < 8) = true := by simp; omega
    have hdec' : (d : Int) < 8 := by omega
    go_enter Try.func144, Try.ntmps144
    clear hleft hd
    go_wp2_with (go_at_call 111; refine Hleft.out.mono ?_; rintro e w1 ⟨rfl, hb1⟩)
    go_ret
    exact ⟨.inr ⟨hfit, rfl, h.step hb1, hk.step hb1⟩, K2.g (grown_of_below hb1 _)⟩


set_option maxHeartbeats 4000000 in
set_option maxRecDepth 100000 in
theorem nextH_any (X : Nat → Prop) (g gx : Nat) (l : List UInt8) (p : Nat) (z : List UInt8) (w : World) (h : RdO w X g l p) (hk : HV w gx z) (hgx : gx ≠ g) (hXx : ∀ b, X b → b ≠ gx) :
    Calls Try.prog 144 #[.pointer (some ⟨g, 0, none⟩), .int .i64 32, .func (.func 145) #[] #[.pointer (some ⟨gx, 0, none⟩)]] w fun e w' =>
      (p + 32 ≤ l.length ∧ e = .returned (.int .i64 0) ∧ RdO w' X g l (p + 32) ∧ HV w' gx ((l.drop p).take 32) ∨ ¬ p + 32 ≤ l.length ∧ e = .returned (.int .i64 110) ∧ RdO w' X g l p ∧ HV w' gx z) ∧ K2 w w' g gx := by
  have hleft := rdleft_any X g l p w h
  obtain ⟨A, n, c, hkg, hs⟩ := h.ex
  have hle := h.le
  have hoff := h.off
  have hlen := hs.len
  have hmx := hs.max
  have hroom := hs.room
  unfold maxLen at hmx
  have Hleft := Lib.hid hleft
  obtain ⟨d, hd⟩ : ∃ d, l.length - p = d := ⟨_, rfl⟩
  rw [hd] at hleft
  have Hleft := Lib.hid hleft
  by_cases hfit : p + 32 ≤ l.length
  · have hdec : decide ((d : Int) < 32) = false := by simp; omega
    have hdec' : ¬ (d : Int) < 32 := by omega
    have hw : IntKind.i64.wrap ((p : Int) + 32) = ((p + 32 : Nat) : Int) := by rw [IntWalk.i64_in _ (by omega)]; omega
    have hw' : ((p + 32 : Nat) : Int) = (p : Int) + 32 := by omega
    go_enter Try.func144, Try.ntmps144
    clear hleft hd
    go_wp2_with (first
      | (go_at_call 111; refine Hleft.out.mono ?_; rintro e w1 ⟨rfl, hb1⟩; replace hkg := hkg.step hb1; replace hs := hs.step hb1; replace hk := hk.step hb1; have c20 : w1.cell? ⟨g, 1, none⟩ = some (.int .i64 (p : Int)) := (by rw [hkg.cell]; rfl); have f20 := hkg.frozen 1; obtain ⟨W2, hW2⟩ : ∃ W2, w1.setCell ⟨g, 1, none⟩ (.int .i64 ((p : Int) + 32)) = W2 := ⟨_, rfl⟩; have hk2 : Blk W2 g 179 #[.slice A n c, .int .i64 ((p : Int) + 32)] := (by rw [← hW2]; exact hkg.set_ 1 _); have c33 : W2.cell? ⟨g, 0, none⟩ = some (.slice A n c) := (by rw [hk2.cell]; rfl); have hs2 : Sl W2 X A n c l := (by rw [← hW2]; exact hs.setCell (p := ⟨g, 1, none⟩) _ (fun hX => hoff g hX rfl)); have hgs : w1.grownBy W2 (some g) := (by rw [← hW2]; exact grown_setCell (grown_of_below (Below.refl _ _) _) 1 _); have hkx := (⟨hk.blk.grown hgs (fun e => hgx (Option.some.inj e)), hk.len⟩ : HV W2 gx z); have hgW := grown_same (grown_of_below hb1 (some g)) hgs; have hsl := (((hs2.take (p + 32) (by omega)).drop p (by omega)).weak (Y := fun _ => True) fun _ _ _ => trivial); rw [if_neg (by omega : ¬ c = p), Nat.mul_one, Nat.add_sub_cancel_left, List.drop_take, Nat.add_sub_cancel_left] at hsl; have Hw2 := Lib.hid hW2; have Hsl := Lib.hid hsl; clear hW2 hsl hgs hb1)
      | rw [Hw2.out]
      | (go_at_call 145; refine (hash1_any gx ((l.drop p).take 32) z _ _ W2 Hsl.out hkx).mono ?_; rintro e W3 ⟨rfl, hk3, hg3⟩))
    go_ret
    have hk4 : Blk W3 g 179 #[.slice A n c, .int .i64 ((p + 32 : Nat) : Int)] := by rw [hw']; exact hk2.grown hg3 (fun e => hgx (Option.some.inj e).symm)
    exact ⟨.inl ⟨hfit, rfl, ⟨⟨A, n, c, hk4, hs2.grown hg3 (fun b _ hX e => hXx b hX (Option.some.inj e))⟩, hoff, hfit⟩, hk3⟩, K2.of hgW hg3⟩
  · have hdec : decide ((d : Int) < 32) = true := by simp; omega
    have hdec' : (d : Int) < 32 := by omega
    go_enter Try.func144, Try.ntmps144
    clear hleft hd
    go_wp2_with (go_at_call 111; refine Hleft.out.mono ?_; rintro e w1 ⟨rfl, hb1⟩)
    go_ret
    exact ⟨.inr ⟨hfit, rfl, h.step hb1, hk.step hb1⟩, K2.g (grown_of_below hb1 _)⟩

end Go.Proofs.Ytonidnfgneokbaa
