/- tree.Path. -/
import Derived.Test.YtfhmjgkcpcnkbaaDoorQf114
import Derived.Test.YtfhmjgkcpcnkbaaDoorQf124
import Derived.Test.YtfhmjgkcpcnkbaaDoorQf110
import Derived.Test.YtfhmjgkcpcnkbaaDoorQf123
import Derived.Test.YtfhmjgkcpcnkbaaDoorQf107
import Derived.Lib.MinMax
import Derived.Test.YtfhmjgkcpcnkbaaDoorQf122
import Derived.Shelf.Spec.TrailingZeros
import Derived.Test.YtfhmjgkcpcnkbaaDoorQf119
namespace Go.Proofs.YtfhmjgkcpcnkbaaDoor
open Go Go.RowKit

theorem natR_append (a b : List (Nat × Nat)) : natR (a ++ b) = natR a ++ natR b := by simp [natR]
theorem natR_length (a : List (Nat × Nat)) : (natR a).length = a.length := by simp [natR]

/-- where a number is no entry's -/
theorem tpath_bad (i n : Int) (w : World) (h : i < 0 ∨ n ≤ i) :
    Calls Tryd.prog 54 #[.int .i64 i, .int .i64 n] w fun e w' => e = .returned (.tuple #[.slice none 0 0, .int .i64 4]) ∧ w = w' := by
  by_cases h0 : i < 0
  · go_enter Tryd.func54, Tryd.ntmps54
    go_wp2_with fail
    go_ret2
    exact ⟨rfl, rfl⟩
  · have h1 : decide (n ≤ i) = true := by simp; omega
    have h0' : decide (i < 0) = false := by simp; omega
    go_enter Tryd.func54, Tryd.ntmps54
    go_wp2_with fail
    go_ret2
    exact ⟨rfl, rfl⟩

structure PtC (w : World) (os : List (Nat × Nat)) (v : Value) (W : World) : Prop where
  own : W.ownsRow w.heap.size 96 2 v os.length (rcells (natR os))
  bel : Below w.heap.size w W

set_option maxHeartbeats 2000000 in
set_option maxRecDepth 100000 in
theorem tpath_ok (i n : Nat) (w : World) (hi : i < n) (hn : n ≤ 9223372036854775807) :
    Calls Tryd.prog 54 #[.int .i64 (i : Int), .int .i64 (n : Int)] w fun e w' => ∃ v, e = .returned (.tuple #[v, .int .i64 0]) ∧ w'.ownsRow w.heap.size 96 2 v (pathL i 0 n).length (rcells (natR (pathL i 0 n))) ∧ Below w.heap.size w w' := by
  obtain ⟨p, hp⟩ : ∃ p, pathL i 0 n = p := ⟨_, rfl⟩
  have hpl : p.length ≤ 63 := by rw [← hp]; exact pathL_len 63 i 0 n (by omega)
  rw [hp]
  have Hp := Lib.hid hp
  clear hp
  have h0 : decide ((i : Int) < 0) = false := by simp
  have h1 : decide ((n : Int) ≤ (i : Int)) = false := by simp; omega
  have h1' : decide (n ≤ i) = false := by simp; omega
  go_enter Tryd.func54, Tryd.ntmps54
  go_wp2_with fail
  clear h0 h1 h1'
  go_loopw [6, 7, 8] (fun o f t wr => ∃ (a b : Nat) (v : Value) (os : List (Nat × Nat)), f = .int .i64 (a : Int) ∧ t = .int .i64 (b : Int) ∧ v = o ∧ a ≤ i ∧ i < b ∧ b ≤ n ∧ pathL i a b ++ os.reverse = p ∧ PtC w os v wr) (fun _ f t => fun _ => (intOf t - intOf f).toNat)
  case atStart => exact ⟨0, n, _, [], rfl, rfl, rfl, Nat.zero_le _, hi, Nat.le_refl _, by simpa using Hp.out, World.ownsRow_nil _ _ _ _, Below.refl _ _⟩
  case round =>
    obtain ⟨a, b, v, os, rfl, rfl, rfl, ha, hib, hbn, hpa, hC⟩ := hrel
    have hol : os.length ≤ 63 := by have := congrArg List.length hpa; rw [List.length_append, List.length_reverse] at this; omega
    by_cases hgt : 1 < b - a
    · have hd : decide ((1 : Int) < (b : Int) - (a : Int)) = true := by simp; omega
      have hsl := splitN_lt (b - a) (by omega)
      have hsp := splitN_pos (b - a) (by omega)
      have hpl' := pathL_left i a b (by omega)
      have hpr' := pathL_right i a b (by omega)
      have hspl := fun w => tsplit_any ((b : Int) - (a : Int)) w (by omega)
      rw [show ((b : Int) - (a : Int)).toNat = b - a by omega] at hspl
      obtain ⟨s, hs⟩ : ∃ s, splitN (b - a) = s := ⟨_, rfl⟩
      rw [hs] at hsl hsp hpl' hpr' hspl
      have Hpl := Lib.hid hpl'
      have Hpr := Lib.hid hpr'
      have Hspl := Lib.hid hspl
      have Hpa := Lib.hid hpa
      clear hs hpl' hpr' hspl hpa
      by_cases hlt : i < a + s
      · have hd2 : decide ((i : Int) < (a : Int) + (s : Int)) = true := by simp; omega
        obtain ⟨v', w', hr, ho, hg, -⟩ := append_r hC.own (((a + s : Nat) : Int), (b : Int)) (by omega) hC.bel.size
        rw [show natR os ++ [(((a + s : Nat) : Int), (b : Int))] = natR (os ++ [(a + s, b)]) by rw [natR_append]; rfl] at ho
        rw [show os.length + 1 = (os ++ [(a + s, b)]).length by simp] at ho
        rw [show ((a + s : Nat) : Int) = (a : Int) + (s : Int) by omega] at hr
        have hC2 : PtC w (os ++ [(a + s, b)]) v' w' := ⟨ho, hC.bel.grown hg hC.bel.size (fun k hk => (hC.own.lt k hk).1)⟩
        have Hr := Lib.hid hr
        clear hr ho hg hC
        go_wp2_with (first
          | (go_at_call 71; refine (Hspl.out _).mono ?_; rintro e w2 ⟨rfl, rfl⟩)
          | ((with_reducible show wpList _ _ _ (⟨some 36, .call _, _, _, _, _⟩ :: _) _ _); refine wpList_run rfl v' w' (run_append_op (.tmp 31) (.tmp 35) 107 rfl _ _ rfl rfl Hr.out) ?_; simp only [Act.put]))
        refine ⟨⟨a, a + s, v', os ++ [(a + s, b)], rfl, by go_num, rfl, ha, hlt, by omega, ?_, hC2⟩, ?_⟩
        · rw [← Hpa.out, Hpl.out hlt]; simp
        · simp [intOf]; omega
      · have hd2 : decide ((i : Int) < (a : Int) + (s : Int)) = false := by simp; omega
        obtain ⟨v', w', hr, ho, hg, -⟩ := append_r hC.own ((a : Int), ((a + s : Nat) : Int)) (by omega) hC.bel.size
        rw [show natR os ++ [((a : Int), ((a + s : Nat) : Int))] = natR (os ++ [(a, a + s)]) by rw [natR_append]; rfl] at ho
        rw [show os.length + 1 = (os ++ [(a, a + s)]).length by simp] at ho
        rw [show ((a + s : Nat) : Int) = (a : Int) + (s : Int) by omega] at hr
        have hC2 : PtC w (os ++ [(a, a + s)]) v' w' := ⟨ho, hC.bel.grown hg hC.bel.size (fun k hk => (hC.own.lt k hk).1)⟩
        have Hr := Lib.hid hr
        clear hr ho hg hC
        go_wp2_with (first
          | (go_at_call 71; refine (Hspl.out _).mono ?_; rintro e w2 ⟨rfl, rfl⟩)
          | ((with_reducible show wpList _ _ _ (⟨some 43, .call _, _, _, _, _⟩ :: _) _ _); refine wpList_run rfl v' w' (run_append_op (.tmp 38) (.tmp 42) 107 rfl _ _ rfl rfl Hr.out) ?_; simp only [Act.put]))
        refine ⟨⟨a + s, b, v', os ++ [(a, a + s)], by go_num, rfl, rfl, by omega, hib, hbn, ?_, hC2⟩, ?_⟩
        · rw [← Hpa.out, Hpr.out hlt]; simp
        · simp [intOf]; omega
    · have hd : decide ((1 : Int) < (b : Int) - (a : Int)) = false := by simp; omega
      have hos : os.reverse = p := by rw [← hpa, pathL_small i a b (by omega)]; rfl
      have hol2 : os.length = p.length := by rw [← hos, List.length_reverse]
      have hrev := rev_any (natR os) v os.length w.heap.size wr hC.own (natR_length os) (by omega)
      rw [show (natR os).reverse = natR p by rw [← hos]; simp [natR], hol2] at hrev
      have Hrev := Lib.hid hrev
      clear hos hpa hrev
      go_wp2_with fail
      refine Hrev.out.mono ?_
      rintro e w2 ⟨⟨r, rfl⟩, ho2, hg2⟩
      have hb2 := hC.bel.grown hg2 hC.bel.size (fun k hk => (hC.own.lt k hk).1)
      clear hol2
      go_wp2_with fail
      go_ret2
      exact ⟨_, rfl, ho2, hb2⟩
end Go.Proofs.YtfhmjgkcpcnkbaaDoor
/- notaryref09.SameRanges, SameHashes: where two lists are alike. -/
namespace Go.Proofs.YtfhmjgkcpcnkbaaDoor
open Go Go.RowKit

theorem underR : Tryd.prog.underlying 96 = some (.struct (Tryd.prog.fieldsOf 96)) := by kernel_rfl
theorem heldR : Tryd.prog.stoodInHeld 96 = false := by kernel_rfl
theorem guardR : Tryd.prog.eqGuardType Tryd.prog.depth 96 = false := by kernel_rfl
theorem run_neqR (a b c d : Int) (W : World) : (binOp .neq 96 (.agg #[.int .i64 a, .int .i64 b]) (.agg #[.int .i64 c, .int .i64 d])).run Tryd.prog W = .ok (.bool (!(a == c && b == d))) W := by
  have hf : (Tryd.prog.fieldsOf 96).toList = [{ name := "From", type := 2, offset := 0, embedded := false, tag := "", pkgPath := "", byteOffset := 0 }, { name := "To", type := 2, offset := 1, embedded := false, tag := "", pkgPath := "", byteOffset := 8 }] := by kernel_rfl
  rw [run_neq_struct, run_equalIn_agg W 9999 _ _ _ underR heldR, hf]
  simp [go_sem, part, Op.eqFields]
  by_cases h1 : a = c <;> by_cases h2 : b = d <;> simp [h1, h2]
theorem run_neqR_f {ρ : Operand → Value} {o : Oper} (x y : Operand) (ty : TypeId) (a b : Int) (ho : o.op = .binOp .neq 96 x y ty) (hx : ρ x = .agg #[.int .i64 a, .int .i64 b]) (hy : ρ y = .agg #[.int .i64 a, .int .i64 b]) (W : World) :
    (execOp ρ o).run Tryd.prog W = .ok (.value (.bool false)) W := by
  unfold execOp
  simp only [ho, hx, hy, run_eqGuard_agg W .neq 96 x y _ _ guardR, Sem.run_bind, Sem.run_pure, run_neqR, Result.andThen_ok]
  simp

structure SrC (w : World) (A A' : Option Addr) (n c c' : Nat) (l : List (Int × Int)) (W : World) : Prop where
  h1 : Rs W (fun _ => True) A n c l
  h2 : Rs W (fun _ => True) A' n c' l
  bel : Below w.heap.size w W
theorem SrC.drew {w W : World} {A A' : Option Addr} {n c c' : Nat} {l : List (Int × Int)} (h : SrC w A A' n c c' l W) : SrC w A A' n c c' l W.drew := ⟨h.h1.drew, h.h2.drew, h.bel.drew⟩

structure SmC (w : World) (A A' : Option Addr) (n c c' : Nat) (hs : List (List UInt8)) (W : World) : Prop where
  h1 : Hs W (fun _ => True) A n c hs
  h2 : Hs W (fun _ => True) A' n c' hs
  bel : Below w.heap.size w W
theorem SmC.drew {w W : World} {A A' : Option Addr} {n c c' : Nat} {hs : List (List UInt8)} (h : SmC w A A' n c c' hs W) : SmC w A A' n c c' hs W.drew := ⟨h.h1.drew, h.h2.drew, h.bel.drew⟩

end Go.Proofs.YtfhmjgkcpcnkbaaDoor
/- tiles: places in memory. -/
namespace Go.Proofs.YtfhmjgkcpcnkbaaDoor
open Go Go.RowKit
attribute [local go_sem] Oper.semAt_some

abbrev PlV := Nat × Nat × Nat
def plcell (p : PlV) : List Value := [.int .i64 (p.1 : Int), .int .i64 (p.2.1 : Int), .int .i64 (p.2.2 : Int)]
def plcells (l : List PlV) : List Value := (l.map plcell).flatten
theorem plcell3 (l : List PlV) : ∀ cs ∈ l.map plcell, cs.length = 3 := fun cs h => by obtain ⟨p, -, rfl⟩ := List.mem_map.1 h; rfl
theorem plcells_len (l : List PlV) : (plcells l).length = l.length * 3 := by unfold plcells; rw [flat_len _ (plcell3 l), List.length_map]
theorem plcells_append (a b : List PlV) : plcells (a ++ b) = plcells a ++ plcells b := by simp [plcells]
theorem plcells_one (p : PlV) : plcells [p] = plcell p := by simp [plcells]
theorem plcells_set (l : List PlV) (k : Nat) (p : PlV) (hk : k < l.length) : (plcells l).take (k * 3) ++ plcell p ++ (plcells l).drop (k * 3 + 3) = plcells (l.set k p) := by
  unfold plcells
  rw [List.map_set]
  have h1 : (l.map plcell) = (l.take k).map plcell ++ plcell l[k] :: (l.drop (k + 1)).map plcell := by
    rw [← List.map_cons, ← List.map_append, ← List.drop_eq_getElem_cons hk, List.take_append_drop]
  have h2 : ((l.take k).map plcell).flatten.length = k * 3 := by
    rw [flat_len _ (plcell3 _), List.length_map, List.length_take, Nat.min_eq_left (by omega)]
  have hk' : k < (l.map plcell).length := by rw [List.length_map]; exact hk
  rw [List.set_eq_take_append_cons_drop, if_pos hk', List.flatten_append, List.flatten_cons, ← List.map_take, ← List.map_drop]
  have h3 : (l.map plcell).flatten = ((l.take k).map plcell).flatten ++ (plcell l[k] ++ ((l.drop (k + 1)).map plcell).flatten) := by
    rw [h1, List.flatten_append, List.flatten_cons]
  rw [h3, List.take_left' h2, List.drop_append, h2, List.drop_of_length_le (by omega), List.nil_append, show k * 3 + 3 - k * 3 = 3 by omega, show (3 : Nat) = (plcell l[k]).length from rfl, List.drop_left, List.append_assoc]
theorem aggPl : ∀ w : World, (isAgg 30).run Tryd.prog w = .ok true w := fun _ => by kernel_rfl
theorem sizePl : ∀ w : World, (sizeOf 30).run Tryd.prog w = .ok 3 w := fun _ => by kernel_rfl
theorem infoPl : (Tryd.prog.info? 30).map (fun i => (i.zero, i.size, i.bytes)) = some (some (.agg #[.int .i64 0, .int .i64 0, .int .i64 0]), 3, 24) := by kernel_rfl
theorem one_pl (l : List PlV) : ∀ u ∈ plcells l, u.oneCell' = true := fun u hu => by
  obtain ⟨cs, h1, h2⟩ := List.mem_flatten.1 hu
  obtain ⟨p, -, rfl⟩ := List.mem_map.1 h1
  simp only [plcell, List.mem_cons, List.not_mem_nil, or_false] at h2
  rcases h2 with rfl | rfl | rfl <;> rfl
/-- a slice of places -/
structure Pls (W : World) (X : Nat → Prop) (A : Option Addr) (n c : Nat) (l : List PlV) : Prop where
  sl : SlV W X A n c 3 (plcells l)
  len : l.length = n
section
variable {W W' : World} {X Y : Nat → Prop} {A : Option Addr} {n c lo : Nat} {l : List PlV}
theorem Pls.weak (h : Pls W X A n c l) (hX : ∀ b, b < W.heap.size → X b → Y b) : Pls W Y A n c l := ⟨h.sl.weak hX, h.len⟩
theorem Pls.step (h : Pls W X A n c l) (hb : Below W.heap.size W W') : Pls W' X A n c l := ⟨h.sl.step hb, h.len⟩
theorem Pls.of_owns (h : W.ownsRow lo 30 3 (.slice A n c) n (plcells l)) (hl : l.length = n) : Pls W (lo ≤ ·) A n c l := by
  obtain ⟨A', c', hv, hs⟩ := owns_slv h
  cases hv
  exact ⟨hs.weak fun b _ hb => hb.1, hl⟩
theorem Pls.load (h : Pls W X A n c l) {b o : Nat} (hA : A = some ⟨b, o, none⟩) (i : Nat) (hi : i < n) : (Instr.loadAt 30 (.pointer (some ⟨b, o + i * 3, none⟩))).run Tryd.prog W = .ok (.agg (plcell (l.getD i (0, 0, 0))).toArray) W := by
  obtain ⟨b', o', e, -, -, h4⟩ := h.sl.at_ (by omega) (by decide)
  rw [hA] at e
  cases e
  refine run_load_agg (aggPl _) (sizePl _) b (o + i * 3) (plcell (l.getD i (0, 0, 0))) rfl fun j u hu => ?_
  rw [Nat.add_assoc]
  refine h4 _ u (flat_atC _ (plcell3 l) i j u (by rw [List.length_map, h.len]; exact hi) ?_)
  rw [List.getD_eq_getElem?_getD, List.getElem?_map, List.getElem?_eq_getElem (l := l) (by rw [h.len]; exact hi)]
  rw [List.getD_eq_getElem?_getD, List.getElem?_eq_getElem (l := l) (by rw [h.len]; exact hi)] at hu
  exact hu
/-- one place more -/
theorem app_place {v : Value} (h : W.ownsRow lo 30 3 v n (plcells l)) (hl : l.length = n) (hlo : lo ≤ W.heap.size) (hn : n ≤ 1000000) (p : PlV) :
    ∃ A' c' W', (Builtin.append_ #[22, 22] 22 #[v, .slice (some ⟨W.heap.size, 0, none⟩) 1 1]).run Tryd.prog (W.alloc (.cells (plcell p).toArray 30)) = .ok (.slice A' (n + 1) c') W' ∧
      W'.ownsRow lo 30 3 (.slice A' (n + 1) c') (n + 1) (plcells (l ++ [p])) ∧ Below lo W W' := by
  obtain ⟨W1, hW1⟩ : ∃ x, W.alloc (.cells (plcell p).toArray 30) = x := ⟨_, rfl⟩
  have hb1 : Below W.heap.size W W1 := by rw [← hW1]; exact (Below.refl _ _).alloc (Nat.le_refl _) _
  have k1 : Blk W1 W.heap.size 30 (plcell p).toArray := by rw [← hW1]; exact Blk.new _ _ _
  have hs : SlV W1 (fun _ => True) (some ⟨W.heap.size, 0, none⟩) 1 1 3 (plcell p) := SlV.of_blk (n := 1) (s := 3) k1 rfl (by decide) trivial
  rw [hW1]
  obtain ⟨v', W', hr, ho, hg, hv⟩ := append_slv (ty := 22) Tryd.underlying22 infoPl rfl (by decide) (owns_step h hb1) hs (by rw [← plcells_one]; exact one_pl _) (by unfold maxLen; omega) (by omega) (Nat.le_trans hlo hb1.size)
  rw [← plcells_one, ← plcells_append] at ho
  obtain ⟨A', c', rfl, -⟩ := owns_slv ho
  refine ⟨A', c', W', hr, ho, (hb1.mono hlo).trans ((Below.refl lo W1).grown hg (Nat.le_trans hlo hb1.size) fun k hk => ?_)⟩
  rcases h.2 with ⟨rfl, _⟩ | ⟨g, cap, cur, rfl, hg0, _⟩
  · cases hk
  · cases hk
    exact hg0
end
set_option maxRecDepth 100000 in
theorem run_litPl_op {ρ : Operand → Value} {o : Oper} (x : Operand) (a b c : Int) (ho : o.op = .buildSlice 22 1 #[(0, x)]) (hx : ρ x = .agg #[.int .i64 a, .int .i64 b, .int .i64 c]) (W : World) :
    (execOp ρ o).run Tryd.prog W = .ok (.value (.slice (some ⟨W.heap.size, 0, none⟩) 1 1)) (W.alloc (.cells #[.int .i64 a, .int .i64 b, .int .i64 c] 30)) := by
  unfold execOp
  simp only [ho, Sem.run_bind, Sem.run_pure, List.map_toArray, List.map_cons, List.map_nil, hx]
  kernel_rfl
theorem guardPl : Tryd.prog.eqGuardType Tryd.prog.depth 30 = false := by kernel_rfl
theorem underPl : Tryd.prog.underlying 30 = some (.struct (Tryd.prog.fieldsOf 30)) := by kernel_rfl
theorem heldPl : Tryd.prog.stoodInHeld 30 = false := by kernel_rfl
theorem run_neqPl (a b c : Int) (W : World) : (binOp .neq 30 (.agg #[.int .i64 a, .int .i64 b, .int .i64 c]) (.agg #[.int .i64 a, .int .i64 b, .int .i64 c])).run Tryd.prog W = .ok (.bool false) W := by
  have hf : (Tryd.prog.fieldsOf 30).toList = [{ name := "Level", type := 3, offset := 0, embedded := false, tag := "", pkgPath := "", byteOffset := 0 }, { name := "Index", type := 2, offset := 1, embedded := false, tag := "", pkgPath := "", byteOffset := 8 }, { name := "Width", type := 3, offset := 2, embedded := false, tag := "", pkgPath := "", byteOffset := 16 }] := by kernel_rfl
  rw [run_neq_struct, run_equalIn_agg W 9999 _ _ _ underPl heldPl, hf]
  simp [go_sem, part, Op.eqFields]
theorem run_neqPl_f {ρ : Operand → Value} {o : Oper} (x y : Operand) (ty : TypeId) (a b c : Int) (ho : o.op = .binOp .neq 30 x y ty) (hx : ρ x = .agg #[.int .i64 a, .int .i64 b, .int .i64 c]) (hy : ρ y = .agg #[.int .i64 a, .int .i64 b, .int .i64 c]) (W : World) :
    (execOp ρ o).run Tryd.prog W = .ok (.value (.bool false)) W := by
  unfold execOp
  simp only [ho, hx, hy, run_eqGuard_agg W .neq 30 x y _ _ guardPl, Sem.run_bind, Sem.run_pure, run_neqPl, Result.andThen_ok]
end Go.Proofs.YtfhmjgkcpcnkbaaDoor
/- tiles: the root of a whole stretch, in plain Lean; math/bits.TrailingZeros64. -/
namespace Go.Proofs.YtfhmjgkcpcnkbaaDoor
open Go Go.RowKit
attribute [local go_sem] Oper.semAt_some

theorem pf_split (h k : Nat) : 2 ^ k = 2 ^ (k % h) * 2 ^ (h * (k / h)) := by
  rw [← Nat.pow_add]
  congr 1
  have := Nat.div_add_mod k h
  omega
theorem pf_shift (h k c : Nat) : c * 2 ^ k / 2 ^ (h * (k / h)) = c * 2 ^ (k % h) := by
  rw [pf_split h k, ← Nat.mul_assoc, Nat.mul_div_cancel _ (Nat.two_pow_pos _)]
theorem pf_cnt (h k c : Nat) (L : HL) (hc : (c + 1) * 2 ^ k ≤ L.length) : (c + 1) * 2 ^ (k % h) ≤ cT h (k / h) L.length := by
  unfold cT
  rw [Nat.le_div_iff_mul_le (Nat.two_pow_pos _), Nat.mul_assoc, ← pf_split]
  exact hc
theorem pf_in (h k c : Nat) (hh : 1 ≤ h) : c * 2 ^ (k % h) % 2 ^ h + 2 ^ (k % h) ≤ 2 ^ h := by
  have hm : k % h < h := Nat.mod_lt _ hh
  obtain ⟨d, hd⟩ : ∃ d, h = k % h + d := ⟨h - k % h, by omega⟩
  have e : 2 ^ h = 2 ^ (k % h) * 2 ^ d := by rw [← Nat.pow_add, ← hd]
  rw [e, Nat.mul_comm c, Nat.mul_mod_mul_left]
  have h1 : c % 2 ^ d < 2 ^ d := Nat.mod_lt _ (Nat.two_pow_pos _)
  have h2 : 2 ^ (k % h) * (c % 2 ^ d) + 2 ^ (k % h) = 2 ^ (k % h) * (c % 2 ^ d + 1) := by rw [Nat.mul_add, Nat.mul_one]
  rw [h2]
  exact Nat.mul_le_mul_left _ h1
theorem pf_len (h k c : Nat) (L : HL) (hh : 1 ≤ h) (hc : (c + 1) * 2 ^ k ≤ L.length) : c * 2 ^ (k % h) % 2 ^ h + 2 ^ (k % h) ≤ (ck (2 ^ h) (c * 2 ^ (k % h) / 2 ^ h) (lvT h (k / h) L)).length := by
  have h1 := pf_in h k c hh
  have h2 := pf_cnt h k c L hc
  have h3 := Nat.div_add_mod (c * 2 ^ (k % h)) (2 ^ h)
  unfold ck
  rw [List.length_take, List.length_drop, lvT_len]
  rw [Nat.add_mul, Nat.one_mul] at h2
  rw [Nat.mul_comm (2 ^ h)] at h3
  omega
theorem pf_root (h k c : Nat) (L : HL) (hh : 1 ≤ h) (hc : (c + 1) * 2 ^ k ≤ L.length) :
    rootL (((ck (2 ^ h) (c * 2 ^ (k % h) / 2 ^ h) (lvT h (k / h) L)).drop (c * 2 ^ (k % h) % 2 ^ h)).take (2 ^ (k % h))) = rootL ((L.drop (c * 2 ^ k)).take (2 ^ k)) := by
  have hl := pf_len h k c L hh hc
  have h2 : (c + 1) * (2 ^ (k % h) * 2 ^ (h * (k / h))) ≤ L.length := by rw [← pf_split]; exact hc
  have h4 := root_chunks (h * (k / h)) L (k % h) c h2
  have h5 : ck (2 ^ (k % h) * 2 ^ (h * (k / h))) c L = (L.drop (c * 2 ^ k)).take (2 ^ k) := by rw [← pf_split]; rfl
  rw [← h5, ← h4]
  congr 1
  have h3 := Nat.div_add_mod (c * 2 ^ (k % h)) (2 ^ h)
  rw [Nat.mul_comm (2 ^ h)] at h3
  apply List.ext_getElem
  · rw [List.length_take, List.length_drop, List.length_map, List.length_range]; omega
  · intro i h6 h7
    have hi : i < 2 ^ (k % h) := by simpa using h7
    rw [List.getElem_take, List.getElem_drop, List.getElem_map, List.getElem_range]
    obtain ⟨h8, h9⟩ := ck_get (2 ^ h) (c * 2 ^ (k % h) / 2 ^ h) (lvT h (k / h) L) (c * 2 ^ (k % h) % 2 ^ h + i) (by omega)
    rw [h9, lvT_get]
    congr 2
    omega
theorem pow2_is : ∀ (k n : Nat), n ≤ k → pow2 n = true → ∃ j, n = 2 ^ j
  | 0, n, hk, h => by
    obtain rfl : n = 0 := by omega
    cases h
  | k + 1, n, hk, h => by
    by_cases h2 : 2 ≤ n
    · obtain ⟨he, hp⟩ := pow2_half n h h2
      obtain ⟨j, hj⟩ := pow2_is k (n / 2) (by omega) hp
      exact ⟨j + 1, by rw [Nat.pow_succ, ← hj]; omega⟩
    · have h0 : n ≠ 0 := by rintro rfl; cases h
      exact ⟨0, by rw [Nat.pow_zero]; omega⟩
theorem ctz_pow (j : Nat) (hj : j < 63) : Lib.ctz 64 (2 ^ j) = j := by
  have hp := Nat.two_pow_pos j
  have hlt : 2 ^ j < 2 ^ 64 := Nat.pow_lt_pow_right (by decide) (by omega)
  unfold Lib.ctz
  rw [if_neg (by omega)]
  obtain ⟨m, hm, hc⟩ := Lib.ctzFrom_spec 64 (2 ^ j) hp hlt
  generalize Lib.ctzFrom 64 (2 ^ j) = c at hm hc ⊢
  have hle : c ≤ j := by
    apply Classical.byContradiction
    intro hne
    have h1 : 2 ^ (j + 1) ≤ 2 ^ c := Nat.pow_le_pow_right (by decide) (by omega)
    have h2 : 2 ^ c ≤ 2 ^ c * (2 * m + 1) := Nat.le_mul_of_pos_right _ (by omega)
    rw [Nat.pow_succ] at h1
    omega
  obtain ⟨d, rfl⟩ : ∃ d, j = c + d := ⟨j - c, by omega⟩
  rw [Nat.pow_add] at hm
  have h3 := Nat.eq_of_mul_eq_mul_left (Nat.two_pow_pos c) hm
  cases d with
  | zero => rfl
  | succ d => rw [Nat.pow_succ] at h3; omega
/-- the table that TrailingZeros64 looks into -/
def Tab (W : World) : Prop := TabAt 0 Lib.deBruijn64tab W
section
variable {W W' : World} {M : Nat → Prop} {N : Nat}
theorem Tab.block (h : Tab W) (hb : W'.heap[0]? = W.heap[0]?) : Tab W' := fun j hj => (World.cell?_of_block hb).trans (h j hj)
theorem Tab.lt (h : Tab W) : 0 < W.heap.size := by
  have := h 0 (by decide)
  unfold World.cell? at this
  rcases Nat.eq_zero_or_pos W.heap.size with h0 | h0
  · rw [Array.getElem?_eq_none (by omega)] at this; cases this
  · exact h0
theorem Tab.below (h : Tab W) (hb : Below N W W') (hN : 0 < N) : Tab W' := h.block (hb.block 0 hN)
theorem Tab.step (h : Tab W) (hb : Below W.heap.size W W') : Tab W' := h.below hb h.lt
theorem Tab.kb (h : Tab W) (hk : KB M W W') (hM : ¬ M 0) : Tab W' := h.block (hk.block 0 h.lt hM)
end
set_option maxHeartbeats 1000000 in
theorem tz64_core (x k idx : Nat) (w : World) (hx0 : ((x : Int) == 0) = false)
    (key : IntKind.u64.wrap (bits BinOp.and IntKind.u64 (x : Int) (IntKind.u64.wrap (-(x : Int))) * 285870213051353865) / 288230376151711744 = (idx : Int))
    (hi : idx < 64) (hk : k < 64) (hcell : w.cell? ⟨0, idx, none⟩ = some (.int .u8 k)) :
    Calls Tryd.prog 81 #[.int .u64 (x : Int)] w fun e w' => e = .returned (.int .i64 (k : Int)) ∧ w' = w := by
  go_enter Tryd.func81, Tryd.ntmps81
  go_wp2_with (simp only [key])
  go_ret
  exact ⟨rfl, rfl⟩
theorem tz64_any (x : Nat) (hx : x < 18446744073709551616) (hx0 : x ≠ 0) (w : World) (hT : Tab w) :
    Calls Tryd.prog 81 #[.int .u64 (x : Int)] w fun e w' => e = .returned (.int .i64 (Lib.ctz 64 x : Int)) ∧ w' = w := by
  obtain ⟨hlow, hk⟩ := Lib.lowest_bit 64 x hx0 hx
  obtain ⟨hi, htab⟩ := Lib.deBruijn64_at _ hk
  have hcell := hT _ hi
  rw [htab] at hcell
  exact tz64_core x _ _ w (by simp; omega) (tz64_key x _ hx hx0 hlow) hi hk hcell
end Go.Proofs.YtfhmjgkcpcnkbaaDoor
/- tiles: perfect, the root of a whole stretch. -/
namespace Go.Proofs.YtfhmjgkcpcnkbaaDoor
open Go Go.RowKit
attribute [local go_sem] Oper.semAt_some

theorem run_slice_op_bothH {ρ : Operand → Value} {o : Oper} (x y z : Operand) (ho : o.op = .slice 36 x (some y) (some z) none) (A : Option Addr) (n c a b m : Nat) (hx : ρ x = .slice A n c) (hy : ρ y = .int .i64 (a : Int)) (hz : ρ z = .int .i64 (b : Int)) (hbm : b = a + m) (hb : b ≤ c) (W : World) :
    (execOp ρ o).run Tryd.prog W = .ok (.value (.slice (if c = a then A else A.map (·.add (a * 32))) m (c - a))) W := by
  obtain rfl : m = b - a := by omega
  have hab : a ≤ b := by omega
  unfold execOp
  simp only [ho, hx, hy, hz, Option.map_some, Option.map_none]
  simp only [run_sliceAt_slice W 36 _ _ _ _ sliceT57, run_slice_lh W 36 A n c sliceT57 .i64 .i64 (a : Int) (b : Int) (by omega) (by omega) (by omega), size57, Sem.run_bind, Sem.run_pure, Result.andThen_ok, sliced, Int.toNat_natCast]
theorem run_quoT_op {ρ : Operand → Value} {o : Oper} (x y : Operand) (ty : TypeId) (n h : Nat) (hh : h ≠ 0) (ho : o.op = .binOp .quo 3 x y ty) (hx : ρ x = .int .i64 (n : Int)) (hy : ρ y = .int .i64 (h : Int)) (hn : n < 9223372036854775808) (W : World) :
    (execOp ρ o).run Tryd.prog W = .ok (.value (.int .i64 ((n / h : Nat) : Int))) W := by
  have h0 : (h : Int) ≠ 0 := by omega
  have hq : n / h ≤ n := Nat.div_le_self _ _
  obtain ⟨q, hqe⟩ : ∃ q, n / h = q := ⟨_, rfl⟩
  have e : (n : Int) / (h : Int) = (q : Int) := by rw [← hqe]; rfl
  rw [hqe] at hq ⊢
  clear hqe
  have h1 : IntKind.i64.wrap (q : Int) = (q : Int) := IntWalk.i64_in _ ⟨by omega, by omega⟩
  unfold execOp
  simp only [ho, hx, hy]
  go_simp
theorem run_remT_op {ρ : Operand → Value} {o : Oper} (x y : Operand) (ty : TypeId) (n h : Nat) (hh : h ≠ 0) (ho : o.op = .binOp .rem 3 x y ty) (hx : ρ x = .int .i64 (n : Int)) (hy : ρ y = .int .i64 (h : Int)) (W : World) :
    (execOp ρ o).run Tryd.prog W = .ok (.value (.int .i64 ((n % h : Nat) : Int))) W := by
  have h0 : (h : Int) ≠ 0 := by omega
  obtain ⟨q, hqe⟩ : ∃ q, n % h = q := ⟨_, rfl⟩
  have e : (n : Int).tmod (h : Int) = (q : Int) := by rw [← hqe, Int.tmod_eq_emod_of_nonneg (by omega)]; rfl
  rw [hqe]
  clear hqe
  unfold execOp
  simp only [ho, hx, hy]
  go_simp
set_option maxHeartbeats 4000000 in
set_option maxRecDepth 100000 in
theorem tperfect_any (lo p m h : Nat) (f : Int → Int → Option Value) (L : HL) (c k : Nat) (w : World) (ht : Ti lo p m h f L w) (hc : (c + 1) * 2 ^ k ≤ L.length) :
    Calls Tryd.prog 80 #[.pointer (some ⟨p, 0, none⟩), .int .i64 ((c * 2 ^ k : Nat) : Int), .int .i64 (k : Int)] w fun e w' => e = .returned (.agg ((rootL ((L.drop (c * 2 ^ k)).take (2 ^ k))).map B).toArray) ∧ Below w.heap.size w w' := by
  have h1 := ht.h1
  have h8 := ht.h8
  have hmax := ht.max
  have hpk := Nat.two_pow_pos k
  have hck : c * 2 ^ k + 2 ^ k ≤ L.length := by rw [Nat.add_mul, Nat.one_mul] at hc; exact hc
  have hk17 : k < 17 := by
    apply Classical.byContradiction
    intro hne
    have := Nat.pow_le_pow_right (n := 2) (by decide) (show 17 ≤ k by omega)
    omega
  have hsh := pf_shift h k c
  have hrt := pf_root h k c L h1 hc
  have hln := pf_len h k c L h1 hc
  have hmo8 : k % h < h := Nat.mod_lt _ h1
  have hlvk : k / h ≤ k := Nat.div_le_self _ _
  have hsk : h * (k / h) ≤ k := Nat.mul_div_le k h
  have hm2 : 2 ^ (k % h) ≤ 256 := Nat.pow_le_pow_right (n := 2) (by decide) (show k % h ≤ 8 by omega)
  have hs2 : 2 ^ h ≤ 256 := Nat.pow_le_pow_right (n := 2) (by decide) h8
  obtain ⟨r, hr⟩ : ∃ r, rootL ((L.drop (c * 2 ^ k)).take (2 ^ k)) = r := ⟨_, rfl⟩
  have hr32 : r.length = 32 := by rw [← hr]; exact length_rootL _ ((ht.all.drop _).take _)
  obtain ⟨fr, hfr⟩ : ∃ fr, c * 2 ^ k = fr := ⟨_, rfl⟩
  obtain ⟨lv, hlv⟩ : ∃ lv, k / h = lv := ⟨_, rfl⟩
  obtain ⟨mo, hmo⟩ : ∃ mo, k % h = mo := ⟨_, rfl⟩
  rw [hr] at hrt ⊢
  rw [hfr] at hsh hck ⊢
  rw [hlv] at hsh hrt hln hlvk hsk
  rw [hmo] at hsh hrt hln hmo8 hm2
  obtain ⟨n, hn⟩ : ∃ n, c * 2 ^ mo = n := ⟨_, rfl⟩
  rw [hn] at hsh hrt hln
  obtain ⟨s, hs⟩ : ∃ s, h * lv = s := ⟨_, rfl⟩
  rw [hs] at hsh hsk
  have hws : IntKind.i64.wrap ((lv : Int) * (h : Int)) = (s : Int) := by
    rw [← Int.natCast_mul, Nat.mul_comm, hs, IntWalk.i64_in _ (by omega)]
  have hnf : n ≤ fr := by rw [← hsh]; exact Nat.div_le_self _ _
  obtain ⟨b, hb⟩ : ∃ b, n / 2 ^ h = b := ⟨_, rfl⟩
  have hbn : b ≤ n := by rw [← hb]; exact Nat.div_le_self _ _
  obtain ⟨a, ha⟩ : ∃ a, n % 2 ^ h = a := ⟨_, rfl⟩
  rw [hb, ha] at hrt hln
  rw [← tileG_nat] at hrt hln
  have hil : I64 (lv : Int) := ⟨by omega, by omega⟩
  have hib : I64 (b : Int) := ⟨by omega, by omega⟩
  obtain ⟨A, cp, hv, hsl⟩ := owns_slv (ht.t.rows.get lv b)
  have hH : Hs w (fun _ => True) A (tileG h L lv b).length cp (tileG h L lv b) := ⟨hsl.all, rfl, tileG_32 h L ht.all lv b⟩
  have hroom := hsl.room
  have hlook := fun V (hV : Below w.heap.size w V) => (ht.step hV).t.map.look false hil hib
  simp only [hv, Bool.false_eq_true, if_false] at hlook
  have h256 := tileG_len h L lv b
  obtain ⟨G, hG⟩ : ∃ G, tileG h L lv b = G := ⟨_, rfl⟩
  rw [hG] at hrt hln hlook hH h256 hroom
  obtain ⟨m2, hm2e⟩ : ∃ m2, 2 ^ mo = m2 := ⟨_, rfl⟩
  obtain ⟨s2, hs2e⟩ : ∃ s2, 2 ^ h = s2 := ⟨_, rfl⟩
  have hpm := Nat.two_pow_pos mo
  have hps := Nat.two_pow_pos h
  have hand : bits .and .i64 (n : Int) ((s2 - 1 : Nat) : Int) = (a : Int) := by
    rw [i64_and_nat n (s2 - 1) (by omega) (by omega), ← hs2e, Nat.and_two_pow_sub_one_eq_mod, ha]
  have hsh1 : IntKind.i64.wrap ((2 : Int) ^ h) = (s2 : Int) := by rw [← hs2e]; exact pow8 h h8
  have hsh2 : IntKind.i64.wrap ((2 : Int) ^ mo) = (m2 : Int) := by rw [← hm2e]; exact pow8 mo (by omega)
  have hh0' : (0 : Int) ≤ (h : Int) := by omega
  have hh64 : (h : Int) ≤ 64 := by omega
  have hmo0 : (0 : Int) ≤ (mo : Int) := by omega
  have hmo64 : (mo : Int) ≤ 64 := by omega
  rw [hm2e] at hln hm2 hrt hpm
  rw [hs2e] at hs2 h256 hps
  have hwsub : IntKind.i64.wrap ((s2 : Int) - 1) = ((s2 - 1 : Nat) : Int) := by rw [IntWalk.i64_in _ (by omega)]; omega
  obtain ⟨hi, hhi⟩ : ∃ hi, a + m2 = hi := ⟨_, rfl⟩
  have hwadd : IntKind.i64.wrap ((a : Int) + (m2 : Int)) = (hi : Int) := by rw [IntWalk.i64_in _ (by omega)]; omega
  have htop : topL ((G.drop a).take m2) = r := by
    rw [topL_root mo _ (by rw [List.length_take, List.length_drop, hm2e]; omega), hrt]
  obtain ⟨A', hA'⟩ : ∃ x, (if cp = a then A else A.map (·.add (a * 32))) = x := ⟨_, rfl⟩
  obtain ⟨cq, hcq⟩ : ∃ x, cp - a = x := ⟨_, rfl⟩
  have hHt : Hs w (fun _ => True) A' m2 cq ((G.drop a).take m2) := by
    have h9 := (hH.take (a + m2) hln).drop a (by omega)
    rw [List.drop_take, Nat.add_sub_cancel_left] at h9
    rwa [hA', hcq] at h9
  have hcall := fun V (hV : Below w.heap.size w V) => top_ok ((G.drop a).take m2) _ _ _ V (hHt.step hV) (by rw [← hm2e]; exact pow2_two mo) (by omega)
  rw [htop] at hcall
  have hsop := fun (ρ : Operand → Value) (o : Oper) (ho : o.op = .slice 36 (.tmp 56) (some (.tmp 57)) (some (.tmp 61)) none) (hx : ρ (.tmp 56) = .slice A G.length cp) (hy : ρ (.tmp 57) = .int .i64 (a : Int)) (hz : ρ (.tmp 61) = .int .i64 (hi : Int)) (W : World) => run_slice_op_bothH (.tmp 56) (.tmp 57) (.tmp 61) ho A G.length cp a hi m2 hx hy hz (by omega) (by omega) W
  rw [hA', hcq] at hsop
  have hT := fun V (hV : Below w.heap.size w V) => ht.step hV
  have Hcall := Lib.hid hcall
  have Hlook := Lib.hid hlook
  have HT := Lib.hid hT
  have Hr32 := Lib.hid hr32
  have Hsh := Lib.hid hsh
  have Hlv := Lib.hid hlv
  have Hmo := Lib.hid hmo
  have Hb := Lib.hid hb
  have Hm2e := Lib.hid hm2e
  have Hs2e := Lib.hid hs2e
  have Hsop := Lib.hid hsop
  have hh0 : h ≠ 0 := by omega
  have Hh0 := Lib.hid hh0
  have hk63 : k < 9223372036854775808 := by omega
  have hs62 : s ≤ 62 := by omega
  have hmo8' : mo ≤ 8 := by omega
  have hh62 : h ≤ 62 := by omega
  clear hcall hlook hT hr32 hsh hlv hmo hb hm2e hs2e hHt htop hH hsl hv hG hrt hln ha hn hs hfr hr hh0 hsop hA' hcq hhi hil hib hroom hmax hc hck hpk hpm hps hk17 ht
  go_enter Tryd.func80, Tryd.ntmps80
  refine Code.wp_mono (fun _ _ _ h => BP.out h) ?_
  go_wp2_with ((with_reducible show wpList _ _ _ (⟨some 6, .alloc _, _, _, _, _⟩ :: _) _ _); refine wpList_hnew rfl rfl ?_; intro w1 k6 hb1; simp only [Act.put, List.setIfInBounds_toArray, List.set_cons_succ, List.set_cons_zero])
  have k6l := k6.lt
  have c0 : ∀ s : InC (fun V => Below w1.heap.size w1 V), s.W.cell? ⟨p, 0, none⟩ = some (.int .i64 (h : Int)) := fun s => (HT.out s.W (hb1.trans (Below.mono s.ok hb1.size))).c0
  have hS : Below w1.heap.size w1 w1.drew := (Below.refl _ _).drew
  refine wp_region_mix (fun W => Below w1.heap.size w1 W) [(0, true), (1, true), (2, true), (3, true), (4, true), (5, true), (6, true), (7, true), (8, true), (9, true), (10, true), (11, true), (12, true), (13, true)] (by kernel_rfl) (by kernel_rfl) hS fun _ => ?_
  simp only [List.map_cons, List.map_nil, Array.getD_eq_getD_getElem?, List.getElem?_toArray, List.getElem?_cons_succ, List.getElem?_cons_zero, Option.getD_some]
  generalize w1.drew = W0 at hS ⊢
  refine wpMix_s (fun K hK => ?_)
  go_simp
  refine hK _ ?_
  clear hK K
  refine wpMix_s (fun K hK => ?_)
  go_simp
  refine hK _ ?_
  clear hK K
  refine wpMix_s (fun K hK => ?_)
  go_simp
  refine hK _ ?_
  clear hK K
  refine wpMix_s (fun K hK => ?_)
  go_simp
  refine hK _ ?_
  clear hK K
  refine wpMix_s (fun K hK => ?_)
  go_simp
  refine hK _ ?_
  clear hK K
  refine wpMix_v (by kernel_rfl) (.int .i64 (lv : Int)) (fun s => by rw [← Hlv.out]; exact run_quoT_op (.tmp 14) (.tmp 18) _ k h Hh0.out rfl rfl rfl hk63 s.W) ?_
  simp only [Act.put, List.setIfInBounds_toArray, List.set_cons_succ, List.set_cons_zero]
  refine wpMix_s (fun K hK => ?_)
  go_simp
  refine hK _ ?_
  clear hK K
  refine wpMix_s (fun K hK => ?_)
  go_simp
  refine hK _ ?_
  clear hK K
  refine wpMix_s (fun K hK => ?_)
  go_simp
  refine hK _ ?_
  clear hK K
  refine wpMix_s (fun K hK => ?_)
  go_simp
  refine hK _ ?_
  clear hK K
  refine wpMix_s (fun K hK => ?_)
  go_simp
  refine hK _ ?_
  clear hK K
  refine wpMix_v (by kernel_rfl) (.int .i64 (mo : Int)) (fun s => by rw [← Hmo.out]; exact run_remT_op (.tmp 20) (.tmp 24) _ k h Hh0.out rfl rfl rfl s.W) ?_
  simp only [Act.put, List.setIfInBounds_toArray, List.set_cons_succ, List.set_cons_zero]
  refine wpMix_s (fun K hK => ?_)
  go_simp
  refine hK _ ?_
  clear hK K
  refine wpMix_s (fun K hK => ?_)
  go_simp
  refine hK _ ?_
  clear hK K
  refine wpMix_nil ?_
  intro _
  have k6 := k6.step hS
  have hb2 := hb1.trans (hS.mono hb1.size)
  have c0 : W0.cell? ⟨p, 0, none⟩ = some (.int .i64 (h : Int)) := (HT.out _ hb2).c0
  clear hS hb1
  go_wp2_with ((with_reducible show wpList _ _ _ (⟨some 33, .binOp _ _ _ _ _, _, _, _, _⟩ :: _) _ _); refine wpList_run0 rfl (.int .i64 (n : Int)) (by rw [← Hsh.out]; exact run_shrT_op (.tmp 26) (.tmp 32) _ fr s hs62 rfl rfl rfl _) ?_; simp only [Act.put, List.setIfInBounds_toArray, List.set_cons_succ, List.set_cons_zero])
  clear c0
  have c0 : ∀ s : InC (fun V => Below W0.heap.size W0 V), s.W.cell? ⟨p, 0, none⟩ = some (.int .i64 (h : Int)) := fun s => (HT.out s.W (hb2.trans (Below.mono s.ok hb2.size))).c0
  have c2 : ∀ s : InC (fun V => Below W0.heap.size W0 V), s.W.cell? ⟨p, 2, none⟩ = some (.map (some m)) := fun s => (HT.out s.W (hb2.trans (Below.mono s.ok hb2.size))).c2
  have hS : Below W0.heap.size W0 W0.drew := (Below.refl _ _).drew
  refine wp_region_mix (fun W => Below W0.heap.size W0 W) [(0, true), (1, true), (2, true), (3, true), (4, true), (5, true), (6, true), (7, true), (8, true), (9, true), (10, true), (11, true), (12, true), (13, true)] (by kernel_rfl) (by kernel_rfl) hS fun _ => ?_
  simp only [List.map_cons, List.map_nil, Array.getD_eq_getD_getElem?, List.getElem?_toArray, List.getElem?_cons_succ, List.getElem?_cons_zero, Option.getD_some]
  generalize W0.drew = V0 at hS ⊢
  refine wpMix_s (fun K hK => ?_)
  go_simp
  refine hK _ ?_
  clear hK K
  refine wpMix_s (fun K hK => ?_)
  go_simp
  refine hK _ ?_
  clear hK K
  refine wpMix_s (fun K hK => ?_)
  go_simp
  refine hK _ ?_
  clear hK K
  refine wpMix_s (fun K hK => ?_)
  go_simp
  refine hK _ ?_
  clear hK K
  refine wpMix_s (fun K hK => ?_)
  go_simp
  refine hK _ ?_
  clear hK K
  refine wpMix_s (fun K hK => ?_)
  go_simp
  refine hK _ ?_
  clear hK K
  refine wpMix_s (fun K hK => ?_)
  go_simp
  refine hK _ ?_
  clear hK K
  refine wpMix_s (fun K hK => ?_)
  go_simp
  refine hK _ ?_
  clear hK K
  refine wpMix_s (fun K hK => ?_)
  go_simp
  refine hK _ ?_
  clear hK K
  refine wpMix_s (fun K hK => ?_)
  go_simp
  refine hK _ ?_
  clear hK K
  refine wpMix_v (by kernel_rfl) (.int .i64 (b : Int)) (fun s => by rw [← Hb.out]; exact run_shrT_op (.tmp 39) (.tmp 43) _ n h hh62 rfl rfl rfl s.W) ?_
  simp only [Act.put, List.setIfInBounds_toArray, List.set_cons_succ, List.set_cons_zero]
  refine wpMix_s (fun K hK => ?_)
  go_simp
  refine hK _ ?_
  clear hK K
  refine wpMix_v (by kernel_rfl) (.slice A G.length cp) (fun s => run_lookup_opT 71 (.tmp 37) (.tmp 45) rfl _ _ rfl rfl (Hlook.out _ (hb2.trans (Below.mono s.ok hb2.size)))) ?_
  simp only [Act.put, List.setIfInBounds_toArray, List.set_cons_succ, List.set_cons_zero]
  refine wpMix_s (fun K hK => ?_)
  go_simp
  refine hK _ ?_
  clear hK K
  refine wpMix_nil ?_
  intro _
  have k6 := k6.step hS
  have hb3 := hb2.trans (hS.mono hb2.size)
  have c0 : V0.cell? ⟨p, 0, none⟩ = some (.int .i64 (h : Int)) := (HT.out _ hb3).c0
  clear hS hb2 c2
  go_wp2_with (first
    | ((with_reducible show wpList _ _ _ (⟨some 62, .slice _ _ _ _ _, _, _, _, _⟩ :: _) _ _); refine wpList_run0 rfl (.slice A' m2 cq) (Hsop.out _ _ rfl rfl rfl rfl _) ?_; simp only [Act.put, List.setIfInBounds_toArray, List.set_cons_succ, List.set_cons_zero])
    | (go_at_call 70; refine (Hcall.out _ hb3).mono ?_; rintro e w4 ⟨rfl, hb4⟩; replace k6 := k6.step hb4; replace hb3 := hb3.trans (hb4.mono hb3.size); clear c0 hb4)
    | ((with_reducible show wpList _ _ _ (⟨some 12, .alloc _, _, _, _, _⟩ :: _) _ _); refine wpList_hvar (.tmp 12) (.tmp 64) rfl rfl rfl rfl rfl rfl Hr32.out ?_; intro w5 k12 hb5; replace k6 := k6.step hb5; replace hb3 := hb3.trans (hb5.mono hb3.size); clear hb5; simp only [Act.put, List.setIfInBounds_toArray, List.set_cons_succ, List.set_cons_zero])
    | ((with_reducible show wpList _ _ _ (⟨some 66, .load _ _, _, _, _, _⟩ :: _) _ _); refine wpList_hload (.tmp 12) (by kernel_rfl) rfl k12 rfl ?_; simp only [Act.put, List.setIfInBounds_toArray, List.set_cons_succ, List.set_cons_zero])
    | ((with_reducible show wpList _ _ _ (⟨none, .store _ _ _, _, _, _, _⟩ :: _) _ _); refine wpList_hset (.tmp 6) (.tmp 66) rfl rfl k6 rfl rfl Hr32.out ?_; intro w6 k66 hb6 _; replace hb3 := hb3.trans (hb6.mono (Nat.le_refl _)); simp only [Act.put]))
  exact ⟨bodyPost_ret (ret_hash rfl rfl k66) rfl ⟨rfl, hb3⟩⟩
end Go.Proofs.YtfhmjgkcpcnkbaaDoor
