/- tree.Path. -/
import Derived.Test.YtmglkblomklcbaaQc111
import Derived.Test.YtmglkblomklcbaaQc112
import Derived.Test.YtmglkblomklcbaaQc110
import Derived.Laws.EntriesVeiled
import Derived.Test.YtmglkblomklcbaaQc101
namespace Go.Proofs.Ytmglkblomklcbaa
open Go Go.RowKit

theorem natR_append (a b : List (Nat × Nat)) : natR (a ++ b) = natR a ++ natR b := by simp [natR]
theorem natR_length (a : List (Nat × Nat)) : (natR a).length = a.length := by simp [natR]

/-- where a number is no entry's -/
theorem tpath_bad (i n : Int) (w : World) (h : i < 0 ∨ n ≤ i) :
    Calls Try.prog 37 #[.int .i64 i, .int .i64 n] w fun e w' => e = .returned (.tuple #[.slice none 0 0, .int .i64 4]) ∧ w = w' := by
  by_cases h0 : i < 0
  · go_enter Try.func37, Try.ntmps37
    go_wp2_with fail
    go_ret2
    exact ⟨rfl, rfl⟩
  · have h1 : decide (n ≤ i) = true := by simp; omega
    have h0' : decide (i < 0) = false := by simp; omega
    go_enter Try.func37, Try.ntmps37
    go_wp2_with fail
    go_ret2
    exact ⟨rfl, rfl⟩

structure PtC (w : World) (os : List (Nat × Nat)) (v : Value) (W : World) : Prop where
  own : W.ownsRow w.heap.size 68 2 v os.length (rcells (natR os))
  bel : Below w.heap.size w W

set_option maxHeartbeats 2000000 in
set_option maxRecDepth 100000 in
theorem tpath_ok (i n : Nat) (w : World) (hi : i < n) (hn : n ≤ 9223372036854775807) :
    Calls Try.prog 37 #[.int .i64 (i : Int), .int .i64 (n : Int)] w fun e w' => ∃ v, e = .returned (.tuple #[v, .int .i64 0]) ∧ w'.ownsRow w.heap.size 68 2 v (pathL i 0 n).length (rcells (natR (pathL i 0 n))) ∧ Below w.heap.size w w' := by
  obtain ⟨p, hp⟩ : ∃ p, pathL i 0 n = p := ⟨_, rfl⟩
  have hpl : p.length ≤ 63 := by rw [← hp]; exact pathL_len 63 i 0 n (by omega)
  rw [hp]
  have Hp := Lib.hid hp
  clear hp
  have h0 : decide ((i : Int) < 0) = false := by simp
  have h1 : decide ((n : Int) ≤ (i : Int)) = false := by simp; omega
  have h1' : decide (n ≤ i) = false := by simp; omega
  go_enter Try.func37, Try.ntmps37
  go_wp2_with fail
  clear h0 h1 h1'
  go_loopw [6, 7, 8] (fun o f t wr => ∃ (a b : Nat) (v : Value) (os : List (Nat × Nat)), f = .int .i64 (a : Int) ∧ t = .int .i64 (b : Int) ∧ v = o ∧ a ≤ i ∧ i < b ∧ b ≤ n ∧ pathL i a b ++ os.reverse = p ∧ PtC w os v wr) (fun _ f t => fun _ => (intOf t - intOf f).toNat)
  case atStart => exact ⟨0, n, _, [], rfl, rfl, rfl, Nat.zero_le _, hi, Nat.le_refl _, by simpa using Hp.out, World.ownsRow_nil _ _ _ _, Below.refl _ _⟩
  case round =>
    obtain ⟨a, b, v, os, rfl, rfl, rfl, ha, hib, hbn, hpa, hC⟩ := hrel
    have hol : os.length ≤ 63 := by have := congrArg List.length hpa; rw [List.length_append, List.length_reverse] at this; omega
    by_cases hgt : 1 < b - a
    · have hd : decide ((1 : Int) < (b : Int) - (a : Int)) = true := by simp; omega
      have hsl := splitN_lt (b - a) (by omega)
      have hsp := splitN_pos (b - a) (by omega)
      have hpl' := pathL_left i a b (by omega)
      have hpr' := pathL_right i a b (by omega)
      have hspl := fun w => tsplit_any ((b : Int) - (a : Int)) w (by omega)
      rw [show ((b : Int) - (a : Int)).toNat = b - a by omega] at hspl
      obtain ⟨s, hs⟩ : ∃ s, splitN (b - a) = s := ⟨_, rfl⟩
      rw [hs] at hsl hsp hpl' hpr' hspl
      have Hpl := Lib.hid hpl'
      have Hpr := Lib.hid hpr'
      have Hspl := Lib.hid hspl
      have Hpa := Lib.hid hpa
      clear hs hpl' hpr' hspl hpa
      by_cases hlt : i < a + s
      · have hd2 : decide ((i : Int) < (a : Int) + (s : Int)) = true := by simp; omega
        obtain ⟨v', w', hr, ho, hg, -⟩ := append_r hC.own (((a + s : Nat) : Int), (b : Int)) (by omega) hC.bel.size
        rw [show natR os ++ [(((a + s : Nat) : Int), (b : Int))] = natR (os ++ [(a + s, b)]) by rw [natR_append]; rfl] at ho
        rw [show os.length + 1 = (os ++ [(a + s, b)]).length by simp] at ho
        rw [show ((a + s : Nat) : Int) = (a : Int) + (s : Int) by omega] at hr
        have hC2 : PtC w (os ++ [(a + s, b)]) v' w' := ⟨ho, hC.bel.grown hg hC.bel.size (fun k hk => (hC.own.lt k hk).1)⟩
        have Hr := Lib.hid hr
        clear hr ho hg hC
        go_wp2_with (first
          | (go_at_call 48; refine (Hspl.out _).mono ?_; rintro e w2 ⟨rfl, rfl⟩)
          | ((with_reducible show wpList _ _ _ (⟨some 36, .call _, _, _, _, _⟩ :: _) _ _); refine wpList_run rfl v' w' (run_append_op (.tmp 31) (.tmp 35) 79 rfl _ _ rfl rfl Hr.out) ?_; simp only [Act.put]))
        refine ⟨⟨a, a + s, v', os ++ [(a + s, b)], rfl, by go_num, rfl, ha, hlt, by omega, ?_, hC2⟩, ?_⟩
        · rw [← Hpa.out, Hpl.out hlt]; simp
        · simp [intOf]; omega
      · have hd2 : decide ((i : Int) < (a : Int) + (s : Int)) = false := by simp; omega
        obtain ⟨v', w', hr, ho, hg, -⟩ := append_r hC.own ((a : Int), ((a + s : Nat) : Int)) (by omega) hC.bel.size
        rw [show natR os ++ [((a : Int), ((a + s : Nat) : Int))] = natR (os ++ [(a, a + s)]) by rw [natR_append]; rfl] at ho
        rw [show os.length + 1 = (os ++ [(a, a + s)]).length by simp] at ho
        rw [show ((a + s : Nat) : Int) = (a : Int) + (s : Int) by omega] at hr
        have hC2 : PtC w (os ++ [(a, a + s)]) v' w' := ⟨ho, hC.bel.grown hg hC.bel.size (fun k hk => (hC.own.lt k hk).1)⟩
        have Hr := Lib.hid hr
        clear hr ho hg hC
        go_wp2_with (first
          | (go_at_call 48; refine (Hspl.out _).mono ?_; rintro e w2 ⟨rfl, rfl⟩)
          | ((with_reducible show wpList _ _ _ (⟨some 43, .call _, _, _, _, _⟩ :: _) _ _); refine wpList_run rfl v' w' (run_append_op (.tmp 38) (.tmp 42) 79 rfl _ _ rfl rfl Hr.out) ?_; simp only [Act.put]))
        refine ⟨⟨a + s, b, v', os ++ [(a, a + s)], by go_num, rfl, rfl, by omega, hib, hbn, ?_, hC2⟩, ?_⟩
        · rw [← Hpa.out, Hpr.out hlt]; simp
        · simp [intOf]; omega
    · have hd : decide ((1 : Int) < (b : Int) - (a : Int)) = false := by simp; omega
      have hos : os.reverse = p := by rw [← hpa, pathL_small i a b (by omega)]; rfl
      have hol2 : os.length = p.length := by rw [← hos, List.length_reverse]
      have hrev := rev_any (natR os) v os.length w.heap.size wr hC.own (natR_length os) (by omega)
      rw [show (natR os).reverse = natR p by rw [← hos]; simp [natR], hol2] at hrev
      have Hrev := Lib.hid hrev
      clear hos hpa hrev
      go_wp2_with fail
      refine Hrev.out.mono ?_
      rintro e w2 ⟨⟨r, rfl⟩, ho2, hg2⟩
      have hb2 := hC.bel.grown hg2 hC.bel.size (fun k hk => (hC.own.lt k hk).1)
      clear hol2
      go_wp2_with fail
      go_ret2
      exact ⟨_, rfl, ho2, hb2⟩
end Go.Proofs.Ytmglkblomklcbaa
/- notaryref09.SameRanges, SameHashes: where two lists are alike. -/
namespace Go.Proofs.Ytmglkblomklcbaa
open Go Go.RowKit

theorem underR : Try.prog.underlying 68 = some (.struct (Try.prog.fieldsOf 68)) := by kernel_rfl
theorem heldR : Try.prog.stoodInHeld 68 = false := by kernel_rfl
theorem guardR : Try.prog.eqGuardType Try.prog.depth 68 = false := by kernel_rfl
theorem run_neqR (a b c d : Int) (W : World) : (binOp .neq 68 (.agg #[.int .i64 a, .int .i64 b]) (.agg #[.int .i64 c, .int .i64 d])).run Try.prog W = .ok (.bool (!(a == c && b == d))) W := by
  have hf : (Try.prog.fieldsOf 68).toList = [{ name := "From", type := 2, offset := 0, embedded := false, tag := "", pkgPath := "", byteOffset := 0 }, { name := "To", type := 2, offset := 1, embedded := false, tag := "", pkgPath := "", byteOffset := 8 }] := by kernel_rfl
  rw [run_neq_struct, run_equalIn_agg W 9999 _ _ _ underR heldR, hf]
  simp [go_sem, part, Op.eqFields]
  by_cases h1 : a = c <;> by_cases h2 : b = d <;> simp [h1, h2]
theorem run_neqR_f {ρ : Operand → Value} {o : Oper} (x y : Operand) (ty : TypeId) (a b : Int) (ho : o.op = .binOp .neq 68 x y ty) (hx : ρ x = .agg #[.int .i64 a, .int .i64 b]) (hy : ρ y = .agg #[.int .i64 a, .int .i64 b]) (W : World) :
    (execOp ρ o).run Try.prog W = .ok (.value (.bool false)) W := by
  unfold execOp
  simp only [ho, hx, hy, run_eqGuard_agg W .neq 68 x y _ _ guardR, Sem.run_bind, Sem.run_pure, run_neqR, Result.andThen_ok]
  simp

structure SrC (w : World) (A A' : Option Addr) (n c c' : Nat) (l : List (Int × Int)) (W : World) : Prop where
  h1 : Rs W (fun _ => True) A n c l
  h2 : Rs W (fun _ => True) A' n c' l
  bel : Below w.heap.size w W
theorem SrC.drew {w W : World} {A A' : Option Addr} {n c c' : Nat} {l : List (Int × Int)} (h : SrC w A A' n c c' l W) : SrC w A A' n c c' l W.drew := ⟨h.h1.drew, h.h2.drew, h.bel.drew⟩

structure SmC (w : World) (A A' : Option Addr) (n c c' : Nat) (hs : List (List UInt8)) (W : World) : Prop where
  h1 : Hs W (fun _ => True) A n c hs
  h2 : Hs W (fun _ => True) A' n c' hs
  bel : Below w.heap.size w W
theorem SmC.drew {w W : World} {A A' : Option Addr} {n c c' : Nat} {hs : List (List UInt8)} (h : SmC w A A' n c c' hs W) : SmC w A A' n c c' hs W.drew := ⟨h.h1.drew, h.h2.drew, h.bel.drew⟩

end Go.Proofs.Ytmglkblomklcbaa
/- tree.Steps and the function within it. -/
namespace Go.Proofs.Ytmglkblomklcbaa
open Go Go.RowKit

end Go.Proofs.Ytmglkblomklcbaa
/- tree.Steps. -/
namespace Go.Proofs.Ytmglkblomklcbaa
open Go Go.RowKit

end Go.Proofs.Ytmglkblomklcbaa
/- notarylaw09.known. -/
namespace Go.Proofs.Ytmglkblomklcbaa
open Go Go.RowKit

theorem rootL_three (a b c : List UInt8) : rootL [a, b, c] = hNode (hNode a b) c := by
  rw [rootL_more _ (by simp), show splitN [a, b, c].length = 2 from (by decide : splitN 3 = 2)]
  show hNode (rootL [a, b]) (rootL [c]) = _
  rw [rootL_more [a, b] (by simp), show splitN [a, b].length = 1 from (by decide : splitN 2 = 1)]
  rfl
theorem path23 : pathL 2 0 3 = [(0, 2)] := by decide
theorem steps37 : stepsL 3 0 7 true = [(2, 3), (3, 4), (0, 2), (4, 7)] := by decide

structure KnC (w : World) (a b c : List UInt8) (Ap : Option Addr) (cp : Nat) (As : Option Addr) (cs : Nat) (W : World) : Prop where
  k1 : Blk W w.heap.size 45 (a.map B).toArray
  k2 : Blk W (w.heap.size + 1) 45 (b.map B).toArray
  k3 : Blk W (w.heap.size + 1 + 1) 45 (c.map B).toArray
  p : Rs W (fun _ => True) Ap 1 cp [(0, 2)]
  s : Rs W (fun _ => True) As 4 cs [(2, 3), (3, 4), (0, 2), (4, 7)]
  bel : Below w.heap.size w W
theorem KnC.step {w W W' : World} {a b c : List UInt8} {Ap As : Option Addr} {cp cs : Nat} (h : KnC w a b c Ap cp As cs W) (hb : Below W.heap.size W W') : KnC w a b c Ap cp As cs W' :=
  ⟨h.k1.below hb h.k1.lt, h.k2.below hb h.k2.lt, h.k3.below hb h.k3.lt, h.p.step hb, h.s.step hb, h.bel.trans (hb.mono h.bel.size)⟩

end Go.Proofs.Ytmglkblomklcbaa
/- tree.Whole, notaryref09.Whole. -/
namespace Go.Proofs.Ytmglkblomklcbaa
open Go Go.RowKit

theorem bit_one (n i : Nat) (h : n / 2 ^ i % 2 = 1) : n % 2 ^ (i + 1) = 2 ^ i + n % 2 ^ i := by
  rw [Nat.mod_pow_succ, h, Nat.mul_one, Nat.add_comm]
theorem bit_zero (n i : Nat) (h : n / 2 ^ i % 2 = 0) : n % 2 ^ (i + 1) = n % 2 ^ i := by
  rw [Nat.mod_pow_succ, h, Nat.mul_zero, Nat.add_zero]
theorem wholeL_bit (a n i : Nat) (h : n / 2 ^ i % 2 = 1) : wholeL a (n % 2 ^ (i + 1)) = (a, a + 2 ^ i) :: wholeL (a + 2 ^ i) (n % 2 ^ i) := by
  have hp := Nat.two_pow_pos i
  have hlt : n % 2 ^ i < 2 ^ i := Nat.mod_lt _ hp
  rw [bit_one n i h]
  have hlog : (2 ^ i + n % 2 ^ i).log2 = i := (Nat.log2_eq_iff (by omega)).2 ⟨by omega, by rw [Nat.pow_succ]; omega⟩
  rw [wholeL_more a _ (by omega), hlog, Nat.add_sub_cancel_left]

theorem i64_and_one (a : Nat) (ha : a < 9223372036854775808) : bits .and .i64 (a : Int) 1 = ((a % 2 : Nat) : Int) := by
  have e : a &&& 1 = a % 2 := Nat.and_one_is_mod a
  show IntKind.i64.wrap ((BitVec.ofInt 64 (a : Int) &&& BitVec.ofInt 64 ((1 : Nat) : Int)).toNat : Int) = _
  rw [BitVec.toNat_and, ofInt_u64 a (by omega), ofInt_u64 1 (by omega), e, IntKind.wrap_i64]
  omega
theorem wholeL_len (d : Nat) : ∀ a n : Nat, n < 2 ^ d → (wholeL a n).length ≤ d + 1 := by
  induction d with
  | zero => intro a n h; rw [show n = 0 by omega, wholeL_zero]; simp
  | succ d ih =>
    intro a n h
    by_cases hn : n = 0
    · subst hn; rw [wholeL_zero]; simp
    · rw [wholeL_more a n hn, List.length_cons]
      have h1 := Nat.log2_self_le hn
      have h2 := Nat.lt_log2_self (n := n)
      have hl : n.log2 ≤ d := by
        have : n.log2 < d + 1 := (Nat.log2_lt hn).2 h
        omega
      have h3 : 2 ^ n.log2 ≤ 2 ^ d := Nat.pow_le_pow_right (by decide) hl
      rw [Nat.pow_succ] at h2
      have := ih (a + 2 ^ n.log2) (n - 2 ^ n.log2) (by omega)
      omega

/-- the greatest power of two that is not above n -/
theorem log2_of_pow (n j : Nat) (h1 : 2 ^ j ≤ n) (h2 : n < 2 ^ (j + 1)) : n.log2 = j := (Nat.log2_eq_iff (by have := Nat.two_pow_pos j; omega)).2 ⟨h1, h2⟩

end Go.Proofs.Ytmglkblomklcbaa
/- notaryref09.path, Path, steps, Steps. -/
namespace Go.Proofs.Ytmglkblomklcbaa
open Go Go.RowKit

/-- one stretch more, behind what a call has told -/
theorem PtC.app {w W : World} {os : List (Nat × Nat)} {v : Value} (h : PtC w os v W) (x : Nat × Nat) (hl : os.length ≤ 1000) :
    ∃ v' w', (Builtin.append_ #[79, 79] 79 #[v, .slice (some ⟨W.heap.size, 0, none⟩) 1 1]).run Try.prog (W.alloc (.cells #[.int .i64 (x.1 : Int), .int .i64 (x.2 : Int)] 68)) = .ok v' w' ∧ PtC w (os ++ [x]) v' w' := by
  obtain ⟨v', w', hr, ho, hg, -⟩ := append_r h.own ((x.1 : Int), (x.2 : Int)) (by omega) h.bel.size
  rw [show natR os ++ [((x.1 : Int), (x.2 : Int))] = natR (os ++ [x]) by rw [natR_append]; rfl, show os.length + 1 = (os ++ [x]).length by simp] at ho
  exact ⟨v', w', hr, ho, h.bel.grown hg h.bel.size (fun k hk => (h.own.lt k hk).1)⟩

end Go.Proofs.Ytmglkblomklcbaa
/- notarylaw09.TreeNumbers. -/
namespace Go.Proofs.Ytmglkblomklcbaa
open Go Go.RowKit

/-- the path of a number, or the refusal -/
def pathA (i n : Int) : List (Nat × Nat) × Int := if i < 0 ∨ n ≤ i then ([], 4) else (pathL i.toNat 0 n.toNat, 0)
def stepsA (m n : Int) : List (Nat × Nat) × Int := if m < 0 ∨ n < m then ([], 4) else if m = 0 then ([], 0) else (stepsL m.toNat 0 n.toNat true, 0)
theorem pathA_len (i n : Int) (hn : n ≤ 9223372036854775807) : (pathA i n).1.length ≤ 64 := by
  unfold pathA
  split
  · simp
  · have := pathL_len 63 i.toNat 0 n.toNat (by omega)
    simp only; omega
theorem stepsA_len (i n : Int) (hn : n ≤ 9223372036854775807) : (stepsA i n).1.length ≤ 64 := by
  unfold stepsA
  split
  · simp
  · split
    · simp
    · exact stepsL_len 63 i.toNat 0 n.toNat true (by omega) (by omega) (by omega)
theorem PtC.none_ {w w' : World} (h : Below w.heap.size w w') : PtC w [] (.slice none 0 0) w' := ⟨World.ownsRow_nil _ _ _ _, h⟩
theorem tpathA_any (i n : Int) (w : World) (hn : n ≤ 9223372036854775807) :
    Calls Try.prog 37 #[.int .i64 i, .int .i64 n] w fun e w' => ∃ v, e = .returned (.tuple #[v, .int .i64 (pathA i n).2]) ∧ PtC w (pathA i n).1 v w' := by
  unfold pathA
  by_cases h : i < 0 ∨ n ≤ i
  · rw [if_pos h]
    exact (tpath_bad i n w h).mono fun e w' ⟨he, hw⟩ => ⟨_, he, by subst hw; exact PtC.none_ (Below.refl _ _)⟩
  · rw [if_neg h]
    have := tpath_ok i.toNat n.toNat w (by omega) (by omega)
    rw [show ((i.toNat : Nat) : Int) = i by omega, show ((n.toNat : Nat) : Int) = n by omega] at this
    exact this.mono fun e w' ⟨v, he, h1, h2⟩ => ⟨v, he, h1, h2⟩
/-- what a call has told, between two marks of memory -/
structure IvR (W : World) (lo hi : Nat) (v : Value) (os : List (Nat × Nat)) : Prop where
  own : W.ownsRow lo 68 2 v os.length (rcells (natR os))
  lt : ∀ g, v.ownBlock = some g → g < hi
theorem IvR.of_pt {w W : World} {os : List (Nat × Nat)} {v : Value} (h : PtC w os v W) : IvR W w.heap.size W.heap.size v os := ⟨h.own, fun g hg => (h.own.lt g hg).2⟩
theorem IvR.step {W W' : World} {lo hi : Nat} {v : Value} {os : List (Nat × Nat)} (h : IvR W lo hi v os) (hb : Below W.heap.size W W') : IvR W' lo hi v os := ⟨owns_step h.own hb, h.lt⟩
theorem IvR.grown {W W' : World} {lo hi : Nat} {v : Value} {os : List (Nat × Nat)} {row : Option Nat} (h : IvR W lo hi v os) (hg : W.grownBy W' row) (hr : ∀ g, row = some g → g < lo ∨ hi ≤ g) : IvR W' lo hi v os := by
  refine ⟨h.own.kept hg ?_, h.lt⟩
  cases hv : v.ownBlock with
  | none => exact .inl rfl
  | some g =>
    refine .inr fun e => ?_
    have h1 := (h.own.lt g hv).1
    have h2 := h.lt g hv
    have := hr g e.symm
    omega
theorem IvR.rs {W : World} {lo hi : Nat} {v : Value} {os : List (Nat × Nat)} (h : IvR W lo hi v os) : ∃ A c, v = .slice A os.length c ∧ Rs W (fun _ => True) A os.length c (natR os) := by
  obtain ⟨A, c, hv, hs⟩ := Rs.of_owns h.own (natR_length os)
  exact ⟨A, c, hv, hs.weak fun _ _ _ => trivial⟩

end Go.Proofs.Ytmglkblomklcbaa
/- The roots of the stretches that show that one list goes on another (plain). -/
namespace Go.Proofs.Ytmglkblomklcbaa
open Go Go.RowKit

theorem stepsA_each (m : Int) (n : Nat) : ∀ x ∈ (stepsA m n).1, x.1 < x.2 ∧ x.2 ≤ n := by
  intro x hx
  unfold stepsA at hx
  split at hx
  · cases hx
  · rename_i h1
    split at hx
    · cases hx
    · rename_i h2
      have := (stepsL_ok n m.toNat 0 n true (Nat.le_refl _) (by omega) (by omega)).each x (by simpa using hx)
      omega
theorem stretchR_nat (hs : List (List UInt8)) (a b : Nat) (h1 : a < b) (h2 : b ≤ hs.length) : stretchR hs (a : Int) (b : Int) = (stretchL hs a b, 0) := by
  unfold stretchR
  rw [if_pos ⟨by omega, by omega, by omega⟩, Int.toNat_natCast, Int.toNat_natCast]
theorem steps_good (hs : List (List UInt8)) (m : Int) : goodL hs (natR (stepsA m hs.length).1) = natR (stepsA m hs.length).1 := by
  unfold goodL
  rw [List.filter_eq_self]
  intro y hy
  unfold natR at hy
  obtain ⟨x, hx, rfl⟩ := List.mem_map.1 hy
  obtain ⟨h1, h2⟩ := stepsA_each m hs.length x hx
  unfold okR
  rw [stretchR_nat hs x.1 x.2 h1 h2]
  rfl
def rootsS (hs : List (List UInt8)) (m : Int) : List (List UInt8) := rootsL hs (stepsA m hs.length).1
theorem length_natR (l : List (Nat × Nat)) : (natR l).length = l.length := by simp [natR]
theorem length_rootsS (hs : List (List UInt8)) (m : Int) : (rootsS hs m).length = (stepsA m hs.length).1.length := by simp [rootsS, rootsL]
theorem rootsS_all (hs : List (List UInt8)) (h : H32 hs) (m : Int) : H32 (rootsS hs m) := rootsL_all hs h _
theorem rootsS_at (hs : List (List UInt8)) (m : Int) (k : Nat) (h : k < (stepsA m hs.length).1.length) : (stretchR hs ((natR (stepsA m hs.length).1).getD k (0, 0)).1 ((natR (stepsA m hs.length).1).getD k (0, 0)).2).1 = (rootsS hs m).getD k [] := by
  obtain ⟨h1, h2⟩ := stepsA_each m hs.length _ (List.getElem_mem h)
  unfold natR rootsS rootsL
  rw [List.getD_eq_getElem?_getD, List.getElem?_map, List.getD_eq_getElem?_getD, List.getElem?_map, List.getElem?_eq_getElem h]
  simp only [Option.map_some, Option.getD_some]
  rw [stretchR_nat hs _ _ h1 h2]
theorem take_snocH (l : List (List UInt8)) (k : Nat) (h : k < l.length) : l.take (k + 1) = l.take k ++ [l.getD k []] := by
  rw [List.take_succ_eq_append_getElem h, List.getD_eq_getElem?_getD, List.getElem?_eq_getElem h]; rfl
theorem rootsS_bad (hs : List (List UInt8)) (m : Int) (h : (stepsA m hs.length).2 ≠ 0) : rootsS hs m = [] := by
  unfold rootsS stepsA at *
  split
  · rfl
  · rename_i h1
    rw [if_neg h1] at h
    split at h <;> exact absurd rfl h
theorem stepsA_e (m n : Int) : (stepsA m n).2 = 0 ∨ (stepsA m n).2 = 4 := by
  unfold stepsA
  split
  · exact .inr rfl
  · split <;> exact .inl rfl
end Go.Proofs.Ytmglkblomklcbaa
/- The way up from a leaf (plain). -/
namespace Go.Proofs.Ytmglkblomklcbaa
open Go Go.RowKit

abbrev StepV := (Nat × Nat) × List UInt8
def lastH (l : List StepV) : List UInt8 := (l.getLastD ((0, 0), [])).2
theorem lastH_snoc (l : List StepV) (x : StepV) : lastH (l ++ [x]) = x.2 := by simp [lastH]
/-- the way of the entry i of the stretch from a to b, by a proof -/
def upF : Nat → List UInt8 → Nat → Nat → Nat → List (List UInt8) → List StepV
  | 0, leaf, _, a, b, _ => [((a, b), leaf)]
  | f + 1, leaf, i, a, b, p =>
    if b - a < 2 then [((a, b), leaf)]
    else if i < a + splitN (b - a) then upF f leaf i a (a + splitN (b - a)) p.dropLast ++ [((a, b), hNode (lastH (upF f leaf i a (a + splitN (b - a)) p.dropLast)) (p.getD (p.length - 1) []))]
    else upF f leaf i (a + splitN (b - a)) b p.dropLast ++ [((a, b), hNode (p.getD (p.length - 1) []) (lastH (upF f leaf i (a + splitN (b - a)) b p.dropLast)))]
theorem upF_enough : ∀ (f g : Nat) (leaf : List UInt8) (i a b : Nat) (p : List (List UInt8)), b - a ≤ f → b - a ≤ g → upF f leaf i a b p = upF g leaf i a b p
  | 0, 0, _, _, _, _, _, _, _ => rfl
  | 0, g + 1, _, _, _, _, _, h, _ => by simp only [upF]; rw [if_pos (by omega)]
  | f + 1, 0, _, _, _, _, _, _, h => by simp only [upF]; rw [if_pos (by omega)]
  | f + 1, g + 1, leaf, i, a, b, p, h1, h2 => by
    simp only [upF]
    split
    · rfl
    · rename_i h3
      have hl := splitN_lt (b - a) (by omega)
      have hp := splitN_pos (b - a) (by omega)
      rw [upF_enough f g leaf i a (a + splitN (b - a)) _ (by omega) (by omega), upF_enough f g leaf i (a + splitN (b - a)) b _ (by omega) (by omega)]
def upL (leaf : List UInt8) (i a b : Nat) (p : List (List UInt8)) : List StepV := upF (b - a) leaf i a b p
theorem upL_small (leaf : List UInt8) (i a b : Nat) (p : List (List UInt8)) (h : b - a < 2) : upL leaf i a b p = [((a, b), leaf)] := by
  unfold upL
  rw [upF_enough (b - a) (b - a + 1) leaf i a b p (Nat.le_refl _) (by omega), upF, if_pos h]
theorem upL_left (leaf : List UInt8) (i a b : Nat) (p : List (List UInt8)) (h : 2 ≤ b - a) (hi : i < a + splitN (b - a)) : upL leaf i a b p = upL leaf i a (a + splitN (b - a)) p.dropLast ++ [((a, b), hNode (lastH (upL leaf i a (a + splitN (b - a)) p.dropLast)) (p.getD (p.length - 1) []))] := by
  have hl := splitN_lt (b - a) (by omega)
  unfold upL
  rw [upF_enough (b - a) (b - a + 1) leaf i a b p (Nat.le_refl _) (by omega), upF, if_neg (by omega), if_pos hi, upF_enough (b - a) (a + splitN (b - a) - a) leaf i a (a + splitN (b - a)) _ (by omega) (Nat.le_refl _)]
theorem upL_right (leaf : List UInt8) (i a b : Nat) (p : List (List UInt8)) (h : 2 ≤ b - a) (hi : ¬ i < a + splitN (b - a)) : upL leaf i a b p = upL leaf i (a + splitN (b - a)) b p.dropLast ++ [((a, b), hNode (p.getD (p.length - 1) []) (lastH (upL leaf i (a + splitN (b - a)) b p.dropLast)))] := by
  have hp := splitN_pos (b - a) (by omega)
  unfold upL
  rw [upF_enough (b - a) (b - a + 1) leaf i a b p (Nat.le_refl _) (by omega), upF, if_neg (by omega), if_neg hi, upF_enough (b - a) (b - (a + splitN (b - a))) leaf i (a + splitN (b - a)) b _ (by omega) (Nat.le_refl _)]
/-- as many steps as hashes, and one -/
theorem length_upL (leaf : List UInt8) (d : Nat) : ∀ (i a b : Nat) (p : List (List UInt8)), b - a ≤ d → a ≤ i → i < b → (upL leaf i a b p).length = (pathL i a b).length + 1 := by
  induction d with
  | zero => intro i a b p h h1 h2; omega
  | succ d ih =>
    intro i a b p h h1 h2
    by_cases hs : b - a < 2
    · rw [upL_small leaf i a b p hs, pathL_small i a b hs]; rfl
    · have hl := splitN_lt (b - a) (by omega)
      have hp := splitN_pos (b - a) (by omega)
      by_cases hi : i < a + splitN (b - a)
      · rw [upL_left leaf i a b p (by omega) hi, pathL_left i a b (by omega) hi, List.length_append, List.length_append, ih i a (a + splitN (b - a)) _ (by omega) h1 hi]; rfl
      · rw [upL_right leaf i a b p (by omega) hi, pathL_right i a b (by omega) hi, List.length_append, List.length_append, ih i (a + splitN (b - a)) b _ (by omega) (by omega) h2]; rfl
theorem upL_all (leaf : List UInt8) (hlf : leaf.length = 32) (d : Nat) : ∀ (i a b : Nat) (p : List (List UInt8)), b - a ≤ d → ∀ s ∈ upL leaf i a b p, s.2.length = 32 := by
  induction d with
  | zero => intro i a b p h s hs; rw [upL_small leaf i a b p (by omega)] at hs; rw [List.mem_singleton.1 hs]; exact hlf
  | succ d ih =>
    intro i a b p h s hs
    by_cases h2 : b - a < 2
    · rw [upL_small leaf i a b p h2] at hs; rw [List.mem_singleton.1 hs]; exact hlf
    · have hl := splitN_lt (b - a) (by omega)
      have hp := splitN_pos (b - a) (by omega)
      by_cases hi : i < a + splitN (b - a)
      · rw [upL_left leaf i a b p (by omega) hi] at hs
        rcases List.mem_append.1 hs with h1 | h1
        · exact ih i a (a + splitN (b - a)) _ (by omega) s h1
        · rw [List.mem_singleton.1 h1]; exact length_hNode _ _
      · rw [upL_right leaf i a b p (by omega) hi] at hs
        rcases List.mem_append.1 hs with h1 | h1
        · exact ih i (a + splitN (b - a)) b _ (by omega) s h1
        · rw [List.mem_singleton.1 h1]; exact length_hNode _ _
/-- the last step is the whole stretch -/
theorem upL_last (leaf : List UInt8) (i a b : Nat) (p : List (List UInt8)) : ∃ l x, upL leaf i a b p = l ++ [((a, b), x)] := by
  by_cases h2 : b - a < 2
  · exact ⟨[], leaf, upL_small leaf i a b p h2⟩
  · by_cases hi : i < a + splitN (b - a)
    · exact ⟨_, _, upL_left leaf i a b p (by omega) hi⟩
    · exact ⟨_, _, upL_right leaf i a b p (by omega) hi⟩
def rootsP (hs : List (List UInt8)) (i : Int) : List (List UInt8) := rootsL hs (pathA i hs.length).1
/-- what incl.way and the document's Up answer -/
def wayA (leaf : List UInt8) (i n : Int) (p : List (List UInt8)) : List StepV × Int :=
  if (pathA i n).2 ≠ 0 then ([], (pathA i n).2) else if (pathA i n).1.length ≠ p.length then ([], 210) else (upL leaf i.toNat 0 n.toNat p, 0)
/-- the root that a proof leads to -/
def fromA (leaf : List UInt8) (i n : Int) (p : List (List UInt8)) : List UInt8 × Int :=
  if (wayA leaf i n p).2 ≠ 0 then (List.replicate 32 0, (wayA leaf i n p).2) else (lastH (wayA leaf i n p).1, 0)
def takenA (leaf : List UInt8) (i n : Int) (root : List UInt8) (p : List (List UInt8)) : Int :=
  if (fromA leaf i n p).2 ≠ 0 then (fromA leaf i n p).2 else if (fromA leaf i n p).1 ≠ root then 210 else 0
/-- the proof leads to the root -/
theorem upL_roots (hs : List (List UInt8)) (d : Nat) : ∀ (i a b : Nat), b - a ≤ d → a ≤ i → i < b → b ≤ hs.length → ∀ s ∈ upL (hs.getD i []) i a b (rootsL hs (pathL i a b)), s.2 = stretchL hs s.1.1 s.1.2 ∧ a ≤ s.1.1 ∧ s.1.2 ≤ b := by
  induction d with
  | zero => intro i a b h h1 h2; omega
  | succ d ih =>
    intro i a b h h1 h2 hb s hs'
    by_cases h3 : b - a < 2
    · rw [upL_small _ i a b _ h3] at hs'
      rw [List.mem_singleton.1 hs']
      refine ⟨?_, Nat.le_refl _, Nat.le_refl _⟩
      show hs.getD i [] = stretchL hs a b
      unfold stretchL
      obtain rfl : a = i := by omega
      rw [show b - a = 1 by omega, List.drop_eq_getElem_cons (by omega), List.getD_eq_getElem?_getD, List.getElem?_eq_getElem (by omega)]
      rfl
    · have hl := splitN_lt (b - a) (by omega)
      have hp := splitN_pos (b - a) (by omega)
      have hsp : stretchL hs a b = hNode (stretchL hs a (a + splitN (b - a))) (stretchL hs (a + splitN (b - a)) b) := by
        unfold stretchL
        have hlen : ((hs.drop a).take (b - a)).length = b - a := by rw [List.length_take, List.length_drop]; omega
        rw [rootL_more ((hs.drop a).take (b - a)) (by rw [hlen]; omega), hlen, List.take_take, Nat.min_eq_left (by omega), List.drop_take, List.drop_drop, show a + splitN (b - a) - a = splitN (b - a) by omega, show b - (a + splitN (b - a)) = b - a - splitN (b - a) by omega]
      have snoc : ∀ (l : List (Nat × Nat)) (x : Nat × Nat), rootsL hs (l ++ [x]) = rootsL hs l ++ [stretchL hs x.1 x.2] := fun l x => by simp [rootsL]
      have lst : ∀ (l : List (List UInt8)) (x : List UInt8), (l ++ [x]).getD ((l ++ [x]).length - 1) [] = x := fun l x => by simp [List.getD_eq_getElem?_getD]
      have hlast : ∀ (i a b : Nat), b - a ≤ d → a ≤ i → i < b → b ≤ hs.length → lastH (upL (hs.getD i []) i a b (rootsL hs (pathL i a b))) = stretchL hs a b := fun i a b h1 h2 h3 h4 => by
        obtain ⟨l, x, e⟩ := upL_last (hs.getD i []) i a b (rootsL hs (pathL i a b))
        have := (ih i a b h1 h2 h3 h4 ((a, b), x) (by rw [e]; simp)).1
        rw [e, lastH_snoc]
        exact this
      by_cases hi : i < a + splitN (b - a)
      · rw [upL_left _ i a b _ (by omega) hi, pathL_left i a b (by omega) hi, snoc, List.dropLast_concat, lst, hlast i a (a + splitN (b - a)) (by omega) h1 hi (by omega)] at hs'
        rcases List.mem_append.1 hs' with h4 | h4
        · obtain ⟨e1, e2, e3⟩ := ih i a (a + splitN (b - a)) (by omega) h1 hi (by omega) s h4
          exact ⟨e1, e2, by omega⟩
        · rw [List.mem_singleton.1 h4]
          exact ⟨hsp.symm, Nat.le_refl _, Nat.le_refl _⟩
      · rw [upL_right _ i a b _ (by omega) hi, pathL_right i a b (by omega) hi, snoc, List.dropLast_concat, lst, hlast i (a + splitN (b - a)) b (by omega) (by omega) h2 hb] at hs'
        rcases List.mem_append.1 hs' with h4 | h4
        · obtain ⟨e1, e2, e3⟩ := ih i (a + splitN (b - a)) b (by omega) (by omega) h2 hb s h4
          exact ⟨e1, by omega, e3⟩
        · rw [List.mem_singleton.1 h4]
          exact ⟨hsp.symm, Nat.le_refl _, Nat.le_refl _⟩
end Go.Proofs.Ytmglkblomklcbaa
/- The roots of the stretches of an audit path (plain). -/
namespace Go.Proofs.Ytmglkblomklcbaa
open Go Go.RowKit

theorem pathA_each (m : Int) (n : Nat) : ∀ x ∈ (pathA m n).1, x.1 < x.2 ∧ x.2 ≤ n := by
  intro x hx
  unfold pathA at hx
  split at hx
  · cases hx
  · rename_i h1
    have := (pathL_ok n m.toNat 0 n (by omega) (by omega) (by omega)).each x (by simpa using hx)
    omega
theorem path_good (hs : List (List UInt8)) (m : Int) : goodL hs (natR (pathA m hs.length).1) = natR (pathA m hs.length).1 := by
  unfold goodL
  rw [List.filter_eq_self]
  intro y hy
  unfold natR at hy
  obtain ⟨x, hx, rfl⟩ := List.mem_map.1 hy
  obtain ⟨h1, h2⟩ := pathA_each m hs.length x hx
  unfold okR
  rw [stretchR_nat hs x.1 x.2 h1 h2]
  rfl
theorem length_rootsP (hs : List (List UInt8)) (m : Int) : (rootsP hs m).length = (pathA m hs.length).1.length := by simp [rootsP, rootsL]
theorem rootsP_all (hs : List (List UInt8)) (h : H32 hs) (m : Int) : H32 (rootsP hs m) := rootsL_all hs h _
theorem rootsP_at (hs : List (List UInt8)) (m : Int) (k : Nat) (h : k < (pathA m hs.length).1.length) : (stretchR hs ((natR (pathA m hs.length).1).getD k (0, 0)).1 ((natR (pathA m hs.length).1).getD k (0, 0)).2).1 = (rootsP hs m).getD k [] := by
  obtain ⟨h1, h2⟩ := pathA_each m hs.length _ (List.getElem_mem h)
  unfold natR rootsP rootsL
  rw [List.getD_eq_getElem?_getD, List.getElem?_map, List.getD_eq_getElem?_getD, List.getElem?_map, List.getElem?_eq_getElem h]
  simp only [Option.map_some, Option.getD_some]
  rw [stretchR_nat hs _ _ h1 h2]
theorem rootsP_bad (hs : List (List UInt8)) (m : Int) (h : (pathA m hs.length).2 ≠ 0) : rootsP hs m = [] := by
  unfold rootsP pathA at *
  split
  · rfl
  · rename_i h1
    rw [if_neg h1] at h
    exact absurd rfl h
theorem pathA_e (m n : Int) : (pathA m n).2 = 0 ∨ (pathA m n).2 = 4 := by
  unfold pathA
  split
  · exact .inr rfl
  · exact .inl rfl
end Go.Proofs.Ytmglkblomklcbaa
/- An operation with a guard whose run is known. No program in sight. -/
namespace Go.Proofs.Ytmglkblomklcbaa
open Go Go.RowKit

theorem wpList_runG {P : Program} {w : World} {ops : Array Oper} {rest : List Oper} {o : Oper} {a : Act} {Q : Exit → Act → World → Prop} (hw : Region.wanted o (yielded ops a.tmps) = true) (v : Value) (w' : World) (hrun : (execOp a.eval o).run P w = .ok (.value v) w')
    (h : wpList P ops Q rest (a.put o.dst v) w') : wpList P ops Q (o :: rest) a w :=
  wpList_step fun K hK => by
    rw [if_pos hw]
    unfold Oper.wp
    rw [hrun]
    exact hK _ _ h
end Go.Proofs.Ytmglkblomklcbaa
/- Variables that hold a hash: one step for each, by what is known of their block. -/
namespace Go.Proofs.Ytmglkblomklcbaa
open Go Go.RowKit

/-- a block holds this hash -/
structure HV (w : World) (g : Nat) (l : List UInt8) : Prop where
  blk : Blk w g 45 (l.map B).toArray
  len : l.length = 32
theorem HV.step {w W : World} {g : Nat} {l : List UInt8} (h : HV w g l) (hb : Below w.heap.size w W) : HV W g l := ⟨h.blk.below hb h.blk.lt, h.len⟩
theorem HV.lt {w : World} {g : Nat} {l : List UInt8} (h : HV w g l) : g < w.heap.size := h.blk.lt
theorem HV.drew {w : World} {g : Nat} {l : List UInt8} (h : HV w g l) : HV w.drew g l := ⟨h.blk, h.len⟩
theorem HV.load {w : World} {g : Nat} {l : List UInt8} (h : HV w g l) : (Instr.loadAt 45 (.pointer (some ⟨g, 0, none⟩))).run Try.prog w = .ok (.agg (l.map B).toArray) w :=
  run_load_blk (agg26 _) (size26 _) g _ (by simp [h.len]) h.blk
theorem HV.far {w W : World} {g g' : Nat} {l : List UInt8} (h : HV w g l) (hb : Below g' w W) (hg : g < g') : HV W g l := ⟨h.blk.below hb hg, h.len⟩
theorem Blk.step {w W : World} {g : Nat} {t : TypeId} {cs : Array Value} (h : Blk w g t cs) (hb : Below w.heap.size w W) : Blk W g t cs := h.below hb h.lt

section
variable {w : World} {ops : Array Oper} {rest : List Oper} {o o1 o2 o3 : Oper} {a : Act} {Q : Exit → Act → World → Prop}
set_option maxRecDepth 100000 in
/-- a new variable, written at once -/
theorem wpList_hvar {l : List UInt8} (x y : Operand) (hg1 : o1.guard = none) (hg2 : o2.guard = none) (ho1 : o1.op = .alloc 45) (ho2 : o2.op = .store 45 x y)
    (hx : (a.put o1.dst (.pointer (some ⟨w.heap.size, 0, none⟩))).eval x = .pointer (some ⟨w.heap.size, 0, none⟩)) (hy : (a.put o1.dst (.pointer (some ⟨w.heap.size, 0, none⟩))).eval y = .agg (l.map B).toArray) (hl : l.length = 32)
    (h : ∀ W, HV W w.heap.size l → Below w.heap.size w W → wpList Try.prog ops Q rest ((a.put o1.dst (.pointer (some ⟨w.heap.size, 0, none⟩))).put o2.dst undef) W) : wpList Try.prog ops Q (o1 :: o2 :: rest) a w := by
  have hz : zeroHash.size = 32 := rfl
  refine wpList_run hg1 (.pointer (some ⟨w.heap.size, 0, none⟩)) (w.alloc (.cells zeroHash 45)) ?_ ?_
  · unfold execOp
    rw [ho1]
    rfl
  · refine wpList_store_blk hg2 45 x y ho2 32 size26 w.heap.size (l.map B).toArray hx hy (by simp [hl]) (oneCell_B _) 45 _ (Blk.new w 45 zeroHash) hz ?_
    exact h _ ⟨(Blk.new w 45 zeroHash).setRow_ _, hl⟩ (below_setRow ((Below.refl _ _).alloc (Nat.le_refl _) _) (Nat.le_refl _) _)
set_option maxRecDepth 100000 in
/-- a new variable, nought -/
theorem wpList_hnew (hg1 : o1.guard = none) (ho1 : o1.op = .alloc 45)
    (h : ∀ W, HV W w.heap.size (List.replicate 32 0) → Below w.heap.size w W → wpList Try.prog ops Q rest (a.put o1.dst (.pointer (some ⟨w.heap.size, 0, none⟩))) W) : wpList Try.prog ops Q (o1 :: rest) a w := by
  refine wpList_run hg1 (.pointer (some ⟨w.heap.size, 0, none⟩)) (w.alloc (.cells zeroHash 45)) ?_ (h _ ⟨Blk.new w 45 zeroHash, rfl⟩ ((Below.refl _ _).alloc (Nat.le_refl _) _))
  unfold execOp
  rw [ho1]
  rfl
/-- a variable is written over: all below it stays -/
theorem wpList_hset {l l' : List UInt8} {g : Nat} (x y : Operand) (hg2 : o.guard = none) (ho2 : o.op = .store 45 x y) (k : HV w g l')
    (hx : a.eval x = .pointer (some ⟨g, 0, none⟩)) (hy : a.eval y = .agg (l.map B).toArray) (hl : l.length = 32)
    (h : ∀ W, HV W g l → Below g w W → W = w.setRow g (l.map B).toArray → wpList Try.prog ops Q rest (a.put o.dst undef) W) : wpList Try.prog ops Q (o :: rest) a w :=
  wpList_store_blk hg2 45 x y ho2 32 size26 g (l.map B).toArray hx hy (by simp [hl]) (oneCell_B _) 45 _ k.blk (by simp [k.len])
    (h _ ⟨k.blk.setRow_ _, hl⟩ (below_setRow (Below.refl _ _) (Nat.le_refl _) _) rfl)
theorem wpList_hload {l : List UInt8} {g : Nat} (x : Operand) (hw : Region.wanted o (yielded ops a.tmps) = true) (ho : o.op = .load 45 x) (k : HV w g l) (hx : a.eval x = .pointer (some ⟨g, 0, none⟩))
    (h : wpList Try.prog ops Q rest (a.put o.dst (.agg (l.map B).toArray)) w) : wpList Try.prog ops Q (o :: rest) a w :=
  wpList_runG hw (.agg (l.map B).toArray) w (run_load_op 45 x ho g 0 hx _ k.load) h
/-- a scalar, by its cell -/
theorem wpList_cell {P : Program} (ty : TypeId) (x : Operand) (g off : Nat) (v : Value) (hw : Region.wanted o (yielded ops a.tmps) = true) (ho : o.op = .load ty x) (hx : a.eval x = .pointer (some ⟨g, off, none⟩))
    (hrun : (Instr.loadAt ty (.pointer (some ⟨g, off, none⟩))).run P w = .ok v w) (h : wpList P ops Q rest (a.put o.dst v) w) : wpList P ops Q (o :: rest) a w :=
  wpList_runG hw v w (run_load_op ty x ho g off hx _ hrun) h
end
theorem run_load_scalar {P : Program} {W : World} {ty : TypeId} {g o : Nat} {v : Value} (hagg : (isAgg ty).run P W = .ok false W) (h : W.cell? ⟨g, o, none⟩ = some v) : (Instr.loadAt ty (.pointer (some ⟨g, o, none⟩))).run P W = .ok v W := by
  simp [Instr.loadAt, Instr.sureAddr, loadVar, Sem.run_bind, hagg, Go.load, Sem.run, h]
theorem notagg64 : ∀ w : World, (isAgg 2).run Try.prog w = .ok false w := fun _ => by kernel_rfl
/-- hashes: one is put in the place of another -/
theorem hcells_set : ∀ (l : List (List UInt8)), H32 l → ∀ (k : Nat) (x : List UInt8), k < l.length → (hcells l).take (k * 32) ++ x.map B ++ (hcells l).drop (k * 32 + 32) = hcells (l.set k x) := by
  intro l h k x hk
  rw [hcells_take l h k (by omega), show k * 32 + 32 = (k + 1) * 32 by omega, hcells_drop l h (k + 1) (by omega), List.set_eq_take_append_cons_drop, if_pos hk, hcells_append]
  simp [hcells]
theorem H32.set {l : List (List UInt8)} (h : H32 l) (k : Nat) {x : List UInt8} (hx : x.length = 32) : H32 (l.set k x) := fun y hy => by
  rcases List.mem_or_eq_of_mem_set hy with h1 | rfl
  · exact h y h1
  · exact hx
theorem Hs.get {w : World} {X : Nat → Prop} {A : Option Addr} {n c : Nat} {hs : List (List UInt8)} (h : Hs w X A n c hs) {b o : Nat} (hA : A = some ⟨b, o, none⟩) (i : Nat) (hi : i < n) :
    (Instr.loadAt 45 (.pointer (some ⟨b, o + i * 32, none⟩))).run Try.prog w = .ok (.agg ((hs.getD i []).map B).toArray) w := by
  obtain ⟨b', o', hA', -, -, hat⟩ := h.at_ (by omega)
  rw [hA] at hA'
  cases hA'
  exact hat i hi
end Go.Proofs.Ytmglkblomklcbaa
