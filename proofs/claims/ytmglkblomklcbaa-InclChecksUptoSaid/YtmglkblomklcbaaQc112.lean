/- tree.Path. -/
import Derived.Test.YtmglkblomklcbaaQc111
import Derived.Test.YtmglkblomklcbaaQc110
import Derived.Test.YtmglkblomklcbaaQc109
import Derived.Laws.EntriesVeiled
namespace Go.Proofs.Ytmglkblomklcbaa
open Go Go.RowKit

theorem natR_append (a b : List (Nat × Nat)) : natR (a ++ b) = natR a ++ natR b := by simp [natR]
theorem natR_length (a : List (Nat × Nat)) : (natR a).length = a.length := by simp [natR]

/-- where a number is no entry's -/
theorem tpath_bad (i n : Int) (w : World) (h : i < 0 ∨ n ≤ i) :
    Calls Try.prog 37 #[.int .i64 i, .int .i64 n] w fun e w' => e = .returned (.tuple #[.slice none 0 0, .int .i64 4]) ∧ w = w' := by
  by_cases h0 : i < 0
  · go_enter Try.func37, Try.ntmps37
    go_wp2_with fail
    go_ret2
    exact ⟨rfl, rfl⟩
  · have h1 : decide (n ≤ i) = true := by simp; omega
    have h0' : decide (i < 0) = false := by simp; omega
    go_enter Try.func37, Try.ntmps37
    go_wp2_with fail
    go_ret2
    exact ⟨rfl, rfl⟩

structure PtC (w : World) (os : List (Nat × Nat)) (v : Value) (W : World) : Prop where
  own : W.ownsRow w.heap.size 68 2 v os.length (rcells (natR os))
  bel : Below w.heap.size w W

set_option maxHeartbeats 2000000 in
set_option maxRecDepth 100000 in
theorem tpath_ok (i n : Nat) (w : World) (hi : i < n) (hn : n ≤ 9223372036854775807) :
    Calls Try.prog 37 #[.int .i64 (i : Int), .int .i64 (n : Int)] w fun e w' => ∃ v, e = .returned (.tuple #[v, .int .i64 0]) ∧ w'.ownsRow w.heap.size 68 2 v (pathL i 0 n).length (rcells (natR (pathL i 0 n))) ∧ Below w.heap.size w w' := by
  obtain ⟨p, hp⟩ : ∃ p, pathL i 0 n = p := ⟨_, rfl⟩
  have hpl : p.length ≤ 63 := by rw [← hp]; exact pathL_len 63 i 0 n (by omega)
  rw [hp]
  have Hp := Lib.hid hp
  clear hp
  have h0 : decide ((i : Int) < 0) = false := by simp
  have h1 : decide ((n : Int) ≤ (i : Int)) = false := by simp; omega
  have h1' : decide (n ≤ i) = false := by simp; omega
  go_enter Try.func37, Try.ntmps37
  go_wp2_with fail
  clear h0 h1 h1'
  go_loopw [6, 7, 8] (fun o f t wr => ∃ (a b : Nat) (v : Value) (os : List (Nat × Nat)), f = .int .i64 (a : Int) ∧ t = .int .i64 (b : Int) ∧ v = o ∧ a ≤ i ∧ i < b ∧ b ≤ n ∧ pathL i a b ++ os.reverse = p ∧ PtC w os v wr) (fun _ f t => fun _ => (intOf t - intOf f).toNat)
  case atStart => exact ⟨0, n, _, [], rfl, rfl, rfl, Nat.zero_le _, hi, Nat.le_refl _, by simpa using Hp.out, World.ownsRow_nil _ _ _ _, Below.refl _ _⟩
  case round =>
    obtain ⟨a, b, v, os, rfl, rfl, rfl, ha, hib, hbn, hpa, hC⟩ := hrel
    have hol : os.length ≤ 63 := by have := congrArg List.length hpa; rw [List.length_append, List.length_reverse] at this; omega
    by_cases hgt : 1 < b - a
    · have hd : decide ((1 : Int) < (b : Int) - (a : Int)) = true := by simp; omega
      have hsl := splitN_lt (b - a) (by omega)
      have hsp := splitN_pos (b - a) (by omega)
      have hpl' := pathL_left i a b (by omega)
      have hpr' := pathL_right i a b (by omega)
      have hspl := fun w => tsplit_any ((b : Int) - (a : Int)) w (by omega)
      rw [show ((b : Int) - (a : Int)).toNat = b - a by omega] at hspl
      obtain ⟨s, hs⟩ : ∃ s, splitN (b - a) = s := ⟨_, rfl⟩
      rw [hs] at hsl hsp hpl' hpr' hspl
      have Hpl := Lib.hid hpl'
      have Hpr := Lib.hid hpr'
      have Hspl := Lib.hid hspl
      have Hpa := Lib.hid hpa
      clear hs hpl' hpr' hspl hpa
      by_cases hlt : i < a + s
      · have hd2 : decide ((i : Int) < (a : Int) + (s : Int)) = true := by simp; omega
        obtain ⟨v', w', hr, ho, hg, -⟩ := append_r hC.own (((a + s : Nat) : Int), (b : Int)) (by omega) hC.bel.size
        rw [show natR os ++ [(((a + s : Nat) : Int), (b : Int))] = natR (os ++ [(a + s, b)]) by rw [natR_append]; rfl] at ho
        rw [show os.length + 1 = (os ++ [(a + s, b)]).length by simp] at ho
        rw [show ((a + s : Nat) : Int) = (a : Int) + (s : Int) by omega] at hr
        have hC2 : PtC w (os ++ [(a + s, b)]) v' w' := ⟨ho, hC.bel.grown hg hC.bel.size (fun k hk => (hC.own.lt k hk).1)⟩
        have Hr := Lib.hid hr
        clear hr ho hg hC
        go_wp2_with (first
          | (go_at_call 48; refine (Hspl.out _).mono ?_; rintro e w2 ⟨rfl, rfl⟩)
          | ((with_reducible show wpList _ _ _ (⟨some 36, .call _, _, _, _, _⟩ :: _) _ _); refine wpList_run rfl v' w' (run_append_op (.tmp 31) (.tmp 35) 79 rfl _ _ rfl rfl Hr.out) ?_; simp only [Act.put]))
        refine ⟨⟨a, a + s, v', os ++ [(a + s, b)], rfl, by go_num, rfl, ha, hlt, by omega, ?_, hC2⟩, ?_⟩
        · rw [← Hpa.out, Hpl.out hlt]; simp
        · simp [intOf]; omega
      · have hd2 : decide ((i : Int) < (a : Int) + (s : Int)) = false := by simp; omega
        obtain ⟨v', w', hr, ho, hg, -⟩ := append_r hC.own ((a : Int), ((a + s : Nat) : Int)) (by omega) hC.bel.size
        rw [show natR os ++ [((a : Int), ((a + s : Nat) : Int))] = natR (os ++ [(a, a + s)]) by rw [natR_append]; rfl] at ho
        rw [show os.length + 1 = (os ++ [(a, a + s)]).length by simp] at ho
        rw [show ((a + s : Nat) : Int) = (a : Int) + (s : Int) by omega] at hr
        have hC2 : PtC w (os ++ [(a, a + s)]) v' w' := ⟨ho, hC.bel.grown hg hC.bel.size (fun k hk => (hC.own.lt k hk).1)⟩
        have Hr := Lib.hid hr
        clear hr ho hg hC
        go_wp2_with (first
          | (go_at_call 48; refine (Hspl.out _).mono ?_; rintro e w2 ⟨rfl, rfl⟩)
          | ((with_reducible show wpList _ _ _ (⟨some 43, .call _, _, _, _, _⟩ :: _) _ _); refine wpList_run rfl v' w' (run_append_op (.tmp 38) (.tmp 42) 79 rfl _ _ rfl rfl Hr.out) ?_; simp only [Act.put]))
        refine ⟨⟨a + s, b, v', os ++ [(a, a + s)], by go_num, rfl, rfl, by omega, hib, hbn, ?_, hC2⟩, ?_⟩
        · rw [← Hpa.out, Hpr.out hlt]; simp
        · simp [intOf]; omega
    · have hd : decide ((1 : Int) < (b : Int) - (a : Int)) = false := by simp; omega
      have hos : os.reverse = p := by rw [← hpa, pathL_small i a b (by omega)]; rfl
      have hol2 : os.length = p.length := by rw [← hos, List.length_reverse]
      have hrev := rev_any (natR os) v os.length w.heap.size wr hC.own (natR_length os) (by omega)
      rw [show (natR os).reverse = natR p by rw [← hos]; simp [natR], hol2] at hrev
      have Hrev := Lib.hid hrev
      clear hos hpa hrev
      go_wp2_with fail
      refine Hrev.out.mono ?_
      rintro e w2 ⟨⟨r, rfl⟩, ho2, hg2⟩
      have hb2 := hC.bel.grown hg2 hC.bel.size (fun k hk => (hC.own.lt k hk).1)
      clear hol2
      go_wp2_with fail
      go_ret2
      exact ⟨_, rfl, ho2, hb2⟩
end Go.Proofs.Ytmglkblomklcbaa
/- notaryref09.SameRanges, SameHashes: where two lists are alike. -/
namespace Go.Proofs.Ytmglkblomklcbaa
open Go Go.RowKit

theorem underR : Try.prog.underlying 68 = some (.struct (Try.prog.fieldsOf 68)) := by kernel_rfl
theorem heldR : Try.prog.stoodInHeld 68 = false := by kernel_rfl
theorem guardR : Try.prog.eqGuardType Try.prog.depth 68 = false := by kernel_rfl
theorem run_neqR (a b c d : Int) (W : World) : (binOp .neq 68 (.agg #[.int .i64 a, .int .i64 b]) (.agg #[.int .i64 c, .int .i64 d])).run Try.prog W = .ok (.bool (!(a == c && b == d))) W := by
  have hf : (Try.prog.fieldsOf 68).toList = [{ name := "From", type := 2, offset := 0, embedded := false, tag := "", pkgPath := "", byteOffset := 0 }, { name := "To", type := 2, offset := 1, embedded := false, tag := "", pkgPath := "", byteOffset := 8 }] := by kernel_rfl
  rw [run_neq_struct, run_equalIn_agg W 9999 _ _ _ underR heldR, hf]
  simp [go_sem, part, Op.eqFields]
  by_cases h1 : a = c <;> by_cases h2 : b = d <;> simp [h1, h2]
theorem run_neqR_f {ρ : Operand → Value} {o : Oper} (x y : Operand) (ty : TypeId) (a b : Int) (ho : o.op = .binOp .neq 68 x y ty) (hx : ρ x = .agg #[.int .i64 a, .int .i64 b]) (hy : ρ y = .agg #[.int .i64 a, .int .i64 b]) (W : World) :
    (execOp ρ o).run Try.prog W = .ok (.value (.bool false)) W := by
  unfold execOp
  simp only [ho, hx, hy, run_eqGuard_agg W .neq 68 x y _ _ guardR, Sem.run_bind, Sem.run_pure, run_neqR, Result.andThen_ok]
  simp

structure SrC (w : World) (A A' : Option Addr) (n c c' : Nat) (l : List (Int × Int)) (W : World) : Prop where
  h1 : Rs W (fun _ => True) A n c l
  h2 : Rs W (fun _ => True) A' n c' l
  bel : Below w.heap.size w W
theorem SrC.drew {w W : World} {A A' : Option Addr} {n c c' : Nat} {l : List (Int × Int)} (h : SrC w A A' n c c' l W) : SrC w A A' n c c' l W.drew := ⟨h.h1.drew, h.h2.drew, h.bel.drew⟩

structure SmC (w : World) (A A' : Option Addr) (n c c' : Nat) (hs : List (List UInt8)) (W : World) : Prop where
  h1 : Hs W (fun _ => True) A n c hs
  h2 : Hs W (fun _ => True) A' n c' hs
  bel : Below w.heap.size w W
theorem SmC.drew {w W : World} {A A' : Option Addr} {n c c' : Nat} {hs : List (List UInt8)} (h : SmC w A A' n c c' hs W) : SmC w A A' n c c' hs W.drew := ⟨h.h1.drew, h.h2.drew, h.bel.drew⟩

end Go.Proofs.Ytmglkblomklcbaa
/- notaryref03.Sum; notarylaw03.kept. -/
namespace Go.Proofs.Ytmglkblomklcbaa
open Go.RowKit

theorem Und.take_ok' (b : List UInt8) : (Und.new.take b).ok := Und.take_ok _ _ Und.new_ok

set_option maxHeartbeats 1000000 in
set_option maxRecDepth 100000 in
theorem rsum_any (b : List UInt8) (A : Option Addr) (n c : Nat) (w : World) (h : Sl w (fun _ => True) A n c b) (hmax : n ≤ 1099511627776) :
    Calls Try.prog 61 #[.slice A n c] w fun e w' => e = .returned (.agg ((sha256 b).map B).toArray) ∧ Below w.heap.size w w' := by
  have hlen := h.len
  obtain ⟨v, hv⟩ : ∃ v, Und.new.take b = v := ⟨_, rfl⟩
  have hvl : v.len = n := by rw [← hv, Und.take_len, ← hlen]; exact Nat.zero_add _
  have hvok : v.ok := by rw [← hv]; exact Und.take_ok' b
  have hvs : v.sum = sha256 b := by rw [← hv]; rfl
  have htk : ∀ w, Sl w (fun _ => True) A n c b → Calls Try.prog 66 #[undV Und.new (.slice none 0 0), .slice A n c] w fun e w' => ∃ A' n' c', e = .returned (undV v (.slice A' n' c')) ∧ Sl w' (fun _ => True) A' n' c' v.rest ∧ Below w.heap.size w w' := fun w h => by
    rw [← hv]
    exact rtake_any Und.new b none 0 0 A n c w Sl.nil h (by omega) (by have : Und.new.len = 0 := rfl; omega)
  obtain ⟨x0, hx0⟩ : ∃ x0, undV Und.new (.slice none 0 0) = x0 := ⟨_, rfl⟩
  have hnew := fun w => rnew_any w
  rw [hx0] at htk hnew
  obtain ⟨r, hr⟩ : ∃ r, sha256 b = r := ⟨_, rfl⟩
  rw [hr] at hvs ⊢
  have hrl : r.length = 32 := by rw [← hr]; exact length_sha256 _
  have Hrl := Lib.hid hrl
  have Hvs := Lib.hid hvs
  have Hvl := Lib.hid hvl
  have Htk := Lib.hid htk
  have Hnew := Lib.hid hnew
  clear hv hx0 hr hrl hvs hvl htk hnew hlen
  go_enter Try.func61, Try.ntmps61
  go_wp2_with (first
    | (go_at_call 65; refine (Hnew.out _).mono ?_; rintro e w1 ⟨rfl, hb1⟩; have k1 := (Blk.new w _ _).below hb1 (by simp); have hB1 := ((Below.refl _ _).alloc (Nat.le_refl _) _).trans (hb1.mono (by simp)))
    | (go_at_call 66; refine (Htk.out _ (h.step hB1)).mono ?_; rintro e w2 ⟨A2, n2, c2, rfl, hs2, hb2⟩; have k2 := k1.below hb2 k1.lt; have hB2 := hB1.trans (hb2.mono hB1.size))
    | (go_at_call 67; refine (rend_any v A2 n2 c2 _ hs2 hvok (by rw [Hvl.out]; omega)).mono ?_; rintro e w3 ⟨rfl, hb3⟩; have k3 := k2.below hb3 k2.lt; have hB3 := hB2.trans (hb3.mono hB2.size); rw [Hvs.out])
    | ((with_reducible show wpList _ _ _ (⟨none, .store _ _ _, _, _, _, _⟩ :: _) _ _); refine wpList_store_blk rfl 45 (.tmp 2) (.tmp 6) rfl 32 size26 w.heap.size (r.map B).toArray rfl rfl (by simp [Hrl.out]) (oneCell_B _) 45 _ k3 (by rfl) ?_; simp only [Act.put]))
  refine bodyPost_ret (results_cell_row rfl _ _ w.heap.size 45 (r.map B).toArray (0, 0) _ rfl (k3.setRow_ _) Try.underlying45 rfl (by rw [show (r.map B).toArray.size = 32 by simp [Hrl.out]]; exact info26)) rfl ⟨rfl, ?_⟩
  exact below_setRow hB3 (Nat.le_refl _) _

/-- lent bytes: read, and the byte behind them -/
structure LentB (w : World) (X : Nat → Prop) (g n c : Nat) (l : List UInt8) : Prop where
  sl : Sl w X (some ⟨g, 0, none⟩) n c l
  lt : n < c
  mark : w.cell? ⟨g, n, none⟩ = some (.int .u8 165)
  x : X g
  in_ : g < w.heap.size
theorem LentB.step {w w' : World} {X : Nat → Prop} {g n c : Nat} {l : List UInt8} (h : LentB w X g n c l) (hb : Below w.heap.size w w') : LentB w' X g n c l :=
  ⟨h.sl.step hb, h.lt, by rw [hb.cell (p := ⟨g, n, none⟩) h.in_]; exact h.mark, h.x, Nat.lt_of_lt_of_le h.in_ hb.size⟩
theorem LentB.grown {w w' : World} {X : Nat → Prop} {g n c : Nat} {l : List UInt8} {row : Option Nat} (h : LentB w X g n c l) (hg : w.grownBy w' row) (hX : ∀ b, b < w.heap.size → X b → some b ≠ row) : LentB w' X g n c l :=
  ⟨h.sl.grown hg hX, h.lt, by rw [World.cell?_of_block (w := w) (hg.block g h.in_ (hX g h.in_ h.x))]; exact h.mark, h.x, Nat.lt_of_lt_of_le h.in_ hg.size⟩
theorem LentB.of_own {w : World} {X : Nat → Prop} {g c : Nat} {l : List UInt8} {cur : Array Value} (h : Own w g c (l ++ [0xa5]) cur) (hX : X g) : LentB w X g l.length c l := by
  have hr := h.room
  rw [List.length_append] at hr
  simp only [List.length_singleton] at hr
  have hget : ∀ j u, ((l ++ [0xa5]).map B)[j]? = some u → w.cell? ⟨g, j, none⟩ = some u := fun j u hu => by
    rw [h.blk.cell, ← Array.getElem?_toList]
    rw [← h.pre, List.getElem?_take] at hu
    split at hu
    · exact hu
    · cases hu
  refine ⟨⟨fun _ => ⟨g, 0, rfl, h.blk.lt, hX, fun j u hu => ?_⟩, rfl, by omega, by simp, h.max⟩, by omega, ?_, hX, h.blk.lt⟩
  · rw [Nat.zero_add]
    refine hget j u ?_
    rw [List.map_append, List.getElem?_append_left (List.getElem?_eq_some_iff.1 hu).1]
    exact hu
  · refine hget _ _ ?_
    rw [List.map_append, List.getElem?_append_right (by simp)]
    simp
end Go.Proofs.Ytmglkblomklcbaa
/- notaryref08.Of, Leaf, Node; notarylaw08.lent, kept, long, num. -/
namespace Go.Proofs.Ytmglkblomklcbaa
open Go.RowKit

set_option maxHeartbeats 400000 in
set_option maxRecDepth 100000 in
theorem hrof_any (b : List UInt8) (A : Option Addr) (n c : Nat) (w : World) (h : Sl w (fun _ => True) A n c b) (hmax : n ≤ 1099511627776) :
    Calls Try.prog 54 #[.slice A n c] w fun e w' => e = .returned (.agg ((sha256 b).map B).toArray) ∧ Below w.heap.size w w' := by
  obtain ⟨r, hr⟩ : ∃ r, sha256 b = r := ⟨_, rfl⟩
  have hrl : r.length = 32 := by rw [← hr]; exact length_sha256 _
  have hs := fun o => rsum_any b A n c (w.alloc o) (h.alloc o) hmax
  rw [hr] at hs ⊢
  have Hs := Lib.hid hs
  have Hrl := Lib.hid hrl
  clear hs hrl hr h
  go_enter Try.func54, Try.ntmps54
  go_wp2_with (first
    | (go_at_call 61; refine (Hs.out _).mono ?_; rintro e w1 ⟨rfl, hb1⟩; have k1 := (Blk.new w _ _).below hb1 (by simp); have B1 := ((Below.refl w.heap.size w).alloc (Nat.le_refl _) _).trans (hb1.mono (by simp)))
    | ((with_reducible show wpList _ _ _ (⟨none, .store _ _ _, _, _, _, _⟩ :: _) _ _); refine wpList_store_blk rfl 45 (.tmp 2) (.tmp 4) rfl 32 size26 w.heap.size (r.map B).toArray rfl rfl (by simp [Hrl.out]) (oneCell_B _) 45 _ k1 (by rfl) ?_; simp only [Act.put]))
  refine bodyPost_ret (results_cell_row rfl _ _ w.heap.size 45 (r.map B).toArray (0, 0) _ rfl (k1.setRow_ _) Try.underlying45 rfl (by rw [show (r.map B).toArray.size = 32 by simp [Hrl.out]]; exact info26)) rfl ⟨rfl, ?_⟩
  exact below_setRow B1 (Nat.le_refl _) _

/-- in the loops of Node -/
structure RnC (w : World) (lv rv zs : Array Value) (v : Value) (xs : List UInt8) (W : World) : Prop where
  l : Blk W w.heap.size 45 lv
  r : Blk W (w.heap.size + 1) 45 rv
  z : Blk W (w.heap.size + 2) 45 zs
  own : W.ownsRow (w.heap.size + 3) 5 1 v xs.length (xs.map B)
  bel : Below w.heap.size w W
  big : w.heap.size + 2 < W.heap.size
theorem RnC.app {w W : World} {lv rv zs : Array Value} {v : Value} {xs : List UInt8} (h : RnC w lv rv zs v xs W) (x : UInt8) (hl : xs.length ≤ 100) : ∃ v' W', (Builtin.append_ #[71, 71] 71 #[v, .slice (some ⟨W.heap.size, 0, none⟩) 1 1]).run Try.prog (W.alloc (.cells #[B x] 5)) = .ok v' W' ∧ RnC w lv rv zs v' (xs ++ [x]) W' := by
  have hb := h.big
  obtain ⟨v', W', hr, ho, hg⟩ := append_sl (h.own.alloc (.cells ([x].map B).toArray 5)) (sl_lit W [x] 1 rfl (by decide)) (by omega) (by simp; omega)
  have hlt : ∀ k, v.ownBlock = some k → w.heap.size + 3 ≤ k := fun k hk => (h.own.lt k hk).1
  refine ⟨v', W', hr, (h.l.alloc _).grown hg fun e => ?_, (h.r.alloc _).grown hg fun e => ?_, (h.z.alloc _).grown hg fun e => ?_, ho, (h.bel.alloc h.bel.size _).grown hg (by simp; omega) fun k hk => ?_, by have := hg.size; simp at this; omega⟩
  · have := hlt _ e.symm; omega
  · have := hlt _ e.symm; omega
  · have := hlt _ e.symm; omega
  · have := hlt k hk; omega

set_option maxHeartbeats 1000000 in
set_option maxRecDepth 100000 in
theorem hrnode_any (l r : List UInt8) (w : World) (hl : l.length = 32) (hr : r.length = 32) :
    Calls Try.prog 55 #[.agg (l.map B).toArray, .agg (r.map B).toArray] w fun e w' => e = .returned (.agg ((hNode l r).map B).toArray) ∧ Below w.heap.size w w' := by
  obtain ⟨x, hx⟩ : ∃ x, hNode l r = x := ⟨_, rfl⟩
  have hxl : x.length = 32 := by rw [← hx]; exact length_hNode l r
  obtain ⟨zs, hzs⟩ : ∃ zs, zeroHash = zs := ⟨_, rfl⟩
  obtain ⟨lv, hlv⟩ : ∃ lv, (l.map B).toArray = lv := ⟨_, rfl⟩
  obtain ⟨rv, hrv⟩ : ∃ rv, (r.map B).toArray = rv := ⟨_, rfl⟩
  have hzl : zs.size = 32 := by rw [← hzs]; rfl
  rw [hx, hlv, hrv]
  have Hx := Lib.hid hx
  have Hxl := Lib.hid hxl
  have Hzs := Lib.hid hzs
  have Hlv := Lib.hid hlv
  have Hrv := Lib.hid hrv
  have Hl := Lib.hid hl
  have Hr := Lib.hid hr
  clear hx hxl hzs hlv hrv hl hr
  go_enter Try.func55, Try.ntmps55
  go_upto_region 1 with fail
  refine wp_world (fun W => Blk W w.heap.size 45 lv ∧ Blk W (w.heap.size + 1) 45 rv ∧ Blk W (w.heap.size + 2) 45 zs ∧ Below w.heap.size w W ∧ W.heap.size = w.heap.size + 3) ⟨?_, ?_, ?_, ?_, ?_⟩ ?_
  · exact ((Blk.new _ _ _).alloc _).alloc _
  · exact (Blk.new' _ _ _ _ (by simp)).alloc _
  · rw [← Hzs.out]; exact Blk.new' _ _ _ _ (by simp)
  · exact (((Below.refl _ _).alloc (Nat.le_refl _) _).alloc (by simp) _).alloc (by simp; omega) _
  · simp
  rintro W1 ⟨kl, kr, kz, B1, hW1⟩
  have HW := Lib.hid hW1
  clear hW1
  go_wp2_with fail
  go_loopw [5, 6] (fun s5 i wr => ∃ (v : Value) (k : Nat), v = s5 ∧ k ≤ 32 ∧ i = .int .i64 k ∧ RnC w lv rv zs v (1 :: l.take k) wr) (fun _ i => fun _ => 32 - (intOf i).toNat)
  case atStart =>
    refine ⟨_, 0, rfl, by omega, rfl, kl.alloc _, kr.alloc _, kz.alloc _, ?_, B1.alloc B1.size _, by have := HW.out; simp; omega⟩
    exact World.ownsRow_lit W1 #[.int .u8 1] 1 (by have := HW.out; omega) (by decide) rfl
  case round =>
    obtain ⟨v, k, rfl, hk, rfl, hC⟩ := hrel
    by_cases hlt : k < 32
    · obtain ⟨y, hy⟩ : ∃ y, l.getD k 0 = y := ⟨_, rfl⟩
      have cy : wr.cell? ⟨w.heap.size, k, none⟩ = some (B y) := by rw [hC.l.cell, ← Hlv.out, ← hy]; exact cellB l k (by rw [Hl.out]; exact hlt)
      obtain ⟨v2, w2, hr2, hC2⟩ := hC.app y (by rw [List.length_cons, List.length_take]; omega)
      have hsn : 1 :: l.take k ++ [y] = 1 :: l.take (k + 1) := by
        rw [List.take_succ_eq_append_getElem (by rw [Hl.out]; exact hlt), ← hy, List.getD_eq_getElem?_getD, List.getElem?_eq_getElem (by rw [Hl.out]; exact hlt)]; rfl
      rw [hsn] at hC2
      have Hr2 := Lib.hid hr2
      clear hr2 hsn hy hC
      go_wp2_with ((with_reducible show wpList _ _ _ (⟨some 18, .call _, _, _, _, _⟩ :: _) _ _); refine wpList_run rfl _ w2 (run_append_op (.tmp 13) (.tmp 17) 71 rfl _ _ rfl rfl Hr2.out) ?_; simp only [Act.put])
      go_roundw
      case rel => exact ⟨_, k + 1, rfl, by omega, by go_num, hC2⟩
      case measure => simp [intOf]; omega
    · obtain rfl : k = 32 := by omega
      rw [List.take_of_length_le (by rw [Hl.out]; omega)] at hC
      clear kl kr kz B1
      go_wp2_with fail
      go_loopw [5, 7] (fun s5 i wr => ∃ (v : Value) (k : Nat), v = s5 ∧ k ≤ 32 ∧ i = .int .i64 k ∧ RnC w lv rv zs v (1 :: (l ++ r.take k)) wr) (fun _ i => fun _ => 32 - (intOf i).toNat)
      case atStart => exact ⟨_, 0, rfl, by omega, rfl, by rw [List.take_zero, List.append_nil]; exact hC⟩
      case round =>
        clear hC
        obtain ⟨v, k, rfl, hk, rfl, hC⟩ := hrel
        by_cases hlt : k < 32
        · obtain ⟨y, hy⟩ : ∃ y, r.getD k 0 = y := ⟨_, rfl⟩
          have cy : wr.cell? ⟨w.heap.size + 1, k, none⟩ = some (B y) := by rw [hC.r.cell, ← Hrv.out, ← hy]; exact cellB r k (by rw [Hr.out]; exact hlt)
          obtain ⟨v2, w2, hr2, hC2⟩ := hC.app y (by rw [List.length_cons, List.length_append, List.length_take, Hl.out]; omega)
          have hsn : 1 :: (l ++ r.take k) ++ [y] = 1 :: (l ++ r.take (k + 1)) := by
            rw [List.take_succ_eq_append_getElem (by rw [Hr.out]; exact hlt), ← hy, List.getD_eq_getElem?_getD, List.getElem?_eq_getElem (by rw [Hr.out]; exact hlt)]; simp
          rw [hsn] at hC2
          have Hr2 := Lib.hid hr2
          clear hr2 hsn hy hC
          go_wp2_with ((with_reducible show wpList _ _ _ (⟨some 28, .call _, _, _, _, _⟩ :: _) _ _); refine wpList_run rfl _ w2 (run_append_op (.tmp 23) (.tmp 27) 71 rfl _ _ rfl rfl Hr2.out) ?_; simp only [Act.put])
          go_roundw
          case rel => ((repeat apply Exists.intro); exact ⟨⟨_, k + 1, rfl, by omega, by go_num, hC2⟩, rfl⟩)
          case measure => simp [intOf]; omega
        · obtain rfl : k = 32 := by omega
          rw [List.take_of_length_le (by rw [Hr.out]; omega)] at hC
          obtain ⟨A2, c2, rfl, hs2⟩ := owns_sl hC.own
          have hlen : (1 :: (l ++ r)).length = 65 := by rw [List.length_cons, List.length_append, Hl.out, Hr.out]
          rw [hlen] at hs2 ⊢
          have hof := hrof_any (1 :: (l ++ r)) A2 65 c2 wr hs2.all (by decide)
          rw [show sha256 (1 :: (l ++ r)) = x from Hx.out] at hof
          have kz2 := hC.z
          have B2 := hC.bel
          have Hof := Lib.hid hof
          clear hof hs2 hC hlen
          go_wp2_with (first
            | (go_at_call 54; refine Hof.out.mono ?_; rintro e w3 ⟨rfl, hb3⟩; have k3 := kz2.below hb3 kz2.lt; have B3 := B2.trans (hb3.mono B2.size))
            | ((with_reducible show wpList _ _ _ (⟨none, .store _ _ _, _, _, _, _⟩ :: _) _ _); refine wpList_store_blk rfl 45 (.tmp 4) (.tmp 30) rfl 32 size26 (w.heap.size + 2) (x.map B).toArray rfl rfl (by simp [Hxl.out]) (oneCell_B _) 45 _ k3 hzl ?_; simp only [Act.put]))
          refine bodyPost_ret (results_cell_row rfl _ _ (w.heap.size + 2) 45 (x.map B).toArray (0, 0) _ rfl (k3.setRow_ _) Try.underlying45 rfl (by rw [show (x.map B).toArray.size = 32 by simp [Hxl.out]]; exact info26)) rfl ⟨rfl, ?_⟩
          exact below_setRow B3 (by omega) _
end Go.Proofs.Ytmglkblomklcbaa
/- tree.Of, notaryref09.Of, notaryref08.Empty. -/
namespace Go.Proofs.Ytmglkblomklcbaa
open Go Go.RowKit

theorem sizeHs : ∀ w : World, (sizeOf (Try.prog.elem 22)).run Try.prog w = .ok 32 w := fun _ => by kernel_rfl
theorem sliceHs : Try.prog.underlying 22 = some (.slice (Try.prog.elem 22)) := by kernel_rfl
/-- the root of a list of leaves' hashes -/
def rootL (hs : List (List UInt8)) : List UInt8 := rootF hEmpty hNode hs.length hs
theorem rootL_nil : rootL [] = hEmpty := rfl
theorem rootL_one (x : List UInt8) : rootL [x] = x := rfl
theorem rootL_more (hs : List (List UInt8)) (h : 2 ≤ hs.length) : rootL hs = hNode (rootL (hs.take (splitN hs.length))) (rootL (hs.drop (splitN hs.length))) := by
  unfold rootL
  rw [rootF_enough _ _ hs.length (hs.length + 1) hs (Nat.le_refl _) (by omega), rootF, if_neg (by omega), if_neg (by omega)]
  rw [rootF_enough _ _ hs.length (hs.take (splitN hs.length)).length _ (by rw [List.length_take]; omega) (Nat.le_refl _), rootF_enough _ _ hs.length (hs.drop (splitN hs.length)).length _ (by rw [List.length_drop]; omega) (Nat.le_refl _)]
theorem length_rootL (hs : List (List UInt8)) (h : H32 hs) : (rootL hs).length = 32 := by
  by_cases h2 : 2 ≤ hs.length
  · rw [rootL_more hs h2]; exact length_hNode _ _
  · match hs, h, h2 with
    | [], _, _ => exact length_hEmpty
    | [x], h, _ => exact h x (by simp)
    | _ :: _ :: _, _, h2 => exact absurd (by simp) h2
theorem run_slice_op_hi {ρ : Operand → Value} {o : Oper} (x y : Operand) (ho : o.op = .slice 22 x none (some y) none) (A : Option Addr) (n c k : Nat) (hx : ρ x = .slice A n c) (hy : ρ y = .int .i64 (k : Int)) (hk : k ≤ c) (W : World) :
    (execOp ρ o).run Try.prog W = .ok (.value (.slice A k c)) W := by
  unfold execOp
  simp only [ho, hx, hy, Option.map_some, Option.map_none, run_slice_high sliceHs sizeHs A n c k hk W, Sem.run_bind, Sem.run_pure, Result.andThen_ok]
theorem run_slice_op_lo {ρ : Operand → Value} {o : Oper} (x y : Operand) (ho : o.op = .slice 22 x (some y) none none) (A : Option Addr) (n c k : Nat) (hx : ρ x = .slice A n c) (hy : ρ y = .int .i64 (k : Int)) (hk : k ≤ n) (W : World) :
    (execOp ρ o).run Try.prog W = .ok (.value (.slice (if c = k then A else A.map (·.add (k * 32))) (n - k) (c - k))) W := by
  unfold execOp
  simp only [ho, hx, hy, Option.map_some, Option.map_none, run_slice_low sliceHs sizeHs A n c k hk W, Sem.run_bind, Sem.run_pure, Result.andThen_ok]

set_option maxHeartbeats 2000000 in
set_option maxRecDepth 100000 in
theorem tof_rec (d : Nat) : ∀ (hs : List (List UInt8)) (A : Option Addr) (n c : Nat) (w : World), n ≤ d → Hs w (fun _ => True) A n c hs → n ≤ 4398046511104 →
    Calls Try.prog 46 #[.slice A n c] w fun e w' => e = .returned (.agg ((rootL hs).map B).toArray) ∧ Below w.heap.size w w' := by
  induction d using Nat.strongRecOn with
  | ind d ih =>
  intro hs A n c w hnd h hn
  obtain ⟨zs, hzs⟩ : ∃ zs, zeroHash = zs := ⟨_, rfl⟩
  have hzl : zs.size = 32 := by rw [← hzs]; rfl
  have hlen := h.len
  have hroom := h.sl.room
  have hmax := h.sl.max
  unfold maxLen at hmax
  have hb0 := (Below.refl w.heap.size w).alloc (Nat.le_refl _) (.cells zs 45)
  have k0 := Blk.new w 45 zs
  have h0 := h.step hb0
  obtain ⟨r, hr⟩ : ∃ r, rootL hs = r := ⟨_, rfl⟩
  have hrl : r.length = 32 := by rw [← hr]; exact length_rootL hs h.all
  rw [hr]
  have Hzs := Lib.hid hzs
  have Hrl := Lib.hid hrl
  have Hr := Lib.hid hr
  have Hlen := Lib.hid hlen
  clear hzs hrl hr hlen
  by_cases hn0 : n = 0
  · subst hn0
    have hnil : hs = [] := List.eq_nil_of_length_eq_zero Hlen.out
    subst hnil
    obtain rfl : r = hEmpty := Hr.out.symm
    clear ih h h0
    go_enter Try.func46, Try.ntmps46
    go_wp2_with (first
      | ((with_reducible show wpList _ _ _ (⟨some 2, .alloc _, _, _, _, _⟩ :: _) _ _); refine wpList_run rfl (.pointer (some ⟨w.heap.size, 0, none⟩)) (w.alloc (.cells zs 45)) (by rw [← Hzs.out]; rfl) ?_; simp only [Act.put])
      | (go_at_call 57; refine (hempty_any _).mono ?_; rintro e w1 ⟨rfl, hb1⟩; have k1 := k0.below hb1 (by simp); have B1 := hb0.trans (hb1.mono (by simp)))
      | ((with_reducible show wpList _ _ _ (⟨none, .store _ _ _, _, _, _, _⟩ :: _) _ _); refine wpList_store_blk rfl 45 (.tmp 2) (.tmp 21) rfl 32 size26 w.heap.size (hEmpty.map B).toArray rfl rfl (by simp [Hrl.out]) (oneCell_B _) 45 _ k1 hzl ?_; simp only [Act.put]))
    refine bodyPost_ret (results_cell_row rfl _ _ w.heap.size 45 (hEmpty.map B).toArray (0, 0) _ rfl (k1.setRow_ _) Try.underlying45 rfl (by rw [show (hEmpty.map B).toArray.size = 32 by simp [Hrl.out]]; exact info26)) rfl ⟨rfl, ?_⟩
    exact below_setRow B1 (Nat.le_refl _) _
  by_cases hn1 : n = 1
  · subst hn1
    obtain ⟨x, rfl⟩ := List.length_eq_one_iff.1 Hlen.out
    obtain rfl : r = x := Hr.out.symm
    obtain ⟨b, o, rfl, -, -, hat⟩ := h0.at_ (by omega)
    have hld : (Instr.loadAt 45 (.pointer (some ⟨b, o, none⟩))).run Try.prog (w.alloc (.cells zs 45)) = .ok (.agg (r.map B).toArray) (w.alloc (.cells zs 45)) := hat 0 (by omega)
    have Hld := Lib.hid hld
    clear ih h h0 hat hld
    go_enter Try.func46, Try.ntmps46
    go_wp2_with (first
      | ((with_reducible show wpList _ _ _ (⟨some 2, .alloc _, _, _, _, _⟩ :: _) _ _); refine wpList_run rfl (.pointer (some ⟨w.heap.size, 0, none⟩)) (w.alloc (.cells zs 45)) (by rw [← Hzs.out]; rfl) ?_; simp only [Act.put])
      | ((with_reducible show wpList _ _ _ (⟨some 26, .load _ _, _, _, _, _⟩ :: _) _ _); refine wpList_load rfl 45 (.tmp 25) rfl b o rfl (r.map B).toArray Hld.out ?_; simp only [Act.put])
      | ((with_reducible show wpList _ _ _ (⟨none, .store _ _ _, _, _, _, _⟩ :: _) _ _); refine wpList_store_blk rfl 45 (.tmp 2) (.tmp 26) rfl 32 size26 w.heap.size (r.map B).toArray rfl rfl (by simp [Hrl.out]) (oneCell_B _) 45 _ k0 hzl ?_; simp only [Act.put]))
    refine bodyPost_ret (results_cell_row rfl _ _ w.heap.size 45 (r.map B).toArray (0, 0) _ rfl (k0.setRow_ _) Try.underlying45 rfl (by rw [show (r.map B).toArray.size = 32 by simp [Hrl.out]]; exact info26)) rfl ⟨rfl, ?_⟩
    exact below_setRow hb0 (Nat.le_refl _) _
  have hne0 : ((n : Int) == 0) = false := by simp; omega
  have hne1 : ((n : Int) == 1) = false := by simp; omega
  have hmore := rootL_more hs (by rw [Hlen.out]; omega)
  rw [Hlen.out, Hr.out] at hmore
  have hspl := fun w => tsplit_any (n : Int) w (by omega)
  rw [Int.toNat_natCast] at hspl
  have hsl := splitN_lt n (by omega)
  have hsp := splitN_pos n (by omega)
  obtain ⟨s, hs'⟩ : ∃ s, splitN n = s := ⟨_, rfl⟩
  rw [hs'] at hmore hspl hsl hsp
  have hL := fun W (hW : Below (w.alloc (.cells zs 45)).heap.size (w.alloc (.cells zs 45)) W) => ih s (by omega) (hs.take s) A s c W (Nat.le_refl _) ((h0.step hW).take s (by omega)) (by omega)
  have hR := fun W (hW : Below (w.alloc (.cells zs 45)).heap.size (w.alloc (.cells zs 45)) W) => ih (n - s) (by omega) (hs.drop s) _ (n - s) (c - s) W (Nat.le_refl _) ((h0.step hW).drop s (by omega)) (by omega)
  obtain ⟨x, hx⟩ : ∃ x, rootL (hs.take s) = x := ⟨_, rfl⟩
  obtain ⟨y, hy⟩ : ∃ y, rootL (hs.drop s) = y := ⟨_, rfl⟩
  have hxl : x.length = 32 := by rw [← hx]; exact length_rootL _ (h.all.take s)
  have hyl : y.length = 32 := by rw [← hy]; exact length_rootL _ (h.all.drop s)
  rw [hx] at hL hmore
  rw [hy] at hR hmore
  have hN := fun W => hnode_any x y W hxl hyl
  rw [← hmore] at hN
  have Hspl := Lib.hid hspl
  have HL := Lib.hid hL
  have HR := Lib.hid hR
  have HN := Lib.hid hN
  clear hspl hL hR hN hx hy hxl hyl hmore hs' ih h
  go_enter Try.func46, Try.ntmps46
  go_wp2_with (first
    | ((with_reducible show wpList _ _ _ (⟨some 2, .alloc _, _, _, _, _⟩ :: _) _ _); refine wpList_run rfl (.pointer (some ⟨w.heap.size, 0, none⟩)) (w.alloc (.cells zs 45)) (by rw [← Hzs.out]; rfl) ?_; simp only [Act.put])
    | (go_at_call 48; refine (Hspl.out _).mono ?_; rintro e w1 ⟨rfl, rfl⟩))
  generalize w.alloc (.cells zs 45) = w1 at hb0 k0 h0 HL HR ⊢
  have hS : Below w1.heap.size w1 w1.drew := (Below.refl _ _).drew
  refine wp_region_mix_last (fun W => Below w1.heap.size w1 W) 9 [(0, true), (1, true), (2, true), (4, true), (5, true), (6, true), (3, false), (7, false), (8, false)] (by kernel_rfl) (by kernel_rfl) hS fun _ => ?_
  simp only [List.map_cons, List.map_nil, Array.getD_eq_getD_getElem?, List.getElem?_toArray, List.getElem?_cons_succ, List.getElem?_cons_zero, Option.getD_some]
  generalize w1.drew = W0 at hS ⊢
  refine wpMix_s (fun K hK => ?_)
  go_simp
  refine hK _ ?_
  clear hK K
  refine wpMix_s (fun K hK => ?_)
  go_simp
  refine hK _ ?_
  clear hK K
  refine wpMix_v (by kernel_rfl) (.slice A s c) (fun u => run_slice_op_hi (.tmp 10) (.tmp 11) rfl A n c s rfl rfl (by omega) u.W) ?_
  simp only [Act.put]
  refine wpMix_s (fun K hK => ?_)
  go_simp
  refine hK _ ?_
  clear hK K
  refine wpMix_s (fun K hK => ?_)
  go_simp
  refine hK _ ?_
  clear hK K
  refine wpMix_v (by kernel_rfl) (.slice (if c = s then A else A.map (·.add (s * 32))) (n - s) (c - s)) (fun u => run_slice_op_lo (.tmp 14) (.tmp 15) rfl A n c s rfl rfl (by omega) u.W) ?_
  simp only [Act.put]
  refine wpMix_c (fun K hK => ?_) hS
  go_simp
  refine (HL.out W0 hS).mono ?_
  rintro e W1 ⟨rfl, hb'⟩
  refine hK _ _ ?_
  clear hK K
  replace hS := hS.trans (hb'.mono hS.size)
  refine ⟨hS, ?_⟩
  clear hb'
  refine wpMix_c (fun K hK => ?_) hS
  go_simp
  refine (HR.out W1 hS).mono ?_
  rintro e W2 ⟨rfl, hb'⟩
  refine hK _ _ ?_
  clear hK K
  replace hS := hS.trans (hb'.mono hS.size)
  refine ⟨hS, ?_⟩
  clear hb'
  refine wpMix_c (fun K hK => ?_) hS
  go_simp
  refine (HN.out W2).mono ?_
  rintro e W3 ⟨rfl, hb'⟩
  refine hK _ _ ?_
  clear hK K
  replace hS := hS.trans (hb'.mono hS.size)
  refine ⟨hS, ?_⟩
  clear hb'
  refine wpMix_nil ?_
  intro _
  simp only [List.drop_succ_cons, List.drop_zero]
  have k3 := k0.below hS k0.lt
  go_wp2_with ((with_reducible show wpList _ _ _ (⟨none, .store _ _ _, _, _, _, _⟩ :: _) _ _); refine wpList_store_blk rfl 45 (.tmp 2) (.tmp 18) rfl 32 size26 w.heap.size (r.map B).toArray rfl rfl (by simp [Hrl.out]) (oneCell_B _) 45 _ k3 hzl ?_; simp only [Act.put])
  refine np_normal ?_
  go_wp2_with fail
  refine bodyPost_ret (results_cell_row rfl _ _ w.heap.size 45 (r.map B).toArray (0, 0) _ rfl (k3.setRow_ _) Try.underlying45 rfl (by rw [show (r.map B).toArray.size = 32 by simp [Hrl.out]]; exact info26)) rfl ⟨rfl, ?_⟩
  exact below_setRow (hb0.trans (hS.mono hb0.size)) (Nat.le_refl _) _
theorem tof_any (hs : List (List UInt8)) (A : Option Addr) (n c : Nat) (w : World) (h : Hs w (fun _ => True) A n c hs) (hn : n ≤ 4398046511104) :
    Calls Try.prog 46 #[.slice A n c] w fun e w' => e = .returned (.agg ((rootL hs).map B).toArray) ∧ Below w.heap.size w w' := tof_rec n hs A n c w (Nat.le_refl _) h hn
end Go.Proofs.Ytmglkblomklcbaa
/- tree.Steps and the function within it. -/
namespace Go.Proofs.Ytmglkblomklcbaa
open Go Go.RowKit

end Go.Proofs.Ytmglkblomklcbaa
/- tree.Steps. -/
namespace Go.Proofs.Ytmglkblomklcbaa
open Go Go.RowKit

end Go.Proofs.Ytmglkblomklcbaa
/- notarylaw09.known. -/
namespace Go.Proofs.Ytmglkblomklcbaa
open Go Go.RowKit

theorem rootL_three (a b c : List UInt8) : rootL [a, b, c] = hNode (hNode a b) c := by
  rw [rootL_more _ (by simp), show splitN [a, b, c].length = 2 from (by decide : splitN 3 = 2)]
  show hNode (rootL [a, b]) (rootL [c]) = _
  rw [rootL_more [a, b] (by simp), show splitN [a, b].length = 1 from (by decide : splitN 2 = 1)]
  rfl
theorem path23 : pathL 2 0 3 = [(0, 2)] := by decide
theorem steps37 : stepsL 3 0 7 true = [(2, 3), (3, 4), (0, 2), (4, 7)] := by decide

structure KnC (w : World) (a b c : List UInt8) (Ap : Option Addr) (cp : Nat) (As : Option Addr) (cs : Nat) (W : World) : Prop where
  k1 : Blk W w.heap.size 45 (a.map B).toArray
  k2 : Blk W (w.heap.size + 1) 45 (b.map B).toArray
  k3 : Blk W (w.heap.size + 1 + 1) 45 (c.map B).toArray
  p : Rs W (fun _ => True) Ap 1 cp [(0, 2)]
  s : Rs W (fun _ => True) As 4 cs [(2, 3), (3, 4), (0, 2), (4, 7)]
  bel : Below w.heap.size w W
theorem KnC.step {w W W' : World} {a b c : List UInt8} {Ap As : Option Addr} {cp cs : Nat} (h : KnC w a b c Ap cp As cs W) (hb : Below W.heap.size W W') : KnC w a b c Ap cp As cs W' :=
  ⟨h.k1.below hb h.k1.lt, h.k2.below hb h.k2.lt, h.k3.below hb h.k3.lt, h.p.step hb, h.s.step hb, h.bel.trans (hb.mono h.bel.size)⟩

end Go.Proofs.Ytmglkblomklcbaa
/- tree.Whole, notaryref09.Whole. -/
namespace Go.Proofs.Ytmglkblomklcbaa
open Go Go.RowKit

theorem bit_one (n i : Nat) (h : n / 2 ^ i % 2 = 1) : n % 2 ^ (i + 1) = 2 ^ i + n % 2 ^ i := by
  rw [Nat.mod_pow_succ, h, Nat.mul_one, Nat.add_comm]
theorem bit_zero (n i : Nat) (h : n / 2 ^ i % 2 = 0) : n % 2 ^ (i + 1) = n % 2 ^ i := by
  rw [Nat.mod_pow_succ, h, Nat.mul_zero, Nat.add_zero]
theorem wholeL_bit (a n i : Nat) (h : n / 2 ^ i % 2 = 1) : wholeL a (n % 2 ^ (i + 1)) = (a, a + 2 ^ i) :: wholeL (a + 2 ^ i) (n % 2 ^ i) := by
  have hp := Nat.two_pow_pos i
  have hlt : n % 2 ^ i < 2 ^ i := Nat.mod_lt _ hp
  rw [bit_one n i h]
  have hlog : (2 ^ i + n % 2 ^ i).log2 = i := (Nat.log2_eq_iff (by omega)).2 ⟨by omega, by rw [Nat.pow_succ]; omega⟩
  rw [wholeL_more a _ (by omega), hlog, Nat.add_sub_cancel_left]

theorem i64_and_one (a : Nat) (ha : a < 9223372036854775808) : bits .and .i64 (a : Int) 1 = ((a % 2 : Nat) : Int) := by
  have e : a &&& 1 = a % 2 := Nat.and_one_is_mod a
  show IntKind.i64.wrap ((BitVec.ofInt 64 (a : Int) &&& BitVec.ofInt 64 ((1 : Nat) : Int)).toNat : Int) = _
  rw [BitVec.toNat_and, ofInt_u64 a (by omega), ofInt_u64 1 (by omega), e, IntKind.wrap_i64]
  omega
theorem wholeL_len (d : Nat) : ∀ a n : Nat, n < 2 ^ d → (wholeL a n).length ≤ d + 1 := by
  induction d with
  | zero => intro a n h; rw [show n = 0 by omega, wholeL_zero]; simp
  | succ d ih =>
    intro a n h
    by_cases hn : n = 0
    · subst hn; rw [wholeL_zero]; simp
    · rw [wholeL_more a n hn, List.length_cons]
      have h1 := Nat.log2_self_le hn
      have h2 := Nat.lt_log2_self (n := n)
      have hl : n.log2 ≤ d := by
        have : n.log2 < d + 1 := (Nat.log2_lt hn).2 h
        omega
      have h3 : 2 ^ n.log2 ≤ 2 ^ d := Nat.pow_le_pow_right (by decide) hl
      rw [Nat.pow_succ] at h2
      have := ih (a + 2 ^ n.log2) (n - 2 ^ n.log2) (by omega)
      omega

/-- the greatest power of two that is not above n -/
theorem log2_of_pow (n j : Nat) (h1 : 2 ^ j ≤ n) (h2 : n < 2 ^ (j + 1)) : n.log2 = j := (Nat.log2_eq_iff (by have := Nat.two_pow_pos j; omega)).2 ⟨h1, h2⟩

end Go.Proofs.Ytmglkblomklcbaa
/- notaryref09.path, Path, steps, Steps. -/
namespace Go.Proofs.Ytmglkblomklcbaa
open Go Go.RowKit

/-- one stretch more, behind what a call has told -/
theorem PtC.app {w W : World} {os : List (Nat × Nat)} {v : Value} (h : PtC w os v W) (x : Nat × Nat) (hl : os.length ≤ 1000) :
    ∃ v' w', (Builtin.append_ #[79, 79] 79 #[v, .slice (some ⟨W.heap.size, 0, none⟩) 1 1]).run Try.prog (W.alloc (.cells #[.int .i64 (x.1 : Int), .int .i64 (x.2 : Int)] 68)) = .ok v' w' ∧ PtC w (os ++ [x]) v' w' := by
  obtain ⟨v', w', hr, ho, hg, -⟩ := append_r h.own ((x.1 : Int), (x.2 : Int)) (by omega) h.bel.size
  rw [show natR os ++ [((x.1 : Int), (x.2 : Int))] = natR (os ++ [x]) by rw [natR_append]; rfl, show os.length + 1 = (os ++ [x]).length by simp] at ho
  exact ⟨v', w', hr, ho, h.bel.grown hg h.bel.size (fun k hk => (h.own.lt k hk).1)⟩

end Go.Proofs.Ytmglkblomklcbaa
/- notarylaw09.TreeNumbers. -/
namespace Go.Proofs.Ytmglkblomklcbaa
open Go Go.RowKit

/-- the path of a number, or the refusal -/
def pathA (i n : Int) : List (Nat × Nat) × Int := if i < 0 ∨ n ≤ i then ([], 4) else (pathL i.toNat 0 n.toNat, 0)
def stepsA (m n : Int) : List (Nat × Nat) × Int := if m < 0 ∨ n < m then ([], 4) else if m = 0 then ([], 0) else (stepsL m.toNat 0 n.toNat true, 0)
theorem pathA_len (i n : Int) (hn : n ≤ 9223372036854775807) : (pathA i n).1.length ≤ 64 := by
  unfold pathA
  split
  · simp
  · have := pathL_len 63 i.toNat 0 n.toNat (by omega)
    simp only; omega
theorem stepsA_len (i n : Int) (hn : n ≤ 9223372036854775807) : (stepsA i n).1.length ≤ 64 := by
  unfold stepsA
  split
  · simp
  · split
    · simp
    · exact stepsL_len 63 i.toNat 0 n.toNat true (by omega) (by omega) (by omega)
theorem PtC.none_ {w w' : World} (h : Below w.heap.size w w') : PtC w [] (.slice none 0 0) w' := ⟨World.ownsRow_nil _ _ _ _, h⟩
theorem tpathA_any (i n : Int) (w : World) (hn : n ≤ 9223372036854775807) :
    Calls Try.prog 37 #[.int .i64 i, .int .i64 n] w fun e w' => ∃ v, e = .returned (.tuple #[v, .int .i64 (pathA i n).2]) ∧ PtC w (pathA i n).1 v w' := by
  unfold pathA
  by_cases h : i < 0 ∨ n ≤ i
  · rw [if_pos h]
    exact (tpath_bad i n w h).mono fun e w' ⟨he, hw⟩ => ⟨_, he, by subst hw; exact PtC.none_ (Below.refl _ _)⟩
  · rw [if_neg h]
    have := tpath_ok i.toNat n.toNat w (by omega) (by omega)
    rw [show ((i.toNat : Nat) : Int) = i by omega, show ((n.toNat : Nat) : Int) = n by omega] at this
    exact this.mono fun e w' ⟨v, he, h1, h2⟩ => ⟨v, he, h1, h2⟩
/-- what a call has told, between two marks of memory -/
structure IvR (W : World) (lo hi : Nat) (v : Value) (os : List (Nat × Nat)) : Prop where
  own : W.ownsRow lo 68 2 v os.length (rcells (natR os))
  lt : ∀ g, v.ownBlock = some g → g < hi
theorem IvR.of_pt {w W : World} {os : List (Nat × Nat)} {v : Value} (h : PtC w os v W) : IvR W w.heap.size W.heap.size v os := ⟨h.own, fun g hg => (h.own.lt g hg).2⟩
theorem IvR.step {W W' : World} {lo hi : Nat} {v : Value} {os : List (Nat × Nat)} (h : IvR W lo hi v os) (hb : Below W.heap.size W W') : IvR W' lo hi v os := ⟨owns_step h.own hb, h.lt⟩
theorem IvR.grown {W W' : World} {lo hi : Nat} {v : Value} {os : List (Nat × Nat)} {row : Option Nat} (h : IvR W lo hi v os) (hg : W.grownBy W' row) (hr : ∀ g, row = some g → g < lo ∨ hi ≤ g) : IvR W' lo hi v os := by
  refine ⟨h.own.kept hg ?_, h.lt⟩
  cases hv : v.ownBlock with
  | none => exact .inl rfl
  | some g =>
    refine .inr fun e => ?_
    have h1 := (h.own.lt g hv).1
    have h2 := h.lt g hv
    have := hr g e.symm
    omega
theorem IvR.rs {W : World} {lo hi : Nat} {v : Value} {os : List (Nat × Nat)} (h : IvR W lo hi v os) : ∃ A c, v = .slice A os.length c ∧ Rs W (fun _ => True) A os.length c (natR os) := by
  obtain ⟨A, c, hv, hs⟩ := Rs.of_owns h.own (natR_length os)
  exact ⟨A, c, hv, hs.weak fun _ _ _ => trivial⟩

end Go.Proofs.Ytmglkblomklcbaa
