/- The fold of the whole stretches' roots; tree.Stretch. -/
import Derived.Test.YtonidnfgneokbaaQd220
import Derived.Test.YtonidnfgneokbaaQd211
import Derived.Test.YtonidnfgneokbaaQd223
namespace Go.Proofs.Ytonidnfgneokbaa
open Go Go.RowKit

/-- the root of the stretch from a to b -/
def stretchL (hs : List (List UInt8)) (a b : Nat) : List UInt8 := rootL ((hs.drop a).take (b - a))
theorem length_stretchL (hs : List (List UInt8)) (a b : Nat) (h : H32 hs) : (stretchL hs a b).length = 32 := length_rootL _ ((h.drop a).take _)
def foldR : List (List UInt8) → List UInt8
  | [] => hEmpty
  | [x] => x
  | x :: y :: t => hNode x (foldR (y :: t))
theorem foldR_cons (x : List UInt8) (l : List (List UInt8)) (h : l ≠ []) : foldR (x :: l) = hNode x (foldR l) := by
  cases l with
  | nil => exact absurd rfl h
  | cons y t => rfl
theorem length_foldR (x : List UInt8) (l : List (List UInt8)) (h : H32 (x :: l)) : (foldR (x :: l)).length = 32 := by
  cases l with
  | nil => exact h x (by simp)
  | cons y t => exact length_hNode _ _
def rootsL (hs : List (List UInt8)) (l : List (Nat × Nat)) : List (List UInt8) := l.map fun s => stretchL hs s.1 s.2
theorem rootsL_all (hs : List (List UInt8)) (h : H32 hs) (l : List (Nat × Nat)) : H32 (rootsL hs l) := fun x hx => by
  obtain ⟨s, _, rfl⟩ := List.mem_map.1 hx
  exact length_stretchL hs _ _ h
theorem wholeL_ne (a n : Nat) (h : n ≠ 0) : wholeL a n ≠ [] := by rw [wholeL_more a n h]; simp
theorem foldR_whole (d : Nat) : ∀ (n a : Nat) (hs : List (List UInt8)), n ≤ d → n ≠ 0 → a + n ≤ hs.length → foldR (rootsL hs (wholeL a n)) = rootL ((hs.drop a).take n) := by
  induction d with
  | zero => intro n a hs h h0; omega
  | succ d ih =>
    intro n a hs h h0 hl
    have hp := Nat.two_pow_pos n.log2
    have h1 := Nat.log2_self_le h0
    have h2 := Nat.lt_log2_self (n := n)
    have hsp := splitN_eq n n.log2
    rw [Nat.pow_succ] at h2 hsp
    rw [wholeL_more a n h0, rootsL, List.map_cons]
    generalize 2 ^ n.log2 = p at *
    by_cases hnp : n = p
    · subst hnp
      rw [Nat.sub_self, wholeL_zero]
      show stretchL hs a (a + n) = _
      rw [stretchL, Nat.add_sub_cancel_left]
    · have hs2 := hsp (by omega) (by omega)
      have hne : (wholeL (a + p) (n - p)).map (fun s => stretchL hs s.1 s.2) ≠ [] := by
        have := wholeL_ne (a + p) (n - p) (by omega)
        simpa using this
      have hi := ih (n - p) (a + p) hs (by omega) (by omega) (by omega)
      rw [rootsL] at hi
      have hlen : ((hs.drop a).take n).length = n := by rw [List.length_take, List.length_drop]; omega
      rw [foldR_cons _ _ hne, hi, rootL_more ((hs.drop a).take n) (by rw [hlen]; omega), hlen, hs2, List.take_take, Nat.min_eq_left (by omega), List.drop_take, List.drop_drop]
      show hNode (stretchL hs a (a + p)) _ = _
      rw [stretchL, Nat.add_sub_cancel_left]
theorem foldR_roots (hs : List (List UInt8)) (h : hs ≠ []) : foldR (rootsL hs (wholeL 0 hs.length)) = rootL hs := by
  have := foldR_whole hs.length hs.length 0 hs (Nat.le_refl _) (by simpa using h) (by omega)
  rw [this, List.drop_zero, List.take_length]
/-- from the back -/
theorem foldR_drop (l : List (List UInt8)) (i : Nat) (h : i + 1 < l.length) : foldR (l.drop i) = hNode (l.getD i []) (foldR (l.drop (i + 1))) := by
  rw [List.drop_eq_getElem_cons (by omega), foldR_cons _ _ (by intro e; have := congrArg List.length e; rw [List.length_drop, List.length_nil] at this; omega), List.getD_eq_getElem?_getD, List.getElem?_eq_getElem (by omega)]
  rfl
theorem foldR_last (l : List (List UInt8)) (n : Nat) (h : l.length = n + 1) : foldR (l.drop n) = l.getD n [] := by
  rw [List.drop_eq_getElem_cons (by omega), List.drop_of_length_le (by omega), List.getD_eq_getElem?_getD, List.getElem?_eq_getElem (by omega)]
  rfl

theorem tuple_cellT {fn : Func} {p u : Tmp} {ty t : TypeId} {P : Program} (h : fn.results = #[.cell p ty, .tmp u]) (tmps : Array Value) (w : World) (g : Nat) (cs : Array Value) (N : Nat) (el : TypeId)
    (hp : tmps.getD p undef = .pointer (some ⟨g, 0, none⟩)) (hg : Blk w g t cs) (hu : P.underlying ty = some (.array N el)) (hi : (P.info? ty).map (·.size) = some cs.size) :
    (results fn tmps).run P w = .ok (.tuple #[.agg cs, tmps.getD u undef]) w := by
  rw [results_cell_tmp h, hp]
  show ((loadVar ty ⟨g, 0, none⟩).run P w).andThen (fun v w₂ => Result.ok (Value.tuple #[v, tmps.getD u undef]) w₂) = _
  rw [run_loadVar_row w g t ty cs (0, 0) _ hg hu rfl hi]
  rfl
/-- 's[a:b]' -/
theorem run_slice_op_both {ρ : Operand → Value} {o : Oper} (x y z : Operand) (ho : o.op = .slice 26 x (some y) (some z) none) (A : Option Addr) (n c a b : Nat) (hx : ρ x = .slice A n c) (hy : ρ y = .int .i64 (a : Int)) (hz : ρ z = .int .i64 (b : Int)) (hab : a ≤ b) (hb : b ≤ c) (W : World) :
    (execOp ρ o).run Try.prog W = .ok (.value (.slice (if c = a then A else A.map (·.add (a * 32))) (b - a) (c - a))) W := by
  unfold execOp
  simp only [ho, hx, hy, hz, Option.map_some, Option.map_none]
  simp only [run_sliceAt_slice W 26 _ _ _ _ sliceHs, run_slice_lh W 26 A n c sliceHs .i64 .i64 (a : Int) (b : Int) (by omega) (by omega) (by omega), sizeHs, Sem.run_bind, Sem.run_pure, Result.andThen_ok, sliced, Int.toNat_natCast]

end Go.Proofs.Ytonidnfgneokbaa
/- wire: Reader's Take, Signed, Hash. -/
namespace Go.Proofs.Ytonidnfgneokbaa
open Go Go.RowKit Go.Shelf
attribute [local go_sem] Oper.semAt_some


theorem nextT_fit (X : Nat → Prop) (g gx : Nat) (l : List UInt8) (p : Nat) (u : Int) (w : World) (h : RdO w X g l p) (hk : Blk w gx 163 #[.int .u64 u]) (hgx : gx ≠ g) (hXx : ∀ b, X b → b ≠ gx) (hfit : p + 8 ≤ l.length) :
    Calls Try.prog 144 #[.pointer (some ⟨g, 0, none⟩), .int .i64 8, .func (.func 158) #[] #[.pointer (some ⟨gx, 0, none⟩)]] w fun e w' => e = .returned (.int .i64 0) ∧ RdO w' X g l (p + 8) ∧ Blk w' gx 163 #[.int .u64 (numN ((l.drop p).take 8) : Int)] ∧ K2 w w' g gx :=
  (nextT_any X g gx l p u w h hk hgx hXx).mono fun e w' hq => by
    rcases hq with ⟨⟨_, h1, h2, h3⟩ | ⟨h1, _⟩, h4⟩
    · exact ⟨h1, h2, h3, h4⟩
    · exact absurd hfit h1
theorem nextT_bad (X : Nat → Prop) (g gx : Nat) (l : List UInt8) (p : Nat) (u : Int) (w : World) (h : RdO w X g l p) (hk : Blk w gx 163 #[.int .u64 u]) (hgx : gx ≠ g) (hXx : ∀ b, X b → b ≠ gx) (hfit : ¬ p + 8 ≤ l.length) :
    Calls Try.prog 144 #[.pointer (some ⟨g, 0, none⟩), .int .i64 8, .func (.func 158) #[] #[.pointer (some ⟨gx, 0, none⟩)]] w fun e w' => e = .returned (.int .i64 110) ∧ RdO w' X g l p ∧ Blk w' gx 163 #[.int .u64 u] ∧ K2 w w' g gx :=
  (nextT_any X g gx l p u w h hk hgx hXx).mono fun e w' hq => by
    rcases hq with ⟨⟨h1, _⟩ | ⟨_, h1, h2, h3⟩, h4⟩
    · exact absurd h1 hfit
    · exact ⟨h1, h2, h3, h4⟩

theorem nextH_fit (X : Nat → Prop) (g gx : Nat) (l : List UInt8) (p : Nat) (z : List UInt8) (w : World) (h : RdO w X g l p) (hk : HV w gx z) (hgx : gx ≠ g) (hXx : ∀ b, X b → b ≠ gx) (hfit : p + 32 ≤ l.length) :
    Calls Try.prog 144 #[.pointer (some ⟨g, 0, none⟩), .int .i64 32, .func (.func 145) #[] #[.pointer (some ⟨gx, 0, none⟩)]] w fun e w' => e = .returned (.int .i64 0) ∧ RdO w' X g l (p + 32) ∧ HV w' gx ((l.drop p).take 32) ∧ K2 w w' g gx :=
  (nextH_any X g gx l p z w h hk hgx hXx).mono fun e w' hq => by
    rcases hq with ⟨⟨_, h1, h2, h3⟩ | ⟨h1, _⟩, h4⟩
    · exact ⟨h1, h2, h3, h4⟩
    · exact absurd hfit h1
theorem nextH_bad (X : Nat → Prop) (g gx : Nat) (l : List UInt8) (p : Nat) (z : List UInt8) (w : World) (h : RdO w X g l p) (hk : HV w gx z) (hgx : gx ≠ g) (hXx : ∀ b, X b → b ≠ gx) (hfit : ¬ p + 32 ≤ l.length) :
    Calls Try.prog 144 #[.pointer (some ⟨g, 0, none⟩), .int .i64 32, .func (.func 145) #[] #[.pointer (some ⟨gx, 0, none⟩)]] w fun e w' => e = .returned (.int .i64 110) ∧ RdO w' X g l p ∧ HV w' gx z ∧ K2 w w' g gx :=
  (nextH_any X g gx l p z w h hk hgx hXx).mono fun e w' hq => by
    rcases hq with ⟨⟨h1, _⟩ | ⟨_, h1, h2, h3⟩, h4⟩
    · exact absurd h1 hfit
    · exact ⟨h1, h2, h3, h4⟩

set_option maxHeartbeats 4000000 in
set_option maxRecDepth 100000 in
theorem rdtake_any (X : Nat → Prop) (g : Nat) (l : List UInt8) (p : Nat) (w : World) (h : RdO w X g l p) (hX : ∀ b, X b → b < w.heap.size) :
    Calls Try.prog 143 #[.pointer (some ⟨g, 0, none⟩)] w fun e w' => (p + 8 ≤ l.length ∧ e = .returned (.tuple #[.int .u64 (numN ((l.drop p).take 8) : Int), .int .i64 0]) ∧ RdO w' X g l (p + 8) ∨ ¬ p + 8 ≤ l.length ∧ e = .returned (.tuple #[.int .u64 0, .int .i64 110]) ∧ RdO w' X g l p) ∧ w.grownBy w' (some g) := by
  have hlt := h.lt
  by_cases hfit : p + 8 ≤ l.length
  · have Hnx := Lib.hid fun W h hk => nextT_fit X g w.heap.size l p 0 W h hk (by omega) (fun b hb => Nat.ne_of_lt (hX b hb)) hfit
    obtain ⟨res, hres⟩ : ∃ r, numN ((l.drop p).take 8) = r := ⟨_, rfl⟩
    have Hres := Lib.hid hres
    rw [hres]
    clear hres
    go_enter Try.func143, Try.ntmps143
    go_wp2_with (first
      | ((with_reducible show wpList _ _ _ (⟨some 4, .alloc _, _, _, _, _⟩ :: _) _ _); refine wpList_run rfl (.pointer (some ⟨w.heap.size, 0, none⟩)) (w.alloc (.cells #[.int .u64 0] 163)) (by kernel_rfl) ?_; have hb1 : Below w.heap.size w (w.alloc (.cells #[.int .u64 0] 163)) := (Below.refl _ _).alloc (Nat.le_refl _) _; have k4 : Blk (w.alloc (.cells #[.int .u64 0] 163)) w.heap.size 163 #[.int .u64 0] := Blk.new _ _ _; generalize w.alloc (.cells #[.int .u64 0] 163) = w1 at hb1 k4 ⊢; simp only [Act.put])
      | (go_at_call 157; refine (width_any w1).mono ?_; rintro e w2 ⟨rfl, hww⟩; obtain rfl := hww.symm)
      | (go_at_call 144; refine (Hnx.out w1 (h.step hb1) k4).mono ?_; rintro e w3 ⟨rfl, h2, k5, hK2⟩; have c10 : w3.cell? ⟨w.heap.size, 0, none⟩ = some (.int .u64 (res : Int)) := (by rw [k5.cell, ← Hres.out]; rfl)))
    exact bodyPost_ret (results_tmp2 rfl _ _ _) rfl ⟨.inl ⟨hfit, rfl, h2⟩, hK2.grown (grown_of_below hb1 _) (Nat.le_refl _)⟩
  · have Hnx := Lib.hid fun W h hk => nextT_bad X g w.heap.size l p 0 W h hk (by omega) (fun b hb => Nat.ne_of_lt (hX b hb)) hfit
    go_enter Try.func143, Try.ntmps143
    go_wp2_with (first
      | ((with_reducible show wpList _ _ _ (⟨some 4, .alloc _, _, _, _, _⟩ :: _) _ _); refine wpList_run rfl (.pointer (some ⟨w.heap.size, 0, none⟩)) (w.alloc (.cells #[.int .u64 0] 163)) (by kernel_rfl) ?_; have hb1 : Below w.heap.size w (w.alloc (.cells #[.int .u64 0] 163)) := (Below.refl _ _).alloc (Nat.le_refl _) _; have k4 : Blk (w.alloc (.cells #[.int .u64 0] 163)) w.heap.size 163 #[.int .u64 0] := Blk.new _ _ _; generalize w.alloc (.cells #[.int .u64 0] 163) = w1 at hb1 k4 ⊢; simp only [Act.put])
      | (go_at_call 157; refine (width_any w1).mono ?_; rintro e w2 ⟨rfl, hww⟩; obtain rfl := hww.symm)
      | (go_at_call 144; refine (Hnx.out w1 (h.step hb1) k4).mono ?_; rintro e w3 ⟨rfl, h2, k5, hK2⟩; have c10 : w3.cell? ⟨w.heap.size, 0, none⟩ = some (.int .u64 0) := (by rw [k5.cell]; rfl)))
    exact bodyPost_ret (results_tmp2 rfl _ _ _) rfl ⟨.inr ⟨hfit, rfl, h2⟩, hK2.grown (grown_of_below hb1 _) (Nat.le_refl _)⟩

theorem grown_row {w w' w'' : World} {g : Nat} (h1 : w.grownBy w' (some g)) (h2 : w'.grownBy w'' (some w.heap.size)) : w.grownBy w'' (some g) :=
  ⟨h2.os.trans h1.os, h2.tape.trans h1.tape, h2.output.trans h1.output, Nat.le_trans h1.size h2.size, fun k hk hne => (h2.block k (Nat.lt_of_lt_of_le hk h1.size) (fun e => by have e : k = w.heap.size := Option.some.inj e; omega)).trans (h1.block k hk hne)⟩

set_option maxHeartbeats 4000000 in
set_option maxRecDepth 100000 in
theorem rdhash_any (X : Nat → Prop) (g : Nat) (l : List UInt8) (p : Nat) (w : World) (h : RdO w X g l p) (hX : ∀ b, X b → b < w.heap.size) :
    Calls Try.prog 112 #[.pointer (some ⟨g, 0, none⟩)] w fun e w' => (p + 32 ≤ l.length ∧ e = .returned (.tuple #[.agg (((l.drop p).take 32).map B).toArray, .int .i64 0]) ∧ RdO w' X g l (p + 32) ∨ ¬ p + 32 ≤ l.length ∧ e = .returned (.tuple #[.agg ((List.replicate 32 (0 : UInt8)).map B).toArray, .int .i64 110]) ∧ RdO w' X g l p) ∧ w.grownBy w' (some g) := by
  have hlt := h.lt
  by_cases hfit : p + 32 ≤ l.length
  · have Hnx := Lib.hid fun gx W h hk h1 h2 => nextH_fit X g gx l p (List.replicate 32 0) W h hk h1 h2 hfit
    have hl32 : ((l.drop p).take 32).length = 32 := by rw [List.length_take, List.length_drop]; omega
    obtain ⟨res, hres⟩ : ∃ r, (l.drop p).take 32 = r := ⟨_, rfl⟩
    rw [hres] at hl32
    have Hres := Lib.hid hres
    rw [hres]
    clear hres
    go_enter Try.func112, Try.ntmps112
    go_wp2_with (first
      | ((with_reducible show wpList _ _ _ (⟨some 2, .alloc _, _, _, _, _⟩ :: _) _ _); refine wpList_hnew rfl rfl ?_; intro w1 k2 hb1; have hs1 := k2.lt; simp only [Act.put])
      | ((with_reducible show wpList _ _ _ (⟨some 4, .alloc _, _, _, _, _⟩ :: _) _ _); refine wpList_hnew rfl rfl ?_; intro w2 k4 hb2; replace k2 := k2.step hb2; have hb12 := hb1.trans (hb2.mono hb1.size); simp only [Act.put])
      | (go_at_call 144; refine (Hnx.out w1.heap.size w2 (h.step hb12) k4 (by omega) (fun b hb => by have := hX b hb; omega)).mono ?_; rintro e w3 ⟨rfl, h2, k5, hK2⟩; rw [Hres.out] at k5; replace k2 : HV w3 w.heap.size (List.replicate 32 0) := ⟨show w3.heap[w.heap.size]? = _ by rw [hK2.block _ k2.lt (by omega) (by omega)]; exact k2.blk, rfl⟩)
      | ((with_reducible show wpList _ _ _ (⟨some 9, .load _ _, _, _, _, _⟩ :: _) _ _); refine wpList_hload (.tmp 4) (by kernel_rfl) rfl k5 rfl ?_; simp only [Act.put])
      | ((with_reducible show wpList _ _ _ (⟨none, .store _ (.tmp 2) _, _, _, _, _⟩ :: _) _ _); refine wpList_hset (.tmp 2) (.tmp 9) rfl rfl k2 rfl rfl hl32 ?_; intro w8 k2b hb8 hW8; have hg8 : w3.grownBy w8 (some w.heap.size) := (by rw [hW8]; exact grown_setRow (grown_of_below (Below.refl _ _) _) _); clear hW8; simp only [Act.put]))
    exact bodyPost_ret (tuple_cellT rfl _ _ w.heap.size (res.map B).toArray 32 5 rfl k2b.blk Try.underlying25 (by rw [show (res.map B).toArray.size = 32 by simp [hl32]]; exact info26)) rfl ⟨.inl ⟨hfit, rfl, h2.grown hg8 (by omega) (fun b hb => Nat.ne_of_lt (hX b hb))⟩, grown_row (hK2.grown (grown_of_below hb12 _) hb1.size) hg8⟩
  · have Hnx := Lib.hid fun gx W h hk h1 h2 => nextH_bad X g gx l p (List.replicate 32 0) W h hk h1 h2 hfit
    have hl32 : (List.replicate 32 (0 : UInt8)).length = 32 := rfl
    obtain ⟨res, hres⟩ : ∃ r, List.replicate 32 (0 : UInt8) = r := ⟨_, rfl⟩
    rw [hres] at hl32
    have Hres := Lib.hid hres
    rw [hres]
    clear hres
    go_enter Try.func112, Try.ntmps112
    go_wp2_with (first
      | ((with_reducible show wpList _ _ _ (⟨some 2, .alloc _, _, _, _, _⟩ :: _) _ _); refine wpList_hnew rfl rfl ?_; intro w1 k2 hb1; have hs1 := k2.lt; simp only [Act.put])
      | ((with_reducible show wpList _ _ _ (⟨some 4, .alloc _, _, _, _, _⟩ :: _) _ _); refine wpList_hnew rfl rfl ?_; intro w2 k4 hb2; replace k2 := k2.step hb2; have hb12 := hb1.trans (hb2.mono hb1.size); simp only [Act.put])
      | (go_at_call 144; refine (Hnx.out w1.heap.size w2 (h.step hb12) k4 (by omega) (fun b hb => by have := hX b hb; omega)).mono ?_; rintro e w3 ⟨rfl, h2, k5, hK2⟩; rw [Hres.out] at k5; replace k2 : HV w3 w.heap.size (List.replicate 32 0) := ⟨show w3.heap[w.heap.size]? = _ by rw [hK2.block _ k2.lt (by omega) (by omega)]; exact k2.blk, rfl⟩)
      | ((with_reducible show wpList _ _ _ (⟨some 9, .load _ _, _, _, _, _⟩ :: _) _ _); refine wpList_hload (.tmp 4) (by kernel_rfl) rfl k5 rfl ?_; simp only [Act.put])
      | ((with_reducible show wpList _ _ _ (⟨none, .store _ (.tmp 2) _, _, _, _, _⟩ :: _) _ _); refine wpList_hset (.tmp 2) (.tmp 9) rfl rfl k2 rfl rfl hl32 ?_; intro w8 k2b hb8 hW8; have hg8 : w3.grownBy w8 (some w.heap.size) := (by rw [hW8]; exact grown_setRow (grown_of_below (Below.refl _ _) _) _); clear hW8; simp only [Act.put]))
    exact bodyPost_ret (tuple_cellT rfl _ _ w.heap.size (res.map B).toArray 32 5 rfl k2b.blk Try.underlying25 (by rw [show (res.map B).toArray.size = 32 by simp [hl32]]; exact info26)) rfl ⟨.inr ⟨hfit, rfl, h2.grown hg8 (by omega) (fun b hb => Nat.ne_of_lt (hX b hb))⟩, grown_row (hK2.grown (grown_of_below hb12 _) hb1.size) hg8⟩

/-- what a signed number of eight bytes is -/
def sgnN (x : Nat) : Int := IntKind.i64.wrap (x : Int)
set_option maxHeartbeats 4000000 in
set_option maxRecDepth 100000 in
theorem rdsigned_any (X : Nat → Prop) (g : Nat) (l : List UInt8) (p : Nat) (w : World) (h : RdO w X g l p) (hX : ∀ b, X b → b < w.heap.size) :
    Calls Try.prog 110 #[.pointer (some ⟨g, 0, none⟩)] w fun e w' => (p + 8 ≤ l.length ∧ e = .returned (.tuple #[.int .i64 (sgnN (numN ((l.drop p).take 8))), .int .i64 0]) ∧ RdO w' X g l (p + 8) ∨ ¬ p + 8 ≤ l.length ∧ e = .returned (.tuple #[.int .i64 0, .int .i64 110]) ∧ RdO w' X g l p) ∧ w.grownBy w' (some g) := by
  have htk := rdtake_any X g l p w h hX
  by_cases hfit : p + 8 ≤ l.length
  · have htk := htk.mono fun e w' hq => (show e = .returned (.tuple #[.int .u64 (numN ((l.drop p).take 8) : Int), .int .i64 0]) ∧ RdO w' X g l (p + 8) ∧ w.grownBy w' (some g) by
      rcases hq with ⟨⟨_, h1, h2⟩ | ⟨h1, _⟩, h4⟩
      · exact ⟨h1, h2, h4⟩
      · exact absurd hfit h1)
    obtain ⟨res, hres⟩ : ∃ r, numN ((l.drop p).take 8) = r := ⟨_, rfl⟩
    rw [hres] at htk ⊢
    have Htk := Lib.hid htk
    clear htk hres h
    obtain ⟨sg, hsg⟩ : ∃ s, sgnN res = s := ⟨_, rfl⟩
    rw [hsg]
    unfold sgnN at hsg
    go_enter Try.func110, Try.ntmps110
    go_wp2_with (go_at_call 143; refine Htk.out.mono ?_; rintro e w1 ⟨rfl, h1, hg1⟩)
    exact bodyPost_ret (results_tmp2 rfl _ _ _) rfl ⟨.inl ⟨hfit, rfl, h1⟩, hg1⟩
  · have htk := htk.mono fun e w' hq => (show e = .returned (.tuple #[.int .u64 0, .int .i64 110]) ∧ RdO w' X g l p ∧ w.grownBy w' (some g) by
      rcases hq with ⟨⟨h1, _⟩ | ⟨_, h1, h2⟩, h4⟩
      · exact absurd h1 hfit
      · exact ⟨h1, h2, h4⟩)
    have Htk := Lib.hid htk
    clear htk h
    go_enter Try.func110, Try.ntmps110
    go_wp2_with (go_at_call 143; refine Htk.out.mono ?_; rintro e w1 ⟨rfl, h1, hg1⟩)
    exact bodyPost_ret (results_tmp2 rfl _ _ _) rfl ⟨.inr ⟨hfit, rfl, h1⟩, hg1⟩
end Go.Proofs.Ytonidnfgneokbaa
/- (*Front).Bytes. -/
namespace Go.Proofs.Ytonidnfgneokbaa
open Go Go.RowKit Go.Shelf
attribute [local go_sem] Oper.semAt_some

/-- a front's bytes -/
def bytesF (ps : FrV) : List UInt8 := beN 8 (szF ps) ++ (hashF ps).flatten
/-- between two rounds of Bytes -/
structure BwI (w : World) (hi g3 gw b1 n₁ : Nat) (q : List UInt8) (W : World) : Prop where
  ex : ∃ v, WrV W gw b1 v q ∧ ∀ r, v.ownBlock = some r → (r < hi ∨ n₁ ≤ r) ∧ r ≠ g3
  box : Blk W g3 150 #[.pointer (some ⟨gw, 0, none⟩)]
  bel : Below w.heap.size w W
theorem BwI.step {w W W' : World} {hi g3 gw b1 n₁ : Nat} {q : List UInt8} (h : BwI w hi g3 gw b1 n₁ q W) (hb : Below W.heap.size W W') : BwI w hi g3 gw b1 n₁ q W' :=
  ⟨let ⟨v, h1, h2⟩ := h.ex; ⟨v, h1.step hb, h2⟩, h.box.step hb, h.bel.trans (hb.mono h.bel.size)⟩
theorem BwI.own_ {w : World} {hi g3 gw b1 n₁ B : Nat} (f : Nat → List UInt8) (hB : w.heap.size ≤ B) : OwnFrom B (fun k W => BwI w hi g3 gw b1 n₁ (f k) W) := fun _ _ _ _ h hg hr =>
  ⟨let ⟨v, h1, h2⟩ := h.ex; ⟨v, h1.grown hg (fun r e => (hr r e).2), h2⟩, h.box.grown hg (fun e => by
      obtain ⟨_, o, ho, hc⟩ := hr g3 e.symm
      rw [show _ = _ from h.box] at ho; cases ho; cases hc), h.bel.grown hg h.bel.size fun r e => Nat.le_trans hB (hr r e).1⟩
theorem WrR.keepU {B n₁ gw b1 : Nat} {U : Nat → Prop} {W W' : World} {v v' : Value} {q : List UInt8} (h : WrR W W' gw v v') (hv : WrV W gw b1 v q) (h1 : n₁ ≤ gw ∨ U gw) (h2 : ∀ r, v.ownBlock = some r → n₁ ≤ r ∨ U r) : KeepU B n₁ U W W' := by
  have hc : ∀ i o, W.heap[i]? = some o → o.isCells = false → i ≠ gw ∧ some i ≠ v.ownBlock := fun i o ho hc => by
    refine ⟨fun e => ?_, fun e => ?_⟩
    · subst e
      rw [show W.heap[i]? = _ from hv.blk] at ho
      cases ho; cases hc
    · obtain ⟨o', ho', hc'⟩ := owns_cellsF hv.own e.symm
      rw [ho] at ho'
      cases ho'
      rw [hc] at hc'
      cases hc'
  refine ⟨⟨h.size, fun i o hi ho hco => ?_⟩, h.os, h.tape, h.output, fun k o hk hu ho hco => ?_⟩
  · obtain ⟨h3, h4⟩ := hc i o ho hco
    rw [h.block i (Array.getElem?_eq_some_iff.1 ho).1 h3 h4]
    exact ho
  · rw [h.block k (Array.getElem?_eq_some_iff.1 ho).1 (fun e => ?_) (fun e => ?_)]
    · exact ho
    · subst e
      rcases h1 with h1 | h1
      · omega
      · exact hu h1
    · rcases h2 k e.symm with h1 | h1
      · omega
      · exact hu h1
theorem flatten_take_snoc (hs : List (List UInt8)) (k : Nat) (h : k < hs.length) : (hs.take (k + 1)).flatten = (hs.take k).flatten ++ hs.getD k [] := by
  rw [take_snocF hs k h, List.flatten_append]
  simp
theorem length_flat32 (hs : List (List UInt8)) (h : H32 hs) : hs.flatten.length = hs.length * 32 := by
  induction hs with
  | nil => rfl
  | cons x l ih =>
    rw [List.flatten_cons, List.length_append, ih (fun y hy => h y (List.mem_cons_of_mem _ hy)), h x List.mem_cons_self, List.length_cons]
    omega

set_option maxHeartbeats 4000000 in
set_option maxRecDepth 100000 in
theorem fbytes_nil (w : World) : Calls Try.prog 48 #[.pointer none] w fun e w' => e = .returned (.slice none 0 0) ∧ w' = w := by
  go_enter Try.func48, Try.ntmps48
  go_wp2_with fail
  go_ret
  exact ⟨rfl, rfl⟩
set_option maxHeartbeats 4000000 in
set_option maxRecDepth 100000 in
theorem fbytes_any (g : Nat) (ps : FrV) (w : World) (h : FrO w g ps) (ho : FrOk ps) : Calls Try.prog 48 #[fptr g] w fun e w' => ∃ v, e = .returned v ∧ Fresh w w' v (bytesF ps) := by
  have hal := fun W => fall_any (fptr g) W rfl
  have hlen := ho.len
  have hA : AllOk (fptr g) ps w := allOk_some h ho.h62 (by omega)
  have hsz := fun W (hb : Below w.heap.size w W) => fsize_some (h.step hb) ho
  have htop := ho.top
  unfold bytesF
  obtain ⟨sz, hsze⟩ : ∃ s, szF ps = s := ⟨_, rfl⟩
  rw [hsze] at hsz htop ⊢
  obtain ⟨hd, hhd⟩ : ∃ d, beN 8 sz = d := ⟨_, rfl⟩
  have hhl : hd.length = 8 := by rw [← hhd]; exact length_beN 8 sz
  have hsg := fun gw b1 v W (h : WrV W gw b1 v []) => wsigned_any gw b1 v [] sz W h (by simp) htop
  rw [hhd] at hsg ⊢
  simp only [List.nil_append] at hsg
  obtain ⟨rs, hrs⟩ : ∃ rs, hashF ps = rs := ⟨_, rfl⟩
  have hlr : rs.length = ps.length := by rw [← hrs]; simp [hashF]
  have hr32 : H32 rs := by rw [← hrs]; exact hashF_32 ps ho.h32
  have hat : ∀ k, k < ps.length → (ps.getD k (0, [])).2 = rs.getD k [] := fun k hk => by rw [← hrs, hashF_getD ps k hk]
  rw [hrs]
  have Hal := Lib.hid hal
  have Hsz := Lib.hid hsz
  have Hsg := Lib.hid hsg
  have Hlr := Lib.hid hlr
  have Hr32 := Lib.hid hr32
  have Hat := Lib.hid hat
  have Hhl := Lib.hid hhl
  have HA := Lib.hid hA
  clear hal hsz hsg hlr hr32 hat hrs hhd hsze hhl htop ho hA h
  refine (callsIn_wide (n := 5)).1 ?_
  refine callsIn_of_wp_marks Try.func48 rfl trivial ?_ rfl
  simp only [Try.ntmps48, List.size_toArray, List.length_cons, List.length_nil, Nat.reduceAdd, Nat.reduceSub, Array.replicate_succ, Array.replicate_zero, List.push_toArray, List.append_toArray, List.nil_append, List.cons_append]
  refine wpIn_wide.2 ?_
  go_wp2_with (first
    | (go_at_call 113; refine (wnew_any w).mono ?_; rintro e w1 ⟨rfl, hW, hb1⟩)
    | ((with_reducible show wpList _ _ _ (⟨some 3, .alloc _, _, _, _, _⟩ :: _) _ _); refine wpList_run rfl (.pointer (some ⟨w1.heap.size, 0, none⟩)) (w1.alloc (.cells #[.pointer none] 150)) (by kernel_rfl) ?_; have hb2 : Below w1.heap.size w1 (w1.alloc (.cells #[.pointer none] 150)) := (Below.refl _ _).alloc (Nat.le_refl _) _; have k3 : Blk (w1.alloc (.cells #[.pointer none] 150)) w1.heap.size 150 #[.pointer none] := Blk.new _ _ _; have hW2 := hW.step hb2; have hgw1 : w.heap.size < w1.heap.size := hW.lt; generalize w1.alloc (.cells #[.pointer none] 150) = w2 at hb2 k3 hW2 ⊢; have c3 : w2.cell? ⟨w1.heap.size, 0, none⟩ = some (.pointer none) := (by rw [k3.cell]; rfl); have f3 := k3.frozen 0; simp only [Act.put]))
  have hgs := grownBy_setCell' w2 w1.heap.size (.pointer (some ⟨w.heap.size, 0, none⟩))
  have hW4 : WrV (w2.setCell ⟨w1.heap.size, 0, none⟩ (.pointer (some ⟨w.heap.size, 0, none⟩))) w.heap.size w1.heap.size (.slice none 0 0) [] := ⟨hW2.blk.grown hgs (fun e => by have e : w.heap.size = w1.heap.size := Option.some.inj e; omega), World.ownsRow_nil _ _ _ _, hW2.lt, Nat.le_trans hW2.le hgs.size⟩
  have hb4 : Below w.heap.size w (w2.setCell ⟨w1.heap.size, 0, none⟩ (.pointer (some ⟨w.heap.size, 0, none⟩))) := (hb1.trans (hb2.mono hb1.size)).setCell (p := ⟨w1.heap.size, 0, none⟩) hb1.size _
  have k4 : Blk (w2.setCell ⟨w1.heap.size, 0, none⟩ (.pointer (some ⟨w.heap.size, 0, none⟩))) w1.heap.size 150 #[.pointer (some ⟨w.heap.size, 0, none⟩)] := k3.set_ 0 _
  generalize w2.setCell ⟨w1.heap.size, 0, none⟩ (.pointer (some ⟨w.heap.size, 0, none⟩)) = w4 at hW4 hb4 k4 ⊢
  obtain ⟨g3, hg3⟩ : ∃ g3, w1.heap.size = g3 := ⟨_, rfl⟩
  rw [hg3] at hW4 k4 hgw1 ⊢
  clear hg3 c3 f3 k3 hW2 hgs hb2 hb1 hW
  have c9 : ∀ s : InC (fun W => Below w4.heap.size w4 W), s.W.cell? ⟨g3, 0, none⟩ = some (.pointer (some ⟨w.heap.size, 0, none⟩)) := fun s => by rw [(k4.step s.ok).cell]; rfl
  have hS : Below w4.heap.size w4 w4.drew := (Below.refl _ _).drew
  refine wp_region_mix_tail (fun W => Below w4.heap.size w4 W) 3 [(0, true), (1, true), (2, false)] (by kernel_rfl) (by kernel_rfl) hS fun _ => ?_
  simp only [List.map_cons, List.map_nil, Array.getD_eq_getD_getElem?, List.getElem?_toArray, List.getElem?_cons_succ, List.getElem?_cons_zero, Option.getD_some]
  generalize w4.drew = u2 at hS ⊢
  refine wpMix_s (fun K hK => ?_)
  go_simp
  refine hK _ ?_
  clear hK K
  refine wpMix_s (fun K hK => ?_)
  go_simp
  refine hK _ ?_
  clear hK K
  refine wpMix_c (fun K hK => ?_) hS
  go_simp
  refine (Hsz.out u2 (hb4.trans (hS.mono hb4.size))).mono ?_
  rintro e u2_1 ⟨rfl, hb'⟩
  refine hK _ _ ?_
  clear hK K
  replace hS := hS.trans (hb'.mono hS.size)
  refine ⟨hS, ?_⟩
  clear hb'
  refine wpMix_nil ?_
  intro _
  simp only [List.drop_succ_cons, List.drop_zero]
  have hW5 := hW4.step hS
  have k5 := k4.step hS
  have hb5 := hb4.trans (hS.mono hb4.size)
  clear c9
  go_wp2_with (go_at_call 114; refine (Hsg.out _ _ _ u2_1 hW5).mono ?_; rintro e w6 ⟨rfl, v6, hW6, hR6⟩)
  have hown6 : ∀ r, v6.ownBlock = some r → u2_1.heap.size ≤ r := fun r hr => by
    rcases hR6.own with e | ⟨k, e, hk⟩
    · rw [e] at hr; cases hr
    · rw [e] at hr; cases hr; exact hk
  have k6 : Blk w6 g3 150 #[.pointer (some ⟨w.heap.size, 0, none⟩)] := hR6.blk k5 (by omega) (fun e => by cases e)
  have hb6 : Below w.heap.size w w6 := hb5.trans (hR6.below (Nat.le_refl _) (fun r e => by cases e) hb5.size)
  have hg3lt := k5.lt
  refine np_normal ?_
  go_wp2_with fail
  refine (Hal.out w6).mono ?_
  rintro e w7 ⟨rfl, hbx, hb7⟩
  have hsz6 : u2_1.heap.size ≤ w6.heap.size := hR6.size
  have hbel7 := hb6.trans (hb7.mono hb6.size)
  have hI0 : ∀ n₁, BwI w w7.heap.size g3 w.heap.size g3 n₁ hd w7 := fun n₁ => ⟨⟨v6, hW6.step hb7, fun r e => ⟨.inl (Nat.lt_of_lt_of_le (hW6.own.lt r e).2 hb7.size), fun e2 => by have := hown6 r e; omega⟩⟩, k6.step hb7, hbel7⟩
  have hw7 : g3 < w7.heap.size := (k6.step hb7).lt
  have hwg : w.heap.size < g3 := hgw1
  obtain ⟨hi, hhi⟩ : ∃ h, w7.heap.size = h := ⟨_, rfl⟩
  rw [hhi] at hI0 hw7
  generalize w6.heap.size = bx at hbx ⊢
  clear hW4 hW5 hb4 hb5 hb6 k4 k5 k6 hR6 hW6 hown6 hsz6 hg3lt Hal Hsz Hsg hb7 hS
  go_wp2_with fail
  refine wp_range_U (gf := 118) (lb := #[.pointer (some ⟨bx, 0, none⟩)]) rfl (enters_of Try.func118 (by kernel_rfl) rfl)
    (HA.out w7 bx (fun b => w.heap.size ≤ b ∧ b < hi) hbel7 hbx (fun b hb => by rw [hhi]; exact hb.2)) (fun _ _ _ _ h => by rw [show _ = _ from h]; rfl)
    (fun n₁ k => BwI w hi g3 w.heap.size g3 n₁ (hd ++ (rs.take k).flatten)) (fun _ _ _ _ => False) (fun n₁ => BwI.own_ (fun k => hd ++ (rs.take k).flatten) (by omega)) (fun _ _ _ _ _ _ h _ _ => h.elim) (fun n₁ _ => by simpa using hI0 n₁) ?round ?done ?stop
  case round =>
    clear hI0 hbx HA
    intro li n₁ k vs X hl hln hnX hk hI hy
    have hy : vs = _ := hy
    subst hy
    rw [Hat.out k hk]
    have hkr : k < rs.length := by rw [Hlr.out]; exact hk
    have htk := flatten_take_snoc rs k hkr
    have hzl := Hr32.out.getD k hkr
    have hql : (hd ++ (rs.take k).flatten).length ≤ 1000000 := by rw [List.length_append, Hhl.out, length_flat32 _ (fun x hx => Hr32.out x (List.mem_of_mem_take hx)), List.length_take]; omega
    generalize rs.getD k [] = z at hzl htk ⊢
    generalize (2 : Int) ^ (ps.getD k (0, [])).1 = mm
    have htk : hd ++ (rs.take (k + 1)).flatten = (hd ++ (rs.take k).flatten) ++ z := by rw [htk, List.append_assoc]
    generalize hq : hd ++ (rs.take k).flatten = q at htk hql hI
    have Htk := Lib.hid htk
    have Hzl := Lib.hid hzl
    have Hql := Lib.hid hql
    clear htk hzl hql hkr
    refine wpIn_region_lit ?_
    go_simp
    refine wpListIn_of2 (openR li) rfl ?_
    refine wpList_hvar (.tmp 5) (.tmp 16) rfl rfl rfl rfl rfl rfl Hzl.out ?_
    intro X1 k10 hb10
    refine thenN_nil ?_
    simp only [Act.put]
    gi_wp2
    refine ⟨KeepU.below hb10, ?_⟩
    intro X2 hturn
    have hI2 := hturn.own (BwI.own_ (w := w) (hi := hi) (g3 := g3) (gw := w.heap.size) (b1 := g3) (n₁ := n₁) (fun _ => q) (show w.heap.size ≤ hi by omega)) (s := k) (hI.step hb10)
    have k10' : HV X2 X.heap.size z := ⟨hturn.blk k10.blk, Hzl.out⟩
    have hnX2 : n₁ ≤ X2.heap.size := by rw [hturn.size]; exact Nat.le_trans hnX hb10.size
    clear hI k10 hb10 hturn hnX
    generalize X.heap.size = g10 at k10' ⊢
    obtain ⟨⟨v, hWv, hpl⟩, hbox, hbel⟩ := hI2
    have hcall := whash_any w.heap.size g3 v q z X2 hWv Hzl.out (by have := Hql.out; omega)
    have Hcall := Lib.hid hcall
    have c17 : X2.cell? ⟨g3, 0, none⟩ = some (.pointer (some ⟨w.heap.size, 0, none⟩)) := by rw [hbox.cell]; rfl
    clear hcall
    gi_wp2_with ((with_reducible show wpListIn _ _ _ _ _ (⟨some 18, .load _ _, _, _, _, _⟩ :: _) _ _); refine wpListIn_of1 (openR li) rfl ?_; refine wpList_hload (.tmp 5) (by kernel_rfl) rfl k10' rfl ?_; refine thenN_nil ?_; simp only [Act.put])
    refine ⟨trivial, callsIn_any (openR li) (Hcall.out.mono ?_)⟩
    rintro e W9 ⟨rfl, v', hWv', hR'⟩
    have hlt3 := hbox.lt
    gi_wp2
    refine ⟨hR'.keepU hWv (.inr ⟨Nat.le_refl _, by omega⟩) (fun r e => ?_), ⟨⟨v', by rw [Htk.out]; exact hWv', fun r e => ?_⟩, hR'.blk hbox (by omega) (fun e => (hpl g3 e.symm).2 rfl), hbel.trans (hR'.below (Nat.le_refl _) (fun r e => by have := (hWv.own.lt r e).1; omega) hbel.size)⟩⟩
    · have h1 := (hWv.own.lt r e).1
      rcases (hpl r e).1 with h | h
      · exact .inr ⟨by omega, h⟩
      · exact .inl h
    · rcases hR'.own with e2 | ⟨k', e2, hk'⟩
      · exact hpl r (by rw [← e2]; exact e)
      · rw [e2] at e
        cases e
        exact ⟨.inr (by omega), by omega⟩
  case done =>
    clear hI0 hbx HA
    intro D n₁ X hD hDn hI hK
    rw [List.take_of_length_le (by rw [Hlr.out]; exact Nat.le_refl _)] at hI
    obtain ⟨⟨v, hWv, hpl⟩, hbox, hbel⟩ := hI
    have c20 : X.cell? ⟨g3, 0, none⟩ = some (.pointer (some ⟨w.heap.size, 0, none⟩)) := by rw [hbox.cell]; rfl
    have hcall := wbytes_any w.heap.size g3 v _ X hWv (by rw [List.length_append, Hhl.out, length_flat32 _ Hr32.out, Hlr.out]; omega)
    have Hcall := Lib.hid hcall
    clear hcall
    go_wp2_with (go_at_call 116; refine Hcall.out.mono ?_; rintro e w9 ⟨v9, rfl, hF9⟩)
    refine leaves_marks (N := w.heap.size) [D] _ (((MarksOk.nil _ _).cons (by omega) hK (by simp)).step hF9.2) fun w' ht => ⟨_, results_tmp rfl _ _ _, v9, rfl, ?_, (hbel.trans (hF9.2.mono hbel.size)).trans ht.bel⟩
    have hov := owns_le hF9.1 hbel.size
    rcases hov.2 with ⟨rfl, h0⟩ | ⟨g, cap, cur, rfl, hb, hc, r1, r2, r3, r4⟩
    · exact ⟨hov.1, .inl ⟨rfl, h0⟩⟩
    · exact ⟨hov.1, .inr ⟨g, cap, cur, rfl, hb, ht.blk _ _ _ hc, r1, r2, r3, r4⟩⟩
  case stop =>
    rintro D n₁ cd k X hD hDn hk h hK
    exact h.elim
end Go.Proofs.Ytonidnfgneokbaa
