/- hash.Top. -/
import Derived.Test.YtdkgndjomkbbjaaHRowsF
namespace Go.Proofs.Ytdkgndjomkbbjaa
open Go Go.RowKit Go.Shelf
attribute [local go_sem] Oper.semAt_some

/-- a power of two -/
def pow2 (n : Nat) : Bool := n != 0 && n &&& (n - 1) == 0
/-- the topmost of rows' first hash -/
def lastHead (rows : List (List (List UInt8))) : List UInt8 := (rows.getLast?.getD []).getD 0 (List.replicate 32 0)
def topL (hs : List (List UInt8)) : List UInt8 := lastHead (rowsL hs)
def topR (hs : List (List UInt8)) : List UInt8 × Int := if pow2 hs.length then (topL hs, 0) else (List.replicate 32 0, 2)
theorem lastHead_nil : lastHead [] = List.replicate 32 0 := rfl
theorem lastHead_snoc (pre : List (List (List UInt8))) (l : List (List UInt8)) : lastHead (pre ++ [l]) = l.getD 0 (List.replicate 32 0) := by simp [lastHead]

theorem i64_and_nat (a b : Nat) (ha : a < 9223372036854775808) (hb : b < 9223372036854775808) : bits .and .i64 (a : Int) (b : Int) = ((a &&& b : Nat) : Int) := by
  have h1 : a &&& b < 9223372036854775808 := Nat.lt_of_le_of_lt Nat.and_le_left ha
  show IntKind.i64.wrap ((BitVec.ofInt 64 (a : Int) &&& BitVec.ofInt 64 (b : Int)).toNat : Int) = _
  rw [BitVec.toNat_and, ofInt_u64 a (by omega), ofInt_u64 b (by omega), IntKind.wrap_i64]
  omega
theorem wpListIn_store_blk {F : Fence} {n : Nat} {P : Program} {w : World} {ops : Array Oper} {rest : List Oper} {o : Oper} {a : Act} {Q : Exit → Act → World → Prop} (hgd : o.guard = none) (hF : ∀ f, F.fn f) (ty : TypeId) (x y : Operand) (ho : o.op = .store ty x y)
    (N : Nat) (hsz : ∀ w : World, (sizeOf ty).run P w = .ok N w) (g : Nat) (vs : Array Value) (hx : a.eval x = .pointer (some ⟨g, 0, none⟩)) (hy : a.eval y = .agg vs) (hv : vs.size = N) (h1 : ∀ v ∈ vs.toList, v.oneCell' = true)
    (t : TypeId) (cur : Array Value) (hg : Blk w g t cur) (hc : cur.size = N) (h : wpListIn F n P ops Q rest (a.put o.dst undef) (w.setRow g vs)) : wpListIn F n P ops Q (o :: rest) a w :=
  wpListIn_plain hgd fun _ hK => by
    unfold Oper.wpIn
    rw [Oper.semAt_eq _ _ _ (by rw [ho]; intro c hc; cases hc)]
    unfold execOp
    simp only [ho, hx, hy, run_store_blk (P := P) (hsz w) g vs cur hv h1 hg hc, Sem.run_bind, Sem.run_pure, Result.andThen_ok]
    exact ⟨fun f _ => hF f, hK _ _ h⟩

theorem tuple_cell {fn : Func} {p u : Tmp} {ty t : TypeId} {P : Program} (h : fn.results = #[.cell p ty, .tmp u]) (tmps : Array Value) (w : World) (g : Nat) (cs : Array Value) (N : Nat) (el : TypeId)
    (hp : tmps.getD p undef = .pointer (some ⟨g, 0, none⟩)) (hg : Blk w g t cs) (hu : P.underlying ty = some (.array N el)) (hi : (P.info? ty).map (·.size) = some cs.size) :
    (results fn tmps).run P w = .ok (.tuple #[.agg cs, tmps.getD u undef]) w := by
  rw [results_cell_tmp h, hp]
  show ((loadVar ty ⟨g, 0, none⟩).run P w).andThen (fun v w₂ => Result.ok (Value.tuple #[v, tmps.getD u undef]) w₂) = _
  rw [run_loadVar_row w g t ty cs (0, 0) _ hg hu rfl hi]
  rfl

set_option maxHeartbeats 2000000 in
set_option maxRecDepth 100000 in
theorem top_bad (A : Option Addr) (n c : Nat) (w : World) (hp : pow2 n = false) (hn : n ≤ 4398046511104) :
    Calls Try.prog 40 #[.slice A n c] w fun e w' => e = .returned (.tuple #[.agg ((List.replicate 32 (0 : UInt8)).map B).toArray, .int .i64 2]) ∧ Below w.heap.size w w' := by
  obtain ⟨zs, hzs⟩ : ∃ zs, zeroHash = zs := ⟨_, rfl⟩
  have hzl : zs.size = 32 := by rw [← hzs]; rfl
  have hzm : ((List.replicate 32 (0 : UInt8)).map B).toArray = zs := hzs
  have hz1 : ∀ v ∈ zs.toList, v.oneCell' = true := by rw [← hzs]; exact oneCell_B _
  rw [hzm]
  have k0 := Blk.new w 26 zs
  have hb0 := (Below.refl w.heap.size w).alloc (Nat.le_refl _) (.cells zs 26)
  have Hzs := Lib.hid hzs
  have Hzl := Lib.hid hzl
  have Hz1 := Lib.hid hz1
  clear hzs hzl hz1 hzm
  by_cases h0 : n = 0
  · subst h0
    go_enter Try.func40, Try.ntmps40
    go_wp2_with (first
      | ((with_reducible show wpList _ _ _ (⟨some 2, .alloc _, _, _, _, _⟩ :: _) _ _); refine wpList_run rfl (.pointer (some ⟨w.heap.size, 0, none⟩)) (w.alloc (.cells zs 26)) (by rw [← Hzs.out]; rfl) ?_; simp only [Act.put])
      | ((with_reducible show wpList _ _ _ (⟨some 19, .build _ _, _, _, _, _⟩ :: _) _ _); refine wpList_run0 rfl (.agg zs) (by rw [← Hzs.out]; kernel_rfl) ?_; simp only [Act.put])
      | ((with_reducible show wpList _ _ _ (⟨none, .store _ _ _, _, _, _, _⟩ :: _) _ _); refine wpList_store_blk rfl 26 (.tmp 2) (.tmp 19) rfl 32 size26 w.heap.size zs rfl rfl Hzl.out Hz1.out 26 _ k0 Hzl.out ?_; simp only [Act.put]))
    refine bodyPost_ret (tuple_cell rfl _ _ w.heap.size zs _ _ rfl (k0.setRow_ _) Try.underlying26 (by rw [Hzl.out]; exact info26)) rfl ⟨rfl, ?_⟩
    exact below_setRow hb0 (Nat.le_refl _) _
  · have hb : n &&& (n - 1) ≠ 0 := by simpa [pow2, h0] using hp
    have e1 : bits .and .i64 (n : Int) ((n : Int) - 1) = ((n &&& (n - 1) : Nat) : Int) := by
      rw [show (n : Int) - 1 = ((n - 1 : Nat) : Int) by omega]
      exact i64_and_nat _ _ (by omega) (by omega)
    have e2 : IntKind.i64.wrap ((n : Int) - 1) = (n : Int) - 1 := by rw [IntKind.wrap_i64]; omega
    generalize n &&& (n - 1) = m at hb e1
    have hd0 : ((n : Int) == 0) = false := by simp; exact h0
    have hdm : ((m : Int) == 0) = false := by simp; exact hb
    go_enter Try.func40, Try.ntmps40
    go_wp2_with (first
      | ((with_reducible show wpList _ _ _ (⟨some 2, .alloc _, _, _, _, _⟩ :: _) _ _); refine wpList_run rfl (.pointer (some ⟨w.heap.size, 0, none⟩)) (w.alloc (.cells zs 26)) (by rw [← Hzs.out]; rfl) ?_; simp only [Act.put])
      | ((with_reducible show wpList _ _ _ (⟨some 19, .build _ _, _, _, _, _⟩ :: _) _ _); refine wpList_run0 rfl (.agg zs) (by rw [← Hzs.out]; kernel_rfl) ?_; simp only [Act.put])
      | ((with_reducible show wpList _ _ _ (⟨none, .store _ _ _, _, _, _, _⟩ :: _) _ _); refine wpList_store_blk rfl 26 (.tmp 2) (.tmp 19) rfl 32 size26 w.heap.size zs rfl rfl Hzl.out Hz1.out 26 _ k0 Hzl.out ?_; simp only [Act.put]))
    refine bodyPost_ret (tuple_cell rfl _ _ w.heap.size zs _ _ rfl (k0.setRow_ _) Try.underlying26 (by rw [Hzl.out]; exact info26)) rfl ⟨rfl, ?_⟩
    exact below_setRow hb0 (Nat.le_refl _) _

theorem KeepC.setRow {M : Nat → Prop} (W : World) (g : Nat) (cs : Array Value) (hg : M g) : KeepC M W (W.setRow g cs) :=
  ⟨by simp, by simp, by simp, by simp, fun k o hk _ hm => by rw [setRow_other W g k cs (fun e => hm (e ▸ hg))]; exact hk⟩
theorem grownBy_setRow' (W : World) (g : Nat) (cs : Array Value) : W.grownBy (W.setRow g cs) (some g) := grown_setRow ⟨rfl, rfl, rfl, Nat.le_refl _, fun _ _ _ => rfl⟩ cs
theorem rowY_own (B : Nat) (hs : List (List UInt8)) (pre : List RowX) (x : RowX) : OwnFrom B (fun (_ : Unit) W => RowY B hs pre x W) := by
  rintro s W W' row ⟨h1, h2, h3, h4, g, c, cur, h5, h6, h7, h8⟩ hg hr
  exact ⟨h1, h2, h3, h4, g, c, cur, h5, h6, h7.grown hg (fun e => by obtain ⟨-, o, ho, hc⟩ := hr g e.symm; rw [show W.heap[g]? = _ from h7] at ho; cases ho; cases hc), h8⟩
theorem blk_own {β : Type} (B g : Nat) (t : TypeId) (f : β → Array Value) : OwnFrom B (fun (s : β) W => Blk W g t (f s)) := by
  intro s W W' row h hg hr
  exact h.grown hg (fun e => by obtain ⟨-, o, ho, hc⟩ := hr g e.symm; rw [show W.heap[g]? = _ from h] at ho; cases ho; cases hc)
theorem false_own {β : Type} (B : Nat) : OwnFrom B (fun (_ : β) (_ : World) => False) := fun _ _ _ _ h _ _ => h
theorem length_lastHead (rows : List (List (List UInt8))) (h : ∀ l ∈ rows, H32 l) : (lastHead rows).length = 32 := by
  unfold lastHead
  rw [List.getD_eq_getElem?_getD]
  cases e : (rows.getLast?.getD [])[0]? with
  | none => simp
  | some x =>
    obtain ⟨l, hl⟩ : ∃ l, rows.getLast? = some l := by
      cases e2 : rows.getLast? with
      | none => rw [e2] at e; simp at e
      | some l => exact ⟨l, rfl⟩
    rw [hl] at e
    exact h l (List.mem_of_getLast? hl) x (List.mem_of_getElem? e)

set_option maxHeartbeats 2000000 in
set_option maxRecDepth 100000 in
theorem top_ok (hs : List (List UInt8)) (A : Option Addr) (n c : Nat) (w : World) (h : Hs w (fun _ => True) A n c hs) (hp : pow2 n = true) (hn : n ≤ 4398046511104) :
    Calls Try.prog 40 #[.slice A n c] w fun e w' => e = .returned (.tuple #[.agg ((topL hs).map B).toArray, .int .i64 0]) ∧ Below w.heap.size w w' := by
  obtain ⟨q, hq0⟩ : ∃ q, topL hs = q := ⟨_, rfl⟩
  rw [hq0]
  have Hq0 := Lib.hid hq0
  clear hq0
  obtain ⟨zs, hzs⟩ : ∃ zs, zeroHash = zs := ⟨_, rfl⟩
  have hzl : zs.size = 32 := by rw [← hzs]; rfl
  have hzm : ((List.replicate 32 (0 : UInt8)).map B).toArray = zs := hzs
  have h0 : n ≠ 0 := by intro e; subst e; simp [pow2] at hp
  have hb : n &&& (n - 1) = 0 := by simpa [pow2, h0] using hp
  have e1 : bits .and .i64 (n : Int) ((n : Int) - 1) = 0 := by
    rw [show (n : Int) - 1 = ((n - 1 : Nat) : Int) by omega, i64_and_nat _ _ (by omega) (by omega), hb]
    rfl
  have e2 : IntKind.i64.wrap ((n : Int) - 1) = (n : Int) - 1 := by rw [IntKind.wrap_i64]; omega
  have hd0 : ((n : Int) == 0) = false := by simp; exact h0
  obtain ⟨w1, hw1⟩ : ∃ w1, w.alloc (.cells zs 26) = w1 := ⟨_, rfl⟩
  obtain ⟨w2, hw2⟩ : ∃ w2, w1.alloc (.cells zs 26) = w2 := ⟨_, rfl⟩
  have hs1 : w1.heap.size = w.heap.size + 1 := by rw [← hw1]; simp
  have hs2 : w2.heap.size = w.heap.size + 1 + 1 := by rw [← hw2]; simp [hs1]
  have k1 : Blk w2 w.heap.size 26 zs := by rw [← hw2, ← hw1]; exact (Blk.new _ _ _).alloc _
  have k2 : Blk w2 (w.heap.size + 1) 26 zs := by rw [← hw2]; exact Blk.new' _ _ _ _ hs1.symm
  have B2 : Below w.heap.size w w2 := by rw [← hw2, ← hw1]; exact ((Below.refl _ _).alloc (Nat.le_refl _) _).alloc (by simp) _
  have h2 : Hs w2 (fun _ => True) A n c hs := by rw [← hw2, ← hw1]; exact (h.alloc _).alloc _
  have hr := rows_any hs A n c w2 h2 hn
  have Hr := Lib.hid hr
  have Hzs := Lib.hid hzs
  have Hzl := Lib.hid hzl
  have Hzm := Lib.hid hzm
  have Hw1 := Lib.hid hw1
  have Hw2 := Lib.hid hw2
  have Hs1 := Lib.hid hs1
  have Hs2 := Lib.hid hs2
  clear hr hzs hzl hzm hw1 hw2 hs1 hs2 hb
  refine (callsIn_wide (n := 5)).1 ?_
  refine callsIn_of_wp_marks Try.func40 rfl trivial ?_ rfl
  simp only [Try.ntmps40, List.size_toArray, List.length_cons, List.length_nil, Nat.reduceAdd, Nat.reduceSub, Array.replicate_succ, Array.replicate_zero, List.push_toArray, List.append_toArray, List.nil_append, List.cons_append]
  gi_wp2_with (first
    | ((with_reducible show wpListIn _ _ _ _ _ (⟨some 2, .alloc _, _, _, _, _⟩ :: _) _ _); refine wpListIn_run rfl (by intro c h; cases h) wide_fn (.pointer (some ⟨w.heap.size, 0, none⟩)) w1 (by rw [← Hzs.out] at Hw1; rw [← Hw1.out]; rfl) ?_; simp only [Act.put])
    | ((with_reducible show wpListIn _ _ _ _ _ (⟨some 5, .alloc _, _, _, _, _⟩ :: _) _ _); refine wpListIn_run rfl (by intro c h; cases h) wide_fn (.pointer (some ⟨w.heap.size + 1, 0, none⟩)) w2 (by rw [← Hzs.out] at Hw2; rw [← Hw2.out, ← Hs1.out]; rfl) ?_; simp only [Act.put]))
  refine ⟨trivial, (callsIn_wide.2 Hr.out).mono ?_⟩
  rintro e w3 ⟨rfl, hb3, A3, c3, kb3, hs3⟩
  gi_wp2
  have B3 := B2.trans (hb3.mono B2.size)
  have k1' := k1.below hb3 k1.lt
  have k2' := k2.below hb3 k2.lt
  have hlt3 := kb3.lt
  refine wpIn_range_Y (gf := 73) (lb := #[.pointer (some ⟨w2.heap.size, 0, none⟩)]) rfl (enters_of Try.func73 (by kernel_rfl) rfl) (rows1_seq hs A3 n c3 w2.heap.size w3 kb3 (hs3.weak fun _ _ _ => trivial) hn) (fun _ => rfl) (rowY_own w3.heap.size hs)
    (fun pre W => Blk W (w.heap.size + 1) 26 ((lastHead (pre.map (·.2.2))).map B).toArray ∧ Blk W w.heap.size 26 zs ∧ Below w.heap.size w W ∧ ∀ l ∈ pre.map (·.2.2), H32 l)
    (fun _ _ _ => False)
    (OwnFrom.and (blk_own _ _ _ _) (OwnFrom.and (blk_own _ _ _ _) (OwnFrom.and (ownFrom_below (Nat.le_refl _) B3.size) (ownFrom_pure _ _))))
    (fun _ => false_own _)
    ⟨by rw [List.map_nil, lastHead_nil, Hzm.out]; exact k2', k1', B3, by simp⟩
    (fun x => { tmps := #[.slice A n c, undef, .pointer (some ⟨w.heap.size, 0, none⟩), .int .i64 0, .int .i64 n, .pointer (some ⟨w.heap.size + 1, 0, none⟩), undef, x.2.1, .slice A n c, .int .i64 n, .int .i64 n, .bool false, .bool false, .int .i64 n, .int .i64 n, .int .i64 ((n : Int) - 1), .int .i64 0, .bool false, .bool false, undef, .slice A n c, .func (.func 73) #[] #[.pointer (some ⟨w2.heap.size, 0, none⟩)], .int .i64 (x.1 : Int), x.2.1, undef, undef, undef, undef], defers := [] }) ?assign ?body ?done ?stop
  case assign =>
    rintro l ⟨i, v, r⟩ W K hK
    dsimp only [rowEnc]
    gi_wp2
    exact hK
  case body =>
    rintro l pre ⟨i, v, r⟩ W hl ⟨kt, kz, hB, hall⟩ ⟨hi, hrow, hr32, hrpos, g, c', cur, hv, hBg, hkg, hc', hm', hcs, hct⟩
    obtain ⟨q, hq⟩ : ∃ q, lastHead ((pre ++ [(i, v, r)]).map (·.2.2)) = q := ⟨_, rfl⟩
    have hq0 : q = r.getD 0 (List.replicate 32 0) := by rw [← hq, List.map_append]; exact lastHead_snoc _ _
    have hall' : ∀ l ∈ (pre ++ [(i, v, r)]).map (·.2.2), H32 l := by
      intro l hl
      rw [List.map_append, List.mem_append] at hl
      rcases hl with hl | hl
      · exact hall l hl
      · simp only [List.map_cons, List.map_nil, List.mem_singleton] at hl; subst hl; exact hr32
    have hql : q.length = 32 := by rw [← hq]; exact length_lastHead _ hall'
    have hqs : (lastHead (pre.map (·.2.2))).length = 32 := length_lastHead _ hall
    have hld : (Instr.loadAt 26 (.pointer (some ⟨g, 0, none⟩))).run Try.prog W = .ok (.agg (q.map B).toArray) W := by
      refine run_load_agg (agg26 _) (size26 _) g 0 _ (by rw [List.length_map, hql]) fun j u hu => ?_
      rw [Nat.zero_add, hkg.cell]
      have hj : j < 32 := by have := (List.getElem?_eq_some_iff.1 hu).1; rwa [List.length_map, hql] at this
      have e : (hcells r)[j]? = some u := by
        have := hcells_get r hr32 0 hrpos j u (by
          rw [← hu, hq0]
          congr 2
          rw [List.getD_eq_getElem?_getD, List.getD_eq_getElem?_getD, List.getElem?_eq_getElem hrpos]
          rfl)
        rwa [Nat.zero_mul, Nat.zero_add] at this
      rw [← hct, List.getElem?_take_of_lt (by omega)] at e
      rw [← Array.getElem?_toList]
      exact e
    dsimp only at hv
    subst hv
    clear hq0
    have Hq := Lib.hid hq
    have Hql := Lib.hid hql
    have Hqs := Lib.hid hqs
    have Hld := Lib.hid hld
    have hrl : 0 < r.length := hrpos
    have hrm : r.length ≤ 9223372036854775807 := by unfold maxLen at hm'; dsimp only at hc'; omega
    clear hq hql hqs hld hct hrow hi
    dsimp only at hc' hrpos
    gi_wp2_with (first
      | ((with_reducible show wpListIn _ _ _ _ _ (⟨some 26, .load _ _, _, _, _, _⟩ :: _) _ _); refine wpListIn_run rfl (by intro c h; cases h) (fun _ => trivial) (.agg (q.map B).toArray) W (by unfold execOp; simp only [Act.eval, Array.getD_eq_getD_getElem?, List.getElem?_toArray, List.getElem?_cons_succ, List.getElem?_cons_zero, Option.getD_some, Hld.out, Sem.run_bind, Sem.run_pure, Result.andThen_ok]) ?_; simp only [Act.put])
      | ((with_reducible show wpListIn _ _ _ _ _ (⟨none, .store _ _ _, _, _, _, _⟩ :: _) _ _); refine wpListIn_store_blk rfl (fun _ => trivial) 26 (.tmp 5) (.tmp 26) rfl 32 size26 (w.heap.size + 1) (q.map B).toArray rfl rfl (by simp [Hql.out]) (oneCell_B _) 26 _ kt (by simp [Hqs.out]) ?_; simp only [Act.put]))
    have hg1 : w.heap.size + 1 < w3.heap.size := by have := Hs2.out; omega
    refine ⟨KeepsFrom.of_grownBy (grownBy_setRow' W _ _) (by intro j e; cases e; exact hg1), KeepC.setRow _ _ _ (.inl hg1), ?_, kz.setRow_apart (by omega) _, below_setRow hB (by omega) _, fun l a b h => hall' l (List.mem_map.2 ⟨_, h, rfl⟩)⟩
    rw [Hq.out]
    exact kt.setRow_ _
  case done =>
    rintro D xs W hD hS ⟨kt, kz, hB, hall⟩ hK
    have hqs : (lastHead (xs.map (·.2.2))).length = 32 := length_lastHead _ hall
    rw [hS] at kt hqs
    change Blk W (w.heap.size + 1) 26 ((topL hs).map B).toArray at kt
    change (topL hs).length = 32 at hqs
    rw [Hq0.out] at kt hqs
    have hld : (Instr.loadAt 26 (.pointer (some ⟨w.heap.size + 1, 0, none⟩))).run Try.prog W = .ok (.agg (q.map B).toArray) W := run_load_blk (agg26 _) (size26 _) _ _ (by simp [hqs]) kt
    have Hld := Lib.hid hld
    have Hql := Lib.hid hqs
    have HK := Lib.hid hK
    clear hld hqs hK
    gi_wp2_with (first
      | ((with_reducible show wpListIn _ _ _ _ _ (⟨some 27, .load _ _, _, _, _, _⟩ :: _) _ _); refine wpListIn_run rfl (by intro c h; cases h) (fun _ => trivial) (.agg (q.map B).toArray) W (by unfold execOp; simp only [Act.eval, Array.getD_eq_getD_getElem?, List.getElem?_toArray, List.getElem?_cons_succ, List.getElem?_cons_zero, Option.getD_some, Hld.out, Sem.run_bind, Sem.run_pure, Result.andThen_ok]) ?_; simp only [Act.put])
      | ((with_reducible show wpListIn _ _ _ _ _ (⟨none, .store _ _ _, _, _, _, _⟩ :: _) _ _); refine wpListIn_store_blk rfl (fun _ => trivial) 26 (.tmp 2) (.tmp 27) rfl 32 size26 w.heap.size (q.map B).toArray rfl rfl (by simp [Hql.out]) (oneCell_B _) 26 _ kz (by simp [Hzl.out]) ?_; simp only [Act.put]))
    have hkD : (W.setRow w.heap.size (q.map B).toArray).heap[D]? = some (.deferred (some [])) := by rw [setRow_other _ _ _ _ (by have := Hs2.out; omega)]; exact HK.out
    refine ⟨by simp, .inl ⟨_, _, rfl, run_takeDeferred hkD, ?_⟩⟩
    refine ⟨_, tuple_cell (t := 26) rfl _ _ w.heap.size (q.map B).toArray _ _ rfl ?_ Try.underlying26 (by rw [show (q.map B).toArray.size = 32 by simp [Hql.out]]; exact info26), rfl, ?_⟩
    · exact (kz.setRow_ _).grown (grownBy_putObj' _ D (.deferred none)) (by have := Hs2.out; intro e; cases e; omega)
    · exact (below_setRow hB (Nat.le_refl _) _).trans (belowK_b (w := w) (Nat.le_refl _) _ D _ _ (by have := Hs2.out; omega) hkD rfl rfl)
  case stop =>
    rintro D c pre W hD _ hf
    exact hf.elim
end Go.Proofs.Ytdkgndjomkbbjaa
