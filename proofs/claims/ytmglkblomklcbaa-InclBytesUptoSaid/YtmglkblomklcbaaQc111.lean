/- A law's argument that is a struct of two sizes and two hashes, opened; slices of slices of hashes. -/
import Derived.Test.YtmglkblomklcbaaQc110
import Derived.Test.YtmglkblomklcbaaQc101
namespace Go.Proofs.Ytmglkblomklcbaa
open Go.RowKit Go.WideShapes Go.ChangeShapes Go.ChangeAt

section
variable {H : Type} {enc : TypeId × Value → H} {P : Program} {W : World} {base : Nat} {held : Bool}
theorem some_at {α : Type} {xs : List α} {n : Nat} (i : Nat) (h : xs.length = n) (hi : i < n) : ∃ y, xs[i]? = some y := ⟨xs[i]'(by omega), List.getElem?_eq_getElem _⟩
theorem open_ask {t q : TypeId} {f0 f1 f2 f3 : Field} {v : Value} {d : DataW H} {p : List MemPlace} {spare : Nat → Bool} (ht : P.underlying t = some (.struct #[f0, f1, f2, f3])) (o0 : f0.offset = 0) (o1 : f1.offset = 1) (o2 : f2.offset = 2) (o3 : f3.offset = 34)
    (u0 : P.underlying f0.type = some (.int .i64)) (u1 : P.underlying f1.type = some (.int .i64)) (u2 : P.underlying f2.type = some (.array 32 q)) (u3 : P.underlying f3.type = some (.array 32 q)) (hq : P.underlying q = some (.int .u8))
    (c0 : P.cellsOf f0.type = 1) (c1 : P.cellsOf f1.type = 1) (c2 : P.cellsOf f2.type = 32) (c3 : P.cellsOf f3.type = 32) (cq : P.cellsOf q = 1) (hct : P.cellsOf t = 66)
    (hok : Value.okWide P W .any base t v) (h : DataW.Trod enc P W 0 spare held t v d p) : ∃ (m n : Int) (x y : List UInt8), v = .agg (Value.int .i64 m :: Value.int .i64 n :: (x ++ y).map B).toArray ∧ (Lit.int .i64 m).wf = true ∧ (Lit.int .i64 n).wf = true ∧ x.length = 32 ∧ y.length = 32 := by
  simp only [Value.okWide, ht] at hok
  obtain ⟨cs, rfl, hsz, _⟩ := hok
  obtain ⟨fuel, h⟩ := h
  obtain ⟨xs, k, _, _, hl, hlen, hf⟩ := DataW.trod_struct ht h
  obtain ⟨y0, e0⟩ := some_at 0 hlen (by simp)
  obtain ⟨y1, e1⟩ := some_at 1 hlen (by simp)
  obtain ⟨y2, e2⟩ := some_at 2 hlen (by simp)
  obtain ⟨y3, e3⟩ := some_at 3 hlen (by simp)
  have g0 := (hf 0 f0 rfl).trans e0
  have g1 := (hf 1 f1 rfl).trans e1
  have g2 := (hf 2 f2 rfl).trans e2
  have g3 := (hf 3 f3 rfl).trans e3
  rw [o0, c0] at g0
  rw [o1, c1] at g1
  rw [o2, c2] at g2
  rw [o3, c3] at g3
  rw [hct] at hl
  obtain ⟨m, em, wm⟩ := open_intf u0 g0
  obtain ⟨n, en, wn⟩ := open_intf u1 g1
  obtain ⟨x, ex, lx⟩ := open_bytesArr u2 hq cq (by rw [List.length_take, List.length_drop, hl]; rfl) g2
  obtain ⟨y, ey, ly⟩ := open_bytesArr u3 hq cq (by rw [List.length_take, List.length_drop, hl]; rfl) g3
  refine ⟨m, n, x, y, ?_, wm, wn, lx, ly⟩
  rw [← Array.toArray_toList (xs := cs)]
  congr 2
  simp only [Value.cells] at hl em en ex ey
  match hcs : cs.toList, hl with
  | a :: b :: r, hr =>
    rw [hcs] at em en ex ey
    simp only [List.drop_succ_cons, List.drop_zero, List.take_succ_cons, List.take_zero, List.cons.injEq, and_true] at em en ex ey
    have hr64 : r.length = 64 := by simpa using hr
    rw [em, en, List.map_append, ← ex, ← ey, List.take_of_length_le (l := r.drop 32) (by rw [List.length_drop, hr64]; omega), List.take_append_drop]
end
end Go.Proofs.Ytmglkblomklcbaa
/- A law's argument that is a struct of a hash, a number and a point, opened. -/
namespace Go.Proofs.Ytmglkblomklcbaa
open Go.RowKit Go.WideShapes Go.ChangeShapes Go.ChangeAt

section
variable {H : Type} {enc : TypeId × Value → H} {P : Program} {W : World} {base : Nat} {held : Bool}
/-- a point's cells: a size, a hash -/
theorem open_pointf {t q : TypeId} {f0 f1 : Field} {fuel : Nat} {spare : Nat → Bool} {cs : List Value} {x : DataW H × List MemPlace} (ht : P.underlying t = some (.struct #[f0, f1])) (o0 : f0.offset = 0) (o1 : f1.offset = 1)
    (u0 : P.underlying f0.type = some (.int .i64)) (u1 : P.underlying f1.type = some (.array 32 q)) (hq : P.underlying q = some (.int .u8)) (c0 : P.cellsOf f0.type = 1) (c1 : P.cellsOf f1.type = 32) (cq : P.cellsOf q = 1) (hct : P.cellsOf t = 33)
    (h : DataW.trod enc P W 0 spare held fuel t cs = some x) : ∃ (n : Int) (r : List UInt8), cs = .int .i64 n :: r.map B ∧ (Lit.int .i64 n).wf = true ∧ r.length = 32 := by
  obtain ⟨y0, y1, k, _, hl, g0, g1⟩ := trod_struct2 ht h
  rw [o0, c0, List.drop_zero] at g0
  rw [o1, c1] at g1
  rw [hct] at hl
  obtain ⟨n, en, wn⟩ := open_intf u0 g0
  obtain ⟨r, er, lr⟩ := open_bytesArr u1 hq cq (by rw [List.length_take, List.length_drop, hl]; rfl) g1
  match cs, hl with
  | a :: l, hl =>
    simp only [List.take_succ_cons, List.take_zero, List.drop_succ_cons, List.drop_zero, List.cons.injEq, and_true] at en er
    have hl32 : l.length = 32 := by simpa using hl
    exact ⟨n, r, by rw [en, ← er, List.take_of_length_le (by omega)], wn, lr⟩
theorem open_asked {t q : TypeId} {f0 f1 f2 e0 e1 : Field} {v : Value} {d : DataW H} {p : List MemPlace} {spare : Nat → Bool} (ht : P.underlying t = some (.struct #[f0, f1, f2])) (o0 : f0.offset = 0) (o1 : f1.offset = 32) (o2 : f2.offset = 33)
    (u0 : P.underlying f0.type = some (.array 32 q)) (u1 : P.underlying f1.type = some (.int .i64)) (u2 : P.underlying f2.type = some (.struct #[e0, e1])) (hq : P.underlying q = some (.int .u8))
    (p0 : e0.offset = 0) (p1 : e1.offset = 1) (v0 : P.underlying e0.type = some (.int .i64)) (v1 : P.underlying e1.type = some (.array 32 q)) (d0 : P.cellsOf e0.type = 1) (d1 : P.cellsOf e1.type = 32)
    (c0 : P.cellsOf f0.type = 32) (c1 : P.cellsOf f1.type = 1) (c2 : P.cellsOf f2.type = 33) (cq : P.cellsOf q = 1) (hct : P.cellsOf t = 66)
    (hok : Value.okWide P W .any base t v) (h : DataW.Trod enc P W 0 spare held t v d p) :
    ∃ (lf : List UInt8) (i n : Int) (r : List UInt8), v = .agg (lf.map B ++ .int .i64 i :: .int .i64 n :: r.map B).toArray ∧ (Lit.int .i64 i).wf = true ∧ (Lit.int .i64 n).wf = true ∧ lf.length = 32 ∧ r.length = 32 := by
  simp only [Value.okWide, ht] at hok
  obtain ⟨cs, rfl, hsz, _⟩ := hok
  obtain ⟨fuel, h⟩ := h
  obtain ⟨xs, k, _, _, hl, hlen, hf⟩ := DataW.trod_struct ht h
  obtain ⟨y0, z0⟩ := some_at 0 hlen (by simp)
  obtain ⟨y1, z1⟩ := some_at 1 hlen (by simp)
  obtain ⟨y2, z2⟩ := some_at 2 hlen (by simp)
  have g0 := (hf 0 f0 rfl).trans z0
  have g1 := (hf 1 f1 rfl).trans z1
  have g2 := (hf 2 f2 rfl).trans z2
  rw [o0, c0, List.drop_zero] at g0
  rw [o1, c1] at g1
  rw [o2, c2] at g2
  rw [hct] at hl
  obtain ⟨lf, el, ll⟩ := open_bytesArr u0 hq cq (by rw [List.length_take, hl]; rfl) g0
  obtain ⟨i, ei, wi⟩ := open_intf u1 g1
  obtain ⟨n, r, en, wn, lr⟩ := open_pointf u2 p0 p1 v0 v1 hq d0 d1 cq c2 g2
  refine ⟨lf, i, n, r, ?_, wi, wn, ll, lr⟩
  rw [← Array.toArray_toList (xs := cs)]
  congr 2
  simp only [Value.cells] at hl el ei en
  have e1 := List.take_append_drop 32 cs.toList
  have e2 := List.take_append_drop 1 (cs.toList.drop 32)
  rw [List.drop_drop] at e2
  have e3 : (cs.toList.drop 33).take 33 = cs.toList.drop 33 := List.take_of_length_le (by rw [List.length_drop, hl]; omega)
  rw [e3] at en
  rw [← e1, el, ← e2, ei, en]
  rfl
end
end Go.Proofs.Ytmglkblomklcbaa
/- slices.Reverse, of stretches. -/
namespace Go.Proofs.Ytmglkblomklcbaa
open Go Go.RowKit

theorem wpMix_store_agg {P : Program} {ops : Array Oper} {Q : Exit → Act → World → Prop} {S : World → Prop} {R : Act → World → Prop} {o : Oper} {l : List (Oper × Bool)} {a : Act} {w : World} (hgd : o.guard = none) (ty : TypeId) (x y : Operand) (ho : o.op = .store ty x y)
    (n : Nat) (hsz : ∀ w : World, (sizeOf ty).run P w = .ok n w) (g off : Nat) (vs : Array Value) (hx : a.eval x = .pointer (some ⟨g, off, none⟩)) (hy : a.eval y = .agg vs) (hv : vs.size = n) (h1 : ∀ v ∈ vs.toList, v.oneCell' = true)
    (t : TypeId) (cur : Array Value) (hg : Blk w g t cur) (hc : off + n ≤ cur.size) (hS : S (w.setRow g (cur.toList.take off ++ vs.toList ++ cur.toList.drop (off + n)).toArray))
    (h : wpMix P ops S Q R l (a.put o.dst undef) (w.setRow g (cur.toList.take off ++ vs.toList ++ cur.toList.drop (off + n)).toArray)) : wpMix P ops S Q R ((o, false) :: l) a w := by
  refine ⟨?_⟩
  unfold wpMix0
  rw [if_pos (by simp [Region.wanted, hgd])]
  unfold Oper.wp execOp
  simp only [ho, hx, hy, run_store_agg (P := P) (hsz w) g off vs cur hv h1 hg hc, Sem.run_bind, Sem.run_pure, Result.andThen_ok, Oper.upon]
  exact ⟨hS, h.out⟩
theorem run_load_op {P : Program} {ρ : Operand → Value} {o : Oper} {w : World} (ty : TypeId) (x : Operand) (ho : o.op = .load ty x) (g off : Nat) (hx : ρ x = .pointer (some ⟨g, off, none⟩)) (v : Value) (h : (Instr.loadAt ty (.pointer (some ⟨g, off, none⟩))).run P w = .ok v w) :
    (execOp ρ o).run P w = .ok (.value v) w := by
  unfold execOp
  simp only [ho, hx, Sem.run_bind, Sem.run_pure, h, Result.andThen_ok]

/-- k at either end have changed places -/
def revK (os : List (Int × Int)) (k : Nat) : List (Int × Int) := (List.range os.length).map fun p => os.getD (if p < k ∨ os.length ≤ p + k then os.length - 1 - p else p) (0, 0)
theorem length_revK (os : List (Int × Int)) (k : Nat) : (revK os k).length = os.length := by simp [revK]
theorem revK_zero (os : List (Int × Int)) : revK os 0 = os := by
  apply List.ext_getElem
  · simp [revK]
  · intro i h1 h2
    simp only [revK, List.getElem_map, List.getElem_range]
    rw [if_neg (by omega), List.getD_eq_getElem?_getD, List.getElem?_eq_getElem h2]; rfl
theorem revK_getD (os : List (Int × Int)) (k p : Nat) (h : p < os.length) : (revK os k).getD p (0, 0) = os.getD (if p < k ∨ os.length ≤ p + k then os.length - 1 - p else p) (0, 0) := by
  rw [List.getD_eq_getElem?_getD, List.getElem?_eq_getElem (by rw [length_revK]; exact h)]
  simp [revK]
theorem revK_step (os : List (Int × Int)) (k j : Nat) (h : k < j) (hj : j + k + 1 = os.length) :
    ((revK os k).set k ((revK os k).getD j (0, 0))).set j ((revK os k).getD k (0, 0)) = revK os (k + 1) := by
  rw [revK_getD os k j (by omega), revK_getD os k k (by omega), if_neg (by omega), if_neg (by omega)]
  apply List.ext_getElem
  · simp [revK]
  · intro i h1 h2
    have hi : i < os.length := by rw [length_revK] at h2; exact h2
    rw [List.getElem_set, List.getElem_set]
    simp only [revK, List.getElem_map, List.getElem_range]
    by_cases e1 : j = i
    · rw [if_pos e1, if_pos (by omega)]; congr 1; omega
    · rw [if_neg e1]
      by_cases e2 : k = i
      · rw [if_pos e2, if_pos (by omega)]; congr 1; omega
      · rw [if_neg e2]
        by_cases e3 : i < k ∨ os.length ≤ i + k
        · rw [if_pos e3, if_pos (by omega)]
        · rw [if_neg e3, if_neg (by omega)]
theorem revK_end (os : List (Int × Int)) (k : Nat) (h : os.length ≤ 2 * k + 1) : revK os k = os.reverse := by
  apply List.ext_getElem
  · simp [revK]
  · intro i h1 h2
    have hi : i < os.length := by rw [length_revK] at h1; exact h1
    simp only [revK, List.getElem_map, List.getElem_range, List.getElem_reverse]
    by_cases e : i < k ∨ os.length ≤ i + k
    · rw [if_pos e, List.getD_eq_getElem?_getD, List.getElem?_eq_getElem (by omega)]; rfl
    · rw [if_neg e, List.getD_eq_getElem?_getD, List.getElem?_eq_getElem (by omega)]
      have : os.length - 1 - i = i := by omega
      simp [this]

structure RvC (base g n c : Nat) (l : List (Int × Int)) (w W : World) : Prop where
  own : W.ownsRow base 68 2 (.slice (some ⟨g, 0, none⟩) n c) n (rcells l)
  grow : w.grownBy W (some g)

set_option maxHeartbeats 1000000 in
set_option maxRecDepth 100000 in
theorem rev_any (os : List (Int × Int)) (v : Value) (n base : Nat) (w : World) (h : w.ownsRow base 68 2 v n (rcells os)) (hl : os.length = n) (hn : n ≤ 1000000000) :
    Calls Try.prog 49 #[v] w fun e w' => (∃ r, e = .returned r) ∧ w'.ownsRow base 68 2 v n (rcells os.reverse) ∧ w.grownBy w' v.ownBlock := by
  by_cases h0 : n = 0
  · subst h0
    have hnil : os = [] := List.eq_nil_of_length_eq_zero hl
    subst hnil
    obtain ⟨A, c, rfl, hs⟩ := owns_slv h
    go_enter Try.func49, Try.ntmps49
    go_wp2_with fail
    go_loopw [2, 3] (fun i j wr => i = .int .i64 0 ∧ j = .int .i64 (-1) ∧ w = wr) (fun _ _ _ => 0)
    case atStart => exact ⟨rfl, rfl, rfl⟩
    case round =>
      obtain ⟨rfl, rfl, rfl⟩ := hrel
      go_wp2_with fail
      go_end0
      exact ⟨⟨_, rfl⟩, h, ⟨rfl, rfl, rfl, Nat.le_refl _, fun _ _ _ => rfl⟩⟩
  · obtain ⟨g, c, rfl⟩ : ∃ g c, v = .slice (some ⟨g, 0, none⟩) n c := by
      rcases h.2 with ⟨_, h1⟩ | ⟨g, c, cur, hv, _⟩
      · omega
      · exact ⟨g, c, hv⟩
    have hC0 : RvC base g n c (revK os 0) w w := ⟨by rw [revK_zero]; exact h, ⟨rfl, rfl, rfl, Nat.le_refl _, fun _ _ _ => rfl⟩⟩
    have Hl := Lib.hid hl
    clear h hl
    go_enter Try.func49, Try.ntmps49
    go_wp2_with fail
    go_loopw [2, 3] (fun i j wr => ∃ (k : Nat) (ji : Int), ji = (n : Int) - 1 - k ∧ 2 * k ≤ n ∧ i = .int .i64 k ∧ j = .int .i64 ji ∧ RvC base g n c (revK os k) w wr) (fun i _ _ => n - (intOf i).toNat)
    case atStart => exact ⟨0, (n : Int) - 1, by simp, by omega, rfl, rfl, hC0⟩
    case round =>
      clear hC0
      obtain ⟨k, ji, hji, hk, rfl, rfl, hC⟩ := hrel
      by_cases hlt : (k : Int) < ji
      · obtain ⟨j, rfl⟩ : ∃ j : Nat, ji = (j : Int) := ⟨ji.toNat, by omega⟩
        have hjn : j < n := by omega
        have hkn : k < n := by omega
        have hkj : k < j := by omega
        have hsum : j + k + 1 = n := by omega
        obtain ⟨l, hll⟩ : ∃ l, revK os k = l := ⟨_, rfl⟩
        have hlen : l.length = n := by rw [← hll, length_revK, Hl.out]
        have hst := revK_step os k j hkj (by rw [Hl.out]; exact hsum)
        rw [hll] at hC hst
        obtain ⟨x, hx⟩ : ∃ x, l.getD k (0, 0) = x := ⟨_, rfl⟩
        obtain ⟨y, hy⟩ : ∃ y, l.getD j (0, 0) = y := ⟨_, rfl⟩
        rw [hx, hy] at hst
        have hld : ∀ s : InC (RvC base g n c l w), (Instr.loadAt 68 (.pointer (some ⟨g, j * 2, none⟩))).run Try.prog s.W = .ok (.agg #[.int .i64 y.1, .int .i64 y.2]) s.W ∧ (Instr.loadAt 68 (.pointer (some ⟨g, k * 2, none⟩))).run Try.prog s.W = .ok (.agg #[.int .i64 x.1, .int .i64 x.2]) s.W := fun s => by
          obtain ⟨A', c', hv, hs⟩ := Rs.of_owns s.ok.own hlen
          cases hv
          have h1 := hs.load rfl j hjn
          have h2 := hs.load rfl k hkn
          rw [Nat.zero_add] at h1 h2
          rw [hy] at h1
          rw [hx] at h2
          exact ⟨h1, h2⟩
        have Hld := Lib.hid hld
        have Hst := Lib.hid hst
        have Hlen := Lib.hid hlen
        have Hsum := Lib.hid hsum
        have hw1 : (0 : Int) ≤ (j : Int) := by omega
        have hC0 : RvC base g n c l w wr.drew := ⟨owns_step hC.own (Below.refl _ _).drew, grown_drew hC.grow⟩
        clear hll hx hy hld hst hlen hji hsum hC
        go_wp2_with fail
        refine wp_region_begin (fun _ => True) (by kernel_rfl) trivial fun _ => ?_
        generalize wr.drew = W0 at hC0 ⊢
        refine wpAnyH_pre (f := 6) (by kernel_rfl) #[true, true, true, true, true, true, true, false, true, true, true, false, false, false, false, false] [(0, true), (1, true), (2, true), (3, true), (4, true), (5, true), (6, true), (8, true), (9, true), (10, true)] _ _ _ (by kernel_rfl) trivial ?_
        simp only [List.map_cons, List.map_nil, Array.getD_eq_getD_getElem?, List.getElem?_toArray, List.getElem?_cons_succ, List.getElem?_cons_zero, Option.getD_some]
        refine wpMix_s (fun K hK => ?_)
        go_simp
        refine hK _ ?_
        clear hK K
        refine wpMix_s (fun K hK => ?_)
        go_simp
        refine hK _ ?_
        clear hK K
        refine wpMix_s (fun K hK => ?_)
        go_simp
        refine hK _ ?_
        clear hK K
        refine wpMix_s (fun K hK => ?_)
        go_simp
        refine hK _ ?_
        clear hK K
        refine wpMix_s (fun K hK => ?_)
        go_simp
        refine hK _ ?_
        clear hK K
        refine wpMix_s (fun K hK => ?_)
        go_simp
        refine hK _ ?_
        clear hK K
        refine wpMix_s (fun K hK => ?_)
        go_simp
        refine hK _ ?_
        clear hK K
        refine wpMix_s (fun K hK => ?_)
        go_simp
        refine hK _ ?_
        clear hK K
        refine wpMix_s (fun K hK => ?_)
        go_simp
        refine hK _ ?_
        clear hK K
        refine wpMix_s (fun K hK => ?_)
        go_simp
        refine hK _ ?_
        clear hK K
        refine wpMix_nil ?_
        intro _
        refine wpAnyH_shared (T := Unit) 4 #[true, true, true, true, true, true, true, true, true, true, true, true, false, false, false, false] (fun _ => [(21, .agg #[.int .i64 y.1, .int .i64 y.2]), (25, .agg #[.int .i64 x.1, .int .i64 x.2])]) (fun _ W => RvC base g n c l w W) ?tail ?head
        case head =>
          intro key
          simp only [List.foldl_cons, List.foldl_nil, Act.put, List.setIfInBounds_toArray, List.set_cons_succ, List.set_cons_zero] at key
          refine wpAnyH_fork (f := 5) (i := 7) (j := 11) (by kernel_rfl) trivial ?_ ?_
          · simp only [Array.getD_eq_getD_getElem?, List.getElem?_toArray, List.getElem?_cons_succ, List.getElem?_cons_zero, Option.getD_some]
            refine wpMix_run (by kernel_rfl) (.agg #[.int .i64 y.1, .int .i64 y.2]) W0 (run_load_op 68 (.tmp 20) rfl g (j * 2) rfl _ (Hld.out ⟨W0, hC0⟩).1) trivial ?_
            simp only [Act.put]
            refine wpMix_nil ?_
            intro _
            show wpAnyH _ _ _ _ _ _ #[true, true, true, true, true, true, true, true, true, true, true, false, false, false, false, false] _ _
            refine wpAnyH_pre (f := 4) (by kernel_rfl) #[true, true, true, true, true, true, true, true, true, true, true, true, false, false, false, false] [(11, false)] _ _ _ (by kernel_rfl) trivial ?_
            simp only [List.map_cons, List.map_nil, Array.getD_eq_getD_getElem?, List.getElem?_toArray, List.getElem?_cons_succ, List.getElem?_cons_zero, Option.getD_some]
            refine wpMix_run (by kernel_rfl) (.agg #[.int .i64 x.1, .int .i64 x.2]) W0 (run_load_op 68 (.tmp 24) rfl g (k * 2) rfl _ (Hld.out ⟨W0, hC0⟩).2) trivial ?_
            simp only [Act.put]
            refine wpMix_nil ?_
            intro _
            exact key () _ hC0
          · simp only [Array.getD_eq_getD_getElem?, List.getElem?_toArray, List.getElem?_cons_succ, List.getElem?_cons_zero, Option.getD_some]
            refine wpMix_run (by kernel_rfl) (.agg #[.int .i64 x.1, .int .i64 x.2]) W0 (run_load_op 68 (.tmp 24) rfl g (k * 2) rfl _ (Hld.out ⟨W0, hC0⟩).2) trivial ?_
            simp only [Act.put]
            refine wpMix_nil ?_
            intro _
            show wpAnyH _ _ _ _ _ _ #[true, true, true, true, true, true, true, false, true, true, true, true, false, false, false, false] _ _
            refine wpAnyH_pre (f := 4) (by kernel_rfl) #[true, true, true, true, true, true, true, true, true, true, true, true, false, false, false, false] [(7, false)] _ _ _ (by kernel_rfl) trivial ?_
            simp only [List.map_cons, List.map_nil, Array.getD_eq_getD_getElem?, List.getElem?_toArray, List.getElem?_cons_succ, List.getElem?_cons_zero, Option.getD_some]
            refine wpMix_run (by kernel_rfl) (.agg #[.int .i64 y.1, .int .i64 y.2]) W0 (run_load_op 68 (.tmp 20) rfl g (j * 2) rfl _ (Hld.out ⟨W0, hC0⟩).1) trivial ?_
            simp only [Act.put]
            refine wpMix_nil ?_
            intro _
            exact key () _ hC0
        case tail =>
          clear hC0
          rintro ⟨⟩ W3 hC3
          simp only [List.foldl_cons, List.foldl_nil, Act.put, List.setIfInBounds_toArray, List.set_cons_succ, List.set_cons_zero]
          refine wpAnyH_pre (f := 0) (by kernel_rfl) #[true, true, true, true, true, true, true, true, true, true, true, true, true, true, true, true] [(12, true), (13, false), (14, true), (15, false)] _ _ _ (by kernel_rfl) trivial ?_
          simp only [List.map_cons, List.map_nil, Array.getD_eq_getD_getElem?, List.getElem?_toArray, List.getElem?_cons_succ, List.getElem?_cons_zero, Option.getD_some]
          refine wpMix_s (fun K hK => ?_)
          go_simp
          refine hK _ ?_
          clear hK K
          obtain ⟨cur, hb1, hs1, hbg, ho1⟩ := owns_put hC3.own k hkn [.int .i64 y.1, .int .i64 y.2] rfl
          rw [show ([.int .i64 y.1, .int .i64 y.2] : List Value) = rcell y from rfl, rcells_set l k y (by rw [Hlen.out]; exact hkn)] at ho1
          have hg1 := grown_setRow hC3.grow (cur.toList.take (k * 2) ++ rcell y ++ cur.toList.drop (k * 2 + 2)).toArray
          refine wpMix_store_agg rfl 68 (.tmp 26) (.tmp 21) rfl 2 sizeR g (k * 2) #[.int .i64 y.1, .int .i64 y.2] rfl rfl rfl (by simp [Value.oneCell']) 68 _ hb1 hs1 trivial ?_
          simp only [Act.put]
          refine (mix_world (S := fun _ => True) (RvC base g n c (l.set k y) w) ⟨ho1, hg1⟩ (fun _ _ => trivial) ?_).2
          clear hb1 ho1 hg1 hC3
          intro W4 hC4
          refine wpMix_s (fun K hK => ?_)
          go_simp
          refine hK _ ?_
          clear hK K
          obtain ⟨cur2, hb2, hs2, -, ho2⟩ := owns_put hC4.own j hjn [.int .i64 x.1, .int .i64 x.2] rfl
          rw [show ([.int .i64 x.1, .int .i64 x.2] : List Value) = rcell x from rfl, rcells_set (l.set k y) j x (by rw [List.length_set, Hlen.out]; exact hjn), Hst.out] at ho2
          have hg2 := grown_setRow hC4.grow (cur2.toList.take (j * 2) ++ rcell x ++ cur2.toList.drop (j * 2 + 2)).toArray
          refine wpMix_store_agg rfl 68 (.tmp 27) (.tmp 25) rfl 2 sizeR g (j * 2) #[.int .i64 x.1, .int .i64 x.2] rfl rfl rfl (by simp [Value.oneCell']) 68 _ hb2 hs2 trivial ?_
          simp only [Act.put]
          refine (mix_world (S := fun _ => True) (RvC base g n c (revK os (k + 1)) w) ⟨ho2, hg2⟩ (fun _ _ => trivial) ?_).2
          clear hb2 ho2 hg2 hC4
          intro W5 hC5
          refine wpMix_nil ?_
          intro _
          refine wpAnyH_end (by kernel_rfl) ?_
          go_wp2_with fail
          go_roundw
          case rel => exact ⟨k + 1, (j : Int) - 1, by have := Hsum.out; omega, by have := Hsum.out; omega, by go_num, rfl, hC5⟩
          case measure => simp [intOf]; omega
      · have hend := revK_end os k (by rw [Hl.out]; omega)
        have ho := hC.own
        rw [hend] at ho
        have hg := hC.grow
        clear hend hji hC
        go_wp2_with fail
        go_end0
        exact ⟨⟨_, rfl⟩, ho, hg⟩
end Go.Proofs.Ytmglkblomklcbaa
/- An operation with a guard whose run is known. No program in sight. -/
namespace Go.Proofs.Ytmglkblomklcbaa
open Go Go.RowKit

theorem wpList_runG {P : Program} {w : World} {ops : Array Oper} {rest : List Oper} {o : Oper} {a : Act} {Q : Exit → Act → World → Prop} (hw : Region.wanted o (yielded ops a.tmps) = true) (v : Value) (w' : World) (hrun : (execOp a.eval o).run P w = .ok (.value v) w')
    (h : wpList P ops Q rest (a.put o.dst v) w') : wpList P ops Q (o :: rest) a w :=
  wpList_step fun K hK => by
    rw [if_pos hw]
    unfold Oper.wp
    rw [hrun]
    exact hK _ _ h
end Go.Proofs.Ytmglkblomklcbaa
/- Variables that hold a hash: one step for each, by what is known of their block. -/
namespace Go.Proofs.Ytmglkblomklcbaa
open Go Go.RowKit

/-- a block holds this hash -/
structure HV (w : World) (g : Nat) (l : List UInt8) : Prop where
  blk : Blk w g 45 (l.map B).toArray
  len : l.length = 32
theorem HV.step {w W : World} {g : Nat} {l : List UInt8} (h : HV w g l) (hb : Below w.heap.size w W) : HV W g l := ⟨h.blk.below hb h.blk.lt, h.len⟩
theorem HV.lt {w : World} {g : Nat} {l : List UInt8} (h : HV w g l) : g < w.heap.size := h.blk.lt
theorem HV.drew {w : World} {g : Nat} {l : List UInt8} (h : HV w g l) : HV w.drew g l := ⟨h.blk, h.len⟩
theorem HV.load {w : World} {g : Nat} {l : List UInt8} (h : HV w g l) : (Instr.loadAt 45 (.pointer (some ⟨g, 0, none⟩))).run Try.prog w = .ok (.agg (l.map B).toArray) w :=
  run_load_blk (agg26 _) (size26 _) g _ (by simp [h.len]) h.blk
theorem HV.far {w W : World} {g g' : Nat} {l : List UInt8} (h : HV w g l) (hb : Below g' w W) (hg : g < g') : HV W g l := ⟨h.blk.below hb hg, h.len⟩
theorem Blk.step {w W : World} {g : Nat} {t : TypeId} {cs : Array Value} (h : Blk w g t cs) (hb : Below w.heap.size w W) : Blk W g t cs := h.below hb h.lt

section
variable {w : World} {ops : Array Oper} {rest : List Oper} {o o1 o2 o3 : Oper} {a : Act} {Q : Exit → Act → World → Prop}
set_option maxRecDepth 100000 in
/-- a new variable, written at once -/
theorem wpList_hvar {l : List UInt8} (x y : Operand) (hg1 : o1.guard = none) (hg2 : o2.guard = none) (ho1 : o1.op = .alloc 45) (ho2 : o2.op = .store 45 x y)
    (hx : (a.put o1.dst (.pointer (some ⟨w.heap.size, 0, none⟩))).eval x = .pointer (some ⟨w.heap.size, 0, none⟩)) (hy : (a.put o1.dst (.pointer (some ⟨w.heap.size, 0, none⟩))).eval y = .agg (l.map B).toArray) (hl : l.length = 32)
    (h : ∀ W, HV W w.heap.size l → Below w.heap.size w W → wpList Try.prog ops Q rest ((a.put o1.dst (.pointer (some ⟨w.heap.size, 0, none⟩))).put o2.dst undef) W) : wpList Try.prog ops Q (o1 :: o2 :: rest) a w := by
  have hz : zeroHash.size = 32 := rfl
  refine wpList_run hg1 (.pointer (some ⟨w.heap.size, 0, none⟩)) (w.alloc (.cells zeroHash 45)) ?_ ?_
  · unfold execOp
    rw [ho1]
    rfl
  · refine wpList_store_blk hg2 45 x y ho2 32 size26 w.heap.size (l.map B).toArray hx hy (by simp [hl]) (oneCell_B _) 45 _ (Blk.new w 45 zeroHash) hz ?_
    exact h _ ⟨(Blk.new w 45 zeroHash).setRow_ _, hl⟩ (below_setRow ((Below.refl _ _).alloc (Nat.le_refl _) _) (Nat.le_refl _) _)
set_option maxRecDepth 100000 in
/-- a new variable, nought -/
theorem wpList_hnew (hg1 : o1.guard = none) (ho1 : o1.op = .alloc 45)
    (h : ∀ W, HV W w.heap.size (List.replicate 32 0) → Below w.heap.size w W → wpList Try.prog ops Q rest (a.put o1.dst (.pointer (some ⟨w.heap.size, 0, none⟩))) W) : wpList Try.prog ops Q (o1 :: rest) a w := by
  refine wpList_run hg1 (.pointer (some ⟨w.heap.size, 0, none⟩)) (w.alloc (.cells zeroHash 45)) ?_ (h _ ⟨Blk.new w 45 zeroHash, rfl⟩ ((Below.refl _ _).alloc (Nat.le_refl _) _))
  unfold execOp
  rw [ho1]
  rfl
/-- a variable is written over: all below it stays -/
theorem wpList_hset {l l' : List UInt8} {g : Nat} (x y : Operand) (hg2 : o.guard = none) (ho2 : o.op = .store 45 x y) (k : HV w g l')
    (hx : a.eval x = .pointer (some ⟨g, 0, none⟩)) (hy : a.eval y = .agg (l.map B).toArray) (hl : l.length = 32)
    (h : ∀ W, HV W g l → Below g w W → W = w.setRow g (l.map B).toArray → wpList Try.prog ops Q rest (a.put o.dst undef) W) : wpList Try.prog ops Q (o :: rest) a w :=
  wpList_store_blk hg2 45 x y ho2 32 size26 g (l.map B).toArray hx hy (by simp [hl]) (oneCell_B _) 45 _ k.blk (by simp [k.len])
    (h _ ⟨k.blk.setRow_ _, hl⟩ (below_setRow (Below.refl _ _) (Nat.le_refl _) _) rfl)
theorem wpList_hload {l : List UInt8} {g : Nat} (x : Operand) (hw : Region.wanted o (yielded ops a.tmps) = true) (ho : o.op = .load 45 x) (k : HV w g l) (hx : a.eval x = .pointer (some ⟨g, 0, none⟩))
    (h : wpList Try.prog ops Q rest (a.put o.dst (.agg (l.map B).toArray)) w) : wpList Try.prog ops Q (o :: rest) a w :=
  wpList_runG hw (.agg (l.map B).toArray) w (run_load_op 45 x ho g 0 hx _ k.load) h
/-- a scalar, by its cell -/
theorem wpList_cell {P : Program} (ty : TypeId) (x : Operand) (g off : Nat) (v : Value) (hw : Region.wanted o (yielded ops a.tmps) = true) (ho : o.op = .load ty x) (hx : a.eval x = .pointer (some ⟨g, off, none⟩))
    (hrun : (Instr.loadAt ty (.pointer (some ⟨g, off, none⟩))).run P w = .ok v w) (h : wpList P ops Q rest (a.put o.dst v) w) : wpList P ops Q (o :: rest) a w :=
  wpList_runG hw v w (run_load_op ty x ho g off hx _ hrun) h
end
theorem run_load_scalar {P : Program} {W : World} {ty : TypeId} {g o : Nat} {v : Value} (hagg : (isAgg ty).run P W = .ok false W) (h : W.cell? ⟨g, o, none⟩ = some v) : (Instr.loadAt ty (.pointer (some ⟨g, o, none⟩))).run P W = .ok v W := by
  simp [Instr.loadAt, Instr.sureAddr, loadVar, Sem.run_bind, hagg, Go.load, Sem.run, h]
theorem notagg64 : ∀ w : World, (isAgg 2).run Try.prog w = .ok false w := fun _ => by kernel_rfl
/-- hashes: one is put in the place of another -/
theorem hcells_set : ∀ (l : List (List UInt8)), H32 l → ∀ (k : Nat) (x : List UInt8), k < l.length → (hcells l).take (k * 32) ++ x.map B ++ (hcells l).drop (k * 32 + 32) = hcells (l.set k x) := by
  intro l h k x hk
  rw [hcells_take l h k (by omega), show k * 32 + 32 = (k + 1) * 32 by omega, hcells_drop l h (k + 1) (by omega), List.set_eq_take_append_cons_drop, if_pos hk, hcells_append]
  simp [hcells]
theorem H32.set {l : List (List UInt8)} (h : H32 l) (k : Nat) {x : List UInt8} (hx : x.length = 32) : H32 (l.set k x) := fun y hy => by
  rcases List.mem_or_eq_of_mem_set hy with h1 | rfl
  · exact h y h1
  · exact hx
theorem Hs.get {w : World} {X : Nat → Prop} {A : Option Addr} {n c : Nat} {hs : List (List UInt8)} (h : Hs w X A n c hs) {b o : Nat} (hA : A = some ⟨b, o, none⟩) (i : Nat) (hi : i < n) :
    (Instr.loadAt 45 (.pointer (some ⟨b, o + i * 32, none⟩))).run Try.prog w = .ok (.agg ((hs.getD i []).map B).toArray) w := by
  obtain ⟨b', o', hA', -, -, hat⟩ := h.at_ (by omega)
  rw [hA] at hA'
  cases hA'
  exact hat i hi
end Go.Proofs.Ytmglkblomklcbaa
