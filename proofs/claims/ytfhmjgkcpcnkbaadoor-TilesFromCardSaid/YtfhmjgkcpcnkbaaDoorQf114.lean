/- slices.Reverse, of stretches. -/
import Derived.Test.YtfhmjgkcpcnkbaaDoorQf110
import Derived.Shelf.Strconv.Itoa0
import Derived.Test.YtfhmjgkcpcnkbaaDoorQf109
namespace Go.Proofs.YtfhmjgkcpcnkbaaDoor
open Go Go.RowKit

theorem wpMix_store_agg {P : Program} {ops : Array Oper} {Q : Exit → Act → World → Prop} {S : World → Prop} {R : Act → World → Prop} {o : Oper} {l : List (Oper × Bool)} {a : Act} {w : World} (hgd : o.guard = none) (ty : TypeId) (x y : Operand) (ho : o.op = .store ty x y)
    (n : Nat) (hsz : ∀ w : World, (sizeOf ty).run P w = .ok n w) (g off : Nat) (vs : Array Value) (hx : a.eval x = .pointer (some ⟨g, off, none⟩)) (hy : a.eval y = .agg vs) (hv : vs.size = n) (h1 : ∀ v ∈ vs.toList, v.oneCell' = true)
    (t : TypeId) (cur : Array Value) (hg : Blk w g t cur) (hc : off + n ≤ cur.size) (hS : S (w.setRow g (cur.toList.take off ++ vs.toList ++ cur.toList.drop (off + n)).toArray))
    (h : wpMix P ops S Q R l (a.put o.dst undef) (w.setRow g (cur.toList.take off ++ vs.toList ++ cur.toList.drop (off + n)).toArray)) : wpMix P ops S Q R ((o, false) :: l) a w := by
  refine ⟨?_⟩
  unfold wpMix0
  rw [if_pos (by simp [Region.wanted, hgd])]
  unfold Oper.wp execOp
  simp only [ho, hx, hy, run_store_agg (P := P) (hsz w) g off vs cur hv h1 hg hc, Sem.run_bind, Sem.run_pure, Result.andThen_ok, Oper.upon]
  exact ⟨hS, h.out⟩
theorem run_load_op {P : Program} {ρ : Operand → Value} {o : Oper} {w : World} (ty : TypeId) (x : Operand) (ho : o.op = .load ty x) (g off : Nat) (hx : ρ x = .pointer (some ⟨g, off, none⟩)) (v : Value) (h : (Instr.loadAt ty (.pointer (some ⟨g, off, none⟩))).run P w = .ok v w) :
    (execOp ρ o).run P w = .ok (.value v) w := by
  unfold execOp
  simp only [ho, hx, Sem.run_bind, Sem.run_pure, h, Result.andThen_ok]

/-- k at either end have changed places -/
def revK (os : List (Int × Int)) (k : Nat) : List (Int × Int) := (List.range os.length).map fun p => os.getD (if p < k ∨ os.length ≤ p + k then os.length - 1 - p else p) (0, 0)
theorem length_revK (os : List (Int × Int)) (k : Nat) : (revK os k).length = os.length := by simp [revK]
theorem revK_zero (os : List (Int × Int)) : revK os 0 = os := by
  apply List.ext_getElem
  · simp [revK]
  · intro i h1 h2
    simp only [revK, List.getElem_map, List.getElem_range]
    rw [if_neg (by omega), List.getD_eq_getElem?_getD, List.getElem?_eq_getElem h2]; rfl
theorem revK_getD (os : List (Int × Int)) (k p : Nat) (h : p < os.length) : (revK os k).getD p (0, 0) = os.getD (if p < k ∨ os.length ≤ p + k then os.length - 1 - p else p) (0, 0) := by
  rw [List.getD_eq_getElem?_getD, List.getElem?_eq_getElem (by rw [length_revK]; exact h)]
  simp [revK]
theorem revK_step (os : List (Int × Int)) (k j : Nat) (h : k < j) (hj : j + k + 1 = os.length) :
    ((revK os k).set k ((revK os k).getD j (0, 0))).set j ((revK os k).getD k (0, 0)) = revK os (k + 1) := by
  rw [revK_getD os k j (by omega), revK_getD os k k (by omega), if_neg (by omega), if_neg (by omega)]
  apply List.ext_getElem
  · simp [revK]
  · intro i h1 h2
    have hi : i < os.length := by rw [length_revK] at h2; exact h2
    rw [List.getElem_set, List.getElem_set]
    simp only [revK, List.getElem_map, List.getElem_range]
    by_cases e1 : j = i
    · rw [if_pos e1, if_pos (by omega)]; congr 1; omega
    · rw [if_neg e1]
      by_cases e2 : k = i
      · rw [if_pos e2, if_pos (by omega)]; congr 1; omega
      · rw [if_neg e2]
        by_cases e3 : i < k ∨ os.length ≤ i + k
        · rw [if_pos e3, if_pos (by omega)]
        · rw [if_neg e3, if_neg (by omega)]
theorem revK_end (os : List (Int × Int)) (k : Nat) (h : os.length ≤ 2 * k + 1) : revK os k = os.reverse := by
  apply List.ext_getElem
  · simp [revK]
  · intro i h1 h2
    have hi : i < os.length := by rw [length_revK] at h1; exact h1
    simp only [revK, List.getElem_map, List.getElem_range, List.getElem_reverse]
    by_cases e : i < k ∨ os.length ≤ i + k
    · rw [if_pos e, List.getD_eq_getElem?_getD, List.getElem?_eq_getElem (by omega)]; rfl
    · rw [if_neg e, List.getD_eq_getElem?_getD, List.getElem?_eq_getElem (by omega)]
      have : os.length - 1 - i = i := by omega
      simp [this]

structure RvC (base g n c : Nat) (l : List (Int × Int)) (w W : World) : Prop where
  own : W.ownsRow base 96 2 (.slice (some ⟨g, 0, none⟩) n c) n (rcells l)
  grow : w.grownBy W (some g)

set_option maxHeartbeats 1000000 in
set_option maxRecDepth 100000 in
theorem rev_any (os : List (Int × Int)) (v : Value) (n base : Nat) (w : World) (h : w.ownsRow base 96 2 v n (rcells os)) (hl : os.length = n) (hn : n ≤ 1000000000) :
    Calls Tryd.prog 72 #[v] w fun e w' => (∃ r, e = .returned r) ∧ w'.ownsRow base 96 2 v n (rcells os.reverse) ∧ w.grownBy w' v.ownBlock := by
  by_cases h0 : n = 0
  · subst h0
    have hnil : os = [] := List.eq_nil_of_length_eq_zero hl
    subst hnil
    obtain ⟨A, c, rfl, hs⟩ := owns_slv h
    go_enter Tryd.func72, Tryd.ntmps72
    go_wp2_with fail
    go_loopw [2, 3] (fun i j wr => i = .int .i64 0 ∧ j = .int .i64 (-1) ∧ w = wr) (fun _ _ _ => 0)
    case atStart => exact ⟨rfl, rfl, rfl⟩
    case round =>
      obtain ⟨rfl, rfl, rfl⟩ := hrel
      go_wp2_with fail
      go_end0
      exact ⟨⟨_, rfl⟩, h, ⟨rfl, rfl, rfl, Nat.le_refl _, fun _ _ _ => rfl⟩⟩
  · obtain ⟨g, c, rfl⟩ : ∃ g c, v = .slice (some ⟨g, 0, none⟩) n c := by
      rcases h.2 with ⟨_, h1⟩ | ⟨g, c, cur, hv, _⟩
      · omega
      · exact ⟨g, c, hv⟩
    have hC0 : RvC base g n c (revK os 0) w w := ⟨by rw [revK_zero]; exact h, ⟨rfl, rfl, rfl, Nat.le_refl _, fun _ _ _ => rfl⟩⟩
    have Hl := Lib.hid hl
    clear h hl
    go_enter Tryd.func72, Tryd.ntmps72
    go_wp2_with fail
    go_loopw [2, 3] (fun i j wr => ∃ (k : Nat) (ji : Int), ji = (n : Int) - 1 - k ∧ 2 * k ≤ n ∧ i = .int .i64 k ∧ j = .int .i64 ji ∧ RvC base g n c (revK os k) w wr) (fun i _ _ => n - (intOf i).toNat)
    case atStart => exact ⟨0, (n : Int) - 1, by simp, by omega, rfl, rfl, hC0⟩
    case round =>
      clear hC0
      obtain ⟨k, ji, hji, hk, rfl, rfl, hC⟩ := hrel
      by_cases hlt : (k : Int) < ji
      · obtain ⟨j, rfl⟩ : ∃ j : Nat, ji = (j : Int) := ⟨ji.toNat, by omega⟩
        have hjn : j < n := by omega
        have hkn : k < n := by omega
        have hkj : k < j := by omega
        have hsum : j + k + 1 = n := by omega
        obtain ⟨l, hll⟩ : ∃ l, revK os k = l := ⟨_, rfl⟩
        have hlen : l.length = n := by rw [← hll, length_revK, Hl.out]
        have hst := revK_step os k j hkj (by rw [Hl.out]; exact hsum)
        rw [hll] at hC hst
        obtain ⟨x, hx⟩ : ∃ x, l.getD k (0, 0) = x := ⟨_, rfl⟩
        obtain ⟨y, hy⟩ : ∃ y, l.getD j (0, 0) = y := ⟨_, rfl⟩
        rw [hx, hy] at hst
        have hld : ∀ s : InC (RvC base g n c l w), (Instr.loadAt 96 (.pointer (some ⟨g, j * 2, none⟩))).run Tryd.prog s.W = .ok (.agg #[.int .i64 y.1, .int .i64 y.2]) s.W ∧ (Instr.loadAt 96 (.pointer (some ⟨g, k * 2, none⟩))).run Tryd.prog s.W = .ok (.agg #[.int .i64 x.1, .int .i64 x.2]) s.W := fun s => by
          obtain ⟨A', c', hv, hs⟩ := Rs.of_owns s.ok.own hlen
          cases hv
          have h1 := hs.load rfl j hjn
          have h2 := hs.load rfl k hkn
          rw [Nat.zero_add] at h1 h2
          rw [hy] at h1
          rw [hx] at h2
          exact ⟨h1, h2⟩
        have Hld := Lib.hid hld
        have Hst := Lib.hid hst
        have Hlen := Lib.hid hlen
        have Hsum := Lib.hid hsum
        have hw1 : (0 : Int) ≤ (j : Int) := by omega
        have hC0 : RvC base g n c l w wr.drew := ⟨owns_step hC.own (Below.refl _ _).drew, grown_drew hC.grow⟩
        clear hll hx hy hld hst hlen hji hsum hC
        go_wp2_with fail
        refine wp_region_begin (fun _ => True) (by kernel_rfl) trivial fun _ => ?_
        generalize wr.drew = W0 at hC0 ⊢
        refine wpAnyH_pre (f := 6) (by kernel_rfl) #[true, true, true, true, true, true, true, false, true, true, true, false, false, false, false, false] [(0, true), (1, true), (2, true), (3, true), (4, true), (5, true), (6, true), (8, true), (9, true), (10, true)] _ _ _ (by kernel_rfl) trivial ?_
        simp only [List.map_cons, List.map_nil, Array.getD_eq_getD_getElem?, List.getElem?_toArray, List.getElem?_cons_succ, List.getElem?_cons_zero, Option.getD_some]
        refine wpMix_s (fun K hK => ?_)
        go_simp
        refine hK _ ?_
        clear hK K
        refine wpMix_s (fun K hK => ?_)
        go_simp
        refine hK _ ?_
        clear hK K
        refine wpMix_s (fun K hK => ?_)
        go_simp
        refine hK _ ?_
        clear hK K
        refine wpMix_s (fun K hK => ?_)
        go_simp
        refine hK _ ?_
        clear hK K
        refine wpMix_s (fun K hK => ?_)
        go_simp
        refine hK _ ?_
        clear hK K
        refine wpMix_s (fun K hK => ?_)
        go_simp
        refine hK _ ?_
        clear hK K
        refine wpMix_s (fun K hK => ?_)
        go_simp
        refine hK _ ?_
        clear hK K
        refine wpMix_s (fun K hK => ?_)
        go_simp
        refine hK _ ?_
        clear hK K
        refine wpMix_s (fun K hK => ?_)
        go_simp
        refine hK _ ?_
        clear hK K
        refine wpMix_s (fun K hK => ?_)
        go_simp
        refine hK _ ?_
        clear hK K
        refine wpMix_nil ?_
        intro _
        refine wpAnyH_shared (T := Unit) 4 #[true, true, true, true, true, true, true, true, true, true, true, true, false, false, false, false] (fun _ => [(21, .agg #[.int .i64 y.1, .int .i64 y.2]), (25, .agg #[.int .i64 x.1, .int .i64 x.2])]) (fun _ W => RvC base g n c l w W) ?tail ?head
        case head =>
          intro key
          simp only [List.foldl_cons, List.foldl_nil, Act.put, List.setIfInBounds_toArray, List.set_cons_succ, List.set_cons_zero] at key
          refine wpAnyH_fork (f := 5) (i := 7) (j := 11) (by kernel_rfl) trivial ?_ ?_
          · simp only [Array.getD_eq_getD_getElem?, List.getElem?_toArray, List.getElem?_cons_succ, List.getElem?_cons_zero, Option.getD_some]
            refine wpMix_run (by kernel_rfl) (.agg #[.int .i64 y.1, .int .i64 y.2]) W0 (run_load_op 96 (.tmp 20) rfl g (j * 2) rfl _ (Hld.out ⟨W0, hC0⟩).1) trivial ?_
            simp only [Act.put]
            refine wpMix_nil ?_
            intro _
            show wpAnyH _ _ _ _ _ _ #[true, true, true, true, true, true, true, true, true, true, true, false, false, false, false, false] _ _
            refine wpAnyH_pre (f := 4) (by kernel_rfl) #[true, true, true, true, true, true, true, true, true, true, true, true, false, false, false, false] [(11, false)] _ _ _ (by kernel_rfl) trivial ?_
            simp only [List.map_cons, List.map_nil, Array.getD_eq_getD_getElem?, List.getElem?_toArray, List.getElem?_cons_succ, List.getElem?_cons_zero, Option.getD_some]
            refine wpMix_run (by kernel_rfl) (.agg #[.int .i64 x.1, .int .i64 x.2]) W0 (run_load_op 96 (.tmp 24) rfl g (k * 2) rfl _ (Hld.out ⟨W0, hC0⟩).2) trivial ?_
            simp only [Act.put]
            refine wpMix_nil ?_
            intro _
            exact key () _ hC0
          · simp only [Array.getD_eq_getD_getElem?, List.getElem?_toArray, List.getElem?_cons_succ, List.getElem?_cons_zero, Option.getD_some]
            refine wpMix_run (by kernel_rfl) (.agg #[.int .i64 x.1, .int .i64 x.2]) W0 (run_load_op 96 (.tmp 24) rfl g (k * 2) rfl _ (Hld.out ⟨W0, hC0⟩).2) trivial ?_
            simp only [Act.put]
            refine wpMix_nil ?_
            intro _
            show wpAnyH _ _ _ _ _ _ #[true, true, true, true, true, true, true, false, true, true, true, true, false, false, false, false] _ _
            refine wpAnyH_pre (f := 4) (by kernel_rfl) #[true, true, true, true, true, true, true, true, true, true, true, true, false, false, false, false] [(7, false)] _ _ _ (by kernel_rfl) trivial ?_
            simp only [List.map_cons, List.map_nil, Array.getD_eq_getD_getElem?, List.getElem?_toArray, List.getElem?_cons_succ, List.getElem?_cons_zero, Option.getD_some]
            refine wpMix_run (by kernel_rfl) (.agg #[.int .i64 y.1, .int .i64 y.2]) W0 (run_load_op 96 (.tmp 20) rfl g (j * 2) rfl _ (Hld.out ⟨W0, hC0⟩).1) trivial ?_
            simp only [Act.put]
            refine wpMix_nil ?_
            intro _
            exact key () _ hC0
        case tail =>
          clear hC0
          rintro ⟨⟩ W3 hC3
          simp only [List.foldl_cons, List.foldl_nil, Act.put, List.setIfInBounds_toArray, List.set_cons_succ, List.set_cons_zero]
          refine wpAnyH_pre (f := 0) (by kernel_rfl) #[true, true, true, true, true, true, true, true, true, true, true, true, true, true, true, true] [(12, true), (13, false), (14, true), (15, false)] _ _ _ (by kernel_rfl) trivial ?_
          simp only [List.map_cons, List.map_nil, Array.getD_eq_getD_getElem?, List.getElem?_toArray, List.getElem?_cons_succ, List.getElem?_cons_zero, Option.getD_some]
          refine wpMix_s (fun K hK => ?_)
          go_simp
          refine hK _ ?_
          clear hK K
          obtain ⟨cur, hb1, hs1, hbg, ho1⟩ := owns_put hC3.own k hkn [.int .i64 y.1, .int .i64 y.2] rfl
          rw [show ([.int .i64 y.1, .int .i64 y.2] : List Value) = rcell y from rfl, rcells_set l k y (by rw [Hlen.out]; exact hkn)] at ho1
          have hg1 := grown_setRow hC3.grow (cur.toList.take (k * 2) ++ rcell y ++ cur.toList.drop (k * 2 + 2)).toArray
          refine wpMix_store_agg rfl 96 (.tmp 26) (.tmp 21) rfl 2 sizeR g (k * 2) #[.int .i64 y.1, .int .i64 y.2] rfl rfl rfl (by simp [Value.oneCell']) 96 _ hb1 hs1 trivial ?_
          simp only [Act.put]
          refine (mix_world (S := fun _ => True) (RvC base g n c (l.set k y) w) ⟨ho1, hg1⟩ (fun _ _ => trivial) ?_).2
          clear hb1 ho1 hg1 hC3
          intro W4 hC4
          refine wpMix_s (fun K hK => ?_)
          go_simp
          refine hK _ ?_
          clear hK K
          obtain ⟨cur2, hb2, hs2, -, ho2⟩ := owns_put hC4.own j hjn [.int .i64 x.1, .int .i64 x.2] rfl
          rw [show ([.int .i64 x.1, .int .i64 x.2] : List Value) = rcell x from rfl, rcells_set (l.set k y) j x (by rw [List.length_set, Hlen.out]; exact hjn), Hst.out] at ho2
          have hg2 := grown_setRow hC4.grow (cur2.toList.take (j * 2) ++ rcell x ++ cur2.toList.drop (j * 2 + 2)).toArray
          refine wpMix_store_agg rfl 96 (.tmp 27) (.tmp 25) rfl 2 sizeR g (j * 2) #[.int .i64 x.1, .int .i64 x.2] rfl rfl rfl (by simp [Value.oneCell']) 96 _ hb2 hs2 trivial ?_
          simp only [Act.put]
          refine (mix_world (S := fun _ => True) (RvC base g n c (revK os (k + 1)) w) ⟨ho2, hg2⟩ (fun _ _ => trivial) ?_).2
          clear hb2 ho2 hg2 hC4
          intro W5 hC5
          refine wpMix_nil ?_
          intro _
          refine wpAnyH_end (by kernel_rfl) ?_
          go_wp2_with fail
          go_roundw
          case rel => exact ⟨k + 1, (j : Int) - 1, by have := Hsum.out; omega, by have := Hsum.out; omega, by go_num, rfl, hC5⟩
          case measure => simp [intOf]; omega
      · have hend := revK_end os k (by rw [Hl.out]; omega)
        have ho := hC.own
        rw [hend] at ho
        have hg := hC.grow
        clear hend hji hC
        go_wp2_with fail
        go_end0
        exact ⟨⟨_, rfl⟩, ho, hg⟩
end Go.Proofs.YtfhmjgkcpcnkbaaDoor
/- math/bits.Len64, by the shelf's contract. -/
namespace Go.Proofs.YtfhmjgkcpcnkbaaDoor
open Go Go.RowKit Go.Shelf

def len64_ren : Go.Shelf.Ren := ⟨fun | 129 => 88 | n => n, fun | 53 => 134 | 3 => 3 | 4 => 4 | 46 => 151 | 5 => 5 | 9 => 9 | n => n, fun | n => n⟩
theorem len64_lays : Go.Proofs.Lays.n129 Tryd.prog len64_ren := {
  mixed := by kernel_rfl
  f129 := Tryd.func88.trans (congrArg some (by kernel_rfl))
  t3 := Tryd.underlying3
  a3 := Tryd.isAgg3
  z3 := Tryd.sizeOf3
  v3 := Tryd.zeroValue3
  t4 := Tryd.underlying4
  a4 := Tryd.isAgg4
  z4 := Tryd.sizeOf4
  v4 := Tryd.zeroValue4
  t5 := Tryd.underlying5
  a5 := Tryd.isAgg5
  z5 := Tryd.sizeOf5
  v5 := Tryd.zeroValue5
  t9 := Tryd.underlying9
  a9 := Tryd.isAgg9
  z9 := Tryd.sizeOf9
  v9 := Tryd.zeroValue9
  t46 := Tryd.underlying151
  a46 := Tryd.isAgg151
  z46 := Tryd.sizeOf151
  v46 := Tryd.zeroValue151
  t53 := Tryd.underlying134
  a53 := Tryd.isAgg134
  z53 := Tryd.sizeOf134
  v53 := Tryd.zeroValue134 }
theorem bitLenAux_log2 : ∀ (f x : Nat), 0 < x → x < 2 ^ f → Lib.bitLenAux f x = x.log2 + 1
  | 0, x, h0, h => by simp at h; omega
  | f + 1, x, h0, h => by
    rw [Lib.bitLenAux, if_neg (by omega)]
    by_cases h2 : 2 ≤ x
    · rw [bitLenAux_log2 f (x / 2) (by omega) (by rw [Nat.pow_succ] at h; omega), Nat.log2_def x, if_pos h2]; omega
    · obtain rfl : x = 1 := by omega
      have : ∀ f, Lib.bitLenAux f 0 = 0 := fun f => by cases f <;> simp [Lib.bitLenAux]
      rw [show 1 / 2 = 0 from rfl, this]; rfl
theorem len64_any (x : Nat) (w : World) (h0 : 0 < x) (h1 : x < 2 ^ 64) :
    Calls Tryd.prog 88 #[.int .u64 (x : Int)] w fun e w' => e = .returned (.int .i64 ((x.log2 : Nat) + 1 : Int)) ∧ w = w' := by
  refine (Any.bits_Len64 len64_lays (x : Int) w (by omega) (by omega)).mono fun e w' ⟨he, hw⟩ => ⟨?_, hw.symm⟩
  rw [he, Int.toNat_natCast, Lib.bitLen, bitLenAux_log2 64 x h0 h1]
  simp
end Go.Proofs.YtfhmjgkcpcnkbaaDoor
/- The plain law of layer 9: splits, roots, whole stretches, paths, steps. No program in sight. -/
namespace Go.Proofs.YtfhmjgkcpcnkbaaDoor

/-- where a list of n is split -/
def splitN (n : Nat) : Nat := if n < 2 then 0 else 2 ^ Nat.log2 (n - 1)
theorem splitN_small (n : Nat) (h : n < 2) : splitN n = 0 := if_pos h
theorem splitN_eq (n j : Nat) (h1 : 2 ^ j < n) (h2 : n ≤ 2 ^ (j + 1)) : splitN n = 2 ^ j := by
  have hp : 0 < 2 ^ j := Nat.two_pow_pos j
  have : (n - 1).log2 = j := (Nat.log2_eq_iff (by omega)).2 ⟨by omega, by omega⟩
  rw [splitN, if_neg (by omega), this]
theorem splitN_pow (n : Nat) (h : 2 ≤ n) : ∃ j, splitN n = 2 ^ j ∧ 2 ^ j < n ∧ n ≤ 2 ^ (j + 1) := by
  refine ⟨(n - 1).log2, by rw [splitN, if_neg (by omega)], ?_, ?_⟩
  · have := Nat.log2_self_le (n := n - 1) (by omega); omega
  · have := Nat.lt_log2_self (n := n - 1); omega
theorem splitN_lt (n : Nat) (h : 2 ≤ n) : splitN n < n := by obtain ⟨j, h1, h2, _⟩ := splitN_pow n h; omega
theorem splitN_pos (n : Nat) (h : 2 ≤ n) : 1 ≤ splitN n := by obtain ⟨j, h1, _, _⟩ := splitN_pow n h; have := Nat.two_pow_pos j; omega
theorem splitN_half (n : Nat) (h : 2 ≤ n) : n ≤ 2 * splitN n := by obtain ⟨j, h1, _, h3⟩ := splitN_pow n h; rw [Nat.pow_succ] at h3; omega
theorem splitN_le (n : Nat) : splitN n ≤ n := by
  by_cases h : 2 ≤ n
  · have := splitN_lt n h; omega
  · rw [splitN_small n (by omega)]; omega

/-- the root of a list, by whatever is told for none and for a node -/
def rootF (z : List UInt8) (node : List UInt8 → List UInt8 → List UInt8) : Nat → List (List UInt8) → List UInt8
  | 0, _ => z
  | f + 1, hs => if hs.length = 0 then z else if hs.length = 1 then hs.headD z else node (rootF z node f (hs.take (splitN hs.length))) (rootF z node f (hs.drop (splitN hs.length)))
theorem rootF_enough (z : List UInt8) (node : List UInt8 → List UInt8 → List UInt8) : ∀ (f g : Nat) (hs : List (List UInt8)), hs.length ≤ f → hs.length ≤ g → rootF z node f hs = rootF z node g hs
  | 0, 0, _, _, _ => rfl
  | 0, g + 1, hs, h, _ => by
    have : hs.length = 0 := by omega
    simp [rootF, this]
  | f + 1, 0, hs, _, h => by
    have : hs.length = 0 := by omega
    simp [rootF, this]
  | f + 1, g + 1, hs, h1, h2 => by
    simp only [rootF]
    split
    · rfl
    · split
      · rfl
      · have hl := splitN_lt hs.length (by omega)
        have hp := splitN_pos hs.length (by omega)
        rw [rootF_enough z node f g _ (by rw [List.length_take]; omega) (by rw [List.length_take]; omega), rootF_enough z node f g _ (by rw [List.length_drop]; omega) (by rw [List.length_drop]; omega)]

/-- a path's stretches -/
def pathF : Nat → Nat → Nat → Nat → List (Nat × Nat)
  | 0, _, _, _ => []
  | f + 1, i, a, b => if b - a < 2 then [] else if i < a + splitN (b - a) then pathF f i a (a + splitN (b - a)) ++ [(a + splitN (b - a), b)] else pathF f i (a + splitN (b - a)) b ++ [(a, a + splitN (b - a))]
theorem pathF_enough : ∀ (f g i a b : Nat), b - a ≤ f → b - a ≤ g → pathF f i a b = pathF g i a b
  | 0, 0, _, _, _, _, _ => rfl
  | 0, g + 1, i, a, b, h, _ => by simp [pathF, show b - a < 2 by omega]
  | f + 1, 0, i, a, b, _, h => by simp [pathF, show b - a < 2 by omega]
  | f + 1, g + 1, i, a, b, h1, h2 => by
    simp only [pathF]
    split
    · rfl
    · have hl := splitN_lt (b - a) (by omega)
      have hp := splitN_pos (b - a) (by omega)
      rw [pathF_enough f g i a (a + splitN (b - a)) (by omega) (by omega), pathF_enough f g i (a + splitN (b - a)) b (by omega) (by omega)]
def pathL (i a b : Nat) : List (Nat × Nat) := pathF (b - a) i a b
theorem pathL_small (i a b : Nat) (h : b - a < 2) : pathL i a b = [] := by
  unfold pathL
  rw [pathF_enough (b - a) (b - a + 1) i a b (Nat.le_refl _) (by omega)]
  simp [pathF, h]
theorem pathL_left (i a b : Nat) (h : 2 ≤ b - a) (hi : i < a + splitN (b - a)) : pathL i a b = pathL i a (a + splitN (b - a)) ++ [(a + splitN (b - a), b)] := by
  have hl := splitN_lt (b - a) h
  unfold pathL
  rw [pathF_enough (b - a) (b - a + 1) i a b (Nat.le_refl _) (by omega)]
  rw [pathF, if_neg (by omega), if_pos hi, pathF_enough (b - a) (a + splitN (b - a) - a) i a _ (by omega) (by omega)]
theorem pathL_right (i a b : Nat) (h : 2 ≤ b - a) (hi : ¬ i < a + splitN (b - a)) : pathL i a b = pathL i (a + splitN (b - a)) b ++ [(a, a + splitN (b - a))] := by
  have hp := splitN_pos (b - a) h
  unfold pathL
  rw [pathF_enough (b - a) (b - a + 1) i a b (Nat.le_refl _) (by omega)]
  rw [pathF, if_neg (by omega), if_neg hi, pathF_enough (b - a) (b - (a + splitN (b - a))) i _ b (by omega) (by omega)]

/-- steps: of m in the stretch from a of n -/
def stepsF : Nat → Nat → Nat → Nat → Bool → List (Nat × Nat)
  | 0, _, _, _, _ => []
  | f + 1, m, a, n, whole =>
    if m = n then (if whole then [] else [(a, a + n)])
    else if m ≤ splitN n then stepsF f m a (splitN n) whole ++ [(a + splitN n, a + n)] else stepsF f (m - splitN n) (a + splitN n) (n - splitN n) false ++ [(a, a + splitN n)]
theorem stepsF_enough : ∀ (f g m a n : Nat) (whole : Bool), 1 ≤ m → m ≤ n → n ≤ f → n ≤ g → stepsF f m a n whole = stepsF g m a n whole
  | 0, _, _, _, _, _, h1, h2, h3, _ => by omega
  | _ + 1, 0, _, _, _, _, h1, h2, _, h4 => by omega
  | f + 1, g + 1, m, a, n, whole, h1, h2, h3, h4 => by
    simp only [stepsF]
    split
    · rfl
    · have hl := splitN_lt n (by omega)
      have hp := splitN_pos n (by omega)
      split
      · rw [stepsF_enough f g m a (splitN n) whole h1 (by assumption) (by omega) (by omega)]
      · rw [stepsF_enough f g (m - splitN n) (a + splitN n) (n - splitN n) false (by omega) (by omega) (by omega) (by omega)]
def stepsL (m a n : Nat) (whole : Bool) : List (Nat × Nat) := stepsF n m a n whole
theorem stepsL_eq (m a : Nat) (whole : Bool) (h : 1 ≤ m) : stepsL m a m whole = if whole then [] else [(a, a + m)] := by
  unfold stepsL
  obtain ⟨k, rfl⟩ : ∃ k, m = k + 1 := ⟨m - 1, by omega⟩
  simp [stepsF]
theorem stepsL_left (m a n : Nat) (whole : Bool) (h : 1 ≤ m) (hn : m < n) (hk : m ≤ splitN n) : stepsL m a n whole = stepsL m a (splitN n) whole ++ [(a + splitN n, a + n)] := by
  have hl := splitN_lt n (by omega)
  unfold stepsL
  rw [stepsF_enough n (n + 1) m a n whole h (by omega) (Nat.le_refl _) (by omega), stepsF, if_neg (by omega), if_pos hk, stepsF_enough n (splitN n) m a _ whole h hk (by omega) (Nat.le_refl _)]
theorem stepsL_right (m a n : Nat) (whole : Bool) (h : 1 ≤ m) (hn : m < n) (hk : ¬ m ≤ splitN n) : stepsL m a n whole = stepsL (m - splitN n) (a + splitN n) (n - splitN n) false ++ [(a, a + splitN n)] := by
  have hp := splitN_pos n (by omega)
  unfold stepsL
  rw [stepsF_enough n (n + 1) m a n whole h (by omega) (Nat.le_refl _) (by omega), stepsF, if_neg (by omega), if_neg hk, stepsF_enough n (n - splitN n) (m - splitN n) _ _ false (by omega) (by omega) (by omega) (Nat.le_refl _)]

/-- the whole stretches from a on -/
def wholeF : Nat → Nat → Nat → List (Nat × Nat)
  | 0, _, _ => []
  | f + 1, a, n => if n = 0 then [] else (a, a + 2 ^ n.log2) :: wholeF f (a + 2 ^ n.log2) (n - 2 ^ n.log2)
theorem pow_log2_le (n : Nat) (h : n ≠ 0) : 2 ^ n.log2 ≤ n := Nat.log2_self_le h
theorem wholeF_enough : ∀ (f g a n : Nat), n ≤ f → n ≤ g → wholeF f a n = wholeF g a n
  | 0, 0, _, _, _, _ => rfl
  | 0, g + 1, a, n, h, _ => by simp [wholeF, show n = 0 by omega]
  | f + 1, 0, a, n, _, h => by simp [wholeF, show n = 0 by omega]
  | f + 1, g + 1, a, n, h1, h2 => by
    simp only [wholeF]
    split
    · rfl
    · have := Nat.two_pow_pos n.log2
      rw [wholeF_enough f g _ (n - 2 ^ n.log2) (by omega) (by omega)]
def wholeL (a n : Nat) : List (Nat × Nat) := wholeF n a n
theorem wholeL_zero (a : Nat) : wholeL a 0 = [] := rfl
theorem wholeL_more (a n : Nat) (h : n ≠ 0) : wholeL a n = (a, a + 2 ^ n.log2) :: wholeL (a + 2 ^ n.log2) (n - 2 ^ n.log2) := by
  have := Nat.two_pow_pos n.log2
  unfold wholeL
  rw [wholeF_enough n (n + 1) a n (Nat.le_refl _) (by omega), wholeF, if_neg h, wholeF_enough n (n - 2 ^ n.log2) _ _ (by omega) (Nat.le_refl _)]
end Go.Proofs.YtfhmjgkcpcnkbaaDoor
/- tree.Split, notaryref09.Split. -/
namespace Go.Proofs.YtfhmjgkcpcnkbaaDoor
open Go Go.RowKit

theorem log2_lt63 (x : Nat) (h : x < 2 ^ 63) (h0 : 0 < x) : x.log2 < 63 := (Nat.log2_lt (by omega)).2 h

theorem pow63_lt (j k : Nat) (h : j < k) (hk : k ≤ 63) : 2 ^ j < 9223372036854775808 := by
  have : 2 ^ j < 2 ^ 63 := Nat.pow_lt_pow_right (by decide) (by omega)
  simpa using this
set_option maxHeartbeats 400000 in
theorem tsplit_any (n : Int) (w : World) (hn : n ≤ 9223372036854775807) :
    Calls Tryd.prog 71 #[.int .i64 n] w fun e w' => e = .returned (.int .i64 (splitN n.toNat : Int)) ∧ w = w' := by
  by_cases h2 : n < 2
  · rw [splitN_small _ (by omega)]
    go_enter Tryd.func71, Tryd.ntmps71
    go_wp2_with fail
    go_ret
    exact ⟨rfl, rfl⟩
  · obtain ⟨m, rfl⟩ : ∃ m : Nat, n = (m : Int) := ⟨n.toNat, by omega⟩
    obtain ⟨j, hj⟩ : ∃ j, (m - 1).log2 = j := ⟨_, rfl⟩
    have hj63 : j < 63 := by rw [← hj]; exact log2_lt63 _ (by omega) (by omega)
    have hs : splitN m = 2 ^ j := by rw [splitN, if_neg (by omega), hj]
    have hl := fun w => len64_any (m - 1) w (by omega) (by omega)
    rw [hj] at hl
    rw [show (((m - 1 : Nat)) : Int) = (m : Int) - 1 by omega] at hl
    rw [Int.toNat_natCast, hs]
    have hw1 : IntKind.i64.wrap ((m : Int) - 1) = (m : Int) - 1 := by rw [IntKind.wrap_i64]; omega
    have hw2 : IntKind.u64.wrap ((m : Int) - 1) = (m : Int) - 1 := by rw [IntKind.wrap_u64]; omega
    have Hl := Lib.hid hl
    have Hs := Lib.hid hs
    have Hj := Lib.hid hj
    clear hl hs hj
    go_enter Tryd.func71, Tryd.ntmps71
    go_wp2_with (go_at_call 88; refine (Hl.out _).mono ?_; rintro e w' ⟨rfl, rfl⟩)
    go_ret
    have hp := pow63_lt j 63 hj63 (Nat.le_refl _)
    have e : ((2 ^ j : Nat) : Int) = (2 : Int) ^ j := by simp
    refine ⟨?_, rfl⟩
    show Ending.returned (.int .i64 (wrap64 ((2 : Int) ^ j))) = _
    rw [← e]
    generalize 2 ^ j = k at hp ⊢
    rw [IntWalk.wrap64_in _ (by omega)]

end Go.Proofs.YtfhmjgkcpcnkbaaDoor
/- notaryref03.Sum; notarylaw03.kept. -/
namespace Go.Proofs.YtfhmjgkcpcnkbaaDoor
open Go.RowKit

theorem Und.take_ok' (b : List UInt8) : (Und.new.take b).ok := Und.take_ok _ _ Und.new_ok

set_option maxHeartbeats 1000000 in
set_option maxRecDepth 100000 in
theorem rsum_any (b : List UInt8) (A : Option Addr) (n c : Nat) (w : World) (h : Sl w (fun _ => True) A n c b) (hmax : n ≤ 1099511627776) :
    Calls Tryd.prog 63 #[.slice A n c] w fun e w' => e = .returned (.agg ((sha256 b).map B).toArray) ∧ Below w.heap.size w w' := by
  have hlen := h.len
  obtain ⟨v, hv⟩ : ∃ v, Und.new.take b = v := ⟨_, rfl⟩
  have hvl : v.len = n := by rw [← hv, Und.take_len, ← hlen]; exact Nat.zero_add _
  have hvok : v.ok := by rw [← hv]; exact Und.take_ok' b
  have hvs : v.sum = sha256 b := by rw [← hv]; rfl
  have htk : ∀ w, Sl w (fun _ => True) A n c b → Calls Tryd.prog 83 #[undV Und.new (.slice none 0 0), .slice A n c] w fun e w' => ∃ A' n' c', e = .returned (undV v (.slice A' n' c')) ∧ Sl w' (fun _ => True) A' n' c' v.rest ∧ Below w.heap.size w w' := fun w h => by
    rw [← hv]
    exact rtake_any Und.new b none 0 0 A n c w Sl.nil h (by omega) (by have : Und.new.len = 0 := rfl; omega)
  obtain ⟨x0, hx0⟩ : ∃ x0, undV Und.new (.slice none 0 0) = x0 := ⟨_, rfl⟩
  have hnew := fun w => rnew_any w
  rw [hx0] at htk hnew
  obtain ⟨r, hr⟩ : ∃ r, sha256 b = r := ⟨_, rfl⟩
  rw [hr] at hvs ⊢
  have hrl : r.length = 32 := by rw [← hr]; exact length_sha256 _
  have Hrl := Lib.hid hrl
  have Hvs := Lib.hid hvs
  have Hvl := Lib.hid hvl
  have Htk := Lib.hid htk
  have Hnew := Lib.hid hnew
  clear hv hx0 hr hrl hvs hvl htk hnew hlen
  go_enter Tryd.func63, Tryd.ntmps63
  go_wp2_with (first
    | (go_at_call 82; refine (Hnew.out _).mono ?_; rintro e w1 ⟨rfl, hb1⟩; have k1 := (Blk.new w _ _).below hb1 (by simp); have hB1 := ((Below.refl _ _).alloc (Nat.le_refl _) _).trans (hb1.mono (by simp)))
    | (go_at_call 83; refine (Htk.out _ (h.step hB1)).mono ?_; rintro e w2 ⟨A2, n2, c2, rfl, hs2, hb2⟩; have k2 := k1.below hb2 k1.lt; have hB2 := hB1.trans (hb2.mono hB1.size))
    | (go_at_call 84; refine (rend_any v A2 n2 c2 _ hs2 hvok (by rw [Hvl.out]; omega)).mono ?_; rintro e w3 ⟨rfl, hb3⟩; have k3 := k2.below hb3 k2.lt; have hB3 := hB2.trans (hb3.mono hB2.size); rw [Hvs.out])
    | ((with_reducible show wpList _ _ _ (⟨none, .store _ _ _, _, _, _, _⟩ :: _) _ _); refine wpList_store_blk rfl 48 (.tmp 2) (.tmp 6) rfl 32 size26 w.heap.size (r.map B).toArray rfl rfl (by simp [Hrl.out]) (oneCell_B _) 48 _ k3 (by rfl) ?_; simp only [Act.put]))
  refine bodyPost_ret (results_cell_row rfl _ _ w.heap.size 48 (r.map B).toArray (0, 0) _ rfl (k3.setRow_ _) Tryd.underlying48 rfl (by rw [show (r.map B).toArray.size = 32 by simp [Hrl.out]]; exact info26)) rfl ⟨rfl, ?_⟩
  exact below_setRow hB3 (Nat.le_refl _) _

/-- lent bytes: read, and the byte behind them -/
structure LentB (w : World) (X : Nat → Prop) (g n c : Nat) (l : List UInt8) : Prop where
  sl : Sl w X (some ⟨g, 0, none⟩) n c l
  lt : n < c
  mark : w.cell? ⟨g, n, none⟩ = some (.int .u8 165)
  x : X g
  in_ : g < w.heap.size
theorem LentB.step {w w' : World} {X : Nat → Prop} {g n c : Nat} {l : List UInt8} (h : LentB w X g n c l) (hb : Below w.heap.size w w') : LentB w' X g n c l :=
  ⟨h.sl.step hb, h.lt, by rw [hb.cell (p := ⟨g, n, none⟩) h.in_]; exact h.mark, h.x, Nat.lt_of_lt_of_le h.in_ hb.size⟩
theorem LentB.grown {w w' : World} {X : Nat → Prop} {g n c : Nat} {l : List UInt8} {row : Option Nat} (h : LentB w X g n c l) (hg : w.grownBy w' row) (hX : ∀ b, b < w.heap.size → X b → some b ≠ row) : LentB w' X g n c l :=
  ⟨h.sl.grown hg hX, h.lt, by rw [World.cell?_of_block (w := w) (hg.block g h.in_ (hX g h.in_ h.x))]; exact h.mark, h.x, Nat.lt_of_lt_of_le h.in_ hg.size⟩
theorem LentB.of_own {w : World} {X : Nat → Prop} {g c : Nat} {l : List UInt8} {cur : Array Value} (h : Own w g c (l ++ [0xa5]) cur) (hX : X g) : LentB w X g l.length c l := by
  have hr := h.room
  rw [List.length_append] at hr
  simp only [List.length_singleton] at hr
  have hget : ∀ j u, ((l ++ [0xa5]).map B)[j]? = some u → w.cell? ⟨g, j, none⟩ = some u := fun j u hu => by
    rw [h.blk.cell, ← Array.getElem?_toList]
    rw [← h.pre, List.getElem?_take] at hu
    split at hu
    · exact hu
    · cases hu
  refine ⟨⟨fun _ => ⟨g, 0, rfl, h.blk.lt, hX, fun j u hu => ?_⟩, rfl, by omega, by simp, h.max⟩, by omega, ?_, hX, h.blk.lt⟩
  · rw [Nat.zero_add]
    refine hget j u ?_
    rw [List.map_append, List.getElem?_append_left (List.getElem?_eq_some_iff.1 hu).1]
    exact hu
  · refine hget _ _ ?_
    rw [List.map_append, List.getElem?_append_right (by simp)]
    simp
end Go.Proofs.YtfhmjgkcpcnkbaaDoor
/- notaryref08.Of, Leaf, Node; notarylaw08.lent, kept, long, num. -/
namespace Go.Proofs.YtfhmjgkcpcnkbaaDoor
open Go.RowKit

set_option maxHeartbeats 400000 in
set_option maxRecDepth 100000 in
theorem hrof_any (b : List UInt8) (A : Option Addr) (n c : Nat) (w : World) (h : Sl w (fun _ => True) A n c b) (hmax : n ≤ 1099511627776) :
    Calls Tryd.prog 43 #[.slice A n c] w fun e w' => e = .returned (.agg ((sha256 b).map B).toArray) ∧ Below w.heap.size w w' := by
  obtain ⟨r, hr⟩ : ∃ r, sha256 b = r := ⟨_, rfl⟩
  have hrl : r.length = 32 := by rw [← hr]; exact length_sha256 _
  have hs := fun o => rsum_any b A n c (w.alloc o) (h.alloc o) hmax
  rw [hr] at hs ⊢
  have Hs := Lib.hid hs
  have Hrl := Lib.hid hrl
  clear hs hrl hr h
  go_enter Tryd.func43, Tryd.ntmps43
  go_wp2_with (first
    | (go_at_call 63; refine (Hs.out _).mono ?_; rintro e w1 ⟨rfl, hb1⟩; have k1 := (Blk.new w _ _).below hb1 (by simp); have B1 := ((Below.refl w.heap.size w).alloc (Nat.le_refl _) _).trans (hb1.mono (by simp)))
    | ((with_reducible show wpList _ _ _ (⟨none, .store _ _ _, _, _, _, _⟩ :: _) _ _); refine wpList_store_blk rfl 48 (.tmp 2) (.tmp 4) rfl 32 size26 w.heap.size (r.map B).toArray rfl rfl (by simp [Hrl.out]) (oneCell_B _) 48 _ k1 (by rfl) ?_; simp only [Act.put]))
  refine bodyPost_ret (results_cell_row rfl _ _ w.heap.size 48 (r.map B).toArray (0, 0) _ rfl (k1.setRow_ _) Tryd.underlying48 rfl (by rw [show (r.map B).toArray.size = 32 by simp [Hrl.out]]; exact info26)) rfl ⟨rfl, ?_⟩
  exact below_setRow B1 (Nat.le_refl _) _

/-- in the loops of Node -/
structure RnC (w : World) (lv rv zs : Array Value) (v : Value) (xs : List UInt8) (W : World) : Prop where
  l : Blk W w.heap.size 48 lv
  r : Blk W (w.heap.size + 1) 48 rv
  z : Blk W (w.heap.size + 2) 48 zs
  own : W.ownsRow (w.heap.size + 3) 5 1 v xs.length (xs.map B)
  bel : Below w.heap.size w W
  big : w.heap.size + 2 < W.heap.size
theorem RnC.app {w W : World} {lv rv zs : Array Value} {v : Value} {xs : List UInt8} (h : RnC w lv rv zs v xs W) (x : UInt8) (hl : xs.length ≤ 100) : ∃ v' W', (Builtin.append_ #[104, 104] 104 #[v, .slice (some ⟨W.heap.size, 0, none⟩) 1 1]).run Tryd.prog (W.alloc (.cells #[B x] 5)) = .ok v' W' ∧ RnC w lv rv zs v' (xs ++ [x]) W' := by
  have hb := h.big
  obtain ⟨v', W', hr, ho, hg⟩ := append_sl (h.own.alloc (.cells ([x].map B).toArray 5)) (sl_lit W [x] 1 rfl (by decide)) (by omega) (by simp; omega)
  have hlt : ∀ k, v.ownBlock = some k → w.heap.size + 3 ≤ k := fun k hk => (h.own.lt k hk).1
  refine ⟨v', W', hr, (h.l.alloc _).grown hg fun e => ?_, (h.r.alloc _).grown hg fun e => ?_, (h.z.alloc _).grown hg fun e => ?_, ho, (h.bel.alloc h.bel.size _).grown hg (by simp; omega) fun k hk => ?_, by have := hg.size; simp at this; omega⟩
  · have := hlt _ e.symm; omega
  · have := hlt _ e.symm; omega
  · have := hlt _ e.symm; omega
  · have := hlt k hk; omega

set_option maxHeartbeats 1000000 in
set_option maxRecDepth 100000 in
theorem hrnode_any (l r : List UInt8) (w : World) (hl : l.length = 32) (hr : r.length = 32) :
    Calls Tryd.prog 45 #[.agg (l.map B).toArray, .agg (r.map B).toArray] w fun e w' => e = .returned (.agg ((hNode l r).map B).toArray) ∧ Below w.heap.size w w' := by
  obtain ⟨x, hx⟩ : ∃ x, hNode l r = x := ⟨_, rfl⟩
  have hxl : x.length = 32 := by rw [← hx]; exact length_hNode l r
  obtain ⟨zs, hzs⟩ : ∃ zs, zeroHash = zs := ⟨_, rfl⟩
  obtain ⟨lv, hlv⟩ : ∃ lv, (l.map B).toArray = lv := ⟨_, rfl⟩
  obtain ⟨rv, hrv⟩ : ∃ rv, (r.map B).toArray = rv := ⟨_, rfl⟩
  have hzl : zs.size = 32 := by rw [← hzs]; rfl
  rw [hx, hlv, hrv]
  have Hx := Lib.hid hx
  have Hxl := Lib.hid hxl
  have Hzs := Lib.hid hzs
  have Hlv := Lib.hid hlv
  have Hrv := Lib.hid hrv
  have Hl := Lib.hid hl
  have Hr := Lib.hid hr
  clear hx hxl hzs hlv hrv hl hr
  go_enter Tryd.func45, Tryd.ntmps45
  go_upto_region 1 with fail
  refine wp_world (fun W => Blk W w.heap.size 48 lv ∧ Blk W (w.heap.size + 1) 48 rv ∧ Blk W (w.heap.size + 2) 48 zs ∧ Below w.heap.size w W ∧ W.heap.size = w.heap.size + 3) ⟨?_, ?_, ?_, ?_, ?_⟩ ?_
  · exact ((Blk.new _ _ _).alloc _).alloc _
  · exact (Blk.new' _ _ _ _ (by simp)).alloc _
  · rw [← Hzs.out]; exact Blk.new' _ _ _ _ (by simp)
  · exact (((Below.refl _ _).alloc (Nat.le_refl _) _).alloc (by simp) _).alloc (by simp; omega) _
  · simp
  rintro W1 ⟨kl, kr, kz, B1, hW1⟩
  have HW := Lib.hid hW1
  clear hW1
  go_wp2_with fail
  go_loopw [5, 6] (fun s5 i wr => ∃ (v : Value) (k : Nat), v = s5 ∧ k ≤ 32 ∧ i = .int .i64 k ∧ RnC w lv rv zs v (1 :: l.take k) wr) (fun _ i => fun _ => 32 - (intOf i).toNat)
  case atStart =>
    refine ⟨_, 0, rfl, by omega, rfl, kl.alloc _, kr.alloc _, kz.alloc _, ?_, B1.alloc B1.size _, by have := HW.out; simp; omega⟩
    exact World.ownsRow_lit W1 #[.int .u8 1] 1 (by have := HW.out; omega) (by decide) rfl
  case round =>
    obtain ⟨v, k, rfl, hk, rfl, hC⟩ := hrel
    by_cases hlt : k < 32
    · obtain ⟨y, hy⟩ : ∃ y, l.getD k 0 = y := ⟨_, rfl⟩
      have cy : wr.cell? ⟨w.heap.size, k, none⟩ = some (B y) := by rw [hC.l.cell, ← Hlv.out, ← hy]; exact cellB l k (by rw [Hl.out]; exact hlt)
      obtain ⟨v2, w2, hr2, hC2⟩ := hC.app y (by rw [List.length_cons, List.length_take]; omega)
      have hsn : 1 :: l.take k ++ [y] = 1 :: l.take (k + 1) := by
        rw [List.take_succ_eq_append_getElem (by rw [Hl.out]; exact hlt), ← hy, List.getD_eq_getElem?_getD, List.getElem?_eq_getElem (by rw [Hl.out]; exact hlt)]; rfl
      rw [hsn] at hC2
      have Hr2 := Lib.hid hr2
      clear hr2 hsn hy hC
      go_wp2_with ((with_reducible show wpList _ _ _ (⟨some 18, .call _, _, _, _, _⟩ :: _) _ _); refine wpList_run rfl _ w2 (run_append_op (.tmp 13) (.tmp 17) 104 rfl _ _ rfl rfl Hr2.out) ?_; simp only [Act.put])
      go_roundw
      case rel => exact ⟨_, k + 1, rfl, by omega, by go_num, hC2⟩
      case measure => simp [intOf]; omega
    · obtain rfl : k = 32 := by omega
      rw [List.take_of_length_le (by rw [Hl.out]; omega)] at hC
      clear kl kr kz B1
      go_wp2_with fail
      go_loopw [5, 7] (fun s5 i wr => ∃ (v : Value) (k : Nat), v = s5 ∧ k ≤ 32 ∧ i = .int .i64 k ∧ RnC w lv rv zs v (1 :: (l ++ r.take k)) wr) (fun _ i => fun _ => 32 - (intOf i).toNat)
      case atStart => exact ⟨_, 0, rfl, by omega, rfl, by rw [List.take_zero, List.append_nil]; exact hC⟩
      case round =>
        clear hC
        obtain ⟨v, k, rfl, hk, rfl, hC⟩ := hrel
        by_cases hlt : k < 32
        · obtain ⟨y, hy⟩ : ∃ y, r.getD k 0 = y := ⟨_, rfl⟩
          have cy : wr.cell? ⟨w.heap.size + 1, k, none⟩ = some (B y) := by rw [hC.r.cell, ← Hrv.out, ← hy]; exact cellB r k (by rw [Hr.out]; exact hlt)
          obtain ⟨v2, w2, hr2, hC2⟩ := hC.app y (by rw [List.length_cons, List.length_append, List.length_take, Hl.out]; omega)
          have hsn : 1 :: (l ++ r.take k) ++ [y] = 1 :: (l ++ r.take (k + 1)) := by
            rw [List.take_succ_eq_append_getElem (by rw [Hr.out]; exact hlt), ← hy, List.getD_eq_getElem?_getD, List.getElem?_eq_getElem (by rw [Hr.out]; exact hlt)]; simp
          rw [hsn] at hC2
          have Hr2 := Lib.hid hr2
          clear hr2 hsn hy hC
          go_wp2_with ((with_reducible show wpList _ _ _ (⟨some 28, .call _, _, _, _, _⟩ :: _) _ _); refine wpList_run rfl _ w2 (run_append_op (.tmp 23) (.tmp 27) 104 rfl _ _ rfl rfl Hr2.out) ?_; simp only [Act.put])
          go_roundw
          case rel => ((repeat apply Exists.intro); exact ⟨⟨_, k + 1, rfl, by omega, by go_num, hC2⟩, rfl⟩)
          case measure => simp [intOf]; omega
        · obtain rfl : k = 32 := by omega
          rw [List.take_of_length_le (by rw [Hr.out]; omega)] at hC
          obtain ⟨A2, c2, rfl, hs2⟩ := owns_sl hC.own
          have hlen : (1 :: (l ++ r)).length = 65 := by rw [List.length_cons, List.length_append, Hl.out, Hr.out]
          rw [hlen] at hs2 ⊢
          have hof := hrof_any (1 :: (l ++ r)) A2 65 c2 wr hs2.all (by decide)
          rw [show sha256 (1 :: (l ++ r)) = x from Hx.out] at hof
          have kz2 := hC.z
          have B2 := hC.bel
          have Hof := Lib.hid hof
          clear hof hs2 hC hlen
          go_wp2_with (first
            | (go_at_call 43; refine Hof.out.mono ?_; rintro e w3 ⟨rfl, hb3⟩; have k3 := kz2.below hb3 kz2.lt; have B3 := B2.trans (hb3.mono B2.size))
            | ((with_reducible show wpList _ _ _ (⟨none, .store _ _ _, _, _, _, _⟩ :: _) _ _); refine wpList_store_blk rfl 48 (.tmp 4) (.tmp 30) rfl 32 size26 (w.heap.size + 2) (x.map B).toArray rfl rfl (by simp [Hxl.out]) (oneCell_B _) 48 _ k3 hzl ?_; simp only [Act.put]))
          refine bodyPost_ret (results_cell_row rfl _ _ (w.heap.size + 2) 48 (x.map B).toArray (0, 0) _ rfl (k3.setRow_ _) Tryd.underlying48 rfl (by rw [show (x.map B).toArray.size = 32 by simp [Hxl.out]]; exact info26)) rfl ⟨rfl, ?_⟩
          exact below_setRow B3 (by omega) _
end Go.Proofs.YtfhmjgkcpcnkbaaDoor
