/- slices.Reverse of hashes. -/
import Derived.Test.YtonidnfgneokbaaQd111
import Derived.Test.YtonidnfgneokbaaQd109
import Derived.Test.YtonidnfgneokbaaQd110
import Derived.Test.YtonidnfgneokbaaQd121
namespace Go.Proofs.Ytonidnfgneokbaa
open Go Go.RowKit

/-- k at either end have changed places -/
def revH (os : List (List UInt8)) (k : Nat) : List (List UInt8) := (List.range os.length).map fun p => os.getD (if p < k ∨ os.length ≤ p + k then os.length - 1 - p else p) []
theorem length_revH (os : List (List UInt8)) (k : Nat) : (revH os k).length = os.length := by simp [revH]
theorem revH_zero (os : List (List UInt8)) : revH os 0 = os := by
  apply List.ext_getElem
  · simp [revH]
  · intro i h1 h2
    simp only [revH, List.getElem_map, List.getElem_range]
    rw [if_neg (by omega), List.getD_eq_getElem?_getD, List.getElem?_eq_getElem h2]; rfl
theorem revH_getD (os : List (List UInt8)) (k p : Nat) (h : p < os.length) : (revH os k).getD p [] = os.getD (if p < k ∨ os.length ≤ p + k then os.length - 1 - p else p) [] := by
  rw [List.getD_eq_getElem?_getD, List.getElem?_eq_getElem (by rw [length_revH]; exact h)]
  simp [revH]
theorem revH_step (os : List (List UInt8)) (k j : Nat) (h : k < j) (hj : j + k + 1 = os.length) :
    ((revH os k).set k ((revH os k).getD j [])).set j ((revH os k).getD k []) = revH os (k + 1) := by
  rw [revH_getD os k j (by omega), revH_getD os k k (by omega), if_neg (by omega), if_neg (by omega)]
  apply List.ext_getElem
  · simp [revH]
  · intro i h1 h2
    have hi : i < os.length := by rw [length_revH] at h2; exact h2
    rw [List.getElem_set, List.getElem_set]
    simp only [revH, List.getElem_map, List.getElem_range]
    by_cases e1 : j = i
    · rw [if_pos e1, if_pos (by omega)]; congr 1; omega
    · rw [if_neg e1]
      by_cases e2 : k = i
      · rw [if_pos e2, if_pos (by omega)]; congr 1; omega
      · rw [if_neg e2]
        by_cases e3 : i < k ∨ os.length ≤ i + k
        · rw [if_pos e3, if_pos (by omega)]
        · rw [if_neg e3, if_neg (by omega)]
theorem revH_end (os : List (List UInt8)) (k : Nat) (h : os.length ≤ 2 * k + 1) : revH os k = os.reverse := by
  apply List.ext_getElem
  · simp [revH]
  · intro i h1 h2
    have hi : i < os.length := by rw [length_revH] at h1; exact h1
    simp only [revH, List.getElem_map, List.getElem_range, List.getElem_reverse]
    by_cases e : i < k ∨ os.length ≤ i + k
    · rw [if_pos e, List.getD_eq_getElem?_getD, List.getElem?_eq_getElem (by omega)]; rfl
    · rw [if_neg e, List.getD_eq_getElem?_getD, List.getElem?_eq_getElem (by omega)]
      have : os.length - 1 - i = i := by omega
      simp [this]

theorem revH_32 (os : List (List UInt8)) (k : Nat) (h : H32 os) : H32 (revH os k) := fun x hx => by
  unfold revH at hx
  obtain ⟨p, hp, rfl⟩ := List.mem_map.1 hx
  have hp := List.mem_range.1 hp
  exact h.getD _ (by split <;> omega)
structure RvH (base g n c : Nat) (l : List (List UInt8)) (w W : World) : Prop where
  own : W.ownsRow base 25 32 (.slice (some ⟨g, 0, none⟩) n c) n (hcells l)
  grow : w.grownBy W (some g)

set_option maxHeartbeats 1000000 in
set_option maxRecDepth 100000 in
theorem revh_any (os : List (List UInt8)) (v : Value) (n base : Nat) (w : World) (h : w.ownsRow base 25 32 v n (hcells os)) (hl : os.length = n) (h32 : H32 os) (hn : n ≤ 1000000000) :
    Calls Try.prog 106 #[v] w fun e w' => (∃ r, e = .returned r) ∧ w'.ownsRow base 25 32 v n (hcells os.reverse) ∧ w.grownBy w' v.ownBlock := by
  by_cases h0 : n = 0
  · subst h0
    have hnil : os = [] := List.eq_nil_of_length_eq_zero hl
    subst hnil
    obtain ⟨A, c, rfl, hs⟩ := owns_slv h
    go_enter Try.func106, Try.ntmps106
    go_wp2_with fail
    go_loopw [2, 3] (fun i j wr => i = .int .i64 0 ∧ j = .int .i64 (-1) ∧ w = wr) (fun _ _ _ => 0)
    case atStart => exact ⟨rfl, rfl, rfl⟩
    case round =>
      obtain ⟨rfl, rfl, rfl⟩ := hrel
      go_wp2_with fail
      go_end0
      exact ⟨⟨_, rfl⟩, h, ⟨rfl, rfl, rfl, Nat.le_refl _, fun _ _ _ => rfl⟩⟩
  · obtain ⟨g, c, rfl⟩ : ∃ g c, v = .slice (some ⟨g, 0, none⟩) n c := by
      rcases h.2 with ⟨_, h1⟩ | ⟨g, c, cur, hv, _⟩
      · omega
      · exact ⟨g, c, hv⟩
    have hC0 : RvH base g n c (revH os 0) w w := ⟨by rw [revH_zero]; exact h, ⟨rfl, rfl, rfl, Nat.le_refl _, fun _ _ _ => rfl⟩⟩
    have Hl := Lib.hid hl
    have H32o := Lib.hid h32
    clear h hl h32
    go_enter Try.func106, Try.ntmps106
    go_wp2_with fail
    go_loopw [2, 3] (fun i j wr => ∃ (k : Nat) (ji : Int), ji = (n : Int) - 1 - k ∧ 2 * k ≤ n ∧ i = .int .i64 k ∧ j = .int .i64 ji ∧ RvH base g n c (revH os k) w wr) (fun i _ _ => n - (intOf i).toNat)
    case atStart => exact ⟨0, (n : Int) - 1, by simp, by omega, rfl, rfl, hC0⟩
    case round =>
      clear hC0
      obtain ⟨k, ji, hji, hk, rfl, rfl, hC⟩ := hrel
      by_cases hlt : (k : Int) < ji
      · obtain ⟨j, rfl⟩ : ∃ j : Nat, ji = (j : Int) := ⟨ji.toNat, by omega⟩
        have hjn : j < n := by omega
        have hkn : k < n := by omega
        have hkj : k < j := by omega
        have hsum : j + k + 1 = n := by omega
        obtain ⟨l, hll⟩ : ∃ l, revH os k = l := ⟨_, rfl⟩
        have hlen : l.length = n := by rw [← hll, length_revH, Hl.out]
        have hl32 : H32 l := by rw [← hll]; exact revH_32 os k H32o.out
        have hst := revH_step os k j hkj (by rw [Hl.out]; exact hsum)
        rw [hll] at hC hst
        obtain ⟨x, hx⟩ : ∃ x, l.getD k [] = x := ⟨_, rfl⟩
        obtain ⟨y, hy⟩ : ∃ y, l.getD j [] = y := ⟨_, rfl⟩
        have hx32 := hl32.getD k (by rw [hlen]; exact hkn)
        have hy32 := hl32.getD j (by rw [hlen]; exact hjn)
        rw [hx] at hx32
        rw [hy] at hy32
        rw [hx, hy] at hst
        have Hx32 := Lib.hid hx32
        have Hy32 := Lib.hid hy32
        have Hl32 := Lib.hid hl32
        have hld : ∀ s : InC (RvH base g n c l w), (Instr.loadAt 25 (.pointer (some ⟨g, j * 32, none⟩))).run Try.prog s.W = .ok (.agg (y.map B).toArray) s.W ∧ (Instr.loadAt 25 (.pointer (some ⟨g, k * 32, none⟩))).run Try.prog s.W = .ok (.agg (x.map B).toArray) s.W := fun s => by
          obtain ⟨A', c', hv, hs0⟩ := owns_slv s.ok.own
          have hs : Hs s.W (fun _ => True) A' n c' l := ⟨hs0.weak fun _ _ _ => trivial, hlen, hl32⟩
          cases hv
          have h1 := hs.get rfl j hjn
          have h2 := hs.get rfl k hkn
          rw [Nat.zero_add] at h1 h2
          rw [hy] at h1
          rw [hx] at h2
          exact ⟨h1, h2⟩
        have Hld := Lib.hid hld
        have Hst := Lib.hid hst
        have Hlen := Lib.hid hlen
        have Hsum := Lib.hid hsum
        have hw1 : (0 : Int) ≤ (j : Int) := by omega
        have hC0 : RvH base g n c l w wr.drew := ⟨owns_step hC.own (Below.refl _ _).drew, grown_drew hC.grow⟩
        clear hll hx hy hld hst hlen hji hsum hC hx32 hy32 hl32
        go_wp2_with fail
        refine wp_region_begin (fun _ => True) (by kernel_rfl) trivial fun _ => ?_
        generalize wr.drew = W0 at hC0 ⊢
        refine wpAnyH_pre (f := 6) (by kernel_rfl) #[true, true, true, true, true, true, true, false, true, true, true, false, false, false, false, false] [(0, true), (1, true), (2, true), (3, true), (4, true), (5, true), (6, true), (8, true), (9, true), (10, true)] _ _ _ (by kernel_rfl) trivial ?_
        simp only [List.map_cons, List.map_nil, Array.getD_eq_getD_getElem?, List.getElem?_toArray, List.getElem?_cons_succ, List.getElem?_cons_zero, Option.getD_some]
        refine wpMix_s (fun K hK => ?_)
        go_simp
        refine hK _ ?_
        clear hK K
        refine wpMix_s (fun K hK => ?_)
        go_simp
        refine hK _ ?_
        clear hK K
        refine wpMix_s (fun K hK => ?_)
        go_simp
        refine hK _ ?_
        clear hK K
        refine wpMix_s (fun K hK => ?_)
        go_simp
        refine hK _ ?_
        clear hK K
        refine wpMix_s (fun K hK => ?_)
        go_simp
        refine hK _ ?_
        clear hK K
        refine wpMix_s (fun K hK => ?_)
        go_simp
        refine hK _ ?_
        clear hK K
        refine wpMix_s (fun K hK => ?_)
        go_simp
        refine hK _ ?_
        clear hK K
        refine wpMix_s (fun K hK => ?_)
        go_simp
        refine hK _ ?_
        clear hK K
        refine wpMix_s (fun K hK => ?_)
        go_simp
        refine hK _ ?_
        clear hK K
        refine wpMix_s (fun K hK => ?_)
        go_simp
        refine hK _ ?_
        clear hK K
        refine wpMix_nil ?_
        intro _
        refine wpAnyH_shared (T := Unit) 4 #[true, true, true, true, true, true, true, true, true, true, true, true, false, false, false, false] (fun _ => [(21, .agg (y.map B).toArray), (25, .agg (x.map B).toArray)]) (fun _ W => RvH base g n c l w W) ?tail ?head
        case head =>
          intro key
          simp only [List.foldl_cons, List.foldl_nil, Act.put, List.setIfInBounds_toArray, List.set_cons_succ, List.set_cons_zero] at key
          refine wpAnyH_fork (f := 5) (i := 7) (j := 11) (by kernel_rfl) trivial ?_ ?_
          · simp only [Array.getD_eq_getD_getElem?, List.getElem?_toArray, List.getElem?_cons_succ, List.getElem?_cons_zero, Option.getD_some]
            refine wpMix_run (by kernel_rfl) (.agg (y.map B).toArray) W0 (run_load_op 25 (.tmp 20) rfl g (j * 32) rfl _ (Hld.out ⟨W0, hC0⟩).1) trivial ?_
            simp only [Act.put]
            refine wpMix_nil ?_
            intro _
            show wpAnyH _ _ _ _ _ _ #[true, true, true, true, true, true, true, true, true, true, true, false, false, false, false, false] _ _
            refine wpAnyH_pre (f := 4) (by kernel_rfl) #[true, true, true, true, true, true, true, true, true, true, true, true, false, false, false, false] [(11, false)] _ _ _ (by kernel_rfl) trivial ?_
            simp only [List.map_cons, List.map_nil, Array.getD_eq_getD_getElem?, List.getElem?_toArray, List.getElem?_cons_succ, List.getElem?_cons_zero, Option.getD_some]
            refine wpMix_run (by kernel_rfl) (.agg (x.map B).toArray) W0 (run_load_op 25 (.tmp 24) rfl g (k * 32) rfl _ (Hld.out ⟨W0, hC0⟩).2) trivial ?_
            simp only [Act.put]
            refine wpMix_nil ?_
            intro _
            exact key () _ hC0
          · simp only [Array.getD_eq_getD_getElem?, List.getElem?_toArray, List.getElem?_cons_succ, List.getElem?_cons_zero, Option.getD_some]
            refine wpMix_run (by kernel_rfl) (.agg (x.map B).toArray) W0 (run_load_op 25 (.tmp 24) rfl g (k * 32) rfl _ (Hld.out ⟨W0, hC0⟩).2) trivial ?_
            simp only [Act.put]
            refine wpMix_nil ?_
            intro _
            show wpAnyH _ _ _ _ _ _ #[true, true, true, true, true, true, true, false, true, true, true, true, false, false, false, false] _ _
            refine wpAnyH_pre (f := 4) (by kernel_rfl) #[true, true, true, true, true, true, true, true, true, true, true, true, false, false, false, false] [(7, false)] _ _ _ (by kernel_rfl) trivial ?_
            simp only [List.map_cons, List.map_nil, Array.getD_eq_getD_getElem?, List.getElem?_toArray, List.getElem?_cons_succ, List.getElem?_cons_zero, Option.getD_some]
            refine wpMix_run (by kernel_rfl) (.agg (y.map B).toArray) W0 (run_load_op 25 (.tmp 20) rfl g (j * 32) rfl _ (Hld.out ⟨W0, hC0⟩).1) trivial ?_
            simp only [Act.put]
            refine wpMix_nil ?_
            intro _
            exact key () _ hC0
        case tail =>
          clear hC0
          rintro ⟨⟩ W3 hC3
          simp only [List.foldl_cons, List.foldl_nil, Act.put, List.setIfInBounds_toArray, List.set_cons_succ, List.set_cons_zero]
          refine wpAnyH_pre (f := 0) (by kernel_rfl) #[true, true, true, true, true, true, true, true, true, true, true, true, true, true, true, true] [(12, true), (13, false), (14, true), (15, false)] _ _ _ (by kernel_rfl) trivial ?_
          simp only [List.map_cons, List.map_nil, Array.getD_eq_getD_getElem?, List.getElem?_toArray, List.getElem?_cons_succ, List.getElem?_cons_zero, Option.getD_some]
          refine wpMix_s (fun K hK => ?_)
          go_simp
          refine hK _ ?_
          clear hK K
          obtain ⟨cur, hb1, hs1, hbg, ho1⟩ := owns_put hC3.own k hkn (y.map B) (by rw [List.length_map]; exact Hy32.out)
          rw [hcells_set l Hl32.out k y (by rw [Hlen.out]; exact hkn)] at ho1
          have hg1 := grown_setRow hC3.grow (cur.toList.take (k * 32) ++ y.map B ++ cur.toList.drop (k * 32 + 32)).toArray
          refine wpMix_store_agg rfl 25 (.tmp 26) (.tmp 21) rfl 32 size26 g (k * 32) (y.map B).toArray rfl rfl (by simp [Hy32.out]) (oneCell_B _) 25 _ hb1 hs1 trivial ?_
          simp only [Act.put]
          refine (mix_world (S := fun _ => True) (RvH base g n c (l.set k y) w) ⟨ho1, hg1⟩ (fun _ _ => trivial) ?_).2
          clear hb1 ho1 hg1 hC3
          intro W4 hC4
          refine wpMix_s (fun K hK => ?_)
          go_simp
          refine hK _ ?_
          clear hK K
          obtain ⟨cur2, hb2, hs2, -, ho2⟩ := owns_put hC4.own j hjn (x.map B) (by rw [List.length_map]; exact Hx32.out)
          rw [hcells_set (l.set k y) (Hl32.out.set k Hy32.out) j x (by rw [List.length_set, Hlen.out]; exact hjn), Hst.out] at ho2
          have hg2 := grown_setRow hC4.grow (cur2.toList.take (j * 32) ++ x.map B ++ cur2.toList.drop (j * 32 + 32)).toArray
          refine wpMix_store_agg rfl 25 (.tmp 27) (.tmp 25) rfl 32 size26 g (j * 32) (x.map B).toArray rfl rfl (by simp [Hx32.out]) (oneCell_B _) 25 _ hb2 hs2 trivial ?_
          simp only [Act.put]
          refine (mix_world (S := fun _ => True) (RvH base g n c (revH os (k + 1)) w) ⟨ho2, hg2⟩ (fun _ _ => trivial) ?_).2
          clear hb2 ho2 hg2 hC4
          intro W5 hC5
          refine wpMix_nil ?_
          intro _
          refine wpAnyH_end (by kernel_rfl) ?_
          go_wp2_with fail
          go_roundw
          case rel => exact ⟨k + 1, (j : Int) - 1, by have := Hsum.out; omega, by have := Hsum.out; omega, by go_num, rfl, hC5⟩
          case measure => simp [intOf]; omega
      · have hend := revH_end os k (by rw [Hl.out]; omega)
        have ho := hC.own
        rw [hend] at ho
        have hg := hC.grow
        clear hend hji hC
        go_wp2_with fail
        go_end0
        exact ⟨⟨_, rfl⟩, ho, hg⟩
end Go.Proofs.Ytonidnfgneokbaa
/- notaryref03.Sum; notarylaw03.kept. -/
namespace Go.Proofs.Ytonidnfgneokbaa
open Go.RowKit

theorem Und.take_ok' (b : List UInt8) : (Und.new.take b).ok := Und.take_ok _ _ Und.new_ok

set_option maxHeartbeats 1000000 in
set_option maxRecDepth 100000 in
theorem rsum_any (b : List UInt8) (A : Option Addr) (n c : Nat) (w : World) (h : Sl w (fun _ => True) A n c b) (hmax : n ≤ 1099511627776) :
    Calls Try.prog 141 #[.slice A n c] w fun e w' => e = .returned (.agg ((sha256 b).map B).toArray) ∧ Below w.heap.size w w' := by
  have hlen := h.len
  obtain ⟨v, hv⟩ : ∃ v, Und.new.take b = v := ⟨_, rfl⟩
  have hvl : v.len = n := by rw [← hv, Und.take_len, ← hlen]; exact Nat.zero_add _
  have hvok : v.ok := by rw [← hv]; exact Und.take_ok' b
  have hvs : v.sum = sha256 b := by rw [← hv]; rfl
  have htk : ∀ w, Sl w (fun _ => True) A n c b → Calls Try.prog 155 #[undV Und.new (.slice none 0 0), .slice A n c] w fun e w' => ∃ A' n' c', e = .returned (undV v (.slice A' n' c')) ∧ Sl w' (fun _ => True) A' n' c' v.rest ∧ Below w.heap.size w w' := fun w h => by
    rw [← hv]
    exact rtake_any Und.new b none 0 0 A n c w Sl.nil h (by omega) (by have : Und.new.len = 0 := rfl; omega)
  obtain ⟨x0, hx0⟩ : ∃ x0, undV Und.new (.slice none 0 0) = x0 := ⟨_, rfl⟩
  have hnew := fun w => rnew_any w
  rw [hx0] at htk hnew
  obtain ⟨r, hr⟩ : ∃ r, sha256 b = r := ⟨_, rfl⟩
  rw [hr] at hvs ⊢
  have hrl : r.length = 32 := by rw [← hr]; exact length_sha256 _
  have Hrl := Lib.hid hrl
  have Hvs := Lib.hid hvs
  have Hvl := Lib.hid hvl
  have Htk := Lib.hid htk
  have Hnew := Lib.hid hnew
  clear hv hx0 hr hrl hvs hvl htk hnew hlen
  go_enter Try.func141, Try.ntmps141
  go_wp2_with (first
    | (go_at_call 154; refine (Hnew.out _).mono ?_; rintro e w1 ⟨rfl, hb1⟩; have k1 := (Blk.new w _ _).below hb1 (by simp); have hB1 := ((Below.refl _ _).alloc (Nat.le_refl _) _).trans (hb1.mono (by simp)))
    | (go_at_call 155; refine (Htk.out _ (h.step hB1)).mono ?_; rintro e w2 ⟨A2, n2, c2, rfl, hs2, hb2⟩; have k2 := k1.below hb2 k1.lt; have hB2 := hB1.trans (hb2.mono hB1.size))
    | (go_at_call 156; refine (rend_any v A2 n2 c2 _ hs2 hvok (by rw [Hvl.out]; omega)).mono ?_; rintro e w3 ⟨rfl, hb3⟩; have k3 := k2.below hb3 k2.lt; have hB3 := hB2.trans (hb3.mono hB2.size); rw [Hvs.out])
    | ((with_reducible show wpList _ _ _ (⟨none, .store _ _ _, _, _, _, _⟩ :: _) _ _); refine wpList_store_blk rfl 25 (.tmp 2) (.tmp 6) rfl 32 size26 w.heap.size (r.map B).toArray rfl rfl (by simp [Hrl.out]) (oneCell_B _) 25 _ k3 (by rfl) ?_; simp only [Act.put]))
  refine bodyPost_ret (results_cell_row rfl _ _ w.heap.size 25 (r.map B).toArray (0, 0) _ rfl (k3.setRow_ _) Try.underlying25 rfl (by rw [show (r.map B).toArray.size = 32 by simp [Hrl.out]]; exact info26)) rfl ⟨rfl, ?_⟩
  exact below_setRow hB3 (Nat.le_refl _) _

/-- lent bytes: read, and the byte behind them -/
structure LentB (w : World) (X : Nat → Prop) (g n c : Nat) (l : List UInt8) : Prop where
  sl : Sl w X (some ⟨g, 0, none⟩) n c l
  lt : n < c
  mark : w.cell? ⟨g, n, none⟩ = some (.int .u8 165)
  x : X g
  in_ : g < w.heap.size
theorem LentB.step {w w' : World} {X : Nat → Prop} {g n c : Nat} {l : List UInt8} (h : LentB w X g n c l) (hb : Below w.heap.size w w') : LentB w' X g n c l :=
  ⟨h.sl.step hb, h.lt, by rw [hb.cell (p := ⟨g, n, none⟩) h.in_]; exact h.mark, h.x, Nat.lt_of_lt_of_le h.in_ hb.size⟩
theorem LentB.grown {w w' : World} {X : Nat → Prop} {g n c : Nat} {l : List UInt8} {row : Option Nat} (h : LentB w X g n c l) (hg : w.grownBy w' row) (hX : ∀ b, b < w.heap.size → X b → some b ≠ row) : LentB w' X g n c l :=
  ⟨h.sl.grown hg hX, h.lt, by rw [World.cell?_of_block (w := w) (hg.block g h.in_ (hX g h.in_ h.x))]; exact h.mark, h.x, Nat.lt_of_lt_of_le h.in_ hg.size⟩
theorem LentB.of_own {w : World} {X : Nat → Prop} {g c : Nat} {l : List UInt8} {cur : Array Value} (h : Own w g c (l ++ [0xa5]) cur) (hX : X g) : LentB w X g l.length c l := by
  have hr := h.room
  rw [List.length_append] at hr
  simp only [List.length_singleton] at hr
  have hget : ∀ j u, ((l ++ [0xa5]).map B)[j]? = some u → w.cell? ⟨g, j, none⟩ = some u := fun j u hu => by
    rw [h.blk.cell, ← Array.getElem?_toList]
    rw [← h.pre, List.getElem?_take] at hu
    split at hu
    · exact hu
    · cases hu
  refine ⟨⟨fun _ => ⟨g, 0, rfl, h.blk.lt, hX, fun j u hu => ?_⟩, rfl, by omega, by simp, h.max⟩, by omega, ?_, hX, h.blk.lt⟩
  · rw [Nat.zero_add]
    refine hget j u ?_
    rw [List.map_append, List.getElem?_append_left (List.getElem?_eq_some_iff.1 hu).1]
    exact hu
  · refine hget _ _ ?_
    rw [List.map_append, List.getElem?_append_right (by simp)]
    simp
end Go.Proofs.Ytonidnfgneokbaa
/- notaryref08.Of, Leaf, Node; notarylaw08.lent, kept, long, num. -/
namespace Go.Proofs.Ytonidnfgneokbaa
open Go.RowKit

set_option maxHeartbeats 400000 in
set_option maxRecDepth 100000 in
theorem hrof_any (b : List UInt8) (A : Option Addr) (n c : Nat) (w : World) (h : Sl w (fun _ => True) A n c b) (hmax : n ≤ 1099511627776) :
    Calls Try.prog 102 #[.slice A n c] w fun e w' => e = .returned (.agg ((sha256 b).map B).toArray) ∧ Below w.heap.size w w' := by
  obtain ⟨r, hr⟩ : ∃ r, sha256 b = r := ⟨_, rfl⟩
  have hrl : r.length = 32 := by rw [← hr]; exact length_sha256 _
  have hs := fun o => rsum_any b A n c (w.alloc o) (h.alloc o) hmax
  rw [hr] at hs ⊢
  have Hs := Lib.hid hs
  have Hrl := Lib.hid hrl
  clear hs hrl hr h
  go_enter Try.func102, Try.ntmps102
  go_wp2_with (first
    | (go_at_call 141; refine (Hs.out _).mono ?_; rintro e w1 ⟨rfl, hb1⟩; have k1 := (Blk.new w _ _).below hb1 (by simp); have B1 := ((Below.refl w.heap.size w).alloc (Nat.le_refl _) _).trans (hb1.mono (by simp)))
    | ((with_reducible show wpList _ _ _ (⟨none, .store _ _ _, _, _, _, _⟩ :: _) _ _); refine wpList_store_blk rfl 25 (.tmp 2) (.tmp 4) rfl 32 size26 w.heap.size (r.map B).toArray rfl rfl (by simp [Hrl.out]) (oneCell_B _) 25 _ k1 (by rfl) ?_; simp only [Act.put]))
  refine bodyPost_ret (results_cell_row rfl _ _ w.heap.size 25 (r.map B).toArray (0, 0) _ rfl (k1.setRow_ _) Try.underlying25 rfl (by rw [show (r.map B).toArray.size = 32 by simp [Hrl.out]]; exact info26)) rfl ⟨rfl, ?_⟩
  exact below_setRow B1 (Nat.le_refl _) _

set_option maxHeartbeats 400000 in
set_option maxRecDepth 100000 in
theorem hrleaf_any (l : List UInt8) (A : Option Addr) (n c : Nat) (w : World) (h : Sl w (fun _ => True) A n c l) (hmax : n < 1099511627776) :
    Calls Try.prog 66 #[.slice A n c] w fun e w' => e = .returned (.agg ((hLeaf l).map B).toArray) ∧ Below w.heap.size w w' := by
  obtain ⟨r, hr⟩ : ∃ r, hLeaf l = r := ⟨_, rfl⟩
  have hrl : r.length = 32 := by rw [← hr]; exact length_hLeaf l
  rw [hr]
  have hll := h.len
  have Hrl := Lib.hid hrl
  have Hr := Lib.hid hr
  have Hll := Lib.hid hll
  clear hrl hr hll
  go_enter Try.func66, Try.ntmps66
  go_upto_region 1 with fail
  refine wp_world (fun W => Blk W w.heap.size 25 ((List.replicate 32 0).map B).toArray ∧ Below w.heap.size w W ∧ Sl W (fun _ => True) A n c l ∧ w.heap.size < W.heap.size) ⟨?_, ?_, ?_, ?_⟩ ?_
  · exact Blk.new _ _ _
  · exact (Below.refl _ _).alloc (Nat.le_refl _) _
  · exact h.alloc _
  · simp
  clear h
  rintro W1 ⟨k1, B1, s1, hW1⟩
  have ho1 : (W1.alloc (.cells #[.int .u8 0] 5)).ownsRow W1.heap.size 5 1 (.slice (some ⟨W1.heap.size, 0, none⟩) 1 1) ([0] : List UInt8).length (([0] : List UInt8).map B) := World.ownsRow_lit W1 #[.int .u8 0] 1 (Nat.le_refl _) (by decide) rfl
  obtain ⟨v2, w2, hr2, ho2, hg2⟩ := append_sl ho1 (s1.alloc _) (by simp; omega) (by simp)
  have b2 : Below W1.heap.size W1 w2 := below_append ((Below.refl _ _).alloc (Nat.le_refl _) _) ho1 hg2 (Nat.le_refl _) (by simp)
  obtain ⟨A2, c2, rfl, hs2⟩ := owns_sl ho2
  have k2 := k1.below b2 k1.lt
  have B2 := B1.trans (b2.mono B1.size)
  have hof := hrof_any ([0] ++ l) A2 _ c2 w2 hs2.all (by simp [Hll.out]; omega)
  rw [show sha256 ([0] ++ l) = r from Hr.out] at hof
  have Hr2 := Lib.hid hr2
  have Hof := Lib.hid hof
  clear hr2 ho1 ho2 hg2 hs2 hof s1 hW1
  go_wp2_with (first
    | ((with_reducible show wpList _ _ _ (⟨some 5, .call _, _, _, _, _⟩ :: _) _ _); refine wpList_run rfl _ w2 (run_append_op (.tmp 3) (.tmp 4) 23 rfl _ _ rfl rfl Hr2.out) ?_; simp only [Act.put])
    | (go_at_call 102; refine Hof.out.mono ?_; rintro e w3 ⟨rfl, hb3⟩; have k3 := k2.below hb3 k2.lt; have B3 := B2.trans (hb3.mono B2.size))
    | ((with_reducible show wpList _ _ _ (⟨none, .store _ _ _, _, _, _, _⟩ :: _) _ _); refine wpList_store_blk rfl 25 (.tmp 2) (.tmp 6) rfl 32 size26 w.heap.size (r.map B).toArray rfl rfl (by simp [Hrl.out]) (oneCell_B _) 25 _ k3 (by rfl) ?_; simp only [Act.put]))
  refine bodyPost_ret (results_cell_row rfl _ _ w.heap.size 25 (r.map B).toArray (0, 0) _ rfl (k3.setRow_ _) Try.underlying25 rfl (by rw [show (r.map B).toArray.size = 32 by simp [Hrl.out]]; exact info26)) rfl ⟨rfl, ?_⟩
  exact below_setRow B3 (Nat.le_refl _) _

/-- in the loops of Node -/
structure RnC (w : World) (lv rv zs : Array Value) (v : Value) (xs : List UInt8) (W : World) : Prop where
  l : Blk W w.heap.size 25 lv
  r : Blk W (w.heap.size + 1) 25 rv
  z : Blk W (w.heap.size + 2) 25 zs
  own : W.ownsRow (w.heap.size + 3) 5 1 v xs.length (xs.map B)
  bel : Below w.heap.size w W
  big : w.heap.size + 2 < W.heap.size
theorem RnC.app {w W : World} {lv rv zs : Array Value} {v : Value} {xs : List UInt8} (h : RnC w lv rv zs v xs W) (x : UInt8) (hl : xs.length ≤ 100) : ∃ v' W', (Builtin.append_ #[23, 23] 23 #[v, .slice (some ⟨W.heap.size, 0, none⟩) 1 1]).run Try.prog (W.alloc (.cells #[B x] 5)) = .ok v' W' ∧ RnC w lv rv zs v' (xs ++ [x]) W' := by
  have hb := h.big
  obtain ⟨v', W', hr, ho, hg⟩ := append_sl (h.own.alloc (.cells ([x].map B).toArray 5)) (sl_lit W [x] 1 rfl (by decide)) (by omega) (by simp; omega)
  have hlt : ∀ k, v.ownBlock = some k → w.heap.size + 3 ≤ k := fun k hk => (h.own.lt k hk).1
  refine ⟨v', W', hr, (h.l.alloc _).grown hg fun e => ?_, (h.r.alloc _).grown hg fun e => ?_, (h.z.alloc _).grown hg fun e => ?_, ho, (h.bel.alloc h.bel.size _).grown hg (by simp; omega) fun k hk => ?_, by have := hg.size; simp at this; omega⟩
  · have := hlt _ e.symm; omega
  · have := hlt _ e.symm; omega
  · have := hlt _ e.symm; omega
  · have := hlt k hk; omega

set_option maxHeartbeats 1000000 in
set_option maxRecDepth 100000 in
theorem hrnode_any (l r : List UInt8) (w : World) (hl : l.length = 32) (hr : r.length = 32) :
    Calls Try.prog 103 #[.agg (l.map B).toArray, .agg (r.map B).toArray] w fun e w' => e = .returned (.agg ((hNode l r).map B).toArray) ∧ Below w.heap.size w w' := by
  obtain ⟨x, hx⟩ : ∃ x, hNode l r = x := ⟨_, rfl⟩
  have hxl : x.length = 32 := by rw [← hx]; exact length_hNode l r
  obtain ⟨zs, hzs⟩ : ∃ zs, zeroHash = zs := ⟨_, rfl⟩
  obtain ⟨lv, hlv⟩ : ∃ lv, (l.map B).toArray = lv := ⟨_, rfl⟩
  obtain ⟨rv, hrv⟩ : ∃ rv, (r.map B).toArray = rv := ⟨_, rfl⟩
  have hzl : zs.size = 32 := by rw [← hzs]; rfl
  rw [hx, hlv, hrv]
  have Hx := Lib.hid hx
  have Hxl := Lib.hid hxl
  have Hzs := Lib.hid hzs
  have Hlv := Lib.hid hlv
  have Hrv := Lib.hid hrv
  have Hl := Lib.hid hl
  have Hr := Lib.hid hr
  clear hx hxl hzs hlv hrv hl hr
  go_enter Try.func103, Try.ntmps103
  go_upto_region 1 with fail
  refine wp_world (fun W => Blk W w.heap.size 25 lv ∧ Blk W (w.heap.size + 1) 25 rv ∧ Blk W (w.heap.size + 2) 25 zs ∧ Below w.heap.size w W ∧ W.heap.size = w.heap.size + 3) ⟨?_, ?_, ?_, ?_, ?_⟩ ?_
  · exact ((Blk.new _ _ _).alloc _).alloc _
  · exact (Blk.new' _ _ _ _ (by simp)).alloc _
  · rw [← Hzs.out]; exact Blk.new' _ _ _ _ (by simp)
  · exact (((Below.refl _ _).alloc (Nat.le_refl _) _).alloc (by simp) _).alloc (by simp; omega) _
  · simp
  rintro W1 ⟨kl, kr, kz, B1, hW1⟩
  have HW := Lib.hid hW1
  clear hW1
  go_wp2_with fail
  go_loopw [5, 6] (fun s5 i wr => ∃ (v : Value) (k : Nat), v = s5 ∧ k ≤ 32 ∧ i = .int .i64 k ∧ RnC w lv rv zs v (1 :: l.take k) wr) (fun _ i => fun _ => 32 - (intOf i).toNat)
  case atStart =>
    refine ⟨_, 0, rfl, by omega, rfl, kl.alloc _, kr.alloc _, kz.alloc _, ?_, B1.alloc B1.size _, by have := HW.out; simp; omega⟩
    exact World.ownsRow_lit W1 #[.int .u8 1] 1 (by have := HW.out; omega) (by decide) rfl
  case round =>
    obtain ⟨v, k, rfl, hk, rfl, hC⟩ := hrel
    by_cases hlt : k < 32
    · obtain ⟨y, hy⟩ : ∃ y, l.getD k 0 = y := ⟨_, rfl⟩
      have cy : wr.cell? ⟨w.heap.size, k, none⟩ = some (B y) := by rw [hC.l.cell, ← Hlv.out, ← hy]; exact cellB l k (by rw [Hl.out]; exact hlt)
      obtain ⟨v2, w2, hr2, hC2⟩ := hC.app y (by rw [List.length_cons, List.length_take]; omega)
      have hsn : 1 :: l.take k ++ [y] = 1 :: l.take (k + 1) := by
        rw [List.take_succ_eq_append_getElem (by rw [Hl.out]; exact hlt), ← hy, List.getD_eq_getElem?_getD, List.getElem?_eq_getElem (by rw [Hl.out]; exact hlt)]; rfl
      rw [hsn] at hC2
      have Hr2 := Lib.hid hr2
      clear hr2 hsn hy hC
      go_wp2_with ((with_reducible show wpList _ _ _ (⟨some 18, .call _, _, _, _, _⟩ :: _) _ _); refine wpList_run rfl _ w2 (run_append_op (.tmp 13) (.tmp 17) 23 rfl _ _ rfl rfl Hr2.out) ?_; simp only [Act.put])
      go_roundw
      case rel => exact ⟨_, k + 1, rfl, by omega, by go_num, hC2⟩
      case measure => simp [intOf]; omega
    · obtain rfl : k = 32 := by omega
      rw [List.take_of_length_le (by rw [Hl.out]; omega)] at hC
      clear kl kr kz B1
      go_wp2_with fail
      go_loopw [5, 7] (fun s5 i wr => ∃ (v : Value) (k : Nat), v = s5 ∧ k ≤ 32 ∧ i = .int .i64 k ∧ RnC w lv rv zs v (1 :: (l ++ r.take k)) wr) (fun _ i => fun _ => 32 - (intOf i).toNat)
      case atStart => exact ⟨_, 0, rfl, by omega, rfl, by rw [List.take_zero, List.append_nil]; exact hC⟩
      case round =>
        clear hC
        obtain ⟨v, k, rfl, hk, rfl, hC⟩ := hrel
        by_cases hlt : k < 32
        · obtain ⟨y, hy⟩ : ∃ y, r.getD k 0 = y := ⟨_, rfl⟩
          have cy : wr.cell? ⟨w.heap.size + 1, k, none⟩ = some (B y) := by rw [hC.r.cell, ← Hrv.out, ← hy]; exact cellB r k (by rw [Hr.out]; exact hlt)
          obtain ⟨v2, w2, hr2, hC2⟩ := hC.app y (by rw [List.length_cons, List.length_append, List.length_take, Hl.out]; omega)
          have hsn : 1 :: (l ++ r.take k) ++ [y] = 1 :: (l ++ r.take (k + 1)) := by
            rw [List.take_succ_eq_append_getElem (by rw [Hr.out]; exact hlt), ← hy, List.getD_eq_getElem?_getD, List.getElem?_eq_getElem (by rw [Hr.out]; exact hlt)]; simp
          rw [hsn] at hC2
          have Hr2 := Lib.hid hr2
          clear hr2 hsn hy hC
          go_wp2_with ((with_reducible show wpList _ _ _ (⟨some 28, .call _, _, _, _, _⟩ :: _) _ _); refine wpList_run rfl _ w2 (run_append_op (.tmp 23) (.tmp 27) 23 rfl _ _ rfl rfl Hr2.out) ?_; simp only [Act.put])
          go_roundw
          case rel => ((repeat apply Exists.intro); exact ⟨⟨_, k + 1, rfl, by omega, by go_num, hC2⟩, rfl⟩)
          case measure => simp [intOf]; omega
        · obtain rfl : k = 32 := by omega
          rw [List.take_of_length_le (by rw [Hr.out]; omega)] at hC
          obtain ⟨A2, c2, rfl, hs2⟩ := owns_sl hC.own
          have hlen : (1 :: (l ++ r)).length = 65 := by rw [List.length_cons, List.length_append, Hl.out, Hr.out]
          rw [hlen] at hs2 ⊢
          have hof := hrof_any (1 :: (l ++ r)) A2 65 c2 wr hs2.all (by decide)
          rw [show sha256 (1 :: (l ++ r)) = x from Hx.out] at hof
          have kz2 := hC.z
          have B2 := hC.bel
          have Hof := Lib.hid hof
          clear hof hs2 hC hlen
          go_wp2_with (first
            | (go_at_call 102; refine Hof.out.mono ?_; rintro e w3 ⟨rfl, hb3⟩; have k3 := kz2.below hb3 kz2.lt; have B3 := B2.trans (hb3.mono B2.size))
            | ((with_reducible show wpList _ _ _ (⟨none, .store _ _ _, _, _, _, _⟩ :: _) _ _); refine wpList_store_blk rfl 25 (.tmp 4) (.tmp 30) rfl 32 size26 (w.heap.size + 2) (x.map B).toArray rfl rfl (by simp [Hxl.out]) (oneCell_B _) 25 _ k3 hzl ?_; simp only [Act.put]))
          refine bodyPost_ret (results_cell_row rfl _ _ (w.heap.size + 2) 25 (x.map B).toArray (0, 0) _ rfl (k3.setRow_ _) Try.underlying25 rfl (by rw [show (x.map B).toArray.size = 32 by simp [Hxl.out]]; exact info26)) rfl ⟨rfl, ?_⟩
          exact below_setRow B3 (by omega) _
end Go.Proofs.Ytonidnfgneokbaa
/- tree.Of, notaryref09.Of, notaryref08.Empty. -/
namespace Go.Proofs.Ytonidnfgneokbaa
open Go Go.RowKit

theorem sizeHs : ∀ w : World, (sizeOf (Try.prog.elem 26)).run Try.prog w = .ok 32 w := fun _ => by kernel_rfl
theorem sliceHs : Try.prog.underlying 26 = some (.slice (Try.prog.elem 26)) := by kernel_rfl
/-- the root of a list of leaves' hashes -/
def rootL (hs : List (List UInt8)) : List UInt8 := rootF hEmpty hNode hs.length hs
theorem rootL_nil : rootL [] = hEmpty := rfl
theorem rootL_one (x : List UInt8) : rootL [x] = x := rfl
theorem rootL_more (hs : List (List UInt8)) (h : 2 ≤ hs.length) : rootL hs = hNode (rootL (hs.take (splitN hs.length))) (rootL (hs.drop (splitN hs.length))) := by
  unfold rootL
  rw [rootF_enough _ _ hs.length (hs.length + 1) hs (Nat.le_refl _) (by omega), rootF, if_neg (by omega), if_neg (by omega)]
  rw [rootF_enough _ _ hs.length (hs.take (splitN hs.length)).length _ (by rw [List.length_take]; omega) (Nat.le_refl _), rootF_enough _ _ hs.length (hs.drop (splitN hs.length)).length _ (by rw [List.length_drop]; omega) (Nat.le_refl _)]
theorem length_rootL (hs : List (List UInt8)) (h : H32 hs) : (rootL hs).length = 32 := by
  by_cases h2 : 2 ≤ hs.length
  · rw [rootL_more hs h2]; exact length_hNode _ _
  · match hs, h, h2 with
    | [], _, _ => exact length_hEmpty
    | [x], h, _ => exact h x (by simp)
    | _ :: _ :: _, _, h2 => exact absurd (by simp) h2
theorem run_slice_op_hi {ρ : Operand → Value} {o : Oper} (x y : Operand) (ho : o.op = .slice 26 x none (some y) none) (A : Option Addr) (n c k : Nat) (hx : ρ x = .slice A n c) (hy : ρ y = .int .i64 (k : Int)) (hk : k ≤ c) (W : World) :
    (execOp ρ o).run Try.prog W = .ok (.value (.slice A k c)) W := by
  unfold execOp
  simp only [ho, hx, hy, Option.map_some, Option.map_none, run_slice_high sliceHs sizeHs A n c k hk W, Sem.run_bind, Sem.run_pure, Result.andThen_ok]
theorem run_slice_op_lo {ρ : Operand → Value} {o : Oper} (x y : Operand) (ho : o.op = .slice 26 x (some y) none none) (A : Option Addr) (n c k : Nat) (hx : ρ x = .slice A n c) (hy : ρ y = .int .i64 (k : Int)) (hk : k ≤ n) (W : World) :
    (execOp ρ o).run Try.prog W = .ok (.value (.slice (if c = k then A else A.map (·.add (k * 32))) (n - k) (c - k))) W := by
  unfold execOp
  simp only [ho, hx, hy, Option.map_some, Option.map_none, run_slice_low sliceHs sizeHs A n c k hk W, Sem.run_bind, Sem.run_pure, Result.andThen_ok]

set_option maxHeartbeats 400000 in
set_option maxRecDepth 100000 in
theorem rempty_any (w : World) :
    Calls Try.prog 108 #[] w fun e w' => e = .returned (.agg (hEmpty.map B).toArray) ∧ Below w.heap.size w w' := by
  obtain ⟨r, hr⟩ : ∃ r, hEmpty = r := ⟨_, rfl⟩
  have hrl : r.length = 32 := by rw [← hr]; exact length_hEmpty
  obtain ⟨zs, hzs⟩ : ∃ zs, zeroHash = zs := ⟨_, rfl⟩
  have hzl : zs.size = 32 := by rw [← hzs]; rfl
  have hof := fun W => hrof_any [] none 0 0 W Sl.nil (by decide)
  rw [show sha256 [] = r from hr] at hof
  rw [hr]
  have hb := (Below.refl w.heap.size w).alloc (Nat.le_refl _) (.cells zs 25)
  have k0 := Blk.new w 25 zs
  have Hof := Lib.hid hof
  have Hzs := Lib.hid hzs
  have Hrl := Lib.hid hrl
  clear hof hzs hrl hr
  go_enter Try.func108, Try.ntmps108
  go_wp2_with (first
    | ((with_reducible show wpList _ _ _ (⟨some 0, .alloc _, _, _, _, _⟩ :: _) _ _); refine wpList_run rfl (.pointer (some ⟨w.heap.size, 0, none⟩)) (w.alloc (.cells zs 25)) (by rw [← Hzs.out]; rfl) ?_; simp only [Act.put])
    | (go_at_call 102; refine (Hof.out _).mono ?_; rintro e w1 ⟨rfl, hb1⟩; have k1 := k0.below hb1 (by simp); have B1 := hb.trans (hb1.mono (by simp)))
    | ((with_reducible show wpList _ _ _ (⟨none, .store _ _ _, _, _, _, _⟩ :: _) _ _); refine wpList_store_blk rfl 25 (.tmp 0) (.tmp 1) rfl 32 size26 w.heap.size (r.map B).toArray rfl rfl (by simp [Hrl.out]) (oneCell_B _) 25 _ k1 hzl ?_; simp only [Act.put]))
  refine bodyPost_ret (results_cell_row rfl _ _ w.heap.size 25 (r.map B).toArray (0, 0) _ rfl (k1.setRow_ _) Try.underlying25 rfl (by rw [show (r.map B).toArray.size = 32 by simp [Hrl.out]]; exact info26)) rfl ⟨rfl, ?_⟩
  exact below_setRow B1 (Nat.le_refl _) _

set_option maxHeartbeats 2000000 in
set_option maxRecDepth 100000 in
theorem rof_rec (d : Nat) : ∀ (hs : List (List UInt8)) (A : Option Addr) (n c : Nat) (w : World), n ≤ d → Hs w (fun _ => True) A n c hs → n ≤ 4398046511104 →
    Calls Try.prog 46 #[.slice A n c] w fun e w' => e = .returned (.agg ((rootL hs).map B).toArray) ∧ Below w.heap.size w w' := by
  induction d using Nat.strongRecOn with
  | ind d ih =>
  intro hs A n c w hnd h hn
  obtain ⟨zs, hzs⟩ : ∃ zs, zeroHash = zs := ⟨_, rfl⟩
  have hzl : zs.size = 32 := by rw [← hzs]; rfl
  have hlen := h.len
  have hroom := h.sl.room
  have hmax := h.sl.max
  unfold maxLen at hmax
  have hb0 := (Below.refl w.heap.size w).alloc (Nat.le_refl _) (.cells zs 25)
  have k0 := Blk.new w 25 zs
  have h0 := h.step hb0
  obtain ⟨r, hr⟩ : ∃ r, rootL hs = r := ⟨_, rfl⟩
  have hrl : r.length = 32 := by rw [← hr]; exact length_rootL hs h.all
  rw [hr]
  have Hzs := Lib.hid hzs
  have Hrl := Lib.hid hrl
  have Hr := Lib.hid hr
  have Hlen := Lib.hid hlen
  clear hzs hrl hr hlen
  by_cases hn0 : n = 0
  · subst hn0
    have hnil : hs = [] := List.eq_nil_of_length_eq_zero Hlen.out
    subst hnil
    obtain rfl : r = hEmpty := Hr.out.symm
    clear ih h h0
    go_enter Try.func46, Try.ntmps46
    go_wp2_with (first
      | ((with_reducible show wpList _ _ _ (⟨some 2, .alloc _, _, _, _, _⟩ :: _) _ _); refine wpList_run rfl (.pointer (some ⟨w.heap.size, 0, none⟩)) (w.alloc (.cells zs 25)) (by rw [← Hzs.out]; rfl) ?_; simp only [Act.put])
      | (go_at_call 108; refine (rempty_any _).mono ?_; rintro e w1 ⟨rfl, hb1⟩; have k1 := k0.below hb1 (by simp); have B1 := hb0.trans (hb1.mono (by simp)))
      | ((with_reducible show wpList _ _ _ (⟨none, .store _ _ _, _, _, _, _⟩ :: _) _ _); refine wpList_store_blk rfl 25 (.tmp 2) (.tmp 7) rfl 32 size26 w.heap.size (hEmpty.map B).toArray rfl rfl (by simp [Hrl.out]) (oneCell_B _) 25 _ k1 hzl ?_; simp only [Act.put]))
    refine bodyPost_ret (results_cell_row rfl _ _ w.heap.size 25 (hEmpty.map B).toArray (0, 0) _ rfl (k1.setRow_ _) Try.underlying25 rfl (by rw [show (hEmpty.map B).toArray.size = 32 by simp [Hrl.out]]; exact info26)) rfl ⟨rfl, ?_⟩
    exact below_setRow B1 (Nat.le_refl _) _
  by_cases hn1 : n = 1
  · subst hn1
    obtain ⟨x, rfl⟩ := List.length_eq_one_iff.1 Hlen.out
    obtain rfl : r = x := Hr.out.symm
    obtain ⟨b, o, rfl, -, -, hat⟩ := h0.at_ (by omega)
    have hld : (Instr.loadAt 25 (.pointer (some ⟨b, o, none⟩))).run Try.prog (w.alloc (.cells zs 25)) = .ok (.agg (r.map B).toArray) (w.alloc (.cells zs 25)) := hat 0 (by omega)
    have Hld := Lib.hid hld
    clear ih h h0 hat hld
    go_enter Try.func46, Try.ntmps46
    go_wp2_with (first
      | ((with_reducible show wpList _ _ _ (⟨some 2, .alloc _, _, _, _, _⟩ :: _) _ _); refine wpList_run rfl (.pointer (some ⟨w.heap.size, 0, none⟩)) (w.alloc (.cells zs 25)) (by rw [← Hzs.out]; rfl) ?_; simp only [Act.put])
      | ((with_reducible show wpList _ _ _ (⟨some 13, .load _ _, _, _, _, _⟩ :: _) _ _); refine wpList_load rfl 25 (.tmp 12) rfl b o rfl (r.map B).toArray Hld.out ?_; simp only [Act.put])
      | ((with_reducible show wpList _ _ _ (⟨none, .store _ _ _, _, _, _, _⟩ :: _) _ _); refine wpList_store_blk rfl 25 (.tmp 2) (.tmp 13) rfl 32 size26 w.heap.size (r.map B).toArray rfl rfl (by simp [Hrl.out]) (oneCell_B _) 25 _ k0 hzl ?_; simp only [Act.put]))
    refine bodyPost_ret (results_cell_row rfl _ _ w.heap.size 25 (r.map B).toArray (0, 0) _ rfl (k0.setRow_ _) Try.underlying25 rfl (by rw [show (r.map B).toArray.size = 32 by simp [Hrl.out]]; exact info26)) rfl ⟨rfl, ?_⟩
    exact below_setRow hb0 (Nat.le_refl _) _
  have hne0 : ((n : Int) == 0) = false := by simp; omega
  have hne1 : ((n : Int) == 1) = false := by simp; omega
  have hmore := rootL_more hs (by rw [Hlen.out]; omega)
  rw [Hlen.out, Hr.out] at hmore
  have hspl := fun w => rsplit_any (n : Int) w (by omega)
  rw [Int.toNat_natCast] at hspl
  have hsl := splitN_lt n (by omega)
  have hsp := splitN_pos n (by omega)
  obtain ⟨s, hs'⟩ : ∃ s, splitN n = s := ⟨_, rfl⟩
  rw [hs'] at hmore hspl hsl hsp
  have hL := fun W (hW : Below (w.alloc (.cells zs 25)).heap.size (w.alloc (.cells zs 25)) W) => ih s (by omega) (hs.take s) A s c W (Nat.le_refl _) ((h0.step hW).take s (by omega)) (by omega)
  have hR := fun W (hW : Below (w.alloc (.cells zs 25)).heap.size (w.alloc (.cells zs 25)) W) => ih (n - s) (by omega) (hs.drop s) _ (n - s) (c - s) W (Nat.le_refl _) ((h0.step hW).drop s (by omega)) (by omega)
  obtain ⟨x, hx⟩ : ∃ x, rootL (hs.take s) = x := ⟨_, rfl⟩
  obtain ⟨y, hy⟩ : ∃ y, rootL (hs.drop s) = y := ⟨_, rfl⟩
  have hxl : x.length = 32 := by rw [← hx]; exact length_rootL _ (h.all.take s)
  have hyl : y.length = 32 := by rw [← hy]; exact length_rootL _ (h.all.drop s)
  rw [hx] at hL hmore
  rw [hy] at hR hmore
  have hN := fun W => hrnode_any x y W hxl hyl
  rw [← hmore] at hN
  have Hspl := Lib.hid hspl
  have HL := Lib.hid hL
  have HR := Lib.hid hR
  have HN := Lib.hid hN
  clear hspl hL hR hN hx hy hxl hyl hmore hs' ih h
  go_enter Try.func46, Try.ntmps46
  go_wp2_with (first
    | ((with_reducible show wpList _ _ _ (⟨some 2, .alloc _, _, _, _, _⟩ :: _) _ _); refine wpList_run rfl (.pointer (some ⟨w.heap.size, 0, none⟩)) (w.alloc (.cells zs 25)) (by rw [← Hzs.out]; rfl) ?_; simp only [Act.put])
    | (go_at_call 77; refine (Hspl.out _).mono ?_; rintro e w1 ⟨rfl, rfl⟩))
  generalize w.alloc (.cells zs 25) = w1 at hb0 k0 h0 HL HR ⊢
  have hS : Below w1.heap.size w1 w1.drew := (Below.refl _ _).drew
  refine wp_region_mix_last (fun W => Below w1.heap.size w1 W) 9 [(0, true), (1, true), (2, true), (4, true), (5, true), (6, true), (3, false), (7, false), (8, false)] (by kernel_rfl) (by kernel_rfl) hS fun _ => ?_
  simp only [List.map_cons, List.map_nil, Array.getD_eq_getD_getElem?, List.getElem?_toArray, List.getElem?_cons_succ, List.getElem?_cons_zero, Option.getD_some]
  generalize w1.drew = W0 at hS ⊢
  refine wpMix_s (fun K hK => ?_)
  go_simp
  refine hK _ ?_
  clear hK K
  refine wpMix_s (fun K hK => ?_)
  go_simp
  refine hK _ ?_
  clear hK K
  refine wpMix_v (by kernel_rfl) (.slice A s c) (fun u => run_slice_op_hi (.tmp 17) (.tmp 18) rfl A n c s rfl rfl (by omega) u.W) ?_
  simp only [Act.put]
  refine wpMix_s (fun K hK => ?_)
  go_simp
  refine hK _ ?_
  clear hK K
  refine wpMix_s (fun K hK => ?_)
  go_simp
  refine hK _ ?_
  clear hK K
  refine wpMix_v (by kernel_rfl) (.slice (if c = s then A else A.map (·.add (s * 32))) (n - s) (c - s)) (fun u => run_slice_op_lo (.tmp 21) (.tmp 22) rfl A n c s rfl rfl (by omega) u.W) ?_
  simp only [Act.put]
  refine wpMix_c (fun K hK => ?_) hS
  go_simp
  refine (HL.out W0 hS).mono ?_
  rintro e W1 ⟨rfl, hb'⟩
  refine hK _ _ ?_
  clear hK K
  replace hS := hS.trans (hb'.mono hS.size)
  refine ⟨hS, ?_⟩
  clear hb'
  refine wpMix_c (fun K hK => ?_) hS
  go_simp
  refine (HR.out W1 hS).mono ?_
  rintro e W2 ⟨rfl, hb'⟩
  refine hK _ _ ?_
  clear hK K
  replace hS := hS.trans (hb'.mono hS.size)
  refine ⟨hS, ?_⟩
  clear hb'
  refine wpMix_c (fun K hK => ?_) hS
  go_simp
  refine (HN.out W2).mono ?_
  rintro e W3 ⟨rfl, hb'⟩
  refine hK _ _ ?_
  clear hK K
  replace hS := hS.trans (hb'.mono hS.size)
  refine ⟨hS, ?_⟩
  clear hb'
  refine wpMix_nil ?_
  intro _
  simp only [List.drop_succ_cons, List.drop_zero]
  have k3 := k0.below hS k0.lt
  go_wp2_with ((with_reducible show wpList _ _ _ (⟨none, .store _ _ _, _, _, _, _⟩ :: _) _ _); refine wpList_store_blk rfl 25 (.tmp 2) (.tmp 25) rfl 32 size26 w.heap.size (r.map B).toArray rfl rfl (by simp [Hrl.out]) (oneCell_B _) 25 _ k3 hzl ?_; simp only [Act.put])
  refine np_normal ?_
  go_wp2_with fail
  refine bodyPost_ret (results_cell_row rfl _ _ w.heap.size 25 (r.map B).toArray (0, 0) _ rfl (k3.setRow_ _) Try.underlying25 rfl (by rw [show (r.map B).toArray.size = 32 by simp [Hrl.out]]; exact info26)) rfl ⟨rfl, ?_⟩
  exact below_setRow (hb0.trans (hS.mono hb0.size)) (Nat.le_refl _) _
theorem rof_any (hs : List (List UInt8)) (A : Option Addr) (n c : Nat) (w : World) (h : Hs w (fun _ => True) A n c hs) (hn : n ≤ 4398046511104) :
    Calls Try.prog 46 #[.slice A n c] w fun e w' => e = .returned (.agg ((rootL hs).map B).toArray) ∧ Below w.heap.size w w' := rof_rec n hs A n c w (Nat.le_refl _) h hn
end Go.Proofs.Ytonidnfgneokbaa
