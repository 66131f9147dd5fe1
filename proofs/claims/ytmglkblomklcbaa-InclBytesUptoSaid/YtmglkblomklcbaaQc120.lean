/- tree.Each. -/
import Derived.Test.YtmglkblomklcbaaQc119
import Derived.Test.YtmglkblomklcbaaQc114
import Derived.Test.YtmglkblomklcbaaQc116
import Derived.Test.YtmglkblomklcbaaQc111
namespace Go.Proofs.Ytmglkblomklcbaa
open Go Go.RowKit

set_option maxHeartbeats 2000000 in
set_option maxRecDepth 100000 in
theorem each_any (hs : List (List UInt8)) (l : List (Int × Int)) (A : Option Addr) (n c : Nat) (Ar : Option Addr) (nr cr : Nat) (w : World) (h : Hs w (fun _ => True) A n c hs) (hr : Rs w (fun _ => True) Ar nr cr l) (hn : n ≤ 1099511627776) (hnr : nr ≤ 1099511627776) :
    Calls Try.prog 38 #[.slice A n c, .slice Ar nr cr] w fun e w' => ∃ (A' : Option Addr) (c' : Nat) (Ar' : Option Addr) (cr' : Nat), e = .returned (.func (.func 52) #[] #[.pointer (some ⟨w.heap.size + 1, 0, none⟩), .pointer (some ⟨w.heap.size, 0, none⟩)]) ∧
      Blk w' (w.heap.size + 1) 79 #[.slice Ar' nr cr'] ∧ Blk w' w.heap.size 22 #[.slice A' n c'] ∧ Hs w' (w.heap.size + 1 < ·) A' n c' hs ∧ Rs w' (w.heap.size + 1 < ·) Ar' nr cr' l ∧ Below w.heap.size w w' := by
  obtain ⟨w2, hw2⟩ : ∃ w2, (w.alloc (.cells #[.slice A n c] 22)).alloc (.cells #[.slice Ar nr cr] 79) = w2 := ⟨_, rfl⟩
  have hb2 : Below w.heap.size w w2 := by rw [← hw2]; exact ((Below.refl _ _).alloc (Nat.le_refl _) _).alloc (by simp) _
  have hsz : w2.heap.size = w.heap.size + 1 + 1 := by rw [← hw2]; simp
  have k2 : Blk w2 w.heap.size 22 #[.slice A n c] := by rw [← hw2]; exact (Blk.new _ _ _).alloc _
  have k3 : Blk w2 (w.heap.size + 1) 79 #[.slice Ar nr cr] := by rw [← hw2]; exact Blk.new' _ _ _ _ (by simp)
  have h2 := h.step hb2
  have hr2 := hr.step hb2
  have Hw2 := Lib.hid hw2
  clear hw2 h hr
  go_enter Try.func38, Try.ntmps38
  go_wp2_with fail
  rw [Hw2.out]
  have hh0 : Hs w2.drew (fun _ => True) A n c hs := h2.drew
  have hr0 : Rs w2.drew (fun _ => True) Ar nr cr l := hr2.drew
  have hsz0 : w2.drew.heap.size = w.heap.size + 1 + 1 := hsz
  have c2 : ∀ s : InC (fun W => Below w2.heap.size w2 W), s.W.cell? ⟨w.heap.size, 0, none⟩ = some (.slice A n c) := fun s => by rw [(k2.below s.ok (show w.heap.size < w2.heap.size by omega)).cell]; rfl
  have c3 : ∀ s : InC (fun W => Below w2.heap.size w2 W), s.W.cell? ⟨w.heap.size + 1, 0, none⟩ = some (.slice Ar nr cr) := fun s => by rw [(k3.below s.ok (show w.heap.size + 1 < w2.heap.size by omega)).cell]; rfl
  replace k2 : Blk w2.drew w.heap.size 22 #[.slice A n c] := k2
  replace k3 : Blk w2.drew (w.heap.size + 1) 79 #[.slice Ar nr cr] := k3
  clear h2 hr2
  have hS : Below w2.heap.size w2 w2.drew := (Below.refl _ _).drew
  refine wp_region_mix_tail (fun W => Below w2.heap.size w2 W) 4 [(0, true), (2, true), (1, false), (3, false)] (by kernel_rfl) (by kernel_rfl) hS fun _ => ?_
  simp only [List.map_cons, List.map_nil, Array.getD_eq_getD_getElem?, List.getElem?_toArray, List.getElem?_cons_succ, List.getElem?_cons_zero, Option.getD_some]
  generalize w2.drew = W0 at hS hh0 hr0 hsz0 k2 k3 ⊢
  refine wpMix_s (fun K hK => ?_)
  go_simp
  refine hK _ ?_
  clear hK K
  refine wpMix_s (fun K hK => ?_)
  go_simp
  refine hK _ ?_
  clear hK K
  refine wpMix_c (fun K hK => ?_) hS
  go_simp
  refine (cloneh_any hs A n c W0 hh0 hn).mono ?_
  rintro e W0_1 ⟨A1, c1, rfl, hh1, hb'⟩
  refine hK _ _ ?_
  clear hK K
  replace hS := hS.trans (hb'.mono hS.size)
  refine ⟨hS, ?_⟩
  have h3 := hr0.step hb'
  replace k2 := k2.step hb'
  replace k3 := k3.step hb'
  have hsW := hb'.size
  clear hb' hh0 hr0
  refine wpMix_c (fun K hK => ?_) hS
  go_simp
  refine (cloner_any l Ar nr cr W0_1 h3 hnr).mono ?_
  rintro e W0_2 ⟨A2, c2, rfl, hr1, hb'⟩
  refine hK _ _ ?_
  clear hK K
  replace hS := hS.trans (hb'.mono hS.size)
  refine ⟨hS, ?_⟩
  replace hh1 := hh1.step hb'
  replace k2 := k2.step hb'
  replace k3 := k3.step hb'
  have hsW2 := hb'.size
  clear hb' h3
  have d2 : W0_2.cell? ⟨w.heap.size, 0, none⟩ = some (.slice A n c) := by rw [k2.cell]; rfl
  have d3 : W0_2.cell? ⟨w.heap.size + 1, 0, none⟩ = some (.slice Ar nr cr) := by rw [k3.cell]; rfl
  have f2 := k2.frozen 0
  have f3 := k3.frozen 0
  refine wpMix_nil ?_
  intro _
  simp only [List.drop_succ_cons, List.drop_zero]
  generalize W0_2 = W9 at *
  go_wp2_with fail
  refine np_normal ?_
  have m2 : Blk ((W9.setCell ⟨w.heap.size, 0, none⟩ (.slice A1 n c1)).setCell ⟨w.heap.size + 1, 0, none⟩ (.slice A2 nr c2)) w.heap.size 22 #[.slice A1 n c1] := (k2.set_ 0 _).apart (by simp) _
  have m3 : Blk ((W9.setCell ⟨w.heap.size, 0, none⟩ (.slice A1 n c1)).setCell ⟨w.heap.size + 1, 0, none⟩ (.slice A2 nr c2)) (w.heap.size + 1) 79 #[.slice A2 nr c2] := (k3.apart (by simp) _).set_ 0 _
  have mh : Hs ((W9.setCell ⟨w.heap.size, 0, none⟩ (.slice A1 n c1)).setCell ⟨w.heap.size + 1, 0, none⟩ (.slice A2 nr c2)) (w.heap.size + 1 < ·) A1 n c1 hs :=
    ((hh1.weak (Y := (w.heap.size + 1 < ·)) fun b _ hb => by omega).grown (grownBy_setCell' W9 _ _) fun b _ hx e => by cases e; omega).grown (grownBy_setCell' _ _ _) fun b _ hx e => by cases e; omega
  have mr : Rs ((W9.setCell ⟨w.heap.size, 0, none⟩ (.slice A1 n c1)).setCell ⟨w.heap.size + 1, 0, none⟩ (.slice A2 nr c2)) (w.heap.size + 1 < ·) A2 nr c2 l :=
    ((hr1.weak (Y := (w.heap.size + 1 < ·)) fun b _ hb => by omega).grown (grownBy_setCell' W9 _ _) fun b _ hx e => by cases e; omega).grown (grownBy_setCell' _ _ _) fun b _ hx e => by cases e; omega
  have mb : Below w.heap.size w ((W9.setCell ⟨w.heap.size, 0, none⟩ (.slice A1 n c1)).setCell ⟨w.heap.size + 1, 0, none⟩ (.slice A2 nr c2)) := ((hb2.trans (hS.mono hb2.size)).setCell (by simp) _).setCell (by simp) _
  generalize (W9.setCell ⟨w.heap.size, 0, none⟩ (.slice A1 n c1)).setCell ⟨w.heap.size + 1, 0, none⟩ (.slice A2 nr c2) = W10 at *
  clear k2 k3 d2 d3 f2 f3 hh1 hr1 hS
  go_wp2_with fail
  go_ret
  exact ⟨_, _, _, _, rfl, m3, m2, mh, mr, mb⟩
end Go.Proofs.Ytmglkblomklcbaa
/- The plain law of tree.Roots: the whole stretches of one entry more. -/
namespace Go.Proofs.Ytmglkblomklcbaa
open Go Go.RowKit

theorem pow_split (d : Nat) : ∀ (m t a : Nat), m ≤ d → wholeL a (2 * m * 2 ^ t + 2 ^ t) = wholeL a (2 * m * 2 ^ t) ++ [(a + 2 * m * 2 ^ t, a + 2 * m * 2 ^ t + 2 ^ t)] := by
  induction d with
  | zero =>
    intro m t a h
    obtain rfl : m = 0 := by omega
    have hp := Nat.two_pow_pos t
    rw [show 2 * 0 * 2 ^ t = 0 by simp, Nat.zero_add, wholeL_zero, wholeL_more a _ (by omega), Nat.log2_two_pow, Nat.sub_self, wholeL_zero]
    rfl
  | succ d ih =>
    intro m t a h
    by_cases hm : m = 0
    · subst hm
      exact ih 0 t a (by omega)
    · have hp := Nat.two_pow_pos t
      have hpos : 2 * m * 2 ^ t ≠ 0 := Nat.mul_ne_zero (by omega) (by omega)
      obtain ⟨j, hj⟩ : ∃ j, (2 * m).log2 = j := ⟨_, rfl⟩
      have h2m : 2 * m ≠ 0 := by omega
      have j1 : 2 ^ j ≤ 2 * m := by rw [← hj]; exact Nat.log2_self_le h2m
      have j2 : 2 * m < 2 ^ (j + 1) := by rw [← hj]; exact Nat.lt_log2_self
      obtain ⟨i, rfl⟩ : ∃ i, j = i + 1 := by
        refine ⟨j - 1, ?_⟩
        rcases Nat.eq_zero_or_pos j with h0 | h0
        · subst h0; rw [show 2 ^ (0 + 1) = 2 from rfl] at j2; omega
        · omega
      have j3 : 2 * m + 2 ≤ 2 ^ (i + 1 + 1) := by rw [Nat.pow_succ] at j2 ⊢; omega
      have l1 : (2 * m * 2 ^ t).log2 = i + 1 + t := (Nat.log2_eq_iff hpos).2 ⟨by rw [Nat.pow_add]; exact Nat.mul_le_mul_right _ j1, by
        rw [show i + 1 + t + 1 = (i + 1 + 1) + t by omega, Nat.pow_add]; exact Nat.mul_lt_mul_of_pos_right j2 hp⟩
      have l2 : (2 * m * 2 ^ t + 2 ^ t).log2 = i + 1 + t := (Nat.log2_eq_iff (by omega)).2 ⟨Nat.le_trans (by rw [Nat.pow_add]; exact Nat.mul_le_mul_right _ j1) (Nat.le_add_right _ _), by
        rw [show i + 1 + t + 1 = (i + 1 + 1) + t by omega, Nat.pow_add]
        have := Nat.mul_le_mul_right (2 ^ t) j3
        rw [Nat.add_mul] at this
        omega⟩
      rw [wholeL_more a (2 * m * 2 ^ t + 2 ^ t) (by omega), wholeL_more a (2 * m * 2 ^ t) hpos, l1, l2]
      have hi2 : 2 ^ (i + 1 + t) = 2 * 2 ^ i * 2 ^ t := by rw [Nat.pow_add, Nat.pow_succ]; rw [Nat.mul_comm (2 ^ i) 2]
      have him : 2 ^ i ≤ m := by rw [Nat.pow_succ] at j1; omega
      have hsub : 2 * m * 2 ^ t - 2 ^ (i + 1 + t) = 2 * (m - 2 ^ i) * 2 ^ t := by
        rw [hi2, ← Nat.sub_mul, ← Nat.mul_sub]
      have hle : 2 ^ (i + 1 + t) ≤ 2 * m * 2 ^ t := by rw [hi2]; exact Nat.mul_le_mul_right _ (Nat.mul_le_mul_left _ him)
      have hi := ih (m - 2 ^ i) t (a + 2 ^ (i + 1 + t)) (by have := Nat.two_pow_pos i; omega)
      rw [Nat.sub_add_comm hle, hsub, hi, List.cons_append, ← hsub]
      congr 3
      rw [Prod.mk.injEq]
      constructor <;> omega
theorem whole_low (k t : Nat) (h : k % 2 = 0) : wholeL 0 (k * 2 ^ t + 2 ^ t) = wholeL 0 (k * 2 ^ t) ++ [(k * 2 ^ t, k * 2 ^ t + 2 ^ t)] := by
  have := pow_split (k / 2) (k / 2) t 0 (Nat.le_refl _)
  rw [show 2 * (k / 2) = k by omega, Nat.zero_add] at this
  exact this
/-- two stretches of a power's length, side by side -/
theorem stretch_join (hs : List (List UInt8)) (a t : Nat) (h : a + 2 ^ t + 2 ^ t ≤ hs.length) : stretchL hs a (a + 2 ^ t + 2 ^ t) = hNode (stretchL hs a (a + 2 ^ t)) (stretchL hs (a + 2 ^ t) (a + 2 ^ t + 2 ^ t)) := by
  have hp := Nat.two_pow_pos t
  have hs2 := splitN_eq (2 ^ t + 2 ^ t) t (by omega) (by rw [Nat.pow_succ]; omega)
  generalize 2 ^ t = p at *
  unfold stretchL
  rw [show a + p + p - a = p + p by omega, show a + p - a = p by omega, show a + p + p - (a + p) = p by omega]
  have hlen : ((hs.drop a).take (p + p)).length = p + p := by rw [List.length_take, List.length_drop]; omega
  rw [rootL_more ((hs.drop a).take (p + p)) (by rw [hlen]; omega), hlen, hs2, List.take_take, Nat.min_eq_left (by omega), List.drop_take, List.drop_drop, show p + p - p = p by omega]
theorem stretch_one (hs : List (List UInt8)) (i : Nat) (h : i < hs.length) : stretchL hs i (i + 1) = hs.getD i [] := by
  unfold stretchL
  rw [show i + 1 - i = 1 by omega, List.drop_eq_getElem_cons h, List.getD_eq_getElem?_getD, List.getElem?_eq_getElem h]
  rfl
/-- the roots of all heads -/
def headsL (hs : List (List UInt8)) (k : Nat) : List (List UInt8) := (List.range (k + 1)).map fun i => rootL (hs.take i)
theorem headsL_zero (hs : List (List UInt8)) : headsL hs 0 = [hEmpty] := rfl
theorem headsL_succ (hs : List (List UInt8)) (k : Nat) : headsL hs (k + 1) = headsL hs k ++ [rootL (hs.take (k + 1))] := by
  unfold headsL
  rw [List.range_succ, List.map_append]; rfl
theorem length_headsL (hs : List (List UInt8)) (k : Nat) : (headsL hs k).length = k + 1 := by simp [headsL]
theorem headsL_all (hs : List (List UInt8)) (h : H32 hs) (k : Nat) : H32 (headsL hs k) := fun x hx => by
  obtain ⟨i, _, rfl⟩ := List.mem_map.1 hx
  exact length_rootL _ (h.take i)
theorem headsL_getD (hs : List (List UInt8)) (k i : Nat) (h : i ≤ k) : (headsL hs k).getD i [] = rootL (hs.take i) := by
  rw [headsL, List.getD_eq_getElem?_getD, List.getElem?_map, List.getElem?_range (by omega)]; rfl
theorem foldR_head (hs : List (List UInt8)) (k : Nat) (h : k < hs.length) : foldR (rootsL hs (wholeL 0 (k + 1))) = rootL (hs.take (k + 1)) := by
  rw [foldR_whole (k + 1) (k + 1) 0 hs (Nat.le_refl _) (by omega) (by omega), List.drop_zero]
end Go.Proofs.Ytmglkblomklcbaa
/- tree.Roots. -/
namespace Go.Proofs.Ytmglkblomklcbaa
open Go Go.RowKit

theorem owns_some {w : World} {base n s : Nat} {e : TypeId} {v : Value} {xs : List Value} (h : w.ownsRow base e s v n xs) (hn : 0 < n) : ∃ g c, v = .slice (some ⟨g, 0, none⟩) n c := by
  rcases h.2 with ⟨hv, h0⟩ | ⟨g', cap, cur, hv', _⟩
  · omega
  · exact ⟨g', cap, hv'⟩
theorem owns_fewerT {w : World} {base g n m c s : Nat} {e : TypeId} {xs : List Value} (h : w.ownsRow base e s (.slice (some ⟨g, 0, none⟩) m c) m xs) (hn : n ≤ m) :
    w.ownsRow base e s (.slice (some ⟨g, 0, none⟩) n c) n (xs.take (n * s)) := by
  have hl := h.1
  have hns : n * s ≤ m * s := Nat.mul_le_mul_right _ hn
  refine ⟨by rw [List.length_take, hl]; omega, ?_⟩
  rcases h.2 with ⟨hv, _⟩ | ⟨g', cap, cur, hv', hbg, hg, hnc, hcm, hcs, ht⟩
  · cases hv
  · cases hv'
    exact .inr ⟨g, c, cur, rfl, hbg, hg, by omega, hcm, hcs, by rw [← ht, List.take_take, Nat.min_eq_left hns]⟩
/-- one hash more -/
theorem append_hR {w : World} {base : Nat} {v : Value} {l : List (List UInt8)} (h : w.ownsRow base 45 32 v l.length (hcells l)) (x : List UInt8) (hx : x.length = 32) (hn : l.length ≤ 1000000000) (hb : base ≤ w.heap.size) :
    ∃ v' w', (Builtin.append_ #[22, 22] 22 #[v, .slice (some ⟨w.heap.size, 0, none⟩) 1 1]).run Try.prog (w.alloc (.cells (hcells [x]).toArray 45)) = .ok v' w' ∧
      w'.ownsRow base 45 32 v' (l ++ [x]).length (hcells (l ++ [x])) ∧ w.grownBy w' v.ownBlock ∧ (v'.ownBlock = v.ownBlock ∨ ∃ k, v'.ownBlock = some k ∧ w.heap.size ≤ k) := by
  have h32 : H32 [x] := by intro h hh; rw [List.mem_singleton.1 hh]; exact hx
  have hbA : Below w.heap.size w (w.alloc (.cells (hcells [x]).toArray 45)) := (Below.refl _ _).alloc (Nat.le_refl _) _
  obtain ⟨v', w', hr, ho, hg, hf⟩ := append_slv (ty := 22) Try.underlying22 info26z (by simp [Value.cells]) (by decide) (owns_step h hbA) (Hs.lit w [x] h32 (by simp) 1 rfl).sl (oneB _) (by unfold maxLen; omega) (by omega) (Nat.le_trans hb hbA.size)
  rw [← hcells_append] at ho
  refine ⟨v', w', hr, by rw [List.length_append]; exact ho, ⟨hg.os, hg.tape, hg.output, Nat.le_trans hbA.size hg.size, fun k hk hne => ?_⟩, ?_⟩
  · rw [hg.block k (Nat.lt_of_lt_of_le hk hbA.size) hne, hbA.block k hk]
  · rcases hf with hf | ⟨k, hf, hk⟩
    · exact .inl hf
    · exact .inr ⟨k, hf, by have := hbA.size; omega⟩

/-- between two rounds of the carry -/
def CarryP (hs : List (List UInt8)) (i k t : Nat) (ss : List (List UInt8)) (x : List UInt8) : Prop := k * 2 ^ t + 2 ^ t = i + 1 ∧ ss = rootsL hs (wholeL 0 (k * 2 ^ t)) ∧ x = stretchL hs (k * 2 ^ t) (k * 2 ^ t + 2 ^ t)
theorem CarryP.start (hs : List (List UInt8)) (i : Nat) (h : i < hs.length) : CarryP hs i i 0 (rootsL hs (wholeL 0 i)) (hs.getD i []) := by
  refine ⟨by rw [Nat.pow_zero, Nat.mul_one], by rw [Nat.pow_zero, Nat.mul_one], ?_⟩
  rw [Nat.pow_zero, Nat.mul_one, stretch_one hs i h]
theorem CarryP.next {hs : List (List UInt8)} {i k t : Nat} {ss : List (List UInt8)} {x : List UInt8} (h : CarryP hs i k t ss x) (hk : k % 2 = 1) (hi : i < hs.length) : ∃ ss' y, ss = ss' ++ [y] ∧ CarryP hs i (k / 2) (t + 1) ss' (hNode y x) := by
  obtain ⟨h1, h2, h3⟩ := h
  have hl := whole_low (k - 1) t (by omega)
  have e0 : k * 2 ^ t = (k - 1) * 2 ^ t + 2 ^ t := by
    conv => lhs; rw [show k = (k - 1) + 1 by omega, Nat.add_mul, Nat.one_mul]
  have e1 : k / 2 * 2 ^ (t + 1) = (k - 1) * 2 ^ t := by
    rw [Nat.pow_succ, Nat.mul_comm (2 ^ t) 2, ← Nat.mul_assoc, show k / 2 * 2 = k - 1 by omega]
  have e2 : 2 ^ (t + 1) = 2 ^ t + 2 ^ t := by rw [Nat.pow_succ]; omega
  rw [e0] at h1 h2 h3
  rw [hl, rootsL, List.map_append] at h2
  refine ⟨_, _, h2, ?_⟩
  unfold CarryP
  rw [e1, e2]
  refine ⟨by omega, rfl, ?_⟩
  rw [h3, ← Nat.add_assoc]
  exact (stretch_join hs ((k - 1) * 2 ^ t) t (by omega)).symm
theorem CarryP.done {hs : List (List UInt8)} {i k t : Nat} {ss : List (List UInt8)} {x : List UInt8} (h : CarryP hs i k t ss x) (hk : k % 2 = 0) : ss ++ [x] = rootsL hs (wholeL 0 (i + 1)) := by
  obtain ⟨h1, h2, h3⟩ := h
  have hl := whole_low k t hk
  rw [h1] at hl h3
  rw [hl, rootsL, List.map_append, h2, h3]
  rfl
theorem CarryP.len {hs : List (List UInt8)} {i k t : Nat} {ss : List (List UInt8)} {x : List UInt8} (h : CarryP hs i k t ss x) (h32 : H32 hs) : x.length = 32 := by rw [h.2.2]; exact length_stretchL hs _ _ h32
theorem CarryP.all {hs : List (List UInt8)} {i k t : Nat} {ss : List (List UInt8)} {x : List UInt8} (h : CarryP hs i k t ss x) (h32 : H32 hs) : H32 ss := by rw [h.2.1]; exact rootsL_all hs h32 _

structure RtC (w : World) (A : Option Addr) (n c : Nat) (hs : List (List UInt8)) (ov : Value) (os : List (List UInt8)) (sv : Value) (ss : List (List UInt8)) (W : World) : Prop where
  src : Hs W (fun b => b < w.heap.size) A n c hs
  out : W.ownsRow w.heap.size 45 32 ov os.length (hcells os)
  st : W.ownsRow w.heap.size 45 32 sv ss.length (hcells ss)
  ne : ∀ b, sv.ownBlock = some b → ov.ownBlock = some b → False
  bel : Below w.heap.size w W
section
variable {w : World} {A : Option Addr} {n c : Nat} {hs : List (List UInt8)} {ov sv : Value} {os ss : List (List UInt8)} {W W' : World}
theorem RtC.step (h : RtC w A n c hs ov os sv ss W) (hb : Below W.heap.size W W') : RtC w A n c hs ov os sv ss W' :=
  ⟨h.src.step hb, owns_step h.out hb, owns_step h.st hb, h.ne, h.bel.trans (hb.mono h.bel.size)⟩
theorem RtC.drew (h : RtC w A n c hs ov os sv ss W) : RtC w A n c hs ov os sv ss W.drew := h.step (Below.refl _ _).drew
theorem RtC.appSt (h : RtC w A n c hs ov os sv ss W) {v' : Value} {x : List UInt8} (hg : W.grownBy W' sv.ownBlock) (hf : v'.ownBlock = sv.ownBlock ∨ ∃ k, v'.ownBlock = some k ∧ W.heap.size ≤ k)
    (ho : W'.ownsRow w.heap.size 45 32 v' (ss ++ [x]).length (hcells (ss ++ [x]))) : RtC w A n c hs ov os v' (ss ++ [x]) W' := by
  refine ⟨h.src.grown hg ?_, h.out.kept hg ?_, ho, ?_, h.bel.grown hg h.bel.size fun k hk => (h.st.lt k hk).1⟩
  · intro b _ hx e; have := (h.st.lt _ e.symm).1; omega
  · cases e : ov.ownBlock with
    | none => exact .inl rfl
    | some b => exact .inr fun e2 => h.ne b e2.symm e
  · intro b h1 h2
    rcases hf with hf | ⟨k, hf, hk⟩
    · exact h.ne b (hf ▸ h1) h2
    · rw [hf] at h1; cases h1; have := (h.out.lt _ h2).2; omega
theorem RtC.appOut (h : RtC w A n c hs ov os sv ss W) {v' : Value} {x : List UInt8} (hg : W.grownBy W' ov.ownBlock) (hf : v'.ownBlock = ov.ownBlock ∨ ∃ k, v'.ownBlock = some k ∧ W.heap.size ≤ k)
    (ho : W'.ownsRow w.heap.size 45 32 v' (os ++ [x]).length (hcells (os ++ [x]))) : RtC w A n c hs v' (os ++ [x]) sv ss W' := by
  refine ⟨h.src.grown hg ?_, ho, h.st.kept hg ?_, ?_, h.bel.grown hg h.bel.size fun k hk => (h.out.lt k hk).1⟩
  · intro b _ hx e; have := (h.out.lt _ e.symm).1; omega
  · cases e : sv.ownBlock with
    | none => exact .inl rfl
    | some b => exact .inr fun e2 => h.ne b e e2.symm
  · intro b h1 h2
    rcases hf with hf | ⟨k, hf, hk⟩
    · exact h.ne b h1 (hf ▸ h2)
    · rw [hf] at h2; cases h2; have := (h.st.lt _ h1).2; omega
theorem RtC.setRow (h : RtC w A n c hs ov os sv ss W) {g : Nat} (cs : Array Value) (hg : w.heap.size ≤ g) (h1 : sv.ownBlock ≠ some g) (h2 : ov.ownBlock ≠ some g) : RtC w A n c hs ov os sv ss (W.setRow g cs) := by
  have hgr : W.grownBy (W.setRow g cs) (some g) := grown_setRow ⟨rfl, rfl, rfl, Nat.le_refl _, fun _ _ _ => rfl⟩ cs
  exact ⟨h.src.setRow g cs (by omega), h.out.kept hgr (.inr h2), h.st.kept hgr (.inr h1), h.ne, below_setRow h.bel hg _⟩
/-- the last of the stack goes -/
theorem RtC.pop {g p c' : Nat} {y : List UInt8} (h : RtC w A n c hs ov os (.slice (some ⟨g, 0, none⟩) (p + 1) c') (ss ++ [y]) W) (hl : ss.length = p) (h32 : H32 (ss ++ [y])) : RtC w A n c hs ov os (.slice (some ⟨g, 0, none⟩) p c') ss W := by
  refine ⟨h.src, h.out, ?_, fun b h1 h2 => h.ne b h1 h2, h.bel⟩
  have h1 := h.st
  rw [show (ss ++ [y]).length = p + 1 by rw [List.length_append, hl]; rfl] at h1
  have h2 := owns_fewerT (n := p) h1 (by omega)
  rw [hcells_take _ h32 p (by rw [List.length_append, hl]; simp), show (ss ++ [y]).take p = ss by rw [← hl]; simp] at h2
  rw [hl]
  exact h2
end

end Go.Proofs.Ytmglkblomklcbaa
/- What is known between the statements of notarylaw09.TreeEach. -/
namespace Go.Proofs.Ytmglkblomklcbaa
open Go Go.RowKit

theorem grownBy_setRowE (W : World) (g : Nat) (cs : Array Value) : W.grownBy (W.setRow g cs) (some g) := ⟨rfl, rfl, rfl, by simp, fun k _ hne => setRow_other W g k cs (fun e => hne (by rw [e]))⟩
structure TeA (w : World) (hs : List (List UInt8)) (l : List (Int × Int)) (A : Option Addr) (n c : Nat) (Ar : Option Addr) (nr cr : Nat) (lv : Int) (A2 : Option Addr) (c2 : Nat) (Ar2 : Option Addr) (cr2 G Z : Nat) (W : World) : Prop where
  b3 : Blk W w.heap.size 22 #[.slice A n c]
  b5 : Blk W (w.heap.size + 1) 3 #[.int .i64 lv]
  b6 : Blk W (w.heap.size + 1 + 1) 4 #[.bool false]
  src : Hs W (· < w.heap.size) A n c hs
  rs : Rs W (· < w.heap.size) Ar nr cr l
  e1 : Blk W (G + 1) 79 #[.slice Ar2 nr cr2]
  e2 : Blk W G 22 #[.slice A2 n c2]
  eh : Hs W (fun b => G + 1 < b ∧ b < Z) A2 n c2 hs
  er : Rs W (fun b => G + 1 < b ∧ b < Z) Ar2 nr cr2 l
  bel : Below w.heap.size w W
  sz : Z ≤ W.heap.size
  gs : w.heap.size + 1 + 1 + 1 ≤ G
  gz : G + 1 < Z
section
variable {w : World} {hs : List (List UInt8)} {l : List (Int × Int)} {A : Option Addr} {n c : Nat} {Ar : Option Addr} {nr cr : Nat} {lv : Int} {A2 : Option Addr} {c2 : Nat} {Ar2 : Option Addr} {cr2 G Z : Nat} {W W' : World}
theorem TeA.grown {row : Option Nat} (h : TeA w hs l A n c Ar nr cr lv A2 c2 Ar2 cr2 G Z W) (hg : W.grownBy W' row) (hr : ∀ r, row = some r → (w.heap.size + 1 + 1 + 1 ≤ r ∧ r < G) ∨ Z ≤ r) : TeA w hs l A n c Ar nr cr lv A2 c2 Ar2 cr2 G Z W' := by
  have h1 := h.gs
  have h2 := h.gz
  have hlo : ∀ g, g < w.heap.size + 1 + 1 + 1 → some g ≠ row := fun g hg e => by have := hr g e.symm; omega
  have hhi : ∀ g, G ≤ g → g < Z → some g ≠ row := fun g hg h e => by have := hr g e.symm; omega
  exact ⟨h.b3.grown hg (hlo _ (by omega)), h.b5.grown hg (hlo _ (by omega)), h.b6.grown hg (hlo _ (by omega)), h.src.grown hg fun b _ hx => hlo b (by omega), h.rs.grown hg fun b _ hx => hlo b (by omega),
    h.e1.grown hg (hhi _ (by omega) (by omega)), h.e2.grown hg (hhi _ (by omega) (by omega)), h.eh.grown hg fun b _ hx => hhi b (by omega) hx.2, h.er.grown hg fun b _ hx => hhi b (by omega) hx.2,
    h.bel.grown hg h.bel.size fun k e => by have := hr k e; omega, Nat.le_trans h.sz hg.size, h.gs, h.gz⟩
theorem TeA.step (h : TeA w hs l A n c Ar nr cr lv A2 c2 Ar2 cr2 G Z W) (hb : Below W.heap.size W W') : TeA w hs l A n c Ar nr cr lv A2 c2 Ar2 cr2 G Z W' := h.grown (grown_of_below hb none) (fun r e => by cases e)
end
/-- the lent hashes, the lent stretches: rows of one's own -/
structure TeM (M gm n c' : Nat) (Ao : Option Addr) (nr co : Nat) (W : World) : Prop where
  m : ∃ xs, W.ownsRow M 45 32 (.slice (some ⟨gm, 0, none⟩) (n + 1) c') (n + 1) xs
  o : ∃ xs, W.ownsRow M 68 2 (.slice Ao nr co) nr xs
theorem TeM.grown {M gm n c' : Nat} {Ao : Option Addr} {nr co : Nat} {W W' : World} {row : Option Nat} (h : TeM M gm n c' Ao nr co W) (hg : W.grownBy W' row) (h1 : some gm ≠ row) (h2 : (Value.slice Ao nr co).ownBlock = none ∨ (Value.slice Ao nr co).ownBlock ≠ row) : TeM M gm n c' Ao nr co W' :=
  ⟨let ⟨xs, h⟩ := h.m; ⟨xs, h.kept hg (.inr h1)⟩, let ⟨xs, h⟩ := h.o; ⟨xs, h.kept hg h2⟩⟩
theorem TeM.step {M gm n c' : Nat} {Ao : Option Addr} {nr co : Nat} {W W' : World} (h : TeM M gm n c' Ao nr co W) (hb : Below W.heap.size W W') : TeM M gm n c' Ao nr co W' :=
  ⟨let ⟨xs, h⟩ := h.m; ⟨xs, owns_step h hb⟩, let ⟨xs, h⟩ := h.o; ⟨xs, owns_step h hb⟩⟩
theorem own_dec {v : Value} {row : Option Nat} {G Z : Nat} (hv : ∀ g, v.ownBlock = some g → g < G) (hr : ∀ r, row = some r → Z ≤ r) (hGZ : G ≤ Z) : v.ownBlock = none ∨ v.ownBlock ≠ row := by
  cases h : v.ownBlock with
  | none => exact .inl rfl
  | some g => exact .inr fun e => by have := hv g h; have := hr g e.symm; omega
/-- what is wanted, in a box -/
def TeW (gW : Nat) (q : List (Int × Int)) (W : World) : Prop := ∃ v, Blk W gW 79 #[v] ∧ W.ownsRow (gW + 1) 68 2 v q.length (rcells q)
theorem TeW.lt {gW : Nat} {q : List (Int × Int)} {W : World} (h : TeW gW q W) : gW + 1 ≤ W.heap.size := let ⟨_, h1, _⟩ := h; h1.lt
theorem TeW.step {gW : Nat} {q : List (Int × Int)} {W W' : World} (h : TeW gW q W) (hb : Below W.heap.size W W') : TeW gW q W' := let ⟨v, h1, h2⟩ := h; ⟨v, h1.step hb, owns_step h2 hb⟩
theorem TeW.grown {gW : Nat} {q : List (Int × Int)} {W W' : World} {row : Option Nat} (h : TeW gW q W) (hg : W.grownBy W' row) (hr : ∀ r, row = some r → r < gW) : TeW gW q W' :=
  let ⟨v, h1, h2⟩ := h
  ⟨v, h1.grown hg (fun e => by have := hr gW e.symm; omega), h2.kept hg (by
    cases hv : v.ownBlock with
    | none => exact .inl rfl
    | some g => exact .inr fun e => by have := (h2.lt g hv).1; have := hr g e.symm; omega)⟩
/-- one more is wanted -/
theorem TeW.more {gW : Nat} {q : List (Int × Int)} {W : World} {v : Value} (h2 : W.ownsRow (gW + 1) 68 2 v q.length (rcells q)) (hk : Blk W gW 79 #[v]) (x : Int × Int) (hq : q.length ≤ 1000000000) (hs : gW + 1 ≤ W.heap.size) :
    ∃ v' W', (Builtin.append_ #[79, 79] 79 #[v, .slice (some ⟨W.heap.size, 0, none⟩) 1 1]).run Try.prog (W.alloc (.cells #[.int .i64 x.1, .int .i64 x.2] 68)) = .ok v' W' ∧
      Blk W' gW 79 #[v] ∧ W'.ownsRow (gW + 1) 68 2 v' (q.length + 1) (rcells (q ++ [x])) ∧ W.grownBy W' v.ownBlock ∧ Below (gW + 1) W W' ∧ ∀ r, v.ownBlock = some r → gW + 1 ≤ r := by
  obtain ⟨v', W', hr, ho, hg, -⟩ := append_r h2 x hq hs
  refine ⟨v', W', hr, hk.grown hg (fun e => by have := (h2.lt gW e.symm).1; omega), ho, hg, (Below.refl _ _).grown hg hs (fun k e => (h2.lt k e).1), fun r e => (h2.lt r e).1⟩
theorem TeW.own {gW : Nat} {q : List (Int × Int)} {W W' : World} {row : Option Nat} (h : TeW gW q W) (hg : W.grownBy W' row) (hr : ∀ r, row = some r → ∃ o, W.heap[r]? = some o ∧ o.isCells = false) : TeW gW q W' :=
  let ⟨v, h1, h2⟩ := h
  ⟨v, h1.grown hg (fun e => by
    obtain ⟨o, ho, hc⟩ := hr gW e.symm
    rw [show W.heap[gW]? = _ from h1] at ho; cases ho; cases hc), h2.kept hg (by
    rcases h2.2 with ⟨rfl, _⟩ | ⟨g, cap, cur, rfl, _, hb, _⟩
    · exact .inl rfl
    · refine .inr fun e => ?_
      obtain ⟨o, ho, hc⟩ := hr g e.symm
      rw [show W.heap[g]? = _ from hb] at ho; cases ho; cases hc)⟩
/-- another cell is written -/
theorem TeW.cell {gW g : Nat} {q : List (Int × Int)} {W : World} {k : Value} (h : TeW gW q W) (hk : Blk W g 3 #[k]) (hne : g ≠ gW) (u : Value) : TeW gW q (W.setCell ⟨g, 0, none⟩ u) :=
  let ⟨v, h1, h2⟩ := h
  ⟨v, h1.apart (Ne.symm hne) u, h2.kept (grownBy_setCell' W g u) (by
    rcases h2.2 with ⟨rfl, _⟩ | ⟨g', cap, cur, rfl, _, hb, _⟩
    · exact .inl rfl
    · refine .inr fun e => ?_
      have e : g' = g := Option.some.inj e
      subst e
      rw [show W.heap[g']? = _ from hk] at hb
      cases hb)⟩
/-- within the turns: the turn's number, the round's number, the marks so far -/
structure TeQ (w : World) (hs : List (List UInt8)) (l : List (Int × Int)) (A : Option Addr) (n c : Nat) (Ar : Option Addr) (nr cr : Nat) (lv : Int) (A2 : Option Addr) (c2 : Nat) (Ar2 : Option Addr) (cr2 G Z gW gT gk t : Nat) (ds : List Nat) (k : Nat) (W : World) : Prop where
  a : TeA w hs l A n c Ar nr cr lv A2 c2 Ar2 cr2 G Z W
  wn : TeW gW (goodL hs l) W
  bT : Blk W gT 3 #[.int .i64 (t : Int)]
  bk : Blk W gk 3 #[.int .i64 (k : Int)]
  mks : MarksOk w.heap.size ds W
  zW : Z ≤ gW
  wT : gW < gT
  tk : gT < gk
section
variable {w : World} {hs : List (List UInt8)} {l : List (Int × Int)} {A : Option Addr} {n c : Nat} {Ar : Option Addr} {nr cr : Nat} {lv : Int} {A2 : Option Addr} {c2 : Nat} {Ar2 : Option Addr} {cr2 G Z gW gT gk t k B : Nat} {ds : List Nat} {W W' : World}
theorem TeQ.step (h : TeQ w hs l A n c Ar nr cr lv A2 c2 Ar2 cr2 G Z gW gT gk t ds k W) (hb : Below W.heap.size W W') : TeQ w hs l A n c Ar nr cr lv A2 c2 Ar2 cr2 G Z gW gT gk t ds k W' :=
  ⟨h.a.step hb, h.wn.step hb, h.bT.step hb, h.bk.step hb, h.mks.step hb, h.zW, h.wT, h.tk⟩
theorem TeQ.own (hB : gk < B) (hd : ∀ D ∈ ds, D < B) : OwnFrom B (fun k W => TeQ w hs l A n c Ar nr cr lv A2 c2 Ar2 cr2 G Z gW gT gk t ds k W) := fun k X Y row h hg hr => by
  have h1 := h.zW
  have h2 := h.wT
  have h3 := h.tk
  have h4 := h.a.sz
  have hne : ∀ g, g < B → some g ≠ row := fun g hg e => by have := (hr g e.symm).1; omega
  exact ⟨h.a.grown hg (fun r e => .inr (by have := (hr r e).1; omega)), h.wn.own hg (fun r e => (hr r e).2), h.bT.grown hg (hne _ (by omega)), h.bk.grown hg (hne _ hB), h.mks.grown hg (fun D hD => hne _ (hd D hD)), h1, h2, h3⟩
theorem TeQ.setk (h : TeQ w hs l A n c Ar nr cr lv A2 c2 Ar2 cr2 G Z gW gT gk t ds k W) (k' : Nat) : TeQ w hs l A n c Ar nr cr lv A2 c2 Ar2 cr2 G Z gW gT gk t ds k' (W.setCell ⟨gk, 0, none⟩ (.int .i64 (k' : Int))) := by
  have h1 := h.zW
  have h2 := h.wT
  have h3 := h.tk
  exact ⟨h.a.grown (grownBy_setCell' W gk _) (fun r e => by cases e; right; omega), h.wn.cell h.bk (by omega) _, h.bT.apart (by omega) _, h.bk.set_ 0 _, h.mks.cell h.bk _, h1, h2, h3⟩
end
end Go.Proofs.Ytmglkblomklcbaa
