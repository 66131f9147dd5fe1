/- notaryref12.Chain. -/
import Derived.Test.YtgcbdnoniikboaaQb131
namespace Go.Proofs.Ytgcbdnoniikboaa
open Go Go.RowKit Go.Shelf
attribute [local go_sem] Oper.semAt_some

/-- the number ahead of a place; none: nought -/
def ahead (s : List Int) : Nat → Int
  | 0 => 0
  | k + 1 => s.getD k 0
theorem okFrom_drop (n last : Int) (s : List Int) (k : Nat) (hk : k < s.length) : okFrom n last (s.drop k) = if s.getD k 0 < last ∨ n < s.getD k 0 then false else okFrom n (s.getD k 0) (s.drop (k + 1)) := by
  rw [List.drop_eq_getElem_cons hk, List.getD_eq_getElem?_getD, List.getElem?_eq_getElem hk]
  rfl

set_option maxHeartbeats 8000000 in
set_option maxRecDepth 100000 in
theorem rchain_any (hs : List (List UInt8)) (A : Option Addr) (n c : Nat) (s : List Int) (As : Option Addr) (ns cs : Nat) (w : World) (h : Hs w (fun _ => True) A n c hs) (h2 : SlV w (fun _ => True) As ns cs 1 (icells s)) (hsl : s.length = ns) (hn : n ≤ 1000) (hns : ns ≤ 1000) :
    Calls Try.prog 51 #[.slice A n c, .slice As ns cs] w fun e w' => ∃ v vs, e = .returned (.tuple #[v, .int .i64 (chainA hs s).2]) ∧ ChC w.heap.size (chainA hs s).1 (chainA hs s).1.length v vs w' ∧ Below w.heap.size w w' := by
  have hroom := h.sl.room
  have hmx := h.sl.max
  unfold maxLen at hmx
  have hroom2 := h2.room
  have hmx2 := h2.max
  unfold maxLen at hmx2
  have hlen := h.len
  obtain ⟨b, hb⟩ : ∃ b, okFrom n 0 s = b := ⟨_, rfl⟩
  obtain ⟨r, hr⟩ : ∃ r, chainA hs s = r := ⟨_, rfl⟩
  rw [hr]
  unfold chainA at hr
  rw [hlen, hb] at hr
  have Hb := Lib.hid hb
  have Hr := Lib.hid hr
  have Hlen := Lib.hid hlen
  have Hsl := Lib.hid hsl
  clear hb hr hlen hsl
  go_enter Try.func51, Try.ntmps51
  go_wp2_with fail
  go_loopw [6] (fun v6 wr => ∃ (k : Nat), k ≤ ns ∧ v6 = .int .i64 (k : Int) ∧ Below w.heap.size w wr ∧ 0 ≤ ahead s k ∧ okFrom n (ahead s k) (s.drop k) = b) (fun v6 _ => ns - (intOf v6).toNat)
  case atStart => exact ⟨0, Nat.zero_le _, rfl, Below.refl _ _, Int.le_refl _, Hb.out⟩
  case round =>
    obtain ⟨k, hk, rfl, hbr, hl0, hok⟩ := hrel
    by_cases hkn : k < ns
    · have hd : decide ((k : Int) < (ns : Int)) = true := by simp; omega
      obtain ⟨bs, os, rfl, hbb, -, -⟩ := h2.at_ (by omega) (by decide)
      replace hbb := Nat.lt_of_lt_of_le hbb hbr.size
      have hc0 := icell_at (h2.step hbr) Hsl.out rfl k hkn
      obtain ⟨last, hla⟩ : ∃ y, ahead s k = y := ⟨_, rfl⟩
      have okd := okFrom_drop n last s k (by rw [Hsl.out]; exact hkn)
      obtain ⟨x, hx⟩ : ∃ x, s.getD k 0 = x := ⟨_, rfl⟩
      rw [hx] at hc0 okd
      rw [hla] at hok hl0
      have hbad : okFrom n last (s.drop k) = false → r = ([], 4) := fun e => by
        rw [hok] at e
        have hr := Hr.out
        rw [e] at hr
        rw [← hr]
        rfl
      have c0 : ∀ s : InC (fun W => Below wr.heap.size wr W), s.W.cell? ⟨bs, os + k, none⟩ = some (.int .i64 x) := fun s => by rw [s.ok.cell (p := ⟨bs, os + k, none⟩) hbb]; exact hc0
      have hx' : ahead s (k + 1) = x := hx
      by_cases hk0 : k = 0
      · have hl1 : last = 0 := by rw [← hla, hk0]; rfl
        have hkp : decide ((0 : Int) < (k : Int)) = false := by simp; omega
        have hkp2 : ¬ 0 < k := by omega
        have Hk0 := Lib.hid hk0
        clear hk0
        by_cases h1 : x < 0
        · have hrr : okFrom n last (s.drop k) = false := by rw [okd, if_pos (by omega)]
          have hx0 : decide (x < 0) = true := by simp; omega
          go_wp2_with fail
          have hS : Below wr.heap.size wr wr.drew := (Below.refl _ _).drew
          refine wp_region_mix (fun W => Below wr.heap.size wr W) [(0, true), (1, true), (2, true), (3, true), (4, true), (5, true), (6, true), (7, true), (8, true), (9, true), (10, true), (11, true), (12, true), (13, true), (14, true), (15, true), (16, true), (17, true), (18, true), (19, true), (20, true), (21, true), (22, true), (23, true), (24, true), (25, true), (26, true), (27, true), (28, true), (29, true)] (by kernel_rfl) (by kernel_rfl) hS fun _ => ?_
          simp only [List.map_cons, List.map_nil, Array.getD_eq_getD_getElem?, List.getElem?_toArray, List.getElem?_cons_succ, List.getElem?_cons_zero, Option.getD_some]
          generalize wr.drew = u9 at hS ⊢
          refine wpMix_s (fun K hK => ?_)
          go_simp
          refine hK _ ?_
          clear hK K
          refine wpMix_s (fun K hK => ?_)
          go_simp
          refine hK _ ?_
          clear hK K
          refine wpMix_s (fun K hK => ?_)
          go_simp
          refine hK _ ?_
          clear hK K
          refine wpMix_s (fun K hK => ?_)
          go_simp
          refine hK _ ?_
          clear hK K
          refine wpMix_s (fun K hK => ?_)
          go_simp
          refine hK _ ?_
          clear hK K
          refine wpMix_s (fun K hK => ?_)
          go_simp
          refine hK _ ?_
          clear hK K
          refine wpMix_s (fun K hK => ?_)
          go_simp
          refine hK _ ?_
          clear hK K
          refine wpMix_s (fun K hK => ?_)
          go_simp
          refine hK _ ?_
          clear hK K
          refine wpMix_s (fun K hK => ?_)
          go_simp
          refine hK _ ?_
          clear hK K
          refine wpMix_s (fun K hK => ?_)
          go_simp
          refine hK _ ?_
          clear hK K
          refine wpMix_s (fun K hK => ?_)
          go_simp
          refine hK _ ?_
          clear hK K
          refine wpMix_s (fun K hK => ?_)
          go_simp
          refine hK _ ?_
          clear hK K
          refine wpMix_s (fun K hK => ?_)
          go_simp
          refine hK _ ?_
          clear hK K
          refine wpMix_s (fun K hK => ?_)
          go_simp
          refine hK _ ?_
          clear hK K
          refine wpMix_s (fun K hK => ?_)
          go_simp
          refine hK _ ?_
          clear hK K
          refine wpMix_s (fun K hK => ?_)
          go_simp
          refine hK _ ?_
          clear hK K
          refine wpMix_s (fun K hK => ?_)
          go_simp
          refine hK _ ?_
          clear hK K
          refine wpMix_s (fun K hK => ?_)
          go_simp
          refine hK _ ?_
          clear hK K
          refine wpMix_s (fun K hK => ?_)
          go_simp
          refine hK _ ?_
          clear hK K
          refine wpMix_s (fun K hK => ?_)
          go_simp
          refine hK _ ?_
          clear hK K
          refine wpMix_s (fun K hK => ?_)
          go_simp
          refine hK _ ?_
          clear hK K
          refine wpMix_s (fun K hK => ?_)
          go_simp
          refine hK _ ?_
          clear hK K
          refine wpMix_s (fun K hK => ?_)
          go_simp
          refine hK _ ?_
          clear hK K
          refine wpMix_s (fun K hK => ?_)
          go_simp
          refine hK _ ?_
          clear hK K
          refine wpMix_s (fun K hK => ?_)
          go_simp
          refine hK _ ?_
          clear hK K
          refine wpMix_s (fun K hK => ?_)
          go_simp
          refine hK _ ?_
          clear hK K
          refine wpMix_s (fun K hK => ?_)
          go_simp
          refine hK _ ?_
          clear hK K
          refine wpMix_s (fun K hK => ?_)
          go_simp
          refine hK _ ?_
          clear hK K
          refine wpMix_s (fun K hK => ?_)
          go_simp
          refine hK _ ?_
          clear hK K
          refine wpMix_s (fun K hK => ?_)
          go_simp
          refine hK _ ?_
          clear hK K
          refine wpMix_nil ?_
          intro _
          obtain rfl : r = ([], 4) := hbad hrr
          go_wp2_with fail
          exact bodyPost_ret (results_tmp2 rfl _ _ _) rfl ⟨_, rfl, ⟨[], ChC.nil _ _ _⟩, hbr.trans (hS.mono hbr.size)⟩
        by_cases h2' : (n : Int) < x
        · have hrr : okFrom n last (s.drop k) = false := by rw [okd, if_pos (by omega)]
          have hx0 : decide (x < 0) = false := by simp; omega
          have hxn : decide ((n : Int) < x) = true := by simp; omega
          go_wp2_with fail
          have hS : Below wr.heap.size wr wr.drew := (Below.refl _ _).drew
          refine wp_region_mix (fun W => Below wr.heap.size wr W) [(0, true), (1, true), (2, true), (3, true), (4, true), (5, true), (6, true), (7, true), (8, true), (9, true), (10, true), (11, true), (12, true), (13, true), (14, true), (15, true), (16, true), (17, true), (18, true), (19, true), (20, true), (21, true), (22, true), (23, true), (24, true), (25, true), (26, true), (27, true), (28, true), (29, true)] (by kernel_rfl) (by kernel_rfl) hS fun _ => ?_
          simp only [List.map_cons, List.map_nil, Array.getD_eq_getD_getElem?, List.getElem?_toArray, List.getElem?_cons_succ, List.getElem?_cons_zero, Option.getD_some]
          generalize wr.drew = u9 at hS ⊢
          refine wpMix_s (fun K hK => ?_)
          go_simp
          refine hK _ ?_
          clear hK K
          refine wpMix_s (fun K hK => ?_)
          go_simp
          refine hK _ ?_
          clear hK K
          refine wpMix_s (fun K hK => ?_)
          go_simp
          refine hK _ ?_
          clear hK K
          refine wpMix_s (fun K hK => ?_)
          go_simp
          refine hK _ ?_
          clear hK K
          refine wpMix_s (fun K hK => ?_)
          go_simp
          refine hK _ ?_
          clear hK K
          refine wpMix_s (fun K hK => ?_)
          go_simp
          refine hK _ ?_
          clear hK K
          refine wpMix_s (fun K hK => ?_)
          go_simp
          refine hK _ ?_
          clear hK K
          refine wpMix_s (fun K hK => ?_)
          go_simp
          refine hK _ ?_
          clear hK K
          refine wpMix_s (fun K hK => ?_)
          go_simp
          refine hK _ ?_
          clear hK K
          refine wpMix_s (fun K hK => ?_)
          go_simp
          refine hK _ ?_
          clear hK K
          refine wpMix_s (fun K hK => ?_)
          go_simp
          refine hK _ ?_
          clear hK K
          refine wpMix_s (fun K hK => ?_)
          go_simp
          refine hK _ ?_
          clear hK K
          refine wpMix_s (fun K hK => ?_)
          go_simp
          refine hK _ ?_
          clear hK K
          refine wpMix_s (fun K hK => ?_)
          go_simp
          refine hK _ ?_
          clear hK K
          refine wpMix_s (fun K hK => ?_)
          go_simp
          refine hK _ ?_
          clear hK K
          refine wpMix_s (fun K hK => ?_)
          go_simp
          refine hK _ ?_
          clear hK K
          refine wpMix_s (fun K hK => ?_)
          go_simp
          refine hK _ ?_
          clear hK K
          refine wpMix_s (fun K hK => ?_)
          go_simp
          refine hK _ ?_
          clear hK K
          refine wpMix_s (fun K hK => ?_)
          go_simp
          refine hK _ ?_
          clear hK K
          refine wpMix_s (fun K hK => ?_)
          go_simp
          refine hK _ ?_
          clear hK K
          refine wpMix_s (fun K hK => ?_)
          go_simp
          refine hK _ ?_
          clear hK K
          refine wpMix_s (fun K hK => ?_)
          go_simp
          refine hK _ ?_
          clear hK K
          refine wpMix_s (fun K hK => ?_)
          go_simp
          refine hK _ ?_
          clear hK K
          refine wpMix_s (fun K hK => ?_)
          go_simp
          refine hK _ ?_
          clear hK K
          refine wpMix_s (fun K hK => ?_)
          go_simp
          refine hK _ ?_
          clear hK K
          refine wpMix_s (fun K hK => ?_)
          go_simp
          refine hK _ ?_
          clear hK K
          refine wpMix_s (fun K hK => ?_)
          go_simp
          refine hK _ ?_
          clear hK K
          refine wpMix_s (fun K hK => ?_)
          go_simp
          refine hK _ ?_
          clear hK K
          refine wpMix_s (fun K hK => ?_)
          go_simp
          refine hK _ ?_
          clear hK K
          refine wpMix_s (fun K hK => ?_)
          go_simp
          refine hK _ ?_
          clear hK K
          refine wpMix_nil ?_
          intro _
          obtain rfl : r = ([], 4) := hbad hrr
          go_wp2_with fail
          exact bodyPost_ret (results_tmp2 rfl _ _ _) rfl ⟨_, rfl, ⟨[], ChC.nil _ _ _⟩, hbr.trans (hS.mono hbr.size)⟩
        have hgo : ¬ x < 0 → 0 ≤ ahead s (k + 1) ∧ okFrom n (ahead s (k + 1)) (s.drop (k + 1)) = b := fun h => by rw [hx']; exact ⟨by omega, by rw [← hok, okd, if_neg (by omega)]⟩
        have hx0 : decide (x < 0) = false := by simp; omega
        have hxn : decide ((n : Int) < x) = false := by simp; omega
        go_wp2_with fail
        have hS : Below wr.heap.size wr wr.drew := (Below.refl _ _).drew
        refine wp_region_mix (fun W => Below wr.heap.size wr W) [(0, true), (1, true), (2, true), (3, true), (4, true), (5, true), (6, true), (7, true), (8, true), (9, true), (10, true), (11, true), (12, true), (13, true), (14, true), (15, true), (16, true), (17, true), (18, true), (19, true), (20, true), (21, true), (22, true), (23, true), (24, true), (25, true), (26, true), (27, true), (28, true), (29, true)] (by kernel_rfl) (by kernel_rfl) hS fun _ => ?_
        simp only [List.map_cons, List.map_nil, Array.getD_eq_getD_getElem?, List.getElem?_toArray, List.getElem?_cons_succ, List.getElem?_cons_zero, Option.getD_some]
        generalize wr.drew = u9 at hS ⊢
        refine wpMix_s (fun K hK => ?_)
        go_simp
        refine hK _ ?_
        clear hK K
        refine wpMix_s (fun K hK => ?_)
        go_simp
        refine hK _ ?_
        clear hK K
        refine wpMix_s (fun K hK => ?_)
        go_simp
        refine hK _ ?_
        clear hK K
        refine wpMix_s (fun K hK => ?_)
        go_simp
        refine hK _ ?_
        clear hK K
        refine wpMix_s (fun K hK => ?_)
        go_simp
        refine hK _ ?_
        clear hK K
        refine wpMix_s (fun K hK => ?_)
        go_simp
        refine hK _ ?_
        clear hK K
        refine wpMix_s (fun K hK => ?_)
        go_simp
        refine hK _ ?_
        clear hK K
        refine wpMix_s (fun K hK => ?_)
        go_simp
        refine hK _ ?_
        clear hK K
        refine wpMix_s (fun K hK => ?_)
        go_simp
        refine hK _ ?_
        clear hK K
        refine wpMix_s (fun K hK => ?_)
        go_simp
        refine hK _ ?_
        clear hK K
        refine wpMix_s (fun K hK => ?_)
        go_simp
        refine hK _ ?_
        clear hK K
        refine wpMix_s (fun K hK => ?_)
        go_simp
        refine hK _ ?_
        clear hK K
        refine wpMix_s (fun K hK => ?_)
        go_simp
        refine hK _ ?_
        clear hK K
        refine wpMix_s (fun K hK => ?_)
        go_simp
        refine hK _ ?_
        clear hK K
        refine wpMix_s (fun K hK => ?_)
        go_simp
        refine hK _ ?_
        clear hK K
        refine wpMix_s (fun K hK => ?_)
        go_simp
        refine hK _ ?_
        clear hK K
        refine wpMix_s (fun K hK => ?_)
        go_simp
        refine hK _ ?_
        clear hK K
        refine wpMix_s (fun K hK => ?_)
        go_simp
        refine hK _ ?_
        clear hK K
        refine wpMix_s (fun K hK => ?_)
        go_simp
        refine hK _ ?_
        clear hK K
        refine wpMix_s (fun K hK => ?_)
        go_simp
        refine hK _ ?_
        clear hK K
        refine wpMix_s (fun K hK => ?_)
        go_simp
        refine hK _ ?_
        clear hK K
        refine wpMix_s (fun K hK => ?_)
        go_simp
        refine hK _ ?_
        clear hK K
        refine wpMix_s (fun K hK => ?_)
        go_simp
        refine hK _ ?_
        clear hK K
        refine wpMix_s (fun K hK => ?_)
        go_simp
        refine hK _ ?_
        clear hK K
        refine wpMix_s (fun K hK => ?_)
        go_simp
        refine hK _ ?_
        clear hK K
        refine wpMix_s (fun K hK => ?_)
        go_simp
        refine hK _ ?_
        clear hK K
        refine wpMix_s (fun K hK => ?_)
        go_simp
        refine hK _ ?_
        clear hK K
        refine wpMix_s (fun K hK => ?_)
        go_simp
        refine hK _ ?_
        clear hK K
        refine wpMix_s (fun K hK => ?_)
        go_simp
        refine hK _ ?_
        clear hK K
        refine wpMix_s (fun K hK => ?_)
        go_simp
        refine hK _ ?_
        clear hK K
        refine wpMix_nil ?_
        intro _
        go_wp2_with fail
        go_roundw
        case rel => exact ⟨k + 1, by omega, rfl, hbr.trans (hS.mono hbr.size), hgo h1⟩
        case measure => simp [intOf]; omega
      · obtain ⟨j, hj⟩ : ∃ j, k = j + 1 := ⟨k - 1, by omega⟩
        have hc1 := icell_at (h2.step hbr) Hsl.out rfl j (by omega)
        have hy : s.getD j 0 = last := by rw [← hla, hj]; rfl
        rw [hy] at hc1
        have c1 : ∀ s : InC (fun W => Below wr.heap.size wr W), s.W.cell? ⟨bs, os + j, none⟩ = some (.int .i64 last) := fun s => by rw [s.ok.cell (p := ⟨bs, os + j, none⟩) hbb]; exact hc1
        have hw1 : IntKind.i64.wrap ((k : Int) - 1) = (j : Int) := by rw [IntWalk.i64_in _ (by omega)]; omega
        have hjn : j < ns := by omega
        have hkp : decide ((0 : Int) < (k : Int)) = true := by simp; omega
        have hkp2 : 0 < k := by omega
        have Hj := Lib.hid hj
        clear hk0 hj hy hc1
        by_cases h1 : x < 0
        · have hrr : okFrom n last (s.drop k) = false := by rw [okd, if_pos (by omega)]
          have hx0 : decide (x < 0) = true := by simp; omega
          go_wp2_with fail
          have hS : Below wr.heap.size wr wr.drew := (Below.refl _ _).drew
          refine wp_region_mix (fun W => Below wr.heap.size wr W) [(0, true), (1, true), (2, true), (3, true), (4, true), (5, true), (6, true), (7, true), (8, true), (9, true), (10, true), (11, true), (12, true), (13, true), (14, true), (15, true), (16, true), (17, true), (18, true), (19, true), (20, true), (21, true), (22, true), (23, true), (24, true), (25, true), (26, true), (27, true), (28, true), (29, true)] (by kernel_rfl) (by kernel_rfl) hS fun _ => ?_
          simp only [List.map_cons, List.map_nil, Array.getD_eq_getD_getElem?, List.getElem?_toArray, List.getElem?_cons_succ, List.getElem?_cons_zero, Option.getD_some]
          generalize wr.drew = u9 at hS ⊢
          refine wpMix_s (fun K hK => ?_)
          go_simp
          refine hK _ ?_
          clear hK K
          refine wpMix_s (fun K hK => ?_)
          go_simp
          refine hK _ ?_
          clear hK K
          refine wpMix_s (fun K hK => ?_)
          go_simp
          refine hK _ ?_
          clear hK K
          refine wpMix_s (fun K hK => ?_)
          go_simp
          refine hK _ ?_
          clear hK K
          refine wpMix_s (fun K hK => ?_)
          go_simp
          refine hK _ ?_
          clear hK K
          refine wpMix_s (fun K hK => ?_)
          go_simp
          refine hK _ ?_
          clear hK K
          refine wpMix_s (fun K hK => ?_)
          go_simp
          refine hK _ ?_
          clear hK K
          refine wpMix_s (fun K hK => ?_)
          go_simp
          refine hK _ ?_
          clear hK K
          refine wpMix_s (fun K hK => ?_)
          go_simp
          refine hK _ ?_
          clear hK K
          refine wpMix_s (fun K hK => ?_)
          go_simp
          refine hK _ ?_
          clear hK K
          refine wpMix_s (fun K hK => ?_)
          go_simp
          refine hK _ ?_
          clear hK K
          refine wpMix_s (fun K hK => ?_)
          go_simp
          refine hK _ ?_
          clear hK K
          refine wpMix_s (fun K hK => ?_)
          go_simp
          refine hK _ ?_
          clear hK K
          refine wpMix_s (fun K hK => ?_)
          go_simp
          refine hK _ ?_
          clear hK K
          refine wpMix_s (fun K hK => ?_)
          go_simp
          refine hK _ ?_
          clear hK K
          refine wpMix_s (fun K hK => ?_)
          go_simp
          refine hK _ ?_
          clear hK K
          refine wpMix_s (fun K hK => ?_)
          go_simp
          refine hK _ ?_
          clear hK K
          refine wpMix_s (fun K hK => ?_)
          go_simp
          refine hK _ ?_
          clear hK K
          refine wpMix_s (fun K hK => ?_)
          go_simp
          refine hK _ ?_
          clear hK K
          refine wpMix_s (fun K hK => ?_)
          go_simp
          refine hK _ ?_
          clear hK K
          refine wpMix_s (fun K hK => ?_)
          go_simp
          refine hK _ ?_
          clear hK K
          refine wpMix_s (fun K hK => ?_)
          go_simp
          refine hK _ ?_
          clear hK K
          refine wpMix_s (fun K hK => ?_)
          go_simp
          refine hK _ ?_
          clear hK K
          refine wpMix_s (fun K hK => ?_)
          go_simp
          refine hK _ ?_
          clear hK K
          refine wpMix_s (fun K hK => ?_)
          go_simp
          refine hK _ ?_
          clear hK K
          refine wpMix_s (fun K hK => ?_)
          go_simp
          refine hK _ ?_
          clear hK K
          refine wpMix_s (fun K hK => ?_)
          go_simp
          refine hK _ ?_
          clear hK K
          refine wpMix_s (fun K hK => ?_)
          go_simp
          refine hK _ ?_
          clear hK K
          refine wpMix_s (fun K hK => ?_)
          go_simp
          refine hK _ ?_
          clear hK K
          refine wpMix_s (fun K hK => ?_)
          go_simp
          refine hK _ ?_
          clear hK K
          refine wpMix_nil ?_
          intro _
          obtain rfl : r = ([], 4) := hbad hrr
          go_wp2_with fail
          exact bodyPost_ret (results_tmp2 rfl _ _ _) rfl ⟨_, rfl, ⟨[], ChC.nil _ _ _⟩, hbr.trans (hS.mono hbr.size)⟩
        by_cases h2' : (n : Int) < x
        · have hrr : okFrom n last (s.drop k) = false := by rw [okd, if_pos (by omega)]
          have hx0 : decide (x < 0) = false := by simp; omega
          have hxn : decide ((n : Int) < x) = true := by simp; omega
          go_wp2_with fail
          have hS : Below wr.heap.size wr wr.drew := (Below.refl _ _).drew
          refine wp_region_mix (fun W => Below wr.heap.size wr W) [(0, true), (1, true), (2, true), (3, true), (4, true), (5, true), (6, true), (7, true), (8, true), (9, true), (10, true), (11, true), (12, true), (13, true), (14, true), (15, true), (16, true), (17, true), (18, true), (19, true), (20, true), (21, true), (22, true), (23, true), (24, true), (25, true), (26, true), (27, true), (28, true), (29, true)] (by kernel_rfl) (by kernel_rfl) hS fun _ => ?_
          simp only [List.map_cons, List.map_nil, Array.getD_eq_getD_getElem?, List.getElem?_toArray, List.getElem?_cons_succ, List.getElem?_cons_zero, Option.getD_some]
          generalize wr.drew = u9 at hS ⊢
          refine wpMix_s (fun K hK => ?_)
          go_simp
          refine hK _ ?_
          clear hK K
          refine wpMix_s (fun K hK => ?_)
          go_simp
          refine hK _ ?_
          clear hK K
          refine wpMix_s (fun K hK => ?_)
          go_simp
          refine hK _ ?_
          clear hK K
          refine wpMix_s (fun K hK => ?_)
          go_simp
          refine hK _ ?_
          clear hK K
          refine wpMix_s (fun K hK => ?_)
          go_simp
          refine hK _ ?_
          clear hK K
          refine wpMix_s (fun K hK => ?_)
          go_simp
          refine hK _ ?_
          clear hK K
          refine wpMix_s (fun K hK => ?_)
          go_simp
          refine hK _ ?_
          clear hK K
          refine wpMix_s (fun K hK => ?_)
          go_simp
          refine hK _ ?_
          clear hK K
          refine wpMix_s (fun K hK => ?_)
          go_simp
          refine hK _ ?_
          clear hK K
          refine wpMix_s (fun K hK => ?_)
          go_simp
          refine hK _ ?_
          clear hK K
          refine wpMix_s (fun K hK => ?_)
          go_simp
          refine hK _ ?_
          clear hK K
          refine wpMix_s (fun K hK => ?_)
          go_simp
          refine hK _ ?_
          clear hK K
          refine wpMix_s (fun K hK => ?_)
          go_simp
          refine hK _ ?_
          clear hK K
          refine wpMix_s (fun K hK => ?_)
          go_simp
          refine hK _ ?_
          clear hK K
          refine wpMix_s (fun K hK => ?_)
          go_simp
          refine hK _ ?_
          clear hK K
          refine wpMix_s (fun K hK => ?_)
          go_simp
          refine hK _ ?_
          clear hK K
          refine wpMix_s (fun K hK => ?_)
          go_simp
          refine hK _ ?_
          clear hK K
          refine wpMix_s (fun K hK => ?_)
          go_simp
          refine hK _ ?_
          clear hK K
          refine wpMix_s (fun K hK => ?_)
          go_simp
          refine hK _ ?_
          clear hK K
          refine wpMix_s (fun K hK => ?_)
          go_simp
          refine hK _ ?_
          clear hK K
          refine wpMix_s (fun K hK => ?_)
          go_simp
          refine hK _ ?_
          clear hK K
          refine wpMix_s (fun K hK => ?_)
          go_simp
          refine hK _ ?_
          clear hK K
          refine wpMix_s (fun K hK => ?_)
          go_simp
          refine hK _ ?_
          clear hK K
          refine wpMix_s (fun K hK => ?_)
          go_simp
          refine hK _ ?_
          clear hK K
          refine wpMix_s (fun K hK => ?_)
          go_simp
          refine hK _ ?_
          clear hK K
          refine wpMix_s (fun K hK => ?_)
          go_simp
          refine hK _ ?_
          clear hK K
          refine wpMix_s (fun K hK => ?_)
          go_simp
          refine hK _ ?_
          clear hK K
          refine wpMix_s (fun K hK => ?_)
          go_simp
          refine hK _ ?_
          clear hK K
          refine wpMix_s (fun K hK => ?_)
          go_simp
          refine hK _ ?_
          clear hK K
          refine wpMix_s (fun K hK => ?_)
          go_simp
          refine hK _ ?_
          clear hK K
          refine wpMix_nil ?_
          intro _
          obtain rfl : r = ([], 4) := hbad hrr
          go_wp2_with fail
          exact bodyPost_ret (results_tmp2 rfl _ _ _) rfl ⟨_, rfl, ⟨[], ChC.nil _ _ _⟩, hbr.trans (hS.mono hbr.size)⟩
        by_cases h3 : x < last
        · have hrr : okFrom n last (s.drop k) = false := by rw [okd, if_pos (by omega)]
          have hx0 : decide (x < 0) = false := by simp; omega
          have hxn : decide ((n : Int) < x) = false := by simp; omega
          have hxy : decide (x < last) = true := by simp; omega
          go_wp2_with fail
          have hS : Below wr.heap.size wr wr.drew := (Below.refl _ _).drew
          refine wp_region_mix (fun W => Below wr.heap.size wr W) [(0, true), (1, true), (2, true), (3, true), (4, true), (5, true), (6, true), (7, true), (8, true), (9, true), (10, true), (11, true), (12, true), (13, true), (14, true), (15, true), (16, true), (17, true), (18, true), (19, true), (20, true), (21, true), (22, true), (23, true), (24, true), (25, true), (26, true), (27, true), (28, true), (29, true)] (by kernel_rfl) (by kernel_rfl) hS fun _ => ?_
          simp only [List.map_cons, List.map_nil, Array.getD_eq_getD_getElem?, List.getElem?_toArray, List.getElem?_cons_succ, List.getElem?_cons_zero, Option.getD_some]
          generalize wr.drew = u9 at hS ⊢
          refine wpMix_s (fun K hK => ?_)
          go_simp
          refine hK _ ?_
          clear hK K
          refine wpMix_s (fun K hK => ?_)
          go_simp
          refine hK _ ?_
          clear hK K
          refine wpMix_s (fun K hK => ?_)
          go_simp
          refine hK _ ?_
          clear hK K
          refine wpMix_s (fun K hK => ?_)
          go_simp
          refine hK _ ?_
          clear hK K
          refine wpMix_s (fun K hK => ?_)
          go_simp
          refine hK _ ?_
          clear hK K
          refine wpMix_s (fun K hK => ?_)
          go_simp
          refine hK _ ?_
          clear hK K
          refine wpMix_s (fun K hK => ?_)
          go_simp
          refine hK _ ?_
          clear hK K
          refine wpMix_s (fun K hK => ?_)
          go_simp
          refine hK _ ?_
          clear hK K
          refine wpMix_s (fun K hK => ?_)
          go_simp
          refine hK _ ?_
          clear hK K
          refine wpMix_s (fun K hK => ?_)
          go_simp
          refine hK _ ?_
          clear hK K
          refine wpMix_s (fun K hK => ?_)
          go_simp
          refine hK _ ?_
          clear hK K
          refine wpMix_s (fun K hK => ?_)
          go_simp
          refine hK _ ?_
          clear hK K
          refine wpMix_s (fun K hK => ?_)
          go_simp
          refine hK _ ?_
          clear hK K
          refine wpMix_s (fun K hK => ?_)
          go_simp
          refine hK _ ?_
          clear hK K
          refine wpMix_s (fun K hK => ?_)
          go_simp
          refine hK _ ?_
          clear hK K
          refine wpMix_s (fun K hK => ?_)
          go_simp
          refine hK _ ?_
          clear hK K
          refine wpMix_s (fun K hK => ?_)
          go_simp
          refine hK _ ?_
          clear hK K
          refine wpMix_s (fun K hK => ?_)
          go_simp
          refine hK _ ?_
          clear hK K
          refine wpMix_s (fun K hK => ?_)
          go_simp
          refine hK _ ?_
          clear hK K
          refine wpMix_s (fun K hK => ?_)
          go_simp
          refine hK _ ?_
          clear hK K
          refine wpMix_s (fun K hK => ?_)
          go_simp
          refine hK _ ?_
          clear hK K
          refine wpMix_s (fun K hK => ?_)
          go_simp
          refine hK _ ?_
          clear hK K
          refine wpMix_s (fun K hK => ?_)
          go_simp
          refine hK _ ?_
          clear hK K
          refine wpMix_s (fun K hK => ?_)
          go_simp
          refine hK _ ?_
          clear hK K
          refine wpMix_s (fun K hK => ?_)
          go_simp
          refine hK _ ?_
          clear hK K
          refine wpMix_s (fun K hK => ?_)
          go_simp
          refine hK _ ?_
          clear hK K
          refine wpMix_s (fun K hK => ?_)
          go_simp
          refine hK _ ?_
          clear hK K
          refine wpMix_s (fun K hK => ?_)
          go_simp
          refine hK _ ?_
          clear hK K
          refine wpMix_s (fun K hK => ?_)
          go_simp
          refine hK _ ?_
          clear hK K
          refine wpMix_s (fun K hK => ?_)
          go_simp
          refine hK _ ?_
          clear hK K
          refine wpMix_nil ?_
          intro _
          obtain rfl : r = ([], 4) := hbad hrr
          go_wp2_with fail
          exact bodyPost_ret (results_tmp2 rfl _ _ _) rfl ⟨_, rfl, ⟨[], ChC.nil _ _ _⟩, hbr.trans (hS.mono hbr.size)⟩
        have hgo : ¬ x < 0 → 0 ≤ ahead s (k + 1) ∧ okFrom n (ahead s (k + 1)) (s.drop (k + 1)) = b := fun h => by rw [hx']; exact ⟨by omega, by rw [← hok, okd, if_neg (by omega)]⟩
        have hx0 : decide (x < 0) = false := by simp; omega
        have hxn : decide ((n : Int) < x) = false := by simp; omega
        have hxy : decide (x < last) = false := by simp; omega
        go_wp2_with fail
        have hS : Below wr.heap.size wr wr.drew := (Below.refl _ _).drew
        refine wp_region_mix (fun W => Below wr.heap.size wr W) [(0, true), (1, true), (2, true), (3, true), (4, true), (5, true), (6, true), (7, true), (8, true), (9, true), (10, true), (11, true), (12, true), (13, true), (14, true), (15, true), (16, true), (17, true), (18, true), (19, true), (20, true), (21, true), (22, true), (23, true), (24, true), (25, true), (26, true), (27, true), (28, true), (29, true)] (by kernel_rfl) (by kernel_rfl) hS fun _ => ?_
        simp only [List.map_cons, List.map_nil, Array.getD_eq_getD_getElem?, List.getElem?_toArray, List.getElem?_cons_succ, List.getElem?_cons_zero, Option.getD_some]
        generalize wr.drew = u9 at hS ⊢
        refine wpMix_s (fun K hK => ?_)
        go_simp
        refine hK _ ?_
        clear hK K
        refine wpMix_s (fun K hK => ?_)
        go_simp
        refine hK _ ?_
        clear hK K
        refine wpMix_s (fun K hK => ?_)
        go_simp
        refine hK _ ?_
        clear hK K
        refine wpMix_s (fun K hK => ?_)
        go_simp
        refine hK _ ?_
        clear hK K
        refine wpMix_s (fun K hK => ?_)
        go_simp
        refine hK _ ?_
        clear hK K
        refine wpMix_s (fun K hK => ?_)
        go_simp
        refine hK _ ?_
        clear hK K
        refine wpMix_s (fun K hK => ?_)
        go_simp
        refine hK _ ?_
        clear hK K
        refine wpMix_s (fun K hK => ?_)
        go_simp
        refine hK _ ?_
        clear hK K
        refine wpMix_s (fun K hK => ?_)
        go_simp
        refine hK _ ?_
        clear hK K
        refine wpMix_s (fun K hK => ?_)
        go_simp
        refine hK _ ?_
        clear hK K
        refine wpMix_s (fun K hK => ?_)
        go_simp
        refine hK _ ?_
        clear hK K
        refine wpMix_s (fun K hK => ?_)
        go_simp
        refine hK _ ?_
        clear hK K
        refine wpMix_s (fun K hK => ?_)
        go_simp
        refine hK _ ?_
        clear hK K
        refine wpMix_s (fun K hK => ?_)
        go_simp
        refine hK _ ?_
        clear hK K
        refine wpMix_s (fun K hK => ?_)
        go_simp
        refine hK _ ?_
        clear hK K
        refine wpMix_s (fun K hK => ?_)
        go_simp
        refine hK _ ?_
        clear hK K
        refine wpMix_s (fun K hK => ?_)
        go_simp
        refine hK _ ?_
        clear hK K
        refine wpMix_s (fun K hK => ?_)
        go_simp
        refine hK _ ?_
        clear hK K
        refine wpMix_s (fun K hK => ?_)
        go_simp
        refine hK _ ?_
        clear hK K
        refine wpMix_s (fun K hK => ?_)
        go_simp
        refine hK _ ?_
        clear hK K
        refine wpMix_s (fun K hK => ?_)
        go_simp
        refine hK _ ?_
        clear hK K
        refine wpMix_s (fun K hK => ?_)
        go_simp
        refine hK _ ?_
        clear hK K
        refine wpMix_s (fun K hK => ?_)
        go_simp
        refine hK _ ?_
        clear hK K
        refine wpMix_s (fun K hK => ?_)
        go_simp
        refine hK _ ?_
        clear hK K
        refine wpMix_s (fun K hK => ?_)
        go_simp
        refine hK _ ?_
        clear hK K
        refine wpMix_s (fun K hK => ?_)
        go_simp
        refine hK _ ?_
        clear hK K
        refine wpMix_s (fun K hK => ?_)
        go_simp
        refine hK _ ?_
        clear hK K
        refine wpMix_s (fun K hK => ?_)
        go_simp
        refine hK _ ?_
        clear hK K
        refine wpMix_s (fun K hK => ?_)
        go_simp
        refine hK _ ?_
        clear hK K
        refine wpMix_s (fun K hK => ?_)
        go_simp
        refine hK _ ?_
        clear hK K
        refine wpMix_nil ?_
        intro _
        go_wp2_with fail
        go_roundw
        case rel => exact ⟨k + 1, by omega, rfl, hbr.trans (hS.mono hbr.size), hgo h1⟩
        case measure => simp [intOf]; omega
    · obtain rfl : ns = k := by omega
      have hd : decide ((ns : Int) < (ns : Int)) = false := by simp
      rw [List.drop_of_length_le (by rw [Hsl.out]; exact Nat.le_refl _)] at hok
      obtain rfl : b = true := by rw [← hok]; rfl
      have hat := okFrom_at n s 0 (Int.le_refl _) Hb.out
      have hr := Hr.out
      rw [if_pos rfl, Hsl.out] at hr
      subst hr
      have hbr0 := hbr
      have Hat := Lib.hid hat
      clear hat hok hl0 hbr hk
      go_upto_region 8 with fail
      go_loopw [7, 8, 9, 10] (fun v7 v8 _ _ wr => ∃ (k : Nat) (v : Value) (vs : List Value), k ≤ ns - 1 ∧ v8 = .int .i64 ((k : Int) + 1) ∧ v = v7 ∧ ChC w.heap.size (chainK hs s (ns - 1)) k v vs wr ∧ Below w.heap.size w wr) (fun _ v8 _ _ _ => ns - (intOf v8).toNat)
      case atStart => exact ⟨0, _, [], Nat.zero_le _, rfl, rfl, ChC.nil _ _ _, hbr0⟩
      case round =>
        obtain ⟨k, v7, vs, hk, rfl, rfl, hC, hbr⟩ := hrel
        by_cases hkn : k + 1 < ns
        · have hd : decide ((k : Int) + 1 < (ns : Int)) = true := by simp; omega
          obtain ⟨x1, x2, x3, -⟩ := Hat.out (k + 1) (by rw [Hsl.out]; exact hkn)
          obtain ⟨m, hm⟩ := Int.eq_ofNat_of_zero_le x1
          have hmn : m ≤ n := by rw [hm] at x2; omega
          obtain ⟨bs, os, eA, hbb, -, -⟩ := h2.at_ (by omega) (by decide)
          subst eA
          replace hbb := Nat.lt_of_lt_of_le hbb hbr.size
          have hc1 := icell_at (h2.step hbr) Hsl.out rfl (k + 1) hkn
          have hc0 := icell_at (h2.step hbr) Hsl.out rfl k (by omega)
          have hce := chainK_at hs s (ns - 1) k (by omega)
          rw [hm] at hc1 hce
          rw [Int.toNat_natCast] at hce
          obtain ⟨x, hx⟩ : ∃ x, s.getD k 0 = x := ⟨_, rfl⟩
          rw [hx] at hc0 hce
          have hpr := fun W (h : Hs W (fun _ => True) A n c hs) => rprove_any (hs.take m) A m c W x (h.take m hmn) (by omega)
          have c1 : ∀ s : InC (fun W => Below wr.heap.size wr W), s.W.cell? ⟨bs, os + (k + 1), none⟩ = some (.int .i64 (m : Int)) := fun s => by rw [s.ok.cell (p := ⟨bs, os + (k + 1), none⟩) hbb]; exact hc1
          have c0 : ∀ s : InC (fun W => Below wr.heap.size wr W), s.W.cell? ⟨bs, os + k, none⟩ = some (.int .i64 x) := fun s => by rw [s.ok.cell (p := ⟨bs, os + k, none⟩) hbb]; exact hc0
          have hw1 : IntKind.i64.wrap (k : Int) = (k : Int) := IntWalk.i64_in _ (by omega)
          obtain ⟨p, hp⟩ : ∃ p, rootsS (hs.take m) x = p := ⟨_, rfl⟩
          rw [hp] at hpr hce
          have Hpr := Lib.hid hpr
          have Hce := Lib.hid hce
          have Hx := Lib.hid hx
          clear hpr hce hx hp hc1 hc0 x1 x2 x3 hm
          have hbd1 : 0 ≤ (k : Int) + 1 ∧ (k : Int) + 1 < (ns : Int) := by omega
          have hbd0 : k < ns := by omega
          go_wp2_with fail
          have hS : Below wr.heap.size wr wr.drew := (Below.refl _ _).drew
          refine wp_region_mix (fun W => Below wr.heap.size wr W) [(0, true), (1, true), (2, true), (3, true), (4, true), (5, true), (6, true), (7, true), (8, true), (9, true), (10, true), (11, false), (12, true), (13, true), (14, true), (15, true), (16, true)] (by kernel_rfl) (by kernel_rfl) hS fun _ => ?_
          simp only [List.map_cons, List.map_nil, Array.getD_eq_getD_getElem?, List.getElem?_toArray, List.getElem?_cons_succ, List.getElem?_cons_zero, Option.getD_some]
          generalize wr.drew = u9 at hS ⊢
          refine wpMix_s (fun K hK => ?_)
          go_simp
          refine hK _ ?_
          clear hK K
          refine wpMix_s (fun K hK => ?_)
          go_simp
          refine hK _ ?_
          clear hK K
          refine wpMix_s (fun K hK => ?_)
          go_simp
          refine hK _ ?_
          clear hK K
          refine wpMix_s (fun K hK => ?_)
          go_simp
          refine hK _ ?_
          clear hK K
          refine wpMix_s (fun K hK => ?_)
          go_simp
          refine hK _ ?_
          clear hK K
          refine wpMix_v (by kernel_rfl) (.slice A m c) (fun s => run_slice_op_hi (.tmp 54) (.tmp 58) rfl A n c m rfl rfl (by omega) s.W) ?_
          simp only [Act.put]
          refine wpMix_s (fun K hK => ?_)
          go_simp
          refine hK _ ?_
          clear hK K
          refine wpMix_s (fun K hK => ?_)
          go_simp
          refine hK _ ?_
          clear hK K
          refine wpMix_s (fun K hK => ?_)
          go_simp
          refine hK _ ?_
          clear hK K
          refine wpMix_s (fun K hK => ?_)
          go_simp
          refine hK _ ?_
          clear hK K
          refine wpMix_s (fun K hK => ?_)
          go_simp
          refine hK _ ?_
          clear hK K
          have hS0 := Nat.le_trans hbr.size hS.size
          refine wpMix_c (fun K hK => ?_) hS
          go_simp
          refine (Hpr.out u9 ((h.step hbr).step hS)).mono ?_
          rintro e u9a ⟨v47, rfl, ho47, hb'⟩
          refine hK _ _ ?_
          clear hK K
          replace hS := hS.trans (hb'.mono hS.size)
          refine ⟨hS, ?_⟩
          replace ho47 := owns_le ho47 hS0
          obtain ⟨A7, c7, rfl, hs7⟩ := owns_slv ho47
          clear hb'
          refine wpMix_s (fun K hK => ?_)
          go_simp
          refine hK _ ?_
          clear hK K
          refine wpMix_s (fun K hK => ?_)
          go_simp
          refine hK _ ?_
          clear hK K
          refine wpMix_s (fun K hK => ?_)
          go_simp
          refine hK _ ?_
          clear hK K
          refine wpMix_s (fun K hK => ?_)
          go_simp
          refine hK _ ?_
          clear hK K
          refine wpMix_s (fun K hK => ?_)
          go_simp
          refine hK _ ?_
          clear hK K
          refine wpMix_nil ?_
          intro _
          have hba : Below u9a.heap.size u9a (u9a.alloc (.cells #[.slice A7 p.length c7] 37)) := (Below.refl _ _).alloc (Nat.le_refl _) _
          have hC8 := (hC.step hS).step hba
          have hB8 := (hbr.trans (hS.mono hbr.size)).trans (hba.mono (Nat.le_trans hbr.size hS.size))
          obtain ⟨v9, w9, hr9, ho9, hg9, -⟩ := append_slv (ty := 81) Try.underlying81 info37b rfl (by decide) hC8.own (SlV.lit (s := 1) u9a (fun _ => True) 37 [.slice A7 p.length c7] rfl (by decide) trivial) (by simp [Value.oneCell']) (by unfold maxLen; omega) (by omega) hB8.size
          have hC9 := hC8.app hg9 ho9 (by rw [Hce.out]; exact owns_step ho47 hba)
          have hB9 := hB8.grown hg9 hB8.size (fun k hk => (hC8.own.lt k hk).1)
          have Hr9 := Lib.hid hr9
          clear hr9 hg9 ho9 hC8 hB8
          go_wp2_with (first
            | ((with_reducible show wpList _ _ _ (⟨some 70, .buildSlice _ _ _, _, _, _, _⟩ :: _) _ _); refine wpList_run rfl (.slice (some ⟨u9a.heap.size, 0, none⟩) 1 1) (u9a.alloc (.cells #[.slice A7 p.length c7] 37)) (by kernel_rfl) ?_; simp only [Act.put])
            | ((with_reducible show wpList _ _ _ (⟨some 71, .call _, _, _, _, _⟩ :: _) _ _); refine wpList_run rfl v9 w9 (run_append_op (.tmp 68) (.tmp 70) 81 rfl _ _ rfl rfl Hr9.out) ?_; simp only [Act.put]))
          go_roundw
          case rel => exact ⟨k + 1, _, _, by omega, by go_num, rfl, hC9, hB9⟩
          case measure => simp [intOf]; omega
        · have hd : decide ((k : Int) + 1 < (ns : Int)) = false := by simp; omega
          have hd2 : ¬ ((k : Int) + 1 < (ns : Int)) := by omega
          obtain rfl : k = ns - 1 := by omega
          go_wp2_with fail
          exact bodyPost_ret (results_tmp2 rfl _ _ _) rfl ⟨_, rfl, ⟨vs, by rw [length_chainK]; exact hC⟩, hbr⟩
end Go.Proofs.Ytgcbdnoniikboaa
