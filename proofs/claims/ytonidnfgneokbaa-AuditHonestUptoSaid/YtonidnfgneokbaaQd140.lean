/- notaryref13.Prove and notaryref13.Link. -/
import Derived.Test.YtonidnfgneokbaaQd131
import Derived.Test.YtonidnfgneokbaaQd122
import Derived.Test.YtonidnfgneokbaaQd139
namespace Go.Proofs.Ytonidnfgneokbaa
open Go Go.RowKit Go.Shelf
attribute [local go_sem] Oper.semAt_some

theorem run_litH1_op {ρ : Operand → Value} {o : Oper} (x : List UInt8) (hx : x.length = 32) (y : Operand) (ho : o.op = .buildSlice 26 1 #[(0, y)]) (hy : ρ y = .agg (x.map B).toArray) (W : World) :
    (execOp ρ o).run Try.prog W = .ok (.value (.slice (some ⟨W.heap.size, 0, none⟩) 1 1)) (W.alloc (.cells (hcells [x]).toArray 25)) :=
  run_lit_op [x] (fun h hh => by rw [List.mem_singleton.1 hh]; exact hx) (by simp) (by simp) 1 _ ho (by simp [hy]) rfl W
theorem owns_lit1 {base : Nat} {W : World} (hb : base ≤ W.heap.size) (z : List UInt8) (hz : z.length = 32) : (W.alloc (.cells (hcells [z]).toArray 25)).ownsRow base 25 32 (.slice (some ⟨W.heap.size, 0, none⟩) 1 1) [z].length (hcells [z]) := by
  have hl : (hcells [z]).length = 32 := by simp [hcells, hz]
  exact ⟨by rw [hl]; rfl, .inr ⟨W.heap.size, 1, (hcells [z]).toArray, rfl, hb, Blk.new W _ _, Nat.le_refl _, by unfold maxLen; omega, by simp [hl], List.take_of_length_le (by simp [hl])⟩⟩
def Fc.hrow (N : Nat) (q : List (List UInt8)) : Fc := ⟨fun v W => ∃ A c, v = .slice A q.length c ∧ W.ownsRow N 25 32 v q.length (hcells q), fun _ _ _ ⟨A, c, h1, h2⟩ hb => ⟨A, c, h1, owns_step h2 hb⟩, fun g W ⟨A, c, h1, _⟩ => by cases h1⟩
def Fc.hlit (z : List UInt8) : Fc := ⟨fun v W => ∃ A, v = .slice A 1 1 ∧ Hs W (fun _ => True) A 1 1 [z], fun _ _ _ ⟨A, h1, h2⟩ hb => ⟨A, h1, h2.step hb⟩, fun g W ⟨A, h1, _⟩ => by cases h1⟩
theorem append_hsv {w : World} {base : Nat} {v : Value} {l : List (List UInt8)} (h : w.ownsRow base 25 32 v l.length (hcells l)) {z : List UInt8} {A : Option Addr} (hz : Hs w (fun _ => True) A 1 1 [z]) (hn : l.length ≤ 2199023255552) (hb : base ≤ w.heap.size) :
    ∃ v' w', (Builtin.append_ #[26, 26] 26 #[v, .slice A 1 1]).run Try.prog w = .ok v' w' ∧ w'.ownsRow base 25 32 v' (l ++ [z]).length (hcells (l ++ [z])) ∧ w.grownBy w' v.ownBlock := by
  obtain ⟨v', w', hr, ho, hg, -⟩ := append_slv (ty := 26) Try.underlying26 info26z (by simp [Value.cells]) (by decide) h hz.sl (oneB _) (by unfold maxLen; omega) (by omega) hb
  rw [← hcells_append] at ho
  exact ⟨v', w', hr, by rw [List.length_append]; exact ho, hg⟩

set_option maxHeartbeats 4000000 in
set_option maxRecDepth 100000 in
theorem rprove13_rec (kd : Int) (D : Nat) : ∀ (i : Nat) (ls : List (List UInt8)) (A : Option Addr) (n c : Nat) (w : World), n ≤ D → i < n → Es w (fun _ => True) A n c ls → n ≤ 1099511627776 → (∀ x ∈ ls, x.length ≤ 1000000000) →
    Calls Try.prog 35 #[.int .i64 kd, .slice A n c, .int .i64 (i : Int)] w fun e w' => ∃ v, e = .returned v ∧ w'.ownsRow w.heap.size 25 32 v (besideW (hashK kd) (wayI i n) ls).length (hcells (besideW (hashK kd) (wayI i n) ls)) ∧ Below w.heap.size w w' := by
  induction D with
  | zero => intro i ls A n c w h h1; omega
  | succ D ih =>
    intro i ls A n c w hD hi h hn hx
    have hroom := h.room
    have hmx := h.max
    unfold maxLen at hmx
    have hlen := h.len
    have hE := h.weak (Y := (· < w.heap.size)) fun b hb _ => hb
    by_cases hn1 : n = 1
    · subst hn1
      rw [wayI_one]
      clear ih h
      go_enter Try.func35, Try.ntmps35
      go_wp2_with fail
      go_ret
      exact ⟨_, rfl, World.ownsRow_nil _ _ _ _, Below.refl _ _⟩
    · have h2 : 2 ≤ n := by omega
      have hlt : decide ((n : Int) < 2) = false := by simp; omega
      have hkl := splitN_lt n h2
      have hkp := splitN_pos n h2
      have hsp := fun W => rsplit_any (n : Int) W (by omega)
      rw [Int.toNat_natCast] at hsp
      have hwr := fun (hk : splitN n ≤ i) => wayI_right i n h2 hi hk
      have hwl := fun (hk : i < splitN n) => wayI_left i n h2 hk
      have hbt := fun way => besideW_t (hashK kd) way ls
      have hbf := fun way => besideW_f (hashK kd) way ls
      rw [hlen] at hbt hbf
      obtain ⟨k, hk⟩ : ∃ k, splitN n = k := ⟨_, rfl⟩
      rw [hk] at hsp hkl hkp hwr hwl hbt hbf
      have Hsp := Lib.hid hsp
      have ht1 := hE.take k (by omega)
      have ht2 := hE.drop k (by omega)
      obtain ⟨A2, hA2⟩ : ∃ A2, (if c = k then A else A.map (·.add (k * 1))) = A2 := ⟨_, rfl⟩
      rw [hA2] at ht2
      have HA2 := Lib.hid hA2
      have hxt : ∀ x ∈ ls.take k, x.length ≤ 1000000000 := fun x h => hx x (List.mem_of_mem_take h)
      have hxd : ∀ x ∈ ls.drop k, x.length ≤ 1000000000 := fun x h => hx x (List.mem_of_mem_drop h)
      by_cases hik : i < k
      · have hd : decide ((i : Int) < (k : Int)) = true := by simp; omega
        rw [hwl hik, hbf]
        have hic := fun W (hb : Below w.heap.size w W) => ih i (ls.take k) A k c W (by omega) hik (ht1.step hb).all (by omega) hxt
        have hro := fun W (hb : Below w.heap.size w W) => rroot13_rec kd (n - k) (ls.drop k) A2 (n - k) (c - k) W (Nat.le_refl _) (ht2.step hb).all (by omega) hxd
        have hzl := length_rootA (hashK kd) (length_hashK kd) (ls.drop k)
        have hql := length_besideW (hashK kd) (wayI i k) (ls.take k)
        have hqw := wayF_le stI rtI k i k
        obtain ⟨q, hq⟩ : ∃ q, besideW (hashK kd) (wayI i k) (ls.take k) = q := ⟨_, rfl⟩
        obtain ⟨z, hz⟩ : ∃ z, rootA (hashK kd) (ls.drop k) = z := ⟨_, rfl⟩
        rw [hq] at hic hql ⊢
        rw [hz] at hro hzl ⊢
        have hqn : q.length ≤ 2199023255552 := by first | (unfold wayI at hql; omega) | omega
        have Hic := Lib.hid hic
        have Hro := Lib.hid hro
        have Hzl := Lib.hid hzl
        have Hqn := Lib.hid hqn
        clear hic hro hzl hq hz hqn hql hqw ih h hxt hxd hx hlen hsp hk hA2 hwl hwr
        try clear hbt hbf
        go_enter Try.func35, Try.ntmps35
        go_wp2_with (go_at_call 77; refine (Hsp.out _).mono ?_; rintro e w1 ⟨rfl, hww⟩; obtain rfl : w = w1 := by first | exact hww | exact hww.symm)
        have hS : Below w.heap.size w w.drew := (Below.refl _ _).drew
        refine wp_region_mix (fun W => Below w.heap.size w W) [(0, true), (1, true), (2, true), (3, true), (4, true), (6, true), (7, true), (8, true), (9, true), (5, false), (10, false), (11, false), (12, false), (13, true)] (by kernel_rfl) (by kernel_rfl) hS fun _ => ?_
        simp only [List.map_cons, List.map_nil, Array.getD_eq_getD_getElem?, List.getElem?_toArray, List.getElem?_cons_succ, List.getElem?_cons_zero, Option.getD_some]
        generalize w.drew = u5 at hS ⊢
        refine wpMix_s (fun K hK => ?_)
        go_simp
        refine hK _ ?_
        clear hK K
        refine wpMix_s (fun K hK => ?_)
        go_simp
        refine hK _ ?_
        clear hK K
        refine wpMix_s (fun K hK => ?_)
        go_simp
        refine hK _ ?_
        clear hK K
        refine wpMix_v (by kernel_rfl) (.slice A k c) (fun s => run_slice_hiB (.tmp 18) (.tmp 19) rfl A n c k rfl rfl (by omega) s.W) ?_
        simp only [Act.put]
        refine wpMix_s (fun K hK => ?_)
        go_simp
        refine hK _ ?_
        clear hK K
        refine wpMix_s (fun K hK => ?_)
        go_simp
        refine hK _ ?_
        clear hK K
        refine wpMix_s (fun K hK => ?_)
        go_simp
        refine hK _ ?_
        clear hK K
        refine wpMix_s (fun K hK => ?_)
        go_simp
        refine hK _ ?_
        clear hK K
        refine wpMix_v (by kernel_rfl) (.slice A2 (n - k) (c - k)) (fun s => by rw [← HA2.out]; exact run_slice_loB (.tmp 24) (.tmp 25) rfl A n c k rfl rfl (by omega) s.W) ?_
        simp only [Act.put]
        refine wpMix_c (fun K hK => ?_) hS
        go_simp
        refine (Hic.out u5 hS).mono ?_
        rintro e u5a ⟨v_, rfl, ho, hb'⟩
        refine hK _ _ ?_
        clear hK K
        replace ho := owns_le ho hS.size
        replace hS := hS.trans (hb'.mono hS.size)
        refine ⟨hS, ?_⟩
        clear hb'
        obtain ⟨A1, c1, rfl, -⟩ := owns_slv ho
        refine wpMix_c (fun K hK => ?_) hS
        go_simp
        refine (Hro.out u5a hS).mono ?_
        rintro e u5_1 ⟨rfl, hb'⟩
        refine hK _ _ ?_
        clear hK K
        replace hS := hS.trans (hb'.mono hS.size)
        refine ⟨hS, ?_⟩
        replace ho := owns_step ho hb'
        clear hb'
        have hbA := (Below.refl u5_1.heap.size u5_1).alloc (Nat.le_refl _) (.cells (hcells [z]).toArray 25)
        refine wpMix_run (by kernel_rfl) (.slice (some ⟨u5_1.heap.size, 0, none⟩) 1 1) (u5_1.alloc (.cells (hcells [z]).toArray 25)) (run_litH1_op z Hzl.out (.tmp 27) rfl rfl _) (hS.trans (hbA.mono hS.size)) ?_
        simp only [Act.put]
        have hz9 := Hs.lit u5_1 [z] (fun h hh => by rw [List.mem_singleton.1 hh]; exact Hzl.out) (by simp) 1 rfl
        replace ho := owns_step ho hbA
        replace hS := hS.trans (hbA.mono hS.size)
        clear hbA
        generalize u5_1.alloc (.cells (hcells [z]).toArray 25) = u5_1b at hz9 ho hS ⊢
        obtain ⟨v', u5_1bc, hr9, hv9, hg9⟩ := append_hsv ho hz9 Hqn.out hS.size
        have hb9 := hS.grown hg9 hS.size (fun r e => (ho.lt r e).1)
        have Hr9 := Lib.hid hr9
        clear hr9
        refine wpMix_run (by kernel_rfl) v' u5_1bc (run_append_op (.tmp 22) (.tmp 28) 26 rfl _ _ rfl rfl Hr9.out) hb9 ?_
        simp only [Act.put]
        clear hz9 ho hS
        refine wpMix_s (fun K hK => ?_)
        go_simp
        refine hK _ ?_
        clear hK K
        refine wpMix_nil ?_
        intro _
        go_wp2_with fail
        go_ret
        exact ⟨_, rfl, hv9, hb9⟩
      · have hd : decide ((i : Int) < (k : Int)) = false := by simp; omega
        rw [hwr (by omega), hbt]
        have hic := fun W (hb : Below w.heap.size w W) => ih (i - k) (ls.drop k) A2 (n - k) (c - k) W (by omega) (by omega) (ht2.step hb).all (by omega) hxd
        rw [show ((i - k : Nat) : Int) = (i : Int) - (k : Int) by omega] at hic
        have hw1 : IntKind.i64.wrap ((i : Int) - (k : Int)) = (i : Int) - (k : Int) := IntWalk.i64_in _ (by omega)
        have hro := fun W (hb : Below w.heap.size w W) => rroot13_rec kd k (ls.take k) A k c W (Nat.le_refl _) (ht1.step hb).all (by omega) hxt
        have hzl := length_rootA (hashK kd) (length_hashK kd) (ls.take k)
        have hql := length_besideW (hashK kd) (wayI (i - k) (n - k)) (ls.drop k)
        have hqw := wayF_le stI rtI (n - k) (i - k) (n - k)
        obtain ⟨q, hq⟩ : ∃ q, besideW (hashK kd) (wayI (i - k) (n - k)) (ls.drop k) = q := ⟨_, rfl⟩
        obtain ⟨z, hz⟩ : ∃ z, rootA (hashK kd) (ls.take k) = z := ⟨_, rfl⟩
        rw [hq] at hic hql ⊢
        rw [hz] at hro hzl ⊢
        have hqn : q.length ≤ 2199023255552 := by first | (unfold wayI at hql; omega) | omega
        have Hic := Lib.hid hic
        have Hro := Lib.hid hro
        have Hzl := Lib.hid hzl
        have Hqn := Lib.hid hqn
        clear hic hro hzl hq hz hqn hql hqw ih h hxt hxd hx hlen hsp hk hA2 hwl hwr
        try clear hbt hbf
        go_enter Try.func35, Try.ntmps35
        go_wp2_with (go_at_call 77; refine (Hsp.out _).mono ?_; rintro e w1 ⟨rfl, hww⟩; obtain rfl : w = w1 := by first | exact hww | exact hww.symm)
        have hS : Below w.heap.size w w.drew := (Below.refl _ _).drew
        refine wp_region_mix (fun W => Below w.heap.size w W) [(0, true), (1, true), (2, true), (3, true), (4, true), (5, true), (6, true), (8, true), (9, true), (10, true), (11, true), (7, false), (12, false), (13, false), (14, false), (15, true)] (by kernel_rfl) (by kernel_rfl) hS fun _ => ?_
        simp only [List.map_cons, List.map_nil, Array.getD_eq_getD_getElem?, List.getElem?_toArray, List.getElem?_cons_succ, List.getElem?_cons_zero, Option.getD_some]
        generalize w.drew = u5 at hS ⊢
        refine wpMix_s (fun K hK => ?_)
        go_simp
        refine hK _ ?_
        clear hK K
        refine wpMix_s (fun K hK => ?_)
        go_simp
        refine hK _ ?_
        clear hK K
        refine wpMix_s (fun K hK => ?_)
        go_simp
        refine hK _ ?_
        clear hK K
        refine wpMix_v (by kernel_rfl) (.slice A2 (n - k) (c - k)) (fun s => by rw [← HA2.out]; exact run_slice_loB (.tmp 31) (.tmp 32) rfl A n c k rfl rfl (by omega) s.W) ?_
        simp only [Act.put]
        refine wpMix_s (fun K hK => ?_)
        go_simp
        refine hK _ ?_
        clear hK K
        refine wpMix_s (fun K hK => ?_)
        go_simp
        refine hK _ ?_
        clear hK K
        refine wpMix_s (fun K hK => ?_)
        go_simp
        refine hK _ ?_
        clear hK K
        refine wpMix_s (fun K hK => ?_)
        go_simp
        refine hK _ ?_
        clear hK K
        refine wpMix_s (fun K hK => ?_)
        go_simp
        refine hK _ ?_
        clear hK K
        refine wpMix_s (fun K hK => ?_)
        go_simp
        refine hK _ ?_
        clear hK K
        refine wpMix_v (by kernel_rfl) (.slice A k c) (fun s => run_slice_hiB (.tmp 39) (.tmp 40) rfl A n c k rfl rfl (by omega) s.W) ?_
        simp only [Act.put]
        refine wpMix_c (fun K hK => ?_) hS
        go_simp
        refine (Hic.out u5 hS).mono ?_
        rintro e u5a ⟨v_, rfl, ho, hb'⟩
        refine hK _ _ ?_
        clear hK K
        replace ho := owns_le ho hS.size
        replace hS := hS.trans (hb'.mono hS.size)
        refine ⟨hS, ?_⟩
        clear hb'
        obtain ⟨A1, c1, rfl, -⟩ := owns_slv ho
        refine wpMix_c (fun K hK => ?_) hS
        go_simp
        refine (Hro.out u5a hS).mono ?_
        rintro e u5_1 ⟨rfl, hb'⟩
        refine hK _ _ ?_
        clear hK K
        replace hS := hS.trans (hb'.mono hS.size)
        refine ⟨hS, ?_⟩
        replace ho := owns_step ho hb'
        clear hb'
        have hbA := (Below.refl u5_1.heap.size u5_1).alloc (Nat.le_refl _) (.cells (hcells [z]).toArray 25)
        refine wpMix_run (by kernel_rfl) (.slice (some ⟨u5_1.heap.size, 0, none⟩) 1 1) (u5_1.alloc (.cells (hcells [z]).toArray 25)) (run_litH1_op z Hzl.out (.tmp 42) rfl rfl _) (hS.trans (hbA.mono hS.size)) ?_
        simp only [Act.put]
        have hz9 := Hs.lit u5_1 [z] (fun h hh => by rw [List.mem_singleton.1 hh]; exact Hzl.out) (by simp) 1 rfl
        replace ho := owns_step ho hbA
        replace hS := hS.trans (hbA.mono hS.size)
        clear hbA
        generalize u5_1.alloc (.cells (hcells [z]).toArray 25) = u5_1b at hz9 ho hS ⊢
        obtain ⟨v', u5_1bc, hr9, hv9, hg9⟩ := append_hsv ho hz9 Hqn.out hS.size
        have hb9 := hS.grown hg9 hS.size (fun r e => (ho.lt r e).1)
        have Hr9 := Lib.hid hr9
        clear hr9
        refine wpMix_run (by kernel_rfl) v' u5_1bc (run_append_op (.tmp 37) (.tmp 43) 26 rfl _ _ rfl rfl Hr9.out) hb9 ?_
        simp only [Act.put]
        clear hz9 ho hS
        refine wpMix_s (fun K hK => ?_)
        go_simp
        refine hK _ ?_
        clear hK K
        refine wpMix_nil ?_
        intro _
        go_wp2_with fail
        go_ret
        exact ⟨_, rfl, hv9, hb9⟩

set_option maxHeartbeats 4000000 in
set_option maxRecDepth 100000 in
theorem rlink13_rec (kd : Int) (D : Nat) : ∀ (m : Nat) (whole : Bool) (ls : List (List UInt8)) (A : Option Addr) (n c : Nat) (w : World), n ≤ D → 1 ≤ m → m ≤ n → Es w (fun _ => True) A n c ls → n ≤ 1099511627776 → (∀ x ∈ ls, x.length ≤ 1000000000) →
    Calls Try.prog 37 #[.int .i64 kd, .slice A n c, .int .i64 (m : Int), .bool whole] w fun e w' => ∃ v, e = .returned v ∧ w'.ownsRow w.heap.size 25 32 v (linkL (hashK kd) whole m ls).length (hcells (linkL (hashK kd) whole m ls)) ∧ Below w.heap.size w w' := by
  induction D with
  | zero => intro m whole ls A n c w h h1 h2; omega
  | succ D ih =>
    intro m whole ls A n c w hD h1 hmn h hn hx
    have hroom := h.room
    have hmx := h.max
    unfold maxLen at hmx
    have hlen := h.len
    have hE := h.weak (Y := (· < w.heap.size)) fun b hb _ => hb
    by_cases hme : m = n
    · subst hme
      have he : ((m : Int) == (m : Int)) = true := by simp
      have hle := linkL_end (hashK kd) whole ls (by omega)
      rw [hlen] at hle
      rw [hle]
      clear ih
      cases whole with
      | true =>
        rw [if_pos rfl]
        clear hle h hE
        go_enter Try.func37, Try.ntmps37
        go_wp2_with fail
        go_ret
        exact ⟨_, rfl, World.ownsRow_nil _ _ _ _, Below.refl _ _⟩
      | false =>
        rw [if_neg (by simp)]
        have hro := rroot13_rec kd m ls A m c w (Nat.le_refl _) h (by omega) hx
        have hzl := length_rootA (hashK kd) (length_hashK kd) ls
        obtain ⟨z, hz⟩ : ∃ z, rootA (hashK kd) ls = z := ⟨_, rfl⟩
        rw [hz] at hro hzl ⊢
        have Hro := Lib.hid hro
        have Hzl := Lib.hid hzl
        clear hle h hE hro hzl hz
        go_enter Try.func37, Try.ntmps37
        go_wp2_with (first
          | (go_at_call 36; refine Hro.out.mono ?_; rintro e w2 ⟨rfl, hb2⟩)
          | ((with_reducible show wpList _ _ _ (⟨some 20, .buildSlice _ _ _, _, _, _, _⟩ :: _) _ _); refine wpList_run rfl _ _ (run_litH1_op z Hzl.out (.tmp 19) rfl rfl _) ?_; simp only [Act.put]))
        go_ret
        exact ⟨_, rfl, owns_lit1 hb2.size z Hzl.out, hb2.trans ((Below.refl _ _).alloc hb2.size _)⟩
    · have h2 : 2 ≤ n := by omega
      have he : ((m : Int) == (n : Int)) = false := by simp; omega
      have hkl := splitN_lt n h2
      have hkp := splitN_pos n h2
      have hsp := fun W => rsplit_any (n : Int) W (by omega)
      rw [Int.toNat_natCast] at hsp
      have hwl := linkL_left (hashK kd) whole m ls h1 (by omega)
      have hwr := linkL_right (hashK kd) whole m ls (by omega)
      rw [hlen] at hwl hwr
      obtain ⟨k, hk⟩ : ∃ k, splitN n = k := ⟨_, rfl⟩
      rw [hk] at hsp hkl hkp hwr hwl
      have Hsp := Lib.hid hsp
      have ht1 := hE.take k (by omega)
      have ht2 := hE.drop k (by omega)
      obtain ⟨A2, hA2⟩ : ∃ A2, (if c = k then A else A.map (·.add (k * 1))) = A2 := ⟨_, rfl⟩
      rw [hA2] at ht2
      have HA2 := Lib.hid hA2
      have hxt : ∀ x ∈ ls.take k, x.length ≤ 1000000000 := fun x h => hx x (List.mem_of_mem_take h)
      have hxd : ∀ x ∈ ls.drop k, x.length ≤ 1000000000 := fun x h => hx x (List.mem_of_mem_drop h)
      by_cases hik : m ≤ k
      · have hd : decide ((m : Int) ≤ (k : Int)) = true := by simp; omega
        rw [hwl hik]
        have hic := fun W (hb : Below w.heap.size w W) => ih m whole (ls.take k) A k c W (by omega) h1 hik (ht1.step hb).all (by omega) hxt
        have hro := fun W (hb : Below w.heap.size w W) => rroot13_rec kd (n - k) (ls.drop k) A2 (n - k) (c - k) W (Nat.le_refl _) (ht2.step hb).all (by omega) hxd
        have hzl := length_rootA (hashK kd) (length_hashK kd) (ls.drop k)
        have hql := length_linkL (hashK kd) whole m (ls.take k)
        have hqw : (ls.take k).length ≤ n := by rw [List.length_take]; omega
        obtain ⟨q, hq⟩ : ∃ q, linkL (hashK kd) whole m (ls.take k) = q := ⟨_, rfl⟩
        obtain ⟨z, hz⟩ : ∃ z, rootA (hashK kd) (ls.drop k) = z := ⟨_, rfl⟩
        rw [hq] at hic hql ⊢
        rw [hz] at hro hzl ⊢
        have hqn : q.length ≤ 2199023255552 := by first | (unfold wayI at hql; omega) | omega
        have Hic := Lib.hid hic
        have Hro := Lib.hid hro
        have Hzl := Lib.hid hzl
        have Hqn := Lib.hid hqn
        clear hic hro hzl hq hz hqn hql hqw ih h hxt hxd hx hlen hsp hk hA2 hwl hwr
        try clear hbt hbf
        go_enter Try.func37, Try.ntmps37
        go_wp2_with (go_at_call 77; refine (Hsp.out _).mono ?_; rintro e w1 ⟨rfl, hww⟩; obtain rfl : w = w1 := by first | exact hww | exact hww.symm)
        have hS : Below w.heap.size w w.drew := (Below.refl _ _).drew
        refine wp_region_mix (fun W => Below w.heap.size w W) [(0, true), (1, true), (2, true), (3, true), (4, true), (5, true), (7, true), (8, true), (9, true), (10, true), (6, false), (11, false), (12, false), (13, false), (14, true)] (by kernel_rfl) (by kernel_rfl) hS fun _ => ?_
        simp only [List.map_cons, List.map_nil, Array.getD_eq_getD_getElem?, List.getElem?_toArray, List.getElem?_cons_succ, List.getElem?_cons_zero, Option.getD_some]
        generalize w.drew = u5 at hS ⊢
        refine wpMix_s (fun K hK => ?_)
        go_simp
        refine hK _ ?_
        clear hK K
        refine wpMix_s (fun K hK => ?_)
        go_simp
        refine hK _ ?_
        clear hK K
        refine wpMix_s (fun K hK => ?_)
        go_simp
        refine hK _ ?_
        clear hK K
        refine wpMix_v (by kernel_rfl) (.slice A k c) (fun s => run_slice_hiB (.tmp 27) (.tmp 28) rfl A n c k rfl rfl (by omega) s.W) ?_
        simp only [Act.put]
        refine wpMix_s (fun K hK => ?_)
        go_simp
        refine hK _ ?_
        clear hK K
        refine wpMix_s (fun K hK => ?_)
        go_simp
        refine hK _ ?_
        clear hK K
        refine wpMix_s (fun K hK => ?_)
        go_simp
        refine hK _ ?_
        clear hK K
        refine wpMix_s (fun K hK => ?_)
        go_simp
        refine hK _ ?_
        clear hK K
        refine wpMix_s (fun K hK => ?_)
        go_simp
        refine hK _ ?_
        clear hK K
        refine wpMix_v (by kernel_rfl) (.slice A2 (n - k) (c - k)) (fun s => by rw [← HA2.out]; exact run_slice_loB (.tmp 34) (.tmp 35) rfl A n c k rfl rfl (by omega) s.W) ?_
        simp only [Act.put]
        refine wpMix_c (fun K hK => ?_) hS
        go_simp
        refine (Hic.out u5 hS).mono ?_
        rintro e u5a ⟨v_, rfl, ho, hb'⟩
        refine hK _ _ ?_
        clear hK K
        replace ho := owns_le ho hS.size
        replace hS := hS.trans (hb'.mono hS.size)
        refine ⟨hS, ?_⟩
        clear hb'
        obtain ⟨A1, c1, rfl, -⟩ := owns_slv ho
        refine wpMix_c (fun K hK => ?_) hS
        go_simp
        refine (Hro.out u5a hS).mono ?_
        rintro e u5_1 ⟨rfl, hb'⟩
        refine hK _ _ ?_
        clear hK K
        replace hS := hS.trans (hb'.mono hS.size)
        refine ⟨hS, ?_⟩
        replace ho := owns_step ho hb'
        clear hb'
        have hbA := (Below.refl u5_1.heap.size u5_1).alloc (Nat.le_refl _) (.cells (hcells [z]).toArray 25)
        refine wpMix_run (by kernel_rfl) (.slice (some ⟨u5_1.heap.size, 0, none⟩) 1 1) (u5_1.alloc (.cells (hcells [z]).toArray 25)) (run_litH1_op z Hzl.out (.tmp 37) rfl rfl _) (hS.trans (hbA.mono hS.size)) ?_
        simp only [Act.put]
        have hz9 := Hs.lit u5_1 [z] (fun h hh => by rw [List.mem_singleton.1 hh]; exact Hzl.out) (by simp) 1 rfl
        replace ho := owns_step ho hbA
        replace hS := hS.trans (hbA.mono hS.size)
        clear hbA
        generalize u5_1.alloc (.cells (hcells [z]).toArray 25) = u5_1b at hz9 ho hS ⊢
        obtain ⟨v', u5_1bc, hr9, hv9, hg9⟩ := append_hsv ho hz9 Hqn.out hS.size
        have hb9 := hS.grown hg9 hS.size (fun r e => (ho.lt r e).1)
        have Hr9 := Lib.hid hr9
        clear hr9
        refine wpMix_run (by kernel_rfl) v' u5_1bc (run_append_op (.tmp 32) (.tmp 38) 26 rfl _ _ rfl rfl Hr9.out) hb9 ?_
        simp only [Act.put]
        clear hz9 ho hS
        refine wpMix_s (fun K hK => ?_)
        go_simp
        refine hK _ ?_
        clear hK K
        refine wpMix_nil ?_
        intro _
        go_wp2_with fail
        go_ret
        exact ⟨_, rfl, hv9, hb9⟩
      · have hd : decide ((m : Int) ≤ (k : Int)) = false := by simp; omega
        rw [hwr (by omega)]
        have hic := fun W (hb : Below w.heap.size w W) => ih (m - k) false (ls.drop k) A2 (n - k) (c - k) W (by omega) (by omega) (by omega) (ht2.step hb).all (by omega) hxd
        rw [show ((m - k : Nat) : Int) = (m : Int) - (k : Int) by omega] at hic
        have hw1 : IntKind.i64.wrap ((m : Int) - (k : Int)) = (m : Int) - (k : Int) := IntWalk.i64_in _ (by omega)
        have hro := fun W (hb : Below w.heap.size w W) => rroot13_rec kd k (ls.take k) A k c W (Nat.le_refl _) (ht1.step hb).all (by omega) hxt
        have hzl := length_rootA (hashK kd) (length_hashK kd) (ls.take k)
        have hql := length_linkL (hashK kd) false (m - k) (ls.drop k)
        have hqw : (ls.drop k).length ≤ n := by rw [List.length_drop]; omega
        obtain ⟨q, hq⟩ : ∃ q, linkL (hashK kd) false (m - k) (ls.drop k) = q := ⟨_, rfl⟩
        obtain ⟨z, hz⟩ : ∃ z, rootA (hashK kd) (ls.take k) = z := ⟨_, rfl⟩
        rw [hq] at hic hql ⊢
        rw [hz] at hro hzl ⊢
        have hqn : q.length ≤ 2199023255552 := by first | (unfold wayI at hql; omega) | omega
        have Hic := Lib.hid hic
        have Hro := Lib.hid hro
        have Hzl := Lib.hid hzl
        have Hqn := Lib.hid hqn
        clear hic hro hzl hq hz hqn hql hqw ih h hxt hxd hx hlen hsp hk hA2 hwl hwr
        try clear hbt hbf
        go_enter Try.func37, Try.ntmps37
        go_wp2_with (go_at_call 77; refine (Hsp.out _).mono ?_; rintro e w1 ⟨rfl, hww⟩; obtain rfl : w = w1 := by first | exact hww | exact hww.symm)
        have hS : Below w.heap.size w w.drew := (Below.refl _ _).drew
        refine wp_region_mix (fun W => Below w.heap.size w W) [(0, true), (1, true), (2, true), (3, true), (4, true), (5, true), (6, true), (8, true), (9, true), (10, true), (11, true), (7, false), (12, false), (13, false), (14, false), (15, true)] (by kernel_rfl) (by kernel_rfl) hS fun _ => ?_
        simp only [List.map_cons, List.map_nil, Array.getD_eq_getD_getElem?, List.getElem?_toArray, List.getElem?_cons_succ, List.getElem?_cons_zero, Option.getD_some]
        generalize w.drew = u5 at hS ⊢
        refine wpMix_s (fun K hK => ?_)
        go_simp
        refine hK _ ?_
        clear hK K
        refine wpMix_s (fun K hK => ?_)
        go_simp
        refine hK _ ?_
        clear hK K
        refine wpMix_s (fun K hK => ?_)
        go_simp
        refine hK _ ?_
        clear hK K
        refine wpMix_v (by kernel_rfl) (.slice A2 (n - k) (c - k)) (fun s => by rw [← HA2.out]; exact run_slice_loB (.tmp 41) (.tmp 42) rfl A n c k rfl rfl (by omega) s.W) ?_
        simp only [Act.put]
        refine wpMix_s (fun K hK => ?_)
        go_simp
        refine hK _ ?_
        clear hK K
        refine wpMix_s (fun K hK => ?_)
        go_simp
        refine hK _ ?_
        clear hK K
        refine wpMix_s (fun K hK => ?_)
        go_simp
        refine hK _ ?_
        clear hK K
        refine wpMix_s (fun K hK => ?_)
        go_simp
        refine hK _ ?_
        clear hK K
        refine wpMix_s (fun K hK => ?_)
        go_simp
        refine hK _ ?_
        clear hK K
        refine wpMix_s (fun K hK => ?_)
        go_simp
        refine hK _ ?_
        clear hK K
        refine wpMix_v (by kernel_rfl) (.slice A k c) (fun s => run_slice_hiB (.tmp 49) (.tmp 50) rfl A n c k rfl rfl (by omega) s.W) ?_
        simp only [Act.put]
        refine wpMix_c (fun K hK => ?_) hS
        go_simp
        refine (Hic.out u5 hS).mono ?_
        rintro e u5a ⟨v_, rfl, ho, hb'⟩
        refine hK _ _ ?_
        clear hK K
        replace ho := owns_le ho hS.size
        replace hS := hS.trans (hb'.mono hS.size)
        refine ⟨hS, ?_⟩
        clear hb'
        obtain ⟨A1, c1, rfl, -⟩ := owns_slv ho
        refine wpMix_c (fun K hK => ?_) hS
        go_simp
        refine (Hro.out u5a hS).mono ?_
        rintro e u5_1 ⟨rfl, hb'⟩
        refine hK _ _ ?_
        clear hK K
        replace hS := hS.trans (hb'.mono hS.size)
        refine ⟨hS, ?_⟩
        replace ho := owns_step ho hb'
        clear hb'
        have hbA := (Below.refl u5_1.heap.size u5_1).alloc (Nat.le_refl _) (.cells (hcells [z]).toArray 25)
        refine wpMix_run (by kernel_rfl) (.slice (some ⟨u5_1.heap.size, 0, none⟩) 1 1) (u5_1.alloc (.cells (hcells [z]).toArray 25)) (run_litH1_op z Hzl.out (.tmp 52) rfl rfl _) (hS.trans (hbA.mono hS.size)) ?_
        simp only [Act.put]
        have hz9 := Hs.lit u5_1 [z] (fun h hh => by rw [List.mem_singleton.1 hh]; exact Hzl.out) (by simp) 1 rfl
        replace ho := owns_step ho hbA
        replace hS := hS.trans (hbA.mono hS.size)
        clear hbA
        generalize u5_1.alloc (.cells (hcells [z]).toArray 25) = u5_1b at hz9 ho hS ⊢
        obtain ⟨v', u5_1bc, hr9, hv9, hg9⟩ := append_hsv ho hz9 Hqn.out hS.size
        have hb9 := hS.grown hg9 hS.size (fun r e => (ho.lt r e).1)
        have Hr9 := Lib.hid hr9
        clear hr9
        refine wpMix_run (by kernel_rfl) v' u5_1bc (run_append_op (.tmp 47) (.tmp 53) 26 rfl _ _ rfl rfl Hr9.out) hb9 ?_
        simp only [Act.put]
        clear hz9 ho hS
        refine wpMix_s (fun K hK => ?_)
        go_simp
        refine hK _ ?_
        clear hK K
        refine wpMix_nil ?_
        intro _
        go_wp2_with fail
        go_ret
        exact ⟨_, rfl, hv9, hb9⟩
end Go.Proofs.Ytonidnfgneokbaa
