/- cons.Chain, notaryref12.Chain. -/
import Derived.Test.YtgcbdnoniikboaaQb130
namespace Go.Proofs.Ytgcbdnoniikboaa
open Go Go.RowKit Go.Shelf
attribute [local go_sem] Oper.semAt_some

theorem info37b : (Try.prog.info? 37).map (fun i => (i.zero, i.size, i.bytes)) = some (some (.slice none 0 0), 1, 24) := by kernel_rfl
theorem owns_blk {w : World} {base n s g : Nat} {e : TypeId} {v : Value} {xs : List Value} (h : w.ownsRow base e s v n xs) (hg : v.ownBlock = some g) : ∃ cur, Blk w g e cur := by
  rcases h.2 with ⟨hv, _⟩ | ⟨g', cap, cur, hv', hbg, hk, _⟩
  · subst hv; cases hg
  · subst hv'; cases hg; exact ⟨cur, hk⟩
/-- rows of unlike types lie apart -/
theorem owns_apart {w : World} {b b' n n' s s' : Nat} {e e' : TypeId} {v v' : Value} {xs xs' : List Value} (h : w.ownsRow b e s v n xs) (h' : w.ownsRow b' e' s' v' n' xs') (he : e ≠ e') : v.ownBlock = none ∨ v.ownBlock ≠ v'.ownBlock := by
  cases hv : v.ownBlock with
  | none => exact .inl rfl
  | some g =>
    refine .inr fun e2 => ?_
    obtain ⟨c1, h1⟩ := owns_blk h hv
    obtain ⟨c2, h2⟩ := owns_blk h' e2.symm
    have h1 : w.heap[g]? = some (.cells c1 e) := h1
    have h2 : w.heap[g]? = some (.cells c2 e') := h2
    rw [h1] at h2
    injection h2 with h2
    injection h2 with _ h3
    exact he h3
/-- a slice of rows of hashes, all of one's own -/
structure ChC (base : Nat) (rs : List (List (List UInt8))) (k : Nat) (v : Value) (vs : List Value) (W : World) : Prop where
  own : W.ownsRow base 37 1 v k vs
  ins : ∀ i, i < k → ∃ x, vs[i]? = some x ∧ W.ownsRow base 34 32 x (rs.getD i []).length (hcells (rs.getD i []))
section
variable {base : Nat} {rs : List (List (List UInt8))} {k : Nat} {v v' : Value} {vs : List Value} {W W' : World}
theorem ChC.nil (base : Nat) (rs : List (List (List UInt8))) (W : World) : ChC base rs 0 (.slice none 0 0) [] W := ⟨World.ownsRow_nil _ _ _ _, fun i h => absurd h (by omega)⟩
theorem ChC.step (h : ChC base rs k v vs W) (hb : Below W.heap.size W W') : ChC base rs k v vs W' :=
  ⟨owns_step h.own hb, fun i hi => let ⟨x, h1, h2⟩ := h.ins i hi; ⟨x, h1, owns_step h2 hb⟩⟩
theorem ChC.app (h : ChC base rs k v vs W) (hg : W.grownBy W' v.ownBlock) {x : Value} (ho : W'.ownsRow base 37 1 v' (k + 1) (vs ++ [x])) (hx : W.ownsRow base 34 32 x (rs.getD k []).length (hcells (rs.getD k []))) : ChC base rs (k + 1) v' (vs ++ [x]) W' := by
  have hvl : vs.length = k := by have := h.own.1; omega
  have hgo : ∀ (x : Value) (n : Nat) (l : List Value), W.ownsRow base 34 32 x n l → W'.ownsRow base 34 32 x n l := fun x n l h2 => h2.kept hg (owns_apart h2 h.own (by decide))
  refine ⟨ho, fun i hi => ?_⟩
  by_cases hik : i < k
  · obtain ⟨y, h1, h2⟩ := h.ins i hik
    exact ⟨y, by rw [List.getElem?_append_left (by omega)]; exact h1, hgo _ _ _ h2⟩
  · obtain rfl : i = k := by omega
    exact ⟨x, by rw [List.getElem?_append_right (by omega), hvl, Nat.sub_self]; rfl, hgo _ _ _ hx⟩
theorem ChC.same {rs' : List (List (List UInt8))} (h : ChC base rs k v vs W) (he : ∀ i, i < k → rs.getD i [] = rs'.getD i []) : ChC base rs' k v vs W := ⟨h.own, fun i hi => by rw [← he i hi]; exact h.ins i hi⟩
end
theorem lastOf_getD : ∀ (s : List Int) (last : Int), 0 < s.length → lastOf last s = s.getD (s.length - 1) 0
  | [x], _, _ => rfl
  | x :: y :: l, last, _ => by
    have := lastOf_getD (y :: l) x (by simp)
    show lastOf x (y :: l) = _
    rw [this]
    rfl

set_option maxHeartbeats 4000000 in
set_option maxRecDepth 100000 in
theorem cchain_any (hs : List (List UInt8)) (A : Option Addr) (n c : Nat) (s : List Int) (As : Option Addr) (ns cs : Nat) (w : World) (h : Hs w (fun _ => True) A n c hs) (h2 : SlV w (fun _ => True) As ns cs 1 (icells s)) (hsl : s.length = ns) (hn : n ≤ 1000) (hns : ns ≤ 1000) :
    Calls Try.prog 50 #[.slice A n c, .slice As ns cs] w fun e w' => ∃ v vs, e = .returned (.tuple #[v, .int .i64 (chainA hs s).2]) ∧ ChC w.heap.size (chainA hs s).1 (chainA hs s).1.length v vs w' ∧ Below w.heap.size w w' := by
  have hroom := h.sl.room
  have hmx := h.sl.max
  unfold maxLen at hmx
  have hroom2 := h2.room
  have hmx2 := h2.max
  unfold maxLen at hmx2
  have hlen := h.len
  have hri := crise_any s As ns cs w h2 hsl
  have hoe := okFrom_eq hs.length s 0 (by omega)
  have Hlen := Lib.hid hlen
  have Hsl := Lib.hid hsl
  by_cases hok : okFrom hs.length 0 s = true
  · have hr : riseFrom 0 s = true := by rw [hok] at hoe; simp at hoe; exact hoe.1
    have hla : lastOf 0 s ≤ (n : Int) := by rw [hok] at hoe; simp at hoe; rw [← hlen]; exact hoe.2
    have hat := okFrom_at hs.length s 0 (Int.le_refl _) hok
    rw [hr] at hri
    have hc1 : chainA hs s = (chainK hs s (ns - 1), 0) := by unfold chainA; rw [if_pos hok, hsl]
    rw [hc1, length_chainK]
    have Hri := Lib.hid hri
    have Hat := Lib.hid hat
    clear hri hoe hok hc1 hr hsl hlen hat
    by_cases hz : ns = 0
    · have hd0 : decide ((0 : Int) < (ns : Int)) = false := by simp; omega
      have hd0' : ¬ (0 < ns) := by omega
      have Hz := Lib.hid hz
      clear hz hla
      go_enter Try.func50, Try.ntmps50
      go_wp2_with fail
      refine Hri.out.mono ?_
      rintro e w0 ⟨rfl, hw0⟩
      obtain rfl : w = w0 := hw0.symm
      go_upto_region 5 with fail
      go_loopw [6, 7, 8, 9] (fun v6 v7 _ _ wr => ∃ (k : Nat) (v : Value) (vs : List Value), k ≤ ns - 1 ∧ v7 = .int .i64 ((k : Int) + 1) ∧ v = v6 ∧ ChC w.heap.size (chainK hs s (ns - 1)) k v vs wr ∧ Below w.heap.size w wr) (fun _ v7 _ _ _ => ns - (intOf v7).toNat)
      case atStart => exact ⟨0, _, [], Nat.zero_le _, rfl, rfl, ChC.nil _ _ _, Below.refl _ _⟩
      case round =>
        obtain ⟨k, v6, vs, hk, rfl, rfl, hC, hbr⟩ := hrel
        by_cases hkn : k + 1 < ns
        · have hd : decide ((k : Int) + 1 < (ns : Int)) = true := by simp; omega
          obtain ⟨x1, x2, x3, -⟩ := Hat.out (k + 1) (by rw [Hsl.out]; exact hkn)
          obtain ⟨m, hm⟩ := Int.eq_ofNat_of_zero_le x1
          have hmn : m ≤ n := by rw [hm, Hlen.out] at x2; omega
          obtain ⟨bs, os, eA, hbb, -, -⟩ := h2.at_ (by omega) (by decide)
          subst eA
          replace hbb := Nat.lt_of_lt_of_le hbb hbr.size
          have hc1 := icell_at (h2.step hbr) Hsl.out rfl (k + 1) hkn
          have hc0 := icell_at (h2.step hbr) Hsl.out rfl k (by omega)
          have hce := chainK_at hs s (ns - 1) k (by omega)
          rw [hm] at hc1 hce
          rw [Int.toNat_natCast] at hce
          obtain ⟨x, hx⟩ : ∃ x, s.getD k 0 = x := ⟨_, rfl⟩
          rw [hx] at hc0 hce
          have hpr := fun W (h : Hs W (fun _ => True) A n c hs) => cprove_any (hs.take m) A m c W x (h.take m hmn) (by omega)
          have c1 : ∀ s : InC (fun W => Below wr.heap.size wr W), s.W.cell? ⟨bs, os + (k + 1), none⟩ = some (.int .i64 (m : Int)) := fun s => by rw [s.ok.cell (p := ⟨bs, os + (k + 1), none⟩) hbb]; exact hc1
          have c0 : ∀ s : InC (fun W => Below wr.heap.size wr W), s.W.cell? ⟨bs, os + k, none⟩ = some (.int .i64 x) := fun s => by rw [s.ok.cell (p := ⟨bs, os + k, none⟩) hbb]; exact hc0
          have hw1 : IntKind.i64.wrap (k : Int) = (k : Int) := IntWalk.i64_in _ (by omega)
          obtain ⟨p, hp⟩ : ∃ p, rootsS (hs.take m) x = p := ⟨_, rfl⟩
          rw [hp] at hpr hce
          have Hpr := Lib.hid hpr
          have Hce := Lib.hid hce
          have Hx := Lib.hid hx
          clear hpr hce hx hp hc1 hc0 x1 x2 x3 hm
          have hbd1 : 0 ≤ (k : Int) + 1 ∧ (k : Int) + 1 < (ns : Int) := by omega
          have hbd0 : k < ns := by omega
          go_wp2_with fail
          have hS : Below wr.heap.size wr wr.drew := (Below.refl _ _).drew
          refine wp_region_mix (fun W => Below wr.heap.size wr W) [(0, true), (1, true), (2, true), (3, true), (4, true), (5, true), (6, true), (7, true), (8, true), (9, true), (10, true), (11, false), (12, true), (13, true), (14, true), (15, true), (16, true)] (by kernel_rfl) (by kernel_rfl) hS fun _ => ?_
          simp only [List.map_cons, List.map_nil, Array.getD_eq_getD_getElem?, List.getElem?_toArray, List.getElem?_cons_succ, List.getElem?_cons_zero, Option.getD_some]
          generalize wr.drew = u9 at hS ⊢
          refine wpMix_s (fun K hK => ?_)
          go_simp
          refine hK _ ?_
          clear hK K
          refine wpMix_s (fun K hK => ?_)
          go_simp
          refine hK _ ?_
          clear hK K
          refine wpMix_s (fun K hK => ?_)
          go_simp
          refine hK _ ?_
          clear hK K
          refine wpMix_s (fun K hK => ?_)
          go_simp
          refine hK _ ?_
          clear hK K
          refine wpMix_s (fun K hK => ?_)
          go_simp
          refine hK _ ?_
          clear hK K
          refine wpMix_v (by kernel_rfl) (.slice A m c) (fun s => run_slice_op_hi (.tmp 36) (.tmp 40) rfl A n c m rfl rfl (by omega) s.W) ?_
          simp only [Act.put]
          refine wpMix_s (fun K hK => ?_)
          go_simp
          refine hK _ ?_
          clear hK K
          refine wpMix_s (fun K hK => ?_)
          go_simp
          refine hK _ ?_
          clear hK K
          refine wpMix_s (fun K hK => ?_)
          go_simp
          refine hK _ ?_
          clear hK K
          refine wpMix_s (fun K hK => ?_)
          go_simp
          refine hK _ ?_
          clear hK K
          refine wpMix_s (fun K hK => ?_)
          go_simp
          refine hK _ ?_
          clear hK K
          have hS0 := Nat.le_trans hbr.size hS.size
          refine wpMix_c (fun K hK => ?_) hS
          go_simp
          refine (Hpr.out u9 ((h.step hbr).step hS)).mono ?_
          rintro e u9a ⟨v47, rfl, ho47, hb'⟩
          refine hK _ _ ?_
          clear hK K
          replace hS := hS.trans (hb'.mono hS.size)
          refine ⟨hS, ?_⟩
          replace ho47 := owns_le ho47 hS0
          obtain ⟨A7, c7, rfl, hs7⟩ := owns_slv ho47
          clear hb'
          refine wpMix_s (fun K hK => ?_)
          go_simp
          refine hK _ ?_
          clear hK K
          refine wpMix_s (fun K hK => ?_)
          go_simp
          refine hK _ ?_
          clear hK K
          refine wpMix_s (fun K hK => ?_)
          go_simp
          refine hK _ ?_
          clear hK K
          refine wpMix_s (fun K hK => ?_)
          go_simp
          refine hK _ ?_
          clear hK K
          refine wpMix_s (fun K hK => ?_)
          go_simp
          refine hK _ ?_
          clear hK K
          refine wpMix_nil ?_
          intro _
          have hba : Below u9a.heap.size u9a (u9a.alloc (.cells #[.slice A7 p.length c7] 37)) := (Below.refl _ _).alloc (Nat.le_refl _) _
          have hC8 := (hC.step hS).step hba
          have hB8 := (hbr.trans (hS.mono hbr.size)).trans (hba.mono (Nat.le_trans hbr.size hS.size))
          obtain ⟨v9, w9, hr9, ho9, hg9, -⟩ := append_slv (ty := 81) Try.underlying81 info37b rfl (by decide) hC8.own (SlV.lit (s := 1) u9a (fun _ => True) 37 [.slice A7 p.length c7] rfl (by decide) trivial) (by simp [Value.oneCell']) (by unfold maxLen; omega) (by omega) hB8.size
          have hC9 := hC8.app hg9 ho9 (by rw [Hce.out]; exact owns_step ho47 hba)
          have hB9 := hB8.grown hg9 hB8.size (fun k hk => (hC8.own.lt k hk).1)
          have Hr9 := Lib.hid hr9
          clear hr9 hg9 ho9 hC8 hB8
          go_wp2_with (first
            | ((with_reducible show wpList _ _ _ (⟨some 52, .buildSlice _ _ _, _, _, _, _⟩ :: _) _ _); refine wpList_run rfl (.slice (some ⟨u9a.heap.size, 0, none⟩) 1 1) (u9a.alloc (.cells #[.slice A7 p.length c7] 37)) (by kernel_rfl) ?_; simp only [Act.put])
            | ((with_reducible show wpList _ _ _ (⟨some 53, .call _, _, _, _, _⟩ :: _) _ _); refine wpList_run rfl v9 w9 (run_append_op (.tmp 50) (.tmp 52) 81 rfl _ _ rfl rfl Hr9.out) ?_; simp only [Act.put]))
          go_roundw
          case rel => exact ⟨k + 1, _, _, by omega, by go_num, rfl, hC9, hB9⟩
          case measure => simp [intOf]; omega
        · have hd : decide ((k : Int) + 1 < (ns : Int)) = false := by simp; omega
          have hd2 : ¬ ((k : Int) + 1 < (ns : Int)) := by omega
          obtain rfl : k = ns - 1 := by omega
          go_wp2_with fail
          exact bodyPost_ret (results_tmp2 rfl _ _ _) rfl ⟨_, rfl, ⟨vs, hC⟩, hbr⟩
    · have hd0 : decide ((0 : Int) < (ns : Int)) = true := by simp; omega
      have hd0' : 0 < ns := by omega
      have hlg := lastOf_getD s 0 (by rw [Hsl.out]; omega)
      rw [hlg, Hsl.out] at hla
      obtain ⟨q, hq⟩ : ∃ q, ns = q + 1 := ⟨ns - 1, by omega⟩
      rw [show ns - 1 = q by omega] at hla
      have hwq : IntKind.i64.wrap ((ns : Int) - 1) = (q : Int) := by rw [IntWalk.i64_in _ (by omega)]; omega
      have hqn : q < ns := by omega
      obtain ⟨bs0, os0, rfl, -, -, -⟩ := h2.at_ (by omega) (by decide)
      have hcl := icell_at h2 Hsl.out rfl q hqn
      obtain ⟨y, hy⟩ : ∃ y, s.getD q 0 = y := ⟨_, rfl⟩
      rw [hy] at hcl hla
      have hdl : decide ((n : Int) < y) = false := by simp; omega
      have Hq := Lib.hid hq
      clear hz hq hlg hy
      go_enter Try.func50, Try.ntmps50
      go_wp2_with fail
      refine Hri.out.mono ?_
      rintro e w0 ⟨rfl, hw0⟩
      obtain rfl : w = w0 := hw0.symm
      go_upto_region 5 with fail
      go_loopw [6, 7, 8, 9] (fun v6 v7 _ _ wr => ∃ (k : Nat) (v : Value) (vs : List Value), k ≤ ns - 1 ∧ v7 = .int .i64 ((k : Int) + 1) ∧ v = v6 ∧ ChC w.heap.size (chainK hs s (ns - 1)) k v vs wr ∧ Below w.heap.size w wr) (fun _ v7 _ _ _ => ns - (intOf v7).toNat)
      case atStart => exact ⟨0, _, [], Nat.zero_le _, rfl, rfl, ChC.nil _ _ _, Below.refl _ _⟩
      case round =>
        obtain ⟨k, v6, vs, hk, rfl, rfl, hC, hbr⟩ := hrel
        by_cases hkn : k + 1 < ns
        · have hd : decide ((k : Int) + 1 < (ns : Int)) = true := by simp; omega
          obtain ⟨x1, x2, x3, -⟩ := Hat.out (k + 1) (by rw [Hsl.out]; exact hkn)
          obtain ⟨m, hm⟩ := Int.eq_ofNat_of_zero_le x1
          have hmn : m ≤ n := by rw [hm, Hlen.out] at x2; omega
          obtain ⟨bs1, os1, eA, hbb, -, -⟩ := h2.at_ (by omega) (by decide)
          cases eA
          replace hbb := Nat.lt_of_lt_of_le hbb hbr.size
          have hc1 := icell_at (h2.step hbr) Hsl.out rfl (k + 1) hkn
          have hc0 := icell_at (h2.step hbr) Hsl.out rfl k (by omega)
          have hce := chainK_at hs s (ns - 1) k (by omega)
          rw [hm] at hc1 hce
          rw [Int.toNat_natCast] at hce
          obtain ⟨x, hx⟩ : ∃ x, s.getD k 0 = x := ⟨_, rfl⟩
          rw [hx] at hc0 hce
          have hpr := fun W (h : Hs W (fun _ => True) A n c hs) => cprove_any (hs.take m) A m c W x (h.take m hmn) (by omega)
          have c1 : ∀ s : InC (fun W => Below wr.heap.size wr W), s.W.cell? ⟨bs0, os0 + (k + 1), none⟩ = some (.int .i64 (m : Int)) := fun s => by rw [s.ok.cell (p := ⟨bs0, os0 + (k + 1), none⟩) hbb]; exact hc1
          have c0 : ∀ s : InC (fun W => Below wr.heap.size wr W), s.W.cell? ⟨bs0, os0 + k, none⟩ = some (.int .i64 x) := fun s => by rw [s.ok.cell (p := ⟨bs0, os0 + k, none⟩) hbb]; exact hc0
          have hw1 : IntKind.i64.wrap (k : Int) = (k : Int) := IntWalk.i64_in _ (by omega)
          obtain ⟨p, hp⟩ : ∃ p, rootsS (hs.take m) x = p := ⟨_, rfl⟩
          rw [hp] at hpr hce
          have Hpr := Lib.hid hpr
          have Hce := Lib.hid hce
          have Hx := Lib.hid hx
          clear hpr hce hx hp hc1 hc0 x1 x2 x3 hm
          have hbd1 : 0 ≤ (k : Int) + 1 ∧ (k : Int) + 1 < (ns : Int) := by omega
          have hbd0 : k < ns := by omega
          go_wp2_with fail
          have hS : Below wr.heap.size wr wr.drew := (Below.refl _ _).drew
          refine wp_region_mix (fun W => Below wr.heap.size wr W) [(0, true), (1, true), (2, true), (3, true), (4, true), (5, true), (6, true), (7, true), (8, true), (9, true), (10, true), (11, false), (12, true), (13, true), (14, true), (15, true), (16, true)] (by kernel_rfl) (by kernel_rfl) hS fun _ => ?_
          simp only [List.map_cons, List.map_nil, Array.getD_eq_getD_getElem?, List.getElem?_toArray, List.getElem?_cons_succ, List.getElem?_cons_zero, Option.getD_some]
          generalize wr.drew = u9 at hS ⊢
          refine wpMix_s (fun K hK => ?_)
          go_simp
          refine hK _ ?_
          clear hK K
          refine wpMix_s (fun K hK => ?_)
          go_simp
          refine hK _ ?_
          clear hK K
          refine wpMix_s (fun K hK => ?_)
          go_simp
          refine hK _ ?_
          clear hK K
          refine wpMix_s (fun K hK => ?_)
          go_simp
          refine hK _ ?_
          clear hK K
          refine wpMix_s (fun K hK => ?_)
          go_simp
          refine hK _ ?_
          clear hK K
          refine wpMix_v (by kernel_rfl) (.slice A m c) (fun s => run_slice_op_hi (.tmp 36) (.tmp 40) rfl A n c m rfl rfl (by omega) s.W) ?_
          simp only [Act.put]
          refine wpMix_s (fun K hK => ?_)
          go_simp
          refine hK _ ?_
          clear hK K
          refine wpMix_s (fun K hK => ?_)
          go_simp
          refine hK _ ?_
          clear hK K
          refine wpMix_s (fun K hK => ?_)
          go_simp
          refine hK _ ?_
          clear hK K
          refine wpMix_s (fun K hK => ?_)
          go_simp
          refine hK _ ?_
          clear hK K
          refine wpMix_s (fun K hK => ?_)
          go_simp
          refine hK _ ?_
          clear hK K
          have hS0 := Nat.le_trans hbr.size hS.size
          refine wpMix_c (fun K hK => ?_) hS
          go_simp
          refine (Hpr.out u9 ((h.step hbr).step hS)).mono ?_
          rintro e u9a ⟨v47, rfl, ho47, hb'⟩
          refine hK _ _ ?_
          clear hK K
          replace hS := hS.trans (hb'.mono hS.size)
          refine ⟨hS, ?_⟩
          replace ho47 := owns_le ho47 hS0
          obtain ⟨A7, c7, rfl, hs7⟩ := owns_slv ho47
          clear hb'
          refine wpMix_s (fun K hK => ?_)
          go_simp
          refine hK _ ?_
          clear hK K
          refine wpMix_s (fun K hK => ?_)
          go_simp
          refine hK _ ?_
          clear hK K
          refine wpMix_s (fun K hK => ?_)
          go_simp
          refine hK _ ?_
          clear hK K
          refine wpMix_s (fun K hK => ?_)
          go_simp
          refine hK _ ?_
          clear hK K
          refine wpMix_s (fun K hK => ?_)
          go_simp
          refine hK _ ?_
          clear hK K
          refine wpMix_nil ?_
          intro _
          have hba : Below u9a.heap.size u9a (u9a.alloc (.cells #[.slice A7 p.length c7] 37)) := (Below.refl _ _).alloc (Nat.le_refl _) _
          have hC8 := (hC.step hS).step hba
          have hB8 := (hbr.trans (hS.mono hbr.size)).trans (hba.mono (Nat.le_trans hbr.size hS.size))
          obtain ⟨v9, w9, hr9, ho9, hg9, -⟩ := append_slv (ty := 81) Try.underlying81 info37b rfl (by decide) hC8.own (SlV.lit (s := 1) u9a (fun _ => True) 37 [.slice A7 p.length c7] rfl (by decide) trivial) (by simp [Value.oneCell']) (by unfold maxLen; omega) (by omega) hB8.size
          have hC9 := hC8.app hg9 ho9 (by rw [Hce.out]; exact owns_step ho47 hba)
          have hB9 := hB8.grown hg9 hB8.size (fun k hk => (hC8.own.lt k hk).1)
          have Hr9 := Lib.hid hr9
          clear hr9 hg9 ho9 hC8 hB8
          go_wp2_with (first
            | ((with_reducible show wpList _ _ _ (⟨some 52, .buildSlice _ _ _, _, _, _, _⟩ :: _) _ _); refine wpList_run rfl (.slice (some ⟨u9a.heap.size, 0, none⟩) 1 1) (u9a.alloc (.cells #[.slice A7 p.length c7] 37)) (by kernel_rfl) ?_; simp only [Act.put])
            | ((with_reducible show wpList _ _ _ (⟨some 53, .call _, _, _, _, _⟩ :: _) _ _); refine wpList_run rfl v9 w9 (run_append_op (.tmp 50) (.tmp 52) 81 rfl _ _ rfl rfl Hr9.out) ?_; simp only [Act.put]))
          go_roundw
          case rel => exact ⟨k + 1, _, _, by omega, by go_num, rfl, hC9, hB9⟩
          case measure => simp [intOf]; omega
        · have hd : decide ((k : Int) + 1 < (ns : Int)) = false := by simp; omega
          have hd2 : ¬ ((k : Int) + 1 < (ns : Int)) := by omega
          obtain rfl : k = ns - 1 := by omega
          go_wp2_with fail
          exact bodyPost_ret (results_tmp2 rfl _ _ _) rfl ⟨_, rfl, ⟨vs, hC⟩, hbr⟩
  · have hc1 : chainA hs s = ([], 4) := by unfold chainA; rw [if_neg hok]
    rw [hc1]
    have hnil := fun w' => ChC.nil w.heap.size [] w'
    by_cases hr : riseFrom 0 s = true
    · have hla : ¬ lastOf 0 s ≤ (n : Int) := by
        intro e
        apply hok
        rw [hoe, hr, hlen]
        simp
        exact e
      rw [hr] at hri
      have hz : 0 < ns := by
        rcases Nat.eq_zero_or_pos ns with h0 | h0
        · obtain rfl : s = [] := List.length_eq_zero_iff.1 (by omega)
          exact absurd (show (0 : Int) ≤ n by omega) hla
        · exact h0
      have hd0 : decide ((0 : Int) < (ns : Int)) = true := by simp; omega
      have hlg := lastOf_getD s 0 (by rw [Hsl.out]; omega)
      rw [hlg, Hsl.out] at hla
      obtain ⟨q, hq⟩ : ∃ q, ns = q + 1 := ⟨ns - 1, by omega⟩
      rw [show ns - 1 = q by omega] at hla
      have hwq : IntKind.i64.wrap ((ns : Int) - 1) = (q : Int) := by rw [IntWalk.i64_in _ (by omega)]; omega
      have hqn : q < ns := by omega
      obtain ⟨bs0, os0, rfl, -, -, -⟩ := h2.at_ (by omega) (by decide)
      have hcl := icell_at h2 Hsl.out rfl q hqn
      obtain ⟨y, hy⟩ : ∃ y, s.getD q 0 = y := ⟨_, rfl⟩
      rw [hy] at hcl hla
      have hdl : decide ((n : Int) < y) = true := by simp; omega
      have Hq := Lib.hid hq
      have Hri := Lib.hid hri
      clear hq hlg hy hri hoe hok hc1 hr hsl hlen
      go_enter Try.func50, Try.ntmps50
      go_wp2_with fail
      refine Hri.out.mono ?_
      rintro e w0 ⟨rfl, hw0⟩
      obtain rfl : w = w0 := hw0.symm
      go_wp2_with fail
      exact bodyPost_ret (results_tmp2 rfl _ _ _) rfl ⟨_, [], rfl, hnil _, Below.refl _ _⟩
    · have hr : riseFrom 0 s = false := by simpa using hr
      rw [hr] at hri
      have Hri := Lib.hid hri
      clear hri hoe hok hc1 hr hsl hlen
      go_enter Try.func50, Try.ntmps50
      go_wp2_with fail
      refine Hri.out.mono ?_
      rintro e w0 ⟨rfl, hw0⟩
      obtain rfl : w = w0 := hw0.symm
      go_wp2_with fail
      exact bodyPost_ret (results_tmp2 rfl _ _ _) rfl ⟨_, [], rfl, hnil _, Below.refl _ _⟩
end Go.Proofs.Ytgcbdnoniikboaa
