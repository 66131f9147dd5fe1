/- notarylaw24.ModelProofs. -/
import Derived.Test.YtobcfgbkhgkelaaQe128
import Derived.Test.YtobcfgbkhgkelaaQe131
import Derived.Test.YtobcfgbkhgkelaaQe123
import Derived.Test.YtobcfgbkhgkelaaQe133
import Derived.Test.YtobcfgbkhgkelaaQe112
import Derived.Test.YtobcfgbkhgkelaaQe110
namespace Go.Proofs.Ytobcfgbkhgkelaa
open Go Go.RowKit Go.Shelf
attribute [local go_sem] Oper.semAt_some

theorem rem_natM (z : Int) (n : Nat) : ∃ k : Nat, (z.tmod ((n : Int) + 1) + (n : Int) + 1) % ((n : Int) + 1) = (k : Int) ∧ k ≤ n := by
  have h0 := Int.emod_nonneg (z.tmod ((n : Int) + 1) + (n : Int) + 1) (show (n : Int) + 1 ≠ 0 by omega)
  have h1 := Int.emod_lt_of_pos (z.tmod ((n : Int) + 1) + (n : Int) + 1) (show (0 : Int) < (n : Int) + 1 by omega)
  exact ⟨((z.tmod ((n : Int) + 1) + (n : Int) + 1) % ((n : Int) + 1)).toNat, by omega, by omega⟩
theorem tmod_rangeM (z : Int) (n : Nat) : -((n : Int) + 1) < z.tmod ((n : Int) + 1) ∧ z.tmod ((n : Int) + 1) < (n : Int) + 1 := by
  have := Int.lt_tmod_of_pos z (show (0 : Int) < (n : Int) + 1 by omega)
  exact ⟨by omega, Int.tmod_lt_of_pos z (by omega)⟩
theorem flat_lenM : ∀ ls : List (List UInt8), (∀ x ∈ ls, x.length ≤ 4096) → ls.flatten.length ≤ 4096 * ls.length
  | [], _ => by simp
  | x :: r, h => by
    have h1 := h x (by simp)
    have h2 := flat_lenM r fun y hy => h y (by simp [hy])
    simp only [List.flatten_cons, List.length_append, List.length_cons]
    omega
theorem SlS.stepM {w w' : World} {A : Option Addr} {n c : Nat} {vs : List Value} {ls : List (List UInt8)} (h : SlS w A n c vs ls) (hb : Below w.heap.size w w') : SlS w' A n c vs ls :=
  ⟨(h.out.step hb).weak fun _ hb' _ => hb', h.len, fun i hi => let ⟨Ai, ci, h1, h2⟩ := h.ins i hi; ⟨Ai, ci, h1, (h2.step hb).weak fun _ hb' _ => hb'⟩⟩
/-- a thing found that has entries alone -/
def fc0 (E : Option Addr) (n c : Nat) : Array Value := (Value.slice E n c :: .int .i64 0 :: .slice none 0 0 :: .int .i64 0 :: .bool false :: .int .i64 0 :: (List.replicate 32 (0 : UInt8)).map B).toArray
theorem built_fc0 (E : Option Addr) (n c : Nat) : Try.prog.built 30 [(0, .slice E n c)] = some (fc0 E n c) := by kernel_rfl
theorem Fnd.of0 (E : Option Addr) (n c : Nat) : Fnd (fc0 E n c) E n c false 0 (List.replicate 32 0) := by
  refine ⟨by simp [fc0], rfl, rfl, fun j v hv => ?_, by simp⟩
  unfold fc0
  rw [List.getElem?_toArray, show 5 + j = j + 5 by omega]
  exact hv
theorem build1_op {ρ : Operand → Value} {o : Oper} {W : World} {cs : Array Value} {x' : Value} (T : TypeId) (x : Operand) (i : Nat) (ho : o.op = .build T #[(i, x)]) (hx : ρ x = x') (h : Try.prog.built T [(i, x')] = some cs) : (execOp ρ o).run Try.prog W = .ok (.value (.agg cs)) W := by
  have hm : (#[(i, x)] : Array (Nat × Operand)).map (fun (i, x) => (i, ρ x)) = #[(i, x')] := by simp [hx]
  unfold execOp
  simp only [ho, Sem.run_bind, Sem.run_pure, hm, run_build W T _ cs h, Result.andThen_ok]
set_option maxHeartbeats 16000000 in
set_option maxRecDepth 100000 in
theorem modelProofs_any (w : World) (A : Option Addr) (ln c : Nat) (vs : List Value) (ls : List (List UInt8)) (zm zn : Int) (h : SlS w A ln c vs ls) :
    Calls Try.prog 6 #[.slice A ln c, .int .i64 zm, .int .i64 zn] w fun e w' => e = .returned (.bool true) ∧ Below w.heap.size w w' := by
  by_cases hbig : 40 < ln
  · have hd : decide ((40 : Int) < (ln : Int)) = true := by simp; omega
    clear h
    go_enter Try.func6, Try.ntmps6
    go_wp2_with (go_at_call 8; refine (known24_any _).mono ?_; rintro e w2 ⟨rfl, hb2⟩)
    go_ret
    exact ⟨rfl, hb2⟩
  have hd : decide ((40 : Int) < (ln : Int)) = false := by simp; omega
  have hl40 : ln ≤ 40 := by omega
  have hes := h.es
  have hlen := h.len
  have hroom := h.out.room
  have hmx := h.out.max
  unfold maxLen at hmx
  have Hh := Lib.hid h
  have Hlen := Lib.hid hlen
  clear h hbig hlen
  go_enter Try.func6, Try.ntmps6
  go_wp2_with fail
  go_loopw [7] (fun v wr => ∃ k : Nat, k ≤ ln ∧ v = .int .i64 k ∧ (∀ j, j < k → (ls.getD j []).length ≤ 4096) ∧ wr = w) (fun v _ => ln - (intOf v).toNat)
  case atStart => exact ⟨0, Nat.zero_le _, rfl, fun j hj => absurd hj (Nat.not_lt_zero _), rfl⟩
  case round =>
    obtain ⟨k, hk, rfl, hle, hw⟩ := hrel
    obtain rfl := hw.symm
    by_cases hlt : k < ln
    · obtain ⟨b, o, rfl, -, -, hat⟩ := hes.at_ (by omega)
      obtain ⟨Ak, ck, ce, hsk⟩ := hat k hlt
      have hrk := hsk.room
      have hmk := hsk.max
      unfold maxLen at hmk
      obtain ⟨lk, hlk⟩ : ∃ x, (ls.getD k []).length = x := ⟨_, rfl⟩
      rw [hlk] at ce hrk
      have Hlk := Lib.hid hlk
      have Hle := Lib.hid hle
      clear hat hsk hlk hes hle
      by_cases h4 : lk ≤ 4096
      · have d1 : decide ((4096 : Int) < (lk : Int)) = false := by simp; omega
        have d2 : decide (4096 < lk) = false := by simp; omega
        go_wp2_with fail
        refine ⟨⟨k + 1, by omega, by go_num, fun j hj => ?_, trivial⟩, by simp [intOf]; omega⟩
        rcases Nat.lt_or_eq_of_le (Nat.le_of_lt_succ hj) with h | h
        · exact Hle.out j h
        · rw [h, Hlk.out]; exact h4
      · have d1 : decide ((4096 : Int) < (lk : Int)) = true := by simp; omega
        have d2 : decide (4096 < lk) = true := by simp; omega
        go_wp2_with (go_at_call 8; refine (known24_any _).mono ?_; rintro e w2 ⟨rfl, hb2⟩)
        go_ret
        exact ⟨rfl, hb2⟩
    · obtain rfl : k = ln := by omega
      have hall : ∀ x ∈ ls, x.length ≤ 4096 := fun x hx => by
        obtain ⟨j, hj, rfl⟩ := List.mem_iff_getElem.1 hx
        have := hle j (by rw [← Hlen.out]; exact hj)
        rwa [List.getD_eq_getElem?_getD, List.getElem?_eq_getElem hj] at this
      have Hall := Lib.hid hall
      clear hall hle
      go_wp2_with fail
      refine (small_any w).mono ?_
      rintro e w1 ⟨rfl, b1⟩
      have e1 := Hh.out.stepM b1
      go_wp2_with ((with_reducible show wpList _ _ _ (⟨some 41, .build _ _, _, _, _, _⟩ :: _) _ _); refine wpList_runG (by kernel_rfl) _ _ (build1_op 30 (.tmp 40) 0 rfl rfl (built_fc0 A k c)) ?_; simp only [Act.put, List.setIfInBounds_toArray, List.set_cons_succ, List.set_cons_zero])
      refine (mfrom_ok 2 2 (fc0 A k c) A k c ls 0 (List.replicate 32 0) w1 (by decide) (Fnd.of0 A k c) (e1.es.weak fun _ _ _ => trivial) (by omega) Hall.out).mono ?_
      rintro e w2 ⟨lo, g, R, rfl, hlo, h2, b2⟩
      have e2 := e1.stepM b2
      have B2 := b1.trans (b2.mono b1.size)
      obtain ⟨m, hm⟩ : ∃ x, (MoV.new 2 2).put ls = x := ⟨_, rfl⟩
      have hme : m.ents = ls := by rw [← hm]; rfl
      rw [hm] at h2
      clear hm e1 b1 b2
      go_wp2_with fail
      refine (rleaves_any ls A k c w2 vs e2 (by have := flat_lenM ls Hall.out; rw [Hlen.out] at this; omega)).mono ?_
      rintro e w3 ⟨v, rfl, ho3, b3⟩
      obtain ⟨A', c', rfl, hl3⟩ := Hs.of_owns ho3 (show (lvs ls).length = k by rw [lvs_length]; exact Hlen.out) (H32.lvs ls)
      have h3 := h2.step b3
      have B3 := B2.trans (b3.mono B2.size)
      have hs3 : Hs w3 (fun _ => True) A' k c' (lvs ls) := hl3.weak (Y := fun _ => True) fun _ _ _ => trivial
      have hr3 := hl3.sl.room
      have hm3 := hl3.sl.max
      unfold maxLen at hm3
      obtain ⟨hs, hhs⟩ : ∃ x, lvs ls = x := ⟨_, rfl⟩
      have hs32 : H32 hs := by rw [← hhs]; exact H32.lvs ls
      have hmh : lvs m.ents = hs := by rw [hme]; exact hhs
      have hsl : hs.length = k := by rw [← hhs, lvs_length]; exact Hlen.out
      have hmk : m.ents.length = k := by rw [hme]; exact Hlen.out
      rw [hhs] at hs3
      obtain ⟨hm1, hm2⟩ := tmod_rangeM zn k
      obtain ⟨n, hn, hno⟩ := rem_natM zn k
      have hw1 : IntKind.i64.wrap ((k : Int) + 1) = (k : Int) + 1 := IntWalk.i64_in _ (by omega)
      have Hn := Lib.hid hn
      have Hs3 := Lib.hid hs3
      have H3 := Lib.hid h3
      have Hsl := Lib.hid hsl
      have Hmh := Lib.hid hmh
      have Hmk := Lib.hid hmk
      have Hs32 := Lib.hid hs32
      clear hn h2 e2 B2 b3 ho3 hl3 hs3 h3 hhs hme hsl hmh hmk hs32 hes
      go_upto_region 13 with fail
      rw [Hn.out]
      obtain ⟨hm3', hm4⟩ := tmod_rangeM zm n
      obtain ⟨j, hj, hjn⟩ := rem_natM zm n
      have hw2 : IntKind.i64.wrap ((n : Int) + 1) = (n : Int) + 1 := IntWalk.i64_in _ (by omega)
      have Hj := Lib.hid hj
      clear hj hm1 hm2 hw1
      go_upto_region 14 with fail
      rw [Hj.out]
      clear hm3' hm4 hw2
      have hr1 := mroot_ok H3.out n (by rw [Hmk.out]; exact hno)
      rw [Hmh.out] at hr1
      obtain ⟨x, hx⟩ : ∃ x, rootL (hs.take n) = x := ⟨_, rfl⟩
      obtain ⟨y, hy⟩ : ∃ y, rootL (hs.take j) = y := ⟨_, rfl⟩
      have hx32 : x.length = 32 := by rw [← hx]; exact length_rootL _ (Hs32.out.take n)
      have hy32 : y.length = 32 := by rw [← hy]; exact length_rootL _ (Hs32.out.take j)
      rw [hx] at hr1
      have Hx := Lib.hid hx
      have Hy := Lib.hid hy
      clear hx hy
      go_wp2_with fail
      refine hr1.mono ?_
      rintro e w4 ⟨rfl, b4⟩
      clear hr1
      have h4 := H3.out.step b4
      have hs4 := Hs3.out.step b4
      have B4 := B3.trans (b4.mono B3.size)
      have H4 := Lib.hid h4
      have Hs4 := Lib.hid hs4
      clear h4 hs4 b4 B3 H3 Hs3
      go_wp2_with ((with_reducible show wpList _ _ _ (⟨some 13, .alloc _, _, _, _, _⟩ :: _) _ _); refine wpList_hvar (l := x) (.tmp 13) (.tmp 80) rfl rfl rfl rfl rfl rfl hx32 ?_; intro w5 p5 b5; simp only [Act.put, List.setIfInBounds_toArray, List.set_cons_succ, List.set_cons_zero])
      have h5 := H4.out.step b5
      have hs5 := Hs4.out.step b5
      have B5 := B4.trans (b5.mono B4.size)
      have hr2 := mroot_ok h5 j (by rw [Hmk.out]; omega)
      rw [Hmh.out, Hy.out] at hr2
      refine hr2.mono ?_
      rintro e w6 ⟨rfl, b6⟩
      have h6 := h5.step b6
      have hs6 := hs5.step b6
      have B6 := B5.trans (b6.mono B5.size)
      have p6 := p5.step b6
      have H6 := Lib.hid h6
      have Hs6 := Lib.hid hs6
      clear hr2 h5 hs5 h6 hs6 b5 b6 B5 B4 H4 Hs4 p5
      go_wp2_with ((with_reducible show wpList _ _ _ (⟨some 15, .alloc _, _, _, _, _⟩ :: _) _ _); refine wpList_hvar (l := y) (.tmp 15) (.tmp 86) rfl rfl rfl rfl rfl rfl hy32 ?_; intro w7 q7 b7; simp only [Act.put, List.setIfInBounds_toArray, List.set_cons_succ, List.set_cons_zero])
      have h7 := H6.out.step b7
      have hs7 := Hs6.out.step b7
      have p7 := p6.step b7
      have B7 := B6.trans (b7.mono B6.size)
      have hc := mcons_ok h7 j n (by rw [Hmk.out]; exact hno) hjn (by rw [Hmk.out]; omega)
      have hp32 := rootsS_all (hs.take n) (Hs32.out.take n) (j : Int)
      have hlen1 : (hs.take n).length = n := by rw [List.length_take, Hsl.out]; omega
      have ck := checkE_taken (hs.take n) j (by rw [hlen1]; exact hjn)
      rw [hlen1, List.take_take, Nat.min_eq_left hjn, Hx.out, Hy.out] at ck
      rw [Hmh.out, stepsA_fine j n hjn] at hc
      obtain ⟨p, hp⟩ : ∃ r, rootsS (hs.take n) (j : Int) = r := ⟨_, rfl⟩
      rw [hp] at hp32 ck hc
      have Hck := Lib.hid ck
      refine hc.mono ?_
      rintro e w8 ⟨v8, rfl, ho8, b8⟩
      obtain ⟨Ap, cp, rfl, hp8⟩ := Hs.of_owns ho8 rfl hp32
      obtain ⟨np, hnp⟩ : ∃ r, p.length = r := ⟨_, rfl⟩
      rw [hnp] at hp8 ⊢
      have h8 := h7.step b8
      have hs8 := hs7.step b8
      have p8 := p7.step b8
      have q8 := q7.step b8
      have B8 := B7.trans (b8.mono B7.size)
      have hp8' := hp8.weak (Y := fun _ => True) fun _ _ _ => trivial
      have hrp := hp8.sl.room
      have hmp := hp8.sl.max
      unfold maxLen at hmp
      have hnc : n ≤ c' := by omega
      have hjc : j ≤ c' := by omega
      have hof1 : ∀ W', Below w8.heap.size w8 W' → Calls Try.prog 26 #[.slice A' n c'] W' fun e w' => e = .returned (.agg (x.map B).toArray) ∧ Below W'.heap.size W' w' := fun W' hb => by
        have := rof_any (hs.take n) A' n c' W' ((hs8.take n hno).step hb) (by omega)
        rwa [Hx.out] at this
      have hof2 : ∀ W', Below w8.heap.size w8 W' → Calls Try.prog 26 #[.slice A' j c'] W' fun e w' => e = .returned (.agg (y.map B).toArray) ∧ Below W'.heap.size W' w' := fun W' hb => by
        have := rof_any (hs.take j) A' j c' W' ((hs8.take j (by omega)).step hb) (by omega)
        rwa [Hy.out] at this
      have hck : ∀ W', Below w8.heap.size w8 W' → Calls Try.prog 27 #[.int .i64 (j : Int), .int .i64 (n : Int), .agg (y.map B).toArray, .agg (x.map B).toArray, .slice Ap np cp] W' fun e w' => e = .returned (.int .i64 0) ∧ Below W'.heap.size W' w' := fun W' hb => by
        have := ccheck_any (j : Int) (n : Int) y x p Ap np cp W' (by omega) hy32 hx32 (hp8'.step hb)
        rwa [Hck.out] at this
      have hlx : ∀ s : InC (fun W' => Below w8.heap.size w8 W'), (Instr.loadAt 26 (.pointer (some ⟨w4.heap.size, 0, none⟩))).run Try.prog s.W = .ok (.agg (x.map B).toArray) s.W := fun s => (p8.step s.ok).load
      have hly : ∀ s : InC (fun W' => Below w8.heap.size w8 W'), (Instr.loadAt 26 (.pointer (some ⟨w6.heap.size, 0, none⟩))).run Try.prog s.W = .ok (.agg (y.map B).toArray) s.W := fun s => (q8.step s.ok).load
      have Hof1 := Lib.hid hof1
      have Hof2 := Lib.hid hof2
      have Hck := Lib.hid hck
      have Hlx := Lib.hid hlx
      have Hly := Lib.hid hly
      have H8 := Lib.hid h8
      have Hs8 := Lib.hid hs8
      have P8 := Lib.hid p8
      have hS : Below w8.heap.size w8 w8.drew := (Below.refl _ _).drew
      clear hof1 hof2 hck hlx hly ck hp32 h7 hs7 p7 q7 b7 b8 B7 B6 ho8 hp8 hp8' hc h8 hs8 p8 q8 hp hnp H6 Hs6 p6 hlen1
      go_upto_region 17 with fail
      refine wp_region_mix (fun W => Below w8.heap.size w8 W) [(0, true), (1, true), (2, true), (3, true), (4, true), (5, true), (6, true), (7, true), (8, true), (9, true), (10, true), (11, true), (12, true), (13, true), (14, true), (15, false), (16, true), (17, true), (18, true), (19, true), (20, true), (21, true), (22, true), (23, false), (24, true), (25, true), (26, true), (27, true), (28, true), (29, true), (30, true), (31, true), (32, false), (33, true), (34, true)] (by kernel_rfl) (by kernel_rfl) hS fun _ => ?_
      simp only [List.map_cons, List.map_nil, Array.getD_eq_getD_getElem?, List.getElem?_toArray, List.getElem?_cons_succ, List.getElem?_cons_zero, Option.getD_some]
      generalize w8.drew = V0 at hS ⊢
      refine wpMix_s (fun K hK => ?_)
      go_simp
      refine hK _ ?_
      clear hK K
      refine wpMix_s (fun K hK => ?_)
      go_simp
      refine hK _ ?_
      clear hK K
      refine wpMix_s (fun K hK => ?_)
      go_simp
      refine hK _ ?_
      clear hK K
      refine wpMix_s (fun K hK => ?_)
      go_simp
      refine hK _ ?_
      clear hK K
      refine wpMix_s (fun K hK => ?_)
      go_simp
      refine hK _ ?_
      clear hK K
      refine wpMix_s (fun K hK => ?_)
      go_simp
      refine hK _ ?_
      clear hK K
      refine wpMix_s (fun K hK => ?_)
      go_simp
      refine hK _ ?_
      clear hK K
      refine wpMix_s (fun K hK => ?_)
      go_simp
      refine hK _ ?_
      clear hK K
      refine wpMix_s (fun K hK => ?_)
      go_simp
      refine hK _ ?_
      clear hK K
      refine wpMix_s (fun K hK => ?_)
      go_simp
      refine hK _ ?_
      clear hK K
      refine wpMix_s (fun K hK => ?_)
      go_simp
      refine hK _ ?_
      clear hK K
      refine wpMix_load (by kernel_rfl) 26 (.tmp 13) rfl (w4.heap.size) (0) rfl (x.map B).toArray (Hlx.out) ?_
      simp only [Act.put]
      refine wpMix_s (fun K hK => ?_)
      go_simp
      refine hK _ ?_
      clear hK K
      refine wpMix_s (fun K hK => ?_)
      go_simp
      refine hK _ ?_
      clear hK K
      refine wpMix_v (by kernel_rfl) (.slice A' n c') (fun s => run_slice_hiH (.tmp 107) (.tmp 108) rfl A' k c' n rfl rfl hnc s.W) ?_
      simp only [Act.put]
      refine wpMix_c (fun K hK => ?_) hS
      go_simp
      refine (Hof1.out V0 hS).mono ?_
      rintro e V0_1 ⟨rfl, hb'⟩
      refine hK _ _ ?_
      clear hK K
      replace hS := hS.trans (hb'.mono hS.size)
      refine ⟨hS, ?_⟩
      clear hb'
      refine wpMix_v (by kernel_rfl) (.bool false) (fun s => run_neq26_f (.tmp 106) (.tmp 110) _ x x rfl rfl rfl hx32 hx32 rfl s.W) ?_
      simp only [Act.put]
      refine wpMix_s (fun K hK => ?_)
      go_simp
      refine hK _ ?_
      clear hK K
      refine wpMix_s (fun K hK => ?_)
      go_simp
      refine hK _ ?_
      clear hK K
      refine wpMix_load (by kernel_rfl) 26 (.tmp 15) rfl (w6.heap.size) (0) rfl (y.map B).toArray (Hly.out) ?_
      simp only [Act.put]
      refine wpMix_s (fun K hK => ?_)
      go_simp
      refine hK _ ?_
      clear hK K
      refine wpMix_s (fun K hK => ?_)
      go_simp
      refine hK _ ?_
      clear hK K
      refine wpMix_v (by kernel_rfl) (.slice A' j c') (fun s => run_slice_hiH (.tmp 115) (.tmp 116) rfl A' k c' j rfl rfl hjc s.W) ?_
      simp only [Act.put]
      refine wpMix_c (fun K hK => ?_) hS
      go_simp
      refine (Hof2.out V0_1 hS).mono ?_
      rintro e V0_2 ⟨rfl, hb'⟩
      refine hK _ _ ?_
      clear hK K
      replace hS := hS.trans (hb'.mono hS.size)
      refine ⟨hS, ?_⟩
      clear hb'
      refine wpMix_v (by kernel_rfl) (.bool false) (fun s => run_neq26_f (.tmp 114) (.tmp 118) _ y y rfl rfl rfl hy32 hy32 rfl s.W) ?_
      simp only [Act.put]
      refine wpMix_s (fun K hK => ?_)
      go_simp
      refine hK _ ?_
      clear hK K
      refine wpMix_s (fun K hK => ?_)
      go_simp
      refine hK _ ?_
      clear hK K
      refine wpMix_s (fun K hK => ?_)
      go_simp
      refine hK _ ?_
      clear hK K
      refine wpMix_s (fun K hK => ?_)
      go_simp
      refine hK _ ?_
      clear hK K
      refine wpMix_load (by kernel_rfl) 26 (.tmp 15) rfl (w6.heap.size) (0) rfl (y.map B).toArray (Hly.out) ?_
      simp only [Act.put]
      refine wpMix_load (by kernel_rfl) 26 (.tmp 13) rfl (w4.heap.size) (0) rfl (x.map B).toArray (Hlx.out) ?_
      simp only [Act.put]
      refine wpMix_s (fun K hK => ?_)
      go_simp
      refine hK _ ?_
      clear hK K
      refine wpMix_c (fun K hK => ?_) hS
      go_simp
      refine (Hck.out V0_2 hS).mono ?_
      rintro e V0_3 ⟨rfl, hb'⟩
      refine hK _ _ ?_
      clear hK K
      replace hS := hS.trans (hb'.mono hS.size)
      refine ⟨hS, ?_⟩
      clear hb'
      refine wpMix_s (fun K hK => ?_)
      go_simp
      refine hK _ ?_
      clear hK K
      refine wpMix_s (fun K hK => ?_)
      go_simp
      refine hK _ ?_
      clear hK K
      refine wpMix_nil ?_
      intro _
      have h9 := H8.out.step hS
      have hs9 := Hs8.out.step hS
      have p9 := P8.out.step hS
      have B9 := B8.trans (hS.mono B8.size)
      obtain ⟨w9, hw9⟩ : ∃ z, V0_3 = z := ⟨_, rfl⟩
      rw [hw9] at h9 hs9 p9 B9 ⊢
      clear hw9 hS H8 Hs8 P8 Hof1 Hof2 Hck Hlx Hly B8
      have hi := mincl_ok h9 j n (by rw [Hmk.out]; exact hno) hjn (by rw [Hmk.out]; omega)
      rw [Hmh.out] at hi
      have Hi := Lib.hid hi
      clear hi
      by_cases hjn' : j = n
      · subst hjn'
        have e4 : (pathA (j : Int) (j : Int)).2 = 4 := by unfold pathA; rw [if_pos (by omega)]
        have hr0 : rootsP (hs.take j) (j : Int) = [] := rootsP_bad _ _ (by
          have hl : (hs.take j).length = j := by rw [List.length_take, Hsl.out]; omega
          rw [hl, e4]; decide)
        have hi := Hi.out
        rw [e4, hr0] at hi
        go_wp2_with fail
        refine hi.mono ?_
        rintro e w10 ⟨v10, rfl, ho10, b10⟩
        obtain ⟨Aq, cq, hv, -⟩ := Hs.of_owns (n := 0) ho10 rfl (fun _ h => by cases h)
        subst hv
        have B10 := B9.trans (b10.mono B9.size)
        clear hi ho10 b10 B9 h9 hs9 p9
        go_wp2_with (go_at_call 8; refine (known24_any _).mono ?_; rintro e w2 ⟨rfl, hb2⟩)
        go_ret
        exact ⟨rfl, B10.trans (hb2.mono B10.size)⟩
      · have hlt9 : j < n := by omega
        have hlen1 : (hs.take n).length = n := by rw [List.length_take, Hsl.out]; omega
        obtain ⟨hrn, hp0⟩ := rootsP_nat (hs.take n) (j : Int) (by omega) (by rw [hlen1]; omega)
        rw [Int.toNat_natCast] at hrn
        rw [hlen1] at hp0
        have tk := takenA_right (hs.take n) j (by rw [hlen1]; exact hlt9)
        have hgd : (hs.take n).getD j [] = hs.getD j [] := by rw [List.getD_eq_getElem?_getD, List.getD_eq_getElem?_getD, List.getElem?_take_of_lt hlt9]
        rw [hlen1, Hx.out, hgd, ← hrn] at tk
        have q32 := rootsP_all (hs.take n) (Hs32.out.take n) (j : Int)
        have hi := Hi.out
        rw [hp0] at hi
        obtain ⟨q, hq⟩ : ∃ r, rootsP (hs.take n) (j : Int) = r := ⟨_, rfl⟩
        rw [hq] at hi q32 tk
        have hl32 : (hs.getD j []).length = 32 := Hs32.out.getD j (by rw [Hsl.out]; omega)
        obtain ⟨bl, ol, rfl, -, -, hldl⟩ := hs9.at_ (by omega)
        obtain ⟨leaf, hleaf⟩ : ∃ r, hs.getD j [] = r := ⟨_, rfl⟩
        rw [hleaf] at tk hl32
        have Tk := Lib.hid tk
        have Hleaf := Lib.hid hleaf
        clear tk hleaf hldl hrn hp0 hgd hlen1 hq
        go_wp2_with fail
        refine hi.mono ?_
        rintro e w10 ⟨v10, rfl, ho10, b10⟩
        obtain ⟨Aq, cq, rfl, hq10⟩ := Hs.of_owns ho10 rfl q32
        obtain ⟨nq, hnq⟩ : ∃ r, q.length = r := ⟨_, rfl⟩
        rw [hnq] at hq10 ⊢
        have hs10 := hs9.step b10
        have p10 := p9.step b10
        have B10 := B9.trans (b10.mono B9.size)
        have hq10' := hq10.weak (Y := fun _ => True) fun _ _ _ => trivial
        have hrq := hq10.sl.room
        have hmq := hq10.sl.max
        unfold maxLen at hmq
        have hjk : j < k := by omega
        have hjk' : (j : Int) < (k : Int) := by omega
        have hll : ∀ s : InC (fun W' => Below w10.heap.size w10 W'), (Instr.loadAt 26 (.pointer (some ⟨bl, ol + j * 32, none⟩))).run Try.prog s.W = .ok (.agg (leaf.map B).toArray) s.W := fun s => by
          obtain ⟨b', o', e', -, -, hl'⟩ := (hs10.step s.ok).at_ (by omega)
          cases e'
          have := hl' j hjk
          rwa [Hleaf.out] at this
        have hlx : ∀ s : InC (fun W' => Below w10.heap.size w10 W'), (Instr.loadAt 26 (.pointer (some ⟨w4.heap.size, 0, none⟩))).run Try.prog s.W = .ok (.agg (x.map B).toArray) s.W := fun s => (p10.step s.ok).load
        have hck : ∀ W', Below w10.heap.size w10 W' → Calls Try.prog 29 #[.agg (leaf.map B).toArray, .int .i64 (j : Int), .agg (.int .i64 (n : Int) :: x.map B).toArray, .slice Aq nq cq] W' fun e w' => e = .returned (.int .i64 0) ∧ Below W'.heap.size W' w' := fun W' hb => by
          have := icheck_any leaf (j : Int) (n : Int) x q Aq nq cq W' hl32 hx32 (by omega) (hq10'.step hb)
          rwa [Tk.out] at this
        have Hll := Lib.hid hll
        have Hlx := Lib.hid hlx
        have Hck := Lib.hid hck
        have hS : Below w10.heap.size w10 w10.drew := (Below.refl _ _).drew
        clear hll hlx hck hi ho10 hq10 hq10' b10 B9 h9 hs9 p9 hs10 p10 hnq q32
        go_upto_region 22 with fail
        refine wp_region_mix (fun W => Below w10.heap.size w10 W) [(0, true), (1, true), (2, true), (3, true), (4, true), (5, true), (6, true), (7, true), (8, true), (9, true), (10, true), (11, true), (12, false), (13, true), (14, true), (15, true), (16, false), (17, true), (18, true)] (by kernel_rfl) (by kernel_rfl) hS fun _ => ?_
        simp only [List.map_cons, List.map_nil, Array.getD_eq_getD_getElem?, List.getElem?_toArray, List.getElem?_cons_succ, List.getElem?_cons_zero, Option.getD_some]
        generalize w10.drew = U0 at hS ⊢
        refine wpMix_s (fun K hK => ?_)
        go_simp
        refine hK _ ?_
        clear hK K
        refine wpMix_s (fun K hK => ?_)
        go_simp
        refine hK _ ?_
        clear hK K
        refine wpMix_s (fun K hK => ?_)
        go_simp
        refine hK _ ?_
        clear hK K
        refine wpMix_s (fun K hK => ?_)
        go_simp
        refine hK _ ?_
        clear hK K
        refine wpMix_s (fun K hK => ?_)
        go_simp
        refine hK _ ?_
        clear hK K
        refine wpMix_s (fun K hK => ?_)
        go_simp
        refine hK _ ?_
        clear hK K
        refine wpMix_load (by kernel_rfl) 26 (.tmp 155) rfl (bl) (ol + j * 32) rfl (leaf.map B).toArray (Hll.out) ?_
        simp only [Act.put]
        refine wpMix_s (fun K hK => ?_)
        go_simp
        refine hK _ ?_
        clear hK K
        refine wpMix_s (fun K hK => ?_)
        go_simp
        refine hK _ ?_
        clear hK K
        refine wpMix_load (by kernel_rfl) 26 (.tmp 13) rfl (w4.heap.size) (0) rfl (x.map B).toArray (Hlx.out) ?_
        simp only [Act.put]
        refine wpMix_v (by kernel_rfl) (.agg (.int .i64 (n : Int) :: x.map B).toArray) (fun s => run_build_ptM (.tmp 158) (.tmp 159) (n : Int) x hx32 rfl rfl rfl s.W) ?_
        simp only [Act.put]
        refine wpMix_s (fun K hK => ?_)
        go_simp
        refine hK _ ?_
        clear hK K
        refine wpMix_c (fun K hK => ?_) hS
        go_simp
        refine (Hck.out U0 hS).mono ?_
        rintro e U0_1 ⟨rfl, hb'⟩
        refine hK _ _ ?_
        clear hK K
        replace hS := hS.trans (hb'.mono hS.size)
        refine ⟨hS, ?_⟩
        clear hb'
        refine wpMix_s (fun K hK => ?_)
        go_simp
        refine hK _ ?_
        clear hK K
        refine wpMix_s (fun K hK => ?_)
        go_simp
        refine hK _ ?_
        clear hK K
        refine wpMix_s (fun K hK => ?_)
        go_simp
        refine hK _ ?_
        clear hK K
        refine wpMix_c (fun K hK => ?_) hS
        go_simp
        refine (known24_any U0_1).mono ?_
        rintro e U0_2 ⟨rfl, hb'⟩
        refine hK _ _ ?_
        clear hK K
        replace hS := hS.trans (hb'.mono hS.size)
        refine ⟨hS, ?_⟩
        clear hb'
        refine wpMix_s (fun K hK => ?_)
        go_simp
        refine hK _ ?_
        clear hK K
        refine wpMix_s (fun K hK => ?_)
        go_simp
        refine hK _ ?_
        clear hK K
        refine wpMix_nil ?_
        intro _
        go_wp2_with fail
        go_ret
        exact ⟨rfl, B10.trans (hS.mono B10.size)⟩
end Go.Proofs.Ytobcfgbkhgkelaa
