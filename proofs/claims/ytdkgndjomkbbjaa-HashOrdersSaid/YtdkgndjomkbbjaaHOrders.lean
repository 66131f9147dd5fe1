/- notarylaw08.HashOrders. -/
import Derived.Test.YtdkgndjomkbbjaaHTextR
import Derived.Test.YtdkgndjomkbbjaaHTexts
namespace Go.Proofs.Ytdkgndjomkbbjaa
open Go Go.RowKit

theorem orders_of (a b : List UInt8) : ∃ lt gt : Bool, Op.bytesLess (text a) (text b) = lt ∧ (!(Op.bytesLess (text a) (text b) || text a == text b)) = gt ∧ ((lt = true ∧ gt = false ∧ cmpL a b = -1 ∧ cmpL b a = 1) ∨ (lt = false ∧ gt = false ∧ cmpL a b = 0 ∧ cmpL b a = 0) ∨ (lt = false ∧ gt = true ∧ cmpL a b = 1 ∧ cmpL b a = -1)) := by
  refine ⟨_, _, rfl, rfl, ?_⟩
  have hn := cmpL_neg a b
  rw [bytesLess_cmpL, cmpL_text]
  rcases cmpL_cases a b with h | h | h
  · refine .inl ?_
    rw [h] at hn ⊢
    exact ⟨rfl, rfl, rfl, hn⟩
  · refine .inr (.inl ?_)
    have he : text a = text b := cmpL_eq _ _ (by rw [cmpL_text]; exact h)
    rw [h] at hn ⊢
    rw [he, BEq.rfl]
    exact ⟨rfl, rfl, rfl, hn⟩
  · refine .inr (.inr ?_)
    have he : (text a == text b) = false := by
      rw [Bool.eq_false_iff]
      intro e
      have := cmpL_text a b
      rw [eq_of_beq e, cmpL_self, h] at this
      omega
    rw [h] at hn ⊢
    rw [he]
    exact ⟨rfl, rfl, rfl, hn⟩
theorem bstr_toList (l : List UInt8) : (bstr l).toList = l := by rw [ByteArray.toList_eq]; rfl

theorem run_str_op {P : Program} {ρ : Operand → Value} {o : Oper} (op : BinOp) (x y : Operand) (t ty : TypeId) (S T : ByteArray) (v : Value) (ho : o.op = .binOp op t x y ty) (hx : ρ x = .string S) (hy : ρ y = .string T) (h : ∀ W : World, (binOp op t (.string S) (.string T)).run P W = .ok v W) (W : World) :
    (execOp ρ o).run P W = .ok (.value v) W := by
  unfold execOp
  simp only [ho, hx, hy, eqGuard_at_string, Sem.run_bind, Sem.run_pure, h, Result.andThen_ok]
set_option maxHeartbeats 4000000 in
set_option maxRecDepth 100000 in
theorem horders_any (a b : List UInt8) (w : World) (ha : a.length = 32) (hb : b.length = 32) :
    Calls Try.prog 13 #[.agg (a.map B).toArray, .agg (b.map B).toArray] w fun e w' => e = .returned (.bool true) ∧ Below w.heap.size w w' := by
  have tA := fun w => htext_any a w ha
  have tB := fun w => htext_any b w hb
  have cAB := fun w => hcompare_any a b w ha hb
  have cBA := fun w => hcompare_any b a w hb ha
  have rAB := fun w => rcompare_any a b w ha hb
  have rA := fun w => rtext_any a w ha
  obtain ⟨hgood, hback⟩ := text_good a ha
  have pA : ∀ w, Calls Try.prog 54 #[.string (bstr (text a))] w fun e w' => e = .returned (.tuple #[.agg (a.map B).toArray, .int .i64 0]) ∧ Below w.heap.size w w' := fun w => by
    refine (parse_any (text a) w (by rw [length_text, ha]; decide)).mono ?_
    rintro e w' ⟨hb, ⟨-, rfl⟩ | ⟨h, -⟩⟩
    · rw [hback]; exact ⟨rfl, hb⟩
    · exact absurd hgood h
  obtain ⟨lt, gt, hlt, hgt, hz⟩ := orders_of a b
  have xl : ∀ W : World, (binOp .lss 9 (.string (bstr (text a))) (.string (bstr (text b)))).run Try.prog W = .ok (.bool lt) W := fun W => by
    rw [binOp_string_lss, bstr_toList, bstr_toList, hlt]; rfl
  have xg : ∀ W : World, (binOp .gtr 9 (.string (bstr (text a))) (.string (bstr (text b)))).run Try.prog W = .ok (.bool gt) W := fun W => by
    rw [binOp_string_gtr, bstr_toList, bstr_toList, hgt]; rfl
  obtain ⟨av, hav⟩ : ∃ av, (a.map B).toArray = av := ⟨_, rfl⟩
  obtain ⟨bv, hbv⟩ : ∃ bv, (b.map B).toArray = bv := ⟨_, rfl⟩
  obtain ⟨S, hS⟩ : ∃ S, bstr (text a) = S := ⟨_, rfl⟩
  obtain ⟨T, hT⟩ : ∃ T, bstr (text b) = T := ⟨_, rfl⟩
  rw [hav] at tA cAB cBA rAB rA pA
  rw [hbv] at tB cAB cBA rAB
  rw [hS] at tA xl xg rA pA
  rw [hT] at tB xl xg
  rw [hav, hbv]
  obtain ⟨zs, hzs⟩ : ∃ zs, zeroHash = zs := ⟨_, rfl⟩
  have hzl : zs.size = 32 := by rw [← hzs]; rfl
  have has : av.size = 32 := by rw [← hav]; simp [ha]
  have hbs : bv.size = 32 := by rw [← hbv]; simp [hb]
  have ho1 : ∀ v ∈ av.toList, v.oneCell' = true := by rw [← hav]; exact oneCell_B _
  obtain ⟨w1, hw1⟩ : ∃ w1, w.alloc (.cells av 26) = w1 := ⟨_, rfl⟩
  obtain ⟨w2, hw2⟩ : ∃ w2, w1.alloc (.cells bv 26) = w2 := ⟨_, rfl⟩
  have hs1 : w1.heap.size = w.heap.size + 1 := by rw [← hw1]; simp
  have k1 : Blk w2 w.heap.size 26 av := by rw [← hw2, ← hw1]; exact (Blk.new _ _ _).alloc _
  have k2 : Blk w2 (w.heap.size + 1) 26 bv := by rw [← hw2]; exact Blk.new' _ _ _ _ hs1.symm
  have B2 : Below w.heap.size w w2 := by rw [← hw2, ← hw1]; exact ((Below.refl _ _).alloc (Nat.le_refl _) _).alloc (by simp) _
  obtain ⟨z, hzz⟩ : ∃ z, cmpL a b = z := ⟨_, rfl⟩
  obtain ⟨n, hnn⟩ : ∃ n, cmpL b a = n := ⟨_, rfl⟩
  rw [hzz] at cAB rAB hz
  rw [hnn] at cBA hz
  have HtA := Lib.hid tA
  have HtB := Lib.hid tB
  have HcAB := Lib.hid cAB
  have HcBA := Lib.hid cBA
  have HrAB := Lib.hid rAB
  have HrA := Lib.hid rA
  have HpA := Lib.hid pA
  have Hav := Lib.hid hav
  have Hbv := Lib.hid hbv
  have HS := Lib.hid hS
  have Hzs := Lib.hid hzs
  have Hzl := Lib.hid hzl
  have Havs := Lib.hid has
  have Hbvs := Lib.hid hbs
  have Ho1 := Lib.hid ho1
  have Hw1 := Lib.hid hw1
  have Hw2 := Lib.hid hw2
  have Hs1 := Lib.hid hs1
  clear tA tB cAB cBA rAB rA pA hav hbv hS hT hzs hzl has hbs ho1 hw1 hw2 hs1 hlt hgt hzz hnn hgood hback
  go_enter Try.func13, Try.ntmps13
  go_upto_region 1 with (first
    | ((with_reducible show wpList _ _ _ (⟨some 2, .box _ _, _, _, _, _⟩ :: _) _ _); refine wpList_run rfl (.pointer (some ⟨w.heap.size, 0, none⟩)) w1 (by rw [← Hw1.out]; rfl) ?_; simp only [Act.put])
    | ((with_reducible show wpList _ _ _ (⟨some 3, .box _ _, _, _, _, _⟩ :: _) _ _); refine wpList_run rfl (.pointer (some ⟨w.heap.size + 1, 0, none⟩)) w2 (by rw [← Hw2.out, ← Hs1.out]; rfl) ?_; simp only [Act.put]))
  refine wp_region_mix (fun W => Below w2.heap.size w2 W) [(0, true), (2, true), (1, false), (3, false), (4, true), (5, true)] (by kernel_rfl) (by kernel_rfl) (Below.refl _ _).drew fun _ => ?_
  simp only [List.map_cons, List.map_nil, Array.getD_eq_getD_getElem?, List.getElem?_toArray, List.getElem?_cons_succ, List.getElem?_cons_zero, Option.getD_some]
  have hS : Below w2.heap.size w2 w2.drew := (Below.refl _ _).drew
  generalize w2.drew = W0 at hS ⊢
  refine wpMix_load (by kernel_rfl) 26 (.tmp 2) rfl w.heap.size 0 rfl av (fun s => run_load_blk (agg26 _) (size26 _) _ _ Havs.out (k1.below s.ok k1.lt)) ?_
  simp only [Act.put]
  refine wpMix_load (by kernel_rfl) 26 (.tmp 3) rfl (w.heap.size + 1) 0 rfl bv (fun s => run_load_blk (agg26 _) (size26 _) _ _ Hbvs.out (k2.below s.ok k2.lt)) ?_
  simp only [Act.put]
  refine wpMix_c (fun K hK => ?_) hS
  go_simp
  refine (HtA.out W0).mono ?_
  rintro e W1 ⟨rfl, hb'⟩
  refine hK _ _ ?_
  clear hK K
  replace hS := hS.trans (hb'.mono hS.size)
  refine ⟨hS, ?_⟩
  clear hb'
  refine wpMix_c (fun K hK => ?_) hS
  go_simp
  refine (HtB.out W1).mono ?_
  rintro e W2 ⟨rfl, hb'⟩
  refine hK _ _ ?_
  clear hK K
  replace hS := hS.trans (hb'.mono hS.size)
  refine ⟨hS, ?_⟩
  clear hb'
  refine wpMix_s (fun K hK => ?_)
  go_simp
  refine hK _ ?_
  clear hK K
  refine wpMix_s (fun K hK => ?_)
  go_simp
  refine hK _ ?_
  clear hK K
  refine wpMix_nil ?_
  intro _
  replace k1 := k1.below hS k1.lt
  replace k2 := k2.below hS k2.lt
  replace B2 := B2.trans (hS.mono B2.size)
  clear hS
  go_wp2_with fail
  refine (HpA.out W2).mono ?_
  rintro e w4 ⟨rfl, b4⟩
  replace k1 := k1.below b4 k1.lt
  replace k2 := k2.below b4 k2.lt
  replace B2 := B2.trans (b4.mono B2.size)
  obtain ⟨w5, hw5⟩ : ∃ w5, w4.alloc (.cells zs 26) = w5 := ⟨_, rfl⟩
  have k5 : Blk w5 w4.heap.size 26 zs := by rw [← hw5]; exact Blk.new _ _ _
  have b5 : Below w4.heap.size w4 w5 := by rw [← hw5]; exact (Below.refl _ _).alloc (Nat.le_refl _) _
  have b6 := below_setRow b5 (Nat.le_refl _) av
  have k6 := k5.setRow_ av
  obtain ⟨w6, hw6⟩ : ∃ w6, w5.setRow w4.heap.size av = w6 := ⟨_, rfl⟩
  rw [hw6] at b6 k6
  replace k1 := k1.below b6 k1.lt
  replace k2 := k2.below b6 k2.lt
  replace B2 := B2.trans (b6.mono B2.size)
  have Hw5 := Lib.hid hw5
  have Hw6 := Lib.hid hw6
  clear hw5 hw6 b4 b5 b6
  rcases hz with ⟨rfl, rfl, rfl, rfl⟩ | ⟨rfl, rfl, rfl, rfl⟩ | ⟨rfl, rfl, rfl, rfl⟩
  all_goals
    have Hxl := Lib.hid xl
    have Hxg := Lib.hid xg
    clear xl xg
    have e1 : IntKind.i64.wrap 1 = 1 := by decide
    have e0 : IntKind.i64.wrap 0 = 0 := by decide
    have em : IntKind.i64.wrap (-1) = -1 := by decide
    go_upto_region 8 with (first
      | ((with_reducible show wpList _ _ _ (⟨some 21, .binOp _ _ _ _ _, _, _, _, _⟩ :: _) _ _); refine wpList_run0 rfl _ (run_str_op .lss (.tmp 19) (.tmp 20) _ _ S T _ rfl rfl rfl Hxl.out _) ?_; simp only [Act.put])
      | ((with_reducible show wpList _ _ _ (⟨some 24, .binOp _ _ _ _ _, _, _, _, _⟩ :: _) _ _); refine wpList_run0 rfl _ (run_str_op .gtr (.tmp 22) (.tmp 23) _ _ S T _ rfl rfl rfl Hxg.out _) ?_; simp only [Act.put])
      | ((with_reducible show wpList _ _ _ (⟨some 7, .alloc _, _, _, _, _⟩ :: _) _ _); refine wpList_run rfl (.pointer (some ⟨w4.heap.size, 0, none⟩)) w5 (by rw [← Hw5.out, ← Hzs.out]; rfl) ?_; simp only [Act.put])
      | ((with_reducible show wpList _ _ _ (⟨none, .store _ _ _, _, _, _, _⟩ :: _) _ _); refine wpList_store_blk rfl 26 (.tmp 7) (.tmp 17) rfl 32 size26 w4.heap.size av rfl rfl Havs.out Ho1.out 26 _ k5 Hzl.out ?_; rw [Hw6.out]; simp only [Act.put]))
    refine wp_region_mix (fun W => Below w6.heap.size w6 W) [(0, true), (1, true), (3, true), (4, true), (2, false), (5, false), (6, true), (7, true), (8, true), (9, true), (11, true), (12, true), (10, false), (13, true), (14, true), (15, true), (16, true), (17, true), (19, true), (18, false), (20, true), (21, true), (22, true), (23, true), (24, true), (25, false), (26, true), (27, true), (28, true), (29, true), (30, true), (31, true), (32, true), (33, true), (34, true), (35, false), (36, true), (37, true), (38, true), (39, false), (40, true), (41, true)] (by kernel_rfl) (by kernel_rfl) (Below.refl _ _).drew fun _ => ?_
    simp only [List.map_cons, List.map_nil, Array.getD_eq_getD_getElem?, List.getElem?_toArray, List.getElem?_cons_succ, List.getElem?_cons_zero, Option.getD_some]
    have hS : Below w6.heap.size w6 w6.drew := (Below.refl _ _).drew
    generalize w6.drew = W3 at hS ⊢
    refine wpMix_load (by kernel_rfl) 26 (.tmp 2) rfl w.heap.size 0 rfl av (fun s => run_load_blk (agg26 _) (size26 _) _ _ Havs.out (k1.below s.ok k1.lt)) ?_
    simp only [Act.put]
    refine wpMix_load (by kernel_rfl) 26 (.tmp 3) rfl (w.heap.size + 1) 0 rfl bv (fun s => run_load_blk (agg26 _) (size26 _) _ _ Hbvs.out (k2.below s.ok k2.lt)) ?_
    simp only [Act.put]
    refine wpMix_load (by kernel_rfl) 26 (.tmp 2) rfl w.heap.size 0 rfl av (fun s => run_load_blk (agg26 _) (size26 _) _ _ Havs.out (k1.below s.ok k1.lt)) ?_
    simp only [Act.put]
    refine wpMix_load (by kernel_rfl) 26 (.tmp 3) rfl (w.heap.size + 1) 0 rfl bv (fun s => run_load_blk (agg26 _) (size26 _) _ _ Hbvs.out (k2.below s.ok k2.lt)) ?_
    simp only [Act.put]
    refine wpMix_c (fun K hK => ?_) hS
    go_simp
    refine (HcAB.out W3).mono ?_
    rintro e W4 ⟨rfl, hb'⟩
    refine hK _ _ ?_
    clear hK K
    replace hS := hS.trans (hb'.mono hS.size)
    refine ⟨hS, ?_⟩
    clear hb'
    refine wpMix_c (fun K hK => ?_) hS
    go_simp
    refine (HrAB.out W4).mono ?_
    rintro e W5 ⟨rfl, hb'⟩
    refine hK _ _ ?_
    clear hK K
    replace hS := hS.trans (hb'.mono hS.size)
    refine ⟨hS, ?_⟩
    clear hb'
    refine wpMix_s (fun K hK => ?_)
    go_simp
    refine hK _ ?_
    clear hK K
    refine wpMix_s (fun K hK => ?_)
    go_simp
    refine hK _ ?_
    clear hK K
    refine wpMix_load (by kernel_rfl) 26 (.tmp 3) rfl (w.heap.size + 1) 0 rfl bv (fun s => run_load_blk (agg26 _) (size26 _) _ _ Hbvs.out (k2.below s.ok k2.lt)) ?_
    simp only [Act.put]
    refine wpMix_load (by kernel_rfl) 26 (.tmp 2) rfl w.heap.size 0 rfl av (fun s => run_load_blk (agg26 _) (size26 _) _ _ Havs.out (k1.below s.ok k1.lt)) ?_
    simp only [Act.put]
    refine wpMix_s (fun K hK => ?_)
    go_simp
    refine hK _ ?_
    clear hK K
    refine wpMix_s (fun K hK => ?_)
    go_simp
    refine hK _ ?_
    clear hK K
    refine wpMix_c (fun K hK => ?_) hS
    go_simp
    refine (HcBA.out W5).mono ?_
    rintro e W6 ⟨rfl, hb'⟩
    refine hK _ _ ?_
    clear hK K
    replace hS := hS.trans (hb'.mono hS.size)
    refine ⟨hS, ?_⟩
    clear hb'
    refine wpMix_s (fun K hK => ?_)
    go_simp
    refine hK _ ?_
    clear hK K
    refine wpMix_s (fun K hK => ?_)
    go_simp
    refine hK _ ?_
    clear hK K
    refine wpMix_s (fun K hK => ?_)
    go_simp
    refine hK _ ?_
    clear hK K
    refine wpMix_load (by kernel_rfl) 26 (.tmp 2) rfl w.heap.size 0 rfl av (fun s => run_load_blk (agg26 _) (size26 _) _ _ Havs.out (k1.below s.ok k1.lt)) ?_
    simp only [Act.put]
    refine wpMix_load (by kernel_rfl) 26 (.tmp 3) rfl (w.heap.size + 1) 0 rfl bv (fun s => run_load_blk (agg26 _) (size26 _) _ _ Hbvs.out (k2.below s.ok k2.lt)) ?_
    simp only [Act.put]
    refine wpMix_s (fun K hK => ?_)
    go_simp
    refine hK _ ?_
    clear hK K
    refine wpMix_c (fun K hK => ?_) hS
    go_simp
    refine (HcAB.out W6).mono ?_
    rintro e W7 ⟨rfl, hb'⟩
    refine hK _ _ ?_
    clear hK K
    replace hS := hS.trans (hb'.mono hS.size)
    refine ⟨hS, ?_⟩
    clear hb'
    refine wpMix_s (fun K hK => ?_)
    go_simp
    refine hK _ ?_
    clear hK K
    refine wpMix_s (fun K hK => ?_)
    go_simp
    refine hK _ ?_
    clear hK K
    refine wpMix_s (fun K hK => ?_)
    go_simp
    refine hK _ ?_
    clear hK K
    refine wpMix_s (fun K hK => ?_)
    go_simp
    refine hK _ ?_
    clear hK K
    refine wpMix_load (by kernel_rfl) 26 (.tmp 2) rfl w.heap.size 0 rfl av (fun s => run_load_blk (agg26 _) (size26 _) _ _ Havs.out (k1.below s.ok k1.lt)) ?_
    simp only [Act.put]
    refine wpMix_c (fun K hK => ?_) hS
    go_simp
    refine (HrA.out W7).mono ?_
    rintro e W8 ⟨rfl, hb'⟩
    refine hK _ _ ?_
    clear hK K
    replace hS := hS.trans (hb'.mono hS.size)
    refine ⟨hS, ?_⟩
    clear hb'
    refine wpMix_v (by kernel_rfl) (.bool true) (fun s => run_eqstr_t (.tmp 48) (.tmp 50) _ (text a) (text a) rfl (by rw [HS.out]; rfl) (by rw [HS.out]; rfl) rfl s.W) ?_
    simp only [Act.put]
    refine wpMix_s (fun K hK => ?_)
    go_simp
    refine hK _ ?_
    clear hK K
    refine wpMix_s (fun K hK => ?_)
    go_simp
    refine hK _ ?_
    clear hK K
    refine wpMix_load (by kernel_rfl) 26 (.tmp 7) rfl w4.heap.size 0 rfl av (fun s => run_load_blk (agg26 _) (size26 _) _ _ Havs.out (k6.below s.ok k6.lt)) ?_
    simp only [Act.put]
    refine wpMix_load (by kernel_rfl) 26 (.tmp 2) rfl w.heap.size 0 rfl av (fun s => run_load_blk (agg26 _) (size26 _) _ _ Havs.out (k1.below s.ok k1.lt)) ?_
    simp only [Act.put]
    refine wpMix_v (by kernel_rfl) (.bool true) (fun s => run_eql26_t (.tmp 54) (.tmp 55) _ a a rfl (by rw [Hav.out]; rfl) (by rw [Hav.out]; rfl) ha ha rfl s.W) ?_
    simp only [Act.put]
    refine wpMix_s (fun K hK => ?_)
    go_simp
    refine hK _ ?_
    clear hK K
    refine wpMix_s (fun K hK => ?_)
    go_simp
    refine hK _ ?_
    clear hK K
    refine wpMix_s (fun K hK => ?_)
    go_simp
    refine hK _ ?_
    clear hK K
    refine wpMix_c (fun K hK => ?_) hS
    go_simp
    refine (num_any 0 W8).mono ?_
    rintro e W' ⟨rfl, rfl⟩
    refine hK _ _ ?_
    clear hK K
    refine ⟨hS, ?_⟩
    refine wpMix_s (fun K hK => ?_)
    go_simp
    refine hK _ ?_
    clear hK K
    refine wpMix_s (fun K hK => ?_)
    go_simp
    refine hK _ ?_
    clear hK K
    refine wpMix_s (fun K hK => ?_)
    go_simp
    refine hK _ ?_
    clear hK K
    refine wpMix_c (fun K hK => ?_) hS
    go_simp
    refine (works_any W8).mono ?_
    rintro e W9 ⟨rfl, hb'⟩
    refine hK _ _ ?_
    clear hK K
    replace hS := hS.trans (hb'.mono hS.size)
    refine ⟨hS, ?_⟩
    clear hb'
    refine wpMix_s (fun K hK => ?_)
    go_simp
    refine hK _ ?_
    clear hK K
    refine wpMix_s (fun K hK => ?_)
    go_simp
    refine hK _ ?_
    clear hK K
    refine wpMix_nil ?_
    intro _
    go_wp2_with fail
    go_ret
    exact ⟨rfl, B2.trans (hS.mono B2.size)⟩
end Go.Proofs.Ytdkgndjomkbbjaa
