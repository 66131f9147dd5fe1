/- FrontRoots: the front of a list has the list's root by its definition, however its entries came. -/
import Derived.Test.YtonidnfgneokbaaQd233
import Derived.Test.YtonidnfgneokbaaQd234
import Derived.Test.YtonidnfgneokbaaQd235
import Derived.Test.YtonidnfgneokbaaQd224
namespace Go.Proofs.Ytonidnfgneokbaa
open Go Go.RowKit Go.Shelf
attribute [local go_sem] Oper.semAt_some

theorem sizeSH : ∀ w : World, (sizeOf 26).run Try.prog w = .ok 1 w := fun _ => by kernel_rfl
theorem sizeI64 : ∀ w : World, (sizeOf 2).run Try.prog w = .ok 1 w := fun _ => by kernel_rfl
theorem appendE_small (ps : FrV) (es : List (List UInt8)) (h : longE es = false) (hs : szF ps + es.length ≤ 9223372036854775807) : appendE ps es = (leafF ps (es.map hLeaf), 0) := by
  unfold appendE
  rw [if_neg (by rw [show (es.any fun x => decide (4096 < x.length)) = false from h]; decide)]
  unfold leafE
  rw [if_neg (by rw [List.length_map]; omega)]
theorem leafE_small (ps : FrV) (hs : List (List UInt8)) (h : szF ps + hs.length ≤ 9223372036854775807) : leafE ps hs = (leafF ps hs, 0) := by
  unfold leafE
  rw [if_neg (by omega)]
theorem appendE_long (ps : FrV) (es : List (List UInt8)) (h : longE es = true) : appendE ps es = (ps, 3) := by
  unfold appendE
  rw [if_pos (show (es.any fun x => decide (4096 < x.length)) = true from h)]
theorem longE_false {es : List (List UInt8)} (h : longE es = false) (l : List (List UInt8)) (hl : ∀ x ∈ l, x ∈ es) : longE l = false := by
  unfold longE at h ⊢
  rw [List.any_eq_false] at h ⊢
  exact fun x hx => h x (hl x hx)
theorem FrO.other {W W' : World} {g g' : Nat} {ps qs : FrV} (h : FrO W g ps) (h' : FrO W g' qs) (hg : W.grownBy W' (some g')) (hne : g ≠ g') : FrO W' g ps := by
  obtain ⟨T, cs, k, hk⟩ := h'.small
  exact h.grown hg k (by omega) hne
theorem Hs.other {W W' : World} {X : Nat → Prop} {A : Option Addr} {n c g' : Nat} {hs : List (List UInt8)} {qs : FrV} (h : Hs W X A n c hs) (h' : FrO W g' qs) (hg : W.grownBy W' (some g')) : Hs W' X A n c hs := by
  obtain ⟨T, cs, k, hk⟩ := h'.small
  exact (KB.of_grown (M := fun b => b = g') hg fun r e => (Option.some.inj e).symm).hs (fun b hb => by have hb : b = g' := hb; rw [hb]; exact ⟨T, cs, k, by omega⟩) h
theorem SlS.step10 {w w' : World} {A : Option Addr} {n c : Nat} {vs : List Value} {ls : List (List UInt8)} (h : SlS w A n c vs ls) (hb : Below w.heap.size w w') : SlS w' A n c vs ls :=
  ⟨(h.out.step hb).weak fun _ hb' _ => hb', h.len, fun i hi => let ⟨Ai, ci, h1, h2⟩ := h.ins i hi; ⟨Ai, ci, h1, (h2.step hb).weak fun _ hb' _ => hb'⟩⟩
theorem run_subH {ρ : Operand → Value} {o : Oper} (x y z : Operand) (ho : o.op = .slice 26 x (some y) (some z) none) (A : Option Addr) (n c a m : Nat) (hx : ρ x = .slice A n c) (hy : ρ y = .int .i64 (a : Int)) (hz : ρ z = .int .i64 ((a + m : Nat) : Int)) (hb : a + m ≤ c) (W : World) :
    (execOp ρ o).run Try.prog W = .ok (.value (.slice (if c = a then A else A.map (·.add (a * 32))) m (c - a))) W := by
  have := run_slice_op_both x y z ho A n c a (a + m) hx hy hz (by omega) hb W
  rw [show a + m - a = m by omega] at this
  exact this
/-- the four fronts -/
structure Ro4 (w : World) (ga go gl gp : Nat) (pa po pl pp : FrV) (W : World) : Prop where
  a : FrO W ga pa
  o : FrO W go po
  l : FrO W gl pl
  p : FrO W gp pp
  b4 : Blk W w.heap.size 4 #[.bool false]
  bel : Below w.heap.size w W
  la : w.heap.size < ga
  ao : ga < go
  ol : go < gl
  lp : gl < gp
section
variable {w W W' : World} {ga go gl gp g : Nat} {pa po pl pp q : FrV}
theorem Ro4.step (c : Ro4 w ga go gl gp pa po pl pp W) (hb : Below W.heap.size W W') : Ro4 w ga go gl gp pa po pl pp W' := ⟨c.a.step hb, c.o.step hb, c.l.step hb, c.p.step hb, c.b4.step hb, c.bel.trans (hb.mono c.bel.size), c.la, c.ao, c.ol, c.lp⟩
theorem Ro4.onA (c : Ro4 w ga go gl gp pa po pl pp W) (h : FrO W' ga q) (hg : W.grownBy W' (some ga)) : Ro4 w ga go gl gp q po pl pp W' := by
  have h1 := c.la; have h2 := c.ao; have h3 := c.ol; have h4 := c.lp
  exact ⟨h, c.o.other c.a hg (by omega), c.l.other c.a hg (by omega), c.p.other c.a hg (by omega), c.b4.grown hg (fun e => by have := Option.some.inj e; omega), c.bel.grown hg c.bel.size (fun r e => by cases e; omega), h1, h2, h3, h4⟩
theorem Ro4.onO (c : Ro4 w ga go gl gp pa po pl pp W) (h : FrO W' go q) (hg : W.grownBy W' (some go)) : Ro4 w ga go gl gp pa q pl pp W' := by
  have h1 := c.la; have h2 := c.ao; have h3 := c.ol; have h4 := c.lp
  exact ⟨c.a.other c.o hg (by omega), h, c.l.other c.o hg (by omega), c.p.other c.o hg (by omega), c.b4.grown hg (fun e => by have := Option.some.inj e; omega), c.bel.grown hg c.bel.size (fun r e => by cases e; omega), h1, h2, h3, h4⟩
theorem Ro4.onL (c : Ro4 w ga go gl gp pa po pl pp W) (h : FrO W' gl q) (hg : W.grownBy W' (some gl)) : Ro4 w ga go gl gp pa po q pp W' := by
  have h1 := c.la; have h2 := c.ao; have h3 := c.ol; have h4 := c.lp
  exact ⟨c.a.other c.l hg (by omega), c.o.other c.l hg (by omega), h, c.p.other c.l hg (by omega), c.b4.grown hg (fun e => by have := Option.some.inj e; omega), c.bel.grown hg c.bel.size (fun r e => by cases e; omega), h1, h2, h3, h4⟩
theorem Ro4.onP (c : Ro4 w ga go gl gp pa po pl pp W) (h : FrO W' gp q) (hg : W.grownBy W' (some gp)) : Ro4 w ga go gl gp pa po pl q W' := by
  have h1 := c.la; have h2 := c.ao; have h3 := c.ol; have h4 := c.lp
  exact ⟨c.a.other c.p hg (by omega), c.o.other c.p hg (by omega), c.l.other c.p hg (by omega), h, c.b4.grown hg (fun e => by have := Option.some.inj e; omega), c.bel.grown hg c.bel.size (fun r e => by cases e; omega), h1, h2, h3, h4⟩
theorem Ro4.off (c : Ro4 w ga go gl gp pa po pl pp W) (h : FrO W g q) (hg : W.grownBy W' (some g)) (hgt : gp < g) : Ro4 w ga go gl gp pa po pl pp W' := by
  have h1 := c.la; have h2 := c.ao; have h3 := c.ol; have h4 := c.lp
  exact ⟨c.a.other h hg (by omega), c.o.other h hg (by omega), c.l.other h hg (by omega), c.p.other h hg (by omega), c.b4.grown hg (fun e => by have := Option.some.inj e; omega), c.bel.grown hg c.bel.size (fun r e => by cases e; omega), h1, h2, h3, h4⟩
end

/-- a part of a front with falling levels is let come as a whole -/
theorem grow_take (ps : FrV) (ho : FrOk ps) (k l : Nat) (z : List UInt8) (hk : k < ps.length) (hx : ps.getD k (0, []) = (l, z)) : growE (ps.take k) (l : Int) z = (ps.take (k + 1), 0) := by
  have hl : l ≤ 62 := by
    have h := ho.h62 (l, z) (by rw [← hx, List.getD_eq_getElem?_getD, List.getElem?_eq_getElem hk]; exact List.getElem_mem hk)
    exact h
  have hm := szF_take_mod ps ho.dec k hk
  have hs := szF_take ps k hk
  have hle := szF_take_le ps (k + 1)
  have htop := ho.top
  have hc := come_take ps ho.dec k hk
  rw [hx] at hm hs hc
  have hm2 : szF (ps.take k) % 2 ^ l = 0 := by
    obtain ⟨d, hd⟩ := Nat.dvd_of_mod_eq_zero hm
    rw [hd, Nat.pow_succ, Nat.mul_assoc]
    exact Nat.mul_mod_right _ _
  unfold growE
  rw [if_neg (by omega), Int.toNat_natCast, if_neg (by rw [hm2]; simp), if_neg (by dsimp only at hs; omega), hc]
/-- between two turns: at lies in g16, the front that grows in gw -/
structure RoI (w0 : World) (g16 gw : Nat) (ps : FrV) (k : Nat) (W : World) : Prop where
  b16 : Blk W g16 2 #[.int .i64 (szF (ps.take k) : Int)]
  fr : FrO W gw (ps.take k)
  kb : KB (fun b => b = g16 ∨ b = gw) w0 W
theorem RoI.own {w0 : World} {g16 gw B : Nat} {ps : FrV} (hB : g16 < B) (hz : w0.heap.size ≤ B) : OwnFrom B (fun k W => RoI w0 g16 gw ps k W) := fun k X Y row h hg hr => by
  obtain ⟨A, n, c, h1, h2⟩ := h.fr.ex
  have hk := keepC_of_grown hg fun r e => (hr r e).2
  exact ⟨h.b16.grown hg (fun e => by have := (hr _ e.symm).1; omega), ⟨A, n, c, hk.blk h1 (fun e => e), hk.pcs h2⟩, h.kb.own_grown hg fun r e => Nat.le_trans hz (hr r e).1⟩
theorem RoI.step {w0 W W' : World} {g16 gw k : Nat} {ps : FrV} (h : RoI w0 g16 gw ps k W) (hb : Below W.heap.size W W') : RoI w0 g16 gw ps k W' := ⟨h.b16.step hb, h.fr.step hb, h.kb.trans (KB.of_below hb)⟩
theorem RoI.small {w0 W : World} {g16 gw k : Nat} {ps : FrV} (h : RoI w0 g16 gw ps k W) : SmallM (fun b => b = g16 ∨ b = gw) W := fun b hb => by
  rcases hb with rfl | rfl
  · exact ⟨_, _, h.b16, by simp⟩
  · obtain ⟨T, cs, k, hk⟩ := h.fr.small
    exact ⟨T, cs, k, by omega⟩

theorem Ro4.kb {w W W' : World} {ga go gl gp : Nat} {pa po pl pp : FrV} {M : Nat → Prop} (c : Ro4 w ga go gl gp pa po pl pp W) (hk : KB M W W') (hM : SmallM M W) (hn : ∀ g, g ≤ gp → ¬ M g) (hl : ∀ b, M b → w.heap.size ≤ b) : Ro4 w ga go gl gp pa po pl pp W' := by
  have h1 := c.la; have h2 := c.ao; have h3 := c.ol; have h4 := c.lp
  exact ⟨hk.fro hM c.a (hn _ (by omega)), hk.fro hM c.o (hn _ (by omega)), hk.fro hM c.l (hn _ (by omega)), hk.fro hM c.p (hn _ (Nat.le_refl _)), hk.blk c.b4 (hn _ (by omega)), c.bel.trans (hk.below hl c.bel.size), h1, h2, h3, h4⟩

set_option maxHeartbeats 32000000 in
set_option maxRecDepth 100000 in
theorem frontRoots_any (ls : List (List UInt8)) (A : Option Addr) (n c : Nat) (vs : List Value) (cut : Int) (w : World) (h : SlS w A n c vs ls) (hm : n + ls.flatten.length ≤ 1073741824) :
    Calls Try.prog 8 #[.slice A n c, .int .i64 cut] w fun e w' => e = .returned (.bool true) ∧ Below w.heap.size w w' := by
  have hroom := h.es.room
  have hmx := h.es.max
  unfold maxLen at hmx
  have hlen := h.es.len
  have hme : ∀ x ∈ ls, x.length ≤ 1073741824 := fun x hx => by have := (List.sublist_flatten_of_mem hx).length_le; omega
  have Hme := Lib.hid hme
  obtain ⟨w1, hw1⟩ : ∃ x, w.alloc (.cells #[.bool false] 4) = x := ⟨_, rfl⟩
  have k4 : Blk w1 w.heap.size 4 #[.bool false] := by rw [← hw1]; exact Blk.new _ _ _
  have hb1 : Below w.heap.size w w1 := by rw [← hw1]; exact (Below.refl _ _).alloc (Nat.le_refl _) _
  have hlt1 := k4.lt
  have Hw1 := Lib.hid hw1
  have Hlen := Lib.hid hlen
  clear hw1 hlen hme
  refine (callsIn_wide (n := 5)).1 ?_
  refine callsIn_of_wp_marks Try.func8 rfl trivial ?_ rfl
  simp only [Try.ntmps8, List.size_toArray, List.length_cons, List.length_nil, Nat.reduceAdd, Nat.reduceSub, Array.replicate_succ, Array.replicate_zero, List.push_toArray, List.append_toArray, List.nil_append, List.cons_append]
  refine wpIn_wide.2 ?_
  go_wp2_with (rw [Hw1.out])
  refine (known10_any w1).mono ?_
  rintro e w2 ⟨rfl, hb2⟩
  have k42 := k4.step hb2
  have hb12 := hb1.trans (hb2.mono hb1.size)
  have c4 : w2.cell? ⟨w.heap.size, 0, none⟩ = some (.bool false) := by rw [k42.cell]; rfl
  have f4 := k42.frozen 0
  have hs2 := hb2.size
  clear k4 hb1 hb2
  by_cases hn3 : 300 < n
  · have hd : decide ((300 : Int) < (n : Int)) = true := by simp; omega
    have k4' := k42.set_ 0 (.bool true)
    have hbE : Below w.heap.size w (w2.setCell ⟨w.heap.size, 0, none⟩ (.bool true)) := hb12.setCell (p := ⟨w.heap.size, 0, none⟩) (Nat.le_refl _) _
    clear k42 h
    go_wp2_with fail
    exact ⟨_, results_cb10 rfl _ _ w.heap.size true rfl k4', rfl, hbE⟩
  · have hd : decide ((300 : Int) < (n : Int)) = false := by simp; omega
    have hn300 : n ≤ 300 := by omega
    clear c4 f4
    go_wp2_with fail
    refine (fnew_any w2).mono ?_
    rintro e w3 ⟨rfl, hf0, hb0⟩
    have hl0 := hf0.lt
    go_wp2_with fail
    refine (fnew_any w3).mono ?_
    rintro e w4 ⟨rfl, hf1, hb1⟩
    have hl1 := hf1.lt
    go_wp2_with fail
    refine (fnew_any w4).mono ?_
    rintro e w5 ⟨rfl, hf2, hb2⟩
    have hl2 := hf2.lt
    go_wp2_with fail
    refine (fnew_any w5).mono ?_
    rintro e w6 ⟨rfl, hf3, hb3⟩
    have hl3 := hf3.lt
    go_wp2_with fail
    have hC : Ro4 w w2.heap.size w3.heap.size w4.heap.size w5.heap.size [] [] [] [] w6 := ⟨((hf0.step hb1).step hb2).step hb3, (hf1.step hb2).step hb3, hf2.step hb3, hf3, (((k42.step hb0).step hb1).step hb2).step hb3, (((hb12.trans (hb0.mono hb12.size)).trans (hb1.mono (by have := hb12.size; omega))).trans (hb2.mono (by have := hb12.size; omega))).trans (hb3.mono (by have := hb12.size; omega)), by omega, hl0, hl1, hl2⟩
    have hl3' := hl3
    clear hf0 hf1 hf2 hf3 hb0 hb1 hb2 hb3 k42 hb12
    obtain ⟨ga, hga⟩ : ∃ x, w2.heap.size = x := ⟨_, rfl⟩
    obtain ⟨go, hgo⟩ : ∃ x, w3.heap.size = x := ⟨_, rfl⟩
    obtain ⟨gl, hgl⟩ : ∃ x, w4.heap.size = x := ⟨_, rfl⟩
    obtain ⟨gp, hgp⟩ : ∃ x, w5.heap.size = x := ⟨_, rfl⟩
    rw [hga, hgo, hgl, hgp] at hC
    rw [hgp] at hl3'
    rw [hga, hgo, hgl, hgp]
    clear hga hgo hgl hgp hl0 hl1 hl2 hl3 hs2 hlt1
    have hE := fun W (hb : Below w.heap.size w W) => h.es.step hb
    have HE := Lib.hid hE
    have Hss := Lib.hid h
    clear hE
    rcases hlong : longE ls with _ | _
    · -- no entry is too long
      have happ := appendE_small [] ls hlong (by rw [Hlen.out]; simp [szF_nil]; omega)
      obtain ⟨hs, hhs⟩ : ∃ x, ls.map hLeaf = x := ⟨_, rfl⟩
      rw [hhs] at happ
      have hok : FrOk (leafF [] hs) := by have := frOk_nil.appendE ls; rw [happ] at this; exact this
      have hisf := isF_leaf hs
      have hlh : hs.length = n := by rw [← hhs, List.length_map, Hlen.out]
      have hcl := fappend_any ga [] ls A n c w6 hC.a frOk_nil (HE.out w6 hC.bel).all (by omega) Hme.out
      rw [happ] at hcl
      refine hcl.mono ?_
      clear hcl happ
      rintro e w7 ⟨rfl, hF9, hg9⟩
      have h67 := hg9.size
      replace hC := hC.onA hF9 hg9
      clear hF9 hg9
      have Hhs := Lib.hid hhs
      have Hlong := Lib.hid hlong
      have Hlh := Lib.hid hlh
      clear hhs hlong hlh
      go_wp2_with (first
        | (go_at_call 41; refine (num10_any _ _).mono ?_; rintro e wn ⟨rfl, hww⟩; obtain rfl := hww.symm))
      have hss7 : SlS w7 A n c vs ls := Hss.out.step10 hC.bel
      refine (rleaves_any ls A n c w7 vs hss7 hm).mono ?_
      rintro e w8 ⟨v9, rfl, ho9, hb9⟩
      rw [show leavesL ls = hs from Hhs.out] at ho9
      obtain ⟨A9, c9, rfl, hH⟩ := owns_hs ho9 (by rw [Hlh.out]) (by rw [← Hhs.out]; exact leavesL_all ls)
      replace hC := hC.step hb9
      have h78 := hb9.size
      clear ho9 hb9 hss7
      go_wp2_with ((with_reducible show wpList _ _ _ (⟨some 9, .alloc _, _, _, _, _⟩ :: _) _ _); refine wpList_var1 (T := 26) (z := .slice none 0 0) (.tmp 9) (.tmp 52) rfl rfl (by kernel_rfl) sizeSH rfl rfl rfl rfl ?_; intro w9 k9 hb9; simp only [Act.put])
      replace hC := hC.step hb9
      have hHe : Hs w9 (fun _ => True) A9 n c9 hs := (hH.step hb9).weak fun _ _ _ => trivial
      have hg9p : gp < w8.heap.size := by omega
      have hg9l : w8.heap.size < w9.heap.size := k9.lt
      obtain ⟨g9, hg9e⟩ : ∃ x, w8.heap.size = x := ⟨_, rfl⟩
      rw [hg9e] at k9 hg9p hg9l ⊢
      clear hH hb9 h67 h78 hg9e hl3'
      have hR9 : hHe.sl.room = hHe.sl.room := rfl
      have hroom9 := hHe.sl.room
      have hmx9 := hHe.sl.max
      unfold maxLen at hmx9
      clear hR9
      have HE' := Lib.hid hisf
      have Hok := Lib.hid hok
      clear hisf hok
      go_loopw [10] (fun v10 wr => ∃ q, q ≤ n ∧ v10 = .int .i64 (q : Int) ∧ Ro4 w ga go gl gp (leafF [] hs) (leafF [] (hs.take q)) [] [] wr ∧ Blk wr g9 26 #[.slice A9 n c9] ∧ Hs wr (fun _ => True) A9 n c9 hs) (fun v10 _ => n - (intOf v10).toNat)
      case atStart => exact ⟨0, Nat.zero_le _, rfl, hC, k9, hHe⟩
      case round =>
        clear hC k9 hHe
        obtain ⟨q, hq, rfl, hC, k9, hH⟩ := hrel
        by_cases hqn : q < n
        · have hdq : decide ((q : Int) < (n : Int)) = true := by simp; omega
          have hwq : IntKind.i64.wrap ((q : Int) + 1) = (q : Int) + 1 := IntWalk.i64_in _ (by omega)
          have hes := HE.out wr hC.bel
          obtain ⟨b, o, rfl, -, hbX, hat⟩ := hes.at_ (by omega)
          obtain ⟨Ai, ci, hc63, hsl⟩ := hat q (by omega)
          clear hat
          obtain ⟨x, hx⟩ : ∃ x, ls.getD q [] = x := ⟨_, rfl⟩
          have hxm : x ∈ ls := by rw [← hx, List.getD_eq_getElem?_getD, List.getElem?_eq_getElem (by rw [Hlen.out]; exact hqn)]; exact List.getElem_mem _
          rw [hx] at hc63 hsl
          have htk : hs.take (q + 1) = hs.take q ++ [hLeaf x] := by
            rw [List.take_succ_eq_append_getElem (by rw [Hlh.out]; exact hqn)]
            congr 2
            rw [← hx, List.getD_eq_getElem?_getD, List.getElem?_eq_getElem (by rw [Hlen.out]; exact hqn)]
            simp only [← Hhs.out, List.getElem_map, Option.getD_some]
          have hokq : FrOk (leafF [] (hs.take q)) := ⟨(leafF_ok _ _ (fun _ h => by cases h) List.Pairwise.nil fun y hy => hH.all y (List.mem_of_mem_take hy)).1, (leafF_ok _ _ (fun _ h => by cases h) List.Pairwise.nil fun y hy => hH.all y (List.mem_of_mem_take hy)).2, by rw [szF_leaf, List.length_take]; simp [szF_nil]; omega⟩
          have happ : appendE (leafF [] (hs.take q)) [x] = (leafF [] (hs.take (q + 1)), 0) := by
            rw [appendE_small _ [x] (longE_false Hlong.out _ fun y hy => by rw [List.mem_singleton.1 hy]; exact hxm) (by rw [szF_leaf, List.length_take]; simp [szF_nil]; omega), htk, leafF_append]
            rfl
          have hokq1 : FrOk (leafF [] (hs.take (q + 1))) := by have := hokq.appendE [x]; rw [happ] at this; exact this
          have hroot : rootG (leafF [] (hs.take (q + 1))) = rootL (hs.take (q + 1)) := (isF_leaf _).root _ _ hokq1.dec
          obtain ⟨rt, hrt⟩ : ∃ x, rootL (hs.take (q + 1)) = x := ⟨_, rfl⟩
          have hrl : rt.length = 32 := by rw [← hrt]; exact length_rootL _ (hH.all.take _)
          rw [hrt] at hroot
          have hx4 : x.length ≤ 1073741824 := Hme.out x hxm
          obtain ⟨pq, hpq⟩ : ∃ x, leafF [] (hs.take q) = x := ⟨_, rfl⟩
          obtain ⟨pq1, hpq1⟩ : ∃ x, leafF [] (hs.take (q + 1)) = x := ⟨_, rfl⟩
          rw [hpq] at hC hokq happ
          rw [hpq1] at happ hokq1 hroot
          have Hpq1 := Lib.hid hpq1
          have hcM : ∀ W, KB (fun b => b = go) wr W → W.cell? ⟨g9, 0, none⟩ = some (.slice A9 n c9) := fun W hW => by rw [(hW.blk k9 (fun e => by have e : g9 = go := e; have := hC.ol; have := hC.lp; omega)).cell]; rfl
          have c71 : ∀ s : InC (KB (fun b => b = go) wr), s.W.cell? ⟨g9, 0, none⟩ = some (.slice A9 n c9) := fun s => hcM s.W s.ok
          have c63 : ∀ s : InC (KB (fun b => b = go) wr), s.W.cell? ⟨b, o + q, none⟩ = some (.slice Ai x.length ci) := fun s => s.ok.keepC.cell hc63 (fun e => by have e : b = go := e; have hbX : b < w.heap.size := hbX; have := hC.la; have := hC.ao; omega)
          clear hc63 hes
          replace hsl := hsl.weak (Y := fun _ => True) fun _ _ _ => trivial
          go_wp2_with fail
          have hSb : Below wr.heap.size wr wr.drew := (Below.refl _ _).drew
          have hS : KB (fun b => b = go) wr wr.drew := KB.of_below hSb
          replace hsl := hsl.step hSb
          replace hC := hC.step hSb
          replace hH := hH.step hSb
          replace k9 := k9.step hSb
          refine wp_region_mix (KB (fun b => b = go) wr) [(0, true), (1, true), (2, true), (3, true), (4, true), (5, false), (6, false), (7, false), (8, true), (9, true), (10, true), (12, true), (13, true), (14, true), (15, true), (11, false), (16, false), (17, true), (18, true)] (by kernel_rfl) (by kernel_rfl) hS fun _ => ?_
          simp only [List.map_cons, List.map_nil, Array.getD_eq_getD_getElem?, List.getElem?_toArray, List.getElem?_cons_succ, List.getElem?_cons_zero, Option.getD_some]
          generalize wr.drew = u0 at hS hC hH k9 hsl hSb ⊢
          refine wpMix_s (fun K hK => ?_)
          go_simp
          refine hK _ ?_
          clear hK K
          refine wpMix_s (fun K hK => ?_)
          go_simp
          refine hK _ ?_
          clear hK K
          refine wpMix_s (fun K hK => ?_)
          go_simp
          refine hK _ ?_
          clear hK K
          refine wpMix_s (fun K hK => ?_)
          go_simp
          refine hK _ ?_
          clear hK K
          refine wpMix_s (fun K hK => ?_)
          go_simp
          refine hK _ ?_
          clear hK K
          refine wpMix_run (by kernel_rfl) (.slice (some ⟨u0.heap.size, 0, none⟩) 1 1) (u0.alloc (.cells #[.slice Ai x.length ci] 23)) (by kernel_rfl) (hS.trans (KB.of_below ((Below.refl _ _).alloc (Nat.le_refl _) _))) ?_
          simp only [Act.put]
          obtain ⟨u0a, hwa⟩ : ∃ wz, u0.alloc (.cells #[.slice Ai x.length ci] 23) = wz := ⟨_, rfl⟩
          have hba : Below u0.heap.size u0 u0a := by rw [← hwa]; exact (Below.refl _ _).alloc (Nat.le_refl _) _
          have sE := Es.one hsl hwa
          rw [hwa]
          replace hS := hS.trans (KB.of_below hba)
          replace hC := hC.step hba
          replace hH := hH.step hba
          replace k9 := k9.step hba
          clear hwa hba hsl
          refine wpMix_c (fun K hK => ?_) hS
          go_simp
          have hcl := fappend_any go pq [x] _ 1 1 u0a hC.o hokq sE (by decide) (by intro y hy; rw [List.mem_singleton.1 hy]; exact hx4)
          rw [happ] at hcl
          refine hcl.mono ?_
          clear hcl
          rintro e u0ab ⟨rfl, hF9, hg9⟩
          refine hK _ _ ?_
          clear hK K
          replace hS := hS.trans (KB.of_grown hg9 fun r e => (Option.some.inj e).symm)
          refine ⟨hS, ?_⟩
          replace hH := hH.other hC.o hg9
          replace k9 := k9.grown hg9 (fun e => by have e := Option.some.inj e; have := hC.ol; have := hC.lp; omega)
          replace hC := hC.onO hF9 hg9
          clear hF9 hg9 sE
          refine wpMix_c (fun K hK => ?_) hS
          go_simp
          refine (num10_any _ u0ab).mono ?_
          rintro e u0e ⟨rfl, hww⟩
          obtain rfl := hww.symm
          refine hK _ _ ?_
          clear hK K
          refine ⟨hS, ?_⟩
          refine wpMix_s (fun K hK => ?_)
          go_simp
          refine hK _ ?_
          clear hK K
          refine wpMix_s (fun K hK => ?_)
          go_simp
          refine hK _ ?_
          clear hK K
          refine wpMix_s (fun K hK => ?_)
          go_simp
          refine hK _ ?_
          clear hK K
          refine wpMix_s (fun K hK => ?_)
          go_simp
          refine hK _ ?_
          clear hK K
          refine wpMix_s (fun K hK => ?_)
          go_simp
          refine hK _ ?_
          clear hK K
          refine wpMix_s (fun K hK => ?_)
          go_simp
          refine hK _ ?_
          clear hK K
          refine wpMix_v (by kernel_rfl) (.slice A9 (q + 1) c9) (fun s => run_slice_op_hi (.tmp 71) (.tmp 73) rfl A9 n c9 (q + 1) rfl (by rfl) (by omega) s.W) ?_
          simp only [Act.put]
          refine wpMix_c (fun K hK => ?_) hS
          go_simp
          have hcl := froot_any go pq1 u0ab hC.o hokq1
          rw [hroot] at hcl
          refine hcl.mono ?_
          clear hcl
          rintro e u0abc ⟨rfl, hb9⟩
          refine hK _ _ ?_
          clear hK K
          replace hS := hS.trans (KB.of_below hb9)
          refine ⟨hS, ?_⟩
          replace hC := hC.step hb9
          replace hH := hH.step hb9
          replace k9 := k9.step hb9
          clear hb9
          refine wpMix_c (fun K hK => ?_) hS
          go_simp
          have hcl := rof_any (hs.take (q + 1)) A9 (q + 1) c9 u0abc (hH.take (q + 1) (by omega)) (by omega)
          rw [hrt] at hcl
          refine hcl.mono ?_
          clear hcl
          rintro e u0abcd ⟨rfl, hb9⟩
          refine hK _ _ ?_
          clear hK K
          replace hS := hS.trans (KB.of_below hb9)
          refine ⟨hS, ?_⟩
          replace hC := hC.step hb9
          replace hH := hH.step hb9
          replace k9 := k9.step hb9
          clear hb9
          refine wpMix_v (by kernel_rfl) (.bool false) (fun s => run_neq26_f (.tmp 70) (.tmp 75) _ rt rt rfl rfl rfl hrl hrl rfl s.W) ?_
          simp only [Act.put]
          refine wpMix_s (fun K hK => ?_)
          go_simp
          refine hK _ ?_
          clear hK K
          refine wpMix_nil ?_
          intro _
          go_wp2_with fail
          go_roundw
          case rel => exact ⟨q + 1, by omega, by go_num, by rw [Hpq1.out]; exact hC, k9, hH⟩
          case measure => simp [intOf]; omega
        · obtain rfl : q = n := by omega
          have hdq : decide ((q : Int) < (q : Int)) = false := by simp
          rw [List.take_of_length_le (by rw [Hlh.out]; exact Nat.le_refl _)] at hC
          have hw1 : IntKind.i64.wrap ((q : Int) + 1) = (q : Int) + 1 := IntWalk.i64_in _ (by omega)
          obtain ⟨rm, hrm⟩ : ∃ x, cut.tmod ((q : Int) + 1) = x := ⟨_, rfl⟩
          have hrb : -((q : Int) + 1) < rm ∧ rm < (q : Int) + 1 := by
            rw [← hrm]
            exact ⟨Int.lt_tmod_of_pos cut (by omega), Int.tmod_lt_of_pos cut (by omega)⟩
          have Hrm := Lib.hid hrm
          clear hrm
          go_upto_region 17 with (rw [Hrm.out])
          rename_i Kc hc K0 h0
          have key : ∀ (a : Act) (m : Nat), m ≤ q → a = { tmps := #[.slice A q c, (fun j => a.tmps.toList.getD j undef) 1, (fun j => a.tmps.toList.getD j undef) 2, (fun j => a.tmps.toList.getD j undef) 3, .pointer (some ⟨w.heap.size, 0, none⟩), .pointer (some ⟨ga, 0, none⟩), .pointer (some ⟨go, 0, none⟩), .pointer (some ⟨gl, 0, none⟩), .pointer (some ⟨gp, 0, none⟩), .pointer (some ⟨g9, 0, none⟩), (fun j => a.tmps.toList.getD j undef) 10, .int .i64 (m : Int), (fun j => a.tmps.toList.getD j undef) 12, (fun j => a.tmps.toList.getD j undef) 13, (fun j => a.tmps.toList.getD j undef) 14, (fun j => a.tmps.toList.getD j undef) 15, (fun j => a.tmps.toList.getD j undef) 16, (fun j => a.tmps.toList.getD j undef) 17, (fun j => a.tmps.toList.getD j undef) 18, (fun j => a.tmps.toList.getD j undef) 19, (fun j => a.tmps.toList.getD j undef) 20, (fun j => a.tmps.toList.getD j undef) 21, (fun j => a.tmps.toList.getD j undef) 22, (fun j => a.tmps.toList.getD j undef) 23, (fun j => a.tmps.toList.getD j undef) 24, (fun j => a.tmps.toList.getD j undef) 25, (fun j => a.tmps.toList.getD j undef) 26, (fun j => a.tmps.toList.getD j undef) 27, (fun j => a.tmps.toList.getD j undef) 28, (fun j => a.tmps.toList.getD j undef) 29, (fun j => a.tmps.toList.getD j undef) 30, (fun j => a.tmps.toList.getD j undef) 31, (fun j => a.tmps.toList.getD j undef) 32, (fun j => a.tmps.toList.getD j undef) 33, (fun j => a.tmps.toList.getD j undef) 34, (fun j => a.tmps.toList.getD j undef) 35, (fun j => a.tmps.toList.getD j undef) 36, (fun j => a.tmps.toList.getD j undef) 37, (fun j => a.tmps.toList.getD j undef) 38, (fun j => a.tmps.toList.getD j undef) 39, (fun j => a.tmps.toList.getD j undef) 40, (fun j => a.tmps.toList.getD j undef) 41, (fun j => a.tmps.toList.getD j undef) 42, (fun j => a.tmps.toList.getD j undef) 43, (fun j => a.tmps.toList.getD j undef) 44, (fun j => a.tmps.toList.getD j undef) 45, (fun j => a.tmps.toList.getD j undef) 46, (fun j => a.tmps.toList.getD j undef) 47, (fun j => a.tmps.toList.getD j undef) 48, (fun j => a.tmps.toList.getD j undef) 49, (fun j => a.tmps.toList.getD j undef) 50, (fun j => a.tmps.toList.getD j undef) 51, (fun j => a.tmps.toList.getD j undef) 52, (fun j => a.tmps.toList.getD j undef) 53, (fun j => a.tmps.toList.getD j undef) 54, (fun j => a.tmps.toList.getD j undef) 55, (fun j => a.tmps.toList.getD j undef) 56, (fun j => a.tmps.toList.getD j undef) 57, (fun j => a.tmps.toList.getD j undef) 58, (fun j => a.tmps.toList.getD j undef) 59, (fun j => a.tmps.toList.getD j undef) 60, (fun j => a.tmps.toList.getD j undef) 61, (fun j => a.tmps.toList.getD j undef) 62, (fun j => a.tmps.toList.getD j undef) 63, (fun j => a.tmps.toList.getD j undef) 64, (fun j => a.tmps.toList.getD j undef) 65, (fun j => a.tmps.toList.getD j undef) 66, (fun j => a.tmps.toList.getD j undef) 67, (fun j => a.tmps.toList.getD j undef) 68, (fun j => a.tmps.toList.getD j undef) 69, (fun j => a.tmps.toList.getD j undef) 70, (fun j => a.tmps.toList.getD j undef) 71, (fun j => a.tmps.toList.getD j undef) 72, (fun j => a.tmps.toList.getD j undef) 73, (fun j => a.tmps.toList.getD j undef) 74, (fun j => a.tmps.toList.getD j undef) 75, (fun j => a.tmps.toList.getD j undef) 76, (fun j => a.tmps.toList.getD j undef) 77, (fun j => a.tmps.toList.getD j undef) 78, (fun j => a.tmps.toList.getD j undef) 79, (fun j => a.tmps.toList.getD j undef) 80, (fun j => a.tmps.toList.getD j undef) 81, (fun j => a.tmps.toList.getD j undef) 82, (fun j => a.tmps.toList.getD j undef) 83, (fun j => a.tmps.toList.getD j undef) 84, (fun j => a.tmps.toList.getD j undef) 85, (fun j => a.tmps.toList.getD j undef) 86, (fun j => a.tmps.toList.getD j undef) 87, (fun j => a.tmps.toList.getD j undef) 88, (fun j => a.tmps.toList.getD j undef) 89, (fun j => a.tmps.toList.getD j undef) 90, (fun j => a.tmps.toList.getD j undef) 91, (fun j => a.tmps.toList.getD j undef) 92, (fun j => a.tmps.toList.getD j undef) 93, (fun j => a.tmps.toList.getD j undef) 94, (fun j => a.tmps.toList.getD j undef) 95, (fun j => a.tmps.toList.getD j undef) 96, (fun j => a.tmps.toList.getD j undef) 97, (fun j => a.tmps.toList.getD j undef) 98, (fun j => a.tmps.toList.getD j undef) 99, (fun j => a.tmps.toList.getD j undef) 100, (fun j => a.tmps.toList.getD j undef) 101, (fun j => a.tmps.toList.getD j undef) 102, (fun j => a.tmps.toList.getD j undef) 103, (fun j => a.tmps.toList.getD j undef) 104, (fun j => a.tmps.toList.getD j undef) 105, (fun j => a.tmps.toList.getD j undef) 106, (fun j => a.tmps.toList.getD j undef) 107, (fun j => a.tmps.toList.getD j undef) 108, (fun j => a.tmps.toList.getD j undef) 109, (fun j => a.tmps.toList.getD j undef) 110, (fun j => a.tmps.toList.getD j undef) 111, (fun j => a.tmps.toList.getD j undef) 112, (fun j => a.tmps.toList.getD j undef) 113, (fun j => a.tmps.toList.getD j undef) 114, (fun j => a.tmps.toList.getD j undef) 115, (fun j => a.tmps.toList.getD j undef) 116, (fun j => a.tmps.toList.getD j undef) 117, (fun j => a.tmps.toList.getD j undef) 118, (fun j => a.tmps.toList.getD j undef) 119, (fun j => a.tmps.toList.getD j undef) 120, (fun j => a.tmps.toList.getD j undef) 121, (fun j => a.tmps.toList.getD j undef) 122, (fun j => a.tmps.toList.getD j undef) 123, (fun j => a.tmps.toList.getD j undef) 124, (fun j => a.tmps.toList.getD j undef) 125, (fun j => a.tmps.toList.getD j undef) 126, (fun j => a.tmps.toList.getD j undef) 127, (fun j => a.tmps.toList.getD j undef) 128, (fun j => a.tmps.toList.getD j undef) 129, (fun j => a.tmps.toList.getD j undef) 130, (fun j => a.tmps.toList.getD j undef) 131, (fun j => a.tmps.toList.getD j undef) 132, (fun j => a.tmps.toList.getD j undef) 133, (fun j => a.tmps.toList.getD j undef) 134, (fun j => a.tmps.toList.getD j undef) 135, (fun j => a.tmps.toList.getD j undef) 136, (fun j => a.tmps.toList.getD j undef) 137, (fun j => a.tmps.toList.getD j undef) 138, (fun j => a.tmps.toList.getD j undef) 139, (fun j => a.tmps.toList.getD j undef) 140, (fun j => a.tmps.toList.getD j undef) 141, (fun j => a.tmps.toList.getD j undef) 142, (fun j => a.tmps.toList.getD j undef) 143, (fun j => a.tmps.toList.getD j undef) 144, (fun j => a.tmps.toList.getD j undef) 145, (fun j => a.tmps.toList.getD j undef) 146, (fun j => a.tmps.toList.getD j undef) 147, (fun j => a.tmps.toList.getD j undef) 148, (fun j => a.tmps.toList.getD j undef) 149, (fun j => a.tmps.toList.getD j undef) 150, (fun j => a.tmps.toList.getD j undef) 151, (fun j => a.tmps.toList.getD j undef) 152, (fun j => a.tmps.toList.getD j undef) 153, (fun j => a.tmps.toList.getD j undef) 154, (fun j => a.tmps.toList.getD j undef) 155, (fun j => a.tmps.toList.getD j undef) 156, (fun j => a.tmps.toList.getD j undef) 157, (fun j => a.tmps.toList.getD j undef) 158, (fun j => a.tmps.toList.getD j undef) 159, (fun j => a.tmps.toList.getD j undef) 160, (fun j => a.tmps.toList.getD j undef) 161, (fun j => a.tmps.toList.getD j undef) 162, (fun j => a.tmps.toList.getD j undef) 163, (fun j => a.tmps.toList.getD j undef) 164, (fun j => a.tmps.toList.getD j undef) 165, (fun j => a.tmps.toList.getD j undef) 166, (fun j => a.tmps.toList.getD j undef) 167, (fun j => a.tmps.toList.getD j undef) 168, (fun j => a.tmps.toList.getD j undef) 169, (fun j => a.tmps.toList.getD j undef) 170, (fun j => a.tmps.toList.getD j undef) 171, (fun j => a.tmps.toList.getD j undef) 172, (fun j => a.tmps.toList.getD j undef) 173, (fun j => a.tmps.toList.getD j undef) 174, (fun j => a.tmps.toList.getD j undef) 175, (fun j => a.tmps.toList.getD j undef) 176, (fun j => a.tmps.toList.getD j undef) 177, (fun j => a.tmps.toList.getD j undef) 178, (fun j => a.tmps.toList.getD j undef) 179, (fun j => a.tmps.toList.getD j undef) 180, (fun j => a.tmps.toList.getD j undef) 181, (fun j => a.tmps.toList.getD j undef) 182, (fun j => a.tmps.toList.getD j undef) 183, (fun j => a.tmps.toList.getD j undef) 184, (fun j => a.tmps.toList.getD j undef) 185, (fun j => a.tmps.toList.getD j undef) 186, (fun j => a.tmps.toList.getD j undef) 187, (fun j => a.tmps.toList.getD j undef) 188, (fun j => a.tmps.toList.getD j undef) 189, (fun j => a.tmps.toList.getD j undef) 190, (fun j => a.tmps.toList.getD j undef) 191, (fun j => a.tmps.toList.getD j undef) 192, (fun j => a.tmps.toList.getD j undef) 193, (fun j => a.tmps.toList.getD j undef) 194, (fun j => a.tmps.toList.getD j undef) 195, (fun j => a.tmps.toList.getD j undef) 196, (fun j => a.tmps.toList.getD j undef) 197, (fun j => a.tmps.toList.getD j undef) 198, (fun j => a.tmps.toList.getD j undef) 199, (fun j => a.tmps.toList.getD j undef) 200, (fun j => a.tmps.toList.getD j undef) 201, (fun j => a.tmps.toList.getD j undef) 202, (fun j => a.tmps.toList.getD j undef) 203, (fun j => a.tmps.toList.getD j undef) 204, (fun j => a.tmps.toList.getD j undef) 205, (fun j => a.tmps.toList.getD j undef) 206, (fun j => a.tmps.toList.getD j undef) 207, (fun j => a.tmps.toList.getD j undef) 208, (fun j => a.tmps.toList.getD j undef) 209, (fun j => a.tmps.toList.getD j undef) 210], defers := [] } → Kc a wr := by
            clear h0 hrb Hrm
            intro a m hmq ha
            obtain ⟨us, hus⟩ : ∃ us, (fun j => a.tmps.toList.getD j undef) = us := ⟨_, rfl⟩
            replace ha : a = { tmps := #[.slice A q c, us 1, us 2, us 3, .pointer (some ⟨w.heap.size, 0, none⟩), .pointer (some ⟨ga, 0, none⟩), .pointer (some ⟨go, 0, none⟩), .pointer (some ⟨gl, 0, none⟩), .pointer (some ⟨gp, 0, none⟩), .pointer (some ⟨g9, 0, none⟩), us 10, .int .i64 (m : Int), us 12, us 13, us 14, us 15, us 16, us 17, us 18, us 19, us 20, us 21, us 22, us 23, us 24, us 25, us 26, us 27, us 28, us 29, us 30, us 31, us 32, us 33, us 34, us 35, us 36, us 37, us 38, us 39, us 40, us 41, us 42, us 43, us 44, us 45, us 46, us 47, us 48, us 49, us 50, us 51, us 52, us 53, us 54, us 55, us 56, us 57, us 58, us 59, us 60, us 61, us 62, us 63, us 64, us 65, us 66, us 67, us 68, us 69, us 70, us 71, us 72, us 73, us 74, us 75, us 76, us 77, us 78, us 79, us 80, us 81, us 82, us 83, us 84, us 85, us 86, us 87, us 88, us 89, us 90, us 91, us 92, us 93, us 94, us 95, us 96, us 97, us 98, us 99, us 100, us 101, us 102, us 103, us 104, us 105, us 106, us 107, us 108, us 109, us 110, us 111, us 112, us 113, us 114, us 115, us 116, us 117, us 118, us 119, us 120, us 121, us 122, us 123, us 124, us 125, us 126, us 127, us 128, us 129, us 130, us 131, us 132, us 133, us 134, us 135, us 136, us 137, us 138, us 139, us 140, us 141, us 142, us 143, us 144, us 145, us 146, us 147, us 148, us 149, us 150, us 151, us 152, us 153, us 154, us 155, us 156, us 157, us 158, us 159, us 160, us 161, us 162, us 163, us 164, us 165, us 166, us 167, us 168, us 169, us 170, us 171, us 172, us 173, us 174, us 175, us 176, us 177, us 178, us 179, us 180, us 181, us 182, us 183, us 184, us 185, us 186, us 187, us 188, us 189, us 190, us 191, us 192, us 193, us 194, us 195, us 196, us 197, us 198, us 199, us 200, us 201, us 202, us 203, us 204, us 205, us 206, us 207, us 208, us 209, us 210], defers := [] } := by rw [← hus]; exact ha
            clear hus
            subst ha
            refine hc _ _ ?_
            clear hc
            go_wp2_with fail
            have hes := HE.out wr hC.bel
            have hall := hes.all
            have htd := longE_false Hlong.out
            have ha1 : appendE [] (ls.take m) = (leafF [] (hs.take m), 0) := by
              rw [appendE_small [] (ls.take m) (htd _ fun y hy => List.mem_of_mem_take hy) (by rw [List.length_take]; simp [szF_nil]; omega), List.map_take, Hhs.out]
            have hok1 : FrOk (leafF [] (hs.take m)) := by have := frOk_nil.appendE (ls.take m); rw [ha1] at this; exact this
            have ha2 : appendE (leafF [] (hs.take m)) (ls.drop m) = (leafF [] hs, 0) := by
              rw [appendE_small _ (ls.drop m) (htd _ fun y hy => List.mem_of_mem_drop hy) (by rw [szF_leaf, List.length_drop, List.length_take]; simp [szF_nil]; have := Hlen.out; omega), List.map_drop, Hhs.out, ← leafF_append, List.take_append_drop]
            have ha3 : leafE [] hs = (leafF [] hs, 0) := leafE_small [] hs (by rw [Hlh.out]; simp [szF_nil]; omega)
            have hcl := fappend_any gp [] (ls.take m) A m c wr hC.p frOk_nil (hall.take m (by omega)) (by omega) (fun y hy => Hme.out y (List.mem_of_mem_take hy))
            rw [ha1] at hcl
            refine hcl.mono ?_
            clear hcl ha1 hall hes htd
            rintro e x1 ⟨rfl, hF9, hg9⟩
            replace hH := hH.other hC.p hg9
            replace k9 := k9.grown hg9 (fun e => by have e := Option.some.inj e; omega)
            replace hC := hC.onP hF9 hg9
            clear hF9 hg9
            go_wp2_with fail
            refine (fbytes_any gp _ x1 hC.p hok1).mono ?_
            rintro e x2 ⟨v97, rfl, hFr⟩
            have hb9 := hFr.2
            obtain ⟨A97, c97, rfl, hs97⟩ := hFr.slE
            replace hC := hC.step hb9
            replace hH := hH.step hb9
            replace k9 := k9.step hb9
            have hbl : (bytesF (leafF [] (hs.take m))).length ≤ 2024 := by rw [length_bytesF _ hok1.h32]; have := hok1.len; omega
            clear hb9 hFr
            go_wp2_with fail
            have hcl := fread_any (bytesF (leafF [] (hs.take m))) A97 _ c97 x2 (hs97.weak fun _ _ _ => trivial) (by omega)
            rw [readF_bytes _ hok1] at hcl
            refine hcl.mono ?_
            clear hcl hs97 hbl
            rintro e x3 ⟨v98, rfl, hO, hb9⟩
            obtain ⟨gr, rfl, hgr, hFR⟩ := hO.some'
            have hR := hFR.fro
            have hgpx : gp < x2.heap.size := hC.p.lt
            have hg9x : g9 < x2.heap.size := k9.lt
            replace hC := hC.step hb9
            replace hH := hH.step hb9
            replace k9 := k9.step hb9
            clear hO hFR hb9
            have hE5 := (HE.out x3 hC.bel).all.drop m (by omega)
            obtain ⟨A5, hA5⟩ : ∃ x, (if c = m then A else A.map (·.add (m * 1))) = x := ⟨_, rfl⟩
            rw [hA5] at hE5
            have HA5 := Lib.hid hA5
            clear hA5
            go_wp2_with (first
              | (go_at_call 41; refine (num10_any _ _).mono ?_; rintro e wn ⟨rfl, hww⟩; obtain rfl := hww.symm)
              | ((with_reducible show wpList _ _ _ (⟨some 112, .slice _ _ _ _ _, _, _, _, _⟩ :: _) _ _); refine wpList_runG (by kernel_rfl) (.slice A5 (q - m) (c - m)) _ (by rw [← HA5.out]; exact run_slice_loB (.tmp 110) (.tmp 111) rfl A q c m rfl rfl (by omega) _) ?_; simp only [Act.put]))
            have hcl := fappend_any gr _ (ls.drop m) A5 (q - m) (c - m) x3 hR hok1 hE5 (by omega) (fun y hy => Hme.out y (List.mem_of_mem_drop hy))
            rw [ha2] at hcl
            refine hcl.mono ?_
            clear hcl ha2 hE5 hok1
            rintro e x4 ⟨rfl, hF9, hg9⟩
            have hxs := hg9.size
            replace hH := hH.other hR hg9
            replace k9 := k9.grown hg9 (fun e => by have e := Option.some.inj e; omega)
            replace hC := hC.off hR hg9 (by omega)
            replace hR := hF9
            clear hF9 hg9
            have c9' : x4.cell? ⟨g9, 0, none⟩ = some (.slice A9 q c9) := by rw [k9.cell]; rfl
            go_wp2_with (first
              | (go_at_call 41; refine (num10_any _ _).mono ?_; rintro e wn ⟨rfl, hww⟩; obtain rfl := hww.symm))
            have hcl := fleaf_any gl [] hs A9 q c9 x4 hC.l frOk_nil hH (by omega)
            rw [ha3] at hcl
            refine hcl.mono ?_
            clear hcl ha3
            rintro e x5 ⟨rfl, hF9, hg9⟩
            have hll := hC.lp
            replace hH := hH.other hC.l hg9
            replace k9 := k9.grown hg9 (fun e => by have e := Option.some.inj e; omega)
            replace hR := hR.other hC.l hg9 (by omega)
            have hR5 := hR.lt
            replace hC := hC.onL hF9 hg9
            clear hF9 hg9
            go_wp2_with (first
              | (go_at_call 41; refine (num10_any _ _).mono ?_; rintro e wn ⟨rfl, hww⟩; obtain rfl := hww.symm))
            refine (fnew_any x5).mono ?_
            rintro e x6 ⟨rfl, hW, hb9⟩
            have hW6 := hW.lt
            replace hC := hC.step hb9
            replace hH := hH.step hb9
            replace k9 := k9.step hb9
            replace hR := hR.step hb9
            clear hb9
            go_wp2_with (first
              | ((with_reducible show wpList _ _ _ (⟨some 14, .alloc _, _, _, _, _⟩ :: _) _ _); refine wpList_var1 (T := 61) (z := .pointer none) (.tmp 14) (.tmp 124) rfl rfl (by kernel_rfl) sizePF rfl rfl rfl rfl ?_; intro x7 k14 hb9; simp only [Act.put]; have hk14 := k14.lt; replace hC := hC.step hb9; replace hH := hH.step hb9; replace k9 := k9.step hb9; replace hR := hR.step hb9; replace hW := hW.step hb9; clear hb9))
            refine (fall_any (fptr ga) x7 rfl).mono ?_
            rintro e x8 ⟨rfl, hbx, hb9⟩
            have hnil := eql_all_nil x7.heap.size x8
            have hbx8 := hbx.lt
            replace hC := hC.step hb9
            replace hH := hH.step hb9
            replace k9 := k9.step hb9
            replace hR := hR.step hb9
            replace hW := hW.step hb9
            replace k14 := k14.step hb9
            clear hb9
            have c14 : x8.cell? ⟨x6.heap.size, 0, none⟩ = some (fptr x5.heap.size) := by rw [k14.cell]; rfl
            go_wp2_with (first
              | ((with_reducible show wpList _ _ _ (⟨some 16, .alloc _, _, _, _, _⟩ :: _) _ _); refine wpList_var1 (T := 2) (z := .int .i64 0) (.tmp 16) (.const (.int .i64 0)) rfl rfl (by kernel_rfl) sizeI64 rfl rfl rfl rfl ?_; intro x9 k16 hb9; simp only [Act.put]; have hk16 := k16.lt; replace hC := hC.step hb9; replace hH := hH.step hb9; replace k9 := k9.step hb9; replace hR := hR.step hb9; replace hW := hW.step hb9; replace k14 := k14.step hb9; replace hbx := hbx.step hb9; clear hb9))
            obtain ⟨ps, hps⟩ : ∃ x, leafF [] hs = x := ⟨_, rfl⟩
            have hisf : IsF ps hs := by rw [← hps]; exact HE'.out
            have hok : FrOk ps := by rw [← hps]; exact Hok.out
            rw [hps] at hC hR
            have hsz : szF ps = q := by rw [hisf.size, Hlh.out]
            have hI0 : RoI x9 x8.heap.size x5.heap.size ps 0 x9 := ⟨k16, hW, KB.refl _ _⟩
            have hA := allOk_some hC.a hok.h62 (by have := hok.len; omega)
            have HI0 := Lib.hid hI0
            have Hok' := Lib.hid hok
            have Hisf := Lib.hid hisf
            have HC := Lib.hid hC
            have HH := Lib.hid hH
            have HR := Lib.hid hR
            have Hk9 := Lib.hid k9
            have Hk14 := Lib.hid k14
            have Hsz := Lib.hid hsz
            have hgps := hC.lp
            have hx9 := hC.bel.size
            have hgla := hC.la
            have hgw : w.heap.size < gp := by have := hC.ao; have := hC.ol; omega
            clear hC hH hR k9 k14 hW k16 c14 c9' hps hisf hok hsz hxs hll
            refine wp_range_U (gf := 118) (lb := #[.pointer (some ⟨x7.heap.size, 0, none⟩)]) rfl (enters_of Try.func118 (by kernel_rfl) rfl)
              (hA x9 x7.heap.size (fun b => b = x8.heap.size ∨ b = x5.heap.size) (Below.refl _ _) hbx (fun b hb => by rcases hb with rfl | rfl <;> omega)) (fun _ _ _ _ h => by rw [show _ = _ from h]; rfl)
              (fun _ => RoI x9 x8.heap.size x5.heap.size ps) (fun _ _ _ _ => False)
              (fun _ => RoI.own (by omega) (Nat.le_refl _)) (fun _ _ _ _ _ _ h _ _ => h.elim) (fun _ _ => HI0.out) ?round ?done ?stop
            case round =>
              clear hI0 hbx hA
              intro li n₁ k vs X hl hln hnX hk hI hy
              have hy : vs = _ := hy
              subst hy
              obtain ⟨hat1, hat2⟩ := Hisf.out.at_ _ _ k hk
              obtain ⟨⟨l, z⟩, hx⟩ : ∃ x, ps.getD k (0, []) = x := ⟨_, rfl⟩
              have hgt := grow_take ps Hok'.out k l z hk hx
              have hok1 : FrOk (ps.take k) := ⟨fun p hp => Hok'.out.h32 p (List.mem_of_mem_take hp), Hok'.out.dec.sublist (List.take_sublist _ _), Nat.le_trans (szF_take_le ps k) Hok'.out.top⟩
              have hl62 : l ≤ 62 := by
                have h := Hok'.out.h62 (l, z) (by rw [← hx, List.getD_eq_getElem?_getD, List.getElem?_eq_getElem hk]; exact List.getElem_mem hk)
                exact h
              have hzl : z.length = 32 := by
                have h := Hok'.out.h32 (l, z) (by rw [← hx, List.getD_eq_getElem?_getD, List.getElem?_eq_getElem hk]; exact List.getElem_mem hk)
                exact h
              have hst := szF_take ps k hk
              rw [hx] at hat1 hat2 hst ⊢
              dsimp only at hat1 hat2 hst ⊢
              obtain ⟨at_, hat_⟩ : ∃ x, szF (ps.take k) = x := ⟨_, rfl⟩
              have hp2 : (2 : Int) ^ l = ((2 ^ l : Nat) : Int) := by simp
              have h1l := Nat.two_pow_pos l
              obtain ⟨m', hm'⟩ : ∃ x, 2 ^ l = x := ⟨_, rfl⟩
              rw [hm'] at hat1 hat2 hst hp2 h1l
              rw [hat_] at hat1 hat2 hst
              rw [Hlh.out] at hat1
              rw [hp2]
              have Hzl := Lib.hid hzl
              have Hz := Lib.hid hat2
              have Hst := Lib.hid hst
              have Hgt := Lib.hid hgt
              have Hat := Lib.hid hat_
              have Hm' := Lib.hid hm'
              clear hx hzl hat2 hgt hst hat_ hp2 hm'
              gi_wp2_with ((with_reducible show wpListIn _ _ _ _ _ (⟨some 18, .alloc _, _, _, _, _⟩ :: _) _ _); refine wpListIn_of2 (openR li) rfl ?_; refine wpList_hvar (.tmp 18) (.tmp 135) rfl rfl rfl rfl rfl rfl Hzl.out ?_; intro X1 k18 hb18; refine thenN_nil ?_; simp only [Act.put])
              refine ⟨KeepU.below hb18, ?_⟩
              intro X2 hturn
              have hI2 := hturn.own (RoI.own (by omega) (Nat.le_refl _)) (hI.step hb18)
              have k18' : HV X2 X.heap.size z := ⟨hturn.blk k18.blk, Hzl.out⟩
              have hX2 : n₁ ≤ X2.heap.size := by rw [hturn.size]; exact Nat.le_trans hnX hb18.size
              have hg18 : x9.heap.size ≤ X.heap.size := by omega
              clear hI k18 hb18 hturn
              generalize X.heap.size = g18 at k18' hnX hg18 ⊢
              have k9 := hI2.kb.blk Hk9.out (fun e => by rcases e with e | e <;> omega)
              have k14 := hI2.kb.blk Hk14.out (fun e => by rcases e with e | e <;> omega)
              have hH := hI2.kb.hs HI0.out.small HH.out
              have c16 : X2.cell? ⟨x8.heap.size, 0, none⟩ = some (.int .i64 (at_ : Int)) := by rw [hI2.b16.cell, Hat.out]; rfl
              have c9 : X2.cell? ⟨g9, 0, none⟩ = some (.slice A9 q c9) := by rw [k9.cell]; rfl
              have hws : IntKind.i64.wrap ((q : Int) - (at_ : Int)) = (q : Int) - (at_ : Int) := IntWalk.i64_in _ (by omega)
              have hd1 : decide ((m' : Int) < 1) = false := by simp; omega
              have hd2 : decide ((q : Int) - (at_ : Int) < (m' : Int)) = false := by simp; omega
              gi_wp2
              clear hws hd2
              have hmz : (m' : Int) = (2 : Int) ^ l := by rw [← Hm'.out]; simp
              gi_loopw [19] (fun v wr => ∃ j : Nat, j ≤ l ∧ v = .int .i64 (j : Int) ∧ wr = X2) (fun v _ => l - (intOf v).toNat)
              case atStart => exact ⟨0, Nat.zero_le _, rfl, rfl⟩
              case round =>
                obtain ⟨j, hj, rfl, rfl⟩ := hrel
                have hpj := pow_i64 j (by omega)
                have hwj : IntKind.i64.wrap ((j : Int) + 1) = (j : Int) + 1 := IntWalk.i64_in _ (by omega)
                have hwu : IntKind.u64.wrap (j : Int) = (j : Int) := by rw [IntKind.wrap_u64]; omega
                by_cases hjl : j < l
                · have hdj' : (2 : Int) ^ j < (m' : Int) := by
                    rw [hmz]
                    have := Nat.pow_lt_pow_right (a := 2) (by decide) hjl
                    exact_mod_cast this
                  have hdj : decide ((2 : Int) ^ j < (m' : Int)) = true := by simpa using hdj'
                  gi_wp2
                  exact ⟨⟨j + 1, by omega, by go_num, trivial⟩, by simp [intOf]; omega⟩
                · obtain rfl : j = l := by omega
                  have hdj : decide ((2 : Int) ^ j < (m' : Int)) = false := by rw [hmz]; simp
                  gi_wp2
                  clear hdj hmz hpj hwj hwu c9 c16
                  have hSb : Below wr.heap.size wr wr.drew := (Below.refl _ _).drew
                  have hS : KB (fun b => b = x5.heap.size) wr wr.drew := KB.of_below hSb
                  have c9' : ∀ s : InC (KB (fun b => b = x5.heap.size) wr), s.W.cell? ⟨g9, 0, none⟩ = some (.slice A9 q c9) := fun s => by rw [(s.ok.blk k9 (fun e => by have e : g9 = _ := e; omega)).cell]; rfl
                  have c14' : ∀ s : InC (KB (fun b => b = x5.heap.size) wr), s.W.cell? ⟨x6.heap.size, 0, none⟩ = some (fptr x5.heap.size) := fun s => by rw [(s.ok.blk k14 (fun e => by have e : x6.heap.size = _ := e; omega)).cell]; rfl
                  have c16' : ∀ s : InC (KB (fun b => b = x5.heap.size) wr), s.W.cell? ⟨x8.heap.size, 0, none⟩ = some (.int .i64 (at_ : Int)) := fun s => by rw [(s.ok.blk hI2.b16 (fun e => by have e : x8.heap.size = _ := e; omega)).cell, Hat.out]; rfl
                  have L18 := Lib.hid (fun s : InC (KB (fun b => b = x5.heap.size) wr) => ((⟨s.ok.blk k18'.blk (fun e => by have e : g18 = _ := e; omega), k18'.len⟩ : HV s.W g18 z).load))
                  have hsub := (hH.take (at_ + m') (by omega)).drop at_ (by omega)
                  obtain ⟨As, hAs⟩ : ∃ x, (if c9 = at_ then A9 else A9.map (·.add (at_ * 32))) = x := ⟨_, rfl⟩
                  rw [hAs, show at_ + m' - at_ = m' by omega] at hsub
                  have hzz : rootL ((hs.take (at_ + m')).drop at_) = z := by
                    rw [List.drop_take, show at_ + m' - at_ = m' by omega]
                    exact Hz.out.symm
                  have hrof := fun W (hb : Below wr.heap.size wr W) => rof_any _ As m' (c9 - at_) W ((hsub.step hb).weak fun _ _ _ => trivial) (by omega)
                  rw [hzz] at hrof
                  have hwa : IntKind.i64.wrap ((at_ : Int) + (m' : Int)) = ((at_ + m' : Nat) : Int) := by rw [IntWalk.i64_in _ (by omega)]; omega
                  have HAs := Lib.hid hAs
                  have Hrof := Lib.hid hrof
                  have hfr := hI2.fr
                  have hgl0 := hfr.lt
                  replace hfr := hfr.step hSb
                  clear hAs hrof hsub hzz
                  refine wpIn_region_mix (openR li) rfl (fun _ _ h => h) (KB (fun b => b = x5.heap.size) wr) [(0, true), (1, true), (2, true), (3, true), (4, true), (5, true), (6, true), (7, false), (8, true), (9, true), (10, true), (11, true), (12, true), (13, false), (14, false), (15, true), (16, true)] (by kernel_rfl) (by kernel_rfl) hS fun _ => ?_
                  simp only [List.map_cons, List.map_nil, Array.getD_eq_getD_getElem?, List.getElem?_toArray, List.getElem?_cons_succ, List.getElem?_cons_zero, Option.getD_some]
                  generalize wr.drew = u1 at hS hSb hfr ⊢
                  refine wpMix_load (by kernel_rfl) 25 (.tmp 18) rfl (g18) (0) rfl (z.map B).toArray (L18.out) ?_
                  simp only [Act.put]
                  refine wpMix_s (fun K hK => ?_)
                  go_simp
                  refine hK _ ?_
                  clear hK K
                  refine wpMix_s (fun K hK => ?_)
                  go_simp
                  refine hK _ ?_
                  clear hK K
                  refine wpMix_s (fun K hK => ?_)
                  go_simp
                  refine hK _ ?_
                  clear hK K
                  refine wpMix_s (fun K hK => ?_)
                  go_simp
                  refine hK _ ?_
                  clear hK K
                  refine wpMix_s (fun K hK => ?_)
                  go_simp
                  refine hK _ ?_
                  clear hK K
                  refine wpMix_v (by kernel_rfl) (.slice As m' (c9 - at_)) (fun s => by rw [← HAs.out]; exact run_subH (.tmp 154) (.tmp 155) (.tmp 158) rfl A9 q c9 at_ m' rfl rfl rfl (by omega) s.W) ?_
                  simp only [Act.put]
                  refine wpMix_c (fun K hK => ?_) hS
                  go_simp
                  refine (Hrof.out u1 hSb).mono ?_
                  rintro e u1b ⟨rfl, hb9⟩
                  refine hK _ _ ?_
                  clear hK K
                  replace hS := hS.trans (KB.of_below hb9)
                  refine ⟨hS, ?_⟩
                  replace hSb := hSb.trans (hb9.mono hSb.size)
                  replace hfr := hfr.step hb9
                  clear hb9
                  refine wpMix_v (by kernel_rfl) (.bool false) (fun s => run_neq26_f (.tmp 153) (.tmp 160) _ z z rfl rfl rfl Hzl.out Hzl.out rfl s.W) ?_
                  simp only [Act.put]
                  refine wpMix_s (fun K hK => ?_)
                  go_simp
                  refine hK _ ?_
                  clear hK K
                  refine wpMix_s (fun K hK => ?_)
                  go_simp
                  refine hK _ ?_
                  clear hK K
                  refine wpMix_s (fun K hK => ?_)
                  go_simp
                  refine hK _ ?_
                  clear hK K
                  refine wpMix_load (by kernel_rfl) 25 (.tmp 18) rfl (g18) (0) rfl (z.map B).toArray (L18.out) ?_
                  simp only [Act.put]
                  refine wpMix_c (fun K hK => ?_) hS
                  go_simp
                  have hcl := fgrow_any x5.heap.size (ps.take k) (j : Int) z u1b hfr hok1 Hzl.out
                  rw [Hgt.out] at hcl
                  refine hcl.mono ?_
                  clear hcl
                  rintro e u1bc ⟨rfl, hF9, hg9⟩
                  refine hK _ _ ?_
                  clear hK K
                  replace hS := hS.trans (KB.of_grown hg9 fun r e => (Option.some.inj e).symm)
                  refine ⟨hS, ?_⟩
                  clear hg9
                  refine wpMix_c (fun K hK => ?_) hS
                  go_simp
                  refine (num10_any _ u1bc).mono ?_
                  rintro e u1e ⟨rfl, hww⟩
                  obtain rfl := hww.symm
                  refine hK _ _ ?_
                  clear hK K
                  refine ⟨hS, ?_⟩
                  refine wpMix_s (fun K hK => ?_)
                  go_simp
                  refine hK _ ?_
                  clear hK K
                  refine wpMix_s (fun K hK => ?_)
                  go_simp
                  refine hK _ ?_
                  clear hK K
                  refine wpMix_nil ?_
                  intro _
                  obtain ⟨X4, hX4⟩ : ∃ x, u1bc = x := ⟨_, rfl⟩
                  rw [hX4] at hS hF9 ⊢
                  clear hX4 c9' c14' c16' hfr hSb
                  have k16 := hS.blk hI2.b16 (fun e => by have e : x8.heap.size = _ := e; omega)
                  rw [Hat.out] at k16
                  have c16 : X4.cell? ⟨x8.heap.size, 0, none⟩ = some (.int .i64 (at_ : Int)) := by rw [k16.cell]; rfl
                  have f16 := k16.frozen 0
                  have hg9 := grownBy_setCell' X4 x8.heap.size (.int .i64 ((at_ + m' : Nat) : Int))
                  have hpost : KeepU x9.heap.size n₁ (fun b => b = x8.heap.size ∨ b = x5.heap.size) wr (X4.setCell ⟨x8.heap.size, 0, none⟩ (.int .i64 ((at_ + m' : Nat) : Int))) ∧ RoI x9 x8.heap.size x5.heap.size ps (k + 1) (X4.setCell ⟨x8.heap.size, 0, none⟩ (.int .i64 ((at_ + m' : Nat) : Int))) := by
                    refine ⟨(hS.keepU fun b hb => ⟨.inr (.inr hb), ?_⟩).trans (KeepU.setCell k16 (.inr (.inl rfl)) 0 _), ?_, hF9.grown hg9 k16 (by simp) (by omega), (hI2.kb.trans (hS.mono fun b hb => .inr hb)).trans (KB.of_grown hg9 fun r e => .inl (Option.some.inj e).symm)⟩
                    · obtain ⟨T, cs, h1, _⟩ := hI2.small b (.inr hb)
                      exact ⟨T, cs, h1⟩
                    · have := k16.set_ 0 (.int .i64 ((at_ + m' : Nat) : Int))
                      rw [Hst.out]
                      exact this
                  have Hpost := Lib.hid hpost
                  clear hpost hg9 k16 hF9 hS hI2 k9 k14 k18' hH
                  gi_wp2
                  exact Hpost.out
            case done =>
              clear hI0 hbx hA
              intro D n₁ X hD hDn hI hK
              obtain ⟨hb16, hfr, hkb⟩ := hI
              rw [List.take_of_length_le (Nat.le_refl _), Hsz.out] at hb16
              rw [List.take_of_length_le (Nat.le_refl _)] at hfr
              have hsm := HI0.out.small
              have hne : ∀ g, g < x5.heap.size → ¬ (g = x8.heap.size ∨ g = x5.heap.size) := fun g hg e => by rcases e with e | e <;> omega
              have k9 := hkb.blk Hk9.out (hne _ (by omega))
              have k14 := hkb.blk Hk14.out (fun e => by rcases e with e | e <;> omega)
              have hH := hkb.hs hsm HH.out
              have hR := hkb.fro hsm HR.out (hne _ hR5)
              have hC := HC.out.kb hkb hsm (fun g hg => hne g (by omega)) (fun b hb => by rcases hb with rfl | rfl <;> omega)
              have hok := Hok'.out
              obtain ⟨rt, hrt⟩ : ∃ x, rootL hs = x := ⟨_, rfl⟩
              have hrl : rt.length = 32 := by rw [← hrt]; exact length_rootL _ hH.all
              have hroot : rootG ps = rt := by rw [← hrt]; exact Hisf.out.root _ _ hok.dec
              have hcr := fun W (hb : Below X.heap.size X W) => froot_any ga ps W (hC.a.step hb) hok
              have hco := fun W (hb : Below X.heap.size X W) => rof_any hs A9 q c9 W ((hH.step hb).weak fun _ _ _ => trivial) (by omega)
              have hcs := fun W (hb : Below X.heap.size X W) => fsize_some (hC.a.step hb) hok
              have hsame : decide (ps = ps) = true := by simp
              have hc1 := fun W (hb : Below X.heap.size X W) => fsame_any ga go ps ps W (hC.a.step hb) (hC.o.step hb)
              have hc2 := fun W (hb : Below X.heap.size X W) => fsame_any ga gl ps ps W (hC.a.step hb) (hC.l.step hb)
              have hc3 := fun W (hb : Below X.heap.size X W) => fsame_any ga gr ps ps W (hC.a.step hb) (hR.step hb)
              have hc5 := fun W (hb : Below X.heap.size X W) => fsame_any ga x5.heap.size ps ps W (hC.a.step hb) (hfr.step hb)
              rw [hroot] at hcr
              rw [hrt] at hco
              rw [Hsz.out] at hcs
              rw [hsame] at hc1 hc2 hc3 hc5
              have Hcr := Lib.hid hcr
              have Hco := Lib.hid hco
              have Hcs := Lib.hid hcs
              have Hc1 := Lib.hid hc1
              have Hc2 := Lib.hid hc2
              have Hc3 := Lib.hid hc3
              have Hc5 := Lib.hid hc5
              have c9' : ∀ s : InC (fun W => Below X.heap.size X W), s.W.cell? ⟨g9, 0, none⟩ = some (.slice A9 q c9) := fun s => by rw [(k9.step s.ok).cell]; rfl
              have c14' : ∀ s : InC (fun W => Below X.heap.size X W), s.W.cell? ⟨x6.heap.size, 0, none⟩ = some (fptr x5.heap.size) := fun s => by rw [(k14.step s.ok).cell]; rfl
              have c16' : ∀ s : InC (fun W => Below X.heap.size X W), s.W.cell? ⟨x8.heap.size, 0, none⟩ = some (.int .i64 (q : Int)) := fun s => by rw [(hb16.step s.ok).cell]; rfl
              have hbX := hC.bel
              have k4 := hC.b4
              have hS : Below X.heap.size X X.drew := (Below.refl _ _).drew
              clear hcr hco hcs hc1 hc2 hc3 hc5 hC hH hR hfr hb16 k9 k14 hroot hrt hsame hok hkb hsm hne
              go_wp2_with fail
              refine wp_region_mix_last (fun W => Below X.heap.size X W) 38 [(0, true), (2, true), (1, false), (3, false), (4, true), (5, true), (6, true), (8, true), (9, true), (7, false), (10, true), (11, true), (12, true), (13, true), (14, true), (15, false), (16, true), (17, true), (18, true), (19, true), (20, false), (21, true), (22, true), (23, true), (24, true), (25, false), (26, true), (27, true), (28, true), (29, true), (30, false), (31, true), (32, true), (33, true), (34, true), (35, true), (36, true), (37, true)] (by kernel_rfl) (by kernel_rfl) hS fun _ => ?_
              simp only [List.map_cons, List.map_nil, Array.getD_eq_getD_getElem?, List.getElem?_toArray, List.getElem?_cons_succ, List.getElem?_cons_zero, Option.getD_some]
              generalize X.drew = u2 at hS ⊢
              refine wpMix_s (fun K hK => ?_)
              go_simp
              refine hK _ ?_
              clear hK K
              refine wpMix_s (fun K hK => ?_)
              go_simp
              refine hK _ ?_
              clear hK K
              refine wpMix_c (fun K hK => ?_) hS
              go_simp
              refine (Hcr.out u2 hS).mono ?_
              rintro e u2_1 ⟨rfl, hb'⟩
              refine hK _ _ ?_
              clear hK K
              replace hS := hS.trans (hb'.mono hS.size)
              refine ⟨hS, ?_⟩
              clear hb'
              refine wpMix_c (fun K hK => ?_) hS
              go_simp
              refine (Hco.out u2_1 hS).mono ?_
              rintro e u2_2 ⟨rfl, hb'⟩
              refine hK _ _ ?_
              clear hK K
              replace hS := hS.trans (hb'.mono hS.size)
              refine ⟨hS, ?_⟩
              clear hb'
              refine wpMix_v (by kernel_rfl) (.bool true) (fun s => run_eql26_t (.tmp 174) (.tmp 176) _ rt rt rfl rfl rfl hrl hrl rfl s.W) ?_
              simp only [Act.put]
              refine wpMix_s (fun K hK => ?_)
              go_simp
              refine hK _ ?_
              clear hK K
              refine wpMix_s (fun K hK => ?_)
              go_simp
              refine hK _ ?_
              clear hK K
              refine wpMix_s (fun K hK => ?_)
              go_simp
              refine hK _ ?_
              clear hK K
              refine wpMix_s (fun K hK => ?_)
              go_simp
              refine hK _ ?_
              clear hK K
              refine wpMix_c (fun K hK => ?_) hS
              go_simp
              refine (Hcs.out u2_2 hS).mono ?_
              rintro e u2_3 ⟨rfl, hb'⟩
              refine hK _ _ ?_
              clear hK K
              replace hS := hS.trans (hb'.mono hS.size)
              refine ⟨hS, ?_⟩
              clear hb'
              refine wpMix_s (fun K hK => ?_)
              go_simp
              refine hK _ ?_
              clear hK K
              refine wpMix_s (fun K hK => ?_)
              go_simp
              refine hK _ ?_
              clear hK K
              refine wpMix_s (fun K hK => ?_)
              go_simp
              refine hK _ ?_
              clear hK K
              refine wpMix_s (fun K hK => ?_)
              go_simp
              refine hK _ ?_
              clear hK K
              refine wpMix_s (fun K hK => ?_)
              go_simp
              refine hK _ ?_
              clear hK K
              refine wpMix_c (fun K hK => ?_) hS
              go_simp
              refine (Hc1.out u2_3 hS).mono ?_
              rintro e u2_4 ⟨rfl, hb'⟩
              refine hK _ _ ?_
              clear hK K
              replace hS := hS.trans (hb'.mono hS.size)
              refine ⟨hS, ?_⟩
              clear hb'
              refine wpMix_s (fun K hK => ?_)
              go_simp
              refine hK _ ?_
              clear hK K
              refine wpMix_s (fun K hK => ?_)
              go_simp
              refine hK _ ?_
              clear hK K
              refine wpMix_s (fun K hK => ?_)
              go_simp
              refine hK _ ?_
              clear hK K
              refine wpMix_s (fun K hK => ?_)
              go_simp
              refine hK _ ?_
              clear hK K
              refine wpMix_c (fun K hK => ?_) hS
              go_simp
              refine (Hc2.out u2_4 hS).mono ?_
              rintro e u2_5 ⟨rfl, hb'⟩
              refine hK _ _ ?_
              clear hK K
              replace hS := hS.trans (hb'.mono hS.size)
              refine ⟨hS, ?_⟩
              clear hb'
              refine wpMix_s (fun K hK => ?_)
              go_simp
              refine hK _ ?_
              clear hK K
              refine wpMix_s (fun K hK => ?_)
              go_simp
              refine hK _ ?_
              clear hK K
              refine wpMix_s (fun K hK => ?_)
              go_simp
              refine hK _ ?_
              clear hK K
              refine wpMix_s (fun K hK => ?_)
              go_simp
              refine hK _ ?_
              clear hK K
              refine wpMix_c (fun K hK => ?_) hS
              go_simp
              refine (Hc3.out u2_5 hS).mono ?_
              rintro e u2_6 ⟨rfl, hb'⟩
              refine hK _ _ ?_
              clear hK K
              replace hS := hS.trans (hb'.mono hS.size)
              refine ⟨hS, ?_⟩
              clear hb'
              refine wpMix_s (fun K hK => ?_)
              go_simp
              refine hK _ ?_
              clear hK K
              refine wpMix_s (fun K hK => ?_)
              go_simp
              refine hK _ ?_
              clear hK K
              refine wpMix_s (fun K hK => ?_)
              go_simp
              refine hK _ ?_
              clear hK K
              refine wpMix_s (fun K hK => ?_)
              go_simp
              refine hK _ ?_
              clear hK K
              refine wpMix_c (fun K hK => ?_) hS
              go_simp
              refine (Hc5.out u2_6 hS).mono ?_
              rintro e u2_7 ⟨rfl, hb'⟩
              refine hK _ _ ?_
              clear hK K
              replace hS := hS.trans (hb'.mono hS.size)
              refine ⟨hS, ?_⟩
              clear hb'
              refine wpMix_s (fun K hK => ?_)
              go_simp
              refine hK _ ?_
              clear hK K
              refine wpMix_s (fun K hK => ?_)
              go_simp
              refine hK _ ?_
              clear hK K
              refine wpMix_s (fun K hK => ?_)
              go_simp
              refine hK _ ?_
              clear hK K
              refine wpMix_s (fun K hK => ?_)
              go_simp
              refine hK _ ?_
              clear hK K
              refine wpMix_s (fun K hK => ?_)
              go_simp
              refine hK _ ?_
              clear hK K
              refine wpMix_s (fun K hK => ?_)
              go_simp
              refine hK _ ?_
              clear hK K
              refine wpMix_s (fun K hK => ?_)
              go_simp
              refine hK _ ?_
              clear hK K
              refine wpMix_nil ?_
              intro _
              simp only [List.drop_succ_cons, List.drop_zero]
              obtain ⟨X5, hX5⟩ : ∃ x, u2_7 = x := ⟨_, rfl⟩
              rw [hX5] at hS ⊢
              clear hX5 c9' c14' c16'
              have k4' := k4.step hS
              have c4 : X5.cell? ⟨w.heap.size, 0, none⟩ = some (.bool false) := by rw [k4'.cell]; rfl
              have f4 := k4'.frozen 0
              have k4'' := k4'.set_ 0 (.bool true)
              have hM : MarksOk w.heap.size [D] (X5.setCell ⟨w.heap.size, 0, none⟩ (.bool true)) := (((MarksOk.nil _ _).cons (by omega) hK (by simp)).step hS).cell k4' (.bool true)
              have hbE : Below w.heap.size w (X5.setCell ⟨w.heap.size, 0, none⟩ (.bool true)) := (hbX.trans (hS.mono hbX.size)).setCell (Nat.le_refl _) _
              clear hS hbX k4 k4' hK
              go_wp2_with fail
              refine np_normal ?_
              go_wp2_with fail
              refine leaves_marks (N := w.heap.size) [D] _ hM fun w' ht => ⟨_, results_cb10 rfl _ _ w.heap.size true rfl (ht.blk _ _ _ k4''), rfl, hbE.trans ht.bel⟩
            case stop =>
              rintro D n₁ cd k X hD hDn hk h hK
              exact h.elim
          clear hc
          by_cases hr0 : rm < 0
          · have hd0 : decide (rm < 0) = true := by simp; omega
            obtain ⟨m, hmm⟩ : ∃ m : Nat, rm + (q : Int) + 1 = m := ⟨(rm + q + 1).toNat, by omega⟩
            have hwa : IntKind.i64.wrap (rm + (q : Int)) = rm + (q : Int) := IntWalk.i64_in _ (by omega)
            have hwb : IntKind.i64.wrap (rm + (q : Int) + 1) = (m : Int) := by rw [hmm]; exact IntWalk.i64_in _ (by omega)
            have hmq : m ≤ q := by omega
            clear hmm
            go_wp2_with fail
            exact key _ m hmq (by kernel_rfl)
          · have hd0 : decide (rm < 0) = false := by simp; omega
            obtain ⟨r, rfl⟩ : ∃ r : Nat, rm = r := ⟨rm.toNat, by omega⟩
            go_wp2_with fail
            exact key _ r (by omega) (by kernel_rfl)
    · have happ := appendE_long [] ls hlong
      have hcl := fappend_any ga [] ls A n c w6 hC.a frOk_nil (HE.out w6 hC.bel).all (by omega) Hme.out
      rw [happ] at hcl
      refine hcl.mono ?_
      clear hcl happ
      rintro e w7 ⟨rfl, hF9, hg9⟩
      replace hC := hC.onA hF9 hg9
      clear hF9 hg9
      go_wp2_with (first
        | (go_at_call 41; refine (num10_any _ _).mono ?_; rintro e wn ⟨rfl, hww⟩; obtain rfl := hww.symm))
      refine (fsize_some hC.a frOk_nil).mono ?_
      rintro e w8 ⟨rfl, hb9⟩
      replace hC := hC.step hb9
      have k4' := hC.b4
      have c4 : w8.cell? ⟨w.heap.size, 0, none⟩ = some (.bool false) := by rw [k4'.cell]; rfl
      have f4 := k4'.frozen 0
      have k4'' := k4'.set_ 0 (.bool true)
      have hbE : Below w.heap.size w (w8.setCell ⟨w.heap.size, 0, none⟩ (.bool true)) := hC.bel.setCell (Nat.le_refl _) _
      have hz0 : ((szF [] : Nat) : Int) = 0 := rfl
      clear hC k4' hb9
      go_wp2_with fail
      exact ⟨_, results_cb10 rfl _ _ w.heap.size true rfl k4'', rfl, hbE⟩
end Go.Proofs.Ytonidnfgneokbaa
