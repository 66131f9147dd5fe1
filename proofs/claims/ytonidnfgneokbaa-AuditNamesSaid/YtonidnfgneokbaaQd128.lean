/- tree.lie. -/
import Derived.Test.YtonidnfgneokbaaQd127
import Derived.Test.YtonidnfgneokbaaQd114
namespace Go.Proofs.Ytonidnfgneokbaa
open Go Go.RowKit Go.Shelf
attribute [local go_sem] Oper.semAt_some

theorem ret_clash3 {fn : Func} {p u v : Tmp} {tmps : Array Value} {W : World} {g : Nat} {a b : Value} (h : fn.results = #[.cell p 34, .tmp u, .tmp v]) (hp : tmps.getD p undef = .pointer (some ⟨g, 0, none⟩)) (k : Blk W g 34 #[a, b]) : (results fn tmps).run Try.prog W = .ok (.tuple #[.agg #[a, b], tmps.getD u undef, tmps.getD v undef]) W := by
  have hp' : tmps[p]?.getD undef = .pointer (some ⟨g, 0, none⟩) := by simpa using hp
  simp [results, h, hp', asAddr, run_loadVar_row W g 34 34 #[a, b] (0, 0) _ k Try.underlying34 rfl (by kernel_rfl)]
section
variable {w : World} {ops : Array Oper} {rest : List Oper} {o : Oper} {a : Act} {Q : Exit → Act → World → Prop}
set_option maxRecDepth 100000 in
theorem wpList_clnew (hg1 : o.guard = none) (ho1 : o.op = .alloc 34)
    (h : ∀ W, Blk W w.heap.size 34 #[.slice none 0 0, .slice none 0 0] → Below w.heap.size w W → wpList Try.prog ops Q rest (a.put o.dst (.pointer (some ⟨w.heap.size, 0, none⟩))) W) : wpList Try.prog ops Q (o :: rest) a w := by
  refine wpList_run hg1 (.pointer (some ⟨w.heap.size, 0, none⟩)) (w.alloc (.cells #[.slice none 0 0, .slice none 0 0] 34)) ?_ (h _ (Blk.new w 34 _) ((Below.refl _ _).alloc (Nat.le_refl _) _))
  unfold execOp
  rw [ho1]
  rfl
theorem wpList_clset {x0 y0 x1 y1 : Value} {g : Nat} (x y : Operand) (hg2 : o.guard = none) (ho2 : o.op = .store 34 x y) (k : Blk w g 34 #[x0, y0])
    (hx : a.eval x = .pointer (some ⟨g, 0, none⟩)) (hy : a.eval y = .agg #[x1, y1]) (h1 : x1.oneCell' = true) (h2 : y1.oneCell' = true)
    (h : ∀ W, Blk W g 34 #[x1, y1] → Below g w W → W = w.setRow g #[x1, y1] → wpList Try.prog ops Q rest (a.put o.dst undef) W) : wpList Try.prog ops Q (o :: rest) a w :=
  wpList_store_blk hg2 34 x y ho2 2 clSize g #[x1, y1] hx hy rfl (fun v hv => by simp at hv; rcases hv with rfl | rfl <;> assumption) 34 _ k rfl
    (h _ (k.setRow_ _) (below_setRow (Below.refl _ _) (Nat.le_refl _) _) rfl)
end
/-- the answer of tree.lie -/
def LieR (base : Nat) (r : Option (PairV × PairV) × List (List UInt8)) (e : Ending) (W : World) : Prop :=
  match r with
  | (some (p, h), _) => ∃ v, e = .returned (.tuple #[v, .slice none 0 0, .bool true]) ∧ ClV base (nodeD p, nodeD h) v W
  | (none, rest) => ∃ A n c, e = .returned (.tuple #[zeroClash, .slice A n c, .bool false]) ∧ Es W (fun _ => True) A n c rest
theorem lieF_step (H : Hf) (b : Bool) (way : List Bool) (p : PairV) (sd : List PairV) (d : List (List UInt8)) (h : p = (rootA H (d.take (splitN d.length)), rootA H (d.drop (splitN d.length)))) :
    lieF H (b :: way) (p :: sd) d = lieF H way sd (if b = true then d.drop (splitN d.length) else d.take (splitN d.length)) := by
  conv => lhs; unfold lieF
  rw [if_pos h]
theorem lieF_stop (H : Hf) (b : Bool) (way : List Bool) (p : PairV) (sd : List PairV) (d : List (List UInt8)) (h : p ≠ (rootA H (d.take (splitN d.length)), rootA H (d.drop (splitN d.length)))) :
    lieF H (b :: way) (p :: sd) d = (some (p, (rootA H (d.take (splitN d.length)), rootA H (d.drop (splitN d.length)))), d) := by
  conv => lhs; unfold lieF
  rw [if_neg h]
set_option maxHeartbeats 16000000 in
set_option maxRecDepth 100000 in
theorem lie_any {f : Nat} {H : Hf} (hF : HFn f H) (ls : List (List UInt8)) (Ad : Option Addr) (nd cd : Nat) (i : Nat) (way : List Bool) (Aw : Option Addr) (L cw : Nat) (sd : List PairV) (As : Option Addr) (cs : Nat) (w : World)
    (hd : Es w (fun _ => True) Ad nd cd ls) (hw : SlV w (fun _ => True) Aw L cw 1 (bcells way)) (hwl : way.length = L) (hs : Prs w (fun _ => True) As L cs sd) (hwi : wayI i nd = way) (hi : i < nd) (hn : nd ≤ 1099511627776) (hx : ∀ x ∈ ls, x.length ≤ 1000000000) :
    Calls Try.prog 91 #[.agg #[hval f], .slice Ad nd cd, .slice Aw L cw, .slice As L cs] w fun e w' => LieR w.heap.size (lieF H way sd ls) e w' ∧ Below w.heap.size w w' := by
  obtain ⟨r, hr⟩ : ∃ r, lieF H way sd ls = r := ⟨_, rfl⟩
  rw [hr]
  have hroom2 := hw.room
  have hmx2 := hw.max
  unfold maxLen at hmx2
  have hroom3 := hs.sl.room
  have hmx3 := hs.sl.max
  unfold maxLen at hmx3
  obtain ⟨w0, hw0⟩ : ∃ w0, w.alloc (.cells #[hval f] 123) = w0 := ⟨_, rfl⟩
  have hb0 : Below w.heap.size w w0 := by rw [← hw0]; exact (Below.refl _ _).alloc (Nat.le_refl _) _
  have k4 : Blk w0 w.heap.size 123 #[hval f] := by rw [← hw0]; exact Blk.new _ _ _
  have hs0 : w0.heap.size = w.heap.size + 1 := by rw [← hw0]; simp
  have hw' := hw.weak (Y := (· < w.heap.size)) fun b hb _ => hb
  have hs' := hs.weak (Y := (· < w.heap.size)) fun b hb _ => hb
  have hd' := hd.weak (Y := (· < w.heap.size)) fun b hb _ => hb
  have hsl := hs.len
  have hsa := hs.all
  have Hr := Lib.hid hr
  have Hw0 := Lib.hid hw0
  have Hs0 := Lib.hid hs0
  have Hwl := Lib.hid hwl
  have Hwi := Lib.hid hwi
  have Hsl := Lib.hid hsl
  have Hsa := Lib.hid hsa
  have Hx := Lib.hid hx
  clear hr hw0 hs0 hwl hwi hsl hsa hw hs hd hx
  go_enter Try.func91, Try.ntmps91
  go_wp2_with ((with_reducible show wpList _ _ _ (⟨some 8, .alloc _, _, _, _, _⟩ :: _) _ _); rw [Hw0.out]; refine wpList_clnew rfl rfl ?_; intro w1 k8 hb1; simp only [Act.put])
  rw [Hs0.out] at k8 ⊢
  replace k4 := k4.step hb1
  have hb2 := hb0.trans (hb1.mono hb0.size)
  clear Hw0 Hs0 hb0 hb1
  go_loopw [1, 11, 12, 13, 14, 17] (fun v1 _ _ _ _ v17 wr => ∃ (j s n c : Nat) (A : Option Addr) (d : List (List UInt8)), j ≤ L ∧ v17 = .int .i64 (j : Int) ∧ v1 = .slice A n c ∧ Es wr (· < w.heap.size) A n c d ∧ wayI s n = way.drop j ∧ s < n ∧ n ≤ 1099511627776 ∧ (∀ x ∈ d, x.length ≤ 1000000000) ∧ lieF H (way.drop j) (sd.drop j) d = r ∧
    Blk wr w.heap.size 123 #[hval f] ∧ Blk wr (w.heap.size + 1) 34 #[.slice none 0 0, .slice none 0 0] ∧ Below w.heap.size w wr) (fun _ _ _ _ _ v17 _ => L - (intOf v17).toNat)
  case atStart => exact ⟨0, i, nd, cd, Ad, ls, Nat.zero_le _, rfl, rfl, hd'.step hb2, by rw [Hwi.out]; rfl, hi, hn, Hx.out, by rw [List.drop_zero, List.drop_zero]; exact Hr.out, k4, k8, hb2⟩
  case round =>
    clear k4 k8 hb2
    obtain ⟨j, s, n, c, A, d, hj, rfl, rfl, hE, hwy, hsn, hn', hxd, hlr, k4, k8, hbr⟩ := hrel
    have hroom := hE.room
    have hmx := hE.max
    unfold maxLen at hmx
    have hdl := hE.len
    by_cases hjL : j < L
    · have hdj : decide ((j : Int) < (L : Int)) = true := by simp; omega
      have hwj : IntKind.i64.wrap ((j : Int) + 1) = (j : Int) + 1 := IntWalk.i64_in _ (by omega)
      have e1 : way.drop j = way.getD j false :: way.drop (j + 1) := by rw [List.drop_eq_getElem_cons (by rw [Hwl.out]; exact hjL), List.getD_eq_getElem?_getD, List.getElem?_eq_getElem (by rw [Hwl.out]; exact hjL)]; rfl
      have e2 : sd.drop j = sd.getD j pairD :: sd.drop (j + 1) := by rw [List.drop_eq_getElem_cons (by rw [Hsl.out]; exact hjL), List.getD_eq_getElem?_getD, List.getElem?_eq_getElem (by rw [Hsl.out]; exact hjL)]; rfl
      obtain ⟨bw, ow, rfl, hbw, -, hatw⟩ := hw'.at_ (by omega) (by decide)
      have hcw := hatw j (.bool (way.getD j false)) (by rw [List.getElem?_map, List.getD_eq_getElem?_getD, List.getElem?_eq_getElem (by rw [Hwl.out]; exact hjL)]; rfl)
      obtain ⟨bs, os, rfl, hbs, -⟩ := hs'.at_ (by omega)
      have hld := (hs'.step hbr).load rfl j hjL
      obtain ⟨lp1, lp2⟩ := Hsa.out.getD j (by rw [Hsl.out]; exact hjL)
      obtain ⟨b, hb⟩ : ∃ b, way.getD j false = b := ⟨_, rfl⟩
      obtain ⟨⟨p1, p2⟩, hp⟩ : ∃ p, sd.getD j pairD = p := ⟨_, rfl⟩
      rw [hb] at e1 hcw
      rw [hp] at e2 hld lp1 lp2
      dsimp only at lp1 lp2 hld
      rw [e1] at hwy hlr
      rw [e2] at hlr
      have h2 : 2 ≤ n := by
        rcases Nat.lt_or_ge n 2 with h | h
        · have : n = 1 := by omega
          rw [this] at hwy
          cases hwy
        · exact h
      have hkl := splitN_lt n h2
      have hkp := splitN_pos n h2
      have hsp := fun W => asplit_any n W h2 hn'
      have hwr := fun (hk : splitN n ≤ s) => wayI_right s n h2 hsn hk
      have hwl := fun (hk : s < splitN n) => wayI_left s n h2 hk
      have hst := lieF_step H b (way.drop (j + 1)) (p1, p2) (sd.drop (j + 1)) d
      have hso := lieF_stop H b (way.drop (j + 1)) (p1, p2) (sd.drop (j + 1)) d
      rw [hdl] at hst hso
      obtain ⟨k, hk⟩ : ∃ k, splitN n = k := ⟨_, rfl⟩
      rw [hk] at hkl hkp hsp hwr hwl hst hso
      have ht1 := hE.take k (by omega)
      have ht2 := hE.drop k (by omega)
      obtain ⟨A2, hA2⟩ : ∃ A2, (if c = k then A else A.map (·.add (k * 1))) = A2 := ⟨_, rfl⟩
      rw [hA2] at ht2
      have HA2 := Lib.hid hA2
      have r1 := fun W (hb : Below wr.heap.size wr W) => troot13_rec hF k (d.take k) A k c W (Nat.le_refl _) (ht1.step hb).all (by omega) (fun x hx' => hxd x (List.mem_of_mem_take hx'))
      have r2 := fun W (hb : Below wr.heap.size wr W) => troot13_rec hF (n - k) (d.drop k) A2 (n - k) (c - k) W (Nat.le_refl _) (ht2.step hb).all (by omega) (fun x hx' => hxd x (List.mem_of_mem_drop hx'))
      have l1 := length_rootA H hF.len (d.take k)
      have l2 := length_rootA H hF.len (d.drop k)
      obtain ⟨x, hx1⟩ : ∃ x, rootA H (d.take k) = x := ⟨_, rfl⟩
      obtain ⟨y, hy1⟩ : ∃ y, rootA H (d.drop k) = y := ⟨_, rfl⟩
      rw [hx1] at r1 l1 hst hso
      rw [hy1] at r2 l2 hst hso
      obtain ⟨z, hz⟩ : ∃ z, x ++ y = z := ⟨_, rfl⟩
      obtain ⟨zp, hzp⟩ : ∃ z, p1 ++ p2 = z := ⟨_, rfl⟩
      have hzl : z.length = 64 := by rw [← hz]; simp [l1, l2]
      have hzpl : zp.length = 64 := by rw [← hzp]; simp [lp1, lp2]
      have hpb1 := fun W => pbytes_any p1 p2 W lp1 lp2
      have hpb2 := fun W => pbytes_any x y W l1 l2
      have hld' : (Instr.loadAt 139 (.pointer (some ⟨bs, os + j * 64, none⟩))).run Try.prog wr = .ok (.agg (zp.map B).toArray) wr := by rw [← hzp]; exact hld
      rw [hzp] at hpb1
      rw [hz] at hpb2
      have hcw' := fun W (hb : Below wr.heap.size wr W) => (hb.cell (p := ⟨bw, ow + j, none⟩) (Nat.lt_of_lt_of_le hbw hbr.size)).trans ((hbr.cell (p := ⟨bw, ow + j, none⟩) hbw).trans hcw)
      have Hcw := Lib.hid hcw'
      have Hld := Lib.hid hld'
      have Hsp := Lib.hid hsp
      have R1 := Lib.hid r1
      have R2 := Lib.hid r2
      have L1 := Lib.hid l1
      have L2 := Lib.hid l2
      have Lp1 := Lib.hid lp1
      have Lp2 := Lib.hid lp2
      have Hz := Lib.hid hz
      have Hzp := Lib.hid hzp
      have Hzl := Lib.hid hzl
      have Hzpl := Lib.hid hzpl
      have Pb1 := Lib.hid hpb1
      have Pb2 := Lib.hid hpb2
      have Hwy := Lib.hid hwy
      have Hlr := Lib.hid hlr
      have Hst := Lib.hid hst
      have Hso := Lib.hid hso
      have Hwr := Lib.hid hwr
      have Hwlf := Lib.hid hwl
      have Hxd := Lib.hid hxd
      have Hdl := Lib.hid hdl
      clear hatw hcw hcw' hld hld' hsp r1 r2 l1 l2 lp1 lp2 hz hzp hzl hzpl hpb1 hpb2 hwy hlr hst hso hwr hwl hxd hdl hb hp e1 e2 hx1 hy1 hA2 hk
      go_wp2_with (first
        | ((with_reducible show wpList _ _ _ (⟨some 21, .load _ _, _, _, _, _⟩ :: _) _ _); refine wpList_run0 rfl (.agg (zp.map B).toArray) (run_load_op 139 (.tmp 20) rfl bs (os + j * 64) rfl _ Hld.out) ?_; simp only [Act.put])
        | ((with_reducible show wpList _ _ _ (⟨some 12, .alloc _, _, _, _, _⟩ :: _) _ _); refine wpList_prnew rfl rfl ?_; intro W1 k12 hb1; simp only [Act.put])
        | ((with_reducible show wpList _ _ _ [⟨none, .store _ (.tmp 12) _, _, _, _, _⟩] _ _); refine wpList_prset (.tmp 12) (.tmp 21) rfl rfl k12 rfl rfl Hzpl.out ?_; intro W2 k12b hb2; have hbA := hb1.trans hb2; simp only [Act.put])
        | (go_at_call 99; refine (Hsp.out _).mono ?_; rintro e W2' ⟨rfl, hww⟩; obtain rfl := hww.symm))
      replace k4 := k4.step hbA
      replace k8 := k8.step hbA
      have hbr2 := hbr.trans (hbA.mono hbr.size)
      have hS : Below (W2.heap.size) W2 W2.drew := (Below.refl _ _).drew
      refine wp_region_begin (fun W => Below (W2.heap.size) W2 W) (by kernel_rfl) hS fun _ => ?_
      generalize W2.drew = W0 at hS  ⊢
      refine wpAnyH_pre (f := 5) (by kernel_rfl) #[true, true, true, true, false, true, true, true, true, false, false, false, false] [(0, true), (1, true), (2, true), (3, true), (5, true), (6, true), (7, true), (8, true)] _ _ _ (by kernel_rfl) hS ?_
      simp only [List.map_cons, List.map_nil, Array.getD_eq_getD_getElem?, List.getElem?_toArray, List.getElem?_cons_succ, List.getElem?_cons_zero, Option.getD_some]
      refine wpMix_load (by kernel_rfl) 123 (.tmp 4) rfl (w.heap.size) (0) rfl #[hval f] ((fun s => tree_load (k4.step s.ok))) ?_
      simp only [Act.put]
      refine wpMix_s (fun K hK => ?_)
      go_simp
      refine hK _ ?_
      clear hK K
      refine wpMix_s (fun K hK => ?_)
      go_simp
      refine hK _ ?_
      clear hK K
      refine wpMix_v (by kernel_rfl) (.slice A k c) (fun s => run_slice_hiB (.tmp 26) (.tmp 27) rfl A n c k rfl rfl (by omega) s.W) ?_
      simp only [Act.put]
      refine wpMix_load (by kernel_rfl) 123 (.tmp 4) rfl (w.heap.size) (0) rfl #[hval f] ((fun s => tree_load (k4.step s.ok))) ?_
      simp only [Act.put]
      refine wpMix_s (fun K hK => ?_)
      go_simp
      refine hK _ ?_
      clear hK K
      refine wpMix_s (fun K hK => ?_)
      go_simp
      refine hK _ ?_
      clear hK K
      refine wpMix_v (by kernel_rfl) (.slice A2 (n - k) (c - k)) (fun s => by rw [← HA2.out]; exact run_slice_loB (.tmp 31) (.tmp 32) rfl A n c k rfl rfl (by omega) s.W) ?_
      simp only [Act.put]
      refine wpMix_nil ?_
      intro _
      show wpAnyH _ _ _ _ _ _ #[true, true, true, true, false, true, true, true, true, false, false, false, false] _ _
      refine wpAnyH_many [4, 9, 10, 11] (fun k => if k = 10 then [4, 9] else []) (fun k => if k = 4 then 29 else if k = 9 then 34 else if k = 10 then 35 else if k = 11 then 14 else 0) (fun k => if k = 4 then Fc.val (.agg (x.map B).toArray) (fun _ h => by cases h) else if k = 9 then Fc.val (.agg (y.map B).toArray) (fun _ h => by cases h) else if k = 10 then Fc.val (.agg (z.map B).toArray) (fun _ h => by cases h) else Fc.pair W2.heap.size (List.replicate 64 0)) [29, 34, 35, 14] 1 (fun j => if j = 14 then u14 else if j = 29 then u29 else if j = 34 then u34 else u35) (by kernel_rfl) (by decide) (by decide) (by kernel_rfl) hS ?_ ?_
      · refine List.forall_mem_cons.2 ⟨?k4, List.forall_mem_cons.2 ⟨?k9, List.forall_mem_cons.2 ⟨?k10, List.forall_mem_cons.2 ⟨?k11, fun _ h => by cases h⟩⟩⟩⟩
        case k4 =>
          intro us W0k hSk hneed
          simp only [Array.getD_eq_getD_getElem?, List.getElem?_toArray, List.getElem?_cons_succ, List.getElem?_cons_zero, Option.getD_some]
          simp only [putAll, Act.put, List.setIfInBounds_toArray, List.set_cons_succ, List.set_cons_zero]
          refine wpMix_c (fun K hK => ?_) hSk
          go_simp
          refine (R1.out W0k (hbA.trans (hSk.mono hbA.size))).mono ?_
          rintro e W0j ⟨rfl, hb'⟩
          refine hK _ _ ?_
          clear hK K
          refine ⟨hSk.trans (hb'.mono hSk.size), ?_⟩
          refine wpMix_nil ?_
          exact ⟨.agg (x.map B).toArray, by kernel_rfl, rfl, hb', fun g e => by cases e⟩
        case k9 =>
          intro us W0k hSk hneed
          simp only [Array.getD_eq_getD_getElem?, List.getElem?_toArray, List.getElem?_cons_succ, List.getElem?_cons_zero, Option.getD_some]
          simp only [putAll, Act.put, List.setIfInBounds_toArray, List.set_cons_succ, List.set_cons_zero]
          refine wpMix_c (fun K hK => ?_) hSk
          go_simp
          refine (R2.out W0k (hbA.trans (hSk.mono hbA.size))).mono ?_
          rintro e W0j ⟨rfl, hb'⟩
          refine hK _ _ ?_
          clear hK K
          refine ⟨hSk.trans (hb'.mono hSk.size), ?_⟩
          refine wpMix_nil ?_
          exact ⟨.agg (y.map B).toArray, by kernel_rfl, rfl, hb', fun g e => by cases e⟩
        case k10 =>
          intro us W0k hSk hneed
          simp only [Array.getD_eq_getD_getElem?, List.getElem?_toArray, List.getElem?_cons_succ, List.getElem?_cons_zero, Option.getD_some]
          simp only [putAll, Act.put, List.setIfInBounds_toArray, List.set_cons_succ, List.set_cons_zero]
          have e29 : us 29 = .agg (x.map B).toArray := hneed 4 (by simp)
          have e34 : us 34 = .agg (y.map B).toArray := hneed 9 (by simp)
          refine wpMix_run (by kernel_rfl) (.agg (z.map B).toArray) W0k (by rw [← Hz.out]; exact run_build_pair_op x y L1.out L2.out (.tmp 29) (.tmp 34) rfl e29 e34 _) hSk ?_
          simp only [Act.put, List.setIfInBounds_toArray, List.set_cons_succ, List.set_cons_zero]
          refine wpMix_nil ?_
          exact ⟨.agg (z.map B).toArray, by kernel_rfl, rfl, Below.refl _ _, fun g e => by cases e⟩
        case k11 =>
          intro us W0k hSk hneed
          simp only [Array.getD_eq_getD_getElem?, List.getElem?_toArray, List.getElem?_cons_succ, List.getElem?_cons_zero, Option.getD_some]
          simp only [putAll, Act.put, List.setIfInBounds_toArray, List.set_cons_succ, List.set_cons_zero]
          refine wpMix_prnew rfl rfl (fun _ hb => hSk.trans (hb.mono hSk.size)) ?_
          intro W0kj kj hb'
          refine wpMix_nil ?_
          exact ⟨ptrB W0k.heap.size, by kernel_rfl, ⟨_, rfl, kj, hSk.size⟩, hb', fun g e => by cases e; exact Nat.le_refl _⟩
      · intro us W0t hS hF hA
        have e29 : us 29 = .agg (x.map B).toArray := hF 4 (by simp)
        have e34 : us 34 = .agg (y.map B).toArray := hF 9 (by simp)
        have e35 : us 35 = .agg (z.map B).toArray := hF 10 (by simp)
        obtain ⟨g14, e14, k14, h14⟩ : (Fc.pair W2.heap.size (List.replicate 64 0)).ok (us 14) W0t := hF 11 (by simp)
        simp only [putAll, Act.put, List.setIfInBounds_toArray, List.set_cons_succ, List.set_cons_zero]
        rw [e29, e34, e35, e14]
        clear hF hA e29 e34 e35 e14
        show wpAnyH _ _ _ _ _ _ #[true, true, true, true, true, true, true, true, true, true, true, true, false] _ _
        refine wpAnyH_pre (f := 0) (by kernel_rfl) #[true, true, true, true, true, true, true, true, true, true, true, true, true] [(12, false)] _ _ _ (by kernel_rfl) hS ?_
        simp only [List.map_cons, List.map_nil, Array.getD_eq_getD_getElem?, List.getElem?_toArray, List.getElem?_cons_succ, List.getElem?_cons_zero, Option.getD_some]
        refine wpMix_prset (.tmp 14) (.tmp 35) rfl rfl k14 rfl rfl Hzl.out (fun _ hb => hS.trans (hb.mono h14)) ?_
        intro W0ts k14s hb'
        simp only [Act.put]
        replace hS := hS.trans (hb'.mono h14)
        clear hb'
        refine wpMix_nil ?_
        intro _
        refine wpAnyH_end (by kernel_rfl) ?_
        have k12c := k12b.step hS
        have hbB := hbA.trans (hS.mono hbA.size)
        replace k4 := k4.step hS
        replace k8 := k8.step hS
        have hbr3 := hbr.trans (hbB.mono hbr.size)
        by_cases he : p1 = x ∧ p2 = y
        · have hv : (!(p1 == x && p2 == y)) = false := by simp [he.1, he.2]
          have hl2 := Hlr.out
          rw [Hst.out (Prod.ext he.1 he.2)] at hl2
          have Hl2 := Lib.hid hl2
          have Hv := Lib.hid hv
          have c47 := Hcw.out _ hbB
          have ht1' := ht1.step hbB
          have ht2' := ht2.step hbB
          clear hl2 hv he hS
          cases b with
          | true =>
            have hks : k ≤ s := by
              rcases Nat.lt_or_ge s k with h | h
              · have e1 := Hwy.out
                rw [Hwlf.out h] at e1
                cases e1
              · exact h
            have hw3 : wayI (s - k) (n - k) = way.drop (j + 1) := by have e1 := Hwy.out; rw [Hwr.out hks] at e1; exact List.tail_eq_of_cons_eq e1
            have Hw3 := Lib.hid hw3
            clear hw3
            go_wp2_with (first
              | ((with_reducible show wpList _ _ _ (⟨some 36, .load _ _, _, _, _, _⟩ :: _) _ _); refine wpList_run0 rfl (.agg (zp.map B).toArray) (run_load_op 139 (.tmp 12) rfl _ 0 rfl _ k12c.load) ?_; simp only [Act.put])
              | ((with_reducible show wpList _ _ _ (⟨some 37, .load _ _, _, _, _, _⟩ :: _) _ _); refine wpList_run0 rfl (.agg (z.map B).toArray) (run_load_op 139 (.tmp 14) rfl _ 0 rfl _ k14s.load) ?_; simp only [Act.put])
              | ((with_reducible show wpList _ _ _ (⟨some 38, .binOp _ _ _ _ _, _, _, _, _⟩ :: _) _ _); refine wpList_run0 rfl (.bool false) (run_neq_pair_op (.tmp 36) (.tmp 37) _ zp z p1 p2 x y Hzp.out Hz.out rfl rfl rfl Lp1.out Lp2.out L1.out L2.out _ Hv.out _) ?_; simp only [Act.put])
              | ((with_reducible show wpList _ _ _ (⟨some 50, .slice _ _ _ _ _, _, _, _, _⟩ :: _) _ _); refine wpList_run0 rfl (.slice A2 (n - k) (c - k)) (by rw [← HA2.out]; exact run_slice_loB (.tmp 48) (.tmp 49) rfl A n c k rfl rfl (by omega) _) ?_; simp only [Act.put]))
            go_roundw
            case rel => exact ⟨j + 1, s - k, n - k, c - k, A2, d.drop k, by omega, by go_num, rfl, ht2', Hw3.out, by omega, by omega, fun x hx => Hxd.out x (List.mem_of_mem_drop hx), by have := Hl2.out; rw [if_pos rfl] at this; exact this, k4, k8, hbr3⟩
            case measure => simp [intOf]; omega
          | false =>
            have hks : s < k := by
              rcases Nat.lt_or_ge s k with h | h
              · exact h
              · have e1 := Hwy.out
                rw [Hwr.out h] at e1
                cases e1
            have hw3 : wayI s k = way.drop (j + 1) := by have e1 := Hwy.out; rw [Hwlf.out hks] at e1; exact List.tail_eq_of_cons_eq e1
            have Hw3 := Lib.hid hw3
            clear hw3
            go_wp2_with (first
              | ((with_reducible show wpList _ _ _ (⟨some 36, .load _ _, _, _, _, _⟩ :: _) _ _); refine wpList_run0 rfl (.agg (zp.map B).toArray) (run_load_op 139 (.tmp 12) rfl _ 0 rfl _ k12c.load) ?_; simp only [Act.put])
              | ((with_reducible show wpList _ _ _ (⟨some 37, .load _ _, _, _, _, _⟩ :: _) _ _); refine wpList_run0 rfl (.agg (z.map B).toArray) (run_load_op 139 (.tmp 14) rfl _ 0 rfl _ k14s.load) ?_; simp only [Act.put])
              | ((with_reducible show wpList _ _ _ (⟨some 38, .binOp _ _ _ _ _, _, _, _, _⟩ :: _) _ _); refine wpList_run0 rfl (.bool false) (run_neq_pair_op (.tmp 36) (.tmp 37) _ zp z p1 p2 x y Hzp.out Hz.out rfl rfl rfl Lp1.out Lp2.out L1.out L2.out _ Hv.out _) ?_; simp only [Act.put])
              | ((with_reducible show wpList _ _ _ (⟨some 53, .slice _ _ _ _ _, _, _, _, _⟩ :: _) _ _); refine wpList_run0 rfl (.slice A k c) (run_slice_hiB (.tmp 51) (.tmp 52) rfl A n c k rfl rfl (by omega) _) ?_; simp only [Act.put]))
            go_roundw
            case rel => exact ⟨j + 1, s, k, c, A, d.take k, by omega, by go_num, rfl, ht1', Hw3.out, hks, by omega, fun x hx => Hxd.out x (List.mem_of_mem_take hx), by have := Hl2.out; rw [if_neg (by simp)] at this; exact this, k4, k8, hbr3⟩
            case measure => simp [intOf]; omega
        · have hv : (!(p1 == x && p2 == y)) = true := by
            rw [Bool.not_eq_true', Bool.and_eq_false_iff]
            by_cases h1 : p1 = x
            · exact .inr (by simpa using fun h2 => he ⟨h1, h2⟩)
            · exact .inl (by simpa using h1)
          have hl2 := Hlr.out
          rw [Hso.out (fun e => he ⟨congrArg Prod.fst e, congrArg Prod.snd e⟩)] at hl2
          subst hl2
          have Hv := Lib.hid hv
          clear hv he hS
          go_wp2_with (first
            | ((with_reducible show wpList _ _ _ (⟨some 36, .load _ _, _, _, _, _⟩ :: _) _ _); refine wpList_run0 rfl (.agg (zp.map B).toArray) (run_load_op 139 (.tmp 12) rfl _ 0 rfl _ k12c.load) ?_; simp only [Act.put])
            | ((with_reducible show wpList _ _ _ (⟨some 37, .load _ _, _, _, _, _⟩ :: _) _ _); refine wpList_run0 rfl (.agg (z.map B).toArray) (run_load_op 139 (.tmp 14) rfl _ 0 rfl _ k14s.load) ?_; simp only [Act.put])
            | ((with_reducible show wpList _ _ _ (⟨some 38, .binOp _ _ _ _ _, _, _, _, _⟩ :: _) _ _); refine wpList_run0 rfl (.bool true) (run_neq_pair_op (.tmp 36) (.tmp 37) _ zp z p1 p2 x y Hzp.out Hz.out rfl rfl rfl Lp1.out Lp2.out L1.out L2.out _ Hv.out _) ?_; simp only [Act.put]))
          have hS : Below W0ts.heap.size W0ts W0ts.drew := (Below.refl _ _).drew
          have hk8l := k8.lt
          replace k8 := k8.drew
          refine wp_region_mix_tail (fun W => Below W0ts.heap.size W0ts W) 5 [(0, true), (2, true), (1, false), (3, false), (4, true)] (by kernel_rfl) (by kernel_rfl) hS fun _ => ?_
          simp only [List.map_cons, List.map_nil, Array.getD_eq_getD_getElem?, List.getElem?_toArray, List.getElem?_cons_succ, List.getElem?_cons_zero, Option.getD_some]
          have hsz0 : W0ts.heap.size ≤ W0ts.heap.size := Nat.le_refl _
          generalize W0ts.drew = u9 at hS k8 ⊢
          refine wpMix_load (by kernel_rfl) 139 (.tmp 12) rfl (wr.heap.size) (0) rfl (zp.map B).toArray ((fun s => (k12c.step s.ok).load)) ?_
          simp only [Act.put]
          refine wpMix_load (by kernel_rfl) 139 (.tmp 14) rfl (g14) (0) rfl (z.map B).toArray ((fun s => (k14s.step s.ok).load)) ?_
          simp only [Act.put]
          have hz0 := hS.size
          refine wpMix_c (fun K hK => ?_) hS
          go_simp
          refine (Pb1.out u9).mono ?_
          rintro e u9a ⟨v8, rfl, hf⟩
          refine hK _ _ ?_
          clear hK K
          have hz8 := hf.2.size
          replace k8 := k8.step hf.2
          replace hS := hS.trans (hf.2.mono hS.size)
          refine ⟨hS, ?_⟩
          have ho8 := owns_le hf.1 (show w.heap.size + 1 + 1 ≤ u9.heap.size by omega)
          clear hf
          have hz0 := hS.size
          refine wpMix_c (fun K hK => ?_) hS
          go_simp
          refine (Pb2.out u9a).mono ?_
          rintro e u9aa ⟨v9, rfl, hf⟩
          refine hK _ _ ?_
          clear hK K
          have hz8 := hf.2.size
          replace k8 := k8.step hf.2
          replace hS := hS.trans (hf.2.mono hS.size)
          refine ⟨hS, ?_⟩
          have ho9 := owns_le hf.1 (show w.heap.size + 1 + 1 ≤ u9a.heap.size by omega)
          replace ho8 := owns_step ho8 hf.2
          clear hf
          obtain ⟨A8, c8, rfl, -⟩ := owns_slv ho8
          obtain ⟨A9, c9, rfl, -⟩ := owns_slv ho9
          refine wpMix_v (by kernel_rfl) (.agg #[.slice A8 (nodeD (p1, p2)).length c8, .slice A9 (nodeD (x, y)).length c9]) (fun s => by kernel_rfl) ?_
          simp only [Act.put]
          refine wpMix_nil ?_
          intro _
          simp only [List.drop_succ_cons, List.drop_zero]
          refine wpList_clset (.tmp 8) (.tmp 43) rfl rfl k8 rfl rfl rfl rfl ?_
          intro W8 k8b hb8 hW8
          have hgr : u9aa.grownBy W8 (some (w.heap.size + 1)) := by rw [hW8]; exact grown_setRow (grown_of_below (Below.refl _ _) _) _
          replace ho8 := ho8.kept hgr (.inr fun e => by have := (ho8.lt _ e).1; omega)
          replace ho9 := ho9.kept hgr (.inr fun e => by have := (ho9.lt _ e).1; omega)
          have hbE := (hbr3.trans (hS.mono hbr3.size)).trans (hb8.mono (Nat.le_succ _))
          clear hW8 hgr
          simp only [Act.put]
          go_wp2_with fail
          refine np_normal ?_
          go_wp2_with fail
          exact bodyPost_ret (ret_clash3 rfl rfl k8b) rfl ⟨⟨_, rfl, ⟨_, _, rfl, owns_le ho8 (by omega), owns_le ho9 (by omega)⟩⟩, hbE⟩
    · obtain rfl : L = j := by omega
      have hdj : decide ((L : Int) < (L : Int)) = false := by simp
      rw [show way.drop L = [] from List.drop_of_length_le (by rw [Hwl.out]; exact Nat.le_refl _)] at hlr
      have hr2 : r = (none, d) := by rw [← hlr]; cases sd.drop L <;> rfl
      subst hr2
      have hk8l := k8.lt
      clear hlr hwy
      go_wp2_with (first
        | ((with_reducible show wpList _ _ _ (⟨some 55, .build _ _, _, _, _, _⟩ :: _) _ _); refine wpList_run0 rfl (.agg #[.slice none 0 0, .slice none 0 0]) (by kernel_rfl) ?_; simp only [Act.put])
        | ((with_reducible show wpList _ _ _ (⟨none, .store _ (.tmp 8) _, _, _, _, _⟩ :: _) _ _); refine wpList_clset (.tmp 8) (.tmp 55) rfl rfl k8 rfl rfl rfl rfl ?_; intro W3 k8b hb3 hW3; clear hW3; simp only [Act.put]))
      exact bodyPost_ret (ret_clash3 rfl rfl k8b) rfl ⟨⟨_, _, _, rfl, (hE.below hb3 (fun b _ hx => Nat.lt_succ_of_lt hx)).all⟩, hbr.trans (hb3.mono (Nat.le_succ _))⟩
end Go.Proofs.Ytonidnfgneokbaa
