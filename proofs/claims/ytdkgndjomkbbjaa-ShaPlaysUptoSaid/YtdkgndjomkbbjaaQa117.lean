/- notarylaw03.ShaPlays, walked. -/
import Derived.Test.YtdkgndjomkbbjaaQa115
import Derived.Test.YtdkgndjomkbbjaaQa116
namespace Go.Proofs.Ytdkgndjomkbbjaa
open Go Go.RowKit
attribute [local go_sem] Oper.semAt_some

theorem build2U {cd cn : Array Value} (h1 : cd.size = 10) (h2 : cn.size = 10) (W : World) : (Instr.build 78 #[(0, .agg cd), (1, .agg cn)]).run Try.prog W = .ok (.agg (cd ++ cn)) W := by
  obtain ⟨l1⟩ := cd
  obtain ⟨l2⟩ := cn
  match l1, l2, h1, h2 with
  | [a0, a1, a2, a3, a4, a5, a6, a7, a8, a9], [b0, b1, b2, b3, b4, b5, b6, b7, b8, b9], _, _ => exact run_build W 78 _ _ (by kernel_rfl)
theorem build2U_op {ρ : Operand → Value} {o : Oper} {cd cn : Array Value} (x y : Operand) (ho : o.op = .build 78 #[(0, x), (1, y)]) (hx : ρ x = .agg cd) (hy : ρ y = .agg cn) (h1 : cd.size = 10) (h2 : cn.size = 10) (W : World) :
    (execOp ρ o).run Try.prog W = .ok (.value (.agg (cd ++ cn))) W := by
  unfold execOp
  have hm : (#[(0, x), (1, y)] : Array (Nat × Operand)).map (fun (i, x) => (i, ρ x)) = #[(0, .agg cd), (1, .agg cn)] := by simp [hx, hy]
  simp only [ho, Sem.run_bind, Sem.run_pure, hm, build2U h1 h2 W, Result.andThen_ok]
def zeroW : List Value := [.pointer none, .pointer none] ++ undCells (List.replicate 8 0) 0 (.slice none 0 0) ++ undCells (List.replicate 8 0) 0 (.slice none 0 0) ++ [.slice none 0 0, .slice none 0 0]
theorem sizeA2 : ∀ w : World, (sizeOf 75).run Try.prog w = .ok 2 w := fun _ => by kernel_rfl
theorem sizeU2 : ∀ w : World, (sizeOf 78).run Try.prog w = .ok 20 w := fun _ => by kernel_rfl
def two {α : Type} (a b : α) : Nat → α := fun i => if i = 0 then a else b
theorem WC_init (g0 g1 : Nat) (d0 d1 : UndD) : WC (((zeroW.toArray.toList.take 0 ++ #[sptr g0, sptr g1].toList ++ zeroW.toArray.toList.drop (0 + 2)).toArray.toList.take 2 ++ (d0.cells.toArray ++ d1.cells.toArray).toList ++ (zeroW.toArray.toList.take 0 ++ #[sptr g0, sptr g1].toList ++ zeroW.toArray.toList.drop (0 + 2)).toArray.toList.drop (2 + 20)).toArray) (two g0 g1) (two d0 d1) (.slice none 0 0) (.slice none 0 0) := by
  have e : ((zeroW.toArray.toList.take 0 ++ #[sptr g0, sptr g1].toList ++ zeroW.toArray.toList.drop (0 + 2)).toArray.toList.take 2 ++ (d0.cells.toArray ++ d1.cells.toArray).toList ++ (zeroW.toArray.toList.take 0 ++ #[sptr g0, sptr g1].toList ++ zeroW.toArray.toList.drop (0 + 2)).toArray.toList.drop (2 + 20)) = [sptr g0, sptr g1] ++ (d0.cells ++ (d1.cells ++ [.slice none 0 0, .slice none 0 0])) := by
    have h1 : (zeroW.toArray.toList.take 0 ++ #[sptr g0, sptr g1].toList ++ zeroW.toArray.toList.drop (0 + 2)).toArray.toList.take 2 = [sptr g0, sptr g1] := rfl
    have h2 : (zeroW.toArray.toList.take 0 ++ #[sptr g0, sptr g1].toList ++ zeroW.toArray.toList.drop (0 + 2)).toArray.toList.drop (2 + 20) = [.slice none 0 0, .slice none 0 0] := rfl
    rw [h1, h2, Array.toList_append]
    simp
  rw [e]
  have l0 := d0.len
  have l1 := d1.len
  refine ⟨by simp [l0, l1], fun k hk => ?_, fun k hk j v hv => ?_, ?_, ?_⟩
  · rcases (by omega : k = 0 ∨ k = 1) with rfl | rfl <;> rfl
  · have hj : j < 10 := by
      have := (List.getElem?_eq_some_iff.1 hv).1
      rcases (by omega : k = 0 ∨ k = 1) with rfl | rfl
      · exact l0 ▸ this
      · exact l1 ▸ this
    rw [List.getElem?_toArray, List.getElem?_append_right (by simp <;> omega)]
    rcases (by omega : k = 0 ∨ k = 1) with rfl | rfl
    · rw [show 2 + 0 * 10 + j - [sptr g0, sptr g1].length = j by simp <;> omega, List.getElem?_append_left (by omega)]
      exact hv
    · rw [show 2 + 1 * 10 + j - [sptr g0, sptr g1].length = 10 + j by simp <;> omega, List.getElem?_append_right (by omega), l0, show 10 + j - 10 = j by omega, List.getElem?_append_left (by omega)]
      exact hv
  · rw [List.getElem?_toArray, List.getElem?_append_right (by simp), List.getElem?_append_right (by simp [l0]), List.getElem?_append_right (by simp [l0, l1])]
    simp [l0, l1]
  · rw [List.getElem?_toArray, List.getElem?_append_right (by simp), List.getElem?_append_right (by simp [l0]), List.getElem?_append_right (by simp [l0, l1])]
    simp [l0, l1]
theorem PlW.every {w W : World} {gw : Nat} {g : Nat → Nat} {su : Nat → Und} {p : Nat → UndD} {ov wv : Value} {lo : List Nat} {lu : List UndD} {L : List (Nat × UndD)} (h : PlW w gw g su p ov wv lo lu L W) (hsu : ∀ k, k < 2 → su k = (p k).u)
    (hlo : lo = L.map (·.1) ++ (List.range 2).map g) (hlu : lu = L.map (·.2) ++ (List.range 2).map p) (i : Nat) (hi : i < L.length + 2) : ∃ x : Nat × UndD, lo[i]? = some x.1 ∧ lu[i]? = some x.2 ∧ Pair W (fun _ => True) x.1 x.2.u x.2 := by
  subst hlo hlu
  by_cases hl : i < L.length
  · refine ⟨L[i], ?_, ?_, ?_⟩
    · rw [List.getElem?_append_left (by simpa using hl), List.getElem?_map, List.getElem?_eq_getElem hl]; rfl
    · rw [List.getElem?_append_left (by simpa using hl), List.getElem?_map, List.getElem?_eq_getElem hl]; rfl
    · exact (h.past _ (List.getElem_mem hl)).1.weak fun _ _ _ => trivial
  · obtain ⟨k, rfl⟩ : ∃ k, i = L.length + k := ⟨i - L.length, by omega⟩
    have hk : k < 2 := by omega
    refine ⟨(g k, p k), ?_, ?_, ?_⟩
    · rw [List.getElem?_append_right (by simp), List.length_map, Nat.add_sub_cancel_left, List.getElem?_map, List.getElem?_range hk]; rfl
    · rw [List.getElem?_append_right (by simp), List.length_map, Nat.add_sub_cancel_left, List.getElem?_map, List.getElem?_range hk]; rfl
    · have := h.cur k hk
      rw [hsu k hk] at this
      exact this.weak fun _ _ _ => trivial
theorem range_map_succ {α : Type} (f : Nat → α) (l : List α) (j : Nat) : (l ++ (List.range j).map f) ++ [f j] = l ++ (List.range (j + 1)).map f := by
  rw [List.range_succ, List.map_append, List.append_assoc]; rfl
theorem of_all (l : List UInt8) (A : Option Addr) (n c : Nat) (w : World) (h : Sl w (· < w.heap.size) A n c l) :
    Calls Try.prog 24 #[.slice A n c] w fun e w' => Below w.heap.size w w' ∧ (∀ u, Und.ofBytes l = some u → e = .returned (.tuple #[.pointer (some ⟨w.heap.size, 0, none⟩), .int .i64 0]) ∧ Sh w' w.heap.size u) ∧ (Und.ofBytes l = none → e = .returned (.tuple #[.pointer none, .int .i64 130])) := by
  by_cases hn : n < 40
  · refine (of_short l A n c w h hn).mono fun e w' ⟨he, hw⟩ => ?_
    subst hw
    refine ⟨Below.refl _ _, fun u hu => ?_, fun _ => he⟩
    unfold Und.ofBytes at hu
    rw [if_pos (by rw [h.len]; exact hn)] at hu
    cases hu
  · exact of_long l A n c w h (by omega)
set_option maxHeartbeats 16000000 in
set_option maxRecDepth 100000 in
theorem shaPlays_any (l : List UInt8) (A : Option Addr) (n c : Nat) (ss : List PStep) (A2 : Option Addr) (n2 c2 : Nat) (w : World) (h : Sl w (· < w.heap.size) A n c l) (hn : n ≤ 1000000000) (hS : PScr w A2 n2 c2 ss) :
    Calls Try.prog 10 #[.slice A n c, .slice A2 n2 c2] w fun e w' => e = .returned (.bool true) ∧ Below w.heap.size w w' := by
  have hroom2 := hS.room
  have hmx2 := hS.max
  unfold maxLen at hmx2
  have hlen2 := hS.len
  have hlen := h.len
  have hr := h.room
  have hm := h.max
  unfold maxLen at hm
  obtain ⟨zw, hzw⟩ : ∃ x, zeroW.toArray = x := ⟨_, rfl⟩
  obtain ⟨zs, hzs⟩ : ∃ zs, (undCells (List.replicate 8 0) 0 (.slice none 0 0)).toArray = zs := ⟨_, rfl⟩
  obtain ⟨w1, hw1⟩ : ∃ x, w.alloc (.cells zw 82) = x := ⟨_, rfl⟩
  have kw1 : Blk w1 w.heap.size 82 zw := by rw [← hw1]; exact Blk.new _ _ _
  have B1 : Below w.heap.size w w1 := by rw [← hw1]; exact (Below.refl _ _).alloc (Nat.le_refl _) _
  have hz10 : zs.size = 10 := by rw [← hzs]; exact undCells_len _ _ rfl
  have Hzw := Lib.hid hzw
  have Hzs := Lib.hid hzs
  have Hw1 := Lib.hid hw1
  have Hh := Lib.hid h
  have HS := Lib.hid hS
  have Hlen := Lib.hid hlen
  have Hlen2 := Lib.hid hlen2
  clear hzw hzs hw1 h hS hlen hlen2
  obtain ⟨gw, hgw⟩ : ∃ x, w.heap.size = x := ⟨_, rfl⟩
  go_enter Try.func10, Try.ntmps10
  go_wp2_with (first
    | ((with_reducible show wpList _ _ _ (⟨some 17, .build _ _, _, _, _, _⟩ :: _) _ _); refine wpList_run0 rfl (.agg zw) (by rw [← Hzw.out]; kernel_rfl) ?_; simp only [Act.put])
    | ((with_reducible show wpList _ _ _ (⟨some 18, .box _ _, _, _, _, _⟩ :: _) _ _); refine wpList_run rfl (.pointer (some ⟨w.heap.size, 0, none⟩)) w1 (by rw [← Hw1.out]; rfl) ?_; simp only [Act.put]))
  rw [hgw] at kw1
  refine (lent_any l A n c w1 ((Hh.out.step B1).all) (by omega)).mono ?_
  rintro e w2 ⟨gm, cm, cur, rfl, hgm, hown, hb2⟩
  have kw2 := kw1.below hb2 kw1.lt
  have B2 : Below w.heap.size w w2 := B1.trans (hb2.mono B1.size)
  have hcm : n + 1 ≤ cm := by have := hown.room; rw [List.length_append, Hlen.out] at this; exact this
  have hcmx := hown.max
  unfold maxLen at hcmx
  have hlm : LentB w2 (fun b => b = gm) gm l.length cm l := LentB.of_own hown rfl
  rw [Hlen.out] at hlm
  have oa2 : OwnAny w2 w1.heap.size (.slice (some ⟨gm, 0, none⟩) n cm) n := hown.any n w1.heap.size (by rw [List.length_append, Hlen.out]; omega) hgm
  clear hown
  go_wp2_with fail
  refine (of_all l (some ⟨gm, 0, none⟩) n cm w2 (hlm.sl.weak fun b hb _ => hb)).mono ?_
  rintro e w3 ⟨hb3, hof1, hof2⟩
  have kw3 := kw2.below hb3 kw2.lt
  have B3 : Below w.heap.size w w3 := B2.trans (hb3.mono B2.size)
  have hlm3 := hlm.step hb3
  have oa3 := oa2.step hb3
  have hz12 := hb2.size
  have hz23 := hb3.size
  have hz1 := B1.size
  have hgw1 := kw1.lt
  have hgm2 := hlm.in_
  have hrof := rof_any l A n c w3 ((Hh.out.below B3 fun b _ hb => hb).weak fun b hb _ => hb) (by omega)
  have Hrof := Lib.hid hrof
  clear hrof kw2 kw1 oa2 hlm hb2 hb3
  cases hu : Und.ofBytes l with
  | some u =>
    obtain ⟨rfl, hsh3⟩ := hof1 u hu
    have hul := (ofBytes_ok hu).2
    clear hof1 hof2
    go_wp2_with fail
    refine Hrof.out.mono ?_
    rintro e w4 ⟨hb4, hr1, -⟩
    obtain ⟨A4, n4, c4, rfl, hs4⟩ := hr1 u hu
    clear hr1 hu
    have hz34 := hb4.size
    have kw4 := kw3.below hb4 kw3.lt
    have B4 : Below w.heap.size w w4 := B3.trans (hb4.mono B3.size)
    have hlm4 := hlm3.step hb4
    have oa4 := oa3.step hb4
    have hsh4 := hsh3.stepS hb4
    have hg03 := hsh3.ltS
    obtain ⟨g0, hg0⟩ : ∃ x, w2.heap.size = x := ⟨_, rfl⟩
    rw [hg0] at hsh4 hsh3 hg03 ⊢
    obtain ⟨d, hd⟩ : ∃ d : UndD, d = ⟨u, A4, n4, c4⟩ := ⟨_, rfl⟩
    have hdu : d.u = u := by rw [hd]
    have hdr : Sl w4 (w3.heap.size ≤ ·) d.A d.n d.c d.u.rest := by rw [hd]; exact hs4
    obtain ⟨cd, hcd⟩ : ∃ x, d.cells.toArray = x := ⟨_, rfl⟩
    have hcd10 : cd.size = 10 := by rw [← hcd]; exact d.len
    have hcd1 : ∀ v ∈ cd.toList, v.oneCell' = true := by rw [← hcd]; exact d.one
    have hval : undV u (.slice A4 n4 c4) = .agg cd := by rw [← hcd, hd]; rfl
    rw [hval]
    rw [← hdu] at hsh4 hul
    have hg0w : gw < g0 := by omega
    have hgm0 : gm < g0 := by omega
    have hg0l : w.heap.size ≤ g0 := by omega
    have Hcd := Lib.hid hcd
    have Hcd1 := Lib.hid hcd1
    have Hg0 := Lib.hid hg0
    clear hcd hcd1 hval hs4 hd hdu kw3 hlm3 oa3 hsh3 hb4 hg0
    go_wp2_with (first
      | ((with_reducible show wpList _ _ _ (⟨some 9, .alloc _, _, _, _, _⟩ :: _) _ _); refine wpList_varA (T := 77) (zs := zs) (cs := cd) 10 (.tmp 9) (.tmp 29) rfl rfl (by rw [← Hzs.out]; kernel_rfl) size77 rfl rfl rfl hcd10 hz10 Hcd1.out ?_; intro w5 k5 hb5; simp only [Act.put]; have hlm5 := hlm4.step hb5; have B5 := B4.trans (hb5.mono B4.size))
      | (go_at_call 17; refine (kept_any gm n cm l A c w5 (LentB.weakT hlm5) ((Hh.out.below B5 fun b _ hb => hb).all) (by omega)).mono ?_; rintro e w6 ⟨rfl, hw6⟩; obtain rfl := hw6))
    have kw5 := kw4.below hb5 kw4.lt
    have oa5 := oa4.step hb5
    have hsh5 := hsh4.stepS hb5
    have hdr5 := hdr.step hb5
    obtain ⟨g9, hg9⟩ : ∃ x, w4.heap.size = x := ⟨_, rfl⟩
    rw [hg9] at k5 hz34
    rw [hg9]
    clear hlm5 hlm4 kw4 oa4 hsh4 hdr hb5 B4 hg9
    go_loopw [11] (fun i wr => ∃ q : Nat, q ≤ n ∧ i = .int .i64 q ∧ w5.grownBy wr (some gm) ∧ OwnAny wr w1.heap.size (.slice (some ⟨gm, 0, none⟩) n cm) n) (fun i _ => n - (intOf i).toNat)
    case atStart => exact ⟨0, Nat.zero_le _, rfl, World.grownBy.refl _ _, oa5⟩
    case round =>
      clear oa5
      obtain ⟨q, hq, rfl, hgr, oa⟩ := hrel
      by_cases hlt : q < n
      · have hdq : decide ((q : Int) < (n : Int)) = true := by simp; omega
        obtain ⟨gb, cb, e, -, -, -, -, hcell⟩ := oa.at_ (by omega)
        cases e
        obtain ⟨⟨u0, hu⟩, hf⟩ := hcell q hlt
        clear hcell
        go_wp2_with fail
        go_roundw
        case rel => exact ⟨q + 1, by omega, by go_num, grown_setCell hgr q _, oa.setCell _ _ _⟩
        case measure => simp [intOf]; omega
      · have hdq : decide ((q : Int) < (n : Int)) = false := by simp; omega
        have kw6 : Blk wr gw 82 zw := kw5.grown hgr (fun e => by have e := Option.some.inj e; omega)
        have hs6 : Sh wr g0 d.u := hsh5.grownS hgr (fun e => by have e := Option.some.inj e; omega)
        have k96 : Blk wr g9 77 cd := k5.grown hgr (fun e => by have e := Option.some.inj e; omega)
        have sl6 : Sl wr (fun b => b ≠ gw ∧ b ≠ g0) d.A d.n d.c d.u.rest := (hdr5.grown hgr (fun b _ hb e => by have e := Option.some.inj e; omega)).weak fun b _ hb => ⟨by omega, by omega⟩
        have B6 : Below w.heap.size w wr := B5.grown hgr B5.size fun j hj => by have e := Option.some.inj hj; omega
        have hlw : w.heap.size ≤ gw := by omega
        clear kw5 hsh5 k5 hdr5 B5 hgr oa Hrof B1 B2 B3
        go_wp2_with fail
        obtain ⟨w6, hw6⟩ : ∃ x, wr = x := ⟨_, rfl⟩
        rw [hw6] at kw6 hs6 k96 sl6 B6 ⊢
        clear hw6
        obtain ⟨cn, hcn⟩ : ∃ x, (⟨Und.new, none, 0, 0⟩ : UndD).cells.toArray = x := ⟨_, rfl⟩
        have hcn10 : cn.size = 10 := by rw [← hcn]; exact UndD.len _
        have hcn1 : ∀ v ∈ cn.toList, v.oneCell' = true := by rw [← hcn]; exact UndD.one _
        have hnv : undV Und.new (.slice none 0 0) = .agg cn := by rw [← hcn]; rfl
        have Hcn := Lib.hid hcn
        have Hcn1 := Lib.hid hcn1
        have Hnv := Lib.hid hnv
        clear hcn hcn1 hnv
        have hS : Blk w6.drew g9 77 cd := k96.drew
        have hB : Below w6.heap.size w6 w6.drew := (Below.refl _ _).drew
        have hzz : zw.size = 24 := by rw [← Hzw.out]; simp [zeroW, undCells]
        have hg9w : g9 ≠ gw := k96.neS kw6 (by decide)
        refine wp_region_mix (fun W => Blk W g9 77 cd) [(0, true), (1, true), (2, true), (5, true), (3, false), (4, true), (6, false), (7, true), (8, true), (9, true), (10, false), (11, true), (12, true), (13, false)] (by kernel_rfl) (by kernel_rfl) hS fun _ => ?_
        simp only [List.map_cons, List.map_nil, Array.getD_eq_getD_getElem?, List.getElem?_toArray, List.getElem?_cons_succ, List.getElem?_cons_zero, Option.getD_some]
        generalize w6.drew = W0 at hS hB ⊢
        refine wpMix_s (fun K hK => ?_)
        go_simp
        refine hK _ ?_
        clear hK K
        refine wpMix_s (fun K hK => ?_)
        go_simp
        refine hK _ ?_
        clear hK K
        refine wpMix_s (fun K hK => ?_)
        go_simp
        refine hK _ ?_
        clear hK K
        refine wpMix_load (by kernel_rfl) 77 (.tmp 9) rfl (g9) (0) rfl cd (fun s => run_load_blk (agg77 _) (size77 _) _ _ hcd10 s.ok) ?_
        simp only [Act.put]
        refine wpMix_c (fun K hK => ?_) hS
        go_simp
        refine (new_any W0).mono ?_
        rintro e W7 ⟨g1, rfl, hg1, hs1, hb7⟩
        refine hK _ _ ?_
        clear hK K
        replace hS := hS.below hb7 hS.lt
        refine ⟨hS, ?_⟩
        have hB7 := hB.trans (hb7.mono hB.size)
        replace hg1 := Nat.le_trans hB.size hg1
        clear hb7
        refine wpMix_s (fun K hK => ?_)
        go_simp
        refine hK _ ?_
        clear hK K
        refine wpMix_c (fun K hK => ?_) hS
        go_simp
        refine (rnew_any W7).mono ?_
        rintro e W8 ⟨rfl, hb8⟩
        rw [Hnv.out]
        refine hK _ _ ?_
        clear hK K
        replace hS := hS.below hb8 hS.lt
        refine ⟨hS, ?_⟩
        have hB8 := hB7.trans (hb8.mono hB7.size)
        replace hs1 := hs1.stepS hb8
        clear hb8 hB7
        refine wpMix_v (by kernel_rfl) (.agg (cd ++ cn)) (fun s => build2U_op (.tmp 65) (.tmp 66) rfl rfl rfl hcd10 hcn10 s.W) ?_
        simp only [Act.put]
        refine wpMix_s (fun K hK => ?_)
        go_simp
        refine hK _ ?_
        clear hK K
        refine wpMix_s (fun K hK => ?_)
        go_simp
        refine hK _ ?_
        clear hK K
        have kw8 := kw6.below hB8 kw6.lt
        have k9w := kw8.setRow_ (zw.toList.take 0 ++ #[sptr g0, sptr g1].toList ++ zw.toList.drop (0 + 2)).toArray
        replace hS := hS.setRow_apart hg9w (zw.toList.take 0 ++ #[sptr g0, sptr g1].toList ++ zw.toList.drop (0 + 2)).toArray
        refine wpMix_store_agg rfl 75 (.tmp 69) (.tmp 64) rfl 2 sizeA2 gw 0 #[sptr g0, sptr g1] rfl rfl rfl (by intro v hv; simp at hv; rcases hv with rfl | rfl <;> rfl) 82 zw kw8 (by omega) hS ?_
        simp only [Act.put]
        obtain ⟨za, hza⟩ : ∃ x, (zw.toList.take 0 ++ #[sptr g0, sptr g1].toList ++ zw.toList.drop (0 + 2)).toArray = x := ⟨_, rfl⟩
        rw [hza] at k9w hS ⊢
        have hzas : za.size = 24 := by rw [← hza]; simp [hzz]
        refine wpMix_s (fun K hK => ?_)
        go_simp
        refine hK _ ?_
        clear hK K
        refine wpMix_s (fun K hK => ?_)
        go_simp
        refine hK _ ?_
        clear hK K
        have k10w := k9w.setRow_ (za.toList.take 2 ++ (cd ++ cn).toList ++ za.toList.drop (2 + 20)).toArray
        replace hS := hS.setRow_apart hg9w (za.toList.take 2 ++ (cd ++ cn).toList ++ za.toList.drop (2 + 20)).toArray
        refine wpMix_store_agg rfl 78 (.tmp 71) (.tmp 67) rfl 20 sizeU2 gw 2 (cd ++ cn) rfl rfl (by rw [Array.size_append, hcd10, hcn10]) (by intro v hv; rw [Array.toList_append] at hv; rcases List.mem_append.1 hv with hv | hv; exact Hcd1.out v hv; exact Hcn1.out v hv) 82 za k9w (by omega) hS ?_
        simp only [Act.put]
        refine wpMix_nil ?_
        intro _
        obtain ⟨w9, hw9⟩ : ∃ x, (W8.setRow gw za).setRow gw (za.toList.take 2 ++ (cd ++ cn).toList ++ za.toList.drop (2 + 20)).toArray = x := ⟨_, rfl⟩
        rw [hw9] at hS k10w ⊢
        have hgr9 : W8.grownBy w9 (some gw) := by rw [← hw9]; exact grown_setRow (grown_setRow (World.grownBy.refl _ _) _) _
        have hP : PlW w gw (two g0 g1) (two d.u Und.new) (two d ⟨Und.new, none, 0, 0⟩) (.slice none 0 0) (.slice none 0 0) [] [] [] w9 := by
          have hgl6 := hs6.ltS
          have hn1 : some g1 ≠ some gw := fun e => by have e := Option.some.inj e; have := kw6.lt; omega
          have hn0 : some g0 ≠ some gw := fun e => by have e := Option.some.inj e; omega
          have h9 : ∀ k, k < 2 → Pair w9 (Free gw (two g0 g1) (.slice none 0 0) (.slice none 0 0)) (two g0 g1 k) (two d.u Und.new k) (two d ⟨Und.new, none, 0, 0⟩ k) := fun k hk => by
            rcases (by omega : k = 0 ∨ k = 1) with rfl | rfl
            · refine ⟨(hs6.stepS hB8).grownS hgr9 hn0, hul, ?_⟩
              refine Sl.grown (row := some gw) ?_ hgr9 fun b _ hb e => hb.1 (Option.some.inj e)
              exact (sl6.weak (Y := Free gw (two g0 g1) (.slice none 0 0) (.slice none 0 0)) fun b hb hx => ⟨hx.1, hx.2, (fun e => by have e : b = g1 := e; omega), (fun e => by cases e), (fun e => by cases e)⟩).step hB8
            · exact ⟨hs1.grownS hgr9 hn1, Nat.zero_le _, Sl.nil⟩
          refine ⟨⟨_, k10w, ?_⟩, h9, fun e => by have e : g0 = g1 := e; omega, World.ownsRow_nil _ _ _ _, World.ownsRow_nil _ _ _ _, (fun x hx => by cases hx), hlw, fun k hk => ?_, (B6.trans (hB8.mono B6.size)).grown hgr9 (Nat.le_trans B6.size hB8.size) fun j hj => by have e := Option.some.inj hj; omega⟩
          · have := WC_init g0 g1 d ⟨Und.new, none, 0, 0⟩
            rw [Hzw.out, Hcd.out, Hcn.out] at this
            rw [← hza]
            exact this
          · rcases (by omega : k = 0 ∨ k = 1) with rfl | rfl
            · exact hg0l
            · show w.heap.size ≤ g1
              have := B6.size
              omega
        have hsu : ∀ k, k < 2 → two d.u Und.new k = (two d ⟨Und.new, none, 0, 0⟩ k).u := fun k hk => by
          rcases (by omega : k = 0 ∨ k = 1) with rfl | rfl <;> rfl
        obtain ⟨cw, kw9, hw9c⟩ := hP.blk
        have c90 : w9.cell? ⟨gw, 0, none⟩ = some (.pointer (some ⟨g0, 0, none⟩)) := by rw [kw9.cell]; exact hw9c.s 0 (by decide)
        have c91 : w9.cell? ⟨gw, 1, none⟩ = some (.pointer (some ⟨g1, 0, none⟩)) := by rw [kw9.cell]; exact hw9c.s 1 (by decide)
        have hR : StepR w gw w9 := ⟨_, _, _, _, _, [], hP, hsu, by simp⟩
        clear hw9 hS k10w hgr9 hP hsu kw9 hw9c hs1 hB8 hza k9w kw8 kw6 hs6 k96 sl6 B6
        go_wp2_with fail
        clear c90 c91
        go_loopw [12] (fun v12 W => ∃ i : Nat, i ≤ n2 ∧ i ≤ 200 ∧ v12 = .int .i64 (i : Int) ∧ StepR w gw W) (fun v12 _ => n2 - (intOf v12).toNat)
        case atStart => exact ⟨0, Nat.zero_le _, by omega, rfl, hR⟩
        case round =>
          clear hR
          obtain ⟨i, hi, hi2, rfl, hR⟩ := hrel
          by_cases hgo : i < n2 ∧ i < 200
          · obtain ⟨hin, hi200⟩ := hgo
            have hd1 : decide ((i : Int) < (n2 : Int)) = true := by simp; omega
            have hd2 : decide ((i : Int) < 200) = true := by simp; omega
            have hil : i < ss.length := by rw [Hlen2.out]; exact hin
            obtain ⟨b, o', hA2, hbl, -⟩ := HS.out.at_ i hil
            subst hA2
            obtain ⟨g, su, p, ov, wv, L, hP, hsu, hL⟩ := hR
            obtain ⟨s1, s2, s3, s4⟩ := HS.out.ins ss[i] (List.getElem_mem hil)
            have hld := HS.out.load hP.bel i hil rfl
            have hst := pstep_any w _ gw g su p ov wv L ss[i] hP hsu hL (s1.below hP.bel fun b _ hb => hb) s2 s3 s4
            obtain ⟨s, hs_⟩ : ∃ s, ss[i] = s := ⟨_, rfl⟩
            rw [hs_] at hst hld
            have hl2 : i < n2 := hin
            have Hst := Lib.hid hst
            have Hld := Lib.hid hld
            clear hst hld hs_ s1 s2 s3 s4 hP hsu
            go_wp2_with (first
              | ((with_reducible show wpList _ _ _ (⟨some 100, .load _ _, _, _, _, _⟩ :: _) _ _); refine wpList_load rfl 88 (.tmp 99) rfl b (o' + i * 3) rfl s.cells Hld.out ?_; simp only [Act.put])
              | (go_at_call 49; refine Hst.out.mono ?_; rintro e W1 ⟨rfl, hR1⟩))
            go_roundw
            case rel => exact ⟨i + 1, by omega, by omega, by go_num, hR1⟩
            case measure => simp [intOf]; omega
          · by_cases hin : i < n2
            · have hd1 : decide ((i : Int) < (n2 : Int)) = true := by simp; omega
              have hd2 : decide ((i : Int) < 200) = false := by simp; omega
              obtain ⟨g, su, p, ov, wv, L, hP, hsu, hL⟩ := hR
              go_wp2_with fail
              go_loopw [14] (fun v14 W => ∃ (j : Nat) (ov wv : Value), j ≤ 2 ∧ v14 = .int .i64 (j : Int) ∧ PlW w gw g su p ov wv (L.map (·.1) ++ (List.range j).map g) (L.map (·.2) ++ (List.range j).map p) L W) (fun v14 _ => 2 - (intOf v14).toNat)
              case atStart => exact ⟨0, ov, wv, by omega, rfl, by simpa using hP⟩
              case round =>
                clear hP ov wv
                obtain ⟨j, ov, wv, hj, rfl, hP⟩ := hrel
                by_cases hj2 : j < 2
                · have hdj : decide ((j : Int) < 2) = true := by simp; omega
                  have hdj' : (j : Int) < 2 := by omega
                  obtain ⟨cw, kw, hw⟩ := hP.blk
                  have c22 : ∀ s' : InC (fun W => Blk W gw 82 cw), s'.W.cell? ⟨gw, 22, none⟩ = some ov := fun s' => by rw [s'.ok.cell]; exact hw.o
                  have cj : ∀ s' : InC (fun W => Blk W gw 82 cw), s'.W.cell? ⟨gw, j, none⟩ = some (.pointer (some ⟨g j, 0, none⟩)) := fun s' => by rw [s'.ok.cell]; exact hw.s j hj2
                  obtain ⟨gj, hgj⟩ : ∃ x, g j = x := ⟨_, rfl⟩
                  rw [hgj] at cj
                  have hS : Blk wr.drew gw 82 cw := kw.drew
                  have hB : Below wr.heap.size wr wr.drew := (Below.refl _ _).drew
                  have Hgj := Lib.hid hgj
                  clear kw hgj
                  go_wp2_with fail
                  refine wp_region_mix_last (fun W => Blk W gw 82 cw) 15 [(0, true), (1, true), (2, true), (3, true), (4, true), (5, true), (6, true), (7, true), (8, true), (9, true), (10, true), (11, false), (12, false), (13, false), (14, true)] (by kernel_rfl) (by kernel_rfl) hS fun _ => ?_
                  simp only [List.map_cons, List.map_nil, Array.getD_eq_getD_getElem?, List.getElem?_toArray, List.getElem?_cons_succ, List.getElem?_cons_zero, Option.getD_some]
                  generalize wr.drew = W0 at hS hB ⊢
                  refine wpMix_s (fun K hK => ?_)
                  go_simp
                  refine hK _ ?_
                  clear hK K
                  refine wpMix_s (fun K hK => ?_)
                  go_simp
                  refine hK _ ?_
                  clear hK K
                  refine wpMix_s (fun K hK => ?_)
                  go_simp
                  refine hK _ ?_
                  clear hK K
                  refine wpMix_s (fun K hK => ?_)
                  go_simp
                  refine hK _ ?_
                  clear hK K
                  refine wpMix_s (fun K hK => ?_)
                  go_simp
                  refine hK _ ?_
                  clear hK K
                  refine wpMix_s (fun K hK => ?_)
                  go_simp
                  refine hK _ ?_
                  clear hK K
                  refine wpMix_s (fun K hK => ?_)
                  go_simp
                  refine hK _ ?_
                  clear hK K
                  refine wpMix_s (fun K hK => ?_)
                  go_simp
                  refine hK _ ?_
                  clear hK K
                  refine wpMix_s (fun K hK => ?_)
                  go_simp
                  refine hK _ ?_
                  clear hK K
                  refine wpMix_s (fun K hK => ?_)
                  go_simp
                  refine hK _ ?_
                  clear hK K
                  refine wpMix_s (fun K hK => ?_)
                  go_simp
                  refine hK _ ?_
                  clear hK K
                  have h25 := hP.step hB
                  obtain ⟨v', W', hr', hv1, hcl, hfr, hgO, hQ⟩ := h25.appO gj (by rw [List.length_append, List.length_map, List.length_map, List.length_range]; omega)
                  have HQ := Lib.hid hQ
                  clear hQ
                  refine wpMix_run (by kernel_rfl) (.slice (some ⟨W0.heap.size, 0, none⟩) 1 1) (W0.alloc (.cells #[sptr gj] 38)) (by kernel_rfl) (hS.alloc _) ?_
                  simp only [Act.put]
                  have hrs : Blk W' gw 82 cw := hS.grown hgO (own_neS h25.old hS (by decide))
                  refine wpMix_run (by kernel_rfl) v' W' (run_append_op (.tmp 112) (.tmp 119) 79 rfl _ _ rfl rfl hr') hrs ?_
                  simp only [Act.put]
                  clear h25
                  refine wpMix_c (fun K hK => ?_) hrs
                  go_simp
                  refine hK _ _ ?_
                  clear hK K
                  refine ⟨hrs, ?_⟩
                  refine wpMix_s (fun K hK => ?_)
                  go_simp
                  refine hK _ ?_
                  clear hK K
                  refine wpMix_nil ?_
                  intro _
                  simp only [List.drop_succ_cons, List.drop_zero]
                  clear c22 cj hw
                  go_wp2_with ((with_reducible show wpList _ _ _ [⟨none, .store _ _ _, _, _, _, _⟩] _ _); refine wpList_put1i rfl 79 (.tmp 122) (.tmp 120) rfl sizeOS ⟨gw, 22, none⟩ v' rfl rfl hv1 _ hcl hfr ?_; simp only [Act.put])
                  refine np_normal ?_
                  obtain ⟨w7, hw7⟩ : ∃ x, W'.setCell ⟨gw, 22, none⟩ v' = x := ⟨_, rfl⟩
                  have hQ := HQ.out
                  rw [hw7] at hQ ⊢
                  clear hw7 hcl hfr hv1 hr' hgO HQ hP hS hB hrs
                  obtain ⟨cw, kw, hw⟩ := hQ.blk
                  obtain ⟨cd, hcd⟩ : ∃ x, (p j).cells.toArray = x := ⟨_, rfl⟩
                  have hcd10 : cd.size = 10 := by rw [← hcd]; exact (p j).len
                  have c23 : ∀ s' : InC (fun W => Blk W gw 82 cw), s'.W.cell? ⟨gw, 23, none⟩ = some wv := fun s' => by rw [s'.ok.cell]; exact hw.w
                  have hS : Blk w7.drew gw 82 cw := kw.drew
                  have hB : Below w7.heap.size w7 w7.drew := (Below.refl _ _).drew
                  have Hcd := Lib.hid hcd
                  clear kw hcd
                  go_wp2_with fail
                  refine wp_region_mix_last (fun W => Blk W gw 82 cw) 15 [(0, true), (1, true), (2, true), (3, true), (4, true), (5, true), (6, true), (7, true), (8, true), (9, true), (10, true), (11, false), (12, false), (13, false), (14, true)] (by kernel_rfl) (by kernel_rfl) hS fun _ => ?_
                  simp only [List.map_cons, List.map_nil, Array.getD_eq_getD_getElem?, List.getElem?_toArray, List.getElem?_cons_succ, List.getElem?_cons_zero, Option.getD_some]
                  generalize w7.drew = Z0 at hS hB ⊢
                  refine wpMix_s (fun K hK => ?_)
                  go_simp
                  refine hK _ ?_
                  clear hK K
                  refine wpMix_s (fun K hK => ?_)
                  go_simp
                  refine hK _ ?_
                  clear hK K
                  refine wpMix_s (fun K hK => ?_)
                  go_simp
                  refine hK _ ?_
                  clear hK K
                  refine wpMix_s (fun K hK => ?_)
                  go_simp
                  refine hK _ ?_
                  clear hK K
                  refine wpMix_s (fun K hK => ?_)
                  go_simp
                  refine hK _ ?_
                  clear hK K
                  refine wpMix_s (fun K hK => ?_)
                  go_simp
                  refine hK _ ?_
                  clear hK K
                  refine wpMix_s (fun K hK => ?_)
                  go_simp
                  refine hK _ ?_
                  clear hK K
                  refine wpMix_s (fun K hK => ?_)
                  go_simp
                  refine hK _ ?_
                  clear hK K
                  refine wpMix_s (fun K hK => ?_)
                  go_simp
                  refine hK _ ?_
                  clear hK K
                  refine wpMix_s (fun K hK => ?_)
                  go_simp
                  refine hK _ ?_
                  clear hK K
                  refine wpMix_load (by kernel_rfl) 77 (.tmp 132) rfl gw (2 + j * 10) rfl cd (fun s => by
                    rw [← Hcd.out]
                    exact run_load_agg (agg77 _) (size77 _) _ _ (p j).cells (p j).len fun i v hv => by
                      rw [s.ok.cell]
                      exact hw.u j hj2 i v hv) ?_
                  simp only [Act.put]
                  have h26 := hQ.step hB
                  have hU := h26.appU (p j) (by rw [List.length_append, List.length_map, List.length_map, List.length_range]; omega)
                  rw [Hcd.out] at hU
                  obtain ⟨v9, W9, hr9, hv9, hcl9, hfr9, hg9, hT⟩ := hU
                  have HT := Lib.hid hT
                  clear hT
                  refine wpMix_run (by kernel_rfl) (.slice (some ⟨Z0.heap.size, 0, none⟩) 1 1) (Z0.alloc (.cells cd 77)) (bsU_op (.tmp 133) rfl rfl hcd10 Z0) (hS.alloc _) ?_
                  simp only [Act.put]
                  replace hS := hS.grown hg9 (own_neS h26.was hS (by decide))
                  refine wpMix_run (by kernel_rfl) v9 W9 (run_append_op (.tmp 127) (.tmp 134) 80 rfl _ _ rfl rfl hr9) hS ?_
                  simp only [Act.put]
                  clear h26
                  refine wpMix_c (fun K hK => ?_) hS
                  go_simp
                  refine hK _ _ ?_
                  clear hK K
                  refine ⟨hS, ?_⟩
                  refine wpMix_s (fun K hK => ?_)
                  go_simp
                  refine hK _ ?_
                  clear hK K
                  refine wpMix_nil ?_
                  intro _
                  simp only [List.drop_succ_cons, List.drop_zero]
                  clear c23 hw
                  go_wp2_with ((with_reducible show wpList _ _ _ [⟨none, .store _ _ _, _, _, _, _⟩] _ _); refine wpList_put1i rfl 80 (.tmp 137) (.tmp 135) rfl sizeOU ⟨gw, 23, none⟩ v9 rfl rfl hv9 _ hcl9 hfr9 ?_; simp only [Act.put])
                  refine np_normal ?_
                  obtain ⟨w8, hw8⟩ : ∃ x, W9.setCell ⟨gw, 23, none⟩ v9 = x := ⟨_, rfl⟩
                  have hT := HT.out
                  rw [hw8] at hT ⊢
                  clear hw8 hcl9 hfr9 hv9 hr9 hg9 HT hQ hS hB
                  go_wp2_with fail
                  go_roundw
                  case rel =>
                    rw [range_map_succ, ← Hgj.out, range_map_succ] at hT
                    exact ⟨j + 1, v', v9, by omega, by go_num, hT⟩
                  case measure => simp [intOf]; omega
                · have hje : j = 2 := by omega
                  have hdj : decide ((j : Int) < 2) = false := by simp; omega
                  rw [hje] at hP
                  have Hje := Lib.hid hje
                  clear hje
                  go_wp2_with fail
                  obtain ⟨lo, hlo⟩ : ∃ x, L.map (·.1) ++ (List.range 2).map g = x := ⟨_, rfl⟩
                  obtain ⟨lu, hlu⟩ : ∃ x, L.map (·.2) ++ (List.range 2).map p = x := ⟨_, rfl⟩
                  have hN1 : lo.length = L.length + 2 := by rw [← hlo]; simp
                  have hN2 : lu.length = L.length + 2 := by rw [← hlu]; simp
                  obtain ⟨N, hN⟩ : ∃ x, L.length + 2 = x := ⟨_, rfl⟩
                  rw [hlo, hlu] at hP
                  rw [hN] at hN1 hN2
                  obtain ⟨Ao, co, rfl, hso⟩ := owns_slv hP.old
                  obtain ⟨Au, cu, rfl, hsu2⟩ := owns_slv hP.was
                  obtain ⟨go, oo, rfl, -, -, -⟩ := hso.at_ (by omega) (by decide)
                  obtain ⟨gu, ou, rfl, -, -, -⟩ := hsu2.at_ (by omega) (by decide)
                  have hro := hso.room
                  have hmo := hso.max
                  have hru := hsu2.room
                  have hmu := hsu2.max
                  unfold maxLen at hmo hmu
                  rw [hN1] at hP hro
                  rw [hN2] at hP hru
                  have Hlo := Lib.hid hlo
                  have Hlu := Lib.hid hlu
                  have HN1 := Lib.hid hN1
                  have HN2 := Lib.hid hN2
                  have HN := Lib.hid hN
                  have Hsu := Lib.hid hsu
                  clear hlo hlu hN1 hN2 hN hso hsu2 hsu
                  go_loopw [15] (fun v15 W => ∃ (i : Nat), i ≤ N ∧ v15 = .int .i64 (i : Int) ∧ PlW w gw g su p (.slice (some ⟨go, oo, none⟩) N co) (.slice (some ⟨gu, ou, none⟩) N cu) lo lu L W) (fun v15 _ => N - (intOf v15).toNat)
                  case atStart => exact ⟨0, Nat.zero_le _, rfl, hP⟩
                  case round =>
                    clear hP
                    obtain ⟨i, hi, rfl, hP⟩ := hrel
                    obtain ⟨cw, kw, hw⟩ := hP.blk
                    have c22 : ∀ s' : InC (fun W => Below wr.heap.size wr W), s'.W.cell? ⟨gw, 22, none⟩ = some (.slice (some ⟨go, oo, none⟩) N co) := fun s' => by rw [(kw.below s'.ok kw.lt).cell]; exact hw.o
                    have c22' : wr.cell? ⟨gw, 22, none⟩ = some (.slice (some ⟨go, oo, none⟩) N co) := by rw [kw.cell]; exact hw.o
                    have c23 : ∀ s' : InC (fun W => Below wr.heap.size wr W), s'.W.cell? ⟨gw, 23, none⟩ = some (.slice (some ⟨gu, ou, none⟩) N cu) := fun s' => by rw [(kw.below s'.ok kw.lt).cell]; exact hw.w
                    by_cases hin : i < N
                    · have hdi : decide ((i : Int) < (N : Int)) = true := by simp; omega
                      obtain ⟨x, hx1, hx2, hpx⟩ := hP.every Hsu.out Hlo.out.symm Hlu.out.symm i (by rw [HN.out]; exact hin)
                      have hso := (owns_slv hP.old)
                      have hsu2 := (owns_slv hP.was)
                      rw [HN1.out] at hso
                      rw [HN2.out] at hsu2
                      obtain ⟨A5, c5, e5, h5⟩ := hso
                      obtain ⟨A6, c6, e6, h6⟩ := hsu2
                      cases e5
                      cases e6
                      obtain ⟨b5, o5, e5, l5, -, k5⟩ := h5.at_ (by omega) (by decide)
                      obtain ⟨b6, o6, e6, l6, -, k6⟩ := h6.at_ (by omega) (by decide)
                      cases e5
                      cases e6
                      have cp : ∀ s' : InC (fun W => Below wr.heap.size wr W), s'.W.cell? ⟨go, oo + i, none⟩ = some (.pointer (some ⟨x.1, 0, none⟩)) := fun s' => by
                        rw [s'.ok.cell (p := ⟨go, oo + i, none⟩) l5]
                        refine k5 i _ ?_
                        unfold pastS
                        rw [List.getElem?_map, hx1]
                        rfl
                      obtain ⟨cx, hcx⟩ : ∃ y, x.2.cells.toArray = y := ⟨_, rfl⟩
                      have lp : ∀ s' : InC (fun W => Below wr.heap.size wr W), (Instr.loadAt 77 (.pointer (some ⟨gu, ou + i * 10, none⟩))).run Try.prog s'.W = .ok (.agg cx) s'.W := fun s' => by
                        rw [← hcx]
                        exact run_load_agg (agg77 _) (size77 _) _ _ x.2.cells x.2.len fun q v hv => by
                          rw [s'.ok.cell (p := ⟨gu, ou + i * 10 + q, none⟩) l6, Nat.add_assoc]
                          exact k6 _ v (pastU_get lu i x.2 hx2 q v hv)
                      have htd := fun W (hb : Below wr.heap.size wr W) => told_any x.1 x.2.u x.2.A x.2.n x.2.c W (hpx.sh.stepS hb) hpx.len (hpx.sl.step hb)
                      have hvx : undV x.2.u (.slice x.2.A x.2.n x.2.c) = .agg cx := by rw [← hcx]; rfl
                      rw [hvx] at htd
                      obtain ⟨gx, hgx⟩ : ∃ y, x.1 = y := ⟨_, rfl⟩
                      rw [hgx] at cp htd
                      have Htd := Lib.hid htd
                      have hS : Below wr.heap.size wr wr.drew := (Below.refl _ _).drew
                      clear hcx hvx htd hgx hpx hx1 hx2 k5 k6 h5 h6 kw hw
                      go_wp2_with fail
                      refine wp_region_mix (fun W => Below wr.heap.size wr W) [(0, true), (1, true), (2, true), (3, true), (4, true), (5, true), (6, true), (7, true), (8, true), (9, true), (10, true), (11, true), (12, true), (13, true), (14, false), (15, true)] (by kernel_rfl) (by kernel_rfl) hS fun _ => ?_
                      simp only [List.map_cons, List.map_nil, Array.getD_eq_getD_getElem?, List.getElem?_toArray, List.getElem?_cons_succ, List.getElem?_cons_zero, Option.getD_some]
                      generalize wr.drew = Y0 at hS ⊢
                      refine wpMix_s (fun K hK => ?_)
                      go_simp
                      refine hK _ ?_
                      clear hK K
                      refine wpMix_s (fun K hK => ?_)
                      go_simp
                      refine hK _ ?_
                      clear hK K
                      refine wpMix_s (fun K hK => ?_)
                      go_simp
                      refine hK _ ?_
                      clear hK K
                      refine wpMix_s (fun K hK => ?_)
                      go_simp
                      refine hK _ ?_
                      clear hK K
                      refine wpMix_s (fun K hK => ?_)
                      go_simp
                      refine hK _ ?_
                      clear hK K
                      refine wpMix_s (fun K hK => ?_)
                      go_simp
                      refine hK _ ?_
                      clear hK K
                      refine wpMix_s (fun K hK => ?_)
                      go_simp
                      refine hK _ ?_
                      clear hK K
                      refine wpMix_s (fun K hK => ?_)
                      go_simp
                      refine hK _ ?_
                      clear hK K
                      refine wpMix_s (fun K hK => ?_)
                      go_simp
                      refine hK _ ?_
                      clear hK K
                      refine wpMix_s (fun K hK => ?_)
                      go_simp
                      refine hK _ ?_
                      clear hK K
                      refine wpMix_s (fun K hK => ?_)
                      go_simp
                      refine hK _ ?_
                      clear hK K
                      refine wpMix_s (fun K hK => ?_)
                      go_simp
                      refine hK _ ?_
                      clear hK K
                      refine wpMix_s (fun K hK => ?_)
                      go_simp
                      refine hK _ ?_
                      clear hK K
                      refine wpMix_load (by kernel_rfl) 77 (.tmp 159) rfl (gu) (ou + i * 10) rfl cx (lp) ?_
                      simp only [Act.put]
                      refine wpMix_c (fun K hK => ?_) hS
                      go_simp
                      refine (Htd.out _ hS).mono ?_
                      rintro e Y0_1 ⟨rfl, hb'⟩
                      refine hK _ _ ?_
                      clear hK K
                      replace hS := hS.trans (hb'.mono hS.size)
                      refine ⟨hS, ?_⟩
                      clear hb'
                      refine wpMix_s (fun K hK => ?_)
                      go_simp
                      refine hK _ ?_
                      clear hK K
                      refine wpMix_nil ?_
                      intro _
                      replace hP := hP.step hS
                      clear c22 c22' c23 cp lp hS
                      go_wp2_with fail
                      go_roundw
                      case rel => exact ⟨i + 1, by omega, by go_num, hP⟩
                      case measure => simp [intOf]; omega
                    · have hdi : decide ((i : Int) < (N : Int)) = false := by simp; omega
                      clear c22 c23 kw hw
                      go_wp2_with (go_at_call 18; refine (known_any wr).mono ?_; rintro e W9 ⟨rfl, hb9⟩)
                      go_ret
                      exact ⟨rfl, (hP.step hb9).bel⟩
            · have hd1 : decide ((i : Int) < (n2 : Int)) = false := by simp; omega
              obtain ⟨g, su, p, ov, wv, L, hP, hsu, hL⟩ := hR
              go_wp2_with fail
              go_loopw [14] (fun v14 W => ∃ (j : Nat) (ov wv : Value), j ≤ 2 ∧ v14 = .int .i64 (j : Int) ∧ PlW w gw g su p ov wv (L.map (·.1) ++ (List.range j).map g) (L.map (·.2) ++ (List.range j).map p) L W) (fun v14 _ => 2 - (intOf v14).toNat)
              case atStart => exact ⟨0, ov, wv, by omega, rfl, by simpa using hP⟩
              case round =>
                clear hP ov wv
                obtain ⟨j, ov, wv, hj, rfl, hP⟩ := hrel
                by_cases hj2 : j < 2
                · have hdj : decide ((j : Int) < 2) = true := by simp; omega
                  have hdj' : (j : Int) < 2 := by omega
                  obtain ⟨cw, kw, hw⟩ := hP.blk
                  have c22 : ∀ s' : InC (fun W => Blk W gw 82 cw), s'.W.cell? ⟨gw, 22, none⟩ = some ov := fun s' => by rw [s'.ok.cell]; exact hw.o
                  have cj : ∀ s' : InC (fun W => Blk W gw 82 cw), s'.W.cell? ⟨gw, j, none⟩ = some (.pointer (some ⟨g j, 0, none⟩)) := fun s' => by rw [s'.ok.cell]; exact hw.s j hj2
                  obtain ⟨gj, hgj⟩ : ∃ x, g j = x := ⟨_, rfl⟩
                  rw [hgj] at cj
                  have hS : Blk wr.drew gw 82 cw := kw.drew
                  have hB : Below wr.heap.size wr wr.drew := (Below.refl _ _).drew
                  have Hgj := Lib.hid hgj
                  clear kw hgj
                  go_wp2_with fail
                  refine wp_region_mix_last (fun W => Blk W gw 82 cw) 15 [(0, true), (1, true), (2, true), (3, true), (4, true), (5, true), (6, true), (7, true), (8, true), (9, true), (10, true), (11, false), (12, false), (13, false), (14, true)] (by kernel_rfl) (by kernel_rfl) hS fun _ => ?_
                  simp only [List.map_cons, List.map_nil, Array.getD_eq_getD_getElem?, List.getElem?_toArray, List.getElem?_cons_succ, List.getElem?_cons_zero, Option.getD_some]
                  generalize wr.drew = W0 at hS hB ⊢
                  refine wpMix_s (fun K hK => ?_)
                  go_simp
                  refine hK _ ?_
                  clear hK K
                  refine wpMix_s (fun K hK => ?_)
                  go_simp
                  refine hK _ ?_
                  clear hK K
                  refine wpMix_s (fun K hK => ?_)
                  go_simp
                  refine hK _ ?_
                  clear hK K
                  refine wpMix_s (fun K hK => ?_)
                  go_simp
                  refine hK _ ?_
                  clear hK K
                  refine wpMix_s (fun K hK => ?_)
                  go_simp
                  refine hK _ ?_
                  clear hK K
                  refine wpMix_s (fun K hK => ?_)
                  go_simp
                  refine hK _ ?_
                  clear hK K
                  refine wpMix_s (fun K hK => ?_)
                  go_simp
                  refine hK _ ?_
                  clear hK K
                  refine wpMix_s (fun K hK => ?_)
                  go_simp
                  refine hK _ ?_
                  clear hK K
                  refine wpMix_s (fun K hK => ?_)
                  go_simp
                  refine hK _ ?_
                  clear hK K
                  refine wpMix_s (fun K hK => ?_)
                  go_simp
                  refine hK _ ?_
                  clear hK K
                  refine wpMix_s (fun K hK => ?_)
                  go_simp
                  refine hK _ ?_
                  clear hK K
                  have h25 := hP.step hB
                  obtain ⟨v', W', hr', hv1, hcl, hfr, hgO, hQ⟩ := h25.appO gj (by rw [List.length_append, List.length_map, List.length_map, List.length_range]; omega)
                  have HQ := Lib.hid hQ
                  clear hQ
                  refine wpMix_run (by kernel_rfl) (.slice (some ⟨W0.heap.size, 0, none⟩) 1 1) (W0.alloc (.cells #[sptr gj] 38)) (by kernel_rfl) (hS.alloc _) ?_
                  simp only [Act.put]
                  have hrs : Blk W' gw 82 cw := hS.grown hgO (own_neS h25.old hS (by decide))
                  refine wpMix_run (by kernel_rfl) v' W' (run_append_op (.tmp 112) (.tmp 119) 79 rfl _ _ rfl rfl hr') hrs ?_
                  simp only [Act.put]
                  clear h25
                  refine wpMix_c (fun K hK => ?_) hrs
                  go_simp
                  refine hK _ _ ?_
                  clear hK K
                  refine ⟨hrs, ?_⟩
                  refine wpMix_s (fun K hK => ?_)
                  go_simp
                  refine hK _ ?_
                  clear hK K
                  refine wpMix_nil ?_
                  intro _
                  simp only [List.drop_succ_cons, List.drop_zero]
                  clear c22 cj hw
                  go_wp2_with ((with_reducible show wpList _ _ _ [⟨none, .store _ _ _, _, _, _, _⟩] _ _); refine wpList_put1i rfl 79 (.tmp 122) (.tmp 120) rfl sizeOS ⟨gw, 22, none⟩ v' rfl rfl hv1 _ hcl hfr ?_; simp only [Act.put])
                  refine np_normal ?_
                  obtain ⟨w7, hw7⟩ : ∃ x, W'.setCell ⟨gw, 22, none⟩ v' = x := ⟨_, rfl⟩
                  have hQ := HQ.out
                  rw [hw7] at hQ ⊢
                  clear hw7 hcl hfr hv1 hr' hgO HQ hP hS hB hrs
                  obtain ⟨cw, kw, hw⟩ := hQ.blk
                  obtain ⟨cd, hcd⟩ : ∃ x, (p j).cells.toArray = x := ⟨_, rfl⟩
                  have hcd10 : cd.size = 10 := by rw [← hcd]; exact (p j).len
                  have c23 : ∀ s' : InC (fun W => Blk W gw 82 cw), s'.W.cell? ⟨gw, 23, none⟩ = some wv := fun s' => by rw [s'.ok.cell]; exact hw.w
                  have hS : Blk w7.drew gw 82 cw := kw.drew
                  have hB : Below w7.heap.size w7 w7.drew := (Below.refl _ _).drew
                  have Hcd := Lib.hid hcd
                  clear kw hcd
                  go_wp2_with fail
                  refine wp_region_mix_last (fun W => Blk W gw 82 cw) 15 [(0, true), (1, true), (2, true), (3, true), (4, true), (5, true), (6, true), (7, true), (8, true), (9, true), (10, true), (11, false), (12, false), (13, false), (14, true)] (by kernel_rfl) (by kernel_rfl) hS fun _ => ?_
                  simp only [List.map_cons, List.map_nil, Array.getD_eq_getD_getElem?, List.getElem?_toArray, List.getElem?_cons_succ, List.getElem?_cons_zero, Option.getD_some]
                  generalize w7.drew = Z0 at hS hB ⊢
                  refine wpMix_s (fun K hK => ?_)
                  go_simp
                  refine hK _ ?_
                  clear hK K
                  refine wpMix_s (fun K hK => ?_)
                  go_simp
                  refine hK _ ?_
                  clear hK K
                  refine wpMix_s (fun K hK => ?_)
                  go_simp
                  refine hK _ ?_
                  clear hK K
                  refine wpMix_s (fun K hK => ?_)
                  go_simp
                  refine hK _ ?_
                  clear hK K
                  refine wpMix_s (fun K hK => ?_)
                  go_simp
                  refine hK _ ?_
                  clear hK K
                  refine wpMix_s (fun K hK => ?_)
                  go_simp
                  refine hK _ ?_
                  clear hK K
                  refine wpMix_s (fun K hK => ?_)
                  go_simp
                  refine hK _ ?_
                  clear hK K
                  refine wpMix_s (fun K hK => ?_)
                  go_simp
                  refine hK _ ?_
                  clear hK K
                  refine wpMix_s (fun K hK => ?_)
                  go_simp
                  refine hK _ ?_
                  clear hK K
                  refine wpMix_s (fun K hK => ?_)
                  go_simp
                  refine hK _ ?_
                  clear hK K
                  refine wpMix_load (by kernel_rfl) 77 (.tmp 132) rfl gw (2 + j * 10) rfl cd (fun s => by
                    rw [← Hcd.out]
                    exact run_load_agg (agg77 _) (size77 _) _ _ (p j).cells (p j).len fun i v hv => by
                      rw [s.ok.cell]
                      exact hw.u j hj2 i v hv) ?_
                  simp only [Act.put]
                  have h26 := hQ.step hB
                  have hU := h26.appU (p j) (by rw [List.length_append, List.length_map, List.length_map, List.length_range]; omega)
                  rw [Hcd.out] at hU
                  obtain ⟨v9, W9, hr9, hv9, hcl9, hfr9, hg9, hT⟩ := hU
                  have HT := Lib.hid hT
                  clear hT
                  refine wpMix_run (by kernel_rfl) (.slice (some ⟨Z0.heap.size, 0, none⟩) 1 1) (Z0.alloc (.cells cd 77)) (bsU_op (.tmp 133) rfl rfl hcd10 Z0) (hS.alloc _) ?_
                  simp only [Act.put]
                  replace hS := hS.grown hg9 (own_neS h26.was hS (by decide))
                  refine wpMix_run (by kernel_rfl) v9 W9 (run_append_op (.tmp 127) (.tmp 134) 80 rfl _ _ rfl rfl hr9) hS ?_
                  simp only [Act.put]
                  clear h26
                  refine wpMix_c (fun K hK => ?_) hS
                  go_simp
                  refine hK _ _ ?_
                  clear hK K
                  refine ⟨hS, ?_⟩
                  refine wpMix_s (fun K hK => ?_)
                  go_simp
                  refine hK _ ?_
                  clear hK K
                  refine wpMix_nil ?_
                  intro _
                  simp only [List.drop_succ_cons, List.drop_zero]
                  clear c23 hw
                  go_wp2_with ((with_reducible show wpList _ _ _ [⟨none, .store _ _ _, _, _, _, _⟩] _ _); refine wpList_put1i rfl 80 (.tmp 137) (.tmp 135) rfl sizeOU ⟨gw, 23, none⟩ v9 rfl rfl hv9 _ hcl9 hfr9 ?_; simp only [Act.put])
                  refine np_normal ?_
                  obtain ⟨w8, hw8⟩ : ∃ x, W9.setCell ⟨gw, 23, none⟩ v9 = x := ⟨_, rfl⟩
                  have hT := HT.out
                  rw [hw8] at hT ⊢
                  clear hw8 hcl9 hfr9 hv9 hr9 hg9 HT hQ hS hB
                  go_wp2_with fail
                  go_roundw
                  case rel =>
                    rw [range_map_succ, ← Hgj.out, range_map_succ] at hT
                    exact ⟨j + 1, v', v9, by omega, by go_num, hT⟩
                  case measure => simp [intOf]; omega
                · have hje : j = 2 := by omega
                  have hdj : decide ((j : Int) < 2) = false := by simp; omega
                  rw [hje] at hP
                  have Hje := Lib.hid hje
                  clear hje
                  go_wp2_with fail
                  obtain ⟨lo, hlo⟩ : ∃ x, L.map (·.1) ++ (List.range 2).map g = x := ⟨_, rfl⟩
                  obtain ⟨lu, hlu⟩ : ∃ x, L.map (·.2) ++ (List.range 2).map p = x := ⟨_, rfl⟩
                  have hN1 : lo.length = L.length + 2 := by rw [← hlo]; simp
                  have hN2 : lu.length = L.length + 2 := by rw [← hlu]; simp
                  obtain ⟨N, hN⟩ : ∃ x, L.length + 2 = x := ⟨_, rfl⟩
                  rw [hlo, hlu] at hP
                  rw [hN] at hN1 hN2
                  obtain ⟨Ao, co, rfl, hso⟩ := owns_slv hP.old
                  obtain ⟨Au, cu, rfl, hsu2⟩ := owns_slv hP.was
                  obtain ⟨go, oo, rfl, -, -, -⟩ := hso.at_ (by omega) (by decide)
                  obtain ⟨gu, ou, rfl, -, -, -⟩ := hsu2.at_ (by omega) (by decide)
                  have hro := hso.room
                  have hmo := hso.max
                  have hru := hsu2.room
                  have hmu := hsu2.max
                  unfold maxLen at hmo hmu
                  rw [hN1] at hP hro
                  rw [hN2] at hP hru
                  have Hlo := Lib.hid hlo
                  have Hlu := Lib.hid hlu
                  have HN1 := Lib.hid hN1
                  have HN2 := Lib.hid hN2
                  have HN := Lib.hid hN
                  have Hsu := Lib.hid hsu
                  clear hlo hlu hN1 hN2 hN hso hsu2 hsu
                  go_loopw [15] (fun v15 W => ∃ (i : Nat), i ≤ N ∧ v15 = .int .i64 (i : Int) ∧ PlW w gw g su p (.slice (some ⟨go, oo, none⟩) N co) (.slice (some ⟨gu, ou, none⟩) N cu) lo lu L W) (fun v15 _ => N - (intOf v15).toNat)
                  case atStart => exact ⟨0, Nat.zero_le _, rfl, hP⟩
                  case round =>
                    clear hP
                    obtain ⟨i, hi, rfl, hP⟩ := hrel
                    obtain ⟨cw, kw, hw⟩ := hP.blk
                    have c22 : ∀ s' : InC (fun W => Below wr.heap.size wr W), s'.W.cell? ⟨gw, 22, none⟩ = some (.slice (some ⟨go, oo, none⟩) N co) := fun s' => by rw [(kw.below s'.ok kw.lt).cell]; exact hw.o
                    have c22' : wr.cell? ⟨gw, 22, none⟩ = some (.slice (some ⟨go, oo, none⟩) N co) := by rw [kw.cell]; exact hw.o
                    have c23 : ∀ s' : InC (fun W => Below wr.heap.size wr W), s'.W.cell? ⟨gw, 23, none⟩ = some (.slice (some ⟨gu, ou, none⟩) N cu) := fun s' => by rw [(kw.below s'.ok kw.lt).cell]; exact hw.w
                    by_cases hin : i < N
                    · have hdi : decide ((i : Int) < (N : Int)) = true := by simp; omega
                      obtain ⟨x, hx1, hx2, hpx⟩ := hP.every Hsu.out Hlo.out.symm Hlu.out.symm i (by rw [HN.out]; exact hin)
                      have hso := (owns_slv hP.old)
                      have hsu2 := (owns_slv hP.was)
                      rw [HN1.out] at hso
                      rw [HN2.out] at hsu2
                      obtain ⟨A5, c5, e5, h5⟩ := hso
                      obtain ⟨A6, c6, e6, h6⟩ := hsu2
                      cases e5
                      cases e6
                      obtain ⟨b5, o5, e5, l5, -, k5⟩ := h5.at_ (by omega) (by decide)
                      obtain ⟨b6, o6, e6, l6, -, k6⟩ := h6.at_ (by omega) (by decide)
                      cases e5
                      cases e6
                      have cp : ∀ s' : InC (fun W => Below wr.heap.size wr W), s'.W.cell? ⟨go, oo + i, none⟩ = some (.pointer (some ⟨x.1, 0, none⟩)) := fun s' => by
                        rw [s'.ok.cell (p := ⟨go, oo + i, none⟩) l5]
                        refine k5 i _ ?_
                        unfold pastS
                        rw [List.getElem?_map, hx1]
                        rfl
                      obtain ⟨cx, hcx⟩ : ∃ y, x.2.cells.toArray = y := ⟨_, rfl⟩
                      have lp : ∀ s' : InC (fun W => Below wr.heap.size wr W), (Instr.loadAt 77 (.pointer (some ⟨gu, ou + i * 10, none⟩))).run Try.prog s'.W = .ok (.agg cx) s'.W := fun s' => by
                        rw [← hcx]
                        exact run_load_agg (agg77 _) (size77 _) _ _ x.2.cells x.2.len fun q v hv => by
                          rw [s'.ok.cell (p := ⟨gu, ou + i * 10 + q, none⟩) l6, Nat.add_assoc]
                          exact k6 _ v (pastU_get lu i x.2 hx2 q v hv)
                      have htd := fun W (hb : Below wr.heap.size wr W) => told_any x.1 x.2.u x.2.A x.2.n x.2.c W (hpx.sh.stepS hb) hpx.len (hpx.sl.step hb)
                      have hvx : undV x.2.u (.slice x.2.A x.2.n x.2.c) = .agg cx := by rw [← hcx]; rfl
                      rw [hvx] at htd
                      obtain ⟨gx, hgx⟩ : ∃ y, x.1 = y := ⟨_, rfl⟩
                      rw [hgx] at cp htd
                      have Htd := Lib.hid htd
                      have hS : Below wr.heap.size wr wr.drew := (Below.refl _ _).drew
                      clear hcx hvx htd hgx hpx hx1 hx2 k5 k6 h5 h6 kw hw
                      go_wp2_with fail
                      refine wp_region_mix (fun W => Below wr.heap.size wr W) [(0, true), (1, true), (2, true), (3, true), (4, true), (5, true), (6, true), (7, true), (8, true), (9, true), (10, true), (11, true), (12, true), (13, true), (14, false), (15, true)] (by kernel_rfl) (by kernel_rfl) hS fun _ => ?_
                      simp only [List.map_cons, List.map_nil, Array.getD_eq_getD_getElem?, List.getElem?_toArray, List.getElem?_cons_succ, List.getElem?_cons_zero, Option.getD_some]
                      generalize wr.drew = Y0 at hS ⊢
                      refine wpMix_s (fun K hK => ?_)
                      go_simp
                      refine hK _ ?_
                      clear hK K
                      refine wpMix_s (fun K hK => ?_)
                      go_simp
                      refine hK _ ?_
                      clear hK K
                      refine wpMix_s (fun K hK => ?_)
                      go_simp
                      refine hK _ ?_
                      clear hK K
                      refine wpMix_s (fun K hK => ?_)
                      go_simp
                      refine hK _ ?_
                      clear hK K
                      refine wpMix_s (fun K hK => ?_)
                      go_simp
                      refine hK _ ?_
                      clear hK K
                      refine wpMix_s (fun K hK => ?_)
                      go_simp
                      refine hK _ ?_
                      clear hK K
                      refine wpMix_s (fun K hK => ?_)
                      go_simp
                      refine hK _ ?_
                      clear hK K
                      refine wpMix_s (fun K hK => ?_)
                      go_simp
                      refine hK _ ?_
                      clear hK K
                      refine wpMix_s (fun K hK => ?_)
                      go_simp
                      refine hK _ ?_
                      clear hK K
                      refine wpMix_s (fun K hK => ?_)
                      go_simp
                      refine hK _ ?_
                      clear hK K
                      refine wpMix_s (fun K hK => ?_)
                      go_simp
                      refine hK _ ?_
                      clear hK K
                      refine wpMix_s (fun K hK => ?_)
                      go_simp
                      refine hK _ ?_
                      clear hK K
                      refine wpMix_s (fun K hK => ?_)
                      go_simp
                      refine hK _ ?_
                      clear hK K
                      refine wpMix_load (by kernel_rfl) 77 (.tmp 159) rfl (gu) (ou + i * 10) rfl cx (lp) ?_
                      simp only [Act.put]
                      refine wpMix_c (fun K hK => ?_) hS
                      go_simp
                      refine (Htd.out _ hS).mono ?_
                      rintro e Y0_1 ⟨rfl, hb'⟩
                      refine hK _ _ ?_
                      clear hK K
                      replace hS := hS.trans (hb'.mono hS.size)
                      refine ⟨hS, ?_⟩
                      clear hb'
                      refine wpMix_s (fun K hK => ?_)
                      go_simp
                      refine hK _ ?_
                      clear hK K
                      refine wpMix_nil ?_
                      intro _
                      replace hP := hP.step hS
                      clear c22 c22' c23 cp lp hS
                      go_wp2_with fail
                      go_roundw
                      case rel => exact ⟨i + 1, by omega, by go_num, hP⟩
                      case measure => simp [intOf]; omega
                    · have hdi : decide ((i : Int) < (N : Int)) = false := by simp; omega
                      clear c22 c23 kw hw
                      go_wp2_with (go_at_call 18; refine (known_any wr).mono ?_; rintro e W9 ⟨rfl, hb9⟩)
                      go_ret
                      exact ⟨rfl, (hP.step hb9).bel⟩
  | none =>
    obtain rfl := hof2 hu
    clear hof1 hof2
    go_wp2_with fail
    refine Hrof.out.mono ?_
    rintro e w4 ⟨hb4, -, hr2⟩
    obtain rfl := hr2 hu
    clear hr2 hu
    have hz34 := hb4.size
    have kw4 := kw3.below hb4 kw3.lt
    have B4 : Below w.heap.size w w4 := B3.trans (hb4.mono B3.size)
    have hlm4 := hlm3.step hb4
    have oa4 := oa3.step hb4
    have hval : undV Und.zero (.slice none 0 0) = .agg zs := by rw [← Hzs.out]; rfl
    have hzs1 : ∀ v ∈ zs.toList, v.oneCell' = true := by rw [← Hzs.out]; exact undCells_one
    rw [hval]
    have Hzs1 := Lib.hid hzs1
    clear hval kw3 hlm3 oa3 hb4 hzs1
    go_wp2_with (first
      | ((with_reducible show wpList _ _ _ (⟨some 9, .alloc _, _, _, _, _⟩ :: _) _ _); refine wpList_varA (T := 77) (zs := zs) (cs := zs) 10 (.tmp 9) (.tmp 29) rfl rfl (by rw [← Hzs.out]; kernel_rfl) size77 rfl rfl rfl hz10 hz10 Hzs1.out ?_; intro w5 k5 hb5; simp only [Act.put]; have hlm5 := hlm4.step hb5; have B5 := B4.trans (hb5.mono B4.size))
      | (go_at_call 17; refine (kept_any gm n cm l A c w5 (LentB.weakT hlm5) ((Hh.out.below B5 fun b _ hb => hb).all) (by omega)).mono ?_; rintro e w6 ⟨rfl, hw6⟩; obtain rfl := hw6))
    have kw5 := kw4.below hb5 kw4.lt
    have oa5 := oa4.step hb5
    obtain ⟨g9, hg9⟩ : ∃ x, w4.heap.size = x := ⟨_, rfl⟩
    rw [hg9] at k5 hz34
    rw [hg9]
    clear hlm5 hlm4 kw4 oa4 hb5 B4 hg9
    go_loopw [11] (fun i wr => ∃ q : Nat, q ≤ n ∧ i = .int .i64 q ∧ w5.grownBy wr (some gm) ∧ OwnAny wr w1.heap.size (.slice (some ⟨gm, 0, none⟩) n cm) n) (fun i _ => n - (intOf i).toNat)
    case atStart => exact ⟨0, Nat.zero_le _, rfl, World.grownBy.refl _ _, oa5⟩
    case round =>
      clear oa5
      obtain ⟨q, hq, rfl, hgr, oa⟩ := hrel
      by_cases hlt : q < n
      · have hdq : decide ((q : Int) < (n : Int)) = true := by simp; omega
        obtain ⟨gb, cb, e, -, -, -, -, hcell⟩ := oa.at_ (by omega)
        cases e
        obtain ⟨⟨u0, hu⟩, hf⟩ := hcell q hlt
        clear hcell
        go_wp2_with fail
        go_roundw
        case rel => exact ⟨q + 1, by omega, by go_num, grown_setCell hgr q _, oa.setCell _ _ _⟩
        case measure => simp [intOf]; omega
      · have hdq : decide ((q : Int) < (n : Int)) = false := by simp; omega
        have kw6 : Blk wr gw 82 zw := kw5.grown hgr (fun e => by have e := Option.some.inj e; omega)
        have k96 : Blk wr g9 77 zs := k5.grown hgr (fun e => by have e := Option.some.inj e; omega)
        have B6 : Below w.heap.size w wr := B5.grown hgr B5.size fun j hj => by have e := Option.some.inj hj; omega
        have hlw : w.heap.size ≤ gw := by omega
        obtain ⟨d, hd⟩ : ∃ d : UndD, d = ⟨Und.new, none, 0, 0⟩ := ⟨_, rfl⟩
        obtain ⟨cd, hcd⟩ : ∃ x, d.cells.toArray = x := ⟨_, rfl⟩
        have hcd10 : cd.size = 10 := by rw [← hcd]; exact d.len
        have hcd1 : ∀ v ∈ cd.toList, v.oneCell' = true := by rw [← hcd]; exact d.one
        have hval : undV Und.new (.slice none 0 0) = .agg cd := by rw [← hcd, hd]; rfl
        have hdu : d.u = Und.new := by rw [hd]
        have hul : d.u.len ≤ 1152921504606846976 := by rw [hdu]; exact Nat.zero_le _
        have hdr : ∀ W X, Sl W X d.A d.n d.c d.u.rest := fun W X => by rw [hd]; exact Sl.nil
        have Hcd := Lib.hid hcd
        have Hcd1 := Lib.hid hcd1
        have Hval := Lib.hid hval
        have Hdu := Lib.hid hdu
        have hlg9 : w.heap.size ≤ wr.heap.size := B6.size
        clear kw5 k5 B5 hgr oa Hrof B1 B2 B3 hcd hcd1 hval hd hdu
        go_wp2_with fail
        refine (new_any wr).mono ?_
        rintro e w7 ⟨g0, rfl, hg0, hs7, hb7⟩
        have k97 := k96.below hb7 k96.lt
        have kw7 := kw6.below hb7 kw6.lt
        have B7 := B6.trans (hb7.mono B6.size)
        have hgwr := kw6.lt
        clear kw6 k96 B6 hb7
        go_wp2_with fail
        refine (rnew_any w7).mono ?_
        rintro e w8 ⟨rfl, hb8⟩
        have k98 := k97.below hb8 k97.lt
        have kw8 := kw7.below hb8 kw7.lt
        have B8 := B7.trans (hb8.mono B7.size)
        have hs8 := hs7.stepS hb8
        clear k97 kw7 B7 hs7 hb8
        rw [Hval.out]
        have hne98 : g9 ≠ gw := k98.neS kw8 (by decide)
        have hne90 : g9 ≠ g0 := fun e => by obtain ⟨_, kk⟩ := hs8.blkS; exact (k98.neS kk (by decide)) e
        have hg90 : w.heap.size ≤ g9 := by omega
        have hgr8 : w8.grownBy (w8.setRow g9 cd) (some g9) := grown_setRow (World.grownBy.refl _ _) _
        have kw6 : Blk (w8.setRow g9 cd) gw 82 zw := kw8.setRow_apart (fun e => hne98 e.symm) cd
        have hs6 : Sh (w8.setRow g9 cd) g0 d.u := by rw [Hdu.out]; exact hs8.grownS hgr8 (fun e => hne90 (Option.some.inj e).symm)
        have k96 : Blk (w8.setRow g9 cd) g9 77 cd := k98.setRow_ cd
        have sl6 : Sl (w8.setRow g9 cd) (fun b => b ≠ gw ∧ b ≠ g0) d.A d.n d.c d.u.rest := hdr _ _
        have B6 : Below w.heap.size w (w8.setRow g9 cd) := below_setRow B8 hg90 cd
        have hg0l : w.heap.size ≤ g0 := by omega
        have hg0w : gw < g0 := by omega
        obtain ⟨w6', hw6'⟩ : ∃ x, w8.setRow g9 cd = x := ⟨_, rfl⟩
        rw [hw6'] at kw6 hs6 k96 sl6 B6
        have Hw6' := Lib.hid hw6'
        clear hgr8 hw6' kw8 hs8 B8 hdr
        go_wp2_with (first
          | ((with_reducible show wpList _ _ _ [⟨none, .store _ _ _, _, _, _, _⟩] _ _); refine wpList_store_blk rfl 77 (.tmp 9) (.tmp 59) rfl 10 size77 g9 cd rfl rfl hcd10 Hcd1.out 77 _ k98 hz10 ?_; simp only [Act.put]; rw [Hw6'.out]))
        clear k98
        obtain ⟨w6, hw6⟩ : ∃ x, w6' = x := ⟨_, rfl⟩
        rw [hw6] at kw6 hs6 k96 sl6 B6 ⊢
        clear hw6
        obtain ⟨cn, hcn⟩ : ∃ x, (⟨Und.new, none, 0, 0⟩ : UndD).cells.toArray = x := ⟨_, rfl⟩
        have hcn10 : cn.size = 10 := by rw [← hcn]; exact UndD.len _
        have hcn1 : ∀ v ∈ cn.toList, v.oneCell' = true := by rw [← hcn]; exact UndD.one _
        have hnv : undV Und.new (.slice none 0 0) = .agg cn := by rw [← hcn]; rfl
        have Hcn := Lib.hid hcn
        have Hcn1 := Lib.hid hcn1
        have Hnv := Lib.hid hnv
        clear hcn hcn1 hnv
        have hS : Blk w6.drew g9 77 cd := k96.drew
        have hB : Below w6.heap.size w6 w6.drew := (Below.refl _ _).drew
        have hzz : zw.size = 24 := by rw [← Hzw.out]; simp [zeroW, undCells]
        have hg9w : g9 ≠ gw := k96.neS kw6 (by decide)
        refine wp_region_mix (fun W => Blk W g9 77 cd) [(0, true), (1, true), (2, true), (5, true), (3, false), (4, true), (6, false), (7, true), (8, true), (9, true), (10, false), (11, true), (12, true), (13, false)] (by kernel_rfl) (by kernel_rfl) hS fun _ => ?_
        simp only [List.map_cons, List.map_nil, Array.getD_eq_getD_getElem?, List.getElem?_toArray, List.getElem?_cons_succ, List.getElem?_cons_zero, Option.getD_some]
        generalize w6.drew = W0 at hS hB ⊢
        refine wpMix_s (fun K hK => ?_)
        go_simp
        refine hK _ ?_
        clear hK K
        refine wpMix_s (fun K hK => ?_)
        go_simp
        refine hK _ ?_
        clear hK K
        refine wpMix_s (fun K hK => ?_)
        go_simp
        refine hK _ ?_
        clear hK K
        refine wpMix_load (by kernel_rfl) 77 (.tmp 9) rfl (g9) (0) rfl cd (fun s => run_load_blk (agg77 _) (size77 _) _ _ hcd10 s.ok) ?_
        simp only [Act.put]
        refine wpMix_c (fun K hK => ?_) hS
        go_simp
        refine (new_any W0).mono ?_
        rintro e W7 ⟨g1, rfl, hg1, hs1, hb7⟩
        refine hK _ _ ?_
        clear hK K
        replace hS := hS.below hb7 hS.lt
        refine ⟨hS, ?_⟩
        have hB7 := hB.trans (hb7.mono hB.size)
        replace hg1 := Nat.le_trans hB.size hg1
        clear hb7
        refine wpMix_s (fun K hK => ?_)
        go_simp
        refine hK _ ?_
        clear hK K
        refine wpMix_c (fun K hK => ?_) hS
        go_simp
        refine (rnew_any W7).mono ?_
        rintro e W8 ⟨rfl, hb8⟩
        rw [Hnv.out]
        refine hK _ _ ?_
        clear hK K
        replace hS := hS.below hb8 hS.lt
        refine ⟨hS, ?_⟩
        have hB8 := hB7.trans (hb8.mono hB7.size)
        replace hs1 := hs1.stepS hb8
        clear hb8 hB7
        refine wpMix_v (by kernel_rfl) (.agg (cd ++ cn)) (fun s => build2U_op (.tmp 65) (.tmp 66) rfl rfl rfl hcd10 hcn10 s.W) ?_
        simp only [Act.put]
        refine wpMix_s (fun K hK => ?_)
        go_simp
        refine hK _ ?_
        clear hK K
        refine wpMix_s (fun K hK => ?_)
        go_simp
        refine hK _ ?_
        clear hK K
        have kw8 := kw6.below hB8 kw6.lt
        have k9w := kw8.setRow_ (zw.toList.take 0 ++ #[sptr g0, sptr g1].toList ++ zw.toList.drop (0 + 2)).toArray
        replace hS := hS.setRow_apart hg9w (zw.toList.take 0 ++ #[sptr g0, sptr g1].toList ++ zw.toList.drop (0 + 2)).toArray
        refine wpMix_store_agg rfl 75 (.tmp 69) (.tmp 64) rfl 2 sizeA2 gw 0 #[sptr g0, sptr g1] rfl rfl rfl (by intro v hv; simp at hv; rcases hv with rfl | rfl <;> rfl) 82 zw kw8 (by omega) hS ?_
        simp only [Act.put]
        obtain ⟨za, hza⟩ : ∃ x, (zw.toList.take 0 ++ #[sptr g0, sptr g1].toList ++ zw.toList.drop (0 + 2)).toArray = x := ⟨_, rfl⟩
        rw [hza] at k9w hS ⊢
        have hzas : za.size = 24 := by rw [← hza]; simp [hzz]
        refine wpMix_s (fun K hK => ?_)
        go_simp
        refine hK _ ?_
        clear hK K
        refine wpMix_s (fun K hK => ?_)
        go_simp
        refine hK _ ?_
        clear hK K
        have k10w := k9w.setRow_ (za.toList.take 2 ++ (cd ++ cn).toList ++ za.toList.drop (2 + 20)).toArray
        replace hS := hS.setRow_apart hg9w (za.toList.take 2 ++ (cd ++ cn).toList ++ za.toList.drop (2 + 20)).toArray
        refine wpMix_store_agg rfl 78 (.tmp 71) (.tmp 67) rfl 20 sizeU2 gw 2 (cd ++ cn) rfl rfl (by rw [Array.size_append, hcd10, hcn10]) (by intro v hv; rw [Array.toList_append] at hv; rcases List.mem_append.1 hv with hv | hv; exact Hcd1.out v hv; exact Hcn1.out v hv) 82 za k9w (by omega) hS ?_
        simp only [Act.put]
        refine wpMix_nil ?_
        intro _
        obtain ⟨w9, hw9⟩ : ∃ x, (W8.setRow gw za).setRow gw (za.toList.take 2 ++ (cd ++ cn).toList ++ za.toList.drop (2 + 20)).toArray = x := ⟨_, rfl⟩
        rw [hw9] at hS k10w ⊢
        have hgr9 : W8.grownBy w9 (some gw) := by rw [← hw9]; exact grown_setRow (grown_setRow (World.grownBy.refl _ _) _) _
        have hP : PlW w gw (two g0 g1) (two d.u Und.new) (two d ⟨Und.new, none, 0, 0⟩) (.slice none 0 0) (.slice none 0 0) [] [] [] w9 := by
          have hgl6 := hs6.ltS
          have hn1 : some g1 ≠ some gw := fun e => by have e := Option.some.inj e; have := kw6.lt; omega
          have hn0 : some g0 ≠ some gw := fun e => by have e := Option.some.inj e; omega
          have h9 : ∀ k, k < 2 → Pair w9 (Free gw (two g0 g1) (.slice none 0 0) (.slice none 0 0)) (two g0 g1 k) (two d.u Und.new k) (two d ⟨Und.new, none, 0, 0⟩ k) := fun k hk => by
            rcases (by omega : k = 0 ∨ k = 1) with rfl | rfl
            · refine ⟨(hs6.stepS hB8).grownS hgr9 hn0, hul, ?_⟩
              refine Sl.grown (row := some gw) ?_ hgr9 fun b _ hb e => hb.1 (Option.some.inj e)
              exact (sl6.weak (Y := Free gw (two g0 g1) (.slice none 0 0) (.slice none 0 0)) fun b hb hx => ⟨hx.1, hx.2, (fun e => by have e : b = g1 := e; omega), (fun e => by cases e), (fun e => by cases e)⟩).step hB8
            · exact ⟨hs1.grownS hgr9 hn1, Nat.zero_le _, Sl.nil⟩
          refine ⟨⟨_, k10w, ?_⟩, h9, fun e => by have e : g0 = g1 := e; omega, World.ownsRow_nil _ _ _ _, World.ownsRow_nil _ _ _ _, (fun x hx => by cases hx), hlw, fun k hk => ?_, (B6.trans (hB8.mono B6.size)).grown hgr9 (Nat.le_trans B6.size hB8.size) fun j hj => by have e := Option.some.inj hj; omega⟩
          · have := WC_init g0 g1 d ⟨Und.new, none, 0, 0⟩
            rw [Hzw.out, Hcd.out, Hcn.out] at this
            rw [← hza]
            exact this
          · rcases (by omega : k = 0 ∨ k = 1) with rfl | rfl
            · exact hg0l
            · show w.heap.size ≤ g1
              have := B6.size
              omega
        have hsu : ∀ k, k < 2 → two d.u Und.new k = (two d ⟨Und.new, none, 0, 0⟩ k).u := fun k hk => by
          rcases (by omega : k = 0 ∨ k = 1) with rfl | rfl <;> rfl
        obtain ⟨cw, kw9, hw9c⟩ := hP.blk
        have c90 : w9.cell? ⟨gw, 0, none⟩ = some (.pointer (some ⟨g0, 0, none⟩)) := by rw [kw9.cell]; exact hw9c.s 0 (by decide)
        have c91 : w9.cell? ⟨gw, 1, none⟩ = some (.pointer (some ⟨g1, 0, none⟩)) := by rw [kw9.cell]; exact hw9c.s 1 (by decide)
        have hR : StepR w gw w9 := ⟨_, _, _, _, _, [], hP, hsu, by simp⟩
        clear hw9 hS k10w hgr9 hP hsu kw9 hw9c hs1 hB8 hza k9w kw8 kw6 hs6 k96 sl6 B6
        go_wp2_with fail
        clear c90 c91
        go_loopw [12] (fun v12 W => ∃ i : Nat, i ≤ n2 ∧ i ≤ 200 ∧ v12 = .int .i64 (i : Int) ∧ StepR w gw W) (fun v12 _ => n2 - (intOf v12).toNat)
        case atStart => exact ⟨0, Nat.zero_le _, by omega, rfl, hR⟩
        case round =>
          clear hR
          obtain ⟨i, hi, hi2, rfl, hR⟩ := hrel
          by_cases hgo : i < n2 ∧ i < 200
          · obtain ⟨hin, hi200⟩ := hgo
            have hd1 : decide ((i : Int) < (n2 : Int)) = true := by simp; omega
            have hd2 : decide ((i : Int) < 200) = true := by simp; omega
            have hil : i < ss.length := by rw [Hlen2.out]; exact hin
            obtain ⟨b, o', hA2, hbl, -⟩ := HS.out.at_ i hil
            subst hA2
            obtain ⟨g, su, p, ov, wv, L, hP, hsu, hL⟩ := hR
            obtain ⟨s1, s2, s3, s4⟩ := HS.out.ins ss[i] (List.getElem_mem hil)
            have hld := HS.out.load hP.bel i hil rfl
            have hst := pstep_any w _ gw g su p ov wv L ss[i] hP hsu hL (s1.below hP.bel fun b _ hb => hb) s2 s3 s4
            obtain ⟨s, hs_⟩ : ∃ s, ss[i] = s := ⟨_, rfl⟩
            rw [hs_] at hst hld
            have hl2 : i < n2 := hin
            have Hst := Lib.hid hst
            have Hld := Lib.hid hld
            clear hst hld hs_ s1 s2 s3 s4 hP hsu
            go_wp2_with (first
              | ((with_reducible show wpList _ _ _ (⟨some 100, .load _ _, _, _, _, _⟩ :: _) _ _); refine wpList_load rfl 88 (.tmp 99) rfl b (o' + i * 3) rfl s.cells Hld.out ?_; simp only [Act.put])
              | (go_at_call 49; refine Hst.out.mono ?_; rintro e W1 ⟨rfl, hR1⟩))
            go_roundw
            case rel => exact ⟨i + 1, by omega, by omega, by go_num, hR1⟩
            case measure => simp [intOf]; omega
          · by_cases hin : i < n2
            · have hd1 : decide ((i : Int) < (n2 : Int)) = true := by simp; omega
              have hd2 : decide ((i : Int) < 200) = false := by simp; omega
              obtain ⟨g, su, p, ov, wv, L, hP, hsu, hL⟩ := hR
              go_wp2_with fail
              go_loopw [14] (fun v14 W => ∃ (j : Nat) (ov wv : Value), j ≤ 2 ∧ v14 = .int .i64 (j : Int) ∧ PlW w gw g su p ov wv (L.map (·.1) ++ (List.range j).map g) (L.map (·.2) ++ (List.range j).map p) L W) (fun v14 _ => 2 - (intOf v14).toNat)
              case atStart => exact ⟨0, ov, wv, by omega, rfl, by simpa using hP⟩
              case round =>
                clear hP ov wv
                obtain ⟨j, ov, wv, hj, rfl, hP⟩ := hrel
                by_cases hj2 : j < 2
                · have hdj : decide ((j : Int) < 2) = true := by simp; omega
                  have hdj' : (j : Int) < 2 := by omega
                  obtain ⟨cw, kw, hw⟩ := hP.blk
                  have c22 : ∀ s' : InC (fun W => Blk W gw 82 cw), s'.W.cell? ⟨gw, 22, none⟩ = some ov := fun s' => by rw [s'.ok.cell]; exact hw.o
                  have cj : ∀ s' : InC (fun W => Blk W gw 82 cw), s'.W.cell? ⟨gw, j, none⟩ = some (.pointer (some ⟨g j, 0, none⟩)) := fun s' => by rw [s'.ok.cell]; exact hw.s j hj2
                  obtain ⟨gj, hgj⟩ : ∃ x, g j = x := ⟨_, rfl⟩
                  rw [hgj] at cj
                  have hS : Blk wr.drew gw 82 cw := kw.drew
                  have hB : Below wr.heap.size wr wr.drew := (Below.refl _ _).drew
                  have Hgj := Lib.hid hgj
                  clear kw hgj
                  go_wp2_with fail
                  refine wp_region_mix_last (fun W => Blk W gw 82 cw) 15 [(0, true), (1, true), (2, true), (3, true), (4, true), (5, true), (6, true), (7, true), (8, true), (9, true), (10, true), (11, false), (12, false), (13, false), (14, true)] (by kernel_rfl) (by kernel_rfl) hS fun _ => ?_
                  simp only [List.map_cons, List.map_nil, Array.getD_eq_getD_getElem?, List.getElem?_toArray, List.getElem?_cons_succ, List.getElem?_cons_zero, Option.getD_some]
                  generalize wr.drew = W0 at hS hB ⊢
                  refine wpMix_s (fun K hK => ?_)
                  go_simp
                  refine hK _ ?_
                  clear hK K
                  refine wpMix_s (fun K hK => ?_)
                  go_simp
                  refine hK _ ?_
                  clear hK K
                  refine wpMix_s (fun K hK => ?_)
                  go_simp
                  refine hK _ ?_
                  clear hK K
                  refine wpMix_s (fun K hK => ?_)
                  go_simp
                  refine hK _ ?_
                  clear hK K
                  refine wpMix_s (fun K hK => ?_)
                  go_simp
                  refine hK _ ?_
                  clear hK K
                  refine wpMix_s (fun K hK => ?_)
                  go_simp
                  refine hK _ ?_
                  clear hK K
                  refine wpMix_s (fun K hK => ?_)
                  go_simp
                  refine hK _ ?_
                  clear hK K
                  refine wpMix_s (fun K hK => ?_)
                  go_simp
                  refine hK _ ?_
                  clear hK K
                  refine wpMix_s (fun K hK => ?_)
                  go_simp
                  refine hK _ ?_
                  clear hK K
                  refine wpMix_s (fun K hK => ?_)
                  go_simp
                  refine hK _ ?_
                  clear hK K
                  refine wpMix_s (fun K hK => ?_)
                  go_simp
                  refine hK _ ?_
                  clear hK K
                  have h25 := hP.step hB
                  obtain ⟨v', W', hr', hv1, hcl, hfr, hgO, hQ⟩ := h25.appO gj (by rw [List.length_append, List.length_map, List.length_map, List.length_range]; omega)
                  have HQ := Lib.hid hQ
                  clear hQ
                  refine wpMix_run (by kernel_rfl) (.slice (some ⟨W0.heap.size, 0, none⟩) 1 1) (W0.alloc (.cells #[sptr gj] 38)) (by kernel_rfl) (hS.alloc _) ?_
                  simp only [Act.put]
                  have hrs : Blk W' gw 82 cw := hS.grown hgO (own_neS h25.old hS (by decide))
                  refine wpMix_run (by kernel_rfl) v' W' (run_append_op (.tmp 112) (.tmp 119) 79 rfl _ _ rfl rfl hr') hrs ?_
                  simp only [Act.put]
                  clear h25
                  refine wpMix_c (fun K hK => ?_) hrs
                  go_simp
                  refine hK _ _ ?_
                  clear hK K
                  refine ⟨hrs, ?_⟩
                  refine wpMix_s (fun K hK => ?_)
                  go_simp
                  refine hK _ ?_
                  clear hK K
                  refine wpMix_nil ?_
                  intro _
                  simp only [List.drop_succ_cons, List.drop_zero]
                  clear c22 cj hw
                  go_wp2_with ((with_reducible show wpList _ _ _ [⟨none, .store _ _ _, _, _, _, _⟩] _ _); refine wpList_put1i rfl 79 (.tmp 122) (.tmp 120) rfl sizeOS ⟨gw, 22, none⟩ v' rfl rfl hv1 _ hcl hfr ?_; simp only [Act.put])
                  refine np_normal ?_
                  obtain ⟨w7, hw7⟩ : ∃ x, W'.setCell ⟨gw, 22, none⟩ v' = x := ⟨_, rfl⟩
                  have hQ := HQ.out
                  rw [hw7] at hQ ⊢
                  clear hw7 hcl hfr hv1 hr' hgO HQ hP hS hB hrs
                  obtain ⟨cw, kw, hw⟩ := hQ.blk
                  obtain ⟨cd, hcd⟩ : ∃ x, (p j).cells.toArray = x := ⟨_, rfl⟩
                  have hcd10 : cd.size = 10 := by rw [← hcd]; exact (p j).len
                  have c23 : ∀ s' : InC (fun W => Blk W gw 82 cw), s'.W.cell? ⟨gw, 23, none⟩ = some wv := fun s' => by rw [s'.ok.cell]; exact hw.w
                  have hS : Blk w7.drew gw 82 cw := kw.drew
                  have hB : Below w7.heap.size w7 w7.drew := (Below.refl _ _).drew
                  have Hcd := Lib.hid hcd
                  clear kw hcd
                  go_wp2_with fail
                  refine wp_region_mix_last (fun W => Blk W gw 82 cw) 15 [(0, true), (1, true), (2, true), (3, true), (4, true), (5, true), (6, true), (7, true), (8, true), (9, true), (10, true), (11, false), (12, false), (13, false), (14, true)] (by kernel_rfl) (by kernel_rfl) hS fun _ => ?_
                  simp only [List.map_cons, List.map_nil, Array.getD_eq_getD_getElem?, List.getElem?_toArray, List.getElem?_cons_succ, List.getElem?_cons_zero, Option.getD_some]
                  generalize w7.drew = Z0 at hS hB ⊢
                  refine wpMix_s (fun K hK => ?_)
                  go_simp
                  refine hK _ ?_
                  clear hK K
                  refine wpMix_s (fun K hK => ?_)
                  go_simp
                  refine hK _ ?_
                  clear hK K
                  refine wpMix_s (fun K hK => ?_)
                  go_simp
                  refine hK _ ?_
                  clear hK K
                  refine wpMix_s (fun K hK => ?_)
                  go_simp
                  refine hK _ ?_
                  clear hK K
                  refine wpMix_s (fun K hK => ?_)
                  go_simp
                  refine hK _ ?_
                  clear hK K
                  refine wpMix_s (fun K hK => ?_)
                  go_simp
                  refine hK _ ?_
                  clear hK K
                  refine wpMix_s (fun K hK => ?_)
                  go_simp
                  refine hK _ ?_
                  clear hK K
                  refine wpMix_s (fun K hK => ?_)
                  go_simp
                  refine hK _ ?_
                  clear hK K
                  refine wpMix_s (fun K hK => ?_)
                  go_simp
                  refine hK _ ?_
                  clear hK K
                  refine wpMix_s (fun K hK => ?_)
                  go_simp
                  refine hK _ ?_
                  clear hK K
                  refine wpMix_load (by kernel_rfl) 77 (.tmp 132) rfl gw (2 + j * 10) rfl cd (fun s => by
                    rw [← Hcd.out]
                    exact run_load_agg (agg77 _) (size77 _) _ _ (p j).cells (p j).len fun i v hv => by
                      rw [s.ok.cell]
                      exact hw.u j hj2 i v hv) ?_
                  simp only [Act.put]
                  have h26 := hQ.step hB
                  have hU := h26.appU (p j) (by rw [List.length_append, List.length_map, List.length_map, List.length_range]; omega)
                  rw [Hcd.out] at hU
                  obtain ⟨v9, W9, hr9, hv9, hcl9, hfr9, hg9, hT⟩ := hU
                  have HT := Lib.hid hT
                  clear hT
                  refine wpMix_run (by kernel_rfl) (.slice (some ⟨Z0.heap.size, 0, none⟩) 1 1) (Z0.alloc (.cells cd 77)) (bsU_op (.tmp 133) rfl rfl hcd10 Z0) (hS.alloc _) ?_
                  simp only [Act.put]
                  replace hS := hS.grown hg9 (own_neS h26.was hS (by decide))
                  refine wpMix_run (by kernel_rfl) v9 W9 (run_append_op (.tmp 127) (.tmp 134) 80 rfl _ _ rfl rfl hr9) hS ?_
                  simp only [Act.put]
                  clear h26
                  refine wpMix_c (fun K hK => ?_) hS
                  go_simp
                  refine hK _ _ ?_
                  clear hK K
                  refine ⟨hS, ?_⟩
                  refine wpMix_s (fun K hK => ?_)
                  go_simp
                  refine hK _ ?_
                  clear hK K
                  refine wpMix_nil ?_
                  intro _
                  simp only [List.drop_succ_cons, List.drop_zero]
                  clear c23 hw
                  go_wp2_with ((with_reducible show wpList _ _ _ [⟨none, .store _ _ _, _, _, _, _⟩] _ _); refine wpList_put1i rfl 80 (.tmp 137) (.tmp 135) rfl sizeOU ⟨gw, 23, none⟩ v9 rfl rfl hv9 _ hcl9 hfr9 ?_; simp only [Act.put])
                  refine np_normal ?_
                  obtain ⟨w8, hw8⟩ : ∃ x, W9.setCell ⟨gw, 23, none⟩ v9 = x := ⟨_, rfl⟩
                  have hT := HT.out
                  rw [hw8] at hT ⊢
                  clear hw8 hcl9 hfr9 hv9 hr9 hg9 HT hQ hS hB
                  go_wp2_with fail
                  go_roundw
                  case rel =>
                    rw [range_map_succ, ← Hgj.out, range_map_succ] at hT
                    exact ⟨j + 1, v', v9, by omega, by go_num, hT⟩
                  case measure => simp [intOf]; omega
                · have hje : j = 2 := by omega
                  have hdj : decide ((j : Int) < 2) = false := by simp; omega
                  rw [hje] at hP
                  have Hje := Lib.hid hje
                  clear hje
                  go_wp2_with fail
                  obtain ⟨lo, hlo⟩ : ∃ x, L.map (·.1) ++ (List.range 2).map g = x := ⟨_, rfl⟩
                  obtain ⟨lu, hlu⟩ : ∃ x, L.map (·.2) ++ (List.range 2).map p = x := ⟨_, rfl⟩
                  have hN1 : lo.length = L.length + 2 := by rw [← hlo]; simp
                  have hN2 : lu.length = L.length + 2 := by rw [← hlu]; simp
                  obtain ⟨N, hN⟩ : ∃ x, L.length + 2 = x := ⟨_, rfl⟩
                  rw [hlo, hlu] at hP
                  rw [hN] at hN1 hN2
                  obtain ⟨Ao, co, rfl, hso⟩ := owns_slv hP.old
                  obtain ⟨Au, cu, rfl, hsu2⟩ := owns_slv hP.was
                  obtain ⟨go, oo, rfl, -, -, -⟩ := hso.at_ (by omega) (by decide)
                  obtain ⟨gu, ou, rfl, -, -, -⟩ := hsu2.at_ (by omega) (by decide)
                  have hro := hso.room
                  have hmo := hso.max
                  have hru := hsu2.room
                  have hmu := hsu2.max
                  unfold maxLen at hmo hmu
                  rw [hN1] at hP hro
                  rw [hN2] at hP hru
                  have Hlo := Lib.hid hlo
                  have Hlu := Lib.hid hlu
                  have HN1 := Lib.hid hN1
                  have HN2 := Lib.hid hN2
                  have HN := Lib.hid hN
                  have Hsu := Lib.hid hsu
                  clear hlo hlu hN1 hN2 hN hso hsu2 hsu
                  go_loopw [15] (fun v15 W => ∃ (i : Nat), i ≤ N ∧ v15 = .int .i64 (i : Int) ∧ PlW w gw g su p (.slice (some ⟨go, oo, none⟩) N co) (.slice (some ⟨gu, ou, none⟩) N cu) lo lu L W) (fun v15 _ => N - (intOf v15).toNat)
                  case atStart => exact ⟨0, Nat.zero_le _, rfl, hP⟩
                  case round =>
                    clear hP
                    obtain ⟨i, hi, rfl, hP⟩ := hrel
                    obtain ⟨cw, kw, hw⟩ := hP.blk
                    have c22 : ∀ s' : InC (fun W => Below wr.heap.size wr W), s'.W.cell? ⟨gw, 22, none⟩ = some (.slice (some ⟨go, oo, none⟩) N co) := fun s' => by rw [(kw.below s'.ok kw.lt).cell]; exact hw.o
                    have c22' : wr.cell? ⟨gw, 22, none⟩ = some (.slice (some ⟨go, oo, none⟩) N co) := by rw [kw.cell]; exact hw.o
                    have c23 : ∀ s' : InC (fun W => Below wr.heap.size wr W), s'.W.cell? ⟨gw, 23, none⟩ = some (.slice (some ⟨gu, ou, none⟩) N cu) := fun s' => by rw [(kw.below s'.ok kw.lt).cell]; exact hw.w
                    by_cases hin : i < N
                    · have hdi : decide ((i : Int) < (N : Int)) = true := by simp; omega
                      obtain ⟨x, hx1, hx2, hpx⟩ := hP.every Hsu.out Hlo.out.symm Hlu.out.symm i (by rw [HN.out]; exact hin)
                      have hso := (owns_slv hP.old)
                      have hsu2 := (owns_slv hP.was)
                      rw [HN1.out] at hso
                      rw [HN2.out] at hsu2
                      obtain ⟨A5, c5, e5, h5⟩ := hso
                      obtain ⟨A6, c6, e6, h6⟩ := hsu2
                      cases e5
                      cases e6
                      obtain ⟨b5, o5, e5, l5, -, k5⟩ := h5.at_ (by omega) (by decide)
                      obtain ⟨b6, o6, e6, l6, -, k6⟩ := h6.at_ (by omega) (by decide)
                      cases e5
                      cases e6
                      have cp : ∀ s' : InC (fun W => Below wr.heap.size wr W), s'.W.cell? ⟨go, oo + i, none⟩ = some (.pointer (some ⟨x.1, 0, none⟩)) := fun s' => by
                        rw [s'.ok.cell (p := ⟨go, oo + i, none⟩) l5]
                        refine k5 i _ ?_
                        unfold pastS
                        rw [List.getElem?_map, hx1]
                        rfl
                      obtain ⟨cx, hcx⟩ : ∃ y, x.2.cells.toArray = y := ⟨_, rfl⟩
                      have lp : ∀ s' : InC (fun W => Below wr.heap.size wr W), (Instr.loadAt 77 (.pointer (some ⟨gu, ou + i * 10, none⟩))).run Try.prog s'.W = .ok (.agg cx) s'.W := fun s' => by
                        rw [← hcx]
                        exact run_load_agg (agg77 _) (size77 _) _ _ x.2.cells x.2.len fun q v hv => by
                          rw [s'.ok.cell (p := ⟨gu, ou + i * 10 + q, none⟩) l6, Nat.add_assoc]
                          exact k6 _ v (pastU_get lu i x.2 hx2 q v hv)
                      have htd := fun W (hb : Below wr.heap.size wr W) => told_any x.1 x.2.u x.2.A x.2.n x.2.c W (hpx.sh.stepS hb) hpx.len (hpx.sl.step hb)
                      have hvx : undV x.2.u (.slice x.2.A x.2.n x.2.c) = .agg cx := by rw [← hcx]; rfl
                      rw [hvx] at htd
                      obtain ⟨gx, hgx⟩ : ∃ y, x.1 = y := ⟨_, rfl⟩
                      rw [hgx] at cp htd
                      have Htd := Lib.hid htd
                      have hS : Below wr.heap.size wr wr.drew := (Below.refl _ _).drew
                      clear hcx hvx htd hgx hpx hx1 hx2 k5 k6 h5 h6 kw hw
                      go_wp2_with fail
                      refine wp_region_mix (fun W => Below wr.heap.size wr W) [(0, true), (1, true), (2, true), (3, true), (4, true), (5, true), (6, true), (7, true), (8, true), (9, true), (10, true), (11, true), (12, true), (13, true), (14, false), (15, true)] (by kernel_rfl) (by kernel_rfl) hS fun _ => ?_
                      simp only [List.map_cons, List.map_nil, Array.getD_eq_getD_getElem?, List.getElem?_toArray, List.getElem?_cons_succ, List.getElem?_cons_zero, Option.getD_some]
                      generalize wr.drew = Y0 at hS ⊢
                      refine wpMix_s (fun K hK => ?_)
                      go_simp
                      refine hK _ ?_
                      clear hK K
                      refine wpMix_s (fun K hK => ?_)
                      go_simp
                      refine hK _ ?_
                      clear hK K
                      refine wpMix_s (fun K hK => ?_)
                      go_simp
                      refine hK _ ?_
                      clear hK K
                      refine wpMix_s (fun K hK => ?_)
                      go_simp
                      refine hK _ ?_
                      clear hK K
                      refine wpMix_s (fun K hK => ?_)
                      go_simp
                      refine hK _ ?_
                      clear hK K
                      refine wpMix_s (fun K hK => ?_)
                      go_simp
                      refine hK _ ?_
                      clear hK K
                      refine wpMix_s (fun K hK => ?_)
                      go_simp
                      refine hK _ ?_
                      clear hK K
                      refine wpMix_s (fun K hK => ?_)
                      go_simp
                      refine hK _ ?_
                      clear hK K
                      refine wpMix_s (fun K hK => ?_)
                      go_simp
                      refine hK _ ?_
                      clear hK K
                      refine wpMix_s (fun K hK => ?_)
                      go_simp
                      refine hK _ ?_
                      clear hK K
                      refine wpMix_s (fun K hK => ?_)
                      go_simp
                      refine hK _ ?_
                      clear hK K
                      refine wpMix_s (fun K hK => ?_)
                      go_simp
                      refine hK _ ?_
                      clear hK K
                      refine wpMix_s (fun K hK => ?_)
                      go_simp
                      refine hK _ ?_
                      clear hK K
                      refine wpMix_load (by kernel_rfl) 77 (.tmp 159) rfl (gu) (ou + i * 10) rfl cx (lp) ?_
                      simp only [Act.put]
                      refine wpMix_c (fun K hK => ?_) hS
                      go_simp
                      refine (Htd.out _ hS).mono ?_
                      rintro e Y0_1 ⟨rfl, hb'⟩
                      refine hK _ _ ?_
                      clear hK K
                      replace hS := hS.trans (hb'.mono hS.size)
                      refine ⟨hS, ?_⟩
                      clear hb'
                      refine wpMix_s (fun K hK => ?_)
                      go_simp
                      refine hK _ ?_
                      clear hK K
                      refine wpMix_nil ?_
                      intro _
                      replace hP := hP.step hS
                      clear c22 c22' c23 cp lp hS
                      go_wp2_with fail
                      go_roundw
                      case rel => exact ⟨i + 1, by omega, by go_num, hP⟩
                      case measure => simp [intOf]; omega
                    · have hdi : decide ((i : Int) < (N : Int)) = false := by simp; omega
                      clear c22 c23 kw hw
                      go_wp2_with (go_at_call 18; refine (known_any wr).mono ?_; rintro e W9 ⟨rfl, hb9⟩)
                      go_ret
                      exact ⟨rfl, (hP.step hb9).bel⟩
            · have hd1 : decide ((i : Int) < (n2 : Int)) = false := by simp; omega
              obtain ⟨g, su, p, ov, wv, L, hP, hsu, hL⟩ := hR
              go_wp2_with fail
              go_loopw [14] (fun v14 W => ∃ (j : Nat) (ov wv : Value), j ≤ 2 ∧ v14 = .int .i64 (j : Int) ∧ PlW w gw g su p ov wv (L.map (·.1) ++ (List.range j).map g) (L.map (·.2) ++ (List.range j).map p) L W) (fun v14 _ => 2 - (intOf v14).toNat)
              case atStart => exact ⟨0, ov, wv, by omega, rfl, by simpa using hP⟩
              case round =>
                clear hP ov wv
                obtain ⟨j, ov, wv, hj, rfl, hP⟩ := hrel
                by_cases hj2 : j < 2
                · have hdj : decide ((j : Int) < 2) = true := by simp; omega
                  have hdj' : (j : Int) < 2 := by omega
                  obtain ⟨cw, kw, hw⟩ := hP.blk
                  have c22 : ∀ s' : InC (fun W => Blk W gw 82 cw), s'.W.cell? ⟨gw, 22, none⟩ = some ov := fun s' => by rw [s'.ok.cell]; exact hw.o
                  have cj : ∀ s' : InC (fun W => Blk W gw 82 cw), s'.W.cell? ⟨gw, j, none⟩ = some (.pointer (some ⟨g j, 0, none⟩)) := fun s' => by rw [s'.ok.cell]; exact hw.s j hj2
                  obtain ⟨gj, hgj⟩ : ∃ x, g j = x := ⟨_, rfl⟩
                  rw [hgj] at cj
                  have hS : Blk wr.drew gw 82 cw := kw.drew
                  have hB : Below wr.heap.size wr wr.drew := (Below.refl _ _).drew
                  have Hgj := Lib.hid hgj
                  clear kw hgj
                  go_wp2_with fail
                  refine wp_region_mix_last (fun W => Blk W gw 82 cw) 15 [(0, true), (1, true), (2, true), (3, true), (4, true), (5, true), (6, true), (7, true), (8, true), (9, true), (10, true), (11, false), (12, false), (13, false), (14, true)] (by kernel_rfl) (by kernel_rfl) hS fun _ => ?_
                  simp only [List.map_cons, List.map_nil, Array.getD_eq_getD_getElem?, List.getElem?_toArray, List.getElem?_cons_succ, List.getElem?_cons_zero, Option.getD_some]
                  generalize wr.drew = W0 at hS hB ⊢
                  refine wpMix_s (fun K hK => ?_)
                  go_simp
                  refine hK _ ?_
                  clear hK K
                  refine wpMix_s (fun K hK => ?_)
                  go_simp
                  refine hK _ ?_
                  clear hK K
                  refine wpMix_s (fun K hK => ?_)
                  go_simp
                  refine hK _ ?_
                  clear hK K
                  refine wpMix_s (fun K hK => ?_)
                  go_simp
                  refine hK _ ?_
                  clear hK K
                  refine wpMix_s (fun K hK => ?_)
                  go_simp
                  refine hK _ ?_
                  clear hK K
                  refine wpMix_s (fun K hK => ?_)
                  go_simp
                  refine hK _ ?_
                  clear hK K
                  refine wpMix_s (fun K hK => ?_)
                  go_simp
                  refine hK _ ?_
                  clear hK K
                  refine wpMix_s (fun K hK => ?_)
                  go_simp
                  refine hK _ ?_
                  clear hK K
                  refine wpMix_s (fun K hK => ?_)
                  go_simp
                  refine hK _ ?_
                  clear hK K
                  refine wpMix_s (fun K hK => ?_)
                  go_simp
                  refine hK _ ?_
                  clear hK K
                  refine wpMix_s (fun K hK => ?_)
                  go_simp
                  refine hK _ ?_
                  clear hK K
                  have h25 := hP.step hB
                  obtain ⟨v', W', hr', hv1, hcl, hfr, hgO, hQ⟩ := h25.appO gj (by rw [List.length_append, List.length_map, List.length_map, List.length_range]; omega)
                  have HQ := Lib.hid hQ
                  clear hQ
                  refine wpMix_run (by kernel_rfl) (.slice (some ⟨W0.heap.size, 0, none⟩) 1 1) (W0.alloc (.cells #[sptr gj] 38)) (by kernel_rfl) (hS.alloc _) ?_
                  simp only [Act.put]
                  have hrs : Blk W' gw 82 cw := hS.grown hgO (own_neS h25.old hS (by decide))
                  refine wpMix_run (by kernel_rfl) v' W' (run_append_op (.tmp 112) (.tmp 119) 79 rfl _ _ rfl rfl hr') hrs ?_
                  simp only [Act.put]
                  clear h25
                  refine wpMix_c (fun K hK => ?_) hrs
                  go_simp
                  refine hK _ _ ?_
                  clear hK K
                  refine ⟨hrs, ?_⟩
                  refine wpMix_s (fun K hK => ?_)
                  go_simp
                  refine hK _ ?_
                  clear hK K
                  refine wpMix_nil ?_
                  intro _
                  simp only [List.drop_succ_cons, List.drop_zero]
                  clear c22 cj hw
                  go_wp2_with ((with_reducible show wpList _ _ _ [⟨none, .store _ _ _, _, _, _, _⟩] _ _); refine wpList_put1i rfl 79 (.tmp 122) (.tmp 120) rfl sizeOS ⟨gw, 22, none⟩ v' rfl rfl hv1 _ hcl hfr ?_; simp only [Act.put])
                  refine np_normal ?_
                  obtain ⟨w7, hw7⟩ : ∃ x, W'.setCell ⟨gw, 22, none⟩ v' = x := ⟨_, rfl⟩
                  have hQ := HQ.out
                  rw [hw7] at hQ ⊢
                  clear hw7 hcl hfr hv1 hr' hgO HQ hP hS hB hrs
                  obtain ⟨cw, kw, hw⟩ := hQ.blk
                  obtain ⟨cd, hcd⟩ : ∃ x, (p j).cells.toArray = x := ⟨_, rfl⟩
                  have hcd10 : cd.size = 10 := by rw [← hcd]; exact (p j).len
                  have c23 : ∀ s' : InC (fun W => Blk W gw 82 cw), s'.W.cell? ⟨gw, 23, none⟩ = some wv := fun s' => by rw [s'.ok.cell]; exact hw.w
                  have hS : Blk w7.drew gw 82 cw := kw.drew
                  have hB : Below w7.heap.size w7 w7.drew := (Below.refl _ _).drew
                  have Hcd := Lib.hid hcd
                  clear kw hcd
                  go_wp2_with fail
                  refine wp_region_mix_last (fun W => Blk W gw 82 cw) 15 [(0, true), (1, true), (2, true), (3, true), (4, true), (5, true), (6, true), (7, true), (8, true), (9, true), (10, true), (11, false), (12, false), (13, false), (14, true)] (by kernel_rfl) (by kernel_rfl) hS fun _ => ?_
                  simp only [List.map_cons, List.map_nil, Array.getD_eq_getD_getElem?, List.getElem?_toArray, List.getElem?_cons_succ, List.getElem?_cons_zero, Option.getD_some]
                  generalize w7.drew = Z0 at hS hB ⊢
                  refine wpMix_s (fun K hK => ?_)
                  go_simp
                  refine hK _ ?_
                  clear hK K
                  refine wpMix_s (fun K hK => ?_)
                  go_simp
                  refine hK _ ?_
                  clear hK K
                  refine wpMix_s (fun K hK => ?_)
                  go_simp
                  refine hK _ ?_
                  clear hK K
                  refine wpMix_s (fun K hK => ?_)
                  go_simp
                  refine hK _ ?_
                  clear hK K
                  refine wpMix_s (fun K hK => ?_)
                  go_simp
                  refine hK _ ?_
                  clear hK K
                  refine wpMix_s (fun K hK => ?_)
                  go_simp
                  refine hK _ ?_
                  clear hK K
                  refine wpMix_s (fun K hK => ?_)
                  go_simp
                  refine hK _ ?_
                  clear hK K
                  refine wpMix_s (fun K hK => ?_)
                  go_simp
                  refine hK _ ?_
                  clear hK K
                  refine wpMix_s (fun K hK => ?_)
                  go_simp
                  refine hK _ ?_
                  clear hK K
                  refine wpMix_s (fun K hK => ?_)
                  go_simp
                  refine hK _ ?_
                  clear hK K
                  refine wpMix_load (by kernel_rfl) 77 (.tmp 132) rfl gw (2 + j * 10) rfl cd (fun s => by
                    rw [← Hcd.out]
                    exact run_load_agg (agg77 _) (size77 _) _ _ (p j).cells (p j).len fun i v hv => by
                      rw [s.ok.cell]
                      exact hw.u j hj2 i v hv) ?_
                  simp only [Act.put]
                  have h26 := hQ.step hB
                  have hU := h26.appU (p j) (by rw [List.length_append, List.length_map, List.length_map, List.length_range]; omega)
                  rw [Hcd.out] at hU
                  obtain ⟨v9, W9, hr9, hv9, hcl9, hfr9, hg9, hT⟩ := hU
                  have HT := Lib.hid hT
                  clear hT
                  refine wpMix_run (by kernel_rfl) (.slice (some ⟨Z0.heap.size, 0, none⟩) 1 1) (Z0.alloc (.cells cd 77)) (bsU_op (.tmp 133) rfl rfl hcd10 Z0) (hS.alloc _) ?_
                  simp only [Act.put]
                  replace hS := hS.grown hg9 (own_neS h26.was hS (by decide))
                  refine wpMix_run (by kernel_rfl) v9 W9 (run_append_op (.tmp 127) (.tmp 134) 80 rfl _ _ rfl rfl hr9) hS ?_
                  simp only [Act.put]
                  clear h26
                  refine wpMix_c (fun K hK => ?_) hS
                  go_simp
                  refine hK _ _ ?_
                  clear hK K
                  refine ⟨hS, ?_⟩
                  refine wpMix_s (fun K hK => ?_)
                  go_simp
                  refine hK _ ?_
                  clear hK K
                  refine wpMix_nil ?_
                  intro _
                  simp only [List.drop_succ_cons, List.drop_zero]
                  clear c23 hw
                  go_wp2_with ((with_reducible show wpList _ _ _ [⟨none, .store _ _ _, _, _, _, _⟩] _ _); refine wpList_put1i rfl 80 (.tmp 137) (.tmp 135) rfl sizeOU ⟨gw, 23, none⟩ v9 rfl rfl hv9 _ hcl9 hfr9 ?_; simp only [Act.put])
                  refine np_normal ?_
                  obtain ⟨w8, hw8⟩ : ∃ x, W9.setCell ⟨gw, 23, none⟩ v9 = x := ⟨_, rfl⟩
                  have hT := HT.out
                  rw [hw8] at hT ⊢
                  clear hw8 hcl9 hfr9 hv9 hr9 hg9 HT hQ hS hB
                  go_wp2_with fail
                  go_roundw
                  case rel =>
                    rw [range_map_succ, ← Hgj.out, range_map_succ] at hT
                    exact ⟨j + 1, v', v9, by omega, by go_num, hT⟩
                  case measure => simp [intOf]; omega
                · have hje : j = 2 := by omega
                  have hdj : decide ((j : Int) < 2) = false := by simp; omega
                  rw [hje] at hP
                  have Hje := Lib.hid hje
                  clear hje
                  go_wp2_with fail
                  obtain ⟨lo, hlo⟩ : ∃ x, L.map (·.1) ++ (List.range 2).map g = x := ⟨_, rfl⟩
                  obtain ⟨lu, hlu⟩ : ∃ x, L.map (·.2) ++ (List.range 2).map p = x := ⟨_, rfl⟩
                  have hN1 : lo.length = L.length + 2 := by rw [← hlo]; simp
                  have hN2 : lu.length = L.length + 2 := by rw [← hlu]; simp
                  obtain ⟨N, hN⟩ : ∃ x, L.length + 2 = x := ⟨_, rfl⟩
                  rw [hlo, hlu] at hP
                  rw [hN] at hN1 hN2
                  obtain ⟨Ao, co, rfl, hso⟩ := owns_slv hP.old
                  obtain ⟨Au, cu, rfl, hsu2⟩ := owns_slv hP.was
                  obtain ⟨go, oo, rfl, -, -, -⟩ := hso.at_ (by omega) (by decide)
                  obtain ⟨gu, ou, rfl, -, -, -⟩ := hsu2.at_ (by omega) (by decide)
                  have hro := hso.room
                  have hmo := hso.max
                  have hru := hsu2.room
                  have hmu := hsu2.max
                  unfold maxLen at hmo hmu
                  rw [hN1] at hP hro
                  rw [hN2] at hP hru
                  have Hlo := Lib.hid hlo
                  have Hlu := Lib.hid hlu
                  have HN1 := Lib.hid hN1
                  have HN2 := Lib.hid hN2
                  have HN := Lib.hid hN
                  have Hsu := Lib.hid hsu
                  clear hlo hlu hN1 hN2 hN hso hsu2 hsu
                  go_loopw [15] (fun v15 W => ∃ (i : Nat), i ≤ N ∧ v15 = .int .i64 (i : Int) ∧ PlW w gw g su p (.slice (some ⟨go, oo, none⟩) N co) (.slice (some ⟨gu, ou, none⟩) N cu) lo lu L W) (fun v15 _ => N - (intOf v15).toNat)
                  case atStart => exact ⟨0, Nat.zero_le _, rfl, hP⟩
                  case round =>
                    clear hP
                    obtain ⟨i, hi, rfl, hP⟩ := hrel
                    obtain ⟨cw, kw, hw⟩ := hP.blk
                    have c22 : ∀ s' : InC (fun W => Below wr.heap.size wr W), s'.W.cell? ⟨gw, 22, none⟩ = some (.slice (some ⟨go, oo, none⟩) N co) := fun s' => by rw [(kw.below s'.ok kw.lt).cell]; exact hw.o
                    have c22' : wr.cell? ⟨gw, 22, none⟩ = some (.slice (some ⟨go, oo, none⟩) N co) := by rw [kw.cell]; exact hw.o
                    have c23 : ∀ s' : InC (fun W => Below wr.heap.size wr W), s'.W.cell? ⟨gw, 23, none⟩ = some (.slice (some ⟨gu, ou, none⟩) N cu) := fun s' => by rw [(kw.below s'.ok kw.lt).cell]; exact hw.w
                    by_cases hin : i < N
                    · have hdi : decide ((i : Int) < (N : Int)) = true := by simp; omega
                      obtain ⟨x, hx1, hx2, hpx⟩ := hP.every Hsu.out Hlo.out.symm Hlu.out.symm i (by rw [HN.out]; exact hin)
                      have hso := (owns_slv hP.old)
                      have hsu2 := (owns_slv hP.was)
                      rw [HN1.out] at hso
                      rw [HN2.out] at hsu2
                      obtain ⟨A5, c5, e5, h5⟩ := hso
                      obtain ⟨A6, c6, e6, h6⟩ := hsu2
                      cases e5
                      cases e6
                      obtain ⟨b5, o5, e5, l5, -, k5⟩ := h5.at_ (by omega) (by decide)
                      obtain ⟨b6, o6, e6, l6, -, k6⟩ := h6.at_ (by omega) (by decide)
                      cases e5
                      cases e6
                      have cp : ∀ s' : InC (fun W => Below wr.heap.size wr W), s'.W.cell? ⟨go, oo + i, none⟩ = some (.pointer (some ⟨x.1, 0, none⟩)) := fun s' => by
                        rw [s'.ok.cell (p := ⟨go, oo + i, none⟩) l5]
                        refine k5 i _ ?_
                        unfold pastS
                        rw [List.getElem?_map, hx1]
                        rfl
                      obtain ⟨cx, hcx⟩ : ∃ y, x.2.cells.toArray = y := ⟨_, rfl⟩
                      have lp : ∀ s' : InC (fun W => Below wr.heap.size wr W), (Instr.loadAt 77 (.pointer (some ⟨gu, ou + i * 10, none⟩))).run Try.prog s'.W = .ok (.agg cx) s'.W := fun s' => by
                        rw [← hcx]
                        exact run_load_agg (agg77 _) (size77 _) _ _ x.2.cells x.2.len fun q v hv => by
                          rw [s'.ok.cell (p := ⟨gu, ou + i * 10 + q, none⟩) l6, Nat.add_assoc]
                          exact k6 _ v (pastU_get lu i x.2 hx2 q v hv)
                      have htd := fun W (hb : Below wr.heap.size wr W) => told_any x.1 x.2.u x.2.A x.2.n x.2.c W (hpx.sh.stepS hb) hpx.len (hpx.sl.step hb)
                      have hvx : undV x.2.u (.slice x.2.A x.2.n x.2.c) = .agg cx := by rw [← hcx]; rfl
                      rw [hvx] at htd
                      obtain ⟨gx, hgx⟩ : ∃ y, x.1 = y := ⟨_, rfl⟩
                      rw [hgx] at cp htd
                      have Htd := Lib.hid htd
                      have hS : Below wr.heap.size wr wr.drew := (Below.refl _ _).drew
                      clear hcx hvx htd hgx hpx hx1 hx2 k5 k6 h5 h6 kw hw
                      go_wp2_with fail
                      refine wp_region_mix (fun W => Below wr.heap.size wr W) [(0, true), (1, true), (2, true), (3, true), (4, true), (5, true), (6, true), (7, true), (8, true), (9, true), (10, true), (11, true), (12, true), (13, true), (14, false), (15, true)] (by kernel_rfl) (by kernel_rfl) hS fun _ => ?_
                      simp only [List.map_cons, List.map_nil, Array.getD_eq_getD_getElem?, List.getElem?_toArray, List.getElem?_cons_succ, List.getElem?_cons_zero, Option.getD_some]
                      generalize wr.drew = Y0 at hS ⊢
                      refine wpMix_s (fun K hK => ?_)
                      go_simp
                      refine hK _ ?_
                      clear hK K
                      refine wpMix_s (fun K hK => ?_)
                      go_simp
                      refine hK _ ?_
                      clear hK K
                      refine wpMix_s (fun K hK => ?_)
                      go_simp
                      refine hK _ ?_
                      clear hK K
                      refine wpMix_s (fun K hK => ?_)
                      go_simp
                      refine hK _ ?_
                      clear hK K
                      refine wpMix_s (fun K hK => ?_)
                      go_simp
                      refine hK _ ?_
                      clear hK K
                      refine wpMix_s (fun K hK => ?_)
                      go_simp
                      refine hK _ ?_
                      clear hK K
                      refine wpMix_s (fun K hK => ?_)
                      go_simp
                      refine hK _ ?_
                      clear hK K
                      refine wpMix_s (fun K hK => ?_)
                      go_simp
                      refine hK _ ?_
                      clear hK K
                      refine wpMix_s (fun K hK => ?_)
                      go_simp
                      refine hK _ ?_
                      clear hK K
                      refine wpMix_s (fun K hK => ?_)
                      go_simp
                      refine hK _ ?_
                      clear hK K
                      refine wpMix_s (fun K hK => ?_)
                      go_simp
                      refine hK _ ?_
                      clear hK K
                      refine wpMix_s (fun K hK => ?_)
                      go_simp
                      refine hK _ ?_
                      clear hK K
                      refine wpMix_s (fun K hK => ?_)
                      go_simp
                      refine hK _ ?_
                      clear hK K
                      refine wpMix_load (by kernel_rfl) 77 (.tmp 159) rfl (gu) (ou + i * 10) rfl cx (lp) ?_
                      simp only [Act.put]
                      refine wpMix_c (fun K hK => ?_) hS
                      go_simp
                      refine (Htd.out _ hS).mono ?_
                      rintro e Y0_1 ⟨rfl, hb'⟩
                      refine hK _ _ ?_
                      clear hK K
                      replace hS := hS.trans (hb'.mono hS.size)
                      refine ⟨hS, ?_⟩
                      clear hb'
                      refine wpMix_s (fun K hK => ?_)
                      go_simp
                      refine hK _ ?_
                      clear hK K
                      refine wpMix_nil ?_
                      intro _
                      replace hP := hP.step hS
                      clear c22 c22' c23 cp lp hS
                      go_wp2_with fail
                      go_roundw
                      case rel => exact ⟨i + 1, by omega, by go_num, hP⟩
                      case measure => simp [intOf]; omega
                    · have hdi : decide ((i : Int) < (N : Int)) = false := by simp; omega
                      clear c22 c23 kw hw
                      go_wp2_with (go_at_call 18; refine (known_any wr).mono ?_; rintro e W9 ⟨rfl, hb9⟩)
                      go_ret
                      exact ⟨rfl, (hP.step hb9).bel⟩
end Go.Proofs.Ytdkgndjomkbbjaa
