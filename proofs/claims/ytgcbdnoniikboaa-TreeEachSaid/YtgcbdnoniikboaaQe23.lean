/- notarylaw09.TreeEach. -/
import Derived.Test.YtgcbdnoniikboaaQe21
import Derived.Test.YtgcbdnoniikboaaQe13
import Derived.Test.YtgcbdnoniikboaaQe22
namespace Go.Proofs.Ytgcbdnoniikboaa
open Go Go.RowKit Go.Shelf
attribute [local go_sem] Oper.semAt_some

theorem eql_each_nil (g g2 : Nat) (W : World) : (binOp .eql 60 (.func (.func 68) #[] #[.pointer (some ⟨g, 0, none⟩), .pointer (some ⟨g2, 0, none⟩)]) .nilFunc).run Try.prog W = .ok (.bool false) W := by
  kernel_rfl
theorem results_cell_bool {fn : Func} {p : Tmp} (h : fn.results = #[.cell p 4]) (tmps : Array Value) (w : World) (g : Nat) (b : Bool) (hp : tmps.getD p undef = .pointer (some ⟨g, 0, none⟩)) (hg : Blk w g 4 #[.bool b]) :
    (results fn tmps).run Try.prog w = .ok (.bool b) w := by
  have hp' : tmps[p]?.getD undef = .pointer (some ⟨g, 0, none⟩) := by simpa using hp
  have hc : w.cell? ⟨g, 0, none⟩ = some (.bool b) := by rw [hg.cell]; rfl
  have hagg : ∀ w : World, (isAgg 4).run Try.prog w = .ok false w := fun _ => by kernel_rfl
  simp [results, h, hp', asAddr, loadVar, hagg, hc, go_sem]
set_option maxHeartbeats 4000000 in
set_option maxRecDepth 100000 in
theorem treeeach_any (hs : List (List UInt8)) (l : List (Int × Int)) (A : Option Addr) (n c : Nat) (Ar : Option Addr) (nr cr : Nat) (lv : Int) (w : World) (h : Hs w (· < w.heap.size) A n c hs) (hr : Rs w (· < w.heap.size) Ar nr cr l) :
    Calls Try.prog 8 #[.slice A n c, .slice Ar nr cr, .int .i64 lv] w fun e w' => e = .returned (.bool true) ∧ Below w.heap.size w w' := by
  obtain ⟨w3, hw3⟩ : ∃ w3, ((w.alloc (.cells #[.slice A n c] 37)).alloc (.cells #[.int .i64 lv] 3)).alloc (.cells #[.bool false] 4) = w3 := ⟨_, rfl⟩
  have hsz3 : w3.heap.size = w.heap.size + 1 + 1 + 1 := by rw [← hw3]; simp
  have hb3 : Below w.heap.size w w3 := by rw [← hw3]; exact (((Below.refl _ _).alloc (Nat.le_refl _) _).alloc (by simp) _).alloc (by simp; omega) _
  have k3 : Blk w3 w.heap.size 37 #[.slice A n c] := by rw [← hw3]; exact ((Blk.new _ _ _).alloc _).alloc _
  have k5 : Blk w3 (w.heap.size + 1) 3 #[.int .i64 lv] := by rw [← hw3]; exact (Blk.new' _ _ _ _ (by simp)).alloc _
  have k6 : Blk w3 (w.heap.size + 1 + 1) 4 #[.bool false] := by rw [← hw3]; exact Blk.new' _ _ _ _ (by simp)
  have h3 := h.step hb3
  have hr3 := hr.step hb3
  have Hw3 := Lib.hid hw3
  have c3 : w3.cell? ⟨w.heap.size, 0, none⟩ = some (.slice A n c) := by rw [k3.cell]; rfl
  clear hw3 h hr
  by_cases hbig : 60 < n ∨ 60 < nr
  · have k6t := k6.set_ 0 (.bool true)
    have fin : ∀ W, Below w3.heap.size w3 W → Blk (W.setCell ⟨w.heap.size + 1 + 1, 0, none⟩ (.bool true)) (w.heap.size + 1 + 1) 4 #[.bool true] ∧ W.frozen? ⟨w.heap.size + 1 + 1, 0, none⟩ = false ∧ W.cell? ⟨w.heap.size + 1 + 1, 0, none⟩ = some (.bool false) ∧ Below w.heap.size w (W.setCell ⟨w.heap.size + 1 + 1, 0, none⟩ (.bool true)) := fun W hb => by
      have k := k6.step hb
      exact ⟨k.set_ 0 _, k.frozen 0, by rw [k.cell]; rfl, (hb3.trans (hb.mono hb3.size)).setCell (by show w.heap.size ≤ w.heap.size + 1 + 1; omega) _⟩
    have Fin := Lib.hid fin
    clear fin k6t k3 k5 k6 h3 hr3
    rcases Nat.lt_or_ge 60 n with hn | hn
    · have hd : decide ((60 : Int) < (n : Int)) = true := by simp; omega
      refine (callsIn_wide (n := 5)).1 ?_
      refine callsIn_of_wp_marks Try.func8 rfl trivial ?_ rfl
      simp only [Try.ntmps8, List.size_toArray, List.length_cons, List.length_nil, Nat.reduceAdd, Nat.reduceSub, Array.replicate_succ, Array.replicate_zero, List.push_toArray, List.append_toArray, List.nil_append, List.cons_append]
      refine wpIn_wide.2 ?_

      go_wp2_with (go_at_call 15; rw [Hw3.out]; refine (known9_any _).mono ?_; rintro e w2 ⟨rfl, hb2⟩; obtain ⟨f1, f2, f3, f4⟩ := Fin.out w2 hb2)
      refine leaves_marks (N := w.heap.size) [] _ (MarksOk.nil _ _) fun w' ht => ⟨_, results_cell_bool rfl _ _ (w.heap.size + 1 + 1) true rfl (ht.blk _ _ _ f1), rfl, f4.trans ht.bel⟩
    · have hd : decide ((60 : Int) < (n : Int)) = false := by simp; omega
      have hd2 : decide ((60 : Int) < (nr : Int)) = true := by simp; omega
      refine (callsIn_wide (n := 5)).1 ?_
      refine callsIn_of_wp_marks Try.func8 rfl trivial ?_ rfl
      simp only [Try.ntmps8, List.size_toArray, List.length_cons, List.length_nil, Nat.reduceAdd, Nat.reduceSub, Array.replicate_succ, Array.replicate_zero, List.push_toArray, List.append_toArray, List.nil_append, List.cons_append]
      refine wpIn_wide.2 ?_

      go_wp2_with (go_at_call 15; rw [Hw3.out]; refine (known9_any _).mono ?_; rintro e w2 ⟨rfl, hb2⟩; obtain ⟨f1, f2, f3, f4⟩ := Fin.out w2 hb2)
      refine leaves_marks (N := w.heap.size) [] _ (MarksOk.nil _ _) fun w' ht => ⟨_, results_cell_bool rfl _ _ (w.heap.size + 1 + 1) true rfl (ht.blk _ _ _ f1), rfl, f4.trans ht.bel⟩
  have hn : n ≤ 60 := by omega
  have hnr : nr ≤ 60 := by omega
  have hd : decide ((60 : Int) < (n : Int)) = false := by simp; omega
  have hd2 : decide ((60 : Int) < (nr : Int)) = false := by simp; omega
  have hlen := h3.len
  have h32 := h3.all
  have hlenr := hr3.len
  have hroom := h3.sl.room
  have hmx := h3.sl.max
  have hroomr := hr3.sl.room
  have hmxr := hr3.sl.max
  unfold maxLen at hmx hmxr
  have Hlen := Lib.hid hlen
  have Hlenr := Lib.hid hlenr
  have H32h := Lib.hid h32
  clear hbig hlen h32 hlenr
  refine (callsIn_wide (n := 5)).1 ?_
  refine callsIn_of_wp_marks Try.func8 rfl trivial ?_ rfl
  simp only [Try.ntmps8, List.size_toArray, List.length_cons, List.length_nil, Nat.reduceAdd, Nat.reduceSub, Array.replicate_succ, Array.replicate_zero, List.push_toArray, List.append_toArray, List.nil_append, List.cons_append]
  refine wpIn_wide.2 ?_
  go_wp2_with fail
  rw [Hw3.out]
  refine (lent9_own hs A n c w3 (h3.weak fun _ _ _ => trivial) (by omega)).mono ?_
  rintro e w4 ⟨A', c', rfl, hom4, hl4, hb4⟩
  obtain ⟨gm, cm, hgm⟩ := owns_some hom4 (by omega)
  obtain ⟨rfl, rfl⟩ : A' = some ⟨gm, 0, none⟩ ∧ c' = cm := by cases hgm; exact ⟨rfl, rfl⟩
  clear hgm
  have hgm4 := hom4.lt gm rfl
  have hr4 := hr3.step hb4
  obtain ⟨v8, w5, hr8, ho8, hg8, -⟩ := append_slv (ty := 22) (base := w4.heap.size) Try.underlying22 infoR (by simp [Value.cells]) (by decide) (show w4.ownsRow w4.heap.size 29 2 (.slice none 0 0) 0 [] from ⟨rfl, .inl ⟨rfl, rfl⟩⟩) hr4.sl (oneR _) (by unfold maxLen; omega) (by omega) (Nat.le_refl _)
  rw [List.nil_append, Nat.zero_add] at ho8
  obtain ⟨Ao, co, rfl, hro5⟩ := Rs.of_owns ho8 Hlenr.out
  have hb5 : Below w4.heap.size w4 w5 := (Below.refl _ _).grown hg8 (Nat.le_refl _) (fun k e => by cases e)
  have hl5 := hl4.step hb5
  have hom5 := owns_step hom4 hb5
  have hgo2 : ∀ g, (Value.slice Ao nr co).ownBlock = some g → gm < g := fun g e => by have := (ho8.lt g e).1; omega
  have hgo : ∀ g, (Value.slice Ao nr co).ownBlock = some g → g < w5.heap.size := fun g e => (ho8.lt g e).2
  have hr5 := hr4.step hb5
  have h5 := (h3.step hb4).step hb5
  have k35 := (k3.step hb4).step hb5
  have k55 := (k5.step hb4).step hb5
  have k65 := (k6.step hb4).step hb5
  have hbel5 := (hb3.trans (hb4.mono hb3.size)).trans (hb5.mono (Nat.le_trans hb3.size hb4.size))
  have hmw5 : Hs w5 (fun _ => True) (some ⟨gm, 0, none⟩) n c' hs := by
    have := (hl5.take n (by omega)).weak (Y := fun _ => True) fun _ _ _ => trivial
    rwa [show (hs ++ [markH]).take n = hs by rw [← Hlen.out]; simp] at this
  have Hr8 := Lib.hid hr8
  have hs45 := hb4.size
  have hs55 := hb5.size
  have hroomo := hro5.sl.room
  have hmxo := hro5.sl.max
  unfold maxLen at hmxo
  have hrooml := hl5.sl.room
  have hmxl := hl5.sl.max
  unfold maxLen at hmxl
  clear hr8 hg8 hb5 hb4 hb3 h3 hr3 hr4 hl4 hom4 k3 k5 k6 c3
  go_wp2_with ((with_reducible show wpList _ _ _ (⟨some 32, .call _, _, _, _, _⟩ :: _) _ _); refine wpList_run rfl (.slice Ao nr co) w5 (run_append_op (.const (.slice none 0 0)) (.tmp 31) 22 rfl _ _ rfl rfl Hr8.out) ?_; simp only [Act.put])
  refine (each_any hs l (some ⟨gm, 0, none⟩) n c' Ao nr co w5 hmw5 (hro5.weak fun _ _ _ => trivial) (by omega) (by omega)).mono ?_
  rintro e w6 ⟨A2, c2, Ar2, cr2, rfl, e1, e2, eh, er, hb6⟩
  have hl6 := hl5.step hb6
  have hom6 := owns_step hom5 hb6
  have hr6 := hr5.step hb6
  have h6 := h5.step hb6
  have k36 := k35.step hb6
  have k56 := k55.step hb6
  have k66 := k65.step hb6
  have ho6 := owns_step ho8 hb6
  have hro6 := hro5.step hb6
  have hbel6 := hbel5.trans (hb6.mono hbel5.size)
  have hs65 := hb6.size
  have c36 : w6.cell? ⟨w.heap.size, 0, none⟩ = some (.slice A n c) := by rw [k36.cell]; rfl
  clear Hr8 hmw5 hb6 hl5 hom5 hr5 h5 k35 k55 k65 ho8 hro5 hbel5
  have hG2 := e1.lt
  have hA6 : TeA w hs l A n c Ar nr cr lv A2 c2 Ar2 cr2 w5.heap.size w6.heap.size w6 :=
    ⟨k36, k56, k66, h6, hr6, e1, e2, eh.weak fun b hb hx => ⟨hx, hb⟩, er.weak fun b hb hx => ⟨hx, hb⟩, hbel6, Nat.le_refl _, by omega, hG2⟩
  have hM6 : TeM w3.heap.size gm n c' Ao nr co w6 := ⟨⟨_, hom6⟩, ⟨_, owns_le ho6 (by omega)⟩⟩
  have hgmG : gm < w5.heap.size := by omega
  have hroom2 := eh.sl.room
  have hmx2 := eh.sl.max
  have hroomr2 := er.sl.room
  have hmxr2 := er.sl.max
  unfold maxLen at hmx2 hmxr2
  have hg3 : w3.heap.size ≤ gm := hgm4.1
  generalize w5.heap.size = G at *
  have hen := eql_each_nil
  clear k36 k56 k66 h6 e1 e2 eh er hbel6 hgm4 hs45 hs55 hs65 hom6 ho6
  go_wp2_with fail
  refine (kept9_any hs _ _ n _ _ w6 (hl6.weak fun _ _ _ => trivial) (hA6.src.weak fun _ _ _ => trivial) (by omega)).mono ?_
  rintro e w7 ⟨rfl, hb7⟩
  have hA7 := hA6.step hb7
  have hM7 := hM6.step hb7
  have hro7 := hro6.step hb7
  clear hA6 hM6 hro6 hb7 hl6 hr6 c36
  go_wp2_with fail
  refine (samer_any l _ _ nr _ _ w7 (hro7.weak fun _ _ _ => trivial) (hA7.rs.weak fun _ _ _ => trivial) (by omega)).mono ?_
  rintro e w8 ⟨rfl, hb8⟩
  have hA8 := hA7.step hb8
  have hM8 := hM7.step hb8
  clear hA7 hM7 hro7 hb8
  generalize w6.heap.size = Z at *
  have hW8 : TeW w8.heap.size [] (w8.alloc (.cells #[.slice none 0 0] 22)) := ⟨_, Blk.new _ _ _, World.ownsRow_nil _ _ _ _⟩
  have hbA8 : Below w8.heap.size w8 (w8.alloc (.cells #[.slice none 0 0] 22)) := (Below.refl _ _).alloc (Nat.le_refl _) _
  have hZW : Z ≤ w8.heap.size := hA8.sz
  have hA9 := hA8.step hbA8
  have hM9 := hM8.step hbA8
  have hGZ := hA8.gz
  have hgs := hA8.gs
  have hlt9 : w8.heap.size + 1 ≤ (w8.alloc (.cells #[.slice none 0 0] 22)).heap.size := by simp
  go_wp2_with fail
  clear hA8 hM8 hbA8
  generalize w8.heap.size = gW at hW8 hlt9 hZW ⊢
  go_loopw [11] (fun v wr => ∃ k : Nat, k ≤ nr ∧ v = .int .i64 k ∧ TeA w hs l A n c Ar nr cr lv A2 c2 Ar2 cr2 G Z wr ∧ TeM w3.heap.size gm n c' Ao nr co wr ∧ TeW gW (goodL hs (l.take k)) wr ∧ gW + 1 ≤ wr.heap.size) (fun v _ => nr - (intOf v).toNat)
  case atStart => exact ⟨0, Nat.zero_le _, rfl, hA9, hM9, by simpa [goodL] using hW8, hlt9⟩
  case round =>
    clear hA9 hM9 hW8 hlt9
    obtain ⟨k, hk, rfl, hA, hM, hW, hlt⟩ := hrel
    by_cases hkn : k < nr
    · obtain ⟨b, o, rfl, -, -, -⟩ := hA.rs.at_ (by omega)
      obtain ⟨⟨x1, x2⟩, hx⟩ : ∃ x, l.getD k (0, 0) = x := ⟨_, rfl⟩
      obtain ⟨⟨z, zo⟩, hz⟩ : ∃ z, stretchR hs x1 x2 = z := ⟨_, rfl⟩
      have hzl : z.length = 32 := by have := length_stretchR hs x1 x2 H32h.out; rw [hz] at this; exact this
      have hld : ∀ W, Rs W (· < w.heap.size) (some ⟨b, o, none⟩) nr cr l → (Instr.loadAt 29 (.pointer (some ⟨b, o + k * 2, none⟩))).run Try.prog W = .ok (.agg #[.int .i64 x1, .int .i64 x2]) W := fun W h => by
        have := h.load rfl k hkn
        rw [hx] at this
        exact this
      have hst : ∀ W, Hs W (· < w.heap.size) A n c hs → Calls Try.prog 33 #[.slice A n c, .agg #[.int .i64 x1, .int .i64 x2]] W fun e w' => e = .returned (.tuple #[.agg (z.map B).toArray, .int .i64 zo]) ∧ Below W.heap.size W w' := fun W h => by
        have := rstretch_any hs A n c W x1 x2 (h.weak fun _ _ _ => trivial) (by omega)
        rw [hz] at this
        exact this
      have Hx := Lib.hid hx
      have Hz := Lib.hid hz
      have Hzl := Lib.hid hzl
      have Hld := Lib.hid hld
      have Hst := Lib.hid hst
      clear hx hz hzl hld hst
      go_upto_region 12 with fail
      refine wp_share (fun a0 a' W' => ∃ g, a' = (((((((((((a0.put (some 57) (.slice A n c)).put (some 58) (.slice (some ⟨b, o, none⟩) nr cr)).put (some 59) (.int .i64 k)).put (some 60) (.pointer (some ⟨b, o + k * 2, none⟩))).put (some 61) (.agg #[.int .i64 x1, .int .i64 x2])).put (some 62) (.tuple #[.agg (z.map B).toArray, .int .i64 zo])).put (some 56) (.tuple #[.agg (z.map B).toArray, .int .i64 zo])).put (some 63) (.agg (z.map B).toArray)).put (some 64) (.int .i64 zo)).put (some 12) (.pointer (some ⟨g, 0, none⟩))).put (some 13) (.int .i64 zo)) ∧ Below wr.heap.size wr W') ?_ ?_
      · have c3 : ∀ s : InC (fun W => Below wr.heap.size wr W), s.W.cell? ⟨w.heap.size, 0, none⟩ = some (.slice A n c) := fun s => by rw [(hA.b3.step s.ok).cell]; rfl
        have hl1 : ∀ s : InC (fun W => Below wr.heap.size wr W), (Instr.loadAt 29 (.pointer (some ⟨b, o + k * 2, none⟩))).run Try.prog s.W = .ok (.agg #[.int .i64 x1, .int .i64 x2]) s.W := fun s => Hld.out _ (hA.rs.step s.ok)
        have hs0 : Hs wr.drew (· < w.heap.size) A n c hs := hA.src.drew
        have Hl1 := Lib.hid hl1
        clear hl1 hA hM hW
        have hS : Below (wr.heap.size) wr wr.drew := (Below.refl _ _).drew
        refine wp_region_begin (fun W => Below (wr.heap.size) wr W) (by kernel_rfl) hS fun _ => ?_
        generalize wr.drew = W0 at hS hs0 ⊢
        refine wpAnyH_pre (f := 7) (by kernel_rfl) #[true, true, true, true, true, false, false, false, false, false, false, false] [(0, true), (1, true), (2, true), (3, true), (4, true)] _ _ _ (by kernel_rfl) hS ?_
        simp only [List.map_cons, List.map_nil, Array.getD_eq_getD_getElem?, List.getElem?_toArray, List.getElem?_cons_succ, List.getElem?_cons_zero, Option.getD_some]
        refine wpMix_s (fun K hK => ?_)
        go_simp
        refine hK _ ?_
        clear hK K
        refine wpMix_s (fun K hK => ?_)
        go_simp
        refine hK _ ?_
        clear hK K
        refine wpMix_s (fun K hK => ?_)
        go_simp
        refine hK _ ?_
        clear hK K
        refine wpMix_s (fun K hK => ?_)
        go_simp
        refine hK _ ?_
        clear hK K
        refine wpMix_load (by kernel_rfl) 29 (.tmp 60) rfl (b) (o + k * 2) rfl #[.int .i64 x1, .int .i64 x2] (Hl1.out) ?_
        simp only [Act.put]
        refine wpMix_nil ?_
        intro _
        refine wpAnyH_fork (f := 6) (i := 5) (j := 9) (by kernel_rfl) hS ?_ ?_
        · simp only [Array.getD_eq_getD_getElem?, List.getElem?_toArray, List.getElem?_cons_succ, List.getElem?_cons_zero, Option.getD_some]
          refine wpMix_c (fun K hK => ?_) hS
          go_simp
          refine (Hst.out W0 hs0).mono ?_
          rintro e W0_1 ⟨rfl, hb'⟩
          refine hK _ _ ?_
          clear hK K
          replace hS := hS.trans (hb'.mono hS.size)
          refine ⟨hS, ?_⟩
          replace hs0 := hs0.step hb'
          try replace k12 := k12.step hb'
          clear hb'
          refine wpMix_nil ?_
          intro _
          show wpAnyH _ _ _ _ _ _ #[true, true, true, true, true, true, false, false, false, false, false, false] _ _
          refine wpAnyH_pre (f := 0) (by kernel_rfl) #[true, true, true, true, true, true, true, true, true, true, true, true] [(6, true), (7, true), (8, true), (9, false), (10, false), (11, true)] _ _ _ (by kernel_rfl) hS ?_
          simp only [List.map_cons, List.map_nil, Array.getD_eq_getD_getElem?, List.getElem?_toArray, List.getElem?_cons_succ, List.getElem?_cons_zero, Option.getD_some]
          refine wpMix_s (fun K hK => ?_)
          go_simp
          refine hK _ ?_
          clear hK K
          refine wpMix_s (fun K hK => ?_)
          go_simp
          refine hK _ ?_
          clear hK K
          refine wpMix_s (fun K hK => ?_)
          go_simp
          refine hK _ ?_
          clear hK K
          have k12g := hS.size
          refine wpMix_hnew rfl rfl (fun _ hb => hS.trans (hb.mono hS.size)) ?_
          intro W0_2 k12 hb'
          simp only [Act.put]
          replace hS := hS.trans (hb'.mono hS.size)
          replace hs0 := hs0.step hb'
          clear hb'
          refine wpMix_hset (.tmp 12) (.tmp 63) rfl rfl k12 rfl rfl Hzl.out (fun _ hb => hS.trans (hb.mono k12g)) ?_
          intro W0_3 k12s hb'
          simp only [Act.put]
          replace hS := hS.trans (hb'.mono k12g)
          clear hb'
          refine wpMix_s (fun K hK => ?_)
          go_simp
          refine hK _ ?_
          clear hK K
          refine wpMix_nil ?_
          intro _
          refine wpAnyH_end (by kernel_rfl) ?_
          refine Exists.intro ?gW0_3 (And.intro ?eW0_3 hS)
          case eW0_3 =>
            simp only [Act.put, List.setIfInBounds_toArray, List.set_cons_succ, List.set_cons_zero]
            rfl
        · simp only [Array.getD_eq_getD_getElem?, List.getElem?_toArray, List.getElem?_cons_succ, List.getElem?_cons_zero, Option.getD_some]
          have k12g := hS.size
          refine wpMix_hnew rfl rfl (fun _ hb => hS.trans (hb.mono hS.size)) ?_
          intro W0_4 k12 hb'
          simp only [Act.put]
          replace hS := hS.trans (hb'.mono hS.size)
          replace hs0 := hs0.step hb'
          clear hb'
          refine wpMix_nil ?_
          intro _
          show wpAnyH _ _ _ _ _ _ #[true, true, true, true, true, false, false, false, false, true, false, false] _ _
          refine wpAnyH_pre (f := 0) (by kernel_rfl) #[true, true, true, true, true, true, true, true, true, true, true, true] [(5, false), (6, true), (7, true), (8, true), (10, false), (11, true)] _ _ _ (by kernel_rfl) hS ?_
          simp only [List.map_cons, List.map_nil, Array.getD_eq_getD_getElem?, List.getElem?_toArray, List.getElem?_cons_succ, List.getElem?_cons_zero, Option.getD_some]
          refine wpMix_c (fun K hK => ?_) hS
          go_simp
          refine (Hst.out W0_4 hs0).mono ?_
          rintro e W0_5 ⟨rfl, hb'⟩
          refine hK _ _ ?_
          clear hK K
          replace hS := hS.trans (hb'.mono hS.size)
          refine ⟨hS, ?_⟩
          replace hs0 := hs0.step hb'
          try replace k12 := k12.step hb'
          clear hb'
          refine wpMix_s (fun K hK => ?_)
          go_simp
          refine hK _ ?_
          clear hK K
          refine wpMix_s (fun K hK => ?_)
          go_simp
          refine hK _ ?_
          clear hK K
          refine wpMix_s (fun K hK => ?_)
          go_simp
          refine hK _ ?_
          clear hK K
          refine wpMix_hset (.tmp 12) (.tmp 63) rfl rfl k12 rfl rfl Hzl.out (fun _ hb => hS.trans (hb.mono k12g)) ?_
          intro W0_6 k12s hb'
          simp only [Act.put]
          replace hS := hS.trans (hb'.mono k12g)
          clear hb'
          refine wpMix_s (fun K hK => ?_)
          go_simp
          refine hK _ ?_
          clear hK K
          refine wpMix_nil ?_
          intro _
          refine wpAnyH_end (by kernel_rfl) ?_
          refine Exists.intro ?gW0_6 (And.intro ?eW0_6 hS)
          case eW0_6 =>
            simp only [Act.put, List.setIfInBounds_toArray, List.set_cons_succ, List.set_cons_zero]
            rfl
      rintro a' W1 ⟨g, rfl, hb1⟩
      have hA1 := hA.step hb1
      have hM1 := hM.step hb1
      have hW1 := hW.step hb1
      have hlt1 := Nat.le_trans hlt hb1.size
      clear hA hM hW hb1 hlt
      simp only [Act.put, List.setIfInBounds_toArray, List.set_cons_succ, List.set_cons_zero]
      by_cases ho : zo = 0
      · have hz0 : (zo == 0) = true := by rw [ho]; rfl
        have hsk := goodL_pick hs l k (by rw [Hlenr.out]; exact hkn) (by rw [Hx.out, Hz.out]; exact ho)
        rw [Hx.out] at hsk
        have hgl : (goodL hs (l.take k)).length ≤ 60 := by
          have := goodL_le hs (l.take k)
          rw [List.length_take] at this
          omega
        generalize hq : goodL hs (l.take k) = q at *
        have Hsk := Lib.hid hsk
        have Hq := Lib.hid hq
        clear ho hsk hq
        go_upto_region 14 with fail
        obtain ⟨v, hk1, hv1⟩ := hW1
        have hS : Below (gW + 1) W1 W1.drew := (Below.refl _ _).drew
        have c10 : ∀ s : InC (fun W => Below (gW + 1) W1 W), s.W.cell? ⟨gW, 0, none⟩ = some v := fun s => by rw [(hk1.below s.ok (Nat.lt_succ_self _)).cell]; rfl
        have hl1 : ∀ s : InC (fun W => Below (gW + 1) W1 W), (Instr.loadAt 29 (.pointer (some ⟨b, o + k * 2, none⟩))).run Try.prog s.W = .ok (.agg #[.int .i64 x1, .int .i64 x2]) s.W := fun s => Hld.out _ ⟨hA1.rs.sl.below s.ok (fun b _ hb => by omega), hA1.rs.len⟩
        have Hl1 := Lib.hid hl1
        clear hl1
        have hA2 := hA1.step (Below.refl _ W1).drew
        have hM2 := hM1.step (Below.refl _ W1).drew
        have hk2 := hk1.step (Below.refl _ W1).drew
        have hv2 := owns_step hv1 (Below.refl _ W1).drew
        have hlt2 : gW + 1 ≤ W1.drew.heap.size := hlt1
        clear hA1 hM1 hk1 hv1
        refine wp_region_mix_tail (fun W => Below (gW + 1) W1 W) 7 [(0, true), (1, true), (2, true), (3, true), (4, true), (5, false), (6, false)] (by kernel_rfl) (by kernel_rfl) hS fun _ => ?_
        simp only [List.map_cons, List.map_nil, Array.getD_eq_getD_getElem?, List.getElem?_toArray, List.getElem?_cons_succ, List.getElem?_cons_zero, Option.getD_some]
        generalize W1.drew = W2 at hS hA2 hM2 hk2 hv2 hlt2 ⊢
        refine wpMix_s (fun K hK => ?_)
        go_simp
        refine hK _ ?_
        clear hK K
        refine wpMix_s (fun K hK => ?_)
        go_simp
        refine hK _ ?_
        clear hK K
        refine wpMix_s (fun K hK => ?_)
        go_simp
        refine hK _ ?_
        clear hK K
        refine wpMix_s (fun K hK => ?_)
        go_simp
        refine hK _ ?_
        clear hK K
        refine wpMix_load (by kernel_rfl) 29 (.tmp 70) rfl (b) (o + k * 2) rfl #[.int .i64 x1, .int .i64 x2] (Hl1.out) ?_
        simp only [Act.put]
        obtain ⟨v', W9, hr9, hk9, hv9, hg9, hb9, hge9⟩ := TeW.more hv2 hk2 (x1, x2) (by omega) hlt2
        obtain ⟨gv, cv, rfl⟩ := owns_some hv9 (by omega)
        refine wpMix_run (by kernel_rfl) (.slice (some ⟨W2.heap.size, 0, none⟩) 1 1) (W2.alloc (.cells #[.int .i64 x1, .int .i64 x2] 29)) (run_litR_op (.tmp 71) x1 x2 rfl rfl _) (hS.alloc (by omega) _) ?_
        simp only [Act.put]
        refine wpMix_run (by kernel_rfl) (.slice (some ⟨gv, 0, none⟩) (q.length + 1) cv) (W9) (run_append_op (.tmp 67) (.tmp 72) 22 rfl _ _ rfl rfl hr9) (hS.trans hb9) ?_
        simp only [Act.put]
        refine wpMix_nil ?_
        intro _
        simp only [List.drop_succ_cons, List.drop_zero]
        have c10' : W9.cell? ⟨gW, 0, none⟩ = some v := by rw [hk9.cell]; rfl
        have f10 := hk9.frozen 0
        go_wp2_with fail
        refine np_normal ?_
        have hA9 := hA2.grown hg9 (fun r e => .inr (by have := hge9 r e; omega))
        have hM9 := hM2.grown hg9 (fun e => by have := hge9 gm e.symm; omega) (own_dec hgo hge9 (by omega))
        have hA10 := hA9.grown (grownBy_setCell' W9 gW (.slice (some ⟨gv, 0, none⟩) (q.length + 1) cv)) (fun r e => by cases e; exact .inr hZW)
        have hM10 := hM9.grown (grownBy_setCell' W9 gW (.slice (some ⟨gv, 0, none⟩) (q.length + 1) cv)) (fun e => by cases e; omega) (own_dec hgo (fun r e => by cases e; exact Nat.le_refl gW) (by omega))
        have hW10 : TeW gW (q ++ [(x1, x2)]) (W9.setCell ⟨gW, 0, none⟩ (.slice (some ⟨gv, 0, none⟩) (q.length + 1) cv)) := ⟨.slice (some ⟨gv, 0, none⟩) (q.length + 1) cv, hk9.set_ 0 _, by
          rw [List.length_append]
          refine hv9.kept (grownBy_setCell' W9 gW (.slice (some ⟨gv, 0, none⟩) (q.length + 1) cv)) ?_
          cases hv : (Value.slice (some ⟨gv, 0, none⟩) (q.length + 1) cv).ownBlock with
          | none => exact .inl rfl
          | some g => exact .inr fun e => by cases e; have := (hv9.lt gW hv).1; omega⟩
        have hlt10 : gW + 1 ≤ (W9.setCell ⟨gW, 0, none⟩ (.slice (some ⟨gv, 0, none⟩) (q.length + 1) cv)).heap.size := hW10.lt
        rw [← Hsk.out] at hW10
        generalize W9.setCell ⟨gW, 0, none⟩ (.slice (some ⟨gv, 0, none⟩) (q.length + 1) cv) = W10 at *
        clear hA2 hM2 hk2 hv2 hA9 hM9 hk9 hv9 hg9 hb9 hge9 c10 c10' f10 hS Hl1
        go_wp2_with fail
        refine ⟨⟨k + 1, by omega, by go_num, hA10, hM10, hW10, hlt10⟩, by simp [intOf]; omega⟩
      · have hz0 : (zo == 0) = false := by simp [ho]
        have hsk := goodL_skip hs l k (by rw [Hlenr.out]; exact hkn) (by rw [Hx.out, Hz.out]; exact ho)
        have Hsk := Lib.hid hsk
        clear ho hsk
        go_wp2_with fail
        refine ⟨⟨k + 1, by omega, by go_num, hA1, hM1, by rw [Hsk.out]; exact hW1, hlt1⟩, by simp [intOf]; omega⟩
    · obtain rfl : k = nr := by omega
      have hW' : TeW gW (goodL hs l) wr := by rwa [show l.take k = l by rw [← Hlenr.out]; simp] at hW
      clear hW
      go_wp2_with fail
      obtain ⟨wo, hwo⟩ : ∃ wo : World, wo = wr := ⟨_, rfl⟩
      subst hwo
      go_loopw [14] (fun v w2 => ∃ q : Nat, q ≤ n ∧ v = .int .i64 q ∧ TeA w hs l A n c Ar k cr lv A2 c2 Ar2 cr2 G Z w2 ∧ TeM w3.heap.size gm n c' Ao k co w2 ∧ TeW gW (goodL hs l) w2) (fun v _ => n - (intOf v).toNat)
      case atStart => exact ⟨0, Nat.zero_le _, rfl, hA, hM, hW'⟩
      case round =>
        clear hA hM hW' hlt
        obtain ⟨q, hq, rfl, hA, hM, hW⟩ := hrel
        by_cases hqn : q < n
        · obtain ⟨xs, hm⟩ := hM.m
          obtain ⟨y, hy⟩ : ∃ y, oneHash 9 = y := ⟨_, rfl⟩
          have hyl : y.length = 32 := by rw [← hy]; exact length_oneHash _
          obtain ⟨cur, hk, hfit, -, hm'⟩ := owns_put hm q (by omega) (y.map B) (by simp [hyl])
          have hA' := hA.grown (grownBy_setRowE wr gm (cur.toList.take (q * 32) ++ (y.map B) ++ cur.toList.drop (q * 32 + 32)).toArray) (fun r e => by cases e; exact .inl ⟨by omega, hgmG⟩)
          have hM' : TeM w3.heap.size gm n c' Ao k co (wr.setRow gm (cur.toList.take (q * 32) ++ (y.map B) ++ cur.toList.drop (q * 32 + 32)).toArray) := ⟨⟨_, hm'⟩, let ⟨zs, h⟩ := hM.o; ⟨zs, h.kept (grownBy_setRowE wr gm _) (by
            cases hv : (Value.slice Ao k co).ownBlock with
            | none => exact .inl rfl
            | some g => exact .inr fun e => by cases e; have := hgo2 gm hv; omega)⟩⟩
          have hW' := hW.grown (grownBy_setRowE wr gm (cur.toList.take (q * 32) ++ (y.map B) ++ cur.toList.drop (q * 32 + 32)).toArray) (fun r e => by cases e; omega)
          have Hy := Lib.hid hy
          have Hyl := Lib.hid hyl
          clear hy hyl hm hm' hA hM hW
          go_wp2_with (first
            | ((with_reducible show wpList _ _ _ (⟨some 82, .build _ _, _, _, _, _⟩ :: _) _ _); refine wpList_run0 rfl (.agg (y.map B).toArray) (by rw [← Hy.out]; kernel_rfl) ?_; simp only [Act.put])
            | ((with_reducible show wpList _ _ _ (⟨none, .store _ (.tmp 83) _, _, _, _, _⟩ :: _) _ _); refine wpList_store_agg rfl 34 (.tmp 83) (.tmp 82) rfl 32 size26 gm (q * 32) (y.map B).toArray rfl rfl (by simp [Hyl.out]) (oneCell_B _) 34 cur hk hfit ?_; simp only [Act.put]; refine wpList_world (fun W' => TeA w hs l A n c Ar k cr lv A2 c2 Ar2 cr2 G Z W' ∧ TeM w3.heap.size gm n c' Ao k co W' ∧ TeW gW (goodL hs l) W') ⟨hA', hM', hW'⟩ ?_; clear hA' hM' hW' hk hfit; rintro W' ⟨hA', hM', hW'⟩))
          exact ⟨⟨q + 1, by omega, by go_num, hA', hM', hW'⟩, by simp [intOf]; omega⟩
        · obtain rfl : q = n := by omega
          go_wp2_with fail
          obtain ⟨wp, hwp⟩ : ∃ wp : World, wp = wr := ⟨_, rfl⟩
          subst hwp
          go_loopw [15] (fun v w2 => ∃ p : Nat, p ≤ k ∧ v = .int .i64 p ∧ TeA w hs l A q c Ar k cr lv A2 c2 Ar2 cr2 G Z w2 ∧ TeM w3.heap.size gm q c' Ao k co w2 ∧ TeW gW (goodL hs l) w2) (fun v _ => k - (intOf v).toNat)
          case atStart => exact ⟨0, Nat.zero_le _, rfl, hA, hM, hW⟩
          case round =>
            clear hA hM hW
            obtain ⟨p, hp, rfl, hA, hM, hW⟩ := hrel
            by_cases hpk : p < k
            · obtain ⟨xs, ho⟩ := hM.o
              obtain ⟨go, co', hgo'⟩ := owns_some ho (by omega)
              obtain ⟨rfl, rfl⟩ : Ao = some ⟨go, 0, none⟩ ∧ co = co' := by cases hgo'; exact ⟨rfl, rfl⟩
              clear hgo'
              have hg1 := hgo go rfl
              have hg2 := hgo2 go rfl
              obtain ⟨cur, hk', hfit, -, ho'⟩ := owns_put ho p hpk [Value.int .i64 99, Value.int .i64 0] rfl
              have hA' := hA.grown (grownBy_setRowE wr go (cur.toList.take (p * 2) ++ [Value.int .i64 99, Value.int .i64 0] ++ cur.toList.drop (p * 2 + 2)).toArray) (fun r e => by cases e; exact .inl ⟨by omega, hg1⟩)
              have hM' : TeM w3.heap.size gm q c' (some ⟨go, 0, none⟩) k co (wr.setRow go (cur.toList.take (p * 2) ++ [Value.int .i64 99, Value.int .i64 0] ++ cur.toList.drop (p * 2 + 2)).toArray) := ⟨let ⟨zs, h⟩ := hM.m; ⟨zs, h.kept (grownBy_setRowE wr go _) (.inr (fun e => by have e : gm = go := Option.some.inj e; omega))⟩, ⟨_, ho'⟩⟩
              have hW' := hW.grown (grownBy_setRowE wr go (cur.toList.take (p * 2) ++ [Value.int .i64 99, Value.int .i64 0] ++ cur.toList.drop (p * 2 + 2)).toArray) (fun r e => by cases e; omega)
              clear ho ho' hA hM hW
              go_wp2_with ((with_reducible show wpList _ _ _ (⟨none, .store _ (.tmp 93) _, _, _, _, _⟩ :: _) _ _); refine wpList_store_agg rfl 29 (.tmp 93) (.tmp 92) rfl 2 sizeR go (p * 2) #[Value.int .i64 99, Value.int .i64 0] rfl rfl rfl (by intro v hv; simp at hv; rcases hv with rfl | rfl <;> rfl) 29 cur hk' hfit ?_; simp only [Act.put]; refine wpList_world (fun W' => TeA w hs l A q c Ar k cr lv A2 c2 Ar2 cr2 G Z W' ∧ TeM w3.heap.size gm q c' (some ⟨go, 0, none⟩) k co W' ∧ TeW gW (goodL hs l) W') ⟨hA', hM', hW'⟩ ?_; clear hA' hM' hW' hk' hfit; rintro W' ⟨hA', hM', hW'⟩)
              exact ⟨⟨p + 1, by omega, by go_num, hA', hM', hW'⟩, by simp [intOf]; omega⟩
            · obtain rfl : p = k := by omega
              clear hM
              go_wp2_with fail
              have hT0 : Blk (wr.alloc (.cells #[.int .i64 0] 3)) wr.heap.size 3 #[.int .i64 0] := Blk.new _ _ _
              have hbT : Below wr.heap.size wr (wr.alloc (.cells #[.int .i64 0] 3)) := (Below.refl _ _).alloc (Nat.le_refl _) _
              have hA0 := hA.step hbT
              have hW0 := hW.step hbT
              have hgT := hW.lt
              clear hA hW hbT
              generalize wr.alloc (.cells #[.int .i64 0] 3) = W0 at *
              generalize wr.heap.size = gT0 at *
              refine wp_loop_us (fun us a W => ∃ (gT : Nat) (ds : List Nat), ds.length ≤ 2 ∧ a = { tmps := #[us 0, us 1, us 2, .pointer (some ⟨w.heap.size, 0, none⟩), us 4, .pointer (some ⟨w.heap.size + 1, 0, none⟩), .pointer (some ⟨w.heap.size + 1 + 1, 0, none⟩), us 7, us 8, .func (.func 68) #[] #[.pointer (some ⟨G + 1, 0, none⟩), .pointer (some ⟨G, 0, none⟩)], .pointer (some ⟨gW, 0, none⟩), us 11, us 12, us 13, us 14, us 15, .pointer (some ⟨gT, 0, none⟩), us 17, us 18, us 19, us 20, us 21, us 22, us 23, us 24, us 25, us 26, us 27, us 28, us 29, us 30, us 31, us 32, us 33, us 34, us 35, us 36, us 37, us 38, us 39, us 40, us 41, us 42, us 43, us 44, us 45, us 46, us 47, us 48, us 49, us 50, us 51, us 52, us 53, us 54, us 55, us 56, us 57, us 58, us 59, us 60, us 61, us 62, us 63, us 64, us 65, us 66, us 67, us 68, us 69, us 70, us 71, us 72, us 73, us 74, us 75, us 76, us 77, us 78, us 79, us 80, us 81, us 82, us 83, us 84, us 85, us 86, us 87, us 88, us 89, us 90, us 91, us 92, us 93, us 94, us 95, us 96, us 97, us 98, us 99, us 100, us 101, us 102, us 103, us 104, us 105, us 106, us 107, us 108, us 109, us 110, us 111, us 112, us 113, us 114, us 115, us 116, us 117, us 118, us 119, us 120, us 121, us 122, us 123, us 124, us 125, us 126, us 127, us 128, us 129, us 130, us 131, us 132, us 133, us 134, us 135, us 136, us 137, us 138, us 139, us 140, us 141, us 142, us 143, us 144, us 145, us 146, us 147, us 148, us 149, us 150, us 151, us 152, us 153, us 154, us 155, us 156, us 157], defers := ds.map markOf } ∧ TeA w hs l A q c Ar p cr lv A2 c2 Ar2 cr2 G Z W ∧ TeW gW (goodL hs l) W ∧ Blk W gT 3 #[.int .i64 (ds.length : Int)] ∧ MarksOk w.heap.size ds W ∧ gW < gT) (fun a _ => 3 - a.defers.length) ?_ ?_
              · exact ⟨gT0, [], by simp, by kernel_rfl, hA0, hW0, hT0, MarksOk.nil _ _, by omega⟩
              · clear hA0 hW0 hT0 hgT
                rintro us a W ⟨gT, ds, hds, rfl, hA, hW, hT, hM, hgT⟩
                obtain ⟨t, ht⟩ : ∃ t, ds.length = t := ⟨_, rfl⟩
                rw [ht] at hT hds
                have c16 : W.cell? ⟨gT, 0, none⟩ = some (.int .i64 (t : Int)) := by rw [hT.cell]; rfl
                have Ht := Lib.hid ht
                have hZs := hA.sz
                have hTs := hT.lt
                clear ht
                by_cases ht2 : t < 2
                · clear hds
                  go_wp2_with fail
                  have hbk : Below W.heap.size W (W.alloc (.cells #[.int .i64 0] 3)) := (Below.refl _ _).alloc (Nat.le_refl _) _
                  have hQ0 : TeQ w hs l A q c Ar p cr lv A2 c2 Ar2 cr2 G Z gW gT W.heap.size t ds 0 (W.alloc (.cells #[.int .i64 0] 3)) := ⟨hA.step hbk, hW.step hbk, hT.step hbk, Blk.new _ _ _, hM.step hbk, hZW, hgT, hTs⟩
                  have hmD := hM.lt
                  have hsz1 : (W.alloc (.cells #[.int .i64 0] 3)).heap.size = W.heap.size + 1 := by simp
                  clear hA hW hT hM hbk c16
                  generalize W.alloc (.cells #[.int .i64 0] 3) = W1 at *
                  generalize W.heap.size = gk at *
                  have hUz : ∀ b, G + 1 < b ∧ b < Z → ¬ b = gk := fun b hb e => by omega
                  refine wp_range_U (gf := 68) (lb := #[.pointer (some ⟨G + 1, 0, none⟩), .pointer (some ⟨G, 0, none⟩)]) rfl (enters_of Try.func68 (by kernel_rfl) rfl)
                    (each1_seq hs l A2 q c2 Ar2 p cr2 (G + 1) G (· = gk) W1 hQ0.a.e1 hQ0.a.e2 (hQ0.a.eh.weak fun b _ hb => hUz b hb) (hQ0.a.er.weak fun b _ hb => hUz b hb) (by intro e; omega) (fun b hb => by omega) (by omega) (by omega))
                    (fun n₁ k vs W h => by rw [show vs = _ from h]; rfl)
                    (fun _ => TeQ w hs l A q c Ar p cr lv A2 c2 Ar2 cr2 G Z gW gT gk t ds) (fun _ cd k W => cd = .exit 8 ∧ (t : Int) = 0 ∧ (k : Int) = lv ∧ TeQ w hs l A q c Ar p cr lv A2 c2 Ar2 cr2 G Z gW gT gk t ds k W)
                    (fun _ => TeQ.own (by omega) (fun D hD => by have := hmD D hD; omega)) (fun _ cd k X Y row h hg hr => ⟨h.1, h.2.1, h.2.2.1, TeQ.own (by omega) (fun D hD => by have := hmD D hD; omega) k X Y row h.2.2.2 hg hr⟩) (fun _ _ => hQ0) ?round ?done ?stop
                  case round =>
                    clear hQ0
                    intro li n₁ k vs X hl hln hnX hk hI hy
                    subst hy
                    obtain ⟨⟨x1, x2⟩, hx⟩ : ∃ x, (goodL hs l).getD k (0, 0) = x := ⟨_, rfl⟩
                    have hgm := goodL_mem hs l k hk
                    rw [hx] at hgm ⊢
                    dsimp only [rval] at hgm ⊢
                    obtain ⟨hx0, hx12, hxn, hxz⟩ := good_of hs x1 x2 hgm
                    rw [hxz]
                    obtain ⟨a, rfl⟩ : ∃ a : Nat, x1 = a := ⟨x1.toNat, by omega⟩
                    obtain ⟨b, rfl⟩ : ∃ b : Nat, x2 = b := ⟨x2.toNat, by omega⟩
                    rw [Int.toNat_natCast, Int.toNat_natCast]
                    have hab : a < b := by omega
                    have hbq : b ≤ q := by rw [Hlen.out] at hxn; omega
                    obtain ⟨z, hz⟩ : ∃ z, stretchL hs a b = z := ⟨_, rfl⟩
                    have hzl : z.length = 32 := by rw [← hz]; exact length_stretchL hs a b H32h.out
                    rw [hz]
                    have Hx := Lib.hid hx
                    have Hz := Lib.hid hz
                    have Hzl := Lib.hid hzl
                    clear hx hz hzl hgm hx0 hx12 hxn hxz
                    have k18 := Blk.new X 29 #[.int .i64 (a : Int), .int .i64 (b : Int)]
                    have hb18 : Below X.heap.size X (X.alloc (.cells #[.int .i64 (a : Int), .int .i64 (b : Int)] 29)) := (Below.refl _ _).alloc (Nat.le_refl _) _
                    gi_wp2_with ((with_reducible show wpListIn _ _ _ _ _ (⟨some 19, .alloc _, _, _, _, _⟩ :: _) _ _); refine wpListIn_of2 (openR li) rfl ?_; refine wpList_hvar (.tmp 19) (.tmp 100) rfl rfl rfl rfl rfl rfl Hzl.out ?_; intro X1 k19 hb19; refine thenN_nil ?_; simp only [Act.put])
                    refine ⟨KeepU.below (hb18.trans (hb19.mono hb18.size)), ?_⟩
                    intro X2 hturn
                    have hQ2 := hturn.own (TeQ.own (by omega) (fun D hD => by have := hmD D hD; omega)) ((hI.step hb18).step hb19)
                    have k18' := hturn.blk (k18.step hb19)
                    have k19' : HV X2 (X.alloc (.cells #[.int .i64 (a : Int), .int .i64 (b : Int)] 29)).heap.size z := ⟨hturn.blk k19.blk, Hzl.out⟩
                    clear hI k18 k19 hb18 hb19 hturn hnX
                    generalize (X.alloc (.cells #[.int .i64 (a : Int), .int .i64 (b : Int)] 29)).heap.size = g19 at k19' ⊢
                    generalize X.heap.size = g18 at k18' ⊢
                    obtain ⟨v, hkv, hov⟩ := hQ2.wn
                    obtain ⟨Aw, cw, rfl, hrw⟩ := Rs.of_owns hov rfl
                    obtain ⟨bw, ow, rfl, -, -, -⟩ := hrw.at_ (by omega)
                    obtain ⟨M, hM⟩ : ∃ M, (goodL hs l).length = M := ⟨_, rfl⟩
                    have hM60 : M ≤ 60 := by have := goodL_le hs l; rw [Hlenr.out, hM] at this; omega
                    rw [hM] at hkv hov hrw hk
                    have hroomw := hrw.sl.room
                    have hmxw := hrw.sl.max
                    unfold maxLen at hmxw
                    have hS : Below X2.heap.size X2 X2.drew := (Below.refl _ _).drew
                    have c17 : ∀ s : InC (fun W => Below X2.heap.size X2 W), s.W.cell? ⟨gk, 0, none⟩ = some (.int .i64 (k : Int)) := fun s => by rw [(hQ2.bk.step s.ok).cell]; rfl
                    have c10 : ∀ s : InC (fun W => Below X2.heap.size X2 W), s.W.cell? ⟨gW, 0, none⟩ = some (.slice (some ⟨bw, ow, none⟩) M cw) := fun s => by rw [(hkv.step s.ok).cell]; rfl
                    have c3 : ∀ s : InC (fun W => Below X2.heap.size X2 W), s.W.cell? ⟨w.heap.size, 0, none⟩ = some (.slice A q c) := fun s => by rw [(hQ2.a.b3.step s.ok).cell]; rfl
                    have r0 : ∀ s : InC (fun W => Below X2.heap.size X2 W), s.W.cell? ⟨g18, 0, none⟩ = some (.int .i64 (a : Int)) := fun s => by rw [(k18'.step s.ok).cell]; rfl
                    have r1 : ∀ s : InC (fun W => Below X2.heap.size X2 W), s.W.cell? ⟨g18, 1, none⟩ = some (.int .i64 (b : Int)) := fun s => by rw [(k18'.step s.ok).cell]; rfl
                    have l18 : ∀ s : InC (fun W => Below X2.heap.size X2 W), (Instr.loadAt 29 (.pointer (some ⟨g18, 0, none⟩))).run Try.prog s.W = .ok (.agg #[.int .i64 (a : Int), .int .i64 (b : Int)]) s.W := fun s => load_R (k18'.step s.ok)
                    have l19 : ∀ s : InC (fun W => Below X2.heap.size X2 W), (Instr.loadAt 34 (.pointer (some ⟨g19, 0, none⟩))).run Try.prog s.W = .ok (.agg (z.map B).toArray) s.W := fun s => (k19'.step s.ok).load
                    have l10 : ∀ s : InC (fun W => Below X2.heap.size X2 W), (Instr.loadAt 29 (.pointer (some ⟨bw, ow + k * 2, none⟩))).run Try.prog s.W = .ok (.agg #[.int .i64 (a : Int), .int .i64 (b : Int)]) s.W := fun s => by
                      have := (hrw.step s.ok).load rfl k hk
                      rw [Hx.out] at this
                      exact this
                    have hsub : Hs X2.drew (fun _ => True) (if c = a then A else A.map (·.add (a * 32))) (b - a) (c - a) ((hs.take b).drop a) := (((hQ2.a.src.take b hbq).drop a (by omega)).weak fun _ _ _ => trivial).drew
                    have hrof := rof_any _ _ _ _ _ hsub (by omega)
                    rw [show rootL ((hs.take b).drop a) = z by rw [List.drop_take]; exact Hz.out] at hrof
                    have L18 := Lib.hid l18
                    have L19 := Lib.hid l19
                    have L10 := Lib.hid l10
                    clear l18 l19 l10 hsub k18' k19' hkv hov hrw
                    generalize hAs : (if c = a then A else A.map (·.add (a * 32))) = As at hrof
                    have HAs := Lib.hid hAs
                    have hge1 : decide (M ≤ k) = false := by simp; omega
                    have hge2 : decide ((M : Int) ≤ (k : Int)) = false := by simp; omega
                    clear hAs
                    gi_wp2
                    refine wpIn_region_mix (openR li) rfl (fun _ _ h => h) (fun W => Below X2.heap.size X2 W) [(0, true), (1, true), (2, true), (3, true), (4, true), (5, true), (6, true), (7, true), (8, true), (9, true), (10, true), (11, true), (12, true), (13, true), (14, true), (15, true), (16, true), (17, true), (18, true), (19, true), (20, false), (21, true), (22, true)] (by kernel_rfl) (by kernel_rfl) hS fun _ => ?_
                    simp only [List.map_cons, List.map_nil, Array.getD_eq_getD_getElem?, List.getElem?_toArray, List.getElem?_cons_succ, List.getElem?_cons_zero, Option.getD_some]
                    generalize X2.drew = W0 at hS hrof ⊢
                    refine wpMix_s (fun K hK => ?_)
                    go_simp
                    refine hK _ ?_
                    clear hK K
                    refine wpMix_s (fun K hK => ?_)
                    go_simp
                    refine hK _ ?_
                    clear hK K
                    refine wpMix_s (fun K hK => ?_)
                    go_simp
                    refine hK _ ?_
                    clear hK K
                    refine wpMix_s (fun K hK => ?_)
                    go_simp
                    refine hK _ ?_
                    clear hK K
                    refine wpMix_s (fun K hK => ?_)
                    go_simp
                    refine hK _ ?_
                    clear hK K
                    refine wpMix_load (by kernel_rfl) 29 (.tmp 18) rfl (g18) (0) rfl #[.int .i64 (a : Int), .int .i64 (b : Int)] (L18.out) ?_
                    simp only [Act.put]
                    refine wpMix_s (fun K hK => ?_)
                    go_simp
                    refine hK _ ?_
                    clear hK K
                    refine wpMix_s (fun K hK => ?_)
                    go_simp
                    refine hK _ ?_
                    clear hK K
                    refine wpMix_s (fun K hK => ?_)
                    go_simp
                    refine hK _ ?_
                    clear hK K
                    refine wpMix_load (by kernel_rfl) 29 (.tmp 109) rfl (bw) (ow + k * 2) rfl #[.int .i64 (a : Int), .int .i64 (b : Int)] (L10.out) ?_
                    simp only [Act.put]
                    refine wpMix_v (by kernel_rfl) (.bool false) (fun s => run_neqR_f (.tmp 106) (.tmp 110) _ (a : Int) (b : Int) rfl rfl rfl s.W) ?_
                    simp only [Act.put]
                    refine wpMix_s (fun K hK => ?_)
                    go_simp
                    refine hK _ ?_
                    clear hK K
                    refine wpMix_s (fun K hK => ?_)
                    go_simp
                    refine hK _ ?_
                    clear hK K
                    refine wpMix_load (by kernel_rfl) 34 (.tmp 19) rfl (g19) (0) rfl (z.map B).toArray (L19.out) ?_
                    simp only [Act.put]
                    refine wpMix_s (fun K hK => ?_)
                    go_simp
                    refine hK _ ?_
                    clear hK K
                    refine wpMix_s (fun K hK => ?_)
                    go_simp
                    refine hK _ ?_
                    clear hK K
                    refine wpMix_s (fun K hK => ?_)
                    go_simp
                    refine hK _ ?_
                    clear hK K
                    refine wpMix_s (fun K hK => ?_)
                    go_simp
                    refine hK _ ?_
                    clear hK K
                    refine wpMix_s (fun K hK => ?_)
                    go_simp
                    refine hK _ ?_
                    clear hK K
                    refine wpMix_v (by kernel_rfl) (.slice As (b - a) (c - a)) (fun s => by rw [← HAs.out]; exact run_slice_op_both (.tmp 115) (.tmp 117) (.tmp 119) rfl A q c a b rfl rfl rfl (by omega) (by omega) s.W) ?_
                    simp only [Act.put]
                    refine wpMix_c (fun K hK => ?_) hS
                    go_simp
                    refine (hrof).mono ?_
                    rintro e W0_1 ⟨rfl, hb'⟩
                    refine hK _ _ ?_
                    clear hK K
                    replace hS := hS.trans (hb'.mono hS.size)
                    refine ⟨hS, ?_⟩
                    clear hb'
                    refine wpMix_v (by kernel_rfl) (.bool false) (fun s => run_neq26_f (.tmp 114) (.tmp 121) _ z z rfl rfl rfl Hzl.out Hzl.out rfl s.W) ?_
                    simp only [Act.put]
                    refine wpMix_s (fun K hK => ?_)
                    go_simp
                    refine hK _ ?_
                    clear hK K
                    refine wpMix_nil ?_
                    intro _
                    generalize W0_1 = W3 at *
                    have hQ3 := hQ2.step hS
                    have hK3 : KeepU W1.heap.size n₁ (· = gk) X2 W3 := KeepU.below hS
                    clear hQ2 hS c17 c10 c3 r0 r1
                    have c17 : W3.cell? ⟨gk, 0, none⟩ = some (.int .i64 (k : Int)) := by rw [hQ3.bk.cell]; rfl
                    have f17 := hQ3.bk.frozen 0
                    have c16 : W3.cell? ⟨gT, 0, none⟩ = some (.int .i64 (t : Int)) := by rw [hQ3.bT.cell]; rfl
                    have c5 : W3.cell? ⟨w.heap.size + 1, 0, none⟩ = some (.int .i64 lv) := by rw [hQ3.a.b5.cell]; rfl
                    have hQ4 := hQ3.setk (k + 1)
                    have hK4 := hK3.trans (KeepU.setCell (B := W1.heap.size) (n₁ := n₁) (U := (· = gk)) hQ3.bk (.inr rfl) 0 (.int .i64 ((k + 1 : Nat) : Int)))
                    rw [show ((k + 1 : Nat) : Int) = (k : Int) + 1 by omega] at hQ4 hK4
                    have d16 : (W3.setCell ⟨gk, 0, none⟩ (.int .i64 ((k : Int) + 1))).cell? ⟨gT, 0, none⟩ = some (.int .i64 (t : Int)) := by rw [hQ4.bT.cell]; rfl
                    have d17 : (W3.setCell ⟨gk, 0, none⟩ (.int .i64 ((k : Int) + 1))).cell? ⟨gk, 0, none⟩ = some (.int .i64 ((k : Int) + 1)) := by rw [hQ4.bk.cell]; simp
                    have d5 : (W3.setCell ⟨gk, 0, none⟩ (.int .i64 ((k : Int) + 1))).cell? ⟨w.heap.size + 1, 0, none⟩ = some (.int .i64 lv) := by rw [hQ4.a.b5.cell]; rfl
                    have HQ4 := Lib.hid hQ4
                    have HK4 := Lib.hid hK4
                    clear hQ3 hK3 hQ4 hK4
                    by_cases hex : t = 0 ∧ (k : Int) + 1 = lv
                    · obtain ⟨rfl, hlv⟩ := hex
                      subst hlv
                      gi_wp2
                      exact ⟨HK4.out.f, rfl, rfl, by omega, HQ4.out⟩
                    · by_cases ht0 : t = 0
                      · subst ht0
                        have hkl : ((k : Int) + 1 == lv) = false := by simp; intro e; exact hex ⟨rfl, e⟩
                        clear hex
                        gi_wp2
                        exact ⟨HK4.out, HQ4.out⟩
                      · have hz : ((t : Int) == 0) = false := by simp; omega
                        clear hex ht0
                        gi_wp2
                        exact ⟨HK4.out, HQ4.out⟩
                  case done =>
                    clear hQ0
                    intro D n₁ X hD hDn hI hK
                    obtain ⟨v, hkv, hov⟩ := hI.wn
                    obtain ⟨Aw, cw, rfl, -⟩ := Rs.of_owns hov rfl
                    have hvm := (owns_slv hov).choose_spec.choose_spec
                    have c10 : X.cell? ⟨gW, 0, none⟩ = some (.slice Aw (goodL hs l).length cw) := by rw [hkv.cell]; rfl
                    have c16 : X.cell? ⟨gT, 0, none⟩ = some (.int .i64 (t : Int)) := by rw [hI.bT.cell]; rfl
                    have c17 : X.cell? ⟨gk, 0, none⟩ = some (.int .i64 (((goodL hs l).length : Nat) : Int)) := by rw [hI.bk.cell]; rfl
                    have hlM : (goodL hs l).length ≤ 60 := by have := goodL_le hs l; rw [Hlenr.out] at this; omega
                    have c5 : X.cell? ⟨w.heap.size + 1, 0, none⟩ = some (.int .i64 lv) := by rw [hI.a.b5.cell]; rfl
                    have hbX : Below X.heap.size X (X.alloc (.cells #[.int .i64 ((t + 1 : Nat) : Int)] 3)) := (Below.refl _ _).alloc (Nat.le_refl _) _
                    have hA9 := hI.a.step hbX
                    have hW9 := hI.wn.step hbX
                    have hM9 := ((hI.mks.cons (D := D) (by have := hI.a.bel.size; omega) hK (fun h => by have := hmD D h; omega)).step hbX)
                    have hT9 : Blk (X.alloc (.cells #[.int .i64 ((t + 1 : Nat) : Int)] 3)) X.heap.size 3 #[.int .i64 ((t + 1 : Nat) : Int)] := Blk.new _ _ _
                    have hgX : gW < X.heap.size := hI.wn.lt
                    have HA10 := Lib.hid hA9
                    have HW10 := Lib.hid hW9
                    have HM10 := Lib.hid hM9
                    have HT10 := Lib.hid hT9
                    clear hA9 hW9 hM9 hT9 hbX hI hK hkv hov hvm
                    have htt : t = 0 ∨ t = 1 := by omega
                    rcases htt with rfl | rfl
                    · go_wp2_with fail
                      refine ⟨⟨X.heap.size, D :: ds, by rw [List.length_cons, Ht.out]; omega, by kernel_rfl, HA10.out, HW10.out, by rw [List.length_cons, Ht.out]; exact HT10.out, HM10.out, hgX⟩, ?_⟩
                      simp only [List.length_cons, List.length_map, Ht.out]
                      omega
                    · go_wp2_with fail
                      refine ⟨⟨X.heap.size, D :: ds, by rw [List.length_cons, Ht.out]; omega, by kernel_rfl, HA10.out, HW10.out, by rw [List.length_cons, Ht.out]; exact HT10.out, HM10.out, hgX⟩, ?_⟩
                      simp only [List.length_cons, List.length_map, Ht.out]
                      omega
                  case stop =>
                    clear hQ0
                    rintro D n₁ cd k X hD hDn hk ⟨rfl, h0, hlv, hI⟩ hK
                    obtain ⟨v, hkv, hov⟩ := hI.wn
                    obtain ⟨Aw, cw, rfl, -⟩ := Rs.of_owns hov rfl
                    have hvm := (owns_slv hov).choose_spec.choose_spec
                    have c10 : X.cell? ⟨gW, 0, none⟩ = some (.slice Aw (goodL hs l).length cw) := by rw [hkv.cell]; rfl
                    have c16 : X.cell? ⟨gT, 0, none⟩ = some (.int .i64 (t : Int)) := by rw [hI.bT.cell]; rfl
                    have c17 : X.cell? ⟨gk, 0, none⟩ = some (.int .i64 ((k + 1 : Nat) : Int)) := by rw [hI.bk.cell]; rfl
                    have hlM : (goodL hs l).length ≤ 60 := by have := goodL_le hs l; rw [Hlenr.out] at this; omega
                    have c5 : X.cell? ⟨w.heap.size + 1, 0, none⟩ = some (.int .i64 lv) := by rw [hI.a.b5.cell]; rfl
                    have hbX : Below X.heap.size X (X.alloc (.cells #[.int .i64 ((t + 1 : Nat) : Int)] 3)) := (Below.refl _ _).alloc (Nat.le_refl _) _
                    have hA9 := hI.a.step hbX
                    have hW9 := hI.wn.step hbX
                    have hM9 := ((hI.mks.cons (D := D) (by have := hI.a.bel.size; omega) hK (fun h => by have := hmD D h; omega)).step hbX)
                    have hT9 : Blk (X.alloc (.cells #[.int .i64 ((t + 1 : Nat) : Int)] 3)) X.heap.size 3 #[.int .i64 ((t + 1 : Nat) : Int)] := Blk.new _ _ _
                    have hgX : gW < X.heap.size := hI.wn.lt
                    have HA10 := Lib.hid hA9
                    have HW10 := Lib.hid hW9
                    have HM10 := Lib.hid hM9
                    have HT10 := Lib.hid hT9
                    clear hA9 hW9 hM9 hT9 hbX hI hK hkv hov hvm
                    obtain rfl : t = 0 := by omega
                    subst hlv
                    by_cases hkm : k + 1 = (goodL hs l).length
                    · rw [hkm] at c17 c5
                      go_wp2_with fail
                      refine ⟨⟨X.heap.size, D :: ds, by rw [List.length_cons, Ht.out]; omega, by kernel_rfl, HA10.out, HW10.out, by rw [List.length_cons, Ht.out]; exact HT10.out, HM10.out, hgX⟩, ?_⟩
                      simp only [List.length_cons, List.length_map, Ht.out]
                      omega
                    · have hne : ((k : Int) + 1 != ((goodL hs l).length : Int)) = true := by simp; omega
                      go_wp2_with fail
                      refine ⟨⟨X.heap.size, D :: ds, by rw [List.length_cons, Ht.out]; omega, by kernel_rfl, HA10.out, HW10.out, by rw [List.length_cons, Ht.out]; exact HT10.out, HM10.out, hgX⟩, ?_⟩
                      simp only [List.length_cons, List.length_map, Ht.out]
                      omega
                · obtain rfl : t = 2 := by omega
                  go_wp2_with fail
                  refine (known9_any _).mono ?_
                  rintro e W9 ⟨rfl, hb9⟩
                  have hA9 := hA.step hb9
                  have hM9 := hM.step hb9
                  have c6 : W9.cell? ⟨w.heap.size + 1 + 1, 0, none⟩ = some (.bool false) := by rw [hA9.b6.cell]; rfl
                  have f6 := hA9.b6.frozen 0
                  have k6 := hA9.b6.set_ 0 (.bool true)
                  have hM10 := hM9.cell hA9.b6 (.bool true)
                  have hbE : Below w.heap.size w (W9.setCell ⟨w.heap.size + 1 + 1, 0, none⟩ (.bool true)) := hA9.bel.setCell (by show w.heap.size ≤ w.heap.size + 1 + 1; omega) _
                  clear hA hM hW hT hb9
                  go_wp2_with fail
                  refine leaves_marks (N := w.heap.size) ds _ hM10 fun w' ht => ⟨_, results_cell_bool rfl _ _ (w.heap.size + 1 + 1) true rfl (ht.blk _ _ _ k6), rfl, hbE.trans ht.bel⟩
end Go.Proofs.Ytgcbdnoniikboaa
