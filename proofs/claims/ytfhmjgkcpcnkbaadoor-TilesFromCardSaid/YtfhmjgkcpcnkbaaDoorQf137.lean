/- notarylaw14.spoilt. -/
import Derived.Test.YtfhmjgkcpcnkbaaDoorQf115
import Derived.Test.YtfhmjgkcpcnkbaaDoorQf118
import Derived.Test.YtfhmjgkcpcnkbaaDoorQf129
import Derived.Test.YtfhmjgkcpcnkbaaDoorQf136
import Derived.Test.YtfhmjgkcpcnkbaaDoorQf134
namespace Go.Proofs.YtfhmjgkcpcnkbaaDoor
open Go Go.RowKit

/-- a row of one's own turns, or a new one takes its place -/
structure SpI (w : World) (base : Nat) (v0 : Value) (m : Nat) (v : Value) (W : World) : Prop where
  own : ∃ xs, W.ownsRow base 48 32 v m xs
  g : w.grownBy W v0.ownBlock
  at_ : v.ownBlock = v0.ownBlock ∨ ∃ r, v.ownBlock = some r ∧ w.heap.size ≤ r
theorem SpI.next {w W W' : World} {base m m' : Nat} {v0 v v' : Value} {xs : List Value} (h : SpI w base v0 m v W) (ho : W'.ownsRow base 48 32 v' m' xs) (hg : W.grownBy W' v.ownBlock) (ha : v'.ownBlock = v.ownBlock ∨ ∃ r, v'.ownBlock = some r ∧ W.heap.size ≤ r) : SpI w base v0 m' v' W' := by
  refine ⟨⟨xs, ho⟩, ⟨hg.os.trans h.g.os, hg.tape.trans h.g.tape, hg.output.trans h.g.output, Nat.le_trans h.g.size hg.size, fun k hk hne => (hg.block k (Nat.lt_of_lt_of_le hk h.g.size) (fun e => ?_)).trans (h.g.block k hk hne)⟩, ?_⟩
  · rcases h.at_ with e2 | ⟨r, e2, hr⟩
    · exact hne (e.trans e2)
    · rw [e2] at e
      have := Option.some.inj e
      omega
  · rcases ha with e | ⟨r, e, hr⟩
    · rcases h.at_ with e2 | ⟨r, e2, hr⟩
      · exact .inl (e.trans e2)
      · exact .inr ⟨r, e.trans e2, hr⟩
    · exact .inr ⟨r, e, Nat.le_trans h.g.size hr⟩

set_option maxHeartbeats 2000000 in
set_option maxRecDepth 100000 in
theorem spoilt14_any (w : World) (base n : Nat) (v : Value) (xs : List Value) (h : w.ownsRow base 48 32 v n xs) (hb : base ≤ w.heap.size) (hn : n ≤ 1099511627776) :
    Calls Tryd.prog 15 #[v] w fun e w' => e = .returned (.tuple #[]) ∧ w.grownBy w' v.ownBlock := by
  have hI : SpI w base v n v w := ⟨⟨xs, h⟩, ⟨rfl, rfl, rfl, Nat.le_refl _, fun _ _ _ => rfl⟩, .inl rfl⟩
  obtain ⟨A, c, rfl⟩ : ∃ A c, v = .slice A n c := by
    obtain ⟨A, c, e, -⟩ := owns_slv h
    exact ⟨A, c, e⟩
  obtain ⟨x9, hx9⟩ : ∃ x, oneHash 9 = x := ⟨_, rfl⟩
  have h9 : x9.length = 32 := by rw [← hx9]; exact length_oneHash _
  obtain ⟨x8, hx8⟩ : ∃ x, oneHash 8 = x := ⟨_, rfl⟩
  have h8 : x8.length = 32 := by rw [← hx8]; exact length_oneHash _
  have h832 : H32 [x8] := fun h hh => by rw [List.mem_singleton.1 hh]; exact h8
  have Hx9 := Lib.hid hx9
  have H9 := Lib.hid h9
  have Hx8 := Lib.hid hx8
  have H832 := Lib.hid h832
  clear h hx9 h9 hx8 h8 h832
  go_enter Tryd.func15, Tryd.ntmps15
  go_wp2_with fail
  go_loopw [2] (fun i wr => ∃ k : Nat, k ≤ n ∧ i = .int .i64 k ∧ SpI w base (.slice A n c) n (.slice A n c) wr) (fun i _ => n - (intOf i).toNat)
  case atStart => exact ⟨0, Nat.zero_le _, rfl, hI⟩
  case round =>
    clear hI
    obtain ⟨k, hk, rfl, hC⟩ := hrel
    by_cases hkn : k < n
    · have hd : decide ((k : Int) < (n : Int)) = true := by simp; omega
      obtain ⟨ys, ho⟩ := hC.own
      obtain ⟨g, c', e⟩ := owns_some ho (by omega)
      cases e
      obtain ⟨cur, hk2, hsz, hbg, ho2⟩ := owns_put ho k hkn (x9.map B) (by rw [List.length_map]; exact H9.out)
      have hg2 : wr.grownBy (wr.setRow g (cur.toList.take (k * 32) ++ x9.map B ++ cur.toList.drop (k * 32 + 32)).toArray) (some g) := ⟨rfl, rfl, rfl, by simp, fun i _ hne => setRow_other wr g i _ (fun e => hne (by rw [e]))⟩
      have hC2 := hC.next ho2 hg2 (.inl rfl)
      have HC2 := Lib.hid hC2
      clear ho ho2 hg2 hC hC2
      go_wp2_with (first
        | ((with_reducible show wpList _ _ _ (⟨some 12, .build _ _, _, _, _, _⟩ :: _) _ _); refine wpList_run0 rfl (.agg (x9.map B).toArray) (by rw [← Hx9.out]; kernel_rfl) ?_; simp only [Act.put])
        | ((with_reducible show wpList _ _ _ (⟨none, .store _ _ _, _, _, _, _⟩ :: _) _ _); refine wpList_store_agg rfl 48 (.tmp 13) (.tmp 12) rfl 32 size26 g (k * 32) (x9.map B).toArray (by simp [Act.eval]) rfl (by simp [H9.out]) (oneCell_B _) 48 cur hk2 hsz ?_; simp only [Act.put]))
      refine ⟨⟨k + 1, by omega, by go_num, by simpa only [List.append_assoc] using HC2.out⟩, by simp [intOf]; omega⟩
    · obtain rfl : k = n := by omega
      have hd : decide ((k : Int) < (k : Int)) = false := by simp
      go_wp2_with fail
      go_loopw [0, 3] (fun v i wr => ∃ j : Nat, j ≤ 5 ∧ i = .int .i64 j ∧ SpI w base (.slice A k c) (k + j) v wr) (fun _ i _ => 5 - (intOf i).toNat)
      case atStart => exact ⟨0, by omega, rfl, hC⟩
      case round =>
        clear hC hd
        obtain ⟨j, hj, rfl, hC⟩ := hrel
        by_cases hj5 : j < 5
        · have hd : decide ((j : Int) < 5) = true := by simp; omega
          obtain ⟨ys, ho⟩ := hC.own
          have hbA := Nat.le_trans hb hC.g.size
          have hA := (Below.refl wr.heap.size wr).alloc (Nat.le_refl _) (.cells (hcells [x8]).toArray 48)
          obtain ⟨v3, W3, hr3, ho3, hg3, ha3⟩ := append_slv (ty := 36) Tryd.underlying36 info26z (by simp [Value.cells]) (by decide) (owns_step ho hA) (Hs.lit wr [x8] H832.out (by simp) 1 rfl).sl (oneB _) (by unfold maxLen; omega) (by omega) (Nat.le_trans hbA hA.size)
          have hgA := grown_of_below hA none
          have hg4 : wr.grownBy W3 u0.ownBlock := ⟨hg3.os.trans hA.os, hg3.tape.trans hA.tape, hg3.output.trans hA.output, Nat.le_trans hA.size hg3.size, fun k hk hne => (hg3.block k (Nat.lt_of_lt_of_le hk hA.size) hne).trans (hA.block k hk)⟩
          have hC3 := hC.next ho3 hg4 (by
            rcases ha3 with e | ⟨r, e, hr⟩
            · exact .inl e
            · exact .inr ⟨r, e, Nat.le_trans hA.size hr⟩)
          have Hr3 := Lib.hid hr3
          have HC3 := Lib.hid hC3
          clear hr3 ho3 hg3 ha3 ho hC hC3 hA hgA hg4
          go_wp2_with (first
            | ((with_reducible show wpList _ _ _ (⟨some 19, .build _ _, _, _, _, _⟩ :: _) _ _); refine wpList_run0 rfl (.agg (x8.map B).toArray) (by rw [← Hx8.out]; kernel_rfl) ?_; simp only [Act.put])
            | ((with_reducible show wpList _ _ _ (⟨some 20, .buildSlice _ _ _, _, _, _, _⟩ :: _) _ _); refine wpList_run rfl _ _ (run_lit_op [x8] H832.out (by simp) (by simp) 1 _ rfl (by simp [Act.eval]) rfl _) ?_; simp only [Act.put])
            | ((with_reducible show wpList _ _ _ (⟨some 21, .call _, _, _, _, _⟩ :: _) _ _); refine wpList_run rfl v3 W3 (run_append_op (.tmp 18) (.tmp 20) 36 rfl _ _ rfl rfl Hr3.out) ?_; simp only [Act.put]))
          refine ⟨⟨j + 1, by omega, by go_num, HC3.out⟩, by simp [intOf]; omega⟩
        · obtain rfl : j = 5 := by omega
          have hd : decide ((5 : Int) < 5) = false := by decide
          go_wp2_with fail
          exact bodyPost_end (by exact results_none rfl _ _ _) rfl ⟨rfl, hC.g⟩
end Go.Proofs.YtfhmjgkcpcnkbaaDoor
/- notarylaw14.goes. -/
namespace Go.Proofs.YtfhmjgkcpcnkbaaDoor
open Go Go.RowKit Go.Shelf
attribute [local go_sem] Oper.semAt_some

theorem results_cb14 {fn : Func} {p : Tmp} (h : fn.results = #[.cell p 4]) (tmps : Array Value) (w : World) (g : Nat) (b : Bool) (hp : tmps.getD p undef = .pointer (some ⟨g, 0, none⟩)) (hg : Blk w g 4 #[.bool b]) :
    (results fn tmps).run Tryd.prog w = .ok (.bool b) w := by
  have hp' : tmps[p]?.getD undef = .pointer (some ⟨g, 0, none⟩) := by simpa using hp
  have hc : w.cell? ⟨g, 0, none⟩ = some (.bool b) := by rw [hg.cell]; rfl
  have hagg : ∀ w : World, (isAgg 4).run Tryd.prog w = .ok false w := fun _ => by kernel_rfl
  simp [results, h, hp', asAddr, loadVar, hagg, hc, go_sem]
structure GbX (w : World) (g6 : Nat) (W : World) : Prop where
  b6 : Blk W g6 4 #[.bool true]
  bel : Below w.heap.size w W
theorem GbX.own {w : World} {B g6 : Nat} (h6 : g6 < B) (hw : w.heap.size ≤ B) : OwnFrom B (fun (_ : Nat) W => GbX w g6 W) := fun k X Y row h hg hr => by
  have hne : ∀ g, g < B → some g ≠ row := fun g hg e => by have := (hr g e.symm).1; omega
  exact ⟨h.b6.grown hg (hne _ h6), h.bel.grown hg h.bel.size (fun r e => by have := (hr r e).1; omega)⟩
/-- where a row of one's own lies -/
theorem own_place {w : World} {base e s n : Nat} {v : Value} {xs : List Value} (h : w.ownsRow base e s v n xs) (r : Nat) (hr : v.ownBlock = some r) : base ≤ r ∧ ∃ o, w.heap[r]? = some o ∧ o.isCells = true := by
  rcases h.2 with ⟨rfl, _⟩ | ⟨g, cap, cur, rfl, hg0, hb, _⟩
  · cases hr
  · cases hr
    exact ⟨hg0, _, hb, rfl⟩
set_option maxHeartbeats 16000000 in
set_option maxRecDepth 100000 in
theorem goes14_any (lo p m0 h bx : Nat) (f : Int → Int → Option Value) (L : HL) (A : Option Addr) (n c : Nat) (lv : Int) (w : World) (ht : Ti lo p m0 h f L w) (hbx : Blk w bx 40 #[.pointer (some ⟨p, 0, none⟩)]) (hts : Ts w (fun _ => True) A n c (tilesL h L)) (hn : n ≤ 1000000) :
    Calls Tryd.prog 20 #[.func (.func 46) #[] #[.pointer (some ⟨bx, 0, none⟩)], .slice A n c, .int .i64 lv] w fun e w' => e = .returned (.bool true) ∧ Below w.heap.size w w' := by
  have hl := hts.len
  have hr := hts.room
  unfold maxLen at hr
  obtain ⟨w1, hw1⟩ : ∃ x, w.alloc (.cells #[.slice A n c] 33) = x := ⟨_, rfl⟩
  obtain ⟨w2, hw2⟩ : ∃ x, w1.alloc (.cells #[.int .i64 lv] 3) = x := ⟨_, rfl⟩
  obtain ⟨w3, hw3⟩ : ∃ x, w2.alloc (.cells #[.bool false] 4) = x := ⟨_, rfl⟩
  obtain ⟨w4, hw4⟩ : ∃ x, w3.alloc (.cells #[.int .i64 0] 3) = x := ⟨_, rfl⟩
  have b1 : Below w.heap.size w w1 := by rw [← hw1]; exact (Below.refl _ _).alloc (Nat.le_refl _) _
  have b2 : Below w1.heap.size w1 w2 := by rw [← hw2]; exact (Below.refl _ _).alloc (Nat.le_refl _) _
  have b3 : Below w2.heap.size w2 w3 := by rw [← hw3]; exact (Below.refl _ _).alloc (Nat.le_refl _) _
  have b4 : Below w3.heap.size w3 w4 := by rw [← hw4]; exact (Below.refl _ _).alloc (Nat.le_refl _) _
  have k4 : Blk w3 w.heap.size 33 #[.slice A n c] := Blk.step (Blk.step (by rw [← hw1]; exact Blk.new _ _ _) b2) b3
  have k5 : Blk w3 w1.heap.size 3 #[.int .i64 lv] := Blk.step (by rw [← hw2]; exact Blk.new _ _ _) b3
  have k6 : Blk w3 w2.heap.size 4 #[.bool false] := by rw [← hw3]; exact Blk.new _ _ _
  have k7 : Blk w4 w3.heap.size 3 #[.int .i64 0] := by rw [← hw4]; exact Blk.new _ _ _
  have s1 : w1.heap.size = w.heap.size + 1 := by rw [← hw1]; simp
  have s2 : w2.heap.size = w1.heap.size + 1 := by rw [← hw2]; simp
  have s3 : w3.heap.size = w2.heap.size + 1 := by rw [← hw3]; simp
  have s4 : w4.heap.size = w3.heap.size + 1 := by rw [← hw4]; simp
  have l1 : w.heap.size < w1.heap.size := by omega
  have l2 : w1.heap.size < w2.heap.size := by omega
  have l3 : w2.heap.size < w3.heap.size := by omega
  have l4 : w3.heap.size < w4.heap.size := by omega
  have B3 : Below w.heap.size w w3 := (b1.trans (b2.mono b1.size)).trans (b3.mono (by omega))
  have c7 : w4.cell? ⟨w3.heap.size, 0, none⟩ = some (.int .i64 0) := by rw [k7.cell]; rfl
  have f7 := k7.frozen 0
  have hI0 : CtI w3 0 (w4.setCell ⟨w3.heap.size, 0, none⟩ (.int .i64 0)) := ⟨k7.set_ 0 _, b4.setCell (p := ⟨w3.heap.size, 0, none⟩) (Nat.le_refl _) _⟩
  obtain ⟨w5, hw5⟩ : ∃ x, w4.setCell ⟨w3.heap.size, 0, none⟩ (.int .i64 0) = x := ⟨_, rfl⟩
  rw [hw5] at hI0
  have z5 : w5.heap.size = w4.heap.size := by rw [← hw5]; simp [World.setCell]
  have hlt := fun k hk => ht.t.ltR k hk
  have hbl := hbx.lt
  have hB5 := B3.trans (hI0.bel.mono B3.size)
  have hT5 := ht.kb (kb_of_below hB5) fun k hk hx => by have := (hlt k hk).2; omega
  have hseq := tall_seq lo p m0 h bx f L (· = w3.heap.size) w5 hT5 (hbx.below hB5 hbl) (fun b hb => by have hb : b = w3.heap.size := hb; omega) (by show ¬ bx = _; omega) (fun b hb e => by have := (hlt b hb).2; have e : b = w3.heap.size := e; omega)
  have hL32 := ht.all
  obtain ⟨us, hus⟩ : ∃ u, tilesL h L = u := ⟨_, rfl⟩
  have hux : ∀ t ∈ us, t.2.2.length ≤ 1000000 := by
    intro t ht'
    rw [← hus] at ht'
    have h1 := tilesL_rows h L t ht'
    have : 2 ^ h ≤ 2 ^ 8 := Nat.pow_le_pow_right (by decide) ht.h8
    omega
  have hty : ∀ n₁ k vs W, TileY h L n₁ k vs W → ∃ t, us[k]? = some t ∧ ∃ v, vs = #[.agg #[.int .i64 t.1, .int .i64 t.2.1, v]] ∧ W.ownsRow n₁ 48 32 v t.2.2.length (hcells t.2.2) := by
    intro n₁ k vs W hy
    rw [← hus]
    exact hy
  rw [hus] at hseq hts hl
  have heq := fun (g : Nat) (W : World) => eqnil_tall g W
  have Hl := Lib.hid hl
  have Hux := Lib.hid hux
  have Hty := Lib.hid hty
  have Hw1 := Lib.hid hw1
  have Hw2 := Lib.hid hw2
  have Hw3 := Lib.hid hw3
  have Hw4 := Lib.hid hw4
  have Hw5 := Lib.hid hw5
  have HB3 := Lib.hid B3
  have K4 := Lib.hid k4
  have K5 := Lib.hid k5
  have K6 := Lib.hid k6
  have HI0 := Lib.hid hI0
  have HT3 := Lib.hid (hts.step B3)
  have Hseq := Lib.hid hseq
  clear hl hux hty hw1 hw2 hw3 hw4 hw5 hus hlt hL32 hT5 hB5 b1 b2 b3 b4 k4 k5 k6 k7 s1 s2 s3 s4 B3 hI0 hts hseq ht hbx hbl
  refine (callsIn_wide (n := 5)).1 ?_
  refine callsIn_of_wp_marks Tryd.func20 rfl trivial ?_ rfl
  simp only [Tryd.ntmps20, List.size_toArray, List.length_cons, List.length_nil, Nat.reduceAdd, Nat.reduceSub, Array.replicate_succ, Array.replicate_zero, List.push_toArray, List.append_toArray, List.nil_append, List.cons_append]
  refine wpIn_wide.2 ?_
  go_wp2_with (first | rw [Hw1.out] | rw [Hw2.out] | rw [Hw3.out] | rw [Hw4.out] | rw [Hw5.out])
  clear c7 f7 heq Hw1 Hw2 Hw3 Hw4 Hw5
  refine wp_range_U (gf := 46) (lb := #[.pointer (some ⟨bx, 0, none⟩)]) rfl (enters_of Tryd.func46 (by kernel_rfl) rfl)
    Hseq.out (fun _ _ _ _ h => by obtain ⟨t, -, v, rfl, -⟩ := h; rfl)
    (fun _ k => CtI w3 k) (fun _ cd _ W => cd = .ret ∧ GbX w w2.heap.size W) (fun n₁ => CtI.own_ (fun k => k) (by omega))
    (fun _ cd k X Y row h hg hr => ⟨h.1, GbX.own (by omega) (by omega) k X Y row h.2 hg hr⟩) (fun _ _ => HI0.out) ?round ?done ?stop
  case round =>
    clear HI0 Hseq
    intro li n₁ k vs X hl hln hnX hk hI hy
    obtain ⟨⟨yl, yi, yh⟩, hyt, v, rfl, hoy⟩ := Hty.out _ _ _ _ hy
    dsimp only at hoy ⊢
    obtain ⟨Ay, cy, rfl, hsy⟩ := owns_slv hoy
    have hyl := Hux.out _ (List.mem_of_getElem? hyt)
    dsimp only at hyl
    obtain ⟨ny, hny⟩ : ∃ q, yh.length = q := ⟨_, rfl⟩
    rw [hny] at hoy hyl ⊢
    have hroy := hsy.room
    have hmy := hsy.max
    rw [hny] at hroy
    unfold maxLen at hmy
    have hnk : k < n := by have := Hl.out; omega
    have hwk : IntKind.i64.wrap ((k : Int) + 1) = (k : Int) + 1 := IntWalk.i64_in _ (by omega)
    have Hyt := Lib.hid hyt
    have Hny := Lib.hid hny
    have Hk := Lib.hid hk
    have k14 : Blk (X.alloc (.cells #[.int .i64 yl, .int .i64 yi, .slice Ay ny cy] 38)) X.heap.size 38 #[.int .i64 yl, .int .i64 yi, .slice Ay ny cy] := Blk.new _ _ _
    have hb14 : Below X.heap.size X (X.alloc (.cells #[.int .i64 yl, .int .i64 yi, .slice Ay ny cy] 38)) := (Below.refl _ _).alloc (Nat.le_refl _) _
    have K14_ := Lib.hid k14
    have Hb14 := Lib.hid hb14
    clear k14 hb14 hsy hy hyt hny hk
    gi_wp2
    have k14 := K14_.out
    have hb14 := Hb14.out
    clear K14_ Hb14
    generalize X.alloc (.cells #[.int .i64 yl, .int .i64 yi, .slice Ay ny cy] 38) = X1 at k14 hb14 ⊢
    refine ⟨KeepU.below hb14, ?_⟩
    intro X2 hturn
    have hI2 := hturn.own (CtI.own_ (w := w3) (fun k => k) (show w3.heap.size ≤ w5.heap.size by omega)) (s := k) (⟨hI.box.step hb14, hI.bel.trans (hb14.mono hI.bel.size)⟩ : CtI w3 k X1)
    have k14' := hturn.blk k14
    have ho2 := hturn.own_row (owns_step hoy hb14)
    have hz14 := hb14.size
    have hzt := hturn.size
    generalize X.heap.size = g14 at k14' hnX hz14 ⊢
    have hts2 := HT3.out.step hI2.bel
    have hkl : k < us.length := Hk.out
    obtain ⟨b, o, rfl, -, -, -⟩ := hts2.at_ (by omega)
    obtain ⟨Ax, cx, hcx, hhx, -⟩ := hts2.cells rfl k hkl
    have hyt := Hyt.out
    rw [List.getElem?_eq_getElem hkl] at hyt
    rw [Option.some.inj hyt] at hcx hhx
    dsimp only at hcx hhx
    rw [Hny.out] at hcx hhx
    obtain ⟨Ay', cy', hve, hsy2⟩ := owns_slv ho2
    cases hve
    have hHy : Hs X2 (fun _ => True) Ay ny cy yh := ⟨hsy2.weak (fun _ _ _ => trivial), Hny.out, hhx.all⟩
    have hsame := fun V (hV : Below X2.heap.size X2 V) => same8_any yh yh Ay Ax ny ny cy cx V (hHy.step hV) (hhx.step hV) (by omega) (by omega)
    have dd : decide (yh = yh) = true := by simp
    rw [dd] at hsame
    have c13 : ∀ s : InC (fun V => Below X2.heap.size X2 V), s.W.cell? ⟨w3.heap.size, 0, none⟩ = some (.int .i64 (k : Int)) := fun s => by rw [(hI2.box.step s.ok).cell]; rfl
    have c14 : ∀ s : InC (fun V => Below X2.heap.size X2 V), s.W.cell? ⟨w.heap.size, 0, none⟩ = some (.slice (some ⟨b, o, none⟩) n c) := fun s => by rw [((K4.out.below hI2.bel (by omega)).step s.ok).cell]; rfl
    have c19 : ∀ s : InC (fun V => Below X2.heap.size X2 V), s.W.cell? ⟨g14, 0, none⟩ = some (.int .i64 yl) := fun s => by rw [(k14'.step s.ok).cell]; rfl
    have c29 : ∀ s : InC (fun V => Below X2.heap.size X2 V), s.W.cell? ⟨g14, 1, none⟩ = some (.int .i64 yi) := fun s => by rw [(k14'.step s.ok).cell]; rfl
    have c39 : ∀ s : InC (fun V => Below X2.heap.size X2 V), s.W.cell? ⟨g14, 2, none⟩ = some (.slice Ay ny cy) := fun s => by rw [(k14'.step s.ok).cell]; rfl
    have c24 : ∀ s : InC (fun V => Below X2.heap.size X2 V), s.W.cell? ⟨b, o + k * 3, none⟩ = some (.int .i64 yl) := fun s => (hcx s.W s.ok).1
    have c34 : ∀ s : InC (fun V => Below X2.heap.size X2 V), s.W.cell? ⟨b, o + k * 3 + 1, none⟩ = some (.int .i64 yi) := fun s => (hcx s.W s.ok).2.1
    have c44 : ∀ s : InC (fun V => Below X2.heap.size X2 V), s.W.cell? ⟨b, o + k * 3 + 2, none⟩ = some (.slice Ax ny cx) := fun s => (hcx s.W s.ok).2.2
    have hge1 : decide (n ≤ k) = false := by simp; omega
    have hge2 : decide ((n : Int) ≤ (k : Int)) = false := by simp; omega
    have Hro := Lib.hid hts2.room
    have hro := hts2.room
    unfold maxLen at hro
    have Hsame := Lib.hid hsame
    have HI2 := Lib.hid hI2
    have K14 := Lib.hid k14'
    have HO2 := Lib.hid ho2
    have hS : Below X2.heap.size X2 X2.drew := (Below.refl _ _).drew
    have hn1 : n₁ ≤ X2.heap.size := by omega
    have b1_ : (yl != yl) = false := by simp
    have b2_ : (yi != yi) = false := by simp
    have Hb1 := Lib.hid b1_
    have Hb2 := Lib.hid b2_
    clear hts2 hcx hhx hyt hsy2 hHy hsame hI hI2 k14' ho2 k14 hb14 hturn hoy dd b1_ b2_
    gi_wp2
    refine wpIn_region_mix (openR li) rfl (fun _ _ h => h) (fun W => Below X2.heap.size X2 W) [(0, true), (1, true), (2, true), (3, true), (4, true), (5, true), (6, true), (7, true), (8, true), (9, true), (10, true), (11, true), (12, true), (13, true), (14, true), (15, true), (16, true), (17, true), (18, true), (19, true), (20, true), (21, true), (22, true), (23, true), (24, true), (25, true), (26, true), (27, true), (28, true), (29, true), (30, true), (31, true), (32, false), (33, true), (34, true)] (by kernel_rfl) (by kernel_rfl) hS fun _ => ?_
    simp only [List.map_cons, List.map_nil, Array.getD_eq_getD_getElem?, List.getElem?_toArray, List.getElem?_cons_succ, List.getElem?_cons_zero, Option.getD_some]
    generalize X2.drew = u0 at hS ⊢
    refine wpMix_s (fun K hK => ?_)
    go_simp
    refine hK _ ?_
    clear hK K
    refine wpMix_s (fun K hK => ?_)
    go_simp
    refine hK _ ?_
    clear hK K
    refine wpMix_s (fun K hK => ?_)
    go_simp
    refine hK _ ?_
    clear hK K
    refine wpMix_s (fun K hK => ?_)
    go_simp
    refine hK _ ?_
    clear hK K
    refine wpMix_s (fun K hK => ?_)
    go_simp
    refine hK _ ?_
    clear hK K
    refine wpMix_s (fun K hK => ?_)
    go_simp
    refine hK _ ?_
    clear hK K
    refine wpMix_s (fun K hK => ?_)
    go_simp
    refine hK _ ?_
    clear hK K
    refine wpMix_s (fun K hK => ?_)
    go_simp
    refine hK _ ?_
    clear hK K
    refine wpMix_s (fun K hK => ?_)
    go_simp
    refine hK _ ?_
    clear hK K
    refine wpMix_s (fun K hK => ?_)
    go_simp
    refine hK _ ?_
    clear hK K
    refine wpMix_s (fun K hK => ?_)
    go_simp
    refine hK _ ?_
    clear hK K
    refine wpMix_s (fun K hK => ?_)
    go_simp
    refine hK _ ?_
    clear hK K
    refine wpMix_v (by kernel_rfl) (.bool false) (fun s => run_neqI_op (.tmp 19) (.tmp 24) _ yl yl false rfl rfl rfl Hb1.out s.W) ?_
    simp only [Act.put, List.setIfInBounds_toArray, List.set_cons_succ, List.set_cons_zero]
    refine wpMix_s (fun K hK => ?_)
    go_simp
    refine hK _ ?_
    clear hK K
    refine wpMix_s (fun K hK => ?_)
    go_simp
    refine hK _ ?_
    clear hK K
    refine wpMix_s (fun K hK => ?_)
    go_simp
    refine hK _ ?_
    clear hK K
    refine wpMix_s (fun K hK => ?_)
    go_simp
    refine hK _ ?_
    clear hK K
    refine wpMix_s (fun K hK => ?_)
    go_simp
    refine hK _ ?_
    clear hK K
    refine wpMix_s (fun K hK => ?_)
    go_simp
    refine hK _ ?_
    clear hK K
    refine wpMix_s (fun K hK => ?_)
    go_simp
    refine hK _ ?_
    clear hK K
    refine wpMix_s (fun K hK => ?_)
    go_simp
    refine hK _ ?_
    clear hK K
    refine wpMix_s (fun K hK => ?_)
    go_simp
    refine hK _ ?_
    clear hK K
    refine wpMix_v (by kernel_rfl) (.bool false) (fun s => run_neqI_op (.tmp 29) (.tmp 34) _ yi yi false rfl rfl rfl Hb2.out s.W) ?_
    simp only [Act.put, List.setIfInBounds_toArray, List.set_cons_succ, List.set_cons_zero]
    refine wpMix_s (fun K hK => ?_)
    go_simp
    refine hK _ ?_
    clear hK K
    refine wpMix_s (fun K hK => ?_)
    go_simp
    refine hK _ ?_
    clear hK K
    refine wpMix_s (fun K hK => ?_)
    go_simp
    refine hK _ ?_
    clear hK K
    refine wpMix_s (fun K hK => ?_)
    go_simp
    refine hK _ ?_
    clear hK K
    refine wpMix_s (fun K hK => ?_)
    go_simp
    refine hK _ ?_
    clear hK K
    refine wpMix_s (fun K hK => ?_)
    go_simp
    refine hK _ ?_
    clear hK K
    refine wpMix_s (fun K hK => ?_)
    go_simp
    refine hK _ ?_
    clear hK K
    refine wpMix_s (fun K hK => ?_)
    go_simp
    refine hK _ ?_
    clear hK K
    refine wpMix_s (fun K hK => ?_)
    go_simp
    refine hK _ ?_
    clear hK K
    refine wpMix_c (fun K hK => ?_) hS
    go_simp
    refine (Hsame.out u0 hS).mono ?_
    rintro e u0_1 ⟨rfl, hb'⟩
    refine hK _ _ ?_
    clear hK K
    replace hS := hS.trans (hb'.mono hS.size)
    refine ⟨hS, ?_⟩
    clear hb'
    refine wpMix_s (fun K hK => ?_)
    go_simp
    refine hK _ ?_
    clear hK K
    refine wpMix_s (fun K hK => ?_)
    go_simp
    refine hK _ ?_
    clear hK K
    refine wpMix_nil ?_
    intro _
    generalize u0_1 = W3 at *
    have hO3 := owns_step HO2.out hS
    have hI3 : CtI w3 k W3 := ⟨HI2.out.box.step hS, HI2.out.bel.trans (hS.mono HI2.out.bel.size)⟩
    have hsp := spoilt14_any W3 n₁ ny (.slice Ay ny cy) _ hO3 (by have := hS.size; omega) (by omega)
    have c48 : W3.cell? ⟨g14, 2, none⟩ = some (.slice Ay ny cy) := by rw [(K14.out.step hS).cell]; rfl
    have hK3 : KeepU w5.heap.size n₁ (· = w3.heap.size) X2 W3 := KeepU.below hS
    have Hsp := Lib.hid hsp
    have HO3 := Lib.hid hO3
    have HI3 := Lib.hid hI3
    have HK3 := Lib.hid hK3
    clear hS hsp hO3 hI3 hK3 c13 c14 c19 c29 c39 c24 c34 c44 Hsame
    gi_wp2
    refine ⟨trivial, callsIn_any (openR li) (Hsp.out.mono ?_)⟩
    rintro e W4 ⟨rfl, hg4⟩
    have hpl := fun r (hr : (Value.slice Ay ny cy).ownBlock = some r) => own_place HO3.out r hr
    have hI4 : CtI w3 k W4 := ⟨HI3.out.box.grown hg4 (fun e => by have := (hpl _ e.symm).1; omega), HI3.out.bel.grown hg4 HI3.out.bel.size fun r e => by have := (hpl r e).1; omega⟩
    have hK4 := HK3.out.trans (KeepU.grown (B := w5.heap.size) (n₁ := n₁) (U := (· = w3.heap.size)) hg4 fun r e => ⟨.inl (hpl r e).1, (hpl r e).2⟩)
    have d7 : W4.cell? ⟨w3.heap.size, 0, none⟩ = some (.int .i64 (k : Int)) := by rw [hI4.box.cell]; rfl
    have g7 := hI4.box.frozen 0
    have hI5 : CtI w3 (k + 1) (W4.setCell ⟨w3.heap.size, 0, none⟩ (.int .i64 ((k + 1 : Nat) : Int))) := ⟨hI4.box.set_ 0 _, hI4.bel.setCell (p := ⟨w3.heap.size, 0, none⟩) (Nat.le_refl _) _⟩
    have hK5 := hK4.trans (KeepU.setCell (B := w5.heap.size) (n₁ := n₁) (U := (· = w3.heap.size)) hI4.box (.inr rfl) 0 (.int .i64 ((k + 1 : Nat) : Int)))
    rw [show ((k + 1 : Nat) : Int) = (k : Int) + 1 by omega] at hI5 hK5
    obtain ⟨W5, hW5⟩ : ∃ x, W4.setCell ⟨w3.heap.size, 0, none⟩ (.int .i64 ((k : Int) + 1)) = x := ⟨_, rfl⟩
    rw [hW5] at hI5 hK5
    have d8 : W5.cell? ⟨w3.heap.size, 0, none⟩ = some (.int .i64 ((k : Int) + 1)) := by rw [hI5.box.cell]; simp
    have d5 : W5.cell? ⟨w1.heap.size, 0, none⟩ = some (.int .i64 lv) := by rw [(K5.out.below hI5.bel (by omega)).cell]; rfl
    have k65 := K6.out.below hI5.bel (by omega)
    have d6 : W5.cell? ⟨w2.heap.size, 0, none⟩ = some (.bool false) := by rw [k65.cell]; rfl
    have g6 := k65.frozen 0
    have HW5 := Lib.hid hW5
    have HI5 := Lib.hid hI5
    have HK5 := Lib.hid hK5
    have K65 := Lib.hid k65
    clear hg4 hpl hI4 hK4 hI5 hK5 hW5 k65 c48 Hsp HO3 HI3 HK3
    by_cases hex : (k : Int) + 1 = lv
    · have e1 : ((k : Int) + 1 == lv) = true := by simpa using hex
      have e2 : decide ((k : Int) + 1 = lv) = true := by simpa using hex
      have HK6 := Lib.hid (HK5.out.f.trans (KeepU.setCell (B := w5.heap.size) (n₁ := 0) (U := fun _ => True) K65.out (.inr trivial) 0 (.bool true)).f)
      have HB6 := Lib.hid ((HB3.out.trans (HI5.out.bel.mono HB3.out.size)).setCell (p := ⟨w2.heap.size, 0, none⟩) (by show w.heap.size ≤ w2.heap.size; omega) (.bool true))
      have K66 := Lib.hid (K65.out.set_ 0 (.bool true))
      clear hex
      gi_wp2_with (rw [HW5.out])
      exact ⟨HK6.out, rfl, K66.out, HB6.out⟩
    · have e1 : ((k : Int) + 1 == lv) = false := by simpa using hex
      have Hex := Lib.hid hex
      clear hex
      gi_wp2_with (rw [HW5.out])
      exact ⟨HK5.out, HI5.out⟩
  case done =>
    clear HI0 Hseq
    intro D n₁ X hD hDn hI hK
    rw [Hl.out] at hI
    have c7 : X.cell? ⟨w3.heap.size, 0, none⟩ = some (.int .i64 (n : Int)) := by rw [hI.box.cell]; rfl
    have c4 : X.cell? ⟨w.heap.size, 0, none⟩ = some (.slice A n c) := by rw [(K4.out.below hI.bel (by omega)).cell]; rfl
    have k6X := K6.out.below hI.bel (by omega)
    have c6 : X.cell? ⟨w2.heap.size, 0, none⟩ = some (.bool false) := by rw [k6X.cell]; rfl
    have f6 := k6X.frozen 0
    have hno : ((n : Int) == (n : Int)) = true := by simp
    have hM := ((MarksOk.nil w5.heap.size X).cons (D := D) (by omega) hK (by simp)).cell k6X (.bool true)
    have k69 := k6X.set_ 0 (.bool true)
    have BX := (HB3.out.trans (hI.bel.mono HB3.out.size)).setCell (p := ⟨w2.heap.size, 0, none⟩) (by show w.heap.size ≤ w2.heap.size; omega) (.bool true)
    have HM := Lib.hid hM
    have K69 := Lib.hid k69
    have HBX := Lib.hid BX
    have hwz : w.heap.size ≤ w5.heap.size := by omega
    clear hI hK k6X hM k69 BX
    go_wp2_with fail
    refine leaves_marks (N := w5.heap.size) [D] _ HM.out fun w' ht => ⟨_, results_cb14 rfl _ _ w2.heap.size true rfl (ht.blk _ _ _ K69.out), ?_⟩
    exact ⟨rfl, HBX.out.trans (ht.bel.mono hwz)⟩
  case stop =>
    clear HI0 Hseq
    rintro D n₁ cd k X hD hDn hk ⟨rfl, hX⟩ hK
    have hM := (MarksOk.nil w5.heap.size X).cons (D := D) (by omega) hK (by simp)
    have hwz : w.heap.size ≤ w5.heap.size := by omega
    clear hk hK
    go_wp2_with fail
    refine leaves_marks (N := w5.heap.size) [D] _ hM fun w' ht => ⟨_, results_cb14 rfl _ _ w2.heap.size true rfl (ht.blk _ _ _ hX.b6), ?_⟩
    exact ⟨rfl, hX.bel.trans (ht.bel.mono hwz)⟩
end Go.Proofs.YtfhmjgkcpcnkbaaDoor
/- Tiles of one's own, each row with a mark behind. -/
namespace Go.Proofs.YtfhmjgkcpcnkbaaDoor
open Go Go.RowKit
attribute [local go_sem] Oper.semAt_some

theorem owns_few14 {w : World} {base g n m c s : Nat} {e : TypeId} {xs : List Value} (h : w.ownsRow base e s (.slice (some ⟨g, 0, none⟩) m c) m xs) (hn : n ≤ m) : w.ownsRow base e s (.slice (some ⟨g, 0, none⟩) n c) n (xs.take (n * s)) := by
  have hl := h.1
  have hns : n * s ≤ m * s := Nat.mul_le_mul_right _ hn
  refine ⟨by rw [List.length_take, hl]; omega, ?_⟩
  rcases h.2 with ⟨hv, _⟩ | ⟨g', cap, cur, hv', hbg, hg, hnc, hcm, hcs, ht⟩
  · cases hv
  · cases hv'
    exact .inr ⟨g, c, cur, rfl, hbg, hg, by omega, hcm, hcs, by rw [← ht, List.take_take, Nat.min_eq_left hns]⟩
theorem hcells_mark (hs ms : List (List UInt8)) (h : H32 hs) : (hcells (hs ++ ms)).take (hs.length * 32) = hcells hs := by
  rw [hcells_append, ← hcells_len hs h, List.take_left]
/-- the rows are these tiles, each one's hashes in memory of their own with a mark behind; from the i-th on -/
structure TMk (W : World) (lo i : Nat) (rs : List TrV) (ts : List TileV) : Prop where
  len : rs.length = ts.length
  row : ∀ j (h1 : j < rs.length) (h2 : j < ts.length), (rs[j]).1 = (ts[j]).1 ∧ (rs[j]).2.1 = (ts[j]).2.1 ∧ ∃ g c, (rs[j]).2.2 = .slice (some ⟨g, 0, none⟩) (ts[j]).2.2.length c ∧ (i ≤ j → W.ownsRow lo 48 32 (.slice (some ⟨g, 0, none⟩) ((ts[j]).2.2.length + 1) c) ((ts[j]).2.2.length + 1) (hcells ((ts[j]).2.2 ++ [oneHash 165])))
  all : ∀ j (h2 : j < ts.length), H32 (ts[j]).2.2
  apart : ∀ j j' k (h1 : j < rs.length) (h2 : j' < rs.length), (rs[j]).2.2.ownBlock = some k → (rs[j']).2.2.ownBlock = some k → j = j'
structure TkO (W : World) (lo : Nat) (v : Value) (ts : List TileV) : Prop where
  ex : ∃ rs, W.ownsRow lo 38 3 v ts.length (tcells_ rs) ∧ TMk W lo 0 rs ts
section
variable {W W' : World} {lo i : Nat} {v : Value} {rs : List TrV} {ts : List TileV} {M : Nat → Prop}
theorem TMk.step (h : TMk W lo i rs ts) (hb : Below W.heap.size W W') : TMk W' lo i rs ts := ⟨h.len, fun j h1 h2 => let ⟨e1, e2, g, c, e3, e4⟩ := h.row j h1 h2; ⟨e1, e2, g, c, e3, fun hi => owns_step (e4 hi) hb⟩, h.all, h.apart⟩
theorem TkO.step (h : TkO W lo v ts) (hb : Below W.heap.size W W') : TkO W' lo v ts := let ⟨rs, h1, h2⟩ := h.ex; ⟨rs, owns_step h1 hb, h2.step hb⟩
theorem TkO.nil (W : World) (lo : Nat) : TkO W lo (.slice none 0 0) [] := ⟨[], World.ownsRow_nil _ _ _ _, ⟨rfl, fun j h1 => absurd h1 (by simp), fun j h2 => absurd h2 (by simp), fun j j' k h1 => absurd h1 (by simp)⟩⟩
/-- one tile more -/
theorem TkO.app {W0 : World} {t : TileV} (h : TkO W0 lo v ts) (hb : Below W0.heap.size W0 W) (hlo : lo ≤ W0.heap.size) (hn : ts.length ≤ 1000000) {g c : Nat} (ho : W.ownsRow W0.heap.size 48 32 (.slice (some ⟨g, 0, none⟩) (t.2.2.length + 1) c) (t.2.2.length + 1) (hcells (t.2.2 ++ [oneHash 165]))) (h32 : H32 t.2.2) :
    ∃ A' c' W', (Builtin.append_ #[33, 33] 33 #[v, .slice (some ⟨W.heap.size, 0, none⟩) 1 1]).run Tryd.prog (W.alloc (.cells #[.int .i64 t.1, .int .i64 t.2.1, .slice (some ⟨g, 0, none⟩) t.2.2.length c] 38)) = .ok (.slice A' (ts.length + 1) c') W' ∧
      TkO W' lo (.slice A' (ts.length + 1) c') (ts ++ [t]) ∧ Below lo W W' := by
  obtain ⟨rs, h1, h2⟩ := h.ex
  obtain ⟨r, hr⟩ : ∃ r : TrV, (t.1, t.2.1, Value.slice (some ⟨g, 0, none⟩) t.2.2.length c) = r := ⟨_, rfl⟩
  have hrc : (#[.int .i64 t.1, .int .i64 t.2.1, .slice (some ⟨g, 0, none⟩) t.2.2.length c] : Array Value) = (tcell r).toArray := by rw [← hr]; rfl
  rw [hrc]
  obtain ⟨W1, hW1⟩ : ∃ x, W.alloc (.cells (tcell r).toArray 38) = x := ⟨_, rfl⟩
  have hb1 : Below W.heap.size W W1 := by rw [← hW1]; exact (Below.refl _ _).alloc (Nat.le_refl _) _
  have k1 : Blk W1 W.heap.size 38 (tcell r).toArray := by rw [← hW1]; exact Blk.new _ _ _
  have hs : SlV W1 (fun _ => True) (some ⟨W.heap.size, 0, none⟩) 1 1 3 (tcell r) := SlV.of_blk (n := 1) (s := 3) k1 rfl (by decide) trivial
  have hone : ∀ u ∈ tcell r, u.oneCell' = true := by
    intro u hu
    rw [← hr] at hu
    simp only [tcell, List.mem_cons, List.not_mem_nil, or_false] at hu
    rcases hu with rfl | rfl | rfl <;> rfl
  rw [hW1]
  have hz := hb.size
  obtain ⟨v', W', hra, ho', hg, hv⟩ := append_slv (ty := 33) Tryd.underlying33 infoTile rfl (by decide) (owns_step (owns_step h1 hb) hb1) hs hone (by unfold maxLen; omega) (by omega) (by have := hb1.size; omega)
  rw [← tcells_one, ← tcells_append] at ho'
  obtain ⟨A', c', rfl, -⟩ := owns_slv ho'
  have hkeep : ∀ {u : Value} {n : Nat} {xs : List Value} {l' : Nat}, W1.ownsRow l' 48 32 u n xs → W'.ownsRow l' 48 32 u n xs := fun {u n xs l'} hu => by
    refine hu.kept hg ?_
    rcases hu.2 with ⟨rfl, _⟩ | ⟨g, cap, cur, rfl, _, _, _⟩
    · exact .inl rfl
    · exact .inr fun e => own_two hu (owns_step (owns_step h1 hb) hb1) (by decide) rfl e.symm
  refine ⟨A', c', W', hra, ⟨rs ++ [r], by rw [List.length_append]; exact ho', ?_⟩, (hb1.mono (Nat.le_trans hlo hz)).trans ((Below.refl lo W1).grown hg (by have := hb1.size; omega) fun k hk => ?_)⟩
  · have hnew : W'.ownsRow lo 48 32 (.slice (some ⟨g, 0, none⟩) (t.2.2.length + 1) c) (t.2.2.length + 1) (hcells (t.2.2 ++ [oneHash 165])) := owns_le (hkeep (owns_step ho hb1)) hlo
    have hlen := h2.len
    refine ⟨by rw [List.length_append, List.length_append, hlen]; rfl, fun j k1 k2 => ?_, fun j k2 => ?_, fun j j' k k1 k2 e1 e2 => ?_⟩
    · by_cases hj : j < rs.length
      · rw [List.getElem_append_left hj, List.getElem_append_left (by rw [← hlen]; exact hj)]
        obtain ⟨e1, e2, g', c', e3, e4⟩ := h2.row j hj (by rw [← hlen]; exact hj)
        exact ⟨e1, e2, g', c', e3, fun hi => hkeep (owns_step (owns_step (e4 hi) hb) hb1)⟩
      · have e : j = rs.length := by simp at k1; omega
        subst e
        have ea : (rs ++ [r])[rs.length] = r := by simp
        have eb : (ts ++ [t])[rs.length] = t := by simp [hlen]
        rw [ea, eb, ← hr]
        exact ⟨rfl, rfl, g, c, rfl, fun _ => hnew⟩
    · by_cases hj : j < ts.length
      · rw [List.getElem_append_left hj]
        exact h2.all j hj
      · have e : j = ts.length := by simp at k2; omega
        subst e
        simpa using h32
    · have old : ∀ x (hx : x < rs.length), (rs[x]).2.2.ownBlock = some k → k < W0.heap.size := fun x hx hk => by
        obtain ⟨-, -, g', c', e3, e4⟩ := h2.row x hx (by rw [← hlen]; exact hx)
        rw [e3] at hk
        exact ((e4 (Nat.zero_le _)).lt k hk).2
      have new : r.2.2.ownBlock = some k → W0.heap.size ≤ k := fun hk => by rw [← hr] at hk; exact (ho.lt k hk).1
      by_cases hj : j < rs.length
      · rw [List.getElem_append_left hj] at e1
        by_cases hj' : j' < rs.length
        · rw [List.getElem_append_left hj'] at e2
          exact h2.apart j j' k hj hj' e1 e2
        · have e : j' = rs.length := by simp at k2; omega
          subst e
          rw [show (rs ++ [r])[rs.length] = r by simp] at e2
          have := old j hj e1
          have := new e2
          omega
      · have e : j = rs.length := by simp at k1; omega
        subst e
        rw [show (rs ++ [r])[rs.length] = r by simp] at e1
        by_cases hj' : j' < rs.length
        · rw [List.getElem_append_left hj'] at e2
          have := old j' hj' e2
          have := new e1
          omega
        · simp at k2; omega
  · rcases h1.2 with ⟨rfl, _⟩ | ⟨g, cap, cur, rfl, hg0, _⟩
    · cases hk
    · cases hk
      exact hg0
/-- the mark behind them all -/
theorem TkO.mark (h : TkO W lo v ts) (hlo : lo ≤ W.heap.size) (hn : ts.length ≤ 1000000) :
    ∃ g c' rs W', (Builtin.append_ #[33, 33] 33 #[v, .slice (some ⟨W.heap.size, 0, none⟩) 1 1]).run Tryd.prog (W.alloc (.cells #[.int .i64 99, .int .i64 0, .slice none 0 0] 38)) = .ok (.slice (some ⟨g, 0, none⟩) (ts.length + 1) c') W' ∧
      W'.ownsRow lo 38 3 (.slice (some ⟨g, 0, none⟩) (ts.length + 1) c') (ts.length + 1) (tcells_ (rs ++ [((99, 0, .slice none 0 0) : TrV)])) ∧ TMk W' lo 0 rs ts ∧ Below lo W W' := by
  obtain ⟨rs, h1, h2⟩ := h.ex
  obtain ⟨r, hr⟩ : ∃ r : TrV, ((99, 0, .slice none 0 0) : TrV) = r := ⟨_, rfl⟩
  have hrc : (#[.int .i64 99, .int .i64 0, .slice none 0 0] : Array Value) = (tcell r).toArray := by rw [← hr]; rfl
  rw [hrc]
  obtain ⟨W1, hW1⟩ : ∃ x, W.alloc (.cells (tcell r).toArray 38) = x := ⟨_, rfl⟩
  have hb1 : Below W.heap.size W W1 := by rw [← hW1]; exact (Below.refl _ _).alloc (Nat.le_refl _) _
  have k1 : Blk W1 W.heap.size 38 (tcell r).toArray := by rw [← hW1]; exact Blk.new _ _ _
  have hs : SlV W1 (fun _ => True) (some ⟨W.heap.size, 0, none⟩) 1 1 3 (tcell r) := SlV.of_blk (n := 1) (s := 3) k1 rfl (by decide) trivial
  have hone : ∀ u ∈ tcell r, u.oneCell' = true := by
    intro u hu
    rw [← hr] at hu
    simp only [tcell, List.mem_cons, List.not_mem_nil, or_false] at hu
    rcases hu with rfl | rfl | rfl <;> rfl
  rw [hW1]
  obtain ⟨v', W', hra, ho', hg, hv⟩ := append_slv (ty := 33) Tryd.underlying33 infoTile rfl (by decide) (owns_step h1 hb1) hs hone (by unfold maxLen; omega) (by omega) (by have := hb1.size; omega)
  rw [← tcells_one, ← tcells_append] at ho'
  have hkeep : ∀ {u : Value} {n : Nat} {xs : List Value} {l' : Nat}, W1.ownsRow l' 48 32 u n xs → W'.ownsRow l' 48 32 u n xs := fun {u n xs l'} hu => by
    refine hu.kept hg ?_
    rcases hu.2 with ⟨rfl, _⟩ | ⟨g, cap, cur, rfl, _, _, _⟩
    · exact .inl rfl
    · exact .inr fun e => own_two hu (owns_step h1 hb1) (by decide) rfl e.symm
  have hbl : Below lo W W' := (hb1.mono hlo).trans ((Below.refl lo W1).grown hg (by have := hb1.size; omega) fun k hk => by
    rcases h1.2 with ⟨rfl, _⟩ | ⟨g, cap, cur, rfl, hg0, _⟩
    · cases hk
    · cases hk
      exact hg0)
  have hsome : ∃ g c', v' = .slice (some ⟨g, 0, none⟩) (ts.length + 1) c' := by
    rcases ho'.2 with ⟨_, h0⟩ | ⟨g, cap, cur, rfl, _⟩
    · omega
    · exact ⟨g, cap, rfl⟩
  obtain ⟨g, c', rfl⟩ := hsome
  exact ⟨g, c', rs, W', hra, by rw [hr]; exact ho', ⟨h2.len, fun j k1 k2 => let ⟨e1, e2, g', c', e3, e4⟩ := h2.row j k1 k2; ⟨e1, e2, g', c', e3, fun hi => hkeep (owns_step (e4 hi) hb1)⟩, h2.all, h2.apart⟩, hbl⟩
/-- the tiles ahead of the mark, read -/
theorem TMk.view {g c n : Nat} (h : TMk W lo 0 rs ts) (hn : ts.length = n) (ho : W.ownsRow lo 38 3 (.slice (some ⟨g, 0, none⟩) (n + 1) c) (n + 1) (tcells_ (rs ++ [((99, 0, .slice none 0 0) : TrV)]))) : Ts W (lo ≤ ·) (some ⟨g, 0, none⟩) n c ts := by
  have h1 := owns_few14 ho (Nat.le_succ n)
  rw [tcells_append, show n * 3 = (tcells_ rs).length by rw [tcells_len, h.len, hn], List.take_left] at h1
  obtain ⟨A, c', e, hs⟩ := owns_slv h1
  cases e
  refine ⟨⟨rs, hs.weak fun b _ hb => hb.1, h.len, fun j k1 k2 => ?_⟩, hn⟩
  obtain ⟨e1, e2, g', c', e3, e4⟩ := h.row j k1 k2
  have h2 := owns_few14 (e4 (Nat.zero_le _)) (Nat.le_succ _)
  rw [hcells_mark _ _ (h.all j k2)] at h2
  obtain ⟨A', c2, e5, hs'⟩ := owns_slv h2
  cases e5
  exact ⟨e1, e2, _, c', e3, ⟨hs'.weak fun b _ hb => hb.1, rfl, h.all j k2⟩⟩
/-- what the header's cells hold -/
theorem head_cells {g c n i j : Nat} {u : Value} {l : List TrV} (ho : W.ownsRow lo 38 3 (.slice (some ⟨g, 0, none⟩) n c) n (tcells_ l)) (hi : i < l.length) (hu : (tcell l[i])[j]? = some u) : W.cell? ⟨g, i * 3 + j, none⟩ = some u := by
  have hg := tcells_get l i j u hi hu
  obtain ⟨A, c', e, hs⟩ := owns_slv ho
  cases e
  have hne : tcells_ l ≠ [] := fun e => by rw [e] at hg; cases hg
  obtain ⟨b, o, e, -, -, h4⟩ := hs.bs hne
  cases e
  have := h4 (i * 3 + j) u hg
  rwa [Nat.zero_add] at this
/-- a row's memory is written to -/
theorem TMk.spoil {i k : Nat} (h : TMk W lo i rs ts) (hi : i < rs.length) (hk : (rs[i]).2.2.ownBlock = some k) (hg : W.grownBy W' (some k)) : TMk W' lo (i + 1) rs ts := by
  refine ⟨h.len, fun j k1 k2 => ?_, h.all, h.apart⟩
  obtain ⟨e1, e2, g', c', e3, e4⟩ := h.row j k1 k2
  refine ⟨e1, e2, g', c', e3, fun hj => (e4 (by omega)).kept hg (.inr fun e => ?_)⟩
  have : j = i := h.apart j i k k1 hi (by rw [e3]; exact e) hk
  omega
end
end Go.Proofs.YtfhmjgkcpcnkbaaDoor
