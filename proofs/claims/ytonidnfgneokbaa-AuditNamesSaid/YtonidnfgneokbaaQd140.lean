/- What the laws of chapter 13 share. -/
import Derived.Test.YtonidnfgneokbaaQd137
import Derived.Test.YtonidnfgneokbaaQd134
import Derived.Test.YtonidnfgneokbaaQd138
import Derived.Test.YtonidnfgneokbaaQd139
import Derived.Test.YtonidnfgneokbaaQd110
namespace Go.Proofs.Ytonidnfgneokbaa
open Go Go.RowKit Go.Shelf
attribute [local go_sem] Oper.semAt_some

set_option maxHeartbeats 1000000 in
set_option maxRecDepth 100000 in
theorem sameh1_any (hs : List (List UInt8)) (A A' : Option Addr) (n c c' : Nat) (w : World) (h1 : Hs w (fun _ => True) A n c hs) (h2 : Hs w (fun _ => True) A' n c' hs) (hn : n ≤ 4398046511104) :
    Calls Try.prog 22 #[.slice A n c, .slice A' n c'] w fun e w' => e = .returned (.bool true) ∧ Below w.heap.size w w' := by
  have hlen := h1.len
  have hc1 := h1.sl.room
  have hc2 := h2.sl.room
  have hC0 : SmC w A A' n c c' hs w := ⟨h1, h2, Below.refl _ _⟩
  clear h1 h2
  have Hlen := Lib.hid hlen
  clear hlen
  go_enter Try.func22, Try.ntmps22
  go_wp2_with fail
  go_loopw [5] (fun v wr => ∃ (q : Nat), q ≤ n ∧ v = .int .i64 q ∧ SmC w A A' n c c' hs wr) (fun v _ => n - (intOf v).toNat)
  case atStart => exact ⟨0, by omega, rfl, hC0⟩
  case round =>
    clear hC0
    obtain ⟨q, hq, rfl, hC⟩ := hrel
    by_cases hlq : q < n
    · obtain ⟨b1, o1, hA1, -, -, -⟩ := hC.h1.at_ (by omega)
      obtain ⟨b2, o2, hA2, -, -, -⟩ := hC.h2.at_ (by omega)
      subst hA1 hA2
      obtain ⟨x, hx⟩ : ∃ x, hs.getD q [] = x := ⟨_, rfl⟩
      have hxl : x.length = 32 := by rw [← hx]; exact hC.h1.all.getD q (by rw [Hlen.out]; exact hlq)
      have l1 : ∀ s : InC (SmC w (some ⟨b1, o1, none⟩) (some ⟨b2, o2, none⟩) n c c' hs), (Instr.loadAt 25 (.pointer (some ⟨b1, o1 + q * 32, none⟩))).run Try.prog s.W = .ok (.agg (x.map B).toArray) s.W := fun s => by
        obtain ⟨b, o, hA, -, -, hld⟩ := s.ok.h1.at_ (by omega)
        cases hA
        rw [← hx]; exact hld q hlq
      have l2 : ∀ s : InC (SmC w (some ⟨b1, o1, none⟩) (some ⟨b2, o2, none⟩) n c c' hs), (Instr.loadAt 25 (.pointer (some ⟨b2, o2 + q * 32, none⟩))).run Try.prog s.W = .ok (.agg (x.map B).toArray) s.W := fun s => by
        obtain ⟨b, o, hA, -, -, hld⟩ := s.ok.h2.at_ (by omega)
        cases hA
        rw [← hx]; exact hld q hlq
      have Hx := Lib.hid hx
      have Hxl := Lib.hid hxl
      have Hl1 := Lib.hid l1
      have Hl2 := Lib.hid l2
      clear hx hxl l1 l2
      go_upto_region 6 with fail
      refine wp_region_mix (SmC w (some ⟨b1, o1, none⟩) (some ⟨b2, o2, none⟩) n c c' hs) [(0, true), (1, true), (2, true), (3, true), (4, true), (5, true), (6, true), (7, true), (8, true)] (by kernel_rfl) (by kernel_rfl) hC.drew fun _ => ?_
      simp only [List.map_cons, List.map_nil, Array.getD_eq_getD_getElem?, List.getElem?_toArray, List.getElem?_cons_succ, List.getElem?_cons_zero, Option.getD_some]
      iterate 3 (refine wpMix_s (fun K hK => ?_); go_simp; refine hK _ ?_; clear hK K)
      refine wpMix_load (by kernel_rfl) 25 (.tmp 19) rfl b1 (o1 + q * 32) rfl (x.map B).toArray Hl1.out ?_
      simp only [Act.put]
      iterate 3 (refine wpMix_s (fun K hK => ?_); go_simp; refine hK _ ?_; clear hK K)
      refine wpMix_load (by kernel_rfl) 25 (.tmp 23) rfl b2 (o2 + q * 32) rfl (x.map B).toArray Hl2.out ?_
      simp only [Act.put]
      refine wpMix_v (by kernel_rfl) (.bool false) (fun s => run_neq26_f (.tmp 20) (.tmp 24) _ x x rfl rfl rfl Hxl.out Hxl.out rfl s.W) ?_
      simp only [Act.put]
      refine wpMix_nil ?_
      intro hC1
      generalize wr.drew = W1 at hC1 ⊢
      go_wp2_with fail
      refine ⟨⟨q + 1, by omega, by go_num, hC1⟩, by simp [intOf]; omega⟩
    · have hqn : q = n := by omega
      subst hqn
      go_wp2_with fail
      go_ret
      exact ⟨rfl, hC.bel⟩

def h77 : List UInt8 := oneHash 77
theorem h77_32 : H32 [h77] := fun x hx => by rw [List.mem_singleton.1 hx]; rfl
theorem h77_len : h77.length = 32 := rfl
theorem Es.grown {w w' : World} {X : Nat → Prop} {A : Option Addr} {n c : Nat} {ls : List (List UInt8)} {row : Option Nat} (h : Es w X A n c ls) (hg : w.grownBy w' row) (hX : ∀ b, b < w.heap.size → X b → some b ≠ row) : Es w' X A n c ls :=
  let ⟨vs, h1, h2⟩ := h.ex; ⟨⟨vs, h1.grown hg hX, fun i hi => let ⟨Ai, ci, g1, g2⟩ := h2 i hi; ⟨Ai, ci, g1, g2.grown hg hX⟩⟩, h.len⟩
theorem p77_own (pf : List (List UInt8)) (A : Option Addr) (n c : Nat) (w : World) (h : Hs w (fun _ => True) A n c pf) (hmax : n ≤ 1099511627776) : ∃ v1 w1 A3 c3 w3,
    (Builtin.append_ #[26, 26] 26 #[.slice none 0 0, .slice A n c]).run Try.prog w = .ok v1 w1 ∧
    (Builtin.append_ #[26, 26] 26 #[v1, .slice (some ⟨w1.heap.size, 0, none⟩) 1 1]).run Try.prog (w1.alloc (.cells (hcells [h77]).toArray 25)) = .ok (.slice A3 (n + 1) c3) w3 ∧
    Hs w3 (w.heap.size ≤ ·) A3 (n + 1) c3 (pf ++ [h77]) ∧ Below w.heap.size w w3 := by
  have hlen := h.len
  obtain ⟨v1, w1, hr1, ho1, hg1, -⟩ := append_slv (ty := 26) Try.underlying26 info26z (by simp [Value.cells]) (by decide) (World.ownsRow_nil w w.heap.size 25 32) h.sl (oneB _) (by unfold maxLen; omega) (by omega) (Nat.le_refl _)
  rw [List.nil_append, Nat.zero_add] at ho1
  have B1 := (Below.refl w.heap.size w).grown hg1 (Nat.le_refl _) (fun k hk => by cases hk)
  have hbA : Below w1.heap.size w1 (w1.alloc (.cells (hcells [h77]).toArray 25)) := (Below.refl _ _).alloc (Nat.le_refl _) _
  have ho2 := owns_step ho1 hbA
  have B2 := B1.trans (hbA.mono B1.size)
  obtain ⟨v3, w3, hr3, ho3, hg3, -⟩ := append_slv (ty := 26) Try.underlying26 info26z (by simp [Value.cells]) (by decide) ho2 (Hs.lit w1 [h77] h77_32 (by simp) 1 rfl).sl (oneB _) (by unfold maxLen; omega) (by omega) B2.size
  rw [← hcells_append] at ho3
  have B3 := B2.grown hg3 B2.size (fun k hk => (ho2.lt k hk).1)
  obtain ⟨A3, c3, rfl, hs3⟩ := Hs.of_owns ho3 (by rw [List.length_append, hlen]; rfl) (h.all.append h77_32)
  exact ⟨v1, w1, A3, c3, w3, hr1, hr3, hs3.weak fun _ _ hx => hx.1, B3⟩
theorem eA5_own (l : List UInt8) (A : Option Addr) (n c : Nat) (w : World) (h : Sl w (fun _ => True) A n c l) (hmax : n ≤ 1099511627776) : ∃ v1 w1 A3 c3 w3,
    (Builtin.append_ #[23, 23] 23 #[.slice none 0 0, .slice A n c]).run Try.prog w = .ok v1 w1 ∧
    (Builtin.append_ #[23, 23] 23 #[v1, .slice (some ⟨w1.heap.size, 0, none⟩) 1 1]).run Try.prog (w1.alloc (.cells #[.int .u8 165] 5)) = .ok (.slice A3 (n + 1) c3) w3 ∧
    Sl w3 (w.heap.size ≤ ·) A3 (n + 1) c3 (l ++ [165]) ∧ Below w.heap.size w w3 := by
  have hn := h.len
  obtain ⟨v1, w1, hr1, ho1, hg1⟩ := append_sl (xs := []) (World.ownsRow_nil w w.heap.size 5 1) h (by simp; omega) (Nat.le_refl _)
  rw [List.nil_append] at ho1
  have B1 := (Below.refl w.heap.size w).grown hg1 (Nat.le_refl _) (fun k hk => by cases hk)
  have hbA : Below w1.heap.size w1 (w1.alloc (.cells #[.int .u8 165] 5)) := (Below.refl _ _).alloc (Nat.le_refl _) _
  have ho2 := owns_step ho1 hbA
  have B2 := B1.trans (hbA.mono B1.size)
  have hsl2 : Sl (w1.alloc (.cells #[.int .u8 165] 5)) (fun _ => True) (some ⟨w1.heap.size, 0, none⟩) 1 1 [165] := ⟨Bs.new w1 _ _ _ trivial, rfl, Nat.le_refl _, by simp, by decide⟩
  obtain ⟨v3, w3, hr3, ho3, hg3⟩ := append_sl ho2 hsl2 (by omega) B2.size
  have B3 := B2.grown hg3 B2.size (fun k hk => (ho2.lt k hk).1)
  obtain ⟨A3, c3, rfl, hs3⟩ := owns_sl ho3
  have hlen3 : (l ++ [(165 : UInt8)]).length = n + 1 := by simp [hn]
  rw [hlen3] at hr3 hs3
  exact ⟨v1, w1, A3, c3, w3, hr1, hr3, hs3, B3⟩
/-- the answer of a finder of clashes, and its parts -/
def Fc.clt (N : Nat) (c : PairV) (rc : Int) : Fc := ⟨fun v W => ∃ a b, v = .tuple #[.agg #[a, b], .int .i64 rc] ∧ W.ownsRow N 5 1 a c.1.length (c.1.map B) ∧ W.ownsRow N 5 1 b c.2.length (c.2.map B), fun _ _ _ ⟨a, b, h1, h2, h3⟩ hb => ⟨a, b, h1, owns_step h2 hb, owns_step h3 hb⟩, fun g W ⟨a, b, h1, _⟩ => by cases h1⟩
def Fc.cl (N : Nat) (c : PairV) : Fc := ⟨fun v W => ∃ a b, v = .agg #[a, b] ∧ W.ownsRow N 5 1 a c.1.length (c.1.map B) ∧ W.ownsRow N 5 1 b c.2.length (c.2.map B), fun _ _ _ ⟨a, b, h1, h2, h3⟩ hb => ⟨a, b, h1, owns_step h2 hb, owns_step h3 hb⟩, fun g W ⟨a, b, h1, _⟩ => by cases h1⟩
def Fc.clbox (N : Nat) : Fc := ⟨fun v W => ∃ g, v = ptrB g ∧ Blk W g 34 #[.slice none 0 0, .slice none 0 0] ∧ N ≤ g, fun _ _ _ ⟨g, h1, h2, h3⟩ hb => ⟨g, h1, h2.step hb, h3⟩, fun g W ⟨g', h1, h2, _⟩ => by cases h1; exact h2.lt⟩
theorem owns_ne_clash {W : World} {base n g : Nat} {v : Value} {xs : List Value} {cs : Array Value} (h : W.ownsRow base 5 1 v n xs) (k : Blk W g 34 cs) : v.ownBlock = none ∨ v.ownBlock ≠ some g := by
  rcases h.2 with ⟨rfl, _⟩ | ⟨g', cap, cur, rfl, hb, hg, _⟩
  · exact .inl rfl
  · refine .inr fun e => ?_
    have e : g' = g := Option.some.inj e
    subst e
    have h9 : some (Obj.cells cur 5 (0, 0)) = some (Obj.cells cs 34 (0, 0)) := hg.symm.trans k
    have h8 := Option.some.inj h9
    injection h8 with _ h7
    exact absurd h7 (by decide)
section
variable {ops : Array Oper} {Q : Exit → Act → World → Prop} {S : World → Prop} {R : Act → World → Prop} {o : Oper} {l : List (Oper × Bool)} {a : Act} {w : World}
set_option maxRecDepth 100000 in
theorem wpMix_clnew (hg : o.guard = none) (ho : o.op = .alloc 34) (hS : ∀ W, Below w.heap.size w W → S W)
    (h : ∀ W, Blk W w.heap.size 34 #[.slice none 0 0, .slice none 0 0] → Below w.heap.size w W → wpMix Try.prog ops S Q R l (a.put o.dst (.pointer (some ⟨w.heap.size, 0, none⟩))) W) : wpMix Try.prog ops S Q R ((o, false) :: l) a w := by
  have hb : Below w.heap.size w (w.alloc (.cells #[.slice none 0 0, .slice none 0 0] 34)) := (Below.refl _ _).alloc (Nat.le_refl _) _
  refine wpMix_run (by simp [Region.wanted, hg]) (.pointer (some ⟨w.heap.size, 0, none⟩)) (w.alloc (.cells #[.slice none 0 0, .slice none 0 0] 34)) ?_ (hS _ hb) (h _ (Blk.new w 34 _) hb)
  unfold execOp
  rw [ho]
  rfl
theorem wpMix_clset {x0 y0 x1 y1 : Value} {g : Nat} (x y : Operand) (hg : o.guard = none) (ho : o.op = .store 34 x y) (k : Blk w g 34 #[x0, y0]) (hx : a.eval x = .pointer (some ⟨g, 0, none⟩)) (hy : a.eval y = .agg #[x1, y1]) (h1 : x1.oneCell' = true) (h2 : y1.oneCell' = true) (hS : ∀ W, Below g w W → S W)
    (h : ∀ W, Blk W g 34 #[x1, y1] → Below g w W → w.grownBy W (some g) → wpMix Try.prog ops S Q R l (a.put o.dst undef) W) : wpMix Try.prog ops S Q R ((o, false) :: l) a w := by
  have hb : Below g w (w.setRow g #[x1, y1]) := below_setRow (Below.refl _ _) (Nat.le_refl _) _
  exact wpMix_store_blk hg 34 x y ho 2 clSize g #[x1, y1] hx hy rfl (fun v hv => by simp at hv; rcases hv with rfl | rfl <;> assumption) 34 _ k rfl (hS _ hb) (h _ (k.setRow_ _) hb (grown_setRow (grown_of_below (Below.refl _ _) _) _))
end
theorem owns_oneCell {W : World} {base n : Nat} {v : Value} {xs : List Value} (h : W.ownsRow base 5 1 v n xs) : v.oneCell' = true := by
  rcases h.2 with ⟨rfl, _⟩ | ⟨g', cap, cur, rfl, _⟩ <;> rfl
end Go.Proofs.Ytonidnfgneokbaa
