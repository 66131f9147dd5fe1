/- What lets entries come, on the program's front and on the document's: notarylaw10.comes. -/
import Derived.Test.YtonidnfgneokbaaQd231
import Derived.Test.YtonidnfgneokbaaQd232
namespace Go.Proofs.Ytonidnfgneokbaa
open Go Go.RowKit Go.Shelf
attribute [local go_sem] Oper.semAt_some

/-- what a front that may not be there answers to entries that come -/
def mutO (o : Option FrV) (F : FrV → FrV × Int) : Option FrV × Int := match o with | none => (none, 1) | some ps => (some (F ps).1, (F ps).2)
theorem mutO_1 (o : Option FrV) (F : FrV → FrV × Int) : (mutO o F).1 = o.map fun ps => (F ps).1 := by cases o <;> rfl
section
variable {M : Nat → Prop} {W W' : World} {X : Nat → Prop} {A : Option Addr} {n c : Nat}
theorem KB.hs {hs : List (List UInt8)} (h : KB M W W') (hM : SmallM M W) (hh : Hs W X A n c hs) : Hs W' X A n c hs := by
  refine ⟨?_, hh.len, hh.all⟩
  have hsl := hh.sl
  by_cases hn : 0 < n
  · obtain ⟨b, o, hA, -, -, -⟩ := hh.at_ hn
    have hm : ¬ M b := fun hm => by
      obtain ⟨T, cs, hb, hc⟩ := hM b hm
      obtain ⟨b', o', hA', -, hx, -⟩ := (hh.apart hb hc).at_ hn
      rw [hA] at hA'; cases hA'
      exact hx.2 rfl
    refine ⟨fun hl => ?_, hsl.len, hsl.room, hsl.nil, hsl.max⟩
    obtain ⟨b', o', h1, h2, h3, h4⟩ := hsl.bs hl
    rw [hA] at h1; cases h1
    exact ⟨b, o, hA, Nat.lt_of_lt_of_le h2 h.size, h3, fun j v hv => h.keepC.cell (h4 j v hv) hm⟩
  · refine ⟨fun hl => ?_, hsl.len, hsl.room, hsl.nil, hsl.max⟩
    exact absurd (List.length_eq_zero_iff.1 (by rw [hsl.len, show n = 0 by omega, Nat.zero_mul])) hl
theorem KB.es {ls : List (List UInt8)} (h : KB M W W') (hh : Es W X A n c ls) (hX : ∀ b, b < W.heap.size → X b → ¬ M b) : Es W' X A n c ls := by
  obtain ⟨vs, h1, h2⟩ := hh.ex
  refine ⟨⟨vs, h.slv h1 hX, fun i hi => ?_⟩, hh.len⟩
  obtain ⟨Ai, ci, g1, g2⟩ := h2 i hi
  exact ⟨Ai, ci, g1, h.slb g2 hX⟩
theorem KB.lm {ls : List (List UInt8)} (h : KB M W W') (hh : Lm W X A n c ls) (hX : ∀ b, b < W.heap.size → X b → ¬ M b) : Lm W' X A n c ls := by
  obtain ⟨vs, r, cr, h1, h2, h3, h4⟩ := hh.ex
  refine ⟨⟨vs, r, cr, h.slv h1 hX, h2, fun i hi => ?_, h.slb h4 hX⟩, hh.len⟩
  obtain ⟨g, c, g1, g2⟩ := h3 i hi
  refine ⟨g, c, g1, ⟨h.slb g2.sl hX, g2.lt, ?_, g2.x, Nat.lt_of_lt_of_le g2.in_ h.size⟩⟩
  exact h.keepC.cell g2.mark (hX g g2.in_ g2.x)
end
section
variable (v : Value) (o : Option FrV) (w : World)
theorem append_o (es : List (List UInt8)) (A : Option Addr) (n c : Nat) (h : HasO w v o) (hE : Es w (fun _ => True) A n c es) (hn : n ≤ 100000000) (hm : ∀ x ∈ es, x.length ≤ 1073741824) :
    Calls Try.prog 42 #[v, .slice A n c] w fun e w' => e = .returned (.int .i64 (mutO o (appendE · es)).2) ∧ HasO w' v (mutO o (appendE · es)).1 ∧ KB (AtB v) w w' := by
  rcases h with ⟨rfl, rfl⟩ | ⟨g, ps, rfl, rfl, h3, h4⟩
  · exact (fappend_nil A n c w).mono fun e w' ⟨h1, h2⟩ => ⟨h1, .inl ⟨rfl, rfl⟩, by rw [h2]; exact KB.refl _ _⟩
  · exact (fappend_any g ps es A n c w h3 h4 hE hn hm).mono fun e w' ⟨h1, h2, h3⟩ => ⟨h1, .inr ⟨g, _, rfl, rfl, h2, h4.appendE es⟩, KB.of_grown h3 fun r e => by cases e; rfl⟩
theorem leaf_o (hs : List (List UInt8)) (A : Option Addr) (n c : Nat) (h : HasO w v o) (hH : Hs w (fun _ => True) A n c hs) (hn : n ≤ 1000000000) :
    Calls Try.prog 49 #[v, .slice A n c] w fun e w' => e = .returned (.int .i64 (mutO o (leafE · hs)).2) ∧ HasO w' v (mutO o (leafE · hs)).1 ∧ KB (AtB v) w w' := by
  rcases h with ⟨rfl, rfl⟩ | ⟨g, ps, rfl, rfl, h3, h4⟩
  · exact (fleaf_nil A n c w).mono fun e w' ⟨h1, h2⟩ => ⟨h1, .inl ⟨rfl, rfl⟩, by rw [h2]; exact KB.refl _ _⟩
  · exact (fleaf_any g ps hs A n c w h3 h4 hH (by omega)).mono fun e w' ⟨h1, h2, h3⟩ => ⟨h1, .inr ⟨g, _, rfl, rfl, h2, h4.leafE hs hH.all⟩, KB.of_grown h3 fun r e => by cases e; rfl⟩
theorem grow_o (lv : Int) (x : List UInt8) (h : HasO w v o) (hx : x.length = 32) :
    Calls Try.prog 51 #[v, .int .i64 lv, .agg (x.map B).toArray] w fun e w' => e = .returned (.int .i64 (mutO o (growE · lv x)).2) ∧ HasO w' v (mutO o (growE · lv x)).1 ∧ KB (AtB v) w w' := by
  rcases h with ⟨rfl, rfl⟩ | ⟨g, ps, rfl, rfl, h3, h4⟩
  · exact (fgrow_nil lv x w).mono fun e w' ⟨h1, h2⟩ => ⟨h1, .inl ⟨rfl, rfl⟩, KB.of_below h2⟩
  · exact (fgrow_any g ps lv x w h3 h4 hx).mono fun e w' ⟨h1, h2, h3⟩ => ⟨h1, .inr ⟨g, _, rfl, rfl, h2, h4.growE lv x hx⟩, KB.of_grown h3 fun r e => by cases e; rfl⟩
theorem rappend_o (es : List (List UInt8)) (A : Option Addr) (n c : Nat) (h : HasR w v o) (hE : Es w (fun b => ¬ AtB v b) A n c es) (hn : n ≤ 100000000) :
    Calls Try.prog 130 #[v, .slice A n c] w fun e w' => e = .returned (.int .i64 (mutO o (appendE · es)).2) ∧ HasR w' v (mutO o (appendE · es)).1 ∧ KB (AtB v) w w' := by
  rcases h with ⟨rfl, rfl⟩ | ⟨g, ps, rfl, rfl, h3, h4⟩
  · exact (rfappend_nil A n c w).mono fun e w' ⟨h1, h2⟩ => ⟨h1, .inl ⟨rfl, rfl⟩, by rw [h2]; exact KB.refl _ _⟩
  · exact (rfappend_any g ps es A n c w h3 h4 (hE.weak fun b _ hb e => hb (by rw [e]; rfl)) hn).mono fun e w' ⟨h1, h2, h3⟩ => ⟨h1, .inr ⟨g, _, rfl, rfl, h2, h4.appendE es⟩, KB.of_grown h3 fun r e => by cases e; rfl⟩
theorem rleaf_o (hs : List (List UInt8)) (A : Option Addr) (n c : Nat) (h : HasR w v o) (hH : Hs w (fun _ => True) A n c hs) (hn : n ≤ 1000000000) :
    Calls Try.prog 132 #[v, .slice A n c] w fun e w' => e = .returned (.int .i64 (mutO o (leafE · hs)).2) ∧ HasR w' v (mutO o (leafE · hs)).1 ∧ KB (AtB v) w w' := by
  rcases h with ⟨rfl, rfl⟩ | ⟨g, ps, rfl, rfl, h3, h4⟩
  · exact (rfleaf_nil A n c w).mono fun e w' ⟨h1, h2⟩ => ⟨h1, .inl ⟨rfl, rfl⟩, by rw [h2]; exact KB.refl _ _⟩
  · exact (rfleaf_any g ps hs A n c w h3 h4 hH hn).mono fun e w' ⟨h1, h2, h3⟩ => ⟨h1, .inr ⟨g, _, rfl, rfl, h2, h4.leafE hs hH.all⟩, KB.of_grown h3 fun r e => by cases e; rfl⟩
theorem rgrow_o (lv : Int) (x : List UInt8) (h : HasR w v o) (hx : x.length = 32) :
    Calls Try.prog 133 #[v, .int .i64 lv, .agg (x.map B).toArray] w fun e w' => e = .returned (.int .i64 (mutO o (growE · lv x)).2) ∧ HasR w' v (mutO o (growE · lv x)).1 ∧ KB (AtB v) w w' := by
  rcases h with ⟨rfl, rfl⟩ | ⟨g, ps, rfl, rfl, h3, h4⟩
  · exact (rfgrow_nil lv x w).mono fun e w' ⟨h1, h2⟩ => ⟨h1, .inl ⟨rfl, rfl⟩, KB.of_below h2⟩
  · exact (rfgrow_any g ps lv x w h3 h4 hx).mono fun e w' ⟨h1, h2, h3⟩ => ⟨h1, .inr ⟨g, _, rfl, rfl, h2, h4.growE lv x hx⟩, KB.of_grown h3 fun r e => by cases e; rfl⟩
end
/-- the blocks of two fronts -/
def MfM (f r : Value) (b : Nat) : Prop := AtB f b ∨ AtB r b
theorem HasO.both {W : World} {f r : Value} {o o' : Option FrV} (h : HasO W f o) (h' : HasR W r o') : SmallM (MfM f r) W := fun b hb => hb.elim (h.small b) (h'.small b)
/-- what a step lets come -/
def stepE (kd lv : Int) (es hs : List (List UInt8)) (ps : FrV) : FrV :=
  if kd = 1 then (appendE ps es).1 else if kd = 2 then (leafE ps hs).1 else if kd = 3 then (growE ps lv (hs.getD 0 zero32)).1 else ps
theorem zero32_len : zero32.length = 32 := rfl
abbrev stepCells (kd who tv lv N : Int) (eA : Option Addr) (en ec : Nat) (hA : Option Addr) (hn hc : Nat) : Array Value := #[.int .i64 kd, .int .i64 who, .int .i64 tv, .int .i64 lv, .int .i64 N, .slice eA en ec, .slice hA hn hc]
set_option maxHeartbeats 8000000 in
set_option maxRecDepth 100000 in
theorem comes1_any (f r : Value) (o : Option FrV) (who tv lv N : Int) (es hs : List (List UInt8)) (eA : Option Addr) (en ec : Nat) (hA : Option Addr) (hn hc : Nat) (w : World) (hf : HasO w f o) (hr : HasR w r o) (hne : ∀ b, AtB f b → ¬ AtB r b)
    (hE : Es w (fun b => ¬ MfM f r b) eA en ec es) (hH : Hs w (fun _ => True) hA hn hc hs) (hen : en ≤ 2097152) (hm : ∀ x ∈ es, x.length ≤ 1073741824) :
    Calls Try.prog 58 #[f, r, .agg (stepCells 1 who tv lv N eA en ec hA hn hc)] w fun e w' => e = .returned (.bool true) ∧ HasO w' f (o.map fun ps => (appendE ps es).1) ∧ HasR w' r (o.map fun ps => (appendE ps es).1) ∧ KB (MfM f r) w w' := by
  have hroomE := hE.room
  have hmxE := hE.max
  unfold maxLen at hmxE
  have hroomH := hH.sl.room
  have hmxH := hH.sl.max
  unfold maxLen at hmxH
  obtain ⟨w1, hw1⟩ : ∃ x, w.alloc (.cells (stepCells 1 who tv lv N eA en ec hA hn hc) 96) = x := ⟨_, rfl⟩
  have kx : Blk w1 w.heap.size 96 (stepCells 1 who tv lv N eA en ec hA hn hc) := by rw [← hw1]; exact Blk.new _ _ _
  have hb1 : Below w.heap.size w w1 := by rw [← hw1]; exact (Below.refl _ _).alloc (Nat.le_refl _) _
  have hxM : ¬ MfM f r w.heap.size := fun h => by
    rcases h with h | h
    · have := hf.lt h; omega
    · have := hr.lt h; omega
  have hK1 : KB (MfM f r) w w1 := KB.of_below hb1
  have hF1 := hf.step hb1
  have hR1 := hr.step hb1
  have hE1 := hE.step hb1
  have hH1 := hH.step hb1
  have hbg : w.heap.size < w1.heap.size := kx.lt
  have c0 : w1.cell? ⟨w.heap.size, 0, none⟩ = some (.int .i64 1) := by rw [kx.cell]; rfl
  have c5 : w1.cell? ⟨w.heap.size, 5, none⟩ = some (.slice eA en ec) := by rw [kx.cell]; rfl
  have c6 : w1.cell? ⟨w.heap.size, 6, none⟩ = some (.slice hA hn hc) := by rw [kx.cell]; rfl
  have Hw1 := Lib.hid hw1
  have Hfr := Lib.hid hf
  have Hrr := Lib.hid hr
  clear hw1 hb1 hf hr hE hH
  go_enter Try.func58, Try.ntmps58
  have hle := hE1.len
  have hm2 : ∀ x ∈ es, x.length ≤ 1099511627776 := fun x hx => Nat.le_trans (hm x hx) (by decide)
  have Hlt := Lib.hid (lent10_any es eA en ec w1 (hE1.weak fun _ _ _ => trivial) hen hm2)
  clear hm2
  go_wp2_with (first | rw [Hw1.out] | (go_at_call 129; refine Hlt.out.mono ?_; rintro e w3 ⟨A7, c7, rfl, hL, hb3⟩))
  have k3 := kx.step hb3
  have hEc := hE1.step hb3
  have hF := hF1.step hb3
  have hR := hR1.step hb3
  have hK3 := hK1.trans (KB.of_below hb3)
  have hLM : ∀ b, w1.heap.size ≤ b → ¬ MfM f r b := fun b hb h => by
    rcases h with h | h
    · have := hF1.lt h; omega
    · have := hR1.lt h; omega
  have c5' : ∀ s : InC (KB (MfM f r) w3), s.W.cell? ⟨w.heap.size, 5, none⟩ = some (.slice eA en ec) := fun s => by rw [(s.ok.blk k3 hxM).cell]; rfl
  have hS : KB (MfM f r) w3 w3.drew := KB.of_below (Below.refl _ _).drew
  replace hL := hL.step (Below.refl _ _).drew
  replace hEc := hEc.step (Below.refl _ _).drew
  replace hF := hF.step (Below.refl _ _).drew
  replace hR := hR.step (Below.refl _ _).drew
  clear hF1 hR1 hE1 hH1 c0 c5 c6 hb3 hK1
  refine wp_region_mix (KB (MfM f r) w3) [(0, true), (1, true), (4, true), (5, true), (6, true), (2, false), (3, false), (7, false), (8, true), (9, true), (10, true), (11, true), (12, true), (13, false), (14, true), (15, true)] (by kernel_rfl) (by kernel_rfl) hS fun _ => ?_
  simp only [List.map_cons, List.map_nil, Array.getD_eq_getD_getElem?, List.getElem?_toArray, List.getElem?_cons_succ, List.getElem?_cons_zero, Option.getD_some]
  generalize w3.drew = u0 at hS hF hR hL hEc ⊢
  refine wpMix_s (fun K hK => ?_)
  go_simp
  refine hK _ ?_
  clear hK K
  refine wpMix_s (fun K hK => ?_)
  go_simp
  refine hK _ ?_
  clear hK K
  refine wpMix_s (fun K hK => ?_)
  go_simp
  refine hK _ ?_
  clear hK K
  refine wpMix_s (fun K hK => ?_)
  go_simp
  refine hK _ ?_
  clear hK K
  refine wpMix_s (fun K hK => ?_)
  go_simp
  refine hK _ ?_
  clear hK K
  refine wpMix_c (fun K hK => ?_) hS
  go_simp
  refine (append_o f o u0 es A7 en c7 hF (hL.es.weak fun _ _ _ => trivial) (by omega) hm).mono ?_
  rintro e u0X ⟨rfl, hN, hk9⟩
  refine hK _ _ ?_
  clear hK K
  have hM0 := hF.both hR
  replace hS := hS.trans (hk9.mono fun b hb => .inl hb)
  refine ⟨hS, ?_⟩
  replace hR := hR.kb hk9 (fun b hb => hM0 b (.inl hb)) (fun b hb h => hne b h hb)
  replace hF := hN
  replace hL := hk9.lm hL (fun b _ hx hm => hLM b hx (.inl hm))
  replace hEc := hk9.es hEc (fun b _ hx hm => hx (.inl hm))
  clear hN hk9 hM0
  refine wpMix_c (fun K hK => ?_) hS
  go_simp
  refine (num10_any _ u0X).mono ?_
  rintro e u0e ⟨rfl, hww⟩
  obtain rfl := hww.symm
  refine hK _ _ ?_
  clear hK K
  refine ⟨hS, ?_⟩
  refine wpMix_c (fun K hK => ?_) hS
  go_simp
  refine (rappend_o r o u0X es eA en ec hR (hEc.weak fun b _ hx hm => hx (.inr hm)) (by omega)).mono ?_
  rintro e u0XX ⟨rfl, hN, hk9⟩
  refine hK _ _ ?_
  clear hK K
  have hM0 := hF.both hR
  replace hS := hS.trans (hk9.mono fun b hb => .inr hb)
  refine ⟨hS, ?_⟩
  replace hF := hF.kb hk9 (fun b hb => hM0 b (.inr hb)) (fun b hb h => hne b hb h)
  replace hR := hN
  replace hL := hk9.lm hL (fun b _ hx hm => hLM b hx (.inr hm))
  replace hEc := hk9.es hEc (fun b _ hx hm => hx (.inr hm))
  clear hN hk9 hM0
  refine wpMix_s (fun K hK => ?_)
  go_simp
  refine hK _ ?_
  clear hK K
  refine wpMix_s (fun K hK => ?_)
  go_simp
  refine hK _ ?_
  clear hK K
  refine wpMix_s (fun K hK => ?_)
  go_simp
  refine hK _ ?_
  clear hK K
  refine wpMix_s (fun K hK => ?_)
  go_simp
  refine hK _ ?_
  clear hK K
  refine wpMix_s (fun K hK => ?_)
  go_simp
  refine hK _ ?_
  clear hK K
  refine wpMix_c (fun K hK => ?_) hS
  go_simp
  refine (left10_any es A7 eA en c7 ec u0XX hL.all (hEc.weak fun _ _ _ => trivial) (by omega)).mono ?_
  rintro e u0XXX ⟨rfl, hb9⟩
  refine hK _ _ ?_
  clear hK K
  replace hS := hS.trans (KB.of_below hb9)
  refine ⟨hS, ?_⟩
  replace hF := hF.step hb9
  replace hR := hR.step hb9
  clear hb9
  refine wpMix_s (fun K hK => ?_)
  go_simp
  refine hK _ ?_
  clear hK K
  refine wpMix_s (fun K hK => ?_)
  go_simp
  refine hK _ ?_
  clear hK K
  refine wpMix_nil ?_
  intro _
  go_wp2_with fail
  go_ret
  rw [mutO_1] at hF hR
  exact ⟨rfl, hF, hR, hK3.trans hS⟩
set_option maxHeartbeats 8000000 in
set_option maxRecDepth 100000 in
theorem comes2_any (f r : Value) (o : Option FrV) (who tv lv N : Int) (es hs : List (List UInt8)) (eA : Option Addr) (en ec : Nat) (hA : Option Addr) (hn hc : Nat) (w : World) (hf : HasO w f o) (hr : HasR w r o) (hne : ∀ b, AtB f b → ¬ AtB r b)
    (hE : Es w (fun b => ¬ MfM f r b) eA en ec es) (hH : Hs w (fun _ => True) hA hn hc hs) (hhn : hn ≤ 1000000000) :
    Calls Try.prog 58 #[f, r, .agg (stepCells 2 who tv lv N eA en ec hA hn hc)] w fun e w' => e = .returned (.bool true) ∧ HasO w' f (o.map fun ps => (leafE ps hs).1) ∧ HasR w' r (o.map fun ps => (leafE ps hs).1) ∧ KB (MfM f r) w w' := by
  have hroomE := hE.room
  have hmxE := hE.max
  unfold maxLen at hmxE
  have hroomH := hH.sl.room
  have hmxH := hH.sl.max
  unfold maxLen at hmxH
  obtain ⟨w1, hw1⟩ : ∃ x, w.alloc (.cells (stepCells 2 who tv lv N eA en ec hA hn hc) 96) = x := ⟨_, rfl⟩
  have kx : Blk w1 w.heap.size 96 (stepCells 2 who tv lv N eA en ec hA hn hc) := by rw [← hw1]; exact Blk.new _ _ _
  have hb1 : Below w.heap.size w w1 := by rw [← hw1]; exact (Below.refl _ _).alloc (Nat.le_refl _) _
  have hxM : ¬ MfM f r w.heap.size := fun h => by
    rcases h with h | h
    · have := hf.lt h; omega
    · have := hr.lt h; omega
  have hK1 : KB (MfM f r) w w1 := KB.of_below hb1
  have hF1 := hf.step hb1
  have hR1 := hr.step hb1
  have hE1 := hE.step hb1
  have hH1 := hH.step hb1
  have hbg : w.heap.size < w1.heap.size := kx.lt
  have c0 : w1.cell? ⟨w.heap.size, 0, none⟩ = some (.int .i64 2) := by rw [kx.cell]; rfl
  have c5 : w1.cell? ⟨w.heap.size, 5, none⟩ = some (.slice eA en ec) := by rw [kx.cell]; rfl
  have c6 : w1.cell? ⟨w.heap.size, 6, none⟩ = some (.slice hA hn hc) := by rw [kx.cell]; rfl
  have Hw1 := Lib.hid hw1
  have Hfr := Lib.hid hf
  have Hrr := Lib.hid hr
  clear hw1 hb1 hf hr hE hH
  go_enter Try.func58, Try.ntmps58
  have hlh := hH1.len
  have Hlt := Lib.hid (hashes10_any hs hA hn hc w1 hH1 (by omega))
  go_wp2_with (first | rw [Hw1.out] | (go_at_call 60; refine Hlt.out.mono ?_; rintro e w3 ⟨A8, c8, rfl, -, hL, hb3⟩))
  have hT := hL.take hn (by omega)
  rw [show (hs ++ [mark77]).take hn = hs by rw [← hlh]; simp] at hT
  have hrT := hT.sl.room
  have k3 := kx.step hb3
  have hHc := hH1.step hb3
  have hF := hF1.step hb3
  have hR := hR1.step hb3
  have hK3 := hK1.trans (KB.of_below hb3)
  have c6' : ∀ s : InC (KB (MfM f r) w3), s.W.cell? ⟨w.heap.size, 6, none⟩ = some (.slice hA hn hc) := fun s => by rw [(s.ok.blk k3 hxM).cell]; rfl
  have hS : KB (MfM f r) w3 w3.drew := KB.of_below (Below.refl _ _).drew
  replace hL := hL.step (Below.refl _ _).drew
  replace hT := hT.step (Below.refl _ _).drew
  replace hHc := hHc.step (Below.refl _ _).drew
  replace hF := hF.step (Below.refl _ _).drew
  replace hR := hR.step (Below.refl _ _).drew
  clear hF1 hR1 hE1 hH1 c0 c5 c6 hb3 hK1
  refine wp_region_mix (KB (MfM f r) w3) [(0, true), (1, true), (4, true), (5, true), (6, true), (2, false), (3, false), (7, false), (8, true), (9, true), (10, true), (11, true), (12, true), (13, false), (14, true), (15, true)] (by kernel_rfl) (by kernel_rfl) hS fun _ => ?_
  simp only [List.map_cons, List.map_nil, Array.getD_eq_getD_getElem?, List.getElem?_toArray, List.getElem?_cons_succ, List.getElem?_cons_zero, Option.getD_some]
  generalize w3.drew = u0 at hS hF hR hL hT hHc ⊢
  refine wpMix_s (fun K hK => ?_)
  go_simp
  refine hK _ ?_
  clear hK K
  refine wpMix_s (fun K hK => ?_)
  go_simp
  refine hK _ ?_
  clear hK K
  refine wpMix_s (fun K hK => ?_)
  go_simp
  refine hK _ ?_
  clear hK K
  refine wpMix_s (fun K hK => ?_)
  go_simp
  refine hK _ ?_
  clear hK K
  refine wpMix_s (fun K hK => ?_)
  go_simp
  refine hK _ ?_
  clear hK K
  refine wpMix_c (fun K hK => ?_) hS
  go_simp
  refine (leaf_o f o u0 hs A8 hn c8 hF (hT.weak fun _ _ _ => trivial) (by omega)).mono ?_
  rintro e u0X ⟨rfl, hN, hk9⟩
  refine hK _ _ ?_
  clear hK K
  have hM0 := hF.both hR
  replace hS := hS.trans (hk9.mono fun b hb => .inl hb)
  refine ⟨hS, ?_⟩
  replace hR := hR.kb hk9 (fun b hb => hM0 b (.inl hb)) (fun b hb h => hne b h hb)
  replace hF := hN
  replace hL := hk9.hs (fun b hb => hM0 b (.inl hb)) hL
  replace hT := hk9.hs (fun b hb => hM0 b (.inl hb)) hT
  replace hHc := hk9.hs (fun b hb => hM0 b (.inl hb)) hHc
  clear hN hk9 hM0
  refine wpMix_c (fun K hK => ?_) hS
  go_simp
  refine (num10_any _ u0X).mono ?_
  rintro e u0e ⟨rfl, hww⟩
  obtain rfl := hww.symm
  refine hK _ _ ?_
  clear hK K
  refine ⟨hS, ?_⟩
  refine wpMix_c (fun K hK => ?_) hS
  go_simp
  refine (rleaf_o r o u0X hs hA hn hc hR hHc (by omega)).mono ?_
  rintro e u0XX ⟨rfl, hN, hk9⟩
  refine hK _ _ ?_
  clear hK K
  have hM0 := hF.both hR
  replace hS := hS.trans (hk9.mono fun b hb => .inr hb)
  refine ⟨hS, ?_⟩
  replace hF := hF.kb hk9 (fun b hb => hM0 b (.inr hb)) (fun b hb h => hne b hb h)
  replace hR := hN
  replace hL := hk9.hs (fun b hb => hM0 b (.inr hb)) hL
  replace hT := hk9.hs (fun b hb => hM0 b (.inr hb)) hT
  replace hHc := hk9.hs (fun b hb => hM0 b (.inr hb)) hHc
  clear hN hk9 hM0
  refine wpMix_s (fun K hK => ?_)
  go_simp
  refine hK _ ?_
  clear hK K
  refine wpMix_s (fun K hK => ?_)
  go_simp
  refine hK _ ?_
  clear hK K
  refine wpMix_s (fun K hK => ?_)
  go_simp
  refine hK _ ?_
  clear hK K
  refine wpMix_s (fun K hK => ?_)
  go_simp
  refine hK _ ?_
  clear hK K
  refine wpMix_s (fun K hK => ?_)
  go_simp
  refine hK _ ?_
  clear hK K
  refine wpMix_c (fun K hK => ?_) hS
  go_simp
  refine (kept10_any hs A8 hA hn c8 hc u0XX (hL.weak fun _ _ _ => trivial) hHc (by omega)).mono ?_
  rintro e u0XXX ⟨rfl, hb9⟩
  refine hK _ _ ?_
  clear hK K
  replace hS := hS.trans (KB.of_below hb9)
  refine ⟨hS, ?_⟩
  replace hF := hF.step hb9
  replace hR := hR.step hb9
  clear hb9
  refine wpMix_s (fun K hK => ?_)
  go_simp
  refine hK _ ?_
  clear hK K
  refine wpMix_s (fun K hK => ?_)
  go_simp
  refine hK _ ?_
  clear hK K
  refine wpMix_nil ?_
  intro _
  go_wp2_with fail
  go_ret
  rw [mutO_1] at hF hR
  exact ⟨rfl, hF, hR, hK3.trans hS⟩
set_option maxHeartbeats 8000000 in
set_option maxRecDepth 100000 in
theorem comes3_any (f r : Value) (o : Option FrV) (who tv lv N : Int) (es hs : List (List UInt8)) (eA : Option Addr) (en ec : Nat) (hA : Option Addr) (hn hc : Nat) (w : World) (hf : HasO w f o) (hr : HasR w r o) (hne : ∀ b, AtB f b → ¬ AtB r b)
    (hE : Es w (fun b => ¬ MfM f r b) eA en ec es) (hH : Hs w (fun _ => True) hA hn hc hs) (hhn : hn ≤ 1000000000) :
    Calls Try.prog 58 #[f, r, .agg (stepCells 3 who tv lv N eA en ec hA hn hc)] w fun e w' => e = .returned (.bool true) ∧ HasO w' f (o.map fun ps => (growE ps lv (hs.getD 0 zero32)).1) ∧ HasR w' r (o.map fun ps => (growE ps lv (hs.getD 0 zero32)).1) ∧ KB (MfM f r) w w' := by
  have hroomE := hE.room
  have hmxE := hE.max
  unfold maxLen at hmxE
  have hroomH := hH.sl.room
  have hmxH := hH.sl.max
  unfold maxLen at hmxH
  obtain ⟨w1, hw1⟩ : ∃ x, w.alloc (.cells (stepCells 3 who tv lv N eA en ec hA hn hc) 96) = x := ⟨_, rfl⟩
  have kx : Blk w1 w.heap.size 96 (stepCells 3 who tv lv N eA en ec hA hn hc) := by rw [← hw1]; exact Blk.new _ _ _
  have hb1 : Below w.heap.size w w1 := by rw [← hw1]; exact (Below.refl _ _).alloc (Nat.le_refl _) _
  have hxM : ¬ MfM f r w.heap.size := fun h => by
    rcases h with h | h
    · have := hf.lt h; omega
    · have := hr.lt h; omega
  have hK1 : KB (MfM f r) w w1 := KB.of_below hb1
  have hF1 := hf.step hb1
  have hR1 := hr.step hb1
  have hE1 := hE.step hb1
  have hH1 := hH.step hb1
  have hbg : w.heap.size < w1.heap.size := kx.lt
  have c0 : w1.cell? ⟨w.heap.size, 0, none⟩ = some (.int .i64 3) := by rw [kx.cell]; rfl
  have c5 : w1.cell? ⟨w.heap.size, 5, none⟩ = some (.slice eA en ec) := by rw [kx.cell]; rfl
  have c6 : w1.cell? ⟨w.heap.size, 6, none⟩ = some (.slice hA hn hc) := by rw [kx.cell]; rfl
  have Hw1 := Lib.hid hw1
  have Hfr := Lib.hid hf
  have Hrr := Lib.hid hr
  clear hw1 hb1 hf hr hE hH
  go_enter Try.func58, Try.ntmps58
  have c3 : w1.cell? ⟨w.heap.size, 3, none⟩ = some (.int .i64 lv) := by rw [kx.cell]; rfl
  have hlh := hH1.len
  have h32 := hH1.all
  have key : ∀ (w3 : World) (x : List UInt8), HV w3 w1.heap.size x → Below w1.heap.size w1 w3 → hs.getD 0 zero32 = x → x.length = 32 → ¬ MfM f r w1.heap.size ∧ HasO w3 f o ∧ HasR w3 r o ∧ KB (MfM f r) w w3 ∧ Blk w3 w.heap.size 96 (stepCells 3 who tv lv N eA en ec hA hn hc) := fun w3 x hk hb hx hxl =>
    ⟨fun h => by
      rcases h with h | h
      · have := hF1.lt h; omega
      · have := hR1.lt h; omega, hF1.step hb, hR1.step hb, hK1.trans (KB.of_below hb), kx.step hb⟩
  have Key := Lib.hid key
  clear key
  by_cases hn0 : hn = 0
  · subst hn0
    have hx : hs.getD 0 zero32 = zero32 := by rw [List.length_eq_zero_iff.1 hlh]; rfl
    go_wp2_with (first | rw [Hw1.out] | ((with_reducible show wpList _ _ _ [⟨some 9, .alloc _, _, _, _, _⟩] _ _); refine wpList_hnew rfl rfl ?_; intro w3 k9 hb3; simp only [Act.put]; have d6 : w3.cell? ⟨w.heap.size, 6, none⟩ = some (.slice hA 0 hc) := (by rw [(kx.step hb3).cell]; rfl)))
    obtain ⟨hgM, hF, hR, hK3, k3⟩ := Key.out w3 zero32 k9 hb3 hx rfl
    have Hx := Lib.hid hx
    clear hx
    have k9x : ∀ s : InC (KB (MfM f r) w3), HV s.W w1.heap.size zero32 := fun s => ⟨s.ok.blk k9.blk hgM, k9.len⟩
    have c3' : ∀ s : InC (KB (MfM f r) w3), s.W.cell? ⟨w.heap.size, 3, none⟩ = some (.int .i64 lv) := fun s => by rw [(s.ok.blk k3 hxM).cell]; rfl
    have hS : KB (MfM f r) w3 w3.drew := KB.of_below (Below.refl _ _).drew
    replace hF := hF.step (Below.refl _ _).drew
    replace hR := hR.step (Below.refl _ _).drew
    clear hF1 hR1 hE1 hH1 c0 c3 c5 c6 d6 hK1 Key h32 hlh
    refine wp_region_mix (KB (MfM f r) w3) [(0, true), (1, true), (2, true), (3, true), (6, true), (7, true), (8, true), (9, true), (4, false), (5, false), (10, false), (11, true), (12, true)] (by kernel_rfl) (by kernel_rfl) hS fun _ => ?_
    simp only [List.map_cons, List.map_nil, Array.getD_eq_getD_getElem?, List.getElem?_toArray, List.getElem?_cons_succ, List.getElem?_cons_zero, Option.getD_some]
    generalize w3.drew = u0 at hS hF hR ⊢
    refine wpMix_s (fun K hK => ?_)
    go_simp
    refine hK _ ?_
    clear hK K
    refine wpMix_s (fun K hK => ?_)
    go_simp
    refine hK _ ?_
    clear hK K
    refine wpMix_s (fun K hK => ?_)
    go_simp
    refine hK _ ?_
    clear hK K
    refine wpMix_load (by kernel_rfl) 25 (.tmp 9) rfl (w1.heap.size) (0) rfl (zero32.map B).toArray (fun s => (k9x s).load) ?_
    simp only [Act.put]
    refine wpMix_s (fun K hK => ?_)
    go_simp
    refine hK _ ?_
    clear hK K
    refine wpMix_s (fun K hK => ?_)
    go_simp
    refine hK _ ?_
    clear hK K
    refine wpMix_s (fun K hK => ?_)
    go_simp
    refine hK _ ?_
    clear hK K
    refine wpMix_load (by kernel_rfl) 25 (.tmp 9) rfl (w1.heap.size) (0) rfl (zero32.map B).toArray (fun s => (k9x s).load) ?_
    simp only [Act.put]
    refine wpMix_c (fun K hK => ?_) hS
    go_simp
    refine (grow_o f o u0 lv zero32 hF rfl).mono ?_
    rintro e u0X ⟨rfl, hN, hk9⟩
    refine hK _ _ ?_
    clear hK K
    have hM0 := hF.both hR
    replace hS := hS.trans (hk9.mono fun b hb => .inl hb)
    refine ⟨hS, ?_⟩
    replace hR := hR.kb hk9 (fun b hb => hM0 b (.inl hb)) (fun b hb h => hne b h hb)
    replace hF := hN
    clear hN hk9 hM0
    refine wpMix_c (fun K hK => ?_) hS
    go_simp
    refine (num10_any _ u0X).mono ?_
    rintro e u0e ⟨rfl, hww⟩
    obtain rfl := hww.symm
    refine hK _ _ ?_
    clear hK K
    refine ⟨hS, ?_⟩
    refine wpMix_c (fun K hK => ?_) hS
    go_simp
    refine (rgrow_o r o u0X lv zero32 hR rfl).mono ?_
    rintro e u0zero32 ⟨rfl, hN, hk9⟩
    refine hK _ _ ?_
    clear hK K
    have hM0 := hF.both hR
    replace hS := hS.trans (hk9.mono fun b hb => .inr hb)
    refine ⟨hS, ?_⟩
    replace hF := hF.kb hk9 (fun b hb => hM0 b (.inr hb)) (fun b hb h => hne b hb h)
    replace hR := hN
    clear hN hk9 hM0
    refine wpMix_s (fun K hK => ?_)
    go_simp
    refine hK _ ?_
    clear hK K
    refine wpMix_s (fun K hK => ?_)
    go_simp
    refine hK _ ?_
    clear hK K
    refine wpMix_nil ?_
    intro _
    go_wp2_with fail
    go_ret
    rw [mutO_1, ← Hx.out] at hF hR
    exact ⟨rfl, hF, hR, hK3.trans hS⟩
  · have hd : decide ((0 : Int) < (hn : Int)) = true := by simp; omega
    obtain ⟨bh, oh, rfl, -, -, hat⟩ := hH1.at_ (by omega)
    have hat0 : ∀ W, Below w1.heap.size w1 W → (Instr.loadAt 25 (.pointer (some ⟨bh, oh, none⟩))).run Try.prog W = .ok (.agg ((hs.getD 0 []).map B).toArray) W := fun W hb => by
      obtain ⟨b', o', e, -, -, h⟩ := (hH1.step hb).at_ (by omega)
      cases e
      have := h 0 (by omega)
      rw [Nat.zero_mul, Nat.add_zero] at this
      exact this
    obtain ⟨x, hx'⟩ : ∃ x, hs.getD 0 [] = x := ⟨_, rfl⟩
    have hxl : x.length = 32 := by rw [← hx']; exact h32.getD 0 (by omega)
    have hx : hs.getD 0 zero32 = x := by
      rw [← hx', List.getD_eq_getElem?_getD, List.getD_eq_getElem?_getD, List.getElem?_eq_getElem (by omega)]
      rfl
    rw [hx'] at hat0
    have Hat := Lib.hid hat0
    have Hx' := Lib.hid hx'
    have Hx := Lib.hid hx
    clear hat hat0 hx' hx
    go_wp2_with (first | rw [Hw1.out] | ((with_reducible show wpList _ _ _ [⟨some 9, .alloc _, _, _, _, _⟩] _ _); refine wpList_hnew rfl rfl ?_; intro w2 k9z hb2; simp only [Act.put]; have d6 : w2.cell? ⟨w.heap.size, 6, none⟩ = some (.slice (some ⟨bh, oh, none⟩) hn hc) := (by rw [(kx.step hb2).cell]; rfl)) | ((with_reducible show wpList _ _ _ (⟨some 61, .load _ _, _, _, _, _⟩ :: _) _ _); refine wpList_cell 25 (.tmp 60) bh oh (.agg (x.map B).toArray) (by kernel_rfl) rfl rfl (Hat.out _ hb2) ?_; simp only [Act.put]) | ((with_reducible show wpList _ _ _ [⟨none, .store _ (.tmp 9) _, _, _, _, _⟩] _ _); refine wpList_hset (.tmp 9) (.tmp 61) rfl rfl k9z rfl rfl hxl ?_; intro w3 k9 hb3' hW; have hb3 : Below w1.heap.size w1 w3 := hb2.trans hb3'; clear hW; simp only [Act.put]))
    obtain ⟨hgM, hF, hR, hK3, k3⟩ := Key.out w3 x k9 hb3 Hx.out hxl
    have hx := hxl
    have k9x : ∀ s : InC (KB (MfM f r) w3), HV s.W w1.heap.size x := fun s => ⟨s.ok.blk k9.blk hgM, k9.len⟩
    have c3' : ∀ s : InC (KB (MfM f r) w3), s.W.cell? ⟨w.heap.size, 3, none⟩ = some (.int .i64 lv) := fun s => by rw [(s.ok.blk k3 hxM).cell]; rfl
    have hS : KB (MfM f r) w3 w3.drew := KB.of_below (Below.refl _ _).drew
    replace hF := hF.step (Below.refl _ _).drew
    replace hR := hR.step (Below.refl _ _).drew
    clear hF1 hR1 hE1 hH1 c0 c3 c5 c6 d6 hK1 Key h32 hlh
    refine wp_region_mix (KB (MfM f r) w3) [(0, true), (1, true), (2, true), (3, true), (6, true), (7, true), (8, true), (9, true), (4, false), (5, false), (10, false), (11, true), (12, true)] (by kernel_rfl) (by kernel_rfl) hS fun _ => ?_
    simp only [List.map_cons, List.map_nil, Array.getD_eq_getD_getElem?, List.getElem?_toArray, List.getElem?_cons_succ, List.getElem?_cons_zero, Option.getD_some]
    generalize w3.drew = u0 at hS hF hR ⊢
    refine wpMix_s (fun K hK => ?_)
    go_simp
    refine hK _ ?_
    clear hK K
    refine wpMix_s (fun K hK => ?_)
    go_simp
    refine hK _ ?_
    clear hK K
    refine wpMix_s (fun K hK => ?_)
    go_simp
    refine hK _ ?_
    clear hK K
    refine wpMix_load (by kernel_rfl) 25 (.tmp 9) rfl (w1.heap.size) (0) rfl (x.map B).toArray (fun s => (k9x s).load) ?_
    simp only [Act.put]
    refine wpMix_s (fun K hK => ?_)
    go_simp
    refine hK _ ?_
    clear hK K
    refine wpMix_s (fun K hK => ?_)
    go_simp
    refine hK _ ?_
    clear hK K
    refine wpMix_s (fun K hK => ?_)
    go_simp
    refine hK _ ?_
    clear hK K
    refine wpMix_load (by kernel_rfl) 25 (.tmp 9) rfl (w1.heap.size) (0) rfl (x.map B).toArray (fun s => (k9x s).load) ?_
    simp only [Act.put]
    refine wpMix_c (fun K hK => ?_) hS
    go_simp
    refine (grow_o f o u0 lv x hF hx).mono ?_
    rintro e u0X ⟨rfl, hN, hk9⟩
    refine hK _ _ ?_
    clear hK K
    have hM0 := hF.both hR
    replace hS := hS.trans (hk9.mono fun b hb => .inl hb)
    refine ⟨hS, ?_⟩
    replace hR := hR.kb hk9 (fun b hb => hM0 b (.inl hb)) (fun b hb h => hne b h hb)
    replace hF := hN
    clear hN hk9 hM0
    refine wpMix_c (fun K hK => ?_) hS
    go_simp
    refine (num10_any _ u0X).mono ?_
    rintro e u0e ⟨rfl, hww⟩
    obtain rfl := hww.symm
    refine hK _ _ ?_
    clear hK K
    refine ⟨hS, ?_⟩
    refine wpMix_c (fun K hK => ?_) hS
    go_simp
    refine (rgrow_o r o u0X lv x hR hx).mono ?_
    rintro e u0x ⟨rfl, hN, hk9⟩
    refine hK _ _ ?_
    clear hK K
    have hM0 := hF.both hR
    replace hS := hS.trans (hk9.mono fun b hb => .inr hb)
    refine ⟨hS, ?_⟩
    replace hF := hF.kb hk9 (fun b hb => hM0 b (.inr hb)) (fun b hb h => hne b hb h)
    replace hR := hN
    clear hN hk9 hM0
    refine wpMix_s (fun K hK => ?_)
    go_simp
    refine hK _ ?_
    clear hK K
    refine wpMix_s (fun K hK => ?_)
    go_simp
    refine hK _ ?_
    clear hK K
    refine wpMix_nil ?_
    intro _
    go_wp2_with fail
    go_ret
    rw [mutO_1, ← Hx.out] at hF hR
    exact ⟨rfl, hF, hR, hK3.trans hS⟩
set_option maxHeartbeats 8000000 in
set_option maxRecDepth 100000 in
theorem comes4_any (f r : Value) (o : Option FrV) (who tv lv N : Int) (es hs : List (List UInt8)) (eA : Option Addr) (en ec : Nat) (hA : Option Addr) (hn hc : Nat) (w : World) (hf : HasO w f o) (hr : HasR w r o)
    (hE : Es w (fun b => ¬ MfM f r b) eA en ec es) (hH : Hs w (fun _ => True) hA hn hc hs) :
    Calls Try.prog 58 #[f, r, .agg (stepCells 4 who tv lv N eA en ec hA hn hc)] w fun e w' => e = .returned (.bool true) ∧ HasO w' f o ∧ HasR w' r o ∧ KB (MfM f r) w w' := by
  have hroomE := hE.room
  have hmxE := hE.max
  unfold maxLen at hmxE
  have hroomH := hH.sl.room
  have hmxH := hH.sl.max
  unfold maxLen at hmxH
  obtain ⟨w1, hw1⟩ : ∃ x, w.alloc (.cells (stepCells 4 who tv lv N eA en ec hA hn hc) 96) = x := ⟨_, rfl⟩
  have kx : Blk w1 w.heap.size 96 (stepCells 4 who tv lv N eA en ec hA hn hc) := by rw [← hw1]; exact Blk.new _ _ _
  have hb1 : Below w.heap.size w w1 := by rw [← hw1]; exact (Below.refl _ _).alloc (Nat.le_refl _) _
  have hxM : ¬ MfM f r w.heap.size := fun h => by
    rcases h with h | h
    · have := hf.lt h; omega
    · have := hr.lt h; omega
  have hK1 : KB (MfM f r) w w1 := KB.of_below hb1
  have hF1 := hf.step hb1
  have hR1 := hr.step hb1
  have hE1 := hE.step hb1
  have hH1 := hH.step hb1
  have hbg : w.heap.size < w1.heap.size := kx.lt
  have c0 : w1.cell? ⟨w.heap.size, 0, none⟩ = some (.int .i64 4) := by rw [kx.cell]; rfl
  have c5 : w1.cell? ⟨w.heap.size, 5, none⟩ = some (.slice eA en ec) := by rw [kx.cell]; rfl
  have c6 : w1.cell? ⟨w.heap.size, 6, none⟩ = some (.slice hA hn hc) := by rw [kx.cell]; rfl
  have Hw1 := Lib.hid hw1
  have Hfr := Lib.hid hf
  have Hrr := Lib.hid hr
  clear hw1 hb1 hf hr hE hH
  go_enter Try.func58, Try.ntmps58
  clear hE1 hH1
  go_wp2_with (first | rw [Hw1.out] | (go_at_call 54; refine (tells_any f r o w1 hF1 hR1).mono ?_; rintro e w3 ⟨rfl, hb3⟩))
  go_ret
  exact ⟨rfl, hF1.step hb3, hR1.step hb3, hK1.trans (KB.of_below hb3)⟩
set_option maxHeartbeats 8000000 in
set_option maxRecDepth 100000 in
theorem comes5_any (f r : Value) (o : Option FrV) (who tv lv N : Int) (es hs : List (List UInt8)) (eA : Option Addr) (en ec : Nat) (hA : Option Addr) (hn hc : Nat) (w : World) (hf : HasO w f o) (hr : HasR w r o)
    (hE : Es w (fun b => ¬ MfM f r b) eA en ec es) (hH : Hs w (fun _ => True) hA hn hc hs) :
    Calls Try.prog 58 #[f, r, .agg (stepCells 5 who tv lv N eA en ec hA hn hc)] w fun e w' => e = .returned (.bool true) ∧ HasO w' f o ∧ HasR w' r o ∧ KB (MfM f r) w w' := by
  have hroomE := hE.room
  have hmxE := hE.max
  unfold maxLen at hmxE
  have hroomH := hH.sl.room
  have hmxH := hH.sl.max
  unfold maxLen at hmxH
  obtain ⟨w1, hw1⟩ : ∃ x, w.alloc (.cells (stepCells 5 who tv lv N eA en ec hA hn hc) 96) = x := ⟨_, rfl⟩
  have kx : Blk w1 w.heap.size 96 (stepCells 5 who tv lv N eA en ec hA hn hc) := by rw [← hw1]; exact Blk.new _ _ _
  have hb1 : Below w.heap.size w w1 := by rw [← hw1]; exact (Below.refl _ _).alloc (Nat.le_refl _) _
  have hxM : ¬ MfM f r w.heap.size := fun h => by
    rcases h with h | h
    · have := hf.lt h; omega
    · have := hr.lt h; omega
  have hK1 : KB (MfM f r) w w1 := KB.of_below hb1
  have hF1 := hf.step hb1
  have hR1 := hr.step hb1
  have hE1 := hE.step hb1
  have hH1 := hH.step hb1
  have hbg : w.heap.size < w1.heap.size := kx.lt
  have c0 : w1.cell? ⟨w.heap.size, 0, none⟩ = some (.int .i64 5) := by rw [kx.cell]; rfl
  have c5 : w1.cell? ⟨w.heap.size, 5, none⟩ = some (.slice eA en ec) := by rw [kx.cell]; rfl
  have c6 : w1.cell? ⟨w.heap.size, 6, none⟩ = some (.slice hA hn hc) := by rw [kx.cell]; rfl
  have Hw1 := Lib.hid hw1
  have Hfr := Lib.hid hf
  have Hrr := Lib.hid hr
  clear hw1 hb1 hf hr hE hH
  go_enter Try.func58, Try.ntmps58
  have c4 : w1.cell? ⟨w.heap.size, 4, none⟩ = some (.int .i64 N) := by rw [kx.cell]; rfl
  clear hE1 hH1
  go_wp2_with (first | rw [Hw1.out] | (go_at_call 59; refine (goes_any f r o N w1 hF1 hR1).mono ?_; rintro e w3 ⟨rfl, hb3⟩))
  go_ret
  exact ⟨rfl, hF1.step hb3, hR1.step hb3, hK1.trans (KB.of_below hb3)⟩
set_option maxHeartbeats 8000000 in
set_option maxRecDepth 100000 in
theorem comes0_any (f r : Value) (o : Option FrV) (kd who tv lv N : Int) (es hs : List (List UInt8)) (eA : Option Addr) (en ec : Nat) (hA : Option Addr) (hn hc : Nat) (w : World) (hf : HasO w f o) (hr : HasR w r o)
    (hE : Es w (fun b => ¬ MfM f r b) eA en ec es) (hH : Hs w (fun _ => True) hA hn hc hs) (h1 : kd ≠ 1) (h2 : kd ≠ 2) (h3 : kd ≠ 3) (h4 : kd ≠ 4) (h5 : kd ≠ 5) :
    Calls Try.prog 58 #[f, r, .agg (stepCells kd who tv lv N eA en ec hA hn hc)] w fun e w' => e = .returned (.bool true) ∧ HasO w' f o ∧ HasR w' r o ∧ KB (MfM f r) w w' := by
  have hroomE := hE.room
  have hmxE := hE.max
  unfold maxLen at hmxE
  have hroomH := hH.sl.room
  have hmxH := hH.sl.max
  unfold maxLen at hmxH
  obtain ⟨w1, hw1⟩ : ∃ x, w.alloc (.cells (stepCells kd who tv lv N eA en ec hA hn hc) 96) = x := ⟨_, rfl⟩
  have kx : Blk w1 w.heap.size 96 (stepCells kd who tv lv N eA en ec hA hn hc) := by rw [← hw1]; exact Blk.new _ _ _
  have hb1 : Below w.heap.size w w1 := by rw [← hw1]; exact (Below.refl _ _).alloc (Nat.le_refl _) _
  have hxM : ¬ MfM f r w.heap.size := fun h => by
    rcases h with h | h
    · have := hf.lt h; omega
    · have := hr.lt h; omega
  have hK1 : KB (MfM f r) w w1 := KB.of_below hb1
  have hF1 := hf.step hb1
  have hR1 := hr.step hb1
  have hE1 := hE.step hb1
  have hH1 := hH.step hb1
  have hbg : w.heap.size < w1.heap.size := kx.lt
  have c0 : w1.cell? ⟨w.heap.size, 0, none⟩ = some (.int .i64 kd) := by rw [kx.cell]; rfl
  have c5 : w1.cell? ⟨w.heap.size, 5, none⟩ = some (.slice eA en ec) := by rw [kx.cell]; rfl
  have c6 : w1.cell? ⟨w.heap.size, 6, none⟩ = some (.slice hA hn hc) := by rw [kx.cell]; rfl
  have Hw1 := Lib.hid hw1
  have Hfr := Lib.hid hf
  have Hrr := Lib.hid hr
  clear hw1 hb1 hf hr hE hH
  have d1 : (kd == 1) = false := by simpa using h1
  have d2 : (kd == 2) = false := by simpa using h2
  have d3 : (kd == 3) = false := by simpa using h3
  have d4 : (kd == 4) = false := by simpa using h4
  have d5 : (kd == 5) = false := by simpa using h5
  clear hE1 hH1 h1 h2 h3 h4 h5
  go_enter Try.func58, Try.ntmps58
  go_wp2_with (rw [Hw1.out])
  go_ret
  exact ⟨rfl, hF1, hR1, hK1⟩
theorem comes_any (f r : Value) (o : Option FrV) (kd who tv lv N : Int) (es hs : List (List UInt8)) (eA : Option Addr) (en ec : Nat) (hA : Option Addr) (hn hc : Nat) (w : World) (hf : HasO w f o) (hr : HasR w r o) (hne : ∀ b, AtB f b → ¬ AtB r b)
    (hE : Es w (fun b => ¬ MfM f r b) eA en ec es) (hH : Hs w (fun _ => True) hA hn hc hs) (hen : en ≤ 2097152) (hhn : hn ≤ 1000000000) (hm : ∀ x ∈ es, x.length ≤ 1073741824) :
    Calls Try.prog 58 #[f, r, .agg (stepCells kd who tv lv N eA en ec hA hn hc)] w fun e w' => e = .returned (.bool true) ∧ HasO w' f (o.map (stepE kd lv es hs)) ∧ HasR w' r (o.map (stepE kd lv es hs)) ∧ KB (MfM f r) w w' := by
  by_cases h1 : kd = 1
  · subst h1
    exact comes1_any f r o who tv lv N es hs eA en ec hA hn hc w hf hr hne hE hH hen hm
  by_cases h2 : kd = 2
  · subst h2
    exact comes2_any f r o who tv lv N es hs eA en ec hA hn hc w hf hr hne hE hH hhn
  by_cases h3 : kd = 3
  · subst h3
    exact comes3_any f r o who tv lv N es hs eA en ec hA hn hc w hf hr hne hE hH hhn
  have hid : o.map (stepE kd lv es hs) = o := by
    have : stepE kd lv es hs = id := by
      funext ps
      unfold stepE
      rw [if_neg h1, if_neg h2, if_neg h3]
      rfl
    rw [this, Option.map_id, id]
  rw [hid]
  by_cases h4 : kd = 4
  · subst h4
    exact comes4_any f r o who tv lv N es hs eA en ec hA hn hc w hf hr hE hH
  by_cases h5 : kd = 5
  · subst h5
    exact comes5_any f r o who tv lv N es hs eA en ec hA hn hc w hf hr hE hH
  exact comes0_any f r o kd who tv lv N es hs eA en ec hA hn hc w hf hr hE hH h1 h2 h3 h4 h5
end Go.Proofs.Ytonidnfgneokbaa
/- For laws whose loops over All let entries come: variables of one cell; what a turn of the loop keeps. -/
namespace Go.Proofs.Ytonidnfgneokbaa
open Go Go.RowKit Go.Shelf
attribute [local go_sem] Oper.semAt_some

theorem one_cells {v : Value} (hv : v.oneCell' = true) : v.cells = #[v] := by cases v <;> first | rfl | cases hv
theorem storeAt_one (ty : TypeId) (p v : Value) (hv : v.oneCell' = true) : Instr.storeAt ty p v = Instr.storeAt ty p (.agg #[v]) := by
  unfold Instr.storeAt storeVar
  rw [one_cells hv]
  rfl
section
variable {P : Program} {w : World} {ops : Array Oper} {rest : List Oper} {o o1 o2 : Oper} {a : Act} {Q : Exit → Act → World → Prop}
theorem wpList_put1 (hgd : o.guard = none) (ty : TypeId) (x y : Operand) (ho : o.op = .store ty x y) (hsz : ∀ w : World, (sizeOf ty).run P w = .ok 1 w) (g : Nat) (v : Value) (hx : a.eval x = .pointer (some ⟨g, 0, none⟩)) (hy : a.eval y = v) (hv : v.oneCell' = true)
    (t : TypeId) (v0 : Value) (hg : Blk w g t #[v0]) (h : ∀ W, w.setRow g #[v] = W → Blk W g t #[v] → Below g w W → wpList P ops Q rest (a.put o.dst undef) W) : wpList P ops Q (o :: rest) a w :=
  wpList_plain hgd fun _ hK => by
    unfold Oper.wp execOp
    simp only [ho, hx, hy]
    rw [storeAt_one ty _ v hv]
    simp only [run_store_blk (P := P) (hsz w) g #[v] #[v0] rfl (fun u hu => by simp at hu; subst hu; exact hv) hg rfl, Sem.run_bind, Sem.run_pure, Result.andThen_ok, Oper.upon]
    exact hK _ _ (h _ rfl (hg.setRow_ _) (below_setRow (Below.refl _ _) (Nat.le_refl _) _))
/-- a variable of one cell is made and filled -/
theorem wpList_var1 {T : TypeId} {z v : Value} (x y : Operand) (hg1 : o1.guard = none) (hg2 : o2.guard = none) (hz : (execOp a.eval o1).run P w = .ok (.value (.pointer (some ⟨w.heap.size, 0, none⟩))) (w.alloc (.cells #[z] T))) (hsz : ∀ w : World, (sizeOf T).run P w = .ok 1 w) (ho2 : o2.op = .store T x y)
    (hx : (a.put o1.dst (.pointer (some ⟨w.heap.size, 0, none⟩))).eval x = .pointer (some ⟨w.heap.size, 0, none⟩)) (hy : (a.put o1.dst (.pointer (some ⟨w.heap.size, 0, none⟩))).eval y = v) (hv : v.oneCell' = true)
    (h : ∀ W, Blk W w.heap.size T #[v] → Below w.heap.size w W → wpList P ops Q rest ((a.put o1.dst (.pointer (some ⟨w.heap.size, 0, none⟩))).put o2.dst undef) W) : wpList P ops Q (o1 :: o2 :: rest) a w := by
  refine wpList_run hg1 (.pointer (some ⟨w.heap.size, 0, none⟩)) (w.alloc (.cells #[z] T)) hz ?_
  refine wpList_put1 hg2 T x y ho2 hsz w.heap.size v hx hy hv T z (Blk.new w T #[z]) fun W hW hb hB => ?_
  exact h W hb (((Below.refl w.heap.size w).alloc (Nat.le_refl _) _).trans hB)
end
theorem sizePF : ∀ w : World, (sizeOf 61).run Try.prog w = .ok 1 w := fun _ => by kernel_rfl
theorem sizePR : ∀ w : World, (sizeOf 79).run Try.prog w = .ok 1 w := fun _ => by kernel_rfl
theorem sizeInt : ∀ w : World, (sizeOf 3).run Try.prog w = .ok 1 w := fun _ => by kernel_rfl
theorem sizeBool : ∀ w : World, (sizeOf 4).run Try.prog w = .ok 1 w := fun _ => by kernel_rfl
/-- a block that is no cells turns: all cells lie as they lay -/
theorem keepC_of_grown {W W' : World} {row : Option Nat} (h : W.grownBy W' row) (hr : ∀ r, row = some r → ∃ o : Obj, W.heap[r]? = some o ∧ o.isCells = false) : KeepC (fun _ => False) W W' :=
  ⟨h.os, h.tape, h.output, h.size, fun k o hk hc _ => (h.block k (Array.getElem?_eq_some_iff.1 hk).1 (fun e => by
    obtain ⟨o', ho, hc'⟩ := hr k e.symm
    rw [hk] at ho; cases ho; rw [hc] at hc'; cases hc')).trans hk⟩
theorem KeepC.pcs {W W' : World} {X : Nat → Prop} {A : Option Addr} {n c : Nat} {ps : List PcV} (h : KeepC (fun _ => False) W W') (hs : Pcs W X A n c ps) : Pcs W' X A n c ps := ⟨h.slv hs.sl fun _ _ _ e => e, hs.len, hs.all⟩
theorem HasO.keepC {W W' : World} {v : Value} {o : Option FrV} (h : HasO W v o) (k : KeepC (fun _ => False) W W') : HasO W' v o := by
  rcases h with h | ⟨g, ps, h1, h2, ⟨A, n, c, h5, h6⟩, h4⟩
  · exact .inl h
  · exact .inr ⟨g, ps, h1, h2, ⟨A, n, c, k.blk h5 (fun e => e), k.pcs h6⟩, h4⟩
theorem HasR.keepC {W W' : World} {v : Value} {o : Option FrV} (h : HasR W v o) (k : KeepC (fun _ => False) W W') : HasR W' v o := by
  rcases h with h | ⟨g, ps, h1, h2, ⟨A, n, c, h5, h6⟩, h4⟩
  · exact .inl h
  · exact .inr ⟨g, ps, h1, h2, ⟨A, n, c, k.blk h5 (fun e => e), k.pcs h6⟩, h4⟩
theorem KB.own_grown {M : Nat → Prop} {w W W' : World} {row : Option Nat} (h : KB M w W) (hg : W.grownBy W' row) (hr : ∀ r, row = some r → w.heap.size ≤ r) : KB M w W' :=
  ⟨hg.os.trans h.os, hg.tape.trans h.tape, hg.output.trans h.output, Nat.le_trans h.size hg.size, fun k hk hm => (hg.block k (Nat.lt_of_lt_of_le hk h.size) (fun e => by have := hr k e.symm; omega)).trans (h.block k hk hm)⟩
/-- two fronts that hold the same -/
structure Pair (W : World) (f r : Value) : Prop where
  ex : ∃ qs, HasO W f (some qs) ∧ HasR W r (some qs)
/-- between two turns of a loop over All in which entries come: n lies in g11 -/
structure MwI (w0 : World) (g11 : Nat) (f r : Value) (k : Nat) (W : World) : Prop where
  b11 : Blk W g11 3 #[.int .i64 (k : Int)]
  pr : Pair W f r
  kb : KB (fun b => b = g11 ∨ MfM f r b) w0 W
section
variable {w0 W W' : World} {g11 k B : Nat} {f r : Value}
theorem MwI.own (hB : g11 < B) (hz : w0.heap.size ≤ B) : OwnFrom B (fun k W => MwI w0 g11 f r k W) := fun k X Y row h hg hr => by
  obtain ⟨qs, h1, h2⟩ := h.pr.ex
  have hk := keepC_of_grown hg fun r e => (hr r e).2
  exact ⟨h.b11.grown hg (fun e => by have := (hr _ e.symm).1; omega), ⟨qs, h1.keepC hk, h2.keepC hk⟩, h.kb.own_grown hg fun r e => Nat.le_trans hz (hr r e).1⟩
theorem MwI.step (h : MwI w0 g11 f r k W) (hb : Below W.heap.size W W') : MwI w0 g11 f r k W' :=
  let ⟨qs, h1, h2⟩ := h.pr.ex
  ⟨h.b11.step hb, ⟨qs, h1.step hb, h2.step hb⟩, h.kb.trans (KB.of_below hb)⟩
end
theorem run_slice_bothBs {ρ : Operand → Value} {o : Oper} (x y z : Operand) (ho : o.op = .slice 22 x (some y) (some z) none) (A : Option Addr) (n c a b : Nat) (hx : ρ x = .slice A n c) (hy : ρ y = .int .i64 (a : Int)) (hz : ρ z = .int .i64 (b : Int)) (hab : a ≤ b) (hb : b ≤ c) (W : World) :
    (execOp ρ o).run Try.prog W = .ok (.value (.slice (if c = a then A else A.map (·.add (a * 1))) (b - a) (c - a))) W := by
  unfold execOp
  simp only [ho, hx, hy, hz, Option.map_some, Option.map_none]
  simp only [run_sliceAt_slice W 22 _ _ _ _ sliceBs, run_slice_lh W 22 A n c sliceBs .i64 .i64 (a : Int) (b : Int) (by omega) (by omega) (by omega), sizeBs, Sem.run_bind, Sem.run_pure, Result.andThen_ok, sliced, Int.toNat_natCast]
end Go.Proofs.Ytonidnfgneokbaa
