/- What incl.way hands out: a function that goes up from a leaf. -/
import Derived.Test.YtobcfgbkhgkelaaQe124
import Derived.Test.YtobcfgbkhgkelaaQe129
import Derived.Test.YtobcfgbkhgkelaaQe130
namespace Go.Proofs.Ytobcfgbkhgkelaa
open Go Go.RowKit

/-- all but the blocks of U lies as it lay -/
structure KeepX (U : Nat → Prop) (W W' : World) : Prop where
  os : W'.os = W.os
  tape : W'.tape = W.tape
  output : W'.output = W.output
  size : W.heap.size ≤ W'.heap.size
  block : ∀ k, k < W.heap.size → ¬ U k → W'.heap[k]? = W.heap[k]?
section
variable {U V : Nat → Prop} {W W' W2 : World} {g : Nat} {t : TypeId} {cs : Array Value}
theorem KeepX.refl (U : Nat → Prop) (W : World) : KeepX U W W := ⟨rfl, rfl, rfl, Nat.le_refl _, fun _ _ _ => rfl⟩
theorem KeepX.trans (h : KeepX U W W') (k : KeepX V W' W2) (hV : ∀ k, k < W.heap.size → V k → U k) : KeepX U W W2 :=
  ⟨k.os.trans h.os, k.tape.trans h.tape, k.output.trans h.output, Nat.le_trans h.size k.size, fun i hi hu => (k.block i (Nat.lt_of_lt_of_le hi h.size) (fun hv => hu (hV i hi hv))).trans (h.block i hi hu)⟩
theorem KeepX.below (h : Below W.heap.size W W') : KeepX U W W' := ⟨h.os, h.tape, h.output, h.size, fun k hk _ => h.block k hk⟩
theorem KeepX.grown {row : Option Nat} (h : W.grownBy W' row) (hU : ∀ r, row = some r → r < W.heap.size → U r) : KeepX U W W' := ⟨h.os, h.tape, h.output, h.size, fun k hk hu => h.block k hk (fun e => hu (hU k e.symm hk))⟩
theorem KeepX.blk (h : KeepX U W W') (hb : Blk W g t cs) (hu : ¬ U g) : Blk W' g t cs := (h.block g hb.lt hu).trans hb
theorem KeepX.hv {l : List UInt8} (h : KeepX U W W') (hb : HV W g l) (hu : ¬ U g) : HV W' g l := ⟨h.blk hb.blk hu, hb.len⟩
theorem KeepX.sv {T : TypeId} {s : StepV} (h : KeepX U W W') (hb : SV T W g s) (hu : ¬ U g) : SV T W' g s := ⟨h.blk hb.blk hu, hb.len⟩
theorem KeepX.hs {X : Nat → Prop} {A : Option Addr} {n c : Nat} {hs : List (List UInt8)} (h : KeepX U W W') (k : Hs W X A n c hs) (hX : ∀ b, b < W.heap.size → X b → ¬ U b) : Hs W' X A n c hs :=
  ⟨k.sl.keep h.size fun p hp hx => World.cell?_of_block (h.block p.block hp (hX _ hp hx)), k.len, k.all⟩
theorem KeepX.row {b e s : Nat} {v : Value} {n : Nat} {xs : List Value} (h : KeepX U W W') (k : W.ownsRow b e s v n xs) (hu : ∀ r, v.ownBlock = some r → ¬ U r) : W'.ownsRow b e s v n xs := by
  refine ⟨k.1, ?_⟩
  rcases k.2 with hn | ⟨g, cap, cur, rfl, hb, hg, r⟩
  · exact .inl hn
  · exact .inr ⟨g, cap, cur, rfl, hb, (h.block g (Array.getElem?_eq_some_iff.1 hg).1 (hu g rfl)).trans hg, r⟩
theorem KeepX.bel {N : Nat} {w : World} (h : KeepX U W W') (hb : Below N w W) (hN : N ≤ W.heap.size) (hU : ∀ k, U k → N ≤ k) : Below N w W' :=
  hb.trans ⟨h.os, h.tape, h.output, h.size, fun k hk => h.block k (Nat.lt_of_lt_of_le hk hN) (fun hu => by have := hU k hu; omega)⟩
end
theorem results_st {fn : Func} {p : Tmp} {T S : TypeId} (hT : StepT T S) (h : fn.results = #[.cell p T]) (tmps : Array Value) (w : World) (g : Nat) (s : StepV) (hp : tmps.getD p undef = .pointer (some ⟨g, 0, none⟩)) (hx : SV T w g s) :
    (results fn tmps).run Try.prog w = .ok (.agg (scell s).toArray) w := by
  have hl := hx.load hT
  rw [Instr.loadAt] at hl
  simp only [Instr.sureAddr, Sem.run_bind, Sem.run_pure, Result.andThen_ok] at hl
  have hp' : tmps[p]?.getD undef = .pointer (some ⟨g, 0, none⟩) := by simpa using hp
  simp only [results, h]
  simp [hp', asAddr, hl]

/-- the boxes that up is handed, the steps so far -/
structure UpC (leaf : List UInt8) (i : Nat) (p : List (List UInt8)) (A : Option Addr) (np c g4 g5 g7 g12 g13 base : Nat) (v : Value) (q : List StepV) (W : World) : Prop where
  b4 : HV W g4 leaf
  b5 : Blk W g5 2 #[.int .i64 (i : Int)]
  b7 : Blk W g7 33 #[.slice A np c]
  b12 : Blk W g12 127 #[v]
  b13 : Blk W g13 155 #[.func (.func 101) #[] #[.pointer (some ⟨g4, 0, none⟩), .pointer (some ⟨g5, 0, none⟩), .pointer (some ⟨g13, 0, none⟩), .pointer (some ⟨g7, 0, none⟩), .pointer (some ⟨g12, 0, none⟩)]]
  h : Hs W (· < base) A np c p
  own : W.ownsRow base 131 34 v q.length (scells q)
  l4 : g4 < base
  l5 : g5 < base
  l7 : g7 < base
  l12 : base ≤ g12
  l13 : base ≤ g13
  n : g13 ≠ g12
  ne : ∀ r, v.ownBlock = some r → r ≠ g12 ∧ r ≠ g13
section
variable {leaf : List UInt8} {i : Nat} {p : List (List UInt8)} {A : Option Addr} {np c g4 g5 g7 g12 g13 base : Nat} {v : Value} {q : List StepV} {W W' : World}
theorem UpC.keep {U : Nat → Prop} (h : UpC leaf i p A np c g4 g5 g7 g12 g13 base v q W) (k : KeepX U W W') (h4 : ∀ b, b < base → ¬ U b) (h12 : ¬ U g12) (h13 : ¬ U g13) (hv : ∀ r, v.ownBlock = some r → ¬ U r) : UpC leaf i p A np c g4 g5 g7 g12 g13 base v q W' :=
  ⟨k.hv h.b4 (h4 _ h.l4), k.blk h.b5 (h4 _ h.l5), k.blk h.b7 (h4 _ h.l7), k.blk h.b12 h12, k.blk h.b13 h13, k.hs h.h (fun b _ hb => h4 b hb), k.row h.own hv, h.l4, h.l5, h.l7, h.l12, h.l13, h.n, h.ne⟩
theorem UpC.step (h : UpC leaf i p A np c g4 g5 g7 g12 g13 base v q W) (hb : Below W.heap.size W W') : UpC leaf i p A np c g4 g5 g7 g12 g13 base v q W' :=
  h.keep (KeepX.below (U := fun _ => False) hb) (fun _ _ e => e) (fun e => e) (fun e => e) (fun _ _ e => e)
/-- a block of the caller's own is written -/
theorem UpC.far (h : UpC leaf i p A np c g4 g5 g7 g12 g13 base v q W) {g : Nat} (hg : W.grownBy W' (some g)) (h1 : base ≤ g) (h2 : g ≠ g12) (h3 : g ≠ g13) (h4 : v.ownBlock ≠ some g) : UpC leaf i p A np c g4 g5 g7 g12 g13 base v q W' :=
  h.keep (KeepX.grown (U := (· = g)) hg (fun r e _ => (Option.some.inj e).symm)) (fun b hb e => by have e : b = g := e; omega) (fun e => h2 e.symm) (fun e => h3 e.symm) (fun r hr e => h4 (by rw [hr]; exact congrArg some e))
end

set_option maxHeartbeats 8000000 in
set_option maxRecDepth 100000 in
theorem up_rec (leaf : List UInt8) (i : Nat) (p : List (List UInt8)) (A : Option Addr) (np c g4 g5 g7 g12 g13 base : Nat) (hlf : leaf.length = 32) (d : Nat) : ∀ (a b : Nat) (v0 : Value) (w : World), b - a ≤ d → a ≤ i → i < b → b ≤ 9223372036854775807 → (pathL i a b).length ≤ np → UpC leaf i p A np c g4 g5 g7 g12 g13 base v0 [] w →
    Calls Try.prog 101 #[.int .i64 (a : Int), .int .i64 (b : Int), .pointer (some ⟨g4, 0, none⟩), .pointer (some ⟨g5, 0, none⟩), .pointer (some ⟨g13, 0, none⟩), .pointer (some ⟨g7, 0, none⟩), .pointer (some ⟨g12, 0, none⟩)] w fun e w' =>
      e = .returned (.agg (scell ((a, b), lastH (upL leaf i a b (p.take (pathL i a b).length)))).toArray) ∧ ∃ v', UpC leaf i p A np c g4 g5 g7 g12 g13 base v' (upL leaf i a b (p.take (pathL i a b).length)) w' ∧ KeepX (fun k => k = g12 ∨ v0.ownBlock = some k) w w' ∧
        (v'.ownBlock = v0.ownBlock ∨ ∃ r, v'.ownBlock = some r ∧ w.heap.size ≤ r) := by
  induction d with
  | zero => intro a b v0 w h h1 h2; omega
  | succ d ih =>
    intro a b v0 w hd h1 h2 hb hnp h
    have hlp : (pathL i a b).length ≤ 63 := pathL_len 63 i a b (by omega)
    have hplen := h.h.len
    have hp32 := h.h.all
    have hroom := h.h.sl.room
    have hmx := h.h.sl.max
    unfold maxLen at hmx
    have hw1 : IntKind.i64.wrap ((b : Int) - (a : Int)) = (b : Int) - a := IntWalk.i64_in _ (by omega)
    have hsp := fun W => tsplit_any ((b : Int) - a) W (by omega)
    rw [show ((b : Int) - a).toNat = b - a by omega] at hsp
    have hsl := splitN_le (b - a)
    have hg12 := h.b12.lt
    have hg13 := h.b13.lt
    have hl12 := h.l12
    have hl13 := h.l13
    have hvr := fun r (e : v0.ownBlock = some r) => (h.own.lt r e).2
    have Hlf := Lib.hid hlf
    have Hplen := Lib.hid hplen
    have Hp32 := Lib.hid hp32
    have Hvr := Lib.hid hvr
    clear hlf hplen hp32 hvr
    by_cases hs : b - a < 2
    · rw [upL_small leaf i a b _ hs, show lastH [((a, b), leaf)] = leaf from rfl]
      have hk0 := splitN_small (b - a) hs
      rw [hk0] at hsp
      have hw2 : IntKind.i64.wrap ((a : Int) + ((0 : Nat) : Int)) = (a : Int) := by rw [IntWalk.i64_in _ (by omega)]; omega
      have hd1 : decide ((1 : Int) < (b : Int) - (a : Int)) = false := by simp; omega
      have Hsp := Lib.hid hsp
      clear hsp ih hk0 hnp hlp hsl
      go_enter Try.func101, Try.ntmps101
      go_wp2_with (first
        | ((with_reducible show wpList _ _ _ (⟨some 9, .alloc _, _, _, _, _⟩ :: _) _ _); refine wpList_snew stepT1 rfl rfl ?_; intro W1 k9 hb1; simp only [Act.put]; have hC := h.step hb1; clear h; have hs1 := hb1.size; have hl9 := k9.lt)
        | ((with_reducible show wpList _ _ _ (⟨some 17, .load _ _, _, _, _, _⟩ :: _) _ _); refine wpList_hload (.tmp 2) (by kernel_rfl) rfl hC.b4 rfl ?_; simp only [Act.put])
        | ((with_reducible show wpList _ _ _ (⟨some 18, .build _ _, _, _, _, _⟩ :: _) _ _); refine wpList_run0 rfl (.agg (scell ((a, b), leaf)).toArray) (run_build_st stepT1 (.tmp 16) (.tmp 17) a b leaf Hlf.out rfl rfl rfl _) ?_; simp only [Act.put])
        | ((with_reducible show wpList _ _ _ (⟨some 10, .alloc _, _, _, _, _⟩ :: _) _ _); refine wpList_svar (s := ((a, b), leaf)) stepT1 (.tmp 10) (.tmp 18) rfl rfl rfl rfl rfl rfl Hlf.out ?_; intro W2 k10 hb2; simp only [Act.put]; have hC2 := hC.step hb2; have k92 := k9.step hb2; have hs2 := hb2.size; have hK : KeepX (fun k => k = g12 ∨ v0.ownBlock = some k) w W2 := (KeepX.below hb1).trans (KeepX.below (U := fun _ => False) hb2) (fun _ _ e => e.elim); clear hC k9; have hC := hC2; have k9 := k92; clear hC2 k92 hb1 hb2))
      refine (Hsp.out _).mono ?_
      rintro e _ ⟨rfl, rfl⟩
      have hq6 : ([] : List StepV).length ≤ 1000000 := by simp
      have n9 : ∀ r, v0.ownBlock = some r → w.heap.size ≠ r := fun r e e2 => by have := Hvr.out r e; omega
      have n10 : ∀ r, v0.ownBlock = some r → W1.heap.size ≠ r := fun r e e2 => by have := Hvr.out r e; omega
      have m9 : w.heap.size ≠ g12 := by omega
      have m10 : W1.heap.size ≠ g12 := by omega
      have hv0 : ∀ k, k < w.heap.size → v0.ownBlock = some k → k = g12 ∨ v0.ownBlock = some k := fun k _ e => .inr e
      go_upto_region 9 with fail
      have hvw : v0.ownBlock = v0.ownBlock ∨ ∃ r, v0.ownBlock = some r ∧ w.heap.size ≤ r := .inl rfl
      obtain ⟨q0, hq0⟩ : ∃ q : List StepV, [] = q := ⟨_, rfl⟩
      rw [hq0] at hC hq6
      have Hq0 := Lib.hid hq0
      clear hq0
      obtain ⟨v', W8, hr8, ho8, hg8, hb8⟩ := append_st stepT1 hC.own ((a, b), leaf) Hlf.out hq6 (by have := hC.b12.lt; have := hC.l12; omega)
      obtain ⟨r8, c8, rfl⟩ := owns_some ho8 (by omega)
      have c12 : W2.cell? ⟨g12, 0, none⟩ = some v0 := by rw [hC.b12.cell]; rfl
      have kb12 : Blk W8 g12 127 #[v0] := hC.b12.grown hg8 (fun e => (hC.ne g12 e.symm).1 rfl)
      have f12 := kb12.frozen 0
      have c128 : W8.cell? ⟨g12, 0, none⟩ = some v0 := by rw [kb12.cell]; rfl
      have kk : KeepX (fun k => v0.ownBlock = some k) W2 W8 := KeepX.grown hg8 (fun r e _ => e)
      have k98 := kk.sv k9 (fun e => n9 _ e rfl)
      have k108 := kk.sv k10 (fun e => n10 _ e rfl)
      have kc8 : KeepX (fun k => k = g12) W8 (W8.setCell ⟨g12, 0, none⟩ (.slice (some ⟨r8, 0, none⟩) (q0.length + 1) c8)) := KeepX.grown (grownBy_setCell' W8 g12 _) (fun r e _ => (Option.some.inj e).symm)
      have hne8 : r8 ≠ g12 ∧ r8 ≠ g13 ∧ base ≤ r8 := by
        have hb := (ho8.lt r8 rfl).1
        rcases hb8 with e | ⟨k, e, hk⟩
        · have := hC.ne r8 (by rw [← e]; rfl)
          exact ⟨this.1, this.2, hb⟩
        · have e : r8 = k := Option.some.inj e
          have h1 := hC.b12.lt
          have h2 := hC.b13.lt
          exact ⟨by omega, by omega, hb⟩
      have hC8 : UpC leaf i p A np c g4 g5 g7 g12 g13 base (.slice (some ⟨r8, 0, none⟩) (q0.length + 1) c8) (q0 ++ [((a, b), leaf)]) (W8.setCell ⟨g12, 0, none⟩ (.slice (some ⟨r8, 0, none⟩) (q0.length + 1) c8)) :=
        ⟨kc8.hv (kk.hv hC.b4 (fun e => by have := (hC.own.lt _ e).1; have := hC.l4; omega)) (by have := hC.l4; have := hC.l12; omega),
         kc8.blk (kk.blk hC.b5 (fun e => by have := (hC.own.lt _ e).1; have := hC.l5; omega)) (by have := hC.l5; have := hC.l12; omega),
         kc8.blk (kk.blk hC.b7 (fun e => by have := (hC.own.lt _ e).1; have := hC.l7; omega)) (by have := hC.l7; have := hC.l12; omega),
         kb12.set_ 0 _, kc8.blk (kk.blk hC.b13 (fun e => (hC.ne _ e).2 rfl)) hC.n,
         kc8.hs (kk.hs hC.h (fun b _ hb e => by have := (hC.own.lt _ e).1; have hb : b < base := hb; omega)) (fun b _ hb e => by have hb : b < base := hb; have := hC.l12; omega),
         by rw [List.length_append]; exact kc8.row ho8 (fun r e => by have e : r8 = r := Option.some.inj e; subst e; exact hne8.1),
         hC.l4, hC.l5, hC.l7, hC.l12, hC.l13, hC.n, fun r e => by have e : r8 = r := Option.some.inj e; subst e; exact ⟨hne8.1, hne8.2.1⟩⟩
      have k99 := kc8.sv k98 (fun e => m9 e)
      have k109 := kc8.sv k108 (fun e => m10 e)
      have hK8 : KeepX (fun k => k = g12 ∨ v0.ownBlock = some k) w (W8.setCell ⟨g12, 0, none⟩ (.slice (some ⟨r8, 0, none⟩) (q0.length + 1) c8)) := (hK.trans kk (fun k hk e => hv0 k hk e)).trans kc8 (fun k _ e => .inl e)
      have hfin : (Value.slice (some ⟨r8, 0, none⟩) (q0.length + 1) c8).ownBlock = v0.ownBlock ∨ ∃ r, (Value.slice (some ⟨r8, 0, none⟩) (q0.length + 1) c8).ownBlock = some r ∧ w.heap.size ≤ r := by
        rcases hb8 with e | ⟨k, e, hk⟩
        · rw [e]; exact hvw
        · exact .inr ⟨k, e, by omega⟩
      have n98 : r8 ≠ w.heap.size := by
        intro e
        rcases hb8 with e2 | ⟨k, e2, hk⟩
        · exact n9 r8 (by rw [← e2]; rfl) e.symm
        · have e2 : r8 = k := Option.some.inj e2
          have := k9.lt
          omega
      have Hr8 := Lib.hid hr8
      have Hne8 := Lib.hid hne8
      have HC8 := Lib.hid hC8
      have HK8 := Lib.hid hK8
      have Hfin := Lib.hid hfin
      clear hr8 hne8 hC8 hK8 hfin ho8 hg8 hb8 hC kk kc8 k98 k108 hK hv0 hvw
      go_wp2_with (first
        | ((with_reducible show wpList _ _ _ (⟨some 61, .load _ _, _, _, _, _⟩ :: _) _ _); refine wpList_runG (by kernel_rfl) _ _ (run_load_op 131 (.tmp 10) rfl _ 0 rfl _ (k10.load stepT1)) ?_; simp only [Act.put])
        | ((with_reducible show wpList _ _ _ (⟨some 62, .buildSlice _ _ _, _, _, _, _⟩ :: _) _ _); refine wpList_run rfl _ _ (run_litS_op stepT1 ((a, b), leaf) Hlf.out (.tmp 61) rfl rfl _) ?_; simp only [Act.put])
        | ((with_reducible show wpList _ _ _ (⟨some 63, .call _, _, _, _, _⟩ :: _) _ _); refine wpList_run rfl _ W8 (run_append_op (.tmp 60) (.tmp 62) 127 rfl _ _ rfl rfl Hr8.out) ?_; simp only [Act.put])
        | ((with_reducible show wpList _ _ _ (⟨some 64, .load _ _, _, _, _, _⟩ :: _) _ _); refine wpList_runG (by kernel_rfl) _ _ (run_load_op 131 (.tmp 10) rfl _ 0 rfl _ (k109.load stepT1)) ?_; simp only [Act.put])
        | ((with_reducible show wpList _ _ _ (⟨none, .store _ (.tmp 9) _, _, _, _, _⟩ :: _) _ _); refine wpList_sset stepT1 (.tmp 9) (.tmp 64) rfl rfl k99 rfl rfl Hlf.out ?_; intro W9 k9s hg9; simp only [Act.put]))
      have hq0 := Hq0.out
      subst hq0
      refine bodyPost_ret (results_st stepT1 rfl _ _ _ _ rfl k9s) rfl ⟨rfl, _, HC8.out.far hg9 (by have := HC8.out.l12; omega) (by omega) (by omega) (fun e => n98 (Option.some.inj e)), HK8.out.trans (KeepX.grown (U := fun k => w.heap.size ≤ k) hg9 (fun r e _ => by cases e; omega)) (fun k hk e => absurd hk (by have e : w.heap.size ≤ k := e; omega)), Hfin.out⟩
    · obtain ⟨k, hk⟩ : ∃ k, splitN (b - a) = k := ⟨_, rfl⟩
      have hk1 := splitN_pos (b - a) (by omega)
      have hk2 := splitN_lt (b - a) (by omega)
      have hw3 : IntKind.i64.wrap ((a : Int) + (k : Int)) = (a : Int) + k := IntWalk.i64_in _ (by omega)
      have hd1 : decide ((1 : Int) < (b : Int) - (a : Int)) = true := by simp; omega
      by_cases hi : i < a + splitN (b - a)
      · have hpa := pathL_left i a b (by omega) hi
        have hpl : (pathL i a b).length = (pathL i a (a + splitN (b - a))).length + 1 := by rw [hpa, List.length_append]; rfl
        have hup := upL_left leaf i a b (p.take (pathL i a b).length) (by omega) hi
        rw [hk] at hpl hup hi hsp
        obtain ⟨m, hm⟩ : ∃ m, (pathL i a (a + k)).length = m := ⟨_, rfl⟩
        rw [hm] at hpl
        rw [hpl] at hup hnp ⊢
        have hlt := last_take p 0 m (by rw [Hplen.out]; omega)
        rw [List.drop_zero, Nat.zero_add] at hlt
        rw [hlt.1, hlt.2] at hup
        rw [hup]
        have hq1 : (upL leaf i a (a + k) (p.take m)).length = m + 1 := by rw [← hm]; exact length_upL leaf (b - a) i a (a + k) (p.take (pathL i a (a + k)).length) (by omega) (by omega) (by omega)
        have hq32 : S32 (upL leaf i a (a + k) (p.take m)) := upL_all leaf Hlf.out (b - a) i a (a + k) (p.take m) (by omega)
        have hz : (lastH (upL leaf i a (a + k) (p.take m))).length = 32 := by
          obtain ⟨l, x, e⟩ := upL_last leaf i a (a + k) (p.take m)
          have := hq32 ((a, (a + k)), x) (by rw [e]; simp)
          rw [e, lastH_snoc]
          exact this
        have hic := fun W (h : UpC leaf i p A np c g4 g5 g7 g12 g13 base v0 [] W) => ih a (a + k) v0 W (by omega) (by omega) (by omega) (by omega) (by rw [hm]; omega) h
        rw [hm, show ((a + k : Nat) : Int) = (a : Int) + k by omega] at hic
        obtain ⟨y, hy⟩ : ∃ y, p.getD m [] = y := ⟨_, rfl⟩
        have hyl : y.length = 32 := by rw [← hy]; exact Hp32.out.getD m (by rw [Hplen.out]; omega)
        rw [hy]
        obtain ⟨q1, hqe⟩ : ∃ q, upL leaf i a (a + k) (p.take m) = q := ⟨_, rfl⟩
        rw [hqe] at hq1 hq32 hz hic ⊢
        obtain ⟨z, hze⟩ : ∃ z, lastH q1 = z := ⟨_, rfl⟩
        rw [hze] at hz hic ⊢
        rw [lastH_snoc]
        have hwm : IntKind.i64.wrap (m : Int) = (m : Int) := IntWalk.i64_in _ (by omega)
        have hmn : m < np := by omega
        have hm63 : m ≤ 63 := by omega
        have hki : (i : Int) < (a : Int) + (k : Int) := by omega
        obtain ⟨pb, po, hpA, -, -, -⟩ := h.h.at_ (by omega)
        subst hpA
        have Hic := Lib.hid hic
        have Hy := Lib.hid hy
        have Hyl := Lib.hid hyl
        have Hz := Lib.hid hz
        have Hq1 := Lib.hid hq1
        have Hsp := Lib.hid hsp
        clear hic hy hyl hz hq1 hq32 hqe hze hup hlt hpl hm hsp ih hk hpa
        go_enter Try.func101, Try.ntmps101
        go_wp2_with (first
          | ((with_reducible show wpList _ _ _ (⟨some 9, .alloc _, _, _, _, _⟩ :: _) _ _); refine wpList_snew stepT1 rfl rfl ?_; intro W1 k9 hb1; simp only [Act.put]; have hC := h.step hb1; clear h; have hs1 := hb1.size; have hl9 := k9.lt)
          | ((with_reducible show wpList _ _ _ (⟨some 17, .load _ _, _, _, _, _⟩ :: _) _ _); refine wpList_hload (.tmp 2) (by kernel_rfl) rfl hC.b4 rfl ?_; simp only [Act.put])
          | ((with_reducible show wpList _ _ _ (⟨some 18, .build _ _, _, _, _, _⟩ :: _) _ _); refine wpList_run0 rfl (.agg (scell ((a, b), leaf)).toArray) (run_build_st stepT1 (.tmp 16) (.tmp 17) a b leaf Hlf.out rfl rfl rfl _) ?_; simp only [Act.put])
          | ((with_reducible show wpList _ _ _ (⟨some 10, .alloc _, _, _, _, _⟩ :: _) _ _); refine wpList_svar (s := ((a, b), leaf)) stepT1 (.tmp 10) (.tmp 18) rfl rfl rfl rfl rfl rfl Hlf.out ?_; intro W2 k10 hb2; simp only [Act.put]; have hC2 := hC.step hb2; have k92 := k9.step hb2; have hs2 := hb2.size; have hK : KeepX (fun k => k = g12 ∨ v0.ownBlock = some k) w W2 := (KeepX.below hb1).trans (KeepX.below (U := fun _ => False) hb2) (fun _ _ e => e.elim); clear hC k9; have hC := hC2; have k9 := k92; clear hC2 k92 hb1 hb2))
        refine (Hsp.out _).mono ?_
        rintro e _ ⟨rfl, rfl⟩
        have d5 : W2.cell? ⟨g5, 0, none⟩ = some (.int .i64 (i : Int)) := by rw [hC.b5.cell]; rfl
        have d13 : W2.cell? ⟨g13, 0, none⟩ = some (.func (.func 101) #[] #[.pointer (some ⟨g4, 0, none⟩), .pointer (some ⟨g5, 0, none⟩), .pointer (some ⟨g13, 0, none⟩), .pointer (some ⟨g7, 0, none⟩), .pointer (some ⟨g12, 0, none⟩)]) := by rw [hC.b13.cell]; rfl
        go_wp2_with fail
        refine (Hic.out W2 hC).mono ?_
        rintro e W3 ⟨rfl, v1, hC3, hK3, hv3⟩
        have hV9 : ¬ (w.heap.size = g12 ∨ v0.ownBlock = some w.heap.size) := fun e => by
          rcases e with e | e
          · omega
          · have := Hvr.out _ e; omega
        have hV10 : ¬ (W1.heap.size = g12 ∨ v0.ownBlock = some W1.heap.size) := fun e => by
          rcases e with e | e
          · omega
          · have := Hvr.out _ e; omega
        have k93 := hK3.sv k9 hV9
        have k103 := hK3.sv k10 hV10
        have hK3' := hK.trans hK3 (fun _ _ e => e)
        have hl10 := k10.lt
        have hs3 := hK3.size
        have hv1r := fun r (e : v1.ownBlock = some r) => (hC3.own.lt r e).2
        have hv1 : ∀ r, v1.ownBlock = some r → w.heap.size ≠ r ∧ W1.heap.size ≠ r := fun r e => by
          rcases hv3 with e2 | ⟨r2, e2, h2⟩
          · rw [e2] at e
            have := Hvr.out _ e
            omega
          · rw [e2] at e
            have := Option.some.inj e
            omega
        have hv1w : v1.ownBlock = v0.ownBlock ∨ ∃ r, v1.ownBlock = some r ∧ w.heap.size ≤ r := by
          rcases hv3 with e2 | ⟨r2, e2, h2⟩
          · exact .inl e2
          · exact .inr ⟨r2, e2, by omega⟩
        clear hC k9 k10 hK3 hK d5 d13 hv3 hV9 hV10
        go_wp2_with ((with_reducible show wpList _ _ _ (⟨some 12, .alloc _, _, _, _, _⟩ :: _) _ _); refine wpList_svar (s := ((a, (a + k)), z)) stepT1 (.tmp 12) (.tmp 35) rfl rfl rfl rfl rfl rfl Hz.out ?_; intro W4 ku hb4; simp only [Act.put])
        have k94 := k93.step hb4
        have k104 := k103.step hb4
        have hC4 := hC3.step hb4
        have hK4 := hK3'.trans (KeepX.below (U := fun _ => False) hb4) (fun _ _ e => e.elim)
        have hs4 := hb4.size
        have hlu := ku.lt
        clear k93 k103 hC3 hK3' hb4
        obtain ⟨gu, hgu⟩ : ∃ g, W3.heap.size = g := ⟨_, rfl⟩
        rw [hgu] at ku
        obtain ⟨r1, c1, rfl⟩ := owns_some hC4.own (by rw [Hq1.out]; omega)
        have hC4' := hC4
        rw [Hq1.out] at hC4'
        have hrc := hC4'.own
        have hc1m : m + 1 ≤ c1 ∧ c1 ≤ maxLen := by
          rcases hrc.2 with ⟨e, _⟩ | ⟨g, cap, cur, e, _, _, h1, h2, _⟩
          · cases e
          · injection e with _ _ e3; subst e3; exact ⟨by have := Hq1.out; omega, h2⟩
        obtain ⟨hc1, hc2⟩ := hc1m
        unfold maxLen at hc2
        have l7 : ∀ s : InC (fun W => Below W4.heap.size W4 W), s.W.cell? ⟨g7, 0, none⟩ = some (.slice (some ⟨pb, po, none⟩) np c) := fun s => by rw [(hC4.step s.ok).b7.cell]; rfl
        have l12 : ∀ s : InC (fun W => Below W4.heap.size W4 W), s.W.cell? ⟨g12, 0, none⟩ = some (.slice (some ⟨r1, 0, none⟩) (m + 1) c1) := fun s => by rw [(hC4'.step s.ok).b12.cell]; rfl
        have lel : ∀ s : InC (fun W => Below W4.heap.size W4 W), (Instr.loadAt 26 (.pointer (some ⟨pb, po + m * 32, none⟩))).run Try.prog s.W = .ok (.agg (y.map B).toArray) s.W := fun s => by
          have := (hC4.step s.ok).h.get rfl m hmn
          rwa [Hy.out] at this
        have lu : ∀ s : InC (fun W => Below W4.heap.size W4 W), (Instr.loadAt 26 (.pointer (some ⟨gu, 2, none⟩))).run Try.prog s.W = .ok (.agg (z.map B).toArray) s.W := fun s => (ku.step s.ok).hash
        have Lel := Lib.hid lel
        have Lu := Lib.hid lu
        clear lel lu hrc hC4' ku
        rw [hgu]
        go_wp2_with fail
        have hS : Below W4.heap.size W4 W4.drew := (Below.refl _ _).drew
        refine wp_region_mix_tail (fun W => Below W4.heap.size W4 W) 10 [(0, true), (1, true), (2, true), (3, true), (4, true), (5, true), (6, true), (7, true), (8, false), (9, true)] (by kernel_rfl) (by kernel_rfl) hS fun _ => ?_
        simp only [List.map_cons, List.map_nil, Array.getD_eq_getD_getElem?, List.getElem?_toArray, List.getElem?_cons_succ, List.getElem?_cons_zero, Option.getD_some]
        generalize W4.drew = W5 at hS ⊢
        refine wpMix_s (fun K hK => ?_)
        go_simp
        refine hK _ ?_
        clear hK K
        refine wpMix_load (by kernel_rfl) 26 (.tmp 36) rfl (gu) (2) rfl (z.map B).toArray (Lu.out) ?_
        simp only [Act.put]
        refine wpMix_s (fun K hK => ?_)
        go_simp
        refine hK _ ?_
        clear hK K
        refine wpMix_s (fun K hK => ?_)
        go_simp
        refine hK _ ?_
        clear hK K
        refine wpMix_s (fun K hK => ?_)
        go_simp
        refine hK _ ?_
        clear hK K
        refine wpMix_s (fun K hK => ?_)
        go_simp
        refine hK _ ?_
        clear hK K
        refine wpMix_s (fun K hK => ?_)
        go_simp
        refine hK _ ?_
        clear hK K
        refine wpMix_load (by kernel_rfl) 26 (.tmp 42) rfl (pb) (po + m * 32) rfl (y.map B).toArray (Lel.out) ?_
        simp only [Act.put]
        refine wpMix_c (fun K hK => ?_) hS
        go_simp
        refine (hnode_any z y W5 Hz.out Hyl.out).mono ?_
        rintro e W5_1 ⟨rfl, hb'⟩
        refine hK _ _ ?_
        clear hK K
        replace hS := hS.trans (hb'.mono hS.size)
        refine ⟨hS, ?_⟩
        clear hb'
        refine wpMix_s (fun K hK => ?_)
        go_simp
        refine hK _ ?_
        clear hK K
        refine wpMix_nil ?_
        intro _
        simp only [List.drop_succ_cons, List.drop_zero]
        generalize W5_1 = W6 at *
        have k96 := k94.step hS
        have k106 := k104.step hS
        have hC6 := hC4.step hS
        have hK6 := hK4.trans (KeepX.below (U := fun _ => False) hS) (fun _ _ e => e.elim)
        have hs6 := hS.size
        clear k94 k104 hC4 hK4 hS l7 l12
        go_wp2_with ((with_reducible show wpList _ _ _ (⟨none, .store _ (.tmp 45) _, _, _, _, _⟩ :: _) _ _); refine wpList_shash (.tmp 45) (.tmp 44) rfl rfl k106 rfl rfl (length_hNode _ _) ?_; intro W7 k10 hg7; simp only [Act.put])
        refine np_normal ?_
        have hC := hC6.far hg7 (by omega) (by omega) (by omega) (fun e => (hv1 _ e).2 rfl)
        have kg7 : KeepX (fun k => k = W1.heap.size) W6 W7 := KeepX.grown hg7 (fun r e _ => (Option.some.inj e).symm)
        have k9 := kg7.sv k96 (fun e => by have e : w.heap.size = W1.heap.size := e; omega)
        have hK := hK6.trans kg7 (fun k hk e => absurd hk (by have e : k = W1.heap.size := e; omega))
        have hs7 := hg7.size
        clear k96 k106 hC6 hK6 hg7 kg7
        have hq6 : q1.length ≤ 1000000 := by rw [Hq1.out]; omega
        have n9 : ∀ r, (Value.slice (some ⟨r1, 0, none⟩) q1.length c1).ownBlock = some r → w.heap.size ≠ r := fun r e e2 => by have := hv1 r e; omega
        have n10 : ∀ r, (Value.slice (some ⟨r1, 0, none⟩) q1.length c1).ownBlock = some r → W1.heap.size ≠ r := fun r e e2 => by have := hv1 r e; omega
        have m9 : w.heap.size ≠ g12 := by omega
        have m10 : W1.heap.size ≠ g12 := by omega
        have hv0 : ∀ k, k < w.heap.size → (Value.slice (some ⟨r1, 0, none⟩) q1.length c1).ownBlock = some k → k = g12 ∨ v0.ownBlock = some k := fun k hk e => by
          rcases hv1w with e2 | ⟨r2, e2, h2⟩
          · exact .inr (by rw [← e2]; exact e)
          · rw [e2] at e; have := Option.some.inj e; omega
        have hvw := hv1w
        obtain ⟨v', W8, hr8, ho8, hg8, hb8⟩ := append_st stepT1 hC.own ((a, b), hNode z y) (length_hNode _ _) hq6 (by have := hC.b12.lt; have := hC.l12; omega)
        obtain ⟨r8, c8, rfl⟩ := owns_some ho8 (by omega)
        have c12 : W7.cell? ⟨g12, 0, none⟩ = some (Value.slice (some ⟨r1, 0, none⟩) q1.length c1) := by rw [hC.b12.cell]; rfl
        have kb12 : Blk W8 g12 127 #[(Value.slice (some ⟨r1, 0, none⟩) q1.length c1)] := hC.b12.grown hg8 (fun e => (hC.ne g12 e.symm).1 rfl)
        have f12 := kb12.frozen 0
        have c128 : W8.cell? ⟨g12, 0, none⟩ = some (Value.slice (some ⟨r1, 0, none⟩) q1.length c1) := by rw [kb12.cell]; rfl
        have kk : KeepX (fun k => (Value.slice (some ⟨r1, 0, none⟩) q1.length c1).ownBlock = some k) W7 W8 := KeepX.grown hg8 (fun r e _ => e)
        have k98 := kk.sv k9 (fun e => n9 _ e rfl)
        have k108 := kk.sv k10 (fun e => n10 _ e rfl)
        have kc8 : KeepX (fun k => k = g12) W8 (W8.setCell ⟨g12, 0, none⟩ (.slice (some ⟨r8, 0, none⟩) (q1.length + 1) c8)) := KeepX.grown (grownBy_setCell' W8 g12 _) (fun r e _ => (Option.some.inj e).symm)
        have hne8 : r8 ≠ g12 ∧ r8 ≠ g13 ∧ base ≤ r8 := by
          have hb := (ho8.lt r8 rfl).1
          rcases hb8 with e | ⟨k, e, hk⟩
          · have := hC.ne r8 (by rw [← e]; rfl)
            exact ⟨this.1, this.2, hb⟩
          · have e : r8 = k := Option.some.inj e
            have h1 := hC.b12.lt
            have h2 := hC.b13.lt
            exact ⟨by omega, by omega, hb⟩
        have hC8 : UpC leaf i p (some ⟨pb, po, none⟩) np c g4 g5 g7 g12 g13 base (.slice (some ⟨r8, 0, none⟩) (q1.length + 1) c8) (q1 ++ [((a, b), hNode z y)]) (W8.setCell ⟨g12, 0, none⟩ (.slice (some ⟨r8, 0, none⟩) (q1.length + 1) c8)) :=
          ⟨kc8.hv (kk.hv hC.b4 (fun e => by have := (hC.own.lt _ e).1; have := hC.l4; omega)) (by have := hC.l4; have := hC.l12; omega),
           kc8.blk (kk.blk hC.b5 (fun e => by have := (hC.own.lt _ e).1; have := hC.l5; omega)) (by have := hC.l5; have := hC.l12; omega),
           kc8.blk (kk.blk hC.b7 (fun e => by have := (hC.own.lt _ e).1; have := hC.l7; omega)) (by have := hC.l7; have := hC.l12; omega),
           kb12.set_ 0 _, kc8.blk (kk.blk hC.b13 (fun e => (hC.ne _ e).2 rfl)) hC.n,
           kc8.hs (kk.hs hC.h (fun b _ hb e => by have := (hC.own.lt _ e).1; have hb : b < base := hb; omega)) (fun b _ hb e => by have hb : b < base := hb; have := hC.l12; omega),
           by rw [List.length_append]; exact kc8.row ho8 (fun r e => by have e : r8 = r := Option.some.inj e; subst e; exact hne8.1),
           hC.l4, hC.l5, hC.l7, hC.l12, hC.l13, hC.n, fun r e => by have e : r8 = r := Option.some.inj e; subst e; exact ⟨hne8.1, hne8.2.1⟩⟩
        have k99 := kc8.sv k98 (fun e => m9 e)
        have k109 := kc8.sv k108 (fun e => m10 e)
        have hK8 : KeepX (fun k => k = g12 ∨ v0.ownBlock = some k) w (W8.setCell ⟨g12, 0, none⟩ (.slice (some ⟨r8, 0, none⟩) (q1.length + 1) c8)) := (hK.trans kk (fun k hk e => hv0 k hk e)).trans kc8 (fun k _ e => .inl e)
        have hfin : (Value.slice (some ⟨r8, 0, none⟩) (q1.length + 1) c8).ownBlock = v0.ownBlock ∨ ∃ r, (Value.slice (some ⟨r8, 0, none⟩) (q1.length + 1) c8).ownBlock = some r ∧ w.heap.size ≤ r := by
          rcases hb8 with e | ⟨k, e, hk⟩
          · rw [e]; exact hvw
          · exact .inr ⟨k, e, by omega⟩
        have n98 : r8 ≠ w.heap.size := by
          intro e
          rcases hb8 with e2 | ⟨k, e2, hk⟩
          · exact n9 r8 (by rw [← e2]; rfl) e.symm
          · have e2 : r8 = k := Option.some.inj e2
            have := k9.lt
            omega
        have Hr8 := Lib.hid hr8
        have Hne8 := Lib.hid hne8
        have HC8 := Lib.hid hC8
        have HK8 := Lib.hid hK8
        have Hfin := Lib.hid hfin
        clear hr8 hne8 hC8 hK8 hfin ho8 hg8 hb8 hC kk kc8 k98 k108 hK hv0 hvw
        go_wp2_with (first
          | ((with_reducible show wpList _ _ _ (⟨some 61, .load _ _, _, _, _, _⟩ :: _) _ _); refine wpList_runG (by kernel_rfl) _ _ (run_load_op 131 (.tmp 10) rfl _ 0 rfl _ (k10.load stepT1)) ?_; simp only [Act.put])
          | ((with_reducible show wpList _ _ _ (⟨some 62, .buildSlice _ _ _, _, _, _, _⟩ :: _) _ _); refine wpList_run rfl _ _ (run_litS_op stepT1 ((a, b), hNode z y) (length_hNode _ _) (.tmp 61) rfl rfl _) ?_; simp only [Act.put])
          | ((with_reducible show wpList _ _ _ (⟨some 63, .call _, _, _, _, _⟩ :: _) _ _); refine wpList_run rfl _ W8 (run_append_op (.tmp 60) (.tmp 62) 127 rfl _ _ rfl rfl Hr8.out) ?_; simp only [Act.put])
          | ((with_reducible show wpList _ _ _ (⟨some 64, .load _ _, _, _, _, _⟩ :: _) _ _); refine wpList_runG (by kernel_rfl) _ _ (run_load_op 131 (.tmp 10) rfl _ 0 rfl _ (k109.load stepT1)) ?_; simp only [Act.put])
          | ((with_reducible show wpList _ _ _ (⟨none, .store _ (.tmp 9) _, _, _, _, _⟩ :: _) _ _); refine wpList_sset stepT1 (.tmp 9) (.tmp 64) rfl rfl k99 rfl rfl (length_hNode _ _) ?_; intro W9 k9s hg9; simp only [Act.put]))
        refine bodyPost_ret (results_st stepT1 rfl _ _ _ _ rfl k9s) rfl ⟨rfl, _, HC8.out.far hg9 (by have := HC8.out.l12; omega) (by omega) (by omega) (fun e => n98 (Option.some.inj e)), HK8.out.trans (KeepX.grown (U := fun k => w.heap.size ≤ k) hg9 (fun r e _ => by cases e; omega)) (fun k hk e => absurd hk (by have e : w.heap.size ≤ k := e; omega)), Hfin.out⟩
      · have hpa := pathL_right i a b (by omega) hi
        have hpl : (pathL i a b).length = (pathL i (a + splitN (b - a)) b).length + 1 := by rw [hpa, List.length_append]; rfl
        have hup := upL_right leaf i a b (p.take (pathL i a b).length) (by omega) hi
        rw [hk] at hpl hup hi hsp
        obtain ⟨m, hm⟩ : ∃ m, (pathL i (a + k) b).length = m := ⟨_, rfl⟩
        rw [hm] at hpl
        rw [hpl] at hup hnp ⊢
        have hlt := last_take p 0 m (by rw [Hplen.out]; omega)
        rw [List.drop_zero, Nat.zero_add] at hlt
        rw [hlt.1, hlt.2] at hup
        rw [hup]
        have hq1 : (upL leaf i (a + k) b (p.take m)).length = m + 1 := by rw [← hm]; exact length_upL leaf (b - a) i (a + k) b (p.take (pathL i (a + k) b).length) (by omega) (by omega) (by omega)
        have hq32 : S32 (upL leaf i (a + k) b (p.take m)) := upL_all leaf Hlf.out (b - a) i (a + k) b (p.take m) (by omega)
        have hz : (lastH (upL leaf i (a + k) b (p.take m))).length = 32 := by
          obtain ⟨l, x, e⟩ := upL_last leaf i (a + k) b (p.take m)
          have := hq32 (((a + k), b), x) (by rw [e]; simp)
          rw [e, lastH_snoc]
          exact this
        have hic := fun W (h : UpC leaf i p A np c g4 g5 g7 g12 g13 base v0 [] W) => ih (a + k) b v0 W (by omega) (by omega) (by omega) (by omega) (by rw [hm]; omega) h
        rw [hm, show ((a + k : Nat) : Int) = (a : Int) + k by omega] at hic
        obtain ⟨y, hy⟩ : ∃ y, p.getD m [] = y := ⟨_, rfl⟩
        have hyl : y.length = 32 := by rw [← hy]; exact Hp32.out.getD m (by rw [Hplen.out]; omega)
        rw [hy]
        obtain ⟨q1, hqe⟩ : ∃ q, upL leaf i (a + k) b (p.take m) = q := ⟨_, rfl⟩
        rw [hqe] at hq1 hq32 hz hic ⊢
        obtain ⟨z, hze⟩ : ∃ z, lastH q1 = z := ⟨_, rfl⟩
        rw [hze] at hz hic ⊢
        rw [lastH_snoc]
        have hwm : IntKind.i64.wrap (m : Int) = (m : Int) := IntWalk.i64_in _ (by omega)
        have hmn : m < np := by omega
        have hm63 : m ≤ 63 := by omega
        have hki : ¬ (i : Int) < (a : Int) + (k : Int) := by omega
        obtain ⟨pb, po, hpA, -, -, -⟩ := h.h.at_ (by omega)
        subst hpA
        have Hic := Lib.hid hic
        have Hy := Lib.hid hy
        have Hyl := Lib.hid hyl
        have Hz := Lib.hid hz
        have Hq1 := Lib.hid hq1
        have Hsp := Lib.hid hsp
        clear hic hy hyl hz hq1 hq32 hqe hze hup hlt hpl hm hsp ih hk hpa
        go_enter Try.func101, Try.ntmps101
        go_wp2_with (first
          | ((with_reducible show wpList _ _ _ (⟨some 9, .alloc _, _, _, _, _⟩ :: _) _ _); refine wpList_snew stepT1 rfl rfl ?_; intro W1 k9 hb1; simp only [Act.put]; have hC := h.step hb1; clear h; have hs1 := hb1.size; have hl9 := k9.lt)
          | ((with_reducible show wpList _ _ _ (⟨some 17, .load _ _, _, _, _, _⟩ :: _) _ _); refine wpList_hload (.tmp 2) (by kernel_rfl) rfl hC.b4 rfl ?_; simp only [Act.put])
          | ((with_reducible show wpList _ _ _ (⟨some 18, .build _ _, _, _, _, _⟩ :: _) _ _); refine wpList_run0 rfl (.agg (scell ((a, b), leaf)).toArray) (run_build_st stepT1 (.tmp 16) (.tmp 17) a b leaf Hlf.out rfl rfl rfl _) ?_; simp only [Act.put])
          | ((with_reducible show wpList _ _ _ (⟨some 10, .alloc _, _, _, _, _⟩ :: _) _ _); refine wpList_svar (s := ((a, b), leaf)) stepT1 (.tmp 10) (.tmp 18) rfl rfl rfl rfl rfl rfl Hlf.out ?_; intro W2 k10 hb2; simp only [Act.put]; have hC2 := hC.step hb2; have k92 := k9.step hb2; have hs2 := hb2.size; have hK : KeepX (fun k => k = g12 ∨ v0.ownBlock = some k) w W2 := (KeepX.below hb1).trans (KeepX.below (U := fun _ => False) hb2) (fun _ _ e => e.elim); clear hC k9; have hC := hC2; have k9 := k92; clear hC2 k92 hb1 hb2))
        refine (Hsp.out _).mono ?_
        rintro e _ ⟨rfl, rfl⟩
        have d5 : W2.cell? ⟨g5, 0, none⟩ = some (.int .i64 (i : Int)) := by rw [hC.b5.cell]; rfl
        have d13 : W2.cell? ⟨g13, 0, none⟩ = some (.func (.func 101) #[] #[.pointer (some ⟨g4, 0, none⟩), .pointer (some ⟨g5, 0, none⟩), .pointer (some ⟨g13, 0, none⟩), .pointer (some ⟨g7, 0, none⟩), .pointer (some ⟨g12, 0, none⟩)]) := by rw [hC.b13.cell]; rfl
        go_wp2_with fail
        refine (Hic.out W2 hC).mono ?_
        rintro e W3 ⟨rfl, v1, hC3, hK3, hv3⟩
        have hV9 : ¬ (w.heap.size = g12 ∨ v0.ownBlock = some w.heap.size) := fun e => by
          rcases e with e | e
          · omega
          · have := Hvr.out _ e; omega
        have hV10 : ¬ (W1.heap.size = g12 ∨ v0.ownBlock = some W1.heap.size) := fun e => by
          rcases e with e | e
          · omega
          · have := Hvr.out _ e; omega
        have k93 := hK3.sv k9 hV9
        have k103 := hK3.sv k10 hV10
        have hK3' := hK.trans hK3 (fun _ _ e => e)
        have hl10 := k10.lt
        have hs3 := hK3.size
        have hv1r := fun r (e : v1.ownBlock = some r) => (hC3.own.lt r e).2
        have hv1 : ∀ r, v1.ownBlock = some r → w.heap.size ≠ r ∧ W1.heap.size ≠ r := fun r e => by
          rcases hv3 with e2 | ⟨r2, e2, h2⟩
          · rw [e2] at e
            have := Hvr.out _ e
            omega
          · rw [e2] at e
            have := Option.some.inj e
            omega
        have hv1w : v1.ownBlock = v0.ownBlock ∨ ∃ r, v1.ownBlock = some r ∧ w.heap.size ≤ r := by
          rcases hv3 with e2 | ⟨r2, e2, h2⟩
          · exact .inl e2
          · exact .inr ⟨r2, e2, by omega⟩
        clear hC k9 k10 hK3 hK d5 d13 hv3 hV9 hV10
        go_wp2_with ((with_reducible show wpList _ _ _ (⟨some 13, .alloc _, _, _, _, _⟩ :: _) _ _); refine wpList_svar (s := (((a + k), b), z)) stepT1 (.tmp 13) (.tmp 49) rfl rfl rfl rfl rfl rfl Hz.out ?_; intro W4 ku hb4; simp only [Act.put])
        have k94 := k93.step hb4
        have k104 := k103.step hb4
        have hC4 := hC3.step hb4
        have hK4 := hK3'.trans (KeepX.below (U := fun _ => False) hb4) (fun _ _ e => e.elim)
        have hs4 := hb4.size
        have hlu := ku.lt
        clear k93 k103 hC3 hK3' hb4
        obtain ⟨gu, hgu⟩ : ∃ g, W3.heap.size = g := ⟨_, rfl⟩
        rw [hgu] at ku
        obtain ⟨r1, c1, rfl⟩ := owns_some hC4.own (by rw [Hq1.out]; omega)
        have hC4' := hC4
        rw [Hq1.out] at hC4'
        have hrc := hC4'.own
        have hc1m : m + 1 ≤ c1 ∧ c1 ≤ maxLen := by
          rcases hrc.2 with ⟨e, _⟩ | ⟨g, cap, cur, e, _, _, h1, h2, _⟩
          · cases e
          · injection e with _ _ e3; subst e3; exact ⟨by have := Hq1.out; omega, h2⟩
        obtain ⟨hc1, hc2⟩ := hc1m
        unfold maxLen at hc2
        have l7 : ∀ s : InC (fun W => Below W4.heap.size W4 W), s.W.cell? ⟨g7, 0, none⟩ = some (.slice (some ⟨pb, po, none⟩) np c) := fun s => by rw [(hC4.step s.ok).b7.cell]; rfl
        have l12 : ∀ s : InC (fun W => Below W4.heap.size W4 W), s.W.cell? ⟨g12, 0, none⟩ = some (.slice (some ⟨r1, 0, none⟩) (m + 1) c1) := fun s => by rw [(hC4'.step s.ok).b12.cell]; rfl
        have lel : ∀ s : InC (fun W => Below W4.heap.size W4 W), (Instr.loadAt 26 (.pointer (some ⟨pb, po + m * 32, none⟩))).run Try.prog s.W = .ok (.agg (y.map B).toArray) s.W := fun s => by
          have := (hC4.step s.ok).h.get rfl m hmn
          rwa [Hy.out] at this
        have lu : ∀ s : InC (fun W => Below W4.heap.size W4 W), (Instr.loadAt 26 (.pointer (some ⟨gu, 2, none⟩))).run Try.prog s.W = .ok (.agg (z.map B).toArray) s.W := fun s => (ku.step s.ok).hash
        have Lel := Lib.hid lel
        have Lu := Lib.hid lu
        clear lel lu hrc hC4' ku
        rw [hgu]
        go_wp2_with fail
        have hS : Below W4.heap.size W4 W4.drew := (Below.refl _ _).drew
        refine wp_region_mix_tail (fun W => Below W4.heap.size W4 W) 10 [(0, true), (1, true), (2, true), (3, true), (4, true), (5, true), (6, true), (7, true), (8, false), (9, true)] (by kernel_rfl) (by kernel_rfl) hS fun _ => ?_
        simp only [List.map_cons, List.map_nil, Array.getD_eq_getD_getElem?, List.getElem?_toArray, List.getElem?_cons_succ, List.getElem?_cons_zero, Option.getD_some]
        generalize W4.drew = W5 at hS ⊢
        refine wpMix_s (fun K hK => ?_)
        go_simp
        refine hK _ ?_
        clear hK K
        refine wpMix_s (fun K hK => ?_)
        go_simp
        refine hK _ ?_
        clear hK K
        refine wpMix_s (fun K hK => ?_)
        go_simp
        refine hK _ ?_
        clear hK K
        refine wpMix_s (fun K hK => ?_)
        go_simp
        refine hK _ ?_
        clear hK K
        refine wpMix_s (fun K hK => ?_)
        go_simp
        refine hK _ ?_
        clear hK K
        refine wpMix_load (by kernel_rfl) 26 (.tmp 54) rfl (pb) (po + m * 32) rfl (y.map B).toArray (Lel.out) ?_
        simp only [Act.put]
        refine wpMix_s (fun K hK => ?_)
        go_simp
        refine hK _ ?_
        clear hK K
        refine wpMix_load (by kernel_rfl) 26 (.tmp 56) rfl (gu) (2) rfl (z.map B).toArray (Lu.out) ?_
        simp only [Act.put]
        refine wpMix_c (fun K hK => ?_) hS
        go_simp
        refine (hnode_any y z W5 Hyl.out Hz.out).mono ?_
        rintro e W5_1 ⟨rfl, hb'⟩
        refine hK _ _ ?_
        clear hK K
        replace hS := hS.trans (hb'.mono hS.size)
        refine ⟨hS, ?_⟩
        clear hb'
        refine wpMix_s (fun K hK => ?_)
        go_simp
        refine hK _ ?_
        clear hK K
        refine wpMix_nil ?_
        intro _
        simp only [List.drop_succ_cons, List.drop_zero]
        generalize W5_1 = W6 at *
        have k96 := k94.step hS
        have k106 := k104.step hS
        have hC6 := hC4.step hS
        have hK6 := hK4.trans (KeepX.below (U := fun _ => False) hS) (fun _ _ e => e.elim)
        have hs6 := hS.size
        clear k94 k104 hC4 hK4 hS l7 l12
        go_wp2_with ((with_reducible show wpList _ _ _ (⟨none, .store _ (.tmp 59) _, _, _, _, _⟩ :: _) _ _); refine wpList_shash (.tmp 59) (.tmp 58) rfl rfl k106 rfl rfl (length_hNode _ _) ?_; intro W7 k10 hg7; simp only [Act.put])
        refine np_normal ?_
        have hC := hC6.far hg7 (by omega) (by omega) (by omega) (fun e => (hv1 _ e).2 rfl)
        have kg7 : KeepX (fun k => k = W1.heap.size) W6 W7 := KeepX.grown hg7 (fun r e _ => (Option.some.inj e).symm)
        have k9 := kg7.sv k96 (fun e => by have e : w.heap.size = W1.heap.size := e; omega)
        have hK := hK6.trans kg7 (fun k hk e => absurd hk (by have e : k = W1.heap.size := e; omega))
        have hs7 := hg7.size
        clear k96 k106 hC6 hK6 hg7 kg7
        have hq6 : q1.length ≤ 1000000 := by rw [Hq1.out]; omega
        have n9 : ∀ r, (Value.slice (some ⟨r1, 0, none⟩) q1.length c1).ownBlock = some r → w.heap.size ≠ r := fun r e e2 => by have := hv1 r e; omega
        have n10 : ∀ r, (Value.slice (some ⟨r1, 0, none⟩) q1.length c1).ownBlock = some r → W1.heap.size ≠ r := fun r e e2 => by have := hv1 r e; omega
        have m9 : w.heap.size ≠ g12 := by omega
        have m10 : W1.heap.size ≠ g12 := by omega
        have hv0 : ∀ k, k < w.heap.size → (Value.slice (some ⟨r1, 0, none⟩) q1.length c1).ownBlock = some k → k = g12 ∨ v0.ownBlock = some k := fun k hk e => by
          rcases hv1w with e2 | ⟨r2, e2, h2⟩
          · exact .inr (by rw [← e2]; exact e)
          · rw [e2] at e; have := Option.some.inj e; omega
        have hvw := hv1w
        obtain ⟨v', W8, hr8, ho8, hg8, hb8⟩ := append_st stepT1 hC.own ((a, b), hNode y z) (length_hNode _ _) hq6 (by have := hC.b12.lt; have := hC.l12; omega)
        obtain ⟨r8, c8, rfl⟩ := owns_some ho8 (by omega)
        have c12 : W7.cell? ⟨g12, 0, none⟩ = some (Value.slice (some ⟨r1, 0, none⟩) q1.length c1) := by rw [hC.b12.cell]; rfl
        have kb12 : Blk W8 g12 127 #[(Value.slice (some ⟨r1, 0, none⟩) q1.length c1)] := hC.b12.grown hg8 (fun e => (hC.ne g12 e.symm).1 rfl)
        have f12 := kb12.frozen 0
        have c128 : W8.cell? ⟨g12, 0, none⟩ = some (Value.slice (some ⟨r1, 0, none⟩) q1.length c1) := by rw [kb12.cell]; rfl
        have kk : KeepX (fun k => (Value.slice (some ⟨r1, 0, none⟩) q1.length c1).ownBlock = some k) W7 W8 := KeepX.grown hg8 (fun r e _ => e)
        have k98 := kk.sv k9 (fun e => n9 _ e rfl)
        have k108 := kk.sv k10 (fun e => n10 _ e rfl)
        have kc8 : KeepX (fun k => k = g12) W8 (W8.setCell ⟨g12, 0, none⟩ (.slice (some ⟨r8, 0, none⟩) (q1.length + 1) c8)) := KeepX.grown (grownBy_setCell' W8 g12 _) (fun r e _ => (Option.some.inj e).symm)
        have hne8 : r8 ≠ g12 ∧ r8 ≠ g13 ∧ base ≤ r8 := by
          have hb := (ho8.lt r8 rfl).1
          rcases hb8 with e | ⟨k, e, hk⟩
          · have := hC.ne r8 (by rw [← e]; rfl)
            exact ⟨this.1, this.2, hb⟩
          · have e : r8 = k := Option.some.inj e
            have h1 := hC.b12.lt
            have h2 := hC.b13.lt
            exact ⟨by omega, by omega, hb⟩
        have hC8 : UpC leaf i p (some ⟨pb, po, none⟩) np c g4 g5 g7 g12 g13 base (.slice (some ⟨r8, 0, none⟩) (q1.length + 1) c8) (q1 ++ [((a, b), hNode y z)]) (W8.setCell ⟨g12, 0, none⟩ (.slice (some ⟨r8, 0, none⟩) (q1.length + 1) c8)) :=
          ⟨kc8.hv (kk.hv hC.b4 (fun e => by have := (hC.own.lt _ e).1; have := hC.l4; omega)) (by have := hC.l4; have := hC.l12; omega),
           kc8.blk (kk.blk hC.b5 (fun e => by have := (hC.own.lt _ e).1; have := hC.l5; omega)) (by have := hC.l5; have := hC.l12; omega),
           kc8.blk (kk.blk hC.b7 (fun e => by have := (hC.own.lt _ e).1; have := hC.l7; omega)) (by have := hC.l7; have := hC.l12; omega),
           kb12.set_ 0 _, kc8.blk (kk.blk hC.b13 (fun e => (hC.ne _ e).2 rfl)) hC.n,
           kc8.hs (kk.hs hC.h (fun b _ hb e => by have := (hC.own.lt _ e).1; have hb : b < base := hb; omega)) (fun b _ hb e => by have hb : b < base := hb; have := hC.l12; omega),
           by rw [List.length_append]; exact kc8.row ho8 (fun r e => by have e : r8 = r := Option.some.inj e; subst e; exact hne8.1),
           hC.l4, hC.l5, hC.l7, hC.l12, hC.l13, hC.n, fun r e => by have e : r8 = r := Option.some.inj e; subst e; exact ⟨hne8.1, hne8.2.1⟩⟩
        have k99 := kc8.sv k98 (fun e => m9 e)
        have k109 := kc8.sv k108 (fun e => m10 e)
        have hK8 : KeepX (fun k => k = g12 ∨ v0.ownBlock = some k) w (W8.setCell ⟨g12, 0, none⟩ (.slice (some ⟨r8, 0, none⟩) (q1.length + 1) c8)) := (hK.trans kk (fun k hk e => hv0 k hk e)).trans kc8 (fun k _ e => .inl e)
        have hfin : (Value.slice (some ⟨r8, 0, none⟩) (q1.length + 1) c8).ownBlock = v0.ownBlock ∨ ∃ r, (Value.slice (some ⟨r8, 0, none⟩) (q1.length + 1) c8).ownBlock = some r ∧ w.heap.size ≤ r := by
          rcases hb8 with e | ⟨k, e, hk⟩
          · rw [e]; exact hvw
          · exact .inr ⟨k, e, by omega⟩
        have n98 : r8 ≠ w.heap.size := by
          intro e
          rcases hb8 with e2 | ⟨k, e2, hk⟩
          · exact n9 r8 (by rw [← e2]; rfl) e.symm
          · have e2 : r8 = k := Option.some.inj e2
            have := k9.lt
            omega
        have Hr8 := Lib.hid hr8
        have Hne8 := Lib.hid hne8
        have HC8 := Lib.hid hC8
        have HK8 := Lib.hid hK8
        have Hfin := Lib.hid hfin
        clear hr8 hne8 hC8 hK8 hfin ho8 hg8 hb8 hC kk kc8 k98 k108 hK hv0 hvw
        go_wp2_with (first
          | ((with_reducible show wpList _ _ _ (⟨some 61, .load _ _, _, _, _, _⟩ :: _) _ _); refine wpList_runG (by kernel_rfl) _ _ (run_load_op 131 (.tmp 10) rfl _ 0 rfl _ (k10.load stepT1)) ?_; simp only [Act.put])
          | ((with_reducible show wpList _ _ _ (⟨some 62, .buildSlice _ _ _, _, _, _, _⟩ :: _) _ _); refine wpList_run rfl _ _ (run_litS_op stepT1 ((a, b), hNode y z) (length_hNode _ _) (.tmp 61) rfl rfl _) ?_; simp only [Act.put])
          | ((with_reducible show wpList _ _ _ (⟨some 63, .call _, _, _, _, _⟩ :: _) _ _); refine wpList_run rfl _ W8 (run_append_op (.tmp 60) (.tmp 62) 127 rfl _ _ rfl rfl Hr8.out) ?_; simp only [Act.put])
          | ((with_reducible show wpList _ _ _ (⟨some 64, .load _ _, _, _, _, _⟩ :: _) _ _); refine wpList_runG (by kernel_rfl) _ _ (run_load_op 131 (.tmp 10) rfl _ 0 rfl _ (k109.load stepT1)) ?_; simp only [Act.put])
          | ((with_reducible show wpList _ _ _ (⟨none, .store _ (.tmp 9) _, _, _, _, _⟩ :: _) _ _); refine wpList_sset stepT1 (.tmp 9) (.tmp 64) rfl rfl k99 rfl rfl (length_hNode _ _) ?_; intro W9 k9s hg9; simp only [Act.put]))
        refine bodyPost_ret (results_st stepT1 rfl _ _ _ _ rfl k9s) rfl ⟨rfl, _, HC8.out.far hg9 (by have := HC8.out.l12; omega) (by omega) (by omega) (fun e => n98 (Option.some.inj e)), HK8.out.trans (KeepX.grown (U := fun k => w.heap.size ≤ k) hg9 (fun r e _ => by cases e; omega)) (fun k hk e => absurd hk (by have e : w.heap.size ≤ k := e; omega)), Hfin.out⟩
end Go.Proofs.Ytobcfgbkhgkelaa
