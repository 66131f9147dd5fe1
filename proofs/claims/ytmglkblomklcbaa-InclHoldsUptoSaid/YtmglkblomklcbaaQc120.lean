/- Variables that hold a hash, in drawing regions; a literal of one stretch. -/
import Derived.Test.YtmglkblomklcbaaQc113
import Derived.Test.YtmglkblomklcbaaQc111
import Derived.Test.YtmglkblomklcbaaQc119
import Derived.Test.YtmglkblomklcbaaQc110
import Derived.Great.BuildSlice
namespace Go.Proofs.Ytmglkblomklcbaa
open Go Go.RowKit

theorem HV.other {w : World} {g g' : Nat} {l : List UInt8} (h : HV w g' l) (hne : g' ≠ g) (cs : Array Value) : HV (w.setRow g cs) g' l := ⟨by
  have := setRow_other w g g' cs hne
  unfold Blk at *
  exact this.trans h.blk, h.len⟩
/-- a variable is written over -/
theorem wpList_hset2 {ops : Array Oper} {Q : Exit → Act → World → Prop} {o : Oper} {rest : List Oper} {a : Act} {w : World} {l l' : List UInt8} {g : Nat} (x y : Operand) (hg2 : o.guard = none) (ho2 : o.op = .store 45 x y) (k : HV w g l')
    (hx : a.eval x = .pointer (some ⟨g, 0, none⟩)) (hy : a.eval y = .agg (l.map B).toArray) (hl : l.length = 32)
    (h : ∀ W, HV W g l → Below g w W → (∀ g' m', g' ≠ g → HV w g' m' → HV W g' m') → wpList Try.prog ops Q rest (a.put o.dst undef) W) : wpList Try.prog ops Q (o :: rest) a w :=
  wpList_hset x y hg2 ho2 k hx hy hl fun W h1 h2 e => h W h1 h2 fun g' m' hne hk => by rw [e]; exact hk.other hne _
section
variable {ops : Array Oper} {Q : Exit → Act → World → Prop} {S : World → Prop} {R : Act → World → Prop} {o : Oper} {l : List (Oper × Bool)} {a : Act} {w : World}
set_option maxRecDepth 100000 in
theorem wpMix_hnew (hg : o.guard = none) (ho : o.op = .alloc 45) (hS : ∀ W, Below w.heap.size w W → S W)
    (h : ∀ W, HV W w.heap.size (List.replicate 32 0) → Below w.heap.size w W → wpMix Try.prog ops S Q R l (a.put o.dst (.pointer (some ⟨w.heap.size, 0, none⟩))) W) : wpMix Try.prog ops S Q R ((o, false) :: l) a w := by
  have hb : Below w.heap.size w (w.alloc (.cells zeroHash 45)) := (Below.refl _ _).alloc (Nat.le_refl _) _
  refine wpMix_run (by simp [Region.wanted, hg]) (.pointer (some ⟨w.heap.size, 0, none⟩)) (w.alloc (.cells zeroHash 45)) ?_ (hS _ hb) (h _ ⟨Blk.new w 45 zeroHash, rfl⟩ hb)
  unfold execOp
  rw [ho]
  rfl
theorem wpMix_hset3 {m m' : List UInt8} {g : Nat} (x y : Operand) (hg : o.guard = none) (ho : o.op = .store 45 x y) (k : HV w g m') (hx : a.eval x = .pointer (some ⟨g, 0, none⟩)) (hy : a.eval y = .agg (m.map B).toArray) (hl : m.length = 32)
    (hS : ∀ W, HV W g m → Below g w W → (∀ g' m', g' ≠ g → HV w g' m' → HV W g' m') → S W)
    (h : ∀ W, HV W g m → Below g w W → (∀ g' m', g' ≠ g → HV w g' m' → HV W g' m') → wpMix Try.prog ops S Q R l (a.put o.dst undef) W) : wpMix Try.prog ops S Q R ((o, false) :: l) a w := by
  have hb : Below g w (w.setRow g (m.map B).toArray) := below_setRow (Below.refl _ _) (Nat.le_refl _) _
  have hk : HV (w.setRow g (m.map B).toArray) g m := ⟨k.blk.setRow_ _, hl⟩
  exact wpMix_store_blk hg 45 x y ho 32 size26 g (m.map B).toArray hx hy (by simp [hl]) (oneCell_B _) 45 _ k.blk (by simp [k.len]) (hS _ hk hb fun g' m' hne hk => hk.other hne _) (h _ hk hb fun g' m' hne hk => hk.other hne _)
theorem wpMix_hset {m m' : List UInt8} {g : Nat} (x y : Operand) (hg : o.guard = none) (ho : o.op = .store 45 x y) (k : HV w g m') (hx : a.eval x = .pointer (some ⟨g, 0, none⟩)) (hy : a.eval y = .agg (m.map B).toArray) (hl : m.length = 32) (hS : ∀ W, Below g w W → S W)
    (h : ∀ W, HV W g m → Below g w W → (∀ g' m', g' ≠ g → HV w g' m' → HV W g' m') → wpMix Try.prog ops S Q R l (a.put o.dst undef) W) : wpMix Try.prog ops S Q R ((o, false) :: l) a w := by
  have hb : Below g w (w.setRow g (m.map B).toArray) := below_setRow (Below.refl _ _) (Nat.le_refl _) _
  exact wpMix_store_blk hg 45 x y ho 32 size26 g (m.map B).toArray hx hy (by simp [hl]) (oneCell_B _) 45 _ k.blk (by simp [k.len]) (hS _ hb) (h _ ⟨k.blk.setRow_ _, hl⟩ hb fun g' m' hne hk => hk.other hne _)
end
set_option maxRecDepth 100000 in
theorem run_litR_op {ρ : Operand → Value} {o : Oper} (x : Operand) (a b : Int) (ho : o.op = .buildSlice 79 1 #[(0, x)]) (hx : ρ x = .agg #[.int .i64 a, .int .i64 b]) (W : World) :
    (execOp ρ o).run Try.prog W = .ok (.value (.slice (some ⟨W.heap.size, 0, none⟩) 1 1)) (W.alloc (.cells #[.int .i64 a, .int .i64 b] 68)) := by
  unfold execOp
  simp only [ho, Sem.run_bind, Sem.run_pure, List.map_toArray, List.map_cons, List.map_nil, hx]
  kernel_rfl
end Go.Proofs.Ytmglkblomklcbaa
/- What is known between the statements of notarylaw09.TreeEach. -/
namespace Go.Proofs.Ytmglkblomklcbaa
open Go Go.RowKit

theorem grownBy_setRowE (W : World) (g : Nat) (cs : Array Value) : W.grownBy (W.setRow g cs) (some g) := ⟨rfl, rfl, rfl, by simp, fun k _ hne => setRow_other W g k cs (fun e => hne (by rw [e]))⟩
structure TeA (w : World) (hs : List (List UInt8)) (l : List (Int × Int)) (A : Option Addr) (n c : Nat) (Ar : Option Addr) (nr cr : Nat) (lv : Int) (A2 : Option Addr) (c2 : Nat) (Ar2 : Option Addr) (cr2 G Z : Nat) (W : World) : Prop where
  b3 : Blk W w.heap.size 22 #[.slice A n c]
  b5 : Blk W (w.heap.size + 1) 3 #[.int .i64 lv]
  b6 : Blk W (w.heap.size + 1 + 1) 4 #[.bool false]
  src : Hs W (· < w.heap.size) A n c hs
  rs : Rs W (· < w.heap.size) Ar nr cr l
  e1 : Blk W (G + 1) 79 #[.slice Ar2 nr cr2]
  e2 : Blk W G 22 #[.slice A2 n c2]
  eh : Hs W (fun b => G + 1 < b ∧ b < Z) A2 n c2 hs
  er : Rs W (fun b => G + 1 < b ∧ b < Z) Ar2 nr cr2 l
  bel : Below w.heap.size w W
  sz : Z ≤ W.heap.size
  gs : w.heap.size + 1 + 1 + 1 ≤ G
  gz : G + 1 < Z
section
variable {w : World} {hs : List (List UInt8)} {l : List (Int × Int)} {A : Option Addr} {n c : Nat} {Ar : Option Addr} {nr cr : Nat} {lv : Int} {A2 : Option Addr} {c2 : Nat} {Ar2 : Option Addr} {cr2 G Z : Nat} {W W' : World}
theorem TeA.grown {row : Option Nat} (h : TeA w hs l A n c Ar nr cr lv A2 c2 Ar2 cr2 G Z W) (hg : W.grownBy W' row) (hr : ∀ r, row = some r → (w.heap.size + 1 + 1 + 1 ≤ r ∧ r < G) ∨ Z ≤ r) : TeA w hs l A n c Ar nr cr lv A2 c2 Ar2 cr2 G Z W' := by
  have h1 := h.gs
  have h2 := h.gz
  have hlo : ∀ g, g < w.heap.size + 1 + 1 + 1 → some g ≠ row := fun g hg e => by have := hr g e.symm; omega
  have hhi : ∀ g, G ≤ g → g < Z → some g ≠ row := fun g hg h e => by have := hr g e.symm; omega
  exact ⟨h.b3.grown hg (hlo _ (by omega)), h.b5.grown hg (hlo _ (by omega)), h.b6.grown hg (hlo _ (by omega)), h.src.grown hg fun b _ hx => hlo b (by omega), h.rs.grown hg fun b _ hx => hlo b (by omega),
    h.e1.grown hg (hhi _ (by omega) (by omega)), h.e2.grown hg (hhi _ (by omega) (by omega)), h.eh.grown hg fun b _ hx => hhi b (by omega) hx.2, h.er.grown hg fun b _ hx => hhi b (by omega) hx.2,
    h.bel.grown hg h.bel.size fun k e => by have := hr k e; omega, Nat.le_trans h.sz hg.size, h.gs, h.gz⟩
theorem TeA.step (h : TeA w hs l A n c Ar nr cr lv A2 c2 Ar2 cr2 G Z W) (hb : Below W.heap.size W W') : TeA w hs l A n c Ar nr cr lv A2 c2 Ar2 cr2 G Z W' := h.grown (grown_of_below hb none) (fun r e => by cases e)
end
/-- the lent hashes, the lent stretches: rows of one's own -/
structure TeM (M gm n c' : Nat) (Ao : Option Addr) (nr co : Nat) (W : World) : Prop where
  m : ∃ xs, W.ownsRow M 45 32 (.slice (some ⟨gm, 0, none⟩) (n + 1) c') (n + 1) xs
  o : ∃ xs, W.ownsRow M 68 2 (.slice Ao nr co) nr xs
theorem TeM.grown {M gm n c' : Nat} {Ao : Option Addr} {nr co : Nat} {W W' : World} {row : Option Nat} (h : TeM M gm n c' Ao nr co W) (hg : W.grownBy W' row) (h1 : some gm ≠ row) (h2 : (Value.slice Ao nr co).ownBlock = none ∨ (Value.slice Ao nr co).ownBlock ≠ row) : TeM M gm n c' Ao nr co W' :=
  ⟨let ⟨xs, h⟩ := h.m; ⟨xs, h.kept hg (.inr h1)⟩, let ⟨xs, h⟩ := h.o; ⟨xs, h.kept hg h2⟩⟩
theorem TeM.step {M gm n c' : Nat} {Ao : Option Addr} {nr co : Nat} {W W' : World} (h : TeM M gm n c' Ao nr co W) (hb : Below W.heap.size W W') : TeM M gm n c' Ao nr co W' :=
  ⟨let ⟨xs, h⟩ := h.m; ⟨xs, owns_step h hb⟩, let ⟨xs, h⟩ := h.o; ⟨xs, owns_step h hb⟩⟩
theorem own_dec {v : Value} {row : Option Nat} {G Z : Nat} (hv : ∀ g, v.ownBlock = some g → g < G) (hr : ∀ r, row = some r → Z ≤ r) (hGZ : G ≤ Z) : v.ownBlock = none ∨ v.ownBlock ≠ row := by
  cases h : v.ownBlock with
  | none => exact .inl rfl
  | some g => exact .inr fun e => by have := hv g h; have := hr g e.symm; omega
/-- what is wanted, in a box -/
def TeW (gW : Nat) (q : List (Int × Int)) (W : World) : Prop := ∃ v, Blk W gW 79 #[v] ∧ W.ownsRow (gW + 1) 68 2 v q.length (rcells q)
theorem TeW.lt {gW : Nat} {q : List (Int × Int)} {W : World} (h : TeW gW q W) : gW + 1 ≤ W.heap.size := let ⟨_, h1, _⟩ := h; h1.lt
theorem TeW.step {gW : Nat} {q : List (Int × Int)} {W W' : World} (h : TeW gW q W) (hb : Below W.heap.size W W') : TeW gW q W' := let ⟨v, h1, h2⟩ := h; ⟨v, h1.step hb, owns_step h2 hb⟩
theorem TeW.grown {gW : Nat} {q : List (Int × Int)} {W W' : World} {row : Option Nat} (h : TeW gW q W) (hg : W.grownBy W' row) (hr : ∀ r, row = some r → r < gW) : TeW gW q W' :=
  let ⟨v, h1, h2⟩ := h
  ⟨v, h1.grown hg (fun e => by have := hr gW e.symm; omega), h2.kept hg (by
    cases hv : v.ownBlock with
    | none => exact .inl rfl
    | some g => exact .inr fun e => by have := (h2.lt g hv).1; have := hr g e.symm; omega)⟩
/-- one more is wanted -/
theorem TeW.more {gW : Nat} {q : List (Int × Int)} {W : World} {v : Value} (h2 : W.ownsRow (gW + 1) 68 2 v q.length (rcells q)) (hk : Blk W gW 79 #[v]) (x : Int × Int) (hq : q.length ≤ 1000000000) (hs : gW + 1 ≤ W.heap.size) :
    ∃ v' W', (Builtin.append_ #[79, 79] 79 #[v, .slice (some ⟨W.heap.size, 0, none⟩) 1 1]).run Try.prog (W.alloc (.cells #[.int .i64 x.1, .int .i64 x.2] 68)) = .ok v' W' ∧
      Blk W' gW 79 #[v] ∧ W'.ownsRow (gW + 1) 68 2 v' (q.length + 1) (rcells (q ++ [x])) ∧ W.grownBy W' v.ownBlock ∧ Below (gW + 1) W W' ∧ ∀ r, v.ownBlock = some r → gW + 1 ≤ r := by
  obtain ⟨v', W', hr, ho, hg, -⟩ := append_r h2 x hq hs
  refine ⟨v', W', hr, hk.grown hg (fun e => by have := (h2.lt gW e.symm).1; omega), ho, hg, (Below.refl _ _).grown hg hs (fun k e => (h2.lt k e).1), fun r e => (h2.lt r e).1⟩
theorem TeW.own {gW : Nat} {q : List (Int × Int)} {W W' : World} {row : Option Nat} (h : TeW gW q W) (hg : W.grownBy W' row) (hr : ∀ r, row = some r → ∃ o, W.heap[r]? = some o ∧ o.isCells = false) : TeW gW q W' :=
  let ⟨v, h1, h2⟩ := h
  ⟨v, h1.grown hg (fun e => by
    obtain ⟨o, ho, hc⟩ := hr gW e.symm
    rw [show W.heap[gW]? = _ from h1] at ho; cases ho; cases hc), h2.kept hg (by
    rcases h2.2 with ⟨rfl, _⟩ | ⟨g, cap, cur, rfl, _, hb, _⟩
    · exact .inl rfl
    · refine .inr fun e => ?_
      obtain ⟨o, ho, hc⟩ := hr g e.symm
      rw [show W.heap[g]? = _ from hb] at ho; cases ho; cases hc)⟩
/-- another cell is written -/
theorem TeW.cell {gW g : Nat} {q : List (Int × Int)} {W : World} {k : Value} (h : TeW gW q W) (hk : Blk W g 3 #[k]) (hne : g ≠ gW) (u : Value) : TeW gW q (W.setCell ⟨g, 0, none⟩ u) :=
  let ⟨v, h1, h2⟩ := h
  ⟨v, h1.apart (Ne.symm hne) u, h2.kept (grownBy_setCell' W g u) (by
    rcases h2.2 with ⟨rfl, _⟩ | ⟨g', cap, cur, rfl, _, hb, _⟩
    · exact .inl rfl
    · refine .inr fun e => ?_
      have e : g' = g := Option.some.inj e
      subst e
      rw [show W.heap[g']? = _ from hk] at hb
      cases hb)⟩
/-- within the turns: the turn's number, the round's number, the marks so far -/
structure TeQ (w : World) (hs : List (List UInt8)) (l : List (Int × Int)) (A : Option Addr) (n c : Nat) (Ar : Option Addr) (nr cr : Nat) (lv : Int) (A2 : Option Addr) (c2 : Nat) (Ar2 : Option Addr) (cr2 G Z gW gT gk t : Nat) (ds : List Nat) (k : Nat) (W : World) : Prop where
  a : TeA w hs l A n c Ar nr cr lv A2 c2 Ar2 cr2 G Z W
  wn : TeW gW (goodL hs l) W
  bT : Blk W gT 3 #[.int .i64 (t : Int)]
  bk : Blk W gk 3 #[.int .i64 (k : Int)]
  mks : MarksOk w.heap.size ds W
  zW : Z ≤ gW
  wT : gW < gT
  tk : gT < gk
section
variable {w : World} {hs : List (List UInt8)} {l : List (Int × Int)} {A : Option Addr} {n c : Nat} {Ar : Option Addr} {nr cr : Nat} {lv : Int} {A2 : Option Addr} {c2 : Nat} {Ar2 : Option Addr} {cr2 G Z gW gT gk t k B : Nat} {ds : List Nat} {W W' : World}
theorem TeQ.step (h : TeQ w hs l A n c Ar nr cr lv A2 c2 Ar2 cr2 G Z gW gT gk t ds k W) (hb : Below W.heap.size W W') : TeQ w hs l A n c Ar nr cr lv A2 c2 Ar2 cr2 G Z gW gT gk t ds k W' :=
  ⟨h.a.step hb, h.wn.step hb, h.bT.step hb, h.bk.step hb, h.mks.step hb, h.zW, h.wT, h.tk⟩
theorem TeQ.own (hB : gk < B) (hd : ∀ D ∈ ds, D < B) : OwnFrom B (fun k W => TeQ w hs l A n c Ar nr cr lv A2 c2 Ar2 cr2 G Z gW gT gk t ds k W) := fun k X Y row h hg hr => by
  have h1 := h.zW
  have h2 := h.wT
  have h3 := h.tk
  have h4 := h.a.sz
  have hne : ∀ g, g < B → some g ≠ row := fun g hg e => by have := (hr g e.symm).1; omega
  exact ⟨h.a.grown hg (fun r e => .inr (by have := (hr r e).1; omega)), h.wn.own hg (fun r e => (hr r e).2), h.bT.grown hg (hne _ (by omega)), h.bk.grown hg (hne _ hB), h.mks.grown hg (fun D hD => hne _ (hd D hD)), h1, h2, h3⟩
theorem TeQ.setk (h : TeQ w hs l A n c Ar nr cr lv A2 c2 Ar2 cr2 G Z gW gT gk t ds k W) (k' : Nat) : TeQ w hs l A n c Ar nr cr lv A2 c2 Ar2 cr2 G Z gW gT gk t ds k' (W.setCell ⟨gk, 0, none⟩ (.int .i64 (k' : Int))) := by
  have h1 := h.zW
  have h2 := h.wT
  have h3 := h.tk
  exact ⟨h.a.grown (grownBy_setCell' W gk _) (fun r e => by cases e; right; omega), h.wn.cell h.bk (by omega) _, h.bT.apart (by omega) _, h.bk.set_ 0 _, h.mks.cell h.bk _, h1, h2, h3⟩
end
end Go.Proofs.Ytmglkblomklcbaa
