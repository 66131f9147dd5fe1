/- tree.Roots. -/
import Derived.Test.YtfhmjgkcpcnkbaaDoorQf128
import Derived.Test.YtfhmjgkcpcnkbaaDoorQf127
import Derived.Test.YtfhmjgkcpcnkbaaDoorQf114
import Derived.Test.YtfhmjgkcpcnkbaaDoorQf118
namespace Go.Proofs.YtfhmjgkcpcnkbaaDoor
open Go Go.RowKit

theorem owns_some {w : World} {base n s : Nat} {e : TypeId} {v : Value} {xs : List Value} (h : w.ownsRow base e s v n xs) (hn : 0 < n) : ∃ g c, v = .slice (some ⟨g, 0, none⟩) n c := by
  rcases h.2 with ⟨hv, h0⟩ | ⟨g', cap, cur, hv', _⟩
  · omega
  · exact ⟨g', cap, hv'⟩
theorem owns_fewerT {w : World} {base g n m c s : Nat} {e : TypeId} {xs : List Value} (h : w.ownsRow base e s (.slice (some ⟨g, 0, none⟩) m c) m xs) (hn : n ≤ m) :
    w.ownsRow base e s (.slice (some ⟨g, 0, none⟩) n c) n (xs.take (n * s)) := by
  have hl := h.1
  have hns : n * s ≤ m * s := Nat.mul_le_mul_right _ hn
  refine ⟨by rw [List.length_take, hl]; omega, ?_⟩
  rcases h.2 with ⟨hv, _⟩ | ⟨g', cap, cur, hv', hbg, hg, hnc, hcm, hcs, ht⟩
  · cases hv
  · cases hv'
    exact .inr ⟨g, c, cur, rfl, hbg, hg, by omega, hcm, hcs, by rw [← ht, List.take_take, Nat.min_eq_left hns]⟩
/-- one hash more -/
theorem append_hR {w : World} {base : Nat} {v : Value} {l : List (List UInt8)} (h : w.ownsRow base 48 32 v l.length (hcells l)) (x : List UInt8) (hx : x.length = 32) (hn : l.length ≤ 1000000000) (hb : base ≤ w.heap.size) :
    ∃ v' w', (Builtin.append_ #[36, 36] 36 #[v, .slice (some ⟨w.heap.size, 0, none⟩) 1 1]).run Tryd.prog (w.alloc (.cells (hcells [x]).toArray 48)) = .ok v' w' ∧
      w'.ownsRow base 48 32 v' (l ++ [x]).length (hcells (l ++ [x])) ∧ w.grownBy w' v.ownBlock ∧ (v'.ownBlock = v.ownBlock ∨ ∃ k, v'.ownBlock = some k ∧ w.heap.size ≤ k) := by
  have h32 : H32 [x] := by intro h hh; rw [List.mem_singleton.1 hh]; exact hx
  have hbA : Below w.heap.size w (w.alloc (.cells (hcells [x]).toArray 48)) := (Below.refl _ _).alloc (Nat.le_refl _) _
  obtain ⟨v', w', hr, ho, hg, hf⟩ := append_slv (ty := 36) Tryd.underlying36 info26z (by simp [Value.cells]) (by decide) (owns_step h hbA) (Hs.lit w [x] h32 (by simp) 1 rfl).sl (oneB _) (by unfold maxLen; omega) (by omega) (Nat.le_trans hb hbA.size)
  rw [← hcells_append] at ho
  refine ⟨v', w', hr, by rw [List.length_append]; exact ho, ⟨hg.os, hg.tape, hg.output, Nat.le_trans hbA.size hg.size, fun k hk hne => ?_⟩, ?_⟩
  · rw [hg.block k (Nat.lt_of_lt_of_le hk hbA.size) hne, hbA.block k hk]
  · rcases hf with hf | ⟨k, hf, hk⟩
    · exact .inl hf
    · exact .inr ⟨k, hf, by have := hbA.size; omega⟩

/-- between two rounds of the carry -/
def CarryP (hs : List (List UInt8)) (i k t : Nat) (ss : List (List UInt8)) (x : List UInt8) : Prop := k * 2 ^ t + 2 ^ t = i + 1 ∧ ss = rootsL hs (wholeL 0 (k * 2 ^ t)) ∧ x = stretchL hs (k * 2 ^ t) (k * 2 ^ t + 2 ^ t)
theorem CarryP.start (hs : List (List UInt8)) (i : Nat) (h : i < hs.length) : CarryP hs i i 0 (rootsL hs (wholeL 0 i)) (hs.getD i []) := by
  refine ⟨by rw [Nat.pow_zero, Nat.mul_one], by rw [Nat.pow_zero, Nat.mul_one], ?_⟩
  rw [Nat.pow_zero, Nat.mul_one, stretch_one hs i h]
theorem CarryP.next {hs : List (List UInt8)} {i k t : Nat} {ss : List (List UInt8)} {x : List UInt8} (h : CarryP hs i k t ss x) (hk : k % 2 = 1) (hi : i < hs.length) : ∃ ss' y, ss = ss' ++ [y] ∧ CarryP hs i (k / 2) (t + 1) ss' (hNode y x) := by
  obtain ⟨h1, h2, h3⟩ := h
  have hl := whole_low (k - 1) t (by omega)
  have e0 : k * 2 ^ t = (k - 1) * 2 ^ t + 2 ^ t := by
    conv => lhs; rw [show k = (k - 1) + 1 by omega, Nat.add_mul, Nat.one_mul]
  have e1 : k / 2 * 2 ^ (t + 1) = (k - 1) * 2 ^ t := by
    rw [Nat.pow_succ, Nat.mul_comm (2 ^ t) 2, ← Nat.mul_assoc, show k / 2 * 2 = k - 1 by omega]
  have e2 : 2 ^ (t + 1) = 2 ^ t + 2 ^ t := by rw [Nat.pow_succ]; omega
  rw [e0] at h1 h2 h3
  rw [hl, rootsL, List.map_append] at h2
  refine ⟨_, _, h2, ?_⟩
  unfold CarryP
  rw [e1, e2]
  refine ⟨by omega, rfl, ?_⟩
  rw [h3, ← Nat.add_assoc]
  exact (stretch_join hs ((k - 1) * 2 ^ t) t (by omega)).symm
theorem CarryP.done {hs : List (List UInt8)} {i k t : Nat} {ss : List (List UInt8)} {x : List UInt8} (h : CarryP hs i k t ss x) (hk : k % 2 = 0) : ss ++ [x] = rootsL hs (wholeL 0 (i + 1)) := by
  obtain ⟨h1, h2, h3⟩ := h
  have hl := whole_low k t hk
  rw [h1] at hl h3
  rw [hl, rootsL, List.map_append, h2, h3]
  rfl
theorem CarryP.len {hs : List (List UInt8)} {i k t : Nat} {ss : List (List UInt8)} {x : List UInt8} (h : CarryP hs i k t ss x) (h32 : H32 hs) : x.length = 32 := by rw [h.2.2]; exact length_stretchL hs _ _ h32
theorem CarryP.all {hs : List (List UInt8)} {i k t : Nat} {ss : List (List UInt8)} {x : List UInt8} (h : CarryP hs i k t ss x) (h32 : H32 hs) : H32 ss := by rw [h.2.1]; exact rootsL_all hs h32 _

structure RtC (w : World) (A : Option Addr) (n c : Nat) (hs : List (List UInt8)) (ov : Value) (os : List (List UInt8)) (sv : Value) (ss : List (List UInt8)) (W : World) : Prop where
  src : Hs W (fun b => b < w.heap.size) A n c hs
  out : W.ownsRow w.heap.size 48 32 ov os.length (hcells os)
  st : W.ownsRow w.heap.size 48 32 sv ss.length (hcells ss)
  ne : ∀ b, sv.ownBlock = some b → ov.ownBlock = some b → False
  bel : Below w.heap.size w W
section
variable {w : World} {A : Option Addr} {n c : Nat} {hs : List (List UInt8)} {ov sv : Value} {os ss : List (List UInt8)} {W W' : World}
theorem RtC.step (h : RtC w A n c hs ov os sv ss W) (hb : Below W.heap.size W W') : RtC w A n c hs ov os sv ss W' :=
  ⟨h.src.step hb, owns_step h.out hb, owns_step h.st hb, h.ne, h.bel.trans (hb.mono h.bel.size)⟩
theorem RtC.drew (h : RtC w A n c hs ov os sv ss W) : RtC w A n c hs ov os sv ss W.drew := h.step (Below.refl _ _).drew
theorem RtC.appSt (h : RtC w A n c hs ov os sv ss W) {v' : Value} {x : List UInt8} (hg : W.grownBy W' sv.ownBlock) (hf : v'.ownBlock = sv.ownBlock ∨ ∃ k, v'.ownBlock = some k ∧ W.heap.size ≤ k)
    (ho : W'.ownsRow w.heap.size 48 32 v' (ss ++ [x]).length (hcells (ss ++ [x]))) : RtC w A n c hs ov os v' (ss ++ [x]) W' := by
  refine ⟨h.src.grown hg ?_, h.out.kept hg ?_, ho, ?_, h.bel.grown hg h.bel.size fun k hk => (h.st.lt k hk).1⟩
  · intro b _ hx e; have := (h.st.lt _ e.symm).1; omega
  · cases e : ov.ownBlock with
    | none => exact .inl rfl
    | some b => exact .inr fun e2 => h.ne b e2.symm e
  · intro b h1 h2
    rcases hf with hf | ⟨k, hf, hk⟩
    · exact h.ne b (hf ▸ h1) h2
    · rw [hf] at h1; cases h1; have := (h.out.lt _ h2).2; omega
theorem RtC.appOut (h : RtC w A n c hs ov os sv ss W) {v' : Value} {x : List UInt8} (hg : W.grownBy W' ov.ownBlock) (hf : v'.ownBlock = ov.ownBlock ∨ ∃ k, v'.ownBlock = some k ∧ W.heap.size ≤ k)
    (ho : W'.ownsRow w.heap.size 48 32 v' (os ++ [x]).length (hcells (os ++ [x]))) : RtC w A n c hs v' (os ++ [x]) sv ss W' := by
  refine ⟨h.src.grown hg ?_, ho, h.st.kept hg ?_, ?_, h.bel.grown hg h.bel.size fun k hk => (h.out.lt k hk).1⟩
  · intro b _ hx e; have := (h.out.lt _ e.symm).1; omega
  · cases e : sv.ownBlock with
    | none => exact .inl rfl
    | some b => exact .inr fun e2 => h.ne b e e2.symm
  · intro b h1 h2
    rcases hf with hf | ⟨k, hf, hk⟩
    · exact h.ne b h1 (hf ▸ h2)
    · rw [hf] at h2; cases h2; have := (h.st.lt _ h1).2; omega
theorem RtC.setRow (h : RtC w A n c hs ov os sv ss W) {g : Nat} (cs : Array Value) (hg : w.heap.size ≤ g) (h1 : sv.ownBlock ≠ some g) (h2 : ov.ownBlock ≠ some g) : RtC w A n c hs ov os sv ss (W.setRow g cs) := by
  have hgr : W.grownBy (W.setRow g cs) (some g) := grown_setRow ⟨rfl, rfl, rfl, Nat.le_refl _, fun _ _ _ => rfl⟩ cs
  exact ⟨h.src.setRow g cs (by omega), h.out.kept hgr (.inr h2), h.st.kept hgr (.inr h1), h.ne, below_setRow h.bel hg _⟩
/-- the last of the stack goes -/
theorem RtC.pop {g p c' : Nat} {y : List UInt8} (h : RtC w A n c hs ov os (.slice (some ⟨g, 0, none⟩) (p + 1) c') (ss ++ [y]) W) (hl : ss.length = p) (h32 : H32 (ss ++ [y])) : RtC w A n c hs ov os (.slice (some ⟨g, 0, none⟩) p c') ss W := by
  refine ⟨h.src, h.out, ?_, fun b h1 h2 => h.ne b h1 h2, h.bel⟩
  have h1 := h.st
  rw [show (ss ++ [y]).length = p + 1 by rw [List.length_append, hl]; rfl] at h1
  have h2 := owns_fewerT (n := p) h1 (by omega)
  rw [hcells_take _ h32 p (by rw [List.length_append, hl]; simp), show (ss ++ [y]).take p = ss by rw [← hl]; simp] at h2
  rw [hl]
  exact h2
end

end Go.Proofs.YtfhmjgkcpcnkbaaDoor
/- What is known between the statements of notarylaw09.TreeEach. -/
namespace Go.Proofs.YtfhmjgkcpcnkbaaDoor
open Go Go.RowKit

theorem grownBy_setRowE (W : World) (g : Nat) (cs : Array Value) : W.grownBy (W.setRow g cs) (some g) := ⟨rfl, rfl, rfl, by simp, fun k _ hne => setRow_other W g k cs (fun e => hne (by rw [e]))⟩
structure TeA (w : World) (hs : List (List UInt8)) (l : List (Int × Int)) (A : Option Addr) (n c : Nat) (Ar : Option Addr) (nr cr : Nat) (lv : Int) (A2 : Option Addr) (c2 : Nat) (Ar2 : Option Addr) (cr2 G Z : Nat) (W : World) : Prop where
  b3 : Blk W w.heap.size 36 #[.slice A n c]
  b5 : Blk W (w.heap.size + 1) 3 #[.int .i64 lv]
  b6 : Blk W (w.heap.size + 1 + 1) 4 #[.bool false]
  src : Hs W (· < w.heap.size) A n c hs
  rs : Rs W (· < w.heap.size) Ar nr cr l
  e1 : Blk W (G + 1) 107 #[.slice Ar2 nr cr2]
  e2 : Blk W G 36 #[.slice A2 n c2]
  eh : Hs W (fun b => G + 1 < b ∧ b < Z) A2 n c2 hs
  er : Rs W (fun b => G + 1 < b ∧ b < Z) Ar2 nr cr2 l
  bel : Below w.heap.size w W
  sz : Z ≤ W.heap.size
  gs : w.heap.size + 1 + 1 + 1 ≤ G
  gz : G + 1 < Z
section
variable {w : World} {hs : List (List UInt8)} {l : List (Int × Int)} {A : Option Addr} {n c : Nat} {Ar : Option Addr} {nr cr : Nat} {lv : Int} {A2 : Option Addr} {c2 : Nat} {Ar2 : Option Addr} {cr2 G Z : Nat} {W W' : World}
theorem TeA.grown {row : Option Nat} (h : TeA w hs l A n c Ar nr cr lv A2 c2 Ar2 cr2 G Z W) (hg : W.grownBy W' row) (hr : ∀ r, row = some r → (w.heap.size + 1 + 1 + 1 ≤ r ∧ r < G) ∨ Z ≤ r) : TeA w hs l A n c Ar nr cr lv A2 c2 Ar2 cr2 G Z W' := by
  have h1 := h.gs
  have h2 := h.gz
  have hlo : ∀ g, g < w.heap.size + 1 + 1 + 1 → some g ≠ row := fun g hg e => by have := hr g e.symm; omega
  have hhi : ∀ g, G ≤ g → g < Z → some g ≠ row := fun g hg h e => by have := hr g e.symm; omega
  exact ⟨h.b3.grown hg (hlo _ (by omega)), h.b5.grown hg (hlo _ (by omega)), h.b6.grown hg (hlo _ (by omega)), h.src.grown hg fun b _ hx => hlo b (by omega), h.rs.grown hg fun b _ hx => hlo b (by omega),
    h.e1.grown hg (hhi _ (by omega) (by omega)), h.e2.grown hg (hhi _ (by omega) (by omega)), h.eh.grown hg fun b _ hx => hhi b (by omega) hx.2, h.er.grown hg fun b _ hx => hhi b (by omega) hx.2,
    h.bel.grown hg h.bel.size fun k e => by have := hr k e; omega, Nat.le_trans h.sz hg.size, h.gs, h.gz⟩
theorem TeA.step (h : TeA w hs l A n c Ar nr cr lv A2 c2 Ar2 cr2 G Z W) (hb : Below W.heap.size W W') : TeA w hs l A n c Ar nr cr lv A2 c2 Ar2 cr2 G Z W' := h.grown (grown_of_below hb none) (fun r e => by cases e)
end
/-- the lent hashes, the lent stretches: rows of one's own -/
structure TeM (M gm n c' : Nat) (Ao : Option Addr) (nr co : Nat) (W : World) : Prop where
  m : ∃ xs, W.ownsRow M 48 32 (.slice (some ⟨gm, 0, none⟩) (n + 1) c') (n + 1) xs
  o : ∃ xs, W.ownsRow M 96 2 (.slice Ao nr co) nr xs
theorem TeM.grown {M gm n c' : Nat} {Ao : Option Addr} {nr co : Nat} {W W' : World} {row : Option Nat} (h : TeM M gm n c' Ao nr co W) (hg : W.grownBy W' row) (h1 : some gm ≠ row) (h2 : (Value.slice Ao nr co).ownBlock = none ∨ (Value.slice Ao nr co).ownBlock ≠ row) : TeM M gm n c' Ao nr co W' :=
  ⟨let ⟨xs, h⟩ := h.m; ⟨xs, h.kept hg (.inr h1)⟩, let ⟨xs, h⟩ := h.o; ⟨xs, h.kept hg h2⟩⟩
theorem TeM.step {M gm n c' : Nat} {Ao : Option Addr} {nr co : Nat} {W W' : World} (h : TeM M gm n c' Ao nr co W) (hb : Below W.heap.size W W') : TeM M gm n c' Ao nr co W' :=
  ⟨let ⟨xs, h⟩ := h.m; ⟨xs, owns_step h hb⟩, let ⟨xs, h⟩ := h.o; ⟨xs, owns_step h hb⟩⟩
theorem own_dec {v : Value} {row : Option Nat} {G Z : Nat} (hv : ∀ g, v.ownBlock = some g → g < G) (hr : ∀ r, row = some r → Z ≤ r) (hGZ : G ≤ Z) : v.ownBlock = none ∨ v.ownBlock ≠ row := by
  cases h : v.ownBlock with
  | none => exact .inl rfl
  | some g => exact .inr fun e => by have := hv g h; have := hr g e.symm; omega
/-- what is wanted, in a box -/
def TeW (gW : Nat) (q : List (Int × Int)) (W : World) : Prop := ∃ v, Blk W gW 107 #[v] ∧ W.ownsRow (gW + 1) 96 2 v q.length (rcells q)
theorem TeW.lt {gW : Nat} {q : List (Int × Int)} {W : World} (h : TeW gW q W) : gW + 1 ≤ W.heap.size := let ⟨_, h1, _⟩ := h; h1.lt
theorem TeW.step {gW : Nat} {q : List (Int × Int)} {W W' : World} (h : TeW gW q W) (hb : Below W.heap.size W W') : TeW gW q W' := let ⟨v, h1, h2⟩ := h; ⟨v, h1.step hb, owns_step h2 hb⟩
theorem TeW.grown {gW : Nat} {q : List (Int × Int)} {W W' : World} {row : Option Nat} (h : TeW gW q W) (hg : W.grownBy W' row) (hr : ∀ r, row = some r → r < gW) : TeW gW q W' :=
  let ⟨v, h1, h2⟩ := h
  ⟨v, h1.grown hg (fun e => by have := hr gW e.symm; omega), h2.kept hg (by
    cases hv : v.ownBlock with
    | none => exact .inl rfl
    | some g => exact .inr fun e => by have := (h2.lt g hv).1; have := hr g e.symm; omega)⟩
/-- one more is wanted -/
theorem TeW.more {gW : Nat} {q : List (Int × Int)} {W : World} {v : Value} (h2 : W.ownsRow (gW + 1) 96 2 v q.length (rcells q)) (hk : Blk W gW 107 #[v]) (x : Int × Int) (hq : q.length ≤ 1000000000) (hs : gW + 1 ≤ W.heap.size) :
    ∃ v' W', (Builtin.append_ #[107, 107] 107 #[v, .slice (some ⟨W.heap.size, 0, none⟩) 1 1]).run Tryd.prog (W.alloc (.cells #[.int .i64 x.1, .int .i64 x.2] 96)) = .ok v' W' ∧
      Blk W' gW 107 #[v] ∧ W'.ownsRow (gW + 1) 96 2 v' (q.length + 1) (rcells (q ++ [x])) ∧ W.grownBy W' v.ownBlock ∧ Below (gW + 1) W W' ∧ ∀ r, v.ownBlock = some r → gW + 1 ≤ r := by
  obtain ⟨v', W', hr, ho, hg, -⟩ := append_r h2 x hq hs
  refine ⟨v', W', hr, hk.grown hg (fun e => by have := (h2.lt gW e.symm).1; omega), ho, hg, (Below.refl _ _).grown hg hs (fun k e => (h2.lt k e).1), fun r e => (h2.lt r e).1⟩
theorem TeW.own {gW : Nat} {q : List (Int × Int)} {W W' : World} {row : Option Nat} (h : TeW gW q W) (hg : W.grownBy W' row) (hr : ∀ r, row = some r → ∃ o, W.heap[r]? = some o ∧ o.isCells = false) : TeW gW q W' :=
  let ⟨v, h1, h2⟩ := h
  ⟨v, h1.grown hg (fun e => by
    obtain ⟨o, ho, hc⟩ := hr gW e.symm
    rw [show W.heap[gW]? = _ from h1] at ho; cases ho; cases hc), h2.kept hg (by
    rcases h2.2 with ⟨rfl, _⟩ | ⟨g, cap, cur, rfl, _, hb, _⟩
    · exact .inl rfl
    · refine .inr fun e => ?_
      obtain ⟨o, ho, hc⟩ := hr g e.symm
      rw [show W.heap[g]? = _ from hb] at ho; cases ho; cases hc)⟩
/-- another cell is written -/
theorem TeW.cell {gW g : Nat} {q : List (Int × Int)} {W : World} {k : Value} (h : TeW gW q W) (hk : Blk W g 3 #[k]) (hne : g ≠ gW) (u : Value) : TeW gW q (W.setCell ⟨g, 0, none⟩ u) :=
  let ⟨v, h1, h2⟩ := h
  ⟨v, h1.apart (Ne.symm hne) u, h2.kept (grownBy_setCell' W g u) (by
    rcases h2.2 with ⟨rfl, _⟩ | ⟨g', cap, cur, rfl, _, hb, _⟩
    · exact .inl rfl
    · refine .inr fun e => ?_
      have e : g' = g := Option.some.inj e
      subst e
      rw [show W.heap[g']? = _ from hk] at hb
      cases hb)⟩
/-- within the turns: the turn's number, the round's number, the marks so far -/
structure TeQ (w : World) (hs : List (List UInt8)) (l : List (Int × Int)) (A : Option Addr) (n c : Nat) (Ar : Option Addr) (nr cr : Nat) (lv : Int) (A2 : Option Addr) (c2 : Nat) (Ar2 : Option Addr) (cr2 G Z gW gT gk t : Nat) (ds : List Nat) (k : Nat) (W : World) : Prop where
  a : TeA w hs l A n c Ar nr cr lv A2 c2 Ar2 cr2 G Z W
  wn : TeW gW (goodL hs l) W
  bT : Blk W gT 3 #[.int .i64 (t : Int)]
  bk : Blk W gk 3 #[.int .i64 (k : Int)]
  mks : MarksOk w.heap.size ds W
  zW : Z ≤ gW
  wT : gW < gT
  tk : gT < gk
section
variable {w : World} {hs : List (List UInt8)} {l : List (Int × Int)} {A : Option Addr} {n c : Nat} {Ar : Option Addr} {nr cr : Nat} {lv : Int} {A2 : Option Addr} {c2 : Nat} {Ar2 : Option Addr} {cr2 G Z gW gT gk t k B : Nat} {ds : List Nat} {W W' : World}
theorem TeQ.step (h : TeQ w hs l A n c Ar nr cr lv A2 c2 Ar2 cr2 G Z gW gT gk t ds k W) (hb : Below W.heap.size W W') : TeQ w hs l A n c Ar nr cr lv A2 c2 Ar2 cr2 G Z gW gT gk t ds k W' :=
  ⟨h.a.step hb, h.wn.step hb, h.bT.step hb, h.bk.step hb, h.mks.step hb, h.zW, h.wT, h.tk⟩
theorem TeQ.own (hB : gk < B) (hd : ∀ D ∈ ds, D < B) : OwnFrom B (fun k W => TeQ w hs l A n c Ar nr cr lv A2 c2 Ar2 cr2 G Z gW gT gk t ds k W) := fun k X Y row h hg hr => by
  have h1 := h.zW
  have h2 := h.wT
  have h3 := h.tk
  have h4 := h.a.sz
  have hne : ∀ g, g < B → some g ≠ row := fun g hg e => by have := (hr g e.symm).1; omega
  exact ⟨h.a.grown hg (fun r e => .inr (by have := (hr r e).1; omega)), h.wn.own hg (fun r e => (hr r e).2), h.bT.grown hg (hne _ (by omega)), h.bk.grown hg (hne _ hB), h.mks.grown hg (fun D hD => hne _ (hd D hD)), h1, h2, h3⟩
theorem TeQ.setk (h : TeQ w hs l A n c Ar nr cr lv A2 c2 Ar2 cr2 G Z gW gT gk t ds k W) (k' : Nat) : TeQ w hs l A n c Ar nr cr lv A2 c2 Ar2 cr2 G Z gW gT gk t ds k' (W.setCell ⟨gk, 0, none⟩ (.int .i64 (k' : Int))) := by
  have h1 := h.zW
  have h2 := h.wT
  have h3 := h.tk
  exact ⟨h.a.grown (grownBy_setCell' W gk _) (fun r e => by cases e; right; omega), h.wn.cell h.bk (by omega) _, h.bT.apart (by omega) _, h.bk.set_ 0 _, h.mks.cell h.bk _, h1, h2, h3⟩
end
end Go.Proofs.YtfhmjgkcpcnkbaaDoor
/- cons.Prove. -/
namespace Go.Proofs.YtfhmjgkcpcnkbaaDoor
open Go Go.RowKit Go.Shelf
attribute [local go_sem] Oper.semAt_some

/-- between two rounds: what has come so far, in its box -/
structure CpI (w : World) (g8 n₁ : Nat) (q : List (List UInt8)) (W : World) : Prop where
  own : ∃ v, Blk W g8 36 #[v] ∧ W.ownsRow n₁ 48 32 v q.length (hcells q)
  bel : Below w.heap.size w W
theorem CpI.step {w W W' : World} {g8 n₁ : Nat} {q : List (List UInt8)} (h : CpI w g8 n₁ q W) (hb : Below W.heap.size W W') : CpI w g8 n₁ q W' :=
  ⟨let ⟨v, h1, h2⟩ := h.own; ⟨v, h1.step hb, owns_step h2 hb⟩, h.bel.trans (hb.mono h.bel.size)⟩
theorem CpI.grown {w W W' : World} {g8 n₁ : Nat} {q : List (List UInt8)} {row : Option Nat} (h : CpI w g8 n₁ q W) (hg : W.grownBy W' row) (hr : ∀ r, row = some r → w.heap.size ≤ r ∧ ∃ o, W.heap[r]? = some o ∧ o.isCells = false) : CpI w g8 n₁ q W' :=
  ⟨let ⟨v, h1, h2⟩ := h.own
   ⟨v, h1.grown hg (fun e => by
      obtain ⟨_, o, ho, hc⟩ := hr g8 e.symm
      rw [show W.heap[g8]? = _ from h1] at ho; cases ho; cases hc), h2.kept hg (by
      rcases h2.2 with ⟨rfl, _⟩ | ⟨g, cap, cur, rfl, _, hb, _⟩
      · exact .inl rfl
      · refine .inr fun e => ?_
        obtain ⟨_, o, ho, hc⟩ := hr g e.symm
        rw [show W.heap[g]? = _ from hb] at ho; cases ho; cases hc)⟩, h.bel.grown hg h.bel.size fun k e => (hr k e).1⟩
theorem CpI.own_ {w : World} {g8 n₁ B : Nat} (f : Nat → List (List UInt8)) (hB : w.heap.size ≤ B) : OwnFrom B (fun k W => CpI w g8 n₁ (f k) W) := fun _ _ _ _ h hg hr => h.grown hg fun r e => ⟨Nat.le_trans hB (hr r e).1, (hr r e).2⟩
theorem owns_cells {W : World} {base n s r : Nat} {e : TypeId} {v : Value} {xs : List Value} (h : W.ownsRow base e s v n xs) (hv : v.ownBlock = some r) : ∃ o, W.heap[r]? = some o ∧ o.isCells = true := by
  rcases h.2 with ⟨rfl, _⟩ | ⟨g, cap, cur, rfl, _, hb, _⟩
  · cases hv
  · cases hv
    exact ⟨_, hb, rfl⟩
theorem run_litH_op {ρ : Operand → Value} {o : Oper} (x : List UInt8) (hx : x.length = 32) (y : Operand) (ho : o.op = .buildSlice 36 1 #[(0, y)]) (hy : ρ y = .agg (x.map B).toArray) (W : World) :
    (execOp ρ o).run Tryd.prog W = .ok (.value (.slice (some ⟨W.heap.size, 0, none⟩) 1 1)) (W.alloc (.cells (hcells [x]).toArray 48)) :=
  run_lit_op [x] (fun h hh => by rw [List.mem_singleton.1 hh]; exact hx) (by simp) (by simp) 1 _ ho (by simp [hy]) rfl W

set_option maxHeartbeats 4000000 in
set_option maxRecDepth 100000 in
theorem cprove_any (hs : List (List UInt8)) (A : Option Addr) (n c : Nat) (w : World) (m : Int) (h : Hs w (fun _ => True) A n c hs) (hn : n ≤ 1099511627776) :
    Calls Tryd.prog 34 #[.slice A n c, .int .i64 m] w fun e w' => ∃ v, e = .returned (.tuple #[v, .int .i64 (stepsA m hs.length).2]) ∧ w'.ownsRow w.heap.size 48 32 v (rootsS hs m).length (hcells (rootsS hs m)) ∧ Below w.heap.size w w' := by
  have hlen := h.len
  have h32 := h.all
  have hroom := h.sl.room
  have hmx := h.sl.max
  unfold maxLen at hmx
  have hst := tstepsA_any m (n : Int) w (by omega)
  obtain ⟨⟨ls, e0⟩, hse⟩ : ∃ s, stepsA m (n : Int) = s := ⟨_, rfl⟩
  rw [hse] at hst
  dsimp only at hst
  have hlm : ls.length ≤ 64 := by have := stepsA_len m (n : Int) (by omega); rw [hse] at this; exact this
  have Hlen := Lib.hid hlen
  have H32h := Lib.hid h32
  have Hst := Lib.hid hst
  rw [hlen, hse]
  dsimp only
  by_cases he0 : e0 = 0
  · subst he0
    have hgood := steps_good hs m
    have hlr := length_rootsS hs m
    have hat := rootsS_at hs m
    rw [hlen, hse] at hgood hlr hat
    dsimp only at hgood hlr hat
    obtain ⟨rs, hrs⟩ : ∃ rs, rootsS hs m = rs := ⟨_, rfl⟩
    have hr32 : H32 rs := by rw [← hrs]; exact rootsS_all hs h32 m
    rw [hrs] at hlr hat ⊢
    have Hgood := Lib.hid hgood
    have Hlr := Lib.hid hlr
    have Hat := Lib.hid hat
    have Hr32 := Lib.hid hr32
    have Hse := Lib.hid hse
    clear hlen h32 hst hgood hlr hat hr32 hrs hse
    refine (callsIn_wide (n := 5)).1 ?_
    refine callsIn_of_wp_marks Tryd.func34 rfl trivial ?_ rfl
    simp only [Tryd.ntmps34, List.size_toArray, List.length_cons, List.length_nil, Nat.reduceAdd, Nat.reduceSub, Array.replicate_succ, Array.replicate_zero, List.push_toArray, List.append_toArray, List.nil_append, List.cons_append]
    refine wpIn_wide.2 ?_
    go_wp2_with fail
    refine Hst.out.mono ?_
    rintro e w1 ⟨vs, rfl, hP⟩
    obtain ⟨As, cs, rfl, hrs1⟩ := Rs.of_owns hP.own (length_natR ls)
    have hb1 := hP.bel
    have hroom1 := hrs1.sl.room
    have hmx1 := hrs1.sl.max
    unfold maxLen at hmx1
    have h1 := h.step hb1
    have k8 : Blk (w1.alloc (.cells #[.slice none 0 0] 36)) w1.heap.size 36 #[.slice none 0 0] := Blk.new _ _ _
    have hb8 : Below w.heap.size w (w1.alloc (.cells #[.slice none 0 0] 36)) := hb1.alloc hb1.size _
    have hb18 : Below w1.heap.size w1 (w1.alloc (.cells #[.slice none 0 0] 36)) := (Below.refl _ _).alloc (Nat.le_refl _) _
    have h2 := h1.step hb18
    have hrs2 := hrs1.step hb18
    have hs12 := hb1.size
    clear h hP h1 hrs1 hb18 hb1
    have hsz2 : (w1.alloc (.cells #[.slice none 0 0] 36)).heap.size = w1.heap.size + 1 := by simp
    go_wp2_with fail
    generalize w1.alloc (.cells #[.slice none 0 0] 36) = W2 at *
    generalize w1.heap.size = g8 at *
    refine (each_any hs (natR ls) A n c As ls.length cs W2 h2 (hrs2.weak fun _ _ _ => trivial) (by omega) (by omega)).mono ?_
    rintro e W3 ⟨A2, c2, Ar2, cr2, rfl, e1, e2, eh, er, hb3⟩
    have hI0 : ∀ n₁, CpI w g8 n₁ [] W3 := fun n₁ => ⟨⟨_, k8.step hb3, World.ownsRow_nil _ _ _ _⟩, hb8.trans (hb3.mono hb8.size)⟩
    have hsz3 := hb3.size
    have hG := e1.lt
    clear h2 hrs2 k8 hb8 hb3
    rw [hsz2] at e1 e2 eh er hsz3 hG
    go_wp2_with fail
    refine wp_range_U (gf := 75) (lb := #[.pointer (some ⟨g8 + 1 + 1, 0, none⟩), .pointer (some ⟨g8 + 1, 0, none⟩)]) rfl (enters_of Tryd.func75 (by kernel_rfl) rfl)
      (each1_seq hs (natR ls) A2 n c2 Ar2 ls.length cr2 (g8 + 1 + 1) (g8 + 1) (· = g8) W3 e1 e2 (eh.weak fun b _ hb e => by have hb : g8 + 1 + 1 < b := hb; have e : b = g8 := e; omega) (er.weak fun b _ hb e => by have hb : g8 + 1 + 1 < b := hb; have e : b = g8 := e; omega) (by intro e; omega) (fun b hb => by have hb : b = g8 := hb; omega) (by omega) (by omega))
      (fun n₁ k vs W h => by rw [show vs = _ from h]; rfl)
      (fun n₁ k => CpI w g8 n₁ (rs.take k)) (fun _ _ _ _ => False) (fun n₁ => CpI.own_ (fun k => rs.take k) (by omega)) (fun _ _ _ _ _ _ h _ _ => h.elim) (fun n₁ _ => by simpa using hI0 n₁) ?round ?done ?stop
    case round =>
      clear hI0 e1 e2 eh er
      intro li n₁ k vs X hl hln hnX hk hI hy
      subst hy
      rw [Hgood.out, length_natR] at hk
      rw [Hgood.out, Hat.out k hk]
      have htk := take_snocH rs k (by rw [Hlr.out]; exact hk)
      have hzl := Hr32.out.getD k (by rw [Hlr.out]; exact hk)
      have hlen : (rs.take k).length ≤ 64 := by rw [List.length_take, Hlr.out]; omega
      generalize rs.getD k [] = z at hzl htk ⊢
      generalize (natR ls).getD k (0, 0) = x
      obtain ⟨x1, x2⟩ := x
      dsimp only [rval]
      have Htk := Lib.hid htk
      have Hzl := Lib.hid hzl
      clear htk hzl
      refine wpIn_region_lit ?_
      go_simp
      refine wpListIn_of2 (openR li) rfl ?_
      refine wpList_hvar (.tmp 10) (.tmp 25) rfl rfl rfl rfl rfl rfl Hzl.out ?_
      intro X1 k10 hb10
      refine thenN_nil ?_
      simp only [Act.put]
      gi_wp2
      refine ⟨KeepU.below hb10, ?_⟩
      intro X2 hturn
      have hI2 := hturn.own (CpI.own_ (w := w) (g8 := g8) (n₁ := n₁) (fun k => rs.take k) (show w.heap.size ≤ W3.heap.size by omega)) (hI.step hb10)
      have k10' : HV X2 X.heap.size z := ⟨hturn.blk k10.blk, Hzl.out⟩
      have hnX2 : n₁ ≤ X2.heap.size := by rw [hturn.size]; exact Nat.le_trans hnX hb10.size
      clear hI k10 hb10 hturn hnX
      generalize X.heap.size = g10 at k10' ⊢
      obtain ⟨⟨v, k8, hov⟩, hbel⟩ := hI2
      generalize hq : rs.take k = q at *
      obtain ⟨v', W9, hr9, hv9, hg9, -⟩ := append_hR hov z Hzl.out (by omega) hnX2
      obtain ⟨gv, cv, rfl⟩ := owns_some hv9 (by simp)
      have hge9 : ∀ r, v.ownBlock = some r → n₁ ≤ r := fun r e => (hov.lt r e).1
      have k89 : Blk W9 g8 36 #[v] := k8.grown hg9 (fun e => by have := hge9 _ e.symm; omega)
      have c8 : X2.cell? ⟨g8, 0, none⟩ = some v := by rw [k8.cell]; rfl
      have c89 : W9.cell? ⟨g8, 0, none⟩ = some v := by rw [k89.cell]; rfl
      have f89 := k89.frozen 0
      have Hr9 := Lib.hid hr9
      clear hr9
      gi_wp2_with (first
        | ((with_reducible show wpListIn _ _ _ _ _ (⟨some 27, .load _ _, _, _, _, _⟩ :: _) _ _); refine wpListIn_of1 (openR li) rfl ?_; refine wpList_hload (.tmp 10) (by kernel_rfl) rfl k10' rfl ?_; refine thenN_nil ?_; simp only [Act.put])
        | ((with_reducible show wpListIn _ _ _ _ _ (⟨some 28, .buildSlice _ _ _, _, _, _, _⟩ :: _) _ _); refine wpListIn_of1 (openR li) rfl ?_; refine wpList_run rfl _ _ (run_litH_op z Hzl.out (.tmp 27) rfl rfl _) ?_; refine thenN_nil ?_; simp only [Act.put])
        | ((with_reducible show wpListIn _ _ _ _ _ (⟨some 29, .call _, _, _, _, _⟩ :: _) _ _); refine wpListIn_of1 (openR li) rfl ?_; refine wpList_run rfl _ W9 (run_append_op (.tmp 26) (.tmp 28) 36 rfl _ _ rfl rfl Hr9.out) ?_; refine thenN_nil ?_; simp only [Act.put]))
      have hl : (q ++ [z]).length = q.length + 1 := by simp
      rw [hl] at hv9
      have hgn := (hv9.lt gv rfl).1
      refine ⟨(KeepU.grown hg9 (fun r e => ⟨.inl (hge9 r e), owns_cells hov e⟩)).trans (KeepU.setCell (U := (· = g8)) k89 (.inr rfl) 0 _), ⟨_, k89.set_ 0 _, ?_⟩, (hbel.grown hg9 hbel.size (fun r e => by have := hge9 r e; omega)).setCell (by show w.heap.size ≤ g8; omega) _⟩
      rw [Htk.out, hl]
      exact hv9.kept (grownBy_setCell' W9 g8 _) (.inr (fun e => by have e : gv = g8 := Option.some.inj e; omega))
    case done =>
      clear hI0 e1 e2 eh er
      intro D n₁ X hD hDn hI hK
      rw [Hgood.out, length_natR, List.take_of_length_le (by rw [Hlr.out]; exact Nat.le_refl _)] at hI
      obtain ⟨⟨v, k8, hov⟩, hbel⟩ := hI
      have c8 : X.cell? ⟨g8, 0, none⟩ = some v := by rw [k8.cell]; rfl
      go_wp2_with fail
      refine leaves_marks (N := w.heap.size) [D] _ ((MarksOk.nil _ _).cons (by omega) hK (by simp)) fun w' ht => ⟨_, results_tmp2 rfl _ _ _, v, rfl, ?_, hbel.trans ht.bel⟩
      refine owns_le (b := n₁) ?_ (by omega)
      rcases hov.2 with ⟨rfl, h0⟩ | ⟨g, cap, cur, rfl, hb, hc, r1, r2, r3, r4⟩
      · exact ⟨hov.1, .inl ⟨rfl, h0⟩⟩
      · exact ⟨hov.1, .inr ⟨g, cap, cur, rfl, hb, ht.blk _ _ _ hc, r1, r2, r3, r4⟩⟩
    case stop =>
      rintro D n₁ cd k X hD hDn hk h hK
      exact h.elim
  · have hb0 : rootsS hs m = [] := rootsS_bad hs m (by rw [hlen, hse]; exact he0)
    rw [hb0]
    have hne : (e0 != 0) = true := by simpa using he0
    clear hlen h32 hst hse he0 hb0
    refine (callsIn_wide (n := 5)).1 ?_
    refine callsIn_of_wp_marks Tryd.func34 rfl trivial ?_ rfl
    simp only [Tryd.ntmps34, List.size_toArray, List.length_cons, List.length_nil, Nat.reduceAdd, Nat.reduceSub, Array.replicate_succ, Array.replicate_zero, List.push_toArray, List.append_toArray, List.nil_append, List.cons_append]
    refine wpIn_wide.2 ?_
    go_wp2_with fail
    refine Hst.out.mono ?_
    rintro e w1 ⟨vs, rfl, hP⟩
    obtain ⟨As, cs, rfl, -⟩ := Rs.of_owns hP.own (length_natR ls)
    have hb1 := hP.bel
    clear hP
    go_wp2_with fail
    refine leaves_marks (N := w.heap.size) [] _ (MarksOk.nil _ _) fun w' ht => ⟨_, results_tmp2 rfl _ _ _, _, rfl, World.ownsRow_nil _ _ _ _, hb1.trans ht.bel⟩
end Go.Proofs.YtfhmjgkcpcnkbaaDoor
/- incl.Prove. -/
namespace Go.Proofs.YtfhmjgkcpcnkbaaDoor
open Go Go.RowKit Go.Shelf
attribute [local go_sem] Oper.semAt_some

set_option maxHeartbeats 4000000 in
set_option maxRecDepth 100000 in
theorem iprove_any (hs : List (List UInt8)) (A : Option Addr) (n c : Nat) (w : World) (m : Int) (h : Hs w (fun _ => True) A n c hs) (hn : n ≤ 1099511627776) :
    Calls Tryd.prog 32 #[.slice A n c, .int .i64 m] w fun e w' => ∃ v, e = .returned (.tuple #[v, .int .i64 (pathA m hs.length).2]) ∧ w'.ownsRow w.heap.size 48 32 v (rootsP hs m).length (hcells (rootsP hs m)) ∧ Below w.heap.size w w' := by
  have hlen := h.len
  have h32 := h.all
  have hroom := h.sl.room
  have hmx := h.sl.max
  unfold maxLen at hmx
  have hst := tpathA_any m (n : Int) w (by omega)
  obtain ⟨⟨ls, e0⟩, hse⟩ : ∃ s, pathA m (n : Int) = s := ⟨_, rfl⟩
  rw [hse] at hst
  dsimp only at hst
  have hlm : ls.length ≤ 64 := by have := pathA_len m (n : Int) (by omega); rw [hse] at this; exact this
  have Hlen := Lib.hid hlen
  have H32h := Lib.hid h32
  have Hst := Lib.hid hst
  rw [hlen, hse]
  dsimp only
  by_cases he0 : e0 = 0
  · subst he0
    have hgood := path_good hs m
    have hlr := length_rootsP hs m
    have hat := rootsP_at hs m
    rw [hlen, hse] at hgood hlr hat
    dsimp only at hgood hlr hat
    obtain ⟨rs, hrs⟩ : ∃ rs, rootsP hs m = rs := ⟨_, rfl⟩
    have hr32 : H32 rs := by rw [← hrs]; exact rootsP_all hs h32 m
    rw [hrs] at hlr hat ⊢
    have Hgood := Lib.hid hgood
    have Hlr := Lib.hid hlr
    have Hat := Lib.hid hat
    have Hr32 := Lib.hid hr32
    have Hse := Lib.hid hse
    clear hlen h32 hst hgood hlr hat hr32 hrs hse
    refine (callsIn_wide (n := 5)).1 ?_
    refine callsIn_of_wp_marks Tryd.func32 rfl trivial ?_ rfl
    simp only [Tryd.ntmps32, List.size_toArray, List.length_cons, List.length_nil, Nat.reduceAdd, Nat.reduceSub, Array.replicate_succ, Array.replicate_zero, List.push_toArray, List.append_toArray, List.nil_append, List.cons_append]
    refine wpIn_wide.2 ?_
    go_wp2_with fail
    refine Hst.out.mono ?_
    rintro e w1 ⟨vs, rfl, hP⟩
    obtain ⟨As, cs, rfl, hrs1⟩ := Rs.of_owns hP.own (length_natR ls)
    have hb1 := hP.bel
    have hroom1 := hrs1.sl.room
    have hmx1 := hrs1.sl.max
    unfold maxLen at hmx1
    have h1 := h.step hb1
    have k8 : Blk (w1.alloc (.cells #[.slice none 0 0] 36)) w1.heap.size 36 #[.slice none 0 0] := Blk.new _ _ _
    have hb8 : Below w.heap.size w (w1.alloc (.cells #[.slice none 0 0] 36)) := hb1.alloc hb1.size _
    have hb18 : Below w1.heap.size w1 (w1.alloc (.cells #[.slice none 0 0] 36)) := (Below.refl _ _).alloc (Nat.le_refl _) _
    have h2 := h1.step hb18
    have hrs2 := hrs1.step hb18
    have hs12 := hb1.size
    clear h hP h1 hrs1 hb18 hb1
    have hsz2 : (w1.alloc (.cells #[.slice none 0 0] 36)).heap.size = w1.heap.size + 1 := by simp
    go_wp2_with fail
    generalize w1.alloc (.cells #[.slice none 0 0] 36) = W2 at *
    generalize w1.heap.size = g8 at *
    refine (each_any hs (natR ls) A n c As ls.length cs W2 h2 (hrs2.weak fun _ _ _ => trivial) (by omega) (by omega)).mono ?_
    rintro e W3 ⟨A2, c2, Ar2, cr2, rfl, e1, e2, eh, er, hb3⟩
    have hI0 : ∀ n₁, CpI w g8 n₁ [] W3 := fun n₁ => ⟨⟨_, k8.step hb3, World.ownsRow_nil _ _ _ _⟩, hb8.trans (hb3.mono hb8.size)⟩
    have hsz3 := hb3.size
    have hG := e1.lt
    clear h2 hrs2 k8 hb8 hb3
    rw [hsz2] at e1 e2 eh er hsz3 hG
    go_wp2_with fail
    refine wp_range_U (gf := 75) (lb := #[.pointer (some ⟨g8 + 1 + 1, 0, none⟩), .pointer (some ⟨g8 + 1, 0, none⟩)]) rfl (enters_of Tryd.func75 (by kernel_rfl) rfl)
      (each1_seq hs (natR ls) A2 n c2 Ar2 ls.length cr2 (g8 + 1 + 1) (g8 + 1) (· = g8) W3 e1 e2 (eh.weak fun b _ hb e => by have hb : g8 + 1 + 1 < b := hb; have e : b = g8 := e; omega) (er.weak fun b _ hb e => by have hb : g8 + 1 + 1 < b := hb; have e : b = g8 := e; omega) (by intro e; omega) (fun b hb => by have hb : b = g8 := hb; omega) (by omega) (by omega))
      (fun n₁ k vs W h => by rw [show vs = _ from h]; rfl)
      (fun n₁ k => CpI w g8 n₁ (rs.take k)) (fun _ _ _ _ => False) (fun n₁ => CpI.own_ (fun k => rs.take k) (by omega)) (fun _ _ _ _ _ _ h _ _ => h.elim) (fun n₁ _ => by simpa using hI0 n₁) ?round ?done ?stop
    case round =>
      clear hI0 e1 e2 eh er
      intro li n₁ k vs X hl hln hnX hk hI hy
      subst hy
      rw [Hgood.out, length_natR] at hk
      rw [Hgood.out, Hat.out k hk]
      have htk := take_snocH rs k (by rw [Hlr.out]; exact hk)
      have hzl := Hr32.out.getD k (by rw [Hlr.out]; exact hk)
      have hlen : (rs.take k).length ≤ 64 := by rw [List.length_take, Hlr.out]; omega
      generalize rs.getD k [] = z at hzl htk ⊢
      generalize (natR ls).getD k (0, 0) = x
      obtain ⟨x1, x2⟩ := x
      dsimp only [rval]
      have Htk := Lib.hid htk
      have Hzl := Lib.hid hzl
      clear htk hzl
      refine wpIn_region_lit ?_
      go_simp
      refine wpListIn_of2 (openR li) rfl ?_
      refine wpList_hvar (.tmp 10) (.tmp 25) rfl rfl rfl rfl rfl rfl Hzl.out ?_
      intro X1 k10 hb10
      refine thenN_nil ?_
      simp only [Act.put]
      gi_wp2
      refine ⟨KeepU.below hb10, ?_⟩
      intro X2 hturn
      have hI2 := hturn.own (CpI.own_ (w := w) (g8 := g8) (n₁ := n₁) (fun k => rs.take k) (show w.heap.size ≤ W3.heap.size by omega)) (hI.step hb10)
      have k10' : HV X2 X.heap.size z := ⟨hturn.blk k10.blk, Hzl.out⟩
      have hnX2 : n₁ ≤ X2.heap.size := by rw [hturn.size]; exact Nat.le_trans hnX hb10.size
      clear hI k10 hb10 hturn hnX
      generalize X.heap.size = g10 at k10' ⊢
      obtain ⟨⟨v, k8, hov⟩, hbel⟩ := hI2
      generalize hq : rs.take k = q at *
      obtain ⟨v', W9, hr9, hv9, hg9, -⟩ := append_hR hov z Hzl.out (by omega) hnX2
      obtain ⟨gv, cv, rfl⟩ := owns_some hv9 (by simp)
      have hge9 : ∀ r, v.ownBlock = some r → n₁ ≤ r := fun r e => (hov.lt r e).1
      have k89 : Blk W9 g8 36 #[v] := k8.grown hg9 (fun e => by have := hge9 _ e.symm; omega)
      have c8 : X2.cell? ⟨g8, 0, none⟩ = some v := by rw [k8.cell]; rfl
      have c89 : W9.cell? ⟨g8, 0, none⟩ = some v := by rw [k89.cell]; rfl
      have f89 := k89.frozen 0
      have Hr9 := Lib.hid hr9
      clear hr9
      gi_wp2_with (first
        | ((with_reducible show wpListIn _ _ _ _ _ (⟨some 27, .load _ _, _, _, _, _⟩ :: _) _ _); refine wpListIn_of1 (openR li) rfl ?_; refine wpList_hload (.tmp 10) (by kernel_rfl) rfl k10' rfl ?_; refine thenN_nil ?_; simp only [Act.put])
        | ((with_reducible show wpListIn _ _ _ _ _ (⟨some 28, .buildSlice _ _ _, _, _, _, _⟩ :: _) _ _); refine wpListIn_of1 (openR li) rfl ?_; refine wpList_run rfl _ _ (run_litH_op z Hzl.out (.tmp 27) rfl rfl _) ?_; refine thenN_nil ?_; simp only [Act.put])
        | ((with_reducible show wpListIn _ _ _ _ _ (⟨some 29, .call _, _, _, _, _⟩ :: _) _ _); refine wpListIn_of1 (openR li) rfl ?_; refine wpList_run rfl _ W9 (run_append_op (.tmp 26) (.tmp 28) 36 rfl _ _ rfl rfl Hr9.out) ?_; refine thenN_nil ?_; simp only [Act.put]))
      have hl : (q ++ [z]).length = q.length + 1 := by simp
      rw [hl] at hv9
      have hgn := (hv9.lt gv rfl).1
      refine ⟨(KeepU.grown hg9 (fun r e => ⟨.inl (hge9 r e), owns_cells hov e⟩)).trans (KeepU.setCell (U := (· = g8)) k89 (.inr rfl) 0 _), ⟨_, k89.set_ 0 _, ?_⟩, (hbel.grown hg9 hbel.size (fun r e => by have := hge9 r e; omega)).setCell (by show w.heap.size ≤ g8; omega) _⟩
      rw [Htk.out, hl]
      exact hv9.kept (grownBy_setCell' W9 g8 _) (.inr (fun e => by have e : gv = g8 := Option.some.inj e; omega))
    case done =>
      clear hI0 e1 e2 eh er
      intro D n₁ X hD hDn hI hK
      rw [Hgood.out, length_natR, List.take_of_length_le (by rw [Hlr.out]; exact Nat.le_refl _)] at hI
      obtain ⟨⟨v, k8, hov⟩, hbel⟩ := hI
      have c8 : X.cell? ⟨g8, 0, none⟩ = some v := by rw [k8.cell]; rfl
      go_wp2_with fail
      refine leaves_marks (N := w.heap.size) [D] _ ((MarksOk.nil _ _).cons (by omega) hK (by simp)) fun w' ht => ⟨_, results_tmp2 rfl _ _ _, v, rfl, ?_, hbel.trans ht.bel⟩
      refine owns_le (b := n₁) ?_ (by omega)
      rcases hov.2 with ⟨rfl, h0⟩ | ⟨g, cap, cur, rfl, hb, hc, r1, r2, r3, r4⟩
      · exact ⟨hov.1, .inl ⟨rfl, h0⟩⟩
      · exact ⟨hov.1, .inr ⟨g, cap, cur, rfl, hb, ht.blk _ _ _ hc, r1, r2, r3, r4⟩⟩
    case stop =>
      rintro D n₁ cd k X hD hDn hk h hK
      exact h.elim
  · have hb0 : rootsP hs m = [] := rootsP_bad hs m (by rw [hlen, hse]; exact he0)
    rw [hb0]
    have hne : (e0 != 0) = true := by simpa using he0
    clear hlen h32 hst hse he0 hb0
    refine (callsIn_wide (n := 5)).1 ?_
    refine callsIn_of_wp_marks Tryd.func32 rfl trivial ?_ rfl
    simp only [Tryd.ntmps32, List.size_toArray, List.length_cons, List.length_nil, Nat.reduceAdd, Nat.reduceSub, Array.replicate_succ, Array.replicate_zero, List.push_toArray, List.append_toArray, List.nil_append, List.cons_append]
    refine wpIn_wide.2 ?_
    go_wp2_with fail
    refine Hst.out.mono ?_
    rintro e w1 ⟨vs, rfl, hP⟩
    obtain ⟨As, cs, rfl, -⟩ := Rs.of_owns hP.own (length_natR ls)
    have hb1 := hP.bel
    clear hP
    go_wp2_with fail
    refine leaves_marks (N := w.heap.size) [] _ (MarksOk.nil _ _) fun w' ht => ⟨_, results_tmp2 rfl _ _ _, _, rfl, World.ownsRow_nil _ _ _ _, hb1.trans ht.bel⟩
end Go.Proofs.YtfhmjgkcpcnkbaaDoor
