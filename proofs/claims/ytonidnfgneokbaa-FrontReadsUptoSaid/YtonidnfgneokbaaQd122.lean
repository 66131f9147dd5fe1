/- Slices of slices of bytes; what is hashed at a leaf and at a node (audit, notaryref13). -/
import Derived.Test.YtonidnfgneokbaaQd121
import Derived.Test.YtonidnfgneokbaaQd111
import Derived.Test.YtonidnfgneokbaaQd114
namespace Go.Proofs.Ytonidnfgneokbaa
open Go Go.RowKit Go.Shelf
attribute [local go_sem] Oper.semAt_some

theorem ret_hash {fn : Func} {p : Tmp} {tmps : Array Value} {W : World} {g : Nat} {l : List UInt8} (h : fn.results = #[.cell p 25]) (hp : tmps.getD p undef = .pointer (some ⟨g, 0, none⟩)) (k : HV W g l) : (results fn tmps).run Try.prog W = .ok (.agg (l.map B).toArray) W :=
  results_cell_row h tmps W g 25 (l.map B).toArray (0, 0) _ hp k.blk Try.underlying25 rfl (by rw [show (l.map B).toArray.size = 32 by simp [k.len]]; exact info26)

/-- slices of bytes, in a slice -/
structure Es (w : World) (X : Nat → Prop) (A : Option Addr) (n c : Nat) (ls : List (List UInt8)) : Prop where
  ex : ∃ vs, SlV w X A n c 1 vs ∧ ∀ i (h : i < ls.length), ∃ Ai ci, vs[i]? = some (.slice Ai (ls[i]).length ci) ∧ Sl w X Ai (ls[i]).length ci ls[i]
  len : ls.length = n
section
variable {w w' : World} {X Y : Nat → Prop} {A : Option Addr} {n c : Nat} {ls : List (List UInt8)}
theorem Es.room (h : Es w X A n c ls) : n ≤ c := let ⟨_, h1, _⟩ := h.ex; h1.room
theorem Es.max (h : Es w X A n c ls) : c ≤ maxLen := let ⟨_, h1, _⟩ := h.ex; h1.max
theorem Es.weak (h : Es w X A n c ls) (hX : ∀ b, b < w.heap.size → X b → Y b) : Es w Y A n c ls :=
  let ⟨vs, h1, h2⟩ := h.ex; ⟨⟨vs, h1.weak hX, fun i hi => let ⟨Ai, ci, g1, g2⟩ := h2 i hi; ⟨Ai, ci, g1, g2.weak hX⟩⟩, h.len⟩
theorem Es.all (h : Es w X A n c ls) : Es w (fun _ => True) A n c ls := h.weak fun _ _ _ => trivial
theorem Es.step (h : Es w X A n c ls) (hb : Below w.heap.size w w') : Es w' X A n c ls :=
  let ⟨vs, h1, h2⟩ := h.ex; ⟨⟨vs, h1.step hb, fun i hi => let ⟨Ai, ci, g1, g2⟩ := h2 i hi; ⟨Ai, ci, g1, g2.step hb⟩⟩, h.len⟩
theorem Es.below {N : Nat} (h : Es w X A n c ls) (hb : Below N w w') (hX : ∀ b, b < w.heap.size → X b → b < N) : Es w' X A n c ls :=
  let ⟨vs, h1, h2⟩ := h.ex; ⟨⟨vs, h1.below hb hX, fun i hi => let ⟨Ai, ci, g1, g2⟩ := h2 i hi; ⟨Ai, ci, g1, g2.below hb hX⟩⟩, h.len⟩
theorem Es.take (h : Es w X A n c ls) (k : Nat) (hk : k ≤ n) : Es w X A k c (ls.take k) := by
  obtain ⟨vs, h1, h2⟩ := h.ex
  refine ⟨⟨vs.take (k * 1), h1.take k hk, fun i hi => ?_⟩, by rw [List.length_take, h.len]; omega⟩
  have hi' : i < k ∧ i < ls.length := by rw [List.length_take] at hi; omega
  obtain ⟨Ai, ci, g1, g2⟩ := h2 i hi'.2
  rw [List.getElem_take]
  exact ⟨Ai, ci, by rw [List.getElem?_take_of_lt (by omega)]; exact g1, g2⟩
theorem Es.drop (h : Es w X A n c ls) (k : Nat) (hk : k ≤ n) : Es w X (if c = k then A else A.map (·.add (k * 1))) (n - k) (c - k) (ls.drop k) := by
  obtain ⟨vs, h1, h2⟩ := h.ex
  refine ⟨⟨vs.drop (k * 1), h1.drop k hk, fun i hi => ?_⟩, by rw [List.length_drop, h.len]⟩
  have hi' : k + i < ls.length := by rw [List.length_drop] at hi; omega
  obtain ⟨Ai, ci, g1, g2⟩ := h2 (k + i) hi'
  rw [List.getElem_drop]
  exact ⟨Ai, ci, by rw [List.getElem?_drop, Nat.mul_one]; exact g1, g2⟩
/-- one of them -/
theorem Es.at_ (h : Es w X A n c ls) (hn : 0 < n) : ∃ b o, A = some ⟨b, o, none⟩ ∧ b < w.heap.size ∧ X b ∧ ∀ k, k < n → ∃ Ai ci, w.cell? ⟨b, o + k, none⟩ = some (.slice Ai (ls.getD k []).length ci) ∧ Sl w X Ai (ls.getD k []).length ci (ls.getD k []) := by
  obtain ⟨vs, h1, h2⟩ := h.ex
  obtain ⟨b, o, e, hb, hx, h4⟩ := h1.at_ hn (by decide)
  refine ⟨b, o, e, hb, hx, fun k hk => ?_⟩
  obtain ⟨Ai, ci, g1, g2⟩ := h2 k (by rw [h.len]; exact hk)
  have hg : ls.getD k [] = ls[k]'(by rw [h.len]; exact hk) := by rw [List.getD_eq_getElem?_getD, List.getElem?_eq_getElem (by rw [h.len]; exact hk)]; rfl
  rw [hg]
  exact ⟨Ai, ci, h4 k _ g1, g2⟩
theorem SlS.es {vs : List Value} (h : SlS w A n c vs ls) : Es w (· < w.heap.size) A n c ls := ⟨⟨vs, h.out, h.ins⟩, h.len⟩
end
theorem sizeBs : ∀ w : World, (sizeOf (Try.prog.elem 22)).run Try.prog w = .ok 1 w := fun _ => by kernel_rfl
theorem sliceBs : Try.prog.underlying 22 = some (.slice (Try.prog.elem 22)) := by kernel_rfl
theorem run_slice_hiB {ρ : Operand → Value} {o : Oper} (x y : Operand) (ho : o.op = .slice 22 x none (some y) none) (A : Option Addr) (n c k : Nat) (hx : ρ x = .slice A n c) (hy : ρ y = .int .i64 (k : Int)) (hk : k ≤ c) (W : World) :
    (execOp ρ o).run Try.prog W = .ok (.value (.slice A k c)) W := by
  unfold execOp
  simp only [ho, hx, hy, Option.map_some, Option.map_none, run_slice_high sliceBs sizeBs A n c k hk W, Sem.run_bind, Sem.run_pure, Result.andThen_ok]
theorem run_slice_loB {ρ : Operand → Value} {o : Oper} (x y : Operand) (ho : o.op = .slice 22 x (some y) none none) (A : Option Addr) (n c k : Nat) (hx : ρ x = .slice A n c) (hy : ρ y = .int .i64 (k : Int)) (hk : k ≤ n) (W : World) :
    (execOp ρ o).run Try.prog W = .ok (.value (.slice (if c = k then A else A.map (·.add (k * 1))) (n - k) (c - k))) W := by
  unfold execOp
  simp only [ho, hx, hy, Option.map_some, Option.map_none, run_slice_low sliceBs sizeBs A n c k hk W, Sem.run_bind, Sem.run_pure, Result.andThen_ok]

/-- a byte ahead of bytes, in a row of one's own -/
theorem ahead_byte (x : UInt8) (w : World) (l : List UInt8) (A : Option Addr) (n c : Nat) (h : Sl w (fun _ => True) A n c l) (hn : n ≤ 1099511627776) :
    ∃ v w', (Builtin.append_ #[23, 23] 23 #[.slice (some ⟨w.heap.size, 0, none⟩) 1 1, .slice A n c]).run Try.prog (w.alloc (.cells #[B x] 5)) = .ok v w' ∧ Fresh w w' v (x :: l) := by
  have hb : Below w.heap.size w (w.alloc (.cells #[B x] 5)) := (Below.refl _ _).alloc (Nat.le_refl _) _
  have ho : (w.alloc (.cells #[B x] 5)).ownsRow w.heap.size 5 1 (.slice (some ⟨w.heap.size, 0, none⟩) 1 1) ([x] : List UInt8).length (([x] : List UInt8).map B) := World.ownsRow_lit w #[B x] 1 (Nat.le_refl _) (by decide) rfl
  obtain ⟨v, w', h1, h2, h3⟩ := append_sl ho (h.step hb) (by simp; omega) hb.size
  exact ⟨v, w', h1, h2, hb.grown h3 hb.size (fun k hk => (ho.lt k hk).1)⟩

set_option maxHeartbeats 1000000 in
set_option maxRecDepth 100000 in
theorem aleaf_any (l : List UInt8) (A : Option Addr) (n c : Nat) (w : World) (h : Sl w (fun _ => True) A n c l) (hn : n ≤ 1099511627776) :
    Calls Try.prog 89 #[.slice A n c] w fun e w' => ∃ v, e = .returned v ∧ Fresh w w' v (leafD l) := by
  obtain ⟨v1, w1, hr, hf⟩ := ahead_byte 0 w l A n c h hn
  have Hr := Lib.hid hr
  clear hr h
  go_enter Try.func89, Try.ntmps89
  go_wp2_with (first
    | ((with_reducible show wpList _ _ _ (⟨some 3, .buildSlice _ _ _, _, _, _, _⟩ :: _) _ _); refine wpList_run rfl (.slice (some ⟨w.heap.size, 0, none⟩) 1 1) (w.alloc (.cells #[B 0] 5)) (by kernel_rfl) ?_; simp only [Act.put])
    | ((with_reducible show wpList _ _ _ (⟨some 5, .call _, _, _, _, _⟩ :: _) _ _); refine wpList_run rfl v1 w1 (run_append_op (.tmp 3) (.tmp 4) 23 rfl _ _ rfl rfl Hr.out) ?_; simp only [Act.put]))
  go_ret
  exact ⟨_, rfl, hf⟩

set_option maxHeartbeats 1000000 in
set_option maxRecDepth 100000 in
theorem rleaf_any (l : List UInt8) (A : Option Addr) (n c : Nat) (w : World) (h : Sl w (fun _ => True) A n c l) (hn : n ≤ 1099511627776) :
    Calls Try.prog 79 #[.slice A n c] w fun e w' => ∃ v, e = .returned v ∧ Fresh w w' v (leafD l) := by
  obtain ⟨v1, w1, hr, hf⟩ := ahead_byte 0 w l A n c h hn
  have Hr := Lib.hid hr
  clear hr h
  go_enter Try.func79, Try.ntmps79
  go_wp2_with (first
    | ((with_reducible show wpList _ _ _ (⟨some 3, .buildSlice _ _ _, _, _, _, _⟩ :: _) _ _); refine wpList_run rfl (.slice (some ⟨w.heap.size, 0, none⟩) 1 1) (w.alloc (.cells #[B 0] 5)) (by kernel_rfl) ?_; simp only [Act.put])
    | ((with_reducible show wpList _ _ _ (⟨some 5, .call _, _, _, _, _⟩ :: _) _ _); refine wpList_run rfl v1 w1 (run_append_op (.tmp 3) (.tmp 4) 23 rfl _ _ rfl rfl Hr.out) ?_; simp only [Act.put]))
  go_ret
  exact ⟨_, rfl, hf⟩
end Go.Proofs.Ytonidnfgneokbaa
