/- For audit.Incl: operations, and its answer (plain). -/
import Derived.Test.YtonidnfgneokbaaQd129
namespace Go.Proofs.Ytonidnfgneokbaa
open Go Go.RowKit Go.Shelf
attribute [local go_sem] Oper.semAt_some

theorem ret_clash2 {fn : Func} {p u : Tmp} {tmps : Array Value} {W : World} {g : Nat} {a b : Value} (h : fn.results = #[.cell p 34, .tmp u]) (hp : tmps.getD p undef = .pointer (some ⟨g, 0, none⟩)) (k : Blk W g 34 #[a, b]) : (results fn tmps).run Try.prog W = .ok (.tuple #[.agg #[a, b], tmps.getD u undef]) W := by
  have hp' : tmps[p]?.getD undef = .pointer (some ⟨g, 0, none⟩) := by simpa using hp
  simp [results, h, hp', asAddr, run_loadVar_row W g 34 34 #[a, b] (0, 0) _ k Try.underlying34 rfl (by kernel_rfl)]
theorem below_of_grown9 {n g : Nat} {w w' : World} (h : w.grownBy w' (some g)) (hn : n ≤ g) (hsz : n ≤ w.heap.size) : Below n w w' :=
  ⟨h.os, h.tape, h.output, h.size, fun k hk => h.block k (Nat.lt_of_lt_of_le hk hsz) (fun e => by have := Option.some.inj e; omega)⟩
set_option maxRecDepth 100000 in
theorem wpList_trvar {w : World} {ops : Array Oper} {rest : List Oper} {o1 o2 : Oper} {a : Act} {Q : Exit → Act → World → Prop} {h : Value} (x y : Operand) (hg1 : o1.guard = none) (hg2 : o2.guard = none) (ho1 : o1.op = .alloc 123) (ho2 : o2.op = .store 123 x y)
    (hx : (a.put o1.dst (.pointer (some ⟨w.heap.size, 0, none⟩))).eval x = .pointer (some ⟨w.heap.size, 0, none⟩)) (hy : (a.put o1.dst (.pointer (some ⟨w.heap.size, 0, none⟩))).eval y = .agg #[h]) (hl : h.oneCell' = true)
    (hh : ∀ W, Blk W w.heap.size 123 #[h] → Below w.heap.size w W → wpList Try.prog ops Q rest ((a.put o1.dst (.pointer (some ⟨w.heap.size, 0, none⟩))).put o2.dst undef) W) : wpList Try.prog ops Q (o1 :: o2 :: rest) a w := by
  refine wpList_run hg1 (.pointer (some ⟨w.heap.size, 0, none⟩)) (w.alloc (.cells #[.nilFunc] 123)) ?_ ?_
  · unfold execOp
    rw [ho1]
    rfl
  · refine wpList_store_blk hg2 123 x y ho2 1 treeSize w.heap.size #[h] hx hy rfl (fun v hv => by simp at hv; subst hv; exact hl) 123 _ (Blk.new w 123 #[.nilFunc]) rfl ?_
    exact hh _ ((Blk.new w 123 #[.nilFunc]).setRow_ _) (below_setRow ((Below.refl _ _).alloc (Nat.le_refl _) _) (Nat.le_refl _) _)
theorem run_eqnil (f : Nat) (W : World) : (binOp .eql 56 (hval f) .nilFunc).run Try.prog W = .ok (.bool false) W := by
  have hu : Try.prog.underlying 56 = some (.func #[23] #[25] false) := by kernel_rfl
  have heq : (Op.equalIn (9999 + 1) 56 (hval f) .nilFunc).run Try.prog W = .ok false W := by
    generalize 9999 = D
    simp only [Op.equalIn, Sem.run_bind, run_underlying hu, Result.andThen_ok, Sem.run_pure]
  have e : (binOp .eql 56 (hval f) .nilFunc).run Try.prog W = ((Op.equalIn 10000 56 (hval f) .nilFunc).run Try.prog W).andThen fun b w' => .ok (.bool b) w' := by
    simp only [binOp, Op.equal, Op.maxDepth, Sem.run_bind, Sem.run_pure]
  rw [e, show (10000 : Nat) = 9999 + 1 from rfl, heq]
  rfl
theorem run_neqnil (f : Nat) (W : World) : (binOp .neq 56 (hval f) .nilFunc).run Try.prog W = .ok (.bool true) W := by
  have hu : Try.prog.underlying 56 = some (.func #[23] #[25] false) := by kernel_rfl
  have heq : (Op.equalIn (9999 + 1) 56 (hval f) .nilFunc).run Try.prog W = .ok false W := by
    generalize 9999 = D
    simp only [Op.equalIn, Sem.run_bind, run_underlying hu, Result.andThen_ok, Sem.run_pure]
  have e : (binOp .neq 56 (hval f) .nilFunc).run Try.prog W = ((Op.equalIn 10000 56 (hval f) .nilFunc).run Try.prog W).andThen fun b w' => .ok (.bool (!b)) w' := by
    simp only [binOp, Op.equal, Op.maxDepth, Sem.run_bind, Sem.run_pure]
  rw [e, show (10000 : Nat) = 9999 + 1 from rfl, heq]
  rfl
theorem run_eqnil_op {ρ : Operand → Value} {o : Oper} {f : Nat} (x y : Operand) (ty : TypeId) (ho : o.op = .binOp .eql 56 x y ty) (hx : ρ x = hval f) (hy : ρ y = .nilFunc) (W : World) : (execOp ρ o).run Try.prog W = .ok (.value (.bool false)) W := by
  have hg : eqGuard .eql 56 x y (hval f) .nilFunc = pure () := rfl
  unfold execOp
  simp only [ho, hx, hy, hg, Sem.run_bind, Sem.run_pure, run_eqnil, Result.andThen_ok]
theorem run_neqnil_op {ρ : Operand → Value} {o : Oper} {f : Nat} (x y : Operand) (ty : TypeId) (ho : o.op = .binOp .neq 56 x y ty) (hx : ρ x = hval f) (hy : ρ y = .nilFunc) (W : World) : (execOp ρ o).run Try.prog W = .ok (.value (.bool true)) W := by
  have hg : eqGuard .neq 56 x y (hval f) .nilFunc = pure () := rfl
  unfold execOp
  simp only [ho, hx, hy, hg, Sem.run_bind, Sem.run_pure, run_neqnil, Result.andThen_ok]
theorem inclC_2 (H : Hf) (d : List (List UInt8)) (i : Int) (e : List UInt8) (pf : List (List UInt8)) (h : bigD d = true ∨ 4096 < e.length) : inclC H d i e pf = (noC, 2) := by unfold inclC; rw [if_pos h]
theorem inclC_4 (H : Hf) (d : List (List UInt8)) (i : Int) (e : List UInt8) (pf : List (List UInt8)) (h : ¬ (bigD d = true ∨ 4096 < e.length)) (h2 : i < 0 ∨ (d.length : Int) ≤ i) : inclC H d i e pf = (noC, 4) := by unfold inclC; rw [if_neg h, if_pos h2]
/-- what is shown behind a function's body, as one word (the walk does not look into it) -/
structure BP (P : Program) (fn : Func) (R : Ending → World → Prop) (ex : Exit) (a : Act) (w : World) : Prop where
  out : bodyPost P fn R ex a w
theorem lieF_sub (H : Hf) : ∀ (way : List Bool) (sd : List PairV) (d : List (List UInt8)), ∀ x ∈ (lieF H way sd d).2, x ∈ d
  | [], sd, d => by cases sd <;> exact fun x hx => hx
  | b :: way, [], d => fun x hx => hx
  | b :: way, p :: sd, d => by
    unfold lieF
    split
    · intro x hx
      have h := lieF_sub H way sd _ x hx
      split at h
      · exact List.mem_of_mem_drop h
      · exact List.mem_of_mem_take h
    · exact fun x hx => hx
def inclM (H : Hf) (way : List Bool) (sd : List PairV) (d : List (List UInt8)) (e : List UInt8) : PairV × Int :=
  match lieF H way sd d with
  | (some (p, h), _) => ((nodeD p, nodeD h), 0)
  | (none, rest) => if e = rest.getD 0 [] then (noC, 231) else ((leafD e, leafD (rest.getD 0 [])), 0)
theorem inclC_n (H : Hf) (d : List (List UInt8)) (i : Nat) (e : List UInt8) (pf : List (List UInt8)) (h : ¬ (bigD d = true ∨ 4096 < e.length)) (h2 : i < d.length) : inclC H d i e pf =
    if pf.length ≠ (wayI i d.length).length then (noC, (230 : Int)) else if atI H (wayI i d.length) pf (H (leafD e)) pf.length ≠ rootA H d then (noC, 230)
    else inclM H (wayI i d.length) (saidL H (wayI i d.length) pf (H (leafD e))) d e := by
  unfold inclC
  rw [if_neg h, if_neg (by omega), Int.toNat_natCast]
  rfl
theorem bigD_not (d : List (List UInt8)) (h : bigD d = false) : d.length ≤ 65536 ∧ ∀ x ∈ d, x.length ≤ 4096 := by
  unfold bigD at h
  rw [Bool.or_eq_false_iff] at h
  refine ⟨by simpa using h.1, fun x hx => ?_⟩
  have := List.any_eq_false.1 h.2 x hx
  simpa using this

theorem run_extract_op {P : Program} {ρ : Operand → Value} {o : Oper} (x : Operand) (k : Nat) (ho : o.op = .extract x k) (t : Array Value) (hx : ρ x = .tuple t) (v : Value) (hv : t[k]? = some v) (W : World) : (execOp ρ o).run P W = .ok (.value v) W := by
  unfold execOp
  simp only [ho, hx, Instr.extract, hv, Sem.run_bind, Sem.run_pure, Result.andThen_ok]
theorem Prs.apart {w : World} {X : Nat → Prop} {A : Option Addr} {n c : Nat} {qs : List PairV} {g : Nat} {l : List UInt8} (h : Prs w X A n c qs) (k : HV w g l) : Prs w (fun b => X b ∧ b ≠ g) A n c qs := by
  refine ⟨⟨fun hne => ?_, h.sl.len, h.sl.room, h.sl.nil, h.sl.max⟩, h.len, h.all⟩
  obtain ⟨b, o, h1, h2, h3, h4⟩ := h.sl.bs hne
  refine ⟨b, o, h1, h2, ⟨h3, fun e => ?_⟩, h4⟩
  subst e
  have hlen := prcells_len qs h.all
  have hq : 0 < qs.length := by
    rcases Nat.eq_zero_or_pos qs.length with e | e
    · rw [List.length_eq_zero_iff.1 e] at hne; exact absurd rfl hne
    · exact e
  have h5 := h4 32 _ (List.getElem?_eq_getElem (by rw [hlen]; omega))
  rw [k.blk.cell, Array.getElem?_eq_none (by simp [k.len])] at h5
  cases h5
theorem Prs.grown {w w' : World} {X : Nat → Prop} {A : Option Addr} {n c : Nat} {qs : List PairV} {row : Option Nat} (h : Prs w X A n c qs) (hg : w.grownBy w' row) (hX : ∀ b, b < w.heap.size → X b → some b ≠ row) : Prs w' X A n c qs := ⟨h.sl.grown hg hX, h.len, h.all⟩
theorem wpMix_hsetG {w : World} {ops : Array Oper} {S : World → Prop} {Q : Exit → Act → World → Prop} {R : Act → World → Prop} {l : List (Oper × Bool)} {o : Oper} {a : Act} {m m' : List UInt8} {g : Nat} (x y : Operand) (hg : o.guard = none) (ho : o.op = .store 25 x y) (k : HV w g m') (hx : a.eval x = .pointer (some ⟨g, 0, none⟩)) (hy : a.eval y = .agg (m.map B).toArray) (hl : m.length = 32) (hS : ∀ W, Below g w W → S W)
    (h : ∀ W, HV W g m → Below g w W → w.grownBy W (some g) → wpMix Try.prog ops S Q R l (a.put o.dst undef) W) : wpMix Try.prog ops S Q R ((o, false) :: l) a w := by
  have hb : Below g w (w.setRow g (m.map B).toArray) := below_setRow (Below.refl _ _) (Nat.le_refl _) _
  exact wpMix_store_blk hg 25 x y ho 32 size26 g (m.map B).toArray hx hy (by simp [hl]) (oneCell_B _) 25 _ k.blk (by simp [k.len]) (hS _ hb) (h _ ⟨k.blk.setRow_ _, hl⟩ hb (grown_setRow (grown_of_below (Below.refl _ _) _) _))
def Fc.prs (N L : Nat) (sd : List PairV) : Fc := ⟨fun v W => ∃ A c, v = .slice A L c ∧ Prs W (N ≤ ·) A L c sd, fun _ _ _ ⟨A, c, h1, h2⟩ hb => ⟨A, c, h1, h2.step hb⟩, fun g W ⟨A, c, h1, _⟩ => by cases h1⟩
def Fc.said (N L : Nat) (sd : List PairV) (x : Value) : Fc := ⟨fun v W => ∃ A c, v = .tuple #[.slice A L c, x] ∧ Prs W (N ≤ ·) A L c sd, fun _ _ _ ⟨A, c, h1, h2⟩ hb => ⟨A, c, h1, h2.step hb⟩, fun g W ⟨A, c, h1, _⟩ => by cases h1⟩

end Go.Proofs.Ytonidnfgneokbaa
