/- model: Waiting, ReadOnly, Settle, of a model that is there. -/
import Derived.Test.YtobcfgbkhgkelaaQe224
import Derived.Test.YtobcfgbkhgkelaaQe227
import Derived.Test.YtobcfgbkhgkelaaQe225
namespace Go.Proofs.Ytobcfgbkhgkelaa
open Go Go.RowKit
attribute [local go_sem] Oper.semAt_some
section
variable {W : World} {Z : Nat → Prop} {lo g : Nat} {R : MdR} {m : MoV}
theorem mwait_any (h : Md Z lo g R m W) : Calls Try.prog 35 #[.pointer (some ⟨g, 0, none⟩)] W fun e w' => e = .returned (.int .i64 (m.queue.length : Int)) ∧ w' = W := by
  obtain ⟨Aq, cq, hqe, hqs⟩ := h.queueEs
  have hrq := hqs.room
  have hmq := hqs.max
  unfold maxLen at hmq
  have c5 : W.cell? ⟨g, 5, none⟩ = some (.slice Aq m.queue.length cq) := (h.cell 5 (by decide)).trans (congrArg some hqe)
  have hn := mnone_any h
  clear h hqe hqs
  go_enter Try.func35, Try.ntmps35
  go_wp2_with (go_at_call 43; refine hn.mono ?_; rintro e w' ⟨rfl, hw⟩; obtain rfl := hw.symm)
  go_ret
  exact ⟨rfl, rfl⟩
theorem monly_any (h : Md Z lo g R m W) : Calls Try.prog 37 #[.pointer (some ⟨g, 0, none⟩)] W fun e w' => e = .returned (.bool m.only) ∧ w' = W := by
  have c75 : W.cell? ⟨g, 75, none⟩ = some (.bool m.only) := h.cell 75 (by decide)
  have hn := mnone_any h
  obtain ⟨b, hb⟩ : ∃ x, m.only = x := ⟨_, rfl⟩
  rw [hb] at c75 ⊢
  clear h hb
  cases b
  all_goals
    go_enter Try.func37, Try.ntmps37
    go_wp2_with (go_at_call 43; refine hn.mono ?_; rintro e w' ⟨rfl, hw⟩; obtain rfl := hw.symm)
    go_ret
    exact ⟨rfl, rfl⟩
theorem msettle_any (h : Md Z lo g R m W) : Calls Try.prog 31 #[.pointer (some ⟨g, 0, none⟩)] W fun e w' => e = .returned (.int .i64 (if m.only then 10 else 0)) ∧ w' = W := by
  have hm := mmay_any h
  obtain ⟨z, hz⟩ : ∃ x : Int, (if m.only then 10 else 0) = x := ⟨_, rfl⟩
  rw [hz] at hm ⊢
  clear h hz
  go_enter Try.func31, Try.ntmps31
  go_wp2_with (go_at_call 40; refine hm.mono ?_; rintro e w' ⟨rfl, hw⟩; obtain rfl := hw.symm)
  go_ret
  exact ⟨rfl, rfl⟩
end
end Go.Proofs.Ytobcfgbkhgkelaa
/- model: flushing; Fail of a Flush. -/
namespace Go.Proofs.Ytobcfgbkhgkelaa
open Go Go.RowKit
attribute [local go_sem] Oper.semAt_some

def MoV.lose (m : MoV) : MoV := if m.queue = [] then m else { m with begun := m.queue, only := true }
def MdR.lose (R : MdR) : MdR := { R with b := R.q }
theorem Md.lose {W W' : World} {Z : Nat → Prop} {lo g : Nat} {R : MdR} {m : MoV} (h : Md Z lo g R m W) (hg : KB (fun b => b = g) W W') (hb : Blk W' g 39 (mdArr R.lose { m with begun := m.queue, only := true })) : Md Z lo g R.lose { m with begun := m.queue, only := true } W' := by
  obtain ⟨Ar, cr, hre, hrs⟩ := h.roots
  obtain ⟨Aq, cq, hqe, hqs⟩ := h.queue.esW (Y := fun b => ¬ (b = g ∨ Z b)) (fun b hv hm => hm.elim (fun e => by subst e; exact own_ty h.queue.ex.choose_spec.1 h.blk (by decide) hv) (h.zno b (.inr (.inr (.inr hv))))) (fun b _ hx hm => hx (hm.imp .inl id))
  refine ⟨hb, h.lastL, h.ptL, ?_, ?_, ⟨Ar, cr, hre, ?_⟩, ?_, ⟨Aq, cq, hqe, ?_⟩, h.eq, ?_, h.low, h.big, h.bigq, fun b hz => Nat.lt_of_lt_of_le (h.zlt b hz) hg.size, h.zno⟩
  · exact h.ents.kb hg (fun b hv e => by subst e; exact own_ty h.ents.ex.choose_spec.1 h.blk (by decide) hv) (fun b _ hx e => hx (.inl (.inl e)))
  · exact hg.own h.hashes fun b hv e => by subst e; exact own_ty h.hashes h.blk (by decide) hv
  · exact hrs.kb hg fun b _ hx e => hx (.inl (.inl e))
  · exact h.queue.kb hg (fun b hv e => by subst e; exact own_ty h.queue.ex.choose_spec.1 h.blk (by decide) hv) (fun b _ hx e => hx (.inl (.inl e)))
  · exact hqs.kb hg fun b _ hx e => hx (.inl e)
  · intro ho; cases ho
set_option maxHeartbeats 4000000 in
set_option maxRecDepth 100000 in
theorem mflushing_any (Z : Nat → Prop) (lo g : Nat) (R : MdR) (m : MoV) (W : World) (h : Md Z lo g R m W) :
    Calls Try.prog 66 #[.pointer (some ⟨g, 0, none⟩)] W fun e w' => e = .returned (.tuple #[]) ∧ ∃ R', Md Z lo g R' m.lose w' ∧ KB (fun b => b = g) W w' := by
  obtain ⟨Aq, cq, hqe, hqs⟩ := h.queueEs
  have hrq := hqs.room
  have hmq := hqs.max
  unfold maxLen at hmq
  have c5 : W.cell? ⟨g, 5, none⟩ = some (.slice Aq m.queue.length cq) := (h.cell 5 (by decide)).trans (congrArg some hqe)
  obtain ⟨n, hnq⟩ : ∃ x, m.queue.length = x := ⟨_, rfl⟩
  rw [hnq] at c5 hrq hqe
  by_cases h0 : m.queue = []
  · have hn0 : n = 0 := by rw [← hnq, h0]; rfl
    subst hn0
    have hl : m.lose = m := by unfold MoV.lose; rw [if_pos h0]
    rw [hl]
    have Hh := Lib.hid h
    clear h hl h0 hnq hqe hqs
    go_enter Try.func66, Try.ntmps66
    go_wp2_with fail
    go_end0
    exact ⟨rfl, R, Hh.out, KB.refl _ _⟩
  · have hn0 : 0 < n := by rw [← hnq]; exact List.length_pos_iff.2 h0
    have hd : decide ((0 : Int) < (n : Int)) = true := by simp; omega
    have hl : m.lose = { m with begun := m.queue, only := true } := by unfold MoV.lose; rw [if_neg h0]
    rw [hl]
    have c40 : W.cell? ⟨g, 40, none⟩ = some R.b := h.cell 40 (by decide)
    have f40 := h.blk.frozen 40
    obtain ⟨w1, hw1⟩ : ∃ x, W.setCell ⟨g, 40, none⟩ R.q = x := ⟨_, rfl⟩
    have k1 : Blk w1 g 39 (mdArr R.lose { m with begun := m.queue }) := by
      rw [← hw1, ← md_set (R := R) (R' := R.lose) (m := m) (m' := { m with begun := m.queue }) 40 (by decide) R.q rfl fun i hi hne => by simp only [mcell, hne, if_false]; rfl]
      exact h.blk.set_ 40 _
    have hg1 : W.grownBy w1 (some g) := by rw [← hw1]; exact grown_setCell (World.grownBy.refl _ _) 40 _
    have c75 : w1.cell? ⟨g, 75, none⟩ = some (.bool m.only) := by rw [k1.cell, md_at _ _ 75 (by decide)]; rfl
    have f75 := k1.frozen 75
    have k2 : Blk (w1.setCell ⟨g, 75, none⟩ (.bool true)) g 39 (mdArr R.lose { m with begun := m.queue, only := true }) := by
      rw [← md_set (R := R.lose) (R' := R.lose) (m := { m with begun := m.queue }) (m' := { m with begun := m.queue, only := true }) 75 (by decide) (.bool true) rfl fun i hi hne => by simp only [mcell, hne, if_false]]
      exact k1.set_ 75 _
    have hg2 : W.grownBy (w1.setCell ⟨g, 75, none⟩ (.bool true)) (some g) := grown_setCell hg1 75 _
    have hK : KB (fun b => b = g) W (w1.setCell ⟨g, 75, none⟩ (.bool true)) := KB.of_grown hg2 fun r e => (Option.some.inj e).symm
    have hF := h.lose hK k2
    rw [hqe] at hw1
    have Hw1 := Lib.hid hw1
    have HF := Lib.hid hF
    have HK := Lib.hid hK
    clear h hw1 hF hK hg1 hg2 k1 k2 hl hqe hqs
    go_enter Try.func66, Try.ntmps66
    go_wp2_with ((with_reducible show wpList _ _ _ [⟨none, .store _ (.tmp 17) _, _, _, _, _⟩] _ _); rw [Hw1.out]; refine wpList_put1i rfl 4 (.tmp 17) (.const (.bool true)) rfl sizeBl ⟨g, 75, none⟩ (.bool true) rfl rfl rfl _ c75 f75 ?_; simp only [Act.put])
    go_end0
    exact ⟨rfl, R.lose, HF.out, HK.out⟩
def failT : Array Value := #[.nilFunc, .func (.func 66) #[] #[], .func (.func 67) #[] #[], .func (.func 68) #[] #[]]
theorem built_failT : Try.prog.built 109 [(1, .func (.func 66) #[] #[]), (2, .func (.func 67) #[] #[]), (3, .func (.func 68) #[] #[])] = some failT := by kernel_rfl
theorem build_failT {ρ : Operand → Value} {o : Oper} (ho : o.op = .build 109 #[(1, .func 66), (2, .func 67), (3, .func 68)]) (hx : ρ (.func 66) = .func (.func 66) #[] #[]) (hy : ρ (.func 67) = .func (.func 67) #[] #[]) (hz : ρ (.func 68) = .func (.func 68) #[] #[]) (W : World) :
    (execOp ρ o).run Try.prog W = .ok (.value (.agg failT)) W := by
  have hm : (#[(1, .func 66), (2, .func 67), (3, .func 68)] : Array (Nat × Operand)).map (fun (i, x) => (i, ρ x)) = #[(1, .func (.func 66) #[] #[]), (2, .func (.func 67) #[] #[]), (3, .func (.func 68) #[] #[])] := by simp [hx, hy, hz]
  unfold execOp
  simp only [ho, Sem.run_bind, Sem.run_pure, hm, run_build W _ _ _ built_failT, Result.andThen_ok]
theorem sizeFT : ∀ w : World, (sizeOf 109).run Try.prog w = .ok 4 w := fun _ => by kernel_rfl
theorem oneFT : ∀ v ∈ failT.toList, v.oneCell' = true := by intro v hv; simp [failT] at hv; rcases hv with rfl | rfl | rfl | rfl <;> rfl
set_option maxHeartbeats 4000000 in
set_option maxRecDepth 100000 in
theorem mfail1_any (Z : Nat → Prop) (lo g : Nat) (R : MdR) (m : MoV) (W : World) (h : Md Z lo g R m W) (ho : m.only = false) :
    Calls Try.prog 34 #[.pointer (some ⟨g, 0, none⟩), .int .i64 1] W fun e w' => e = .returned (.int .i64 0) ∧ ∃ R', Md Z lo g R' m.lose w' ∧ KB (fun b => b = g) W w' := by
  have hmay := mmay_any h
  rw [ho] at hmay
  obtain ⟨w2, hw2⟩ : ∃ x, (W.alloc (.cells #[.nilFunc, .nilFunc, .nilFunc, .nilFunc] 109)).setRow W.heap.size failT = x := ⟨_, rfl⟩
  have B2 : Below W.heap.size W w2 := by rw [← hw2]; exact below_setRow ((Below.refl _ _).alloc (Nat.le_refl _) _) (Nat.le_refl _) _
  have k2 : Blk w2 W.heap.size 109 failT := by rw [← hw2]; exact (Blk.new _ _ _).setRow_ _
  have c1 : w2.cell? ⟨W.heap.size, 1, none⟩ = some (.func (.func 66) #[] #[]) := by rw [k2.cell]; rfl
  have hfl := mflushing_any Z lo g R m w2 (h.step B2)
  have Hw2 := Lib.hid hw2
  have Hfl := Lib.hid hfl
  clear h ho hw2 k2 hfl
  go_enter Try.func34, Try.ntmps34
  go_wp2_with (first
    | (go_at_call 40; refine hmay.mono ?_; rintro e w' ⟨rfl, hw⟩; obtain rfl := hw.symm)
    | ((with_reducible show wpList _ _ _ (⟨some 12, .build _ _, _, _, _, _⟩ :: _) _ _); refine wpList_run rfl _ _ (build_failT rfl rfl rfl rfl W) ?_; simp only [Act.put])
    | ((with_reducible show wpList _ _ _ [⟨none, .store _ (.tmp 6) _, _, _, _, _⟩] _ _); refine wpList_store_blk rfl 109 (.tmp 6) (.tmp 12) rfl 4 sizeFT W.heap.size failT rfl rfl rfl oneFT 109 _ (Blk.new W _ _) rfl ?_; rw [Hw2.out]; simp only [Act.put]))
  refine Hfl.out.mono ?_
  rintro e w3 ⟨rfl, R', hD, hK⟩
  clear Hfl c1
  go_wp2_with fail
  go_ret
  exact ⟨rfl, R', hD, (KB.of_below B2).trans hK⟩
end Go.Proofs.Ytobcfgbkhgkelaa
/- What a model allows, in plain Lean: for ModelGrows' lost. -/
namespace Go.Proofs.Ytobcfgbkhgkelaa

theorem allows_yes (m : MoV) (fe : List (List UInt8)) (fh : Bool) (fs : Int) (fr : List UInt8) (h1 : m.ents.length ≤ fe.length) (h2 : fe.length ≤ (m.ents ++ m.begun).length) (h3 : fe = (m.ents ++ m.begun).take fe.length)
    (h4 : fh = m.has) (h5 : fh = true → fs = m.lastS ∧ fr = m.lastR) : m.allows fe fh fs fr = true := by
  unfold MoV.allows
  rw [if_neg (by omega), if_neg (by omega), if_neg (by simpa using h3), if_pos]
  cases fh with
  | false => simp [← h4]
  | true =>
    obtain ⟨e1, e2⟩ := h5 rfl
    rw [e1, e2, ptEq_self, ← h4]
    rfl
theorem allows_short (m : MoV) (fe : List (List UInt8)) (fh : Bool) (fs : Int) (fr : List UInt8) (h : fe.length < m.ents.length) : m.allows fe fh fs fr = false := by
  unfold MoV.allows
  rw [if_pos h]
theorem allows_long (m : MoV) (fe : List (List UInt8)) (fh : Bool) (fs : Int) (fr : List UInt8) (h : (m.ents ++ m.begun).length < fe.length) : m.allows fe fh fs fr = false := by
  unfold MoV.allows
  rw [if_neg (by rw [List.length_append] at h; omega), if_pos h]
theorem lose_ents (m : MoV) : m.lose.ents = m.ents := by unfold MoV.lose; split <;> rfl
theorem lose_has (m : MoV) : m.lose.has = m.has := by unfold MoV.lose; split <;> rfl
theorem lose_last (m : MoV) : m.lose.lastS = m.lastS ∧ m.lose.lastR = m.lastR := by unfold MoV.lose; split <;> exact ⟨rfl, rfl⟩
theorem lose_queue (m : MoV) : m.lose.queue = m.queue := by unfold MoV.lose; split <;> rfl
theorem lose_begun (m : MoV) (h : m.begun = []) : m.lose.begun = m.queue := by
  unfold MoV.lose
  split
  · next hq => rw [h, hq]
  · rfl
/-- what was flushed is allowed, before the refusal and behind it -/
theorem allows_log (m : MoV) (fh : Bool) (fs : Int) (fr : List UInt8) (h4 : fh = m.has) (h5 : fh = true → fs = m.lastS ∧ fr = m.lastR) : m.allows m.ents fh fs fr = true :=
  allows_yes m m.ents fh fs fr (Nat.le_refl _) (by rw [List.length_append]; omega) (by rw [List.take_append_of_le_length (Nat.le_refl _), List.take_length]) h4 h5
/-- and of what was begun as many ahead as one likes -/
theorem allows_some (m : MoV) (k : Nat) (fh : Bool) (fs : Int) (fr : List UInt8) (hk : k ≤ m.begun.length) (h4 : fh = m.has) (h5 : fh = true → fs = m.lastS ∧ fr = m.lastR) : m.allows (m.ents ++ m.begun.take k) fh fs fr = true := by
  have hl : (m.ents ++ m.begun.take k).length = m.ents.length + k := by rw [List.length_append, List.length_take]; omega
  refine allows_yes m _ fh fs fr (by omega) (by rw [hl, List.length_append]; omega) ?_ h4 h5
  rw [hl, List.take_length_add_append]
end Go.Proofs.Ytobcfgbkhgkelaa
/- Rows of slices of bytes: several are put behind at once. -/
namespace Go.Proofs.Ytobcfgbkhgkelaa
open Go Go.RowKit

/-- slices of bytes: the row lies anywhere, their bytes where X says -/
structure EsI (W : World) (X : Nat → Prop) (A : Option Addr) (n c : Nat) (ls : List (List UInt8)) : Prop where
  ex : ∃ vs, SlV W (fun _ => True) A n c 1 vs ∧ ∀ i (h : i < ls.length), ∃ Ai ci, vs[i]? = some (.slice Ai (ls[i]).length ci) ∧ Sl W X Ai (ls[i]).length ci ls[i]
  len : ls.length = n
section
variable {W W' : World} {lo : Nat} {v : Value} {ls ms : List (List UInt8)} {X Y : Nat → Prop} {A : Option Addr} {n c : Nat}
theorem Es.i (h : Es W X A n c ls) : EsI W X A n c ls :=
  let ⟨vs, h1, h2⟩ := h.ex
  ⟨⟨vs, h1.all, h2⟩, h.len⟩
theorem EsI.es (h : EsI W X A n c ls) : Es W (fun _ => True) A n c ls :=
  let ⟨vs, h1, h2⟩ := h.ex
  ⟨⟨vs, h1, fun i hi => let ⟨Ai, ci, h3, h4⟩ := h2 i hi; ⟨Ai, ci, h3, h4.all⟩⟩, h.len⟩
theorem EsI.weak (h : EsI W X A n c ls) (hX : ∀ b, b < W.heap.size → X b → Y b) : EsI W Y A n c ls :=
  let ⟨vs, h1, h2⟩ := h.ex
  ⟨⟨vs, h1, fun i hi => let ⟨Ai, ci, h3, h4⟩ := h2 i hi; ⟨Ai, ci, h3, h4.weak hX⟩⟩, h.len⟩
theorem EsI.step (h : EsI W X A n c ls) (hb : Below W.heap.size W W') : EsI W' X A n c ls :=
  let ⟨vs, h1, h2⟩ := h.ex
  ⟨⟨vs, h1.step hb, fun i hi => let ⟨Ai, ci, h3, h4⟩ := h2 i hi; ⟨Ai, ci, h3, h4.step hb⟩⟩, h.len⟩
theorem EsI.lt (h : EsI W X A n c ls) : EsI W (fun b => X b ∧ b < W.heap.size) A n c ls :=
  h.weak fun _ hb hx => ⟨hx, hb⟩
theorem EsI.take (h : EsI W X A n c ls) (k : Nat) (hk : k ≤ n) : EsI W X A k c (ls.take k) := by
  obtain ⟨vs, h1, h2⟩ := h.ex
  have hl := h.len
  have h3 := h1.take k hk
  rw [Nat.mul_one] at h3
  refine ⟨⟨vs.take k, h3, fun i hi => ?_⟩, by rw [List.length_take]; omega⟩
  have hik : i < k := by rw [List.length_take] at hi; omega
  obtain ⟨Ai, ci, h4, h5⟩ := h2 i (by omega)
  rw [List.getElem_take]
  exact ⟨Ai, ci, by rw [List.getElem?_take_of_lt hik]; exact h4, h5⟩
theorem EsO.i (h : EsO W lo v ls X) : ∃ A c, v = .slice A ls.length c ∧ EsI W X A ls.length c ls := by
  obtain ⟨vs, h1, h2⟩ := h.ex
  obtain ⟨A, c, rfl, hs⟩ := owns_slv h1
  exact ⟨A, c, rfl, ⟨vs, hs.all, h2⟩, rfl⟩
/-- several entries are put behind -/
theorem EsO.apps (h : EsO W lo v ls X) (hlo : lo ≤ W.heap.size) (he : EsI W X A n c ms) (hn : ls.length + n ≤ 1000000000) (hX : ∀ b, b < W.heap.size → X b → some b ≠ v.ownBlock) :
    ∃ v' W', (Builtin.append_ #[23, 23] 23 #[v, .slice A n c]).run Try.prog W = .ok v' W' ∧ EsO W' lo v' (ls ++ ms) X ∧ W.grownBy W' v.ownBlock ∧ (v'.ownBlock = v.ownBlock ∨ ∃ k, v'.ownBlock = some k ∧ W.heap.size ≤ k) := by
  obtain ⟨vs, h1, h2⟩ := h.ex
  obtain ⟨us, k1, k2⟩ := he.ex
  have hml := he.len
  obtain ⟨v', W', hr, ho, hg, hv⟩ := append_slv (ty := 23) Try.underlying23 infoSl rfl (by decide) h1 k1 (Es.one (X := fun _ => True) hml k1 fun i hi => let ⟨Ai, ci, h3, h4⟩ := k2 i hi; ⟨Ai, ci, h3, h4.all⟩) (by unfold maxLen; omega) (by omega) hlo
  refine ⟨v', W', hr, ⟨vs ++ us, by rw [List.length_append, hml]; exact ho, fun i hi => ?_⟩, hg, hv⟩
  have hvl : vs.length = ls.length := by have := h1.1; omega
  by_cases hil : i < ls.length
  · obtain ⟨Ai, ci, h3, h4⟩ := h2 i hil
    rw [List.getElem_append_left hil]
    exact ⟨Ai, ci, by rw [List.getElem?_append_left (by omega)]; exact h3, h4.grown hg hX⟩
  · rw [List.length_append] at hi
    obtain ⟨Ai, ci, h3, h4⟩ := k2 (i - ls.length) (by omega)
    rw [List.getElem_append_right (by omega)]
    exact ⟨Ai, ci, by rw [List.getElem?_append_right (by omega), hvl]; exact h3, h4.grown hg hX⟩
theorem grown_to_below {N : Nat} {row : Option Nat} (h : W.grownBy W' row) (hr : ∀ b, row = some b → N ≤ b) (hN : N ≤ W.heap.size) : Below N W W' :=
  (KB.of_grown (M := fun b => row = some b) h fun _ e => e).below hr hN
end
end Go.Proofs.Ytobcfgbkhgkelaa
