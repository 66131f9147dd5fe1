/- ModelGrows: what lies in memory between two statements. -/
import Derived.Test.YtobcfgbkhgkelaaQe230
import Derived.Test.YtobcfgbkhgkelaaQe210
import Derived.Test.YtobcfgbkhgkelaaQe220
import Derived.Test.YtobcfgbkhgkelaaQe224
import Derived.Test.YtobcfgbkhgkelaaQe218
import Derived.Test.YtobcfgbkhgkelaaQe221
namespace Go.Proofs.Ytobcfgbkhgkelaa
open Go Go.RowKit Go.Shelf
attribute [local go_sem] Oper.semAt_some

theorem run_neq_strG (l m : List UInt8) (W : World) : (binOp .neq 9 (.string (bstr l)) (.string (bstr m))).run Try.prog W = .ok (.bool (l != m)) W := by
  have : ∀ l : List UInt8, (bstr l).toList = l := fun l => by rw [ByteArray.toList_eq]; rfl
  rw [binOp_string_neq, Sem.run_pure, this, this]; rfl
theorem run_neqstr_fG {ρ : Operand → Value} {o : Oper} (x y : Operand) (ty : TypeId) (l : List UInt8) (ho : o.op = .binOp .neq 9 x y ty) (hx : ρ x = .string (bstr l)) (hy : ρ y = .string (bstr l)) (W : World) :
    (execOp ρ o).run Try.prog W = .ok (.value (.bool false)) W := by
  unfold execOp
  simp only [ho, hx, hy, eqGuard_at_string, Sem.run_bind, Sem.run_pure, run_neq_strG, Result.andThen_ok, bne_self_eq_false]
/-- others write, and what they write to next -/
theorem Md.kbZ {W W' : World} {Z Z' M : Nat → Prop} {lo g : Nat} {R : MdR} {m : MoV} (h : Md Z lo g R m W) (hk : KB M W W') (hM : ∀ b, b < W.heap.size → M b → Z b) (hz : ∀ b, Z' b → b < W'.heap.size) (hzz : ∀ b, Z' b → Z b ∨ W.heap.size ≤ b) : Md Z' lo g R m W' := by
  have hlt : ∀ b, b < W.heap.size → Z' b → Z b := fun b hl hz' => (hzz b hz').elim id fun h' => absurd hl (by omega)
  have hN : ∀ b, b < W.heap.size → MdW g R b → ¬ M b := fun b hb hw hm => h.zno b hw (hM b hb hm)
  have hX : ∀ b, ¬ MdN Z g R b ∧ b < W.heap.size → ¬ M b := fun b hx hm => hx.1 (.inr (hM b hx.2 hm))
  refine ⟨hk.blk h.blk (hN g h.blk.lt (.inl rfl)), h.lastL, h.ptL, ?_, hk.own h.hashes fun b hb => hN b (h.hashes.lt b hb).2 (.inr (.inr (.inl hb))), ?_, ?_, ?_, h.eq, h.fresh, h.low, h.big, h.bigq, hz, fun b hw hz' => h.zno b hw (hlt b (h.lt b hw).2 hz')⟩
  · exact ((h.ents.weak (Y := fun b => ¬ MdN Z g R b ∧ b < W.heap.size) fun b hl hx => ⟨hx, hl⟩).kb hk (fun b hb => hN b (h.ents.lt b hb).2 (.inr (.inl hb))) fun b _ hx => hX b hx).weak fun b _ hx hm => hx.1 (hm.imp id (hlt b hx.2))
  · exact let ⟨A, c, h1, h2⟩ := h.roots; ⟨A, c, h1, ((h2.weak (Y := fun b => ¬ MdN Z g R b ∧ b < W.heap.size) fun b hl hx => ⟨hx, hl⟩).kb hk fun b _ hx => hX b hx).weak fun b _ hx hm => hx.1 (hm.imp id (hlt b hx.2))⟩
  · exact ((h.queue.weak (Y := fun b => ¬ MdN Z g R b ∧ b < W.heap.size) fun b hl hx => ⟨hx, hl⟩).kb hk (fun b hb => hN b (h.queue.lt b hb).2 (.inr (.inr (.inr hb)))) fun b _ hx => hX b hx).weak fun b _ hx hm => hx.1 (hm.imp id (hlt b hx.2))
  · exact let ⟨A, c, h1, h2⟩ := h.begun; ⟨A, c, h1, ((h2.weak (Y := fun b => ¬ (b = g ∨ Z b) ∧ b < W.heap.size) fun b hl hx => ⟨hx, hl⟩).kb hk fun b _ hx hm => hx.1 (.inr (hM b hx.2 hm))).weak fun b _ hx hm => hx.1 (hm.imp id (hlt b hx.2))⟩
set_option maxHeartbeats 4000000 in
theorem msubmit_long (Z : Nat → Prop) (lo g : Nat) (R : MdR) (m : MoV) (W : World) (h : Md Z lo g R m W) (ho : m.only = false) (A : Option Addr) (n c : Nat) (hn : 4096 < n) :
    Calls Try.prog 10 #[.pointer (some ⟨g, 0, none⟩), .slice A n c] W fun e w' => e = .returned (.int .i64 3) ∧ w' = W := by
  have hm := mmay_any h
  rw [ho] at hm
  have d1 : decide ((4096 : Int) < (n : Int)) = true := by simp; omega
  have d2 : decide (4096 < n) = true := by simp; omega
  clear h ho
  go_enter Try.func10, Try.ntmps10
  go_wp2_with (go_at_call 40; refine hm.mono ?_; rintro e w' ⟨rfl, hw⟩; obtain rfl := hw.symm)
  go_ret
  exact ⟨rfl, rfl⟩
def subM (m : MoV) (e : List UInt8) : MoV := if 4096 < e.length then m else { m with queue := m.queue ++ [e] }
/-- Submit into a queue that has room -/
theorem msubmitL (Z : Nat → Prop) (lo g : Nat) (R : MdR) (m : MoV) (W : World) (h : Md Z lo g R m W) (ho : m.only = false) (hc : (m.queue.length : Int) < m.cap) (A : Option Addr) (n c : Nat) (l : List UInt8) (hl : Sl W (fun _ => True) A n c l) (hq : m.queue.length ≤ 1000000) :
    Calls Try.prog 10 #[.pointer (some ⟨g, 0, none⟩), .slice A n c] W fun e w' => e = .returned (.int .i64 (if 4096 < n then 3 else 0)) ∧ MdS Z lo g R (subM m l) W w' := by
  have hlen := hl.len
  by_cases hn : 4096 < n
  · rw [if_pos hn]
    refine (msubmit_long Z lo g R m W h ho A n c hn).mono ?_
    rintro e w' ⟨rfl, hw⟩
    obtain rfl := hw.symm
    unfold subM
    rw [if_pos (by omega)]
    exact ⟨rfl, ⟨R, h, fun b hb => .inl hb⟩, KB.refl _ _⟩
  · rw [if_neg hn]
    refine (msubmit_any Z lo g R m W h A n c l hl (by omega) hq).mono ?_
    rintro e w' ⟨rfl, hS⟩
    have e1 : (m.submit l).1 = 0 ∧ (m.submit l).2 = subM m l := by
      unfold MoV.submit subM
      rw [ho, if_neg (by decide), if_neg (by omega), if_neg (by omega), if_neg (by omega)]
      exact ⟨rfl, rfl⟩
    rw [e1.1]
    rw [e1.2] at hS
    exact ⟨rfl, hS⟩
theorem subM_keeps (m : MoV) (e : List UInt8) : (subM m e).ents = m.ents ∧ (subM m e).only = m.only ∧ (subM m e).cap = m.cap ∧ (subM m e).has = m.has ∧ (subM m e).lastS = m.lastS ∧ (subM m e).lastR = m.lastR := by
  unfold subM; split <;> exact ⟨rfl, rfl, rfl, rfl, rfl, rfl⟩
/-- what the law itself writes to -/
def GrZ (L Wt Rt : Value) (g13 : Nat) (b : Nat) : Prop := L.ownBlock = some b ∨ Wt.ownBlock = some b ∨ Rt.ownBlock = some b ∨ b = g13
/-- between two statements: the model, the log and what waits, the roots, the point -/
structure GrI (w : World) (base g13 : Nat) (L Wt Rt : Value) (k : Nat) (fs : Int) (fr : List UInt8) (ll wl : List (List UInt8)) (g : Nat) (R : MdR) (m : MoV) (W : World) : Prop where
  md : Md (GrZ L Wt Rt g13) base g R m W
  log : EsO W base L ll (· < base)
  wait : EsO W base Wt wl (· < base)
  roots : ∃ xs, W.ownsRow base 26 32 Rt k xs
  p : PB W g13 fs fr
  low : base ≤ g13
  lw : ∀ b, L.ownBlock = some b → Wt.ownBlock ≠ some b
  bel : Below base w W
section
variable {w W W' : World} {base g13 : Nat} {L Wt Rt : Value} {k : Nat} {fs : Int} {fr : List UInt8} {ll wl : List (List UInt8)} {g : Nat} {R : MdR} {m m' : MoV}
theorem GrI.step (h : GrI w base g13 L Wt Rt k fs fr ll wl g R m W) (hb : Below W.heap.size W W') : GrI w base g13 L Wt Rt k fs fr ll wl g R m W' :=
  ⟨h.md.step hb, h.log.step hb, h.wait.step hb, let ⟨xs, h1⟩ := h.roots; ⟨xs, owns_step h1 hb⟩, h.p.step hb, h.low, h.lw, h.bel.trans (hb.mono (by have := h.md.size; omega))⟩
theorem GrI.size (h : GrI w base g13 L Wt Rt k fs fr ll wl g R m W) : base ≤ W.heap.size := h.md.size
/-- the model is called -/
theorem GrI.call (h : GrI w base g13 L Wt Rt k fs fr ll wl g R m W) (hS : MdS (GrZ L Wt Rt g13) base g R m' W W') : ∃ R', GrI w base g13 L Wt Rt k fs fr ll wl g R' m' W' ∧ KB (MdW g R) W W' := by
  obtain ⟨R', hM, _⟩ := hS.ex
  have hno : ∀ b, GrZ L Wt Rt g13 b → ¬ MdW g R b := fun b hz hw => h.md.zno b hw hz
  refine ⟨R', ⟨hM, ?_, ?_, ?_, ?_, h.low, h.lw, ?_⟩, hS.kb⟩
  · exact h.log.kb hS.kb (fun b hb => hno b (.inl hb)) fun b _ hb hw => by have := (h.md.lt b hw).1; have hb : b < base := hb; omega
  · exact h.wait.kb hS.kb (fun b hb => hno b (.inr (.inl hb))) fun b _ hb hw => by have := (h.md.lt b hw).1; have hb : b < base := hb; omega
  · exact let ⟨xs, h1⟩ := h.roots; ⟨xs, hS.kb.own h1 fun b hb => hno b (.inr (.inr (.inl hb)))⟩
  · exact ⟨hS.kb.blk h.p.blk (hno _ (.inr (.inr (.inr rfl)))), h.p.rl⟩
  · exact h.bel.trans (hS.kb.below (fun b hb => (h.md.lt b hb).1) h.size)
theorem GrI.zlt (h : GrI w base g13 L Wt Rt k fs fr ll wl g R m W) (b : Nat) (hz : GrZ L Wt Rt g13 b) : b < W.heap.size := h.md.zlt b hz
/-- one more waits -/
theorem GrI.addW (h : GrI w base g13 L Wt Rt k fs fr ll wl g R m W) (hn : wl.length ≤ 1000) (l : List UInt8) (A : Option Addr) (c : Nat) (hl : Sl W (· < base) A l.length c l) :
    ∃ v' W', (Builtin.append_ #[23, 23] 23 #[Wt, .slice (some ⟨W.heap.size, 0, none⟩) 1 1]).run Try.prog (W.alloc (.cells #[.slice A l.length c] 22)) = .ok v' W' ∧ GrI w base g13 L v' Rt k fs fr ll (wl ++ [l]) g R m W' := by
  have hsz := h.size
  obtain ⟨v', W', hr, hE, hg, hv⟩ := h.wait.app hsz (by omega) l A c hl (fun b _ hb e => by have := (h.wait.lt b e.symm).1; have hb : b < base := hb; omega)
  have hkb : KB (fun b => Wt.ownBlock = some b) W W' := KB.of_grown hg fun r e => e
  have hnew : ∀ b, v'.ownBlock = some b → Wt.ownBlock = some b ∨ W.heap.size ≤ b := fun b hb => by
    rcases hv with hv | ⟨i, hv, hi⟩
    · exact .inl (by rw [← hv]; exact hb)
    · rw [hv] at hb; cases hb; exact .inr hi
  refine ⟨v', W', hr, ?_, ?_, hE, ?_, ?_, h.low, ?_, ?_⟩
  · refine h.md.kbZ hkb (fun b _ hb => .inr (.inl hb)) (fun b hz => ?_) (fun b hz => ?_)
    · rcases hz with hz | hz | hz
      · exact Nat.lt_of_lt_of_le (h.zlt b (.inl hz)) hkb.size
      · exact (hE.lt b hz).2
      · exact Nat.lt_of_lt_of_le (h.zlt b (.inr (.inr hz))) hkb.size
    · rcases hz with hz | hz | hz
      · exact .inl (.inl hz)
      · exact (hnew b hz).imp (fun h' => .inr (.inl h')) id
      · exact .inl (.inr (.inr hz))
  · exact h.log.kb hkb (fun b hb hm => h.lw b hb hm) fun b _ hb hm => by have := (h.wait.lt b hm).1; have hb : b < base := hb; omega
  · obtain ⟨xs, h1⟩ := h.roots
    exact ⟨xs, hkb.own h1 fun b hb hm => own_ty2 h.wait.ex.choose_spec.1 h1 (by decide) b hb hm⟩
  · exact ⟨hkb.blk h.p.blk fun hm => own_ty h.wait.ex.choose_spec.1 h.p.blk (by decide) hm, h.p.rl⟩
  · intro b hb e
    rcases hnew b e with h1 | h1
    · exact h.lw b hb h1
    · have := (h.log.lt b hb).2; omega
  · exact h.bel.trans (hkb.below (fun b hb => (h.wait.lt b hb).1) hsz)
/-- what waits goes into the log -/
theorem GrI.addL (h : GrI w base g13 L Wt Rt k fs fr ll wl g R m W) (hn : ll.length + wl.length ≤ 1000) (A : Option Addr) (n c : Nat) (hA : Wt = .slice A n c) :
    ∃ v' W', (Builtin.append_ #[23, 23] 23 #[L, .slice A n c]).run Try.prog W = .ok v' W' ∧ GrI w base g13 v' Wt Rt k fs fr (ll ++ wl) wl g R m W' := by
  have hsz := h.size
  obtain ⟨A', c', e, hi⟩ := h.wait.i
  rw [hA] at e
  injection e with e1 e2 e3
  subst e1 e2 e3
  obtain ⟨v', W', hr, hE, hg, hv⟩ := h.log.apps hsz hi (by omega) (fun b _ hb e => by have := (h.log.lt b e.symm).1; have hb : b < base := hb; omega)
  have hkb : KB (fun b => L.ownBlock = some b) W W' := KB.of_grown hg fun r e => e
  have hnew : ∀ b, v'.ownBlock = some b → L.ownBlock = some b ∨ W.heap.size ≤ b := fun b hb => by
    rcases hv with hv | ⟨i, hv, hi⟩
    · exact .inl (by rw [← hv]; exact hb)
    · rw [hv] at hb; cases hb; exact .inr hi
  refine ⟨v', W', hr, ?_, hE, ?_, ?_, ?_, h.low, ?_, ?_⟩
  · refine h.md.kbZ hkb (fun b _ hb => .inl hb) (fun b hz => ?_) (fun b hz => ?_)
    · rcases hz with hz | hz
      · exact (hE.lt b hz).2
      · exact Nat.lt_of_lt_of_le (h.zlt b (.inr hz)) hkb.size
    · rcases hz with hz | hz
      · exact (hnew b hz).imp (fun h' => .inl h') id
      · exact .inl (.inr hz)
  · exact h.wait.kb hkb (fun b hb hm => h.lw b hm hb) fun b _ hb hm => by have := (h.log.lt b hm).1; have hb : b < base := hb; omega
  · obtain ⟨xs, h1⟩ := h.roots
    exact ⟨xs, hkb.own h1 fun b hb hm => own_ty2 h.log.ex.choose_spec.1 h1 (by decide) b hb hm⟩
  · exact ⟨hkb.blk h.p.blk fun hm => own_ty h.log.ex.choose_spec.1 h.p.blk (by decide) hm, h.p.rl⟩
  · intro b hb e
    rcases hnew b hb with h1 | h1
    · exact h.lw b h1 e
    · have := (h.wait.lt b e).2; omega
  · exact h.bel.trans (hkb.below (fun b hb => (h.log.lt b hb).1) hsz)
/-- nothing waits any more -/
theorem GrI.noW (h : GrI w base g13 L Wt Rt k fs fr ll wl g R m W) : GrI w base g13 L (.slice none 0 0) Rt k fs fr ll [] g R m W := by
  refine ⟨h.md.setZ (fun b hz => ?_) (fun b _ hz => ?_), h.log, EsO.nil, h.roots, h.p, h.low, (fun b _ e => by cases e), h.bel⟩
  · rcases hz with hz | hz | hz
    · exact h.zlt b (.inl hz)
    · cases hz
    · exact h.zlt b (.inr (.inr hz))
  · rcases hz with hz | hz | hz
    · exact .inl hz
    · cases hz
    · exact .inr (.inr hz)
/-- one more root -/
theorem GrI.addR (h : GrI w base g13 L Wt Rt k fs fr ll wl g R m W) (hk : k ≤ 1000) (x : List UInt8) (hx : x.length = 32) :
    ∃ v' W', (Builtin.append_ #[33, 33] 33 #[Rt, .slice (some ⟨W.heap.size, 0, none⟩) 1 1]).run Try.prog (W.alloc (.cells (hcells [x]).toArray 26)) = .ok v' W' ∧ GrI w base g13 L Wt v' (k + 1) fs fr ll wl g R m W' ∧ W.grownBy W' Rt.ownBlock := by
  have hsz := h.size
  have hx1 : hcells [x] = x.map B := by simp [hcells]
  rw [hx1]
  obtain ⟨xs, h1⟩ := h.roots
  have hba : Below W.heap.size W (W.alloc (.cells (x.map B).toArray 26)) := (Below.refl _ _).alloc (Nat.le_refl _) _
  obtain ⟨v', W', hr, ho, hg', hv'⟩ := append_slv (ty := 33) Try.underlying33 info26z (by simp [Value.cells]) (by decide) (owns_step h1 hba) (SlV.lit (s := 32) (n := 1) W (fun _ => True) 26 (x.map B) (by simp [hx]) (by decide) trivial) (by intro u hu; obtain ⟨y, _, rfl⟩ := List.mem_map.1 hu; rfl) (by unfold maxLen; omega) (by omega) (Nat.le_trans hsz hba.size)
  have hg : W.grownBy W' Rt.ownBlock := (grown_of_below hba Rt.ownBlock).trans hg'
  have hkb : KB (fun b => Rt.ownBlock = some b) W W' := KB.of_grown hg fun r e => e
  have hnew : ∀ b, v'.ownBlock = some b → Rt.ownBlock = some b ∨ W.heap.size ≤ b := fun b hb => by
    rcases hv' with hv | ⟨i, hv, hi⟩
    · exact .inl (by rw [← hv]; exact hb)
    · rw [hv] at hb; cases hb; exact .inr (Nat.le_trans hba.size hi)
  refine ⟨v', W', hr, ⟨?_, ?_, ?_, ⟨_, ho⟩, ?_, h.low, h.lw, ?_⟩, hg⟩
  · refine h.md.kbZ hkb (fun b _ hb => .inr (.inr (.inl hb))) (fun b hz => ?_) (fun b hz => ?_)
    · rcases hz with hz | hz | hz | hz
      · exact Nat.lt_of_lt_of_le (h.zlt b (.inl hz)) hkb.size
      · exact Nat.lt_of_lt_of_le (h.zlt b (.inr (.inl hz))) hkb.size
      · exact (ho.lt b hz).2
      · exact Nat.lt_of_lt_of_le (h.zlt b (.inr (.inr (.inr hz)))) hkb.size
    · rcases hz with hz | hz | hz | hz
      · exact .inl (.inl hz)
      · exact .inl (.inr (.inl hz))
      · exact (hnew b hz).imp (fun h' => .inr (.inr (.inl h'))) id
      · exact .inl (.inr (.inr (.inr hz)))
  · exact h.log.kb hkb (fun b hb hm => own_ty2 h.log.ex.choose_spec.1 h1 (by decide) b hm hb) fun b _ hb hm => by have := (h1.lt b hm).1; have hb : b < base := hb; omega
  · exact h.wait.kb hkb (fun b hb hm => own_ty2 h.wait.ex.choose_spec.1 h1 (by decide) b hm hb) fun b _ hb hm => by have := (h1.lt b hm).1; have hb : b < base := hb; omega
  · exact ⟨hkb.blk h.p.blk fun hm => own_ty h1 h.p.blk (by decide) hm, h.p.rl⟩
  · exact h.bel.trans (hkb.below (fun b hb => (h1.lt b hb).1) hsz)
/-- the point is written over -/
theorem GrI.setP (h : GrI w base g13 L Wt Rt k fs fr ll wl g R m W) (fs' : Int) (fr' : List UInt8) (hl : fr'.length = 32) : GrI w base g13 L Wt Rt k fs' fr' ll wl g R m (W.setRow g13 (.int .i64 fs' :: fr'.map B).toArray) := by
  have hsz := h.size
  have hkb : KB (fun b => b = g13) W (W.setRow g13 (.int .i64 fs' :: fr'.map B).toArray) := KB.of_grown (grown_setRow (World.grownBy.refl _ _) _) fun r e => (Option.some.inj e).symm
  have hlow := h.low
  refine ⟨h.md.kb hkb (fun b _ e => .inr (.inr (.inr e))), ?_, ?_, ?_, ⟨h.p.blk.setRow_ _, hl⟩, h.low, h.lw, h.bel.trans (hkb.below (fun b e => by omega) hsz)⟩
  · exact h.log.kb hkb (fun b hb e => by subst e; exact own_ty h.log.ex.choose_spec.1 h.p.blk (by decide) hb) fun b _ hb e => by have hb : b < base := hb; omega
  · exact h.wait.kb hkb (fun b hb e => by subst e; exact own_ty h.wait.ex.choose_spec.1 h.p.blk (by decide) hb) fun b _ hb e => by have hb : b < base := hb; omega
  · obtain ⟨xs, h1⟩ := h.roots
    exact ⟨xs, hkb.own h1 fun b hb e => by subst e; exact own_ty h1 h.p.blk (by decide) hb⟩
end
end Go.Proofs.Ytobcfgbkhgkelaa
/- The roots of the stretches of an audit path (plain). -/
namespace Go.Proofs.Ytobcfgbkhgkelaa
open Go Go.RowKit

theorem pathA_each (m : Int) (n : Nat) : ∀ x ∈ (pathA m n).1, x.1 < x.2 ∧ x.2 ≤ n := by
  intro x hx
  unfold pathA at hx
  split at hx
  · cases hx
  · rename_i h1
    have := (pathL_ok n m.toNat 0 n (by omega) (by omega) (by omega)).each x (by simpa using hx)
    omega
theorem path_good (hs : List (List UInt8)) (m : Int) : goodL hs (natR (pathA m hs.length).1) = natR (pathA m hs.length).1 := by
  unfold goodL
  rw [List.filter_eq_self]
  intro y hy
  unfold natR at hy
  obtain ⟨x, hx, rfl⟩ := List.mem_map.1 hy
  obtain ⟨h1, h2⟩ := pathA_each m hs.length x hx
  unfold okR
  rw [stretchR_nat hs x.1 x.2 h1 h2]
  rfl
theorem length_rootsP (hs : List (List UInt8)) (m : Int) : (rootsP hs m).length = (pathA m hs.length).1.length := by simp [rootsP, rootsL]
theorem rootsP_all (hs : List (List UInt8)) (h : H32 hs) (m : Int) : H32 (rootsP hs m) := rootsL_all hs h _
theorem rootsP_at (hs : List (List UInt8)) (m : Int) (k : Nat) (h : k < (pathA m hs.length).1.length) : (stretchR hs ((natR (pathA m hs.length).1).getD k (0, 0)).1 ((natR (pathA m hs.length).1).getD k (0, 0)).2).1 = (rootsP hs m).getD k [] := by
  obtain ⟨h1, h2⟩ := pathA_each m hs.length _ (List.getElem_mem h)
  unfold natR rootsP rootsL
  rw [List.getD_eq_getElem?_getD, List.getElem?_map, List.getD_eq_getElem?_getD, List.getElem?_map, List.getElem?_eq_getElem h]
  simp only [Option.map_some, Option.getD_some]
  rw [stretchR_nat hs _ _ h1 h2]
theorem rootsP_bad (hs : List (List UInt8)) (m : Int) (h : (pathA m hs.length).2 ≠ 0) : rootsP hs m = [] := by
  unfold rootsP pathA at *
  split
  · rfl
  · rename_i h1
    rw [if_neg h1] at h
    exact absurd rfl h
theorem pathA_e (m n : Int) : (pathA m n).2 = 0 ∨ (pathA m n).2 = 4 := by
  unfold pathA
  split
  · exact .inr rfl
  · exact .inl rfl
end Go.Proofs.Ytobcfgbkhgkelaa
/- incl.Prove. -/
namespace Go.Proofs.Ytobcfgbkhgkelaa
open Go Go.RowKit Go.Shelf
attribute [local go_sem] Oper.semAt_some

set_option maxHeartbeats 4000000 in
set_option maxRecDepth 100000 in
theorem iprove_any (hs : List (List UInt8)) (A : Option Addr) (n c : Nat) (w : World) (m : Int) (h : Hs w (fun _ => True) A n c hs) (hn : n ≤ 1099511627776) :
    Calls Try.prog 59 #[.slice A n c, .int .i64 m] w fun e w' => ∃ v, e = .returned (.tuple #[v, .int .i64 (pathA m hs.length).2]) ∧ w'.ownsRow w.heap.size 26 32 v (rootsP hs m).length (hcells (rootsP hs m)) ∧ Below w.heap.size w w' := by
  have hlen := h.len
  have h32 := h.all
  have hroom := h.sl.room
  have hmx := h.sl.max
  unfold maxLen at hmx
  have hst := tpathA_any m (n : Int) w (by omega)
  obtain ⟨⟨ls, e0⟩, hse⟩ : ∃ s, pathA m (n : Int) = s := ⟨_, rfl⟩
  rw [hse] at hst
  dsimp only at hst
  have hlm : ls.length ≤ 64 := by have := pathA_len m (n : Int) (by omega); rw [hse] at this; exact this
  have Hlen := Lib.hid hlen
  have H32h := Lib.hid h32
  have Hst := Lib.hid hst
  rw [hlen, hse]
  dsimp only
  by_cases he0 : e0 = 0
  · subst he0
    have hgood := path_good hs m
    have hlr := length_rootsP hs m
    have hat := rootsP_at hs m
    rw [hlen, hse] at hgood hlr hat
    dsimp only at hgood hlr hat
    obtain ⟨rs, hrs⟩ : ∃ rs, rootsP hs m = rs := ⟨_, rfl⟩
    have hr32 : H32 rs := by rw [← hrs]; exact rootsP_all hs h32 m
    rw [hrs] at hlr hat ⊢
    have Hgood := Lib.hid hgood
    have Hlr := Lib.hid hlr
    have Hat := Lib.hid hat
    have Hr32 := Lib.hid hr32
    have Hse := Lib.hid hse
    clear hlen h32 hst hgood hlr hat hr32 hrs hse
    refine (callsIn_wide (n := 5)).1 ?_
    refine callsIn_of_wp_marks Try.func59 rfl trivial ?_ rfl
    simp only [Try.ntmps59, List.size_toArray, List.length_cons, List.length_nil, Nat.reduceAdd, Nat.reduceSub, Array.replicate_succ, Array.replicate_zero, List.push_toArray, List.append_toArray, List.nil_append, List.cons_append]
    refine wpIn_wide.2 ?_
    go_wp2_with fail
    refine Hst.out.mono ?_
    rintro e w1 ⟨vs, rfl, hP⟩
    obtain ⟨As, cs, rfl, hrs1⟩ := Rs.of_owns hP.own (length_natR ls)
    have hb1 := hP.bel
    have hroom1 := hrs1.sl.room
    have hmx1 := hrs1.sl.max
    unfold maxLen at hmx1
    have h1 := h.step hb1
    have k8 : Blk (w1.alloc (.cells #[.slice none 0 0] 33)) w1.heap.size 33 #[.slice none 0 0] := Blk.new _ _ _
    have hb8 : Below w.heap.size w (w1.alloc (.cells #[.slice none 0 0] 33)) := hb1.alloc hb1.size _
    have hb18 : Below w1.heap.size w1 (w1.alloc (.cells #[.slice none 0 0] 33)) := (Below.refl _ _).alloc (Nat.le_refl _) _
    have h2 := h1.step hb18
    have hrs2 := hrs1.step hb18
    have hs12 := hb1.size
    clear h hP h1 hrs1 hb18 hb1
    have hsz2 : (w1.alloc (.cells #[.slice none 0 0] 33)).heap.size = w1.heap.size + 1 := by simp
    go_wp2_with fail
    generalize w1.alloc (.cells #[.slice none 0 0] 33) = W2 at *
    generalize w1.heap.size = g8 at *
    refine (each_any hs (natR ls) A n c As ls.length cs W2 h2 (hrs2.weak fun _ _ _ => trivial) (by omega) (by omega)).mono ?_
    rintro e W3 ⟨A2, c2, Ar2, cr2, rfl, e1, e2, eh, er, hb3⟩
    have hI0 : ∀ n₁, CpI w g8 n₁ [] W3 := fun n₁ => ⟨⟨_, k8.step hb3, World.ownsRow_nil _ _ _ _⟩, hb8.trans (hb3.mono hb8.size)⟩
    have hsz3 := hb3.size
    have hG := e1.lt
    clear h2 hrs2 k8 hb8 hb3
    rw [hsz2] at e1 e2 eh er hsz3 hG
    go_wp2_with fail
    refine wp_range_U (gf := 94) (lb := #[.pointer (some ⟨g8 + 1 + 1, 0, none⟩), .pointer (some ⟨g8 + 1, 0, none⟩)]) rfl (enters_of Try.func94 (by kernel_rfl) rfl)
      (each1_seq hs (natR ls) A2 n c2 Ar2 ls.length cr2 (g8 + 1 + 1) (g8 + 1) (· = g8) W3 e1 e2 (eh.weak fun b _ hb e => by have hb : g8 + 1 + 1 < b := hb; have e : b = g8 := e; omega) (er.weak fun b _ hb e => by have hb : g8 + 1 + 1 < b := hb; have e : b = g8 := e; omega) (by intro e; omega) (fun b hb => by have hb : b = g8 := hb; omega) (by omega) (by omega))
      (fun n₁ k vs W h => by rw [show vs = _ from h]; rfl)
      (fun n₁ k => CpI w g8 n₁ (rs.take k)) (fun _ _ _ _ => False) (fun n₁ => CpI.own_ (fun k => rs.take k) (by omega)) (fun _ _ _ _ _ _ h _ _ => h.elim) (fun n₁ _ => by simpa using hI0 n₁) ?round ?done ?stop
    case round =>
      clear hI0 e1 e2 eh er
      intro li n₁ k vs X hl hln hnX hk hI hy
      subst hy
      rw [Hgood.out, length_natR] at hk
      rw [Hgood.out, Hat.out k hk]
      have htk := take_snocH rs k (by rw [Hlr.out]; exact hk)
      have hzl := Hr32.out.getD k (by rw [Hlr.out]; exact hk)
      have hlen : (rs.take k).length ≤ 64 := by rw [List.length_take, Hlr.out]; omega
      generalize rs.getD k [] = z at hzl htk ⊢
      generalize (natR ls).getD k (0, 0) = x
      obtain ⟨x1, x2⟩ := x
      dsimp only [rval]
      have Htk := Lib.hid htk
      have Hzl := Lib.hid hzl
      clear htk hzl
      refine wpIn_region_lit ?_
      go_simp
      refine wpListIn_of2 (openR li) rfl ?_
      refine wpList_hvar (.tmp 10) (.tmp 25) rfl rfl rfl rfl rfl rfl Hzl.out ?_
      intro X1 k10 hb10
      refine thenN_nil ?_
      simp only [Act.put]
      gi_wp2
      refine ⟨KeepU.below hb10, ?_⟩
      intro X2 hturn
      have hI2 := hturn.own (CpI.own_ (w := w) (g8 := g8) (n₁ := n₁) (fun k => rs.take k) (show w.heap.size ≤ W3.heap.size by omega)) (hI.step hb10)
      have k10' : HV X2 X.heap.size z := ⟨hturn.blk k10.blk, Hzl.out⟩
      have hnX2 : n₁ ≤ X2.heap.size := by rw [hturn.size]; exact Nat.le_trans hnX hb10.size
      clear hI k10 hb10 hturn hnX
      generalize X.heap.size = g10 at k10' ⊢
      obtain ⟨⟨v, k8, hov⟩, hbel⟩ := hI2
      generalize hq : rs.take k = q at *
      obtain ⟨v', W9, hr9, hv9, hg9, -⟩ := append_hR hov z Hzl.out (by omega) hnX2
      obtain ⟨gv, cv, rfl⟩ := owns_some hv9 (by simp)
      have hge9 : ∀ r, v.ownBlock = some r → n₁ ≤ r := fun r e => (hov.lt r e).1
      have k89 : Blk W9 g8 33 #[v] := k8.grown hg9 (fun e => by have := hge9 _ e.symm; omega)
      have c8 : X2.cell? ⟨g8, 0, none⟩ = some v := by rw [k8.cell]; rfl
      have c89 : W9.cell? ⟨g8, 0, none⟩ = some v := by rw [k89.cell]; rfl
      have f89 := k89.frozen 0
      have Hr9 := Lib.hid hr9
      clear hr9
      gi_wp2_with (first
        | ((with_reducible show wpListIn _ _ _ _ _ (⟨some 27, .load _ _, _, _, _, _⟩ :: _) _ _); refine wpListIn_of1 (openR li) rfl ?_; refine wpList_hload (.tmp 10) (by kernel_rfl) rfl k10' rfl ?_; refine thenN_nil ?_; simp only [Act.put])
        | ((with_reducible show wpListIn _ _ _ _ _ (⟨some 28, .buildSlice _ _ _, _, _, _, _⟩ :: _) _ _); refine wpListIn_of1 (openR li) rfl ?_; refine wpList_run rfl _ _ (run_litH_op z Hzl.out (.tmp 27) rfl rfl _) ?_; refine thenN_nil ?_; simp only [Act.put])
        | ((with_reducible show wpListIn _ _ _ _ _ (⟨some 29, .call _, _, _, _, _⟩ :: _) _ _); refine wpListIn_of1 (openR li) rfl ?_; refine wpList_run rfl _ W9 (run_append_op (.tmp 26) (.tmp 28) 33 rfl _ _ rfl rfl Hr9.out) ?_; refine thenN_nil ?_; simp only [Act.put]))
      have hl : (q ++ [z]).length = q.length + 1 := by simp
      rw [hl] at hv9
      have hgn := (hv9.lt gv rfl).1
      refine ⟨(KeepU.grown hg9 (fun r e => ⟨.inl (hge9 r e), owns_cells hov e⟩)).trans (KeepU.setCell (U := (· = g8)) k89 (.inr rfl) 0 _), ⟨_, k89.set_ 0 _, ?_⟩, (hbel.grown hg9 hbel.size (fun r e => by have := hge9 r e; omega)).setCell (by show w.heap.size ≤ g8; omega) _⟩
      rw [Htk.out, hl]
      exact hv9.kept (grownBy_setCell' W9 g8 _) (.inr (fun e => by have e : gv = g8 := Option.some.inj e; omega))
    case done =>
      clear hI0 e1 e2 eh er
      intro D n₁ X hD hDn hI hK
      rw [Hgood.out, length_natR, List.take_of_length_le (by rw [Hlr.out]; exact Nat.le_refl _)] at hI
      obtain ⟨⟨v, k8, hov⟩, hbel⟩ := hI
      have c8 : X.cell? ⟨g8, 0, none⟩ = some v := by rw [k8.cell]; rfl
      go_wp2_with fail
      refine leaves_marks (N := w.heap.size) [D] _ ((MarksOk.nil _ _).cons (by omega) hK (by simp)) fun w' ht => ⟨_, results_tmp2 rfl _ _ _, v, rfl, ?_, hbel.trans ht.bel⟩
      refine owns_le (b := n₁) ?_ (by omega)
      rcases hov.2 with ⟨rfl, h0⟩ | ⟨g, cap, cur, rfl, hb, hc, r1, r2, r3, r4⟩
      · exact ⟨hov.1, .inl ⟨rfl, h0⟩⟩
      · exact ⟨hov.1, .inr ⟨g, cap, cur, rfl, hb, ht.blk _ _ _ hc, r1, r2, r3, r4⟩⟩
    case stop =>
      rintro D n₁ cd k X hD hDn hk h hK
      exact h.elim
  · have hb0 : rootsP hs m = [] := rootsP_bad hs m (by rw [hlen, hse]; exact he0)
    rw [hb0]
    have hne : (e0 != 0) = true := by simpa using he0
    clear hlen h32 hst hse he0 hb0
    refine (callsIn_wide (n := 5)).1 ?_
    refine callsIn_of_wp_marks Try.func59 rfl trivial ?_ rfl
    simp only [Try.ntmps59, List.size_toArray, List.length_cons, List.length_nil, Nat.reduceAdd, Nat.reduceSub, Array.replicate_succ, Array.replicate_zero, List.push_toArray, List.append_toArray, List.nil_append, List.cons_append]
    refine wpIn_wide.2 ?_
    go_wp2_with fail
    refine Hst.out.mono ?_
    rintro e w1 ⟨vs, rfl, hP⟩
    obtain ⟨As, cs, rfl, -⟩ := Rs.of_owns hP.own (length_natR ls)
    have hb1 := hP.bel
    clear hP
    go_wp2_with fail
    refine leaves_marks (N := w.heap.size) [] _ (MarksOk.nil _ _) fun w' ht => ⟨_, results_tmp2 rfl _ _ _, _, rfl, World.ownsRow_nil _ _ _ _, hb1.trans ht.bel⟩
end Go.Proofs.Ytobcfgbkhgkelaa
/- model: begins, Root, Cons, Incl: of a beginning that is there. -/
namespace Go.Proofs.Ytobcfgbkhgkelaa
open Go Go.RowKit Go.Shelf
attribute [local go_sem] Oper.semAt_some

theorem sliceHM : Try.prog.underlying 33 = some (.slice (Try.prog.elem 33)) := by kernel_rfl
theorem sizeHM : ∀ w : World, (sizeOf (Try.prog.elem 33)).run Try.prog w = .ok 32 w := fun _ => by kernel_rfl
theorem run_slice_hiH {ρ : Operand → Value} {o : Oper} (x y : Operand) (ho : o.op = .slice 33 x none (some y) none) (A : Option Addr) (n c k : Nat) (hx : ρ x = .slice A n c) (hy : ρ y = .int .i64 (k : Int)) (hk : k ≤ c) (W : World) :
    (execOp ρ o).run Try.prog W = .ok (.value (.slice A k c)) W := by
  unfold execOp
  simp only [ho, hx, hy, Option.map_some, Option.map_none, run_slice_high sliceHM sizeHM A n c k hk W, Sem.run_bind, Sem.run_pure, Result.andThen_ok]
set_option maxRecDepth 100000 in
theorem tuple_hv {fn : Func} {p u : Tmp} (h : fn.results = #[.cell p 26, .tmp u]) (tmps : Array Value) (W : World) (g : Nat) (l : List UInt8)
    (hp : tmps.getD p undef = .pointer (some ⟨g, 0, none⟩)) (k : HV W g l) :
    (results fn tmps).run Try.prog W = .ok (.tuple #[.agg (l.map B).toArray, tmps.getD u undef]) W := by
  rw [results_cell_tmp h, hp]
  show ((loadVar 26 ⟨g, 0, none⟩).run Try.prog W).andThen (fun v w₂ => Result.ok (Value.tuple #[v, tmps.getD u undef]) w₂) = _
  rw [run_loadVar_row W g 26 26 (l.map B).toArray (0, 0) _ k.blk Try.underlying26 rfl (by rw [show (l.map B).toArray.size = 32 by simp [k.len]]; kernel_rfl)]
  rfl
section
variable {W : World} {Z : Nat → Prop} {lo g : Nat} {R : MdR} {m : MoV}
theorem mbegins_ok (h : Md Z lo g R m W) (n : Nat) (hn : n ≤ m.ents.length) : Calls Try.prog 42 #[.pointer (some ⟨g, 0, none⟩), .int .i64 (n : Int)] W fun e w' => e = .returned (.int .i64 0) ∧ w' = W := by
  have hno := mnone_any h
  have hsz := msize_any h
  have d1 : decide ((n : Int) < 0) = false := by simp
  have d2 : decide ((m.ents.length : Int) < (n : Int)) = false := by simp; omega
  have d3 : decide (m.ents.length < n) = false := by simp; omega
  obtain ⟨N, hN⟩ : ∃ x, m.ents.length = x := ⟨_, rfl⟩
  rw [hN] at hsz d2 d3
  clear h hN hn
  go_enter Try.func42, Try.ntmps42
  go_wp2_with (first
    | (go_at_call 43; refine (hno).mono ?_; rintro e w' ⟨rfl, hw⟩; obtain rfl := hw.symm)
    | (go_at_call 13; refine (hsz).mono ?_; rintro e w' ⟨rfl, hw⟩; obtain rfl := hw.symm))
  go_ret
  exact ⟨rfl, rfl⟩
set_option maxHeartbeats 4000000 in
set_option maxRecDepth 100000 in
theorem mroot_ok (h : Md Z lo g R m W) (n : Nat) (hn : n ≤ m.ents.length) : Calls Try.prog 12 #[.pointer (some ⟨g, 0, none⟩), .int .i64 (n : Int)] W fun e w' => e = .returned (.tuple #[.agg ((rootL ((lvs m.ents).take n)).map B).toArray, .int .i64 0]) ∧ Below W.heap.size W w' := by
  obtain ⟨root, hroot⟩ : ∃ x, rootL ((lvs m.ents).take n) = x := ⟨_, rfl⟩
  have hr32 : root.length = 32 := by rw [← hroot]; exact length_rootL _ ((H32.lvs _).take n)
  obtain ⟨w1, hw1⟩ : ∃ x, W.alloc (.cells (zeroHash) 26) = x := ⟨_, rfl⟩
  have k1 : Blk w1 W.heap.size 26 zeroHash := by rw [← hw1]; exact Blk.new _ _ _
  have B1 : Below W.heap.size W w1 := by rw [← hw1]; exact (Below.refl _ _).alloc (Nat.le_refl _) _
  have h1 := h.step B1
  have hbe := mbegins_ok h1 n hn
  obtain ⟨A, c, hre, hrs⟩ := h1.roots
  have hr := hrs.sl.room
  have hmx := hrs.sl.max
  unfold maxLen at hmx
  obtain ⟨b, o, rfl, hbl, -, hld⟩ := hrs.at_ (by omega)
  have hget : (headsL (lvs m.ents) m.ents.length).getD n [] = root := by rw [headsL_getD _ _ _ hn]; exact hroot
  have hlr := hld n (by omega)
  rw [hget] at hlr
  have c2 : w1.cell? ⟨g, 2, none⟩ = some (.slice (some ⟨b, o, none⟩) (m.ents.length + 1) c) := (h1.cell 2 (by decide)).trans (congrArg some hre)
  obtain ⟨N, hN⟩ : ∃ x, m.ents.length = x := ⟨_, rfl⟩
  rw [hN] at c2 hr hn
  have hlt : n < N + 1 := by omega
  have hnn : (n : Int) < (N : Int) + 1 := by omega
  rw [hroot]
  have Hw1 := Lib.hid hw1
  have Hlr := Lib.hid hlr
  clear hw1 hlr hget hroot hrs hre hld h1 h hN hbl
  go_enter Try.func12, Try.ntmps12
  go_wp2_with (first
    | ((with_reducible show wpList _ _ _ (⟨some 4, .alloc _, _, _, _, _⟩ :: _) _ _); refine wpList_run rfl (.pointer (some ⟨W.heap.size, 0, none⟩)) w1 (by rw [← Hw1.out]; kernel_rfl) ?_; simp only [Act.put])
    | (go_at_call 42; refine (hbe).mono ?_; rintro e w' ⟨rfl, hw⟩; obtain rfl := hw.symm)
    | ((with_reducible show wpList _ _ _ (⟨some 21, .load _ _, _, _, _, _⟩ :: _) _ _); refine wpList_load rfl 26 (.tmp 20) rfl b (o + n * 32) rfl _ Hlr.out ?_; simp only [Act.put])
    | ((with_reducible show wpList _ _ _ (⟨none, .store _ (.tmp 4) _, _, _, _, _⟩ :: _) _ _); refine wpList_hset (l := root) (l' := List.replicate 32 0) (.tmp 4) (.tmp 21) rfl rfl ⟨k1, rfl⟩ rfl rfl hr32 ?_; intro w9 k9 b9 hw9; clear hw9; simp only [Act.put]))
  exact bodyPost_ret (tuple_hv rfl _ _ W.heap.size root rfl k9) rfl ⟨rfl, B1.trans (b9.mono (Nat.le_refl _))⟩
set_option maxHeartbeats 4000000 in
set_option maxRecDepth 100000 in
theorem mcons_ok (h : Md Z lo g R m W) (k n : Nat) (hn : n ≤ m.ents.length) (_hk : k ≤ n) (hN : m.ents.length ≤ 1000000000) : Calls Try.prog 25 #[.pointer (some ⟨g, 0, none⟩), .int .i64 (k : Int), .int .i64 (n : Int)] W fun e w' =>
    ∃ v, e = .returned (.tuple #[v, .int .i64 (stepsA (k : Int) (n : Int)).2]) ∧ w'.ownsRow W.heap.size 26 32 v (rootsS ((lvs m.ents).take n) (k : Int)).length (hcells (rootsS ((lvs m.ents).take n) (k : Int))) ∧ Below W.heap.size W w' := by
  have hbe := mbegins_ok h n hn
  obtain ⟨A, c, hve, hes⟩ := Hs.of_owns h.hashes (lvs_length _) (H32.lvs _)
  have hr := hes.sl.room
  have hmx := hes.sl.max
  unfold maxLen at hmx
  have c1 : W.cell? ⟨g, 1, none⟩ = some (.slice A m.ents.length c) := (h.cell 1 (by decide)).trans (congrArg some hve)
  have ht := (hes.take n hn).weak (Y := fun _ => True) fun _ _ _ => trivial
  have hcp := cprove_any _ A n c W (k : Int) ht (by omega)
  have hln : ((lvs m.ents).take n).length = n := by rw [List.length_take, lvs_length]; omega
  rw [hln] at hcp
  have Hcp := Lib.hid hcp
  obtain ⟨N, hN'⟩ : ∃ x, m.ents.length = x := ⟨_, rfl⟩
  have hnc : n ≤ c := by omega
  rw [hN'] at c1 hr
  clear hcp ht hes hve h hN' hln
  go_enter Try.func25, Try.ntmps25
  go_wp2_with (first
    | (go_at_call 42; refine (hbe).mono ?_; rintro e w' ⟨rfl, hw⟩; obtain rfl := hw.symm)
    | ((with_reducible show wpList _ _ _ (⟨some 21, .slice _ _ _ _ _, _, _, _, _⟩ :: _) _ _); refine wpList_run rfl (.slice A n c) W (run_slice_hiH (.tmp 19) (.tmp 20) rfl A N c n rfl rfl hnc W) ?_; simp only [Act.put]))
  refine Hcp.out.mono ?_
  rintro e w1 ⟨v, rfl, ho, hb⟩
  go_wp2_with fail
  go_ret2
  exact ⟨v, rfl, ho, hb⟩
set_option maxHeartbeats 4000000 in
set_option maxRecDepth 100000 in
theorem mincl_ok (h : Md Z lo g R m W) (k n : Nat) (hn : n ≤ m.ents.length) (_hk : k ≤ n) (hN : m.ents.length ≤ 1000000000) : Calls Try.prog 28 #[.pointer (some ⟨g, 0, none⟩), .int .i64 (k : Int), .int .i64 (n : Int)] W fun e w' =>
    ∃ v, e = .returned (.tuple #[v, .int .i64 (pathA (k : Int) (n : Int)).2]) ∧ w'.ownsRow W.heap.size 26 32 v (rootsP ((lvs m.ents).take n) (k : Int)).length (hcells (rootsP ((lvs m.ents).take n) (k : Int))) ∧ Below W.heap.size W w' := by
  have hbe := mbegins_ok h n hn
  obtain ⟨A, c, hve, hes⟩ := Hs.of_owns h.hashes (lvs_length _) (H32.lvs _)
  have hr := hes.sl.room
  have hmx := hes.sl.max
  unfold maxLen at hmx
  have c1 : W.cell? ⟨g, 1, none⟩ = some (.slice A m.ents.length c) := (h.cell 1 (by decide)).trans (congrArg some hve)
  have ht := (hes.take n hn).weak (Y := fun _ => True) fun _ _ _ => trivial
  have hcp := iprove_any _ A n c W (k : Int) ht (by omega)
  have hln : ((lvs m.ents).take n).length = n := by rw [List.length_take, lvs_length]; omega
  rw [hln] at hcp
  have Hcp := Lib.hid hcp
  obtain ⟨N, hN'⟩ : ∃ x, m.ents.length = x := ⟨_, rfl⟩
  have hnc : n ≤ c := by omega
  rw [hN'] at c1 hr
  clear hcp ht hes hve h hN' hln
  go_enter Try.func28, Try.ntmps28
  go_wp2_with (first
    | (go_at_call 42; refine (hbe).mono ?_; rintro e w' ⟨rfl, hw⟩; obtain rfl := hw.symm)
    | ((with_reducible show wpList _ _ _ (⟨some 21, .slice _ _ _ _ _, _, _, _, _⟩ :: _) _ _); refine wpList_run rfl (.slice A n c) W (run_slice_hiH (.tmp 19) (.tmp 20) rfl A N c n rfl rfl hnc W) ?_; simp only [Act.put]))
  refine Hcp.out.mono ?_
  rintro e w1 ⟨v, rfl, ho, hb⟩
  go_wp2_with fail
  go_ret2
  exact ⟨v, rfl, ho, hb⟩
end
end Go.Proofs.Ytobcfgbkhgkelaa
