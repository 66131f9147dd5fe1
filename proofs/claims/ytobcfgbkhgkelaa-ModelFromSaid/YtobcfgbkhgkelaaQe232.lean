/- ModelGrows: what lies in memory between two statements. -/
import Derived.Test.YtobcfgbkhgkelaaQe231
import Derived.Test.YtobcfgbkhgkelaaQe210
import Derived.Test.YtobcfgbkhgkelaaQe212
namespace Go.Proofs.Ytobcfgbkhgkelaa
open Go Go.RowKit Go.Shelf
attribute [local go_sem] Oper.semAt_some

theorem run_neq_strG (l m : List UInt8) (W : World) : (binOp .neq 9 (.string (bstr l)) (.string (bstr m))).run Try.prog W = .ok (.bool (l != m)) W := by
  have : ∀ l : List UInt8, (bstr l).toList = l := fun l => by rw [ByteArray.toList_eq]; rfl
  rw [binOp_string_neq, Sem.run_pure, this, this]; rfl
theorem run_neqstr_fG {ρ : Operand → Value} {o : Oper} (x y : Operand) (ty : TypeId) (l : List UInt8) (ho : o.op = .binOp .neq 9 x y ty) (hx : ρ x = .string (bstr l)) (hy : ρ y = .string (bstr l)) (W : World) :
    (execOp ρ o).run Try.prog W = .ok (.value (.bool false)) W := by
  unfold execOp
  simp only [ho, hx, hy, eqGuard_at_string, Sem.run_bind, Sem.run_pure, run_neq_strG, Result.andThen_ok, bne_self_eq_false]
/-- others write, and what they write to next -/
theorem Md.kbZ {W W' : World} {Z Z' M : Nat → Prop} {lo g : Nat} {R : MdR} {m : MoV} (h : Md Z lo g R m W) (hk : KB M W W') (hM : ∀ b, b < W.heap.size → M b → Z b) (hz : ∀ b, Z' b → b < W'.heap.size) (hzz : ∀ b, Z' b → Z b ∨ W.heap.size ≤ b) : Md Z' lo g R m W' := by
  have hlt : ∀ b, b < W.heap.size → Z' b → Z b := fun b hl hz' => (hzz b hz').elim id fun h' => absurd hl (by omega)
  have hN : ∀ b, b < W.heap.size → MdW g R b → ¬ M b := fun b hb hw hm => h.zno b hw (hM b hb hm)
  have hX : ∀ b, ¬ MdN Z g R b ∧ b < W.heap.size → ¬ M b := fun b hx hm => hx.1 (.inr (hM b hx.2 hm))
  refine ⟨hk.blk h.blk (hN g h.blk.lt (.inl rfl)), h.lastL, h.ptL, ?_, hk.own h.hashes fun b hb => hN b (h.hashes.lt b hb).2 (.inr (.inr (.inl hb))), ?_, ?_, ?_, h.eq, h.fresh, h.low, h.big, h.bigq, hz, fun b hw hz' => h.zno b hw (hlt b (h.lt b hw).2 hz')⟩
  · exact ((h.ents.weak (Y := fun b => ¬ MdN Z g R b ∧ b < W.heap.size) fun b hl hx => ⟨hx, hl⟩).kb hk (fun b hb => hN b (h.ents.lt b hb).2 (.inr (.inl hb))) fun b _ hx => hX b hx).weak fun b _ hx hm => hx.1 (hm.imp id (hlt b hx.2))
  · exact let ⟨A, c, h1, h2⟩ := h.roots; ⟨A, c, h1, ((h2.weak (Y := fun b => ¬ MdN Z g R b ∧ b < W.heap.size) fun b hl hx => ⟨hx, hl⟩).kb hk fun b _ hx => hX b hx).weak fun b _ hx hm => hx.1 (hm.imp id (hlt b hx.2))⟩
  · exact ((h.queue.weak (Y := fun b => ¬ MdN Z g R b ∧ b < W.heap.size) fun b hl hx => ⟨hx, hl⟩).kb hk (fun b hb => hN b (h.queue.lt b hb).2 (.inr (.inr (.inr hb)))) fun b _ hx => hX b hx).weak fun b _ hx hm => hx.1 (hm.imp id (hlt b hx.2))
  · exact let ⟨A, c, h1, h2⟩ := h.begun; ⟨A, c, h1, ((h2.weak (Y := fun b => ¬ (b = g ∨ Z b) ∧ b < W.heap.size) fun b hl hx => ⟨hx, hl⟩).kb hk fun b _ hx hm => hx.1 (.inr (hM b hx.2 hm))).weak fun b _ hx hm => hx.1 (hm.imp id (hlt b hx.2))⟩
set_option maxHeartbeats 4000000 in
theorem msubmit_long (Z : Nat → Prop) (lo g : Nat) (R : MdR) (m : MoV) (W : World) (h : Md Z lo g R m W) (ho : m.only = false) (A : Option Addr) (n c : Nat) (hn : 4096 < n) :
    Calls Try.prog 10 #[.pointer (some ⟨g, 0, none⟩), .slice A n c] W fun e w' => e = .returned (.int .i64 3) ∧ w' = W := by
  have hm := mmay_any h
  rw [ho] at hm
  have d1 : decide ((4096 : Int) < (n : Int)) = true := by simp; omega
  have d2 : decide (4096 < n) = true := by simp; omega
  clear h ho
  go_enter Try.func10, Try.ntmps10
  go_wp2_with (go_at_call 40; refine hm.mono ?_; rintro e w' ⟨rfl, hw⟩; obtain rfl := hw.symm)
  go_ret
  exact ⟨rfl, rfl⟩
def subM (m : MoV) (e : List UInt8) : MoV := if 4096 < e.length then m else { m with queue := m.queue ++ [e] }
/-- Submit into a queue that has room -/
theorem msubmitL (Z : Nat → Prop) (lo g : Nat) (R : MdR) (m : MoV) (W : World) (h : Md Z lo g R m W) (ho : m.only = false) (hc : (m.queue.length : Int) < m.cap) (A : Option Addr) (n c : Nat) (l : List UInt8) (hl : Sl W (fun _ => True) A n c l) (hq : m.queue.length ≤ 1000000) :
    Calls Try.prog 10 #[.pointer (some ⟨g, 0, none⟩), .slice A n c] W fun e w' => e = .returned (.int .i64 (if 4096 < n then 3 else 0)) ∧ MdS Z lo g R (subM m l) W w' := by
  have hlen := hl.len
  by_cases hn : 4096 < n
  · rw [if_pos hn]
    refine (msubmit_long Z lo g R m W h ho A n c hn).mono ?_
    rintro e w' ⟨rfl, hw⟩
    obtain rfl := hw.symm
    unfold subM
    rw [if_pos (by omega)]
    exact ⟨rfl, ⟨R, h, fun b hb => .inl hb⟩, KB.refl _ _⟩
  · rw [if_neg hn]
    refine (msubmit_any Z lo g R m W h A n c l hl (by omega) hq).mono ?_
    rintro e w' ⟨rfl, hS⟩
    have e1 : (m.submit l).1 = 0 ∧ (m.submit l).2 = subM m l := by
      unfold MoV.submit subM
      rw [ho, if_neg (by decide), if_neg (by omega), if_neg (by omega), if_neg (by omega)]
      exact ⟨rfl, rfl⟩
    rw [e1.1]
    rw [e1.2] at hS
    exact ⟨rfl, hS⟩
theorem subM_keeps (m : MoV) (e : List UInt8) : (subM m e).ents = m.ents ∧ (subM m e).only = m.only ∧ (subM m e).cap = m.cap ∧ (subM m e).has = m.has ∧ (subM m e).lastS = m.lastS ∧ (subM m e).lastR = m.lastR := by
  unfold subM; split <;> exact ⟨rfl, rfl, rfl, rfl, rfl, rfl⟩
/-- what the law itself writes to -/
def GrZ (L Wt Rt : Value) (g13 : Nat) (b : Nat) : Prop := L.ownBlock = some b ∨ Wt.ownBlock = some b ∨ Rt.ownBlock = some b ∨ b = g13
/-- between two statements: the model, the log and what waits, the roots, the point -/
structure GrI (w : World) (base g13 : Nat) (L Wt Rt : Value) (k : Nat) (fs : Int) (fr : List UInt8) (ll wl : List (List UInt8)) (g : Nat) (R : MdR) (m : MoV) (W : World) : Prop where
  md : Md (GrZ L Wt Rt g13) base g R m W
  log : EsO W base L ll (· < base)
  wait : EsO W base Wt wl (· < base)
  roots : ∃ xs, W.ownsRow base 26 32 Rt k xs
  p : PB W g13 fs fr
  low : base ≤ g13
  lw : ∀ b, L.ownBlock = some b → Wt.ownBlock ≠ some b
  bel : Below base w W
section
variable {w W W' : World} {base g13 : Nat} {L Wt Rt : Value} {k : Nat} {fs : Int} {fr : List UInt8} {ll wl : List (List UInt8)} {g : Nat} {R : MdR} {m m' : MoV}
theorem GrI.step (h : GrI w base g13 L Wt Rt k fs fr ll wl g R m W) (hb : Below W.heap.size W W') : GrI w base g13 L Wt Rt k fs fr ll wl g R m W' :=
  ⟨h.md.step hb, h.log.step hb, h.wait.step hb, let ⟨xs, h1⟩ := h.roots; ⟨xs, owns_step h1 hb⟩, h.p.step hb, h.low, h.lw, h.bel.trans (hb.mono (by have := h.md.size; omega))⟩
theorem GrI.size (h : GrI w base g13 L Wt Rt k fs fr ll wl g R m W) : base ≤ W.heap.size := h.md.size
/-- the model is called -/
theorem GrI.call (h : GrI w base g13 L Wt Rt k fs fr ll wl g R m W) (hS : MdS (GrZ L Wt Rt g13) base g R m' W W') : ∃ R', GrI w base g13 L Wt Rt k fs fr ll wl g R' m' W' ∧ KB (MdW g R) W W' := by
  obtain ⟨R', hM, _⟩ := hS.ex
  have hno : ∀ b, GrZ L Wt Rt g13 b → ¬ MdW g R b := fun b hz hw => h.md.zno b hw hz
  refine ⟨R', ⟨hM, ?_, ?_, ?_, ?_, h.low, h.lw, ?_⟩, hS.kb⟩
  · exact h.log.kb hS.kb (fun b hb => hno b (.inl hb)) fun b _ hb hw => by have := (h.md.lt b hw).1; have hb : b < base := hb; omega
  · exact h.wait.kb hS.kb (fun b hb => hno b (.inr (.inl hb))) fun b _ hb hw => by have := (h.md.lt b hw).1; have hb : b < base := hb; omega
  · exact let ⟨xs, h1⟩ := h.roots; ⟨xs, hS.kb.own h1 fun b hb => hno b (.inr (.inr (.inl hb)))⟩
  · exact ⟨hS.kb.blk h.p.blk (hno _ (.inr (.inr (.inr rfl)))), h.p.rl⟩
  · exact h.bel.trans (hS.kb.below (fun b hb => (h.md.lt b hb).1) h.size)
theorem GrI.zlt (h : GrI w base g13 L Wt Rt k fs fr ll wl g R m W) (b : Nat) (hz : GrZ L Wt Rt g13 b) : b < W.heap.size := h.md.zlt b hz
/-- one more waits -/
theorem GrI.addW (h : GrI w base g13 L Wt Rt k fs fr ll wl g R m W) (hn : wl.length ≤ 1000) (l : List UInt8) (A : Option Addr) (c : Nat) (hl : Sl W (· < base) A l.length c l) :
    ∃ v' W', (Builtin.append_ #[23, 23] 23 #[Wt, .slice (some ⟨W.heap.size, 0, none⟩) 1 1]).run Try.prog (W.alloc (.cells #[.slice A l.length c] 22)) = .ok v' W' ∧ GrI w base g13 L v' Rt k fs fr ll (wl ++ [l]) g R m W' := by
  have hsz := h.size
  obtain ⟨v', W', hr, hE, hg, hv⟩ := h.wait.app hsz (by omega) l A c hl (fun b _ hb e => by have := (h.wait.lt b e.symm).1; have hb : b < base := hb; omega)
  have hkb : KB (fun b => Wt.ownBlock = some b) W W' := KB.of_grown hg fun r e => e
  have hnew : ∀ b, v'.ownBlock = some b → Wt.ownBlock = some b ∨ W.heap.size ≤ b := fun b hb => by
    rcases hv with hv | ⟨i, hv, hi⟩
    · exact .inl (by rw [← hv]; exact hb)
    · rw [hv] at hb; cases hb; exact .inr hi
  refine ⟨v', W', hr, ?_, ?_, hE, ?_, ?_, h.low, ?_, ?_⟩
  · refine h.md.kbZ hkb (fun b _ hb => .inr (.inl hb)) (fun b hz => ?_) (fun b hz => ?_)
    · rcases hz with hz | hz | hz
      · exact Nat.lt_of_lt_of_le (h.zlt b (.inl hz)) hkb.size
      · exact (hE.lt b hz).2
      · exact Nat.lt_of_lt_of_le (h.zlt b (.inr (.inr hz))) hkb.size
    · rcases hz with hz | hz | hz
      · exact .inl (.inl hz)
      · exact (hnew b hz).imp (fun h' => .inr (.inl h')) id
      · exact .inl (.inr (.inr hz))
  · exact h.log.kb hkb (fun b hb hm => h.lw b hb hm) fun b _ hb hm => by have := (h.wait.lt b hm).1; have hb : b < base := hb; omega
  · obtain ⟨xs, h1⟩ := h.roots
    exact ⟨xs, hkb.own h1 fun b hb hm => own_ty2 h.wait.ex.choose_spec.1 h1 (by decide) b hb hm⟩
  · exact ⟨hkb.blk h.p.blk fun hm => own_ty h.wait.ex.choose_spec.1 h.p.blk (by decide) hm, h.p.rl⟩
  · intro b hb e
    rcases hnew b e with h1 | h1
    · exact h.lw b hb h1
    · have := (h.log.lt b hb).2; omega
  · exact h.bel.trans (hkb.below (fun b hb => (h.wait.lt b hb).1) hsz)
/-- what waits goes into the log -/
theorem GrI.addL (h : GrI w base g13 L Wt Rt k fs fr ll wl g R m W) (hn : ll.length + wl.length ≤ 1000) (A : Option Addr) (n c : Nat) (hA : Wt = .slice A n c) :
    ∃ v' W', (Builtin.append_ #[23, 23] 23 #[L, .slice A n c]).run Try.prog W = .ok v' W' ∧ GrI w base g13 v' Wt Rt k fs fr (ll ++ wl) wl g R m W' := by
  have hsz := h.size
  obtain ⟨A', c', e, hi⟩ := h.wait.i
  rw [hA] at e
  injection e with e1 e2 e3
  subst e1 e2 e3
  obtain ⟨v', W', hr, hE, hg, hv⟩ := h.log.apps hsz hi (by omega) (fun b _ hb e => by have := (h.log.lt b e.symm).1; have hb : b < base := hb; omega)
  have hkb : KB (fun b => L.ownBlock = some b) W W' := KB.of_grown hg fun r e => e
  have hnew : ∀ b, v'.ownBlock = some b → L.ownBlock = some b ∨ W.heap.size ≤ b := fun b hb => by
    rcases hv with hv | ⟨i, hv, hi⟩
    · exact .inl (by rw [← hv]; exact hb)
    · rw [hv] at hb; cases hb; exact .inr hi
  refine ⟨v', W', hr, ?_, hE, ?_, ?_, ?_, h.low, ?_, ?_⟩
  · refine h.md.kbZ hkb (fun b _ hb => .inl hb) (fun b hz => ?_) (fun b hz => ?_)
    · rcases hz with hz | hz
      · exact (hE.lt b hz).2
      · exact Nat.lt_of_lt_of_le (h.zlt b (.inr hz)) hkb.size
    · rcases hz with hz | hz
      · exact (hnew b hz).imp (fun h' => .inl h') id
      · exact .inl (.inr hz)
  · exact h.wait.kb hkb (fun b hb hm => h.lw b hm hb) fun b _ hb hm => by have := (h.log.lt b hm).1; have hb : b < base := hb; omega
  · obtain ⟨xs, h1⟩ := h.roots
    exact ⟨xs, hkb.own h1 fun b hb hm => own_ty2 h.log.ex.choose_spec.1 h1 (by decide) b hb hm⟩
  · exact ⟨hkb.blk h.p.blk fun hm => own_ty h.log.ex.choose_spec.1 h.p.blk (by decide) hm, h.p.rl⟩
  · intro b hb e
    rcases hnew b hb with h1 | h1
    · exact h.lw b h1 e
    · have := (h.wait.lt b e).2; omega
  · exact h.bel.trans (hkb.below (fun b hb => (h.log.lt b hb).1) hsz)
/-- nothing waits any more -/
theorem GrI.noW (h : GrI w base g13 L Wt Rt k fs fr ll wl g R m W) : GrI w base g13 L (.slice none 0 0) Rt k fs fr ll [] g R m W := by
  refine ⟨h.md.setZ (fun b hz => ?_) (fun b _ hz => ?_), h.log, EsO.nil, h.roots, h.p, h.low, (fun b _ e => by cases e), h.bel⟩
  · rcases hz with hz | hz | hz
    · exact h.zlt b (.inl hz)
    · cases hz
    · exact h.zlt b (.inr (.inr hz))
  · rcases hz with hz | hz | hz
    · exact .inl hz
    · cases hz
    · exact .inr (.inr hz)
/-- one more root -/
theorem GrI.addR (h : GrI w base g13 L Wt Rt k fs fr ll wl g R m W) (hk : k ≤ 1000) (x : List UInt8) (hx : x.length = 32) :
    ∃ v' W', (Builtin.append_ #[33, 33] 33 #[Rt, .slice (some ⟨W.heap.size, 0, none⟩) 1 1]).run Try.prog (W.alloc (.cells (hcells [x]).toArray 26)) = .ok v' W' ∧ GrI w base g13 L Wt v' (k + 1) fs fr ll wl g R m W' ∧ W.grownBy W' Rt.ownBlock := by
  have hsz := h.size
  have hx1 : hcells [x] = x.map B := by simp [hcells]
  rw [hx1]
  obtain ⟨xs, h1⟩ := h.roots
  have hba : Below W.heap.size W (W.alloc (.cells (x.map B).toArray 26)) := (Below.refl _ _).alloc (Nat.le_refl _) _
  obtain ⟨v', W', hr, ho, hg', hv'⟩ := append_slv (ty := 33) Try.underlying33 info26z (by simp [Value.cells]) (by decide) (owns_step h1 hba) (SlV.lit (s := 32) (n := 1) W (fun _ => True) 26 (x.map B) (by simp [hx]) (by decide) trivial) (by intro u hu; obtain ⟨y, _, rfl⟩ := List.mem_map.1 hu; rfl) (by unfold maxLen; omega) (by omega) (Nat.le_trans hsz hba.size)
  have hg : W.grownBy W' Rt.ownBlock := (grown_of_below hba Rt.ownBlock).trans hg'
  have hkb : KB (fun b => Rt.ownBlock = some b) W W' := KB.of_grown hg fun r e => e
  have hnew : ∀ b, v'.ownBlock = some b → Rt.ownBlock = some b ∨ W.heap.size ≤ b := fun b hb => by
    rcases hv' with hv | ⟨i, hv, hi⟩
    · exact .inl (by rw [← hv]; exact hb)
    · rw [hv] at hb; cases hb; exact .inr (Nat.le_trans hba.size hi)
  refine ⟨v', W', hr, ⟨?_, ?_, ?_, ⟨_, ho⟩, ?_, h.low, h.lw, ?_⟩, hg⟩
  · refine h.md.kbZ hkb (fun b _ hb => .inr (.inr (.inl hb))) (fun b hz => ?_) (fun b hz => ?_)
    · rcases hz with hz | hz | hz | hz
      · exact Nat.lt_of_lt_of_le (h.zlt b (.inl hz)) hkb.size
      · exact Nat.lt_of_lt_of_le (h.zlt b (.inr (.inl hz))) hkb.size
      · exact (ho.lt b hz).2
      · exact Nat.lt_of_lt_of_le (h.zlt b (.inr (.inr (.inr hz)))) hkb.size
    · rcases hz with hz | hz | hz | hz
      · exact .inl (.inl hz)
      · exact .inl (.inr (.inl hz))
      · exact (hnew b hz).imp (fun h' => .inr (.inr (.inl h'))) id
      · exact .inl (.inr (.inr (.inr hz)))
  · exact h.log.kb hkb (fun b hb hm => own_ty2 h.log.ex.choose_spec.1 h1 (by decide) b hm hb) fun b _ hb hm => by have := (h1.lt b hm).1; have hb : b < base := hb; omega
  · exact h.wait.kb hkb (fun b hb hm => own_ty2 h.wait.ex.choose_spec.1 h1 (by decide) b hm hb) fun b _ hb hm => by have := (h1.lt b hm).1; have hb : b < base := hb; omega
  · exact ⟨hkb.blk h.p.blk fun hm => own_ty h1 h.p.blk (by decide) hm, h.p.rl⟩
  · exact h.bel.trans (hkb.below (fun b hb => (h1.lt b hb).1) hsz)
/-- the point is written over -/
theorem GrI.setP (h : GrI w base g13 L Wt Rt k fs fr ll wl g R m W) (fs' : Int) (fr' : List UInt8) (hl : fr'.length = 32) : GrI w base g13 L Wt Rt k fs' fr' ll wl g R m (W.setRow g13 (.int .i64 fs' :: fr'.map B).toArray) := by
  have hsz := h.size
  have hkb : KB (fun b => b = g13) W (W.setRow g13 (.int .i64 fs' :: fr'.map B).toArray) := KB.of_grown (grown_setRow (World.grownBy.refl _ _) _) fun r e => (Option.some.inj e).symm
  have hlow := h.low
  refine ⟨h.md.kb hkb (fun b _ e => .inr (.inr (.inr e))), ?_, ?_, ?_, ⟨h.p.blk.setRow_ _, hl⟩, h.low, h.lw, h.bel.trans (hkb.below (fun b e => by omega) hsz)⟩
  · exact h.log.kb hkb (fun b hb e => by subst e; exact own_ty h.log.ex.choose_spec.1 h.p.blk (by decide) hb) fun b _ hb e => by have hb : b < base := hb; omega
  · exact h.wait.kb hkb (fun b hb e => by subst e; exact own_ty h.wait.ex.choose_spec.1 h.p.blk (by decide) hb) fun b _ hb e => by have hb : b < base := hb; omega
  · obtain ⟨xs, h1⟩ := h.roots
    exact ⟨xs, hkb.own h1 fun b hb e => by subst e; exact own_ty h1 h.p.blk (by decide) hb⟩
end
end Go.Proofs.Ytobcfgbkhgkelaa
/- hash.Leaves, notaryref09.Leaves. -/
namespace Go.Proofs.Ytobcfgbkhgkelaa
open Go Go.RowKit

def leavesL (ls : List (List UInt8)) : List (List UInt8) := ls.map hLeaf
theorem leavesL_all (ls : List (List UInt8)) : H32 (leavesL ls) := fun h hh => by
  obtain ⟨l, _, rfl⟩ := List.mem_map.1 hh
  exact length_hLeaf l

set_option maxHeartbeats 1000000 in
set_option maxRecDepth 100000 in
theorem rleaves_any (ls : List (List UInt8)) (A : Option Addr) (n c : Nat) (w : World) (vs : List Value) (h : SlS w A n c vs ls) (hm : n + ls.flatten.length ≤ 1073741824) :
    Calls Try.prog 24 #[.slice A n c] w fun e w' => ∃ v, e = .returned v ∧ w'.ownsRow w.heap.size 26 32 v n (hcells (leavesL ls)) ∧ Below w.heap.size w w' := by
  have Hh := Lib.hid h
  have hroom := h.out.room
  have hmax := h.out.max
  unfold maxLen at hmax
  clear h
  go_enter Try.func24, Try.ntmps24
  go_wp2_with fail
  go_loopw [3, 4] (fun v i wr => ∃ k : Nat, k ≤ n ∧ i = .int .i64 k ∧ wr.ownsRow w.heap.size 26 32 v k (hcells (leavesL (ls.take k))) ∧ Below w.heap.size w wr) (fun _ i _ => n - (intOf i).toNat)
  case atStart => exact ⟨0, by omega, rfl, World.ownsRow_nil _ _ _ _, Below.refl _ _⟩
  case round =>
    obtain ⟨k, hk, rfl, ho, hB⟩ := hrel
    by_cases hlt : k < n
    · have hkl : k < ls.length := by rw [Hh.out.len]; exact hlt
      obtain ⟨Ai, ci, hv, hs⟩ := Hh.out.ins k hkl
      obtain ⟨b0, o0, hA, hb0, _, hcell⟩ := Hh.out.out.at_ (by omega) (by decide)
      subst hA
      have hce : wr.cell? ⟨b0, o0 + k, none⟩ = some (.slice Ai (ls[k]).length ci) := by
        rw [hB.cell (p := ⟨b0, o0 + k, none⟩) hb0]; exact hcell k _ hv
      have hs2 := (hs.below hB (fun _ _ h => h)).all
      have hfl3 := flatten_take_le ls (k + 1)
      rw [flatten_take_succ ls k hkl, List.length_append] at hfl3
      have hleaf := hrleaf_any (ls[k]) Ai (ls[k]).length ci wr hs2 (by omega)
      obtain ⟨x, hx⟩ : ∃ x, hLeaf (ls[k]) = x := ⟨_, rfl⟩
      have hxl : x.length = 32 := by rw [← hx]; exact length_hLeaf _
      rw [hx] at hleaf
      have hsn : hcells (leavesL (ls.take (k + 1))) = hcells (leavesL (ls.take k)) ++ hcells [x] := by
        rw [List.take_succ_eq_append_getElem hkl, leavesL, List.map_append, hcells_append, ← hx]; rfl
      have Hx := Lib.hid hx
      have Hxl := Lib.hid hxl
      have Hsn := Lib.hid hsn
      clear hx hxl hsn hv hs hs2
      generalize (ls[k]).length = m at *
      go_wp2_with fail
      refine hleaf.mono ?_
      rintro e w2 ⟨rfl, hb2⟩
      have h32 : H32 [x] := by intro h hh; rw [List.mem_singleton.1 hh]; exact Hxl.out
      have hbA : Below w2.heap.size w2 (w2.alloc (.cells (hcells [x]).toArray 26)) := (Below.refl _ _).alloc (Nat.le_refl _) _
      have hB2 := (hB.trans (hb2.mono hB.size)).trans (hbA.mono (Nat.le_trans hB.size hb2.size))
      have ho2 := owns_step (owns_step ho hb2) hbA
      obtain ⟨v3, w3, hr3, ho3, hg3, -⟩ := append_slv (ty := 33) Try.underlying33 info26z (by simp [Value.cells]) (by decide) ho2 (Hs.lit w2 [x] h32 (by simp) 1 rfl).sl (oneB _) (by unfold maxLen; omega) (by omega) hB2.size
      rw [← Hsn.out] at ho3
      have hB3 := hB2.grown hg3 hB2.size (fun k hk => (ho2.lt k hk).1)
      have Hr3 := Lib.hid hr3
      clear hr3 hg3
      go_wp2_with (first
        | ((with_reducible show wpList _ _ _ (⟨some 17, .buildSlice _ _ _, _, _, _, _⟩ :: _) _ _); refine wpList_run rfl _ _ (run_lit_op [x] h32 (by simp) (by simp) 1 _ rfl (by simp [Act.eval]) rfl _) ?_; simp only [Act.put])
        | ((with_reducible show wpList _ _ _ (⟨some 18, .call _, _, _, _, _⟩ :: _) _ _); refine wpList_run rfl v3 w3 (run_append_op (.tmp 11) (.tmp 17) 33 rfl _ _ rfl rfl Hr3.out) ?_; simp only [Act.put]))
      go_roundw
      case rel => exact ⟨k + 1, by omega, by go_num, ho3, hB3⟩
      case measure => simp [intOf]; omega
    · have hkn : k = n := by omega
      subst hkn
      rw [List.take_of_length_le (by rw [Hh.out.len]; exact Nat.le_refl _)] at ho
      go_wp2_with fail
      go_ret
      exact ⟨_, rfl, ho, hB⟩
end Go.Proofs.Ytobcfgbkhgkelaa
