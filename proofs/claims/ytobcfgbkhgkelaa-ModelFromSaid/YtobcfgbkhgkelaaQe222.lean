/- model: New, Submit. -/
import Derived.Test.YtobcfgbkhgkelaaQe221
import Derived.Test.YtobcfgbkhgkelaaQe220
namespace Go.Proofs.Ytobcfgbkhgkelaa
open Go Go.RowKit
attribute [local go_sem] Oper.semAt_some

def R0 : MdR := ⟨.slice none 0 0, .slice none 0 0, .slice none 0 0, .slice none 0 0, .slice none 0 0⟩
theorem aggCf : ∀ w : World, (isAgg 37).run Try.prog w = .ok true w := fun _ => by kernel_rfl
theorem sizeCf : ∀ w : World, (sizeOf 37).run Try.prog w = .ok 2 w := fun _ => by kernel_rfl
theorem R0_none (g b : Nat) : ¬ MdW g R0 b ↔ b ≠ g := by
  constructor
  · intro h e; exact h (.inl e)
  · rintro h (e | e | e | e)
    · exact h e
    · cases e
    · cases e
    · cases e
theorem mnew_mp (w : World) (Z : Nat → Prop) (lo g : Nat) (m : MoV) (he : m.ents = []) (hq : m.queue = []) (hb : Blk w g 39 (mdArr R0 m)) (hlo : lo ≤ g) (hz : ∀ b, Z b → b < w.heap.size) (hzg : ¬ Z g) : Mp Z w lo g R0 m none 0 0 [] 0 0 R0 w := by
  refine ⟨hb, ?_, ?_, ?_, ⟨⟨[], SlV.empty, fun i hi => absurd hi (by simp)⟩, rfl⟩, rfl, rfl, rfl, (fun b e => by cases e), KB.refl _ _, (fun b h => .inl h), hlo, hz, fun b h hz1 => by
    rcases h with rfl | h | h | h
    · exact hzg hz1
    · cases h
    · cases h
    · cases h⟩
  · rw [he]; exact EsO.nil
  · rw [he]; exact World.ownsRow_nil _ _ _ _
  · rw [hq]; exact EsO.nil
set_option maxHeartbeats 4000000 in
set_option maxRecDepth 100000 in
theorem mnew_bad (seg cap : Int) (w : World) (h : jobOk seg cap = false) :
    Calls Try.prog 9 #[.agg #[.int .i64 seg, .int .i64 cap]] w fun e w' => e = .returned (.tuple #[.pointer none, .int .i64 2]) ∧ Below w.heap.size w w' := by
  have k1 := Blk.new w 37 #[.int .i64 seg, .int .i64 cap]
  have B1 : Below w.heap.size w (w.alloc (.cells #[.int .i64 seg, .int .i64 cap] 37)) := (Below.refl _ _).alloc (Nat.le_refl _) _
  have c0 : (w.alloc (.cells #[.int .i64 seg, .int .i64 cap] 37)).cell? ⟨w.heap.size, 0, none⟩ = some (.int .i64 seg) := by rw [k1.cell]; rfl
  have c1 : (w.alloc (.cells #[.int .i64 seg, .int .i64 cap] 37)).cell? ⟨w.heap.size, 1, none⟩ = some (.int .i64 cap) := by rw [k1.cell]; rfl
  clear k1
  by_cases h1 : seg < 1
  · have d1 : decide (seg < 1) = true := by simpa using h1
    go_enter Try.func9, Try.ntmps9
    go_wp2_with fail
    go_ret2
    exact ⟨rfl, B1⟩
  · have d1 : decide (seg < 1) = false := by simpa using h1
    by_cases h2 : 4096 < seg
    · have d2 : decide (4096 < seg) = true := by simpa using h2
      go_enter Try.func9, Try.ntmps9
      go_wp2_with fail
      go_ret2
      exact ⟨rfl, B1⟩
    · have d2 : decide (4096 < seg) = false := by simpa using h2
      by_cases h3 : cap < 1
      · have d3 : decide (cap < 1) = true := by simpa using h3
        go_enter Try.func9, Try.ntmps9
        go_wp2_with fail
        go_ret2
        exact ⟨rfl, B1⟩
      · have d3 : decide (cap < 1) = false := by simpa using h3
        have h4 : 1024 < cap := by
          simp only [jobOk, Bool.and_eq_false_iff, decide_eq_false_iff_not] at h
          omega
        have d4 : decide (1024 < cap) = true := by simpa using h4
        go_enter Try.func9, Try.ntmps9
        go_wp2_with fail
        go_ret2
        exact ⟨rfl, B1⟩
set_option maxHeartbeats 4000000 in
set_option maxRecDepth 100000 in
theorem mnew_any (Z : Nat → Prop) (seg cap : Int) (w : World) (hZ : ∀ b, Z b → b < w.heap.size) (h : jobOk seg cap = true) :
    Calls Try.prog 9 #[.agg #[.int .i64 seg, .int .i64 cap]] w fun e w' => ∃ g R, e = .returned (.tuple #[.pointer (some ⟨g, 0, none⟩), .int .i64 0]) ∧ Md Z w.heap.size g R (MoV.new seg cap) w' ∧ Below w.heap.size w w' := by
  obtain ⟨w1, hw1⟩ : ∃ x, w.alloc (.cells #[.int .i64 seg, .int .i64 cap] 37) = x := ⟨_, rfl⟩
  have k1 : Blk w1 w.heap.size 37 #[.int .i64 seg, .int .i64 cap] := by rw [← hw1]; exact Blk.new _ _ _
  have B1 : Below w.heap.size w w1 := by rw [← hw1]; exact (Below.refl _ _).alloc (Nat.le_refl _) _
  have c0 : w1.cell? ⟨w.heap.size, 0, none⟩ = some (.int .i64 seg) := by rw [k1.cell]; rfl
  have c1 : w1.cell? ⟨w.heap.size, 1, none⟩ = some (.int .i64 cap) := by rw [k1.cell]; rfl
  have hld : (Instr.loadAt 37 (.pointer (some ⟨w.heap.size, 0, none⟩))).run Try.prog w1 = .ok (.agg #[.int .i64 seg, .int .i64 cap]) w1 := run_load_blk (aggCf _) (sizeCf _) _ _ rfl k1
  simp only [jobOk, Bool.and_eq_true, decide_eq_true_eq] at h
  have d1 : decide (seg < 1) = false := by simp; omega
  have d2 : decide (4096 < seg) = false := by simp; omega
  have d3 : decide (cap < 1) = false := by simp; omega
  have d4 : decide (1024 < cap) = false := by simp; omega
  obtain ⟨ca, hca⟩ : ∃ x, mdArr R0 (MoV.new seg cap) = x := ⟨_, rfl⟩
  have hput := mput_any Z w.heap.size w1.heap.size R0 (MoV.new seg cap) none 0 0 [] (w1.alloc (.cells ca 39)) (mnew_mp _ _ _ _ _ rfl rfl (by rw [hca]; exact Blk.new _ _ _) B1.size (fun b hb => by have := hZ b hb; have := B1.size; simp; omega) (fun hb => by have := hZ _ hb; have := B1.size; omega)) (by simp [MoV.new, zero32]) (by simp [MoV.new, zero32]) ⟨rfl, rfl⟩ (by simp [MoV.new]) (fun x hx => by simp [MoV.new] at hx) (fun x hx => by simp [MoV.new] at hx)
  have Hput := Lib.hid hput
  have Hca := Lib.hid hca
  have Hw1 := Lib.hid hw1
  have Hld := Lib.hid hld
  clear hput hca hw1 k1 hld
  go_enter Try.func9, Try.ntmps9
  go_wp2_with (first
    | rw [Hw1.out]
    | ((with_reducible show wpList _ _ _ (⟨some 23, .load _ _, _, _, _, _⟩ :: _) _ _); refine wpList_load rfl 37 (.tmp 1) rfl w.heap.size 0 rfl _ Hld.out ?_; simp only [Act.put])
    | ((with_reducible show wpList _ _ _ (⟨some 24, .build _ _, _, _, _, _⟩ :: _) _ _); refine wpList_run0 rfl (.agg ca) (by rw [← Hca.out]; kernel_rfl) ?_; simp only [Act.put])
    | ((with_reducible show wpList _ _ _ (⟨some 25, .box _ _, _, _, _, _⟩ :: _) _ _); refine wpList_run rfl (.pointer (some ⟨w1.heap.size, 0, none⟩)) (w1.alloc (.cells ca 39)) (by rfl) ?_; simp only [Act.put]))
  refine Hput.out.mono ?_
  rintro e w2 ⟨rfl, R', hD, hK, -, -, -⟩
  have B2 : Below w.heap.size w w2 := (B1.alloc B1.size _).trans (hK.below (fun b hb => by
    rcases hb with rfl | hb | hb
    · exact B1.size
    · cases hb
    · cases hb) (by simp; have := B1.size; omega))
  have hD' : Md Z w.heap.size w1.heap.size R' (MoV.new seg cap) w2 := hD
  clear hD hK Hput c0 c1
  go_wp2_with fail
  go_ret2
  exact ⟨_, R', rfl, hD', B2⟩
end Go.Proofs.Ytobcfgbkhgkelaa
/- model: Submit, Flush. -/
namespace Go.Proofs.Ytobcfgbkhgkelaa
open Go Go.RowKit
attribute [local go_sem] Oper.semAt_some

/-- the queue's row and its cell turn -/
theorem Md.appQ {W : World} {Z : Nat → Prop} {lo g : Nat} {R : MdR} {m : MoV} (h : Md Z lo g R m W) (ho : m.only = false) (hn : m.queue.length ≤ 1000000) (l : List UInt8) (hlb : l.length ≤ 1099511627776) (A' : Option Addr) (c' : Nat) (hl : Sl W (fun b => ¬ MdN Z g R b) A' l.length c' l) :
    ∃ v' W', (Builtin.append_ #[23, 23] 23 #[R.q, .slice (some ⟨W.heap.size, 0, none⟩) 1 1]).run Try.prog (W.alloc (.cells #[.slice A' l.length c'] 22)) = .ok v' W' ∧ v'.oneCell' = true ∧
      W'.cell? ⟨g, 5, none⟩ = some R.q ∧ W'.frozen? ⟨g, 5, none⟩ = false ∧ Blk W' g 39 (mdArr R m) ∧ Md Z lo g { R with q := v' } { m with queue := m.queue ++ [l] } (W'.setCell ⟨g, 5, none⟩ v') ∧ KB (MdW g R) W (W'.setCell ⟨g, 5, none⟩ v') ∧ ∀ b, MdW g { R with q := v' } b → MdW g R b ∨ W.heap.size ≤ b := by
  have hlo : lo ≤ W.heap.size := h.size
  obtain ⟨v', W', hr, hE, hg, hv⟩ := (h.queue.weak (Y := fun b => ¬ MdN Z g R b ∧ b < W.heap.size) fun b hb hx => ⟨hx, hb⟩).app hlo (by omega) l A' c' (hl.weak fun b hb hx => ⟨hx, hb⟩) (fun b _ hx e => hx.1 (.inl (.inr (.inr (.inr e.symm)))))
  have hge : R.q.ownBlock ≠ some g := own_ty h.queue.ex.choose_spec.1 h.blk (by decide)
  have k1 : Blk W' g 39 (mdArr R m) := h.blk.grown hg (fun e => hge e.symm)
  have hgs : KB (fun b => b = g) W' (W'.setCell ⟨g, 5, none⟩ v') := KB.of_grown (grown_setCell (World.grownBy.refl _ (some g)) 5 v') fun r e => (Option.some.inj e).symm
  have hk1 : KB (fun b => R.q.ownBlock = some b ∨ b = g) W (W'.setCell ⟨g, 5, none⟩ v') := (KB.of_grown hg fun r e => .inl e).trans (hgs.mono fun b hb => .inr hb)
  have hMd : ∀ b, MdW g { R with q := v' } b → MdW g R b ∨ W.heap.size ≤ b := fun b hm => by
    rcases hm with hm | hm | hm | hm
    · exact .inl (.inl hm)
    · exact .inl (.inr (.inl hm))
    · exact .inl (.inr (.inr (.inl hm)))
    · rcases hv with hv | ⟨i, hv, hi⟩
      · exact .inl (.inr (.inr (.inr (by rw [← hv]; exact hm))))
      · have hm : v'.ownBlock = some b := hm
        rw [hv] at hm
        cases hm
        exact .inr hi
  have hX : ∀ b, ¬ MdN Z g R b ∧ b < W.heap.size → ¬ MdN Z g { R with q := v' } b := fun b hx hm => by
    rcases hm with hm | hm
    · rcases hMd b hm with h1 | h1
      · exact hx.1 (.inl h1)
      · omega
    · exact hx.1 (.inr hm)
  have hvo := hE.ex.choose_spec.1
  obtain ⟨Ar, cr, hre, hrs⟩ := h.roots
  obtain ⟨hb0, hb1⟩ := h.fresh ho
  refine ⟨v', W', hr, hE.one, by rw [k1.cell, md_at _ _ 5 (by decide)]; rfl, k1.frozen 5, k1, ⟨?_, h.lastL, h.ptL, ?_, ?_, ⟨Ar, cr, hre, ?_⟩, ?_, ?_, ?_, fun _ => ⟨hb0, hb1⟩, h.low, h.big, ?_, fun b hz => Nat.lt_of_lt_of_le (h.zlt b hz) hk1.size, fun b hm hz => (hMd b hm).elim (fun h' => h.zno b h' hz) (fun h' => absurd (h.zlt b hz) (by omega))⟩, ?_, hMd⟩
  · rw [← md_set (R := R) (R' := { R with q := v' }) (m := m) (m' := { m with queue := m.queue ++ [l] }) 5 (by decide) v' rfl fun i hi hne => by simp [mcell, hne]]
    exact k1.set_ 5 v'
  · refine ((h.ents.weak (Y := fun b => ¬ MdN Z g R b ∧ b < W.heap.size) fun b hb hx => ⟨hx, hb⟩).kb hk1 (fun b hb hm => ?_) (fun b _ hx hm => ?_)).weak fun b _ hx => hX b hx
    · rcases hm with hm | rfl
      · exact h.eq b hb hm
      · exact own_ty h.ents.ex.choose_spec.1 h.blk (by decide) hb
    · rcases hm with hm | rfl
      · exact hx.1 (.inl (.inr (.inr (.inr hm))))
      · exact hx.1 (.inl (.inl rfl))
  · refine hk1.own h.hashes fun b hb hm => ?_
    rcases hm with hm | rfl
    · exact own_ty2 h.queue.ex.choose_spec.1 h.hashes (by decide) b hb hm
    · exact own_ty h.hashes h.blk (by decide) hb
  · refine ((hrs.weak (Y := fun b => ¬ MdN Z g R b ∧ b < W.heap.size) fun b hb hx => ⟨hx, hb⟩).kb hk1 (fun b _ hx hm => ?_)).weak fun b _ hx => hX b hx
    rcases hm with hm | rfl
    · exact hx.1 (.inl (.inr (.inr (.inr hm))))
    · exact hx.1 (.inl (.inl rfl))
  · refine (hE.kb hgs (fun b hb e => ?_) (fun b _ hx e => hx.1 (.inl (.inl e)))).weak fun b _ hx => hX b hx
    subst e
    exact own_ty hvo k1 (by decide) hb
  · refine ⟨none, 0, ?_, ?_⟩
    · show R.b = .slice none m.begun.length 0
      rw [hb0]; exact hb1
    · show Es _ _ none m.begun.length 0 m.begun
      rw [hb0]
      exact ⟨⟨[], SlV.empty, fun i hi => absurd hi (by simp)⟩, rfl⟩
  · intro b hb e
    rcases hv with hv | ⟨i, hv, hi⟩
    · exact h.eq b hb (by rw [← hv]; exact e)
    · have e : v'.ownBlock = some b := e
      rw [hv] at e
      cases e
      have := (h.ents.lt _ hb).2
      omega
  · intro x hx
    rcases List.mem_append.1 hx with hx | hx
    · exact h.bigq x hx
    · rw [List.mem_singleton.1 hx]; exact hlb
  · refine hk1.mono fun b hm => ?_
    rcases hm with hm | rfl
    · exact .inr (.inr (.inr hm))
    · exact .inl rfl
/-- what a call on a model leaves -/
structure MdS (Z : Nat → Prop) (lo g : Nat) (R : MdR) (m' : MoV) (W W' : World) : Prop where
  ex : ∃ R', Md Z lo g R' m' W' ∧ ∀ b, MdW g R' b → MdW g R b ∨ W.heap.size ≤ b
  kb : KB (MdW g R) W W'
set_option maxHeartbeats 8000000 in
set_option maxRecDepth 100000 in
theorem msubmit_any (Z : Nat → Prop) (lo g : Nat) (R : MdR) (m : MoV) (W : World) (h : Md Z lo g R m W) (A : Option Addr) (n c : Nat) (l : List UInt8) (hl : Sl W (fun _ => True) A n c l) (hn : n ≤ 1099511627776) (hq : m.queue.length ≤ 1000000) :
    Calls Try.prog 10 #[.pointer (some ⟨g, 0, none⟩), .slice A n c] W fun e w' => e = .returned (.int .i64 (m.submit l).1) ∧ MdS Z lo g R (m.submit l).2 W w' := by
  have hmay := mmay_any h
  have hlen := hl.len
  have hroom := hl.room
  have hmx := hl.max
  unfold maxLen at hmx
  have hsame : ∀ m', m' = m → MdS Z lo g R m' W W := fun m' e => by subst e; exact ⟨⟨R, h, fun b hb => .inl hb⟩, KB.refl _ _⟩
  cases ho : m.only with
  | true =>
    rw [ho] at hmay
    have hres : m.submit l = (10, m) := by unfold MoV.submit; rw [if_pos ho]
    rw [hres]
    have Hs := Lib.hid (hsame m rfl)
    clear hsame h
    go_enter Try.func10, Try.ntmps10
    go_wp2_with (go_at_call 40; refine hmay.mono ?_; rintro e w' ⟨rfl, hw⟩; obtain rfl := hw.symm)
    go_ret
    exact ⟨rfl, Hs.out⟩
  | false =>
    rw [ho] at hmay
    have hon : ¬ m.only = true := by rw [ho]; decide
    by_cases hbig : 4096 < n
    · have hd : decide ((4096 : Int) < (n : Int)) = true := by simp; omega
      have hres : m.submit l = (3, m) := by unfold MoV.submit; rw [if_neg hon, if_pos (by rw [hlen]; exact hbig)]
      rw [hres]
      have Hs := Lib.hid (hsame m rfl)
      clear hsame h
      go_enter Try.func10, Try.ntmps10
      go_wp2_with (go_at_call 40; refine hmay.mono ?_; rintro e w' ⟨rfl, hw⟩; obtain rfl := hw.symm)
      go_ret
      exact ⟨rfl, Hs.out⟩
    · have hd : decide ((4096 : Int) < (n : Int)) = false := by simp; omega
      obtain ⟨Aq, cq, hqe, hqs⟩ := h.queue.es
      have hrq := hqs.room
      have hmq := hqs.max
      unfold maxLen at hmq
      have hS : Below W.heap.size W W.drew := (Below.refl _ _).drew
      have c5 : ∀ s : InC (fun W' => Below W.heap.size W W'), s.W.cell? ⟨g, 5, none⟩ = some (.slice Aq m.queue.length cq) := fun s => ((h.step s.ok).cell 5 (by decide)).trans (congrArg some hqe)
      have c4 : ∀ s : InC (fun W' => Below W.heap.size W W'), s.W.cell? ⟨g, 4, none⟩ = some (.int .i64 m.cap) := fun s => (h.step s.ok).cell 4 (by decide)
      by_cases hfull : m.cap ≤ (m.queue.length : Int)
      · have hd2 : decide (m.cap ≤ (m.queue.length : Int)) = true := by simpa using hfull
        have hres : m.submit l = (5, m) := by unfold MoV.submit; rw [if_neg hon, if_neg (by rw [hlen]; exact hbig), if_pos hfull]
        rw [hres]
        have hS5 : ∀ w', Below W.heap.size W w' → MdS Z lo g R m W w' := fun w' hb => ⟨⟨R, h.step hb, fun b hb => .inl hb⟩, KB.of_below hb⟩
        have Hs := Lib.hid hS5
        clear hsame h hS5 hqe hqs hl
        go_enter Try.func10, Try.ntmps10
        go_upto_region 6 with (go_at_call 40; refine hmay.mono ?_; rintro e w' ⟨rfl, hw⟩; obtain rfl := hw.symm)
        refine wp_region_mix (fun W' => Below W.heap.size W W') [(0, true), (1, true), (2, true), (3, true), (4, true), (5, true), (6, true), (7, true), (8, true), (9, true), (10, true), (11, true)] (by kernel_rfl) (by kernel_rfl) hS fun _ => ?_
        simp only [List.map_cons, List.map_nil, Array.getD_eq_getD_getElem?, List.getElem?_toArray, List.getElem?_cons_succ, List.getElem?_cons_zero, Option.getD_some]
        generalize W.drew = W0 at hS ⊢
        refine wpMix_s (fun K hK => ?_)
        go_simp
        refine hK _ ?_
        clear hK K
        refine wpMix_s (fun K hK => ?_)
        go_simp
        refine hK _ ?_
        clear hK K
        refine wpMix_s (fun K hK => ?_)
        go_simp
        refine hK _ ?_
        clear hK K
        refine wpMix_s (fun K hK => ?_)
        go_simp
        refine hK _ ?_
        clear hK K
        refine wpMix_s (fun K hK => ?_)
        go_simp
        refine hK _ ?_
        clear hK K
        refine wpMix_s (fun K hK => ?_)
        go_simp
        refine hK _ ?_
        clear hK K
        refine wpMix_s (fun K hK => ?_)
        go_simp
        refine hK _ ?_
        clear hK K
        refine wpMix_s (fun K hK => ?_)
        go_simp
        refine hK _ ?_
        clear hK K
        refine wpMix_s (fun K hK => ?_)
        go_simp
        refine hK _ ?_
        clear hK K
        refine wpMix_s (fun K hK => ?_)
        go_simp
        refine hK _ ?_
        clear hK K
        refine wpMix_s (fun K hK => ?_)
        go_simp
        refine hK _ ?_
        clear hK K
        refine wpMix_s (fun K hK => ?_)
        go_simp
        refine hK _ ?_
        clear hK K
        refine wpMix_nil ?_
        intro _
        clear c5 c4
        go_wp2_with fail
        go_ret
        exact ⟨rfl, Hs.out _ hS⟩
      · have hd2 : decide (m.cap ≤ (m.queue.length : Int)) = false := by simpa using hfull
        have hres : m.submit l = (0, { m with queue := m.queue ++ [l] }) := by unfold MoV.submit; rw [if_neg hon, if_neg (by rw [hlen]; exact hbig), if_neg hfull]
        rw [hres]
        have Hh := Lib.hid h
        have Hl := Lib.hid hl
        have Hqe := Lib.hid hqe
        clear hsame h hqe hqs hl
        go_enter Try.func10, Try.ntmps10
        go_upto_region 6 with (go_at_call 40; refine hmay.mono ?_; rintro e w' ⟨rfl, hw⟩; obtain rfl := hw.symm)
        refine wp_region_mix (fun W' => Below W.heap.size W W') [(0, true), (1, true), (2, true), (3, true), (4, true), (5, true), (6, true), (7, true), (8, true), (9, true), (10, true), (11, true)] (by kernel_rfl) (by kernel_rfl) hS fun _ => ?_
        simp only [List.map_cons, List.map_nil, Array.getD_eq_getD_getElem?, List.getElem?_toArray, List.getElem?_cons_succ, List.getElem?_cons_zero, Option.getD_some]
        generalize W.drew = W0 at hS ⊢
        refine wpMix_s (fun K hK => ?_)
        go_simp
        refine hK _ ?_
        clear hK K
        refine wpMix_s (fun K hK => ?_)
        go_simp
        refine hK _ ?_
        clear hK K
        refine wpMix_s (fun K hK => ?_)
        go_simp
        refine hK _ ?_
        clear hK K
        refine wpMix_s (fun K hK => ?_)
        go_simp
        refine hK _ ?_
        clear hK K
        refine wpMix_s (fun K hK => ?_)
        go_simp
        refine hK _ ?_
        clear hK K
        refine wpMix_s (fun K hK => ?_)
        go_simp
        refine hK _ ?_
        clear hK K
        refine wpMix_s (fun K hK => ?_)
        go_simp
        refine hK _ ?_
        clear hK K
        refine wpMix_s (fun K hK => ?_)
        go_simp
        refine hK _ ?_
        clear hK K
        refine wpMix_s (fun K hK => ?_)
        go_simp
        refine hK _ ?_
        clear hK K
        refine wpMix_s (fun K hK => ?_)
        go_simp
        refine hK _ ?_
        clear hK K
        refine wpMix_s (fun K hK => ?_)
        go_simp
        refine hK _ ?_
        clear hK K
        refine wpMix_s (fun K hK => ?_)
        go_simp
        refine hK _ ?_
        clear hK K
        refine wpMix_nil ?_
        intro _
        clear c5 c4
        obtain ⟨W2, hW2⟩ : ∃ x, W0 = x := ⟨_, rfl⟩
        rw [hW2] at hS ⊢
        clear hW2
        have h2 := Hh.out.step hS
        have hl2 := Hl.out.step hS
        have hB : Below W2.heap.size W2 W2.drew := (Below.refl _ _).drew
        have hS8 : Blk W2.drew g 39 (mdArr R m) := h2.blk.drew
        have c5 : ∀ s : InC (fun W' => Blk W' g 39 (mdArr R m)), s.W.cell? ⟨g, 5, none⟩ = some R.q := fun s => by rw [s.ok.cell, md_at _ _ 5 (by decide)]; rfl
        go_upto_region 8 with fail
        refine wp_region_mix_last (fun W' => Blk W' g 39 (mdArr R m)) 11 [(0, true), (1, true), (2, true), (3, true), (4, true), (5, true), (6, false), (7, false), (8, false), (9, false), (10, true)] (by kernel_rfl) (by kernel_rfl) hS8 fun _ => ?_
        simp only [List.map_cons, List.map_nil, Array.getD_eq_getD_getElem?, List.getElem?_toArray, List.getElem?_cons_succ, List.getElem?_cons_zero, Option.getD_some]
        generalize W2.drew = Z0 at hS8 hB ⊢
        refine wpMix_s (fun K hK => ?_)
        go_simp
        refine hK _ ?_
        clear hK K
        refine wpMix_s (fun K hK => ?_)
        go_simp
        refine hK _ ?_
        clear hK K
        refine wpMix_s (fun K hK => ?_)
        go_simp
        refine hK _ ?_
        clear hK K
        refine wpMix_s (fun K hK => ?_)
        go_simp
        refine hK _ ?_
        clear hK K
        refine wpMix_s (fun K hK => ?_)
        go_simp
        refine hK _ ?_
        clear hK K
        refine wpMix_s (fun K hK => ?_)
        go_simp
        refine hK _ ?_
        clear hK K
        have h6 := h2.step hB
        refine wpMix_c (fun K hK => ?_) hS8
        go_simp
        refine (bclone_any l A n c Z0 ((hl2.step hB).all) hn).mono ?_
        rintro e W6 ⟨A', c', rfl, hs6, hb6⟩
        refine hK _ _ ?_
        clear hK K
        have hBB := hB.trans (hb6.mono hB.size)
        have hs5' := hs6.weak (Y := fun b => ¬ MdN Z g R b) fun b _ hb hm => by have := h6.ltN b hm; omega
        replace h6 := h6.step hb6
        replace hS8 := hS8.below hb6 hS8.lt
        refine ⟨hS8, ?_⟩
        have hz6 := hBB.size
        have hz2 := hS.size
        obtain ⟨v', W', hr', hv1, hcl, hfr, hrs, hQ⟩ := h6.appQ ho hq l (by omega) A' c' hs5'
        have HQ := Lib.hid hQ
        clear hQ h6
        refine wpMix_run (by kernel_rfl) (.slice (some ⟨W6.heap.size, 0, none⟩) 1 1) (W6.alloc (.cells #[.slice A' l.length c'] 22)) (by kernel_rfl) (hS8.alloc _) ?_
        simp only [Act.put, List.setIfInBounds_toArray, List.set_cons_succ, List.set_cons_zero]
        refine wpMix_run (by kernel_rfl) v' W' (run_append_op (.tmp 31) (.tmp 34) 23 rfl _ _ rfl rfl hr') hrs ?_
        simp only [Act.put, List.setIfInBounds_toArray, List.set_cons_succ, List.set_cons_zero]
        refine wpMix_c (fun K hK => ?_) hrs
        go_simp
        refine hK _ _ ?_
        clear hK K
        refine ⟨hrs, ?_⟩
        refine wpMix_s (fun K hK => ?_)
        go_simp
        refine hK _ ?_
        clear hK K
        refine wpMix_nil ?_
        intro _
        simp only [List.drop_succ_cons, List.drop_zero]
        clear c5 hS8 hs5' hb6 hs6
        go_wp2_with ((with_reducible show wpList _ _ _ [⟨none, .store _ _ _, _, _, _, _⟩] _ _); refine wpList_put1i rfl 23 (.tmp 37) (.tmp 35) rfl sizeEs ⟨g, 5, none⟩ v' rfl rfl hv1 _ hcl hfr ?_; simp only [Act.put])
        refine np_normal ?_
        go_wp2_with fail
        go_ret
        exact ⟨rfl, ⟨_, HQ.out.1, fun b hb => by rcases HQ.out.2.2 b hb with h1 | h1; exact .inl h1; exact .inr (by omega)⟩, (KB.of_below (hS.trans (hBB.mono hS.size))).trans HQ.out.2.1⟩
end Go.Proofs.Ytobcfgbkhgkelaa
/- model: Flush. -/
namespace Go.Proofs.Ytobcfgbkhgkelaa
open Go Go.RowKit
attribute [local go_sem] Oper.semAt_some

theorem EsO.esW {W : World} {lo : Nat} {v : Value} {ls : List (List UInt8)} {X Y : Nat → Prop} (h : EsO W lo v ls X) (hrow : ∀ b, v.ownBlock = some b → Y b) (hX : ∀ b, b < W.heap.size → X b → Y b) : ∃ A c, v = .slice A ls.length c ∧ Es W Y A ls.length c ls := by
  obtain ⟨vs, h1, h2⟩ := h.ex
  obtain ⟨A, c, rfl, hs⟩ := owns_slv h1
  exact ⟨A, c, rfl, ⟨vs, hs.weak fun b _ hb => hrow b hb.2.symm, fun i hi => let ⟨A, c, h3, h4⟩ := h2 i hi; ⟨A, c, h3, h4.weak hX⟩⟩, rfl⟩
theorem Md.mp {W : World} {Z : Nat → Prop} {lo g : Nat} {R : MdR} {m : MoV} (h : Md Z lo g R m W) {A : Option Addr} {n c : Nat} {ls : List (List UInt8)} (hs : Es W (fun b => ¬ PutW g R b) A n c ls) : Mp Z W lo g R m A n c ls 0 0 R W := by
  refine ⟨h.blk, ?_, ?_, h.queue, hs, rfl, rfl, rfl, h.eq, KB.refl _ _, fun b h => .inl h, h.low, h.zlt, h.zno⟩
  · rw [List.take_zero, List.append_nil]; exact h.ents
  · rw [List.take_zero, List.append_nil]; exact h.hashes
theorem Md.queueEs {W : World} {Z : Nat → Prop} {lo g : Nat} {R : MdR} {m : MoV} (h : Md Z lo g R m W) : ∃ A c, R.q = .slice A m.queue.length c ∧ Es W (fun b => ¬ PutW g R b) A m.queue.length c m.queue := by
  refine h.queue.esW (fun b hb hm => ?_) (fun b _ hx hm => hx (.inl hm.mdW))
  rcases hm with rfl | hm | hm
  · exact own_ty h.queue.ex.choose_spec.1 h.blk (by decide) hb
  · exact h.eq b hm hb
  · exact own_ty2 h.queue.ex.choose_spec.1 h.hashes (by decide) b hm hb
theorem mflush_only (Z : Nat → Prop) (lo g : Nat) (R : MdR) (m : MoV) (W : World) (h : Md Z lo g R m W) (ho : m.only = true) :
    Calls Try.prog 11 #[.pointer (some ⟨g, 0, none⟩)] W fun e w' => e = .returned (.tuple #[.int .i64 0, .int .i64 0, .int .i64 10]) ∧ w' = W := by
  have hmay := mmay_any h
  rw [ho] at hmay
  clear h ho
  go_enter Try.func11, Try.ntmps11
  go_wp2_with (go_at_call 40; refine hmay.mono ?_; rintro e w' ⟨rfl, hw⟩; obtain rfl := hw.symm)
  go_ret3
  exact ⟨rfl, rfl⟩
set_option maxHeartbeats 4000000 in
set_option maxRecDepth 100000 in
theorem mflush_any (Z : Nat → Prop) (lo g : Nat) (R : MdR) (m : MoV) (W : World) (h : Md Z lo g R m W) (ho : m.only = false) (hn : m.ents.length + m.queue.length ≤ 1000000) :
    Calls Try.prog 11 #[.pointer (some ⟨g, 0, none⟩)] W fun e w' => e = .returned (.tuple #[.int .i64 (m.ents.length : Int), .int .i64 (m.queue.length : Int), .int .i64 0]) ∧ MdS Z lo g R m.flush W w' := by
  have hmay := mmay_any h
  rw [ho] at hmay
  obtain ⟨Aq, cq, hqe, hqs⟩ := h.queueEs
  have hrq := hqs.room
  have hmq := hqs.max
  unfold maxLen at hmq
  have c5 : ∀ s : InC (fun W' => Below W.heap.size W W'), s.W.cell? ⟨g, 5, none⟩ = some (.slice Aq m.queue.length cq) := fun s => ((h.step s.ok).cell 5 (by decide)).trans (congrArg some hqe)
  have hS : Below W.heap.size W W.drew := (Below.refl _ _).drew
  obtain ⟨n, hnq⟩ : ∃ x, m.queue.length = x := ⟨_, rfl⟩
  obtain ⟨k, hke⟩ : ∃ x, m.ents.length = x := ⟨_, rfl⟩
  have hsz := fun W' (hb : Below W.heap.size W W') => msize_any (h.step hb)
  rw [hke] at hsz
  rw [hnq] at c5 hrq ⊢
  rw [hke]
  have Hh := Lib.hid h
  have Hqe := Lib.hid hqe
  have Hqs := Lib.hid hqs
  have Hnq := Lib.hid hnq
  have Hke := Lib.hid hke
  have Hsz := Lib.hid hsz
  have Ho := Lib.hid ho
  clear h hqe hqs hnq hke hsz ho
  by_cases h0 : 0 < n
  · have hd : decide ((0 : Int) < (n : Int)) = true := by simp; omega
    go_enter Try.func11, Try.ntmps11
    go_upto_region 4 with (go_at_call 40; refine hmay.mono ?_; rintro e w' ⟨rfl, hw⟩; obtain rfl := hw.symm)
    refine wp_region_mix (fun W' => Below W.heap.size W W') [(0, true), (2, true), (3, true), (4, true), (5, true), (6, true), (1, false), (7, true), (8, true)] (by kernel_rfl) (by kernel_rfl) hS fun _ => ?_
    simp only [List.map_cons, List.map_nil, Array.getD_eq_getD_getElem?, List.getElem?_toArray, List.getElem?_cons_succ, List.getElem?_cons_zero, Option.getD_some]
    generalize W.drew = W0 at hS ⊢
    refine wpMix_s (fun K hK => ?_)
    go_simp
    refine hK _ ?_
    clear hK K
    refine wpMix_s (fun K hK => ?_)
    go_simp
    refine hK _ ?_
    clear hK K
    refine wpMix_s (fun K hK => ?_)
    go_simp
    refine hK _ ?_
    clear hK K
    refine wpMix_s (fun K hK => ?_)
    go_simp
    refine hK _ ?_
    clear hK K
    refine wpMix_s (fun K hK => ?_)
    go_simp
    refine hK _ ?_
    clear hK K
    refine wpMix_s (fun K hK => ?_)
    go_simp
    refine hK _ ?_
    clear hK K
    refine wpMix_c (fun K hK => ?_) hS
    go_simp
    refine (Hsz.out W0 hS).mono ?_
    rintro e W0e ⟨rfl, hww⟩
    obtain rfl := hww.symm
    refine hK _ _ ?_
    clear hK K
    refine ⟨hS, ?_⟩
    refine wpMix_s (fun K hK => ?_)
    go_simp
    refine hK _ ?_
    clear hK K
    refine wpMix_s (fun K hK => ?_)
    go_simp
    refine hK _ ?_
    clear hK K
    refine wpMix_nil ?_
    intro _
    clear c5
    obtain ⟨W2, hW2⟩ : ∃ x, W0 = x := ⟨_, rfl⟩
    rw [hW2] at hS ⊢
    clear hW2
    have h2 := Hh.out.step hS
    have hB : Below W2.heap.size W2 W2.drew := (Below.refl _ _).drew
    have hT : True := trivial
    go_upto_region 6 with fail
    refine wp_region_mix (fun _ => True) [(0, true), (1, true), (2, true), (3, true), (4, true), (5, true), (6, false), (7, false)] (by kernel_rfl) (by kernel_rfl) hT fun _ => ?_
    simp only [List.map_cons, List.map_nil, Array.getD_eq_getD_getElem?, List.getElem?_toArray, List.getElem?_cons_succ, List.getElem?_cons_zero, Option.getD_some]
    generalize W2.drew = Z0 at hB ⊢
    refine wpMix_s (fun K hK => ?_)
    go_simp
    refine hK _ ?_
    clear hK K
    refine wpMix_s (fun K hK => ?_)
    go_simp
    refine hK _ ?_
    clear hK K
    refine wpMix_s (fun K hK => ?_)
    go_simp
    refine hK _ ?_
    clear hK K
    refine wpMix_s (fun K hK => ?_)
    go_simp
    refine hK _ ?_
    clear hK K
    refine wpMix_s (fun K hK => ?_)
    go_simp
    refine hK _ ?_
    clear hK K
    refine wpMix_s (fun K hK => ?_)
    go_simp
    refine hK _ ?_
    clear hK K
    have h3 := h2.step hB
    have c53 : Z0.cell? ⟨g, 5, none⟩ = some (.slice Aq n cq) := by
      rw [← Hnq.out]
      exact (h3.cell 5 (by decide)).trans (congrArg some Hqe.out)
    refine wpMix_c (fun K hK => ?_) hT
    go_simp
    refine hK _ _ ?_
    clear hK K
    refine ⟨hT, ?_⟩
    refine wpMix_c (fun K hK => ?_) hT
    go_simp
    have hput := mput_any Z lo g R m Aq m.queue.length cq m.queue Z0 (h3.mp (((Hqs.out).step hS).step hB)) h3.lastL h3.ptL (h3.fresh Ho.out) hn (fun x hx => by
      rcases List.mem_append.1 hx with hx | hx
      · exact h3.big x hx
      · exact h3.bigq x hx) h3.bigq
    rw [Hnq.out] at hput
    refine hput.mono ?_
    rintro e W4 ⟨rfl, R', hD, hK9, hrq', hrb', hnew⟩
    refine hK _ _ ?_
    clear hK K
    have hK := hK9
    refine ⟨hT, ?_⟩
    clear c53 hput hK9
    refine wpMix_nil ?_
    intro _
    obtain ⟨h4, hk4⟩ : ∃ x : Md Z lo g R' (m.put m.queue) W4, x = hD := ⟨_, rfl⟩
    clear hk4 hD
    have hsz2 := hS.size
    have f5 := h4.blk.frozen 5
    have c54 : W4.cell? ⟨g, 5, none⟩ = some R'.q := h4.cell 5 (by decide)
    have hgs : KB (fun b => b = g) W4 (W4.setCell ⟨g, 5, none⟩ (.slice none 0 0)) := KB.of_grown (grown_setCell (World.grownBy.refl _ (some g)) 5 _) fun r e => (Option.some.inj e).symm
    have hMd : ∀ b, MdW g { R' with q := .slice none 0 0 } b → MdW g R' b := fun b hm => by
      rcases hm with hm | hm | hm | hm
      · exact .inl hm
      · exact .inr (.inl hm)
      · exact .inr (.inr (.inl hm))
      · cases hm
    have hF : Md Z lo g { R' with q := .slice none 0 0 } m.flush (W4.setCell ⟨g, 5, none⟩ (.slice none 0 0)) := by
      obtain ⟨Ar, cr, hre, hrs⟩ := h4.roots
      refine ⟨?_, h4.lastL, h4.ptL, ?_, ?_, ⟨Ar, cr, hre, ?_⟩, EsO.nil, ?_, fun b _ e => by (cases e), fun _ => h4.fresh Ho.out, h4.low, h4.big, fun x hx => by (cases hx), fun b hz => Nat.lt_of_lt_of_le (h4.zlt b hz) hgs.size, fun b hm => h4.zno b (hMd b hm)⟩
      · rw [← md_set (R := R') (R' := { R' with q := .slice none 0 0 }) (m := m.put m.queue) (m' := m.flush) 5 (by decide) (.slice none 0 0) rfl fun i hi hne => by simp only [mcell, hne, if_false]; rfl]
        exact h4.blk.set_ 5 _
      · exact (h4.ents.kb hgs (fun b hb e => by subst e; exact own_ty h4.ents.ex.choose_spec.1 h4.blk (by decide) hb) (fun b _ hx e => hx (.inl (.inl e)))).weak fun b _ hx hm => hx (hm.imp (hMd b) id)
      · exact hgs.own h4.hashes fun b hb e => by subst e; exact own_ty h4.hashes h4.blk (by decide) hb
      · exact (hrs.kb hgs fun b _ hx e => hx (.inl (.inl e))).weak fun b _ hx hm => hx (hm.imp (hMd b) id)
      · obtain ⟨hb0, hb1⟩ := h4.fresh Ho.out
        have hb0 : m.begun = [] := hb0
        refine ⟨none, 0, ?_, ?_⟩
        · show R'.b = .slice none m.begun.length 0
          rw [hb0]; exact hb1
        · show Es _ _ none m.begun.length 0 m.begun
          rw [hb0]
          exact ⟨⟨[], SlV.empty, fun i hi => absurd hi (by simp)⟩, rfl⟩
    have hKK : KB (MdW g R) W (W4.setCell ⟨g, 5, none⟩ (.slice none 0 0)) := (KB.of_below (hS.trans (hB.mono hS.size))).trans ((hK.mono fun b hb => hb.mdW).trans (hgs.mono fun b hb => .inl hb))
    have hnn : ∀ b, MdW g { R' with q := .slice none 0 0 } b → MdW g R b ∨ W.heap.size ≤ b := fun b hm => by
      rcases hnew b (hMd b hm) with h1 | h1
      · exact .inl h1
      · exact .inr (by have := hB.size; omega)
    have HF := Lib.hid hF
    have HKK := Lib.hid hKK
    have Hnn := Lib.hid hnn
    clear hF hKK hnn hgs h4 hK hnew h2 hMd hrq' hrb'
    go_wp2_with fail
    go_ret3
    exact ⟨rfl, ⟨_, HF.out, Hnn.out⟩, HKK.out⟩
  · have hd : decide ((0 : Int) < (n : Int)) = false := by simp; omega
    go_enter Try.func11, Try.ntmps11
    go_upto_region 4 with (go_at_call 40; refine hmay.mono ?_; rintro e w' ⟨rfl, hw⟩; obtain rfl := hw.symm)
    refine wp_region_mix (fun W' => Below W.heap.size W W') [(0, true), (2, true), (3, true), (4, true), (5, true), (6, true), (1, false), (7, true), (8, true)] (by kernel_rfl) (by kernel_rfl) hS fun _ => ?_
    simp only [List.map_cons, List.map_nil, Array.getD_eq_getD_getElem?, List.getElem?_toArray, List.getElem?_cons_succ, List.getElem?_cons_zero, Option.getD_some]
    generalize W.drew = W0 at hS ⊢
    refine wpMix_s (fun K hK => ?_)
    go_simp
    refine hK _ ?_
    clear hK K
    refine wpMix_s (fun K hK => ?_)
    go_simp
    refine hK _ ?_
    clear hK K
    refine wpMix_s (fun K hK => ?_)
    go_simp
    refine hK _ ?_
    clear hK K
    refine wpMix_s (fun K hK => ?_)
    go_simp
    refine hK _ ?_
    clear hK K
    refine wpMix_s (fun K hK => ?_)
    go_simp
    refine hK _ ?_
    clear hK K
    refine wpMix_s (fun K hK => ?_)
    go_simp
    refine hK _ ?_
    clear hK K
    refine wpMix_c (fun K hK => ?_) hS
    go_simp
    refine (Hsz.out W0 hS).mono ?_
    rintro e W0e ⟨rfl, hww⟩
    obtain rfl := hww.symm
    refine hK _ _ ?_
    clear hK K
    refine ⟨hS, ?_⟩
    refine wpMix_s (fun K hK => ?_)
    go_simp
    refine hK _ ?_
    clear hK K
    refine wpMix_s (fun K hK => ?_)
    go_simp
    refine hK _ ?_
    clear hK K
    refine wpMix_nil ?_
    intro _
    clear c5
    go_wp2_with fail
    go_ret3
    have hq0 : m.queue = [] := List.eq_nil_of_length_eq_zero (by rw [Hnq.out]; omega)
    have hfl : m.flush = m := by
      unfold MoV.flush
      rw [hq0, List.append_nil]
      obtain ⟨e1, e2, e3, e4, e5, e6, e7, e8, e9, e10, e11, e12⟩ := m
      simp only at hq0
      subst hq0
      rfl
    rw [hfl]
    exact ⟨rfl, ⟨R, Hh.out.step hS, fun b hb => .inl hb⟩, KB.of_below hS⟩
end Go.Proofs.Ytobcfgbkhgkelaa
/- The two roots that are put together out of a proof (plain). -/
namespace Go.Proofs.Ytobcfgbkhgkelaa
open Go Go.RowKit

/-- back through the steps of m in a stretch of n: the two hashes -/
def bothF : Nat → Nat → Nat → Bool → List UInt8 → List (List UInt8) → List UInt8 × List UInt8
  | 0, _, _, _, x, _ => (x, x)
  | f + 1, m, n, whole, x, p =>
    if m = n then (if whole then (x, x) else (p.getD 0 [], p.getD 0 []))
    else if m ≤ splitN n then ((bothF f m (splitN n) whole x p.dropLast).1, hNode (bothF f m (splitN n) whole x p.dropLast).2 (p.getD (p.length - 1) []))
    else (hNode (p.getD (p.length - 1) []) (bothF f (m - splitN n) (n - splitN n) false x p.dropLast).1, hNode (p.getD (p.length - 1) []) (bothF f (m - splitN n) (n - splitN n) false x p.dropLast).2)
theorem bothF_enough : ∀ (f g m n : Nat) (whole : Bool) (x : List UInt8) (p : List (List UInt8)), 1 ≤ m → m ≤ n → n ≤ f → n ≤ g → bothF f m n whole x p = bothF g m n whole x p
  | 0, _, _, _, _, _, _, h1, h2, h3, _ => by omega
  | _ + 1, 0, _, _, _, _, _, h1, h2, _, h4 => by omega
  | f + 1, g + 1, m, n, whole, x, p, h1, h2, h3, h4 => by
    simp only [bothF]
    split
    · rfl
    · have hl := splitN_lt n (by omega)
      have hp := splitN_pos n (by omega)
      split
      · rename_i h
        rw [bothF_enough f g m (splitN n) whole x _ h1 h (by omega) (by omega)]
      · rw [bothF_enough f g (m - splitN n) (n - splitN n) false x _ (by omega) (by omega) (by omega) (by omega)]
def bothL (m n : Nat) (whole : Bool) (x : List UInt8) (p : List (List UInt8)) : List UInt8 × List UInt8 := bothF n m n whole x p
theorem bothL_eq (m : Nat) (whole : Bool) (x : List UInt8) (p : List (List UInt8)) (h : 1 ≤ m) : bothL m m whole x p = if whole then (x, x) else (p.getD 0 [], p.getD 0 []) := by
  obtain ⟨k, rfl⟩ : ∃ k, m = k + 1 := ⟨m - 1, by omega⟩
  unfold bothL
  simp only [bothF, if_true]
theorem bothL_left (m n : Nat) (whole : Bool) (x : List UInt8) (p : List (List UInt8)) (h : 1 ≤ m) (hn : m < n) (hk : m ≤ splitN n) : bothL m n whole x p = ((bothL m (splitN n) whole x p.dropLast).1, hNode (bothL m (splitN n) whole x p.dropLast).2 (p.getD (p.length - 1) [])) := by
  have hl := splitN_lt n (by omega)
  unfold bothL
  rw [bothF_enough n (n + 1) m n whole x p h (by omega) (Nat.le_refl _) (by omega), bothF, if_neg (by omega), if_pos hk, bothF_enough n (splitN n) m (splitN n) whole x _ h hk (by omega) (Nat.le_refl _)]
theorem bothL_right (m n : Nat) (whole : Bool) (x : List UInt8) (p : List (List UInt8)) (h : 1 ≤ m) (hn : m < n) (hk : ¬ m ≤ splitN n) : bothL m n whole x p = (hNode (p.getD (p.length - 1) []) (bothL (m - splitN n) (n - splitN n) false x p.dropLast).1, hNode (p.getD (p.length - 1) []) (bothL (m - splitN n) (n - splitN n) false x p.dropLast).2) := by
  have hp := splitN_pos n (by omega)
  unfold bothL
  rw [bothF_enough n (n + 1) m n whole x p h (by omega) (Nat.le_refl _) (by omega), bothF, if_neg (by omega), if_neg hk, bothF_enough n (n - splitN n) (m - splitN n) (n - splitN n) false x _ (by omega) (by omega) (by omega) (Nat.le_refl _)]
/-- how many hashes are taken -/
def cntS (m n : Nat) (whole : Bool) : Nat := (stepsL m 0 n whole).length
theorem stepsL_cnt (d : Nat) : ∀ (m a b n : Nat) (whole : Bool), n ≤ d → 1 ≤ m → m ≤ n → (stepsL m a n whole).length = (stepsL m b n whole).length := by
  induction d with
  | zero => intro m a b n whole h h1 h2; omega
  | succ d ih =>
    intro m a b n whole h h1 h2
    by_cases hmn : m = n
    · subst hmn
      rw [stepsL_eq m a whole h1, stepsL_eq m b whole h1]
      split <;> rfl
    · have hl := splitN_lt n (by omega)
      have hp := splitN_pos n (by omega)
      by_cases hk : m ≤ splitN n
      · rw [stepsL_left m a n whole h1 (by omega) hk, stepsL_left m b n whole h1 (by omega) hk, List.length_append, List.length_append, ih m a b (splitN n) whole (by omega) h1 hk]; rfl
      · rw [stepsL_right m a n whole h1 (by omega) hk, stepsL_right m b n whole h1 (by omega) hk, List.length_append, List.length_append, ih (m - splitN n) (a + splitN n) (b + splitN n) (n - splitN n) false (by omega) (by omega) (by omega)]; rfl
theorem cntS_eq (m : Nat) (whole : Bool) (h : 1 ≤ m) : cntS m m whole = if whole then 0 else 1 := by
  unfold cntS
  rw [stepsL_eq m 0 whole h]
  split <;> rfl
theorem cntS_left (m n : Nat) (whole : Bool) (h : 1 ≤ m) (hn : m < n) (hk : m ≤ splitN n) : cntS m n whole = cntS m (splitN n) whole + 1 := by
  unfold cntS
  rw [stepsL_left m 0 n whole h hn hk, List.length_append]; rfl
theorem cntS_right (m n : Nat) (whole : Bool) (h : 1 ≤ m) (hn : m < n) (hk : ¬ m ≤ splitN n) : cntS m n whole = cntS (m - splitN n) (n - splitN n) false + 1 := by
  have hp := splitN_pos n (by omega)
  unfold cntS
  rw [stepsL_right m 0 n whole h hn hk, List.length_append, stepsL_cnt n (m - splitN n) (0 + splitN n) 0 (n - splitN n) false (by omega) (by omega) (by omega)]; rfl
theorem length_bothL (d : Nat) : ∀ (m n : Nat) (whole : Bool) (x : List UInt8) (p : List (List UInt8)), n ≤ d → 1 ≤ m → m ≤ n → x.length = 32 → H32 p → p.length = cntS m n whole → (bothL m n whole x p).1.length = 32 ∧ (bothL m n whole x p).2.length = 32 := by
  induction d with
  | zero => intro m n whole x p h h1 h2; omega
  | succ d ih =>
    intro m n whole x p h h1 h2 hx hp hc
    by_cases hmn : m = n
    · subst hmn
      rw [cntS_eq m whole h1] at hc
      rw [bothL_eq m whole x p h1]
      split
      · exact ⟨hx, hx⟩
      · rename_i hw
        rw [if_neg hw] at hc
        have := hp.getD 0 (by omega)
        exact ⟨this, this⟩
    · have hl := splitN_lt n (by omega)
      have hps := splitN_pos n (by omega)
      have hpd : H32 p.dropLast := by rw [List.dropLast_eq_take]; exact hp.take _
      by_cases hk : m ≤ splitN n
      · rw [cntS_left m n whole h1 (by omega) hk] at hc
        rw [bothL_left m n whole x p h1 (by omega) hk]
        exact ⟨(ih m (splitN n) whole x _ (by omega) h1 hk hx hpd (by rw [List.length_dropLast]; omega)).1, length_hNode _ _⟩
      · rw [bothL_right m n whole x p h1 (by omega) hk]
        exact ⟨length_hNode _ _, length_hNode _ _⟩
end Go.Proofs.Ytobcfgbkhgkelaa
/- What cons.Both and cons.Check answer (plain). -/
namespace Go.Proofs.Ytobcfgbkhgkelaa
open Go Go.RowKit

def bothE (m n : Int) (x : List UInt8) (p : List (List UInt8)) : (List UInt8 × List UInt8) × Int :=
  if m < 1 ∨ n < m then ((zeroL, zeroL), 4) else if (stepsA m n).1.length ≠ p.length then ((zeroL, zeroL), 220) else (bothL m.toNat n.toNat true x p, 0)
def checkE (m n : Int) (x y : List UInt8) (p : List (List UInt8)) : Int :=
  if m < 0 ∨ n < m then 4 else if m = 0 then (if x ≠ hEmpty ∨ p.length ≠ 0 ∨ (n = 0 ∧ y ≠ x) then 220 else 0)
  else if (bothE m n x p).2 ≠ 0 ∨ (bothE m n x p).1.1 ≠ x ∨ (bothE m n x p).1.2 ≠ y then 220 else 0
theorem stepsA_cnt (m n : Int) (h1 : 1 ≤ m) (h2 : m ≤ n) : (stepsA m n).1.length = cntS m.toNat n.toNat true := by
  unfold stepsA
  rw [if_neg (by omega), if_neg (by omega)]
  rfl
theorem bothE_bad (m n : Int) (x : List UInt8) (p : List (List UInt8)) (h : m < 1 ∨ n < m) : bothE m n x p = ((zeroL, zeroL), 4) := if_pos h
theorem bothE_size (m n : Int) (x : List UInt8) (p : List (List UInt8)) (h : ¬ (m < 1 ∨ n < m)) (hs : (stepsA m n).1.length ≠ p.length) : bothE m n x p = ((zeroL, zeroL), 220) := by unfold bothE; rw [if_neg h, if_pos hs]
theorem bothE_ok (m n : Int) (x : List UInt8) (p : List (List UInt8)) (h : ¬ (m < 1 ∨ n < m)) (hs : (stepsA m n).1.length = p.length) : bothE m n x p = (bothL m.toNat n.toNat true x p, 0) := by unfold bothE; rw [if_neg h, if_neg (by simpa using hs)]
theorem length_bothE (m n : Int) (x : List UInt8) (p : List (List UInt8)) (hx : x.length = 32) (hp : H32 p) : (bothE m n x p).1.1.length = 32 ∧ (bothE m n x p).1.2.length = 32 := by
  by_cases h : m < 1 ∨ n < m
  · rw [bothE_bad m n x p h]; exact ⟨rfl, rfl⟩
  · by_cases hs : (stepsA m n).1.length = p.length
    · rw [bothE_ok m n x p h hs]
      exact length_bothL n.toNat m.toNat n.toNat true x p (Nat.le_refl _) (by omega) (by omega) hx hp (by rw [← hs, stepsA_cnt m n (by omega) (by omega)])
    · rw [bothE_size m n x p h hs]; exact ⟨rfl, rfl⟩
theorem bothE_e (m n : Int) (x : List UInt8) (p : List (List UInt8)) : (bothE m n x p).2 = 0 ∨ (bothE m n x p).2 = 4 ∨ (bothE m n x p).2 = 220 := by
  unfold bothE
  split
  · exact .inr (.inl rfl)
  · split
    · exact .inr (.inr rfl)
    · exact .inl rfl
end Go.Proofs.Ytobcfgbkhgkelaa
