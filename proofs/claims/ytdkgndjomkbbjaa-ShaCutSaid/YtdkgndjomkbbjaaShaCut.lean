/- notarylaw03.ShaCut, walked. -/
import Derived.Test.YtdkgndjomkbbjaaShOf
import Derived.Test.YtdkgndjomkbbjaaKnown
namespace Go.Proofs.Ytdkgndjomkbbjaa
open Go.RowKit

theorem own_ne {w : World} {base : Nat} {e t : TypeId} {s : Nat} {v : Value} {n g : Nat} {xs : List Value} {cs : Array Value} (h : w.ownsRow base e s v n xs) (hb : Blk w g t cs) (hne : e ≠ t) : v.ownBlock ≠ some g := by
  intro hv
  rcases h.2 with ⟨rfl, _⟩ | ⟨g', cap, cur, rfl, _, hg, _⟩
  · cases hv
  · have : g' = g := by simpa [Value.ownBlock] using hv
    subst this
    rw [show w.heap[g']? = some (.cells cs t (0, 0)) from hb] at hg
    cases hg
    exact hne rfl
theorem Blk.ne {w : World} {g g' : Nat} {t t' : TypeId} {cs cs' : Array Value} (h : Blk w g t cs) (h' : Blk w g' t' cs') (hne : t ≠ t') : g ≠ g' := by
  intro e
  subst e
  have := (show w.heap[g]? = some (.cells cs t (0, 0)) from h).symm.trans (show w.heap[g]? = some (.cells cs' t' (0, 0)) from h')
  cases this
  exact hne rfl
theorem Sh.blk {w : World} {g : Nat} {u : Und} (h : Sh w g u) : ∃ cs, Blk w g 41 cs := ⟨_, h.choose_spec.blk⟩

/-- at the head of the loop: the sum, what is left, the parts -/
structure CtC (w : World) (b hb : List UInt8) (g5 g : Nat) (A : Option Addr) (n c ps pr pf : Nat) (v8 : Value) (vs : List Value) (ls : List (List UInt8)) (W : World) : Prop where
  sh : Sh W g (Und.new.take (b.take ps))
  whole : Blk W g5 26 (hb.map B).toArray
  rest : Sl W (· < w.heap.size) A n c (b.drop pr)
  own : W.ownsRow w.heap.size 23 1 v8 ls.length vs
  pcs : ∀ i (h : i < ls.length), ∃ Ai ci, vs[i]? = some (.slice Ai (ls[i]).length ci) ∧ Sl W (· < w.heap.size) Ai (ls[i]).length ci ls[i]
  flat : ls.flatten = b.take pf
  bel : Below w.heap.size w W
  g_ : w.heap.size ≤ g
  g5_ : w.heap.size ≤ g5
  p_ : pr + n = b.length

section
variable {w W W' : World} {b hb : List UInt8} {g5 g n c ps pr pf : Nat} {A : Option Addr} {v8 : Value} {vs : List Value} {ls : List (List UInt8)}
theorem CtC.step (h : CtC w b hb g5 g A n c ps pr pf v8 vs ls W) (hs : Below W.heap.size W W') : CtC w b hb g5 g A n c ps pr pf v8 vs ls W' :=
  ⟨h.sh.below hs h.sh.lt, h.whole.below hs h.whole.lt, h.rest.step hs, owns_step h.own hs, fun i hi => let ⟨Ai, ci, h1, h2⟩ := h.pcs i hi; ⟨Ai, ci, h1, h2.step hs⟩, h.flat, h.bel.trans (hs.mono h.bel.size), h.g_, h.g5_, h.p_⟩
/-- the next piece is written -/
theorem CtC.write (h : CtC w b hb g5 g A n c pr pr pf v8 vs ls W) (k : Nat) (hsh : Sh W' g ((Und.new.take (b.take pr)).take ((b.drop pr).take k))) (hg : W.grownBy W' (some g)) : CtC w b hb g5 g A n c (pr + k) pr pf v8 vs ls W' := by
  obtain ⟨cs, hsb⟩ := h.sh.blk
  have hlt : ∀ x, x < w.heap.size → some x ≠ some g := fun x hx e => by cases e; have := h.g_; omega
  refine ⟨?_, h.whole.grown hg fun e => ?_, h.rest.grown hg fun x _ hx => hlt x hx, h.own.kept hg (.inr (own_ne h.own hsb (by decide))), fun i hi => ?_, h.flat, h.bel.grown hg h.bel.size fun k hk => by cases hk; exact h.g_, h.g_, h.g5_, h.p_⟩
  · rw [Und.take_take] at hsh
    rw [List.take_add]
    exact hsh
  · cases e
    exact h.whole.ne hsb (by decide) rfl
  · obtain ⟨Ai, ci, h1, h2⟩ := h.pcs i hi
    exact ⟨Ai, ci, h1, h2.grown hg fun x _ hx => hlt x hx⟩
/-- .. put behind the parts -/
theorem CtC.app (h : CtC w b hb g5 g A n c ps pr pr v8 vs ls W) (k : Nat) (hk : k ≤ n) (hl : ls.length ≤ 50) : ∃ v8' W', (Builtin.append_ #[22, 22] 22 #[v8, .slice (some ⟨W.heap.size, 0, none⟩) 1 1]).run Try.prog (W.alloc (.cells #[.slice A k c] 23)) = .ok v8' W' ∧
    CtC w b hb g5 g A n c ps pr (pr + k) v8' (vs ++ [.slice A k c]) (ls ++ [(b.drop pr).take k]) W' := by
  have h1 := h.step ((Below.refl _ _).alloc (Nat.le_refl _) (.cells #[.slice A k c] 23))
  obtain ⟨v8', W', hr, ho, hg, -⟩ := append_slv (ty := 22) Try.underlying22 info23 rfl (by decide) h1.own (SlV.lit (s := 1) W (fun _ => True) 23 [.slice A k c] rfl (by decide) trivial) (by simp [Value.oneCell']) (by unfold maxLen; omega) (by omega) h1.bel.size
  refine ⟨v8', W', hr, ?_⟩
  obtain ⟨cs, hsb⟩ := h1.sh.blk
  have hrow : ∀ x, x < w.heap.size → some x ≠ v8.ownBlock := fun x hx e => by have := (h1.own.lt x e.symm).1; omega
  have hvl : vs.length = ls.length := by have := h.own.1; omega
  refine ⟨⟨_, h1.sh.choose_spec.move (h1.sh.choose_spec.blk.grown hg (Ne.symm (own_ne h1.own hsb (by decide))))⟩, h1.whole.grown hg (Ne.symm (own_ne h1.own h1.whole (by decide))), h1.rest.grown hg fun x _ hx => hrow x hx, ?_, fun i hi => ?_, ?_, h1.bel.grown hg h1.bel.size fun k hk => (h1.own.lt k hk).1, h1.g_, h1.g5_, h1.p_⟩
  · rw [List.length_append]; exact ho
  · by_cases hik : i < ls.length
    · obtain ⟨Ai, ci, h2, h3⟩ := h1.pcs i hik
      rw [List.getElem_append_left hik]
      exact ⟨Ai, ci, by rw [List.getElem?_append_left (by omega)]; exact h2, h3.grown hg fun x _ hx => hrow x hx⟩
    · have hie : i = ls.length := by rw [List.length_append] at hi; simp at hi; omega
      subst hie
      have htk := (h1.rest.grown hg fun x _ hx => hrow x hx).take k hk
      have hlk : ((b.drop pr).take k).length = k := htk.len
      have hget : (ls ++ [(b.drop pr).take k])[ls.length] = (b.drop pr).take k := by simp
      rw [hget, hlk]
      exact ⟨A, c, by rw [List.getElem?_append_right (by omega), hvl, Nat.sub_self]; rfl, htk⟩
  · rw [List.flatten_append, h.flat, List.take_add]; simp
theorem CtC.cut (h : CtC w b hb g5 g A n c ps pr pf v8 vs ls W) (k : Nat) (hk : k ≤ n) : CtC w b hb g5 g (if c = k then A else A.map (·.add (k * 1))) (n - k) (c - k) ps (pr + k) pf v8 vs ls W := by
  have hr := h.rest.drop k hk
  rw [List.drop_drop] at hr
  exact ⟨h.sh, h.whole, hr, h.own, h.pcs, h.flat, h.bel, h.g_, h.g5_, by have := h.p_; omega⟩
theorem CtC.swap {g2 : Nat} (h : CtC w b hb g5 g A n c ps pr pf v8 vs ls W) (hs : Sh W g2 (Und.new.take (b.take ps))) (hg : w.heap.size ≤ g2) : CtC w b hb g5 g2 A n c ps pr pf v8 vs ls W := ⟨hs, h.whole, h.rest, h.own, h.pcs, h.flat, h.bel, hg, h.g5_, h.p_⟩
end

/-- numbers in a slice -/
def Ints (w : World) (A : Option Addr) (n : Nat) (zs : List Int) : Prop := zs.length = n ∧ (∀ z ∈ zs, -9223372036854775808 ≤ z ∧ z ≤ 9223372036854775807) ∧ (0 < n → ∃ b o, A = some ⟨b, o, none⟩ ∧ b < w.heap.size ∧ ∀ j, j < n → w.cell? ⟨b, o + j, none⟩ = some (.int .i64 (zs.getD j 0)))

set_option maxHeartbeats 2000000 in
set_option maxRecDepth 100000 in
theorem shacut_any (b : List UInt8) (A : Option Addr) (n c : Nat) (A2 : Option Addr) (n2 c2 : Nat) (zs : List Int) (w : World) (h : Sl w (· < w.heap.size) A n c b) (hz : Ints w A2 n2 zs) (_hc2 : n2 ≤ c2) (_hm2 : c2 ≤ 9223372036854775807) :
    Calls Try.prog 6 #[.slice A n c, .slice A2 n2 c2] w fun e w' => e = .returned (.bool true) ∧ Below w.heap.size w w' := by
  have hmax := h.max
  have hroom := h.room
  unfold maxLen at hmax
  by_cases hbig : 20000 < n
  · have hbi : (20000 : Int) < (n : Int) := by omega
    go_enter Try.func6, Try.ntmps6
    go_wp2_with (go_at_call 18; refine (known_any _).mono ?_; rintro e w6 ⟨rfl, hb6⟩)
    go_ret
    exact ⟨rfl, hb6⟩
  · have hn2 : (n : Int) ≤ (20000 : Int) := by omega
    have hlen := h.len
    obtain ⟨hs, hhs⟩ : ∃ hs, sha256 b = hs := ⟨_, rfl⟩
    have hhl : hs.length = 32 := by rw [← hhs]; exact length_sha256 _
    have Hhs := Lib.hid hhs
    have Hhl := Lib.hid hhl
    have Hlen := Lib.hid hlen
    clear hhs hhl hlen
    have hsum := shasum_any [b] (some ⟨w.heap.size, 0, none⟩) 1 1 (w.alloc (.cells #[.slice A n c] 23)) rfl ⟨[.slice A n c], (SlV.lit (s := 1) (n := 1) w (fun _ => True) 23 [.slice A n c] rfl (by decide) trivial).bs.weak fun b hb _ => hb, rfl, fun i hi => by
      have h0 : i = 0 := by simpa using hi
      subst h0
      exact ⟨A, c, by rw [← Hlen.out]; rfl, by rw [← Hlen.out] at hroom; exact hroom, (h.alloc _).bs.weak fun b hb _ => hb⟩⟩ (by decide) (by simp [Hlen.out]; omega)
    rw [show [b].flatten = b by simp, Hhs.out] at hsum
    have Hsum := Lib.hid hsum
    clear hsum hbig
    go_enter Try.func6, Try.ntmps6
    go_upto_region 8 with (first
      | (go_at_call 15; refine Hsum.out.mono ?_; rintro e w1 ⟨rfl, hb1⟩)
      | ((with_reducible show wpList _ _ _ (⟨some 5, .alloc _, _, _, _, _⟩ :: _) _ _); refine wpList_run rfl (.pointer (some ⟨w1.heap.size, 0, none⟩)) (w1.alloc (.cells ((List.replicate 32 (0 : UInt8)).map B).toArray 26)) (by rfl) ?_; simp only [Act.put])
      | ((with_reducible show wpList _ _ _ (⟨none, .store _ _ _, _, _, _, _⟩ :: _) _ _); refine wpList_store_blk rfl 26 (.tmp 5) (.tmp 20) rfl 32 size26 w1.heap.size (hs.map B).toArray rfl rfl (by simp [Hhl.out]) (oneCell_B _) 26 _ (Blk.new _ _ _) (by simp) ?_; simp only [Act.put])
      | (go_at_call 22; refine (new_any _).mono ?_; rintro e w2 ⟨g, rfl, hg, hsh, hb2⟩))
    have hB1 : Below w.heap.size w w1 := ((Below.refl _ _).alloc (Nat.le_refl _) _).trans (hb1.mono (by simp))
    have hB2 : Below w.heap.size w w2 := (below_setRow (hB1.alloc hB1.size _) hB1.size (hs.map B).toArray).trans (hb2.mono (by simp; have := hB1.size; omega))
    have hC : CtC w b hs w1.heap.size g A n c 0 0 0 (.slice none 0 0) [] [] w2 := by
      refine ⟨?_, ?_, ?_, World.ownsRow_nil _ _ _ _, fun i hi => absurd hi (by simp), rfl, hB2, ?_, hB1.size, by rw [Hlen.out]; omega⟩
      · rw [List.take_zero, Und.take_nil _ Und.new_ok]; exact hsh
      · exact ((Blk.new w1 _ _).setRow_ _).below hb2 (by simp)
      · exact h.below hB2 fun _ _ h => h
      · have := hB1.size; simp at hg; omega
    obtain ⟨g5, hg5⟩ : ∃ g5, w1.heap.size = g5 := ⟨_, rfl⟩
    rw [hg5] at hC ⊢
    clear hB1 hB2 hb1 hb2 hg hsh hg5
    go_wp2_with fail
    go_loopw [6, 7, 8, 9] (fun a6 a7 a8 i wr => ∃ (j g : Nat) (A' : Option Addr) (n' c' p : Nat) (v8 : Value) (vs : List Value) (ls : List (List UInt8)), j ≤ n2 ∧ j ≤ 50 ∧ ls.length = j ∧ i = .int .i64 j ∧ a6 = .pointer (some ⟨g, 0, none⟩) ∧ a7 = .slice A' n' c' ∧ v8 = a8 ∧ CtC w b hs g5 g A' n' c' p p p v8 vs ls wr) (fun _ _ _ i => fun _ => n2 - (intOf i).toNat)
    case atStart => exact ⟨0, g, A, n, c, 0, _, [], [], by omega, by omega, rfl, rfl, rfl, rfl, rfl, hC⟩
    case round =>
      clear hC
      obtain ⟨j, g, A', n', c', p, v8, vs, ls, hj, hj50, hlj, rfl, rfl, rfl, rfl, hC⟩ := hrel
      have Hlj := Lib.hid hlj
      clear hlj
      have hn' : n' ≤ n := by have := hC.p_; have := Hlen.out; omega
      have hc' := hC.rest.max
      have hr' := hC.rest.room
      unfold maxLen at hc'
      go_upto_region 10 with fail
      go_cut [32] (fun v wx => v = .bool (decide (j < n2 ∧ j < 50)) ∧ wr = wx)
      case first =>
        by_cases hlt : j < n2
        · go_wp2_with fail
          all_goals (go_meet; refine ⟨?_, rfl⟩; refine congrArg _ ?_; first | (rw [decide_eq_decide]; omega) | (symm; rw [decide_eq_false_iff_not]; omega) | (symm; rw [decide_eq_true_eq]; omega))
        · go_wp2_with fail
          all_goals (go_meet; refine ⟨?_, rfl⟩; refine congrArg _ ?_; first | (rw [decide_eq_decide]; omega) | (symm; rw [decide_eq_false_iff_not]; omega) | (symm; rw [decide_eq_true_eq]; omega))
      case rest =>
      obtain ⟨rfl, rfl⟩ := hcut
      by_cases hgo : j < n2 ∧ j < 50
      · have hd : decide (j < n2 ∧ j < 50) = true := by simpa using hgo
        rw [hd]
        clear hd
        obtain ⟨hlt, hlt50⟩ := hgo
        obtain ⟨b2, o2, rfl, hb2, hcell⟩ := hz.2.2 (by omega)
        obtain ⟨z, hzj⟩ : ∃ z, zs.getD j 0 = z := ⟨_, rfl⟩
        have hzb : -9223372036854775808 ≤ z ∧ z ≤ 9223372036854775807 := by
          have hjl : j < zs.length := by rw [hz.1]; exact hlt
          refine hz.2.1 z ?_
          rw [← hzj, List.getD_eq_getElem?_getD, List.getElem?_eq_getElem hjl]
          exact List.getElem_mem hjl
        obtain ⟨hz1, hz2⟩ := hzb
        have cz : wr.cell? ⟨b2, o2 + j, none⟩ = some (.int .i64 z) := by rw [hC.bel.cell (p := ⟨b2, o2 + j, none⟩) hb2, hcell j hlt, hzj]
        have hm1 : -((n' : Int) + 1) < z.tmod ((n' : Int) + 1) := by have := Int.lt_tmod_of_pos z (show (0 : Int) < (n' : Int) + 1 by omega); omega
        have hm2 : z.tmod ((n' : Int) + 1) < (n' : Int) + 1 := Int.tmod_lt_of_pos z (by omega)
        have Hcell := Lib.hid hcell
        have Hzj := Lib.hid hzj
        clear hcell hzj
        obtain ⟨k, hk⟩ : ∃ k : Nat, (z.tmod ((n' : Int) + 1) + ((n' : Int) + 1)) % ((n' : Int) + 1) = (k : Int) := ⟨((z.tmod ((n' : Int) + 1) + ((n' : Int) + 1)) % ((n' : Int) + 1)).toNat, by rw [Int.toNat_of_nonneg (Int.emod_nonneg _ (by omega))]⟩
        have hkn : k ≤ n' := by have := Int.emod_lt_of_pos (z.tmod ((n' : Int) + 1) + ((n' : Int) + 1)) (show (0 : Int) < (n' : Int) + 1 by omega); omega
        have Hk := Lib.hid hk
        clear hk
        go_upto_region 14 with fail
        rw [Hk.out]
        clear hm1 hm2 hz1 hz2 cz Hk
        obtain ⟨v8', w1, hr8, hC1⟩ := hC.app k hkn (by have := Hlj.out; omega)
        have hpl : ((b.drop p).take k).length = k := (hC.rest.take k hkn).len
        have hp_ := hC.p_
        have hwr := write_any g (Und.new.take (b.take p)) ((b.drop p).take k) A' c' w1 hC1.sh ((hC1.rest.take k hkn).bs.weak fun x hx hxx => by have := hC.g_; have : x < w.heap.size := hxx; omega) (by omega) (by omega) (by rw [Und.take_len, show Und.new.len = 0 from rfl, List.length_take]; have := Hlen.out; omega)
        rw [hpl] at hwr
        have sl1 := fun W => run_slice_high (P := Try.prog) sliceT23 size23 A' n' c' k (by omega) W
        have sl2 := fun W => run_slice_low (P := Try.prog) sliceT23 size23 A' n' c' k hkn W
        obtain ⟨A3, hA3⟩ : ∃ A3, (if c' = k then A' else A'.map (·.add (k * 1))) = A3 := ⟨_, rfl⟩
        rw [hA3] at sl2
        have HA3 := Lib.hid hA3
        have Hr8 := Lib.hid hr8
        have Hwr := Lib.hid hwr
        have Hpl := Lib.hid hpl
        obtain ⟨u, hu⟩ : ∃ u, Und.new.take (b.take (p + k)) = u := ⟨_, rfl⟩
        have huok : u.ok := by rw [← hu]; exact Und.take_ok _ _ Und.new_ok
        have hulen : u.len = p + k := by rw [← hu, Und.take_len, show Und.new.len = 0 from rfl, List.length_take]; have := Hlen.out; omega
        have hofb := ofBytes_bytes u huok (by have := Hlen.out; omega)
        have hubl : u.bytes.length = 40 + u.rest.length := by unfold Und.bytes; simp [S8.length_bytes, length_num8]; omega
        have Hu := Lib.hid hu
        have Huok := Lib.hid huok
        have Hulen := Lib.hid hulen
        have Hofb := Lib.hid hofb
        have Hubl := Lib.hid hubl
        clear hA3 hr8 hwr hpl hu huok hulen hofb hubl hC
        go_upto_region 19 with (first
          | ((with_reducible show wpList _ _ _ (⟨some 53, .call _, _, _, _, _⟩ :: _) _ _); refine wpList_run rfl _ w1 (run_append_op (.tmp 48) (.tmp 52) 22 rfl _ _ rfl rfl Hr8.out) ?_; simp only [Act.put])
          | (go_at_call 23; refine Hwr.out.mono ?_; rintro e w2 ⟨rfl, hsh2, hg2⟩; have hC2 := (hC1.write k hsh2 hg2).cut k hkn)
          | (go_at_call 25; refine (bytes_any g u w2 (by have := hC2.sh; rw [Hu.out] at this; exact this)).mono ?_; rintro e w3 ⟨v3, rfl, hF⟩; obtain ⟨A8, c8, rfl, hs8⟩ := hF.sl; have hC3 := hC2.step hF.2)
          | (go_at_call 24; refine (of_long u.bytes A8 _ c8 w3 (hs8.weak fun b hb _ => hb) (by rw [Hubl.out]; omega)).mono ?_; rintro e w4 ⟨hb4, hok4, -⟩; obtain ⟨rfl, hsh4⟩ := hok4 u Hofb.out; have hC4 := hC3.step hb4))
        have hshg : Sh w4 g u := by have := hC4.sh; rw [Hu.out] at this; exact this
        obtain ⟨su, hsu⟩ : ∃ su, u.sum = su := ⟨_, rfl⟩
        have hsul : su.length = 32 := by rw [← hsu]; exact Und.length_sum u
        have hfl : sha256 [b.take (p + k)].flatten = su := by rw [← hsu, ← Hu.out]; simp [sha256]
        have hNeq : ∀ {ρ : Operand → Value} {o : Oper} (x y : Operand) (ty : TypeId) (_ : o.op = .binOp .neq 26 x y ty) (_ : ρ x = .agg (su.map B).toArray) (_ : ρ y = .agg (su.map B).toArray) (W : World), (execOp ρ o).run Try.prog W = .ok (.value (.bool false)) W := fun x y ty ho hx hy W => by
          have := run_neq26 x y ty su su ho hx hy hsul hsul W
          rwa [bne_self_eq_false] at this
        have hul : u.len ≤ 1152921504606846976 := by rw [Hulen.out]; have := Hlen.out; omega
        have hnl : n = b.length := by rw [Hlen.out]
        have hwrap : IntKind.i64.wrap ((n : Int) - ((n' - k : Nat) : Int)) = (p : Int) + (k : Int) := by rw [IntKind.wrap_i64]; omega
        have hneL : ((u.len : Int) != (p : Int) + (k : Int)) = false := by rw [bne_eq_false_iff_eq, Hulen.out]; omega
        have slq : ∀ W, (Instr.sliceAt 23 (.slice A n c) none (some (.int .i64 ((p : Int) + (k : Int)))) none).run Try.prog W = .ok (.slice A (p + k) c) W := fun W => by
          rw [show (p : Int) + (k : Int) = ((p + k : Nat) : Int) by omega]
          exact run_slice_high (P := Try.prog) sliceT23 size23 A n c (p + k) (by omega) W
        have hB4 := hC4.bel
        have hbld : ∀ W, Below w4.heap.size w4 W → BsS (W.alloc (.cells #[.slice A (p + k) c] 23)) (· < (W.alloc (.cells #[.slice A (p + k) c] 23)).heap.size) (some ⟨W.heap.size, 0, none⟩) [b.take (p + k)] := fun W hW => by
          have hsW := (h.below (hB4.trans (hW.mono hB4.size)) (fun _ _ h => h)).take (p + k) (by omega)
          refine ⟨[.slice A (p + k) c], (SlV.lit (s := 1) (n := 1) W (fun _ => True) 23 [.slice A (p + k) c] rfl (by decide) trivial).bs.weak fun b hb _ => hb, rfl, fun i hi => ?_⟩
          have h0 : i = 0 := by simpa using hi
          subst h0
          refine ⟨A, c, ?_, ?_, (hsW.alloc _).bs.weak fun b hb _ => hb⟩
          · show some (Value.slice A (p + k) c) = some (Value.slice A (b.take (p + k)).length c); rw [hsW.len]
          · show (b.take (p + k)).length ≤ c; rw [hsW.len]; exact hsW.room
        have Hf60 := Lib.hid (show [b.take (p + k)].flatten.length ≤ 1152921504606846976 by rw [List.flatten_cons, List.flatten_nil, List.append_nil, List.length_take]; have := Hlen.out; omega)
        have Hsu := Lib.hid hsu
        have Hfl := Lib.hid hfl
        clear hsu hfl hnl
        go_cut [105] (fun v wx => v = .bool false ∧ Below w4.heap.size w4 wx)
        case first =>
          refine wp_region_begin (fun W => Below w4.heap.size w4 W) (by kernel_rfl) ((Below.refl w4.heap.size w4).drew) fun _ => ?_
          refine wpAnyH_pre (f := 5) (by kernel_rfl) #[true, true, true, true, true, true, true, true, true, true, true, true, true, true, true, true, true, true, true, true, true, true, true, true, true, false, true, true, true, true, true, true, true, false, false, false, false] [(0, true), (1, true), (2, true), (3, true), (4, true), (5, true), (6, true), (7, true), (9, true), (8, false), (10, false), (11, true), (12, true), (13, true), (14, true), (16, true), (17, true), (18, true), (19, true), (20, true), (15, false), (21, true), (22, true), (23, true), (24, true), (26, true), (27, true), (28, true), (29, true), (30, true), (31, true), (32, true)] _ _ _ (by kernel_rfl) ((Below.refl w4.heap.size w4).drew) ?_
          simp only [List.map_cons, List.map_nil, Array.getD_eq_getD_getElem?, List.getElem?_toArray, List.getElem?_cons_succ, List.getElem?_cons_zero, Option.getD_some]
          have hs0 : Below w4.heap.size w4 w4.drew := (Below.refl w4.heap.size w4).drew
          iterate 9 (refine wpMix_s (fun K hK => ?_); go_simp; refine hK _ ?_; clear hK K)
          refine wpMix_c (fun K hK => ?_) hs0
          go_simp
          refine (sum_any w3.heap.size _ _ (hsh4.below hs0 hsh4.lt) hul).mono ?_
          rintro e w5 ⟨rfl, hq⟩
          rw [Hsu.out]
          refine hK _ _ ?_
          clear hK K
          have hs5 := hs0.trans (hq.mono hs0.size)
          clear hq
          refine ⟨hs5, ?_⟩
          refine wpMix_c (fun K hK => ?_) hs5
          go_simp
          refine (sum_any g _ _ (hshg.below hs5 hshg.lt) hul).mono ?_
          rintro e w6 ⟨rfl, hq⟩
          rw [Hsu.out]
          refine hK _ _ ?_
          clear hK K
          have hs6 := hs5.trans (hq.mono hs5.size)
          clear hq
          refine ⟨hs6, ?_⟩
          refine wpMix_v (by kernel_rfl) (.bool false) (fun s => hNeq (.tmp 77) (.tmp 79) 26 rfl rfl rfl s.W) ?_
          simp only [Act.put]
          iterate 8 (refine wpMix_s (fun K hK => ?_); go_simp; refine hK _ ?_; clear hK K)
          have hsh6 := hsh4.below hs6 hsh4.lt
          refine wpMix_c (fun K hK => ?_) hs6
          go_simp
          refine (len_any hsh6.choose_spec).mono ?_
          rintro e wz ⟨rfl, rfl⟩
          refine hK _ _ ?_
          clear hK K
          refine ⟨hs6, ?_⟩
          iterate 11 (refine wpMix_s (fun K hK => ?_); go_simp; refine hK _ ?_; clear hK K)
          refine wpMix_nil ?_
          intro _
          refine wpAnyH_fork (f := 4) (i := 25) (j := 33) (by kernel_rfl) hs6 ?_ ?_
          · simp only [Array.getD_eq_getD_getElem?, List.getElem?_toArray, List.getElem?_cons_succ, List.getElem?_cons_zero, Option.getD_some]
            refine wpMix_c (fun K hK => ?_) hs6
            go_simp
            refine (sum_any g _ _ (hshg.below hs6 hshg.lt) hul).mono ?_
            rintro e w7 ⟨rfl, hq⟩
            rw [Hsu.out]
            refine hK _ _ ?_
            clear hK K
            have hs7 := hs6.trans (hq.mono hs6.size)
            clear hq
            refine ⟨hs7, ?_⟩
            refine wpMix_nil ?_
            intro _
            show wpAnyH _ _ _ _ _ _ #[true, true, true, true, true, true, true, true, true, true, true, true, true, true, true, true, true, true, true, true, true, true, true, true, true, true, true, true, true, true, true, true, true, false, false, false, false] _ _
            refine wpAnyH_pre (f := 0) (by kernel_rfl) #[true, true, true, true, true, true, true, true, true, true, true, true, true, true, true, true, true, true, true, true, true, true, true, true, true, true, true, true, true, true, true, true, true, true, true, true, true] [(33, false), (34, false), (35, true), (36, true)] _ _ _ (by kernel_rfl) hs7 ?_
            simp only [List.map_cons, List.map_nil, Array.getD_eq_getD_getElem?, List.getElem?_toArray, List.getElem?_cons_succ, List.getElem?_cons_zero, Option.getD_some]
            refine wpMix_c (fun K hK => ?_) hs7
            go_simp
            refine hK _ _ ?_
            clear hK K
            refine mix_world (fun W => Below w4.heap.size w4 W ∧ BsS W (· < W.heap.size) (some ⟨w7.heap.size, 0, none⟩) [b.take (p + k)]) ⟨hs7.alloc hs7.size _, hbld _ hs7⟩ (fun _ h => h.1) ?_
            rintro w8 ⟨hs8, hbs⟩
            refine wpMix_c (fun K hK => ?_) hs8
            go_simp
            refine (shasum_any [b.take (p + k)] _ 1 1 w8 rfl hbs (by decide) Hf60.out).mono ?_
            rintro e wl ⟨rfl, hq⟩
            rw [Hfl.out]
            refine hK _ _ ?_
            clear hK K
            have hsl := hs8.trans (hq.mono hs8.size)
            refine ⟨hsl, ?_⟩
            refine wpMix_v (by kernel_rfl) (.bool false) (fun s => hNeq (.tmp 94) (.tmp 103) 26 rfl rfl rfl s.W) ?_
            simp only [Act.put]
            refine wpMix_s (fun K hK => ?_)
            go_simp
            refine hK _ ?_
            clear hK K
            refine wpMix_nil ?_
            intro _
            refine wpAnyH_end (by kernel_rfl) ?_
            go_wp2_with fail
            go_meet
            exact ⟨rfl, hsl⟩
          · simp only [Array.getD_eq_getD_getElem?, List.getElem?_toArray, List.getElem?_cons_succ, List.getElem?_cons_zero, Option.getD_some]
            refine wpMix_c (fun K hK => ?_) hs6
            go_simp
            refine hK _ _ ?_
            clear hK K
            refine mix_world (fun W => Below w4.heap.size w4 W ∧ BsS W (· < W.heap.size) (some ⟨w6.heap.size, 0, none⟩) [b.take (p + k)]) ⟨hs6.alloc hs6.size _, hbld _ hs6⟩ (fun _ h => h.1) ?_
            rintro w7 ⟨hs7, hbs⟩
            refine wpMix_nil ?_
            intro _
            show wpAnyH _ _ _ _ _ _ #[true, true, true, true, true, true, true, true, true, true, true, true, true, true, true, true, true, true, true, true, true, true, true, true, true, false, true, true, true, true, true, true, true, true, false, false, false] _ _
            refine wpAnyH_pre (f := 0) (by kernel_rfl) #[true, true, true, true, true, true, true, true, true, true, true, true, true, true, true, true, true, true, true, true, true, true, true, true, true, true, true, true, true, true, true, true, true, true, true, true, true] [(25, false), (34, false), (35, true), (36, true)] _ _ _ (by kernel_rfl) hs7 ?_
            simp only [List.map_cons, List.map_nil, Array.getD_eq_getD_getElem?, List.getElem?_toArray, List.getElem?_cons_succ, List.getElem?_cons_zero, Option.getD_some]
            refine wpMix_c (fun K hK => ?_) hs7
            go_simp
            refine (sum_any g _ _ (hshg.below hs7 hshg.lt) hul).mono ?_
            rintro e w8 ⟨rfl, hq⟩
            rw [Hsu.out]
            refine hK _ _ ?_
            clear hK K
            have hs8 := hs7.trans (hq.mono hs7.size)
            have hbs := (hbs.below hq (fun b hb _ => hb)).weak (Y := (· < w8.heap.size)) (fun b _ hx => Nat.lt_of_lt_of_le hx hq.size)
            clear hq
            refine ⟨hs8, ?_⟩
            refine wpMix_c (fun K hK => ?_) hs8
            go_simp
            refine (shasum_any [b.take (p + k)] _ 1 1 w8 rfl hbs (by decide) Hf60.out).mono ?_
            rintro e wl ⟨rfl, hq⟩
            rw [Hfl.out]
            refine hK _ _ ?_
            clear hK K
            have hsl := hs8.trans (hq.mono hs8.size)
            refine ⟨hsl, ?_⟩
            refine wpMix_v (by kernel_rfl) (.bool false) (fun s => hNeq (.tmp 94) (.tmp 103) 26 rfl rfl rfl s.W) ?_
            simp only [Act.put]
            refine wpMix_s (fun K hK => ?_)
            go_simp
            refine hK _ ?_
            clear hK K
            refine wpMix_nil ?_
            intro _
            refine wpAnyH_end (by kernel_rfl) ?_
            go_wp2_with fail
            go_meet
            exact ⟨rfl, hsl⟩
        case rest =>
          obtain ⟨rfl, hwc⟩ := hcut
          have hC5 := hC4.step hwc
          clear hneL slq sl1 sl2 hwrap
          rw [HA3.out] at hC5
          by_cases hev : j % 2 = 0
          · have hev1 : ((j : Int) % 2 == 0) = true := by rw [beq_iff_eq]; omega
            clear hev
            go_wp2_with fail
            refine ⟨⟨j + 1, w3.heap.size, A3, n' - k, c' - k, p + k, v8', _, _, by omega, by omega, ?_, by go_num, rfl, rfl, rfl, hC5.swap (by rw [Hu.out]; exact hsh4.below hwc hsh4.lt) hC3.bel.size⟩, by simp [intOf]; omega⟩
            rw [List.length_append, Hlj.out]; rfl
          · have hev1 : ((j : Int) % 2 == 0) = false := by rw [beq_eq_false_iff_ne]; omega
            clear hev
            go_wp2_with fail
            refine ⟨⟨j + 1, g, A3, n' - k, c' - k, p + k, v8', _, _, by omega, by omega, ?_, by go_num, rfl, rfl, rfl, hC5⟩, by simp [intOf]; omega⟩
            rw [List.length_append, Hlj.out]; rfl
      · have hd : decide (j < n2 ∧ j < 50) = false := by simpa using hgo
        rw [hd]
        clear hd hgo
        obtain ⟨v8', w1, hr8, hC1⟩ := hC.app n' (Nat.le_refl _) (by have := Hlj.out; omega)
        have hp_ := hC.p_
        have hpie : (b.drop p).take n' = b.drop p := List.take_of_length_le (by rw [hC.rest.len]; omega)
        have hpl : (b.drop p).length = n' := hC.rest.len
        have hpn : b.take (p + n') = b := List.take_of_length_le (by omega)
        have hwr : ∀ W, CtC w b hs g5 g A' n' c' p p (p + n') v8' (vs ++ [.slice A' n' c']) (ls ++ [(b.drop p).take n']) W → Calls Try.prog 23 #[.pointer (some ⟨g, 0, none⟩), .slice A' n' c'] W fun e w' => e = .returned (.int .i64 0) ∧ CtC w b hs g5 g A' n' c' (p + n') p (p + n') v8' (vs ++ [.slice A' n' c']) (ls ++ [(b.drop p).take n']) w' := fun W hW => by
          have := write_any g (Und.new.take (b.take p)) ((b.drop p).take n') A' c' W hW.sh (by rw [hpie]; exact hW.rest.bs.weak fun x hx hxx => by have := hW.g_; have : x < w.heap.size := hxx; omega) (by rw [hpie]; omega) (by rw [hpie]; omega) (by rw [hpie, Und.take_len, show Und.new.len = 0 from rfl, List.length_take]; have := Hlen.out; omega)
          rw [hpie, hpl] at this
          refine this.mono fun e w' ⟨h1, h2, h3⟩ => ⟨h1, ?_⟩
          exact hW.write n' (by rw [hpie]; exact h2) h3
        obtain ⟨ls', hls'⟩ : ∃ ls', ls ++ [(b.drop p).take n'] = ls' := ⟨_, rfl⟩
        obtain ⟨vs', hvs'⟩ : ∃ vs', vs ++ [Value.slice A' n' c'] = vs' := ⟨_, rfl⟩
        rw [hls', hvs'] at hC1 hwr
        have hfl' : sha256 ls'.flatten = hs := by rw [hC1.flat, hpn, Hhs.out]
        have hll' : ls'.flatten.length ≤ 1152921504606846976 := by rw [hC1.flat, hpn, Hlen.out]; omega
        have hlsl : ls'.length = j + 1 := by rw [← hls', List.length_append, Hlj.out]; rfl
        obtain ⟨A8, c8, rfl, hs8⟩ := owns_slv hC1.own
        have hus : (Und.new.take (b.take (p + n'))).sum = hs := by rw [hpn]; exact Hhs.out
        have hulen : (Und.new.take (b.take (p + n'))).len = n := by rw [hpn, Und.take_len, show Und.new.len = 0 from rfl, Hlen.out]; omega
        obtain ⟨u, hu⟩ : ∃ u, Und.new.take (b.take (p + n')) = u := ⟨_, rfl⟩
        rw [hu] at hus hulen
        have hEq : ∀ {ρ : Operand → Value} {o : Oper} (x y : Operand) (ty : TypeId) (_ : o.op = .binOp .eql 26 x y ty) (_ : ρ x = .agg (hs.map B).toArray) (_ : ρ y = .agg (hs.map B).toArray) (W : World), (execOp ρ o).run Try.prog W = .ok (.value (.bool true)) W := fun x y ty ho hx hy W => by
          have := run_eql26 x y ty hs hs ho hx hy Hhl.out Hhl.out W
          rwa [BEq.rfl] at this
        have hul : u.len ≤ 1152921504606846976 := by rw [hulen]; omega
        have hlen2 : ((u.len : Int) == (n : Int)) = true := by rw [hulen, beq_iff_eq]
        have hbss : ∀ W, CtC w b hs g5 g A' n' c' (p + n') p (p + n') (.slice A8 ls'.length c8) vs' ls' W → BsS W (· < W.heap.size) A8 ls' := fun W hW => by
          obtain ⟨A9, c9, hA9, hs9⟩ := owns_slv hW.own
          cases hA9
          refine ⟨vs', hs9.bs.weak fun b hb _ => hb, by have := hW.own.1; omega, fun i hi => ?_⟩
          obtain ⟨Ai, ci, h1, h2⟩ := hW.pcs i hi
          exact ⟨Ai, ci, h1, h2.room, h2.bs.weak fun b hb _ => hb⟩
        rw [hlsl] at hwr hbss hr8 hC1
        have Hr8 := Lib.hid hr8
        have Hwr := Lib.hid hwr
        have Hbss := Lib.hid hbss
        have Hu := Lib.hid hu
        have Hus := Lib.hid hus
        have Hulen := Lib.hid hulen
        have Hfl' := Lib.hid hfl'
        have Hlsl := Lib.hid hlsl
        clear hpie hpl hpn hls' hvs' hr8 hwr hbss hu hus hulen hfl' hlsl hs8 hC
        go_upto_region 24 with ((with_reducible show wpList _ _ _ (⟨some 113, .call _, _, _, _, _⟩ :: _) _ _); refine wpList_run rfl _ w1 (run_append_op (.tmp 110) (.tmp 112) 22 rfl _ _ rfl rfl Hr8.out) ?_; simp only [Act.put])
        refine wp_region_mix (fun W => Blk W g5 26 (hs.map B).toArray) [(0, true), (1, true), (2, false), (3, true), (4, true), (5, true), (7, true), (6, false), (8, true), (9, true), (10, true), (11, true), (13, true), (12, false), (14, true), (15, true), (16, true), (17, true), (19, true), (20, true), (18, false), (21, true), (22, true), (23, true), (24, false), (25, true), (26, true)] (by kernel_rfl) (by kernel_rfl) hC1.whole.drew fun _ => ?_
        simp only [List.map_cons, List.map_nil, Array.getD_eq_getD_getElem?, List.getElem?_toArray, List.getElem?_cons_succ, List.getElem?_cons_zero, Option.getD_some]
        have hC2 := hC1.step (Below.refl w1.heap.size w1).drew
        iterate 2 (refine wpMix_s (fun K hK => ?_); go_simp; refine hK _ ?_; clear hK K)
        refine wpMix_c (fun K hK => ?_) hC2.whole
        go_simp
        refine (Hwr.out _ hC2).mono ?_
        rintro e w2 ⟨rfl, hC3⟩
        refine hK _ _ ?_
        clear hK K
        refine ⟨hC3.whole, ?_⟩
        iterate 3 (refine wpMix_s (fun K hK => ?_); go_simp; refine hK _ ?_; clear hK K)
        refine wpMix_load (by kernel_rfl) 26 (.tmp 5) rfl g5 0 rfl (hs.map B).toArray (fun s => run_load_blk (agg26 _) (size26 _) _ _ (by simp [Hhl.out]) s.ok) ?_
        simp only [Act.put]
        have hsh3 : Sh w2 g u := by have := hC3.sh; rw [Hu.out] at this; exact this
        refine wpMix_c (fun K hK => ?_) hC3.whole
        go_simp
        refine (sum_any g u _ hsh3 hul).mono ?_
        rintro e w3 ⟨rfl, hb3⟩
        rw [Hus.out]
        refine hK _ _ ?_
        clear hK K
        have hC4 := hC3.step hb3
        refine ⟨hC4.whole, ?_⟩
        refine wpMix_v (by kernel_rfl) (.bool true) (fun s => hEq (.tmp 120) (.tmp 121) 26 rfl rfl rfl s.W) ?_
        simp only [Act.put]
        iterate 3 (refine wpMix_s (fun K hK => ?_); go_simp; refine hK _ ?_; clear hK K)
        refine wpMix_load (by kernel_rfl) 26 (.tmp 5) rfl g5 0 rfl (hs.map B).toArray (fun s => run_load_blk (agg26 _) (size26 _) _ _ (by simp [Hhl.out]) s.ok) ?_
        simp only [Act.put]
        refine wpMix_c (fun K hK => ?_) hC4.whole
        go_simp
        refine (shasum_any ls' A8 (j + 1) c8 w3 Hlsl.out.symm (Hbss.out _ hC4) (by omega) hll').mono ?_
        rintro e w4 ⟨rfl, hb4⟩
        rw [Hfl'.out]
        refine hK _ _ ?_
        clear hK K
        have hC5 := hC4.step hb4
        refine ⟨hC5.whole, ?_⟩
        refine wpMix_v (by kernel_rfl) (.bool true) (fun s => hEq (.tmp 126) (.tmp 127) 26 rfl rfl rfl s.W) ?_
        simp only [Act.put]
        iterate 5 (refine wpMix_s (fun K hK => ?_); go_simp; refine hK _ ?_; clear hK K)
        have hsh5 : Sh w4 g u := by have := hC5.sh; rw [Hu.out] at this; exact this
        refine wpMix_c (fun K hK => ?_) hC5.whole
        go_simp
        refine (len_any hsh5.choose_spec).mono ?_
        rintro e wz ⟨rfl, rfl⟩
        refine hK _ _ ?_
        clear hK K
        refine ⟨hC5.whole, ?_⟩
        iterate 3 (refine wpMix_s (fun K hK => ?_); go_simp; refine hK _ ?_; clear hK K)
        refine wpMix_c (fun K hK => ?_) hC5.whole
        go_simp
        refine (known_any _).mono ?_
        rintro e w6 ⟨rfl, hb6⟩
        refine hK _ _ ?_
        clear hK K
        have hC6 := hC5.step hb6
        refine ⟨hC6.whole, ?_⟩
        iterate 2 (refine wpMix_s (fun K hK => ?_); go_simp; refine hK _ ?_; clear hK K)
        refine wpMix_nil ?_
        intro _
        go_wp2_with fail
        go_ret
        exact ⟨rfl, hC6.bel⟩
end Go.Proofs.Ytdkgndjomkbbjaa
