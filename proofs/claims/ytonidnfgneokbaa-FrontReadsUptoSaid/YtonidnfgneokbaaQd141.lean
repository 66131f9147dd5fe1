/- notaryref10: fronts in memory; Sizes. -/
import Derived.Test.YtonidnfgneokbaaQd140
namespace Go.Proofs.Ytonidnfgneokbaa
open Go Go.RowKit Go.Shelf
attribute [local go_sem] Oper.semAt_some

/-- the document's parts: how many, and the hash -/
def fpq (ps : FrV) : List PcV := ps.map fun p => (((2 ^ p.1 : Nat) : Int), p.2)
theorem fpq_append (a b : FrV) : fpq (a ++ b) = fpq a ++ fpq b := by simp [fpq]
theorem length_fpq (ps : FrV) : (fpq ps).length = ps.length := by simp [fpq]
theorem fpq_32 (ps : FrV) (h : F32 ps) : Pc32 (fpq ps) := fun p hp => by
  obtain ⟨q, hq, rfl⟩ := List.mem_map.1 hp
  exact h q hq
theorem fpq_getD (ps : FrV) (i : Nat) (h : i < ps.length) : (fpq ps).getD i pcD = (((2 ^ (ps.getD i (0, [])).1 : Nat) : Int), (ps.getD i (0, [])).2) := by
  unfold fpq
  rw [List.getD_eq_getElem?_getD, List.getElem?_map, List.getD_eq_getElem?_getD, List.getElem?_eq_getElem h]
  rfl
theorem aggPq : ∀ w : World, (isAgg 93).run Try.prog w = .ok true w := fun _ => by kernel_rfl
theorem sizePq : ∀ w : World, (sizeOf 93).run Try.prog w = .ok 33 w := fun _ => by kernel_rfl
theorem infoPq : (Try.prog.info? 93).map (fun i => (i.zero, i.size, i.bytes)) = some (some (.agg (.int .i64 0 :: (List.replicate 32 (0 : UInt8)).map B).toArray), 33, 40) := by kernel_rfl
/-- a front of the document's in memory -/
structure FrP (W : World) (g : Nat) (ps : FrV) : Prop where
  ex : ∃ A n c, Blk W g 91 #[.slice A n c] ∧ Pcs W (fun _ => True) A n c (fpq ps)
theorem FrP.step {W W' : World} {g : Nat} {ps : FrV} (h : FrP W g ps) (hb : Below W.heap.size W W') : FrP W' g ps := let ⟨A, n, c, h1, h2⟩ := h.ex; ⟨A, n, c, h1.step hb, h2.step hb⟩
theorem FrP.lt {W : World} {g : Nat} {ps : FrV} (h : FrP W g ps) : g < W.heap.size := let ⟨_, _, _, h1, _⟩ := h.ex; h1.lt
theorem FrP.all {W : World} {g : Nat} {ps : FrV} (h : FrP W g ps) : F32 ps := fun p hp => by
  obtain ⟨A, n, c, h1, h2⟩ := h.ex
  exact h2.all _ (List.mem_map.2 ⟨p, hp, rfl⟩)
theorem FrP.grown {W W' : World} {g g' : Nat} {ps : FrV} {T : TypeId} {cs : Array Value} (h : FrP W g ps) (hg : W.grownBy W' (some g')) (k : Blk W g' T cs) (hk : cs.size < 33) (hne : g ≠ g') : FrP W' g ps := by
  obtain ⟨A, n, c, h1, h2⟩ := h.ex
  exact ⟨A, n, c, h1.grown hg (fun e => hne (Option.some.inj e)), ((h2.apart k hk).grown hg (fun b _ hb e => hb.2 (Option.some.inj e))).weak fun _ _ _ => trivial⟩
/-- one that lies behind lo, its parts too -/
structure FrPF (W : World) (lo g : Nat) (ps : FrV) : Prop where
  ex : ∃ A n c, Blk W g 91 #[.slice A n c] ∧ Pcs W (fun b => lo ≤ b) A n c (fpq ps)
theorem FrPF.frp {W : World} {lo g : Nat} {ps : FrV} (h : FrPF W lo g ps) : FrP W g ps := let ⟨A, n, c, h1, h2⟩ := h.ex; ⟨A, n, c, h1, h2.weak fun _ _ _ => trivial⟩
theorem FrPF.step {W W' : World} {lo g : Nat} {ps : FrV} (h : FrPF W lo g ps) (hb : Below W.heap.size W W') : FrPF W' lo g ps := let ⟨A, n, c, h1, h2⟩ := h.ex; ⟨A, n, c, h1.step hb, h2.step hb⟩
theorem FrPF.le {W : World} {lo lo' g : Nat} {ps : FrV} (h : FrPF W lo g ps) (hl : lo' ≤ lo) : FrPF W lo' g ps := let ⟨A, n, c, h1, h2⟩ := h.ex; ⟨A, n, c, h1, h2.weak fun _ _ hx => Nat.le_trans hl hx⟩
theorem FrPF.grown {W W' : World} {lo g r : Nat} {ps : FrV} (h : FrPF W lo g ps) (hg : W.grownBy W' (some r)) (hr : r < lo) (hgr : g ≠ r) : FrPF W' lo g ps := let ⟨A, n, c, h1, h2⟩ := h.ex; ⟨A, n, c, h1.grown hg (fun e => hgr (Option.some.inj e)), h2.grown hg (fun b _ hx e => by have e := Option.some.inj e; have hx : lo ≤ b := hx; omega)⟩
def FrPOpt (W : World) (lo : Nat) (v : Value) (o : Option FrV) : Prop := (o = none ∧ v = .pointer none) ∨ ∃ g ps, o = some ps ∧ v = fptr g ∧ lo ≤ g ∧ FrPF W lo g ps
theorem FrPOpt.step {W W' : World} {lo : Nat} {v : Value} {o : Option FrV} (h : FrPOpt W lo v o) (hb : Below W.heap.size W W') : FrPOpt W' lo v o := by
  rcases h with h | ⟨g, ps, h1, h2, h3, h4⟩
  · exact .inl h
  · exact .inr ⟨g, ps, h1, h2, h3, h4.step hb⟩

/-- powers of two, as they lie -/
def powC (ls : List Nat) : List Value := ls.map fun l => Value.int .i64 ((2 ^ l : Nat) : Int)
theorem length_powC (ls : List Nat) : (powC ls).length = ls.length := by simp [powC]
theorem infoI64 : (Try.prog.info? 2).map (fun i => (i.zero, i.size, i.bytes)) = some (some (.int .i64 0), 1, 8) := by kernel_rfl
theorem append_pow {w : World} {base : Nat} {v : Value} {n : Nat} {xs : List Value} (h : w.ownsRow base 2 1 v n xs) (x : Value) (hx : x.oneCell' = true) (hn : n ≤ 1000000) (hb : base ≤ w.heap.size) :
    ∃ v' w', (Builtin.append_ #[168, 168] 168 #[v, .slice (some ⟨w.heap.size, 0, none⟩) 1 1]).run Try.prog (w.alloc (.cells #[x] 2)) = .ok v' w' ∧ w'.ownsRow base 2 1 v' (n + 1) (xs ++ [x]) ∧ Below base w w' := by
  have hbA : Below w.heap.size w (w.alloc (.cells #[x] 2)) := (Below.refl _ _).alloc (Nat.le_refl _) _
  have hs : SlV (w.alloc (.cells [x].toArray 2)) (fun _ => True) (some ⟨w.heap.size, 0, none⟩) 1 1 1 [x] := SlV.lit w _ 2 [x] rfl (by unfold maxLen; decide) trivial
  obtain ⟨v', w', hr, ho, hg, -⟩ := append_slv (ty := 168) Try.underlying168 infoI64 (by simp [Value.cells]) (by decide) (owns_step h hbA) hs (fun u hu => by rw [List.mem_singleton.1 hu]; exact hx) (by unfold maxLen; omega) (by omega) (Nat.le_trans hb hbA.size)
  exact ⟨v', w', hr, ho, (hbA.mono hb).grown hg (Nat.le_trans hb hbA.size) (fun r e => (h.lt r e).1)⟩
theorem mod_bit (n l : Nat) : n % 2 ^ (l + 1) = n % 2 ^ l + (if n.testBit l = true then 2 ^ l else 0) := by
  rw [Nat.mod_pow_succ, Nat.testBit_eq_decide_div_mod_eq]
  rcases Nat.mod_two_eq_zero_or_one (n / 2 ^ l) with h1 | h1 <;> rw [h1] <;> simp

set_option maxHeartbeats 4000000 in
set_option maxRecDepth 100000 in
theorem rsizes_any (n : Nat) (w : World) (hn : n ≤ 9223372036854775807) :
    Calls Try.prog 128 #[.int .i64 (n : Int)] w fun e w' => ∃ v, e = .returned v ∧ w'.ownsRow w.heap.size 2 1 v (levelsF n 63).length (powC (levelsF n 63)) ∧ Below w.heap.size w w' := by
  obtain ⟨ls, hls⟩ : ∃ ls, levelsF n 63 = ls := ⟨_, rfl⟩
  have hmod : n % 2 ^ 63 = n := Nat.mod_eq_of_lt (by omega)
  have hlen : ls.length ≤ 63 := by
    rw [← hls]
    have : ∀ k, (levelsF n k).length ≤ k := by
      intro k
      induction k with
      | zero => exact Nat.le_refl _
      | succ k ih =>
        unfold levelsF
        split
        · rw [List.length_cons]; omega
        · omega
    exact this 63
  rw [hls]
  have Hls := Lib.hid hls
  have Hmod := Lib.hid hmod
  clear hls hmod
  go_enter Try.func128, Try.ntmps128
  go_wp2_with fail
  go_loopw [0, 3, 4, 5] (fun v0 v3 v4 _ wr => ∃ (j : Nat) (cur : List Nat), j ≤ 63 ∧ v4 = .int .i64 ((j : Int) - 1) ∧ v0 = .int .i64 ((n % 2 ^ j : Nat) : Int) ∧ cur ++ levelsF n j = ls ∧ wr.ownsRow w.heap.size 2 1 v3 cur.length (powC cur) ∧ Below w.heap.size w wr) (fun _ _ v4 _ _ => (intOf v4 + 1).toNat)
  case atStart => exact ⟨63, [], Nat.le_refl _, rfl, by rw [Hmod.out], Hls.out, World.ownsRow_nil _ _ _ _, Below.refl _ _⟩
  case round =>
    obtain ⟨j, cur, hj, rfl, rfl, hc, ho, hB⟩ := hrel
    rcases Nat.eq_zero_or_pos j with rfl | hjp
    · obtain rfl : cur = ls := by rw [← hc, show levelsF n 0 = [] from rfl, List.append_nil]
      have h0 : ((n % 2 ^ 0 : Nat) : Int) = 0 := by simp [Nat.mod_one]
      rw [h0]
      go_wp2_with fail
      go_ret
      exact ⟨_, rfl, ho, hB⟩
    · obtain ⟨l, rfl⟩ : ∃ l, j = l + 1 := ⟨j - 1, by omega⟩
      have hll : ((l + 1 : Nat) : Int) - 1 = (l : Int) := by omega
      rw [hll]
      have hwl : IntKind.i64.wrap ((l : Int) - 1) = (l : Int) - 1 := IntWalk.i64_in _ (by omega)
      have hge : decide ((0 : Int) ≤ (l : Int)) = true := by simp
      have hl62 : l ≤ 62 := by omega
      have hmb := mod_bit n l
      have hlt := Nat.mod_lt n (Nat.two_pow_pos l)
      have hp62 : 2 ^ l ≤ 2 ^ 62 := Nat.pow_le_pow_right (by decide) hl62
      have hpl : powC (cur ++ [l]) = powC cur ++ [Value.int .i64 ((2 ^ l : Nat) : Int)] := by simp [powC]
      have hpw : ((2 : Int) ^ l) = ((2 ^ l : Nat) : Int) := by simp
      have hwp := pow_i64 l hl62
      obtain ⟨a, ha⟩ : ∃ a, n % 2 ^ (l + 1) = a := ⟨_, rfl⟩
      obtain ⟨b, hb⟩ : ∃ b, n % 2 ^ l = b := ⟨_, rfl⟩
      have hlev : cur ++ levelsF n (l + 1) = ls := hc
      have hcl : cur.length ≤ 63 := by
        have := congrArg List.length hc
        rw [List.length_append] at this
        omega
      rw [ha, hb] at hmb
      rw [ha]
      rw [hb] at hlt
      by_cases ht : n.testBit l = true
      · rw [if_pos ht] at hmb
        have e : levelsF n (l + 1) = l :: levelsF n l := by conv => lhs; unfold levelsF
                                                            rw [if_pos ht]
        rw [e] at hc
        obtain ⟨v9, w9, hr9, ho9, hb9⟩ := append_pow ho (Value.int .i64 ((2 ^ l : Nat) : Int)) rfl (by omega) hB.size
        rw [← hpl] at ho9
        obtain ⟨pw, hpw2⟩ : ∃ p, 2 ^ l = p := ⟨_, rfl⟩
        rw [hpw2] at hmb hlt hp62 hpw hr9
        have hcmp : decide ((pw : Int) ≤ (a : Int)) = true := by simp; omega
        have hcmp' : (pw : Int) ≤ (a : Int) := by omega
        have hws : IntKind.i64.wrap ((a : Int) - (pw : Int)) = (b : Int) := by rw [IntWalk.i64_in _ (by omega)]; omega
        have Hr9 := Lib.hid hr9
        have Hb := Lib.hid hb
        have Hc := Lib.hid hc
        have Ho9 := Lib.hid ho9
        clear hr9 hb hc ho9 ha hmb hpl hlev e
        go_wp2_with ((with_reducible show wpList _ _ _ (⟨some 19, .call _, _, _, _, _⟩ :: _) _ _); refine wpList_run rfl v9 w9 (run_append_op (.tmp 16) (.tmp 18) 168 rfl _ _ rfl rfl Hr9.out) ?_; simp only [Act.put])
        go_roundw
        case rel => exact ⟨l, cur ++ [l], by omega, rfl, by rw [Hb.out], by rw [List.append_assoc]; exact Hc.out, by rw [List.length_append]; exact Ho9.out, hB.trans hb9⟩
        case measure => simp [intOf] <;> omega
      · rw [if_neg ht] at hmb
        have e : levelsF n (l + 1) = levelsF n l := by conv => lhs; unfold levelsF
                                                       rw [if_neg ht]
        rw [e] at hc
        obtain ⟨pw, hpw2⟩ : ∃ p, 2 ^ l = p := ⟨_, rfl⟩
        rw [hpw2] at hlt hp62 hpw
        have hcmp : decide ((pw : Int) ≤ (a : Int)) = false := by simp; omega
        have hcmp' : ¬ (pw : Int) ≤ (a : Int) := by omega
        have hab : a = b := by omega
        have Hb := Lib.hid hb
        have Hc := Lib.hid hc
        clear hb hc ha hmb hpl hlev e
        go_wp2_with fail
        go_roundw
        case rel => exact ⟨l, cur, by omega, rfl, by rw [Hb.out, hab], Hc.out, ho, hB⟩
        case measure => simp [intOf] <;> omega
end Go.Proofs.Ytonidnfgneokbaa
