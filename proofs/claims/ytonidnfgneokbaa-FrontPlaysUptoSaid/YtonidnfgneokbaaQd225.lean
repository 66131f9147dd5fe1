/- front.Read. -/
import Derived.Test.YtonidnfgneokbaaQd224
import Derived.Test.YtonidnfgneokbaaQd220
import Derived.Test.YtonidnfgneokbaaQd221
namespace Go.Proofs.Ytonidnfgneokbaa
open Go Go.RowKit Go.Shelf
attribute [local go_sem] Oper.semAt_some

def chunkF (b : List UInt8) (k : Nat) : List UInt8 := (b.drop (32 * k)).take 32
def chunksF (b : List UInt8) (m : Nat) : List (List UInt8) := (List.range m).map (chunkF b)
theorem chunksF_succ (b : List UInt8) (k : Nat) : chunksF b (k + 1) = chunksF b k ++ [chunkF b k] := by simp [chunksF, List.range_succ]
theorem length_chunksF (b : List UInt8) (m : Nat) : (chunksF b m).length = m := by simp [chunksF]
theorem length_chunkF (b : List UInt8) (k : Nat) (h : 32 * k + 32 ≤ b.length) : (chunkF b k).length = 32 := by unfold chunkF; rw [List.length_take, List.length_drop]; omega
theorem chunksF_all (b : List UInt8) (m : Nat) (h : 32 * m ≤ b.length) : H32 (chunksF b m) := by
  intro x hx
  obtain ⟨k, hk, rfl⟩ := List.mem_map.1 hx
  have := List.mem_range.1 hk
  exact length_chunkF b k (by omega)
/-- a front's bytes, read -/
def readF (b : List UInt8) : Option FrV × Int :=
  if b.length < 8 then (none, 200) else if (b.length - 8) % 32 ≠ 0 then (none, 200) else
    match (fromE (sgnN (numN (b.take 8))) (chunksF (b.drop 8) ((b.length - 8) / 32))).1 with
    | some ps => (some ps, 0)
    | none => (none, 200)
theorem sgnN_le (x : Nat) : sgnN x ≤ 9223372036854775807 := by unfold sgnN; rw [IntKind.wrap_i64]; omega
theorem fromE_two (size : Int) (hs : List (List UInt8)) : (∃ ps, fromE size hs = (some ps, 0)) ∨ fromE size hs = (none, 2) := by
  unfold fromE
  split
  · exact .inr rfl
  split
  · exact .inr rfl
  · exact .inl ⟨_, rfl⟩
section
variable (X : Nat → Prop) (g : Nat) (l : List UInt8) (p : Nat) (w : World) (h : RdO w X g l p) (hX : ∀ b, X b → b < w.heap.size)
include h hX
theorem rdsigned_fit (hf : p + 8 ≤ l.length) : Calls Try.prog 110 #[.pointer (some ⟨g, 0, none⟩)] w fun e w' => e = .returned (.tuple #[.int .i64 (sgnN (numN ((l.drop p).take 8))), .int .i64 0]) ∧ RdO w' X g l (p + 8) ∧ w.grownBy w' (some g) :=
  (rdsigned_any X g l p w h hX).mono fun e w' hq => by
    rcases hq with ⟨⟨_, h1, h2⟩ | ⟨h1, _⟩, h4⟩
    · exact ⟨h1, h2, h4⟩
    · exact absurd hf h1
theorem rdsigned_bad (hf : ¬ p + 8 ≤ l.length) : Calls Try.prog 110 #[.pointer (some ⟨g, 0, none⟩)] w fun e w' => e = .returned (.tuple #[.int .i64 0, .int .i64 110]) ∧ RdO w' X g l p ∧ w.grownBy w' (some g) :=
  (rdsigned_any X g l p w h hX).mono fun e w' hq => by
    rcases hq with ⟨⟨h1, _⟩ | ⟨_, h1, h2⟩, h4⟩
    · exact absurd h1 hf
    · exact ⟨h1, h2, h4⟩
theorem rdhash_fit (hf : p + 32 ≤ l.length) : Calls Try.prog 112 #[.pointer (some ⟨g, 0, none⟩)] w fun e w' => e = .returned (.tuple #[.agg (((l.drop p).take 32).map B).toArray, .int .i64 0]) ∧ RdO w' X g l (p + 32) ∧ w.grownBy w' (some g) :=
  (rdhash_any X g l p w h hX).mono fun e w' hq => by
    rcases hq with ⟨⟨_, h1, h2⟩ | ⟨h1, _⟩, h4⟩
    · exact ⟨h1, h2, h4⟩
    · exact absurd hf h1
theorem rdhash_bad (hf : ¬ p + 32 ≤ l.length) : Calls Try.prog 112 #[.pointer (some ⟨g, 0, none⟩)] w fun e w' => e = .returned (.tuple #[.agg ((List.replicate 32 (0 : UInt8)).map B).toArray, .int .i64 110]) ∧ RdO w' X g l p ∧ w.grownBy w' (some g) :=
  (rdhash_any X g l p w h hX).mono fun e w' hq => by
    rcases hq with ⟨⟨h1, _⟩ | ⟨_, h1, h2⟩, h4⟩
    · exact absurd h1 hf
    · exact ⟨h1, h2, h4⟩
end

theorem owns_keptF {w w' : World} {base n s g : Nat} {e : TypeId} {v : Value} {xs : List Value} (h : w.ownsRow base e s v n xs) (hg : w.grownBy w' (some g)) (hlt : g < base) : w'.ownsRow base e s v n xs :=
  h.kept hg (by
    rcases h.2 with ⟨rfl, _⟩ | ⟨g', cap, cur, rfl, hl, _⟩
    · exact .inl rfl
    · refine .inr fun e => ?_
      have e : g' = g := Option.some.inj e
      omega)
theorem RdO.far {W W' : World} {lo g p N : Nat} {l : List UInt8} (h : RdO W (fun b => lo ≤ b ∧ b < g) g l p) (hb : Below N W W') (hN : g < N) : RdO W' (fun b => lo ≤ b ∧ b < g) g l p :=
  ⟨let ⟨A, n, c, h1, h2⟩ := h.ex; ⟨A, n, c, h1.below hb hN, h2.below hb fun _b _ hx => Nat.lt_trans hx.2 hN⟩, h.off, h.le⟩
/-- between two rounds of Read -/
structure RfI (w : World) (lo g b7 : Nat) (b : List UInt8) (k : Nat) (v : Value) (W : World) : Prop where
  rd : RdO W (fun b => lo ≤ b ∧ b < g) g b (8 + 32 * k)
  own : W.ownsRow b7 25 32 v k (hcells (chunksF (b.drop 8) k))
  bel : Below w.heap.size w W
  le : b7 ≤ W.heap.size

set_option maxHeartbeats 4000000 in
set_option maxRecDepth 100000 in
theorem fread_any (b : List UInt8) (A : Option Addr) (n c : Nat) (w : World) (h : Sl w (fun _ => True) A n c b) (hn : n ≤ 1000000000) :
    Calls Try.prog 47 #[.slice A n c] w fun e w' => ∃ v, e = .returned (.tuple #[v, .int .i64 (readF b).2]) ∧ FrOpt w' w.heap.size v (readF b).1 ∧ Below w.heap.size w w' := by
  have hlen := h.len
  have hnr := rdnew_any b A n c w h (by omega)
  obtain ⟨res, hres⟩ : ∃ r, readF b = r := ⟨_, rfl⟩
  rw [hres]
  unfold readF at hres
  have Hnr := Lib.hid hnr
  have Hres := Lib.hid hres
  have Hlen := Lib.hid hlen
  clear hnr hres h hlen
  have hlit : ∀ b : World, (b.alloc (.cells #[] 25)).ownsRow b.heap.size 25 32 (.slice (some ⟨b.heap.size, 0, none⟩) 0 0) 0 [] := fun b => World.ownsRow_lit (base := b.heap.size) (e := 25) (size := 32) b #[] 0 (Nat.le_refl _) (by unfold maxLen; decide) (by simp)
  have Hlit := Lib.hid hlit
  clear hlit
  by_cases h8 : 8 ≤ b.length
  · have hr1 := Hres.out
    rw [if_neg (by omega)] at hr1
    have Hr1 := Lib.hid hr1
    have hle := sgnN_le (numN (b.take 8))
    have Hsg := Lib.hid fun X g W h hX => rdsigned_fit X g b 0 W h hX (by omega)
    rw [List.drop_zero, Nat.zero_add] at Hsg
    obtain ⟨sg, hsg⟩ : ∃ s, sgnN (numN (b.take 8)) = s := ⟨_, rfl⟩
    rw [hsg] at Hsg hle
    have Hsgn := Lib.hid hsg
    have H8 := Lib.hid h8
    clear hr1 Hres hsg h8
    go_enter Try.func47, Try.ntmps47
    go_wp2_with (first
      | (go_at_call 109; refine Hnr.out.mono ?_; rintro e w1 ⟨g, rfl, hg, hR1, hb1⟩; have hg1 := hR1.lt)
      | (go_at_call 110; refine (Hsg.out _ g w1 hR1 (fun b hb => by have := hb.2; omega)).mono ?_; rintro e w2 ⟨rfl, hR2, hg2⟩)
      | ((with_reducible show wpList _ _ _ (⟨some 20, .buildSlice _ _ _, _, _, _, _⟩ :: _) _ _); refine wpList_run rfl (.slice (some ⟨w2.heap.size, 0, none⟩) 0 0) (w2.alloc (.cells #[] 25)) (by kernel_rfl) ?_; have hb3 : Below w2.heap.size w2 (w2.alloc (.cells #[] 25)) := (Below.refl _ _).alloc (Nat.le_refl _) _; have ho3 := Hlit.out w2; generalize w2.alloc (.cells #[] 25) = w3 at hb3 ho3 ⊢; simp only [Act.put]))
    have hbel2 : Below w.heap.size w w2 := hb1.grown hg2 hb1.size (fun r e => by have e : g = r := Option.some.inj e; omega)
    have hI : RfI w w.heap.size g w2.heap.size b 0 (.slice (some ⟨w2.heap.size, 0, none⟩) 0 0) w3 := ⟨hR2.step hb3, ho3, hbel2.trans (hb3.mono hbel2.size), hb3.size⟩
    have hgb : g < w2.heap.size := Nat.lt_of_lt_of_le hg1 hg2.size
    obtain ⟨b7, hb7⟩ : ∃ x, w2.heap.size = x := ⟨_, rfl⟩
    rw [hb7] at hI hgb ⊢
    clear hbel2 hb7 ho3 hb3 hR2 hg2 hR1 hb1 hg1 Hnr Hsg Hlit
    go_loopw [7, 8, 9] (fun v7 _ _ wr => ∃ k : Nat, 8 + 32 * k ≤ b.length ∧ RfI w w.heap.size g b7 b k v7 wr) (fun v7 _ _ _ => b.length - sliceLen v7)
    case atStart => exact ⟨0, H8.out, hI⟩
    case round =>
      clear hI
      obtain ⟨k, hk8, hI⟩ := hrel
      have Hleft := Lib.hid (rdleft_any _ g b (8 + 32 * k) wr hI.rd)
      obtain ⟨d, hd⟩ : ∃ d, b.length - (8 + 32 * k) = d := ⟨_, rfl⟩
      rw [hd] at Hleft
      rcases Nat.eq_zero_or_pos d with rfl | hdp
      · have hm : (b.length - 8) % 32 = 0 := by omega
        have hq : (b.length - 8) / 32 = k := by omega
        have hr := Hr1.out
        rw [if_neg (by omega), hq, Hsgn.out] at hr
        obtain ⟨A7, c7, rfl, hH⟩ := owns_hs hI.own (length_chunksF _ _) (chunksF_all _ _ (by rw [List.length_drop]; omega))
        have hfr := fun W (hb : Below wr.heap.size wr W) => ffrom_any sg (chunksF (b.drop 8) k) A7 k c7 W ((hH.weak fun _ _ _ => trivial).step hb) hle
        have hbel := hI.bel
        clear hI hH hm hq hd hk8
        rcases fromE_two sg (chunksF (b.drop 8) k) with ⟨ps, hps⟩ | hps
        · rw [hps] at hr hfr
          subst hr
          have Hfr := Lib.hid hfr
          clear hfr hps
          go_wp2_with (first
            | (go_at_call 111; refine Hleft.out.mono ?_; rintro e w4 ⟨rfl, hb4⟩)
            | (go_at_call 55; refine (Hfr.out w4 hb4).mono ?_; rintro e w5 ⟨v5, rfl, hO5, hb5⟩))
          refine bodyPost_ret (results_tmp2 rfl _ _ _) rfl ⟨_, rfl, ?_, (hbel.trans (hb4.mono hbel.size)).trans (hb5.mono (Nat.le_trans hbel.size hb4.size))⟩
          rcases hO5 with ⟨h, _⟩ | ⟨g5, ps5, h1, h2, h3, h4⟩
          · cases h
          · exact .inr ⟨g5, ps5, h1, h2, Nat.le_trans (Nat.le_trans hbel.size hb4.size) h3, h4.le (Nat.le_trans hbel.size hb4.size)⟩
        · rw [hps] at hr hfr
          subst hr
          have Hfr := Lib.hid hfr
          clear hfr hps
          go_wp2_with (first
            | (go_at_call 111; refine Hleft.out.mono ?_; rintro e w4 ⟨rfl, hb4⟩)
            | (go_at_call 55; refine (Hfr.out w4 hb4).mono ?_; rintro e w5 ⟨v5, rfl, hO5, hb5⟩))
          exact bodyPost_ret (results_tmp2 rfl _ _ _) rfl ⟨_, rfl, .inl ⟨rfl, rfl⟩, (hbel.trans (hb4.mono hbel.size)).trans (hb5.mono (Nat.le_trans hbel.size hb4.size))⟩
      · have hdec : decide ((0 : Int) < (d : Int)) = true := by simp; omega
        have hdec' : (0 : Int) < (d : Int) := by omega
        by_cases hfit : 8 + 32 * k + 32 ≤ b.length
        · have Hha := Lib.hid fun W h hX => rdhash_fit (fun b => w.heap.size ≤ b ∧ b < g) g b (8 + 32 * k) W h hX hfit
          have hck : (b.drop (8 + 32 * k)).take 32 = chunkF (b.drop 8) k := by unfold chunkF; rw [List.drop_drop]
          have hcl := length_chunkF (b.drop 8) k (by rw [List.length_drop]; omega)
          have hcs := chunksF_succ (b.drop 8) k
          rw [hck] at Hha
          obtain ⟨x, hx⟩ : ∃ x, chunkF (b.drop 8) k = x := ⟨_, rfl⟩
          rw [hx] at Hha hcl hcs
          obtain ⟨q, hq⟩ : ∃ q, chunksF (b.drop 8) k = q := ⟨_, rfl⟩
          have hql : q.length = k := by rw [← hq]; exact length_chunksF _ _
          have ho := hI.own
          rw [hq] at hcs ho
          rw [← hql] at ho
          have Hcs := Lib.hid hcs
          have hrd := hI.rd
          have hle7 := hI.le
          have hbel := hI.bel
          have hnl := Hlen.out
          have hk2 : k ≤ 1000000000 := by omega
          have hbl : q.length ≤ 1000000000 := by omega
          have Hql := Lib.hid hql
          obtain ⟨A7, c7, rfl, -⟩ := owns_slv ho
          clear hI hq hcs hx hck hd hql hnl
          go_wp2_with (first
            | (go_at_call 111; refine Hleft.out.mono ?_; rintro e w4 ⟨rfl, hb4⟩)
            | (go_at_call 112; refine (Hha.out w4 (hrd.step hb4) (fun b hb => by have := hb.2; have := hrd.lt; have := hb4.size; omega)).mono ?_; rintro e w5 ⟨rfl, hR5, hg5⟩)
            | ((with_reducible show wpList _ _ _ (⟨some 8, .alloc _, _, _, _, _⟩ :: _) _ _); refine wpList_hvar (.tmp 8) (.tmp 27) rfl rfl rfl rfl rfl rfl hcl ?_; intro w6 k8 hb6; have h45 : b7 ≤ w5.heap.size := Nat.le_trans (Nat.le_trans hle7 hb4.size) hg5.size; have ho6 := owns_step (owns_keptF (owns_step ho hb4) hg5 hgb) hb6; obtain ⟨v9, w9, hr9, ho9, hg9, -⟩ := append_hw ho6 x hcl hbl (Nat.le_trans h45 hb6.size); have hl9 : (q ++ [x]).length = k + 1 := (by rw [List.length_append, Hql.out]; rfl); rw [hl9] at ho9; obtain ⟨A9, c9, rfl, -⟩ := owns_slv ho9; have Hr9 := Lib.hid hr9; clear hr9; simp only [Act.put])
            | ((with_reducible show wpList _ _ _ (⟨some 32, .load _ _, _, _, _, _⟩ :: _) _ _); refine wpList_hload (.tmp 8) (by kernel_rfl) rfl k8 rfl ?_; simp only [Act.put])
            | ((with_reducible show wpList _ _ _ (⟨some 33, .buildSlice _ _ _, _, _, _, _⟩ :: _) _ _); refine wpList_run rfl _ _ (run_litH1_op x hcl (.tmp 32) rfl rfl _) ?_; simp only [Act.put])
            | ((with_reducible show wpList _ _ _ (⟨some 34, .call _, _, _, _, _⟩ :: _) _ _); refine wpList_run rfl _ w9 (run_append_op (.tmp 31) (.tmp 33) 26 rfl _ _ rfl rfl Hr9.out) ?_; simp only [Act.put]))
          have hb9 : Below b7 w6 w9 := (Below.refl _ _).grown hg9 (Nat.le_trans h45 hb6.size) (fun r e => (ho6.lt r e).1)
          have hbel5 : Below w.heap.size w w5 := (hbel.trans (hb4.mono hbel.size)).grown hg5 (Nat.le_trans hbel.size hb4.size) (fun r e => by have e : g = r := Option.some.inj e; omega)
          rw [← Hcs.out] at ho9
          go_roundw
          case rel => exact ⟨k + 1, by omega, ⟨(hR5.step hb6).far hb9 hgb, ho9, (hbel5.trans (hb6.mono hbel5.size)).trans (hb9.mono (Nat.le_trans hg (Nat.le_of_lt hgb))), Nat.le_trans (Nat.le_trans h45 hb6.size) hb9.size⟩⟩
          case measure => have := Hql.out; simp [sliceLen]; omega
        · have Hha := Lib.hid fun W h hX => rdhash_bad (fun b => w.heap.size ≤ b ∧ b < g) g b (8 + 32 * k) W h hX hfit
          have hr := Hr1.out
          rw [if_pos (by omega)] at hr
          subst hr
          have hz32 : (List.replicate 32 (0 : UInt8)).length = 32 := rfl
          obtain ⟨z, hz⟩ : ∃ z, List.replicate 32 (0 : UInt8) = z := ⟨_, rfl⟩
          rw [hz] at Hha hz32
          clear hz
          have hrd := hI.rd
          have hbel := hI.bel
          clear hI
          go_wp2_with (first
            | (go_at_call 111; refine Hleft.out.mono ?_; rintro e w4 ⟨rfl, hb4⟩)
            | (go_at_call 112; refine (Hha.out w4 (hrd.step hb4) (fun b hb => by have := hb.2; have := hrd.lt; have := hb4.size; omega)).mono ?_; rintro e w5 ⟨rfl, hR5, hg5⟩)
            | ((with_reducible show wpList _ _ _ (⟨some 8, .alloc _, _, _, _, _⟩ :: _) _ _); refine wpList_hvar (.tmp 8) (.tmp 27) rfl rfl rfl rfl rfl rfl hz32 ?_; intro w6 k8 hb6; simp only [Act.put]))
          exact bodyPost_ret (results_tmp2 rfl _ _ _) rfl ⟨_, rfl, .inl ⟨rfl, rfl⟩, ((hbel.trans (hb4.mono hbel.size)).grown hg5 (Nat.le_trans hbel.size hb4.size) (fun r e => by have e : g = r := Option.some.inj e; omega)).trans (hb6.mono (Nat.le_trans (Nat.le_trans hbel.size hb4.size) hg5.size))⟩
  · have hr1 := Hres.out
    rw [if_pos (by omega)] at hr1
    subst hr1
    have Hsg := Lib.hid fun X g W h hX => rdsigned_bad X g b 0 W h hX (by omega)
    go_enter Try.func47, Try.ntmps47
    go_wp2_with (first
      | (go_at_call 109; refine Hnr.out.mono ?_; rintro e w1 ⟨g, rfl, hg, hR1, hb1⟩; have hg1 := hR1.lt)
      | (go_at_call 110; refine (Hsg.out _ g w1 hR1 (fun b hb => by have := hb.2; omega)).mono ?_; rintro e w2 ⟨rfl, hR2, hg2⟩))
    exact bodyPost_ret (results_tmp2 rfl _ _ _) rfl ⟨_, rfl, .inl ⟨rfl, rfl⟩, hb1.grown hg2 hb1.size (fun r e => by have e : g = r := Option.some.inj e; omega)⟩
end Go.Proofs.Ytonidnfgneokbaa
/- notaryref10: fronts in memory; Sizes. -/
namespace Go.Proofs.Ytonidnfgneokbaa
open Go Go.RowKit Go.Shelf
attribute [local go_sem] Oper.semAt_some

/-- the document's parts: how many, and the hash -/
def fpq (ps : FrV) : List PcV := ps.map fun p => (((2 ^ p.1 : Nat) : Int), p.2)
theorem fpq_append (a b : FrV) : fpq (a ++ b) = fpq a ++ fpq b := by simp [fpq]
theorem length_fpq (ps : FrV) : (fpq ps).length = ps.length := by simp [fpq]
theorem fpq_32 (ps : FrV) (h : F32 ps) : Pc32 (fpq ps) := fun p hp => by
  obtain ⟨q, hq, rfl⟩ := List.mem_map.1 hp
  exact h q hq
theorem fpq_getD (ps : FrV) (i : Nat) (h : i < ps.length) : (fpq ps).getD i pcD = (((2 ^ (ps.getD i (0, [])).1 : Nat) : Int), (ps.getD i (0, [])).2) := by
  unfold fpq
  rw [List.getD_eq_getElem?_getD, List.getElem?_map, List.getD_eq_getElem?_getD, List.getElem?_eq_getElem h]
  rfl
theorem aggPq : ∀ w : World, (isAgg 93).run Try.prog w = .ok true w := fun _ => by kernel_rfl
theorem sizePq : ∀ w : World, (sizeOf 93).run Try.prog w = .ok 33 w := fun _ => by kernel_rfl
theorem infoPq : (Try.prog.info? 93).map (fun i => (i.zero, i.size, i.bytes)) = some (some (.agg (.int .i64 0 :: (List.replicate 32 (0 : UInt8)).map B).toArray), 33, 40) := by kernel_rfl
/-- a front of the document's in memory -/
structure FrP (W : World) (g : Nat) (ps : FrV) : Prop where
  ex : ∃ A n c, Blk W g 91 #[.slice A n c] ∧ Pcs W (fun _ => True) A n c (fpq ps)
theorem FrP.step {W W' : World} {g : Nat} {ps : FrV} (h : FrP W g ps) (hb : Below W.heap.size W W') : FrP W' g ps := let ⟨A, n, c, h1, h2⟩ := h.ex; ⟨A, n, c, h1.step hb, h2.step hb⟩
theorem FrP.lt {W : World} {g : Nat} {ps : FrV} (h : FrP W g ps) : g < W.heap.size := let ⟨_, _, _, h1, _⟩ := h.ex; h1.lt
theorem FrP.all {W : World} {g : Nat} {ps : FrV} (h : FrP W g ps) : F32 ps := fun p hp => by
  obtain ⟨A, n, c, h1, h2⟩ := h.ex
  exact h2.all _ (List.mem_map.2 ⟨p, hp, rfl⟩)
theorem FrP.grown {W W' : World} {g g' : Nat} {ps : FrV} {T : TypeId} {cs : Array Value} (h : FrP W g ps) (hg : W.grownBy W' (some g')) (k : Blk W g' T cs) (hk : cs.size < 33) (hne : g ≠ g') : FrP W' g ps := by
  obtain ⟨A, n, c, h1, h2⟩ := h.ex
  exact ⟨A, n, c, h1.grown hg (fun e => hne (Option.some.inj e)), ((h2.apart k hk).grown hg (fun b _ hb e => hb.2 (Option.some.inj e))).weak fun _ _ _ => trivial⟩
/-- one that lies behind lo, its parts too -/
structure FrPF (W : World) (lo g : Nat) (ps : FrV) : Prop where
  ex : ∃ A n c, Blk W g 91 #[.slice A n c] ∧ Pcs W (fun b => lo ≤ b) A n c (fpq ps)
theorem FrPF.frp {W : World} {lo g : Nat} {ps : FrV} (h : FrPF W lo g ps) : FrP W g ps := let ⟨A, n, c, h1, h2⟩ := h.ex; ⟨A, n, c, h1, h2.weak fun _ _ _ => trivial⟩
theorem FrPF.step {W W' : World} {lo g : Nat} {ps : FrV} (h : FrPF W lo g ps) (hb : Below W.heap.size W W') : FrPF W' lo g ps := let ⟨A, n, c, h1, h2⟩ := h.ex; ⟨A, n, c, h1.step hb, h2.step hb⟩
theorem FrPF.le {W : World} {lo lo' g : Nat} {ps : FrV} (h : FrPF W lo g ps) (hl : lo' ≤ lo) : FrPF W lo' g ps := let ⟨A, n, c, h1, h2⟩ := h.ex; ⟨A, n, c, h1, h2.weak fun _ _ hx => Nat.le_trans hl hx⟩
theorem FrPF.grown {W W' : World} {lo g r : Nat} {ps : FrV} (h : FrPF W lo g ps) (hg : W.grownBy W' (some r)) (hr : r < lo) (hgr : g ≠ r) : FrPF W' lo g ps := let ⟨A, n, c, h1, h2⟩ := h.ex; ⟨A, n, c, h1.grown hg (fun e => hgr (Option.some.inj e)), h2.grown hg (fun b _ hx e => by have e := Option.some.inj e; have hx : lo ≤ b := hx; omega)⟩
def FrPOpt (W : World) (lo : Nat) (v : Value) (o : Option FrV) : Prop := (o = none ∧ v = .pointer none) ∨ ∃ g ps, o = some ps ∧ v = fptr g ∧ lo ≤ g ∧ FrPF W lo g ps
theorem FrPOpt.step {W W' : World} {lo : Nat} {v : Value} {o : Option FrV} (h : FrPOpt W lo v o) (hb : Below W.heap.size W W') : FrPOpt W' lo v o := by
  rcases h with h | ⟨g, ps, h1, h2, h3, h4⟩
  · exact .inl h
  · exact .inr ⟨g, ps, h1, h2, h3, h4.step hb⟩

/-- powers of two, as they lie -/
def powC (ls : List Nat) : List Value := ls.map fun l => Value.int .i64 ((2 ^ l : Nat) : Int)
theorem length_powC (ls : List Nat) : (powC ls).length = ls.length := by simp [powC]
theorem infoI64 : (Try.prog.info? 2).map (fun i => (i.zero, i.size, i.bytes)) = some (some (.int .i64 0), 1, 8) := by kernel_rfl
theorem append_pow {w : World} {base : Nat} {v : Value} {n : Nat} {xs : List Value} (h : w.ownsRow base 2 1 v n xs) (x : Value) (hx : x.oneCell' = true) (hn : n ≤ 1000000) (hb : base ≤ w.heap.size) :
    ∃ v' w', (Builtin.append_ #[168, 168] 168 #[v, .slice (some ⟨w.heap.size, 0, none⟩) 1 1]).run Try.prog (w.alloc (.cells #[x] 2)) = .ok v' w' ∧ w'.ownsRow base 2 1 v' (n + 1) (xs ++ [x]) ∧ Below base w w' := by
  have hbA : Below w.heap.size w (w.alloc (.cells #[x] 2)) := (Below.refl _ _).alloc (Nat.le_refl _) _
  have hs : SlV (w.alloc (.cells [x].toArray 2)) (fun _ => True) (some ⟨w.heap.size, 0, none⟩) 1 1 1 [x] := SlV.lit w _ 2 [x] rfl (by unfold maxLen; decide) trivial
  obtain ⟨v', w', hr, ho, hg, -⟩ := append_slv (ty := 168) Try.underlying168 infoI64 (by simp [Value.cells]) (by decide) (owns_step h hbA) hs (fun u hu => by rw [List.mem_singleton.1 hu]; exact hx) (by unfold maxLen; omega) (by omega) (Nat.le_trans hb hbA.size)
  exact ⟨v', w', hr, ho, (hbA.mono hb).grown hg (Nat.le_trans hb hbA.size) (fun r e => (h.lt r e).1)⟩
theorem mod_bit (n l : Nat) : n % 2 ^ (l + 1) = n % 2 ^ l + (if n.testBit l = true then 2 ^ l else 0) := by
  rw [Nat.mod_pow_succ, Nat.testBit_eq_decide_div_mod_eq]
  rcases Nat.mod_two_eq_zero_or_one (n / 2 ^ l) with h1 | h1 <;> rw [h1] <;> simp

set_option maxHeartbeats 4000000 in
set_option maxRecDepth 100000 in
theorem rsizes_any (n : Nat) (w : World) (hn : n ≤ 9223372036854775807) :
    Calls Try.prog 128 #[.int .i64 (n : Int)] w fun e w' => ∃ v, e = .returned v ∧ w'.ownsRow w.heap.size 2 1 v (levelsF n 63).length (powC (levelsF n 63)) ∧ Below w.heap.size w w' := by
  obtain ⟨ls, hls⟩ : ∃ ls, levelsF n 63 = ls := ⟨_, rfl⟩
  have hmod : n % 2 ^ 63 = n := Nat.mod_eq_of_lt (by omega)
  have hlen : ls.length ≤ 63 := by
    rw [← hls]
    have : ∀ k, (levelsF n k).length ≤ k := by
      intro k
      induction k with
      | zero => exact Nat.le_refl _
      | succ k ih =>
        unfold levelsF
        split
        · rw [List.length_cons]; omega
        · omega
    exact this 63
  rw [hls]
  have Hls := Lib.hid hls
  have Hmod := Lib.hid hmod
  clear hls hmod
  go_enter Try.func128, Try.ntmps128
  go_wp2_with fail
  go_loopw [0, 3, 4, 5] (fun v0 v3 v4 _ wr => ∃ (j : Nat) (cur : List Nat), j ≤ 63 ∧ v4 = .int .i64 ((j : Int) - 1) ∧ v0 = .int .i64 ((n % 2 ^ j : Nat) : Int) ∧ cur ++ levelsF n j = ls ∧ wr.ownsRow w.heap.size 2 1 v3 cur.length (powC cur) ∧ Below w.heap.size w wr) (fun _ _ v4 _ _ => (intOf v4 + 1).toNat)
  case atStart => exact ⟨63, [], Nat.le_refl _, rfl, by rw [Hmod.out], Hls.out, World.ownsRow_nil _ _ _ _, Below.refl _ _⟩
  case round =>
    obtain ⟨j, cur, hj, rfl, rfl, hc, ho, hB⟩ := hrel
    rcases Nat.eq_zero_or_pos j with rfl | hjp
    · obtain rfl : cur = ls := by rw [← hc, show levelsF n 0 = [] from rfl, List.append_nil]
      have h0 : ((n % 2 ^ 0 : Nat) : Int) = 0 := by simp [Nat.mod_one]
      rw [h0]
      go_wp2_with fail
      go_ret
      exact ⟨_, rfl, ho, hB⟩
    · obtain ⟨l, rfl⟩ : ∃ l, j = l + 1 := ⟨j - 1, by omega⟩
      have hll : ((l + 1 : Nat) : Int) - 1 = (l : Int) := by omega
      rw [hll]
      have hwl : IntKind.i64.wrap ((l : Int) - 1) = (l : Int) - 1 := IntWalk.i64_in _ (by omega)
      have hge : decide ((0 : Int) ≤ (l : Int)) = true := by simp
      have hl62 : l ≤ 62 := by omega
      have hmb := mod_bit n l
      have hlt := Nat.mod_lt n (Nat.two_pow_pos l)
      have hp62 : 2 ^ l ≤ 2 ^ 62 := Nat.pow_le_pow_right (by decide) hl62
      have hpl : powC (cur ++ [l]) = powC cur ++ [Value.int .i64 ((2 ^ l : Nat) : Int)] := by simp [powC]
      have hpw : ((2 : Int) ^ l) = ((2 ^ l : Nat) : Int) := by simp
      have hwp := pow_i64 l hl62
      obtain ⟨a, ha⟩ : ∃ a, n % 2 ^ (l + 1) = a := ⟨_, rfl⟩
      obtain ⟨b, hb⟩ : ∃ b, n % 2 ^ l = b := ⟨_, rfl⟩
      have hlev : cur ++ levelsF n (l + 1) = ls := hc
      have hcl : cur.length ≤ 63 := by
        have := congrArg List.length hc
        rw [List.length_append] at this
        omega
      rw [ha, hb] at hmb
      rw [ha]
      rw [hb] at hlt
      by_cases ht : n.testBit l = true
      · rw [if_pos ht] at hmb
        have e : levelsF n (l + 1) = l :: levelsF n l := by conv => lhs; unfold levelsF
                                                            rw [if_pos ht]
        rw [e] at hc
        obtain ⟨v9, w9, hr9, ho9, hb9⟩ := append_pow ho (Value.int .i64 ((2 ^ l : Nat) : Int)) rfl (by omega) hB.size
        rw [← hpl] at ho9
        obtain ⟨pw, hpw2⟩ : ∃ p, 2 ^ l = p := ⟨_, rfl⟩
        rw [hpw2] at hmb hlt hp62 hpw hr9
        have hcmp : decide ((pw : Int) ≤ (a : Int)) = true := by simp; omega
        have hcmp' : (pw : Int) ≤ (a : Int) := by omega
        have hws : IntKind.i64.wrap ((a : Int) - (pw : Int)) = (b : Int) := by rw [IntWalk.i64_in _ (by omega)]; omega
        have Hr9 := Lib.hid hr9
        have Hb := Lib.hid hb
        have Hc := Lib.hid hc
        have Ho9 := Lib.hid ho9
        clear hr9 hb hc ho9 ha hmb hpl hlev e
        go_wp2_with ((with_reducible show wpList _ _ _ (⟨some 19, .call _, _, _, _, _⟩ :: _) _ _); refine wpList_run rfl v9 w9 (run_append_op (.tmp 16) (.tmp 18) 168 rfl _ _ rfl rfl Hr9.out) ?_; simp only [Act.put])
        go_roundw
        case rel => exact ⟨l, cur ++ [l], by omega, rfl, by rw [Hb.out], by rw [List.append_assoc]; exact Hc.out, by rw [List.length_append]; exact Ho9.out, hB.trans hb9⟩
        case measure => simp [intOf] <;> omega
      · rw [if_neg ht] at hmb
        have e : levelsF n (l + 1) = levelsF n l := by conv => lhs; unfold levelsF
                                                       rw [if_neg ht]
        rw [e] at hc
        obtain ⟨pw, hpw2⟩ : ∃ p, 2 ^ l = p := ⟨_, rfl⟩
        rw [hpw2] at hlt hp62 hpw
        have hcmp : decide ((pw : Int) ≤ (a : Int)) = false := by simp; omega
        have hcmp' : ¬ (pw : Int) ≤ (a : Int) := by omega
        have hab : a = b := by omega
        have Hb := Lib.hid hb
        have Hc := Lib.hid hc
        clear hb hc ha hmb hpl hlev e
        go_wp2_with fail
        go_roundw
        case rel => exact ⟨l, cur, by omega, rfl, by rw [Hb.out, hab], Hc.out, ho, hB⟩
        case measure => simp [intOf] <;> omega
end Go.Proofs.Ytonidnfgneokbaa
/- notaryref10.From. -/
namespace Go.Proofs.Ytonidnfgneokbaa
open Go Go.RowKit Go.Shelf
attribute [local go_sem] Oper.semAt_some

theorem builtPq (n : Int) (l : List UInt8) (h : l.length = 32) : Try.prog.built 93 [(0, .int .i64 n), (1, .agg (l.map B).toArray)] = some (.int .i64 n :: l.map B).toArray := by
  obtain ⟨a0, a1, a2, a3, a4, a5, a6, a7, a8, a9, a10, a11, a12, a13, a14, a15, a16, a17, a18, a19, a20, a21, a22, a23, a24, a25, a26, a27, a28, a29, a30, a31, rfl⟩ := explode32 l h
  kernel_rfl
theorem run_build_pq_op (lv : Int) (x : List UInt8) (hx : x.length = 32) {ρ : Operand → Value} {o : Oper} (y z : Operand) (ho : o.op = .build 93 #[(0, y), (1, z)]) (hy : ρ y = .int .i64 lv) (hz : ρ z = .agg (x.map B).toArray) (W : World) : (execOp ρ o).run Try.prog W = .ok (.value (.agg (Value.int .i64 lv :: x.map B).toArray)) W := by
  have h : (Instr.build 93 #[(0, .int .i64 lv), (1, .agg (x.map B).toArray)]).run Try.prog W = .ok (.agg (Value.int .i64 lv :: x.map B).toArray) W := run_build W 93 _ _ (builtPq lv x hx)
  unfold execOp
  have hm : (#[(0, y), (1, z)] : Array (Nat × Operand)).map (fun (i, x) => (i, ρ x)) = #[(0, .int .i64 lv), (1, .agg (x.map B).toArray)] := by simp [hy, hz]
  simp only [ho, Sem.run_bind, Sem.run_pure, hm, h, Result.andThen_ok]
structure RmC (w : World) (g b1 : Nat) (v : Value) (m : Nat) (cur : FrV) (W : World) : Prop where
  len : cur.length = m
  obj : Blk W g 91 #[v]
  own : W.ownsRow b1 93 33 v m (pccells (fpq cur))
  bel : Below w.heap.size w W
  all : F32 cur
theorem RmC.step {w W W' : World} {g b1 m : Nat} {v : Value} {cur : FrV} (h : RmC w g b1 v m cur W) (hb : Below W.heap.size W W') : RmC w g b1 v m cur W' := ⟨h.len, h.obj.step hb, owns_step h.own hb, h.bel.trans (hb.mono h.bel.size), h.all⟩
theorem RmC.frp {w W : World} {g b1 m : Nat} {v : Value} {cur : FrV} (h : RmC w g b1 v m cur W) : FrPF W b1 g cur := by
  obtain ⟨A, c, rfl, hs⟩ := Pcs.of_owns h.own ((length_fpq cur).trans h.len) (fpq_32 cur h.all)
  exact ⟨A, _, c, h.obj, hs.weak fun b _ hb => hb.1⟩
theorem levelsF_le (n : Nat) : ∀ k, (levelsF n k).length ≤ k := by
  intro k
  induction k with
  | zero => exact Nat.le_refl _
  | succ k ih =>
    unfold levelsF
    split
    · rw [List.length_cons]; omega
    · omega
theorem zip_take_succ (ls : List Nat) (hs : List (List UInt8)) (k : Nat) (h1 : k < ls.length) (h2 : k < hs.length) : (ls.zip hs).take (k + 1) = (ls.zip hs).take k ++ [(ls.getD k 0, hs.getD k [])] := by
  have h : k < (ls.zip hs).length := by rw [List.length_zip]; omega
  rw [List.take_succ_eq_append_getElem h, List.getElem_zip, List.getD_eq_getElem?_getD, List.getElem?_eq_getElem h1, List.getD_eq_getElem?_getD, List.getElem?_eq_getElem h2]
  rfl

set_option maxHeartbeats 4000000 in
set_option maxRecDepth 100000 in
theorem rfrom_any (size : Int) (hs : List (List UInt8)) (A : Option Addr) (n c : Nat) (w : World) (h : Hs w (fun _ => True) A n c hs) (hz : size ≤ 9223372036854775807) :
    Calls Try.prog 56 #[.int .i64 size, .slice A n c] w fun e w' => ∃ v, e = .returned (.tuple #[v, .int .i64 (fromE size hs).2]) ∧ FrPOpt w' w.heap.size v (fromE size hs).1 ∧ Below w.heap.size w w' := by
  have hlen := h.len
  have hroom := h.sl.room
  have hmx := h.sl.max
  unfold maxLen at hmx
  obtain ⟨res, hres⟩ : ∃ r, fromE size hs = r := ⟨_, rfl⟩
  rw [hres]
  unfold fromE at hres
  rcases Int.lt_or_le size 0 with hneg | hpos
  · rw [if_pos hneg] at hres
    subst hres
    have hd : decide (size < 0) = true := by simp; omega
    go_enter Try.func56, Try.ntmps56
    go_wp2_with fail
    exact bodyPost_ret (results_tmp2 rfl _ _ _) rfl ⟨_, rfl, .inl ⟨rfl, rfl⟩, Below.refl _ _⟩
  have hd0 : decide (size < 0) = false := by simp; omega
  have hd0' : ¬ size < 0 := by omega
  obtain ⟨sz, rfl⟩ : ∃ l : Nat, size = l := ⟨size.toNat, by omega⟩
  rw [if_neg hd0', Int.toNat_natCast] at hres
  have hsz := rsizes_any sz w (by omega)
  have hl63 := levelsF_le sz 63
  have hl62 : ∀ l ∈ levelsF sz 63, l ≤ 62 := fun l hl => by have := levelsF_lt sz 63 l hl; omega
  obtain ⟨ls, hls⟩ : ∃ ls, levelsF sz 63 = ls := ⟨_, rfl⟩
  rw [hls] at hres hsz hl62 hl63
  rw [hlen] at hres
  have Hsz := Lib.hid hsz
  have Hlen := Lib.hid hlen
  have Hh := Lib.hid h
  have Hl62 := Lib.hid hl62
  clear hsz hlen h hls hz hl62
  obtain ⟨m, hm⟩ : ∃ m, ls.length = m := ⟨_, rfl⟩
  rw [hm] at Hsz hres hl63
  by_cases hmn : m = n
  · subst hmn
    rw [if_neg (by simp)] at hres
    have Hres := Lib.hid hres
    have Hm := Lib.hid hm
    have hne : (!((m : Int) == (m : Int))) = false := by simp
    clear hres hm
    go_enter Try.func56, Try.ntmps56
    go_wp2_with (first
      | (go_at_call 128; refine Hsz.out.mono ?_; rintro e w1 ⟨v6, rfl, ho6, hb1⟩; obtain ⟨A6, c6, rfl, hs6⟩ := owns_slv ho6; have hm6 := hs6.max; have hr6 := hs6.room; unfold maxLen at hm6))
    have k1 : Blk (w1.alloc (.cells #[.slice none 0 0] 91)) w1.heap.size 91 #[.slice none 0 0] := Blk.new _ _ _
    have hbA : Below w1.heap.size w1 (w1.alloc (.cells #[.slice none 0 0] 91)) := (Below.refl _ _).alloc (Nat.le_refl _) _
    generalize w1.alloc (.cells #[.slice none 0 0] 91) = w2 at k1 hbA ⊢
    have hg1 := k1.lt
    have hgw := hb1.size
    have hS6 : SlV w2 (fun b => b < w1.heap.size) A6 m c6 1 (powC ls) := (hs6.weak fun b hb _ => hb).step hbA
    have hbel := hb1.trans (hbA.mono hb1.size)
    have hC : RmC w w1.heap.size w2.heap.size (.slice none 0 0) 0 [] w2 := ⟨rfl, k1, World.ownsRow_nil _ _ _ _, hbel, fun _ h => by cases h⟩
    obtain ⟨g, hge⟩ : ∃ g, w1.heap.size = g := ⟨_, rfl⟩
    obtain ⟨b1, hb1e⟩ : ∃ b, w2.heap.size = b := ⟨_, rfl⟩
    have hbs : b1 ≤ w2.heap.size := by omega
    rw [hge] at hC hg1 hS6 hgw ⊢
    rw [hb1e] at hC hg1
    clear k1 hb1 hbA hb1e hge hs6 ho6 hbel Hsz
    go_loopw [8] (fun v8 wr => ∃ (k : Nat) (v : Value), k ≤ m ∧ v8 = .int .i64 (k : Int) ∧ RmC w g b1 v k ((ls.zip hs).take k) wr ∧ SlV wr (fun b => b < g) A6 m c6 1 (powC ls) ∧ b1 ≤ wr.heap.size) (fun v8 _ => m - (intOf v8).toNat)
    case atStart => exact ⟨0, _, Nat.zero_le _, rfl, by rw [List.take_zero]; exact hC, hS6, hbs⟩
    case round =>
      clear hC hS6 hbs
      obtain ⟨k, v, hk, rfl, hC, hS6, hbs⟩ := hrel
      obtain ⟨A7, c7, rfl, -⟩ := owns_slv hC.own
      by_cases hkn : k < m
      · have hd : decide ((k : Int) < (m : Int)) = true := by simp; omega
        have hwk : IntKind.i64.wrap ((k : Int) + 1) = (k : Int) + 1 := IntWalk.i64_in _ (by omega)
        have hkl : k < ls.length := by rw [Hm.out]; exact hkn
        have hkh : k < hs.length := by rw [Hlen.out]; exact hkn
        have hzt := zip_take_succ ls hs k hkl hkh
        obtain ⟨b6, o6, rfl, hb6w, hb6, hat6⟩ := hS6.at_ (by omega) (by decide)
        have hb6g : b6 < g := hb6
        have hc34 := hat6 k (.int .i64 ((2 ^ (ls.getD k 0) : Nat) : Int)) (by unfold powC; rw [List.getElem?_map, List.getElem?_eq_getElem hkl, List.getD_eq_getElem?_getD, List.getElem?_eq_getElem hkl]; rfl)
        have hH : Hs wr (fun b => b < g) A m c hs := (Hh.out.weak (Y := fun b => b < g) fun b hb _ => by omega).step hC.bel
        obtain ⟨b, o, rfl, hbw, -, -⟩ := hH.at_ (by omega)
        have hget := fun W (hb : Below b1 wr W) => (hH.below hb fun b hb hx => Nat.lt_trans hx hg1).get rfl k hkn
        have hx32 := Hh.out.all.getD k hkh
        obtain ⟨x, hx⟩ : ∃ x, hs.getD k [] = x := ⟨_, rfl⟩
        obtain ⟨lv, hlv⟩ : ∃ x, ls.getD k 0 = x := ⟨_, rfl⟩
        rw [hx] at hget hx32 hzt
        rw [hlv] at hc34 hzt
        obtain ⟨cur, hcur⟩ : ∃ x, (ls.zip hs).take k = x := ⟨_, rfl⟩
        rw [hcur] at hC hzt
        have Hget := Lib.hid hget
        have Hzt := Lib.hid hzt
        have hpe : fpq [(lv, x)] = [(((2 ^ lv : Nat) : Int), x)] := rfl
        obtain ⟨pw, hpw⟩ : ∃ p, 2 ^ lv = p := ⟨_, rfl⟩
        rw [hpw] at hc34 hpe
        have hpe' : fpq cur ++ [((pw : Int), x)] = fpq (cur ++ [(lv, x)]) := by rw [fpq_append, hpe]
        have Hpe := Lib.hid hpe'
        have hclen := hC.len
        have c30 : ∀ s : InC (fun W => Below b1 wr W), s.W.cell? ⟨g, 0, none⟩ = some (.slice A7 k c7) := fun s => by rw [(hC.obj.below s.ok hg1).cell]; rfl
        have c34 : ∀ s : InC (fun W => Below b1 wr W), s.W.cell? ⟨b6, o6 + k, none⟩ = some (.int .i64 (pw : Int)) := fun s => by rw [s.ok.cell (p := ⟨b6, o6 + k, none⟩) (Nat.lt_trans hb6g hg1)]; exact hc34
        have c15 : wr.cell? ⟨g, 0, none⟩ = some (.slice A7 k c7) := by rw [hC.obj.cell]; rfl
        have hbl : k ≤ 1000000 := by omega
        clear hget hzt hx hlv hcur hH hat6 hpe hpe' hpw hc34 hkl hkh
        go_wp2_with fail
        have hS : Below b1 wr wr.drew := (Below.refl _ _).drew
        have hCs : RmC w g b1 (.slice A7 k c7) k cur wr.drew := hC.step ((Below.refl _ _).drew)
        have hbsu : b1 ≤ wr.drew.heap.size := hbs
        refine wp_region_mix_tail (fun W => Below b1 wr W) 16 [(0, true), (1, true), (2, true), (3, true), (4, true), (5, true), (6, true), (7, true), (8, true), (9, true), (10, true), (11, true), (12, true), (13, true), (14, false), (15, false)] (by kernel_rfl) (by kernel_rfl) hS fun _ => ?_
        simp only [List.map_cons, List.map_nil, Array.getD_eq_getD_getElem?, List.getElem?_toArray, List.getElem?_cons_succ, List.getElem?_cons_zero, Option.getD_some]
        generalize wr.drew = u2 at hS hCs hbsu ⊢
        obtain ⟨v9, W9, hr9, ho9, hb9⟩ := append_pc (S := 89) Try.underlying89 infoPq (by rw [length_fpq, hC.len]; exact hCs.own : u2.ownsRow b1 93 33 _ (fpq cur).length (pccells (fpq cur))) ((pw : Int), x) hx32 (by rw [length_fpq, hC.len]; omega) hbsu
        have hbA : Below u2.heap.size u2 (u2.alloc (.cells (pccell ((pw : Int), x)).toArray 93)) := (Below.refl _ _).alloc (Nat.le_refl _) _
        have hkg9 := (hCs.obj.step hbA).below hb9 hg1
        have hbel9 := (hCs.bel.trans (hbA.mono hCs.bel.size)).trans (hb9.mono (by omega))
        have hn9 : (cur ++ [(lv, x)]).length = k + 1 := by rw [List.length_append, hC.len]; rfl
        rw [Hpe.out, length_fpq, hn9] at ho9
        obtain ⟨gb9, c9, rfl, hgb9⟩ := owns_someB ho9 (by omega)
        have h329 : F32 (cur ++ [(lv, x)]) := fun q hq => by
          rcases List.mem_append.1 hq with hq | hq
          · exact hC.all q hq
          · rw [List.mem_singleton.1 hq]; exact hx32
        have hbs9 : b1 ≤ W9.heap.size := Nat.le_trans (Nat.le_trans hbsu hbA.size) hb9.size
        refine wpMix_s (fun K hK => ?_)
        go_simp
        refine hK _ ?_
        clear hK K
        refine wpMix_s (fun K hK => ?_)
        go_simp
        refine hK _ ?_
        clear hK K
        refine wpMix_s (fun K hK => ?_)
        go_simp
        refine hK _ ?_
        clear hK K
        refine wpMix_s (fun K hK => ?_)
        go_simp
        refine hK _ ?_
        clear hK K
        refine wpMix_s (fun K hK => ?_)
        go_simp
        refine hK _ ?_
        clear hK K
        refine wpMix_s (fun K hK => ?_)
        go_simp
        refine hK _ ?_
        clear hK K
        refine wpMix_s (fun K hK => ?_)
        go_simp
        refine hK _ ?_
        clear hK K
        refine wpMix_s (fun K hK => ?_)
        go_simp
        refine hK _ ?_
        clear hK K
        refine wpMix_s (fun K hK => ?_)
        go_simp
        refine hK _ ?_
        clear hK K
        refine wpMix_s (fun K hK => ?_)
        go_simp
        refine hK _ ?_
        clear hK K
        refine wpMix_s (fun K hK => ?_)
        go_simp
        refine hK _ ?_
        clear hK K
        refine wpMix_s (fun K hK => ?_)
        go_simp
        refine hK _ ?_
        clear hK K
        refine wpMix_load (by kernel_rfl) 25 (.tmp 37) rfl (b) (o + k * 32) rfl (x.map B).toArray ((fun s => Hget.out s.W s.ok)) ?_
        simp only [Act.put]
        refine wpMix_v (by kernel_rfl) (.agg (Value.int .i64 (pw : Int) :: x.map B).toArray) ((fun s => run_build_pq_op (pw : Int) x hx32 (.tmp 34) (.tmp 38) rfl rfl rfl s.W)) ?_
        simp only [Act.put]
        refine wpMix_run (by kernel_rfl) (.slice (some ⟨u2.heap.size, 0, none⟩) 1 1) (u2.alloc (.cells (pccell ((pw : Int), x)).toArray 93)) (run_lit_oneF_op (x := .agg (pccell ((pw : Int), x)).toArray) Try.underlying89 infoPq (by simp [Value.cells, hx32]) (by decide) (by decide) (.tmp 39) rfl rfl _) (hS.alloc hbsu _) ?_
        simp only [Act.put]
        refine wpMix_run (by kernel_rfl) (.slice (some ⟨gb9, 0, none⟩) (k + 1) c9) (W9) (run_append_op (.tmp 30) (.tmp 40) 89 rfl _ _ rfl rfl hr9) ((hS.alloc hbsu _).trans hb9) ?_
        simp only [Act.put]
        refine wpMix_nil ?_
        intro _
        simp only [List.drop_succ_cons, List.drop_zero]
        go_wp2_with ((with_reducible show wpList _ _ _ [⟨none, .store _ _ _, _, _, _, _⟩] _ _); refine wpList_store_one rfl 89 (.tmp 43) (.tmp 41) rfl g rfl rfl 91 (.slice A7 k c7) hkg9 (by kernel_rfl) ?_; show wpList _ _ _ _ _ (W9.setRow g #[Value.slice (some ⟨gb9, 0, none⟩) (k + 1) c9]); simp only [Act.put])
        have hgr : W9.grownBy (W9.setRow g #[Value.slice (some ⟨gb9, 0, none⟩) (k + 1) c9]) (some g) := grown_setRow (grown_of_below (Below.refl _ _) _) _
        refine np_normal ?_
        go_wp2_with fail
        go_roundw
        case rel => exact ⟨k + 1, _, by omega, by go_num, ⟨by rw [Hzt.out]; exact hn9, hkg9.setRow_ _, by rw [Hzt.out]; exact ho9.kept hgr (.inr fun e => by have e : gb9 = g := Option.some.inj e; omega), below_setRow hbel9 hgw _, by rw [Hzt.out]; exact h329⟩, (hS6.below ((hS.alloc hbsu _).trans hb9) (fun b _ hx => Nat.lt_trans hx hg1)).grown hgr (fun b _ hx e => by have e : b = g := Option.some.inj e; omega), Nat.le_trans hbs9 hgr.size⟩
        case measure => simp [intOf]; omega
      · obtain rfl : k = m := by omega
        have hd : decide ((k : Int) < (k : Int)) = false := by simp
        have hr := Hres.out
        rw [List.take_of_length_le (by rw [List.length_zip, Hm.out, Hlen.out]; omega)] at hC
        go_wp2_with fail
        refine bodyPost_ret (results_tmp2 rfl _ _ _) rfl ?_
        rw [← hr]
        exact ⟨_, rfl, .inr ⟨g, _, rfl, rfl, hgw, hC.frp.le (by omega)⟩, hC.bel⟩
  · rw [if_pos hmn] at hres
    subst hres
    have hne : ((m : Int) == (n : Int)) = false := by simp; omega
    have hne2 : ¬ (m : Int) = (n : Int) := by omega
    clear hm
    go_enter Try.func56, Try.ntmps56
    go_wp2_with (first
      | (go_at_call 128; refine Hsz.out.mono ?_; rintro e w1 ⟨v6, rfl, ho6, hb1⟩; obtain ⟨A6, c6, rfl, -⟩ := owns_slv ho6))
    exact bodyPost_ret (results_tmp2 rfl _ _ _) rfl ⟨_, rfl, .inl ⟨rfl, rfl⟩, hb1⟩
end Go.Proofs.Ytonidnfgneokbaa
/- notaryref10: Size, come. -/
namespace Go.Proofs.Ytonidnfgneokbaa
open Go Go.RowKit Go.Shelf
attribute [local go_sem] Oper.semAt_some

set_option maxHeartbeats 4000000 in
set_option maxRecDepth 100000 in
theorem rfsize_nil (w : World) : Calls Try.prog 125 #[.pointer none] w fun e w' => e = .returned (.int .i64 0) ∧ w' = w := by
  go_enter Try.func125, Try.ntmps125
  go_wp2_with fail
  go_loopw [3, 4] (fun v3 v4 wr => v3 = .int .i64 0 ∧ v4 = .int .i64 0 ∧ wr = w) (fun _ _ _ => 0)
  case atStart => exact ⟨rfl, rfl, rfl⟩
  case round =>
    obtain ⟨rfl, rfl, rfl⟩ := hrel
    go_wp2_with fail
    go_ret
    exact ⟨rfl, rfl⟩
set_option maxHeartbeats 4000000 in
set_option maxRecDepth 100000 in
theorem rfsize_any (g : Nat) (ps : FrV) (w : World) (h : FrP w g ps) (ht : szF ps ≤ 9223372036854775807) : Calls Try.prog 125 #[fptr g] w fun e w' => e = .returned (.int .i64 (szF ps : Int)) ∧ w' = w := by
  obtain ⟨A, n, c, hk, hP⟩ := h.ex
  have hlen : ps.length = n := by rw [← hP.len, length_fpq]
  have hroom := hP.sl.room
  have hmx := hP.sl.max
  unfold maxLen at hmx
  obtain ⟨res, hres⟩ : ∃ r, szF ps = r := ⟨_, rfl⟩
  rw [hres]
  have Hres := Lib.hid hres
  have Hlen := Lib.hid hlen
  have Ht := Lib.hid ht
  have c12 : w.cell? ⟨g, 0, none⟩ = some (.slice A n c) := by rw [hk.cell]; rfl
  clear hres hlen ht h hk
  go_enter Try.func125, Try.ntmps125
  go_wp2_with fail
  go_loopw [3, 4] (fun v3 v4 wr => ∃ k : Nat, k ≤ n ∧ v4 = .int .i64 (k : Int) ∧ v3 = .int .i64 (szF (ps.take k) : Int) ∧ wr = w) (fun _ v4 _ => n - (intOf v4).toNat)
  case atStart => exact ⟨0, Nat.zero_le _, rfl, by rw [List.take_zero]; rfl, rfl⟩
  case round =>
    obtain ⟨k, hk, rfl, rfl, rfl⟩ := hrel
    by_cases hkn : k < n
    · have hd : decide ((k : Int) < (n : Int)) = true := by simp; omega
      have hwk : IntKind.i64.wrap ((k : Int) + 1) = (k : Int) + 1 := IntWalk.i64_in _ (by omega)
      obtain ⟨b, o, rfl, -, -⟩ := hP.at_ (by omega)
      have c26 := hP.num rfl k hkn
      rw [fpq_getD ps k (by rw [Hlen.out]; exact hkn)] at c26
      have hst := szF_take ps k (by rw [Hlen.out]; exact hkn)
      have hle := szF_take_le ps (k + 1)
      have htp := Ht.out
      replace c26 : wr.cell? ⟨b, o + k * 33, none⟩ = some (.int .i64 ((2 ^ (ps.getD k (0, [])).1 : Nat) : Int)) := c26
      obtain ⟨pw, hpw⟩ : ∃ p, 2 ^ (ps.getD k (0, [])).1 = p := ⟨_, rfl⟩
      obtain ⟨a, ha⟩ : ∃ a, szF (ps.take k) = a := ⟨_, rfl⟩
      obtain ⟨a', ha'⟩ : ∃ a, szF (ps.take (k + 1)) = a := ⟨_, rfl⟩
      rw [hpw] at c26 hst
      rw [ha, ha'] at hst
      rw [ha'] at hle
      have hws : IntKind.i64.wrap ((a : Int) + (pw : Int)) = (a' : Int) := by rw [IntWalk.i64_in _ (by omega)]; omega
      rw [ha]
      have Ha := Lib.hid ha'
      clear hpw ha ha' hst hle htp
      go_wp2_with fail
      go_roundw
      case rel => exact ⟨k + 1, by omega, by go_num, by rw [Ha.out], by first | rfl | trivial⟩
      case measure => simp [intOf] <;> omega
    · obtain rfl : k = n := by omega
      have hd : decide ((k : Int) < (k : Int)) = false := by simp
      rw [List.take_of_length_le (by rw [Hlen.out]; exact Nat.le_refl _), Hres.out]
      go_wp2_with fail
      go_ret
      exact ⟨rfl, rfl⟩
end Go.Proofs.Ytonidnfgneokbaa
