/- front.Read. -/
import Derived.Test.YtonidnfgneokbaaQd139
namespace Go.Proofs.Ytonidnfgneokbaa
open Go Go.RowKit Go.Shelf
attribute [local go_sem] Oper.semAt_some

def chunkF (b : List UInt8) (k : Nat) : List UInt8 := (b.drop (32 * k)).take 32
def chunksF (b : List UInt8) (m : Nat) : List (List UInt8) := (List.range m).map (chunkF b)
theorem chunksF_succ (b : List UInt8) (k : Nat) : chunksF b (k + 1) = chunksF b k ++ [chunkF b k] := by simp [chunksF, List.range_succ]
theorem length_chunksF (b : List UInt8) (m : Nat) : (chunksF b m).length = m := by simp [chunksF]
theorem length_chunkF (b : List UInt8) (k : Nat) (h : 32 * k + 32 ≤ b.length) : (chunkF b k).length = 32 := by unfold chunkF; rw [List.length_take, List.length_drop]; omega
theorem chunksF_all (b : List UInt8) (m : Nat) (h : 32 * m ≤ b.length) : H32 (chunksF b m) := by
  intro x hx
  obtain ⟨k, hk, rfl⟩ := List.mem_map.1 hx
  have := List.mem_range.1 hk
  exact length_chunkF b k (by omega)
/-- a front's bytes, read -/
def readF (b : List UInt8) : Option FrV × Int :=
  if b.length < 8 then (none, 200) else if (b.length - 8) % 32 ≠ 0 then (none, 200) else
    match (fromE (sgnN (numN (b.take 8))) (chunksF (b.drop 8) ((b.length - 8) / 32))).1 with
    | some ps => (some ps, 0)
    | none => (none, 200)
theorem sgnN_le (x : Nat) : sgnN x ≤ 9223372036854775807 := by unfold sgnN; rw [IntKind.wrap_i64]; omega
theorem fromE_two (size : Int) (hs : List (List UInt8)) : (∃ ps, fromE size hs = (some ps, 0)) ∨ fromE size hs = (none, 2) := by
  unfold fromE
  split
  · exact .inr rfl
  split
  · exact .inr rfl
  · exact .inl ⟨_, rfl⟩
section
variable (X : Nat → Prop) (g : Nat) (l : List UInt8) (p : Nat) (w : World) (h : RdO w X g l p) (hX : ∀ b, X b → b < w.heap.size)
include h hX
theorem rdsigned_fit (hf : p + 8 ≤ l.length) : Calls Try.prog 110 #[.pointer (some ⟨g, 0, none⟩)] w fun e w' => e = .returned (.tuple #[.int .i64 (sgnN (numN ((l.drop p).take 8))), .int .i64 0]) ∧ RdO w' X g l (p + 8) ∧ w.grownBy w' (some g) :=
  (rdsigned_any X g l p w h hX).mono fun e w' hq => by
    rcases hq with ⟨⟨_, h1, h2⟩ | ⟨h1, _⟩, h4⟩
    · exact ⟨h1, h2, h4⟩
    · exact absurd hf h1
theorem rdsigned_bad (hf : ¬ p + 8 ≤ l.length) : Calls Try.prog 110 #[.pointer (some ⟨g, 0, none⟩)] w fun e w' => e = .returned (.tuple #[.int .i64 0, .int .i64 110]) ∧ RdO w' X g l p ∧ w.grownBy w' (some g) :=
  (rdsigned_any X g l p w h hX).mono fun e w' hq => by
    rcases hq with ⟨⟨h1, _⟩ | ⟨_, h1, h2⟩, h4⟩
    · exact absurd h1 hf
    · exact ⟨h1, h2, h4⟩
theorem rdhash_fit (hf : p + 32 ≤ l.length) : Calls Try.prog 112 #[.pointer (some ⟨g, 0, none⟩)] w fun e w' => e = .returned (.tuple #[.agg (((l.drop p).take 32).map B).toArray, .int .i64 0]) ∧ RdO w' X g l (p + 32) ∧ w.grownBy w' (some g) :=
  (rdhash_any X g l p w h hX).mono fun e w' hq => by
    rcases hq with ⟨⟨_, h1, h2⟩ | ⟨h1, _⟩, h4⟩
    · exact ⟨h1, h2, h4⟩
    · exact absurd hf h1
theorem rdhash_bad (hf : ¬ p + 32 ≤ l.length) : Calls Try.prog 112 #[.pointer (some ⟨g, 0, none⟩)] w fun e w' => e = .returned (.tuple #[.agg ((List.replicate 32 (0 : UInt8)).map B).toArray, .int .i64 110]) ∧ RdO w' X g l p ∧ w.grownBy w' (some g) :=
  (rdhash_any X g l p w h hX).mono fun e w' hq => by
    rcases hq with ⟨⟨h1, _⟩ | ⟨_, h1, h2⟩, h4⟩
    · exact absurd h1 hf
    · exact ⟨h1, h2, h4⟩
end

theorem owns_keptF {w w' : World} {base n s g : Nat} {e : TypeId} {v : Value} {xs : List Value} (h : w.ownsRow base e s v n xs) (hg : w.grownBy w' (some g)) (hlt : g < base) : w'.ownsRow base e s v n xs :=
  h.kept hg (by
    rcases h.2 with ⟨rfl, _⟩ | ⟨g', cap, cur, rfl, hl, _⟩
    · exact .inl rfl
    · refine .inr fun e => ?_
      have e : g' = g := Option.some.inj e
      omega)
theorem RdO.far {W W' : World} {lo g p N : Nat} {l : List UInt8} (h : RdO W (fun b => lo ≤ b ∧ b < g) g l p) (hb : Below N W W') (hN : g < N) : RdO W' (fun b => lo ≤ b ∧ b < g) g l p :=
  ⟨let ⟨A, n, c, h1, h2⟩ := h.ex; ⟨A, n, c, h1.below hb hN, h2.below hb fun b _ hx => Nat.lt_trans hx.2 hN⟩, h.off, h.le⟩
/-- between two rounds of Read -/
structure RfI (w : World) (lo g b7 : Nat) (b : List UInt8) (k : Nat) (v : Value) (W : World) : Prop where
  rd : RdO W (fun b => lo ≤ b ∧ b < g) g b (8 + 32 * k)
  own : W.ownsRow b7 25 32 v k (hcells (chunksF (b.drop 8) k))
  bel : Below w.heap.size w W
  le : b7 ≤ W.heap.size

set_option maxHeartbeats 4000000 in
set_option maxRecDepth 100000 in
theorem fread_any (b : List UInt8) (A : Option Addr) (n c : Nat) (w : World) (h : Sl w (fun _ => True) A n c b) (hn : n ≤ 1000000000) :
    Calls Try.prog 47 #[.slice A n c] w fun e w' => ∃ v, e = .returned (.tuple #[v, .int .i64 (readF b).2]) ∧ FrOpt w' w.heap.size v (readF b).1 ∧ Below w.heap.size w w' := by
  have hlen := h.len
  have hnr := rdnew_any b A n c w h (by omega)
  obtain ⟨res, hres⟩ : ∃ r, readF b = r := ⟨_, rfl⟩
  rw [hres]
  unfold readF at hres
  have Hnr := Lib.hid hnr
  have Hres := Lib.hid hres
  have Hlen := Lib.hid hlen
  clear hnr hres h hlen
  have hlit : ∀ b : World, (b.alloc (.cells #[] 25)).ownsRow b.heap.size 25 32 (.slice (some ⟨b.heap.size, 0, none⟩) 0 0) 0 [] := fun b => World.ownsRow_lit (base := b.heap.size) (e := 25) (size := 32) b #[] 0 (Nat.le_refl _) (by unfold maxLen; decide) (by simp)
  have Hlit := Lib.hid hlit
  clear hlit
  by_cases h8 : 8 ≤ b.length
  · have hr1 := Hres.out
    rw [if_neg (by omega)] at hr1
    have Hr1 := Lib.hid hr1
    have hle := sgnN_le (numN (b.take 8))
    have Hsg := Lib.hid fun X g W h hX => rdsigned_fit X g b 0 W h hX (by omega)
    rw [List.drop_zero, Nat.zero_add] at Hsg
    obtain ⟨sg, hsg⟩ : ∃ s, sgnN (numN (b.take 8)) = s := ⟨_, rfl⟩
    rw [hsg] at Hsg hle
    have Hsgn := Lib.hid hsg
    have H8 := Lib.hid h8
    clear hr1 Hres hsg h8
    go_enter Try.func47, Try.ntmps47
    go_wp2_with (first
      | (go_at_call 109; refine Hnr.out.mono ?_; rintro e w1 ⟨g, rfl, hg, hR1, hb1⟩; have hg1 := hR1.lt)
      | (go_at_call 110; refine (Hsg.out _ g w1 hR1 (fun b hb => by have := hb.2; omega)).mono ?_; rintro e w2 ⟨rfl, hR2, hg2⟩)
      | ((with_reducible show wpList _ _ _ (⟨some 20, .buildSlice _ _ _, _, _, _, _⟩ :: _) _ _); refine wpList_run rfl (.slice (some ⟨w2.heap.size, 0, none⟩) 0 0) (w2.alloc (.cells #[] 25)) (by kernel_rfl) ?_; have hb3 : Below w2.heap.size w2 (w2.alloc (.cells #[] 25)) := (Below.refl _ _).alloc (Nat.le_refl _) _; have ho3 := Hlit.out w2; generalize w2.alloc (.cells #[] 25) = w3 at hb3 ho3 ⊢; simp only [Act.put]))
    have hbel2 : Below w.heap.size w w2 := hb1.grown hg2 hb1.size (fun r e => by have e : g = r := Option.some.inj e; omega)
    have hI : RfI w w.heap.size g w2.heap.size b 0 (.slice (some ⟨w2.heap.size, 0, none⟩) 0 0) w3 := ⟨hR2.step hb3, ho3, hbel2.trans (hb3.mono hbel2.size), hb3.size⟩
    have hgb : g < w2.heap.size := Nat.lt_of_lt_of_le hg1 hg2.size
    obtain ⟨b7, hb7⟩ : ∃ x, w2.heap.size = x := ⟨_, rfl⟩
    rw [hb7] at hI hgb ⊢
    clear hbel2 hb7 ho3 hb3 hR2 hg2 hR1 hb1 hg1 Hnr Hsg Hlit
    go_loopw [7, 8, 9] (fun v7 _ _ wr => ∃ k : Nat, 8 + 32 * k ≤ b.length ∧ RfI w w.heap.size g b7 b k v7 wr) (fun v7 _ _ _ => b.length - sliceLen v7)
    case atStart => exact ⟨0, H8.out, hI⟩
    case round =>
      clear hI
      obtain ⟨k, hk8, hI⟩ := hrel
      have Hleft := Lib.hid (rdleft_any _ g b (8 + 32 * k) wr hI.rd)
      obtain ⟨d, hd⟩ : ∃ d, b.length - (8 + 32 * k) = d := ⟨_, rfl⟩
      rw [hd] at Hleft
      rcases Nat.eq_zero_or_pos d with rfl | hdp
      · have hm : (b.length - 8) % 32 = 0 := by omega
        have hq : (b.length - 8) / 32 = k := by omega
        have hr := Hr1.out
        rw [if_neg (by omega), hq, Hsgn.out] at hr
        obtain ⟨A7, c7, rfl, hH⟩ := owns_hs hI.own (length_chunksF _ _) (chunksF_all _ _ (by rw [List.length_drop]; omega))
        have hfr := fun W (hb : Below wr.heap.size wr W) => ffrom_any sg (chunksF (b.drop 8) k) A7 k c7 W ((hH.weak fun _ _ _ => trivial).step hb) hle
        have hbel := hI.bel
        clear hI hH hm hq hd hk8
        rcases fromE_two sg (chunksF (b.drop 8) k) with ⟨ps, hps⟩ | hps
        · rw [hps] at hr hfr
          subst hr
          have Hfr := Lib.hid hfr
          clear hfr hps
          go_wp2_with (first
            | (go_at_call 111; refine Hleft.out.mono ?_; rintro e w4 ⟨rfl, hb4⟩)
            | (go_at_call 55; refine (Hfr.out w4 hb4).mono ?_; rintro e w5 ⟨v5, rfl, hO5, hb5⟩))
          refine bodyPost_ret (results_tmp2 rfl _ _ _) rfl ⟨_, rfl, ?_, (hbel.trans (hb4.mono hbel.size)).trans (hb5.mono (Nat.le_trans hbel.size hb4.size))⟩
          rcases hO5 with ⟨h, _⟩ | ⟨g5, ps5, h1, h2, h3, h4⟩
          · cases h
          · exact .inr ⟨g5, ps5, h1, h2, Nat.le_trans (Nat.le_trans hbel.size hb4.size) h3, h4.le (Nat.le_trans hbel.size hb4.size)⟩
        · rw [hps] at hr hfr
          subst hr
          have Hfr := Lib.hid hfr
          clear hfr hps
          go_wp2_with (first
            | (go_at_call 111; refine Hleft.out.mono ?_; rintro e w4 ⟨rfl, hb4⟩)
            | (go_at_call 55; refine (Hfr.out w4 hb4).mono ?_; rintro e w5 ⟨v5, rfl, hO5, hb5⟩))
          exact bodyPost_ret (results_tmp2 rfl _ _ _) rfl ⟨_, rfl, .inl ⟨rfl, rfl⟩, (hbel.trans (hb4.mono hbel.size)).trans (hb5.mono (Nat.le_trans hbel.size hb4.size))⟩
      · have hdec : decide ((0 : Int) < (d : Int)) = true := by simp; omega
        have hdec' : (0 : Int) < (d : Int) := by omega
        by_cases hfit : 8 + 32 * k + 32 ≤ b.length
        · have Hha := Lib.hid fun W h hX => rdhash_fit (fun b => w.heap.size ≤ b ∧ b < g) g b (8 + 32 * k) W h hX hfit
          have hck : (b.drop (8 + 32 * k)).take 32 = chunkF (b.drop 8) k := by unfold chunkF; rw [List.drop_drop]
          have hcl := length_chunkF (b.drop 8) k (by rw [List.length_drop]; omega)
          have hcs := chunksF_succ (b.drop 8) k
          rw [hck] at Hha
          obtain ⟨x, hx⟩ : ∃ x, chunkF (b.drop 8) k = x := ⟨_, rfl⟩
          rw [hx] at Hha hcl hcs
          obtain ⟨q, hq⟩ : ∃ q, chunksF (b.drop 8) k = q := ⟨_, rfl⟩
          have hql : q.length = k := by rw [← hq]; exact length_chunksF _ _
          have ho := hI.own
          rw [hq] at hcs ho
          rw [← hql] at ho
          have Hcs := Lib.hid hcs
          have hrd := hI.rd
          have hle7 := hI.le
          have hbel := hI.bel
          have hnl := Hlen.out
          have hk2 : k ≤ 1000000000 := by omega
          have hbl : q.length ≤ 1000000000 := by omega
          have Hql := Lib.hid hql
          obtain ⟨A7, c7, rfl, -⟩ := owns_slv ho
          clear hI hq hcs hx hck hd hql hnl
          go_wp2_with (first
            | (go_at_call 111; refine Hleft.out.mono ?_; rintro e w4 ⟨rfl, hb4⟩)
            | (go_at_call 112; refine (Hha.out w4 (hrd.step hb4) (fun b hb => by have := hb.2; have := hrd.lt; have := hb4.size; omega)).mono ?_; rintro e w5 ⟨rfl, hR5, hg5⟩)
            | ((with_reducible show wpList _ _ _ (⟨some 8, .alloc _, _, _, _, _⟩ :: _) _ _); refine wpList_hvar (.tmp 8) (.tmp 27) rfl rfl rfl rfl rfl rfl hcl ?_; intro w6 k8 hb6; have h45 : b7 ≤ w5.heap.size := Nat.le_trans (Nat.le_trans hle7 hb4.size) hg5.size; have ho6 := owns_step (owns_keptF (owns_step ho hb4) hg5 hgb) hb6; obtain ⟨v9, w9, hr9, ho9, hg9, -⟩ := append_hw ho6 x hcl hbl (Nat.le_trans h45 hb6.size); have hl9 : (q ++ [x]).length = k + 1 := (by rw [List.length_append, Hql.out]; rfl); rw [hl9] at ho9; obtain ⟨A9, c9, rfl, -⟩ := owns_slv ho9; have Hr9 := Lib.hid hr9; clear hr9; simp only [Act.put])
            | ((with_reducible show wpList _ _ _ (⟨some 32, .load _ _, _, _, _, _⟩ :: _) _ _); refine wpList_hload (.tmp 8) (by kernel_rfl) rfl k8 rfl ?_; simp only [Act.put])
            | ((with_reducible show wpList _ _ _ (⟨some 33, .buildSlice _ _ _, _, _, _, _⟩ :: _) _ _); refine wpList_run rfl _ _ (run_litH1_op x hcl (.tmp 32) rfl rfl _) ?_; simp only [Act.put])
            | ((with_reducible show wpList _ _ _ (⟨some 34, .call _, _, _, _, _⟩ :: _) _ _); refine wpList_run rfl _ w9 (run_append_op (.tmp 31) (.tmp 33) 26 rfl _ _ rfl rfl Hr9.out) ?_; simp only [Act.put]))
          have hb9 : Below b7 w6 w9 := (Below.refl _ _).grown hg9 (Nat.le_trans h45 hb6.size) (fun r e => (ho6.lt r e).1)
          have hbel5 : Below w.heap.size w w5 := (hbel.trans (hb4.mono hbel.size)).grown hg5 (Nat.le_trans hbel.size hb4.size) (fun r e => by have e : g = r := Option.some.inj e; omega)
          rw [← Hcs.out] at ho9
          go_roundw
          case rel => exact ⟨k + 1, by omega, ⟨(hR5.step hb6).far hb9 hgb, ho9, (hbel5.trans (hb6.mono hbel5.size)).trans (hb9.mono (Nat.le_trans hg (Nat.le_of_lt hgb))), Nat.le_trans (Nat.le_trans h45 hb6.size) hb9.size⟩⟩
          case measure => have := Hql.out; simp [sliceLen]; omega
        · have Hha := Lib.hid fun W h hX => rdhash_bad (fun b => w.heap.size ≤ b ∧ b < g) g b (8 + 32 * k) W h hX hfit
          have hr := Hr1.out
          rw [if_pos (by omega)] at hr
          subst hr
          have hz32 : (List.replicate 32 (0 : UInt8)).length = 32 := rfl
          obtain ⟨z, hz⟩ : ∃ z, List.replicate 32 (0 : UInt8) = z := ⟨_, rfl⟩
          rw [hz] at Hha hz32
          clear hz
          have hrd := hI.rd
          have hbel := hI.bel
          clear hI
          go_wp2_with (first
            | (go_at_call 111; refine Hleft.out.mono ?_; rintro e w4 ⟨rfl, hb4⟩)
            | (go_at_call 112; refine (Hha.out w4 (hrd.step hb4) (fun b hb => by have := hb.2; have := hrd.lt; have := hb4.size; omega)).mono ?_; rintro e w5 ⟨rfl, hR5, hg5⟩)
            | ((with_reducible show wpList _ _ _ (⟨some 8, .alloc _, _, _, _, _⟩ :: _) _ _); refine wpList_hvar (.tmp 8) (.tmp 27) rfl rfl rfl rfl rfl rfl hz32 ?_; intro w6 k8 hb6; simp only [Act.put]))
          exact bodyPost_ret (results_tmp2 rfl _ _ _) rfl ⟨_, rfl, .inl ⟨rfl, rfl⟩, ((hbel.trans (hb4.mono hbel.size)).grown hg5 (Nat.le_trans hbel.size hb4.size) (fun r e => by have e : g = r := Option.some.inj e; omega)).trans (hb6.mono (Nat.le_trans (Nat.le_trans hbel.size hb4.size) hg5.size))⟩
  · have hr1 := Hres.out
    rw [if_pos (by omega)] at hr1
    subst hr1
    have Hsg := Lib.hid fun X g W h hX => rdsigned_bad X g b 0 W h hX (by omega)
    go_enter Try.func47, Try.ntmps47
    go_wp2_with (first
      | (go_at_call 109; refine Hnr.out.mono ?_; rintro e w1 ⟨g, rfl, hg, hR1, hb1⟩; have hg1 := hR1.lt)
      | (go_at_call 110; refine (Hsg.out _ g w1 hR1 (fun b hb => by have := hb.2; omega)).mono ?_; rintro e w2 ⟨rfl, hR2, hg2⟩))
    exact bodyPost_ret (results_tmp2 rfl _ _ _) rfl ⟨_, rfl, .inl ⟨rfl, rfl⟩, hb1.grown hg2 hb1.size (fun r e => by have e : g = r := Option.some.inj e; omega)⟩
end Go.Proofs.Ytonidnfgneokbaa
