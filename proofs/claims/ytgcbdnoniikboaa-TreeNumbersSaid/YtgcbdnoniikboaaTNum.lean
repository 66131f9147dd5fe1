/- notarylaw09.TreeNumbers. -/
import Derived.Test.YtgcbdnoniikboaaTKnown
import Derived.Test.YtgcbdnoniikboaaTWhole
import Derived.Test.YtgcbdnoniikboaaTRefP
namespace Go.Proofs.Ytgcbdnoniikboaa
open Go Go.RowKit

/-- the path of a number, or the refusal -/
def pathA (i n : Int) : List (Nat × Nat) × Int := if i < 0 ∨ n ≤ i then ([], 4) else (pathL i.toNat 0 n.toNat, 0)
def stepsA (m n : Int) : List (Nat × Nat) × Int := if m < 0 ∨ n < m then ([], 4) else if m = 0 then ([], 0) else (stepsL m.toNat 0 n.toNat true, 0)
theorem pathA_len (i n : Int) (hn : n ≤ 9223372036854775807) : (pathA i n).1.length ≤ 64 := by
  unfold pathA
  split
  · simp
  · have := pathL_len 63 i.toNat 0 n.toNat (by omega)
    simp only; omega
theorem stepsA_len (i n : Int) (hn : n ≤ 9223372036854775807) : (stepsA i n).1.length ≤ 64 := by
  unfold stepsA
  split
  · simp
  · split
    · simp
    · exact stepsL_len 63 i.toNat 0 n.toNat true (by omega) (by omega) (by omega)
theorem PtC.none_ {w w' : World} (h : Below w.heap.size w w') : PtC w [] (.slice none 0 0) w' := ⟨World.ownsRow_nil _ _ _ _, h⟩
theorem tpathA_any (i n : Int) (w : World) (hn : n ≤ 9223372036854775807) :
    Calls Try.prog 14 #[.int .i64 i, .int .i64 n] w fun e w' => ∃ v, e = .returned (.tuple #[v, .int .i64 (pathA i n).2]) ∧ PtC w (pathA i n).1 v w' := by
  unfold pathA
  by_cases h : i < 0 ∨ n ≤ i
  · rw [if_pos h]
    exact (tpath_bad i n w h).mono fun e w' ⟨he, hw⟩ => ⟨_, he, by subst hw; exact PtC.none_ (Below.refl _ _)⟩
  · rw [if_neg h]
    have := tpath_ok i.toNat n.toNat w (by omega) (by omega)
    rw [show ((i.toNat : Nat) : Int) = i by omega, show ((n.toNat : Nat) : Int) = n by omega] at this
    exact this.mono fun e w' ⟨v, he, h1, h2⟩ => ⟨v, he, h1, h2⟩
theorem rpathA_any (i n : Int) (w : World) (hn : n ≤ 9223372036854775807) :
    Calls Try.prog 23 #[.int .i64 i, .int .i64 n] w fun e w' => ∃ v, e = .returned (.tuple #[v, .int .i64 (pathA i n).2]) ∧ PtC w (pathA i n).1 v w' := by
  unfold pathA
  by_cases h : i < 0 ∨ n ≤ i
  · rw [if_pos h]
    exact (rpath_bad i n w h).mono fun e w' ⟨he, hw⟩ => ⟨_, he, by subst hw; exact PtC.none_ (Below.refl _ _)⟩
  · rw [if_neg h]
    have := rpath_ok i.toNat n.toNat w (by omega) (by omega)
    rw [show ((i.toNat : Nat) : Int) = i by omega, show ((n.toNat : Nat) : Int) = n by omega] at this
    exact this
theorem tstepsA_any (i n : Int) (w : World) (hn : n ≤ 9223372036854775807) :
    Calls Try.prog 17 #[.int .i64 i, .int .i64 n] w fun e w' => ∃ v, e = .returned (.tuple #[v, .int .i64 (stepsA i n).2]) ∧ PtC w (stepsA i n).1 v w' := by
  unfold stepsA
  by_cases h : i < 0 ∨ n < i
  · rw [if_pos h]
    exact (tsteps_bad i n w h).mono fun e w' ⟨he, hw⟩ => ⟨_, he, PtC.none_ hw⟩
  · rw [if_neg h]
    by_cases h0 : i = 0
    · subst h0
      rw [if_pos rfl]
      exact (tsteps_zero n w (by omega)).mono fun e w' ⟨he, hw⟩ => ⟨_, he, PtC.none_ hw⟩
    · rw [if_neg h0]
      have := tsteps_ok i.toNat n.toNat w (by omega) (by omega) (by omega)
      rw [show ((i.toNat : Nat) : Int) = i by omega, show ((n.toNat : Nat) : Int) = n by omega] at this
      exact this.mono fun e w' ⟨v, he, h1, h2⟩ => ⟨v, he, h1, h2⟩
theorem rstepsA_any (i n : Int) (w : World) (hn : n ≤ 9223372036854775807) :
    Calls Try.prog 24 #[.int .i64 i, .int .i64 n] w fun e w' => ∃ v, e = .returned (.tuple #[v, .int .i64 (stepsA i n).2]) ∧ PtC w (stepsA i n).1 v w' := by
  unfold stepsA
  by_cases h : i < 0 ∨ n < i
  · rw [if_pos h]
    exact (rsteps_bad i n w h).mono fun e w' ⟨he, hw⟩ => ⟨_, he, by subst hw; exact PtC.none_ (Below.refl _ _)⟩
  · rw [if_neg h]
    by_cases h0 : i = 0
    · subst h0
      rw [if_pos rfl]
      exact (rsteps_zero n w (by omega)).mono fun e w' ⟨he, hw⟩ => ⟨_, he, by subst hw; exact PtC.none_ (Below.refl _ _)⟩
    · rw [if_neg h0]
      have := rsteps_ok i.toNat n.toNat w (by omega) (by omega) (by omega)
      rw [show ((i.toNat : Nat) : Int) = i by omega, show ((n.toNat : Nat) : Int) = n by omega] at this
      exact this

/-- what a call has told, between two marks of memory -/
structure IvR (W : World) (lo hi : Nat) (v : Value) (os : List (Nat × Nat)) : Prop where
  own : W.ownsRow lo 29 2 v os.length (rcells (natR os))
  lt : ∀ g, v.ownBlock = some g → g < hi
theorem IvR.of_pt {w W : World} {os : List (Nat × Nat)} {v : Value} (h : PtC w os v W) : IvR W w.heap.size W.heap.size v os := ⟨h.own, fun g hg => (h.own.lt g hg).2⟩
theorem IvR.step {W W' : World} {lo hi : Nat} {v : Value} {os : List (Nat × Nat)} (h : IvR W lo hi v os) (hb : Below W.heap.size W W') : IvR W' lo hi v os := ⟨owns_step h.own hb, h.lt⟩
theorem IvR.grown {W W' : World} {lo hi : Nat} {v : Value} {os : List (Nat × Nat)} {row : Option Nat} (h : IvR W lo hi v os) (hg : W.grownBy W' row) (hr : ∀ g, row = some g → g < lo ∨ hi ≤ g) : IvR W' lo hi v os := by
  refine ⟨h.own.kept hg ?_, h.lt⟩
  cases hv : v.ownBlock with
  | none => exact .inl rfl
  | some g =>
    refine .inr fun e => ?_
    have h1 := (h.own.lt g hv).1
    have h2 := h.lt g hv
    have := hr g e.symm
    omega
theorem IvR.rs {W : World} {lo hi : Nat} {v : Value} {os : List (Nat × Nat)} (h : IvR W lo hi v os) : ∃ A c, v = .slice A os.length c ∧ Rs W (fun _ => True) A os.length c (natR os) := by
  obtain ⟨A, c, hv, hs⟩ := Rs.of_owns h.own (natR_length os)
  exact ⟨A, c, hv, hs.weak fun _ _ _ => trivial⟩

set_option maxHeartbeats 4000000 in
set_option maxRecDepth 100000 in
theorem treenumbers_any (i n : Int) (w : World) (hn : n ≤ 9223372036854775807) :
    Calls Try.prog 5 #[.int .i64 i, .int .i64 n] w fun e w' => e = .returned (.bool true) ∧ Below w.heap.size w w' := by
  have hwl : (wholeL 0 n.toNat).length ≤ 64 := wholeL_len 63 0 n.toNat (by omega)
  have hpl := pathA_len i n hn
  have hsl := stepsA_len i n hn
  have hw := fun W => twhole_any n W hn
  have hw' := fun W => rwhole_any n W hn
  have hp := fun W => tpathA_any i n W hn
  have hp' := fun W => rpathA_any i n W hn
  have hs := fun W => tstepsA_any i n W hn
  have hs' := fun W => rstepsA_any i n W hn
  have h1 := fun W => tsplit_any n W hn
  have h2 := fun W => rsplit_any n W hn
  obtain ⟨lw, hlw⟩ : ∃ l, wholeL 0 n.toNat = l := ⟨_, rfl⟩
  obtain ⟨⟨lp, ep⟩, hlp⟩ : ∃ l, pathA i n = l := ⟨_, rfl⟩
  obtain ⟨⟨ls, es⟩, hls⟩ : ∃ l, stepsA i n = l := ⟨_, rfl⟩
  obtain ⟨sp, hsp⟩ : ∃ s, splitN n.toNat = s := ⟨_, rfl⟩
  rw [hlw] at hwl hw hw'
  rw [hlp] at hpl hp hp'
  rw [hls] at hsl hs hs'
  rw [hsp] at h1 h2
  dsimp only at hpl hsl hp hp' hs hs'
  have Hw := Lib.hid hw
  have Hw' := Lib.hid hw'
  have Hp := Lib.hid hp
  have Hp' := Lib.hid hp'
  have Hs := Lib.hid hs
  have Hs' := Lib.hid hs'
  have H1 := Lib.hid h1
  have H2 := Lib.hid h2
  clear hw hw' hp hp' hs hs' h1 h2 hlw hlp hls hsp
  go_enter Try.func5, Try.ntmps5
  go_wp2_with fail
  refine (Hw.out _).mono ?_
  rintro e w1 ⟨va, rfl, ho, hb⟩
  have hC : PtC w lw va w1 := ⟨ho, hb⟩
  have ivA := IvR.of_pt hC
  have hB := hC.bel
  have z0 := hC.bel.size
  clear hC ho hb
  go_wp2_with fail
  refine (Hw.out _).mono ?_
  rintro e w2 ⟨vb, rfl, ho, hb⟩
  have hC : PtC w1 lw vb w2 := ⟨ho, hb⟩
  replace ivA := ivA.step hC.bel
  have ivB := IvR.of_pt hC
  replace hB := hB.trans (hC.bel.mono hB.size)
  have z1 := hC.bel.size
  clear hC ho hb
  go_wp2_with fail
  refine (Hp.out _).mono ?_
  rintro e w3 ⟨vc, rfl, hC⟩
  replace ivA := ivA.step hC.bel
  replace ivB := ivB.step hC.bel
  have ivC := IvR.of_pt hC
  replace hB := hB.trans (hC.bel.mono hB.size)
  have z2 := hC.bel.size
  clear hC
  go_wp2_with fail
  refine (Hp.out _).mono ?_
  rintro e w4 ⟨vd, rfl, hC⟩
  replace ivA := ivA.step hC.bel
  replace ivB := ivB.step hC.bel
  replace ivC := ivC.step hC.bel
  have ivD := IvR.of_pt hC
  replace hB := hB.trans (hC.bel.mono hB.size)
  have z3 := hC.bel.size
  clear hC
  go_wp2_with fail
  refine (Hs.out _).mono ?_
  rintro e w5 ⟨ve, rfl, hC⟩
  replace ivA := ivA.step hC.bel
  replace ivB := ivB.step hC.bel
  replace ivC := ivC.step hC.bel
  replace ivD := ivD.step hC.bel
  have ivE := IvR.of_pt hC
  replace hB := hB.trans (hC.bel.mono hB.size)
  have z4 := hC.bel.size
  clear hC
  go_wp2_with fail
  refine (Hs.out _).mono ?_
  rintro e w6 ⟨vf, rfl, hC⟩
  replace ivA := ivA.step hC.bel
  replace ivB := ivB.step hC.bel
  replace ivC := ivC.step hC.bel
  replace ivD := ivD.step hC.bel
  replace ivE := ivE.step hC.bel
  have ivF := IvR.of_pt hC
  replace hB := hB.trans (hC.bel.mono hB.size)
  have z5 := hC.bel.size
  clear hC
  go_wp2_with fail
  refine (Hw'.out _).mono ?_
  rintro e w7 ⟨vg, rfl, ho, hb⟩
  have hC : PtC w6 lw vg w7 := ⟨ho, hb⟩
  replace ivA := ivA.step hC.bel
  replace ivB := ivB.step hC.bel
  replace ivC := ivC.step hC.bel
  replace ivD := ivD.step hC.bel
  replace ivE := ivE.step hC.bel
  replace ivF := ivF.step hC.bel
  have ivG := IvR.of_pt hC
  replace hB := hB.trans (hC.bel.mono hB.size)
  have z6 := hC.bel.size
  clear hC ho hb
  go_wp2_with fail
  refine (Hp'.out _).mono ?_
  rintro e w8 ⟨vh, rfl, hC⟩
  replace ivA := ivA.step hC.bel
  replace ivB := ivB.step hC.bel
  replace ivC := ivC.step hC.bel
  replace ivD := ivD.step hC.bel
  replace ivE := ivE.step hC.bel
  replace ivF := ivF.step hC.bel
  replace ivG := ivG.step hC.bel
  have ivH := IvR.of_pt hC
  replace hB := hB.trans (hC.bel.mono hB.size)
  have z7 := hC.bel.size
  clear hC
  go_wp2_with fail
  refine (Hs'.out _).mono ?_
  rintro e w9 ⟨vj, rfl, hC⟩
  replace ivA := ivA.step hC.bel
  replace ivB := ivB.step hC.bel
  replace ivC := ivC.step hC.bel
  replace ivD := ivD.step hC.bel
  replace ivE := ivE.step hC.bel
  replace ivF := ivF.step hC.bel
  replace ivG := ivG.step hC.bel
  replace ivH := ivH.step hC.bel
  have ivJ := IvR.of_pt hC
  replace hB := hB.trans (hC.bel.mono hB.size)
  have z8 := hC.bel.size
  clear hC
  obtain ⟨Aa, ca, rfl, ra⟩ := ivA.rs
  obtain ⟨Ab, cb, rfl, rb⟩ := ivB.rs
  obtain ⟨Ac, cc, rfl, rc⟩ := ivC.rs
  obtain ⟨Ad, cd, rfl, rd⟩ := ivD.rs
  obtain ⟨Ae, ce, rfl, re⟩ := ivE.rs
  obtain ⟨Af, cf, rfl, rf⟩ := ivF.rs
  obtain ⟨Ag, cg, rfl, rg⟩ := ivG.rs
  obtain ⟨Ah, ch, rfl, rh⟩ := ivH.rs
  obtain ⟨Aj, cj, rfl, rj⟩ := ivJ.rs
  have hne1 : ((sp : Int) != (sp : Int)) = false := by simp
  have hne2 : ((ep : Int) != (ep : Int)) = false := by simp
  have hne3 : ((es : Int) != (es : Int)) = false := by simp
  obtain ⟨nlw, hnlw⟩ : ∃ m, List.length lw = m := ⟨_, rfl⟩
  obtain ⟨nlp, hnlp⟩ : ∃ m, List.length lp = m := ⟨_, rfl⟩
  obtain ⟨nls, hnls⟩ : ∃ m, List.length ls = m := ⟨_, rfl⟩
  rw [hnlw] at ra
  rw [hnlw] at rb
  rw [hnlp] at rc
  rw [hnlp] at rd
  rw [hnls] at re
  rw [hnls] at rf
  rw [hnlw] at rg
  rw [hnlp] at rh
  rw [hnls] at rj
  rw [hnlw] at hwl
  rw [hnlp] at hpl
  rw [hnls] at hsl
  rw [hnlw, hnlp, hnls]
  have Nlw := Lib.hid hnlw
  have Nlp := Lib.hid hnlp
  have Nls := Lib.hid hnls
  clear hnlw hnlp hnls
  go_wp2_with (first
    | (go_at_call 25; refine (H1.out _).mono ?_; rintro e u1 ⟨rfl, rfl⟩)
    | (go_at_call 26; refine (H2.out _).mono ?_; rintro e u2 ⟨rfl, rfl⟩))
  refine (samer_any (natR lw) Aa Ag nlw ca cg w9 ra rg (by omega)).mono ?_
  rintro e w10 ⟨rfl, hb10⟩
  go_wp2_with fail
  refine (samer_any (natR lp) Ac Ah nlp cc ch w10 (rc.step hb10) (rh.step hb10) (by omega)).mono ?_
  rintro e w11 ⟨rfl, hb11'⟩
  have hb11 := hb10.trans (hb11'.mono hb10.size)
  go_wp2_with fail
  refine (samer_any (natR ls) Ae Aj nls ce cj w11 (re.step hb11) (rj.step hb11) (by omega)).mono ?_
  rintro e w12 ⟨rfl, hb12'⟩
  have hb12 := hb11.trans (hb12'.mono hb11.size)
  clear hb10 hb11 hb11' hb12'
  replace ivA := ivA.step hb12
  clear ra
  replace ivB := ivB.step hb12
  clear rb
  replace ivC := ivC.step hb12
  clear rc
  replace ivD := ivD.step hb12
  clear rd
  replace ivE := ivE.step hb12
  clear re
  replace ivF := ivF.step hb12
  clear rf
  replace ivG := ivG.step hb12
  clear rg
  replace ivH := ivH.step hb12
  clear rh
  replace ivJ := ivJ.step hb12
  clear rj
  replace hB := hB.trans (hb12.mono hB.size)
  have z9 := hb12.size
  clear hb12 hne1 hne2 hne3
  go_wp2_with fail
  have la_lt := ivA.lt
  rw [Nlw.out] at la_lt
  obtain ⟨xs0, ox0⟩ : ∃ xs, w12.ownsRow w.heap.size 29 2 (.slice Aa nlw ca) nlw xs := ⟨_, by have := ivA.own; rw [Nlw.out] at this; exact this⟩
  clear ivA
  go_loopw [20] (fun v wr => ∃ k : Nat, k ≤ nlw ∧ v = .int .i64 (k : Int) ∧ (∃ xs, wr.ownsRow w.heap.size 29 2 (.slice Aa nlw ca) nlw xs) ∧ w12.grownBy wr (Value.slice Aa nlw ca).ownBlock) (fun v _ => nlw - (intOf v).toNat)
  case atStart => exact ⟨0, Nat.zero_le _, rfl, ⟨_, ox0⟩, ⟨rfl, rfl, rfl, Nat.le_refl _, fun _ _ _ => rfl⟩⟩
  case round =>
    clear ox0
    obtain ⟨k, hk, rfl, ⟨xs, hown⟩, hg⟩ := hrel
    by_cases hlt : k < nlw
    · obtain ⟨g, rfl⟩ : ∃ g, Aa = some ⟨g, 0, none⟩ := by
        rcases hown.2 with ⟨hv, h0⟩ | ⟨g, cap, cur, hv, _⟩
        · omega
        · cases hv; exact ⟨g, rfl⟩
      obtain ⟨cur, hblk, hsz, -, hown'⟩ := owns_put hown k hlt [.int .i64 99, .int .i64 0] rfl
      have hg' := grown_setRow hg (cur.toList.take (k * 2) ++ [Value.int .i64 99, .int .i64 0] ++ cur.toList.drop (k * 2 + 2)).toArray
      clear hown hg
      have Ho := Lib.hid hown'
      have Hg := Lib.hid hg'
      clear hown' hg'
      go_wp2_with ((with_reducible show wpList _ _ _ (⟨none, .store _ (.tmp 107) _, _, _, _, _⟩ :: _) _ _); refine wpList_store_agg rfl 29 (.tmp 107) (.tmp 106) rfl 2 sizeR g (k * 2) #[.int .i64 99, .int .i64 0] rfl rfl rfl (by simp [Value.oneCell']) 29 _ hblk hsz ?_; simp only [Act.put]; refine wpList_world (fun W => (∃ xs, W.ownsRow w.heap.size 29 2 (.slice (some ⟨g, 0, none⟩) nlw ca) nlw xs) ∧ w12.grownBy W (some g)) ⟨⟨_, Ho.out⟩, Hg.out⟩ ?_; rintro W4 ⟨ho4, hg4⟩)
      refine ⟨⟨k + 1, by omega, by go_num, ho4, hg4⟩, by simp [intOf]; omega⟩
    · obtain rfl : k = nlw := by omega
      obtain ⟨w13, rfl⟩ : ∃ W, W = wr := ⟨_, rfl⟩
      have hrow : ∀ g, (Value.slice Aa k ca).ownBlock = some g → w.heap.size ≤ g ∧ g < w1.heap.size := fun g hg' => ⟨(hown.lt g hg').1, by have := la_lt g hg'; exact this⟩
      replace ivB := ivB.grown hg (fun g hg' => by have := hrow g hg'; omega)
      replace ivC := ivC.grown hg (fun g hg' => by have := hrow g hg'; omega)
      replace ivD := ivD.grown hg (fun g hg' => by have := hrow g hg'; omega)
      replace ivE := ivE.grown hg (fun g hg' => by have := hrow g hg'; omega)
      replace ivF := ivF.grown hg (fun g hg' => by have := hrow g hg'; omega)
      replace ivG := ivG.grown hg (fun g hg' => by have := hrow g hg'; omega)
      replace ivH := ivH.grown hg (fun g hg' => by have := hrow g hg'; omega)
      replace ivJ := ivJ.grown hg (fun g hg' => by have := hrow g hg'; omega)
      replace hB := hB.grown hg hB.size (fun g hg' => by have := hrow g hg'; omega)
      clear hrow la_lt hg hown
      go_wp2_with fail
      have lc_lt := ivC.lt
      rw [Nlp.out] at lc_lt
      obtain ⟨xs0, ox0⟩ : ∃ xs, w13.ownsRow w2.heap.size 29 2 (.slice Ac nlp cc) nlp xs := ⟨_, by have := ivC.own; rw [Nlp.out] at this; exact this⟩
      clear ivC
      go_loopw [21] (fun v wr => ∃ k : Nat, k ≤ nlp ∧ v = .int .i64 (k : Int) ∧ (∃ xs, wr.ownsRow w2.heap.size 29 2 (.slice Ac nlp cc) nlp xs) ∧ w13.grownBy wr (Value.slice Ac nlp cc).ownBlock) (fun v _ => nlp - (intOf v).toNat)
      case atStart => exact ⟨0, Nat.zero_le _, rfl, ⟨_, ox0⟩, ⟨rfl, rfl, rfl, Nat.le_refl _, fun _ _ _ => rfl⟩⟩
      case round =>
        clear ox0
        obtain ⟨k, hk, rfl, ⟨xs, hown⟩, hg⟩ := hrel
        by_cases hlt : k < nlp
        · obtain ⟨g, rfl⟩ : ∃ g, Ac = some ⟨g, 0, none⟩ := by
            rcases hown.2 with ⟨hv, h0⟩ | ⟨g, cap, cur, hv, _⟩
            · omega
            · cases hv; exact ⟨g, rfl⟩
          obtain ⟨cur, hblk, hsz, -, hown'⟩ := owns_put hown k hlt [.int .i64 99, .int .i64 0] rfl
          have hg' := grown_setRow hg (cur.toList.take (k * 2) ++ [Value.int .i64 99, .int .i64 0] ++ cur.toList.drop (k * 2 + 2)).toArray
          clear hown hg
          have Ho := Lib.hid hown'
          have Hg := Lib.hid hg'
          clear hown' hg'
          go_wp2_with ((with_reducible show wpList _ _ _ (⟨none, .store _ (.tmp 117) _, _, _, _, _⟩ :: _) _ _); refine wpList_store_agg rfl 29 (.tmp 117) (.tmp 116) rfl 2 sizeR g (k * 2) #[.int .i64 99, .int .i64 0] rfl rfl rfl (by simp [Value.oneCell']) 29 _ hblk hsz ?_; simp only [Act.put]; refine wpList_world (fun W => (∃ xs, W.ownsRow w2.heap.size 29 2 (.slice (some ⟨g, 0, none⟩) nlp cc) nlp xs) ∧ w13.grownBy W (some g)) ⟨⟨_, Ho.out⟩, Hg.out⟩ ?_; rintro W4 ⟨ho4, hg4⟩)
          refine ⟨⟨k + 1, by omega, by go_num, ho4, hg4⟩, by simp [intOf]; omega⟩
        · obtain rfl : k = nlp := by omega
          obtain ⟨w14, rfl⟩ : ∃ W, W = wr := ⟨_, rfl⟩
          have hrow : ∀ g, (Value.slice Ac k cc).ownBlock = some g → w2.heap.size ≤ g ∧ g < w3.heap.size := fun g hg' => ⟨(hown.lt g hg').1, by have := lc_lt g hg'; exact this⟩
          replace ivB := ivB.grown hg (fun g hg' => by have := hrow g hg'; omega)
          replace ivD := ivD.grown hg (fun g hg' => by have := hrow g hg'; omega)
          replace ivE := ivE.grown hg (fun g hg' => by have := hrow g hg'; omega)
          replace ivF := ivF.grown hg (fun g hg' => by have := hrow g hg'; omega)
          replace ivG := ivG.grown hg (fun g hg' => by have := hrow g hg'; omega)
          replace ivH := ivH.grown hg (fun g hg' => by have := hrow g hg'; omega)
          replace ivJ := ivJ.grown hg (fun g hg' => by have := hrow g hg'; omega)
          replace hB := hB.grown hg hB.size (fun g hg' => by have := hrow g hg'; omega)
          clear hrow lc_lt hg hown
          go_wp2_with fail
          have le_lt := ivE.lt
          rw [Nls.out] at le_lt
          obtain ⟨xs0, ox0⟩ : ∃ xs, w14.ownsRow w4.heap.size 29 2 (.slice Ae nls ce) nls xs := ⟨_, by have := ivE.own; rw [Nls.out] at this; exact this⟩
          clear ivE
          go_loopw [22] (fun v wr => ∃ k : Nat, k ≤ nls ∧ v = .int .i64 (k : Int) ∧ (∃ xs, wr.ownsRow w4.heap.size 29 2 (.slice Ae nls ce) nls xs) ∧ w14.grownBy wr (Value.slice Ae nls ce).ownBlock) (fun v _ => nls - (intOf v).toNat)
          case atStart => exact ⟨0, Nat.zero_le _, rfl, ⟨_, ox0⟩, ⟨rfl, rfl, rfl, Nat.le_refl _, fun _ _ _ => rfl⟩⟩
          case round =>
            clear ox0
            obtain ⟨k, hk, rfl, ⟨xs, hown⟩, hg⟩ := hrel
            by_cases hlt : k < nls
            · obtain ⟨g, rfl⟩ : ∃ g, Ae = some ⟨g, 0, none⟩ := by
                rcases hown.2 with ⟨hv, h0⟩ | ⟨g, cap, cur, hv, _⟩
                · omega
                · cases hv; exact ⟨g, rfl⟩
              obtain ⟨cur, hblk, hsz, -, hown'⟩ := owns_put hown k hlt [.int .i64 99, .int .i64 0] rfl
              have hg' := grown_setRow hg (cur.toList.take (k * 2) ++ [Value.int .i64 99, .int .i64 0] ++ cur.toList.drop (k * 2 + 2)).toArray
              clear hown hg
              have Ho := Lib.hid hown'
              have Hg := Lib.hid hg'
              clear hown' hg'
              go_wp2_with ((with_reducible show wpList _ _ _ (⟨none, .store _ (.tmp 127) _, _, _, _, _⟩ :: _) _ _); refine wpList_store_agg rfl 29 (.tmp 127) (.tmp 126) rfl 2 sizeR g (k * 2) #[.int .i64 99, .int .i64 0] rfl rfl rfl (by simp [Value.oneCell']) 29 _ hblk hsz ?_; simp only [Act.put]; refine wpList_world (fun W => (∃ xs, W.ownsRow w4.heap.size 29 2 (.slice (some ⟨g, 0, none⟩) nls ce) nls xs) ∧ w14.grownBy W (some g)) ⟨⟨_, Ho.out⟩, Hg.out⟩ ?_; rintro W4 ⟨ho4, hg4⟩)
              refine ⟨⟨k + 1, by omega, by go_num, ho4, hg4⟩, by simp [intOf]; omega⟩
            · obtain rfl : k = nls := by omega
              obtain ⟨w15, rfl⟩ : ∃ W, W = wr := ⟨_, rfl⟩
              have hrow : ∀ g, (Value.slice Ae k ce).ownBlock = some g → w4.heap.size ≤ g ∧ g < w5.heap.size := fun g hg' => ⟨(hown.lt g hg').1, by have := le_lt g hg'; exact this⟩
              replace ivB := ivB.grown hg (fun g hg' => by have := hrow g hg'; omega)
              replace ivD := ivD.grown hg (fun g hg' => by have := hrow g hg'; omega)
              replace ivF := ivF.grown hg (fun g hg' => by have := hrow g hg'; omega)
              replace ivG := ivG.grown hg (fun g hg' => by have := hrow g hg'; omega)
              replace ivH := ivH.grown hg (fun g hg' => by have := hrow g hg'; omega)
              replace ivJ := ivJ.grown hg (fun g hg' => by have := hrow g hg'; omega)
              replace hB := hB.grown hg hB.size (fun g hg' => by have := hrow g hg'; omega)
              clear hrow le_lt hg hown
              obtain ⟨_, _, hvb, rb⟩ := ivB.rs
              obtain ⟨_, _, hvd, rd⟩ := ivD.rs
              obtain ⟨_, _, hvf, rf⟩ := ivF.rs
              obtain ⟨_, _, hvg, rg⟩ := ivG.rs
              obtain ⟨_, _, hvh, rh⟩ := ivH.rs
              obtain ⟨_, _, hvj, rj⟩ := ivJ.rs
              cases hvb; cases hvd; cases hvf; cases hvg; cases hvh; cases hvj
              rw [Nlw.out] at rb rg
              rw [Nlp.out] at rd rh
              rw [Nls.out] at rf rj
              go_wp2_with fail
              refine (samer_any (natR lw) Ab Ag _ cb cg w15 rb rg (by omega)).mono ?_
              rintro e w16 ⟨rfl, hb16⟩
              go_wp2_with fail
              refine (samer_any (natR lp) Ad Ah _ cd ch w16 (rd.step hb16) (rh.step hb16) (by omega)).mono ?_
              rintro e w17 ⟨rfl, hb17'⟩
              have hb17 := hb16.trans (hb17'.mono hb16.size)
              go_wp2_with fail
              refine (samer_any (natR ls) Af Aj _ cf cj w17 (rf.step hb17) (rj.step hb17) (by omega)).mono ?_
              rintro e w18 ⟨rfl, hb18'⟩
              have hb18 := hb17.trans (hb18'.mono hb17.size)
              go_wp2_with (go_at_call 15; refine (known9_any _).mono ?_; rintro e w19 ⟨rfl, hb19⟩)
              go_ret
              have hb20 := hB.trans (hb18.mono hB.size)
              exact ⟨rfl, hb20.trans (hb19.mono hb20.size)⟩
end Go.Proofs.Ytgcbdnoniikboaa
