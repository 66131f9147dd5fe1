/- notarylaw09.TreeNumbers. -/
import Derived.Test.YtgcbdnoniikboaaQb120
import Derived.Test.YtgcbdnoniikboaaQb118
import Derived.Test.YtgcbdnoniikboaaQb117
namespace Go.Proofs.Ytgcbdnoniikboaa
open Go Go.RowKit

/-- the path of a number, or the refusal -/
def pathA (i n : Int) : List (Nat × Nat) × Int := if i < 0 ∨ n ≤ i then ([], 4) else (pathL i.toNat 0 n.toNat, 0)
def stepsA (m n : Int) : List (Nat × Nat) × Int := if m < 0 ∨ n < m then ([], 4) else if m = 0 then ([], 0) else (stepsL m.toNat 0 n.toNat true, 0)
theorem pathA_len (i n : Int) (hn : n ≤ 9223372036854775807) : (pathA i n).1.length ≤ 64 := by
  unfold pathA
  split
  · simp
  · have := pathL_len 63 i.toNat 0 n.toNat (by omega)
    simp only; omega
theorem stepsA_len (i n : Int) (hn : n ≤ 9223372036854775807) : (stepsA i n).1.length ≤ 64 := by
  unfold stepsA
  split
  · simp
  · split
    · simp
    · exact stepsL_len 63 i.toNat 0 n.toNat true (by omega) (by omega) (by omega)
theorem PtC.none_ {w w' : World} (h : Below w.heap.size w w') : PtC w [] (.slice none 0 0) w' := ⟨World.ownsRow_nil _ _ _ _, h⟩
theorem tpathA_any (i n : Int) (w : World) (hn : n ≤ 9223372036854775807) :
    Calls Try.prog 14 #[.int .i64 i, .int .i64 n] w fun e w' => ∃ v, e = .returned (.tuple #[v, .int .i64 (pathA i n).2]) ∧ PtC w (pathA i n).1 v w' := by
  unfold pathA
  by_cases h : i < 0 ∨ n ≤ i
  · rw [if_pos h]
    exact (tpath_bad i n w h).mono fun e w' ⟨he, hw⟩ => ⟨_, he, by subst hw; exact PtC.none_ (Below.refl _ _)⟩
  · rw [if_neg h]
    have := tpath_ok i.toNat n.toNat w (by omega) (by omega)
    rw [show ((i.toNat : Nat) : Int) = i by omega, show ((n.toNat : Nat) : Int) = n by omega] at this
    exact this.mono fun e w' ⟨v, he, h1, h2⟩ => ⟨v, he, h1, h2⟩
theorem rpathA_any (i n : Int) (w : World) (hn : n ≤ 9223372036854775807) :
    Calls Try.prog 23 #[.int .i64 i, .int .i64 n] w fun e w' => ∃ v, e = .returned (.tuple #[v, .int .i64 (pathA i n).2]) ∧ PtC w (pathA i n).1 v w' := by
  unfold pathA
  by_cases h : i < 0 ∨ n ≤ i
  · rw [if_pos h]
    exact (rpath_bad i n w h).mono fun e w' ⟨he, hw⟩ => ⟨_, he, by subst hw; exact PtC.none_ (Below.refl _ _)⟩
  · rw [if_neg h]
    have := rpath_ok i.toNat n.toNat w (by omega) (by omega)
    rw [show ((i.toNat : Nat) : Int) = i by omega, show ((n.toNat : Nat) : Int) = n by omega] at this
    exact this
theorem tstepsA_any (i n : Int) (w : World) (hn : n ≤ 9223372036854775807) :
    Calls Try.prog 17 #[.int .i64 i, .int .i64 n] w fun e w' => ∃ v, e = .returned (.tuple #[v, .int .i64 (stepsA i n).2]) ∧ PtC w (stepsA i n).1 v w' := by
  unfold stepsA
  by_cases h : i < 0 ∨ n < i
  · rw [if_pos h]
    exact (tsteps_bad i n w h).mono fun e w' ⟨he, hw⟩ => ⟨_, he, PtC.none_ hw⟩
  · rw [if_neg h]
    by_cases h0 : i = 0
    · subst h0
      rw [if_pos rfl]
      exact (tsteps_zero n w (by omega)).mono fun e w' ⟨he, hw⟩ => ⟨_, he, PtC.none_ hw⟩
    · rw [if_neg h0]
      have := tsteps_ok i.toNat n.toNat w (by omega) (by omega) (by omega)
      rw [show ((i.toNat : Nat) : Int) = i by omega, show ((n.toNat : Nat) : Int) = n by omega] at this
      exact this.mono fun e w' ⟨v, he, h1, h2⟩ => ⟨v, he, h1, h2⟩
theorem rstepsA_any (i n : Int) (w : World) (hn : n ≤ 9223372036854775807) :
    Calls Try.prog 24 #[.int .i64 i, .int .i64 n] w fun e w' => ∃ v, e = .returned (.tuple #[v, .int .i64 (stepsA i n).2]) ∧ PtC w (stepsA i n).1 v w' := by
  unfold stepsA
  by_cases h : i < 0 ∨ n < i
  · rw [if_pos h]
    exact (rsteps_bad i n w h).mono fun e w' ⟨he, hw⟩ => ⟨_, he, by subst hw; exact PtC.none_ (Below.refl _ _)⟩
  · rw [if_neg h]
    by_cases h0 : i = 0
    · subst h0
      rw [if_pos rfl]
      exact (rsteps_zero n w (by omega)).mono fun e w' ⟨he, hw⟩ => ⟨_, he, by subst hw; exact PtC.none_ (Below.refl _ _)⟩
    · rw [if_neg h0]
      have := rsteps_ok i.toNat n.toNat w (by omega) (by omega) (by omega)
      rw [show ((i.toNat : Nat) : Int) = i by omega, show ((n.toNat : Nat) : Int) = n by omega] at this
      exact this

/-- what a call has told, between two marks of memory -/
structure IvR (W : World) (lo hi : Nat) (v : Value) (os : List (Nat × Nat)) : Prop where
  own : W.ownsRow lo 29 2 v os.length (rcells (natR os))
  lt : ∀ g, v.ownBlock = some g → g < hi
theorem IvR.of_pt {w W : World} {os : List (Nat × Nat)} {v : Value} (h : PtC w os v W) : IvR W w.heap.size W.heap.size v os := ⟨h.own, fun g hg => (h.own.lt g hg).2⟩
theorem IvR.step {W W' : World} {lo hi : Nat} {v : Value} {os : List (Nat × Nat)} (h : IvR W lo hi v os) (hb : Below W.heap.size W W') : IvR W' lo hi v os := ⟨owns_step h.own hb, h.lt⟩
theorem IvR.grown {W W' : World} {lo hi : Nat} {v : Value} {os : List (Nat × Nat)} {row : Option Nat} (h : IvR W lo hi v os) (hg : W.grownBy W' row) (hr : ∀ g, row = some g → g < lo ∨ hi ≤ g) : IvR W' lo hi v os := by
  refine ⟨h.own.kept hg ?_, h.lt⟩
  cases hv : v.ownBlock with
  | none => exact .inl rfl
  | some g =>
    refine .inr fun e => ?_
    have h1 := (h.own.lt g hv).1
    have h2 := h.lt g hv
    have := hr g e.symm
    omega
theorem IvR.rs {W : World} {lo hi : Nat} {v : Value} {os : List (Nat × Nat)} (h : IvR W lo hi v os) : ∃ A c, v = .slice A os.length c ∧ Rs W (fun _ => True) A os.length c (natR os) := by
  obtain ⟨A, c, hv, hs⟩ := Rs.of_owns h.own (natR_length os)
  exact ⟨A, c, hv, hs.weak fun _ _ _ => trivial⟩

set_option maxHeartbeats 4000000 in
set_option maxRecDepth 100000 in
theorem treenumbers_any (i n : Int) (w : World) (hn : n ≤ 9223372036854775807) :
    Calls Try.prog 5 #[.int .i64 i, .int .i64 n] w fun e w' => e = .returned (.bool true) ∧ Below w.heap.size w w' := by
  have hwl : (wholeL 0 n.toNat).length ≤ 64 := wholeL_len 63 0 n.toNat (by omega)
  have hpl := pathA_len i n hn
  have hsl := stepsA_len i n hn
  have hw := fun W => twhole_any n W hn
  have hw' := fun W => rwhole_any n W hn
  have hp := fun W => tpathA_any i n W hn
  have hp' := fun W => rpathA_any i n W hn
  have hs := fun W => tstepsA_any i n W hn
  have hs' := fun W => rstepsA_any i n W hn
  have h1 := fun W => tsplit_any n W hn
  have h2 := fun W => rsplit_any n W hn
  obtain ⟨lw, hlw⟩ : ∃ l, wholeL 0 n.toNat = l := ⟨_, rfl⟩
  obtain ⟨⟨lp, ep⟩, hlp⟩ : ∃ l, pathA i n = l := ⟨_, rfl⟩
  obtain ⟨⟨ls, es⟩, hls⟩ : ∃ l, stepsA i n = l := ⟨_, rfl⟩
  obtain ⟨sp, hsp⟩ : ∃ s, splitN n.toNat = s := ⟨_, rfl⟩
  rw [hlw] at hwl hw hw'
  rw [hlp] at hpl hp hp'
  rw [hls] at hsl hs hs'
  rw [hsp] at h1 h2
  dsimp only at hpl hsl hp hp' hs hs'
  have Hw := Lib.hid hw
  have Hw' := Lib.hid hw'
  have Hp := Lib.hid hp
  have Hp' := Lib.hid hp'
  have Hs := Lib.hid hs
  have Hs' := Lib.hid hs'
  have H1 := Lib.hid h1
  have H2 := Lib.hid h2
  clear hw hw' hp hp' hs hs' h1 h2 hlw hlp hls hsp
  go_enter Try.func5, Try.ntmps5
  go_wp2_with fail
  refine (Hw.out _).mono ?_
  rintro e w1 ⟨va, rfl, ho, hb⟩
  have hC : PtC w lw va w1 := ⟨ho, hb⟩
  have ivA := IvR.of_pt hC
  have hB := hC.bel
  have z0 := hC.bel.size
  clear hC ho hb
  go_wp2_with fail
  refine (Hw.out _).mono ?_
  rintro e w2 ⟨vb, rfl, ho, hb⟩
  have hC : PtC w1 lw vb w2 := ⟨ho, hb⟩
  replace ivA := ivA.step hC.bel
  have ivB := IvR.of_pt hC
  replace hB := hB.trans (hC.bel.mono hB.size)
  have z1 := hC.bel.size
  clear hC ho hb
  go_wp2_with fail
  refine (Hp.out _).mono ?_
  rintro e w3 ⟨vc, rfl, hC⟩
  replace ivA := ivA.step hC.bel
  replace ivB := ivB.step hC.bel
  have ivC := IvR.of_pt hC
  replace hB := hB.trans (hC.bel.mono hB.size)
  have z2 := hC.bel.size
  clear hC
  go_wp2_with fail
  refine (Hp.out _).mono ?_
  rintro e w4 ⟨vd, rfl, hC⟩
  replace ivA := ivA.step hC.bel
  replace ivB := ivB.step hC.bel
  replace ivC := ivC.step hC.bel
  have ivD := IvR.of_pt hC
  replace hB := hB.trans (hC.bel.mono hB.size)
  have z3 := hC.bel.size
  clear hC
  go_wp2_with fail
  refine (Hs.out _).mono ?_
  rintro e w5 ⟨ve, rfl, hC⟩
  replace ivA := ivA.step hC.bel
  replace ivB := ivB.step hC.bel
  replace ivC := ivC.step hC.bel
  replace ivD := ivD.step hC.bel
  have ivE := IvR.of_pt hC
  replace hB := hB.trans (hC.bel.mono hB.size)
  have z4 := hC.bel.size
  clear hC
  go_wp2_with fail
  refine (Hs.out _).mono ?_
  rintro e w6 ⟨vf, rfl, hC⟩
  replace ivA := ivA.step hC.bel
  replace ivB := ivB.step hC.bel
  replace ivC := ivC.step hC.bel
  replace ivD := ivD.step hC.bel
  replace ivE := ivE.step hC.bel
  have ivF := IvR.of_pt hC
  replace hB := hB.trans (hC.bel.mono hB.size)
  have z5 := hC.bel.size
  clear hC
  go_wp2_with fail
  refine (Hw'.out _).mono ?_
  rintro e w7 ⟨vg, rfl, ho, hb⟩
  have hC : PtC w6 lw vg w7 := ⟨ho, hb⟩
  replace ivA := ivA.step hC.bel
  replace ivB := ivB.step hC.bel
  replace ivC := ivC.step hC.bel
  replace ivD := ivD.step hC.bel
  replace ivE := ivE.step hC.bel
  replace ivF := ivF.step hC.bel
  have ivG := IvR.of_pt hC
  replace hB := hB.trans (hC.bel.mono hB.size)
  have z6 := hC.bel.size
  clear hC ho hb
  go_wp2_with fail
  refine (Hp'.out _).mono ?_
  rintro e w8 ⟨vh, rfl, hC⟩
  replace ivA := ivA.step hC.bel
  replace ivB := ivB.step hC.bel
  replace ivC := ivC.step hC.bel
  replace ivD := ivD.step hC.bel
  replace ivE := ivE.step hC.bel
  replace ivF := ivF.step hC.bel
  replace ivG := ivG.step hC.bel
  have ivH := IvR.of_pt hC
  replace hB := hB.trans (hC.bel.mono hB.size)
  have z7 := hC.bel.size
  clear hC
  go_wp2_with fail
  refine (Hs'.out _).mono ?_
  rintro e w9 ⟨vj, rfl, hC⟩
  replace ivA := ivA.step hC.bel
  replace ivB := ivB.step hC.bel
  replace ivC := ivC.step hC.bel
  replace ivD := ivD.step hC.bel
  replace ivE := ivE.step hC.bel
  replace ivF := ivF.step hC.bel
  replace ivG := ivG.step hC.bel
  replace ivH := ivH.step hC.bel
  have ivJ := IvR.of_pt hC
  replace hB := hB.trans (hC.bel.mono hB.size)
  have z8 := hC.bel.size
  clear hC
  obtain ⟨Aa, ca, rfl, ra⟩ := ivA.rs
  obtain ⟨Ab, cb, rfl, rb⟩ := ivB.rs
  obtain ⟨Ac, cc, rfl, rc⟩ := ivC.rs
  obtain ⟨Ad, cd, rfl, rd⟩ := ivD.rs
  obtain ⟨Ae, ce, rfl, re⟩ := ivE.rs
  obtain ⟨Af, cf, rfl, rf⟩ := ivF.rs
  obtain ⟨Ag, cg, rfl, rg⟩ := ivG.rs
  obtain ⟨Ah, ch, rfl, rh⟩ := ivH.rs
  obtain ⟨Aj, cj, rfl, rj⟩ := ivJ.rs
  have hne1 : ((sp : Int) != (sp : Int)) = false := by simp
  have hne2 : ((ep : Int) != (ep : Int)) = false := by simp
  have hne3 : ((es : Int) != (es : Int)) = false := by simp
  obtain ⟨nlw, hnlw⟩ : ∃ m, List.length lw = m := ⟨_, rfl⟩
  obtain ⟨nlp, hnlp⟩ : ∃ m, List.length lp = m := ⟨_, rfl⟩
  obtain ⟨nls, hnls⟩ : ∃ m, List.length ls = m := ⟨_, rfl⟩
  rw [hnlw] at ra
  rw [hnlw] at rb
  rw [hnlp] at rc
  rw [hnlp] at rd
  rw [hnls] at re
  rw [hnls] at rf
  rw [hnlw] at rg
  rw [hnlp] at rh
  rw [hnls] at rj
  rw [hnlw] at hwl
  rw [hnlp] at hpl
  rw [hnls] at hsl
  rw [hnlw, hnlp, hnls]
  have Nlw := Lib.hid hnlw
  have Nlp := Lib.hid hnlp
  have Nls := Lib.hid hnls
  clear hnlw hnlp hnls
  go_wp2_with (first
    | (go_at_call 25; refine (H1.out _).mono ?_; rintro e u1 ⟨rfl, rfl⟩)
    | (go_at_call 26; refine (H2.out _).mono ?_; rintro e u2 ⟨rfl, rfl⟩))
  refine (samer_any (natR lw) Aa Ag nlw ca cg w9 ra rg (by omega)).mono ?_
  rintro e w10 ⟨rfl, hb10⟩
  go_wp2_with fail
  refine (samer_any (natR lp) Ac Ah nlp cc ch w10 (rc.step hb10) (rh.step hb10) (by omega)).mono ?_
  rintro e w11 ⟨rfl, hb11'⟩
  have hb11 := hb10.trans (hb11'.mono hb10.size)
  go_wp2_with fail
  refine (samer_any (natR ls) Ae Aj nls ce cj w11 (re.step hb11) (rj.step hb11) (by omega)).mono ?_
  rintro e w12 ⟨rfl, hb12'⟩
  have hb12 := hb11.trans (hb12'.mono hb11.size)
  clear hb10 hb11 hb11' hb12'
  replace ivA := ivA.step hb12
  clear ra
  replace ivB := ivB.step hb12
  clear rb
  replace ivC := ivC.step hb12
  clear rc
  replace ivD := ivD.step hb12
  clear rd
  replace ivE := ivE.step hb12
  clear re
  replace ivF := ivF.step hb12
  clear rf
  replace ivG := ivG.step hb12
  clear rg
  replace ivH := ivH.step hb12
  clear rh
  replace ivJ := ivJ.step hb12
  clear rj
  replace hB := hB.trans (hb12.mono hB.size)
  have z9 := hb12.size
  clear hb12 hne1 hne2 hne3
  go_wp2_with fail
  have la_lt := ivA.lt
  rw [Nlw.out] at la_lt
  obtain ⟨xs0, ox0⟩ : ∃ xs, w12.ownsRow w.heap.size 29 2 (.slice Aa nlw ca) nlw xs := ⟨_, by have := ivA.own; rw [Nlw.out] at this; exact this⟩
  clear ivA
  go_loopw [20] (fun v wr => ∃ k : Nat, k ≤ nlw ∧ v = .int .i64 (k : Int) ∧ (∃ xs, wr.ownsRow w.heap.size 29 2 (.slice Aa nlw ca) nlw xs) ∧ w12.grownBy wr (Value.slice Aa nlw ca).ownBlock) (fun v _ => nlw - (intOf v).toNat)
  case atStart => exact ⟨0, Nat.zero_le _, rfl, ⟨_, ox0⟩, ⟨rfl, rfl, rfl, Nat.le_refl _, fun _ _ _ => rfl⟩⟩
  case round =>
    clear ox0
    obtain ⟨k, hk, rfl, ⟨xs, hown⟩, hg⟩ := hrel
    by_cases hlt : k < nlw
    · obtain ⟨g, rfl⟩ : ∃ g, Aa = some ⟨g, 0, none⟩ := by
        rcases hown.2 with ⟨hv, h0⟩ | ⟨g, cap, cur, hv, _⟩
        · omega
        · cases hv; exact ⟨g, rfl⟩
      obtain ⟨cur, hblk, hsz, -, hown'⟩ := owns_put hown k hlt [.int .i64 99, .int .i64 0] rfl
      have hg' := grown_setRow hg (cur.toList.take (k * 2) ++ [Value.int .i64 99, .int .i64 0] ++ cur.toList.drop (k * 2 + 2)).toArray
      clear hown hg
      have Ho := Lib.hid hown'
      have Hg := Lib.hid hg'
      clear hown' hg'
      go_wp2_with ((with_reducible show wpList _ _ _ (⟨none, .store _ (.tmp 107) _, _, _, _, _⟩ :: _) _ _); refine wpList_store_agg rfl 29 (.tmp 107) (.tmp 106) rfl 2 sizeR g (k * 2) #[.int .i64 99, .int .i64 0] rfl rfl rfl (by simp [Value.oneCell']) 29 _ hblk hsz ?_; simp only [Act.put]; refine wpList_world (fun W => (∃ xs, W.ownsRow w.heap.size 29 2 (.slice (some ⟨g, 0, none⟩) nlw ca) nlw xs) ∧ w12.grownBy W (some g)) ⟨⟨_, Ho.out⟩, Hg.out⟩ ?_; rintro W4 ⟨ho4, hg4⟩)
      refine ⟨⟨k + 1, by omega, by go_num, ho4, hg4⟩, by simp [intOf]; omega⟩
    · obtain rfl : k = nlw := by omega
      obtain ⟨w13, rfl⟩ : ∃ W, W = wr := ⟨_, rfl⟩
      have hrow : ∀ g, (Value.slice Aa k ca).ownBlock = some g → w.heap.size ≤ g ∧ g < w1.heap.size := fun g hg' => ⟨(hown.lt g hg').1, by have := la_lt g hg'; exact this⟩
      replace ivB := ivB.grown hg (fun g hg' => by have := hrow g hg'; omega)
      replace ivC := ivC.grown hg (fun g hg' => by have := hrow g hg'; omega)
      replace ivD := ivD.grown hg (fun g hg' => by have := hrow g hg'; omega)
      replace ivE := ivE.grown hg (fun g hg' => by have := hrow g hg'; omega)
      replace ivF := ivF.grown hg (fun g hg' => by have := hrow g hg'; omega)
      replace ivG := ivG.grown hg (fun g hg' => by have := hrow g hg'; omega)
      replace ivH := ivH.grown hg (fun g hg' => by have := hrow g hg'; omega)
      replace ivJ := ivJ.grown hg (fun g hg' => by have := hrow g hg'; omega)
      replace hB := hB.grown hg hB.size (fun g hg' => by have := hrow g hg'; omega)
      clear hrow la_lt hg hown
      go_wp2_with fail
      have lc_lt := ivC.lt
      rw [Nlp.out] at lc_lt
      obtain ⟨xs0, ox0⟩ : ∃ xs, w13.ownsRow w2.heap.size 29 2 (.slice Ac nlp cc) nlp xs := ⟨_, by have := ivC.own; rw [Nlp.out] at this; exact this⟩
      clear ivC
      go_loopw [21] (fun v wr => ∃ k : Nat, k ≤ nlp ∧ v = .int .i64 (k : Int) ∧ (∃ xs, wr.ownsRow w2.heap.size 29 2 (.slice Ac nlp cc) nlp xs) ∧ w13.grownBy wr (Value.slice Ac nlp cc).ownBlock) (fun v _ => nlp - (intOf v).toNat)
      case atStart => exact ⟨0, Nat.zero_le _, rfl, ⟨_, ox0⟩, ⟨rfl, rfl, rfl, Nat.le_refl _, fun _ _ _ => rfl⟩⟩
      case round =>
        clear ox0
        obtain ⟨k, hk, rfl, ⟨xs, hown⟩, hg⟩ := hrel
        by_cases hlt : k < nlp
        · obtain ⟨g, rfl⟩ : ∃ g, Ac = some ⟨g, 0, none⟩ := by
            rcases hown.2 with ⟨hv, h0⟩ | ⟨g, cap, cur, hv, _⟩
            · omega
            · cases hv; exact ⟨g, rfl⟩
          obtain ⟨cur, hblk, hsz, -, hown'⟩ := owns_put hown k hlt [.int .i64 99, .int .i64 0] rfl
          have hg' := grown_setRow hg (cur.toList.take (k * 2) ++ [Value.int .i64 99, .int .i64 0] ++ cur.toList.drop (k * 2 + 2)).toArray
          clear hown hg
          have Ho := Lib.hid hown'
          have Hg := Lib.hid hg'
          clear hown' hg'
          go_wp2_with ((with_reducible show wpList _ _ _ (⟨none, .store _ (.tmp 117) _, _, _, _, _⟩ :: _) _ _); refine wpList_store_agg rfl 29 (.tmp 117) (.tmp 116) rfl 2 sizeR g (k * 2) #[.int .i64 99, .int .i64 0] rfl rfl rfl (by simp [Value.oneCell']) 29 _ hblk hsz ?_; simp only [Act.put]; refine wpList_world (fun W => (∃ xs, W.ownsRow w2.heap.size 29 2 (.slice (some ⟨g, 0, none⟩) nlp cc) nlp xs) ∧ w13.grownBy W (some g)) ⟨⟨_, Ho.out⟩, Hg.out⟩ ?_; rintro W4 ⟨ho4, hg4⟩)
          refine ⟨⟨k + 1, by omega, by go_num, ho4, hg4⟩, by simp [intOf]; omega⟩
        · obtain rfl : k = nlp := by omega
          obtain ⟨w14, rfl⟩ : ∃ W, W = wr := ⟨_, rfl⟩
          have hrow : ∀ g, (Value.slice Ac k cc).ownBlock = some g → w2.heap.size ≤ g ∧ g < w3.heap.size := fun g hg' => ⟨(hown.lt g hg').1, by have := lc_lt g hg'; exact this⟩
          replace ivB := ivB.grown hg (fun g hg' => by have := hrow g hg'; omega)
          replace ivD := ivD.grown hg (fun g hg' => by have := hrow g hg'; omega)
          replace ivE := ivE.grown hg (fun g hg' => by have := hrow g hg'; omega)
          replace ivF := ivF.grown hg (fun g hg' => by have := hrow g hg'; omega)
          replace ivG := ivG.grown hg (fun g hg' => by have := hrow g hg'; omega)
          replace ivH := ivH.grown hg (fun g hg' => by have := hrow g hg'; omega)
          replace ivJ := ivJ.grown hg (fun g hg' => by have := hrow g hg'; omega)
          replace hB := hB.grown hg hB.size (fun g hg' => by have := hrow g hg'; omega)
          clear hrow lc_lt hg hown
          go_wp2_with fail
          have le_lt := ivE.lt
          rw [Nls.out] at le_lt
          obtain ⟨xs0, ox0⟩ : ∃ xs, w14.ownsRow w4.heap.size 29 2 (.slice Ae nls ce) nls xs := ⟨_, by have := ivE.own; rw [Nls.out] at this; exact this⟩
          clear ivE
          go_loopw [22] (fun v wr => ∃ k : Nat, k ≤ nls ∧ v = .int .i64 (k : Int) ∧ (∃ xs, wr.ownsRow w4.heap.size 29 2 (.slice Ae nls ce) nls xs) ∧ w14.grownBy wr (Value.slice Ae nls ce).ownBlock) (fun v _ => nls - (intOf v).toNat)
          case atStart => exact ⟨0, Nat.zero_le _, rfl, ⟨_, ox0⟩, ⟨rfl, rfl, rfl, Nat.le_refl _, fun _ _ _ => rfl⟩⟩
          case round =>
            clear ox0
            obtain ⟨k, hk, rfl, ⟨xs, hown⟩, hg⟩ := hrel
            by_cases hlt : k < nls
            · obtain ⟨g, rfl⟩ : ∃ g, Ae = some ⟨g, 0, none⟩ := by
                rcases hown.2 with ⟨hv, h0⟩ | ⟨g, cap, cur, hv, _⟩
                · omega
                · cases hv; exact ⟨g, rfl⟩
              obtain ⟨cur, hblk, hsz, -, hown'⟩ := owns_put hown k hlt [.int .i64 99, .int .i64 0] rfl
              have hg' := grown_setRow hg (cur.toList.take (k * 2) ++ [Value.int .i64 99, .int .i64 0] ++ cur.toList.drop (k * 2 + 2)).toArray
              clear hown hg
              have Ho := Lib.hid hown'
              have Hg := Lib.hid hg'
              clear hown' hg'
              go_wp2_with ((with_reducible show wpList _ _ _ (⟨none, .store _ (.tmp 127) _, _, _, _, _⟩ :: _) _ _); refine wpList_store_agg rfl 29 (.tmp 127) (.tmp 126) rfl 2 sizeR g (k * 2) #[.int .i64 99, .int .i64 0] rfl rfl rfl (by simp [Value.oneCell']) 29 _ hblk hsz ?_; simp only [Act.put]; refine wpList_world (fun W => (∃ xs, W.ownsRow w4.heap.size 29 2 (.slice (some ⟨g, 0, none⟩) nls ce) nls xs) ∧ w14.grownBy W (some g)) ⟨⟨_, Ho.out⟩, Hg.out⟩ ?_; rintro W4 ⟨ho4, hg4⟩)
              refine ⟨⟨k + 1, by omega, by go_num, ho4, hg4⟩, by simp [intOf]; omega⟩
            · obtain rfl : k = nls := by omega
              obtain ⟨w15, rfl⟩ : ∃ W, W = wr := ⟨_, rfl⟩
              have hrow : ∀ g, (Value.slice Ae k ce).ownBlock = some g → w4.heap.size ≤ g ∧ g < w5.heap.size := fun g hg' => ⟨(hown.lt g hg').1, by have := le_lt g hg'; exact this⟩
              replace ivB := ivB.grown hg (fun g hg' => by have := hrow g hg'; omega)
              replace ivD := ivD.grown hg (fun g hg' => by have := hrow g hg'; omega)
              replace ivF := ivF.grown hg (fun g hg' => by have := hrow g hg'; omega)
              replace ivG := ivG.grown hg (fun g hg' => by have := hrow g hg'; omega)
              replace ivH := ivH.grown hg (fun g hg' => by have := hrow g hg'; omega)
              replace ivJ := ivJ.grown hg (fun g hg' => by have := hrow g hg'; omega)
              replace hB := hB.grown hg hB.size (fun g hg' => by have := hrow g hg'; omega)
              clear hrow le_lt hg hown
              obtain ⟨_, _, hvb, rb⟩ := ivB.rs
              obtain ⟨_, _, hvd, rd⟩ := ivD.rs
              obtain ⟨_, _, hvf, rf⟩ := ivF.rs
              obtain ⟨_, _, hvg, rg⟩ := ivG.rs
              obtain ⟨_, _, hvh, rh⟩ := ivH.rs
              obtain ⟨_, _, hvj, rj⟩ := ivJ.rs
              cases hvb; cases hvd; cases hvf; cases hvg; cases hvh; cases hvj
              rw [Nlw.out] at rb rg
              rw [Nlp.out] at rd rh
              rw [Nls.out] at rf rj
              go_wp2_with fail
              refine (samer_any (natR lw) Ab Ag _ cb cg w15 rb rg (by omega)).mono ?_
              rintro e w16 ⟨rfl, hb16⟩
              go_wp2_with fail
              refine (samer_any (natR lp) Ad Ah _ cd ch w16 (rd.step hb16) (rh.step hb16) (by omega)).mono ?_
              rintro e w17 ⟨rfl, hb17'⟩
              have hb17 := hb16.trans (hb17'.mono hb16.size)
              go_wp2_with fail
              refine (samer_any (natR ls) Af Aj _ cf cj w17 (rf.step hb17) (rj.step hb17) (by omega)).mono ?_
              rintro e w18 ⟨rfl, hb18'⟩
              have hb18 := hb17.trans (hb18'.mono hb17.size)
              go_wp2_with (go_at_call 15; refine (known9_any _).mono ?_; rintro e w19 ⟨rfl, hb19⟩)
              go_ret
              have hb20 := hB.trans (hb18.mono hB.size)
              exact ⟨rfl, hb20.trans (hb19.mono hb20.size)⟩
end Go.Proofs.Ytgcbdnoniikboaa
/- The roots of the stretches that show that one list goes on another (plain). -/
namespace Go.Proofs.Ytgcbdnoniikboaa
open Go Go.RowKit

theorem stepsA_each (m : Int) (n : Nat) : ∀ x ∈ (stepsA m n).1, x.1 < x.2 ∧ x.2 ≤ n := by
  intro x hx
  unfold stepsA at hx
  split at hx
  · cases hx
  · rename_i h1
    split at hx
    · cases hx
    · rename_i h2
      have := (stepsL_ok n m.toNat 0 n true (Nat.le_refl _) (by omega) (by omega)).each x (by simpa using hx)
      omega
theorem stretchR_nat (hs : List (List UInt8)) (a b : Nat) (h1 : a < b) (h2 : b ≤ hs.length) : stretchR hs (a : Int) (b : Int) = (stretchL hs a b, 0) := by
  unfold stretchR
  rw [if_pos ⟨by omega, by omega, by omega⟩, Int.toNat_natCast, Int.toNat_natCast]
theorem steps_good (hs : List (List UInt8)) (m : Int) : goodL hs (natR (stepsA m hs.length).1) = natR (stepsA m hs.length).1 := by
  unfold goodL
  rw [List.filter_eq_self]
  intro y hy
  unfold natR at hy
  obtain ⟨x, hx, rfl⟩ := List.mem_map.1 hy
  obtain ⟨h1, h2⟩ := stepsA_each m hs.length x hx
  unfold okR
  rw [stretchR_nat hs x.1 x.2 h1 h2]
  rfl
def rootsS (hs : List (List UInt8)) (m : Int) : List (List UInt8) := rootsL hs (stepsA m hs.length).1
theorem length_natR (l : List (Nat × Nat)) : (natR l).length = l.length := by simp [natR]
theorem length_rootsS (hs : List (List UInt8)) (m : Int) : (rootsS hs m).length = (stepsA m hs.length).1.length := by simp [rootsS, rootsL]
theorem rootsS_all (hs : List (List UInt8)) (h : H32 hs) (m : Int) : H32 (rootsS hs m) := rootsL_all hs h _
theorem rootsS_at (hs : List (List UInt8)) (m : Int) (k : Nat) (h : k < (stepsA m hs.length).1.length) : (stretchR hs ((natR (stepsA m hs.length).1).getD k (0, 0)).1 ((natR (stepsA m hs.length).1).getD k (0, 0)).2).1 = (rootsS hs m).getD k [] := by
  obtain ⟨h1, h2⟩ := stepsA_each m hs.length _ (List.getElem_mem h)
  unfold natR rootsS rootsL
  rw [List.getD_eq_getElem?_getD, List.getElem?_map, List.getD_eq_getElem?_getD, List.getElem?_map, List.getElem?_eq_getElem h]
  simp only [Option.map_some, Option.getD_some]
  rw [stretchR_nat hs _ _ h1 h2]
theorem take_snocH (l : List (List UInt8)) (k : Nat) (h : k < l.length) : l.take (k + 1) = l.take k ++ [l.getD k []] := by
  rw [List.take_succ_eq_append_getElem h, List.getD_eq_getElem?_getD, List.getElem?_eq_getElem h]; rfl
theorem rootsS_bad (hs : List (List UInt8)) (m : Int) (h : (stepsA m hs.length).2 ≠ 0) : rootsS hs m = [] := by
  unfold rootsS stepsA at *
  split
  · rfl
  · rename_i h1
    rw [if_neg h1] at h
    split at h <;> exact absurd rfl h
theorem stepsA_e (m n : Int) : (stepsA m n).2 = 0 ∨ (stepsA m n).2 = 4 := by
  unfold stepsA
  split
  · exact .inr rfl
  · split <;> exact .inl rfl
end Go.Proofs.Ytgcbdnoniikboaa
/- The two roots that are put together out of a proof (plain). -/
namespace Go.Proofs.Ytgcbdnoniikboaa
open Go Go.RowKit

/-- back through the steps of m in a stretch of n: the two hashes -/
def bothF : Nat → Nat → Nat → Bool → List UInt8 → List (List UInt8) → List UInt8 × List UInt8
  | 0, _, _, _, x, _ => (x, x)
  | f + 1, m, n, whole, x, p =>
    if m = n then (if whole then (x, x) else (p.getD 0 [], p.getD 0 []))
    else if m ≤ splitN n then ((bothF f m (splitN n) whole x p.dropLast).1, hNode (bothF f m (splitN n) whole x p.dropLast).2 (p.getD (p.length - 1) []))
    else (hNode (p.getD (p.length - 1) []) (bothF f (m - splitN n) (n - splitN n) false x p.dropLast).1, hNode (p.getD (p.length - 1) []) (bothF f (m - splitN n) (n - splitN n) false x p.dropLast).2)
theorem bothF_enough : ∀ (f g m n : Nat) (whole : Bool) (x : List UInt8) (p : List (List UInt8)), 1 ≤ m → m ≤ n → n ≤ f → n ≤ g → bothF f m n whole x p = bothF g m n whole x p
  | 0, _, _, _, _, _, _, h1, h2, h3, _ => by omega
  | _ + 1, 0, _, _, _, _, _, h1, h2, _, h4 => by omega
  | f + 1, g + 1, m, n, whole, x, p, h1, h2, h3, h4 => by
    simp only [bothF]
    split
    · rfl
    · have hl := splitN_lt n (by omega)
      have hp := splitN_pos n (by omega)
      split
      · rename_i h
        rw [bothF_enough f g m (splitN n) whole x _ h1 h (by omega) (by omega)]
      · rw [bothF_enough f g (m - splitN n) (n - splitN n) false x _ (by omega) (by omega) (by omega) (by omega)]
def bothL (m n : Nat) (whole : Bool) (x : List UInt8) (p : List (List UInt8)) : List UInt8 × List UInt8 := bothF n m n whole x p
theorem bothL_eq (m : Nat) (whole : Bool) (x : List UInt8) (p : List (List UInt8)) (h : 1 ≤ m) : bothL m m whole x p = if whole then (x, x) else (p.getD 0 [], p.getD 0 []) := by
  obtain ⟨k, rfl⟩ : ∃ k, m = k + 1 := ⟨m - 1, by omega⟩
  unfold bothL
  simp only [bothF, if_true]
theorem bothL_left (m n : Nat) (whole : Bool) (x : List UInt8) (p : List (List UInt8)) (h : 1 ≤ m) (hn : m < n) (hk : m ≤ splitN n) : bothL m n whole x p = ((bothL m (splitN n) whole x p.dropLast).1, hNode (bothL m (splitN n) whole x p.dropLast).2 (p.getD (p.length - 1) [])) := by
  have hl := splitN_lt n (by omega)
  unfold bothL
  rw [bothF_enough n (n + 1) m n whole x p h (by omega) (Nat.le_refl _) (by omega), bothF, if_neg (by omega), if_pos hk, bothF_enough n (splitN n) m (splitN n) whole x _ h hk (by omega) (Nat.le_refl _)]
theorem bothL_right (m n : Nat) (whole : Bool) (x : List UInt8) (p : List (List UInt8)) (h : 1 ≤ m) (hn : m < n) (hk : ¬ m ≤ splitN n) : bothL m n whole x p = (hNode (p.getD (p.length - 1) []) (bothL (m - splitN n) (n - splitN n) false x p.dropLast).1, hNode (p.getD (p.length - 1) []) (bothL (m - splitN n) (n - splitN n) false x p.dropLast).2) := by
  have hp := splitN_pos n (by omega)
  unfold bothL
  rw [bothF_enough n (n + 1) m n whole x p h (by omega) (Nat.le_refl _) (by omega), bothF, if_neg (by omega), if_neg hk, bothF_enough n (n - splitN n) (m - splitN n) (n - splitN n) false x _ (by omega) (by omega) (by omega) (Nat.le_refl _)]
/-- how many hashes are taken -/
def cntS (m n : Nat) (whole : Bool) : Nat := (stepsL m 0 n whole).length
theorem stepsL_cnt (d : Nat) : ∀ (m a b n : Nat) (whole : Bool), n ≤ d → 1 ≤ m → m ≤ n → (stepsL m a n whole).length = (stepsL m b n whole).length := by
  induction d with
  | zero => intro m a b n whole h h1 h2; omega
  | succ d ih =>
    intro m a b n whole h h1 h2
    by_cases hmn : m = n
    · subst hmn
      rw [stepsL_eq m a whole h1, stepsL_eq m b whole h1]
      split <;> rfl
    · have hl := splitN_lt n (by omega)
      have hp := splitN_pos n (by omega)
      by_cases hk : m ≤ splitN n
      · rw [stepsL_left m a n whole h1 (by omega) hk, stepsL_left m b n whole h1 (by omega) hk, List.length_append, List.length_append, ih m a b (splitN n) whole (by omega) h1 hk]; rfl
      · rw [stepsL_right m a n whole h1 (by omega) hk, stepsL_right m b n whole h1 (by omega) hk, List.length_append, List.length_append, ih (m - splitN n) (a + splitN n) (b + splitN n) (n - splitN n) false (by omega) (by omega) (by omega)]; rfl
theorem cntS_eq (m : Nat) (whole : Bool) (h : 1 ≤ m) : cntS m m whole = if whole then 0 else 1 := by
  unfold cntS
  rw [stepsL_eq m 0 whole h]
  split <;> rfl
theorem cntS_left (m n : Nat) (whole : Bool) (h : 1 ≤ m) (hn : m < n) (hk : m ≤ splitN n) : cntS m n whole = cntS m (splitN n) whole + 1 := by
  unfold cntS
  rw [stepsL_left m 0 n whole h hn hk, List.length_append]; rfl
theorem cntS_right (m n : Nat) (whole : Bool) (h : 1 ≤ m) (hn : m < n) (hk : ¬ m ≤ splitN n) : cntS m n whole = cntS (m - splitN n) (n - splitN n) false + 1 := by
  have hp := splitN_pos n (by omega)
  unfold cntS
  rw [stepsL_right m 0 n whole h hn hk, List.length_append, stepsL_cnt n (m - splitN n) (0 + splitN n) 0 (n - splitN n) false (by omega) (by omega) (by omega)]; rfl
theorem length_bothL (d : Nat) : ∀ (m n : Nat) (whole : Bool) (x : List UInt8) (p : List (List UInt8)), n ≤ d → 1 ≤ m → m ≤ n → x.length = 32 → H32 p → p.length = cntS m n whole → (bothL m n whole x p).1.length = 32 ∧ (bothL m n whole x p).2.length = 32 := by
  induction d with
  | zero => intro m n whole x p h h1 h2; omega
  | succ d ih =>
    intro m n whole x p h h1 h2 hx hp hc
    by_cases hmn : m = n
    · subst hmn
      rw [cntS_eq m whole h1] at hc
      rw [bothL_eq m whole x p h1]
      split
      · exact ⟨hx, hx⟩
      · rename_i hw
        rw [if_neg hw] at hc
        have := hp.getD 0 (by omega)
        exact ⟨this, this⟩
    · have hl := splitN_lt n (by omega)
      have hps := splitN_pos n (by omega)
      have hpd : H32 p.dropLast := by rw [List.dropLast_eq_take]; exact hp.take _
      by_cases hk : m ≤ splitN n
      · rw [cntS_left m n whole h1 (by omega) hk] at hc
        rw [bothL_left m n whole x p h1 (by omega) hk]
        exact ⟨(ih m (splitN n) whole x _ (by omega) h1 hk hx hpd (by rw [List.length_dropLast]; omega)).1, length_hNode _ _⟩
      · rw [bothL_right m n whole x p h1 (by omega) hk]
        exact ⟨length_hNode _ _, length_hNode _ _⟩
end Go.Proofs.Ytgcbdnoniikboaa
/- What cons.Both and cons.Check answer (plain). -/
namespace Go.Proofs.Ytgcbdnoniikboaa
open Go Go.RowKit

def bothE (m n : Int) (x : List UInt8) (p : List (List UInt8)) : (List UInt8 × List UInt8) × Int :=
  if m < 1 ∨ n < m then ((zeroL, zeroL), 4) else if (stepsA m n).1.length ≠ p.length then ((zeroL, zeroL), 220) else (bothL m.toNat n.toNat true x p, 0)
def checkE (m n : Int) (x y : List UInt8) (p : List (List UInt8)) : Int :=
  if m < 0 ∨ n < m then 4 else if m = 0 then (if x ≠ hEmpty ∨ p.length ≠ 0 ∨ (n = 0 ∧ y ≠ x) then 220 else 0)
  else if (bothE m n x p).2 ≠ 0 ∨ (bothE m n x p).1.1 ≠ x ∨ (bothE m n x p).1.2 ≠ y then 220 else 0
theorem stepsA_cnt (m n : Int) (h1 : 1 ≤ m) (h2 : m ≤ n) : (stepsA m n).1.length = cntS m.toNat n.toNat true := by
  unfold stepsA
  rw [if_neg (by omega), if_neg (by omega)]
  rfl
theorem bothE_bad (m n : Int) (x : List UInt8) (p : List (List UInt8)) (h : m < 1 ∨ n < m) : bothE m n x p = ((zeroL, zeroL), 4) := if_pos h
theorem bothE_size (m n : Int) (x : List UInt8) (p : List (List UInt8)) (h : ¬ (m < 1 ∨ n < m)) (hs : (stepsA m n).1.length ≠ p.length) : bothE m n x p = ((zeroL, zeroL), 220) := by unfold bothE; rw [if_neg h, if_pos hs]
theorem bothE_ok (m n : Int) (x : List UInt8) (p : List (List UInt8)) (h : ¬ (m < 1 ∨ n < m)) (hs : (stepsA m n).1.length = p.length) : bothE m n x p = (bothL m.toNat n.toNat true x p, 0) := by unfold bothE; rw [if_neg h, if_neg (by simpa using hs)]
theorem length_bothE (m n : Int) (x : List UInt8) (p : List (List UInt8)) (hx : x.length = 32) (hp : H32 p) : (bothE m n x p).1.1.length = 32 ∧ (bothE m n x p).1.2.length = 32 := by
  by_cases h : m < 1 ∨ n < m
  · rw [bothE_bad m n x p h]; exact ⟨rfl, rfl⟩
  · by_cases hs : (stepsA m n).1.length = p.length
    · rw [bothE_ok m n x p h hs]
      exact length_bothL n.toNat m.toNat n.toNat true x p (Nat.le_refl _) (by omega) (by omega) hx hp (by rw [← hs, stepsA_cnt m n (by omega) (by omega)])
    · rw [bothE_size m n x p h hs]; exact ⟨rfl, rfl⟩
theorem bothE_e (m n : Int) (x : List UInt8) (p : List (List UInt8)) : (bothE m n x p).2 = 0 ∨ (bothE m n x p).2 = 4 ∨ (bothE m n x p).2 = 220 := by
  unfold bothE
  split
  · exact .inr (.inl rfl)
  · split
    · exact .inr (.inr rfl)
    · exact .inl rfl
end Go.Proofs.Ytgcbdnoniikboaa
/- The plain law of tree.Roots: the whole stretches of one entry more. -/
namespace Go.Proofs.Ytgcbdnoniikboaa
open Go Go.RowKit

theorem pow_split (d : Nat) : ∀ (m t a : Nat), m ≤ d → wholeL a (2 * m * 2 ^ t + 2 ^ t) = wholeL a (2 * m * 2 ^ t) ++ [(a + 2 * m * 2 ^ t, a + 2 * m * 2 ^ t + 2 ^ t)] := by
  induction d with
  | zero =>
    intro m t a h
    obtain rfl : m = 0 := by omega
    have hp := Nat.two_pow_pos t
    rw [show 2 * 0 * 2 ^ t = 0 by simp, Nat.zero_add, wholeL_zero, wholeL_more a _ (by omega), Nat.log2_two_pow, Nat.sub_self, wholeL_zero]
    rfl
  | succ d ih =>
    intro m t a h
    by_cases hm : m = 0
    · subst hm
      exact ih 0 t a (by omega)
    · have hp := Nat.two_pow_pos t
      have hpos : 2 * m * 2 ^ t ≠ 0 := Nat.mul_ne_zero (by omega) (by omega)
      obtain ⟨j, hj⟩ : ∃ j, (2 * m).log2 = j := ⟨_, rfl⟩
      have h2m : 2 * m ≠ 0 := by omega
      have j1 : 2 ^ j ≤ 2 * m := by rw [← hj]; exact Nat.log2_self_le h2m
      have j2 : 2 * m < 2 ^ (j + 1) := by rw [← hj]; exact Nat.lt_log2_self
      obtain ⟨i, rfl⟩ : ∃ i, j = i + 1 := by
        refine ⟨j - 1, ?_⟩
        rcases Nat.eq_zero_or_pos j with h0 | h0
        · subst h0; rw [show 2 ^ (0 + 1) = 2 from rfl] at j2; omega
        · omega
      have j3 : 2 * m + 2 ≤ 2 ^ (i + 1 + 1) := by rw [Nat.pow_succ] at j2 ⊢; omega
      have l1 : (2 * m * 2 ^ t).log2 = i + 1 + t := (Nat.log2_eq_iff hpos).2 ⟨by rw [Nat.pow_add]; exact Nat.mul_le_mul_right _ j1, by
        rw [show i + 1 + t + 1 = (i + 1 + 1) + t by omega, Nat.pow_add]; exact Nat.mul_lt_mul_of_pos_right j2 hp⟩
      have l2 : (2 * m * 2 ^ t + 2 ^ t).log2 = i + 1 + t := (Nat.log2_eq_iff (by omega)).2 ⟨Nat.le_trans (by rw [Nat.pow_add]; exact Nat.mul_le_mul_right _ j1) (Nat.le_add_right _ _), by
        rw [show i + 1 + t + 1 = (i + 1 + 1) + t by omega, Nat.pow_add]
        have := Nat.mul_le_mul_right (2 ^ t) j3
        rw [Nat.add_mul] at this
        omega⟩
      rw [wholeL_more a (2 * m * 2 ^ t + 2 ^ t) (by omega), wholeL_more a (2 * m * 2 ^ t) hpos, l1, l2]
      have hi2 : 2 ^ (i + 1 + t) = 2 * 2 ^ i * 2 ^ t := by rw [Nat.pow_add, Nat.pow_succ]; rw [Nat.mul_comm (2 ^ i) 2]
      have him : 2 ^ i ≤ m := by rw [Nat.pow_succ] at j1; omega
      have hsub : 2 * m * 2 ^ t - 2 ^ (i + 1 + t) = 2 * (m - 2 ^ i) * 2 ^ t := by
        rw [hi2, ← Nat.sub_mul, ← Nat.mul_sub]
      have hle : 2 ^ (i + 1 + t) ≤ 2 * m * 2 ^ t := by rw [hi2]; exact Nat.mul_le_mul_right _ (Nat.mul_le_mul_left _ him)
      have hi := ih (m - 2 ^ i) t (a + 2 ^ (i + 1 + t)) (by have := Nat.two_pow_pos i; omega)
      rw [Nat.sub_add_comm hle, hsub, hi, List.cons_append, ← hsub]
      congr 3
      rw [Prod.mk.injEq]
      constructor <;> omega
theorem whole_low (k t : Nat) (h : k % 2 = 0) : wholeL 0 (k * 2 ^ t + 2 ^ t) = wholeL 0 (k * 2 ^ t) ++ [(k * 2 ^ t, k * 2 ^ t + 2 ^ t)] := by
  have := pow_split (k / 2) (k / 2) t 0 (Nat.le_refl _)
  rw [show 2 * (k / 2) = k by omega, Nat.zero_add] at this
  exact this
/-- two stretches of a power's length, side by side -/
theorem stretch_join (hs : List (List UInt8)) (a t : Nat) (h : a + 2 ^ t + 2 ^ t ≤ hs.length) : stretchL hs a (a + 2 ^ t + 2 ^ t) = hNode (stretchL hs a (a + 2 ^ t)) (stretchL hs (a + 2 ^ t) (a + 2 ^ t + 2 ^ t)) := by
  have hp := Nat.two_pow_pos t
  have hs2 := splitN_eq (2 ^ t + 2 ^ t) t (by omega) (by rw [Nat.pow_succ]; omega)
  generalize 2 ^ t = p at *
  unfold stretchL
  rw [show a + p + p - a = p + p by omega, show a + p - a = p by omega, show a + p + p - (a + p) = p by omega]
  have hlen : ((hs.drop a).take (p + p)).length = p + p := by rw [List.length_take, List.length_drop]; omega
  rw [rootL_more ((hs.drop a).take (p + p)) (by rw [hlen]; omega), hlen, hs2, List.take_take, Nat.min_eq_left (by omega), List.drop_take, List.drop_drop, show p + p - p = p by omega]
theorem stretch_one (hs : List (List UInt8)) (i : Nat) (h : i < hs.length) : stretchL hs i (i + 1) = hs.getD i [] := by
  unfold stretchL
  rw [show i + 1 - i = 1 by omega, List.drop_eq_getElem_cons h, List.getD_eq_getElem?_getD, List.getElem?_eq_getElem h]
  rfl
/-- the roots of all heads -/
def headsL (hs : List (List UInt8)) (k : Nat) : List (List UInt8) := (List.range (k + 1)).map fun i => rootL (hs.take i)
theorem headsL_zero (hs : List (List UInt8)) : headsL hs 0 = [hEmpty] := rfl
theorem headsL_succ (hs : List (List UInt8)) (k : Nat) : headsL hs (k + 1) = headsL hs k ++ [rootL (hs.take (k + 1))] := by
  unfold headsL
  rw [List.range_succ, List.map_append]; rfl
theorem length_headsL (hs : List (List UInt8)) (k : Nat) : (headsL hs k).length = k + 1 := by simp [headsL]
theorem headsL_all (hs : List (List UInt8)) (h : H32 hs) (k : Nat) : H32 (headsL hs k) := fun x hx => by
  obtain ⟨i, _, rfl⟩ := List.mem_map.1 hx
  exact length_rootL _ (h.take i)
theorem headsL_getD (hs : List (List UInt8)) (k i : Nat) (h : i ≤ k) : (headsL hs k).getD i [] = rootL (hs.take i) := by
  rw [headsL, List.getD_eq_getElem?_getD, List.getElem?_map, List.getElem?_range (by omega)]; rfl
theorem foldR_head (hs : List (List UInt8)) (k : Nat) (h : k < hs.length) : foldR (rootsL hs (wholeL 0 (k + 1))) = rootL (hs.take (k + 1)) := by
  rw [foldR_whole (k + 1) (k + 1) 0 hs (Nat.le_refl _) (by omega) (by omega), List.drop_zero]
end Go.Proofs.Ytgcbdnoniikboaa
