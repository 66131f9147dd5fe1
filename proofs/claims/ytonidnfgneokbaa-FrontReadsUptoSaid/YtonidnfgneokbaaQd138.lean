/- wire: Reader's Take, Signed, Hash. -/
import Derived.Test.YtonidnfgneokbaaQd136
import Derived.Test.YtonidnfgneokbaaQd137
namespace Go.Proofs.Ytonidnfgneokbaa
open Go Go.RowKit Go.Shelf
attribute [local go_sem] Oper.semAt_some


theorem nextT_fit (X : Nat → Prop) (g gx : Nat) (l : List UInt8) (p : Nat) (u : Int) (w : World) (h : RdO w X g l p) (hk : Blk w gx 163 #[.int .u64 u]) (hgx : gx ≠ g) (hXx : ∀ b, X b → b ≠ gx) (hfit : p + 8 ≤ l.length) :
    Calls Try.prog 144 #[.pointer (some ⟨g, 0, none⟩), .int .i64 8, .func (.func 158) #[] #[.pointer (some ⟨gx, 0, none⟩)]] w fun e w' => e = .returned (.int .i64 0) ∧ RdO w' X g l (p + 8) ∧ Blk w' gx 163 #[.int .u64 (numN ((l.drop p).take 8) : Int)] ∧ K2 w w' g gx :=
  (nextT_any X g gx l p u w h hk hgx hXx).mono fun e w' hq => by
    rcases hq with ⟨⟨_, h1, h2, h3⟩ | ⟨h1, _⟩, h4⟩
    · exact ⟨h1, h2, h3, h4⟩
    · exact absurd hfit h1
theorem nextT_bad (X : Nat → Prop) (g gx : Nat) (l : List UInt8) (p : Nat) (u : Int) (w : World) (h : RdO w X g l p) (hk : Blk w gx 163 #[.int .u64 u]) (hgx : gx ≠ g) (hXx : ∀ b, X b → b ≠ gx) (hfit : ¬ p + 8 ≤ l.length) :
    Calls Try.prog 144 #[.pointer (some ⟨g, 0, none⟩), .int .i64 8, .func (.func 158) #[] #[.pointer (some ⟨gx, 0, none⟩)]] w fun e w' => e = .returned (.int .i64 110) ∧ RdO w' X g l p ∧ Blk w' gx 163 #[.int .u64 u] ∧ K2 w w' g gx :=
  (nextT_any X g gx l p u w h hk hgx hXx).mono fun e w' hq => by
    rcases hq with ⟨⟨h1, _⟩ | ⟨_, h1, h2, h3⟩, h4⟩
    · exact absurd h1 hfit
    · exact ⟨h1, h2, h3, h4⟩

theorem nextH_fit (X : Nat → Prop) (g gx : Nat) (l : List UInt8) (p : Nat) (z : List UInt8) (w : World) (h : RdO w X g l p) (hk : HV w gx z) (hgx : gx ≠ g) (hXx : ∀ b, X b → b ≠ gx) (hfit : p + 32 ≤ l.length) :
    Calls Try.prog 144 #[.pointer (some ⟨g, 0, none⟩), .int .i64 32, .func (.func 145) #[] #[.pointer (some ⟨gx, 0, none⟩)]] w fun e w' => e = .returned (.int .i64 0) ∧ RdO w' X g l (p + 32) ∧ HV w' gx ((l.drop p).take 32) ∧ K2 w w' g gx :=
  (nextH_any X g gx l p z w h hk hgx hXx).mono fun e w' hq => by
    rcases hq with ⟨⟨_, h1, h2, h3⟩ | ⟨h1, _⟩, h4⟩
    · exact ⟨h1, h2, h3, h4⟩
    · exact absurd hfit h1
theorem nextH_bad (X : Nat → Prop) (g gx : Nat) (l : List UInt8) (p : Nat) (z : List UInt8) (w : World) (h : RdO w X g l p) (hk : HV w gx z) (hgx : gx ≠ g) (hXx : ∀ b, X b → b ≠ gx) (hfit : ¬ p + 32 ≤ l.length) :
    Calls Try.prog 144 #[.pointer (some ⟨g, 0, none⟩), .int .i64 32, .func (.func 145) #[] #[.pointer (some ⟨gx, 0, none⟩)]] w fun e w' => e = .returned (.int .i64 110) ∧ RdO w' X g l p ∧ HV w' gx z ∧ K2 w w' g gx :=
  (nextH_any X g gx l p z w h hk hgx hXx).mono fun e w' hq => by
    rcases hq with ⟨⟨h1, _⟩ | ⟨_, h1, h2, h3⟩, h4⟩
    · exact absurd h1 hfit
    · exact ⟨h1, h2, h3, h4⟩

set_option maxHeartbeats 4000000 in
set_option maxRecDepth 100000 in
theorem rdtake_any (X : Nat → Prop) (g : Nat) (l : List UInt8) (p : Nat) (w : World) (h : RdO w X g l p) (hX : ∀ b, X b → b < w.heap.size) :
    Calls Try.prog 143 #[.pointer (some ⟨g, 0, none⟩)] w fun e w' => (p + 8 ≤ l.length ∧ e = .returned (.tuple #[.int .u64 (numN ((l.drop p).take 8) : Int), .int .i64 0]) ∧ RdO w' X g l (p + 8) ∨ ¬ p + 8 ≤ l.length ∧ e = .returned (.tuple #[.int .u64 0, .int .i64 110]) ∧ RdO w' X g l p) ∧ w.grownBy w' (some g) := by
  have hlt := h.lt
  by_cases hfit : p + 8 ≤ l.length
  · have Hnx := Lib.hid fun W h hk => nextT_fit X g w.heap.size l p 0 W h hk (by omega) (fun b hb => Nat.ne_of_lt (hX b hb)) hfit
    obtain ⟨res, hres⟩ : ∃ r, numN ((l.drop p).take 8) = r := ⟨_, rfl⟩
    have Hres := Lib.hid hres
    rw [hres]
    clear hres
    go_enter Try.func143, Try.ntmps143
    go_wp2_with (first
      | ((with_reducible show wpList _ _ _ (⟨some 4, .alloc _, _, _, _, _⟩ :: _) _ _); refine wpList_run rfl (.pointer (some ⟨w.heap.size, 0, none⟩)) (w.alloc (.cells #[.int .u64 0] 163)) (by kernel_rfl) ?_; have hb1 : Below w.heap.size w (w.alloc (.cells #[.int .u64 0] 163)) := (Below.refl _ _).alloc (Nat.le_refl _) _; have k4 : Blk (w.alloc (.cells #[.int .u64 0] 163)) w.heap.size 163 #[.int .u64 0] := Blk.new _ _ _; generalize w.alloc (.cells #[.int .u64 0] 163) = w1 at hb1 k4 ⊢; simp only [Act.put])
      | (go_at_call 157; refine (width_any w1).mono ?_; rintro e w2 ⟨rfl, hww⟩; obtain rfl := hww.symm)
      | (go_at_call 144; refine (Hnx.out w1 (h.step hb1) k4).mono ?_; rintro e w3 ⟨rfl, h2, k5, hK2⟩; have c10 : w3.cell? ⟨w.heap.size, 0, none⟩ = some (.int .u64 (res : Int)) := (by rw [k5.cell, ← Hres.out]; rfl)))
    exact bodyPost_ret (results_tmp2 rfl _ _ _) rfl ⟨.inl ⟨hfit, rfl, h2⟩, hK2.grown (grown_of_below hb1 _) (Nat.le_refl _)⟩
  · have Hnx := Lib.hid fun W h hk => nextT_bad X g w.heap.size l p 0 W h hk (by omega) (fun b hb => Nat.ne_of_lt (hX b hb)) hfit
    go_enter Try.func143, Try.ntmps143
    go_wp2_with (first
      | ((with_reducible show wpList _ _ _ (⟨some 4, .alloc _, _, _, _, _⟩ :: _) _ _); refine wpList_run rfl (.pointer (some ⟨w.heap.size, 0, none⟩)) (w.alloc (.cells #[.int .u64 0] 163)) (by kernel_rfl) ?_; have hb1 : Below w.heap.size w (w.alloc (.cells #[.int .u64 0] 163)) := (Below.refl _ _).alloc (Nat.le_refl _) _; have k4 : Blk (w.alloc (.cells #[.int .u64 0] 163)) w.heap.size 163 #[.int .u64 0] := Blk.new _ _ _; generalize w.alloc (.cells #[.int .u64 0] 163) = w1 at hb1 k4 ⊢; simp only [Act.put])
      | (go_at_call 157; refine (width_any w1).mono ?_; rintro e w2 ⟨rfl, hww⟩; obtain rfl := hww.symm)
      | (go_at_call 144; refine (Hnx.out w1 (h.step hb1) k4).mono ?_; rintro e w3 ⟨rfl, h2, k5, hK2⟩; have c10 : w3.cell? ⟨w.heap.size, 0, none⟩ = some (.int .u64 0) := (by rw [k5.cell]; rfl)))
    exact bodyPost_ret (results_tmp2 rfl _ _ _) rfl ⟨.inr ⟨hfit, rfl, h2⟩, hK2.grown (grown_of_below hb1 _) (Nat.le_refl _)⟩

theorem grown_row {w w' w'' : World} {g : Nat} (h1 : w.grownBy w' (some g)) (h2 : w'.grownBy w'' (some w.heap.size)) : w.grownBy w'' (some g) :=
  ⟨h2.os.trans h1.os, h2.tape.trans h1.tape, h2.output.trans h1.output, Nat.le_trans h1.size h2.size, fun k hk hne => (h2.block k (Nat.lt_of_lt_of_le hk h1.size) (fun e => by have e : k = w.heap.size := Option.some.inj e; omega)).trans (h1.block k hk hne)⟩

set_option maxHeartbeats 4000000 in
set_option maxRecDepth 100000 in
theorem rdhash_any (X : Nat → Prop) (g : Nat) (l : List UInt8) (p : Nat) (w : World) (h : RdO w X g l p) (hX : ∀ b, X b → b < w.heap.size) :
    Calls Try.prog 112 #[.pointer (some ⟨g, 0, none⟩)] w fun e w' => (p + 32 ≤ l.length ∧ e = .returned (.tuple #[.agg (((l.drop p).take 32).map B).toArray, .int .i64 0]) ∧ RdO w' X g l (p + 32) ∨ ¬ p + 32 ≤ l.length ∧ e = .returned (.tuple #[.agg ((List.replicate 32 (0 : UInt8)).map B).toArray, .int .i64 110]) ∧ RdO w' X g l p) ∧ w.grownBy w' (some g) := by
  have hlt := h.lt
  by_cases hfit : p + 32 ≤ l.length
  · have Hnx := Lib.hid fun gx W h hk h1 h2 => nextH_fit X g gx l p (List.replicate 32 0) W h hk h1 h2 hfit
    have hl32 : ((l.drop p).take 32).length = 32 := by rw [List.length_take, List.length_drop]; omega
    obtain ⟨res, hres⟩ : ∃ r, (l.drop p).take 32 = r := ⟨_, rfl⟩
    rw [hres] at hl32
    have Hres := Lib.hid hres
    rw [hres]
    clear hres
    go_enter Try.func112, Try.ntmps112
    go_wp2_with (first
      | ((with_reducible show wpList _ _ _ (⟨some 2, .alloc _, _, _, _, _⟩ :: _) _ _); refine wpList_hnew rfl rfl ?_; intro w1 k2 hb1; have hs1 := k2.lt; simp only [Act.put])
      | ((with_reducible show wpList _ _ _ (⟨some 4, .alloc _, _, _, _, _⟩ :: _) _ _); refine wpList_hnew rfl rfl ?_; intro w2 k4 hb2; replace k2 := k2.step hb2; have hb12 := hb1.trans (hb2.mono hb1.size); simp only [Act.put])
      | (go_at_call 144; refine (Hnx.out w1.heap.size w2 (h.step hb12) k4 (by omega) (fun b hb => by have := hX b hb; omega)).mono ?_; rintro e w3 ⟨rfl, h2, k5, hK2⟩; rw [Hres.out] at k5; replace k2 : HV w3 w.heap.size (List.replicate 32 0) := ⟨show w3.heap[w.heap.size]? = _ by rw [hK2.block _ k2.lt (by omega) (by omega)]; exact k2.blk, rfl⟩)
      | ((with_reducible show wpList _ _ _ (⟨some 9, .load _ _, _, _, _, _⟩ :: _) _ _); refine wpList_hload (.tmp 4) (by kernel_rfl) rfl k5 rfl ?_; simp only [Act.put])
      | ((with_reducible show wpList _ _ _ (⟨none, .store _ (.tmp 2) _, _, _, _, _⟩ :: _) _ _); refine wpList_hset (.tmp 2) (.tmp 9) rfl rfl k2 rfl rfl hl32 ?_; intro w8 k2b hb8 hW8; have hg8 : w3.grownBy w8 (some w.heap.size) := (by rw [hW8]; exact grown_setRow (grown_of_below (Below.refl _ _) _) _); clear hW8; simp only [Act.put]))
    exact bodyPost_ret (tuple_cellT rfl _ _ w.heap.size (res.map B).toArray 32 5 rfl k2b.blk Try.underlying25 (by rw [show (res.map B).toArray.size = 32 by simp [hl32]]; exact info26)) rfl ⟨.inl ⟨hfit, rfl, h2.grown hg8 (by omega) (fun b hb => Nat.ne_of_lt (hX b hb))⟩, grown_row (hK2.grown (grown_of_below hb12 _) hb1.size) hg8⟩
  · have Hnx := Lib.hid fun gx W h hk h1 h2 => nextH_bad X g gx l p (List.replicate 32 0) W h hk h1 h2 hfit
    have hl32 : (List.replicate 32 (0 : UInt8)).length = 32 := rfl
    obtain ⟨res, hres⟩ : ∃ r, List.replicate 32 (0 : UInt8) = r := ⟨_, rfl⟩
    rw [hres] at hl32
    have Hres := Lib.hid hres
    rw [hres]
    clear hres
    go_enter Try.func112, Try.ntmps112
    go_wp2_with (first
      | ((with_reducible show wpList _ _ _ (⟨some 2, .alloc _, _, _, _, _⟩ :: _) _ _); refine wpList_hnew rfl rfl ?_; intro w1 k2 hb1; have hs1 := k2.lt; simp only [Act.put])
      | ((with_reducible show wpList _ _ _ (⟨some 4, .alloc _, _, _, _, _⟩ :: _) _ _); refine wpList_hnew rfl rfl ?_; intro w2 k4 hb2; replace k2 := k2.step hb2; have hb12 := hb1.trans (hb2.mono hb1.size); simp only [Act.put])
      | (go_at_call 144; refine (Hnx.out w1.heap.size w2 (h.step hb12) k4 (by omega) (fun b hb => by have := hX b hb; omega)).mono ?_; rintro e w3 ⟨rfl, h2, k5, hK2⟩; rw [Hres.out] at k5; replace k2 : HV w3 w.heap.size (List.replicate 32 0) := ⟨show w3.heap[w.heap.size]? = _ by rw [hK2.block _ k2.lt (by omega) (by omega)]; exact k2.blk, rfl⟩)
      | ((with_reducible show wpList _ _ _ (⟨some 9, .load _ _, _, _, _, _⟩ :: _) _ _); refine wpList_hload (.tmp 4) (by kernel_rfl) rfl k5 rfl ?_; simp only [Act.put])
      | ((with_reducible show wpList _ _ _ (⟨none, .store _ (.tmp 2) _, _, _, _, _⟩ :: _) _ _); refine wpList_hset (.tmp 2) (.tmp 9) rfl rfl k2 rfl rfl hl32 ?_; intro w8 k2b hb8 hW8; have hg8 : w3.grownBy w8 (some w.heap.size) := (by rw [hW8]; exact grown_setRow (grown_of_below (Below.refl _ _) _) _); clear hW8; simp only [Act.put]))
    exact bodyPost_ret (tuple_cellT rfl _ _ w.heap.size (res.map B).toArray 32 5 rfl k2b.blk Try.underlying25 (by rw [show (res.map B).toArray.size = 32 by simp [hl32]]; exact info26)) rfl ⟨.inr ⟨hfit, rfl, h2.grown hg8 (by omega) (fun b hb => Nat.ne_of_lt (hX b hb))⟩, grown_row (hK2.grown (grown_of_below hb12 _) hb1.size) hg8⟩

/-- what a signed number of eight bytes is -/
def sgnN (x : Nat) : Int := IntKind.i64.wrap (x : Int)
set_option maxHeartbeats 4000000 in
set_option maxRecDepth 100000 in
theorem rdsigned_any (X : Nat → Prop) (g : Nat) (l : List UInt8) (p : Nat) (w : World) (h : RdO w X g l p) (hX : ∀ b, X b → b < w.heap.size) :
    Calls Try.prog 110 #[.pointer (some ⟨g, 0, none⟩)] w fun e w' => (p + 8 ≤ l.length ∧ e = .returned (.tuple #[.int .i64 (sgnN (numN ((l.drop p).take 8))), .int .i64 0]) ∧ RdO w' X g l (p + 8) ∨ ¬ p + 8 ≤ l.length ∧ e = .returned (.tuple #[.int .i64 0, .int .i64 110]) ∧ RdO w' X g l p) ∧ w.grownBy w' (some g) := by
  have htk := rdtake_any X g l p w h hX
  by_cases hfit : p + 8 ≤ l.length
  · have htk := htk.mono fun e w' hq => (show e = .returned (.tuple #[.int .u64 (numN ((l.drop p).take 8) : Int), .int .i64 0]) ∧ RdO w' X g l (p + 8) ∧ w.grownBy w' (some g) by
      rcases hq with ⟨⟨_, h1, h2⟩ | ⟨h1, _⟩, h4⟩
      · exact ⟨h1, h2, h4⟩
      · exact absurd hfit h1)
    obtain ⟨res, hres⟩ : ∃ r, numN ((l.drop p).take 8) = r := ⟨_, rfl⟩
    rw [hres] at htk ⊢
    have Htk := Lib.hid htk
    clear htk hres h
    obtain ⟨sg, hsg⟩ : ∃ s, sgnN res = s := ⟨_, rfl⟩
    rw [hsg]
    unfold sgnN at hsg
    go_enter Try.func110, Try.ntmps110
    go_wp2_with (go_at_call 143; refine Htk.out.mono ?_; rintro e w1 ⟨rfl, h1, hg1⟩)
    exact bodyPost_ret (results_tmp2 rfl _ _ _) rfl ⟨.inl ⟨hfit, rfl, h1⟩, hg1⟩
  · have htk := htk.mono fun e w' hq => (show e = .returned (.tuple #[.int .u64 0, .int .i64 110]) ∧ RdO w' X g l p ∧ w.grownBy w' (some g) by
      rcases hq with ⟨⟨h1, _⟩ | ⟨_, h1, h2⟩, h4⟩
      · exact absurd h1 hfit
      · exact ⟨h1, h2, h4⟩)
    have Htk := Lib.hid htk
    clear htk h
    go_enter Try.func110, Try.ntmps110
    go_wp2_with (go_at_call 143; refine Htk.out.mono ?_; rintro e w1 ⟨rfl, h1, hg1⟩)
    exact bodyPost_ret (results_tmp2 rfl _ _ _) rfl ⟨.inr ⟨hfit, rfl, h1⟩, hg1⟩
end Go.Proofs.Ytonidnfgneokbaa
