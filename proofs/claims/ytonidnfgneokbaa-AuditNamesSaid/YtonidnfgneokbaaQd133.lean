/- Two clashes are one; which of the five hashes. -/
import Derived.Test.YtonidnfgneokbaaQd131
import Derived.Test.YtonidnfgneokbaaQd132
namespace Go.Proofs.Ytonidnfgneokbaa
open Go Go.RowKit Go.Shelf
attribute [local go_sem] Oper.semAt_some

set_option maxHeartbeats 4000000 in
set_option maxRecDepth 100000 in
theorem csame_any (l m : List UInt8) (A A' D D' : Option Addr) (n c n' c' a2 b2 : Nat) (w : World) (h1 : Sl w (fun _ => True) A n c l) (h2 : Sl w (fun _ => True) A' n' c' m) (h3 : Sl w (fun _ => True) D n a2 l) (h4 : Sl w (fun _ => True) D' n' b2 m) :
    Calls Try.prog 20 #[.agg #[.slice A n c, .slice A' n' c'], .agg #[.slice D n a2, .slice D' n' b2]] w fun e w' => e = .returned (.bool true) ∧ Below w.heap.size w w' := by
  obtain ⟨w0, hw0⟩ : ∃ w0, (w.alloc (.cells #[.slice A n c, .slice A' n' c'] 34)).alloc (.cells #[.slice D n a2, .slice D' n' b2] 34) = w0 := ⟨_, rfl⟩
  have hb0 : Below w.heap.size w w0 := by rw [← hw0]; exact ((Below.refl _ _).alloc (Nat.le_refl _) _).alloc (by simp) _
  have k0 : Blk w0 w.heap.size 34 #[.slice A n c, .slice A' n' c'] := by rw [← hw0]; exact (Blk.new _ _ _).alloc _
  have k1 : Blk w0 (w.heap.size + 1) 34 #[.slice D n a2, .slice D' n' b2] := by rw [← hw0]; exact Blk.new' _ _ _ _ (by simp)
  have e1 : w0.cell? ⟨w.heap.size, 0, none⟩ = some (.slice A n c) := by rw [k0.cell]; rfl
  have e2 : w0.cell? ⟨w.heap.size, 1, none⟩ = some (.slice A' n' c') := by rw [k0.cell]; rfl
  have e3 : w0.cell? ⟨w.heap.size + 1, 0, none⟩ = some (.slice D n a2) := by rw [k1.cell]; rfl
  have e4 : w0.cell? ⟨w.heap.size + 1, 1, none⟩ = some (.slice D' n' b2) := by rw [k1.cell]; rfl
  have s1 := run_str (h1.step hb0)
  have s2 := run_str (h2.step hb0)
  have s3 := run_str (h3.step hb0)
  have s4 := run_str (h4.step hb0)
  have q1 := run_eql_str l l w0
  have q2 := run_eql_str m m w0
  rw [BEq.rfl] at q1 q2
  have Hw0 := Lib.hid hw0
  clear hw0 h1 h2 h3 h4 k0 k1
  go_enter Try.func20, Try.ntmps20
  go_wp2_with (rw [Hw0.out])
  go_ret
  exact ⟨rfl, hb0⟩

/-- a kind of hash, from any number -/
def numK (k : Int) : Int := if k.tmod 5 < 0 then k.tmod 5 + 5 else k.tmod 5
theorem numK_cases (k : Int) : numK k = 0 ∨ numK k = 1 ∨ numK k = 2 ∨ numK k = 3 ∨ numK k = 4 := by
  unfold numK
  have h1 := Int.tmod_lt_of_pos k (show (0 : Int) < 5 by decide)
  have h2 : -5 < k.tmod 5 := by
    have := Int.lt_tmod_of_pos k (show (0 : Int) < 5 by decide)
    omega
  split <;> omega
theorem number13_any (k : Int) (w : World) :
    Calls Try.prog 15 #[.int .i64 k] w fun e w' => e = .returned (.int .i64 (numK k)) ∧ w' = w := by
  have h1 := Int.tmod_lt_of_pos k (show (0 : Int) < 5 by decide)
  have h2 : -5 < k.tmod 5 := by
    have := Int.lt_tmod_of_pos k (show (0 : Int) < 5 by decide)
    omega
  unfold numK
  have hr : IntKind.i64.wrap (k.tmod 5) = k.tmod 5 := by rw [IntKind.wrap_i64]; omega
  have hr5 : IntKind.i64.wrap (k.tmod 5 + 5) = k.tmod 5 + 5 := by rw [IntKind.wrap_i64]; omega
  obtain ⟨r, hr0⟩ : ∃ r, k.tmod 5 = r := ⟨_, rfl⟩
  rw [hr0] at hr hr5 h1 h2 ⊢
  by_cases hn : r < 0
  · have hd : decide (r < (0 : Int)) = true := by simpa using hn
    rw [if_pos hn]
    go_enter Try.func15, Try.ntmps15
    go_wp2_with fail
    go_ret
    exact ⟨rfl, rfl⟩
  · have hd : decide (r < (0 : Int)) = false := by simpa using hn
    rw [if_neg hn]
    go_enter Try.func15, Try.ntmps15
    go_wp2_with fail
    go_ret
    exact ⟨rfl, rfl⟩
theorem large13_any (A : Option Addr) (n c : Nat) (w : World) : Calls Try.prog 13 #[.slice A n c] w fun e w' => e = .returned (.bool (decide ((300 : Int) < (n : Int)))) ∧ w' = w := by
  go_enter Try.func13, Try.ntmps13
  go_wp2_with fail
  go_ret
  exact ⟨rfl, rfl⟩
theorem num13_any (e : Int) (w : World) : Calls Try.prog 19 #[.int .i64 e] w fun e' w' => e' = .returned (.int .i64 e) ∧ w' = w := by
  go_enter Try.func19, Try.ntmps19
  go_wp2_with fail
  go_ret
  exact ⟨rfl, rfl⟩

set_option maxHeartbeats 4000000 in
set_option maxRecDepth 100000 in
theorem is13_any (k : Int) (hk : k = 0 ∨ k = 1 ∨ k = 2 ∨ k = 3 ∨ k = 4) (l m : List UInt8) (A A' : Option Addr) (n c n' c' : Nat) (w : World) (h1 : Sl w (fun _ => True) A n c l) (h2 : Sl w (fun _ => True) A' n' c' m) (hn : n ≤ 1099511627776) (hn' : n' ≤ 1099511627776) :
    Calls Try.prog 24 #[.int .i64 k, .agg #[.slice A n c, .slice A' n' c']] w fun e w' => e = .returned (.bool (isC (hashK k) (l, m))) ∧ Below w.heap.size w w' := by
  obtain ⟨w0, hw0⟩ : ∃ w0, w.alloc (.cells #[.slice A n c, .slice A' n' c'] 34) = w0 := ⟨_, rfl⟩
  have hb0 : Below w.heap.size w w0 := by rw [← hw0]; exact (Below.refl _ _).alloc (Nat.le_refl _) _
  have k0 : Blk w0 w.heap.size 34 #[.slice A n c, .slice A' n' c'] := by rw [← hw0]; exact Blk.new _ _ _
  have hi := fun (f : Nat) (H : Hf) (hF : HFn f H) => ais_any hF l m A A' n c n' c' w0 (h1.step hb0) (h2.step hb0) hn hn'
  have Hw0 := Lib.hid hw0
  have Hi := Lib.hid hi
  clear h1 h2 hw0 hi
  rcases hk with rfl | rfl | rfl | rfl | rfl
  · go_enter Try.func24, Try.ntmps24
    go_wp2_with (first
      | rw [Hw0.out]
      | ((with_reducible show wpList _ _ _ (⟨some 22, .load _ _, _, _, _, _⟩ :: _) _ _); refine wpList_run0 rfl (.agg #[.slice A n c, .slice A' n' c']) (run_load_op 34 (.tmp 3) rfl _ 0 rfl _ (cl_load k0)) ?_; simp only [Act.put]))
    refine (Hi.out _ _ strong13_fn).mono ?_
    rintro e w2 ⟨rfl, hb2⟩
    go_wp2_with fail
    go_ret
    exact ⟨rfl, hb0.trans (hb2.mono hb0.size)⟩
  · go_enter Try.func24, Try.ntmps24
    go_wp2_with (first
      | rw [Hw0.out]
      | ((with_reducible show wpList _ _ _ (⟨some 8, .load _ _, _, _, _, _⟩ :: _) _ _); refine wpList_run0 rfl (.agg #[.slice A n c, .slice A' n' c']) (run_load_op 34 (.tmp 3) rfl _ 0 rfl _ (cl_load k0)) ?_; simp only [Act.put]))
    refine (Hi.out _ _ first13_fn).mono ?_
    rintro e w2 ⟨rfl, hb2⟩
    go_wp2_with fail
    go_ret
    exact ⟨rfl, hb0.trans (hb2.mono hb0.size)⟩
  · go_enter Try.func24, Try.ntmps24
    go_wp2_with (first
      | rw [Hw0.out]
      | ((with_reducible show wpList _ _ _ (⟨some 12, .load _ _, _, _, _, _⟩ :: _) _ _); refine wpList_run0 rfl (.agg #[.slice A n c, .slice A' n' c']) (run_load_op 34 (.tmp 3) rfl _ 0 rfl _ (cl_load k0)) ?_; simp only [Act.put]))
    refine (Hi.out _ _ bits13_fn).mono ?_
    rintro e w2 ⟨rfl, hb2⟩
    go_wp2_with fail
    go_ret
    exact ⟨rfl, hb0.trans (hb2.mono hb0.size)⟩
  · go_enter Try.func24, Try.ntmps24
    go_wp2_with (first
      | rw [Hw0.out]
      | ((with_reducible show wpList _ _ _ (⟨some 16, .load _ _, _, _, _, _⟩ :: _) _ _); refine wpList_run0 rfl (.agg #[.slice A n c, .slice A' n' c']) (run_load_op 34 (.tmp 3) rfl _ 0 rfl _ (cl_load k0)) ?_; simp only [Act.put]))
    refine (Hi.out _ _ none13_fn).mono ?_
    rintro e w2 ⟨rfl, hb2⟩
    go_wp2_with fail
    go_ret
    exact ⟨rfl, hb0.trans (hb2.mono hb0.size)⟩
  · go_enter Try.func24, Try.ntmps24
    go_wp2_with (first
      | rw [Hw0.out]
      | ((with_reducible show wpList _ _ _ (⟨some 20, .load _ _, _, _, _, _⟩ :: _) _ _); refine wpList_run0 rfl (.agg #[.slice A n c, .slice A' n' c']) (run_load_op 34 (.tmp 3) rfl _ 0 rfl _ (cl_load k0)) ?_; simp only [Act.put]))
    refine (Hi.out _ _ two13_fn).mono ?_
    rintro e w2 ⟨rfl, hb2⟩
    go_wp2_with fail
    go_ret
    exact ⟨rfl, hb0.trans (hb2.mono hb0.size)⟩

set_option maxHeartbeats 4000000 in
set_option maxRecDepth 100000 in
theorem incl13_any (k : Int) (hk : k = 0 ∨ k = 1 ∨ k = 2 ∨ k = 3 ∨ k = 4) (ls : List (List UInt8)) (Ad : Option Addr) (nd cd : Nat) (i : Int) (en : List UInt8) (Ae : Option Addr) (ne ce : Nat) (pf : List (List UInt8)) (Ap : Option Addr) (np cp : Nat) (w : World)
    (hd : Es w (fun _ => True) Ad nd cd ls) (he : Sl w (fun _ => True) Ae ne ce en) (hp : Hs w (fun _ => True) Ap np cp pf) :
    Calls Try.prog 17 #[.int .i64 k, .slice Ad nd cd, .int .i64 i, .slice Ae ne ce, .slice Ap np cp] w fun e' w' => ∃ v, e' = .returned (.tuple #[v, .int .i64 (inclC (hashK k) ls i en pf).2]) ∧ ClV w.heap.size (inclC (hashK k) ls i en pf).1 v w' ∧ Below w.heap.size w w' := by
  obtain ⟨w1, hw1⟩ : ∃ w1, w.alloc (.cells #[.slice none 0 0, .slice none 0 0] 34) = w1 := ⟨_, rfl⟩
  have hb1 : Below w.heap.size w w1 := by rw [← hw1]; exact (Below.refl _ _).alloc (Nat.le_refl _) _
  have k1 : Blk w1 w.heap.size 34 #[.slice none 0 0, .slice none 0 0] := by rw [← hw1]; exact Blk.new _ _ _
  have hz1 : w1.heap.size = w.heap.size + 1 := by rw [← hw1]; simp
  have hi := fun (f : Nat) (H : Hf) (hF : HFn f H) => aincl_any hF ls Ad nd cd i en Ae ne ce pf Ap np cp w1 (hd.step hb1) (he.step hb1) (hp.step hb1)
  have Hw1 := Lib.hid hw1
  have Hi := Lib.hid hi
  clear hd he hp hw1 hi
  rcases hk with rfl | rfl | rfl | rfl | rfl
  · have hi := Hi.out _ _ strong13_fn
    obtain ⟨⟨c1, e1⟩, hc⟩ : ∃ r, inclC (hashK 0) ls i en pf = r := ⟨_, rfl⟩
    rw [hc] at hi ⊢
    have Hi2 := Lib.hid hi
    clear hi hc
    go_enter Try.func17, Try.ntmps17
    go_wp2_with ((with_reducible show wpList _ _ _ (⟨some 10, .alloc _, _, _, _, _⟩ :: _) _ _); refine wpList_run rfl (.pointer (some ⟨w.heap.size, 0, none⟩)) w1 (by rw [← Hw1.out]; rfl) ?_; simp only [Act.put])
    refine Hi2.out.mono ?_
    rintro e w2 ⟨v, rfl, ⟨a8, a9, rfl, ho8, ho9⟩, hb2⟩
    obtain ⟨A8, c8, rfl, -⟩ := owns_slv ho8
    obtain ⟨A9, c9, rfl, -⟩ := owns_slv ho9
    have k2 := k1.step hb2
    go_wp2_with ((with_reducible show wpList _ _ _ (⟨none, .store _ (.tmp 10) _, _, _, _, _⟩ :: _) _ _); refine wpList_clset (.tmp 10) (.tmp 54) rfl rfl k2 rfl rfl rfl rfl ?_; intro W3 k3 hb3 hW3; have hgr : w2.grownBy W3 (some w.heap.size) := (by rw [hW3]; exact grown_setRow (grown_of_below (Below.refl _ _) _) _); replace ho8 := ho8.kept hgr (.inr fun e => by have := (ho8.lt _ e).1; omega); replace ho9 := ho9.kept hgr (.inr fun e => by have := (ho9.lt _ e).1; omega); have hbE := (hb1.trans (hb2.mono hb1.size)).trans (hb3.mono (Nat.le_refl _)); clear hW3 hgr; simp only [Act.put])
    exact bodyPost_ret (ret_clash2 rfl rfl k3) rfl ⟨_, rfl, ⟨_, _, rfl, owns_le ho8 (show w.heap.size ≤ w1.heap.size by omega), owns_le ho9 (show w.heap.size ≤ w1.heap.size by omega)⟩, hbE⟩
  · have hi := Hi.out _ _ first13_fn
    obtain ⟨⟨c1, e1⟩, hc⟩ : ∃ r, inclC (hashK 1) ls i en pf = r := ⟨_, rfl⟩
    rw [hc] at hi ⊢
    have Hi2 := Lib.hid hi
    clear hi hc
    go_enter Try.func17, Try.ntmps17
    go_wp2_with ((with_reducible show wpList _ _ _ (⟨some 10, .alloc _, _, _, _, _⟩ :: _) _ _); refine wpList_run rfl (.pointer (some ⟨w.heap.size, 0, none⟩)) w1 (by rw [← Hw1.out]; rfl) ?_; simp only [Act.put])
    refine Hi2.out.mono ?_
    rintro e w2 ⟨v, rfl, ⟨a8, a9, rfl, ho8, ho9⟩, hb2⟩
    obtain ⟨A8, c8, rfl, -⟩ := owns_slv ho8
    obtain ⟨A9, c9, rfl, -⟩ := owns_slv ho9
    have k2 := k1.step hb2
    go_wp2_with ((with_reducible show wpList _ _ _ (⟨none, .store _ (.tmp 10) _, _, _, _, _⟩ :: _) _ _); refine wpList_clset (.tmp 10) (.tmp 20) rfl rfl k2 rfl rfl rfl rfl ?_; intro W3 k3 hb3 hW3; have hgr : w2.grownBy W3 (some w.heap.size) := (by rw [hW3]; exact grown_setRow (grown_of_below (Below.refl _ _) _) _); replace ho8 := ho8.kept hgr (.inr fun e => by have := (ho8.lt _ e).1; omega); replace ho9 := ho9.kept hgr (.inr fun e => by have := (ho9.lt _ e).1; omega); have hbE := (hb1.trans (hb2.mono hb1.size)).trans (hb3.mono (Nat.le_refl _)); clear hW3 hgr; simp only [Act.put])
    exact bodyPost_ret (ret_clash2 rfl rfl k3) rfl ⟨_, rfl, ⟨_, _, rfl, owns_le ho8 (show w.heap.size ≤ w1.heap.size by omega), owns_le ho9 (show w.heap.size ≤ w1.heap.size by omega)⟩, hbE⟩
  · have hi := Hi.out _ _ bits13_fn
    obtain ⟨⟨c1, e1⟩, hc⟩ : ∃ r, inclC (hashK 2) ls i en pf = r := ⟨_, rfl⟩
    rw [hc] at hi ⊢
    have Hi2 := Lib.hid hi
    clear hi hc
    go_enter Try.func17, Try.ntmps17
    go_wp2_with ((with_reducible show wpList _ _ _ (⟨some 10, .alloc _, _, _, _, _⟩ :: _) _ _); refine wpList_run rfl (.pointer (some ⟨w.heap.size, 0, none⟩)) w1 (by rw [← Hw1.out]; rfl) ?_; simp only [Act.put])
    refine Hi2.out.mono ?_
    rintro e w2 ⟨v, rfl, ⟨a8, a9, rfl, ho8, ho9⟩, hb2⟩
    obtain ⟨A8, c8, rfl, -⟩ := owns_slv ho8
    obtain ⟨A9, c9, rfl, -⟩ := owns_slv ho9
    have k2 := k1.step hb2
    go_wp2_with ((with_reducible show wpList _ _ _ (⟨none, .store _ (.tmp 10) _, _, _, _, _⟩ :: _) _ _); refine wpList_clset (.tmp 10) (.tmp 29) rfl rfl k2 rfl rfl rfl rfl ?_; intro W3 k3 hb3 hW3; have hgr : w2.grownBy W3 (some w.heap.size) := (by rw [hW3]; exact grown_setRow (grown_of_below (Below.refl _ _) _) _); replace ho8 := ho8.kept hgr (.inr fun e => by have := (ho8.lt _ e).1; omega); replace ho9 := ho9.kept hgr (.inr fun e => by have := (ho9.lt _ e).1; omega); have hbE := (hb1.trans (hb2.mono hb1.size)).trans (hb3.mono (Nat.le_refl _)); clear hW3 hgr; simp only [Act.put])
    exact bodyPost_ret (ret_clash2 rfl rfl k3) rfl ⟨_, rfl, ⟨_, _, rfl, owns_le ho8 (show w.heap.size ≤ w1.heap.size by omega), owns_le ho9 (show w.heap.size ≤ w1.heap.size by omega)⟩, hbE⟩
  · have hi := Hi.out _ _ none13_fn
    obtain ⟨⟨c1, e1⟩, hc⟩ : ∃ r, inclC (hashK 3) ls i en pf = r := ⟨_, rfl⟩
    rw [hc] at hi ⊢
    have Hi2 := Lib.hid hi
    clear hi hc
    go_enter Try.func17, Try.ntmps17
    go_wp2_with ((with_reducible show wpList _ _ _ (⟨some 10, .alloc _, _, _, _, _⟩ :: _) _ _); refine wpList_run rfl (.pointer (some ⟨w.heap.size, 0, none⟩)) w1 (by rw [← Hw1.out]; rfl) ?_; simp only [Act.put])
    refine Hi2.out.mono ?_
    rintro e w2 ⟨v, rfl, ⟨a8, a9, rfl, ho8, ho9⟩, hb2⟩
    obtain ⟨A8, c8, rfl, -⟩ := owns_slv ho8
    obtain ⟨A9, c9, rfl, -⟩ := owns_slv ho9
    have k2 := k1.step hb2
    go_wp2_with ((with_reducible show wpList _ _ _ (⟨none, .store _ (.tmp 10) _, _, _, _, _⟩ :: _) _ _); refine wpList_clset (.tmp 10) (.tmp 38) rfl rfl k2 rfl rfl rfl rfl ?_; intro W3 k3 hb3 hW3; have hgr : w2.grownBy W3 (some w.heap.size) := (by rw [hW3]; exact grown_setRow (grown_of_below (Below.refl _ _) _) _); replace ho8 := ho8.kept hgr (.inr fun e => by have := (ho8.lt _ e).1; omega); replace ho9 := ho9.kept hgr (.inr fun e => by have := (ho9.lt _ e).1; omega); have hbE := (hb1.trans (hb2.mono hb1.size)).trans (hb3.mono (Nat.le_refl _)); clear hW3 hgr; simp only [Act.put])
    exact bodyPost_ret (ret_clash2 rfl rfl k3) rfl ⟨_, rfl, ⟨_, _, rfl, owns_le ho8 (show w.heap.size ≤ w1.heap.size by omega), owns_le ho9 (show w.heap.size ≤ w1.heap.size by omega)⟩, hbE⟩
  · have hi := Hi.out _ _ two13_fn
    obtain ⟨⟨c1, e1⟩, hc⟩ : ∃ r, inclC (hashK 4) ls i en pf = r := ⟨_, rfl⟩
    rw [hc] at hi ⊢
    have Hi2 := Lib.hid hi
    clear hi hc
    go_enter Try.func17, Try.ntmps17
    go_wp2_with ((with_reducible show wpList _ _ _ (⟨some 10, .alloc _, _, _, _, _⟩ :: _) _ _); refine wpList_run rfl (.pointer (some ⟨w.heap.size, 0, none⟩)) w1 (by rw [← Hw1.out]; rfl) ?_; simp only [Act.put])
    refine Hi2.out.mono ?_
    rintro e w2 ⟨v, rfl, ⟨a8, a9, rfl, ho8, ho9⟩, hb2⟩
    obtain ⟨A8, c8, rfl, -⟩ := owns_slv ho8
    obtain ⟨A9, c9, rfl, -⟩ := owns_slv ho9
    have k2 := k1.step hb2
    go_wp2_with ((with_reducible show wpList _ _ _ (⟨none, .store _ (.tmp 10) _, _, _, _, _⟩ :: _) _ _); refine wpList_clset (.tmp 10) (.tmp 47) rfl rfl k2 rfl rfl rfl rfl ?_; intro W3 k3 hb3 hW3; have hgr : w2.grownBy W3 (some w.heap.size) := (by rw [hW3]; exact grown_setRow (grown_of_below (Below.refl _ _) _) _); replace ho8 := ho8.kept hgr (.inr fun e => by have := (ho8.lt _ e).1; omega); replace ho9 := ho9.kept hgr (.inr fun e => by have := (ho9.lt _ e).1; omega); have hbE := (hb1.trans (hb2.mono hb1.size)).trans (hb3.mono (Nat.le_refl _)); clear hW3 hgr; simp only [Act.put])
    exact bodyPost_ret (ret_clash2 rfl rfl k3) rfl ⟨_, rfl, ⟨_, _, rfl, owns_le ho8 (show w.heap.size ≤ w1.heap.size by omega), owns_le ho9 (show w.heap.size ≤ w1.heap.size by omega)⟩, hbE⟩
end Go.Proofs.Ytonidnfgneokbaa
