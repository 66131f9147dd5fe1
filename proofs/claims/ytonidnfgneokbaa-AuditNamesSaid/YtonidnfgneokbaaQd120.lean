/- notaryref13.Hash, and the five hashes. -/
import Derived.Test.YtonidnfgneokbaaQd119
namespace Go.Proofs.Ytonidnfgneokbaa
open Go Go.RowKit Go.Shelf
attribute [local go_sem] Oper.semAt_some

/-- hashes, strong and weak -/
def hashK (k : Int) (l : List UInt8) : List UInt8 :=
  if k = 1 then (List.replicate 32 0).set 0 ((sha256 l).getD 0 0) else if k = 2 then (List.replicate 32 0).set 0 ((sha256 l).getD 0 0 % 4) else if k = 3 then List.replicate 32 0
  else if k = 4 then ((List.replicate 32 0).set 0 ((sha256 l).getD 0 0)).set 1 ((sha256 l).getD 1 0) else sha256 l
theorem length_hashK (k : Int) (l : List UInt8) : (hashK k l).length = 32 := by
  unfold hashK
  split
  · simp
  · split
    · simp
    · split
      · simp
      · split
        · simp
        · exact length_sha256 l
theorem u8_rem4 (x : UInt8) : Int.tmod (x.toNat : Int) 4 = (((x % 4).toNat : Nat) : Int) := by
  rw [UInt8.toNat_mod]
  exact (Int.ofNat_tmod x.toNat 4).symm

set_option maxHeartbeats 4000000 in
set_option maxRecDepth 100000 in
theorem rhash13_any (kd : Int) (l : List UInt8) (A : Option Addr) (n c : Nat) (w : World) (h : Sl w (fun _ => True) A n c l) (hn : n ≤ 1099511627776) :
    Calls Try.prog 80 #[.int .i64 kd, .slice A n c] w fun e w' => e = .returned (.agg ((hashK kd l).map B).toArray) ∧ Below w.heap.size w w' := by
  have hof := fun W (h : Sl W (fun _ => True) A n c l) => hrof_any l A n c W h hn
  have hrl := length_sha256 l
  obtain ⟨q, hq⟩ : ∃ q, sha256 l = q := ⟨_, rfl⟩
  have hhk : hashK kd l = if kd = 1 then (List.replicate 32 0).set 0 (q.getD 0 0) else if kd = 2 then (List.replicate 32 0).set 0 (q.getD 0 0 % 4) else if kd = 3 then List.replicate 32 0 else if kd = 4 then ((List.replicate 32 0).set 0 (q.getD 0 0)).set 1 (q.getD 1 0) else q := by unfold hashK; rw [hq]
  obtain ⟨r, hr⟩ : ∃ r, hashK kd l = r := ⟨_, rfl⟩
  have hrl2 : r.length = 32 := by rw [← hr]; exact length_hashK kd l
  rw [hr] at hhk ⊢
  rw [hq] at hof hrl
  have Hof := Lib.hid hof
  have Hrl := Lib.hid hrl
  have Hrl2 := Lib.hid hrl2
  have Hhk := Lib.hid hhk
  clear hof hrl hrl2 hhk hq hr
  go_enter Try.func80, Try.ntmps80
  go_upto_region 3 with (first
    | ((with_reducible show wpList _ _ _ (⟨some 4, .alloc _, _, _, _, _⟩ :: _) _ _); refine wpList_hnew rfl rfl ?_; intro w1 k4 hb1; simp only [Act.put])
    | (go_at_call 102; refine (Hof.out _ (h.step hb1)).mono ?_; rintro e w2 ⟨rfl, hb2⟩; replace k4 := k4.step hb2; have hb3 := hb1.trans (hb2.mono hb1.size))
    | ((with_reducible show wpList _ _ _ (⟨some 5, .alloc _, _, _, _, _⟩ :: _) _ _); refine wpList_hvar (.tmp 5) (.tmp 8) rfl rfl rfl rfl rfl rfl Hrl.out ?_; intro w3 k5 hb4; simp only [Act.put]; have l45 := k4.lt; replace k4 := k4.step hb4; have hb5 := hb3.trans (hb4.mono hb3.size))
    | ((with_reducible show wpList _ _ _ (⟨some 6, .alloc _, _, _, _, _⟩ :: _) _ _); refine wpList_hnew rfl rfl ?_; intro w4 k6 hb6; simp only [Act.put]; have l56 := k5.lt; replace k4 := k4.step hb6; replace k5 := k5.step hb6; have hb7 := hb5.trans (hb6.mono hb5.size)))
  obtain ⟨g5, hg5⟩ : ∃ g, w2.heap.size = g := ⟨_, rfl⟩
  obtain ⟨g6, hg6⟩ : ∃ g, w3.heap.size = g := ⟨_, rfl⟩
  rw [hg5] at k5 l45 l56 ⊢
  rw [hg6] at k6 l56 ⊢
  clear hb1 hb2 hb3 hb4 hb5 hb6 hg5 hg6
  have hput : ∀ (U : World) (m : List UInt8) (i : Nat) (x : UInt8), HV U g6 m → HV U w.heap.size (List.replicate 32 0) → Below w.heap.size w U → HV (U.setCell ⟨g6, i, none⟩ (B x)) g6 (m.set i x) ∧ HV (U.setCell ⟨g6, i, none⟩ (B x)) w.heap.size (List.replicate 32 0) ∧ Below w.heap.size w (U.setCell ⟨g6, i, none⟩ (B x)) := fun U m i x k k' hb =>
    ⟨⟨by have := k.blk.set_ i (B x); rw [setB] at this; exact this, by rw [List.length_set]; exact k.len⟩, ⟨k'.blk.apart (by omega) _, k'.len⟩, hb.setCell (p := ⟨g6, i, none⟩) (by show w.heap.size ≤ g6; omega) _⟩
  obtain ⟨x0, hx0⟩ : ∃ x, q.getD 0 0 = x := ⟨_, rfl⟩
  obtain ⟨x1, hx1⟩ : ∃ x, q.getD 1 0 = x := ⟨_, rfl⟩
  have c50 : w4.cell? ⟨g5, 0, none⟩ = some (.int .u8 (x0.toNat : Int)) := by rw [k5.blk.cell, ← hx0]; exact cellB q 0 (by rw [Hrl.out]; decide)
  have c51 : w4.cell? ⟨g5, 1, none⟩ = some (.int .u8 (x1.toNat : Int)) := by rw [k5.blk.cell, ← hx1]; exact cellB q 1 (by rw [Hrl.out]; decide)
  have c60 : w4.cell? ⟨g6, 0, none⟩ = some (.int .u8 0) := by rw [k6.blk.cell]; rfl
  have f60 := k6.blk.frozen 0
  have f61 := k6.blk.frozen 1
  have Hx0 := Lib.hid hx0
  have Hx1 := Lib.hid hx1
  have Hput := Lib.hid hput
  clear hx0 hx1 hput
  by_cases e1 : kd = 1
  · subst e1
    have hrr := Hhk.out
    rw [if_pos rfl, Hx0.out] at hrr
    obtain ⟨kU6, kU4, hbU⟩ := Hput.out w4 _ 0 x0 k6 k4 hb7
    rw [← hrr] at kU6
    clear hrr
    go_wp2_with (first
      | ((with_reducible show wpList _ _ _ (⟨some 32, .load _ _, _, _, _, _⟩ :: _) _ _); refine wpList_hload (.tmp 6) (by kernel_rfl) rfl kU6 rfl ?_; simp only [Act.put])
      | ((with_reducible show wpList _ _ _ [⟨none, .store _ (.tmp 4) _, _, _, _, _⟩] _ _); refine wpList_hset2 (.tmp 4) (.tmp 32) rfl rfl kU4 rfl rfl Hrl2.out ?_; intro W6 k4s hb9 _; simp only [Act.put]))
    exact bodyPost_ret (ret_hash rfl rfl k4s) rfl ⟨rfl, hbU.trans hb9⟩
  by_cases e2 : kd = 2
  · subst e2
    have hrr := Hhk.out
    rw [if_neg (by decide), if_pos rfl, Hx0.out] at hrr
    obtain ⟨kU6, kU4, hbU⟩ := Hput.out w4 _ 0 (x0 % 4) k6 k4 hb7
    rw [← hrr] at kU6
    clear hrr
    have hrem := u8_rem4 x0
    go_wp2_with (first
      | ((with_reducible show wpList _ _ _ (⟨some 32, .load _ _, _, _, _, _⟩ :: _) _ _); refine wpList_hload (.tmp 6) (by kernel_rfl) rfl kU6 rfl ?_; simp only [Act.put])
      | ((with_reducible show wpList _ _ _ [⟨none, .store _ (.tmp 4) _, _, _, _, _⟩] _ _); refine wpList_hset2 (.tmp 4) (.tmp 32) rfl rfl kU4 rfl rfl Hrl2.out ?_; intro W6 k4s hb9 _; simp only [Act.put]))
    exact bodyPost_ret (ret_hash rfl rfl k4s) rfl ⟨rfl, hbU.trans hb9⟩
  by_cases e3 : kd = 3
  · subst e3
    have hrr := Hhk.out
    rw [if_neg (by decide), if_neg (by decide), if_pos rfl] at hrr
    rw [← hrr] at k6
    clear hrr
    go_wp2_with (first
      | ((with_reducible show wpList _ _ _ (⟨some 32, .load _ _, _, _, _, _⟩ :: _) _ _); refine wpList_hload (.tmp 6) (by kernel_rfl) rfl k6 rfl ?_; simp only [Act.put])
      | ((with_reducible show wpList _ _ _ [⟨none, .store _ (.tmp 4) _, _, _, _, _⟩] _ _); refine wpList_hset2 (.tmp 4) (.tmp 32) rfl rfl k4 rfl rfl Hrl2.out ?_; intro W6 k4s hb9 _; simp only [Act.put]))
    exact bodyPost_ret (ret_hash rfl rfl k4s) rfl ⟨rfl, hb7.trans hb9⟩
  by_cases e4 : kd = 4
  · subst e4
    have hrr := Hhk.out
    rw [if_neg (by decide), if_neg (by decide), if_neg (by decide), if_pos rfl, Hx0.out, Hx1.out] at hrr
    have cA : ∀ s : InC (fun W => Below g6 w4 W), s.W.cell? ⟨g5, 0, none⟩ = some (.int .u8 (x0.toNat : Int)) := fun s => by rw [s.ok.cell (p := ⟨g5, 0, none⟩) (by show g5 < g6; omega)]; exact c50
    have cB : ∀ s : InC (fun W => Below g6 w4 W), s.W.cell? ⟨g5, 1, none⟩ = some (.int .u8 (x1.toNat : Int)) := fun s => by rw [s.ok.cell (p := ⟨g5, 1, none⟩) (by show g5 < g6; omega)]; exact c51
    have Hrr := Lib.hid hrr
    clear hrr c50 c51 c60 f60 f61
    go_wp2_with fail
    have hS : Below g6 w4 w4.drew := (Below.refl _ _).drew
    have hbd : Below w.heap.size w w4.drew := hb7.drew
    replace k4 := k4.drew
    replace k6 := k6.drew
    refine wp_region_mix (fun W => Below g6 w4 W) [(0, true), (1, true), (2, true), (3, true), (4, true), (5, false), (6, true), (7, false)] (by kernel_rfl) (by kernel_rfl) hS fun _ => ?_
    simp only [List.map_cons, List.map_nil, Array.getD_eq_getD_getElem?, List.getElem?_toArray, List.getElem?_cons_succ, List.getElem?_cons_zero, Option.getD_some]
    generalize w4.drew = u9 at hS k4 k6 hbd ⊢
    refine wpMix_s (fun K hK => ?_)
    go_simp
    refine hK _ ?_
    clear hK K
    refine wpMix_s (fun K hK => ?_)
    go_simp
    refine hK _ ?_
    clear hK K
    refine wpMix_s (fun K hK => ?_)
    go_simp
    refine hK _ ?_
    clear hK K
    refine wpMix_s (fun K hK => ?_)
    go_simp
    refine hK _ ?_
    clear hK K
    refine wpMix_s (fun K hK => ?_)
    go_simp
    refine hK _ ?_
    clear hK K
    have d60 : u9.cell? ⟨g6, 0, none⟩ = some (.int .u8 0) := by rw [k6.blk.cell]; kernel_rfl
    have d6f := k6.blk.frozen 0
    obtain ⟨kU6, kU4, hbU⟩ := Hput.out u9 _ 0 x0 k6 k4 hbd
    refine wpMix_c (fun K hK => ?_) hS
    go_simp
    refine hK _ _ ?_
    clear hK K
    have hS := hS.setCell (p := ⟨g6, 0, none⟩) (Nat.le_refl _) (B x0)
    refine ⟨hS, ?_⟩
    clear d60 d6f
    refine wpMix_s (fun K hK => ?_)
    go_simp
    refine hK _ ?_
    clear hK K
    have d60 : (u9.setCell ⟨g6, 0, none⟩ (B x0)).cell? ⟨g6, 1, none⟩ = some (.int .u8 0) := by rw [kU6.blk.cell]; kernel_rfl
    have d6f := kU6.blk.frozen 1
    obtain ⟨kV6, kV4, hbV⟩ := Hput.out (u9.setCell ⟨g6, 0, none⟩ (B x0)) _ 1 x1 kU6 kU4 hbU
    refine wpMix_c (fun K hK => ?_) hS
    go_simp
    refine hK _ _ ?_
    clear hK K
    have hS := hS.setCell (p := ⟨g6, 1, none⟩) (Nat.le_refl _) (B x1)
    refine ⟨hS, ?_⟩
    clear d60 d6f
    refine wpMix_nil ?_
    intro _
    rw [← Hrr.out] at kV6
    go_wp2_with (first
      | ((with_reducible show wpList _ _ _ (⟨some 32, .load _ _, _, _, _, _⟩ :: _) _ _); refine wpList_hload (.tmp 6) (by kernel_rfl) rfl kV6 rfl ?_; simp only [Act.put])
      | ((with_reducible show wpList _ _ _ [⟨none, .store _ (.tmp 4) _, _, _, _, _⟩] _ _); refine wpList_hset2 (.tmp 4) (.tmp 32) rfl rfl kV4 rfl rfl Hrl2.out ?_; intro W6 k4s hb9 _; simp only [Act.put]))
    exact bodyPost_ret (ret_hash rfl rfl k4s) rfl ⟨rfl, hbV.trans hb9⟩
  · have hrr := Hhk.out
    rw [if_neg e1, if_neg e2, if_neg e3, if_neg e4] at hrr
    subst hrr
    have he1 : (kd == 1) = false := by simp; exact e1
    have he2 : (kd == 2) = false := by simp; exact e2
    have he3 : (kd == 3) = false := by simp; exact e3
    have he4 : (kd == 4) = false := by simp; exact e4
    go_wp2_with (first
      | ((with_reducible show wpList _ _ _ (⟨some 10, .load _ _, _, _, _, _⟩ :: _) _ _); refine wpList_hload (.tmp 5) (by kernel_rfl) rfl k5 rfl ?_; simp only [Act.put])
      | ((with_reducible show wpList _ _ _ (⟨some 32, .load _ _, _, _, _, _⟩ :: _) _ _); refine wpList_hload (.tmp 6) (by kernel_rfl) rfl kU6 rfl ?_; simp only [Act.put])
      | ((with_reducible show wpList _ _ _ [⟨none, .store _ (.tmp 6) _, _, _, _, _⟩] _ _); refine wpList_hset2 (.tmp 6) (.tmp 10) rfl rfl k6 rfl rfl Hrl.out ?_; intro W5 kU6 hb8 hoth; have kU4 := hoth _ _ (by omega) k4; have hbU := hb7.trans (hb8.mono (by omega)); simp only [Act.put])
      | ((with_reducible show wpList _ _ _ [⟨none, .store _ (.tmp 4) _, _, _, _, _⟩] _ _); refine wpList_hset2 (.tmp 4) (.tmp 32) rfl rfl kU4 rfl rfl Hrl.out ?_; intro W6 k4s hb9 _; simp only [Act.put]))
    exact bodyPost_ret (ret_hash rfl rfl k4s) rfl ⟨rfl, hbU.trans hb9⟩
end Go.Proofs.Ytonidnfgneokbaa
