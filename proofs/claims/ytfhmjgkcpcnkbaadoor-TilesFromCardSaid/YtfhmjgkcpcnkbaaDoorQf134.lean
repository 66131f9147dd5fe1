/- tiles: Part, Root. -/
import Derived.Test.YtfhmjgkcpcnkbaaDoorQf133
import Derived.Test.YtfhmjgkcpcnkbaaDoorQf110
import Derived.Test.YtfhmjgkcpcnkbaaDoorQf123
import Derived.Test.YtfhmjgkcpcnkbaaDoorQf115
namespace Go.Proofs.YtfhmjgkcpcnkbaaDoor
open Go Go.RowKit
attribute [local go_sem] Oper.semAt_some

theorem run_neq_map_nil {P : Program} (w : World) (t k e : TypeId) (p : Option Nat) (h : P.underlying t = some (.map k e)) :
    (binOp .neq t (.map p) (.map none)).run P w = .ok (.bool p.isSome) w := by
  have h1 := run_eql_map_nil_sl (P := P) w t k e p h
  cases p <;> simp [binOp, show Op.equal t = Op.equalIn (9999 + 1) t from rfl, run_equalIn_map_nil_sl w 9999 t k e _ h]
set_option maxRecDepth 100000 in
theorem tuple_hvT {fn : Func} {p u : Tmp} (h : fn.results = #[.cell p 48, .tmp u]) (tmps : Array Value) (W : World) (g : Nat) (l : List UInt8)
    (hp : tmps.getD p undef = .pointer (some ⟨g, 0, none⟩)) (k : HV W g l) :
    (results fn tmps).run Tryd.prog W = .ok (.tuple #[.agg (l.map B).toArray, tmps.getD u undef]) W := by
  rw [results_cell_tmp h, hp]
  show ((loadVar 48 ⟨g, 0, none⟩).run Tryd.prog W).andThen (fun v w₂ => Result.ok (Value.tuple #[v, tmps.getD u undef]) w₂) = _
  rw [run_loadVar_row W g 48 48 (l.map B).toArray (0, 0) _ k.blk Tryd.underlying48 rfl (by rw [show (l.map B).toArray.size = 32 by simp [k.len]]; kernel_rfl)]
  rfl
/-- what Part answers: the root, the error -/
def partT (L : HL) (a b : Int) : List UInt8 × Int := if 0 ≤ a ∧ a < b ∧ b ≤ L.length then (rootL ((L.drop a.toNat).take (b - a).toNat), 0) else (List.replicate 32 0, 4)
theorem partT_len (L : HL) (hL : H32 L) (a b : Int) : (partT L a b).1.length = 32 := by
  unfold partT
  split
  · exact length_rootL _ ((hL.drop _).take _)
  · simp
set_option maxHeartbeats 8000000 in
set_option maxRecDepth 100000 in
theorem tPart_any (lo p m h : Nat) (f : Int → Int → Option Value) (L : HL) (a b : Int) (w : World) (ht : Ti lo p m h f L w) (hT : Tab w) :
    Calls Tryd.prog 42 #[.pointer (some ⟨p, 0, none⟩), .agg #[.int .i64 a, .int .i64 b]] w fun e w' => e = .returned (.tuple #[.agg ((partT L a b).1.map B).toArray, .int .i64 (partT L a b).2]) ∧ Below w.heap.size w w' := by
  have hq := fun w => run_eql_map_nil_sl (P := Tryd.prog) w 71 _ _ (some m) Tryd.underlying71
  obtain ⟨w0, hw0⟩ : ∃ x, w.alloc (.cells #[.int .i64 a, .int .i64 b] 96) = x := ⟨_, rfl⟩
  have k3 : Blk w0 w.heap.size 96 #[.int .i64 a, .int .i64 b] := by rw [← hw0]; exact Blk.new _ _ _
  have hb0 : Below w.heap.size w w0 := by rw [← hw0]; exact (Below.refl _ _).alloc (Nat.le_refl _) _
  have hTT := fun V (hV : Below w.heap.size w V) => And.intro (ht.step hV) (hT.step hV)
  obtain ⟨z, hz⟩ : ∃ z, List.replicate 32 (0 : UInt8) = z := ⟨_, rfl⟩
  have hzl : z.length = 32 := by rw [← hz]; rfl
  obtain ⟨sz, hsz⟩ : ∃ s, L.length = s := ⟨_, rfl⟩
  have hmx := ht.max
  have hall := ht.all
  have HT := Lib.hid hTT
  have Hw0 := Lib.hid hw0
  have Hz := Lib.hid hz
  have Hzl := Lib.hid hzl
  have Hsz := Lib.hid hsz
  have Hall := Lib.hid hall
  clear hTT hw0 ht hT hzl hall
  unfold partT
  rw [hsz, hz]
  rw [hsz] at hmx
  clear hz hsz
  by_cases h1 : a < 0
  · have d1 : decide (a < 0) = true := by simpa using h1
    rw [if_neg (fun hc => by have := hc.1; omega)]
    clear h1
    go_enter Tryd.func42, Tryd.ntmps42
    refine Code.wp_mono (fun _ _ _ h => BP.out h) ?_
    go_wp2_with (first
  | ((with_reducible show wpList _ _ _ (⟨some 4, .alloc _, _, _, _, _⟩ :: _) _ _); rw [Hw0.out]; refine wpList_hnew rfl rfl ?_; intro w1 k4 hb1'; replace k3 := k3.step hb1'; replace hb0 := hb0.trans (hb1'.mono hb0.size); have k4g := hb1'.size; obtain ⟨g4, hg4⟩ : ∃ g, w0.heap.size = g := ⟨_, rfl⟩; have hg4l : w.heap.size + 1 ≤ g4 := (by rw [← hg4, ← Hw0.out]; simp); rw [hg4] at k4 k4g ⊢; clear hb1' hg4; have c2 := (HT.out w1 hb0).1.c2; simp only [Act.put, List.setIfInBounds_toArray, List.set_cons_succ, List.set_cons_zero]))
    clear c2
    have hb1 := hb0
    clear hb0
    have hz1s := hb1.size
    have c30 : ∀ s : InC (fun V => Below w1.heap.size w1 V), s.W.cell? ⟨w.heap.size, 0, none⟩ = some (.int .i64 a) := fun s => by rw [(k3.step s.ok).cell]; rfl
    have c31 : ∀ s : InC (fun V => Below w1.heap.size w1 V), s.W.cell? ⟨w.heap.size, 1, none⟩ = some (.int .i64 b) := fun s => by rw [(k3.step s.ok).cell]; rfl
    have c1 : ∀ s : InC (fun V => Below w1.heap.size w1 V), s.W.cell? ⟨p, 1, none⟩ = some (.int .i64 (sz : Int)) := fun s => by rw [← Hsz.out]; exact (HT.out s.W (hb1.trans (Below.mono s.ok hb1.size))).1.c1
    have hS : Below w1.heap.size w1 w1.drew := (Below.refl _ _).drew
    refine wp_region_mix (fun W => Below w1.heap.size w1 W) [(0, true), (1, true), (2, true), (3, true), (4, true), (5, true), (6, true), (7, true), (8, true), (9, true), (10, true), (11, true), (12, true), (13, true), (14, true), (15, true), (16, true), (17, true), (18, true)] (by kernel_rfl) (by kernel_rfl) hS fun _ => ?_
    simp only [List.map_cons, List.map_nil, Array.getD_eq_getD_getElem?, List.getElem?_toArray, List.getElem?_cons_succ, List.getElem?_cons_zero, Option.getD_some]
    generalize w1.drew = V0 at hS ⊢
    refine wpMix_s (fun K hK => ?_)
    go_simp
    refine hK _ ?_
    clear hK K
    refine wpMix_s (fun K hK => ?_)
    go_simp
    refine hK _ ?_
    clear hK K
    refine wpMix_s (fun K hK => ?_)
    go_simp
    refine hK _ ?_
    clear hK K
    refine wpMix_s (fun K hK => ?_)
    go_simp
    refine hK _ ?_
    clear hK K
    refine wpMix_s (fun K hK => ?_)
    go_simp
    refine hK _ ?_
    clear hK K
    refine wpMix_s (fun K hK => ?_)
    go_simp
    refine hK _ ?_
    clear hK K
    refine wpMix_s (fun K hK => ?_)
    go_simp
    refine hK _ ?_
    clear hK K
    refine wpMix_s (fun K hK => ?_)
    go_simp
    refine hK _ ?_
    clear hK K
    refine wpMix_s (fun K hK => ?_)
    go_simp
    refine hK _ ?_
    clear hK K
    refine wpMix_s (fun K hK => ?_)
    go_simp
    refine hK _ ?_
    clear hK K
    refine wpMix_s (fun K hK => ?_)
    go_simp
    refine hK _ ?_
    clear hK K
    refine wpMix_s (fun K hK => ?_)
    go_simp
    refine hK _ ?_
    clear hK K
    refine wpMix_s (fun K hK => ?_)
    go_simp
    refine hK _ ?_
    clear hK K
    refine wpMix_s (fun K hK => ?_)
    go_simp
    refine hK _ ?_
    clear hK K
    refine wpMix_s (fun K hK => ?_)
    go_simp
    refine hK _ ?_
    clear hK K
    refine wpMix_s (fun K hK => ?_)
    go_simp
    refine hK _ ?_
    clear hK K
    refine wpMix_s (fun K hK => ?_)
    go_simp
    refine hK _ ?_
    clear hK K
    refine wpMix_s (fun K hK => ?_)
    go_simp
    refine hK _ ?_
    clear hK K
    refine wpMix_s (fun K hK => ?_)
    go_simp
    refine hK _ ?_
    clear hK K
    refine wpMix_nil ?_
    intro _
    have k4e := k4.step hS
    clear c30 c31 c1 hq
    go_wp2_with (first
      | ((with_reducible show wpList _ _ _ (⟨some 35, .build _ _, _, _, _, _⟩ :: _) _ _); refine wpList_run0 rfl (.agg (z.map B).toArray) (by rw [← Hz.out]; kernel_rfl) ?_; simp only [Act.put, List.setIfInBounds_toArray, List.set_cons_succ, List.set_cons_zero])
      | ((with_reducible show wpList _ _ _ (⟨none, .store _ _ _, _, _, _, _⟩ :: _) _ _); refine wpList_hset (.tmp 4) (.tmp 35) rfl rfl k4e rfl rfl Hzl.out ?_; intro w6 k4s hb6 he6; clear he6; simp only [Act.put]))
    exact ⟨bodyPost_ret (tuple_hvT rfl _ _ _ _ rfl k4s) rfl ⟨rfl, (hb1.trans (hS.mono hb1.size)).trans (hb6.mono (by omega))⟩⟩
  have d1 : decide (a < 0) = false := by simpa using h1
  by_cases h2 : b ≤ a
  · have d2 : decide (b ≤ a) = true := by simpa using h2
    rw [if_neg (fun hc => by have := hc.2.1; omega)]
    clear h1 h2
    go_enter Tryd.func42, Tryd.ntmps42
    refine Code.wp_mono (fun _ _ _ h => BP.out h) ?_
    go_wp2_with (first
  | ((with_reducible show wpList _ _ _ (⟨some 4, .alloc _, _, _, _, _⟩ :: _) _ _); rw [Hw0.out]; refine wpList_hnew rfl rfl ?_; intro w1 k4 hb1'; replace k3 := k3.step hb1'; replace hb0 := hb0.trans (hb1'.mono hb0.size); have k4g := hb1'.size; obtain ⟨g4, hg4⟩ : ∃ g, w0.heap.size = g := ⟨_, rfl⟩; have hg4l : w.heap.size + 1 ≤ g4 := (by rw [← hg4, ← Hw0.out]; simp); rw [hg4] at k4 k4g ⊢; clear hb1' hg4; have c2 := (HT.out w1 hb0).1.c2; simp only [Act.put, List.setIfInBounds_toArray, List.set_cons_succ, List.set_cons_zero]))
    clear c2
    have hb1 := hb0
    clear hb0
    have hz1s := hb1.size
    have c30 : ∀ s : InC (fun V => Below w1.heap.size w1 V), s.W.cell? ⟨w.heap.size, 0, none⟩ = some (.int .i64 a) := fun s => by rw [(k3.step s.ok).cell]; rfl
    have c31 : ∀ s : InC (fun V => Below w1.heap.size w1 V), s.W.cell? ⟨w.heap.size, 1, none⟩ = some (.int .i64 b) := fun s => by rw [(k3.step s.ok).cell]; rfl
    have c1 : ∀ s : InC (fun V => Below w1.heap.size w1 V), s.W.cell? ⟨p, 1, none⟩ = some (.int .i64 (sz : Int)) := fun s => by rw [← Hsz.out]; exact (HT.out s.W (hb1.trans (Below.mono s.ok hb1.size))).1.c1
    have hS : Below w1.heap.size w1 w1.drew := (Below.refl _ _).drew
    refine wp_region_mix (fun W => Below w1.heap.size w1 W) [(0, true), (1, true), (2, true), (3, true), (4, true), (5, true), (6, true), (7, true), (8, true), (9, true), (10, true), (11, true), (12, true), (13, true), (14, true), (15, true), (16, true), (17, true), (18, true)] (by kernel_rfl) (by kernel_rfl) hS fun _ => ?_
    simp only [List.map_cons, List.map_nil, Array.getD_eq_getD_getElem?, List.getElem?_toArray, List.getElem?_cons_succ, List.getElem?_cons_zero, Option.getD_some]
    generalize w1.drew = V0 at hS ⊢
    refine wpMix_s (fun K hK => ?_)
    go_simp
    refine hK _ ?_
    clear hK K
    refine wpMix_s (fun K hK => ?_)
    go_simp
    refine hK _ ?_
    clear hK K
    refine wpMix_s (fun K hK => ?_)
    go_simp
    refine hK _ ?_
    clear hK K
    refine wpMix_s (fun K hK => ?_)
    go_simp
    refine hK _ ?_
    clear hK K
    refine wpMix_s (fun K hK => ?_)
    go_simp
    refine hK _ ?_
    clear hK K
    refine wpMix_s (fun K hK => ?_)
    go_simp
    refine hK _ ?_
    clear hK K
    refine wpMix_s (fun K hK => ?_)
    go_simp
    refine hK _ ?_
    clear hK K
    refine wpMix_s (fun K hK => ?_)
    go_simp
    refine hK _ ?_
    clear hK K
    refine wpMix_s (fun K hK => ?_)
    go_simp
    refine hK _ ?_
    clear hK K
    refine wpMix_s (fun K hK => ?_)
    go_simp
    refine hK _ ?_
    clear hK K
    refine wpMix_s (fun K hK => ?_)
    go_simp
    refine hK _ ?_
    clear hK K
    refine wpMix_s (fun K hK => ?_)
    go_simp
    refine hK _ ?_
    clear hK K
    refine wpMix_s (fun K hK => ?_)
    go_simp
    refine hK _ ?_
    clear hK K
    refine wpMix_s (fun K hK => ?_)
    go_simp
    refine hK _ ?_
    clear hK K
    refine wpMix_s (fun K hK => ?_)
    go_simp
    refine hK _ ?_
    clear hK K
    refine wpMix_s (fun K hK => ?_)
    go_simp
    refine hK _ ?_
    clear hK K
    refine wpMix_s (fun K hK => ?_)
    go_simp
    refine hK _ ?_
    clear hK K
    refine wpMix_s (fun K hK => ?_)
    go_simp
    refine hK _ ?_
    clear hK K
    refine wpMix_s (fun K hK => ?_)
    go_simp
    refine hK _ ?_
    clear hK K
    refine wpMix_nil ?_
    intro _
    have k4e := k4.step hS
    clear c30 c31 c1 hq
    go_wp2_with (first
      | ((with_reducible show wpList _ _ _ (⟨some 35, .build _ _, _, _, _, _⟩ :: _) _ _); refine wpList_run0 rfl (.agg (z.map B).toArray) (by rw [← Hz.out]; kernel_rfl) ?_; simp only [Act.put, List.setIfInBounds_toArray, List.set_cons_succ, List.set_cons_zero])
      | ((with_reducible show wpList _ _ _ (⟨none, .store _ _ _, _, _, _, _⟩ :: _) _ _); refine wpList_hset (.tmp 4) (.tmp 35) rfl rfl k4e rfl rfl Hzl.out ?_; intro w6 k4s hb6 he6; clear he6; simp only [Act.put]))
    exact ⟨bodyPost_ret (tuple_hvT rfl _ _ _ _ rfl k4s) rfl ⟨rfl, (hb1.trans (hS.mono hb1.size)).trans (hb6.mono (by omega))⟩⟩
  have d2 : decide (b ≤ a) = false := by simpa using h2
  by_cases h3 : (sz : Int) < b
  · have d3 : decide ((sz : Int) < b) = true := by simpa using h3
    rw [if_neg (fun hc => by have := hc.2.2; omega)]
    clear h1 h2 h3
    go_enter Tryd.func42, Tryd.ntmps42
    refine Code.wp_mono (fun _ _ _ h => BP.out h) ?_
    go_wp2_with (first
  | ((with_reducible show wpList _ _ _ (⟨some 4, .alloc _, _, _, _, _⟩ :: _) _ _); rw [Hw0.out]; refine wpList_hnew rfl rfl ?_; intro w1 k4 hb1'; replace k3 := k3.step hb1'; replace hb0 := hb0.trans (hb1'.mono hb0.size); have k4g := hb1'.size; obtain ⟨g4, hg4⟩ : ∃ g, w0.heap.size = g := ⟨_, rfl⟩; have hg4l : w.heap.size + 1 ≤ g4 := (by rw [← hg4, ← Hw0.out]; simp); rw [hg4] at k4 k4g ⊢; clear hb1' hg4; have c2 := (HT.out w1 hb0).1.c2; simp only [Act.put, List.setIfInBounds_toArray, List.set_cons_succ, List.set_cons_zero]))
    clear c2
    have hb1 := hb0
    clear hb0
    have hz1s := hb1.size
    have c30 : ∀ s : InC (fun V => Below w1.heap.size w1 V), s.W.cell? ⟨w.heap.size, 0, none⟩ = some (.int .i64 a) := fun s => by rw [(k3.step s.ok).cell]; rfl
    have c31 : ∀ s : InC (fun V => Below w1.heap.size w1 V), s.W.cell? ⟨w.heap.size, 1, none⟩ = some (.int .i64 b) := fun s => by rw [(k3.step s.ok).cell]; rfl
    have c1 : ∀ s : InC (fun V => Below w1.heap.size w1 V), s.W.cell? ⟨p, 1, none⟩ = some (.int .i64 (sz : Int)) := fun s => by rw [← Hsz.out]; exact (HT.out s.W (hb1.trans (Below.mono s.ok hb1.size))).1.c1
    have hS : Below w1.heap.size w1 w1.drew := (Below.refl _ _).drew
    refine wp_region_mix (fun W => Below w1.heap.size w1 W) [(0, true), (1, true), (2, true), (3, true), (4, true), (5, true), (6, true), (7, true), (8, true), (9, true), (10, true), (11, true), (12, true), (13, true), (14, true), (15, true), (16, true), (17, true), (18, true)] (by kernel_rfl) (by kernel_rfl) hS fun _ => ?_
    simp only [List.map_cons, List.map_nil, Array.getD_eq_getD_getElem?, List.getElem?_toArray, List.getElem?_cons_succ, List.getElem?_cons_zero, Option.getD_some]
    generalize w1.drew = V0 at hS ⊢
    refine wpMix_s (fun K hK => ?_)
    go_simp
    refine hK _ ?_
    clear hK K
    refine wpMix_s (fun K hK => ?_)
    go_simp
    refine hK _ ?_
    clear hK K
    refine wpMix_s (fun K hK => ?_)
    go_simp
    refine hK _ ?_
    clear hK K
    refine wpMix_s (fun K hK => ?_)
    go_simp
    refine hK _ ?_
    clear hK K
    refine wpMix_s (fun K hK => ?_)
    go_simp
    refine hK _ ?_
    clear hK K
    refine wpMix_s (fun K hK => ?_)
    go_simp
    refine hK _ ?_
    clear hK K
    refine wpMix_s (fun K hK => ?_)
    go_simp
    refine hK _ ?_
    clear hK K
    refine wpMix_s (fun K hK => ?_)
    go_simp
    refine hK _ ?_
    clear hK K
    refine wpMix_s (fun K hK => ?_)
    go_simp
    refine hK _ ?_
    clear hK K
    refine wpMix_s (fun K hK => ?_)
    go_simp
    refine hK _ ?_
    clear hK K
    refine wpMix_s (fun K hK => ?_)
    go_simp
    refine hK _ ?_
    clear hK K
    refine wpMix_s (fun K hK => ?_)
    go_simp
    refine hK _ ?_
    clear hK K
    refine wpMix_s (fun K hK => ?_)
    go_simp
    refine hK _ ?_
    clear hK K
    refine wpMix_s (fun K hK => ?_)
    go_simp
    refine hK _ ?_
    clear hK K
    refine wpMix_s (fun K hK => ?_)
    go_simp
    refine hK _ ?_
    clear hK K
    refine wpMix_s (fun K hK => ?_)
    go_simp
    refine hK _ ?_
    clear hK K
    refine wpMix_s (fun K hK => ?_)
    go_simp
    refine hK _ ?_
    clear hK K
    refine wpMix_s (fun K hK => ?_)
    go_simp
    refine hK _ ?_
    clear hK K
    refine wpMix_s (fun K hK => ?_)
    go_simp
    refine hK _ ?_
    clear hK K
    refine wpMix_nil ?_
    intro _
    have k4e := k4.step hS
    clear c30 c31 c1 hq
    go_wp2_with (first
      | ((with_reducible show wpList _ _ _ (⟨some 35, .build _ _, _, _, _, _⟩ :: _) _ _); refine wpList_run0 rfl (.agg (z.map B).toArray) (by rw [← Hz.out]; kernel_rfl) ?_; simp only [Act.put, List.setIfInBounds_toArray, List.set_cons_succ, List.set_cons_zero])
      | ((with_reducible show wpList _ _ _ (⟨none, .store _ _ _, _, _, _, _⟩ :: _) _ _); refine wpList_hset (.tmp 4) (.tmp 35) rfl rfl k4e rfl rfl Hzl.out ?_; intro w6 k4s hb6 he6; clear he6; simp only [Act.put]))
    exact ⟨bodyPost_ret (tuple_hvT rfl _ _ _ _ rfl k4s) rfl ⟨rfl, (hb1.trans (hS.mono hb1.size)).trans (hb6.mono (by omega))⟩⟩
  have d3 : decide ((sz : Int) < b) = false := by simpa using h3
  rw [if_pos ⟨by omega, by omega, by omega⟩]
  obtain ⟨an, rfl⟩ : ∃ n : Nat, a = n := ⟨a.toNat, by omega⟩
  obtain ⟨n, rfl⟩ : ∃ n : Nat, b = ((an + n : Nat) : Int) := ⟨(b - an).toNat, by omega⟩
  have e1 : ((an + n : Nat) : Int) - (an : Int) = (n : Int) := by omega
  rw [e1, Int.toNat_natCast, Int.toNat_natCast]
  clear e1
  have hca := fun V (hV : Below w.heap.size w V) => tpart_rec lo p m h f L n an V (HT.out V hV).1 (HT.out V hV).2 (by omega) (by rw [Hsz.out]; omega)
  obtain ⟨r, hr⟩ : ∃ r, rootL ((L.drop an).take n) = r := ⟨_, rfl⟩
  have hr32 : r.length = 32 := by rw [← hr]; exact length_rootL _ ((Hall.out.drop _).take _)
  obtain ⟨b, hb⟩ : ∃ b, an + n = b := ⟨_, rfl⟩
  rw [hr, hb] at hca
  rw [hr]
  rw [hb] at d2 d3 k3 Hw0 ⊢
  have d1n : decide (an < 0) = false := by simp
  have d2n : decide (b ≤ an) = false := by simp; omega
  have d3n : decide (sz < b) = false := by simp; omega
  have Hca := Lib.hid hca
  have Hr32 := Lib.hid hr32
  clear h1 h2 h3 hr hr32 hca hb
  have hldR := fun V (hV : Blk V w.heap.size 96 #[.int .i64 (an : Int), .int .i64 (b : Int)]) => run_load_blk (P := Tryd.prog) (aggRng _) (sizeRng _) w.heap.size _ rfl hV
  have HldR := Lib.hid hldR
  clear hldR
  go_enter Tryd.func42, Tryd.ntmps42
  refine Code.wp_mono (fun _ _ _ h => BP.out h) ?_
  go_wp2_with (first
  | ((with_reducible show wpList _ _ _ (⟨some 4, .alloc _, _, _, _, _⟩ :: _) _ _); rw [Hw0.out]; refine wpList_hnew rfl rfl ?_; intro w1 k4 hb1'; replace k3 := k3.step hb1'; replace hb0 := hb0.trans (hb1'.mono hb0.size); have k4g := hb1'.size; obtain ⟨g4, hg4⟩ : ∃ g, w0.heap.size = g := ⟨_, rfl⟩; have hg4l : w.heap.size + 1 ≤ g4 := (by rw [← hg4, ← Hw0.out]; simp); rw [hg4] at k4 k4g ⊢; clear hb1' hg4; have c2 := (HT.out w1 hb0).1.c2; simp only [Act.put, List.setIfInBounds_toArray, List.set_cons_succ, List.set_cons_zero]))
  clear c2
  have hb1 := hb0
  clear hb0
  have hz1s := hb1.size
  have c30 : ∀ s : InC (fun V => Below w1.heap.size w1 V), s.W.cell? ⟨w.heap.size, 0, none⟩ = some (.int .i64 (an : Int)) := fun s => by rw [(k3.step s.ok).cell]; rfl
  have c31 : ∀ s : InC (fun V => Below w1.heap.size w1 V), s.W.cell? ⟨w.heap.size, 1, none⟩ = some (.int .i64 (b : Int)) := fun s => by rw [(k3.step s.ok).cell]; rfl
  have c1 : ∀ s : InC (fun V => Below w1.heap.size w1 V), s.W.cell? ⟨p, 1, none⟩ = some (.int .i64 (sz : Int)) := fun s => by rw [← Hsz.out]; exact (HT.out s.W (hb1.trans (Below.mono s.ok hb1.size))).1.c1
  have hS : Below w1.heap.size w1 w1.drew := (Below.refl _ _).drew
  refine wp_region_mix (fun W => Below w1.heap.size w1 W) [(0, true), (1, true), (2, true), (3, true), (4, true), (5, true), (6, true), (7, true), (8, true), (9, true), (10, true), (11, true), (12, true), (13, true), (14, true), (15, true), (16, true), (17, true), (18, true)] (by kernel_rfl) (by kernel_rfl) hS fun _ => ?_
  simp only [List.map_cons, List.map_nil, Array.getD_eq_getD_getElem?, List.getElem?_toArray, List.getElem?_cons_succ, List.getElem?_cons_zero, Option.getD_some]
  generalize w1.drew = V0 at hS ⊢
  refine wpMix_s (fun K hK => ?_)
  go_simp
  refine hK _ ?_
  clear hK K
  refine wpMix_s (fun K hK => ?_)
  go_simp
  refine hK _ ?_
  clear hK K
  refine wpMix_s (fun K hK => ?_)
  go_simp
  refine hK _ ?_
  clear hK K
  refine wpMix_s (fun K hK => ?_)
  go_simp
  refine hK _ ?_
  clear hK K
  refine wpMix_s (fun K hK => ?_)
  go_simp
  refine hK _ ?_
  clear hK K
  refine wpMix_s (fun K hK => ?_)
  go_simp
  refine hK _ ?_
  clear hK K
  refine wpMix_s (fun K hK => ?_)
  go_simp
  refine hK _ ?_
  clear hK K
  refine wpMix_s (fun K hK => ?_)
  go_simp
  refine hK _ ?_
  clear hK K
  refine wpMix_s (fun K hK => ?_)
  go_simp
  refine hK _ ?_
  clear hK K
  refine wpMix_s (fun K hK => ?_)
  go_simp
  refine hK _ ?_
  clear hK K
  refine wpMix_s (fun K hK => ?_)
  go_simp
  refine hK _ ?_
  clear hK K
  refine wpMix_s (fun K hK => ?_)
  go_simp
  refine hK _ ?_
  clear hK K
  refine wpMix_s (fun K hK => ?_)
  go_simp
  refine hK _ ?_
  clear hK K
  refine wpMix_s (fun K hK => ?_)
  go_simp
  refine hK _ ?_
  clear hK K
  refine wpMix_s (fun K hK => ?_)
  go_simp
  refine hK _ ?_
  clear hK K
  refine wpMix_s (fun K hK => ?_)
  go_simp
  refine hK _ ?_
  clear hK K
  refine wpMix_s (fun K hK => ?_)
  go_simp
  refine hK _ ?_
  clear hK K
  refine wpMix_s (fun K hK => ?_)
  go_simp
  refine hK _ ?_
  clear hK K
  refine wpMix_s (fun K hK => ?_)
  go_simp
  refine hK _ ?_
  clear hK K
  refine wpMix_nil ?_
  intro _
  have k4e := k4.step hS
  have k3e := k3.step hS
  have hb2 := hb1.trans (hS.mono hb1.size)
  clear c30 c31 c1 hq hS
  go_wp2_with (first
    | ((with_reducible show wpList _ _ _ (⟨some 37, .load _ _, _, _, _, _⟩ :: _) _ _); refine wpList_cell 96 (.tmp 3) w.heap.size 0 (.agg #[.int .i64 (an : Int), .int .i64 (b : Int)]) (by kernel_rfl) rfl rfl (HldR.out _ k3e) ?_; simp only [Act.put, List.setIfInBounds_toArray, List.set_cons_succ, List.set_cons_zero])
    | (go_at_call 62; refine (Hca.out _ hb2).mono ?_; rintro e w5 ⟨rfl, hb5⟩; replace k4e := k4e.step hb5; replace hb2 := hb2.trans (hb5.mono hb2.size); clear hb5)
    | ((with_reducible show wpList _ _ _ (⟨none, .store _ _ _, _, _, _, _⟩ :: _) _ _); refine wpList_hset (.tmp 4) (.tmp 38) rfl rfl k4e rfl rfl Hr32.out ?_; intro w6 k4s hb6 he6; clear he6; simp only [Act.put]))
  exact ⟨bodyPost_ret (tuple_hvT rfl _ _ _ _ rfl k4s) rfl ⟨rfl, hb2.trans (hb6.mono (by omega))⟩⟩
set_option maxHeartbeats 8000000 in
set_option maxRecDepth 100000 in
theorem tRoot_zero (lo p m h : Nat) (f : Int → Int → Option Value) (L : HL) (w : World) (ht : Ti lo p m h f L w) :
    Calls Tryd.prog 16 #[.pointer (some ⟨p, 0, none⟩), .int .i64 0] w fun e w' => e = .returned (.tuple #[.agg (hEmpty.map B).toArray, .int .i64 0]) ∧ Below w.heap.size w w' := by
  have hq := fun w => run_neq_map_nil (P := Tryd.prog) w 71 _ _ (some m) Tryd.underlying71
  have hTT := fun V (hV : Below w.heap.size w V) => (ht.step hV).c2
  obtain ⟨r, hr⟩ : ∃ r, hEmpty = r := ⟨_, rfl⟩
  have hr32 : r.length = 32 := by rw [← hr]; rfl
  have hcl := fun V => hempty_any V
  rw [hr] at hcl ⊢
  have HT := Lib.hid hTT
  have Hcl := Lib.hid hcl
  have Hr32 := Lib.hid hr32
  clear hTT hcl hr32 ht hr
  go_enter Tryd.func16, Tryd.ntmps16
  refine Code.wp_mono (fun _ _ _ h => BP.out h) ?_
  go_wp2_with (first
    | ((with_reducible show wpList _ _ _ (⟨some 4, .alloc _, _, _, _, _⟩ :: _) _ _); refine wpList_hnew rfl rfl ?_; intro w1 k4 hb1; have c2 := HT.out w1 hb1; have k4g := hb1.size; obtain ⟨g4, hg4⟩ : ∃ g, w.heap.size = g := ⟨_, rfl⟩; have hg4e := hg4; rw [hg4] at k4 ⊢; simp only [Act.put, List.setIfInBounds_toArray, List.set_cons_succ, List.set_cons_zero])
    | (go_at_call 41; refine (Hcl.out _).mono ?_; rintro e w2 ⟨rfl, hb2⟩; replace k4 := k4.step hb2; replace hb1 := hb1.trans (hb2.mono hb1.size); clear hb2 c2)
    | ((with_reducible show wpList _ _ _ (⟨none, .store _ _ _, _, _, _, _⟩ :: _) _ _); refine wpList_hset (.tmp 4) (.tmp 19) rfl rfl k4 rfl rfl Hr32.out ?_; intro w6 k4s hb6 he6; clear he6; simp only [Act.put]))
  exact ⟨bodyPost_ret (tuple_hvT rfl _ _ _ _ rfl k4s) rfl ⟨rfl, hb1.trans (hb6.mono (by omega))⟩⟩
/-- what Root answers -/
def rootT (L : HL) (n : Int) : List UInt8 × Int := if 0 ≤ n ∧ n ≤ L.length then (rootL (L.take n.toNat), 0) else (List.replicate 32 0, 4)
theorem rootT_len (L : HL) (hL : H32 L) (n : Int) : (rootT L n).1.length = 32 := by
  unfold rootT
  split
  · exact length_rootL _ (hL.take _)
  · simp
theorem rootT_part (L : HL) (n : Int) (hn : n ≠ 0) : rootT L n = partT L 0 n := by
  unfold rootT partT
  by_cases h : 0 ≤ n ∧ n ≤ L.length
  · rw [if_pos h, if_pos ⟨Int.le_refl _, by omega, h.2⟩]
    simp
  · rw [if_neg h, if_neg (fun hc => h ⟨by omega, hc.2.2⟩)]
set_option maxHeartbeats 8000000 in
set_option maxRecDepth 100000 in
theorem tRoot_any (lo p m h : Nat) (f : Int → Int → Option Value) (L : HL) (n : Int) (w : World) (ht : Ti lo p m h f L w) (hT : Tab w) :
    Calls Tryd.prog 16 #[.pointer (some ⟨p, 0, none⟩), .int .i64 n] w fun e w' => e = .returned (.tuple #[.agg ((rootT L n).1.map B).toArray, .int .i64 (rootT L n).2]) ∧ Below w.heap.size w w' := by
  by_cases hn : n = 0
  · subst hn
    have e : rootT L 0 = (hEmpty, 0) := by
      unfold rootT
      rw [if_pos ⟨Int.le_refl _, by omega⟩]
      simp [rootL_nil]
    rw [e]
    exact tRoot_zero lo p m h f L w ht
  · have hq := fun w => run_neq_map_nil (P := Tryd.prog) w 71 _ _ (some m) Tryd.underlying71
    have he0 : (n == 0) = false := by simpa using hn
    have hr32 := partT_len L ht.all 0 n
    have hTT := fun V (hV : Below w.heap.size w V) => (ht.step hV).c2
    have hcl := fun V (hV : Below w.heap.size w V) => tPart_any lo p m h f L 0 n V (ht.step hV) (hT.step hV)
    rw [rootT_part L n hn]
    obtain ⟨⟨r, en⟩, hr⟩ : ∃ x, partT L 0 n = x := ⟨_, rfl⟩
    rw [hr] at hr32 hcl ⊢
    have hr32 : r.length = 32 := hr32
    have HT := Lib.hid hTT
    have Hcl := Lib.hid hcl
    have Hr32 := Lib.hid hr32
    clear hTT hcl hr32 ht hr hT hn
    go_enter Tryd.func16, Tryd.ntmps16
    refine Code.wp_mono (fun _ _ _ h => BP.out h) ?_
    go_wp2_with (first
      | ((with_reducible show wpList _ _ _ (⟨some 4, .alloc _, _, _, _, _⟩ :: _) _ _); refine wpList_hnew rfl rfl ?_; intro w1 k4 hb1; have c2 := HT.out w1 hb1; have k4g := hb1.size; obtain ⟨g4, hg4⟩ : ∃ g, w.heap.size = g := ⟨_, rfl⟩; have hg4e := hg4; rw [hg4] at k4 ⊢; simp only [Act.put, List.setIfInBounds_toArray, List.set_cons_succ, List.set_cons_zero])
      | (go_at_call 42; refine (Hcl.out _ hb1).mono ?_; rintro e w2 ⟨rfl, hb2⟩; replace k4 := k4.step hb2; replace hb1 := hb1.trans (hb2.mono hb1.size); clear hb2 c2)
      | ((with_reducible show wpList _ _ _ (⟨none, .store _ _ _, _, _, _, _⟩ :: _) _ _); refine wpList_hset (.tmp 4) (.tmp 24) rfl rfl k4 rfl rfl Hr32.out ?_; intro w6 k4s hb6 he6; clear he6; simp only [Act.put]))
    exact ⟨bodyPost_ret (tuple_hvT rfl _ _ _ _ rfl k4s) rfl ⟨rfl, hb1.trans (hb6.mono (by omega))⟩⟩
end Go.Proofs.YtfhmjgkcpcnkbaaDoor
/- A part of a row of hashes. -/
namespace Go.Proofs.YtfhmjgkcpcnkbaaDoor
open Go Go.RowKit

theorem Hs.fewer {W : World} {X : Nat → Prop} {A : Option Addr} {n m c : Nat} {hs ms : List (List UInt8)} (h : Hs W X A m c (hs ++ ms)) (hn : hs.length = n) : Hs W X A n c hs := by
  subst hn
  have := h.take hs.length (by rw [← h.len, List.length_append]; omega)
  rwa [List.take_left] at this

end Go.Proofs.YtfhmjgkcpcnkbaaDoor
/- notarylaw14.row, left, num. -/
namespace Go.Proofs.YtfhmjgkcpcnkbaaDoor
open Go Go.RowKit

theorem num14_any (i : Int) (w : World) : Calls Tryd.prog 9 #[.int .i64 i] w fun e w' => e = .returned (.int .i64 i) ∧ w = w' := by
  go_enter Tryd.func9, Tryd.ntmps9
  go_wp2_with fail
  go_ret
  exact ⟨rfl, rfl⟩

set_option maxHeartbeats 400000 in
set_option maxRecDepth 100000 in
theorem row14_any (hs : List (List UInt8)) (A : Option Addr) (n c : Nat) (w : World) (h : Hs w (fun _ => True) A n c hs) (hn : n ≤ 1099511627776) :
    Calls Tryd.prog 11 #[.slice A n c] w fun e w' => ∃ g c', e = .returned (.slice (some ⟨g, 0, none⟩) n c') ∧ w'.ownsRow w.heap.size 48 32 (.slice (some ⟨g, 0, none⟩) (n + 1) c') (n + 1) (hcells (hs ++ [oneHash 165])) ∧ Below w.heap.size w w' := by
  obtain ⟨x, hx⟩ : ∃ x, oneHash 165 = x := ⟨_, rfl⟩
  have hxl : x.length = 32 := by rw [← hx]; exact length_oneHash _
  rw [hx]
  obtain ⟨w0, hw0⟩ : ∃ w0, w.alloc (.cells #[] 48) = w0 := ⟨_, rfl⟩
  have b0 : Below w.heap.size w w0 := by rw [← hw0]; exact (Below.refl _ _).alloc (Nat.le_refl _) _
  have o0 : w0.ownsRow w.heap.size 48 32 (.slice (some ⟨w.heap.size, 0, none⟩) 0 0) 0 [] := by
    rw [← hw0]; exact World.ownsRow_lit (base := w.heap.size) (e := 48) (size := 32) w #[] 0 (Nat.le_refl _) (by decide) rfl
  obtain ⟨v1, w1, hr1, ho1, hg1, -⟩ := append_slv (ty := 36) Tryd.underlying36 info26z (by simp [Value.cells]) (by decide) o0 (h.step b0).sl (oneB _) (by unfold maxLen; omega) (by omega) b0.size
  rw [Nat.zero_add, List.nil_append] at ho1
  have b1 := b0.grown hg1 b0.size (fun k hk => (o0.lt k hk).1)
  have h32 : H32 [x] := by intro h hh; rw [List.mem_singleton.1 hh]; exact hxl
  have bA : Below w1.heap.size w1 (w1.alloc (.cells (hcells [x]).toArray 48)) := (Below.refl _ _).alloc (Nat.le_refl _) _
  have ho2 := owns_step ho1 bA
  have b2 := b1.trans (bA.mono b1.size)
  obtain ⟨v3, w3, hr3, ho3, hg3, -⟩ := append_slv (ty := 36) Tryd.underlying36 info26z (by simp [Value.cells]) (by decide) ho2 (Hs.lit w1 [x] h32 (by simp) 1 rfl).sl (oneB _) (by unfold maxLen; omega) (by omega) b2.size
  rw [← hcells_append] at ho3
  have b3 := b2.grown hg3 b2.size (fun k hk => (ho2.lt k hk).1)
  obtain ⟨g, c3, rfl, hc3, hcm⟩ : ∃ g c3, v3 = .slice (some ⟨g, 0, none⟩) (n + 1) c3 ∧ n + 1 ≤ c3 ∧ c3 ≤ maxLen := by
    rcases ho3.2 with ⟨_, h0⟩ | ⟨g, cap, cur, hv, _, _, h1, h2, _⟩
    · omega
    · exact ⟨g, cap, hv, h1, h2⟩
  unfold maxLen at hcm
  have sl1 := fun W => run_slice_high (P := Tryd.prog) sliceHs sizeHs (some ⟨g, 0, none⟩) (n + 1) c3 n (by omega) W
  have Hw0 := Lib.hid hw0
  have Hr1 := Lib.hid hr1
  have Hr3 := Lib.hid hr3
  have Hx := Lib.hid hx
  clear hw0 hr1 hr3 hx hg1 hg3 ho1 ho2 o0 b0 b1 b2 bA h
  go_enter Tryd.func11, Tryd.ntmps11
  go_wp2_with (first
    | ((with_reducible show wpList _ _ _ (⟨some 5, .call _, _, _, _, _⟩ :: _) _ _); rw [Hw0.out]; refine wpList_run rfl v1 w1 (run_append_op (.tmp 3) (.tmp 4) 36 rfl _ _ rfl rfl Hr1.out) ?_; simp only [Act.put])
    | ((with_reducible show wpList _ _ _ (⟨some 6, .build _ _, _, _, _, _⟩ :: _) _ _); refine wpList_run0 rfl (.agg (x.map B).toArray) (by rw [← Hx.out]; kernel_rfl) ?_; simp only [Act.put])
    | ((with_reducible show wpList _ _ _ (⟨some 7, .buildSlice _ _ _, _, _, _, _⟩ :: _) _ _); refine wpList_run rfl _ _ (run_lit_op [x] h32 (by simp) (by simp) 1 _ rfl (by simp [Act.eval]) rfl _) ?_; simp only [Act.put])
    | ((with_reducible show wpList _ _ _ (⟨some 8, .call _, _, _, _, _⟩ :: _) _ _); refine wpList_run rfl _ w3 (run_append_op (.tmp 5) (.tmp 7) 36 rfl _ _ rfl rfl Hr3.out) ?_; simp only [Act.put]))
  go_ret
  exact ⟨g, c3, rfl, ho3, b3⟩

set_option maxHeartbeats 400000 in
set_option maxRecDepth 100000 in
theorem left14_any (hs : List (List UInt8)) (g : Nat) (A : Option Addr) (n c' c : Nat) (w : World) (h : Hs w (fun _ => True) (some ⟨g, 0, none⟩) (n + 1) c' (hs ++ [oneHash 165])) (h2 : Hs w (fun _ => True) A n c hs) (hn : n ≤ 1099511627776) :
    Calls Tryd.prog 14 #[.slice (some ⟨g, 0, none⟩) n c', .slice A n c] w fun e w' => e = .returned (.bool true) ∧ Below w.heap.size w w' := by
  have hsame := same_any hs (some ⟨g, 0, none⟩) A n c' c w (h.fewer h2.len) h2 (by omega)
  have hroom := h.sl.room
  have hmax := h.sl.max
  unfold maxLen at hmax
  have sl1 := fun W => run_slice_high (P := Tryd.prog) sliceHs sizeHs (some ⟨g, 0, none⟩) n c' (n + 1) (by omega) W
  have en : ((n + 1 : Nat) : Int) = (n : Int) + 1 := by omega
  rw [en] at sl1
  clear en
  obtain ⟨x, hx⟩ : ∃ x, oneHash 165 = x := ⟨_, rfl⟩
  have hxl : x.length = 32 := by rw [← hx]; exact length_oneHash _
  rw [hx] at h
  have hld : ∀ W, Below w.heap.size w W → (Instr.loadAt 48 (.pointer (some ⟨g, n * 32, none⟩))).run Tryd.prog W = .ok (.agg (x.map B).toArray) W := fun W hW => by
    obtain ⟨b, o, hA, -, -, hat⟩ := (h.step hW).at_ (by omega)
    cases hA
    have := hat n (by omega)
    rw [Nat.zero_add, List.getD_eq_getElem?_getD, List.getElem?_append_right (by rw [h2.len]; exact Nat.le_refl _), h2.len, Nat.sub_self] at this
    exact this
  have Hx := Lib.hid hx
  have Hxl := Lib.hid hxl
  have Hld := Lib.hid hld
  have Hsame := Lib.hid hsame
  clear hx hxl hld hsame h h2
  go_enter Tryd.func14, Tryd.ntmps14
  go_wp2_with fail
  refine Hsame.out.mono ?_
  rintro e w2 ⟨rfl, hb2⟩
  go_wp2_with (first
    | ((with_reducible show wpList _ _ _ (⟨some 17, .load _ _, _, _, _, _⟩ :: _) _ _); refine wpList_runG (by kernel_rfl) (.agg (x.map B).toArray) w2 (run_load_op 48 (.tmp 16) rfl g (n * 32) rfl _ (Hld.out w2 hb2)) ?_; simp only [Act.put])
    | ((with_reducible show wpList _ _ _ (⟨some 18, .build _ _, _, _, _, _⟩ :: _) _ _); refine wpList_runG (by kernel_rfl) (.agg (x.map B).toArray) w2 (by rw [← Hx.out]; kernel_rfl) ?_; simp only [Act.put])
    | ((with_reducible show wpList _ _ _ (⟨some 19, .binOp _ _ _ _ _, _, _, _, _⟩ :: _) _ _); refine wpList_runG (by kernel_rfl) (.bool true) w2 (run_eql26_t (.tmp 17) (.tmp 18) _ x x rfl rfl rfl Hxl.out Hxl.out rfl _) ?_; simp only [Act.put]))
  go_ret
  exact ⟨rfl, hb2⟩
end Go.Proofs.YtfhmjgkcpcnkbaaDoor
