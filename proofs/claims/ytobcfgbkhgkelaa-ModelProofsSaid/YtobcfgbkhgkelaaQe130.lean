/- cons.Both; notaryref12.Both. -/
import Derived.Test.YtobcfgbkhgkelaaQe122
import Derived.Test.YtobcfgbkhgkelaaQe129
namespace Go.Proofs.Ytobcfgbkhgkelaa
open Go Go.RowKit

theorem results_cells2t {fn : Func} {p q u : Tmp} {ty : TypeId} (h : fn.results = #[.cell p ty, .cell q ty, .tmp u]) (tmps : Array Value) (P : Program) (w : World) :
    (results fn tmps).run P w =
      ((asAddr (tmps.getD p undef)).run P w).andThen fun a w₁ => ((loadVar ty a).run P w₁).andThen fun v w₂ => ((asAddr (tmps.getD q undef)).run P w₂).andThen fun b w₃ => ((loadVar ty b).run P w₃).andThen fun z w₄ => .ok (.tuple #[v, z, tmps.getD u undef]) w₄ := by
  simp only [results, h]
  simp [Sem.run_bind, Result.andThen]
theorem tuple_cells2t {fn : Func} {p q u : Tmp} (h : fn.results = #[.cell p 26, .cell q 26, .tmp u]) (tmps : Array Value) (w : World) (g g' : Nat) (x y : List UInt8)
    (hp : tmps.getD p undef = .pointer (some ⟨g, 0, none⟩)) (hq : tmps.getD q undef = .pointer (some ⟨g', 0, none⟩)) (hx : HV w g x) (hy : HV w g' y) :
    (results fn tmps).run Try.prog w = .ok (.tuple #[.agg (x.map B).toArray, .agg (y.map B).toArray, tmps.getD u undef]) w := by
  have l1 := run_loadVar_row (P := Try.prog) w g _ 26 _ (0, 0) _ hx.blk Try.underlying26 rfl (by rw [show (x.map B).toArray.size = 32 by simp [hx.len]]; exact info26)
  have l2 := run_loadVar_row (P := Try.prog) w g' _ 26 _ (0, 0) _ hy.blk Try.underlying26 rfl (by rw [show (y.map B).toArray.size = 32 by simp [hy.len]]; exact info26)
  rw [results_cells2t h, hp, hq]
  simp only [asAddr, Sem.run_pure, Result.andThen_ok, l1, l2]
theorem length_zeroL : zeroL.length = 32 := rfl
theorem below_of_grownBy {n g : Nat} {w w' : World} (h : w.grownBy w' (some g)) (hn : n ≤ g) (hsz : n ≤ w.heap.size) : Below n w w' :=
  ⟨h.os, h.tape, h.output, h.size, fun k hk => h.block k (Nat.lt_of_lt_of_le hk hsz) (fun e => by have := Option.some.inj e; omega)⟩

set_option maxHeartbeats 4000000 in
set_option maxRecDepth 100000 in
theorem cbothE_any (m n : Int) (x : List UInt8) (p : List (List UInt8)) (A : Option Addr) (np c : Nat) (w : World) (hn : n ≤ 9223372036854775807) (hx : x.length = 32) (h : Hs w (fun _ => True) A np c p) :
    Calls Try.prog 58 #[.int .i64 m, .int .i64 n, .agg (x.map B).toArray, .slice A np c] w fun e w' => e = .returned (.tuple #[.agg ((bothE m n x p).1.1.map B).toArray, .agg ((bothE m n x p).1.2.map B).toArray, .int .i64 (bothE m n x p).2]) ∧ Below w.heap.size w w' := by
  obtain ⟨w5, hw5⟩ : ∃ w5, ((((w.alloc (.cells #[.int .i64 m] 2)).alloc (.cells (x.map B).toArray 26)).alloc (.cells #[.slice A np c] 33)).alloc (.cells #[.int .u8 0, .int .u8 0, .int .u8 0, .int .u8 0, .int .u8 0, .int .u8 0, .int .u8 0, .int .u8 0, .int .u8 0, .int .u8 0, .int .u8 0, .int .u8 0, .int .u8 0, .int .u8 0, .int .u8 0, .int .u8 0, .int .u8 0, .int .u8 0, .int .u8 0, .int .u8 0, .int .u8 0, .int .u8 0, .int .u8 0, .int .u8 0, .int .u8 0, .int .u8 0, .int .u8 0, .int .u8 0, .int .u8 0, .int .u8 0, .int .u8 0, .int .u8 0] 26)).alloc (.cells #[.int .u8 0, .int .u8 0, .int .u8 0, .int .u8 0, .int .u8 0, .int .u8 0, .int .u8 0, .int .u8 0, .int .u8 0, .int .u8 0, .int .u8 0, .int .u8 0, .int .u8 0, .int .u8 0, .int .u8 0, .int .u8 0, .int .u8 0, .int .u8 0, .int .u8 0, .int .u8 0, .int .u8 0, .int .u8 0, .int .u8 0, .int .u8 0, .int .u8 0, .int .u8 0, .int .u8 0, .int .u8 0, .int .u8 0, .int .u8 0, .int .u8 0, .int .u8 0] 26) = w5 := ⟨_, rfl⟩
  have hb0 : Below w.heap.size w w5 := by rw [← hw5]; exact (((((Below.refl _ _).alloc (Nat.le_refl _) _).alloc (by simp) _).alloc (by simp; omega) _).alloc (by simp; omega) _).alloc (by simp; omega) _
  have hsz5 : w5.heap.size = w.heap.size + 1 + 1 + 1 + 1 + 1 := by rw [← hw5]; simp
  have k4 : Blk w5 w.heap.size 2 #[.int .i64 m] := by rw [← hw5]; exact ((((Blk.new _ _ _).alloc _).alloc _).alloc _).alloc _
  have k6 : HV w5 (w.heap.size + 1) x := ⟨by rw [← hw5]; exact (((Blk.new' _ _ _ _ (by simp)).alloc _).alloc _).alloc _, hx⟩
  have k7 : Blk w5 (w.heap.size + 1 + 1) 33 #[.slice A np c] := by rw [← hw5]; exact ((Blk.new' _ _ _ _ (by simp)).alloc _).alloc _
  have k8 : HV w5 (w.heap.size + 1 + 1 + 1) (List.replicate 32 0) := ⟨by rw [← hw5]; exact (Blk.new' _ _ zeroHash _ (by simp)).alloc _, rfl⟩
  have k9 : HV w5 (w.heap.size + 1 + 1 + 1 + 1) (List.replicate 32 0) := ⟨by rw [← hw5]; exact Blk.new' _ _ zeroHash _ (by simp), rfl⟩
  have c4 : w5.cell? ⟨w.heap.size, 0, none⟩ = some (.int .i64 m) := by rw [k4.cell]; rfl
  have c7 : w5.cell? ⟨w.heap.size + 1 + 1, 0, none⟩ = some (.slice A np c) := by rw [k7.cell]; rfl
  have hin : ∀ b, b < w.heap.size → (fun _ => True) b → b < w.heap.size := fun _ h _ => h
  have h5 := (h.weak hin).step hb0
  have hlen := h.len
  have h32 := h.all
  have hroom := h.sl.room
  have hmx := h.sl.max
  unfold maxLen at hmx
  have Hw5 := Lib.hid hw5
  have Hx := Lib.hid hx
  clear hw5 h hx hin
  by_cases hbad : m < 1 ∨ n < m
  · rw [bothE_bad m n x p hbad]
    dsimp only
    obtain ⟨z, hz⟩ : ∃ z, zeroL = z := ⟨_, rfl⟩
    have hzl : z.length = 32 := by rw [← hz]; rfl
    rw [hz]
    have Hz := Lib.hid hz
    have Hzl := Lib.hid hzl
    clear hz hzl
    rcases Int.lt_or_le m 1 with hm | hm
    · clear hbad
      go_enter Try.func58, Try.ntmps58
      go_wp2_with (first
        | ((with_reducible show wpList _ _ _ (⟨some 18, .load _ _, _, _, _, _⟩ :: _) _ _); rw [Hw5.out])
        | ((with_reducible show wpList _ _ _ (⟨some 25, .build _ _, _, _, _, _⟩ :: _) _ _); refine wpList_run0 rfl (.agg (z.map B).toArray) (by rw [← Hz.out]; kernel_rfl) ?_; simp only [Act.put])
        | ((with_reducible show wpList _ _ _ (⟨some 26, .build _ _, _, _, _, _⟩ :: _) _ _); refine wpList_run0 rfl (.agg (z.map B).toArray) (by rw [← Hz.out]; kernel_rfl) ?_; simp only [Act.put])
        | ((with_reducible show wpList _ _ _ (⟨none, .store _ (.tmp 8) (.tmp 25), _, _, _, _⟩ :: _) _ _); refine wpList_hset2 (.tmp 8) (.tmp 25) rfl rfl k8 rfl rfl Hzl.out ?_; intro W1 k8s hb1 hoth1; simp only [Act.put]; replace k9 := hoth1 _ _ (by omega) k9; replace hb0 := hb0.trans (hb1.mono (by omega)))
        | ((with_reducible show wpList _ _ _ (⟨none, .store _ (.tmp 9) (.tmp 26), _, _, _, _⟩ :: _) _ _); refine wpList_hset2 (.tmp 9) (.tmp 26) rfl rfl k9 rfl rfl Hzl.out ?_; intro W2 k9s hb2 hoth2; simp only [Act.put]; replace k8s := hoth2 _ _ (by omega) k8s; replace hb0 := hb0.trans (hb2.mono (by omega))))
      refine bodyPost_ret (tuple_cells2t rfl _ _ (w.heap.size + 1 + 1 + 1) (w.heap.size + 1 + 1 + 1 + 1) z z rfl rfl k8s k9s) rfl ⟨rfl, hb0⟩
    · have hnm : n < m := by omega
      clear hbad
      go_enter Try.func58, Try.ntmps58
      go_wp2_with (first
        | ((with_reducible show wpList _ _ _ (⟨some 18, .load _ _, _, _, _, _⟩ :: _) _ _); rw [Hw5.out])
        | ((with_reducible show wpList _ _ _ (⟨some 25, .build _ _, _, _, _, _⟩ :: _) _ _); refine wpList_run0 rfl (.agg (z.map B).toArray) (by rw [← Hz.out]; kernel_rfl) ?_; simp only [Act.put])
        | ((with_reducible show wpList _ _ _ (⟨some 26, .build _ _, _, _, _, _⟩ :: _) _ _); refine wpList_run0 rfl (.agg (z.map B).toArray) (by rw [← Hz.out]; kernel_rfl) ?_; simp only [Act.put])
        | ((with_reducible show wpList _ _ _ (⟨none, .store _ (.tmp 8) (.tmp 25), _, _, _, _⟩ :: _) _ _); refine wpList_hset2 (.tmp 8) (.tmp 25) rfl rfl k8 rfl rfl Hzl.out ?_; intro W1 k8s hb1 hoth1; simp only [Act.put]; replace k9 := hoth1 _ _ (by omega) k9; replace hb0 := hb0.trans (hb1.mono (by omega)))
        | ((with_reducible show wpList _ _ _ (⟨none, .store _ (.tmp 9) (.tmp 26), _, _, _, _⟩ :: _) _ _); refine wpList_hset2 (.tmp 9) (.tmp 26) rfl rfl k9 rfl rfl Hzl.out ?_; intro W2 k9s hb2 hoth2; simp only [Act.put]; replace k8s := hoth2 _ _ (by omega) k8s; replace hb0 := hb0.trans (hb2.mono (by omega))))
      refine bodyPost_ret (tuple_cells2t rfl _ _ (w.heap.size + 1 + 1 + 1) (w.heap.size + 1 + 1 + 1 + 1) z z rfl rfl k8s k9s) rfl ⟨rfl, hb0⟩
  · have hm1 : ¬ m < 1 := by omega
    have hnm : ¬ n < m := by omega
    have hst := fun W => csize_any m n W hn
    have hsl := stepsA_len m n hn
    by_cases hsz : (stepsA m n).1.length = p.length
    · rw [bothE_ok m n x p hbad hsz]
      dsimp only
      have hcnt := stepsA_cnt m n (by omega) (by omega)
      have hlb := length_bothL n.toNat m.toNat n.toNat true x p (Nat.le_refl _) (by omega) (by omega) Hx.out h32 (by rw [← hsz, hcnt])
      have hnp : cntS m.toNat n.toNat true = np := by rw [← hcnt, hsz, hlen]
      have hrb := fun g4 g6 g7 g13 g14 g15 N W (h : BkC m.toNat x p A np c g4 g6 g7 g13 g14 g15 N 0 W) => back_rec m.toNat x p A np c g4 g6 g7 g13 g14 g15 N Hx.out (by omega) n.toNat 0 n.toNat 0 true W (by omega) (by omega) (by omega) (by omega) (by rw [Nat.sub_zero, Nat.sub_zero, hnp]; omega) h
      rw [Nat.sub_zero, Nat.sub_zero, hnp, List.drop_zero, List.take_of_length_le (by omega), show ((n.toNat : Nat) : Int) = n by omega, show ((0 : Nat) : Int) = 0 from rfl, Nat.zero_add] at hrb
      obtain ⟨r1, hr1⟩ : ∃ r, (bothL m.toNat n.toNat true x p).1 = r := ⟨_, rfl⟩
      obtain ⟨r2, hr2⟩ : ∃ r, (bothL m.toNat n.toNat true x p).2 = r := ⟨_, rfl⟩
      rw [hr1, hr2] at hlb hrb ⊢
      obtain ⟨hl1, hl2⟩ := hlb
      rw [hlen] at hsz
      obtain ⟨⟨ls, e0⟩, hse⟩ : ∃ s, stepsA m n = s := ⟨_, rfl⟩
      rw [hse] at hst hsz hsl
      dsimp only at hst hsz hsl
      have Hl1 := Lib.hid hl1
      have Hl2 := Lib.hid hl2
      have Hrb := Lib.hid hrb
      have Hst := Lib.hid hst
      clear hl1 hl2 hrb hst hr1 hr2 hse hcnt hnp hbad
      go_enter Try.func58, Try.ntmps58
      go_wp2_with ((with_reducible show wpList _ _ _ (⟨some 18, .load _ _, _, _, _, _⟩ :: _) _ _); rw [Hw5.out])
      refine (Hst.out w5).mono ?_
      rintro e W4 ⟨rfl, hb4⟩
      replace k4 := k4.step hb4
      replace k6 := k6.step hb4
      replace k7 := k7.step hb4
      replace k8 := k8.step hb4
      replace k9 := k9.step hb4
      replace h5 := h5.step hb4
      replace hb0 := hb0.trans (hb4.mono hb0.size)
      replace c7 : W4.cell? ⟨w.heap.size + 1 + 1, 0, none⟩ = some (.slice A np c) := by rw [k7.cell]; rfl
      have hs4 := hb4.size
      rw [hsz]
      clear hb4 c4
      obtain ⟨w9, hw9⟩ : ∃ w9, ((W4.alloc (.cells #[.int .i64 0] 3)).alloc (.cells #[.func (.func 78) #[] #[.pointer (some ⟨W4.heap.size, 0, none⟩), .pointer (some ⟨w.heap.size + 1 + 1, 0, none⟩)]] 96)).alloc (.cells #[.func (.func 79) #[] #[.pointer (some ⟨w.heap.size, 0, none⟩), .pointer (some ⟨w.heap.size + 1, 0, none⟩), .pointer (some ⟨W4.heap.size + 1, 0, none⟩), .pointer (some ⟨W4.heap.size + 1 + 1, 0, none⟩)]] 125) = w9 := ⟨_, rfl⟩
      have hb9 : Below W4.heap.size W4 w9 := by rw [← hw9]; exact (((Below.refl _ _).alloc (Nat.le_refl _) _).alloc (by simp) _).alloc (by simp; omega) _
      have hC : BkC m.toNat x p A np c w.heap.size (w.heap.size + 1) (w.heap.size + 1 + 1) W4.heap.size (W4.heap.size + 1) (W4.heap.size + 1 + 1) (W4.heap.size + 1 + 1 + 1) 0 w9 :=
        ⟨by rw [show ((m.toNat : Nat) : Int) = m by omega]; exact k4.step hb9, k6.step hb9, k7.step hb9, by rw [← hw9]; exact ((Blk.new _ _ _).alloc _).alloc _, by rw [← hw9]; exact (Blk.new' _ _ _ _ (by simp)).alloc _, by rw [← hw9]; exact Blk.new' _ _ _ _ (by simp),
          (h5.step hb9).weak (fun b _ hb => ⟨by omega, by omega⟩), by omega, by omega, by omega, by omega, by omega, by omega, by rw [← hw9]; simp, by omega, by omega, by omega, by omega, by omega⟩
      replace k8 := k8.step hb9
      replace k9 := k9.step hb9
      replace hb0 := hb0.trans (hb9.mono hb0.size)
      have hs9 := hb9.size
      have Hw9 := Lib.hid hw9
      clear hw9 k4 k6 k7 h5 hb9
      go_wp2_with ((with_reducible show wpList _ _ _ (⟨some 42, .load _ _, _, _, _, _⟩ :: _) _ _); fail)
      rw [Hw9.out]
      refine (Hrb.out _ _ _ _ _ _ _ w9 hC).mono ?_
      rintro e W5 ⟨rfl, -, hg5⟩
      have k85 := k8.grown hg5 (fun e => by have := Option.some.inj e; omega)
      have k95 := k9.grown hg5 (fun e => by have := Option.some.inj e; omega)
      replace hb0 := hb0.trans (below_of_grownBy hg5 (by omega) (by omega))
      have hs5 := hg5.size
      clear k8 k9
      have k8 := k85
      have k9 := k95
      clear hg5 hC k85 k95
      go_wp2_with (first
        | ((with_reducible show wpList _ _ _ (⟨some 16, .alloc _, _, _, _, _⟩ :: _) _ _); refine wpList_hnew rfl rfl ?_; intro W6 ka hb6; simp only [Act.put]; replace k8 := k8.step hb6; replace k9 := k9.step hb6; replace hb0 := hb0.trans (hb6.mono hb0.size); have hlta := ka.lt; have hs6 := hb6.size)
        | ((with_reducible show wpList _ _ _ (⟨some 17, .alloc _, _, _, _, _⟩ :: _) _ _); refine wpList_hnew rfl rfl ?_; intro W7 kb hb7; simp only [Act.put]; replace k8 := k8.step hb7; replace k9 := k9.step hb7; replace ka := ka.step hb7; replace hb0 := hb0.trans (hb7.mono hb0.size))
        | ((with_reducible show wpList _ _ _ (⟨none, .store _ (.tmp 16) _, _, _, _, _⟩ :: _) _ _); refine wpList_hset2 (.tmp 16) (.tmp 45) rfl rfl ka rfl rfl Hl1.out ?_; intro W8 kas hb8 hoth8; simp only [Act.put]; replace k8 := hoth8 _ _ (by omega) k8; replace k9 := hoth8 _ _ (by omega) k9; replace kb := hoth8 _ _ (by omega) kb; replace hb0 := hb0.trans (hb8.mono (by omega)))
        | ((with_reducible show wpList _ _ _ (⟨none, .store _ (.tmp 17) _, _, _, _, _⟩ :: _) _ _); refine wpList_hset2 (.tmp 17) (.tmp 46) rfl rfl kb rfl rfl Hl2.out ?_; intro W9 kbs hb9 hoth9; simp only [Act.put]; replace k8 := hoth9 _ _ (by omega) k8; replace k9 := hoth9 _ _ (by omega) k9; replace kas := hoth9 _ _ (by omega) kas; replace hb0 := hb0.trans (hb9.mono (by omega))))
      clear ka kb hb6 hb7 hb8 hb9 hoth8 hoth9
      generalize W5.heap.size = ga at *
      generalize W6.heap.size = gb at *
      have ka := kas
      have kb := kbs
      have hS : (HV W9.drew ga r1 ∧ HV W9.drew gb r2) ∧ Below w.heap.size W9 W9.drew := ⟨⟨ka.drew, kb.drew⟩, (Below.refl _ _).drew⟩
      replace k8 := k8.drew
      replace k9 := k9.drew
      go_wp2_with fail
      refine wp_region_mix (fun W => (HV W ga r1 ∧ HV W gb r2) ∧ Below w.heap.size W9 W) [(0, true), (1, true), (2, false), (3, false), (4, true)] (by kernel_rfl) (by kernel_rfl) hS fun _ => ?_
      simp only [List.map_cons, List.map_nil, Array.getD_eq_getD_getElem?, List.getElem?_toArray, List.getElem?_cons_succ, List.getElem?_cons_zero, Option.getD_some]
      generalize W9.drew = Wz at hS k8 k9 ⊢
      refine wpMix_load (by kernel_rfl) 26 (.tmp 16) rfl (ga) (0) rfl (r1.map B).toArray (fun s => s.ok.1.1.load) ?_
      simp only [Act.put]
      refine wpMix_load (by kernel_rfl) 26 (.tmp 17) rfl (gb) (0) rfl (r2.map B).toArray (fun s => s.ok.1.2.load) ?_
      simp only [Act.put]
      refine wpMix_hset3 (.tmp 8) (.tmp 47) rfl rfl k8 rfl rfl Hl1.out (fun _ _ hb hoth => ⟨⟨hoth _ _ (by omega) hS.1.1, hoth _ _ (by omega) hS.1.2⟩, hS.2.trans (hb.mono (by omega))⟩) ?_
      intro Wx k8s hbx hothx
      simp only [Act.put]
      replace hS : (HV Wx ga r1 ∧ HV Wx gb r2) ∧ Below w.heap.size W9 Wx := ⟨⟨hothx _ _ (by omega) hS.1.1, hothx _ _ (by omega) hS.1.2⟩, hS.2.trans (hbx.mono (by omega))⟩
      replace k9 := hothx _ _ (by omega) k9
      refine wpMix_hset3 (.tmp 9) (.tmp 48) rfl rfl k9 rfl rfl Hl2.out (fun _ _ hb hoth => ⟨⟨hoth _ _ (by omega) hS.1.1, hoth _ _ (by omega) hS.1.2⟩, hS.2.trans (hb.mono (by omega))⟩) ?_
      intro Wy k9s hby hothy
      simp only [Act.put]
      replace hS : (HV Wy ga r1 ∧ HV Wy gb r2) ∧ Below w.heap.size W9 Wy := ⟨⟨hothy _ _ (by omega) hS.1.1, hothy _ _ (by omega) hS.1.2⟩, hS.2.trans (hby.mono (by omega))⟩
      replace k8s := hothy _ _ (by omega) k8s
      refine wpMix_s (fun K hK => ?_)
      go_simp
      refine hK _ ?_
      clear hK K
      refine wpMix_nil ?_
      intro _
      go_wp2_with fail
      refine bodyPost_ret (tuple_cells2t rfl _ _ (w.heap.size + 1 + 1 + 1) (w.heap.size + 1 + 1 + 1 + 1) r1 r2 rfl rfl k8s k9s) rfl ⟨rfl, hb0.trans hS.2⟩
    · rw [bothE_size m n x p hbad hsz]
      dsimp only
      obtain ⟨z, hz⟩ : ∃ z, zeroL = z := ⟨_, rfl⟩
      have hzl : z.length = 32 := by rw [← hz]; rfl
      rw [hz]
      have Hz := Lib.hid hz
      have Hzl := Lib.hid hzl
      rw [hlen] at hsz
      obtain ⟨⟨ls, e0⟩, hse⟩ : ∃ s, stepsA m n = s := ⟨_, rfl⟩
      rw [hse] at hst hsz hsl
      dsimp only at hst hsz hsl
      have hne : ((ls.length : Int) != (np : Int)) = true := by simp; omega
      have Hst := Lib.hid hst
      clear hz hzl hst hse hsz hbad
      go_enter Try.func58, Try.ntmps58
      go_wp2_with ((with_reducible show wpList _ _ _ (⟨some 18, .load _ _, _, _, _, _⟩ :: _) _ _); rw [Hw5.out])
      refine (Hst.out w5).mono ?_
      rintro e W4 ⟨rfl, hb4⟩
      replace k7 := k7.step hb4
      replace k8 := k8.step hb4
      replace k9 := k9.step hb4
      replace hb0 := hb0.trans (hb4.mono hb0.size)
      replace c7 : W4.cell? ⟨w.heap.size + 1 + 1, 0, none⟩ = some (.slice A np c) := by rw [k7.cell]; rfl
      have hs4 := hb4.size
      clear hb4 c4
      go_wp2_with (first
        | ((with_reducible show wpList _ _ _ (⟨some 37, .build _ _, _, _, _, _⟩ :: _) _ _); refine wpList_run0 rfl (.agg (z.map B).toArray) (by rw [← Hz.out]; kernel_rfl) ?_; simp only [Act.put])
        | ((with_reducible show wpList _ _ _ (⟨some 38, .build _ _, _, _, _, _⟩ :: _) _ _); refine wpList_run0 rfl (.agg (z.map B).toArray) (by rw [← Hz.out]; kernel_rfl) ?_; simp only [Act.put])
        | ((with_reducible show wpList _ _ _ (⟨none, .store _ (.tmp 8) (.tmp 37), _, _, _, _⟩ :: _) _ _); refine wpList_hset2 (.tmp 8) (.tmp 37) rfl rfl k8 rfl rfl Hzl.out ?_; intro W5 k8s hb1 hoth1; simp only [Act.put]; replace k9 := hoth1 _ _ (by omega) k9; replace hb0 := hb0.trans (hb1.mono (by omega)))
        | ((with_reducible show wpList _ _ _ (⟨none, .store _ (.tmp 9) (.tmp 38), _, _, _, _⟩ :: _) _ _); refine wpList_hset2 (.tmp 9) (.tmp 38) rfl rfl k9 rfl rfl Hzl.out ?_; intro W6 k9s hb2 hoth2; simp only [Act.put]; replace k8s := hoth2 _ _ (by omega) k8s; replace hb0 := hb0.trans (hb2.mono (by omega))))
      refine bodyPost_ret (tuple_cells2t rfl _ _ (w.heap.size + 1 + 1 + 1) (w.heap.size + 1 + 1 + 1 + 1) z z rfl rfl k8s k9s) rfl ⟨rfl, hb0⟩
end Go.Proofs.Ytobcfgbkhgkelaa
