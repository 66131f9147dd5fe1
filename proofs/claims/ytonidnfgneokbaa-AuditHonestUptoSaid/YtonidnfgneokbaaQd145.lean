/- tree.elder: the root of the first tree. -/
import Derived.Test.YtonidnfgneokbaaQd142
import Derived.Test.YtonidnfgneokbaaQd139
namespace Go.Proofs.Ytonidnfgneokbaa
open Go Go.RowKit Go.Shelf
attribute [local go_sem] Oper.semAt_some

set_option maxHeartbeats 4000000 in
set_option maxRecDepth 100000 in
theorem elder_any {f : Nat} {H : Hf} (hF : HFn f H) (way : List Bool) (Aw : Option Addr) (L cw : Nat) (a0 : List UInt8) (pf : List (List UInt8)) (Ap : Option Addr) (cp : Nat) (w : World)
    (hw : SlV w (fun _ => True) Aw L cw 1 (bcells way)) (hwl : way.length = L) (hp : Hs w (fun _ => True) Ap L cp pf) (h0 : a0.length = 32) :
    Calls Try.prog 96 #[.agg #[hval f], .slice Aw L cw, .agg (a0.map B).toArray, .slice Ap L cp] w fun e w' => e = .returned (.agg ((elderI H way pf a0 L).map B).toArray) ∧ Below w.heap.size w w' := by
  have hroom := hw.room
  have hmx := hw.max
  unfold maxLen at hmx
  have hroomp := hp.sl.room
  have hmxp := hp.sl.max
  unfold maxLen at hmxp
  have hw' := hw.weak (Y := (· < w.heap.size)) fun b hb _ => hb
  have hp' := hp.weak (Y := (· < w.heap.size)) fun b hb _ => hb
  have hpl := hp.len
  have hp32 := hp.all
  have Hpl := Lib.hid hpl
  have Hp32 := Lib.hid hp32
  have Hwl := Lib.hid hwl
  have H0l := Lib.hid h0
  obtain ⟨w0, hw0⟩ : ∃ w0, (w.alloc (.cells #[hval f] 123)).alloc (.cells (a0.map B).toArray 25) = w0 := ⟨_, rfl⟩
  have hb0 : Below w.heap.size w w0 := by rw [← hw0]; exact ((Below.refl _ _).alloc (Nat.le_refl _) _).alloc (by simp) _
  have k4 : Blk w0 w.heap.size 123 #[hval f] := by rw [← hw0]; exact (Blk.new _ _ _).alloc _
  have k6 : HV w0 (w.heap.size + 1) a0 := ⟨by rw [← hw0]; exact Blk.new' _ _ _ _ (by simp), h0⟩
  have Hw0 := Lib.hid hw0
  clear hw hp hpl hp32 hwl h0 hw0
  go_enter Try.func96, Try.ntmps96
  go_wp2_with (first
    | ((with_reducible show wpList _ _ _ (⟨some 8, .alloc _, _, _, _, _⟩ :: _) _ _); rw [Hw0.out]; refine wpList_hnew rfl rfl ?_; intro w1 k8 hb1; have k4l := k4.lt; have k6l := k6.lt; replace k4 := k4.step hb1; replace k6 := k6.step hb1; replace hb0 := hb0.trans (hb1.mono hb0.size); simp only [Act.put]))
  obtain ⟨g8, hg8⟩ : ∃ g, w0.heap.size = g := ⟨_, rfl⟩
  have hs0 : w0.heap.size = w.heap.size + 1 + 1 := by rw [← Hw0.out]; simp
  have hg8e : w.heap.size + 1 < g8 := by omega
  rw [hg8] at k8 ⊢
  clear hg8 hs0 Hw0 k4l k6l hb1
  go_loopw [9, 10, 13] (fun _ _ v13 wr => ∃ i : Nat, i ≤ L ∧ v13 = .int .i64 (i : Int) ∧ Blk wr w.heap.size 123 #[hval f] ∧ HV wr (w.heap.size + 1) (elderI H way pf a0 i) ∧ HV wr g8 (List.replicate 32 0) ∧ Below w.heap.size w wr) (fun _ _ v13 _ => L - (intOf v13).toNat)
  case atStart => exact ⟨0, Nat.zero_le _, rfl, k4, k6, k8, hb0⟩
  case round =>
    clear k4 k6 k8 hb0
    obtain ⟨i, hi, rfl, k4, k6, k8, hb⟩ := hrel
    by_cases hiL : i < L
    · have hd : decide ((i : Int) < (L : Int)) = true := by simp; omega
      have hwi : IntKind.i64.wrap ((i : Int) + 1) = (i : Int) + 1 := IntWalk.i64_in _ (by omega)
      obtain ⟨n, hn⟩ : ∃ n, n + i + 1 = L := ⟨L - 1 - i, by omega⟩
      have hw1 : IntKind.i64.wrap ((L : Int) - 1) = (L : Int) - 1 := IntWalk.i64_in _ (by omega)
      have hw2 : IntKind.i64.wrap ((L : Int) - 1 - (i : Int)) = (n : Int) := by rw [IntWalk.i64_in _ (by omega)]; omega
      have hnL : n < L := by omega
      obtain ⟨bp, op, rfl, hbp, -, -⟩ := hp'.at_ (by omega)
      obtain ⟨bw, ow, rfl, hbw, -, hatw⟩ := hw'.at_ (by omega) (by decide)
      have hcw := hatw n (.bool (way.getD n false)) (by rw [List.getElem?_map, List.getD_eq_getElem?_getD, List.getElem?_eq_getElem (by rw [Hwl.out]; exact hnL)]; rfl)
      have hcw' := fun W (hb' : Below wr.heap.size wr W) => (hb'.cell (p := ⟨bw, ow + n, none⟩) (Nat.lt_of_lt_of_le hbw hb.size)).trans ((hb.cell (p := ⟨bw, ow + n, none⟩) hbw).trans hcw)
      have hget := (hp'.step hb).get rfl i hiL
      have hyl := Hp32.out.getD i (by rw [Hpl.out]; exact hiL)
      have hxl := k6.len
      have hes := elderI_succ H way pf a0 i
      rw [Hwl.out, show L - 1 - i = n by omega] at hes
      obtain ⟨x, hx⟩ : ∃ x, elderI H way pf a0 i = x := ⟨_, rfl⟩
      obtain ⟨y, hy⟩ : ∃ y, pf.getD i [] = y := ⟨_, rfl⟩
      rw [hx] at k6 hxl hes
      rw [hy] at hget hyl hes
      have Hget := Lib.hid hget
      have Hyl := Lib.hid hyl
      have Hxl := Lib.hid hxl
      have Hn := Lib.hid hn
      have Hcw := Lib.hid hcw'
      clear hatw hcw hcw' hget hyl hxl hn hx hy
      cases hbt : way.getD n false with
      | false =>
        rw [hbt] at hes Hcw
        rw [if_neg (by simp)] at hes
        have Hes := Lib.hid hes
        clear hes hbt
        go_wp2_with (first
          | ((with_reducible show wpList _ _ _ (⟨some 17, .load _ _, _, _, _, _⟩ :: _) _ _); refine wpList_run0 rfl (.agg (y.map B).toArray) (run_load_op 25 (.tmp 16) rfl bp (op + i * 32) rfl _ Hget.out) ?_; simp only [Act.put])
          | ((with_reducible show wpList _ _ _ (⟨some 10, .alloc _, _, _, _, _⟩ :: _) _ _); refine wpList_hnew rfl rfl ?_; intro W1 k10 hb1; simp only [Act.put])
          | ((with_reducible show wpList _ _ _ [⟨none, .store _ (.tmp 10) _, _, _, _, _⟩] _ _); refine wpList_hset (.tmp 10) (.tmp 17) rfl rfl k10 rfl rfl Hyl.out ?_; intro W2 k10b hb2' hW2; clear hW2; have hb2 := hb1.trans hb2'; have c24 := Hcw.out _ hb2; replace k4 := k4.step hb2; replace k6 := k6.step hb2; replace k8 := k8.step hb2; simp only [Act.put]))
        go_roundw
        case rel => exact ⟨i + 1, by omega, by go_num, k4, by rw [Hes.out]; exact k6, k8, hb.trans (hb2.mono hb.size)⟩
        case measure => simp [intOf]; omega
      | true =>
        rw [hbt] at hes Hcw
        rw [if_pos rfl] at hes
        have hz64 : (y ++ x).length = 64 := by simp [Hxl.out, Hyl.out]
        obtain ⟨z, hz⟩ : ∃ z, y ++ x = z := ⟨_, rfl⟩
        have hnd := fun W => tnode13_any hF y x W Hyl.out Hxl.out
        rw [hz] at hz64 hnd
        obtain ⟨r, hr⟩ : ∃ r, H (nodeD (y, x)) = r := ⟨_, rfl⟩
        have hrl : r.length = 32 := by rw [← hr]; exact hF.len _
        rw [hr] at hnd hes
        have Hz := Lib.hid hz
        have Hz64 := Lib.hid hz64
        have Hnd := Lib.hid hnd
        have Hes := Lib.hid hes
        have Hrl := Lib.hid hrl
        clear hz hz64 hnd hes hr hrl hbt
        go_wp2_with (first
          | ((with_reducible show wpList _ _ _ (⟨some 17, .load _ _, _, _, _, _⟩ :: _) _ _); refine wpList_run0 rfl (.agg (y.map B).toArray) (run_load_op 25 (.tmp 16) rfl bp (op + i * 32) rfl _ Hget.out) ?_; simp only [Act.put])
          | ((with_reducible show wpList _ _ _ (⟨some 10, .alloc _, _, _, _, _⟩ :: _) _ _); refine wpList_hnew rfl rfl ?_; intro W1 k10 hb1; simp only [Act.put])
          | ((with_reducible show wpList _ _ _ [⟨none, .store _ (.tmp 10) _, _, _, _, _⟩] _ _); refine wpList_hset (.tmp 10) (.tmp 17) rfl rfl k10 rfl rfl Hyl.out ?_; intro W2 k10b hb2' hW2; clear hW2; have hb2 := hb1.trans hb2'; have c24 := Hcw.out _ hb2; replace k4 := k4.step hb2; replace k6 := k6.step hb2; replace k8 := k8.step hb2; simp only [Act.put])
          | ((with_reducible show wpList _ _ _ (⟨some 26, .load _ _, _, _, _, _⟩ :: _) _ _); refine wpList_run0 rfl (.agg #[hval f]) (run_load_op 123 (.tmp 4) rfl w.heap.size 0 rfl _ (tree_load k4)) ?_; simp only [Act.put])
          | ((with_reducible show wpList _ _ _ (⟨some 27, .load _ _, _, _, _, _⟩ :: _) _ _); refine wpList_hload (.tmp 10) (by kernel_rfl) rfl k10b rfl ?_; simp only [Act.put])
          | ((with_reducible show wpList _ _ _ (⟨some 28, .load _ _, _, _, _, _⟩ :: _) _ _); refine wpList_hload (.tmp 6) (by kernel_rfl) rfl k6 rfl ?_; simp only [Act.put])
          | ((with_reducible show wpList _ _ _ (⟨some 29, .build _ _, _, _, _, _⟩ :: _) _ _); refine wpList_run0 rfl (.agg (z.map B).toArray) (by rw [← Hz.out]; exact run_build_pair_op y x Hyl.out Hxl.out (.tmp 27) (.tmp 28) rfl rfl rfl _) ?_; simp only [Act.put])
          | (go_at_call 137; refine (Hnd.out _).mono ?_; rintro e W7 ⟨rfl, hb7⟩; replace k4 := k4.step hb7; replace k6 := k6.step hb7; replace k8 := k8.step hb7; replace hb2 := hb2.trans (hb7.mono hb2.size))
          | ((with_reducible show wpList _ _ _ [⟨none, .store _ (.tmp 6) _, _, _, _, _⟩] _ _); refine wpList_hset2 (.tmp 6) (.tmp 30) rfl rfl k6 rfl rfl Hrl.out ?_; intro W8 k6b hb8 hk8; replace k4 := k4.below hb8 (Nat.lt_succ_self _); replace k8 := hk8 _ _ (by omega) k8; simp only [Act.put]))
        go_roundw
        case rel => exact ⟨i + 1, by omega, by go_num, k4, by rw [Hes.out]; exact k6b, k8, (hb.trans (hb2.mono hb.size)).trans (hb8.mono (Nat.le_succ _))⟩
        case measure => simp [intOf]; omega
    · obtain rfl : i = L := by omega
      have hd : decide ((i : Int) < (i : Int)) = false := by simp
      go_wp2_with (first
        | ((with_reducible show wpList _ _ _ (⟨some 32, .load _ _, _, _, _, _⟩ :: _) _ _); refine wpList_hload (.tmp 6) (by kernel_rfl) rfl k6 rfl ?_; simp only [Act.put])
        | ((with_reducible show wpList _ _ _ [⟨none, .store _ (.tmp 8) _, _, _, _, _⟩] _ _); refine wpList_hset2 (.tmp 8) (.tmp 32) rfl rfl k8 rfl rfl k6.len ?_; intro W9 k8s hb9 _; simp only [Act.put]))
      exact bodyPost_ret (ret_hash rfl rfl k8s) rfl ⟨rfl, hb.trans (hb9.mono (by omega))⟩
end Go.Proofs.Ytonidnfgneokbaa
