/- notaryref11.Up, From, Check. -/
import Derived.Test.YtmglkblomklcbaaQc129
import Derived.Test.YtmglkblomklcbaaQc125
import Derived.Test.YtmglkblomklcbaaQc112
import Derived.Test.YtmglkblomklcbaaQc120
import Derived.Test.YtmglkblomklcbaaQc119
import Derived.Test.YtmglkblomklcbaaQc128
import Derived.Test.YtmglkblomklcbaaQc110
import Derived.Test.YtmglkblomklcbaaQc111
namespace Go.Proofs.Ytmglkblomklcbaa
open Go Go.RowKit

set_option maxHeartbeats 4000000 in
set_option maxRecDepth 100000 in
theorem r11Up_any (leaf : List UInt8) (i n : Int) (p : List (List UInt8)) (A : Option Addr) (np c : Nat) (w : World) (hlf : leaf.length = 32) (hn : n ≤ 9223372036854775807) (h : Hs w (fun _ => True) A np c p) :
    Calls Try.prog 23 #[.agg (leaf.map B).toArray, .int .i64 i, .int .i64 n, .slice A np c] w fun e w' => ∃ v, e = .returned (.tuple #[v, .int .i64 (wayA leaf i n p).2]) ∧ w'.ownsRow w.heap.size 92 34 v (wayA leaf i n p).1.length (scells (wayA leaf i n p).1) ∧ Below w.heap.size w w' := by
  obtain ⟨w1, hw1⟩ : ∃ w1, w.alloc (.cells (leaf.map B).toArray 45) = w1 := ⟨_, rfl⟩
  have hb1 : Below w.heap.size w w1 := by rw [← hw1]; exact (Below.refl _ _).alloc (Nat.le_refl _) _
  have k4 : HV w1 w.heap.size leaf := ⟨by rw [← hw1]; exact Blk.new _ _ _, hlf⟩
  have hlen := h.len
  have hroom := h.sl.room
  have hmx := h.sl.max
  unfold maxLen at hmx
  have hil := fun W => r11len_any i n W hn
  have hpl := pathA_len i n hn
  have h1 := h.step hb1
  have Hw1 := Lib.hid hw1
  have Hlf := Lib.hid hlf
  clear hw1 hlf h
  by_cases hbad : (pathA i n).2 = 0
  · obtain ⟨hi0, hin, hpa⟩ := pathA_in i n hbad
    by_cases hnp : (pathA i n).1.length = p.length
    · rw [wayA_ok leaf i n p hbad hnp]
      dsimp only
      obtain ⟨i, rfl⟩ : ∃ k : Nat, i = (k : Int) := ⟨i.toNat, by omega⟩
      obtain ⟨n, rfl⟩ : ∃ k : Nat, n = (k : Int) := ⟨n.toNat, by omega⟩
      rw [hbad] at hil
      rw [Int.toNat_natCast, Int.toNat_natCast] at hpa ⊢
      rw [hpa] at hnp hil hpl
      rw [hnp, hlen] at hil hpl
      have hup := r11up_rec leaf i Hlf.out n 0 n p A np c w1 (by omega) (by omega) (by omega) (by omega) (by omega) h1
      rw [show ((0 : Nat) : Int) = 0 from rfl] at hup
      obtain ⟨q, hq⟩ : ∃ q, upL leaf i 0 n p = q := ⟨_, rfl⟩
      rw [hq] at hup ⊢
      have Hil := Lib.hid hil
      have Hup := Lib.hid hup
      clear hil hup hlen hq hnp hpa hbad h1
      go_enter Try.func23, Try.ntmps23
      go_wp2_with (first
        | (go_at_call 14; refine (Hil.out _).mono ?_; rintro e w0 ⟨rfl, rfl⟩; rw [Hw1.out])
        | ((with_reducible show wpList _ _ _ (⟨some 25, .load _ _, _, _, _, _⟩ :: _) _ _); refine wpList_hload (.tmp 4) (by kernel_rfl) rfl k4 rfl ?_; simp only [Act.put]))
      refine Hup.out.mono ?_
      rintro e w2 ⟨v, rfl, ho, hb2⟩
      go_wp2_with fail
      refine bodyPost_ret (results_tmp2 rfl _ _ _) rfl ⟨_, rfl, owns_le ho hb1.size, hb1.trans (hb2.mono hb1.size)⟩
    · rw [wayA_len leaf i n p hbad hnp]
      dsimp only
      rw [hbad] at hil
      rw [hlen] at hnp
      obtain ⟨m, hm⟩ : ∃ m, (pathA i n).1.length = m := ⟨_, rfl⟩
      rw [hm] at hil hpl hnp
      have hne : ((np : Int) != (m : Int)) = true := by simp; omega
      have Hil := Lib.hid hil
      clear hil hm hbad hlen hnp hpa h1 k4
      go_enter Try.func23, Try.ntmps23
      go_wp2_with (go_at_call 14; refine (Hil.out _).mono ?_; rintro e w0 ⟨rfl, rfl⟩; rw [Hw1.out])
      refine bodyPost_ret (results_tmp2 rfl _ _ _) rfl ⟨_, rfl, World.ownsRow_nil _ _ _ _, hb1⟩
  · rw [wayA_bad leaf i n p hbad]
    dsimp only
    obtain ⟨m, hm⟩ : ∃ m, (pathA i n).1.length = m := ⟨_, rfl⟩
    obtain ⟨e0, he⟩ : ∃ e, (pathA i n).2 = e := ⟨_, rfl⟩
    rw [hm] at hil hpl
    rw [he] at hil hbad ⊢
    have hne : (e0 != 0) = true := by simpa using hbad
    have Hil := Lib.hid hil
    clear hil hm he hbad hlen h1 k4
    go_enter Try.func23, Try.ntmps23
    go_wp2_with (go_at_call 14; refine (Hil.out _).mono ?_; rintro e w0 ⟨rfl, rfl⟩; rw [Hw1.out])
    refine bodyPost_ret (results_tmp2 rfl _ _ _) rfl ⟨_, rfl, World.ownsRow_nil _ _ _ _, hb1⟩

set_option maxHeartbeats 4000000 in
set_option maxRecDepth 100000 in
theorem r11from_any (leaf : List UInt8) (i n : Int) (p : List (List UInt8)) (A : Option Addr) (np c : Nat) (w : World) (hlf : leaf.length = 32) (hn : n ≤ 9223372036854775807) (h : Hs w (fun _ => True) A np c p) :
    Calls Try.prog 22 #[.agg (leaf.map B).toArray, .int .i64 i, .int .i64 n, .slice A np c] w fun e w' => e = .returned (.tuple #[.agg ((fromA leaf i n p).1.map B).toArray, .int .i64 (fromA leaf i n p).2]) ∧ Below w.heap.size w w' := by
  obtain ⟨w1, hw1⟩ : ∃ w1, w.alloc (.cells (leaf.map B).toArray 45) = w1 := ⟨_, rfl⟩
  have hb1 : Below w.heap.size w w1 := by rw [← hw1]; exact (Below.refl _ _).alloc (Nat.le_refl _) _
  have k4 : HV w1 w.heap.size leaf := ⟨by rw [← hw1]; exact Blk.new _ _ _, hlf⟩
  have hq := wayA_q leaf i n p hlf
  have hway := fun W (h : Hs W (fun _ => True) A np c p) => r11Up_any leaf i n p A np c W hlf hn h
  have h1 := h.step hb1
  have hs1 := hb1.size
  unfold fromA
  obtain ⟨⟨q, e0⟩, hqe⟩ : ∃ s, wayA leaf i n p = s := ⟨_, rfl⟩
  rw [hqe] at hq hway ⊢
  dsimp only at hq hway ⊢
  obtain ⟨hq1, hq2, -, -, hq4⟩ := hq
  have hq4 := hq4 hn
  have Hw1 := Lib.hid hw1
  have Hway := Lib.hid hway
  have Hq1 := Lib.hid hq1
  clear hw1 hway hq1 hqe h
  by_cases h0 : e0 = 0
  · subst h0
    rw [if_neg (by simp)]
    dsimp only
    have hq2 := hq2 rfl
    obtain ⟨m, hm⟩ : ∃ m, q.length = m + 1 := ⟨q.length - 1, by omega⟩
    obtain ⟨z, hz⟩ : ∃ z, lastH q = z := ⟨_, rfl⟩
    have hat := lastH_at q m hm
    rw [hz] at hat ⊢
    have hzl : z.length = 32 := by
      rw [← hat, List.getD_eq_getElem?_getD, List.getElem?_eq_getElem (by omega)]
      exact Hq1.out _ (List.getElem_mem _)
    have hwm : IntKind.i64.wrap (m : Int) = (m : Int) := IntWalk.i64_in _ (by omega)
    have Hz := Lib.hid hz
    have Hat := Lib.hid hat
    have Hzl := Lib.hid hzl
    have Hm := Lib.hid hm
    have hm64 : m < 64 := by omega
    clear hz hat hzl hq2 hq4
    go_enter Try.func22, Try.ntmps22
    go_wp2_with (first
      | ((with_reducible show wpList _ _ _ (⟨some 8, .alloc _, _, _, _, _⟩ :: _) _ _); rw [Hw1.out]; refine wpList_hnew rfl rfl ?_; intro W2 k8 hb2; simp only [Act.put]; have k42 := k4.step hb2; have hb02 := hb1.trans (hb2.mono hb1.size); have hs2 := hb2.size; have hl8 := k8.lt)
      | ((with_reducible show wpList _ _ _ (⟨some 13, .load _ _, _, _, _, _⟩ :: _) _ _); refine wpList_hload (.tmp 4) (by kernel_rfl) rfl k42 rfl ?_; simp only [Act.put]))
    clear k4
    refine (Hway.out _ (h1.step hb2)).mono ?_
    rintro e W3 ⟨v, rfl, ho, hb3⟩
    rw [Hm.out] at ho
    obtain ⟨gq, cq, rfl⟩ := owns_some ho (by omega)
    obtain ⟨A', c', hv, hs⟩ := St.of_owns ho Hm.out Hq1.out
    cases hv
    obtain ⟨b, o, hA, -, -, hld⟩ := hs.at_ (by omega)
    cases hA
    obtain ⟨hld, -, -⟩ := hld m (by omega)
    rw [Hat.out] at hld
    have hroom := hs.sl.room
    have hmx := hs.sl.max
    unfold maxLen at hmx
    have k83 := k8.step hb3
    have hb03 := hb02.trans (hb3.mono hb02.size)
    clear hs ho k8 k42 hb3 hb2 hb02 h1 hb1
    go_wp2_with (first
      | ((with_reducible show wpList _ _ _ (⟨some 30, .load _ _, _, _, _, _⟩ :: _) _ _); refine wpList_runG (by kernel_rfl) (.agg (z.map B).toArray) _ (run_load_op 45 (.tmp 29) rfl gq (0 + m * 34 + 2) (by simp [Act.eval]) _ hld) ?_; simp only [Act.put])
      | ((with_reducible show wpList _ _ _ (⟨none, .store _ (.tmp 8) _, _, _, _, _⟩ :: _) _ _); refine wpList_hset (.tmp 8) (.tmp 30) rfl rfl k83 rfl rfl Hzl.out ?_; intro W4 k9 hb4 hx; clear hx; simp only [Act.put]))
    refine bodyPost_ret (tuple_cellT rfl _ _ w1.heap.size (z.map B).toArray _ _ rfl k9.blk Try.underlying45 (by rw [show (z.map B).toArray.size = 32 by simp [k9.len]]; exact info26)) rfl ⟨rfl, hb03.trans (hb4.mono (by omega))⟩
  · rw [if_pos h0]
    dsimp only
    have hne : (e0 != 0) = true := by simpa using h0
    obtain ⟨z, hz⟩ : ∃ z, List.replicate 32 (0 : UInt8) = z := ⟨_, rfl⟩
    have hzl : z.length = 32 := by rw [← hz]; rfl
    rw [hz]
    have Hz := Lib.hid hz
    have Hzl := Lib.hid hzl
    clear hz hzl h0 hq2 hq4
    go_enter Try.func22, Try.ntmps22
    go_wp2_with (first
      | ((with_reducible show wpList _ _ _ (⟨some 8, .alloc _, _, _, _, _⟩ :: _) _ _); rw [Hw1.out]; refine wpList_hnew rfl rfl ?_; intro W2 k8 hb2; simp only [Act.put]; have k42 := k4.step hb2; have hb02 := hb1.trans (hb2.mono hb1.size); have hs2 := hb2.size; have hl8 := k8.lt)
      | ((with_reducible show wpList _ _ _ (⟨some 13, .load _ _, _, _, _, _⟩ :: _) _ _); refine wpList_hload (.tmp 4) (by kernel_rfl) rfl k42 rfl ?_; simp only [Act.put]))
    clear k4
    refine (Hway.out _ (h1.step hb2)).mono ?_
    rintro e W3 ⟨v, rfl, ho, hb3⟩
    have k83 := k8.step hb3
    have hb03 := hb02.trans (hb3.mono hb02.size)
    clear ho k8 k42 hb3 hb2 hb02 h1 hb1
    go_wp2_with (first
      | ((with_reducible show wpList _ _ _ (⟨some 22, .build _ _, _, _, _, _⟩ :: _) _ _); refine wpList_run0 rfl (.agg (z.map B).toArray) (by rw [← Hz.out]; kernel_rfl) ?_; simp only [Act.put])
      | ((with_reducible show wpList _ _ _ (⟨none, .store _ (.tmp 8) _, _, _, _, _⟩ :: _) _ _); refine wpList_hset (.tmp 8) (.tmp 22) rfl rfl k83 rfl rfl Hzl.out ?_; intro W4 k9 hb4 hx; clear hx; simp only [Act.put]))
    refine bodyPost_ret (tuple_cellT rfl _ _ w1.heap.size (z.map B).toArray _ _ rfl k9.blk Try.underlying45 (by rw [show (z.map B).toArray.size = 32 by simp [k9.len]]; exact info26)) rfl ⟨rfl, hb03.trans (hb4.mono (by omega))⟩

set_option maxHeartbeats 4000000 in
set_option maxRecDepth 100000 in
theorem r11check_any (leaf : List UInt8) (i n : Int) (root : List UInt8) (p : List (List UInt8)) (A : Option Addr) (np c : Nat) (w : World) (hlf : leaf.length = 32) (hrl : root.length = 32) (hn : n ≤ 9223372036854775807) (h : Hs w (fun _ => True) A np c p) :
    Calls Try.prog 26 #[.agg (leaf.map B).toArray, .int .i64 i, .agg (.int .i64 n :: root.map B).toArray, .slice A np c] w fun e w' => e = .returned (.int .i64 (takenA leaf i n root p)) ∧ Below w.heap.size w w' := by
  obtain ⟨w2, hw2⟩ : ∃ w2, (w.alloc (.cells (leaf.map B).toArray 45)).alloc (.cells (.int .i64 n :: root.map B).toArray 47) = w2 := ⟨_, rfl⟩
  have hb2 : Below w.heap.size w w2 := by rw [← hw2]; exact ((Below.refl _ _).alloc (Nat.le_refl _) _).alloc (by simp) _
  have k4 : HV w2 w.heap.size leaf := ⟨by rw [← hw2]; exact (Blk.new _ _ _).alloc _, hlf⟩
  have k6 : Blk w2 (w.heap.size + 1) 47 (.int .i64 n :: root.map B).toArray := by rw [← hw2]; exact Blk.new' _ _ _ _ (by simp)
  have c6 : w2.cell? ⟨w.heap.size + 1, 0, none⟩ = some (.int .i64 n) := by rw [k6.cell]; rfl
  have hfl := fromA_len leaf i n p hlf
  have hro := fun W (h : Hs W (fun _ => True) A np c p) => r11from_any leaf i n p A np c W hlf hn h
  have h1 := h.step hb2
  unfold takenA
  obtain ⟨⟨r, e0⟩, hre⟩ : ∃ s, fromA leaf i n p = s := ⟨_, rfl⟩
  rw [hre] at hfl hro ⊢
  dsimp only at hfl hro ⊢
  obtain ⟨hfl, -⟩ := hfl
  have Hw2 := Lib.hid hw2
  have Hro := Lib.hid hro
  have Hfl := Lib.hid hfl
  have Hrl := Lib.hid hrl
  clear hw2 hro hre h hfl hrl
  have hld : ∀ W, Blk W (w.heap.size + 1) 47 (.int .i64 n :: root.map B).toArray → (Instr.loadAt 45 (.pointer (some ⟨w.heap.size + 1, 1, none⟩))).run Try.prog W = .ok (.agg (root.map B).toArray) W := fun W k =>
    run_load_agg (agg26 _) (size26 _) _ 1 (root.map B) (by simp [Hrl.out]) fun j u hu => by
      rw [k.cell, List.getElem?_toArray, show 1 + j = j + 1 by omega, List.getElem?_cons_succ]
      exact hu
  have Hld := Lib.hid hld
  clear hld
  by_cases h0 : e0 = 0
  · subst h0
    rw [if_neg (by simp)]
    by_cases hrr : r = root
    · rw [if_neg (by simp [hrr])]
      have Hrr := Lib.hid hrr
      clear hrr
      go_enter Try.func26, Try.ntmps26
      go_wp2_with (first
        | ((with_reducible show wpList _ _ _ (⟨some 12, .load _ _, _, _, _, _⟩ :: _) _ _); rw [Hw2.out]; refine wpList_hload (.tmp 4) (by kernel_rfl) rfl k4 rfl ?_; simp only [Act.put]))
      refine (Hro.out _ h1).mono ?_
      rintro e W3 ⟨rfl, hb3⟩
      replace k6 := k6.step hb3
      have hb03 := hb2.trans (hb3.mono hb2.size)
      clear hb3 c6 k4 hb2 h1
      go_wp2_with (first
        | ((with_reducible show wpList _ _ _ (⟨some 9, .alloc _, _, _, _, _⟩ :: _) _ _); refine wpList_hvar (.tmp 9) (.tmp 18) rfl rfl rfl rfl rfl rfl Hfl.out ?_; intro W4 k9 hb4; simp only [Act.put])
        | ((with_reducible show wpList _ _ _ (⟨some 23, .load _ _, _, _, _, _⟩ :: _) _ _); refine wpList_hload (.tmp 9) (by kernel_rfl) rfl k9 rfl ?_; simp only [Act.put])
        | ((with_reducible show wpList _ _ _ (⟨some 25, .load _ _, _, _, _, _⟩ :: _) _ _); refine wpList_runG (by kernel_rfl) (.agg (root.map B).toArray) _ (run_load_op 45 (.tmp 24) rfl _ 1 rfl _ (Hld.out _ (k6.step hb4))) ?_; simp only [Act.put])
        | ((with_reducible show wpList _ _ _ (⟨some 26, .binOp _ _ _ _ _, _, _, _, _⟩ :: _) _ _); refine wpList_runG (by kernel_rfl) (.bool false) _ (run_neq26_f (.tmp 23) (.tmp 25) _ r root rfl rfl rfl Hfl.out Hrl.out Hrr.out _) ?_; simp only [Act.put]))
      go_ret
      exact ⟨rfl, hb03.trans (hb4.mono hb03.size)⟩
    · rw [if_pos hrr]
      have Hrr := Lib.hid hrr
      clear hrr
      go_enter Try.func26, Try.ntmps26
      go_wp2_with (first
        | ((with_reducible show wpList _ _ _ (⟨some 12, .load _ _, _, _, _, _⟩ :: _) _ _); rw [Hw2.out]; refine wpList_hload (.tmp 4) (by kernel_rfl) rfl k4 rfl ?_; simp only [Act.put]))
      refine (Hro.out _ h1).mono ?_
      rintro e W3 ⟨rfl, hb3⟩
      replace k6 := k6.step hb3
      have hb03 := hb2.trans (hb3.mono hb2.size)
      clear hb3 c6 k4 hb2 h1
      go_wp2_with (first
        | ((with_reducible show wpList _ _ _ (⟨some 9, .alloc _, _, _, _, _⟩ :: _) _ _); refine wpList_hvar (.tmp 9) (.tmp 18) rfl rfl rfl rfl rfl rfl Hfl.out ?_; intro W4 k9 hb4; simp only [Act.put])
        | ((with_reducible show wpList _ _ _ (⟨some 23, .load _ _, _, _, _, _⟩ :: _) _ _); refine wpList_hload (.tmp 9) (by kernel_rfl) rfl k9 rfl ?_; simp only [Act.put])
        | ((with_reducible show wpList _ _ _ (⟨some 25, .load _ _, _, _, _, _⟩ :: _) _ _); refine wpList_runG (by kernel_rfl) (.agg (root.map B).toArray) _ (run_load_op 45 (.tmp 24) rfl _ 1 rfl _ (Hld.out _ (k6.step hb4))) ?_; simp only [Act.put])
        | ((with_reducible show wpList _ _ _ (⟨some 26, .binOp _ _ _ _ _, _, _, _, _⟩ :: _) _ _); refine wpList_runG (by kernel_rfl) (.bool true) _ (run_neq26_t (.tmp 23) (.tmp 25) _ r root rfl rfl rfl Hfl.out Hrl.out Hrr.out _) ?_; simp only [Act.put]))
      go_ret
      exact ⟨rfl, hb03.trans (hb4.mono hb03.size)⟩
  · rw [if_pos h0]
    have h0i : ¬ e0 = 0 := h0
    have hne : (e0 != 0) = true := by simpa using h0
    go_enter Try.func26, Try.ntmps26
    go_wp2_with (first
      | ((with_reducible show wpList _ _ _ (⟨some 12, .load _ _, _, _, _, _⟩ :: _) _ _); rw [Hw2.out]; refine wpList_hload (.tmp 4) (by kernel_rfl) rfl k4 rfl ?_; simp only [Act.put]))
    refine (Hro.out _ h1).mono ?_
    rintro e W3 ⟨rfl, hb3⟩
    replace k6 := k6.step hb3
    have hb03 := hb2.trans (hb3.mono hb2.size)
    clear hb3 c6 k4 hb2 h1
    go_wp2_with (first
      | ((with_reducible show wpList _ _ _ (⟨some 9, .alloc _, _, _, _, _⟩ :: _) _ _); refine wpList_hvar (.tmp 9) (.tmp 18) rfl rfl rfl rfl rfl rfl Hfl.out ?_; intro W4 k9 hb4; simp only [Act.put]))
    go_ret
    exact ⟨rfl, hb03.trans (hb4.mono hb03.size)⟩
end Go.Proofs.Ytmglkblomklcbaa
/- notarylaw11.spoilt. -/
namespace Go.Proofs.Ytmglkblomklcbaa
open Go Go.RowKit

/-- a row of one's own turns, or a new one takes its place -/
structure SpI (w : World) (base : Nat) (v0 : Value) (m : Nat) (v : Value) (W : World) : Prop where
  own : ∃ xs, W.ownsRow base 45 32 v m xs
  g : w.grownBy W v0.ownBlock
  at_ : v.ownBlock = v0.ownBlock ∨ ∃ r, v.ownBlock = some r ∧ w.heap.size ≤ r
theorem SpI.next {w W W' : World} {base m m' : Nat} {v0 v v' : Value} {xs : List Value} (h : SpI w base v0 m v W) (ho : W'.ownsRow base 45 32 v' m' xs) (hg : W.grownBy W' v.ownBlock) (ha : v'.ownBlock = v.ownBlock ∨ ∃ r, v'.ownBlock = some r ∧ W.heap.size ≤ r) : SpI w base v0 m' v' W' := by
  refine ⟨⟨xs, ho⟩, ⟨hg.os.trans h.g.os, hg.tape.trans h.g.tape, hg.output.trans h.g.output, Nat.le_trans h.g.size hg.size, fun k hk hne => (hg.block k (Nat.lt_of_lt_of_le hk h.g.size) (fun e => ?_)).trans (h.g.block k hk hne)⟩, ?_⟩
  · rcases h.at_ with e2 | ⟨r, e2, hr⟩
    · exact hne (e.trans e2)
    · rw [e2] at e
      have := Option.some.inj e
      omega
  · rcases ha with e | ⟨r, e, hr⟩
    · rcases h.at_ with e2 | ⟨r, e2, hr⟩
      · exact .inl (e.trans e2)
      · exact .inr ⟨r, e.trans e2, hr⟩
    · exact .inr ⟨r, e, Nat.le_trans h.g.size hr⟩

set_option maxHeartbeats 2000000 in
set_option maxRecDepth 100000 in
theorem spoilt11_any (w : World) (base n : Nat) (v : Value) (xs : List Value) (h : w.ownsRow base 45 32 v n xs) (hb : base ≤ w.heap.size) (hn : n ≤ 1099511627776) :
    Calls Try.prog 18 #[v] w fun e w' => e = .returned (.tuple #[]) ∧ w.grownBy w' v.ownBlock := by
  have hI : SpI w base v n v w := ⟨⟨xs, h⟩, ⟨rfl, rfl, rfl, Nat.le_refl _, fun _ _ _ => rfl⟩, .inl rfl⟩
  obtain ⟨A, c, rfl⟩ : ∃ A c, v = .slice A n c := by
    obtain ⟨A, c, e, -⟩ := owns_slv h
    exact ⟨A, c, e⟩
  obtain ⟨x9, hx9⟩ : ∃ x, oneHash 9 = x := ⟨_, rfl⟩
  have h9 : x9.length = 32 := by rw [← hx9]; exact length_oneHash _
  obtain ⟨x8, hx8⟩ : ∃ x, oneHash 8 = x := ⟨_, rfl⟩
  have h8 : x8.length = 32 := by rw [← hx8]; exact length_oneHash _
  have h832 : H32 [x8] := fun h hh => by rw [List.mem_singleton.1 hh]; exact h8
  have Hx9 := Lib.hid hx9
  have H9 := Lib.hid h9
  have Hx8 := Lib.hid hx8
  have H832 := Lib.hid h832
  clear h hx9 h9 hx8 h8 h832
  go_enter Try.func18, Try.ntmps18
  go_wp2_with fail
  go_loopw [2] (fun i wr => ∃ k : Nat, k ≤ n ∧ i = .int .i64 k ∧ SpI w base (.slice A n c) n (.slice A n c) wr) (fun i _ => n - (intOf i).toNat)
  case atStart => exact ⟨0, Nat.zero_le _, rfl, hI⟩
  case round =>
    clear hI
    obtain ⟨k, hk, rfl, hC⟩ := hrel
    by_cases hkn : k < n
    · have hd : decide ((k : Int) < (n : Int)) = true := by simp; omega
      obtain ⟨ys, ho⟩ := hC.own
      obtain ⟨g, c', e⟩ := owns_some ho (by omega)
      cases e
      obtain ⟨cur, hk2, hsz, hbg, ho2⟩ := owns_put ho k hkn (x9.map B) (by rw [List.length_map]; exact H9.out)
      have hg2 : wr.grownBy (wr.setRow g (cur.toList.take (k * 32) ++ x9.map B ++ cur.toList.drop (k * 32 + 32)).toArray) (some g) := ⟨rfl, rfl, rfl, by simp, fun i _ hne => setRow_other wr g i _ (fun e => hne (by rw [e]))⟩
      have hC2 := hC.next ho2 hg2 (.inl rfl)
      have HC2 := Lib.hid hC2
      clear ho ho2 hg2 hC hC2
      go_wp2_with (first
        | ((with_reducible show wpList _ _ _ (⟨some 12, .build _ _, _, _, _, _⟩ :: _) _ _); refine wpList_run0 rfl (.agg (x9.map B).toArray) (by rw [← Hx9.out]; kernel_rfl) ?_; simp only [Act.put])
        | ((with_reducible show wpList _ _ _ (⟨none, .store _ _ _, _, _, _, _⟩ :: _) _ _); refine wpList_store_agg rfl 45 (.tmp 13) (.tmp 12) rfl 32 size26 g (k * 32) (x9.map B).toArray (by simp [Act.eval]) rfl (by simp [H9.out]) (oneCell_B _) 45 cur hk2 hsz ?_; simp only [Act.put]))
      refine ⟨⟨k + 1, by omega, by go_num, by simpa only [List.append_assoc] using HC2.out⟩, by simp [intOf]; omega⟩
    · obtain rfl : k = n := by omega
      have hd : decide ((k : Int) < (k : Int)) = false := by simp
      go_wp2_with fail
      go_loopw [0, 3] (fun v i wr => ∃ j : Nat, j ≤ 5 ∧ i = .int .i64 j ∧ SpI w base (.slice A k c) (k + j) v wr) (fun _ i _ => 5 - (intOf i).toNat)
      case atStart => exact ⟨0, by omega, rfl, hC⟩
      case round =>
        clear hC hd
        obtain ⟨j, hj, rfl, hC⟩ := hrel
        by_cases hj5 : j < 5
        · have hd : decide ((j : Int) < 5) = true := by simp; omega
          obtain ⟨ys, ho⟩ := hC.own
          have hbA := Nat.le_trans hb hC.g.size
          have hA := (Below.refl wr.heap.size wr).alloc (Nat.le_refl _) (.cells (hcells [x8]).toArray 45)
          obtain ⟨v3, W3, hr3, ho3, hg3, ha3⟩ := append_slv (ty := 22) Try.underlying22 info26z (by simp [Value.cells]) (by decide) (owns_step ho hA) (Hs.lit wr [x8] H832.out (by simp) 1 rfl).sl (oneB _) (by unfold maxLen; omega) (by omega) (Nat.le_trans hbA hA.size)
          have hgA := grown_of_below hA none
          have hg4 : wr.grownBy W3 u0.ownBlock := ⟨hg3.os.trans hA.os, hg3.tape.trans hA.tape, hg3.output.trans hA.output, Nat.le_trans hA.size hg3.size, fun k hk hne => (hg3.block k (Nat.lt_of_lt_of_le hk hA.size) hne).trans (hA.block k hk)⟩
          have hC3 := hC.next ho3 hg4 (by
            rcases ha3 with e | ⟨r, e, hr⟩
            · exact .inl e
            · exact .inr ⟨r, e, Nat.le_trans hA.size hr⟩)
          have Hr3 := Lib.hid hr3
          have HC3 := Lib.hid hC3
          clear hr3 ho3 hg3 ha3 ho hC hC3 hA hgA hg4
          go_wp2_with (first
            | ((with_reducible show wpList _ _ _ (⟨some 19, .build _ _, _, _, _, _⟩ :: _) _ _); refine wpList_run0 rfl (.agg (x8.map B).toArray) (by rw [← Hx8.out]; kernel_rfl) ?_; simp only [Act.put])
            | ((with_reducible show wpList _ _ _ (⟨some 20, .buildSlice _ _ _, _, _, _, _⟩ :: _) _ _); refine wpList_run rfl _ _ (run_lit_op [x8] H832.out (by simp) (by simp) 1 _ rfl (by simp [Act.eval]) rfl _) ?_; simp only [Act.put])
            | ((with_reducible show wpList _ _ _ (⟨some 21, .call _, _, _, _, _⟩ :: _) _ _); refine wpList_run rfl v3 W3 (run_append_op (.tmp 18) (.tmp 20) 22 rfl _ _ rfl rfl Hr3.out) ?_; simp only [Act.put]))
          refine ⟨⟨j + 1, by omega, by go_num, HC3.out⟩, by simp [intOf]; omega⟩
        · obtain rfl : j = 5 := by omega
          have hd : decide ((5 : Int) < 5) = false := by decide
          go_wp2_with fail
          exact bodyPost_end (by exact results_none rfl _ _ _) rfl ⟨rfl, hC.g⟩
end Go.Proofs.Ytmglkblomklcbaa
/- notarylaw11.InclChecks. -/
namespace Go.Proofs.Ytmglkblomklcbaa
open Go Go.RowKit

theorem aggPt : ∀ w : World, (isAgg 47).run Try.prog w = .ok true w := fun _ => by kernel_rfl
theorem sizePt : ∀ w : World, (sizeOf 47).run Try.prog w = .ok 33 w := fun _ => by kernel_rfl
theorem owns_fewerH {w : World} {base g n m c s : Nat} {e : TypeId} {xs : List Value} (h : w.ownsRow base e s (.slice (some ⟨g, 0, none⟩) m c) m xs) (hn : n ≤ m) : w.ownsRow base e s (.slice (some ⟨g, 0, none⟩) n c) n (xs.take (n * s)) := owns_fewerT h hn
/-- what is asked, in its box -/
structure AskB (W : World) (g : Nat) (lf : List UInt8) (i n : Int) (root : List UInt8) : Prop where
  blk : Blk W g 49 (lf.map B ++ .int .i64 i :: .int .i64 n :: root.map B).toArray
  ll : lf.length = 32
  rl : root.length = 32
section
variable {W W' : World} {g : Nat} {lf : List UInt8} {i n : Int} {root : List UInt8}
theorem AskB.step (h : AskB W g lf i n root) (hb : Below W.heap.size W W') : AskB W' g lf i n root := ⟨h.blk.step hb, h.ll, h.rl⟩
theorem AskB.leaf (h : AskB W g lf i n root) : (Instr.loadAt 45 (.pointer (some ⟨g, 0, none⟩))).run Try.prog W = .ok (.agg (lf.map B).toArray) W :=
  run_load_agg (agg26 _) (size26 _) g 0 (lf.map B) (by simp [h.ll]) fun j u hu => by
    rw [h.blk.cell, List.getElem?_toArray, Nat.zero_add, List.getElem?_append_left (List.getElem?_eq_some_iff.1 hu).1]
    exact hu
theorem AskB.num (h : AskB W g lf i n root) : W.cell? ⟨g, 32, none⟩ = some (.int .i64 i) := by
  rw [h.blk.cell, List.getElem?_toArray, List.getElem?_append_right (by rw [List.length_map, h.ll]; omega), List.length_map, h.ll]; rfl
theorem AskB.size (h : AskB W g lf i n root) : W.cell? ⟨g, 33, none⟩ = some (.int .i64 n) := by
  rw [h.blk.cell, List.getElem?_toArray, List.getElem?_append_right (by rw [List.length_map, h.ll]; omega), List.length_map, h.ll]; rfl
theorem AskB.point (h : AskB W g lf i n root) : (Instr.loadAt 47 (.pointer (some ⟨g, 33, none⟩))).run Try.prog W = .ok (.agg (.int .i64 n :: root.map B).toArray) W :=
  run_load_agg (aggPt _) (sizePt _) g 33 (.int .i64 n :: root.map B) (by simp [h.rl]) fun j u hu => by
    rw [h.blk.cell, List.getElem?_toArray, List.getElem?_append_right (by rw [List.length_map, h.ll]; omega), List.length_map, h.ll, show 33 + j - 32 = j + 1 by omega, List.getElem?_cons_succ]
    exact hu
end

set_option maxHeartbeats 8000000 in
set_option maxRecDepth 100000 in
theorem inclchecks_any (ps : List (List UInt8)) (A : Option Addr) (np c : Nat) (lf : List UInt8) (i n : Int) (root : List UInt8) (lv : Int) (w : World) (h : Hs w (· < w.heap.size) A np c ps) (hll : lf.length = 32) (hrl : root.length = 32) (hn : n ≤ 9223372036854775807)
    (hnp : np ≤ 1099511627776) :
    Calls Try.prog 6 #[.agg (lf.map B ++ .int .i64 i :: .int .i64 n :: root.map B).toArray, .slice A np c, .int .i64 lv] w fun e w' => e = .returned (.bool true) ∧ Below w.heap.size w w' := by
  have hlen := h.len
  have h32 := h.all
  have hroom := h.sl.room
  have hmx := h.sl.max
  unfold maxLen at hmx
  have hrow := fun W h => row11_any ps A np c W h (by omega)
  have hro := fun A c W (h : Hs W (fun _ => True) A np c ps) => iroot_any lf i n ps A np c W hll hn h
  have hfr := fun A c W (h : Hs W (fun _ => True) A np c ps) => r11from_any lf i n ps A np c W hll hn h
  have hru := fun A c W (h : Hs W (fun _ => True) A np c ps) => r11Up_any lf i n ps A np c W hll hn h
  have hup := fun A c W (h : Hs W (fun _ => True) A np c ps) => iup_any lf i n ps A np c W hll hn h
  have hck := fun A c W (h : Hs W (fun _ => True) A np c ps) => icheck_any lf i n root ps A np c W hll hrl hn h
  have hrc := fun A c W (h : Hs W (fun _ => True) A np c ps) => r11check_any lf i n root ps A np c W hll hrl hn h
  obtain ⟨hfl, -⟩ := fromA_len lf i n ps hll
  obtain ⟨hq1, -, -, -, hq4⟩ := wayA_q lf i n ps hll
  have hq4 := hq4 hn
  obtain ⟨⟨r, e0⟩, hre⟩ : ∃ s, fromA lf i n ps = s := ⟨_, rfl⟩
  obtain ⟨⟨q, e1⟩, hqe⟩ : ∃ s, wayA lf i n ps = s := ⟨_, rfl⟩
  obtain ⟨t0, hte⟩ : ∃ s, takenA lf i n root ps = s := ⟨_, rfl⟩
  rw [hre] at hro hfr hfl
  rw [hqe] at hru hup hq1 hq4
  rw [hte] at hck hrc
  dsimp only at hro hfr hfl hru hup hq1 hq4
  obtain ⟨nq, hnq⟩ : ∃ k, q.length = k := ⟨_, rfl⟩
  rw [hnq] at hru hup hq4
  obtain ⟨w1, hw1⟩ : ∃ w1, w.alloc (.cells (lf.map B ++ .int .i64 i :: .int .i64 n :: root.map B).toArray 49) = w1 := ⟨_, rfl⟩
  have hb1 : Below w.heap.size w w1 := by rw [← hw1]; exact (Below.refl _ _).alloc (Nat.le_refl _) _
  have ka : AskB w1 w.heap.size lf i n root := ⟨by rw [← hw1]; exact Blk.new _ _ _, hll, hrl⟩
  have h1 := h.step hb1
  have hs1 := hb1.size
  obtain ⟨ask, hask⟩ : ∃ a, (lf.map B ++ .int .i64 i :: .int .i64 n :: root.map B) = a := ⟨_, rfl⟩
  rw [hask] at hw1 ⊢
  have Hw1 := Lib.hid hw1
  have Hrow := Lib.hid hrow
  have Hro := Lib.hid hro
  have Hfr := Lib.hid hfr
  have Hru := Lib.hid hru
  have Hup := Lib.hid hup
  have Hck := Lib.hid hck
  have Hrc := Lib.hid hrc
  have Hfl := Lib.hid hfl
  have Hq1 := Lib.hid hq1
  have Hnq := Lib.hid hnq
  have Hlen := Lib.hid hlen
  have H32h := Lib.hid h32
  clear hw1 hrow hro hfr hru hup hck hrc hfl hq1 hnq hlen h32 hre hqe hte hask h hll hrl
  go_enter Try.func6, Try.ntmps6
  go_wp2_with fail
  rw [Hw1.out]
  refine (Hrow.out w1 (h1.weak fun _ _ _ => trivial)).mono ?_
  rintro e w2 ⟨gm, cm, rfl, hom, hb2⟩
  obtain ⟨Am, cm', hv1, hm⟩ := Hs.of_owns hom (by rw [List.length_append, Hlen.out]; rfl) (H32h.out.append (fun x hx => by rw [List.mem_singleton.1 hx]; exact length_oneHash _))
  cases hv1
  have hmm := hm.weak (Y := fun _ => True) fun _ _ _ => trivial
  have hgm := (hom.lt gm rfl).2
  have hcm := hmm.sl.room
  have hcx := hmm.sl.max
  unfold maxLen at hcx
  have hsrc := h1.step hb2
  replace ka := ka.step hb2
  have hbw := hb1.trans (hb2.mono hb1.size)
  have hs2 := hb2.size
  have d1 := ka.num
  have d2 := ka.size
  clear hm h1 hb1 hb2 Hrow
  go_wp2_with ((with_reducible show wpList _ _ _ (⟨some 19, .load _ _, _, _, _, _⟩ :: _) _ _); refine wpList_runG (by kernel_rfl) (.agg (lf.map B).toArray) _ (run_load_op 45 (.tmp 18) rfl _ 0 rfl _ ka.leaf) ?_; simp only [Act.put])
  refine (Hro.out _ _ w2 (hmm.fewer Hlen.out)).mono ?_
  rintro e w3 ⟨rfl, hb3⟩
  replace hom := owns_step hom hb3
  replace hmm := hmm.step hb3
  replace hsrc := hsrc.step hb3
  replace ka := ka.step hb3
  replace hbw := hbw.trans (hb3.mono hbw.size)
  have hs3 := hb3.size
  clear hb3 d1 d2
  have d1 := ka.num
  have d2 := ka.size
  go_wp2_with (first
    | ((with_reducible show wpList _ _ _ (⟨some 8, .alloc _, _, _, _, _⟩ :: _) _ _); refine wpList_hvar (.tmp 8) (.tmp 27) rfl rfl rfl rfl rfl rfl Hfl.out ?_; intro w4 k8 hb4; simp only [Act.put]; have d1 := (ka.step hb4).num; have d2 := (ka.step hb4).size; have ka4 := ka.step hb4)
    | ((with_reducible show wpList _ _ _ (⟨some 31, .load _ _, _, _, _, _⟩ :: _) _ _); refine wpList_runG (by kernel_rfl) (.agg (lf.map B).toArray) _ (run_load_op 45 (.tmp 30) rfl _ 0 rfl _ ka4.leaf) ?_; simp only [Act.put]))
  replace hom := owns_step hom hb4
  replace hmm := hmm.step hb4
  replace hsrc := hsrc.step hb4
  replace hbw := hbw.trans (hb4.mono hbw.size)
  clear ka
  have ka := ka4
  have hs4 := hb4.size
  clear ka4 hb4 d1 d2
  refine (Hfr.out _ _ w4 (hsrc.weak fun _ _ _ => trivial)).mono ?_
  rintro e w5 ⟨rfl, hb5⟩
  replace hom := owns_step hom hb5
  replace hmm := hmm.step hb5
  replace hsrc := hsrc.step hb5
  replace ka := ka.step hb5
  replace k8 := k8.step hb5
  replace hbw := hbw.trans (hb5.mono hbw.size)
  have hs5 := hb5.size
  clear hb5
  have d1 := ka.num
  have d2 := ka.size
  go_wp2_with (first
    | ((with_reducible show wpList _ _ _ (⟨some 10, .alloc _, _, _, _, _⟩ :: _) _ _); refine wpList_hvar (.tmp 10) (.tmp 39) rfl rfl rfl rfl rfl rfl Hfl.out ?_; intro w6 k10 hb6; simp only [Act.put]; have d1 := (ka.step hb6).num; have d2 := (ka.step hb6).size; have ka4 := ka.step hb6)
    | ((with_reducible show wpList _ _ _ (⟨some 43, .load _ _, _, _, _, _⟩ :: _) _ _); refine wpList_runG (by kernel_rfl) (.agg (lf.map B).toArray) _ (run_load_op 45 (.tmp 42) rfl _ 0 rfl _ ka4.leaf) ?_; simp only [Act.put]))
  replace hom := owns_step hom hb6
  replace hmm := hmm.step hb6
  replace hsrc := hsrc.step hb6
  replace k8 := k8.step hb6
  replace hbw := hbw.trans (hb6.mono hbw.size)
  clear ka
  have ka := ka4
  have hs6 := hb6.size
  clear ka4 hb6 d1 d2
  refine (Hru.out _ _ w6 (hsrc.weak fun _ _ _ => trivial)).mono ?_
  rintro e w7 ⟨vs, rfl, hos, hb7⟩
  obtain ⟨As, cs, rfl, hst⟩ := St.of_owns hos Hnq.out Hq1.out
  replace hst := hst.weak (Y := fun b => w2.heap.size ≤ b) fun b _ hx => by have := hx.1; omega
  replace hom := owns_step hom hb7
  replace hmm := hmm.step hb7
  replace hsrc := hsrc.step hb7
  replace ka := ka.step hb7
  replace k8 := k8.step hb7
  replace k10 := k10.step hb7
  replace hbw := hbw.trans (hb7.mono hbw.size)
  have hs7 := hb7.size
  have hrs := hst.sl.room
  have hms := hst.sl.max
  unfold maxLen at hms
  clear hb7 hos
  have d1 := ka.num
  have d2 := ka.size
  go_wp2_with (first
    | ((with_reducible show wpList _ _ _ (⟨some 54, .load _ _, _, _, _, _⟩ :: _) _ _); refine wpList_runG (by kernel_rfl) (.agg (lf.map B).toArray) _ (run_load_op 45 (.tmp 53) rfl _ 0 rfl _ ka.leaf) ?_; simp only [Act.put]))
  refine (Hup.out _ _ w7 (hmm.fewer Hlen.out)).mono ?_
  rintro e w8 ⟨gu, Au, cu, rfl, kbox, hsu, hgu, hb8⟩
  replace hom := owns_step hom hb8
  replace hmm := hmm.step hb8
  replace hsrc := hsrc.step hb8
  replace ka := ka.step hb8
  replace k8 := k8.step hb8
  replace k10 := k10.step hb8
  replace hst := hst.step hb8
  replace hbw := hbw.trans (hb8.mono hbw.size)
  have hs8 := hb8.size
  replace hsu := hsu.weak (Y := fun b => w2.heap.size ≤ b) fun b _ hx => by have := hx.1; omega
  clear hb8 d1 d2
  have d1 : ∀ s : InC (fun W => Below w8.heap.size w8 W), s.W.cell? ⟨w.heap.size, 32, none⟩ = some (.int .i64 i) := fun s => (ka.step s.ok).num
  have hS : Below w8.heap.size w8 w8.drew := (Below.refl _ _).drew
  have l8 : ∀ s : InC (fun W => Below w8.heap.size w8 W), (Instr.loadAt 45 (.pointer (some ⟨w3.heap.size, 0, none⟩))).run Try.prog s.W = .ok (.agg (r.map B).toArray) s.W := fun s => (k8.step s.ok).load
  have l10 : ∀ s : InC (fun W => Below w8.heap.size w8 W), (Instr.loadAt 45 (.pointer (some ⟨w5.heap.size, 0, none⟩))).run Try.prog s.W = .ok (.agg (r.map B).toArray) s.W := fun s => (k10.step s.ok).load
  have lL : ∀ s : InC (fun W => Below w8.heap.size w8 W), (Instr.loadAt 45 (.pointer (some ⟨w.heap.size, 0, none⟩))).run Try.prog s.W = .ok (.agg (lf.map B).toArray) s.W := fun s => (ka.step s.ok).leaf
  have lP : ∀ s : InC (fun W => Below w8.heap.size w8 W), (Instr.loadAt 47 (.pointer (some ⟨w.heap.size, 33, none⟩))).run Try.prog s.W = .ok (.agg (.int .i64 n :: root.map B).toArray) s.W := fun s => (ka.step s.ok).point
  have L8 := Lib.hid l8
  have L10 := Lib.hid l10
  have LL := Lib.hid lL
  have LP := Lib.hid lP
  clear l8 l10 lL lP
  go_wp2_with fail
  refine wp_region_mix (fun W => Below w8.heap.size w8 W) [(0, true), (1, true), (2, true), (3, true), (4, true), (6, true), (5, false), (7, true), (8, true), (9, true), (10, true), (11, true), (12, true), (13, true), (14, true), (15, true), (16, true), (19, true), (20, true), (21, true), (22, true), (23, true), (24, true), (25, true), (17, false), (18, false), (26, false), (27, true), (28, true)] (by kernel_rfl) (by kernel_rfl) hS fun _ => ?_
  simp only [List.map_cons, List.map_nil, Array.getD_eq_getD_getElem?, List.getElem?_toArray, List.getElem?_cons_succ, List.getElem?_cons_zero, Option.getD_some]
  generalize w8.drew = u9 at hS ⊢
  refine wpMix_load (by kernel_rfl) 45 (.tmp 8) rfl (w3.heap.size) (0) rfl (r.map B).toArray (L8.out) ?_
  simp only [Act.put]
  refine wpMix_load (by kernel_rfl) 45 (.tmp 10) rfl (w5.heap.size) (0) rfl (r.map B).toArray (L10.out) ?_
  simp only [Act.put]
  refine wpMix_v (by kernel_rfl) (.bool false) (fun s => run_neq26_f (.tmp 62) (.tmp 63) _ r r rfl rfl rfl Hfl.out Hfl.out rfl s.W) ?_
  simp only [Act.put]
  refine wpMix_s (fun K hK => ?_)
  go_simp
  refine hK _ ?_
  clear hK K
  refine wpMix_s (fun K hK => ?_)
  go_simp
  refine hK _ ?_
  clear hK K
  refine wpMix_s (fun K hK => ?_)
  go_simp
  refine hK _ ?_
  clear hK K
  refine wpMix_c (fun K hK => ?_) hS
  go_simp
  refine (num11_any _ u9).mono ?_
  rintro e _ ⟨rfl, rfl⟩
  refine hK _ _ ?_
  clear hK K
  refine ⟨hS, ?_⟩
  refine wpMix_s (fun K hK => ?_)
  go_simp
  refine hK _ ?_
  clear hK K
  refine wpMix_s (fun K hK => ?_)
  go_simp
  refine hK _ ?_
  clear hK K
  refine wpMix_s (fun K hK => ?_)
  go_simp
  refine hK _ ?_
  clear hK K
  refine wpMix_s (fun K hK => ?_)
  go_simp
  refine hK _ ?_
  clear hK K
  refine wpMix_load (by kernel_rfl) 45 (.tmp 72) rfl (w.heap.size) (0) rfl (lf.map B).toArray (LL.out) ?_
  simp only [Act.put]
  refine wpMix_s (fun K hK => ?_)
  go_simp
  refine hK _ ?_
  clear hK K
  refine wpMix_s (fun K hK => ?_)
  go_simp
  refine hK _ ?_
  clear hK K
  refine wpMix_s (fun K hK => ?_)
  go_simp
  refine hK _ ?_
  clear hK K
  refine wpMix_load (by kernel_rfl) 47 (.tmp 76) rfl (w.heap.size) (33) rfl (.int .i64 n :: root.map B).toArray (LP.out) ?_
  simp only [Act.put]
  refine wpMix_s (fun K hK => ?_)
  go_simp
  refine hK _ ?_
  clear hK K
  refine wpMix_s (fun K hK => ?_)
  go_simp
  refine hK _ ?_
  clear hK K
  refine wpMix_load (by kernel_rfl) 45 (.tmp 81) rfl (w.heap.size) (0) rfl (lf.map B).toArray (LL.out) ?_
  simp only [Act.put]
  refine wpMix_s (fun K hK => ?_)
  go_simp
  refine hK _ ?_
  clear hK K
  refine wpMix_s (fun K hK => ?_)
  go_simp
  refine hK _ ?_
  clear hK K
  refine wpMix_s (fun K hK => ?_)
  go_simp
  refine hK _ ?_
  clear hK K
  refine wpMix_load (by kernel_rfl) 47 (.tmp 85) rfl (w.heap.size) (33) rfl (.int .i64 n :: root.map B).toArray (LP.out) ?_
  simp only [Act.put]
  refine wpMix_s (fun K hK => ?_)
  go_simp
  refine hK _ ?_
  clear hK K
  refine wpMix_c (fun K hK => ?_) hS
  go_simp
  refine (Hck.out _ _ u9 ((hmm.step hS).fewer Hlen.out)).mono ?_
  rintro e u9_1 ⟨rfl, hb'⟩
  refine hK _ _ ?_
  clear hK K
  replace hS := hS.trans (hb'.mono hS.size)
  refine ⟨hS, ?_⟩
  clear hb'
  refine wpMix_c (fun K hK => ?_) hS
  go_simp
  refine (num11_any _ u9_1).mono ?_
  rintro e _ ⟨rfl, rfl⟩
  refine hK _ _ ?_
  clear hK K
  refine ⟨hS, ?_⟩
  refine wpMix_c (fun K hK => ?_) hS
  go_simp
  refine (Hrc.out _ _ u9_1 ((hsrc.step hS).weak fun _ _ _ => trivial)).mono ?_
  rintro e u9_2 ⟨rfl, hb'⟩
  refine hK _ _ ?_
  clear hK K
  replace hS := hS.trans (hb'.mono hS.size)
  refine ⟨hS, ?_⟩
  clear hb'
  refine wpMix_s (fun K hK => ?_)
  go_simp
  refine hK _ ?_
  clear hK K
  refine wpMix_s (fun K hK => ?_)
  go_simp
  refine hK _ ?_
  clear hK K
  refine wpMix_nil ?_
  intro _
  replace hom := owns_step hom hS
  replace hmm := hmm.step hS
  replace hsrc := hsrc.step hS
  replace hst := hst.step hS
  replace kbox := kbox.step hS
  replace hsu := hsu.step hS
  replace hbw := hbw.trans (hS.mono hbw.size)
  generalize u9_2 = w10 at *
  have hs10 := hS.size
  clear hS d1 ka k8 k10
  go_wp2_with fail
  refine (left11_any ps gm A np cm c w10 hmm (hsrc.weak fun _ _ _ => trivial) (by omega)).mono ?_
  rintro e w11 ⟨rfl, hb11⟩
  replace hom := owns_step hom hb11
  replace hst := hst.step hb11
  replace kbox := kbox.step hb11
  replace hsu := hsu.step hb11
  replace hbw := hbw.trans (hb11.mono hbw.size)
  have hs11 := hb11.size
  clear hb11 hmm hsrc
  go_wp2_with fail
  refine (spoilt11_any w11 w1.heap.size np _ _ (owns_fewerH hom (by omega)) (by omega) (by omega)).mono ?_
  rintro e w12 ⟨rfl, hg12⟩
  have hgw := (hom.lt gm rfl).1
  replace hst := hst.grown hg12 (fun b _ hx e => by have hx : w2.heap.size ≤ b := hx; have e : b = gm := Option.some.inj e; omega)
  replace hsu := hsu.grown hg12 (fun b _ hx e => by have hx : w2.heap.size ≤ b := hx; have e : b = gm := Option.some.inj e; omega)
  replace kbox := kbox.grown hg12 (fun e => by have e : gu = gm := Option.some.inj e; omega)
  replace hbw := hbw.grown hg12 hbw.size (fun r e => by have e : gm = r := Option.some.inj e; omega)
  clear hg12 hom
  go_wp2_with fail
  refine (follows_any q gu Au cu As nq cs lv w12 kbox (hsu.weak fun _ _ _ => trivial) (hst.weak fun _ _ _ => trivial) (by omega)).mono ?_
  rintro e w13 ⟨rfl, hb13⟩
  replace hst := hst.step hb13
  replace kbox := kbox.step hb13
  replace hsu := hsu.step hb13
  replace hbw := hbw.trans (hb13.mono hbw.size)
  clear hb13
  go_wp2_with fail
  refine (follows_any q gu Au cu As nq cs 0 w13 kbox (hsu.weak fun _ _ _ => trivial) (hst.weak fun _ _ _ => trivial) (by omega)).mono ?_
  rintro e w14 ⟨rfl, hb14⟩
  replace hbw := hbw.trans (hb14.mono hbw.size)
  clear hb14
  go_wp2_with (go_at_call 9; refine (works11_any _).mono ?_; rintro e w15 ⟨rfl, hb15⟩)
  go_ret
  exact ⟨rfl, hbw.trans (hb15.mono hbw.size)⟩
end Go.Proofs.Ytmglkblomklcbaa
/- hash.Leaves, notaryref09.Leaves. -/
namespace Go.Proofs.Ytmglkblomklcbaa
open Go Go.RowKit

def leavesL (ls : List (List UInt8)) : List (List UInt8) := ls.map hLeaf
theorem leavesL_all (ls : List (List UInt8)) : H32 (leavesL ls) := fun h hh => by
  obtain ⟨l, _, rfl⟩ := List.mem_map.1 hh
  exact length_hLeaf l

set_option maxHeartbeats 1000000 in
set_option maxRecDepth 100000 in
theorem hleaves_any (ls : List (List UInt8)) (A : Option Addr) (n c : Nat) (w : World) (vs : List Value) (h : SlS w A n c vs ls) (hm : n + ls.flatten.length ≤ 1073741824) :
    Calls Try.prog 28 #[.slice A n c] w fun e w' => ∃ v, e = .returned v ∧ w'.ownsRow w.heap.size 45 32 v n (hcells (leavesL ls)) ∧ Below w.heap.size w w' := by
  have Hh := Lib.hid h
  have hroom := h.out.room
  have hmax := h.out.max
  unfold maxLen at hmax
  clear h
  go_enter Try.func28, Try.ntmps28
  go_wp2_with fail
  go_loopw [3, 8] (fun v i wr => ∃ k : Nat, k ≤ n ∧ i = .int .i64 k ∧ wr.ownsRow w.heap.size 45 32 v k (hcells (leavesL (ls.take k))) ∧ Below w.heap.size w wr) (fun _ i _ => n - (intOf i).toNat)
  case atStart => exact ⟨0, by omega, rfl, World.ownsRow_nil _ _ _ _, Below.refl _ _⟩
  case round =>
    obtain ⟨k, hk, rfl, ho, hB⟩ := hrel
    by_cases hlt : k < n
    · have hkl : k < ls.length := by rw [Hh.out.len]; exact hlt
      obtain ⟨Ai, ci, hv, hs⟩ := Hh.out.ins k hkl
      obtain ⟨b0, o0, hA, hb0, _, hcell⟩ := Hh.out.out.at_ (by omega) (by decide)
      subst hA
      have hce : wr.cell? ⟨b0, o0 + k, none⟩ = some (.slice Ai (ls[k]).length ci) := by
        rw [hB.cell (p := ⟨b0, o0 + k, none⟩) hb0]; exact hcell k _ hv
      have hs2 := (hs.below hB (fun _ _ h => h)).all
      have hfl3 := flatten_take_le ls (k + 1)
      rw [flatten_take_succ ls k hkl, List.length_append] at hfl3
      have hleaf := hleaf_any (ls[k]) Ai (ls[k]).length ci wr hs2 (by omega)
      obtain ⟨x, hx⟩ : ∃ x, hLeaf (ls[k]) = x := ⟨_, rfl⟩
      have hxl : x.length = 32 := by rw [← hx]; exact length_hLeaf _
      rw [hx] at hleaf
      have hsn : hcells (leavesL (ls.take (k + 1))) = hcells (leavesL (ls.take k)) ++ hcells [x] := by
        rw [List.take_succ_eq_append_getElem hkl, leavesL, List.map_append, hcells_append, ← hx]; rfl
      have Hx := Lib.hid hx
      have Hxl := Lib.hid hxl
      have Hsn := Lib.hid hsn
      clear hx hxl hsn hv hs hs2
      generalize (ls[k]).length = m at *
      go_wp2_with fail
      refine hleaf.mono ?_
      rintro e w2 ⟨rfl, hb2⟩
      have h32 : H32 [x] := by intro h hh; rw [List.mem_singleton.1 hh]; exact Hxl.out
      have hbA : Below w2.heap.size w2 (w2.alloc (.cells (hcells [x]).toArray 45)) := (Below.refl _ _).alloc (Nat.le_refl _) _
      have hB2 := (hB.trans (hb2.mono hB.size)).trans (hbA.mono (Nat.le_trans hB.size hb2.size))
      have ho2 := owns_step (owns_step ho hb2) hbA
      obtain ⟨v3, w3, hr3, ho3, hg3, -⟩ := append_slv (ty := 22) Try.underlying22 info26z (by simp [Value.cells]) (by decide) ho2 (Hs.lit w2 [x] h32 (by simp) 1 rfl).sl (oneB _) (by unfold maxLen; omega) (by omega) hB2.size
      rw [← Hsn.out] at ho3
      have hB3 := hB2.grown hg3 hB2.size (fun k hk => (ho2.lt k hk).1)
      have Hr3 := Lib.hid hr3
      clear hr3 hg3
      go_wp2_with (first
        | ((with_reducible show wpList _ _ _ (⟨some 15, .buildSlice _ _ _, _, _, _, _⟩ :: _) _ _); refine wpList_run rfl _ _ (run_lit_op [x] h32 (by simp) (by simp) 1 _ rfl (by simp [Act.eval]) rfl _) ?_; simp only [Act.put])
        | ((with_reducible show wpList _ _ _ (⟨some 16, .call _, _, _, _, _⟩ :: _) _ _); refine wpList_run rfl v3 w3 (run_append_op (.tmp 12) (.tmp 15) 22 rfl _ _ rfl rfl Hr3.out) ?_; simp only [Act.put]))
      go_roundw
      case rel => exact ⟨k + 1, by omega, by go_num, ho3, hB3⟩
      case measure => simp [intOf]; omega
    · have hkn : k = n := by omega
      subst hkn
      rw [List.take_of_length_le (by rw [Hh.out.len]; exact Nat.le_refl _)] at ho
      go_wp2_with fail
      go_ret
      exact ⟨_, rfl, ho, hB⟩
end Go.Proofs.Ytmglkblomklcbaa
