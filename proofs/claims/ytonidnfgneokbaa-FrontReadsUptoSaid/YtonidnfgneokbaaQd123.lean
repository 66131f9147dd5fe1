/- (*Front).Leaf, Append, Grow. -/
import Derived.Test.YtonidnfgneokbaaQd120
import Derived.Test.YtonidnfgneokbaaQd121
import Derived.Test.YtonidnfgneokbaaQd110
import Derived.Test.YtonidnfgneokbaaQd122
namespace Go.Proofs.Ytonidnfgneokbaa
open Go Go.RowKit Go.Shelf
attribute [local go_sem] Oper.semAt_some

abbrev fptr (g : Nat) : Value := .pointer (some ⟨g, 0, none⟩)
/-- hashes lie nowhere where one cell is -/
theorem Hs.apart {w : World} {X : Nat → Prop} {A : Option Addr} {n c : Nat} {hs : List (List UInt8)} (h : Hs w X A n c hs) {g : Nat} {T : TypeId} {cs : Array Value} (k : Blk w g T cs) (hk : cs.size < 32) : Hs w (fun b => X b ∧ b ≠ g) A n c hs := by
  refine ⟨⟨fun hne => ?_, h.sl.len, h.sl.room, h.sl.nil, h.sl.max⟩, h.len, h.all⟩
  obtain ⟨b, o, h1, h2, h3, h4⟩ := h.sl.bs hne
  refine ⟨b, o, h1, h2, ⟨h3, fun e => ?_⟩, h4⟩
  subst e
  have hlen := hcells_len hs h.all
  have hq : 0 < hs.length := by
    rcases Nat.eq_zero_or_pos hs.length with e | e
    · rw [List.length_eq_zero_iff.1 e] at hne; exact absurd rfl hne
    · exact e
  have h5 := h4 31 _ (List.getElem?_eq_getElem (by rw [hlen]; omega))
  rw [k.cell, Array.getElem?_eq_none (by omega)] at h5
  cases h5
theorem FrO.small {w : World} {g : Nat} {ps : FrV} (h : FrO w g ps) : ∃ (T : TypeId) (cs : Array Value), Blk w g T cs ∧ cs.size = 1 := by
  obtain ⟨A, n, c, hk, -⟩ := h.ex
  exact ⟨_, _, hk, rfl⟩
theorem fsize_some {g : Nat} {ps : FrV} {w : World} (h : FrO w g ps) (ho : FrOk ps) : Calls Try.prog 43 #[fptr g] w fun e w' => e = .returned (.int .i64 (szF ps : Int)) ∧ Below w.heap.size w w' :=
  fsize_any (fptr g) ps w rfl (allOk_some h ho.h62 (by have := ho.len; omega)) ho.dec ho.top
theorem grown_refl (w : World) (row : Option Nat) : w.grownBy w row := ⟨rfl, rfl, rfl, Nat.le_refl _, fun _ _ _ => rfl⟩
theorem grown_same {w W W' : World} {g : Nat} (h1 : w.grownBy W (some g)) (h2 : W.grownBy W' (some g)) : w.grownBy W' (some g) :=
  ⟨h2.os.trans h1.os, h2.tape.trans h1.tape, h2.output.trans h1.output, Nat.le_trans h1.size h2.size, fun k hk hne => (h2.block k (Nat.lt_of_lt_of_le hk h1.size) hne).trans (h1.block k hk hne)⟩

theorem explode32 (l : List UInt8) (h : l.length = 32) : ∃ a0 a1 a2 a3 a4 a5 a6 a7 a8 a9 a10 a11 a12 a13 a14 a15 a16 a17 a18 a19 a20 a21 a22 a23 a24 a25 a26 a27 a28 a29 a30 a31 : UInt8, l = [a0, a1, a2, a3, a4, a5, a6, a7, a8, a9, a10, a11, a12, a13, a14, a15, a16, a17, a18, a19, a20, a21, a22, a23, a24, a25, a26, a27, a28, a29, a30, a31] := by
  match l, h with
  | [a0, a1, a2, a3, a4, a5, a6, a7, a8, a9, a10, a11, a12, a13, a14, a15, a16, a17, a18, a19, a20, a21, a22, a23, a24, a25, a26, a27, a28, a29, a30, a31], _ => exact ⟨_, _, _, _, _, _, _, _, _, _, _, _, _, _, _, _, _, _, _, _, _, _, _, _, _, _, _, _, _, _, _, _, rfl⟩
theorem builtFp (n : Int) (l : List UInt8) (h : l.length = 32) : Try.prog.built 156 [(0, .int .i64 n), (1, .agg (l.map B).toArray)] = some (.int .i64 n :: l.map B).toArray := by
  obtain ⟨a0, a1, a2, a3, a4, a5, a6, a7, a8, a9, a10, a11, a12, a13, a14, a15, a16, a17, a18, a19, a20, a21, a22, a23, a24, a25, a26, a27, a28, a29, a30, a31, rfl⟩ := explode32 l h
  kernel_rfl
theorem run_build_fp (lv : Int) (x : List UInt8) (hx : x.length = 32) (W : World) : (Instr.build 156 #[(0, .int .i64 lv), (1, .agg (x.map B).toArray)]).run Try.prog W = .ok (.agg (Value.int .i64 lv :: x.map B).toArray) W := by
  exact run_build W 156 _ _ (builtFp lv x hx)
theorem run_build_fp_op (lv : Int) (x : List UInt8) (hx : x.length = 32) {ρ : Operand → Value} {o : Oper} (y z : Operand) (ho : o.op = .build 156 #[(0, y), (1, z)]) (hy : ρ y = .int .i64 lv) (hz : ρ z = .agg (x.map B).toArray) (W : World) : (execOp ρ o).run Try.prog W = .ok (.value (.agg (Value.int .i64 lv :: x.map B).toArray)) W := by
  unfold execOp
  have hm : (#[(0, y), (1, z)] : Array (Nat × Operand)).map (fun (i, x) => (i, ρ x)) = #[(0, .int .i64 lv), (1, .agg (x.map B).toArray)] := by simp [hy, hz]
  simp only [ho, Sem.run_bind, Sem.run_pure, hm, run_build_fp lv x hx W, Result.andThen_ok]
set_option maxHeartbeats 4000000 in
set_option maxRecDepth 100000 in
theorem fleaf_nil (A : Option Addr) (n c : Nat) (w : World) : Calls Try.prog 49 #[.pointer none, .slice A n c] w fun e w' => e = .returned (.int .i64 1) ∧ w' = w := by
  go_enter Try.func49, Try.ntmps49
  go_wp2_with fail
  go_ret
  exact ⟨rfl, rfl⟩
set_option maxHeartbeats 4000000 in
set_option maxRecDepth 100000 in
theorem fleaf_any (g : Nat) (ps : FrV) (hs : List (List UInt8)) (A : Option Addr) (n c : Nat) (w : World) (h : FrO w g ps) (ho : FrOk ps) (hh : Hs w (fun _ => True) A n c hs) (hn : n ≤ 1099511627776) :
    Calls Try.prog 49 #[fptr g, .slice A n c] w fun e w' => e = .returned (.int .i64 (leafE ps hs).2) ∧ FrO w' g (leafE ps hs).1 ∧ w.grownBy w' (some g) := by
  have hlen := hh.len
  have hroom := hh.sl.room
  have hmx := hh.sl.max
  unfold maxLen at hmx
  have h32 := hh.all
  have hsz := fsize_some h ho
  have htop := ho.top
  obtain ⟨sz, hsze⟩ : ∃ s, szF ps = s := ⟨_, rfl⟩
  rw [hsze] at hsz htop
  have Hsz := Lib.hid hsz
  have hw1 : IntKind.i64.wrap (9223372036854775807 - (sz : Int)) = 9223372036854775807 - (sz : Int) := IntWalk.i64_in _ (by omega)
  unfold leafE
  rw [hsze, hlen]
  have Hlen := Lib.hid hlen
  have H32 := Lib.hid h32
  have Hsze := Lib.hid hsze
  have Ho := Lib.hid ho
  clear hsz hlen h32 hsze ho
  by_cases hb : 9223372036854775807 < sz + n
  · rw [if_pos hb]
    have hd : decide (9223372036854775807 - (sz : Int) < (n : Int)) = true := by simp; omega
    have hd' : 9223372036854775807 - (sz : Int) < (n : Int) := by omega
    go_enter Try.func49, Try.ntmps49
    go_wp2_with (go_at_call 43; refine Hsz.out.mono ?_; rintro e w1 ⟨rfl, hb1⟩)
    go_ret
    exact ⟨rfl, h.step hb1, grown_of_below hb1 _⟩
  · rw [if_neg hb]
    have hd : decide (9223372036854775807 - (sz : Int) < (n : Int)) = false := by simp; omega
    have hd' : ¬ 9223372036854775807 - (sz : Int) < (n : Int) := by omega
    obtain ⟨res, hres⟩ : ∃ r, leafF ps hs = r := ⟨_, rfl⟩
    rw [hres]
    have Hres := Lib.hid hres
    clear hres
    go_enter Try.func49, Try.ntmps49
    go_wp2_with (go_at_call 43; refine Hsz.out.mono ?_; rintro e w1 ⟨rfl, hb1⟩)
    obtain ⟨T, cs, hk1, hcs⟩ := (h.step hb1).small
    have hh1 := ((hh.step hb1).apart hk1 (by omega)).weak (Y := fun b => b ≠ g ∧ b < w1.heap.size) fun b hb hx => ⟨hx.2, hb⟩
    have h1 := h.step hb1
    have hg1 := grown_of_below hb1 (some g)
    clear h hh hk1 hcs T cs hb1 hd hd' hw1
    go_loopw [6, 19] (fun _ i wr => ∃ k : Nat, k ≤ n ∧ i = .int .i64 k ∧ FrO wr g (leafF ps (hs.take k)) ∧ w.grownBy wr (some g) ∧ Hs wr (fun b => b ≠ g ∧ b < w1.heap.size) A n c hs) (fun _ i _ => n - (intOf i).toNat)
    case atStart => exact ⟨0, Nat.zero_le _, rfl, h1, hg1, hh1⟩
    case round =>
      clear h1 hg1 hh1
      obtain ⟨k, hk, rfl, hF, hg, hH⟩ := hrel
      by_cases hlt : k < n
      · have hd : decide ((k : Int) < (n : Int)) = true := by simp; omega
        have hwk : IntKind.i64.wrap ((k : Int) + 1) = (k : Int) + 1 := IntWalk.i64_in _ (by omega)
        obtain ⟨b, o, rfl, -, -, -⟩ := hH.at_ (by omega)
        have hget := hH.get rfl k hlt
        have hx32 := H32.out.getD k (by rw [Hlen.out]; exact hlt)
        have hsn := leafF_snoc ps (hs.take k) (hs.getD k [])
        rw [← take_snocF hs k (by rw [Hlen.out]; exact hlt)] at hsn
        have hok := Ho.out.leafF (hs.take k) (fun x hx => H32.out x (List.mem_of_mem_take hx)) (by rw [Hsze.out, List.length_take, Hlen.out]; omega)
        obtain ⟨x, hx⟩ : ∃ x, hs.getD k [] = x := ⟨_, rfl⟩
        obtain ⟨cur, hcur⟩ : ∃ x, leafF ps (hs.take k) = x := ⟨_, rfl⟩
        rw [hx] at hget hx32 hsn
        rw [hcur] at hsn hok hF
        have hcm := fun W (hF : FrO W g cur) => fcome_any g cur (0, x) W hF hx32 (Nat.zero_le _) (by have := hok.len; omega)
        have Hget := Lib.hid hget
        have Hx32 := Lib.hid hx32
        have Hsn := Lib.hid hsn
        have Hcm := Lib.hid hcm
        clear hget hx32 hsn hcm hx hcur hok
        go_wp2_with (first
          | ((with_reducible show wpList _ _ _ (⟨some 22, .load _ _, _, _, _, _⟩ :: _) _ _); refine wpList_run0 rfl (.agg (x.map B).toArray) (run_load_op 25 (.tmp 21) rfl b (o + k * 32) rfl _ Hget.out) ?_; simp only [Act.put])
          | ((with_reducible show wpList _ _ _ (⟨some 6, .alloc _, _, _, _, _⟩ :: _) _ _); refine wpList_hvar (.tmp 6) (.tmp 22) rfl rfl rfl rfl rfl rfl Hx32.out ?_; intro w2 k6 hb2; simp only [Act.put])
          | ((with_reducible show wpList _ _ _ (⟨some 24, .load _ _, _, _, _, _⟩ :: _) _ _); refine wpList_hload (.tmp 6) (by kernel_rfl) rfl k6 rfl ?_; simp only [Act.put])
          | ((with_reducible show wpList _ _ _ (⟨some 25, .build _ _, _, _, _, _⟩ :: _) _ _); refine wpList_run0 rfl (.agg (Value.int .i64 ((0 : Nat) : Int) :: x.map B).toArray) (run_build_fp_op 0 x Hx32.out (.const (.int .i64 0)) (.tmp 24) rfl rfl rfl _) ?_; simp only [Act.put])
          | (go_at_call 117; refine (Hcm.out w2 (hF.step hb2)).mono ?_; rintro e w3 ⟨rfl, hF3, hg3⟩))
        go_roundw
        case rel => exact ⟨k + 1, by omega, by go_num, by rw [Hsn.out]; exact hF3, grown_same (grown_same hg (grown_of_below hb2 (some g))) hg3, (hH.step hb2).grown hg3 (fun b _ hx e => hx.1 (Option.some.inj e))⟩
        case measure => simp [intOf]; omega
      · obtain rfl : k = n := by omega
        have hd : decide ((k : Int) < (k : Int)) = false := by simp
        rw [List.take_of_length_le (by rw [Hlen.out]; exact Nat.le_refl _), Hres.out] at hF
        go_wp2_with fail
        go_ret
        exact ⟨rfl, hF, hg⟩
end Go.Proofs.Ytonidnfgneokbaa
