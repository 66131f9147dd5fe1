/- notarylaw24.ModelFrom. -/
import Derived.Test.YtobcfgbkhgkelaaQe236
import Derived.Test.YtobcfgbkhgkelaaQe239
namespace Go.Proofs.Ytobcfgbkhgkelaa
open Go Go.RowKit Go.Shelf
attribute [local go_sem] Oper.semAt_some

/-- the four bytes of the mark -/
abbrev mark24 : List UInt8 := [109, 97, 114, 107]
theorem Fnd.setE {fc : Array Value} {E : Option Addr} {n c : Nat} {fh : Bool} {fs : Int} {fr : List UInt8} (h : Fnd fc E n c fh fs fr) (E' : Option Addr) (n' c' : Nat) : Fnd (fc.setIfInBounds 0 (.slice E' n' c')) E' n' c' fh fs fr := by
  refine ⟨by simp [h.size], ?_, ?_, fun j v hv => ?_, h.len⟩
  · rw [Array.getElem?_setIfInBounds, if_pos rfl, if_pos (by rw [h.size]; decide)]
  · rw [Array.getElem?_setIfInBounds, if_neg (by decide)]; exact h.c4
  · rw [Array.getElem?_setIfInBounds, if_neg (by omega)]; exact h.pt j v hv
theorem fd_load {W : World} {g : Nat} {fc : Array Value} (h : Blk W g 30 fc) (hs : fc.size = 38) : (Instr.loadAt 30 (.pointer (some ⟨g, 0, none⟩))).run Try.prog W = .ok (.agg fc) W :=
  run_load_agg (fdAgg _) (fdSize _) g 0 fc.toList (by simpa using hs) fun j u hu => by
    rw [h.cell, Nat.zero_add, ← Array.getElem?_toList]; exact hu
/-- a row with one more behind, cut: it and what lies behind -/
theorem EsO.cut {W : World} {lo : Nat} {v : Value} {ls : List (List UInt8)} {l : List UInt8} {X : Nat → Prop} (h : EsO W lo v (ls ++ [l]) X) : ∃ b c Al cl, v = .slice (some ⟨b, 0, none⟩) (ls.length + 1) c ∧ lo ≤ b ∧ b < W.heap.size ∧ ls.length + 1 ≤ c ∧ c ≤ maxLen ∧ Es W (fun _ => True) (some ⟨b, 0, none⟩) ls.length c ls ∧
    W.cell? ⟨b, ls.length, none⟩ = some (.slice Al l.length cl) ∧ Sl W (fun _ => True) Al l.length cl l := by
  obtain ⟨vs, h1, h2⟩ := h.ex
  have hl : (ls ++ [l]).length = ls.length + 1 := by simp
  obtain ⟨A, c, rfl, hes⟩ := h.es
  rw [hl] at hes h1
  rcases h1.2 with ⟨e, h0⟩ | ⟨b, cap, cur, e, hb, hg, hn, hcap, _, _⟩
  · omega
  · injection e with e1 e2 e3
    subst e1 e3
    obtain ⟨b', o', hA, hbl, -, hat⟩ := hes.at_ (by omega)
    injection hA with hA
    injection hA with hb' ho'
    subst hb' ho'
    obtain ⟨Al, cl, ce, hsl⟩ := hat ls.length (by omega)
    have hg : (ls ++ [l]).getD ls.length [] = l := by simp [List.getD_eq_getElem?_getD]
    rw [hg] at ce hsl
    rw [Nat.zero_add] at ce
    have htk := hes.take ls.length (by omega)
    rw [List.take_append_of_le_length (Nat.le_refl _), List.take_length] at htk
    exact ⟨b, c, Al, cl, by rw [hl], hb, hbl, hl ▸ hn, hcap, htk, ce, hsl⟩
theorem kb_freeze (W : World) (g i m : Nat) : KB (fun b => b = g) W (W.freeze ⟨g, i, none⟩ m) := by
  refine ⟨?_, ?_, ?_, by rw [freeze_size]; exact Nat.le_refl _, fun k _ hk => ?_⟩
  · unfold World.freeze; split <;> rfl
  · unfold World.freeze; split <;> rfl
  · unfold World.freeze; split <;> rfl
  · unfold World.freeze
    split
    · rfl
    · have hk' : g ≠ k := fun e => hk e.symm
      simp [Array.getElem?_modify, hk']
set_option maxHeartbeats 16000000 in
set_option maxRecDepth 100000 in
theorem modelFrom_any (W : World) (seg q : Int) (fc : Array Value) (E : Option Addr) (n c : Nat) (vs : List Value) (fe : List (List UInt8)) (fh : Bool) (fs : Int) (fr : List UInt8) (hf : Fnd fc E n c fh fs fr) (hS0 : SlS W E n c vs fe) (hone : ∀ v ∈ fc.toList, v.oneCell' = true) :
    Calls Try.prog 5 #[.agg #[.int .i64 seg, .int .i64 q], .agg fc] W fun e w' => e = .returned (.bool true) ∧ Below W.heap.size W w' := by
  obtain ⟨w1, hw1⟩ : ∃ x, W.alloc (.cells #[.int .i64 seg, .int .i64 q] 37) = x := ⟨_, rfl⟩
  have B1 : Below W.heap.size W w1 := by rw [← hw1]; exact (Below.refl _ _).alloc (Nat.le_refl _) _
  have k1 : Blk w1 W.heap.size 37 #[.int .i64 seg, .int .i64 q] := by rw [← hw1]; exact Blk.new _ _ _
  obtain ⟨w2, hw2⟩ : ∃ x, w1.alloc (.cells fc 30) = x := ⟨_, rfl⟩
  have b2 : Below w1.heap.size w1 w2 := by rw [← hw2]; exact (Below.refl _ _).alloc (Nat.le_refl _) _
  have B2 := B1.trans (b2.mono B1.size)
  have k2 : Blk w2 w1.heap.size 30 fc := by rw [← hw2]; exact Blk.new _ _ _
  have k12 := k1.step b2
  have he := hS0.es
  have he2 := he.step B2
  have hlen := he.len
  have hroom := he.room
  have hmx := he.max
  unfold maxLen at hmx
  have hfs := hf.size
  have Hone := Lib.hid hone
  clear hone
  have c0 : w2.cell? ⟨w1.heap.size, 0, none⟩ = some (.slice E n c) := by rw [k2.cell]; exact hf.c0
  have hz1 := k1.lt
  have hz2 := k2.lt
  have Hw1 := Lib.hid hw1
  have Hw2 := Lib.hid hw2
  have HB2 := Lib.hid B2
  have Hld := Lib.hid (fd_load k2 hfs)
  have Hf := Lib.hid hf
  have K2 := Lib.hid k2
  have K1 := Lib.hid k12
  have He2 := Lib.hid he2
  have Hlen := Lib.hid hlen
  clear hw1 hw2 k1 b2 B1 k12 k2 he he2 hS0 hf B2 hlen
  by_cases hbig : 60 < n
  · have hd : decide ((60 : Int) < (n : Int)) = true := by simp; omega
    go_enter Try.func5, Try.ntmps5
    go_wp2_with (first
      | ((with_reducible show wpList _ _ _ (⟨some 2, .box _ _, _, _, _, _⟩ :: _) _ _); refine wpList_run rfl (.pointer (some ⟨W.heap.size, 0, none⟩)) w1 (by rw [← Hw1.out]; rfl) ?_; simp only [Act.put, List.setIfInBounds_toArray, List.set_cons_succ, List.set_cons_zero])
      | ((with_reducible show wpList _ _ _ (⟨some 3, .box _ _, _, _, _, _⟩ :: _) _ _); refine wpList_run rfl (.pointer (some ⟨w1.heap.size, 0, none⟩)) w2 (by rw [← Hw2.out]; rfl) ?_; simp only [Act.put, List.setIfInBounds_toArray, List.set_cons_succ, List.set_cons_zero])
      | (go_at_call 8; refine (known24_any _).mono ?_; rintro e w3 ⟨rfl, hb3⟩))
    go_ret
    exact ⟨rfl, HB2.out.trans (hb3.mono HB2.out.size)⟩
  have hd : decide ((60 : Int) < (n : Int)) = false := by simp; omega
  go_enter Try.func5, Try.ntmps5
  go_upto_region 4 with (first
    | ((with_reducible show wpList _ _ _ (⟨some 2, .box _ _, _, _, _, _⟩ :: _) _ _); refine wpList_run rfl (.pointer (some ⟨W.heap.size, 0, none⟩)) w1 (by rw [← Hw1.out]; rfl) ?_; simp only [Act.put, List.setIfInBounds_toArray, List.set_cons_succ, List.set_cons_zero])
    | ((with_reducible show wpList _ _ _ (⟨some 3, .box _ _, _, _, _, _⟩ :: _) _ _); refine wpList_run rfl (.pointer (some ⟨w1.heap.size, 0, none⟩)) w2 (by rw [← Hw2.out]; rfl) ?_; simp only [Act.put, List.setIfInBounds_toArray, List.set_cons_succ, List.set_cons_zero])
    | ((with_reducible show wpList _ _ _ (⟨some 16, .load _ _, _, _, _, _⟩ :: _) _ _); refine wpList_runG (by kernel_rfl) (.agg fc) _ (loadN_op 30 (.tmp 3) w1.heap.size rfl rfl Hld.out) ?_; simp only [Act.put, List.setIfInBounds_toArray, List.set_cons_succ, List.set_cons_zero])
    | ((with_reducible show wpList _ _ _ (⟨some 5, .alloc _, _, _, _, _⟩ :: _) _ _); refine wpList_varA (T := 30) (zs := fcP none 0 0 false 0 zh) (cs := fc) 38 (.tmp 5) (.tmp 16) rfl rfl (by kernel_rfl) fdSize rfl rfl rfl hfs (fcP_size _ _ _ _ _ _ rfl) (Hone.out) ?_; intro w3 k5 b3; simp only [Act.put, List.setIfInBounds_toArray, List.set_cons_succ, List.set_cons_zero]))
  have k13 := K1.out.step b3
  have k23 := K2.out.step b3
  have he3 := He2.out.step b3
  have hsz3 := b3.size
  have B3 := HB2.out.trans (b3.mono HB2.out.size)
  obtain ⟨g5, hg5⟩ : ∃ x, w2.heap.size = x := ⟨_, rfl⟩
  rw [hg5] at k5 ⊢
  have hz5 := k5.lt
  have HB3 := Lib.hid B3
  have K13 := Lib.hid k13
  have K23 := Lib.hid k23
  have He3 := Lib.hid he3
  have K5 := Lib.hid k5
  have qf : ∀ s : InC (fun V => Below g5 w3 V), s.W.cell? ⟨w1.heap.size, 0, none⟩ = some (.slice E n c) := fun s => by rw [(k23.below s.ok (by omega)).cell]; exact Hf.out.c0
  have hA1 := fun V (hb : Below w3.heap.size w3 V) => app0 (· < W.heap.size) w3.heap.size (fun b hx => by have hx : b < W.heap.size := hx; have := HB2.out.size; omega) E n c fe V ((he3.i).step hb) hb.size (by omega)
  have HA1 := Lib.hid hA1
  clear b3 k13 k23 he3 k5 B3 Hld c0 hA1
  refine wp_share_us (fun us a' V => ∃ (b cv : Nat) (Al : Option Addr) (cl : Nat) (fc' : Array Value), a' = { tmps := #[us 0, us 1, .pointer (some ⟨W.heap.size, 0, none⟩), .pointer (some ⟨w1.heap.size, 0, none⟩), us 4, .pointer (some ⟨g5, 0, none⟩), us 6, us 7, us 8, us 9, us 10, us 11, us 12, us 13, us 14, us 15, us 16, us 17, us 18, us 19, us 20, us 21, us 22, us 23, us 24, us 25, us 26, us 27, us 28, us 29, us 30, us 31, us 32, us 33, us 34, us 35, us 36, us 37, us 38, us 39, us 40, us 41, us 42, us 43, us 44, us 45, us 46, us 47, us 48, us 49, us 50, us 51, us 52, us 53, us 54, us 55, us 56, us 57, us 58, us 59, us 60, us 61, us 62, us 63, us 64, us 65, us 66, us 67, us 68, us 69, us 70, us 71, us 72, us 73, us 74, us 75, us 76, us 77, us 78, us 79, us 80, us 81, us 82, us 83, us 84, us 85, us 86, us 87, us 88, us 89, us 90, us 91, us 92, us 93, us 94], defers := [] } ∧ Below w2.heap.size w3 V ∧ Blk V g5 30 fc' ∧ Fnd fc' (some ⟨b, 0, none⟩) n cv fh fs fr ∧ n + 1 ≤ cv ∧ cv ≤ maxLen ∧ Es V (fun _ => True) (some ⟨b, 0, none⟩) n cv fe ∧ V.cell? ⟨b, n, none⟩ = some (.slice Al 4 cl) ∧ Sl V (fun _ => True) Al 4 cl mark24 ∧ b < V.heap.size) ?_ ?_
  · have hz53 : g5 ≤ w3.heap.size := by omega
    have hW5 : W.heap.size ≤ g5 := by omega
    have hS3 : Below w3.heap.size w3 w3.drew := (Below.refl _ _).drew
    have hwn : IntKind.i64.wrap ((n : Int) + 1) = (n : Int) + 1 := IntWalk.i64_in _ (by omega)
    have hS : Below (g5) w3 w3.drew := (Below.refl _ _).drew
    refine wp_region_begin (fun W => Below (g5) w3 W) (by kernel_rfl) hS fun _ => ?_
    generalize w3.drew = V4 at hS hS3 ⊢
    refine wpAnyH_pre (f := 8) (by kernel_rfl) #[true, true, false, false, false, false, false, true, true, true, false, false, false] [(0, true), (1, true), (7, true), (8, true), (9, true)] _ _ _ (by kernel_rfl) hS ?_
    simp only [List.map_cons, List.map_nil, Array.getD_eq_getD_getElem?, List.getElem?_toArray, List.getElem?_cons_succ, List.getElem?_cons_zero, Option.getD_some]
    refine wpMix_s (fun K hK => ?_)
    go_simp
    refine hK _ ?_
    clear hK K
    refine wpMix_s (fun K hK => ?_)
    go_simp
    refine hK _ ?_
    clear hK K
    refine wpMix_s (fun K hK => ?_)
    go_simp
    refine hK _ ?_
    clear hK K
    refine wpMix_s (fun K hK => ?_)
    go_simp
    refine hK _ ?_
    clear hK K
    refine wpMix_s (fun K hK => ?_)
    go_simp
    refine hK _ ?_
    clear hK K
    refine wpMix_nil ?_
    intro _
    refine wpAnyH_fork (f := 7) (i := 2) (j := 3) (by kernel_rfl) hS ?_ ?_
    · simp only [Array.getD_eq_getD_getElem?, List.getElem?_toArray, List.getElem?_cons_succ, List.getElem?_cons_zero, Option.getD_some]
      obtain ⟨va, V4a, hra, hoA, -, hbA, hvA⟩ := HA1.out V4 hS3
      refine wpMix_run (by kernel_rfl) va V4a (run_append_op (.const (.slice none 0 0)) (.tmp 18) 23 rfl (.slice none 0 0) (.slice E n c) rfl rfl hra) ((hS3.trans (hbA.mono hS3.size)).mono hz53) ?_
      simp only [Act.put, List.setIfInBounds_toArray, List.set_cons_succ, List.set_cons_zero]
      try have hng : va.ownBlock ≠ some gl := fun e => by have := hvA gl e; omega
      try replace kl := kl.step hbA
      try replace sl := sl.step hbA
      try replace kr := kr.step hbA
      try replace zl := Nat.lt_of_lt_of_le zl hbA.size
      replace hS3 := hS3.trans (hbA.mono hS3.size)
      replace hS := hS3.mono hz53
      clear hbA hvA hra
      refine wpMix_nil ?_
      intro _
      show wpAnyH _ _ _ _ _ _ #[true, true, true, false, false, false, false, true, true, true, false, false, false] _ _
      refine wpAnyH_pre (f := 0) (by kernel_rfl) #[true, true, true, true, true, true, true, true, true, true, true, true, true] [(3, false), (4, false), (5, false), (6, false), (10, true), (11, true), (12, false)] _ _ _ (by kernel_rfl) hS ?_
      simp only [List.map_cons, List.map_nil, Array.getD_eq_getD_getElem?, List.getElem?_toArray, List.getElem?_cons_succ, List.getElem?_cons_zero, Option.getD_some]
      refine wpMix_run (by kernel_rfl) (.slice (some ⟨V4a.heap.size, 0, none⟩) 4 4) (V4a.alloc (.cells #[B 109, B 97, B 114, B 107] 5)) (by kernel_rfl) ((hS3.alloc hS3.size _).mono hz53) ?_
      simp only [Act.put, List.setIfInBounds_toArray, List.set_cons_succ, List.set_cons_zero]
      have hbl : Below V4a.heap.size V4a (V4a.alloc (.cells #[B 109, B 97, B 114, B 107] 5)) := (Below.refl _ _).alloc (Nat.le_refl _) _
      have kl : Blk (V4a.alloc (.cells #[B 109, B 97, B 114, B 107] 5)) V4a.heap.size 5 #[B 109, B 97, B 114, B 107] := Blk.new _ _ _
      have hgl := hS3.size
      try have hng : va.ownBlock ≠ some V4a.heap.size := fun e => by have := (hoA.lt _ e).2; omega
      replace hS3 := hS3.trans (hbl.mono hS3.size)
      try replace hoA := hoA.step hbl
      clear hbl hS
      obtain ⟨gl, hgle⟩ : ∃ x, V4a.heap.size = x := ⟨_, rfl⟩
      rw [hgle] at kl hgl ⊢
      try rw [hgle] at hng
      obtain ⟨V4ab, hWb⟩ : ∃ x, V4a.alloc (.cells #[B 109, B 97, B 114, B 107] 5) = x := ⟨_, rfl⟩
      rw [hWb] at hS3 kl ⊢
      try rw [hWb] at hoA
      have zl := kl.lt
      have hS := hS3.mono hz53
      clear hWb hgle
      have hcv : (convert 22 22 (.slice (some ⟨gl, 0, none⟩) 4 4)).run Try.prog V4ab = .ok (.slice (some ⟨gl, 0, none⟩) 4 4) (V4ab.freeze ⟨gl, 4, none⟩ 1) := run_convert_blk 0 4 4 (by kernel_rfl) (by kernel_rfl) kl
      refine wpMix_run (by kernel_rfl) (.slice (some ⟨gl, 0, none⟩) 4 4) (V4ab.freeze ⟨gl, 4, none⟩ 1) (by exact conv_opM 22 22 (.tmp 20) rfl rfl hcv) ((Lib.below_freeze hS3 hgl _).mono hz53) ?_
      simp only [Act.put, List.setIfInBounds_toArray, List.set_cons_succ, List.set_cons_zero]
      have hkf := kb_freeze V4ab gl 4 1
      have sl : Sl (V4ab.freeze ⟨gl, 4, none⟩ 1) (fun b => b = gl) (some ⟨gl, 0, none⟩) 4 4 mark24 := ⟨Bs.freeze (SlV.of_blk (X := fun b => b = gl) (n := 4) (s := 1) (cs := mark24.map B) kl rfl (by decide) rfl).bs _ _, rfl, Nat.le_refl _, (fun e => by cases e), by decide⟩
      replace hS3 : Below w3.heap.size w3 (V4ab.freeze ⟨gl, 4, none⟩ 1) := Lib.below_freeze hS3 hgl _
      try replace hoA := hoA.kb hkf (fun b hb e => hng (by rw [← e]; exact hb)) (fun b _ hb e => by have hb : b < W.heap.size := hb; omega)
      replace zl : gl < (V4ab.freeze ⟨gl, 4, none⟩ 1).heap.size := by rw [freeze_size]; exact zl
      clear kl hkf hS
      obtain ⟨V4abd, hWd⟩ : ∃ x, V4ab.freeze ⟨gl, 4, none⟩ 1 = x := ⟨_, rfl⟩
      rw [hWd] at hS3 sl zl ⊢
      try rw [hWd] at hoA
      have hS := hS3.mono hz53
      clear hWd
      refine wpMix_run (by kernel_rfl) (.slice (some ⟨V4abd.heap.size, 0, none⟩) 1 1) (V4abd.alloc (.cells #[.slice (some ⟨gl, 0, none⟩) 4 4] 22)) (by kernel_rfl) ((hS3.alloc hS3.size _).mono hz53) ?_
      simp only [Act.put, List.setIfInBounds_toArray, List.set_cons_succ, List.set_cons_zero]
      have hbl : Below V4abd.heap.size V4abd (V4abd.alloc (.cells #[.slice (some ⟨gl, 0, none⟩) 4 4] 22)) := (Below.refl _ _).alloc (Nat.le_refl _) _
      have kr : Blk (V4abd.alloc (.cells #[.slice (some ⟨gl, 0, none⟩) 4 4] 22)) V4abd.heap.size 22 #[.slice (some ⟨gl, 0, none⟩) 4 4] := Blk.new _ _ _
      replace hS3 := hS3.trans (hbl.mono hS3.size)
      replace sl := sl.step hbl
      replace zl := Nat.lt_of_lt_of_le zl hbl.size
      try replace hoA := hoA.step hbl
      clear hbl hS
      obtain ⟨gr, hgre⟩ : ∃ x, V4abd.heap.size = x := ⟨_, rfl⟩
      rw [hgre] at kr ⊢
      obtain ⟨V4abde, hWe⟩ : ∃ x, V4abd.alloc (.cells #[.slice (some ⟨gl, 0, none⟩) 4 4] 22) = x := ⟨_, rfl⟩
      rw [hWe] at hS3 kr sl zl ⊢
      try rw [hWe] at hoA
      have hS := hS3.mono hz53
      clear hWe hgre
      have hei : EsI V4abde (fun b => b < W.heap.size ∨ b = gl) (some ⟨gr, 0, none⟩) 1 1 [mark24] := ⟨⟨[.slice (some ⟨gl, 0, none⟩) 4 4], SlV.of_blk (s := 1) kr rfl (by decide) trivial, fun i hi => by
        obtain rfl : i = 0 := by simp at hi; omega
        exact ⟨some ⟨gl, 0, none⟩, 4, rfl, sl.weak fun b _ e => .inr e⟩⟩, rfl⟩
      obtain ⟨vb, V4abdef, hrb, hoB, hgB, -⟩ := (hoA.weak (Y := fun b => b < W.heap.size ∨ b = gl) fun _ _ h => .inl h).apps hS3.size hei (by rw [Hlen.out]; omega) (fun b _ hx e => by
        rcases hx with hx | hx
        · have := (hoA.lt b e.symm).1; omega
        · subst hx; exact hng e.symm)
      have hbB : Below w3.heap.size V4abde V4abdef := grown_to_below hgB (fun b e => (hoA.lt b e).1) hS3.size
      replace hS3 := hS3.trans hbB
      obtain ⟨Av, cv, rfl, hbi⟩ := hoB.i
      have hbc : (fe ++ [mark24]).length ≤ cv := by obtain ⟨_, h, _⟩ := hbi.ex; exact h.room
      have hl1 : (fe ++ [mark24]).length = n + 1 := by rw [List.length_append, Hlen.out]; rfl
      rw [hl1] at hrb hbc
      clear hbi
      refine wpMix_run (by kernel_rfl) (.slice Av (n + 1) cv) V4abdef (run_append_op (.tmp 19) (.tmp 22) 23 rfl va _ rfl rfl hrb) (hS3.mono hz53) ?_
      simp only [Act.put, List.setIfInBounds_toArray, List.set_cons_succ, List.set_cons_zero]
      replace hS := hS3.mono hz53
      refine wpMix_v (by kernel_rfl) (.slice Av n cv) (fun s => run_slice_hiB (.tmp 23) (.tmp 26) rfl Av (n + 1) cv n rfl rfl (by omega) s.W) ?_
      simp only [Act.put, List.setIfInBounds_toArray, List.set_cons_succ, List.set_cons_zero]
      refine wpMix_s (fun K hK => ?_)
      go_simp
      refine hK _ ?_
      clear hK K
      have k9 := K5.out.step hS3
      have c9 : V4abdef.cell? ⟨g5, 0, none⟩ = some (.slice E n c) := by rw [k9.cell]; exact Hf.out.c0
      have f9 := k9.frozen 0
      have hkb : KB (fun b => b = g5) V4abdef (V4abdef.setCell ⟨g5, 0, none⟩ (.slice Av n cv)) := KB.of_grown (grown_setCell (World.grownBy.refl _ _) 0 _) fun r e => (Option.some.inj e).symm
      refine wpMix_put1 (by kernel_rfl) 23 (.tmp 28) (.tmp 27) rfl sizeEs ⟨g5, 0, none⟩ (.slice Av n cv) rfl rfl rfl _ c9 f9 (hS.trans (hkb.below (fun b e => by have e : b = g5 := e; omega) (by have := hS3.size; omega))) ?_
      simp only [Act.put]
      replace hS := hS.trans (hkb.below (N := g5) (fun b e => by have e : b = g5 := e; omega) (by have := hS3.size; omega))
      have hoV := hoB.kb hkb (fun b hb e => by have e : b = g5 := e; have := (hoB.lt b hb).1; omega) (fun b _ hx e => by have e : b = g5 := e; rcases hx with hx | hx <;> omega)
      have k10 := k9.set_ 0 (.slice Av n cv)
      obtain ⟨b, cv', Al, cl, hve, hb1, hb2, hb3, hb4, hes, hcm, hsm⟩ := hoV.cut
      injection hve with e1 e2 e3
      subst e1 e3
      rw [Hlen.out] at hb3 hes hcm
      refine wpMix_nil ?_
      intro _
      refine wpAnyH_end (by kernel_rfl) ?_
      refine ⟨b, _, Al, cl, _, ?_, by rw [hg5]; exact hS, k10, Hf.out.setE _ _ _, hb3, hb4, hes, hcm, hsm, hb2⟩
      kernel_rfl
    · simp only [Array.getD_eq_getD_getElem?, List.getElem?_toArray, List.getElem?_cons_succ, List.getElem?_cons_zero, Option.getD_some]
      refine wpMix_run (by kernel_rfl) (.slice (some ⟨V4.heap.size, 0, none⟩) 4 4) (V4.alloc (.cells #[B 109, B 97, B 114, B 107] 5)) (by kernel_rfl) ((hS3.alloc hS3.size _).mono hz53) ?_
      simp only [Act.put, List.setIfInBounds_toArray, List.set_cons_succ, List.set_cons_zero]
      have hbl : Below V4.heap.size V4 (V4.alloc (.cells #[B 109, B 97, B 114, B 107] 5)) := (Below.refl _ _).alloc (Nat.le_refl _) _
      have kl : Blk (V4.alloc (.cells #[B 109, B 97, B 114, B 107] 5)) V4.heap.size 5 #[B 109, B 97, B 114, B 107] := Blk.new _ _ _
      have hgl := hS3.size
      try have hng : va.ownBlock ≠ some V4.heap.size := fun e => by have := (hoA.lt _ e).2; omega
      replace hS3 := hS3.trans (hbl.mono hS3.size)
      try replace hoA := hoA.step hbl
      clear hbl hS
      obtain ⟨gl, hgle⟩ : ∃ x, V4.heap.size = x := ⟨_, rfl⟩
      rw [hgle] at kl hgl ⊢
      try rw [hgle] at hng
      obtain ⟨V4b, hWb⟩ : ∃ x, V4.alloc (.cells #[B 109, B 97, B 114, B 107] 5) = x := ⟨_, rfl⟩
      rw [hWb] at hS3 kl ⊢
      try rw [hWb] at hoA
      have zl := kl.lt
      have hS := hS3.mono hz53
      clear hWb hgle
      refine wpMix_nil ?_
      intro _
      show wpAnyH _ _ _ _ _ _ #[true, true, false, true, false, false, false, true, true, true, false, false, false] _ _
      refine wpAnyH_fork (f := 6) (i := 2) (j := 4) (by kernel_rfl) hS ?_ ?_
      · simp only [Array.getD_eq_getD_getElem?, List.getElem?_toArray, List.getElem?_cons_succ, List.getElem?_cons_zero, Option.getD_some]
        obtain ⟨va, V4ba, hra, hoA, -, hbA, hvA⟩ := HA1.out V4b hS3
        refine wpMix_run (by kernel_rfl) va V4ba (run_append_op (.const (.slice none 0 0)) (.tmp 18) 23 rfl (.slice none 0 0) (.slice E n c) rfl rfl hra) ((hS3.trans (hbA.mono hS3.size)).mono hz53) ?_
        simp only [Act.put, List.setIfInBounds_toArray, List.set_cons_succ, List.set_cons_zero]
        try have hng : va.ownBlock ≠ some gl := fun e => by have := hvA gl e; omega
        try replace kl := kl.step hbA
        try replace sl := sl.step hbA
        try replace kr := kr.step hbA
        try replace zl := Nat.lt_of_lt_of_le zl hbA.size
        replace hS3 := hS3.trans (hbA.mono hS3.size)
        replace hS := hS3.mono hz53
        clear hbA hvA hra
        refine wpMix_nil ?_
        intro _
        show wpAnyH _ _ _ _ _ _ #[true, true, true, true, false, false, false, true, true, true, false, false, false] _ _
        refine wpAnyH_pre (f := 0) (by kernel_rfl) #[true, true, true, true, true, true, true, true, true, true, true, true, true] [(4, false), (5, false), (6, false), (10, true), (11, true), (12, false)] _ _ _ (by kernel_rfl) hS ?_
        simp only [List.map_cons, List.map_nil, Array.getD_eq_getD_getElem?, List.getElem?_toArray, List.getElem?_cons_succ, List.getElem?_cons_zero, Option.getD_some]
        have hcv : (convert 22 22 (.slice (some ⟨gl, 0, none⟩) 4 4)).run Try.prog V4ba = .ok (.slice (some ⟨gl, 0, none⟩) 4 4) (V4ba.freeze ⟨gl, 4, none⟩ 1) := run_convert_blk 0 4 4 (by kernel_rfl) (by kernel_rfl) kl
        refine wpMix_run (by kernel_rfl) (.slice (some ⟨gl, 0, none⟩) 4 4) (V4ba.freeze ⟨gl, 4, none⟩ 1) (by exact conv_opM 22 22 (.tmp 20) rfl rfl hcv) ((Lib.below_freeze hS3 hgl _).mono hz53) ?_
        simp only [Act.put, List.setIfInBounds_toArray, List.set_cons_succ, List.set_cons_zero]
        have hkf := kb_freeze V4ba gl 4 1
        have sl : Sl (V4ba.freeze ⟨gl, 4, none⟩ 1) (fun b => b = gl) (some ⟨gl, 0, none⟩) 4 4 mark24 := ⟨Bs.freeze (SlV.of_blk (X := fun b => b = gl) (n := 4) (s := 1) (cs := mark24.map B) kl rfl (by decide) rfl).bs _ _, rfl, Nat.le_refl _, (fun e => by cases e), by decide⟩
        replace hS3 : Below w3.heap.size w3 (V4ba.freeze ⟨gl, 4, none⟩ 1) := Lib.below_freeze hS3 hgl _
        try replace hoA := hoA.kb hkf (fun b hb e => hng (by rw [← e]; exact hb)) (fun b _ hb e => by have hb : b < W.heap.size := hb; omega)
        replace zl : gl < (V4ba.freeze ⟨gl, 4, none⟩ 1).heap.size := by rw [freeze_size]; exact zl
        clear kl hkf hS
        obtain ⟨V4bad, hWd⟩ : ∃ x, V4ba.freeze ⟨gl, 4, none⟩ 1 = x := ⟨_, rfl⟩
        rw [hWd] at hS3 sl zl ⊢
        try rw [hWd] at hoA
        have hS := hS3.mono hz53
        clear hWd
        refine wpMix_run (by kernel_rfl) (.slice (some ⟨V4bad.heap.size, 0, none⟩) 1 1) (V4bad.alloc (.cells #[.slice (some ⟨gl, 0, none⟩) 4 4] 22)) (by kernel_rfl) ((hS3.alloc hS3.size _).mono hz53) ?_
        simp only [Act.put, List.setIfInBounds_toArray, List.set_cons_succ, List.set_cons_zero]
        have hbl : Below V4bad.heap.size V4bad (V4bad.alloc (.cells #[.slice (some ⟨gl, 0, none⟩) 4 4] 22)) := (Below.refl _ _).alloc (Nat.le_refl _) _
        have kr : Blk (V4bad.alloc (.cells #[.slice (some ⟨gl, 0, none⟩) 4 4] 22)) V4bad.heap.size 22 #[.slice (some ⟨gl, 0, none⟩) 4 4] := Blk.new _ _ _
        replace hS3 := hS3.trans (hbl.mono hS3.size)
        replace sl := sl.step hbl
        replace zl := Nat.lt_of_lt_of_le zl hbl.size
        try replace hoA := hoA.step hbl
        clear hbl hS
        obtain ⟨gr, hgre⟩ : ∃ x, V4bad.heap.size = x := ⟨_, rfl⟩
        rw [hgre] at kr ⊢
        obtain ⟨V4bade, hWe⟩ : ∃ x, V4bad.alloc (.cells #[.slice (some ⟨gl, 0, none⟩) 4 4] 22) = x := ⟨_, rfl⟩
        rw [hWe] at hS3 kr sl zl ⊢
        try rw [hWe] at hoA
        have hS := hS3.mono hz53
        clear hWe hgre
        have hei : EsI V4bade (fun b => b < W.heap.size ∨ b = gl) (some ⟨gr, 0, none⟩) 1 1 [mark24] := ⟨⟨[.slice (some ⟨gl, 0, none⟩) 4 4], SlV.of_blk (s := 1) kr rfl (by decide) trivial, fun i hi => by
          obtain rfl : i = 0 := by simp at hi; omega
          exact ⟨some ⟨gl, 0, none⟩, 4, rfl, sl.weak fun b _ e => .inr e⟩⟩, rfl⟩
        obtain ⟨vb, V4badef, hrb, hoB, hgB, -⟩ := (hoA.weak (Y := fun b => b < W.heap.size ∨ b = gl) fun _ _ h => .inl h).apps hS3.size hei (by rw [Hlen.out]; omega) (fun b _ hx e => by
          rcases hx with hx | hx
          · have := (hoA.lt b e.symm).1; omega
          · subst hx; exact hng e.symm)
        have hbB : Below w3.heap.size V4bade V4badef := grown_to_below hgB (fun b e => (hoA.lt b e).1) hS3.size
        replace hS3 := hS3.trans hbB
        obtain ⟨Av, cv, rfl, hbi⟩ := hoB.i
        have hbc : (fe ++ [mark24]).length ≤ cv := by obtain ⟨_, h, _⟩ := hbi.ex; exact h.room
        have hl1 : (fe ++ [mark24]).length = n + 1 := by rw [List.length_append, Hlen.out]; rfl
        rw [hl1] at hrb hbc
        clear hbi
        refine wpMix_run (by kernel_rfl) (.slice Av (n + 1) cv) V4badef (run_append_op (.tmp 19) (.tmp 22) 23 rfl va _ rfl rfl hrb) (hS3.mono hz53) ?_
        simp only [Act.put, List.setIfInBounds_toArray, List.set_cons_succ, List.set_cons_zero]
        replace hS := hS3.mono hz53
        refine wpMix_v (by kernel_rfl) (.slice Av n cv) (fun s => run_slice_hiB (.tmp 23) (.tmp 26) rfl Av (n + 1) cv n rfl rfl (by omega) s.W) ?_
        simp only [Act.put, List.setIfInBounds_toArray, List.set_cons_succ, List.set_cons_zero]
        refine wpMix_s (fun K hK => ?_)
        go_simp
        refine hK _ ?_
        clear hK K
        have k9 := K5.out.step hS3
        have c9 : V4badef.cell? ⟨g5, 0, none⟩ = some (.slice E n c) := by rw [k9.cell]; exact Hf.out.c0
        have f9 := k9.frozen 0
        have hkb : KB (fun b => b = g5) V4badef (V4badef.setCell ⟨g5, 0, none⟩ (.slice Av n cv)) := KB.of_grown (grown_setCell (World.grownBy.refl _ _) 0 _) fun r e => (Option.some.inj e).symm
        refine wpMix_put1 (by kernel_rfl) 23 (.tmp 28) (.tmp 27) rfl sizeEs ⟨g5, 0, none⟩ (.slice Av n cv) rfl rfl rfl _ c9 f9 (hS.trans (hkb.below (fun b e => by have e : b = g5 := e; omega) (by have := hS3.size; omega))) ?_
        simp only [Act.put]
        replace hS := hS.trans (hkb.below (N := g5) (fun b e => by have e : b = g5 := e; omega) (by have := hS3.size; omega))
        have hoV := hoB.kb hkb (fun b hb e => by have e : b = g5 := e; have := (hoB.lt b hb).1; omega) (fun b _ hx e => by have e : b = g5 := e; rcases hx with hx | hx <;> omega)
        have k10 := k9.set_ 0 (.slice Av n cv)
        obtain ⟨b, cv', Al, cl, hve, hb1, hb2, hb3, hb4, hes, hcm, hsm⟩ := hoV.cut
        injection hve with e1 e2 e3
        subst e1 e3
        rw [Hlen.out] at hb3 hes hcm
        refine wpMix_nil ?_
        intro _
        refine wpAnyH_end (by kernel_rfl) ?_
        refine ⟨b, _, Al, cl, _, ?_, by rw [hg5]; exact hS, k10, Hf.out.setE _ _ _, hb3, hb4, hes, hcm, hsm, hb2⟩
        kernel_rfl
      · simp only [Array.getD_eq_getD_getElem?, List.getElem?_toArray, List.getElem?_cons_succ, List.getElem?_cons_zero, Option.getD_some]
        have hcv : (convert 22 22 (.slice (some ⟨gl, 0, none⟩) 4 4)).run Try.prog V4b = .ok (.slice (some ⟨gl, 0, none⟩) 4 4) (V4b.freeze ⟨gl, 4, none⟩ 1) := run_convert_blk 0 4 4 (by kernel_rfl) (by kernel_rfl) kl
        refine wpMix_run (by kernel_rfl) (.slice (some ⟨gl, 0, none⟩) 4 4) (V4b.freeze ⟨gl, 4, none⟩ 1) (by exact conv_opM 22 22 (.tmp 20) rfl rfl hcv) ((Lib.below_freeze hS3 hgl _).mono hz53) ?_
        simp only [Act.put, List.setIfInBounds_toArray, List.set_cons_succ, List.set_cons_zero]
        have hkf := kb_freeze V4b gl 4 1
        have sl : Sl (V4b.freeze ⟨gl, 4, none⟩ 1) (fun b => b = gl) (some ⟨gl, 0, none⟩) 4 4 mark24 := ⟨Bs.freeze (SlV.of_blk (X := fun b => b = gl) (n := 4) (s := 1) (cs := mark24.map B) kl rfl (by decide) rfl).bs _ _, rfl, Nat.le_refl _, (fun e => by cases e), by decide⟩
        replace hS3 : Below w3.heap.size w3 (V4b.freeze ⟨gl, 4, none⟩ 1) := Lib.below_freeze hS3 hgl _
        try replace hoA := hoA.kb hkf (fun b hb e => hng (by rw [← e]; exact hb)) (fun b _ hb e => by have hb : b < W.heap.size := hb; omega)
        replace zl : gl < (V4b.freeze ⟨gl, 4, none⟩ 1).heap.size := by rw [freeze_size]; exact zl
        clear kl hkf hS
        obtain ⟨V4bd, hWd⟩ : ∃ x, V4b.freeze ⟨gl, 4, none⟩ 1 = x := ⟨_, rfl⟩
        rw [hWd] at hS3 sl zl ⊢
        try rw [hWd] at hoA
        have hS := hS3.mono hz53
        clear hWd
        refine wpMix_nil ?_
        intro _
        show wpAnyH _ _ _ _ _ _ #[true, true, false, true, true, false, false, true, true, true, false, false, false] _ _
        refine wpAnyH_fork (f := 5) (i := 2) (j := 5) (by kernel_rfl) hS ?_ ?_
        · simp only [Array.getD_eq_getD_getElem?, List.getElem?_toArray, List.getElem?_cons_succ, List.getElem?_cons_zero, Option.getD_some]
          obtain ⟨va, V4bda, hra, hoA, -, hbA, hvA⟩ := HA1.out V4bd hS3
          refine wpMix_run (by kernel_rfl) va V4bda (run_append_op (.const (.slice none 0 0)) (.tmp 18) 23 rfl (.slice none 0 0) (.slice E n c) rfl rfl hra) ((hS3.trans (hbA.mono hS3.size)).mono hz53) ?_
          simp only [Act.put, List.setIfInBounds_toArray, List.set_cons_succ, List.set_cons_zero]
          try have hng : va.ownBlock ≠ some gl := fun e => by have := hvA gl e; omega
          try replace kl := kl.step hbA
          try replace sl := sl.step hbA
          try replace kr := kr.step hbA
          try replace zl := Nat.lt_of_lt_of_le zl hbA.size
          replace hS3 := hS3.trans (hbA.mono hS3.size)
          replace hS := hS3.mono hz53
          clear hbA hvA hra
          refine wpMix_nil ?_
          intro _
          show wpAnyH _ _ _ _ _ _ #[true, true, true, true, true, false, false, true, true, true, false, false, false] _ _
          refine wpAnyH_pre (f := 0) (by kernel_rfl) #[true, true, true, true, true, true, true, true, true, true, true, true, true] [(5, false), (6, false), (10, true), (11, true), (12, false)] _ _ _ (by kernel_rfl) hS ?_
          simp only [List.map_cons, List.map_nil, Array.getD_eq_getD_getElem?, List.getElem?_toArray, List.getElem?_cons_succ, List.getElem?_cons_zero, Option.getD_some]
          refine wpMix_run (by kernel_rfl) (.slice (some ⟨V4bda.heap.size, 0, none⟩) 1 1) (V4bda.alloc (.cells #[.slice (some ⟨gl, 0, none⟩) 4 4] 22)) (by kernel_rfl) ((hS3.alloc hS3.size _).mono hz53) ?_
          simp only [Act.put, List.setIfInBounds_toArray, List.set_cons_succ, List.set_cons_zero]
          have hbl : Below V4bda.heap.size V4bda (V4bda.alloc (.cells #[.slice (some ⟨gl, 0, none⟩) 4 4] 22)) := (Below.refl _ _).alloc (Nat.le_refl _) _
          have kr : Blk (V4bda.alloc (.cells #[.slice (some ⟨gl, 0, none⟩) 4 4] 22)) V4bda.heap.size 22 #[.slice (some ⟨gl, 0, none⟩) 4 4] := Blk.new _ _ _
          replace hS3 := hS3.trans (hbl.mono hS3.size)
          replace sl := sl.step hbl
          replace zl := Nat.lt_of_lt_of_le zl hbl.size
          try replace hoA := hoA.step hbl
          clear hbl hS
          obtain ⟨gr, hgre⟩ : ∃ x, V4bda.heap.size = x := ⟨_, rfl⟩
          rw [hgre] at kr ⊢
          obtain ⟨V4bdae, hWe⟩ : ∃ x, V4bda.alloc (.cells #[.slice (some ⟨gl, 0, none⟩) 4 4] 22) = x := ⟨_, rfl⟩
          rw [hWe] at hS3 kr sl zl ⊢
          try rw [hWe] at hoA
          have hS := hS3.mono hz53
          clear hWe hgre
          have hei : EsI V4bdae (fun b => b < W.heap.size ∨ b = gl) (some ⟨gr, 0, none⟩) 1 1 [mark24] := ⟨⟨[.slice (some ⟨gl, 0, none⟩) 4 4], SlV.of_blk (s := 1) kr rfl (by decide) trivial, fun i hi => by
            obtain rfl : i = 0 := by simp at hi; omega
            exact ⟨some ⟨gl, 0, none⟩, 4, rfl, sl.weak fun b _ e => .inr e⟩⟩, rfl⟩
          obtain ⟨vb, V4bdaef, hrb, hoB, hgB, -⟩ := (hoA.weak (Y := fun b => b < W.heap.size ∨ b = gl) fun _ _ h => .inl h).apps hS3.size hei (by rw [Hlen.out]; omega) (fun b _ hx e => by
            rcases hx with hx | hx
            · have := (hoA.lt b e.symm).1; omega
            · subst hx; exact hng e.symm)
          have hbB : Below w3.heap.size V4bdae V4bdaef := grown_to_below hgB (fun b e => (hoA.lt b e).1) hS3.size
          replace hS3 := hS3.trans hbB
          obtain ⟨Av, cv, rfl, hbi⟩ := hoB.i
          have hbc : (fe ++ [mark24]).length ≤ cv := by obtain ⟨_, h, _⟩ := hbi.ex; exact h.room
          have hl1 : (fe ++ [mark24]).length = n + 1 := by rw [List.length_append, Hlen.out]; rfl
          rw [hl1] at hrb hbc
          clear hbi
          refine wpMix_run (by kernel_rfl) (.slice Av (n + 1) cv) V4bdaef (run_append_op (.tmp 19) (.tmp 22) 23 rfl va _ rfl rfl hrb) (hS3.mono hz53) ?_
          simp only [Act.put, List.setIfInBounds_toArray, List.set_cons_succ, List.set_cons_zero]
          replace hS := hS3.mono hz53
          refine wpMix_v (by kernel_rfl) (.slice Av n cv) (fun s => run_slice_hiB (.tmp 23) (.tmp 26) rfl Av (n + 1) cv n rfl rfl (by omega) s.W) ?_
          simp only [Act.put, List.setIfInBounds_toArray, List.set_cons_succ, List.set_cons_zero]
          refine wpMix_s (fun K hK => ?_)
          go_simp
          refine hK _ ?_
          clear hK K
          have k9 := K5.out.step hS3
          have c9 : V4bdaef.cell? ⟨g5, 0, none⟩ = some (.slice E n c) := by rw [k9.cell]; exact Hf.out.c0
          have f9 := k9.frozen 0
          have hkb : KB (fun b => b = g5) V4bdaef (V4bdaef.setCell ⟨g5, 0, none⟩ (.slice Av n cv)) := KB.of_grown (grown_setCell (World.grownBy.refl _ _) 0 _) fun r e => (Option.some.inj e).symm
          refine wpMix_put1 (by kernel_rfl) 23 (.tmp 28) (.tmp 27) rfl sizeEs ⟨g5, 0, none⟩ (.slice Av n cv) rfl rfl rfl _ c9 f9 (hS.trans (hkb.below (fun b e => by have e : b = g5 := e; omega) (by have := hS3.size; omega))) ?_
          simp only [Act.put]
          replace hS := hS.trans (hkb.below (N := g5) (fun b e => by have e : b = g5 := e; omega) (by have := hS3.size; omega))
          have hoV := hoB.kb hkb (fun b hb e => by have e : b = g5 := e; have := (hoB.lt b hb).1; omega) (fun b _ hx e => by have e : b = g5 := e; rcases hx with hx | hx <;> omega)
          have k10 := k9.set_ 0 (.slice Av n cv)
          obtain ⟨b, cv', Al, cl, hve, hb1, hb2, hb3, hb4, hes, hcm, hsm⟩ := hoV.cut
          injection hve with e1 e2 e3
          subst e1 e3
          rw [Hlen.out] at hb3 hes hcm
          refine wpMix_nil ?_
          intro _
          refine wpAnyH_end (by kernel_rfl) ?_
          refine ⟨b, _, Al, cl, _, ?_, by rw [hg5]; exact hS, k10, Hf.out.setE _ _ _, hb3, hb4, hes, hcm, hsm, hb2⟩
          kernel_rfl
        · simp only [Array.getD_eq_getD_getElem?, List.getElem?_toArray, List.getElem?_cons_succ, List.getElem?_cons_zero, Option.getD_some]
          refine wpMix_run (by kernel_rfl) (.slice (some ⟨V4bd.heap.size, 0, none⟩) 1 1) (V4bd.alloc (.cells #[.slice (some ⟨gl, 0, none⟩) 4 4] 22)) (by kernel_rfl) ((hS3.alloc hS3.size _).mono hz53) ?_
          simp only [Act.put, List.setIfInBounds_toArray, List.set_cons_succ, List.set_cons_zero]
          have hbl : Below V4bd.heap.size V4bd (V4bd.alloc (.cells #[.slice (some ⟨gl, 0, none⟩) 4 4] 22)) := (Below.refl _ _).alloc (Nat.le_refl _) _
          have kr : Blk (V4bd.alloc (.cells #[.slice (some ⟨gl, 0, none⟩) 4 4] 22)) V4bd.heap.size 22 #[.slice (some ⟨gl, 0, none⟩) 4 4] := Blk.new _ _ _
          replace hS3 := hS3.trans (hbl.mono hS3.size)
          replace sl := sl.step hbl
          replace zl := Nat.lt_of_lt_of_le zl hbl.size
          try replace hoA := hoA.step hbl
          clear hbl hS
          obtain ⟨gr, hgre⟩ : ∃ x, V4bd.heap.size = x := ⟨_, rfl⟩
          rw [hgre] at kr ⊢
          obtain ⟨V4bde, hWe⟩ : ∃ x, V4bd.alloc (.cells #[.slice (some ⟨gl, 0, none⟩) 4 4] 22) = x := ⟨_, rfl⟩
          rw [hWe] at hS3 kr sl zl ⊢
          try rw [hWe] at hoA
          have hS := hS3.mono hz53
          clear hWe hgre
          refine wpMix_nil ?_
          intro _
          show wpAnyH _ _ _ _ _ _ #[true, true, false, true, true, true, false, true, true, true, false, false, false] _ _
          refine wpAnyH_pre (f := 0) (by kernel_rfl) #[true, true, true, true, true, true, true, true, true, true, true, true, true] [(2, false), (6, false), (10, true), (11, true), (12, false)] _ _ _ (by kernel_rfl) hS ?_
          simp only [List.map_cons, List.map_nil, Array.getD_eq_getD_getElem?, List.getElem?_toArray, List.getElem?_cons_succ, List.getElem?_cons_zero, Option.getD_some]
          obtain ⟨va, V4bdea, hra, hoA, -, hbA, hvA⟩ := HA1.out V4bde hS3
          refine wpMix_run (by kernel_rfl) va V4bdea (run_append_op (.const (.slice none 0 0)) (.tmp 18) 23 rfl (.slice none 0 0) (.slice E n c) rfl rfl hra) ((hS3.trans (hbA.mono hS3.size)).mono hz53) ?_
          simp only [Act.put, List.setIfInBounds_toArray, List.set_cons_succ, List.set_cons_zero]
          try have hng : va.ownBlock ≠ some gl := fun e => by have := hvA gl e; omega
          try replace kl := kl.step hbA
          try replace sl := sl.step hbA
          try replace kr := kr.step hbA
          try replace zl := Nat.lt_of_lt_of_le zl hbA.size
          replace hS3 := hS3.trans (hbA.mono hS3.size)
          replace hS := hS3.mono hz53
          clear hbA hvA hra
          have hei : EsI V4bdea (fun b => b < W.heap.size ∨ b = gl) (some ⟨gr, 0, none⟩) 1 1 [mark24] := ⟨⟨[.slice (some ⟨gl, 0, none⟩) 4 4], SlV.of_blk (s := 1) kr rfl (by decide) trivial, fun i hi => by
            obtain rfl : i = 0 := by simp at hi; omega
            exact ⟨some ⟨gl, 0, none⟩, 4, rfl, sl.weak fun b _ e => .inr e⟩⟩, rfl⟩
          obtain ⟨vb, V4bdeaf, hrb, hoB, hgB, -⟩ := (hoA.weak (Y := fun b => b < W.heap.size ∨ b = gl) fun _ _ h => .inl h).apps hS3.size hei (by rw [Hlen.out]; omega) (fun b _ hx e => by
            rcases hx with hx | hx
            · have := (hoA.lt b e.symm).1; omega
            · subst hx; exact hng e.symm)
          have hbB : Below w3.heap.size V4bdea V4bdeaf := grown_to_below hgB (fun b e => (hoA.lt b e).1) hS3.size
          replace hS3 := hS3.trans hbB
          obtain ⟨Av, cv, rfl, hbi⟩ := hoB.i
          have hbc : (fe ++ [mark24]).length ≤ cv := by obtain ⟨_, h, _⟩ := hbi.ex; exact h.room
          have hl1 : (fe ++ [mark24]).length = n + 1 := by rw [List.length_append, Hlen.out]; rfl
          rw [hl1] at hrb hbc
          clear hbi
          refine wpMix_run (by kernel_rfl) (.slice Av (n + 1) cv) V4bdeaf (run_append_op (.tmp 19) (.tmp 22) 23 rfl va _ rfl rfl hrb) (hS3.mono hz53) ?_
          simp only [Act.put, List.setIfInBounds_toArray, List.set_cons_succ, List.set_cons_zero]
          replace hS := hS3.mono hz53
          refine wpMix_v (by kernel_rfl) (.slice Av n cv) (fun s => run_slice_hiB (.tmp 23) (.tmp 26) rfl Av (n + 1) cv n rfl rfl (by omega) s.W) ?_
          simp only [Act.put, List.setIfInBounds_toArray, List.set_cons_succ, List.set_cons_zero]
          refine wpMix_s (fun K hK => ?_)
          go_simp
          refine hK _ ?_
          clear hK K
          have k9 := K5.out.step hS3
          have c9 : V4bdeaf.cell? ⟨g5, 0, none⟩ = some (.slice E n c) := by rw [k9.cell]; exact Hf.out.c0
          have f9 := k9.frozen 0
          have hkb : KB (fun b => b = g5) V4bdeaf (V4bdeaf.setCell ⟨g5, 0, none⟩ (.slice Av n cv)) := KB.of_grown (grown_setCell (World.grownBy.refl _ _) 0 _) fun r e => (Option.some.inj e).symm
          refine wpMix_put1 (by kernel_rfl) 23 (.tmp 28) (.tmp 27) rfl sizeEs ⟨g5, 0, none⟩ (.slice Av n cv) rfl rfl rfl _ c9 f9 (hS.trans (hkb.below (fun b e => by have e : b = g5 := e; omega) (by have := hS3.size; omega))) ?_
          simp only [Act.put]
          replace hS := hS.trans (hkb.below (N := g5) (fun b e => by have e : b = g5 := e; omega) (by have := hS3.size; omega))
          have hoV := hoB.kb hkb (fun b hb e => by have e : b = g5 := e; have := (hoB.lt b hb).1; omega) (fun b _ hx e => by have e : b = g5 := e; rcases hx with hx | hx <;> omega)
          have k10 := k9.set_ 0 (.slice Av n cv)
          obtain ⟨b, cv', Al, cl, hve, hb1, hb2, hb3, hb4, hes, hcm, hsm⟩ := hoV.cut
          injection hve with e1 e2 e3
          subst e1 e3
          rw [Hlen.out] at hb3 hes hcm
          refine wpMix_nil ?_
          intro _
          refine wpAnyH_end (by kernel_rfl) ?_
          refine ⟨b, _, Al, cl, _, ?_, by rw [hg5]; exact hS, k10, Hf.out.setE _ _ _, hb3, hb4, hes, hcm, hsm, hb2⟩
          kernel_rfl
  rintro us a' w4 ⟨b, cv, Al, cl, fc', rfl, b4, k5, hf', hcv, hcm, he4, cm, hsm, hbl⟩
  have k14 := K13.out.below b4 (by omega)
  have k24 := K23.out.below b4 (by omega)
  have he4' : Es w4 (· < W.heap.size) E n c fe := He3.out.below b4 fun b _ hx => by have hx : b < W.heap.size := hx; omega
  have B4 : Below W.heap.size W w4 := HB3.out.trans (b4.mono (by omega))
  have hz4 := B4.size
  have hg5l := k5.lt
  have hsm4 := hsm.room
  have hsmm := hsm.max
  unfold maxLen at hsmm hcm
  have Hcm := Lib.hid cm
  have Hsm := Lib.hid hsm
  have Hf' := Lib.hid hf'
  have K14 := Lib.hid k14
  have K24 := Lib.hid k24
  have K54 := Lib.hid k5
  have He4 := Lib.hid he4
  have He4' := Lib.hid he4'
  have HB4 := Lib.hid B4
  have hlc : ∀ V, Below w4.heap.size w4 V → (Instr.loadAt 37 (.pointer (some ⟨W.heap.size, 0, none⟩))).run Try.prog V = .ok (.agg #[.int .i64 seg, .int .i64 q]) V := fun V hb => run_load_blk (aggCf _) (sizeCf _) _ _ rfl (k14.step hb)
  have hlf : ∀ V, Below w4.heap.size w4 V → (Instr.loadAt 30 (.pointer (some ⟨w1.heap.size, 0, none⟩))).run Try.prog V = .ok (.agg fc) V := fun V hb => fd_load (k24.step hb) hfs
  have hl5 : ∀ V, Below w4.heap.size w4 V → (Instr.loadAt 30 (.pointer (some ⟨g5, 0, none⟩))).run Try.prog V = .ok (.agg fc') V := fun V hb => fd_load (k5.step hb) hf'.size
  have Hlc := Lib.hid hlc
  have Hlf := Lib.hid hlf
  have Hl5 := Lib.hid hl5
  clear cm hsm hf' k14 k24 k5 he4 he4' B4 hlc hlf hl5 b4 K13 K23 He3 K5 HB3 HA1 qf
  go_wp2_with (first
    | ((with_reducible show wpList _ _ _ (⟨some 30, .load _ _, _, _, _, _⟩ :: _) _ _); refine wpList_runG (by kernel_rfl) (.agg #[.int .i64 seg, .int .i64 q]) _ (loadN_op 37 (.tmp 2) W.heap.size rfl rfl (Hlc.out _ (Below.refl _ _))) ?_; simp only [Act.put, List.setIfInBounds_toArray, List.set_cons_succ, List.set_cons_zero])
    | ((with_reducible show wpList _ _ _ (⟨some 31, .load _ _, _, _, _, _⟩ :: _) _ _); refine wpList_runG (by kernel_rfl) (.agg fc') _ (loadN_op 30 (.tmp 5) g5 rfl rfl (Hl5.out _ (Below.refl _ _))) ?_; simp only [Act.put, List.setIfInBounds_toArray, List.set_cons_succ, List.set_cons_zero]))
  refine (mfrom_any (fun _ => False) seg q fc' (some ⟨b, 0, none⟩) n cv fe fh fs fr w4 (fun _ h => h.elim) Hf'.out He4.out (by omega)).mono ?_
  intro e w5 hans
  obtain ⟨ok, hok⟩ : ∃ x, fromM seg q fe fh fs fr = x := ⟨_, rfl⟩
  unfold FromAns at hans
  rw [hok] at hans
  cases ok with
  | false =>
    obtain ⟨rfl, b5⟩ := hans
    have hz5 := b5.size
    go_wp2_with (first
    | ((with_reducible show wpList _ _ _ (⟨some 36, .load _ _, _, _, _, _⟩ :: _) _ _); refine wpList_runG (by kernel_rfl) (.agg #[.int .i64 seg, .int .i64 q]) _ (loadN_op 37 (.tmp 2) W.heap.size rfl rfl (Hlc.out _ b5)) ?_; simp only [Act.put, List.setIfInBounds_toArray, List.set_cons_succ, List.set_cons_zero])
    | ((with_reducible show wpList _ _ _ (⟨some 37, .load _ _, _, _, _, _⟩ :: _) _ _); refine wpList_runG (by kernel_rfl) (.agg fc) _ (loadN_op 30 (.tmp 3) w1.heap.size rfl rfl (Hlf.out _ b5)) ?_; simp only [Act.put, List.setIfInBounds_toArray, List.set_cons_succ, List.set_cons_zero]))
    refine (rfrom24_any (fun _ => False) seg q fc E n c fe fh fs fr w5 (fun _ h => h.elim) Hf.out (((He4'.out.step b5).i).weak fun _ _ _ h => h) (by omega)).mono ?_
    intro e w6 hans
    unfold RFromAns at hans
    rw [hok] at hans
    obtain ⟨rfl, b6⟩ := hans
    have b46 := b5.trans (b6.mono hz5)
    have hz6 := b46.size
    have q6 : w6.cell? ⟨w1.heap.size, 0, none⟩ = some (.slice E n c) := by rw [(K24.out.step b46).cell]; exact Hf.out.c0
    have p6 : w6.cell? ⟨g5, 0, none⟩ = some (.slice (some ⟨b, 0, none⟩) n cv) := by rw [(K54.out.step b46).cell]; exact Hf'.out.c0
    have hsa := rsame_any w6 (some ⟨b, 0, none⟩) E n cv n c fe fe (He4.out.step b46) ((He4'.out.step b46).all)
    rw [beq_self_eq_true] at hsa
    have Hsa := Lib.hid hsa
    have HB46 := Lib.hid b46
    clear hsa b46 b5 b6 hok
    go_wp2_with fail
    refine Hsa.out.mono ?_
    rintro e w7 ⟨rfl, b7⟩
    have b47 := HB46.out.trans (b7.mono hz6)
    have hz7 := b47.size
    have qa : ∀ s : InC (fun V => Below w7.heap.size w7 V), s.W.cell? ⟨w1.heap.size, 0, none⟩ = some (.slice E n c) := fun s => by rw [((K24.out.step b47).step s.ok).cell]; exact Hf.out.c0
    have qb : ∀ s : InC (fun V => Below w7.heap.size w7 V), s.W.cell? ⟨g5, 0, none⟩ = some (.slice (some ⟨b, 0, none⟩) n cv) := fun s => by rw [((K54.out.step b47).step s.ok).cell]; exact Hf'.out.c0
    have qc : ∀ s : InC (fun V => Below w7.heap.size w7 V), s.W.cell? ⟨b, n, none⟩ = some (.slice Al 4 cl) := fun s => (World.cell?_of_block (s.ok.block b (Nat.lt_of_lt_of_le hbl hz7))).trans ((World.cell?_of_block (b47.block b hbl)).trans Hcm.out)
    have S1 := Lib.hid (fun s : InC (fun V => Below w7.heap.size w7 V) => (Hsm.out.step b47).step s.ok)
    have hwn : IntKind.i64.wrap ((n : Int) + 1) = (n : Int) + 1 := IntWalk.i64_in _ (by omega)
    have hnn : (n : Int) < (n : Int) + 1 := by omega
    have hS : Below w7.heap.size w7 w7.drew := (Below.refl _ _).drew
    clear q6 p6 Hsa b7 HB46
    go_upto_region 8 with fail
    refine wp_region_mix (fun W => Below w7.heap.size w7 W) [(0, true), (1, true), (2, true), (3, true), (4, true), (5, true), (6, true), (7, true), (8, true), (9, true), (10, true), (11, true), (12, true), (13, true), (14, true), (15, true), (16, true), (17, true), (18, true), (19, true), (20, true), (21, true), (22, true), (23, true), (24, true), (25, true), (26, true), (27, true), (28, true), (29, true)] (by kernel_rfl) (by kernel_rfl) hS fun _ => ?_
    simp only [List.map_cons, List.map_nil, Array.getD_eq_getD_getElem?, List.getElem?_toArray, List.getElem?_cons_succ, List.getElem?_cons_zero, Option.getD_some]
    generalize w7.drew = Z8 at hS ⊢
    refine wpMix_s (fun K hK => ?_)
    go_simp
    refine hK _ ?_
    clear hK K
    refine wpMix_s (fun K hK => ?_)
    go_simp
    refine hK _ ?_
    clear hK K
    refine wpMix_s (fun K hK => ?_)
    go_simp
    refine hK _ ?_
    clear hK K
    refine wpMix_s (fun K hK => ?_)
    go_simp
    refine hK _ ?_
    clear hK K
    refine wpMix_s (fun K hK => ?_)
    go_simp
    refine hK _ ?_
    clear hK K
    refine wpMix_s (fun K hK => ?_)
    go_simp
    refine hK _ ?_
    clear hK K
    refine wpMix_s (fun K hK => ?_)
    go_simp
    refine hK _ ?_
    clear hK K
    refine wpMix_s (fun K hK => ?_)
    go_simp
    refine hK _ ?_
    clear hK K
    refine wpMix_s (fun K hK => ?_)
    go_simp
    refine hK _ ?_
    clear hK K
    refine wpMix_s (fun K hK => ?_)
    go_simp
    refine hK _ ?_
    clear hK K
    refine wpMix_s (fun K hK => ?_)
    go_simp
    refine hK _ ?_
    clear hK K
    refine wpMix_s (fun K hK => ?_)
    go_simp
    refine hK _ ?_
    clear hK K
    refine wpMix_s (fun K hK => ?_)
    go_simp
    refine hK _ ?_
    clear hK K
    refine wpMix_s (fun K hK => ?_)
    go_simp
    refine hK _ ?_
    clear hK K
    refine wpMix_s (fun K hK => ?_)
    go_simp
    refine hK _ ?_
    clear hK K
    refine wpMix_s (fun K hK => ?_)
    go_simp
    refine hK _ ?_
    clear hK K
    refine wpMix_s (fun K hK => ?_)
    go_simp
    refine hK _ ?_
    clear hK K
    refine wpMix_s (fun K hK => ?_)
    go_simp
    refine hK _ ?_
    clear hK K
    refine wpMix_s (fun K hK => ?_)
    go_simp
    refine hK _ ?_
    clear hK K
    refine wpMix_s (fun K hK => ?_)
    go_simp
    refine hK _ ?_
    clear hK K
    refine wpMix_s (fun K hK => ?_)
    go_simp
    refine hK _ ?_
    clear hK K
    refine wpMix_v (by kernel_rfl) (.slice (some ⟨b, 0, none⟩) (n + 1) cv) (fun s => run_slice_hiB (.tmp 62) (.tmp 66) rfl (some ⟨b, 0, none⟩) n cv (n + 1) rfl (by rfl) hcv s.W) ?_
    simp only [Act.put, List.setIfInBounds_toArray, List.set_cons_succ, List.set_cons_zero]
    refine wpMix_s (fun K hK => ?_)
    go_simp
    refine hK _ ?_
    clear hK K
    refine wpMix_s (fun K hK => ?_)
    go_simp
    refine hK _ ?_
    clear hK K
    refine wpMix_s (fun K hK => ?_)
    go_simp
    refine hK _ ?_
    clear hK K
    refine wpMix_s (fun K hK => ?_)
    go_simp
    refine hK _ ?_
    clear hK K
    refine wpMix_s (fun K hK => ?_)
    go_simp
    refine hK _ ?_
    clear hK K
    refine wpMix_v (by kernel_rfl) (.string ⟨#[109, 97, 114, 107]⟩) (fun s => strM_op (.tmp 72) rfl rfl (S1.out s)) ?_
    simp only [Act.put, List.setIfInBounds_toArray, List.set_cons_succ, List.set_cons_zero]
    refine wpMix_v (by kernel_rfl) (.bool false) (fun s => by kernel_rfl) ?_
    simp only [Act.put, List.setIfInBounds_toArray, List.set_cons_succ, List.set_cons_zero]
    refine wpMix_s (fun K hK => ?_)
    go_simp
    refine hK _ ?_
    clear hK K
    refine wpMix_nil ?_
    intro _
    have b48 := b47.trans (hS.mono hz7)
    have HB8 := Lib.hid (HB4.out.trans (b48.mono hz4))
    clear qa qb qc S1 hS b47 b48
    have hS : Below Z8.heap.size Z8 Z8.drew := (Below.refl _ _).drew
    go_wp2_with fail
    refine wp_region_mix (fun W => Below Z8.heap.size Z8 W) [(0, true), (1, true), (2, true), (3, true), (4, true), (5, false), (6, true), (7, true), (8, true), (10, true), (11, true), (9, false), (12, false), (13, true), (14, true), (15, true), (16, true), (17, false), (18, true), (19, true)] (by kernel_rfl) (by kernel_rfl) hS fun _ => ?_
    simp only [List.map_cons, List.map_nil, Array.getD_eq_getD_getElem?, List.getElem?_toArray, List.getElem?_cons_succ, List.getElem?_cons_zero, Option.getD_some]
    generalize Z8.drew = Y8 at hS ⊢
    refine wpMix_s (fun K hK => ?_)
    go_simp
    refine hK _ ?_
    clear hK K
    refine wpMix_s (fun K hK => ?_)
    go_simp
    refine hK _ ?_
    clear hK K
    refine wpMix_s (fun K hK => ?_)
    go_simp
    refine hK _ ?_
    clear hK K
    refine wpMix_s (fun K hK => ?_)
    go_simp
    refine hK _ ?_
    clear hK K
    refine wpMix_s (fun K hK => ?_)
    go_simp
    refine hK _ ?_
    clear hK K
    refine wpMix_c (fun K hK => ?_) hS
    go_simp
    refine hK _ _ ?_
    clear hK K
    refine ⟨hS, ?_⟩
    refine wpMix_s (fun K hK => ?_)
    go_simp
    refine hK _ ?_
    clear hK K
    refine wpMix_s (fun K hK => ?_)
    go_simp
    refine hK _ ?_
    clear hK K
    refine wpMix_s (fun K hK => ?_)
    go_simp
    refine hK _ ?_
    clear hK K
    refine wpMix_s (fun K hK => ?_)
    go_simp
    refine hK _ ?_
    clear hK K
    refine wpMix_s (fun K hK => ?_)
    go_simp
    refine hK _ ?_
    clear hK K
    refine wpMix_c (fun K hK => ?_) hS
    go_simp
    refine hK _ _ ?_
    clear hK K
    refine ⟨hS, ?_⟩
    refine wpMix_c (fun K hK => ?_) hS
    go_simp
    refine hK _ _ ?_
    clear hK K
    refine ⟨hS, ?_⟩
    refine wpMix_s (fun K hK => ?_)
    go_simp
    refine hK _ ?_
    clear hK K
    refine wpMix_s (fun K hK => ?_)
    go_simp
    refine hK _ ?_
    clear hK K
    refine wpMix_s (fun K hK => ?_)
    go_simp
    refine hK _ ?_
    clear hK K
    refine wpMix_s (fun K hK => ?_)
    go_simp
    refine hK _ ?_
    clear hK K
    refine wpMix_c (fun K hK => ?_) hS
    go_simp
    refine (known24_any Y8).mono ?_
    rintro e Y8_1 ⟨rfl, hb'⟩
    refine hK _ _ ?_
    clear hK K
    replace hS := hS.trans (hb'.mono hS.size)
    refine ⟨hS, ?_⟩
    clear hb'
    refine wpMix_s (fun K hK => ?_)
    go_simp
    refine hK _ ?_
    clear hK K
    refine wpMix_s (fun K hK => ?_)
    go_simp
    refine hK _ ?_
    clear hK K
    refine wpMix_nil ?_
    intro _
    go_wp2_with fail
    go_ret
    exact ⟨rfl, HB8.out.trans (hS.mono HB8.out.size)⟩
  | true =>
    obtain ⟨lo, g, R, rfl, hlo, h5, b5⟩ := hans
    have hz5 := b5.size
    go_wp2_with (first
    | ((with_reducible show wpList _ _ _ (⟨some 36, .load _ _, _, _, _, _⟩ :: _) _ _); refine wpList_runG (by kernel_rfl) (.agg #[.int .i64 seg, .int .i64 q]) _ (loadN_op 37 (.tmp 2) W.heap.size rfl rfl (Hlc.out _ b5)) ?_; simp only [Act.put, List.setIfInBounds_toArray, List.set_cons_succ, List.set_cons_zero])
    | ((with_reducible show wpList _ _ _ (⟨some 37, .load _ _, _, _, _, _⟩ :: _) _ _); refine wpList_runG (by kernel_rfl) (.agg fc) _ (loadN_op 30 (.tmp 3) w1.heap.size rfl rfl (Hlf.out _ b5)) ?_; simp only [Act.put, List.setIfInBounds_toArray, List.set_cons_succ, List.set_cons_zero]))
    refine (rfrom24_any (fun _ => False) seg q fc E n c fe fh fs fr w5 (fun _ h => h.elim) Hf.out (((He4'.out.step b5).i).weak fun _ _ _ h => h) (by omega)).mono ?_
    intro e w6 hans
    unfold RFromAns at hans
    rw [hok] at hans
    obtain ⟨gx, Rx, rfl, hgx, x6, b6⟩ := hans
    have h6 := h5.step b6
    have b46 := b5.trans (b6.mono hz5)
    have hz6 := b46.size
    have q6 : w6.cell? ⟨w1.heap.size, 0, none⟩ = some (.slice E n c) := by rw [(K24.out.step b46).cell]; exact Hf.out.c0
    have p6 : w6.cell? ⟨g5, 0, none⟩ = some (.slice (some ⟨b, 0, none⟩) n cv) := by rw [(K54.out.step b46).cell]; exact Hf'.out.c0
    have hsa := rsame_any w6 (some ⟨b, 0, none⟩) E n cv n c fe fe (He4.out.step b46) ((He4'.out.step b46).all)
    rw [beq_self_eq_true] at hsa
    have Hsa := Lib.hid hsa
    have HB46 := Lib.hid b46
    have H6 := Lib.hid h6
    have X6 := Lib.hid x6
    clear hsa b46 b5 b6 hok h5 h6 x6
    go_wp2_with fail
    refine Hsa.out.mono ?_
    rintro e w7 ⟨rfl, b7⟩
    have b47 := HB46.out.trans (b7.mono hz6)
    have h7 := H6.out.step b7
    have x7 := X6.out.step b7
    have H7 := Lib.hid h7
    have X7 := Lib.hid x7
    clear h7 x7 H6 X6
    have hz7 := b47.size
    have qa : ∀ s : InC (fun V => Below w7.heap.size w7 V), s.W.cell? ⟨w1.heap.size, 0, none⟩ = some (.slice E n c) := fun s => by rw [((K24.out.step b47).step s.ok).cell]; exact Hf.out.c0
    have qb : ∀ s : InC (fun V => Below w7.heap.size w7 V), s.W.cell? ⟨g5, 0, none⟩ = some (.slice (some ⟨b, 0, none⟩) n cv) := fun s => by rw [((K54.out.step b47).step s.ok).cell]; exact Hf'.out.c0
    have qc : ∀ s : InC (fun V => Below w7.heap.size w7 V), s.W.cell? ⟨b, n, none⟩ = some (.slice Al 4 cl) := fun s => (World.cell?_of_block (s.ok.block b (Nat.lt_of_lt_of_le hbl hz7))).trans ((World.cell?_of_block (b47.block b hbl)).trans Hcm.out)
    have S1 := Lib.hid (fun s : InC (fun V => Below w7.heap.size w7 V) => (Hsm.out.step b47).step s.ok)
    have hwn : IntKind.i64.wrap ((n : Int) + 1) = (n : Int) + 1 := IntWalk.i64_in _ (by omega)
    have hnn : (n : Int) < (n : Int) + 1 := by omega
    have hS : Below w7.heap.size w7 w7.drew := (Below.refl _ _).drew
    clear q6 p6 Hsa b7 HB46
    go_upto_region 8 with fail
    refine wp_region_mix (fun W => Below w7.heap.size w7 W) [(0, true), (1, true), (2, true), (3, true), (4, true), (5, true), (6, true), (7, true), (8, true), (9, true), (10, true), (11, true), (12, true), (13, true), (14, true), (15, true), (16, true), (17, true), (18, true), (19, true), (20, true), (21, true), (22, true), (23, true), (24, true), (25, true), (26, true), (27, true), (28, true), (29, true)] (by kernel_rfl) (by kernel_rfl) hS fun _ => ?_
    simp only [List.map_cons, List.map_nil, Array.getD_eq_getD_getElem?, List.getElem?_toArray, List.getElem?_cons_succ, List.getElem?_cons_zero, Option.getD_some]
    generalize w7.drew = Z8 at hS ⊢
    refine wpMix_s (fun K hK => ?_)
    go_simp
    refine hK _ ?_
    clear hK K
    refine wpMix_s (fun K hK => ?_)
    go_simp
    refine hK _ ?_
    clear hK K
    refine wpMix_s (fun K hK => ?_)
    go_simp
    refine hK _ ?_
    clear hK K
    refine wpMix_s (fun K hK => ?_)
    go_simp
    refine hK _ ?_
    clear hK K
    refine wpMix_s (fun K hK => ?_)
    go_simp
    refine hK _ ?_
    clear hK K
    refine wpMix_s (fun K hK => ?_)
    go_simp
    refine hK _ ?_
    clear hK K
    refine wpMix_s (fun K hK => ?_)
    go_simp
    refine hK _ ?_
    clear hK K
    refine wpMix_s (fun K hK => ?_)
    go_simp
    refine hK _ ?_
    clear hK K
    refine wpMix_s (fun K hK => ?_)
    go_simp
    refine hK _ ?_
    clear hK K
    refine wpMix_s (fun K hK => ?_)
    go_simp
    refine hK _ ?_
    clear hK K
    refine wpMix_s (fun K hK => ?_)
    go_simp
    refine hK _ ?_
    clear hK K
    refine wpMix_s (fun K hK => ?_)
    go_simp
    refine hK _ ?_
    clear hK K
    refine wpMix_s (fun K hK => ?_)
    go_simp
    refine hK _ ?_
    clear hK K
    refine wpMix_s (fun K hK => ?_)
    go_simp
    refine hK _ ?_
    clear hK K
    refine wpMix_s (fun K hK => ?_)
    go_simp
    refine hK _ ?_
    clear hK K
    refine wpMix_s (fun K hK => ?_)
    go_simp
    refine hK _ ?_
    clear hK K
    refine wpMix_s (fun K hK => ?_)
    go_simp
    refine hK _ ?_
    clear hK K
    refine wpMix_s (fun K hK => ?_)
    go_simp
    refine hK _ ?_
    clear hK K
    refine wpMix_s (fun K hK => ?_)
    go_simp
    refine hK _ ?_
    clear hK K
    refine wpMix_s (fun K hK => ?_)
    go_simp
    refine hK _ ?_
    clear hK K
    refine wpMix_s (fun K hK => ?_)
    go_simp
    refine hK _ ?_
    clear hK K
    refine wpMix_v (by kernel_rfl) (.slice (some ⟨b, 0, none⟩) (n + 1) cv) (fun s => run_slice_hiB (.tmp 62) (.tmp 66) rfl (some ⟨b, 0, none⟩) n cv (n + 1) rfl (by rfl) hcv s.W) ?_
    simp only [Act.put, List.setIfInBounds_toArray, List.set_cons_succ, List.set_cons_zero]
    refine wpMix_s (fun K hK => ?_)
    go_simp
    refine hK _ ?_
    clear hK K
    refine wpMix_s (fun K hK => ?_)
    go_simp
    refine hK _ ?_
    clear hK K
    refine wpMix_s (fun K hK => ?_)
    go_simp
    refine hK _ ?_
    clear hK K
    refine wpMix_s (fun K hK => ?_)
    go_simp
    refine hK _ ?_
    clear hK K
    refine wpMix_s (fun K hK => ?_)
    go_simp
    refine hK _ ?_
    clear hK K
    refine wpMix_v (by kernel_rfl) (.string ⟨#[109, 97, 114, 107]⟩) (fun s => strM_op (.tmp 72) rfl rfl (S1.out s)) ?_
    simp only [Act.put, List.setIfInBounds_toArray, List.set_cons_succ, List.set_cons_zero]
    refine wpMix_v (by kernel_rfl) (.bool false) (fun s => by kernel_rfl) ?_
    simp only [Act.put, List.setIfInBounds_toArray, List.set_cons_succ, List.set_cons_zero]
    refine wpMix_s (fun K hK => ?_)
    go_simp
    refine hK _ ?_
    clear hK K
    refine wpMix_nil ?_
    intro _
    have b48 := b47.trans (hS.mono hz7)
    have h8 := H7.out.step hS
    have x8 := X7.out.step hS
    have HB8 := Lib.hid (HB4.out.trans (b48.mono hz4))
    have hfe : (MoV.found seg q fe fh fs fr).ents = fe := rfl
    have hbg : (MoV.found seg q fe fh fs fr).begun = [] := rfl
    have ht := fun V (hb : Below Z8.heap.size Z8 V) => told_any _ lo g R _ V (h8.step hb) _ gx Rx (x8.step hb) 0 (by rw [hfe, Hlen.out]; omega) (by decide)
    have hma := fun V (hb : Below Z8.heap.size Z8 V) => mallows_any _ lo g R _ V (h8.step hb) fc E n c fe fh fs fr Hf.out (((He4'.out.step b48).step hb).all) (by rw [hfe, hbg, Hlen.out]; simp; omega)
    have hxa := fun V (hb : Below Z8.heap.size Z8 V) => xallows_any _ gx Rx _ V (x8.step hb) fc E n c fe fh fs fr Hf.out (((He4'.out.step b48).step hb).all) (by rw [hfe, hbg, Hlen.out]; simp; omega)
    obtain ⟨al, hal⟩ : ∃ x, (MoV.found seg q fe fh fs fr).allows fe fh fs fr = x := ⟨_, rfl⟩
    rw [hal] at hma hxa
    have lf := fun s : InC (fun V => Below Z8.heap.size Z8 V) => Hlf.out s.W (b48.trans (s.ok.mono b48.size))
    have Ht := Lib.hid ht
    have Hma := Lib.hid hma
    have Hxa := Lib.hid hxa
    have LF := Lib.hid lf
    clear qa qb qc S1 hS b47 h8 x8 ht hma hxa hal hfe hbg lf
    have hS : Below Z8.heap.size Z8 Z8.drew := (Below.refl _ _).drew
    clear b48
    go_wp2_with fail
    refine wp_region_mix (fun W => Below Z8.heap.size Z8 W) [(0, true), (1, true), (2, true), (3, true), (4, true), (5, false), (6, true), (7, true), (8, true), (10, true), (11, true), (9, false), (12, false), (13, true), (14, true), (15, true), (16, true), (17, false), (18, true), (19, true)] (by kernel_rfl) (by kernel_rfl) hS fun _ => ?_
    simp only [List.map_cons, List.map_nil, Array.getD_eq_getD_getElem?, List.getElem?_toArray, List.getElem?_cons_succ, List.getElem?_cons_zero, Option.getD_some]
    generalize Z8.drew = Y8 at hS ⊢
    refine wpMix_s (fun K hK => ?_)
    go_simp
    refine hK _ ?_
    clear hK K
    refine wpMix_s (fun K hK => ?_)
    go_simp
    refine hK _ ?_
    clear hK K
    refine wpMix_s (fun K hK => ?_)
    go_simp
    refine hK _ ?_
    clear hK K
    refine wpMix_s (fun K hK => ?_)
    go_simp
    refine hK _ ?_
    clear hK K
    refine wpMix_s (fun K hK => ?_)
    go_simp
    refine hK _ ?_
    clear hK K
    refine wpMix_c (fun K hK => ?_) hS
    go_simp
    refine (Ht.out Y8 hS).mono ?_
    rintro e Y8_1 ⟨rfl, hb'⟩
    refine hK _ _ ?_
    clear hK K
    replace hS := hS.trans (hb'.mono hS.size)
    refine ⟨hS, ?_⟩
    clear hb'
    refine wpMix_s (fun K hK => ?_)
    go_simp
    refine hK _ ?_
    clear hK K
    refine wpMix_s (fun K hK => ?_)
    go_simp
    refine hK _ ?_
    clear hK K
    refine wpMix_load (by kernel_rfl) 30 (.tmp 3) rfl (w1.heap.size) (0) rfl fc (LF.out) ?_
    simp only [Act.put, List.setIfInBounds_toArray, List.set_cons_succ, List.set_cons_zero]
    refine wpMix_s (fun K hK => ?_)
    go_simp
    refine hK _ ?_
    clear hK K
    refine wpMix_load (by kernel_rfl) 30 (.tmp 3) rfl (w1.heap.size) (0) rfl fc (LF.out) ?_
    simp only [Act.put, List.setIfInBounds_toArray, List.set_cons_succ, List.set_cons_zero]
    refine wpMix_c (fun K hK => ?_) hS
    go_simp
    refine (Hma.out Y8_1 hS).mono ?_
    rintro e Y8_2 ⟨rfl, hb'⟩
    refine hK _ _ ?_
    clear hK K
    replace hS := hS.trans (hb'.mono hS.size)
    refine ⟨hS, ?_⟩
    clear hb'
    refine wpMix_c (fun K hK => ?_) hS
    go_simp
    refine (Hxa.out Y8_2 hS).mono ?_
    rintro e Y8_3 ⟨rfl, hb'⟩
    refine hK _ _ ?_
    clear hK K
    replace hS := hS.trans (hb'.mono hS.size)
    refine ⟨hS, ?_⟩
    clear hb'
    refine wpMix_s (fun K hK => ?_)
    go_simp
    refine hK _ ?_
    clear hK K
    refine wpMix_s (fun K hK => ?_)
    go_simp
    refine hK _ ?_
    clear hK K
    refine wpMix_s (fun K hK => ?_)
    go_simp
    refine hK _ ?_
    clear hK K
    refine wpMix_s (fun K hK => ?_)
    go_simp
    refine hK _ ?_
    clear hK K
    refine wpMix_c (fun K hK => ?_) hS
    go_simp
    refine (known24_any Y8_3).mono ?_
    rintro e Y8_4 ⟨rfl, hb'⟩
    refine hK _ _ ?_
    clear hK K
    replace hS := hS.trans (hb'.mono hS.size)
    refine ⟨hS, ?_⟩
    clear hb'
    refine wpMix_s (fun K hK => ?_)
    go_simp
    refine hK _ ?_
    clear hK K
    refine wpMix_s (fun K hK => ?_)
    go_simp
    refine hK _ ?_
    clear hK K
    refine wpMix_nil ?_
    intro _
    go_wp2_with fail
    go_ret
    exact ⟨rfl, HB8.out.trans (hS.mono HB8.out.size)⟩
end Go.Proofs.Ytobcfgbkhgkelaa
