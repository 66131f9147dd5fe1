/- notarylaw24.ModelGrows. -/
import Derived.Test.YtobcfgbkhgkelaaQe231
namespace Go.Proofs.Ytobcfgbkhgkelaa
open Go Go.RowKit Go.Shelf
attribute [local go_sem] Oper.semAt_some

/-- the model of it, i entries handed in -/
structure GrM (k : Nat) (fs : Int) (fr : List UInt8) (i : Nat) (m : MoV) : Prop where
  only : m.only = false
  cap : m.cap = 1024
  has : m.has = decide (0 < k)
  pt : m.has = true → fs = m.lastS ∧ fr = m.lastR
  cnt : m.ents.length + m.queue.length ≤ i
  kk : k ≤ i
theorem SlS.stepG {w w' : World} {A : Option Addr} {n c : Nat} {vs : List Value} {ls : List (List UInt8)} (h : SlS w A n c vs ls) (hb : Below w.heap.size w w') : Es w' (· < w.heap.size) A n c ls :=
  h.es.below hb fun _ _ h => h
set_option maxHeartbeats 32000000 in
set_option maxRecDepth 100000 in
theorem modelGrows_any (w : World) (A : Option Addr) (ln c : Nat) (vs : List Value) (ls : List (List UInt8)) (ze zc : Int) (h : SlS w A ln c vs ls) :
    Calls Try.prog 4 #[.slice A ln c, .int .i64 ze, .int .i64 zc] w fun e w' => e = .returned (.bool true) ∧ Below w.heap.size w w' := by
  by_cases hbig : 40 < ln
  · have hd : decide ((40 : Int) < (ln : Int)) = true := by simp; omega
    clear h
    go_enter Try.func4, Try.ntmps4
    go_wp2_with (go_at_call 8; refine (known24_any _).mono ?_; rintro e w2 ⟨rfl, hb2⟩)
    go_ret
    exact ⟨rfl, hb2⟩
  have hd : decide ((40 : Int) < (ln : Int)) = false := by simp; omega
  have hl40 : ln ≤ 40 := by omega
  have hlen := h.len
  have hroom := h.out.room
  have hmx := h.out.max
  unfold maxLen at hmx
  obtain ⟨r, hr, hr5⟩ := rem_natL ze 5 (by decide)
  have hr2 : (ze.tmod 5 + 5) % 5 = (r : Int) := by
    have h1 := (tmod_rangeL ze 5 (by decide)).1
    rw [← hr]
    exact (Int.tmod_eq_emod_of_nonneg (a := ze.tmod 5 + 5) (by have h1 : -5 < ze.tmod 5 := h1; omega)).symm
  obtain ⟨hm1, hm2⟩ := tmod_rangeL ze 5 (by decide)
  have hm1 : -5 < ze.tmod 5 := hm1
  have hm2 : ze.tmod 5 < 5 := hm2
  have hr3 : ze.tmod 5 % 5 = (r : Int) := by omega
  have Hr2 := Lib.hid hr2
  have Hr3 := Lib.hid hr3
  clear hr3
  have Hh := Lib.hid h
  have Hlen := Lib.hid hlen
  clear h hbig hlen hr hr2
  have hwr : IntKind.i64.wrap ((r : Int) + 1) = (r : Int) + 1 := IntWalk.i64_in _ (by omega)
  go_enter Try.func4, Try.ntmps4
  go_wp2_with (first
    | ((with_reducible show wpList _ _ _ (⟨some 31, .build _ _, _, _, _, _⟩ :: _) _ _); refine wpList_runG (by kernel_rfl) (.agg #[.int .i64 1, .int .i64 1024]) _ (by kernel_rfl) ?_; simp only [Act.put, List.setIfInBounds_toArray, List.set_cons_succ, List.set_cons_zero]))
  refine (mnew_any (fun _ => False) 1 1024 w (fun _ h => h.elim) (by decide)).mono ?_
  rintro e w2 ⟨g, R, rfl, h2, b2⟩
  have z2 := b2.size
  go_upto_region 7 with fail
  simp only [Hr2.out, Hr3.out]
  have hnn : ((r : Int) + 1) = ((r + 1 : Nat) : Int) := by omega
  rw [hnn]
  clear hnn
  obtain ⟨nn, hnn⟩ : ∃ x, r + 1 = x := ⟨_, rfl⟩
  rw [hnn]
  have hn1 : 0 < nn := by omega
  have hn5 : nn ≤ 5 := by omega
  clear hnn hr5 hwr hm1 hm2 Hr2 Hr3
  go_upto_region 11 with (first
    | ((with_reducible show wpList _ _ _ (⟨some 46, .build _ _, _, _, _, _⟩ :: _) _ _); refine wpList_runG (by kernel_rfl) (.agg zptC) _ (build0_op rfl built0_pt _) ?_; simp only [Act.put, List.setIfInBounds_toArray, List.set_cons_succ, List.set_cons_zero])
    | ((with_reducible show wpList _ _ _ (⟨some 13, .alloc _, _, _, _, _⟩ :: _) _ _); refine wpList_pnv (n := 0) (l := zh) (.tmp 13) (.tmp 46) rfl rfl rfl rfl rfl rfl zh32 ?_; intro w3 p3 b3; simp only [Act.put, List.setIfInBounds_toArray, List.set_cons_succ, List.set_cons_zero]))
  have h3 : Md (GrZ (.slice none 0 0) (.slice none 0 0) (.slice none 0 0) w2.heap.size) w.heap.size g R (MoV.new 1 1024) w3 := h2.stepZ b3 (fun b hb => by
    rcases hb with hb | hb | hb | hb
    · cases hb
    · cases hb
    · cases hb
    · rw [hb]; exact p3.lt) (fun b hb => .inr (by
    rcases hb with hb | hb | hb | hb
    · cases hb
    · cases hb
    · cases hb
    · rw [hb]; exact Nat.le_refl _))
  have I3 : GrI w w.heap.size w2.heap.size (.slice none 0 0) (.slice none 0 0) (.slice none 0 0) 0 0 zh [] [] g R (MoV.new 1 1024) w3 :=
    ⟨h3, EsO.nil, EsO.nil, ⟨_, World.ownsRow_nil _ _ _ _⟩, p3, z2, (fun _ e => by cases e), b2.trans (b3.mono z2)⟩
  have M3 : GrM 0 0 zh 0 (MoV.new 1 1024) := ⟨rfl, rfl, rfl, (fun e => by cases e), by decide, by decide⟩
  obtain ⟨g13, hg13⟩ : ∃ x, w2.heap.size = x := ⟨_, rfl⟩
  rw [hg13] at I3 ⊢
  clear h3 h2 b2 b3 p3 hg13 z2
  go_wp2_with fail
  refine wp_loop_us (fun us a W => ∃ (i : Nat) (L Wt Rt : Value) (k : Nat) (fs : Int) (fr : List UInt8) (R : MdR) (m : MoV), i ≤ ln ∧ a = { tmps := #[.slice A ln c, us 1, .int .i64 zc, us 3, us 4, us 5, us 6, .pointer (some ⟨g, 0, none⟩), us 8, .int .i64 (nn : Int), Rt, L, Wt, .pointer (some ⟨g13, 0, none⟩), .int .i64 (i : Int), us 15, us 16, us 17, us 18, us 19, us 20, us 21, us 22, us 23, us 24, us 25, us 26, us 27, us 28, us 29, us 30, us 31, us 32, us 33, us 34, us 35, us 36, us 37, us 38, us 39, us 40, us 41, us 42, us 43, us 44, us 45, us 46, us 47, us 48, us 49, us 50, us 51, us 52, us 53, us 54, us 55, us 56, us 57, us 58, us 59, us 60, us 61, us 62, us 63, us 64, us 65, us 66, us 67, us 68, us 69, us 70, us 71, us 72, us 73, us 74, us 75, us 76, us 77, us 78, us 79, us 80, us 81, us 82, us 83, us 84, us 85, us 86, us 87, us 88, us 89, us 90, us 91, us 92, us 93, us 94, us 95, us 96, us 97, us 98, us 99, us 100, us 101, us 102, us 103, us 104, us 105, us 106, us 107, us 108, us 109, us 110, us 111, us 112, us 113, us 114, us 115, us 116, us 117, us 118, us 119, us 120, us 121, us 122, us 123, us 124, us 125, us 126, us 127, us 128, us 129, us 130, us 131, us 132, us 133, us 134, us 135, us 136, us 137, us 138, us 139, us 140, us 141, us 142, us 143, us 144, us 145, us 146, us 147, us 148, us 149, us 150, us 151, us 152, us 153, us 154, us 155, us 156, us 157, us 158, us 159, us 160, us 161, us 162, us 163, us 164, us 165, us 166, us 167, us 168, us 169, us 170, us 171, us 172, us 173, us 174, us 175], defers := [] } ∧ GrI w w.heap.size g13 L Wt Rt k fs fr m.ents m.queue g R m W ∧ GrM k fs fr i m) (fun a _ => ln - (intOf (a.tmps.toList.getD 14 undef)).toNat) ?_ ?_
  · exact ⟨0, _, _, _, 0, 0, zh, R, MoV.new 1 1024, Nat.zero_le _, by kernel_rfl, I3, M3⟩
  · clear I3 M3
    rintro us0 a wr ⟨i, L, Wt, Rt, k, fs, fr, R, m, hi, rfl, hI, hM⟩
    by_cases hgo : i < ln
    · have hd1 : decide ((i : Int) < (ln : Int)) = true := by simp; omega
      have hd2 : decide (i < ln) = true := by simp; omega
      obtain ⟨b, o, rfl, hbl, -, hat⟩ := Hh.out.es.at_ (by omega)
      obtain ⟨Ai, ci, ce0, hsl0⟩ := hat i hgo
      obtain ⟨l, hl⟩ : ∃ x, ls.getD i [] = x := ⟨_, rfl⟩
      rw [hl] at ce0 hsl0
      have hll := hsl0.len
      have hrl := hsl0.room
      have hml := hsl0.max
      unfold maxLen at hml
      obtain ⟨li, hli⟩ : ∃ x, l.length = x := ⟨_, rfl⟩
      rw [hli] at ce0 hsl0 hrl
      have ce : ∀ W, Below w.heap.size w W → W.cell? ⟨b, o + i, none⟩ = some (.slice Ai li ci) := fun W hb => (World.cell?_of_block (hb.block b hbl)).trans ce0
      have hsl : ∀ W, Below w.heap.size w W → Sl W (· < w.heap.size) Ai li ci l := fun W hb => hsl0.below hb fun _ _ h => h
      have cr := ce _ hI.bel
      have hcnt := hM.cnt
      have hkk := hM.kk
      have hsub := msubmitL _ _ g R m wr hI.md hM.only (by rw [hM.cap]; omega) Ai li ci l (hsl _ hI.bel).all (by omega)
      obtain ⟨z, hz⟩ : ∃ x : Int, (if 4096 < li then 3 else 0) = x := ⟨_, rfl⟩
      obtain ⟨bl, hbl'⟩ : ∃ x, decide (li ≤ 4096) = x := ⟨_, rfl⟩
      rw [hz] at hsub
      have f1 : decide ((li : Int) ≤ 4096) = bl := by rw [← hbl']; simp; omega
      have f2 : (z == 0) = bl := by
        rw [← hbl', ← hz]
        split
        · simp; omega
        · simp; omega
      have f3 : decide (z = 0) = bl := by rw [← f2]; rfl
      have Hsub := Lib.hid hsub
      have HI := Lib.hid hI
      have HM := Lib.hid hM
      have Ce := Lib.hid ce
      have Hsl := Lib.hid hsl
      have Hbl := Lib.hid hbl'
      have Hli := Lib.hid hli
      clear hsub hI hM ce hsl hz hat ce0 hsl0 hll hl hli
      go_wp2_with fail
      refine Hsub.out.mono ?_
      rintro e w1 ⟨rfl, hS1⟩
      obtain ⟨R1, hI1, -⟩ := HI.out.call hS1
      have cr1 := Ce.out _ hI1.bel
      have HI1 := Lib.hid hI1
      clear hI1 hS1 Hsub HI cr
      go_upto_region 17 with fail
      rename_i Kc hc K0 h0
      have key : ∀ (a : Act) (Wt : Value) (R : MdR) (m : MoV) (W : World), a = { tmps := #[.slice (some ⟨b, o, none⟩) ln c, (a.tmps.toList.getD 1 undef), .int .i64 zc, (a.tmps.toList.getD 3 undef), (a.tmps.toList.getD 4 undef), (a.tmps.toList.getD 5 undef), (a.tmps.toList.getD 6 undef), .pointer (some ⟨g, 0, none⟩), (a.tmps.toList.getD 8 undef), .int .i64 (nn : Int), Rt, L, Wt, .pointer (some ⟨g13, 0, none⟩), .int .i64 (i : Int), (a.tmps.toList.getD 15 undef), (a.tmps.toList.getD 16 undef), (a.tmps.toList.getD 17 undef), (a.tmps.toList.getD 18 undef), (a.tmps.toList.getD 19 undef), (a.tmps.toList.getD 20 undef), (a.tmps.toList.getD 21 undef), (a.tmps.toList.getD 22 undef), (a.tmps.toList.getD 23 undef), (a.tmps.toList.getD 24 undef), (a.tmps.toList.getD 25 undef), (a.tmps.toList.getD 26 undef), (a.tmps.toList.getD 27 undef), (a.tmps.toList.getD 28 undef), (a.tmps.toList.getD 29 undef), (a.tmps.toList.getD 30 undef), (a.tmps.toList.getD 31 undef), (a.tmps.toList.getD 32 undef), (a.tmps.toList.getD 33 undef), (a.tmps.toList.getD 34 undef), (a.tmps.toList.getD 35 undef), (a.tmps.toList.getD 36 undef), (a.tmps.toList.getD 37 undef), (a.tmps.toList.getD 38 undef), (a.tmps.toList.getD 39 undef), (a.tmps.toList.getD 40 undef), (a.tmps.toList.getD 41 undef), (a.tmps.toList.getD 42 undef), (a.tmps.toList.getD 43 undef), (a.tmps.toList.getD 44 undef), (a.tmps.toList.getD 45 undef), (a.tmps.toList.getD 46 undef), (a.tmps.toList.getD 47 undef), (a.tmps.toList.getD 48 undef), (a.tmps.toList.getD 49 undef), (a.tmps.toList.getD 50 undef), (a.tmps.toList.getD 51 undef), (a.tmps.toList.getD 52 undef), (a.tmps.toList.getD 53 undef), (a.tmps.toList.getD 54 undef), (a.tmps.toList.getD 55 undef), (a.tmps.toList.getD 56 undef), (a.tmps.toList.getD 57 undef), (a.tmps.toList.getD 58 undef), (a.tmps.toList.getD 59 undef), (a.tmps.toList.getD 60 undef), (a.tmps.toList.getD 61 undef), (a.tmps.toList.getD 62 undef), (a.tmps.toList.getD 63 undef), (a.tmps.toList.getD 64 undef), (a.tmps.toList.getD 65 undef), (a.tmps.toList.getD 66 undef), (a.tmps.toList.getD 67 undef), (a.tmps.toList.getD 68 undef), (a.tmps.toList.getD 69 undef), (a.tmps.toList.getD 70 undef), (a.tmps.toList.getD 71 undef), (a.tmps.toList.getD 72 undef), (a.tmps.toList.getD 73 undef), (a.tmps.toList.getD 74 undef), (a.tmps.toList.getD 75 undef), (a.tmps.toList.getD 76 undef), (a.tmps.toList.getD 77 undef), (a.tmps.toList.getD 78 undef), (a.tmps.toList.getD 79 undef), (a.tmps.toList.getD 80 undef), (a.tmps.toList.getD 81 undef), (a.tmps.toList.getD 82 undef), (a.tmps.toList.getD 83 undef), (a.tmps.toList.getD 84 undef), (a.tmps.toList.getD 85 undef), (a.tmps.toList.getD 86 undef), (a.tmps.toList.getD 87 undef), (a.tmps.toList.getD 88 undef), (a.tmps.toList.getD 89 undef), (a.tmps.toList.getD 90 undef), (a.tmps.toList.getD 91 undef), (a.tmps.toList.getD 92 undef), (a.tmps.toList.getD 93 undef), (a.tmps.toList.getD 94 undef), (a.tmps.toList.getD 95 undef), (a.tmps.toList.getD 96 undef), (a.tmps.toList.getD 97 undef), (a.tmps.toList.getD 98 undef), (a.tmps.toList.getD 99 undef), (a.tmps.toList.getD 100 undef), (a.tmps.toList.getD 101 undef), (a.tmps.toList.getD 102 undef), (a.tmps.toList.getD 103 undef), (a.tmps.toList.getD 104 undef), (a.tmps.toList.getD 105 undef), (a.tmps.toList.getD 106 undef), (a.tmps.toList.getD 107 undef), (a.tmps.toList.getD 108 undef), (a.tmps.toList.getD 109 undef), (a.tmps.toList.getD 110 undef), (a.tmps.toList.getD 111 undef), (a.tmps.toList.getD 112 undef), (a.tmps.toList.getD 113 undef), (a.tmps.toList.getD 114 undef), (a.tmps.toList.getD 115 undef), (a.tmps.toList.getD 116 undef), (a.tmps.toList.getD 117 undef), (a.tmps.toList.getD 118 undef), (a.tmps.toList.getD 119 undef), (a.tmps.toList.getD 120 undef), (a.tmps.toList.getD 121 undef), (a.tmps.toList.getD 122 undef), (a.tmps.toList.getD 123 undef), (a.tmps.toList.getD 124 undef), (a.tmps.toList.getD 125 undef), (a.tmps.toList.getD 126 undef), (a.tmps.toList.getD 127 undef), (a.tmps.toList.getD 128 undef), (a.tmps.toList.getD 129 undef), (a.tmps.toList.getD 130 undef), (a.tmps.toList.getD 131 undef), (a.tmps.toList.getD 132 undef), (a.tmps.toList.getD 133 undef), (a.tmps.toList.getD 134 undef), (a.tmps.toList.getD 135 undef), (a.tmps.toList.getD 136 undef), (a.tmps.toList.getD 137 undef), (a.tmps.toList.getD 138 undef), (a.tmps.toList.getD 139 undef), (a.tmps.toList.getD 140 undef), (a.tmps.toList.getD 141 undef), (a.tmps.toList.getD 142 undef), (a.tmps.toList.getD 143 undef), (a.tmps.toList.getD 144 undef), (a.tmps.toList.getD 145 undef), (a.tmps.toList.getD 146 undef), (a.tmps.toList.getD 147 undef), (a.tmps.toList.getD 148 undef), (a.tmps.toList.getD 149 undef), (a.tmps.toList.getD 150 undef), (a.tmps.toList.getD 151 undef), (a.tmps.toList.getD 152 undef), (a.tmps.toList.getD 153 undef), (a.tmps.toList.getD 154 undef), (a.tmps.toList.getD 155 undef), (a.tmps.toList.getD 156 undef), (a.tmps.toList.getD 157 undef), (a.tmps.toList.getD 158 undef), (a.tmps.toList.getD 159 undef), (a.tmps.toList.getD 160 undef), (a.tmps.toList.getD 161 undef), (a.tmps.toList.getD 162 undef), (a.tmps.toList.getD 163 undef), (a.tmps.toList.getD 164 undef), (a.tmps.toList.getD 165 undef), (a.tmps.toList.getD 166 undef), (a.tmps.toList.getD 167 undef), (a.tmps.toList.getD 168 undef), (a.tmps.toList.getD 169 undef), (a.tmps.toList.getD 170 undef), (a.tmps.toList.getD 171 undef), (a.tmps.toList.getD 172 undef), (a.tmps.toList.getD 173 undef), (a.tmps.toList.getD 174 undef), (a.tmps.toList.getD 175 undef)], defers := [] } → GrI w w.heap.size g13 L Wt Rt k fs fr m.ents m.queue g R m W → GrM k fs fr (i + 1) m → Kc a W := by
        clear h0 HI1 HM cr1 Ce Hsl hcnt
        intro a Wt R m W ha hI hM
        obtain ⟨us, hus⟩ : ∃ us, (fun j => a.tmps.toList.getD j undef) = us := ⟨_, rfl⟩
        replace ha : a = { tmps := #[.slice (some ⟨b, o, none⟩) ln c, us 1, .int .i64 zc, us 3, us 4, us 5, us 6, .pointer (some ⟨g, 0, none⟩), us 8, .int .i64 (nn : Int), Rt, L, Wt, .pointer (some ⟨g13, 0, none⟩), .int .i64 (i : Int), us 15, us 16, us 17, us 18, us 19, us 20, us 21, us 22, us 23, us 24, us 25, us 26, us 27, us 28, us 29, us 30, us 31, us 32, us 33, us 34, us 35, us 36, us 37, us 38, us 39, us 40, us 41, us 42, us 43, us 44, us 45, us 46, us 47, us 48, us 49, us 50, us 51, us 52, us 53, us 54, us 55, us 56, us 57, us 58, us 59, us 60, us 61, us 62, us 63, us 64, us 65, us 66, us 67, us 68, us 69, us 70, us 71, us 72, us 73, us 74, us 75, us 76, us 77, us 78, us 79, us 80, us 81, us 82, us 83, us 84, us 85, us 86, us 87, us 88, us 89, us 90, us 91, us 92, us 93, us 94, us 95, us 96, us 97, us 98, us 99, us 100, us 101, us 102, us 103, us 104, us 105, us 106, us 107, us 108, us 109, us 110, us 111, us 112, us 113, us 114, us 115, us 116, us 117, us 118, us 119, us 120, us 121, us 122, us 123, us 124, us 125, us 126, us 127, us 128, us 129, us 130, us 131, us 132, us 133, us 134, us 135, us 136, us 137, us 138, us 139, us 140, us 141, us 142, us 143, us 144, us 145, us 146, us 147, us 148, us 149, us 150, us 151, us 152, us 153, us 154, us 155, us 156, us 157, us 158, us 159, us 160, us 161, us 162, us 163, us 164, us 165, us 166, us 167, us 168, us 169, us 170, us 171, us 172, us 173, us 174, us 175], defers := [] } := by rw [← hus]; exact ha
        clear hus
        subst ha
        refine hc _ _ ?_
        clear hc
        have hcnt := hM.cnt
        obtain ⟨q, hq⟩ : ∃ q : Nat, i % nn = q := ⟨_, rfl⟩
        have hq1 : (i : Int).tmod (nn : Int) = (q : Int) := by rw [← hq]; rfl
        have hq2 : (i : Int) % (nn : Int) = (q : Int) := by rw [← hq]; rfl
        have hwi : IntKind.i64.wrap ((i : Int) + 1) = (i : Int) + 1 := IntWalk.i64_in _ (by omega)
        have hnz : ¬ (nn : Int) = 0 := by omega
        have hnz2 : ((nn : Int) == 0) = false := by simp; omega
        clear hq
        obtain ⟨AL, cL, hLe, hLi⟩ := hI.log.i
        obtain ⟨AW, cW, hWe, hWi⟩ := hI.wait.i
        have hrL := hLi.es.room
        have hmL := hLi.es.max
        have hrW := hWi.es.room
        have hmW := hWi.es.max
        unfold maxLen at hmL hmW
        subst hLe
        subst hWe
        by_cases hq0 : q = 0
        · have dq1 : ((q : Int) == 0) = true := by rw [hq0]; rfl
          have dq2 : decide ((q : Int) = 0) = true := by rw [hq0]; rfl
          have hfl := mflush_any _ _ g R m W hI.md hM.only (by omega)
          have HI := Lib.hid hI
          have HM := Lib.hid hM
          obtain ⟨nl, hnl⟩ : ∃ x, m.ents.length = x := ⟨_, rfl⟩
          obtain ⟨nq, hnq⟩ : ∃ x, m.queue.length = x := ⟨_, rfl⟩
          rw [hnl, hnq] at hfl hcnt
          rw [hnl] at hrL HI ⊢
          rw [hnq] at hrW HI ⊢
          have Hfl := Lib.hid hfl
          have Hnl := Lib.hid hnl
          have Hnq := Lib.hid hnq
          clear hfl hI hM hLi hWi hnl hnq
          go_wp2_with fail
          refine Hfl.out.mono ?_
          rintro e W2 ⟨rfl, hS2⟩
          obtain ⟨R2, hI2, -⟩ := HI.out.call hS2
          obtain ⟨v3, W3, hr3, hI3⟩ := hI2.addL (by rw [Hnl.out, Hnq.out]; omega) AW nq cW rfl
          have hI3 := hI3.noW
          have he3 : m.flush.ents = m.ents ++ m.queue := rfl
          rw [← he3] at hI3
          have ho3 : m.flush.only = false := HM.out.only
          have hc3 : m.flush.cap = 1024 := HM.out.cap
          have hq3 : m.flush.queue = [] := rfl
          have hl3 : m.flush.ents.length = nl + nq := by rw [he3, List.length_append, Hnl.out, Hnq.out]
          obtain ⟨m3, hm3⟩ : ∃ x, m.flush = x := ⟨_, rfl⟩
          rw [hm3] at hI3 ho3 hc3 hq3 hl3
          have Hr3 := Lib.hid hr3
          have HI3 := Lib.hid hI3
          have Ho3 := Lib.hid ho3
          have Hc3 := Lib.hid hc3
          have Hq3 := Lib.hid hq3
          have Hl3 := Lib.hid hl3
          clear hr3 hI3 ho3 hc3 hq3 hl3 hS2 hI2 he3 hm3 Hfl HI
          go_upto_region 25 with ((with_reducible show wpList _ _ _ (⟨some 103, .call _, _, _, _, _⟩ :: _) _ _); refine wpList_runG (by kernel_rfl) v3 W3 (run_append_op (.tmp 101) (.tmp 102) 23 rfl (.slice AL nl cL) (.slice AW nq cW) rfl rfl Hr3.out) ?_; simp only [Act.put, List.setIfInBounds_toArray, List.set_cons_succ, List.set_cons_zero])
          obtain ⟨A4, c4, hLe, hLi⟩ := HI3.out.log.i
          rw [Hl3.out] at hLe hLi
          have hr4 := hLi.es.room
          have hm4 := hLi.es.max
          unfold maxLen at hm4
          subst hLe
          clear hLi
          obtain ⟨n3, hn3⟩ : ∃ x, nl + nq = x := ⟨_, rfl⟩
          rw [hn3] at Hl3 HI3 hr4 ⊢
          have hn3c : n3 ≤ i + 1 := by omega
          have Hn3 := Lib.hid hn3
          clear hn3
          have hsz := msize_any HI3.out.md
          have hro := mroot_ok HI3.out.md n3 (Nat.le_of_eq Hl3.out.symm)
          rw [Hl3.out] at hsz
          obtain ⟨x, hx⟩ : ∃ x, rootL ((lvs m3.ents).take n3) = x := ⟨_, rfl⟩
          have hx32 : x.length = 32 := by rw [← hx]; exact length_rootL _ ((H32.lvs _).take n3)
          have hnow : m3.nowR = x := by rw [← hx]; unfold MoV.nowR; rw [List.take_of_length_le (by rw [lvs_length, Hl3.out]; exact Nat.le_refl _)]
          rw [hx] at hro
          have Hnow := Lib.hid hnow
          have Hro := Lib.hid hro
          clear hx hnow hro
          go_wp2_with fail
          refine hsz.mono ?_
          rintro e W4 ⟨rfl, hw⟩
          obtain rfl := hw.symm
          clear hw hsz
          go_wp2_with fail
          refine Hro.out.mono ?_
          rintro e W5 ⟨rfl, b5⟩
          have hI5 := HI3.out.step b5
          have HI5 := Lib.hid hI5
          clear hI5 b5 HI3 Hro
          go_upto_region 26 with ((with_reducible show wpList _ _ _ (⟨some 19, .alloc _, _, _, _, _⟩ :: _) _ _); refine wpList_hvar (l := x) (.tmp 19) (.tmp 109) rfl rfl rfl rfl rfl rfl hx32 ?_; intro W6 p6 b6; simp only [Act.put, List.setIfInBounds_toArray, List.set_cons_succ, List.set_cons_zero])
          have hI6 := HI5.out.step b6
          have hlt6 : ∀ b, MdW g R2 b → b < W5.heap.size := fun b hb => (HI5.out.md.lt b hb).2
          have hltR : ∀ b, Rt.ownBlock = some b → b < W5.heap.size := fun b hb => HI5.out.zlt b (.inr (.inr (.inl hb)))
          have hpb := mpublish_any _ _ g R2 m3 W6 hI6.md Ho3.out
          rw [Hl3.out, Hnow.out] at hpb
          obtain ⟨g19, hg19⟩ : ∃ x, W5.heap.size = x := ⟨_, rfl⟩
          rw [hg19] at p6 hlt6 hltR ⊢
          have Hpb := Lib.hid hpb
          have HI6 := Lib.hid hI6
          have Hlt6 := Lib.hid hlt6
          have HltR := Lib.hid hltR
          clear hpb hI6 hlt6 hltR b6 hg19 HI5
          go_wp2_with fail
          refine Hpb.out.mono ?_
          rintro e W7 ⟨rfl, hS7⟩
          obtain ⟨R7, hI7, hK7⟩ := HI6.out.call hS7
          have p7 : HV W7 g19 x := ⟨hK7.blk p6.blk (fun hb => by have := Hlt6.out _ hb; omega), hx32⟩
          have HI7 := Lib.hid hI7
          clear hI7 hK7 hS7 Hpb HI6 p6 Hlt6
          go_upto_region 27 with ((with_reducible show wpList _ _ _ (⟨some 21, .alloc _, _, _, _, _⟩ :: _) _ _); refine wpList_pnv (n := n3) (l := x) (.tmp 21) (.tmp 114) rfl rfl rfl rfl rfl rfl hx32 ?_; intro W8 p8 b8; simp only [Act.put, List.setIfInBounds_toArray, List.set_cons_succ, List.set_cons_zero])
          have hI8 := HI7.out.step b8
          have q8 := p7.step b8
          obtain ⟨g21, hg21⟩ : ∃ x, W7.heap.size = x := ⟨_, rfl⟩
          rw [hg21] at p8 ⊢
          have hsz := fun V (hb : Below W8.heap.size W8 V) => msize_any (hI8.step hb).md
          have he8 : m3.publish.ents.length = n3 := Hl3.out
          rw [he8] at hsz
          have l19 : ∀ s : InC (fun V => Below W8.heap.size W8 V), (Instr.loadAt 26 (.pointer (some ⟨g19, 0, none⟩))).run Try.prog s.W = .ok (.agg (x.map B).toArray) s.W := fun s => (q8.step s.ok).load
          have l21 : ∀ s : InC (fun V => Below W8.heap.size W8 V), (Instr.loadAt 26 (.pointer (some ⟨g21, 1, none⟩))).run Try.prog s.W = .ok (.agg (x.map B).toArray) s.W := fun s => (p8.step s.ok).hash
          have c21 : ∀ s : InC (fun V => Below W8.heap.size W8 V), s.W.cell? ⟨g21, 0, none⟩ = some (.int .i64 (n3 : Int)) := fun s => (p8.step s.ok).size
          have Hsz := Lib.hid hsz
          have L19 := Lib.hid l19
          have L21 := Lib.hid l21
          have HI8 := Lib.hid hI8
          have P8 := Lib.hid p8
          have Q8 := Lib.hid q8
          have hS : Below W8.heap.size W8 W8.drew := (Below.refl _ _).drew
          clear hsz l19 l21 hI8 p8 q8 hg21 b8 HI7 p7 he8
          refine wp_region_mix (fun W => Below W8.heap.size W8 W) [(0, true), (1, true), (2, true), (3, true), (4, true), (5, true), (6, true), (7, true), (8, true), (9, true), (10, true), (11, true), (12, true), (13, true), (14, true), (15, true), (16, false), (17, true), (18, true)] (by kernel_rfl) (by kernel_rfl) hS fun _ => ?_
          simp only [List.map_cons, List.map_nil, Array.getD_eq_getD_getElem?, List.getElem?_toArray, List.getElem?_cons_succ, List.getElem?_cons_zero, Option.getD_some]
          generalize W8.drew = V8 at hS ⊢
          refine wpMix_s (fun K hK => ?_)
          go_simp
          refine hK _ ?_
          clear hK K
          refine wpMix_s (fun K hK => ?_)
          go_simp
          refine hK _ ?_
          clear hK K
          refine wpMix_s (fun K hK => ?_)
          go_simp
          refine hK _ ?_
          clear hK K
          refine wpMix_s (fun K hK => ?_)
          go_simp
          refine hK _ ?_
          clear hK K
          refine wpMix_s (fun K hK => ?_)
          go_simp
          refine hK _ ?_
          clear hK K
          refine wpMix_s (fun K hK => ?_)
          go_simp
          refine hK _ ?_
          clear hK K
          refine wpMix_s (fun K hK => ?_)
          go_simp
          refine hK _ ?_
          clear hK K
          refine wpMix_s (fun K hK => ?_)
          go_simp
          refine hK _ ?_
          clear hK K
          refine wpMix_load (by kernel_rfl) 26 (.tmp 123) rfl (g21) (1) rfl (x.map B).toArray (L21.out) ?_
          simp only [Act.put, List.setIfInBounds_toArray, List.set_cons_succ, List.set_cons_zero]
          refine wpMix_load (by kernel_rfl) 26 (.tmp 19) rfl (g19) (0) rfl (x.map B).toArray (L19.out) ?_
          simp only [Act.put, List.setIfInBounds_toArray, List.set_cons_succ, List.set_cons_zero]
          refine wpMix_v (by kernel_rfl) (.bool false) (fun s => run_neq26_f (.tmp 124) (.tmp 125) _ x x rfl rfl rfl hx32 hx32 rfl s.W) ?_
          simp only [Act.put, List.setIfInBounds_toArray, List.set_cons_succ, List.set_cons_zero]
          refine wpMix_s (fun K hK => ?_)
          go_simp
          refine hK _ ?_
          clear hK K
          refine wpMix_s (fun K hK => ?_)
          go_simp
          refine hK _ ?_
          clear hK K
          refine wpMix_s (fun K hK => ?_)
          go_simp
          refine hK _ ?_
          clear hK K
          refine wpMix_s (fun K hK => ?_)
          go_simp
          refine hK _ ?_
          clear hK K
          refine wpMix_s (fun K hK => ?_)
          go_simp
          refine hK _ ?_
          clear hK K
          refine wpMix_c (fun K hK => ?_) hS
          go_simp
          refine (Hsz.out V8 hS).mono ?_
          rintro e V8e ⟨rfl, hww⟩
          obtain rfl := hww.symm
          refine hK _ _ ?_
          clear hK K
          refine ⟨hS, ?_⟩
          refine wpMix_s (fun K hK => ?_)
          go_simp
          refine hK _ ?_
          clear hK K
          refine wpMix_s (fun K hK => ?_)
          go_simp
          refine hK _ ?_
          clear hK K
          refine wpMix_nil ?_
          intro _
          go_upto_region 29 with fail
          have hI9 := HI8.out.step hS
          have p9 := P8.out.step hS
          have q9 := Q8.out.step hS
          obtain ⟨xs9, ho9⟩ := hI9.roots
          have k19 : ∀ s : InC (fun V => KB (fun b => Rt.ownBlock = some b) V8 V), (Instr.loadAt 26 (.pointer (some ⟨g19, 0, none⟩))).run Try.prog s.W = .ok (.agg (x.map B).toArray) s.W := fun s => HV.load ⟨s.ok.blk q9.blk (fun hb => by have := HltR.out _ hb; omega), hx32⟩
          have k21 : ∀ s : InC (fun V => KB (fun b => Rt.ownBlock = some b) V8 V), (Instr.loadAt 28 (.pointer (some ⟨g21, 0, none⟩))).run Try.prog s.W = .ok (.agg (.int .i64 (n3 : Int) :: x.map B).toArray) s.W := fun s => PB.load ⟨s.ok.blk p9.blk (fun hb => own_ty ho9 p9.blk (by decide) hb), hx32⟩
          have hT : KB (fun b => Rt.ownBlock = some b) V8 V8.drew := KB.of_below (Below.refl _ _).drew
          have hI0 := hI9.step (Below.refl _ _).drew
          have K19 := Lib.hid k19
          have K21 := Lib.hid k21
          have hkk1 := HM.out.kk
          clear k19 k21 hI9 p9 q9 ho9 hS HI8 P8 Q8 Hsz L19 L21 c21 HltR
          refine wp_region_mix_last (fun V => KB (fun b => Rt.ownBlock = some b) V8 V) 6 [(0, true), (1, true), (4, true), (2, false), (3, false), (5, true)] (by kernel_rfl) (by kernel_rfl) hT fun _ => ?_
          simp only [List.map_cons, List.map_nil, Array.getD_eq_getD_getElem?, List.getElem?_toArray, List.getElem?_cons_succ, List.getElem?_cons_zero, Option.getD_some]
          generalize V8.drew = Y0 at hT hI0 ⊢
          refine wpMix_s (fun K hK => ?_)
          go_simp
          refine hK _ ?_
          clear hK K
          refine wpMix_load (by kernel_rfl) 26 (.tmp 19) rfl (g19) (0) rfl (x.map B).toArray (K19.out) ?_
          simp only [Act.put, List.setIfInBounds_toArray, List.set_cons_succ, List.set_cons_zero]
          refine wpMix_load (by kernel_rfl) 28 (.tmp 21) rfl (g21) (0) rfl (.int .i64 (n3 : Int) :: x.map B).toArray (K21.out) ?_
          simp only [Act.put, List.setIfInBounds_toArray, List.set_cons_succ, List.set_cons_zero]
          refine wpMix_run (by kernel_rfl) (.slice (some ⟨Y0.heap.size, 0, none⟩) 1 1) (Y0.alloc (.cells (hcells [x]).toArray 26)) (run_litH_op x hx32 (.tmp 136) rfl rfl Y0) (hT.trans (KB.of_below ((Below.refl _ _).alloc (Nat.le_refl _) _))) ?_
          simp only [Act.put, List.setIfInBounds_toArray, List.set_cons_succ, List.set_cons_zero]
          obtain ⟨v', Y1, hr', hI', hg'⟩ := hI0.addR (by omega) x hx32
          refine wpMix_run (by kernel_rfl) v' Y1 (run_append_op (.tmp 135) (.tmp 137) 33 rfl _ _ rfl rfl hr') (hT.trans (KB.of_grown hg' fun r e => e)) ?_
          simp only [Act.put, List.setIfInBounds_toArray, List.set_cons_succ, List.set_cons_zero]
          refine wpMix_s (fun K hK => ?_)
          go_simp
          refine hK _ ?_
          clear hK K
          refine wpMix_nil ?_
          intro _
          simp only [List.drop_succ_cons, List.drop_zero]
          refine wpList_store_blk rfl 28 (.tmp 13) (.tmp 139) rfl 33 ptSize g13 (.int .i64 (n3 : Int) :: x.map B).toArray rfl rfl (by simp [hx32]) (oneCell_pt _ _) 28 _ hI'.p.blk (by simp [hI'.p.rl]) ?_
          simp only [Act.put]
          have hI10 := hI'.setP (n3 : Int) x hx32
          obtain ⟨W10, hW10⟩ : ∃ y, Y1.setRow g13 (.int .i64 (n3 : Int) :: x.map B).toArray = y := ⟨_, rfl⟩
          rw [hW10] at hI10 ⊢
          have hM10 : GrM (k + 1) (n3 : Int) x (i + 1) m3.publish := ⟨Ho3.out, Hc3.out, by simp [MoV.publish], fun _ => ⟨by show (n3 : Int) = (m3.ents.length : Int); rw [Hl3.out], Hnow.out.symm⟩, by show m3.ents.length + m3.queue.length ≤ i + 1; rw [Hl3.out, Hq3.out]; exact hn3c, by omega⟩
          have HI10 := Lib.hid hI10
          have HM10 := Lib.hid hM10
          clear hI10 hM10 hW10 hT hI' hI0 K19 K21 hkk1 hr' hg' HM
          refine np_normal ?_
          go_wp2_with fail
          refine wp_loop_us (fun us a W => ∃ r : Nat, r ≤ n3 ∧ a = { tmps := #[.slice (some ⟨b, o, none⟩) ln c, us 1, .int .i64 zc, us 3, us 4, us 5, us 6, .pointer (some ⟨g, 0, none⟩), us 8, .int .i64 (nn : Int), v', .slice A4 n3 c4, .slice none 0 0, .pointer (some ⟨g13, 0, none⟩), .int .i64 (i : Int), us 15, us 16, us 17, us 18, us 19, us 20, us 21, us 22, .int .i64 (r : Int), us 24, us 25, us 26, us 27, us 28, us 29, us 30, us 31, us 32, us 33, us 34, us 35, us 36, us 37, us 38, us 39, us 40, us 41, us 42, us 43, us 44, us 45, us 46, us 47, us 48, us 49, us 50, us 51, us 52, us 53, us 54, us 55, us 56, us 57, us 58, us 59, us 60, us 61, us 62, us 63, us 64, us 65, us 66, us 67, us 68, us 69, us 70, us 71, us 72, us 73, us 74, us 75, us 76, us 77, us 78, us 79, us 80, us 81, us 82, us 83, us 84, us 85, us 86, us 87, us 88, us 89, us 90, us 91, us 92, us 93, us 94, us 95, us 96, us 97, us 98, us 99, us 100, us 101, us 102, us 103, us 104, us 105, us 106, us 107, us 108, us 109, us 110, us 111, us 112, us 113, us 114, us 115, us 116, us 117, us 118, us 119, us 120, us 121, us 122, us 123, us 124, us 125, us 126, us 127, us 128, us 129, us 130, us 131, us 132, us 133, us 134, us 135, us 136, us 137, us 138, us 139, us 140, us 141, us 142, us 143, us 144, us 145, us 146, us 147, us 148, us 149, us 150, us 151, us 152, us 153, us 154, us 155, us 156, us 157, us 158, us 159, us 160, us 161, us 162, us 163, us 164, us 165, us 166, us 167, us 168, us 169, us 170, us 171, us 172, us 173, us 174, us 175], defers := [] } ∧ Below W10.heap.size W10 W) (fun a _ => n3 - (intOf (a.tmps.toList.getD 23 undef)).toNat) ?_ ?_
          · exact ⟨0, Nat.zero_le _, by kernel_rfl, Below.refl _ _⟩
          · clear us
            rintro us a Wr ⟨r, hr, rfl, hb10⟩
            have hI11 := HI10.out.step hb10
            by_cases hrn : r < n3
            · have dr1 : decide ((r : Int) < (n3 : Int)) = true := by simp; omega
              have dr2 : decide (r < n3) = true := by simp; omega
              have hwr : IntKind.i64.wrap ((r : Int) + 1) = (r : Int) + 1 := IntWalk.i64_in _ (by omega)
              have hrd := mread_any _ _ g R7 m3.publish Wr hI11.md r (by show r < m3.ents.length; rw [Hl3.out]; exact hrn)
              have hge : m3.publish.ents.getD r [] = m3.ents.getD r [] := rfl
              rw [hge] at hrd
              obtain ⟨lr, hlr⟩ : ∃ y, m3.ents.getD r [] = y := ⟨_, rfl⟩
              rw [hlr] at hrd
              obtain ⟨Ax, cx, hLe, hLi⟩ := hI11.log.i
              injection hLe with e1 e2 e3
              subst e1
              subst e3
              rw [← e2] at hLi
              clear e2
              obtain ⟨bL, oL, rfl, hblL, -, hatL⟩ := hLi.es.at_ (by omega)
              obtain ⟨Ar, cr, ceL, hslL⟩ := hatL r hrn
              rw [hlr] at ceL hslL
              have hrr := hslL.room
              have hmr := hslL.max
              unfold maxLen at hmr
              obtain ⟨lrl, hlrl⟩ : ∃ y, lr.length = y := ⟨_, rfl⟩
              rw [hlrl] at hrd ceL hslL hrr
              have Hrd := Lib.hid hrd
              clear hrd hge hatL hLi hlr hI11 hlrl
              go_wp2_with fail
              refine Hrd.out.mono ?_
              rintro e W12 ⟨A12, c12, rfl, hs12, b12⟩
              have hb12 := hb10.trans (b12.mono hb10.size)
              have hs12' := hs12.all
              have hslL' := hslL.step b12
              have c160 : ∀ s : InC (fun V => Below W12.heap.size W12 V), s.W.cell? ⟨bL, oL + r, none⟩ = some (.slice Ar lrl cr) := fun s => (World.cell?_of_block (s.ok.block bL (Nat.lt_of_lt_of_le hblL b12.size))).trans ((World.cell?_of_block (b12.block bL hblL)).trans ceL)
              have hr12 := hs12.room
              have hm12 := hs12.max
              unfold maxLen at hm12
              have S1 : ∀ s : InC (fun V => Below W12.heap.size W12 V), Sl s.W (fun _ => True) A12 lrl c12 lr := fun s => hs12'.step s.ok
              have S2 : ∀ s : InC (fun V => Below W12.heap.size W12 V), Sl s.W (fun _ => True) Ar lrl cr lr := fun s => hslL'.step s.ok
              have HS1 := Lib.hid S1
              have HS2 := Lib.hid S2
              have hS : Below W12.heap.size W12 W12.drew := (Below.refl _ _).drew
              clear S1 S2 hs12 hs12' hslL hslL' b12 ceL Hrd
              go_upto_region 34 with fail
              refine wp_region_mix (fun W => Below W12.heap.size W12 W) [(0, true), (1, true), (2, true), (3, true), (4, true), (5, true), (6, true), (7, true), (8, true), (9, true), (10, true), (11, true)] (by kernel_rfl) (by kernel_rfl) hS fun _ => ?_
              simp only [List.map_cons, List.map_nil, Array.getD_eq_getD_getElem?, List.getElem?_toArray, List.getElem?_cons_succ, List.getElem?_cons_zero, Option.getD_some]
              generalize W12.drew = V12 at hS ⊢
              refine wpMix_s (fun K hK => ?_)
              go_simp
              refine hK _ ?_
              clear hK K
              refine wpMix_s (fun K hK => ?_)
              go_simp
              refine hK _ ?_
              clear hK K
              refine wpMix_s (fun K hK => ?_)
              go_simp
              refine hK _ ?_
              clear hK K
              refine wpMix_s (fun K hK => ?_)
              go_simp
              refine hK _ ?_
              clear hK K
              refine wpMix_v (by kernel_rfl) (.string (bstr lr)) (fun s => strM_op (.tmp 155) rfl rfl (HS1.out s)) ?_
              simp only [Act.put, List.setIfInBounds_toArray, List.set_cons_succ, List.set_cons_zero]
              refine wpMix_s (fun K hK => ?_)
              go_simp
              refine hK _ ?_
              clear hK K
              refine wpMix_s (fun K hK => ?_)
              go_simp
              refine hK _ ?_
              clear hK K
              refine wpMix_s (fun K hK => ?_)
              go_simp
              refine hK _ ?_
              clear hK K
              refine wpMix_s (fun K hK => ?_)
              go_simp
              refine hK _ ?_
              clear hK K
              refine wpMix_v (by kernel_rfl) (.string (bstr lr)) (fun s => strM_op (.tmp 160) rfl rfl (HS2.out s)) ?_
              simp only [Act.put, List.setIfInBounds_toArray, List.set_cons_succ, List.set_cons_zero]
              refine wpMix_v (by kernel_rfl) (.bool false) (fun s => run_neqstr_fG (.tmp 156) (.tmp 161) _ lr rfl rfl rfl s.W) ?_
              simp only [Act.put, List.setIfInBounds_toArray, List.set_cons_succ, List.set_cons_zero]
              refine wpMix_s (fun K hK => ?_)
              go_simp
              refine hK _ ?_
              clear hK K
              refine wpMix_nil ?_
              intro _
              have hb13 := hb12.trans (hS.mono hb12.size)
              clear hS HS1 HS2 c160 hb12 hb10
              go_wp2_with fail
              refine ⟨⟨r + 1, by omega, by kernel_rfl, hb13⟩, ?_⟩
              simp [intOf]
              omega
            · obtain rfl : r = n3 := by omega
              have HI11 := Lib.hid hI11
              clear hI11
              go_wp2_with fail
              refine ⟨⟨i + 1, _, _, _, k + 1, (r : Int), x, R7, m3.publish, by omega, by kernel_rfl, by rw [show m3.publish.ents = m3.ents from rfl, show m3.publish.queue = [] from Hq3.out]; exact HI11.out, HM10.out⟩, ?_⟩
              simp [intOf]
              omega
        · have dq1 : ((q : Int) == 0) = false := by simp; omega
          have dq2 : decide ((q : Int) = 0) = false := by simp; omega
          have HI := Lib.hid hI
          have HM := Lib.hid hM
          clear hI hM hLi hWi hrL hmL hrW hmW
          go_wp2_with fail
          refine ⟨⟨i + 1, _, _, Rt, k, fs, fr, R, m, by omega, by kernel_rfl, HI.out, HM.out⟩, ?_⟩
          simp [intOf]
          omega
      clear hc
      obtain ⟨e1, e2, e3, e4, e5, e6⟩ := subM_keeps m l
      have hM := HM.out
      cases bl with
      | true =>
        have hli4 : ¬ 4096 < l.length := by have := Hbl.out; have := Hli.out; simp only [decide_eq_true_eq] at *; omega
        have hsm : (subM m l).queue = m.queue ++ [l] := by unfold subM; rw [if_neg hli4]
        have hM1 : GrM k fs fr (i + 1) (subM m l) := ⟨e2.trans hM.only, e3.trans hM.cap, e4.trans hM.has, fun h => by rw [e5, e6]; exact hM.pt (e4 ▸ h), by rw [e1, hsm, List.length_append, List.length_singleton]; omega, by omega⟩
        obtain ⟨v', W', hr, hI'⟩ := HI1.out.addW (by omega) l Ai ci (by rw [Hli.out]; exact Hsl.out _ HI1.out.bel)
        rw [← hsm, ← e1] at hI'
        rw [Hli.out] at hr
        have Hr := Lib.hid hr
        have HI' := Lib.hid hI'
        have HM1 := Lib.hid hM1
        clear hr hI' hM1 hM e1 e2 e3 e4 e5 e6 hsm hli4 HI1 HM Hsl Ce hcnt
        go_wp2_with (first
    | ((with_reducible show wpList _ _ _ (⟨some 75, .buildSlice _ _ _, _, _, _, _⟩ :: _) _ _); refine wpList_runG (by kernel_rfl) (.slice (some ⟨w1.heap.size, 0, none⟩) 1 1) (w1.alloc (.cells #[.slice Ai li ci] 22)) (by kernel_rfl) ?_; simp only [Act.put, List.setIfInBounds_toArray, List.set_cons_succ, List.set_cons_zero])
    | ((with_reducible show wpList _ _ _ (⟨some 76, .call _, _, _, _, _⟩ :: _) _ _); refine wpList_runG (by kernel_rfl) v' W' (run_append_op (.tmp 70) (.tmp 75) 23 rfl Wt _ rfl rfl Hr.out) ?_; simp only [Act.put, List.setIfInBounds_toArray, List.set_cons_succ, List.set_cons_zero]))
        exact key _ v' R1 (subM m l) W' (by kernel_rfl) HI'.out HM1.out
      | false =>
        have hli4 : 4096 < l.length := by have := Hbl.out; have := Hli.out; simp only [decide_eq_false_iff_not] at *; omega
        have hsm : subM m l = m := by unfold subM; rw [if_pos hli4]
        have hI1 := HI1.out
        rw [hsm] at hI1
        have hM1 : GrM k fs fr (i + 1) m := ⟨hM.only, hM.cap, hM.has, hM.pt, by omega, by omega⟩
        have HI' := Lib.hid hI1
        have HM1 := Lib.hid hM1
        clear hI1 hM1 hM e1 e2 e3 e4 e5 e6 hsm hli4 HI1 HM Hsl Ce hcnt
        go_wp2_with fail
        exact key _ Wt R1 m w1 (by kernel_rfl) HI'.out HM1.out
    · obtain rfl : i = ln := by omega
      obtain ⟨AL, cL, hLe, hLi⟩ := hI.log.i
      obtain ⟨AW, cW, hWe, hWi⟩ := hI.wait.i
      obtain ⟨xs, ho⟩ := hI.roots
      obtain ⟨AR, cR, hRe, hRs⟩ := owns_slv ho
      have hg := hI.md.low
      have hgz : ¬ GrZ L Wt Rt g13 g := hI.md.zno g (.inl rfl)
      obtain ⟨AL', cL', hLe', hel⟩ := hI.log.esW (Y := fun b => b ≠ g) (fun b hb e => hgz (.inl (by rw [← e]; exact hb))) (fun b _ hb e => by have hb : b < w.heap.size := hb; omega)
      obtain ⟨AW', cW', hWe', hew⟩ := hI.wait.esW (Y := fun b => b ≠ g) (fun b hb e => hgz (.inr (.inl (by rw [← e]; exact hb)))) (fun b _ hb e => by have hb : b < w.heap.size := hb; omega)
      have hlo := lost_any _ w.heap.size g R m wr hI.md hM.only (by rw [hM.cap]; decide) AL' AW' m.ents.length cL' m.queue.length cW' m.has fs fr zc hel hew hI.p.rl rfl hM.pt (by have := hM.cnt; omega)
      have hrL := hLi.es.room
      have hmL := hLi.es.max
      have hrW := hWi.es.room
      have hmW := hWi.es.max
      have hrR := hRs.room
      have hmR := hRs.max
      unfold maxLen at hmL hmW hmR
      rw [hLe] at hLe'
      rw [hWe] at hWe'
      injection hLe' with a1 a2 a3
      injection hWe' with a4 a5 a6
      subst a1 a3 a4 a6
      subst hLe hWe hRe
      have hpl := hI.p.load
      have hhas := hM.has
      have hB := hI.bel
      obtain ⟨nl, hnl⟩ : ∃ x, m.ents.length = x := ⟨_, rfl⟩
      obtain ⟨nq, hnq⟩ : ∃ x, m.queue.length = x := ⟨_, rfl⟩
      obtain ⟨fh, hfh⟩ : ∃ x, m.has = x := ⟨_, rfl⟩
      rw [hnl, hnq, hfh] at hlo
      rw [hnl] at hrL ⊢
      rw [hnq] at hrW ⊢
      rw [hfh] at hhas
      have d1 : decide ((0 : Int) < (k : Int)) = fh := by rw [hhas]; simp
      have d2 : decide (0 < k) = fh := hhas.symm
      have Hlo := Lib.hid hlo
      have Hpl := Lib.hid hpl
      have HB := Lib.hid hB
      clear hlo hpl hB hI hM hhas hel hew hLi hWi hRs ho hnl hnq hfh hgz hg Hh Hlen
      go_wp2_with ((with_reducible show wpList _ _ _ (⟨some 167, .load _ _, _, _, _, _⟩ :: _) _ _); refine wpList_runG (by kernel_rfl) _ _ (loadN_op 28 (.tmp 13) g13 rfl rfl Hpl.out) ?_; simp only [Act.put, List.setIfInBounds_toArray, List.set_cons_succ, List.set_cons_zero])
      refine Hlo.out.mono ?_
      rintro e W1 ⟨rfl, b1⟩
      have B1 := HB.out.trans b1
      clear Hlo Hpl HB b1
      go_wp2_with fail
      refine (known24_any W1).mono ?_
      rintro e W2 ⟨rfl, b2⟩
      have B2 := B1.trans (b2.mono B1.size)
      clear B1 b2
      go_wp2_with fail
      go_ret
      exact ⟨rfl, B2⟩
end Go.Proofs.Ytobcfgbkhgkelaa
