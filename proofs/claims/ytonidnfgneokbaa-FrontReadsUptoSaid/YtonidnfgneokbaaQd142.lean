/- notaryref10.From. -/
import Derived.Test.YtonidnfgneokbaaQd141
namespace Go.Proofs.Ytonidnfgneokbaa
open Go Go.RowKit Go.Shelf
attribute [local go_sem] Oper.semAt_some

theorem builtPq (n : Int) (l : List UInt8) (h : l.length = 32) : Try.prog.built 93 [(0, .int .i64 n), (1, .agg (l.map B).toArray)] = some (.int .i64 n :: l.map B).toArray := by
  obtain ⟨a0, a1, a2, a3, a4, a5, a6, a7, a8, a9, a10, a11, a12, a13, a14, a15, a16, a17, a18, a19, a20, a21, a22, a23, a24, a25, a26, a27, a28, a29, a30, a31, rfl⟩ := explode32 l h
  kernel_rfl
theorem run_build_pq_op (lv : Int) (x : List UInt8) (hx : x.length = 32) {ρ : Operand → Value} {o : Oper} (y z : Operand) (ho : o.op = .build 93 #[(0, y), (1, z)]) (hy : ρ y = .int .i64 lv) (hz : ρ z = .agg (x.map B).toArray) (W : World) : (execOp ρ o).run Try.prog W = .ok (.value (.agg (Value.int .i64 lv :: x.map B).toArray)) W := by
  have h : (Instr.build 93 #[(0, .int .i64 lv), (1, .agg (x.map B).toArray)]).run Try.prog W = .ok (.agg (Value.int .i64 lv :: x.map B).toArray) W := run_build W 93 _ _ (builtPq lv x hx)
  unfold execOp
  have hm : (#[(0, y), (1, z)] : Array (Nat × Operand)).map (fun (i, x) => (i, ρ x)) = #[(0, .int .i64 lv), (1, .agg (x.map B).toArray)] := by simp [hy, hz]
  simp only [ho, Sem.run_bind, Sem.run_pure, hm, h, Result.andThen_ok]
structure RmC (w : World) (g b1 : Nat) (v : Value) (m : Nat) (cur : FrV) (W : World) : Prop where
  len : cur.length = m
  obj : Blk W g 91 #[v]
  own : W.ownsRow b1 93 33 v m (pccells (fpq cur))
  bel : Below w.heap.size w W
  all : F32 cur
theorem RmC.step {w W W' : World} {g b1 m : Nat} {v : Value} {cur : FrV} (h : RmC w g b1 v m cur W) (hb : Below W.heap.size W W') : RmC w g b1 v m cur W' := ⟨h.len, h.obj.step hb, owns_step h.own hb, h.bel.trans (hb.mono h.bel.size), h.all⟩
theorem RmC.frp {w W : World} {g b1 m : Nat} {v : Value} {cur : FrV} (h : RmC w g b1 v m cur W) : FrPF W b1 g cur := by
  obtain ⟨A, c, rfl, hs⟩ := Pcs.of_owns h.own ((length_fpq cur).trans h.len) (fpq_32 cur h.all)
  exact ⟨A, _, c, h.obj, hs.weak fun b _ hb => hb.1⟩
theorem levelsF_le (n : Nat) : ∀ k, (levelsF n k).length ≤ k := by
  intro k
  induction k with
  | zero => exact Nat.le_refl _
  | succ k ih =>
    unfold levelsF
    split
    · rw [List.length_cons]; omega
    · omega
theorem zip_take_succ (ls : List Nat) (hs : List (List UInt8)) (k : Nat) (h1 : k < ls.length) (h2 : k < hs.length) : (ls.zip hs).take (k + 1) = (ls.zip hs).take k ++ [(ls.getD k 0, hs.getD k [])] := by
  have h : k < (ls.zip hs).length := by rw [List.length_zip]; omega
  rw [List.take_succ_eq_append_getElem h, List.getElem_zip, List.getD_eq_getElem?_getD, List.getElem?_eq_getElem h1, List.getD_eq_getElem?_getD, List.getElem?_eq_getElem h2]
  rfl

set_option maxHeartbeats 4000000 in
set_option maxRecDepth 100000 in
theorem rfrom_any (size : Int) (hs : List (List UInt8)) (A : Option Addr) (n c : Nat) (w : World) (h : Hs w (fun _ => True) A n c hs) (hz : size ≤ 9223372036854775807) :
    Calls Try.prog 56 #[.int .i64 size, .slice A n c] w fun e w' => ∃ v, e = .returned (.tuple #[v, .int .i64 (fromE size hs).2]) ∧ FrPOpt w' w.heap.size v (fromE size hs).1 ∧ Below w.heap.size w w' := by
  have hlen := h.len
  have hroom := h.sl.room
  have hmx := h.sl.max
  unfold maxLen at hmx
  obtain ⟨res, hres⟩ : ∃ r, fromE size hs = r := ⟨_, rfl⟩
  rw [hres]
  unfold fromE at hres
  rcases Int.lt_or_le size 0 with hneg | hpos
  · rw [if_pos hneg] at hres
    subst hres
    have hd : decide (size < 0) = true := by simp; omega
    go_enter Try.func56, Try.ntmps56
    go_wp2_with fail
    exact bodyPost_ret (results_tmp2 rfl _ _ _) rfl ⟨_, rfl, .inl ⟨rfl, rfl⟩, Below.refl _ _⟩
  have hd0 : decide (size < 0) = false := by simp; omega
  have hd0' : ¬ size < 0 := by omega
  obtain ⟨sz, rfl⟩ : ∃ l : Nat, size = l := ⟨size.toNat, by omega⟩
  rw [if_neg hd0', Int.toNat_natCast] at hres
  have hsz := rsizes_any sz w (by omega)
  have hl63 := levelsF_le sz 63
  have hl62 : ∀ l ∈ levelsF sz 63, l ≤ 62 := fun l hl => by have := levelsF_lt sz 63 l hl; omega
  obtain ⟨ls, hls⟩ : ∃ ls, levelsF sz 63 = ls := ⟨_, rfl⟩
  rw [hls] at hres hsz hl62 hl63
  rw [hlen] at hres
  have Hsz := Lib.hid hsz
  have Hlen := Lib.hid hlen
  have Hh := Lib.hid h
  have Hl62 := Lib.hid hl62
  clear hsz hlen h hls hz hl62
  obtain ⟨m, hm⟩ : ∃ m, ls.length = m := ⟨_, rfl⟩
  rw [hm] at Hsz hres hl63
  by_cases hmn : m = n
  · subst hmn
    rw [if_neg (by simp)] at hres
    have Hres := Lib.hid hres
    have Hm := Lib.hid hm
    have hne : (!((m : Int) == (m : Int))) = false := by simp
    clear hres hm
    go_enter Try.func56, Try.ntmps56
    go_wp2_with (first
      | (go_at_call 128; refine Hsz.out.mono ?_; rintro e w1 ⟨v6, rfl, ho6, hb1⟩; obtain ⟨A6, c6, rfl, hs6⟩ := owns_slv ho6; have hm6 := hs6.max; have hr6 := hs6.room; unfold maxLen at hm6))
    have k1 : Blk (w1.alloc (.cells #[.slice none 0 0] 91)) w1.heap.size 91 #[.slice none 0 0] := Blk.new _ _ _
    have hbA : Below w1.heap.size w1 (w1.alloc (.cells #[.slice none 0 0] 91)) := (Below.refl _ _).alloc (Nat.le_refl _) _
    generalize w1.alloc (.cells #[.slice none 0 0] 91) = w2 at k1 hbA ⊢
    have hg1 := k1.lt
    have hgw := hb1.size
    have hS6 : SlV w2 (fun b => b < w1.heap.size) A6 m c6 1 (powC ls) := (hs6.weak fun b hb _ => hb).step hbA
    have hbel := hb1.trans (hbA.mono hb1.size)
    have hC : RmC w w1.heap.size w2.heap.size (.slice none 0 0) 0 [] w2 := ⟨rfl, k1, World.ownsRow_nil _ _ _ _, hbel, fun _ h => by cases h⟩
    obtain ⟨g, hge⟩ : ∃ g, w1.heap.size = g := ⟨_, rfl⟩
    obtain ⟨b1, hb1e⟩ : ∃ b, w2.heap.size = b := ⟨_, rfl⟩
    have hbs : b1 ≤ w2.heap.size := by omega
    rw [hge] at hC hg1 hS6 hgw ⊢
    rw [hb1e] at hC hg1
    clear k1 hb1 hbA hb1e hge hs6 ho6 hbel Hsz
    go_loopw [8] (fun v8 wr => ∃ (k : Nat) (v : Value), k ≤ m ∧ v8 = .int .i64 (k : Int) ∧ RmC w g b1 v k ((ls.zip hs).take k) wr ∧ SlV wr (fun b => b < g) A6 m c6 1 (powC ls) ∧ b1 ≤ wr.heap.size) (fun v8 _ => m - (intOf v8).toNat)
    case atStart => exact ⟨0, _, Nat.zero_le _, rfl, by rw [List.take_zero]; exact hC, hS6, hbs⟩
    case round =>
      clear hC hS6 hbs
      obtain ⟨k, v, hk, rfl, hC, hS6, hbs⟩ := hrel
      obtain ⟨A7, c7, rfl, -⟩ := owns_slv hC.own
      by_cases hkn : k < m
      · have hd : decide ((k : Int) < (m : Int)) = true := by simp; omega
        have hwk : IntKind.i64.wrap ((k : Int) + 1) = (k : Int) + 1 := IntWalk.i64_in _ (by omega)
        have hkl : k < ls.length := by rw [Hm.out]; exact hkn
        have hkh : k < hs.length := by rw [Hlen.out]; exact hkn
        have hzt := zip_take_succ ls hs k hkl hkh
        obtain ⟨b6, o6, rfl, hb6w, hb6, hat6⟩ := hS6.at_ (by omega) (by decide)
        have hb6g : b6 < g := hb6
        have hc34 := hat6 k (.int .i64 ((2 ^ (ls.getD k 0) : Nat) : Int)) (by unfold powC; rw [List.getElem?_map, List.getElem?_eq_getElem hkl, List.getD_eq_getElem?_getD, List.getElem?_eq_getElem hkl]; rfl)
        have hH : Hs wr (fun b => b < g) A m c hs := (Hh.out.weak (Y := fun b => b < g) fun b hb _ => by omega).step hC.bel
        obtain ⟨b, o, rfl, hbw, -, -⟩ := hH.at_ (by omega)
        have hget := fun W (hb : Below b1 wr W) => (hH.below hb fun b hb hx => Nat.lt_trans hx hg1).get rfl k hkn
        have hx32 := Hh.out.all.getD k hkh
        obtain ⟨x, hx⟩ : ∃ x, hs.getD k [] = x := ⟨_, rfl⟩
        obtain ⟨lv, hlv⟩ : ∃ x, ls.getD k 0 = x := ⟨_, rfl⟩
        rw [hx] at hget hx32 hzt
        rw [hlv] at hc34 hzt
        obtain ⟨cur, hcur⟩ : ∃ x, (ls.zip hs).take k = x := ⟨_, rfl⟩
        rw [hcur] at hC hzt
        have Hget := Lib.hid hget
        have Hzt := Lib.hid hzt
        have hpe : fpq [(lv, x)] = [(((2 ^ lv : Nat) : Int), x)] := rfl
        obtain ⟨pw, hpw⟩ : ∃ p, 2 ^ lv = p := ⟨_, rfl⟩
        rw [hpw] at hc34 hpe
        have hpe' : fpq cur ++ [((pw : Int), x)] = fpq (cur ++ [(lv, x)]) := by rw [fpq_append, hpe]
        have Hpe := Lib.hid hpe'
        have hclen := hC.len
        have c30 : ∀ s : InC (fun W => Below b1 wr W), s.W.cell? ⟨g, 0, none⟩ = some (.slice A7 k c7) := fun s => by rw [(hC.obj.below s.ok hg1).cell]; rfl
        have c34 : ∀ s : InC (fun W => Below b1 wr W), s.W.cell? ⟨b6, o6 + k, none⟩ = some (.int .i64 (pw : Int)) := fun s => by rw [s.ok.cell (p := ⟨b6, o6 + k, none⟩) (Nat.lt_trans hb6g hg1)]; exact hc34
        have c15 : wr.cell? ⟨g, 0, none⟩ = some (.slice A7 k c7) := by rw [hC.obj.cell]; rfl
        have hbl : k ≤ 1000000 := by omega
        clear hget hzt hx hlv hcur hH hat6 hpe hpe' hpw hc34 hkl hkh
        go_wp2_with fail
        have hS : Below b1 wr wr.drew := (Below.refl _ _).drew
        have hCs : RmC w g b1 (.slice A7 k c7) k cur wr.drew := hC.step ((Below.refl _ _).drew)
        have hbsu : b1 ≤ wr.drew.heap.size := hbs
        refine wp_region_mix_tail (fun W => Below b1 wr W) 16 [(0, true), (1, true), (2, true), (3, true), (4, true), (5, true), (6, true), (7, true), (8, true), (9, true), (10, true), (11, true), (12, true), (13, true), (14, false), (15, false)] (by kernel_rfl) (by kernel_rfl) hS fun _ => ?_
        simp only [List.map_cons, List.map_nil, Array.getD_eq_getD_getElem?, List.getElem?_toArray, List.getElem?_cons_succ, List.getElem?_cons_zero, Option.getD_some]
        generalize wr.drew = u2 at hS hCs hbsu ⊢
        obtain ⟨v9, W9, hr9, ho9, hb9⟩ := append_pc (S := 89) Try.underlying89 infoPq (by rw [length_fpq, hC.len]; exact hCs.own : u2.ownsRow b1 93 33 _ (fpq cur).length (pccells (fpq cur))) ((pw : Int), x) hx32 (by rw [length_fpq, hC.len]; omega) hbsu
        have hbA : Below u2.heap.size u2 (u2.alloc (.cells (pccell ((pw : Int), x)).toArray 93)) := (Below.refl _ _).alloc (Nat.le_refl _) _
        have hkg9 := (hCs.obj.step hbA).below hb9 hg1
        have hbel9 := (hCs.bel.trans (hbA.mono hCs.bel.size)).trans (hb9.mono (by omega))
        have hn9 : (cur ++ [(lv, x)]).length = k + 1 := by rw [List.length_append, hC.len]; rfl
        rw [Hpe.out, length_fpq, hn9] at ho9
        obtain ⟨gb9, c9, rfl, hgb9⟩ := owns_someB ho9 (by omega)
        have h329 : F32 (cur ++ [(lv, x)]) := fun q hq => by
          rcases List.mem_append.1 hq with hq | hq
          · exact hC.all q hq
          · rw [List.mem_singleton.1 hq]; exact hx32
        have hbs9 : b1 ≤ W9.heap.size := Nat.le_trans (Nat.le_trans hbsu hbA.size) hb9.size
        refine wpMix_s (fun K hK => ?_)
        go_simp
        refine hK _ ?_
        clear hK K
        refine wpMix_s (fun K hK => ?_)
        go_simp
        refine hK _ ?_
        clear hK K
        refine wpMix_s (fun K hK => ?_)
        go_simp
        refine hK _ ?_
        clear hK K
        refine wpMix_s (fun K hK => ?_)
        go_simp
        refine hK _ ?_
        clear hK K
        refine wpMix_s (fun K hK => ?_)
        go_simp
        refine hK _ ?_
        clear hK K
        refine wpMix_s (fun K hK => ?_)
        go_simp
        refine hK _ ?_
        clear hK K
        refine wpMix_s (fun K hK => ?_)
        go_simp
        refine hK _ ?_
        clear hK K
        refine wpMix_s (fun K hK => ?_)
        go_simp
        refine hK _ ?_
        clear hK K
        refine wpMix_s (fun K hK => ?_)
        go_simp
        refine hK _ ?_
        clear hK K
        refine wpMix_s (fun K hK => ?_)
        go_simp
        refine hK _ ?_
        clear hK K
        refine wpMix_s (fun K hK => ?_)
        go_simp
        refine hK _ ?_
        clear hK K
        refine wpMix_s (fun K hK => ?_)
        go_simp
        refine hK _ ?_
        clear hK K
        refine wpMix_load (by kernel_rfl) 25 (.tmp 37) rfl (b) (o + k * 32) rfl (x.map B).toArray ((fun s => Hget.out s.W s.ok)) ?_
        simp only [Act.put]
        refine wpMix_v (by kernel_rfl) (.agg (Value.int .i64 (pw : Int) :: x.map B).toArray) ((fun s => run_build_pq_op (pw : Int) x hx32 (.tmp 34) (.tmp 38) rfl rfl rfl s.W)) ?_
        simp only [Act.put]
        refine wpMix_run (by kernel_rfl) (.slice (some ⟨u2.heap.size, 0, none⟩) 1 1) (u2.alloc (.cells (pccell ((pw : Int), x)).toArray 93)) (run_lit_oneF_op (x := .agg (pccell ((pw : Int), x)).toArray) Try.underlying89 infoPq (by simp [Value.cells, hx32]) (by decide) (by decide) (.tmp 39) rfl rfl _) (hS.alloc hbsu _) ?_
        simp only [Act.put]
        refine wpMix_run (by kernel_rfl) (.slice (some ⟨gb9, 0, none⟩) (k + 1) c9) (W9) (run_append_op (.tmp 30) (.tmp 40) 89 rfl _ _ rfl rfl hr9) ((hS.alloc hbsu _).trans hb9) ?_
        simp only [Act.put]
        refine wpMix_nil ?_
        intro _
        simp only [List.drop_succ_cons, List.drop_zero]
        go_wp2_with ((with_reducible show wpList _ _ _ [⟨none, .store _ _ _, _, _, _, _⟩] _ _); refine wpList_store_one rfl 89 (.tmp 43) (.tmp 41) rfl g rfl rfl 91 (.slice A7 k c7) hkg9 (by kernel_rfl) ?_; show wpList _ _ _ _ _ (W9.setRow g #[Value.slice (some ⟨gb9, 0, none⟩) (k + 1) c9]); simp only [Act.put])
        have hgr : W9.grownBy (W9.setRow g #[Value.slice (some ⟨gb9, 0, none⟩) (k + 1) c9]) (some g) := grown_setRow (grown_of_below (Below.refl _ _) _) _
        refine np_normal ?_
        go_wp2_with fail
        go_roundw
        case rel => exact ⟨k + 1, _, by omega, by go_num, ⟨by rw [Hzt.out]; exact hn9, hkg9.setRow_ _, by rw [Hzt.out]; exact ho9.kept hgr (.inr fun e => by have e : gb9 = g := Option.some.inj e; omega), below_setRow hbel9 hgw _, by rw [Hzt.out]; exact h329⟩, (hS6.below ((hS.alloc hbsu _).trans hb9) (fun b _ hx => Nat.lt_trans hx hg1)).grown hgr (fun b _ hx e => by have e : b = g := Option.some.inj e; omega), Nat.le_trans hbs9 hgr.size⟩
        case measure => simp [intOf]; omega
      · obtain rfl : k = m := by omega
        have hd : decide ((k : Int) < (k : Int)) = false := by simp
        have hr := Hres.out
        rw [List.take_of_length_le (by rw [List.length_zip, Hm.out, Hlen.out]; omega)] at hC
        go_wp2_with fail
        refine bodyPost_ret (results_tmp2 rfl _ _ _) rfl ?_
        rw [← hr]
        exact ⟨_, rfl, .inr ⟨g, _, rfl, rfl, hgw, hC.frp.le (by omega)⟩, hC.bel⟩
  · rw [if_pos hmn] at hres
    subst hres
    have hne : ((m : Int) == (n : Int)) = false := by simp; omega
    have hne2 : ¬ (m : Int) = (n : Int) := by omega
    clear hm
    go_enter Try.func56, Try.ntmps56
    go_wp2_with (first
      | (go_at_call 128; refine Hsz.out.mono ?_; rintro e w1 ⟨v6, rfl, ho6, hb1⟩; obtain ⟨A6, c6, rfl, -⟩ := owns_slv ho6))
    exact bodyPost_ret (results_tmp2 rfl _ _ _) rfl ⟨_, rfl, .inl ⟨rfl, rfl⟩, hb1⟩
end Go.Proofs.Ytonidnfgneokbaa
