/- tiles: a hash is put onto a level. -/
import Derived.Test.YtfhmjgkcpcnkbaaDoorQf115
import Derived.Test.YtfhmjgkcpcnkbaaDoorQf116
import Derived.Test.YtfhmjgkcpcnkbaaDoorQf107
import Derived.Test.YtfhmjgkcpcnkbaaDoorQf118
import Derived.Test.YtfhmjgkcpcnkbaaDoorQf120
namespace Go.Proofs.YtfhmjgkcpcnkbaaDoor
open Go Go.RowKit
attribute [local go_sem] Oper.semAt_some

theorem shr_nat (n h : Nat) : (n : Int) / 2 ^ ((h : Int)).toNat = ((n / 2 ^ h : Nat) : Int) := by
  rw [Int.toNat_natCast]
  simp
theorem run_mapEntry_op {P : Program} {ρ : Operand → Value} {o : Oper} {W W' : World} {v : Value} (t : TypeId) (m k : Operand) (ho : o.op = .mapEntry t m k) (vm vk : Value) (hm : ρ m = vm) (hk : ρ k = vk) (h : (Instr.mapEntry t vm vk).run P W = .ok v W') : (execOp ρ o).run P W = .ok (.value v) W' := by
  unfold execOp
  simp only [ho, hm, hk, Sem.run_bind, h, Result.andThen_ok, Sem.run_pure]
theorem run_entryStore_op {P : Program} {ρ : Operand → Value} {o : Oper} {W W' : World} (t : TypeId) (m s x : Operand) (ho : o.op = .entryStore t m s x) (vm vs vx : Value) (hm : ρ m = vm) (hs : ρ s = vs) (hx : ρ x = vx) (h : (Instr.entryStore t vm vs vx).run P W = .ok () W') : (execOp ρ o).run P W = .ok .skip W' := by
  unfold execOp
  simp only [ho, hm, hs, hx, Sem.run_bind, h, Result.andThen_ok, Sem.run_pure]
theorem wpMix_skip {P : Program} {ops : Array Oper} {Q : Exit → Act → World → Prop} {S : World → Prop} {R : Act → World → Prop} {o : Oper} {l : List (Oper × Bool)} {a : Act} {w : World} (hw : Region.wanted o (yielded ops a.tmps) = true) (w' : World)
    (hrun : (execOp a.eval o).run P w = .ok .skip w') (hS : S w') (h : wpMix P ops S Q R l (a.put o.dst undef) w') : wpMix P ops S Q R ((o, false) :: l) a w := by
  refine ⟨?_⟩
  unfold wpMix0
  rw [if_pos hw]
  unfold Oper.wp
  rw [hrun]
  exact ⟨hS, h.out⟩
theorem run_lookup_opT {P : Program} {ρ : Operand → Value} {o : Oper} {W : World} {v : Value} (t : TypeId) (m k : Operand) (ho : o.op = .lookup t m k false) (vm vk : Value) (hm : ρ m = vm) (hk : ρ k = vk) (h : (Instr.lookup t vm vk false).run P W = .ok v W) : (execOp ρ o).run P W = .ok (.value v) W := by
  unfold execOp
  simp only [ho, hm, hk, Sem.run_bind, h, Result.andThen_ok, Sem.run_pure]
theorem pow8 : ∀ h : Nat, h ≤ 8 → IntKind.i64.wrap ((2 : Int) ^ h) = (2 : Int) ^ h := by decide
theorem run_shlT_op {ρ : Operand → Value} {o : Oper} (x : Operand) (ty : TypeId) (h : Nat) (hh : h ≤ 8) (ho : o.op = .binOp .shl 3 (.const (.int .i64 1)) x ty) (hc : ρ (.const (.int .i64 1)) = .int .i64 1) (hx : ρ x = .int .i64 (h : Int)) (W : World) :
    (execOp ρ o).run Tryd.prog W = .ok (.value (.int .i64 ((2 ^ h : Nat) : Int))) W := by
  have h0 : (0 : Int) ≤ (h : Int) := by omega
  have h1 : (h : Int) ≤ 64 := by omega
  unfold execOp
  simp only [ho, hx, hc]
  go_simp
  exact pow8 h hh
/-- what push reads: the tree, its own two variables -/
structure PuC (p g7 g8 h sz m : Nat) (x : List UInt8) (l q : Int) (W : World) : Prop where
  t : Blk W p 73 (tiArr h sz m)
  x : Blk W g7 48 (x.map B).toArray
  k : Blk W g8 101 #[.int .i64 l, .int .i64 q]
section
variable {W W' : World} {lo p m N h sz g7 g8 : Nat} {f : Int → Int → Option Value} {G : Int → Int → HL} {M : Nat → Prop} {l q : Int} {x : List UInt8}
theorem PuC.kb (c : PuC p g7 g8 h sz m x l q W) (hk : KB M W W') (h1 : ¬ M p) (h2 : ¬ M g7) (h3 : ¬ M g8) : PuC p g7 g8 h sz m x l q W' := ⟨hk.blk c.t h1, hk.blk c.x h2, hk.blk c.k h3⟩
theorem PuC.step (c : PuC p g7 g8 h sz m x l q W) (hb : Below W.heap.size W W') : PuC p g7 g8 h sz m x l q W' := c.kb (M := fun _ => False) (KB.of_below hb) id id id
theorem blk_nmap {g k : Nat} {T : TypeId} {cs : Array Value} (hb : Blk W g T cs) {es : Array MapEntry} {clock : Nat} (hm : W.heap[k]? = some (.map es clock)) : g ≠ k := by
  intro e
  subst e
  rw [show W.heap[g]? = _ from hb] at hm
  cases hm
theorem run_litT_op {ρ : Operand → Value} {o : Oper} (x : List UInt8) (hx : x.length = 32) (y : Operand) (ho : o.op = .buildSlice 36 1 #[(0, y)]) (hy : ρ y = .agg (x.map B).toArray) (W : World) :
    (execOp ρ o).run Tryd.prog W = .ok (.value (.slice (some ⟨W.heap.size, 0, none⟩) 1 1)) (W.alloc (.cells (hcells [x]).toArray 48)) :=
  run_lit_op [x] (fun h hh => by rw [List.mem_singleton.1 hh]; exact hx) (by simp) (by simp) 1 _ ho (by simp [hy]) rfl W
theorem aggK : ∀ w : World, (isAgg 101).run Tryd.prog w = .ok true w := fun _ => by kernel_rfl
theorem sizeK : ∀ w : World, (sizeOf 101).run Tryd.prog w = .ok 2 w := fun _ => by kernel_rfl
/-- one hash more in a row of the map: entry, append, store -/
theorem TiM.push1 (hT : TiM lo p m N h sz f G W) (c : PuC p g7 g8 h sz m x l q W) (hlt : ∀ k, TiR m f k → k < g7) (hx : x.length = 32) (hl : I64 l) (hq : I64 q) (hN : N < maxLen) (hC : (G l q).length ≤ 1000000) {gl : Nat} (_hgl : g7 ≤ gl) (hlit : Blk W gl 48 (hcells [x]).toArray) (hlo : lo ≤ W.heap.size) :
    ∃ (st : Nat) (W3 : World), (Instr.mapEntry 71 (.map (some m)) (kv l q)).run Tryd.prog W = .ok (.tuple #[(f l q).getD nilS, .int .i64 st]) W3 ∧ PuC p g7 g8 h sz m x l q W3 ∧
      ∃ (v' : Value) (W4 : World), (Builtin.append_ #[36, 36] 36 #[(f l q).getD nilS, .slice (some ⟨gl, 0, none⟩) 1 1]).run Tryd.prog W3 = .ok v' W4 ∧ PuC p g7 g8 h sz m x l q W4 ∧
        ∃ W5, (Instr.entryStore 71 (.map (some m)) (.int .i64 st) v').run Tryd.prog W4 = .ok () W5 ∧ PuC p g7 g8 h sz m x l q W5 ∧ TiM lo p m (N + 1) h sz (updF f l q v') (updG G l q (G l q ++ [x])) W5 ∧
          KB (TiR m f) W W5 ∧ ∀ k, TiR m (updF f l q v') k → TiR m f k ∨ W.heap.size ≤ k := by
  obtain ⟨es, clock, hmb, -⟩ := id hT.map
  have hpm : p ≠ m := blk_nmap hT.blk hmb
  have h7m : g7 ≠ m := blk_nmap c.x hmb
  have h8m : g8 ≠ m := blk_nmap c.k hmb
  have hglm : gl ≠ m := blk_nmap hlit hmb
  obtain ⟨st, W3, hrE, hkE, hszE, hst⟩ := hT.map.entry hN hl hq
  have hrow : ∀ k a b v, f a b = some v → v.ownBlock = some k → ¬ k = m := fun k a b v hf hv e => by subst e; exact own_nmap (hT.rows.row a b v hf).1 hv hmb
  have c3 := c.kb hkE hpm h7m h8m
  have hR3 := hT.rows.kb hkE hrow
  have hlit3 := hkE.blk hlit hglm
  have hcx : hcells [x] = x.map B := by simp [hcells]
  have hs3 : SlV W3 (fun _ => True) (some ⟨gl, 0, none⟩) 1 1 32 (x.map B) := hcx ▸ SlV.of_blk (n := 1) (s := 32) hlit3 (by rw [hcx, List.length_map, hx]) (by decide) trivial
  obtain ⟨v', W4, hrA, hR4, hgA, hnew⟩ := hR3.app l q x hx hs3 (by rw [hszE]; exact hlo) hC
  have hown : ∀ k, ((f l q).getD nilS).ownBlock = some k → TiR m f k ∧ k ≠ p ∧ k ≠ g7 ∧ k ≠ g8 ∧ k ≠ m := by
    intro k hk
    have ho := hT.rows.get l q
    cases hf : f l q with
    | none => rw [hf] at hk; cases hk
    | some v0 =>
      rw [hf] at hk ho
      have hin : TiR m f k := .inr ⟨l, q, v0, hf, hk⟩
      refine ⟨hin, fun e => ?_, ?_, fun e => ?_, hrow k l q v0 hf hk⟩
      · subst e; exact own_blkty ho hT.blk (by decide) hk
      · have := hlt k hin; omega
      · subst e; exact own_blkty ho c.k (by decide) hk
  have hkA : KB (fun k => ((f l q).getD nilS).ownBlock = some k) W3 W4 := KB.of_grown hgA fun r e => e
  have c4 := c3.kb hkA (fun e => (hown _ e).2.1 rfl) (fun e => (hown _ e).2.2.1 rfl) (fun e => (hown _ e).2.2.2.1 rfl)
  have hm3 : m < W3.heap.size := by rw [hszE]; exact hT.map.lt
  obtain ⟨W5, hrS, hM5, hkS, hszS⟩ := hst W4 v' (hkA.block m hm3 fun e => (hown _ e).2.2.2.2 rfl)
  have hrow4 : ∀ k a b v, updF f l q v' a b = some v → v.ownBlock = some k → ¬ k = m := fun k a b v hf hv e => by
    subst e
    rcases hnew k ⟨a, b, v, hf, hv⟩ with ⟨u, w, v0, hf0, hv0⟩ | hge
    · exact hrow k u w v0 hf0 hv0 rfl
    · omega
  have c5 := c4.kb hkS hpm h7m h8m
  refine ⟨st, W3, hrE, c3, v', W4, hrA, c4, W5, hrS, c5, ⟨c5.t, hM5, hR4.kb hkS hrow4, hT.lowp, hT.lowm⟩, ?_, ?_⟩
  · exact ((hkE.mono (M' := TiR m f) fun b e => .inl e).trans (hkA.mono fun k e => (hown k e).1)).trans (hkS.mono fun b e => .inl e)
  · rintro k (rfl | hk)
    · exact .inl (.inl rfl)
    · rcases hnew k hk with ⟨u, w, v0, hf0, hv0⟩ | hge
      · exact .inl (.inr ⟨u, w, v0, hf0, hv0⟩)
      · exact .inr (by rw [← hszE]; exact hge)
end
set_option maxHeartbeats 8000000 in
set_option maxRecDepth 100000 in
theorem tpush_rec (lo p m h sz : Nat) (hh1 : 1 ≤ h) (hh8 : h ≤ 8) : ∀ (k l n N C : Nat) (x : List UInt8) (f : Int → Int → Option Value) (G : Int → Int → HL) (W : World), TiM lo p m N h sz f G W → x.length = 32 → n < 2 ^ k → k + l ≤ 1000 → n < 9223372036854775808 → N + k < 4611686018427387904 →
    C + k ≤ 1000000 → (∀ a b, (G a b).length ≤ C) → (∀ j, (G (l + j : Nat) (n / 2 ^ (h * j) / 2 ^ h : Nat)).length = n / 2 ^ (h * j) % 2 ^ h) →
    Calls Tryd.prog 51 #[.pointer (some ⟨p, 0, none⟩), .int .i64 (l : Int), .int .i64 (n : Int), .agg (x.map B).toArray] W fun e w' => e = .returned (.tuple #[]) ∧
      ∃ f' N', TiM lo p m N' h sz f' (pushG h (k + 1) G l n x) w' ∧ N' ≤ N + k + 1 ∧ KB (TiR m f) W w' ∧ ∀ b, TiR m f' b → TiR m f b ∨ W.heap.size ≤ b := by
    intro k
    induction k using Nat.strongRecOn with
    | ind k ih =>
    intro l n N C x f G W hT hx hn hkl hn63 hN hC hG hal
    have Ih := Lib.hid ih
    clear ih
    have hblk := hT.blk
    have hr := shr_nat n h
    have hh1' : (0 : Int) ≤ (h : Int) := by omega
    have hh8' : (h : Int) ≤ 64 := by omega
    have HT := Lib.hid hT
    have HG := Lib.hid hG
    have Hal := Lib.hid hal
    have Hx := Lib.hid hx
    have Hn := Lib.hid hn
    clear hT hG hal hx hn
    unfold tiArr at hblk
    have hB1 : Below W.heap.size W (W.alloc (.cells (x.map B).toArray 48)) := (Below.refl _ _).alloc (Nat.le_refl _) _
    have hb1 := hblk.below hB1 hblk.lt
    have hc0 : (W.alloc (.cells (x.map B).toArray 48)).cell? ⟨p, 0, none⟩ = some (.int .i64 (h : Int)) := by rw [hb1.cell]; rfl
    clear hb1
    go_enter Tryd.func51, Tryd.ntmps51
    go_wp2_with fail
    have hdv : (n : Int) / 2 ^ h = ((n / 2 ^ h : Nat) : Int) := by simp
    rw [hdv]
    clear hdv
    obtain ⟨w1, hw1⟩ : ∃ z, (W.alloc (.cells (x.map B).toArray 48)).alloc (.cells #[.int .i64 (l : Int), .int .i64 ((n / 2 ^ h : Nat) : Int)] 101) = z := ⟨_, rfl⟩
    have hsz1 : (W.alloc (.cells (x.map B).toArray 48)).heap.size = W.heap.size + 1 := by simp
    have hB2 : Below W.heap.size W w1 := hw1 ▸ hB1.alloc (by rw [hsz1]; omega) _
    have hszw : w1.heap.size = W.heap.size + 2 := by rw [← hw1]; simp
    have k8 : Blk w1 (W.heap.size + 1) 101 #[.int .i64 (l : Int), .int .i64 ((n / 2 ^ h : Nat) : Int)] := by rw [← hw1, ← hsz1]; exact Blk.new _ _ _
    have k7 : Blk w1 W.heap.size 48 (x.map B).toArray := by
      rw [← hw1]
      exact (Blk.new W 48 (x.map B).toArray).below ((Below.refl _ _).alloc (Nat.le_refl _) _) (by rw [hsz1]; omega)
    rw [hw1]
    clear hw1 hsz1 hB1 hc0 hblk
    have hT1 := HT.out.step hB2
    have hc1 : PuC p W.heap.size (W.heap.size + 1) h sz m x l (n / 2 ^ h : Nat) w1.drew := ⟨hT1.blk.drew, k7.drew, k8.drew⟩
    have hd1 : Below w1.heap.size w1 w1.drew := (Below.refl _ _).drew
    have hT1d := hT1.step hd1
    have hlt : ∀ k, TiR m f k → k < W.heap.size := fun k hk => (HT.out.ltR k (.inr hk)).2
    have hlo : lo ≤ W.heap.size := by have := HT.out.ltR p (.inl rfl); omega
    have Hlt := Lib.hid hlt
    have HB2 := Lib.hid hB2
    have Hszw := Lib.hid hszw
    have Hlo := Lib.hid hlo
    have hil : I64 (l : Int) := ⟨by omega, by omega⟩
    have hql : n / 2 ^ h ≤ n := Nat.div_le_self _ _
    have hiq : I64 ((n / 2 ^ h : Nat) : Int) := by
      generalize n / 2 ^ h = q at hql ⊢
      exact ⟨by omega, by omega⟩
    have Hil := Lib.hid hil
    have Hiq := Lib.hid hiq
    have h2l : lo ≤ w1.heap.size := by omega
    have H2l := Lib.hid h2l
    clear hlt hB2 hszw hlo hT1 k7 k8 hil hiq h2l hql
    have HT1 := Lib.hid hT1d
    clear hT1d
    obtain ⟨q, hq⟩ : ∃ q, n / 2 ^ h = q := ⟨_, rfl⟩
    rw [hq] at hc1 Hiq hr ⊢
    have Hq := Lib.hid hq
    clear hq hr
    obtain ⟨g8, hg8⟩ : ∃ g, W.heap.size + 1 = g := ⟨_, rfl⟩
    obtain ⟨g7, hg7⟩ : ∃ g, W.heap.size = g := ⟨_, rfl⟩
    rw [hg8] at hc1 ⊢
    rw [hg7] at hc1 Hlt Hszw ⊢
    have Hg8 := Lib.hid hg8
    have Hg7 := Lib.hid hg7
    clear hg8 hg7
    have c0 : ∀ s' : InC (PuC p g7 g8 h sz m x l q), s'.W.cell? ⟨p, 2, none⟩ = some (.map (some m)) := fun s' => by rw [s'.ok.t.cell]; rfl
    refine wp_region_mix (PuC p g7 g8 h sz m x l q) [(0, true), (1, true), (2, true), (3, true), (4, true), (5, true), (6, false), (7, false), (8, true), (10, true), (9, false), (11, false)] (by kernel_rfl) (by kernel_rfl) hc1 fun _ => ?_
    simp only [List.map_cons, List.map_nil, Array.getD_eq_getD_getElem?, List.getElem?_toArray, List.getElem?_cons_succ, List.getElem?_cons_zero, Option.getD_some]
    have hsz0 : g7 ≤ w1.heap.size := by have := Hszw.out; omega
    have Hsz0 := Lib.hid (Nat.le_trans hsz0 hd1.size)
    have Hlo0 := Lib.hid (Nat.le_trans H2l.out hd1.size)
    have HBd := Lib.hid hd1
    clear hd1 hsz0
    generalize w1.drew = W0 at hc1 HT1 Hsz0 Hlo0 HBd ⊢
    refine wpMix_s (fun K hK => ?_)
    go_simp
    refine hK _ ?_
    clear hK K
    refine wpMix_s (fun K hK => ?_)
    go_simp
    refine hK _ ?_
    clear hK K
    refine wpMix_s (fun K hK => ?_)
    go_simp
    refine hK _ ?_
    clear hK K
    refine wpMix_s (fun K hK => ?_)
    go_simp
    refine hK _ ?_
    clear hK K
    refine wpMix_load (by kernel_rfl) 101 (.tmp 8) rfl (g8) (0) rfl #[.int .i64 (l : Int), .int .i64 (q : Int)] (fun s => run_load_blk (aggK _) (sizeK _) g8 _ rfl s.ok.k) ?_
    simp only [Act.put, List.setIfInBounds_toArray, List.set_cons_succ, List.set_cons_zero]
    refine wpMix_load (by kernel_rfl) 48 (.tmp 7) rfl (g7) (0) rfl (x.map B).toArray (fun s => HV.load ⟨s.ok.x, Hx.out⟩) ?_
    simp only [Act.put, List.setIfInBounds_toArray, List.set_cons_succ, List.set_cons_zero]
    obtain ⟨W2, hW2⟩ : ∃ z, W0.alloc (.cells (hcells [x]).toArray 48) = z := ⟨_, rfl⟩
    have hb2 : Below W0.heap.size W0 W2 := hW2 ▸ ((Below.refl _ _).alloc (Nat.le_refl _) _)
    have hnb : Blk W2 W0.heap.size 48 (hcells [x]).toArray := hW2 ▸ Blk.new _ _ _
    have hc2 := hc1.step hb2
    refine wpMix_run (by kernel_rfl) (.slice (some ⟨W0.heap.size, 0, none⟩) 1 1) W2 (hW2 ▸ run_litT_op x Hx.out (.tmp 25) rfl rfl W0) hc2 ?_
    simp only [Act.put, List.setIfInBounds_toArray, List.set_cons_succ, List.set_cons_zero]
    obtain ⟨st, W3, hr3, hc3, v', W4, hr4, hc4, W5, hr5, hc5, hT5, hk5, hn5⟩ := (HT1.out.step hb2).push1 hc2 Hlt.out Hx.out Hil.out Hiq.out (by unfold maxLen; omega) (by have := HG.out l q; omega) (gl := W0.heap.size) (Hsz0.out) hnb (Nat.le_trans Hlo0.out hb2.size)
    have HT5 := Lib.hid hT5
    have Hk5 := Lib.hid hk5
    have Hn5 := Lib.hid hn5
    have Hb2 := Lib.hid hb2
    clear hT5 hk5 hn5 hb2 hnb hW2
    refine wpMix_run (by kernel_rfl) (.tuple #[(f l q).getD nilS, .int .i64 st]) W3 (run_mapEntry_op 71 (.tmp 22) (.tmp 23) rfl _ _ rfl rfl hr3) hc3 ?_
    simp only [Act.put, List.setIfInBounds_toArray, List.set_cons_succ, List.set_cons_zero]
    obtain ⟨v0, hv0⟩ : ∃ v, (f l q).getD nilS = v := ⟨_, rfl⟩
    rw [hv0] at hr4 ⊢
    clear hv0 hr3
    refine wpMix_s (fun K hK => ?_)
    go_simp
    refine hK _ ?_
    clear hK K
    refine wpMix_s (fun K hK => ?_)
    go_simp
    refine hK _ ?_
    clear hK K
    refine wpMix_run (by kernel_rfl) v' W4 (run_append_op (.tmp 24) (.tmp 26) 36 rfl _ _ rfl rfl hr4) hc4 ?_
    simp only [Act.put, List.setIfInBounds_toArray, List.set_cons_succ, List.set_cons_zero]
    clear hr4
    refine wpMix_skip (by kernel_rfl) W5 (run_entryStore_op 71 (.tmp 22) (.tmp 29) (.tmp 28) rfl _ _ _ rfl rfl rfl hr5) hc5 ?_
    simp only [Act.put]
    clear hr5
    refine wpMix_nil ?_
    intro _
    have hf5 : updF f l q v' l q = some v' := by unfold updF; rw [if_pos ⟨rfl, rfl⟩]
    have hg5 : updG G l q (G l q ++ [x]) l q = G l q ++ [x] := by unfold updG; rw [if_pos ⟨rfl, rfl⟩]
    have hrow5 := (HT5.out.rows.row l q v' hf5).1
    rw [hg5] at hrow5
    obtain ⟨A, c, rfl, hs5⟩ := owns_slv hrow5
    obtain ⟨nn, hnn⟩ : ∃ nn, (G l q ++ [x]).length = nn := ⟨_, rfl⟩
    have hH5 : Hs W5 (fun _ => True) A nn c (G l q ++ [x]) := ⟨hnn ▸ hs5.all, hnn, hg5 ▸ HT5.out.rows.all l q⟩
    have hlook : ∀ (V : World), MapF V m (N + 1) (updF f l q (.slice A (G l q ++ [x]).length c)) → (Instr.lookup 71 (.map (some m)) (kv l q) false).run Tryd.prog V = .ok (.slice A nn c) V := fun V hV => by
      rw [hV.look false Hil.out Hiq.out, hf5, ← hnn]
      rfl
    have hm5 := HT5.out.map
    obtain ⟨f5, hf5e⟩ : ∃ f5, updF f l q (.slice A (G l q ++ [x]).length c) = f5 := ⟨_, rfl⟩
    obtain ⟨G5, hG5e⟩ : ∃ G5, updG G l q (G l q ++ [x]) = G5 := ⟨_, rfl⟩
    rw [hf5e] at HT5 Hn5 hlook hm5
    rw [hG5e] at HT5
    have hnb : nn ≤ 1000001 := by have := HG.out l q; rw [← hnn, List.length_append, List.length_singleton]; omega
    have HG5e := Lib.hid hG5e
    have Hf5e := Lib.hid hf5e
    have HH5 := Lib.hid hH5
    have Hnn := Lib.hid hnn
    have Hlook := Lib.hid hlook
    clear hf5 hg5 hrow5 hs5 hnn hH5 hlook hf5e hG5e c0
    have hS : PuC p g7 g8 h sz m x l q W5.drew ∧ MapF W5.drew m (N + 1) f5 := ⟨⟨hc5.t.drew, hc5.x.drew, hc5.k.drew⟩, hm5.step (Below.refl _ _).drew⟩
    have c0 : ∀ s' : InC (fun V => PuC p g7 g8 h sz m x l q V ∧ MapF V m (N + 1) f5), s'.W.cell? ⟨p, 2, none⟩ = some (.map (some m)) := fun s' => by rw [s'.ok.1.t.cell]; rfl
    have c1 : ∀ s' : InC (fun V => PuC p g7 g8 h sz m x l q V ∧ MapF V m (N + 1) f5), s'.W.cell? ⟨p, 0, none⟩ = some (.int .i64 (h : Int)) := fun s' => by rw [s'.ok.1.t.cell]; rfl
    have hd5 : Below W5.heap.size W5 W5.drew := (Below.refl _ _).drew
    obtain ⟨s2, hs2⟩ : ∃ s2, 2 ^ h = s2 := ⟨_, rfl⟩
    have Hs2 := Lib.hid hs2
    clear hs2
    go_upto_region 3 with fail
    refine wp_region_mix (fun V => PuC p g7 g8 h sz m x l q V ∧ MapF V m (N + 1) f5) [(0, true), (1, true), (2, true), (3, true), (4, true), (5, true), (6, true), (7, true), (8, true), (9, true), (10, true), (11, true), (12, true)] (by kernel_rfl) (by kernel_rfl) hS fun _ => ?_
    simp only [List.map_cons, List.map_nil, Array.getD_eq_getD_getElem?, List.getElem?_toArray, List.getElem?_cons_succ, List.getElem?_cons_zero, Option.getD_some]
    generalize W5.drew = W6 at hS hd5 ⊢
    refine wpMix_s (fun K hK => ?_)
    go_simp
    refine hK _ ?_
    clear hK K
    refine wpMix_s (fun K hK => ?_)
    go_simp
    refine hK _ ?_
    clear hK K
    refine wpMix_s (fun K hK => ?_)
    go_simp
    refine hK _ ?_
    clear hK K
    refine wpMix_s (fun K hK => ?_)
    go_simp
    refine hK _ ?_
    clear hK K
    refine wpMix_load (by kernel_rfl) 101 (.tmp 8) rfl (g8) (0) rfl #[.int .i64 (l : Int), .int .i64 (q : Int)] (fun s => run_load_blk (aggK _) (sizeK _) g8 _ rfl s.ok.1.k) ?_
    simp only [Act.put, List.setIfInBounds_toArray, List.set_cons_succ, List.set_cons_zero]
    refine wpMix_v (by kernel_rfl) (.slice A nn c) (fun s => run_lookup_opT 71 (.tmp 33) (.tmp 34) rfl _ _ rfl rfl (Hlook.out _ s.ok.2)) ?_
    simp only [Act.put, List.setIfInBounds_toArray, List.set_cons_succ, List.set_cons_zero]
    refine wpMix_s (fun K hK => ?_)
    go_simp
    refine hK _ ?_
    clear hK K
    refine wpMix_s (fun K hK => ?_)
    go_simp
    refine hK _ ?_
    clear hK K
    refine wpMix_s (fun K hK => ?_)
    go_simp
    refine hK _ ?_
    clear hK K
    refine wpMix_s (fun K hK => ?_)
    go_simp
    refine hK _ ?_
    clear hK K
    refine wpMix_s (fun K hK => ?_)
    go_simp
    refine hK _ ?_
    clear hK K
    refine wpMix_v (by kernel_rfl) (.int .i64 (s2 : Int)) (fun s => by rw [← Hs2.out]; exact run_shlT_op (.tmp 40) _ h hh8 rfl rfl rfl s.W) ?_
    simp only [Act.put, List.setIfInBounds_toArray, List.set_cons_succ, List.set_cons_zero]
    refine wpMix_s (fun K hK => ?_)
    go_simp
    refine hK _ ?_
    clear hK K
    refine wpMix_nil ?_
    intro _
    have hT6 := HT5.out.step hd5
    have hKB6 : KB (TiR m f) W W6 := by
      have e1 : KB (TiR m f) W w1 := KB.of_below HB2.out
      have e2 : KB (TiR m f) w1 W0 := KB.of_below HBd.out
      have e3 : KB (TiR m f) W0 W2 := KB.of_below Hb2.out
      have e5 : KB (TiR m f) W5 W6 := KB.of_below hd5
      exact (((e1.trans e2).trans e3).trans Hk5.out).trans e5
    have hN6 : ∀ b, TiR m f5 b → TiR m f b ∨ W.heap.size ≤ b := fun b hb => by
      rcases Hn5.out b hb with h1 | h1
      · exact .inl h1
      · exact .inr (Nat.le_trans (Nat.le_trans HB2.out.size (Nat.le_trans HBd.out.size Hb2.out.size)) h1)
    have HT6 := Lib.hid hT6
    have HK6 := Lib.hid hKB6
    have HN6 := Lib.hid hN6
    have hc6 := hc5.step hd5
    have hH6 := HH5.out.step hd5
    have HL := Lib.hid hH6
    clear hT6 hKB6 hN6 hS c1 c0 hd5 hH6 HT5 Hk5 Hn5 HB2 HBd Hb2 HH5 hm5
    by_cases hw : nn = s2
    · have hb : ((nn : Int) == (s2 : Int)) = true := by simp [hw]
      rw [hb]
      clear hb
      have hl0 := Hal.out 0
      rw [Nat.mul_zero, Nat.pow_zero, Nat.div_one, Nat.add_zero, Hq.out] at hl0
      have hnn1 : nn = n % 2 ^ h + 1 := by rw [← Hnn.out, List.length_append, List.length_singleton, hl0]
      have hs2' := Hs2.out
      have h2h : 2 ≤ 2 ^ h := Nat.le_trans (by decide) (Nat.pow_le_pow_right (n := 2) (by decide) hh1)
      obtain ⟨k', rfl⟩ : ∃ k', k = k' + 1 := by
        cases k with
        | succ k' => exact ⟨k', rfl⟩
        | zero =>
          have h0 : n = 0 := by have := Hn.out; rw [Nat.pow_zero] at this; omega
          rw [h0, Nat.zero_mod] at hnn1
          omega
      have hp : pushG h (k' + 1 + 1) G l n x = pushG h (k' + 1) G5 (l + 1) q (topL (G l q ++ [x])) := by
        rw [pushG, Hq.out, if_pos (by rw [Hnn.out, Hs2.out]; exact hw), HG5e.out]
      have hqk : q < 2 ^ k' := by
        have h1 : n / 2 ^ h ≤ n / 2 := Nat.div_le_div_left h2h (by decide)
        rw [Hq.out] at h1
        have h3 := Hn.out
        have h4 : 2 ^ (k' + 1) = 2 ^ k' * 2 := Nat.pow_succ _ _
        omega
      have hq63 : q < 9223372036854775808 := by
        have h1 := Nat.div_le_self n (2 ^ h)
        rw [Hq.out] at h1
        omega
      have hpw : pow2 nn = true := by rw [hw, ← Hs2.out]; exact pow2_two h
      have htop : (topL (G l q ++ [x])).length = 32 := length_topL _ HL.out.all
      have hG5C : ∀ a b, (G5 a b).length ≤ C + 1 := fun a b => by
        rw [← HG5e.out]
        unfold updG
        split
        · rename_i hc
          have := HG.out l q
          rw [List.length_append, List.length_singleton]
          omega
        · have := HG.out a b; omega
      have hal5 : ∀ j, (G5 (l + 1 + j : Nat) (q / 2 ^ (h * j) / 2 ^ h : Nat)).length = q / 2 ^ (h * j) % 2 ^ h := fun j => by
        have h1 := Hal.out (j + 1)
        have e1 : n / 2 ^ (h * (j + 1)) = q / 2 ^ (h * j) := by rw [Nat.mul_succ, Nat.add_comm, Nat.pow_add, ← Nat.div_div_eq_div_mul, Hq.out]
        rw [e1, show l + (j + 1) = l + 1 + j by omega] at h1
        rw [← HG5e.out]
        unfold updG
        rw [if_neg (by omega)]
        exact h1
      have Hp := Lib.hid hp
      have Hqk := Lib.hid hqk
      have Hpw := Lib.hid hpw
      have Htop := Lib.hid htop
      have HG5C := Lib.hid hG5C
      have Hal5 := Lib.hid hal5
      have Hw := Lib.hid hw
      clear hl0 hnn1 hs2' h2h hp hqk hpw htop hG5C hal5 hw
      obtain ⟨tp, htp⟩ : ∃ tp, topL (G l q ++ [x]) = tp := ⟨_, rfl⟩
      rw [htp] at Hp Htop
      have Htp := Lib.hid htp
      clear htp
      have c0 : ∀ s' : InC (fun V => Below W6.heap.size W6 V), s'.W.cell? ⟨p, 2, none⟩ = some (.map (some m)) := fun s' => by rw [(hc6.step s'.ok).t.cell]; rfl
      go_upto_region 4 with fail
      have hS : Below (W6.heap.size) W6 W6.drew := (Below.refl _ _).drew
      refine wp_region_begin (fun W => Below (W6.heap.size) W6 W) (by kernel_rfl) hS fun _ => ?_
      generalize W6.drew = Y at hS  ⊢
      refine wpAnyH_pre (f := 7) (by kernel_rfl) #[true, true, true, true, true, true, false, false, false, false, false, false, false] [(0, true), (1, true), (2, true), (3, true), (4, true), (5, true)] _ _ _ (by kernel_rfl) hS ?_
      simp only [List.map_cons, List.map_nil, Array.getD_eq_getD_getElem?, List.getElem?_toArray, List.getElem?_cons_succ, List.getElem?_cons_zero, Option.getD_some]
      refine wpMix_s (fun K hK => ?_)
      go_simp
      refine hK _ ?_
      clear hK K
      refine wpMix_s (fun K hK => ?_)
      go_simp
      refine hK _ ?_
      clear hK K
      refine wpMix_s (fun K hK => ?_)
      go_simp
      refine hK _ ?_
      clear hK K
      refine wpMix_s (fun K hK => ?_)
      go_simp
      refine hK _ ?_
      clear hK K
      refine wpMix_load (by kernel_rfl) 101 (.tmp 8) rfl (g8) (0) rfl #[.int .i64 (l : Int), .int .i64 (q : Int)] (fun s => run_load_blk (aggK _) (sizeK _) g8 _ rfl (hc6.step s.ok).k) ?_
      simp only [Act.put, List.setIfInBounds_toArray, List.set_cons_succ, List.set_cons_zero]
      refine wpMix_v (by kernel_rfl) (.slice A nn c) (fun s => run_lookup_opT 71 (.tmp 47) (.tmp 48) rfl _ _ rfl rfl (Hlook.out _ (HT6.out.step s.ok).map)) ?_
      simp only [Act.put, List.setIfInBounds_toArray, List.set_cons_succ, List.set_cons_zero]
      refine wpMix_nil ?_
      intro _
      refine wpAnyH_fork (f := 6) (i := 6) (j := 10) (by kernel_rfl) hS ?_ ?_
      · simp only [Array.getD_eq_getD_getElem?, List.getElem?_toArray, List.getElem?_cons_succ, List.getElem?_cons_zero, Option.getD_some]
        refine wpMix_c (fun K hK => ?_) hS
        go_simp
        refine (Htp.out ▸ top_ok (G l q ++ [x]) A nn c Y (HL.out.step hS) Hpw.out (by omega)).mono ?_
        rintro e Y_1 ⟨rfl, hb'⟩
        refine hK _ _ ?_
        clear hK K
        replace hS := hS.trans (hb'.mono hS.size)
        refine ⟨hS, ?_⟩
        first | (replace k9 := k9.step hb'; clear hb') | clear hb'
        refine wpMix_nil ?_
        intro _
        show wpAnyH _ _ _ _ _ _ #[true, true, true, true, true, true, true, false, false, false, false, false, false] _ _
        refine wpAnyH_pre (f := 0) (by kernel_rfl) #[true, true, true, true, true, true, true, true, true, true, true, true, true] [(7, true), (8, true), (9, true), (10, false), (11, false), (12, true)] _ _ _ (by kernel_rfl) hS ?_
        simp only [List.map_cons, List.map_nil, Array.getD_eq_getD_getElem?, List.getElem?_toArray, List.getElem?_cons_succ, List.getElem?_cons_zero, Option.getD_some]
        refine wpMix_s (fun K hK => ?_)
        go_simp
        refine hK _ ?_
        clear hK K
        refine wpMix_s (fun K hK => ?_)
        go_simp
        refine hK _ ?_
        clear hK K
        refine wpMix_s (fun K hK => ?_)
        go_simp
        refine hK _ ?_
        clear hK K
        have k9g := hS.size
        refine wpMix_hnew rfl rfl (fun _ hb => hS.trans (hb.mono hS.size)) ?_
        intro Y_2 k9 hb'
        simp only [Act.put, List.setIfInBounds_toArray, List.set_cons_succ, List.set_cons_zero]
        replace hS := hS.trans (hb'.mono hS.size)
        obtain ⟨g9, hg9⟩ : ∃ g, Y_1.heap.size = g := ⟨_, rfl⟩
        rw [hg9] at k9 k9g ⊢
        clear hg9
        clear hb'
        refine wpMix_hset (.tmp 9) (.tmp 51) rfl rfl k9 rfl rfl Htop.out (fun _ hb => hS.trans (hb.mono k9g)) ?_
        intro Y_3 k9s hb' hoth
        simp only [Act.put]
        replace hS := hS.trans (hb'.mono k9g)
        clear k9g
        clear hb' hoth
        refine wpMix_s (fun K hK => ?_)
        go_simp
        refine hK _ ?_
        clear hK K
        refine wpMix_nil ?_
        intro _
        refine wpAnyH_end (by kernel_rfl) ?_
        have c3 : ∀ s' : InC (fun V => PuC p g7 g8 h sz m x l q V ∧ HV V g9 tp), s'.W.cell? ⟨p, 0, none⟩ = some (.int .i64 (h : Int)) := fun s' => by rw [s'.ok.1.t.cell]; rfl
        have hwl : IntKind.i64.wrap ((l : Int) + 1) = ((l + 1 : Nat) : Int) := by rw [IntWalk.i64_in _ (by omega)]; omega
        have hdv : (n : Int) / 2 ^ h = ((q : Nat) : Int) := by rw [← Hq.out]; simp
        have hS5 : PuC p g7 g8 h sz m x l q Y_3.drew ∧ HV Y_3.drew g9 tp := ⟨(hc6.step hS).step (Below.refl _ _).drew, k9s.drew⟩
        have hT7 := (HT6.out.step hS).step (Below.refl Y_3.heap.size Y_3).drew
        have hb7 : Below W6.heap.size W6 Y_3.drew := hS.drew
        have HT7 := Lib.hid hT7
        have Hb7 := Lib.hid hb7
        clear hT7 hb7 hS c0
        go_upto_region 5 with fail
        refine wp_region_mix_tail7 (fun V => PuC p g7 g8 h sz m x l q V ∧ HV V g9 tp) 10 [(0, true), (1, true), (2, true), (3, true), (4, true), (5, true), (6, true), (7, true), (8, true), (9, true)] (by kernel_rfl) (by kernel_rfl) hS5 fun _ => ?_
        simp only [List.map_cons, List.map_nil, Array.getD_eq_getD_getElem?, List.getElem?_toArray, List.getElem?_cons_succ, List.getElem?_cons_zero, Option.getD_some]
        generalize Y_3.drew = V0 at hS5 HT7 Hb7 ⊢
        refine wpMix_s (fun K hK => ?_)
        go_simp
        refine hK _ ?_
        clear hK K
        refine wpMix_s (fun K hK => ?_)
        go_simp
        refine hK _ ?_
        clear hK K
        refine wpMix_s (fun K hK => ?_)
        go_simp
        refine hK _ ?_
        clear hK K
        refine wpMix_s (fun K hK => ?_)
        go_simp
        refine hK _ ?_
        clear hK K
        refine wpMix_s (fun K hK => ?_)
        go_simp
        refine hK _ ?_
        clear hK K
        refine wpMix_s (fun K hK => ?_)
        go_simp
        refine hK _ ?_
        clear hK K
        refine wpMix_s (fun K hK => ?_)
        go_simp
        refine hK _ ?_
        clear hK K
        refine wpMix_s (fun K hK => ?_)
        go_simp
        refine hK _ ?_
        clear hK K
        refine wpMix_s (fun K hK => ?_)
        go_simp
        refine hK _ ?_
        clear hK K
        refine wpMix_load (by kernel_rfl) 48 (.tmp 9) rfl (g9) (0) rfl (tp.map B).toArray (fun s => s.ok.2.load) ?_
        simp only [Act.put, List.setIfInBounds_toArray, List.set_cons_succ, List.set_cons_zero]
        refine wpMix_nil ?_
        intro _
        simp only [List.drop_succ_cons, List.drop_zero]
        clear hwl hdv c3
        go_wp2_with fail
        refine (Ih.out k' (by omega) (l + 1) q (N + 1) (C + 1) tp f5 G5 V0 HT7.out Htop.out Hqk.out (by omega) (by omega) (by omega) (by omega) HG5C.out Hal5.out).mono ?_
        rintro e W9 ⟨rfl, f9, N9, hT9, hN9, hK9, hn9⟩
        have hK := (HK6.out.trans (KB.of_below Hb7.out)).then hK9 fun b hb hm => (HN6.out b hm).elim id fun h1 => by omega
        have hn : ∀ b, TiR m f9 b → TiR m f b ∨ W.heap.size ≤ b := fun b hb => by
          rcases hn9 b hb with h1 | h1
          · exact HN6.out b h1
          · exact .inr (Nat.le_trans (Nat.le_trans HK6.out.size Hb7.out.size) h1)
        have HT9 := Lib.hid hT9
        have HK9 := Lib.hid hK
        have Hn9 := Lib.hid hn
        clear hT9 hK9 hn9 hK hn hS5
        go_wp2_with fail
        refine np_normal ?_
        go_wp2_with fail
        exact bodyPost_end (by exact results_none rfl _ _ _) rfl ⟨rfl, f9, N9, by rw [Hp.out]; exact HT9.out, by omega, HK9.out, Hn9.out⟩
      · simp only [Array.getD_eq_getD_getElem?, List.getElem?_toArray, List.getElem?_cons_succ, List.getElem?_cons_zero, Option.getD_some]
        have k9g := hS.size
        refine wpMix_hnew rfl rfl (fun _ hb => hS.trans (hb.mono hS.size)) ?_
        intro Y_4 k9 hb'
        simp only [Act.put, List.setIfInBounds_toArray, List.set_cons_succ, List.set_cons_zero]
        replace hS := hS.trans (hb'.mono hS.size)
        obtain ⟨g9, hg9⟩ : ∃ g, Y.heap.size = g := ⟨_, rfl⟩
        rw [hg9] at k9 k9g ⊢
        clear hg9
        clear hb'
        refine wpMix_nil ?_
        intro _
        show wpAnyH _ _ _ _ _ _ #[true, true, true, true, true, true, false, false, false, false, true, false, false] _ _
        refine wpAnyH_pre (f := 0) (by kernel_rfl) #[true, true, true, true, true, true, true, true, true, true, true, true, true] [(6, false), (7, true), (8, true), (9, true), (11, false), (12, true)] _ _ _ (by kernel_rfl) hS ?_
        simp only [List.map_cons, List.map_nil, Array.getD_eq_getD_getElem?, List.getElem?_toArray, List.getElem?_cons_succ, List.getElem?_cons_zero, Option.getD_some]
        refine wpMix_c (fun K hK => ?_) hS
        go_simp
        refine (Htp.out ▸ top_ok (G l q ++ [x]) A nn c Y_4 (HL.out.step hS) Hpw.out (by omega)).mono ?_
        rintro e Y_5 ⟨rfl, hb'⟩
        refine hK _ _ ?_
        clear hK K
        replace hS := hS.trans (hb'.mono hS.size)
        refine ⟨hS, ?_⟩
        first | (replace k9 := k9.step hb'; clear hb') | clear hb'
        refine wpMix_s (fun K hK => ?_)
        go_simp
        refine hK _ ?_
        clear hK K
        refine wpMix_s (fun K hK => ?_)
        go_simp
        refine hK _ ?_
        clear hK K
        refine wpMix_s (fun K hK => ?_)
        go_simp
        refine hK _ ?_
        clear hK K
        refine wpMix_hset (.tmp 9) (.tmp 51) rfl rfl k9 rfl rfl Htop.out (fun _ hb => hS.trans (hb.mono k9g)) ?_
        intro Y_6 k9s hb' hoth
        simp only [Act.put]
        replace hS := hS.trans (hb'.mono k9g)
        clear k9g
        clear hb' hoth
        refine wpMix_s (fun K hK => ?_)
        go_simp
        refine hK _ ?_
        clear hK K
        refine wpMix_nil ?_
        intro _
        refine wpAnyH_end (by kernel_rfl) ?_
        have c3 : ∀ s' : InC (fun V => PuC p g7 g8 h sz m x l q V ∧ HV V g9 tp), s'.W.cell? ⟨p, 0, none⟩ = some (.int .i64 (h : Int)) := fun s' => by rw [s'.ok.1.t.cell]; rfl
        have hwl : IntKind.i64.wrap ((l : Int) + 1) = ((l + 1 : Nat) : Int) := by rw [IntWalk.i64_in _ (by omega)]; omega
        have hdv : (n : Int) / 2 ^ h = ((q : Nat) : Int) := by rw [← Hq.out]; simp
        have hS5 : PuC p g7 g8 h sz m x l q Y_6.drew ∧ HV Y_6.drew g9 tp := ⟨(hc6.step hS).step (Below.refl _ _).drew, k9s.drew⟩
        have hT7 := (HT6.out.step hS).step (Below.refl Y_6.heap.size Y_6).drew
        have hb7 : Below W6.heap.size W6 Y_6.drew := hS.drew
        have HT7 := Lib.hid hT7
        have Hb7 := Lib.hid hb7
        clear hT7 hb7 hS c0
        go_upto_region 5 with fail
        refine wp_region_mix_tail7 (fun V => PuC p g7 g8 h sz m x l q V ∧ HV V g9 tp) 10 [(0, true), (1, true), (2, true), (3, true), (4, true), (5, true), (6, true), (7, true), (8, true), (9, true)] (by kernel_rfl) (by kernel_rfl) hS5 fun _ => ?_
        simp only [List.map_cons, List.map_nil, Array.getD_eq_getD_getElem?, List.getElem?_toArray, List.getElem?_cons_succ, List.getElem?_cons_zero, Option.getD_some]
        generalize Y_6.drew = V0 at hS5 HT7 Hb7 ⊢
        refine wpMix_s (fun K hK => ?_)
        go_simp
        refine hK _ ?_
        clear hK K
        refine wpMix_s (fun K hK => ?_)
        go_simp
        refine hK _ ?_
        clear hK K
        refine wpMix_s (fun K hK => ?_)
        go_simp
        refine hK _ ?_
        clear hK K
        refine wpMix_s (fun K hK => ?_)
        go_simp
        refine hK _ ?_
        clear hK K
        refine wpMix_s (fun K hK => ?_)
        go_simp
        refine hK _ ?_
        clear hK K
        refine wpMix_s (fun K hK => ?_)
        go_simp
        refine hK _ ?_
        clear hK K
        refine wpMix_s (fun K hK => ?_)
        go_simp
        refine hK _ ?_
        clear hK K
        refine wpMix_s (fun K hK => ?_)
        go_simp
        refine hK _ ?_
        clear hK K
        refine wpMix_s (fun K hK => ?_)
        go_simp
        refine hK _ ?_
        clear hK K
        refine wpMix_load (by kernel_rfl) 48 (.tmp 9) rfl (g9) (0) rfl (tp.map B).toArray (fun s => s.ok.2.load) ?_
        simp only [Act.put, List.setIfInBounds_toArray, List.set_cons_succ, List.set_cons_zero]
        refine wpMix_nil ?_
        intro _
        simp only [List.drop_succ_cons, List.drop_zero]
        clear hwl hdv c3
        go_wp2_with fail
        refine (Ih.out k' (by omega) (l + 1) q (N + 1) (C + 1) tp f5 G5 V0 HT7.out Htop.out Hqk.out (by omega) (by omega) (by omega) (by omega) HG5C.out Hal5.out).mono ?_
        rintro e W9 ⟨rfl, f9, N9, hT9, hN9, hK9, hn9⟩
        have hK := (HK6.out.trans (KB.of_below Hb7.out)).then hK9 fun b hb hm => (HN6.out b hm).elim id fun h1 => by omega
        have hn : ∀ b, TiR m f9 b → TiR m f b ∨ W.heap.size ≤ b := fun b hb => by
          rcases hn9 b hb with h1 | h1
          · exact HN6.out b h1
          · exact .inr (Nat.le_trans (Nat.le_trans HK6.out.size Hb7.out.size) h1)
        have HT9 := Lib.hid hT9
        have HK9 := Lib.hid hK
        have Hn9 := Lib.hid hn
        clear hT9 hK9 hn9 hK hn hS5
        go_wp2_with fail
        refine np_normal ?_
        go_wp2_with fail
        exact bodyPost_end (by exact results_none rfl _ _ _) rfl ⟨rfl, f9, N9, by rw [Hp.out]; exact HT9.out, by omega, HK9.out, Hn9.out⟩
    · have hb : ((nn : Int) == (s2 : Int)) = false := by simp; omega
      rw [hb]
      clear hb
      have hp : pushG h (k + 1) G l n x = G5 := by
        rw [pushG, Hq.out, if_neg (by rw [Hnn.out, Hs2.out]; exact hw)]
        exact HG5e.out
      go_wp2_with fail
      exact bodyPost_end (by exact results_none rfl _ _ _) rfl ⟨rfl, f5, N + 1, by rw [hp]; exact HT6.out, by omega, HK6.out, HN6.out⟩
end Go.Proofs.YtfhmjgkcpcnkbaaDoor
/- tiles: a tree of hashes in memory; New, Size, Height, count, Append, Tile. -/
namespace Go.Proofs.YtfhmjgkcpcnkbaaDoor
open Go Go.RowKit
attribute [local go_sem] Oper.semAt_some

/-- a tree in tiles, of these hashes -/
structure Ti (lo p m h : Nat) (f : Int → Int → Option Value) (L : HL) (W : World) : Prop where
  t : TiM lo p m (64 * L.length) h L.length f (tileG h L) W
  h1 : 1 ≤ h
  h8 : h ≤ 8
  all : H32 L
  max : L.length ≤ 100000
section
variable {W W' : World} {lo p m h : Nat} {f : Int → Int → Option Value} {L : HL} {M : Nat → Prop}
theorem Ti.kb (ht : Ti lo p m h f L W) (hk : KB M W W') (hM : ∀ k, TiW p m f k → ¬ M k) : Ti lo p m h f L W' := ⟨ht.t.kb hk hM, ht.h1, ht.h8, ht.all, ht.max⟩
theorem Ti.step (ht : Ti lo p m h f L W) (hb : Below W.heap.size W W') : Ti lo p m h f L W' := ⟨ht.t.step hb, ht.h1, ht.h8, ht.all, ht.max⟩
theorem Ti.c0 (ht : Ti lo p m h f L W) : W.cell? ⟨p, 0, none⟩ = some (.int .i64 (h : Int)) := by rw [ht.t.blk.cell]; rfl
theorem Ti.c1 (ht : Ti lo p m h f L W) : W.cell? ⟨p, 1, none⟩ = some (.int .i64 (L.length : Int)) := by rw [ht.t.blk.cell]; rfl
theorem Ti.c2 (ht : Ti lo p m h f L W) : W.cell? ⟨p, 2, none⟩ = some (.map (some m)) := by rw [ht.t.blk.cell]; rfl
theorem Hs.kb {X : Nat → Prop} {A : Option Addr} {n c : Nat} {hs : HL} (hh : Hs W X A n c hs) (hk : KB M W W') (hX : ∀ b, b < W.heap.size → X b → ¬ M b) : Hs W' X A n c hs := ⟨hk.slv hh.sl hX, hh.len, hh.all⟩
end
theorem tileG_len (h : Nat) (L : HL) (a b : Int) : (tileG h L a b).length ≤ 2 ^ h := by
  unfold tileG
  split
  · unfold ck
    rw [List.length_take]
    exact Nat.min_le_left _ _
  · exact Nat.zero_le _
theorem tileG_at (h : Nat) (L : HL) (j : Nat) : (tileG h L ((0 + j : Nat) : Int) ((L.length / 2 ^ (h * j) / 2 ^ h : Nat) : Int)).length = L.length / 2 ^ (h * j) % 2 ^ h := by
  rw [tileG_nat, Nat.zero_add]
  have := ck_last_len (2 ^ h) (Nat.two_pow_pos h) (lvT h j L)
  rw [lvT_len] at this
  exact this
/-- no tree at all -/
theorem ti_new {W : World} {lo p m h : Nat} (hb : Blk W p 73 (tiArr h 0 m)) (hm : MapF W m 0 fun _ _ => none) (hp : lo ≤ p) (hl : lo ≤ m) (h1 : 1 ≤ h) (h8 : h ≤ 8) : Ti lo p m h (fun _ _ => none) [] W := by
  exact ⟨⟨hb, hm, ⟨fun a b v hf => (by cases hf), fun a b _ => tileG_nil h a b, fun a b => tileG_32 h [] (fun _ hx => (by cases hx)) a b, fun a b a' b' v v' k hf => (by cases hf)⟩, hp, hl⟩, h1, h8, fun _ hx => (by cases hx), by simp⟩
section
variable {W : World} {lo p m h : Nat} {f : Int → Int → Option Value} {L : HL}
theorem tsize_any (ht : Ti lo p m h f L W) : Calls Tryd.prog 17 #[.pointer (some ⟨p, 0, none⟩)] W fun e w' => e = .returned (.int .i64 (L.length : Int)) ∧ w' = W := by
  have c1 := ht.c1
  clear ht
  go_enter Tryd.func17, Tryd.ntmps17
  go_wp2_with fail
  go_ret
  exact ⟨rfl, rfl⟩
theorem theight_any (ht : Ti lo p m h f L W) : Calls Tryd.prog 18 #[.pointer (some ⟨p, 0, none⟩)] W fun e w' => e = .returned (.int .i64 (h : Int)) ∧ w' = W := by
  have c0 := ht.c0
  clear ht
  go_enter Tryd.func18, Tryd.ntmps18
  go_wp2_with fail
  go_ret
  exact ⟨rfl, rfl⟩
end
theorem quo62 (h l : Nat) (h1 : 1 ≤ h) : (l : Int) > 62 / (h : Int) ↔ 62 < h * l := by
  have e : 62 / (h : Int) = ((62 / h : Nat) : Int) := rfl
  rw [e]
  have h2 : 62 / h < l ↔ 62 < l * h := Nat.div_lt_iff_lt_mul h1
  rw [Nat.mul_comm] at h2
  constructor
  · intro hh; exact h2.1 (by omega)
  · intro hh; have := h2.2 hh; omega
set_option maxHeartbeats 1000000 in
theorem tcount_any (h l n : Nat) (W : World) (h1 : 1 ≤ h) (h8 : h ≤ 8) (_hl : l ≤ 1000) (hn : n < 9223372036854775808) :
    Calls Tryd.prog 36 #[.int .i64 (h : Int), .int .i64 (l : Int), .int .i64 (n : Int)] W fun e w' => e = .returned (.int .i64 (cT h l n : Int)) ∧ w' = W := by
  have hq := quo62 h l h1
  have hd0 : decide ((l : Int) < 0) = false := by simp
  have hz : (h : Int) ≠ 0 := by omega
  by_cases hg : 62 < h * l
  · have hc := cT_zero h l n hn hg
    rw [hc]
    have hd : decide (62 / (h : Int) < (l : Int)) = true := by simpa using hq.2 hg
    clear hq hc hg
    go_enter Tryd.func36, Tryd.ntmps36
    go_wp2_with fail
    go_ret
    exact ⟨rfl, rfl⟩
  · have hd : decide (62 / (h : Int) < (l : Int)) = false := by
      have h3 := mt hq.1 hg
      simpa using h3
    obtain ⟨k, hk⟩ : ∃ k, h * l = k := ⟨_, rfl⟩
    have hm : IntKind.i64.wrap ((h : Int) * (l : Int)) = (k : Int) := by
      rw [← hk, Int.natCast_mul, IntWalk.i64_in _]
      have : ((h * l : Nat) : Int) = (h : Int) * (l : Int) := Int.natCast_mul h l
      omega
    have hk62 : k ≤ 62 := by omega
    have hk0 : (0 : Int) ≤ (k : Int) := by omega
    have hk64 : (k : Int) ≤ 64 := by omega
    have hcv : cT h l n = n / 2 ^ k := by unfold cT; rw [hk]
    rw [hcv]
    clear hq hg hk hcv
    go_enter Tryd.func36, Tryd.ntmps36
    go_wp2_with fail
    go_ret
    exact ⟨by simp, rfl⟩
set_option maxHeartbeats 1000000 in
theorem tnew_bad (z : Int) (W : World) (hz : z < 1 ∨ 8 < z) : Calls Tryd.prog 23 #[.int .i64 z] W fun e w' => e = .returned (.tuple #[.pointer none, .int .i64 2]) ∧ w' = W := by
  by_cases h1 : z < 1
  · have d1 : decide (z < 1) = true := by simpa using h1
    clear hz
    go_enter Tryd.func23, Tryd.ntmps23
    go_wp2_with fail
    go_ret2
    exact ⟨rfl, rfl⟩
  · have d1 : decide (z < 1) = false := by simpa using h1
    have d2 : decide (8 < z) = true := by simp; omega
    clear hz
    go_enter Tryd.func23, Tryd.ntmps23
    go_wp2_with fail
    go_ret2
    exact ⟨rfl, rfl⟩
set_option maxHeartbeats 1000000 in
theorem tnew_any (h : Nat) (W : World) (h1 : 1 ≤ h) (h8 : h ≤ 8) : Calls Tryd.prog 23 #[.int .i64 (h : Int)] W fun e w' => ∃ p m, e = .returned (.tuple #[.pointer (some ⟨p, 0, none⟩), .int .i64 0]) ∧ Ti W.heap.size p m h (fun _ _ => none) [] w' ∧ Below W.heap.size W w' := by
  have d1 : decide ((h : Int) < 1) = false := by simp; omega
  have d2 : decide ((8 : Int) < (h : Int)) = false := by simp; omega
  obtain ⟨w1, hw1⟩ : ∃ x, W.alloc (.map #[] 0) = x := ⟨_, rfl⟩
  obtain ⟨w2, hw2⟩ : ∃ x, w1.alloc (.cells (tiArr h 0 W.heap.size) 73) = x := ⟨_, rfl⟩
  have b1 : Below W.heap.size W w1 := by rw [← hw1]; exact (Below.refl _ _).alloc (Nat.le_refl _) _
  have m1 : MapF w1 W.heap.size 0 fun _ _ => none := by rw [← hw1]; exact MapF.made W
  have b2 : Below w1.heap.size w1 w2 := by rw [← hw2]; exact (Below.refl _ _).alloc (Nat.le_refl _) _
  have k2 : Blk w2 w1.heap.size 73 (tiArr h 0 W.heap.size) := by rw [← hw2]; exact Blk.new _ _ _
  have ht := ti_new (lo := W.heap.size) k2 (m1.step b2) b1.size (Nat.le_refl _) h1 h8
  have hb := b1.trans (b2.mono b1.size)
  have Ht := Lib.hid ht
  have Hb := Lib.hid hb
  have Hw1 := Lib.hid hw1
  have Hw2 := Lib.hid hw2
  clear ht hb b1 b2 m1 k2 hw1 hw2
  go_enter Tryd.func23, Tryd.ntmps23
  go_wp2_with (first
    | ((with_reducible show wpList _ _ _ (⟨some 11, .makeMap _ _, _, _, _, _⟩ :: _) _ _); refine wpList_run rfl (.map (some W.heap.size)) w1 (by rw [← Hw1.out]; rfl) ?_; simp only [Act.put, List.setIfInBounds_toArray, List.set_cons_succ, List.set_cons_zero])
    | ((with_reducible show wpList _ _ _ (⟨some 12, .build _ _, _, _, _, _⟩ :: _) _ _); refine wpList_run0 rfl (.agg (tiArr h 0 W.heap.size)) (by kernel_rfl) ?_; simp only [Act.put, List.setIfInBounds_toArray, List.set_cons_succ, List.set_cons_zero])
    | ((with_reducible show wpList _ _ _ (⟨some 13, .box _ _, _, _, _, _⟩ :: _) _ _); refine wpList_run rfl (.pointer (some ⟨w1.heap.size, 0, none⟩)) w2 (by rw [← Hw2.out]; rfl) ?_; simp only [Act.put, List.setIfInBounds_toArray, List.set_cons_succ, List.set_cons_zero]))
  go_ret2
  exact ⟨_, _, rfl, Ht.out, Hb.out⟩
end Go.Proofs.YtfhmjgkcpcnkbaaDoor
