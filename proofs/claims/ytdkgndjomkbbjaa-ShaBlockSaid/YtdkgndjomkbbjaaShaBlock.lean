/- notarylaw03.ShaBlock walked. -/
import Derived.Test.YtdkgndjomkbbjaaKnown
import Derived.Test.YtdkgndjomkbbjaaRefBlock
namespace Go.Proofs.Ytdkgndjomkbbjaa
open Go.RowKit

set_option maxHeartbeats 4000000 in
set_option maxRecDepth 100000 in
theorem shablock_any (st : List UInt32) (bl : List UInt8) (w : World) (hs : st.length = 8) (hb : bl.length = 64) :
    Calls Try.prog 4 #[.agg (st.map U).toArray, .agg (bl.map B).toArray] w fun e w' => e = .returned (.bool true) ∧ Below w.heap.size w w' := by
  obtain ⟨ss, hss⟩ : ∃ ss, (st.map U).toArray = ss := ⟨_, rfl⟩
  obtain ⟨bs, hbs⟩ : ∃ bs, (bl.map B).toArray = bs := ⟨_, rfl⟩
  have hsz : ss.size = 8 := by rw [← hss]; simp [hs]
  have hbz : bs.size = 64 := by rw [← hbs]; simp [hb]
  have hs1 : ∀ v ∈ ss.toList, v.oneCell' = true := by rw [← hss]; exact oneCell_U _
  have hb1 : ∀ v ∈ bs.toList, v.oneCell' = true := by rw [← hbs]; exact oneCell_B _
  rw [hss, hbs]
  have Hss := Lib.hid hss
  have Hbs := Lib.hid hbs
  have Hs := Lib.hid hs
  have Hb := Lib.hid hb
  clear hss hbs hs hb
  obtain ⟨z64, hz64⟩ : ∃ z, z = ((List.replicate 64 0).map B).toArray := ⟨_, rfl⟩
  obtain ⟨z8, hz8⟩ : ∃ z, z = ((List.replicate 8 0).map U).toArray := ⟨_, rfl⟩
  have hz64s : z64.size = 64 := by rw [hz64]; rfl
  have hz8s : z8.size = 8 := by rw [hz8]; rfl
  obtain ⟨z64, hz64⟩ : ∃ z, z = ((List.replicate 64 0).map B).toArray := ⟨_, rfl⟩
  obtain ⟨z8, hz8⟩ : ∃ z, z = ((List.replicate 8 0).map U).toArray := ⟨_, rfl⟩
  have hz64s : z64.size = 64 := by rw [hz64]; rfl
  have hz8s : z8.size = 8 := by rw [hz8]; rfl
  go_enter Try.func4, Try.ntmps4
  go_wp2_with (first
    | ((with_reducible show wpList _ _ _ (⟨some 2, .box _ _, _, _, _, _⟩ :: _) _ _); refine wpList_run rfl (.pointer (some ⟨w.heap.size, 0, none⟩)) (w.alloc (.cells ss 33)) (by rfl) ?_; refine wpList_world (fun W => Blk W w.heap.size 33 ss ∧ Below w.heap.size w W) ⟨Blk.new _ _ _, (Below.refl _ _).alloc (Nat.le_refl _) _⟩ ?_; rintro w1 ⟨s1, hB1⟩; have l1 := s1.lt)
    | ((with_reducible show wpList _ _ _ (⟨some 3, .box _ _, _, _, _, _⟩ :: _) _ _); refine wpList_run rfl (.pointer (some ⟨w1.heap.size, 0, none⟩)) (w1.alloc (.cells bs 34)) (by rfl) ?_; refine wpList_world (fun W => Blk W w.heap.size 33 ss ∧ Blk W w1.heap.size 34 bs ∧ Below w.heap.size w W) ⟨s1.alloc _, Blk.new _ _ _, hB1.alloc hB1.size _⟩ ?_; clear s1; rintro w2 ⟨s2, b2, hB2⟩; have l2 := b2.lt)
    | ((with_reducible show wpList _ _ _ (⟨some 7, .load _ _, _, _, _, _⟩ :: _) _ _); refine wpList_load rfl 34 (.tmp 3) rfl w1.heap.size 0 rfl bs (run_load_blk (agg34 _) (size34 _) _ _ hbz b2) ?_)
    | ((with_reducible show wpList _ _ _ (⟨some 5, .alloc _, _, _, _, _⟩ :: _) _ _); refine wpList_run rfl (.pointer (some ⟨w2.heap.size, 0, none⟩)) (w2.alloc (.cells z64 34)) (by rw [hz64]; rfl) ?_; refine wpList_world (fun W => Blk W w.heap.size 33 ss ∧ Blk W w1.heap.size 34 bs ∧ Blk W w2.heap.size 34 z64 ∧ Below w.heap.size w W) ⟨s2.alloc _, b2.alloc _, Blk.new _ _ _, hB2.alloc hB2.size _⟩ ?_; clear s2 b2; rintro w3 ⟨s3, b3, c3, hB3⟩; have l3 := c3.lt)
    | ((with_reducible show wpList _ _ _ (⟨none, .store 34 _ _, _, _, _, _⟩ :: _) _ _); refine wpList_store_blk rfl 34 (.tmp 5) (.tmp 7) rfl 64 size34 w2.heap.size bs rfl rfl hbz hb1 34 _ c3 hz64s ?_; refine wpList_world (fun W => Blk W w.heap.size 33 ss ∧ Blk W w1.heap.size 34 bs ∧ Blk W w2.heap.size 34 bs ∧ Below w.heap.size w W) ⟨s3.setRow_apart (by omega) _, b3.setRow_apart (by omega) _, c3.setRow_ _, below_setRow hB3 (by omega) _⟩ ?_; clear s3 b3 c3; rintro w4 ⟨s4, b4, c4, hB4⟩; have l4 := c4.lt; simp only [Act.put])
    | ((with_reducible show wpList _ _ _ (⟨some 8, .load _ _, _, _, _, _⟩ :: _) _ _); refine wpList_load rfl 33 (.tmp 2) rfl w.heap.size 0 rfl ss (run_load_blk (agg33 _) (size33 _) _ _ hsz s4) ?_)
    | ((with_reducible show wpList _ _ _ (⟨some 6, .alloc _, _, _, _, _⟩ :: _) _ _); refine wpList_run rfl (.pointer (some ⟨w4.heap.size, 0, none⟩)) (w4.alloc (.cells z8 33)) (by rw [hz8]; rfl) ?_; refine wpList_world (fun W => Blk W w.heap.size 33 ss ∧ Blk W w1.heap.size 34 bs ∧ Blk W w2.heap.size 34 bs ∧ Blk W w4.heap.size 33 z8 ∧ Below w.heap.size w W) ⟨s4.alloc _, b4.alloc _, c4.alloc _, Blk.new _ _ _, hB4.alloc hB4.size _⟩ ?_; clear s4 b4 c4; rintro w5 ⟨s5, b5, c5, d5, hB5⟩; have l5 := d5.lt)
    | ((with_reducible show wpList _ _ _ (⟨none, .store 33 _ _, _, _, _, _⟩ :: _) _ _); refine wpList_store_blk rfl 33 (.tmp 6) (.tmp 8) rfl 8 size33 w4.heap.size ss rfl rfl hsz hs1 33 _ d5 hz8s ?_; refine wpList_world (fun W => Blk W w.heap.size 33 ss ∧ Blk W w1.heap.size 34 bs ∧ Blk W w2.heap.size 34 bs ∧ Blk W w4.heap.size 33 ss ∧ Below w.heap.size w W) ⟨s5.setRow_apart (by omega) _, b5.setRow_apart (by omega) _, c5.setRow_apart (by omega) _, d5.setRow_ _, below_setRow hB5 (by omega) _⟩ ?_; clear s5 b5 c5 d5; rintro w6 ⟨s6, b6, c6, d6, hB6⟩; simp only [Act.put]))
  have l6 := d6.lt
  have hblk := fun W => block_any st bl W Hs.out Hb.out
  have href := fun (W : World) (n : Nat) (hn : n < W.heap.size) hc => refblock_any st bl n 0 64 64 W Hs.out Hb.out rfl (Nat.le_refl _) hn hc
  obtain ⟨rl, hrl⟩ : ∃ rl, ((S8.of st).block bl).list = rl := ⟨_, rfl⟩
  have hrl8 : rl.length = 8 := by rw [← hrl]; exact length_list _
  simp only [hrl, Hss.out, Hbs.out] at hblk href
  clear hrl
  have hEq34 : ∀ {ρ : Operand → Value} {o : Oper} (x y : Operand) (ty : TypeId) (_ : o.op = .binOp .eql 34 x y ty) (_ : ρ x = .agg bs) (_ : ρ y = .agg bs) (W : World), (execOp ρ o).run Try.prog W = .ok (.value (.bool true)) W := fun x y ty ho hx hy W => by
    rw [← Hbs.out] at hx hy
    have := run_eql34 x y ty bl bl ho hx hy Hb.out Hb.out W
    rwa [BEq.rfl] at this
  have hEq33 : ∀ {ρ : Operand → Value} {o : Oper} (x y : Operand) (ty : TypeId) (_ : o.op = .binOp .eql 33 x y ty) (_ : ρ x = .agg ss) (_ : ρ y = .agg ss) (W : World), (execOp ρ o).run Try.prog W = .ok (.value (.bool true)) W := fun x y ty ho hx hy W => by
    rw [← Hss.out] at hx hy
    have := run_eql33 x y ty st st ho hx hy Hs.out Hs.out W
    rwa [BEq.rfl] at this
  have hEqr : ∀ {ρ : Operand → Value} {o : Oper} (x y : Operand) (ty : TypeId) (_ : o.op = .binOp .eql 33 x y ty) (_ : ρ x = .agg (rl.map U).toArray) (_ : ρ y = .agg (rl.map U).toArray) (W : World), (execOp ρ o).run Try.prog W = .ok (.value (.bool true)) W := fun x y ty ho hx hy W => by
    have := run_eql33 x y ty rl rl ho hx hy hrl8 hrl8 W
    rwa [BEq.rfl] at this
  refine wp_region_mix (fun W => Below w6.heap.size w6 W) [(0, true), (1, true), (3, true), (4, true), (2, false), (5, false), (6, true), (7, true), (8, true), (9, true), (10, true), (11, true), (12, true), (13, true), (14, true), (15, true), (16, true), (17, true), (18, false), (19, true), (20, true)] (by kernel_rfl) (by kernel_rfl) ((Below.refl w6.heap.size w6).drew) fun _ => ?_
  simp only [List.map_cons, List.map_nil, Array.getD_eq_getD_getElem?, List.getElem?_toArray, List.getElem?_cons_succ, List.getElem?_cons_zero, Option.getD_some]
  have hdr : Below w6.heap.size w6 w6.drew := (Below.refl w6.heap.size w6).drew
  generalize w6.drew = w7 at hdr ⊢
  refine wpMix_load (by kernel_rfl) 33 (.tmp 6) rfl w4.heap.size 0 rfl ss (fun s => run_load_blk (agg33 _) (size33 _) _ _ hsz (d6.below s.ok d6.lt)) ?_
  simp only [Act.put]
  refine wpMix_load (by kernel_rfl) 34 (.tmp 5) rfl w2.heap.size 0 rfl bs (fun s => run_load_blk (agg34 _) (size34 _) _ _ hbz (c6.below s.ok c6.lt)) ?_
  simp only [Act.put]
  refine wpMix_load (by kernel_rfl) 33 (.tmp 2) rfl w.heap.size 0 rfl ss (fun s => run_load_blk (agg33 _) (size33 _) _ _ hsz (s6.below s.ok s6.lt)) ?_
  simp only [Act.put]
  refine wpMix_s (fun K hK => ?_)
  go_simp
  refine hK _ ?_
  clear hK K
  refine wpMix_c (fun K hK => ?_) hdr
  go_simp
  refine (hblk w7).mono ?_
  rintro e w8 ⟨rfl, hx8⟩
  refine hK _ _ ?_
  clear hK K
  have h8 := hdr.trans (hx8.mono hdr.size)
  refine ⟨h8, ?_⟩
  have b8 := b6.below h8 b6.lt
  refine wpMix_c (fun K hK => ?_) h8
  go_simp
  refine (href w8 w1.heap.size b8.lt (fun j hj => by rw [Nat.zero_add, b8.cell, ← Hbs.out]; exact cellB bl j (by rw [Hb.out]; exact hj))).mono ?_
  rintro e w9 ⟨rfl, hx9⟩
  refine hK _ _ ?_
  clear hK K
  have h9 := h8.trans (hx9.mono h8.size)
  refine ⟨h9, ?_⟩
  refine wpMix_v (by kernel_rfl) (.bool true) (fun s => hEqr (.tmp 11) (.tmp 14) 33 rfl rfl rfl s.W) ?_
  simp only [Act.put]
  refine wpMix_s (fun K hK => ?_)
  go_simp
  refine hK _ ?_
  clear hK K
  refine wpMix_load (by kernel_rfl) 33 (.tmp 6) rfl w4.heap.size 0 rfl ss (fun s => run_load_blk (agg33 _) (size33 _) _ _ hsz (d6.below s.ok d6.lt)) ?_
  simp only [Act.put]
  refine wpMix_load (by kernel_rfl) 33 (.tmp 2) rfl w.heap.size 0 rfl ss (fun s => run_load_blk (agg33 _) (size33 _) _ _ hsz (s6.below s.ok s6.lt)) ?_
  simp only [Act.put]
  refine wpMix_v (by kernel_rfl) (.bool true) (fun s => hEq33 (.tmp 17) (.tmp 18) 33 rfl rfl rfl s.W) ?_
  simp only [Act.put]
  refine wpMix_s (fun K hK => ?_)
  go_simp
  refine hK _ ?_
  clear hK K
  refine wpMix_s (fun K hK => ?_)
  go_simp
  refine hK _ ?_
  clear hK K
  refine wpMix_load (by kernel_rfl) 34 (.tmp 5) rfl w2.heap.size 0 rfl bs (fun s => run_load_blk (agg34 _) (size34 _) _ _ hbz (c6.below s.ok c6.lt)) ?_
  simp only [Act.put]
  refine wpMix_load (by kernel_rfl) 34 (.tmp 3) rfl w1.heap.size 0 rfl bs (fun s => run_load_blk (agg34 _) (size34 _) _ _ hbz (b6.below s.ok b6.lt)) ?_
  simp only [Act.put]
  refine wpMix_v (by kernel_rfl) (.bool true) (fun s => hEq34 (.tmp 22) (.tmp 23) 34 rfl rfl rfl s.W) ?_
  simp only [Act.put]
  refine wpMix_s (fun K hK => ?_)
  go_simp
  refine hK _ ?_
  clear hK K
  refine wpMix_s (fun K hK => ?_)
  go_simp
  refine hK _ ?_
  clear hK K
  refine wpMix_c (fun K hK => ?_) h9
  go_simp
  refine (known_any w9).mono ?_
  rintro e wa ⟨rfl, hxa⟩
  refine hK _ _ ?_
  clear hK K
  have ha := h9.trans (hxa.mono h9.size)
  refine ⟨ha, ?_⟩
  refine wpMix_s (fun K hK => ?_)
  go_simp
  refine hK _ ?_
  clear hK K
  refine wpMix_s (fun K hK => ?_)
  go_simp
  refine hK _ ?_
  clear hK K
  refine wpMix_nil ?_
  intro _
  go_wp2
  go_ret
  exact ⟨rfl, hB6.trans (ha.mono hB6.size)⟩
end Go.Proofs.Ytdkgndjomkbbjaa
