/- notaryref10: Parts, Bytes; notaryref01.Number. -/
import Derived.Test.YtonidnfgneokbaaQd146
namespace Go.Proofs.Ytonidnfgneokbaa
open Go Go.RowKit Go.Shelf
attribute [local go_sem] Oper.semAt_some

set_option maxHeartbeats 4000000 in
set_option maxRecDepth 100000 in
theorem rfparts_nil (w : World) : Calls Try.prog 127 #[.pointer none] w fun e w' => e = .returned (.slice none 0 0) ∧ w' = w := by
  go_enter Try.func127, Try.ntmps127
  go_wp2_with fail
  go_loopw [3, 4] (fun v3 v4 wr => v3 = .slice none 0 0 ∧ v4 = .int .i64 0 ∧ wr = w) (fun _ _ _ => 0)
  case atStart => exact ⟨rfl, rfl, rfl⟩
  case round =>
    obtain ⟨rfl, rfl, rfl⟩ := hrel
    go_wp2_with fail
    go_ret
    exact ⟨rfl, rfl⟩
set_option maxHeartbeats 4000000 in
set_option maxRecDepth 100000 in
theorem rfparts_any (g : Nat) (ps : FrV) (w : World) (h : FrP w g ps) (hm63 : ps.length ≤ 63) : Calls Try.prog 127 #[fptr g] w fun e w' => ∃ v, e = .returned v ∧ w'.ownsRow w.heap.size 25 32 v (hashF ps).length (hcells (hashF ps)) ∧ Below w.heap.size w w' := by
  have h32 := h.all
  obtain ⟨A, n, c, hk, hP⟩ := h.ex
  have hlen : ps.length = n := by rw [← hP.len, length_fpq]
  have hkg := hk.lt
  have hroom := hP.sl.room
  have hmx := hP.sl.max
  unfold maxLen at hmx
  obtain ⟨rs, hrs⟩ : ∃ rs, hashF ps = rs := ⟨_, rfl⟩
  have hlr : rs.length = n := by rw [← hrs, ← hlen]; simp [hashF]
  have hr32 : H32 rs := by rw [← hrs]; exact hashF_32 ps h32
  have hat : ∀ k, k < n → (ps.getD k (0, [])).2 = rs.getD k [] := fun k hk => by rw [← hrs, hashF_getD ps k (by omega)]
  rw [hrs]
  have Hk := Lib.hid hk
  have HP := Lib.hid hP
  have Hlr := Lib.hid hlr
  have Hr32 := Lib.hid hr32
  have Hat := Lib.hid hat
  have Hlen := Lib.hid hlen
  have hn63 : n ≤ 63 := by omega
  clear hlr hr32 hat hrs hk hP h h32 hlen hm63
  go_enter Try.func127, Try.ntmps127
  go_wp2_with fail
  go_loopw [3, 4] (fun v3 v4 wr => ∃ k : Nat, k ≤ n ∧ v4 = .int .i64 (k : Int) ∧ wr.ownsRow w.heap.size 25 32 v3 k (hcells (rs.take k)) ∧ Below w.heap.size w wr) (fun _ v4 _ => n - (intOf v4).toNat)
  case atStart => exact ⟨0, Nat.zero_le _, rfl, World.ownsRow_nil _ _ _ _, Below.refl _ _⟩
  case round =>
    obtain ⟨k, hk, rfl, ho, hB⟩ := hrel
    have c12 : wr.cell? ⟨g, 0, none⟩ = some (.slice A n c) := by rw [(Hk.out.below hB hkg).cell]; rfl
    by_cases hkn : k < n
    · have hd : decide ((k : Int) < (n : Int)) = true := by simp; omega
      have hwk : IntKind.i64.wrap ((k : Int) + 1) = (k : Int) + 1 := IntWalk.i64_in _ (by omega)
      have hPr := HP.out.step hB
      obtain ⟨b, o, rfl, -, -⟩ := hPr.at_ (by omega)
      have hget := hPr.hash rfl k hkn
      rw [fpq_getD ps k (by rw [Hlen.out]; exact hkn)] at hget
      replace hget : (Instr.loadAt 25 (.pointer (some ⟨b, o + k * 33 + 1, none⟩))).run Try.prog wr = .ok (.agg ((ps.getD k (0, [])).2.map B).toArray) wr := hget
      rw [Hat.out k hkn] at hget
      have hx32 := Hr32.out.getD k (by rw [Hlr.out]; exact hkn)
      have htk := take_snocF rs k (by rw [Hlr.out]; exact hkn)
      have hql : (rs.take k).length = k := by rw [List.length_take, Hlr.out]; omega
      obtain ⟨x, hx⟩ : ∃ x, rs.getD k [] = x := ⟨_, rfl⟩
      obtain ⟨q, hq⟩ : ∃ q, rs.take k = q := ⟨_, rfl⟩
      rw [hx] at hget hx32 htk
      rw [hq] at htk hql ho
      obtain ⟨v9, w9, hr9, ho9, hg9, -⟩ := append_hw (by rw [hql]; exact ho : wr.ownsRow w.heap.size 25 32 u3 q.length (hcells q)) x hx32 (by omega) hB.size
      rw [List.length_append, hql, ← htk] at ho9
      have hB9 := hB.grown hg9 hB.size (fun r e => (ho.lt r e).1)
      have Hr9 := Lib.hid hr9
      have Hget := Lib.hid hget
      have Ho9 := Lib.hid ho9
      clear hr9 hget htk hx hq hql ho9 hPr
      go_wp2_with (first
        | ((with_reducible show wpList _ _ _ (⟨some 26, .load _ _, _, _, _, _⟩ :: _) _ _); refine wpList_run0 rfl (.agg (x.map B).toArray) (run_load_op 25 (.tmp 25) rfl b (o + k * 33 + 1) rfl _ Hget.out) ?_; simp only [Act.put])
        | ((with_reducible show wpList _ _ _ (⟨some 27, .buildSlice _ _ _, _, _, _, _⟩ :: _) _ _); refine wpList_run rfl _ _ (run_litH1_op x hx32 (.tmp 26) rfl rfl _) ?_; simp only [Act.put])
        | ((with_reducible show wpList _ _ _ (⟨some 28, .call _, _, _, _, _⟩ :: _) _ _); refine wpList_run rfl v9 w9 (run_append_op (.tmp 18) (.tmp 27) 26 rfl _ _ rfl rfl Hr9.out) ?_; simp only [Act.put]))
      go_roundw
      case rel => exact ⟨k + 1, by omega, by go_num, Ho9.out, hB9⟩
      case measure => simp [intOf] <;> omega
    · obtain rfl : k = n := by omega
      have hd : decide ((k : Int) < (k : Int)) = false := by simp
      rw [List.take_of_length_le (by rw [Hlr.out]; exact Nat.le_refl _)] at ho
      go_wp2_with fail
      go_ret
      exact ⟨_, rfl, by rw [Hlr.out]; exact ho, hB⟩

theorem map_set_B (l : List UInt8) (k : Nat) (y : UInt8) : ((l.map B).toArray).setIfInBounds k (B y) = ((l.set k y).map B).toArray := by
  simp [List.map_set]
theorem drop_setF (l : List UInt8) (k : Nat) (y : UInt8) (h : k < l.length) : (l.set k y).drop k = y :: l.drop (k + 1) := by
  rw [List.drop_eq_getElem_cons (by rw [List.length_set]; exact h), List.getElem_set_self, List.drop_set, if_pos (by omega)]
set_option maxHeartbeats 4000000 in
set_option maxRecDepth 100000 in
theorem r01number_any (x : Nat) (w : World) (hx : x < 18446744073709551616) : Calls Try.prog 134 #[.int .i64 8, .int .u64 (x : Int)] w fun e w' => ∃ v, e = .returned v ∧ Fresh w w' v (beN 8 x) := by
  obtain ⟨res, hres⟩ : ∃ r, beN 8 x = r := ⟨_, rfl⟩
  have hrl : res.length = 8 := by rw [← hres]; exact length_beN 8 x
  rw [hres]
  have Hres := Lib.hid hres
  clear hres
  obtain ⟨z, hz⟩ : ∃ z, List.replicate 8 (0 : UInt8) = z := ⟨_, rfl⟩
  have hzl : z.length = 8 := by rw [← hz]; rfl
  have Hz := Lib.hid hz
  have k0 : Blk (w.alloc (.cells (z.map B).toArray 5)) w.heap.size 5 (z.map B).toArray := Blk.new _ _ _
  have hb0 : Below w.heap.size w (w.alloc (.cells (z.map B).toArray 5)) := (Below.refl _ _).alloc (Nat.le_refl _) _
  clear hz
  go_enter Try.func134, Try.ntmps134
  go_wp2_with ((with_reducible show wpList _ _ _ (⟨some 8, .makeSlice _ _ _, _, _, _, _⟩ :: _) _ _); refine wpList_run rfl (.slice (some ⟨w.heap.size, 0, none⟩) 8 8) (w.alloc (.cells (z.map B).toArray 5)) (by rw [← Hz.out]; kernel_rfl) ?_; generalize w.alloc (.cells (z.map B).toArray 5) = w1 at k0 hb0 ⊢; simp only [Act.put])
  go_loopw [1, 6] (fun v1 v6 wr => ∃ (j y : Nat) (l : List UInt8), j ≤ 8 ∧ v6 = .int .i64 ((j : Int) - 1) ∧ v1 = .int .u64 (y : Int) ∧ y = x / 256 ^ (8 - j) ∧ l.length = 8 ∧ l.drop j = beN (8 - j) x ∧ Blk wr w.heap.size 5 (l.map B).toArray ∧ Below w.heap.size w wr) (fun _ v6 _ => (intOf v6 + 1).toNat)
  case atStart => exact ⟨8, x, z, Nat.le_refl _, rfl, rfl, by simp, hzl, by rw [List.drop_of_length_le (by omega)]; rfl, k0, hb0⟩
  case round =>
    clear k0 hb0
    obtain ⟨j, y, l, hj, rfl, rfl, hy, hl, hdr, k, hB⟩ := hrel
    rcases Nat.eq_zero_or_pos j with rfl | hjp
    · have hlr : l = res := by rw [← Hres.out, ← List.drop_zero (l := l)]; exact hdr
      go_wp2_with fail
      go_ret
      refine ⟨_, rfl, ?_, hB⟩
      rw [← hlr, hl]
      exact ⟨by rw [List.length_map, hl], .inr ⟨w.heap.size, 8, (l.map B).toArray, rfl, Nat.le_refl _, k, Nat.le_refl _, by unfold maxLen; decide, by simp [hl], List.take_of_length_le (by simp [hl])⟩⟩
    · obtain ⟨q, rfl⟩ : ∃ q, j = q + 1 := ⟨j - 1, by omega⟩
      have hll : ((q + 1 : Nat) : Int) - 1 = (q : Int) := by omega
      rw [hll]
      have hwl : IntKind.i64.wrap ((q : Int) - 1) = (q : Int) - 1 := IntWalk.i64_in _ (by omega)
      have hge : decide ((0 : Int) ≤ (q : Int)) = true := by simp
      have hq8 : (q : Int) < 8 := by omega
      have hylt : y < 18446744073709551616 := by
        have := Nat.div_le_self x (256 ^ (8 - (q + 1)))
        omega
      have hwb : IntKind.u8.wrap (y : Int) = ((UInt8.ofNat y).toNat : Int) := by rw [IntKind.wrap_u8, UInt8.toNat_ofNat']; omega
      have e8 : 8 - q = (8 - (q + 1)) + 1 := by omega
      have hy2 : y / 256 = x / 256 ^ (8 - q) := by rw [hy, Nat.div_div_eq_div_mul, e8, Nat.pow_succ]
      have hdr2 : (l.set q (UInt8.ofNat y)).drop q = beN (8 - q) x := by
        rw [drop_setF l q _ (by omega), hdr, e8, beN, ← hy]
      have hset := k.set_ q (B (UInt8.ofNat y))
      rw [map_set_B] at hset
      obtain ⟨c0, hc0⟩ : ∃ u, wr.cell? ⟨w.heap.size, q, none⟩ = some u := by
        rw [k.cell]
        exact ⟨_, Array.getElem?_eq_getElem (by rw [List.size_toArray, List.length_map]; omega)⟩
      have f0 := k.frozen q
      have hw4 : IntKind.u64.wrap ((y / 256 : Nat) : Int) = ((y / 256 : Nat) : Int) := by rw [IntKind.wrap_u64]; omega
      obtain ⟨bt, hbt⟩ : ∃ b, UInt8.ofNat y = b := ⟨_, rfl⟩
      rw [hbt] at hwb hset hdr2
      have Hset := Lib.hid hset
      have Hy2 := Lib.hid hy2
      have Hdr2 := Lib.hid hdr2
      clear hset hy2 hdr2 hy hdr e8 hbt
      have hyI : ((y : Int) / 256) = ((y / 256 : Nat) : Int) := by omega
      have HyI := Lib.hid hyI
      clear hyI
      go_wp2_with fail
      go_roundw
      case rel => exact ⟨q, y / 256, l.set q bt, by omega, rfl, by rw [HyI.out], Hy2.out, by rw [List.length_set]; exact hl, Hdr2.out, Hset.out, hB.setCell (p := ⟨w.heap.size, q, none⟩) (Nat.le_refl _) _⟩
      case measure => simp [intOf] <;> omega

/-- one hash of parts, as bytes -/
theorem Pcs.slh {w : World} {X : Nat → Prop} {A : Option Addr} {n c : Nat} {ps : List PcV} (h : Pcs w X A n c ps) {b o : Nat} (hA : A = some ⟨b, o, none⟩) (i : Nat) (hi : i < n) : Sl w X (some ⟨b, o + i * 33 + 1, none⟩) 32 32 (ps.getD i pcD).2 := by
  obtain ⟨b', o', e, hb, hX⟩ := h.at_ (by omega)
  rw [hA] at e
  cases e
  exact ⟨fun _ => ⟨b, _, rfl, hb, hX, fun j v hv => by
    rw [show o + i * 33 + 1 + j = o + i * 33 + (j + 1) by omega]
    exact h.cell hA i hi (j + 1) v (by rw [List.getElem?_cons_succ]; exact hv)⟩, h.all.getD i (by rw [h.len]; exact hi), Nat.le_refl _, (fun e => by cases e), by unfold maxLen; decide⟩
set_option maxHeartbeats 4000000 in
set_option maxRecDepth 100000 in
theorem rfbytes_nil (w : World) : Calls Try.prog 64 #[.pointer none] w fun e w' => e = .returned (.slice none 0 0) ∧ w' = w := by
  go_enter Try.func64, Try.ntmps64
  go_wp2_with fail
  go_ret
  exact ⟨rfl, rfl⟩
set_option maxHeartbeats 4000000 in
set_option maxRecDepth 100000 in
theorem rfbytes_any (g : Nat) (ps : FrV) (w : World) (h : FrP w g ps) (ho : FrOk ps) : Calls Try.prog 64 #[fptr g] w fun e w' => ∃ v, e = .returned v ∧ Fresh w w' v (bytesF ps) := by
  have hm63 := ho.len
  have h32 := h.all
  have htop := ho.top
  have hsz := rfsize_any g ps w h htop
  obtain ⟨A, n, c, hk, hP⟩ := h.ex
  have hlen : ps.length = n := by rw [← hP.len, length_fpq]
  have hkg := hk.lt
  have hroom := hP.sl.room
  have hmx := hP.sl.max
  unfold maxLen at hmx
  unfold bytesF
  obtain ⟨sz, hsze⟩ : ∃ s, szF ps = s := ⟨_, rfl⟩
  rw [hsze] at hsz htop ⊢
  have hnu := r01number_any sz w (by omega)
  obtain ⟨hd8, hhd⟩ : ∃ hd8, beN 8 sz = hd8 := ⟨_, rfl⟩
  have hhl : hd8.length = 8 := by rw [← hhd]; exact length_beN 8 sz
  rw [hhd] at hnu ⊢
  have hwu : IntKind.u64.wrap (sz : Int) = (sz : Int) := by rw [IntKind.wrap_u64]; omega
  obtain ⟨rs, hrs⟩ : ∃ rs, hashF ps = rs := ⟨_, rfl⟩
  have hlr : rs.length = n := by rw [← hrs, ← hlen]; simp [hashF]
  have hr32 : H32 rs := by rw [← hrs]; exact hashF_32 ps h32
  have hat : ∀ k, k < n → (ps.getD k (0, [])).2 = rs.getD k [] := fun k hk => by rw [← hrs, hashF_getD ps k (by omega)]
  rw [hrs]
  obtain ⟨res, hres⟩ : ∃ r, hd8 ++ rs.flatten = r := ⟨_, rfl⟩
  rw [hres]
  have Hres := Lib.hid hres
  have Hk := Lib.hid hk
  have HP := Lib.hid hP
  have Hlr := Lib.hid hlr
  have Hr32 := Lib.hid hr32
  have Hat := Lib.hid hat
  have Hlen := Lib.hid hlen
  have Hsz := Lib.hid hsz
  have Hnu := Lib.hid hnu
  have Hhl := Lib.hid hhl
  have hn63 : n ≤ 63 := by omega
  clear hlr hr32 hat hrs hk hP h h32 hlen hm63 hsz hnu hhl hhd hsze ho hres
  go_enter Try.func64, Try.ntmps64
  go_wp2_with (first
    | (go_at_call 125; refine Hsz.out.mono ?_; rintro e w1 ⟨rfl, hww⟩; obtain rfl := hww.symm)
    | (go_at_call 134; refine Hnu.out.mono ?_; rintro e w2 ⟨v3, rfl, ho3, hb2⟩))
  have hI0 : w2.ownsRow w.heap.size 5 1 v3 (hd8 ++ (rs.take 0).flatten).length ((hd8 ++ (rs.take 0).flatten).map B) := by simpa using ho3
  clear Hsz Hnu ho3
  go_loopw [3, 4] (fun v3 v4 wr => ∃ k : Nat, k ≤ n ∧ v4 = .int .i64 (k : Int) ∧ wr.ownsRow w.heap.size 5 1 v3 (hd8 ++ (rs.take k).flatten).length ((hd8 ++ (rs.take k).flatten).map B) ∧ Below w.heap.size w wr) (fun _ v4 _ => n - (intOf v4).toNat)
  case atStart => exact ⟨0, Nat.zero_le _, rfl, hI0, hb2⟩
  case round =>
    clear hI0 hb2
    obtain ⟨k, hk, rfl, ho, hB⟩ := hrel
    have c15 : wr.cell? ⟨g, 0, none⟩ = some (.slice A n c) := by rw [(Hk.out.below hB hkg).cell]; rfl
    by_cases hkn : k < n
    · have hd : decide ((k : Int) < (n : Int)) = true := by simp; omega
      have hwk : IntKind.i64.wrap ((k : Int) + 1) = (k : Int) + 1 := IntWalk.i64_in _ (by omega)
      have hPr := HP.out.step hB
      obtain ⟨b, o, rfl, -, -⟩ := hPr.at_ (by omega)
      have hsl := hPr.slh rfl k hkn
      rw [fpq_getD ps k (by rw [Hlen.out]; exact hkn)] at hsl
      replace hsl : Sl wr (fun _ => True) (some ⟨b, o + k * 33 + 1, none⟩) 32 32 (ps.getD k (0, [])).2 := hsl
      rw [Hat.out k hkn] at hsl
      have htk := flatten_take_snoc rs k (by rw [Hlr.out]; exact hkn)
      have hql : (hd8 ++ (rs.take k).flatten).length ≤ 1000000 := by rw [List.length_append, Hhl.out, length_flat32 _ (fun x hx => Hr32.out x (List.mem_of_mem_take hx)), List.length_take]; omega
      obtain ⟨x, hx⟩ : ∃ x, rs.getD k [] = x := ⟨_, rfl⟩
      rw [hx] at hsl htk
      have htk : hd8 ++ (rs.take (k + 1)).flatten = (hd8 ++ (rs.take k).flatten) ++ x := by rw [htk, List.append_assoc]
      obtain ⟨q, hq⟩ : ∃ q, hd8 ++ (rs.take k).flatten = q := ⟨_, rfl⟩
      rw [hq] at htk ho hql
      obtain ⟨v9, w9, hr9, ho9, hg9⟩ := append_sl ho hsl (by omega) hB.size
      rw [← htk] at ho9
      have hB9 := hB.grown hg9 hB.size (fun r e => (ho.lt r e).1)
      have Hr9 := Lib.hid hr9
      have Ho9 := Lib.hid ho9
      clear hr9 ho9 htk hq hql hx hsl hPr
      go_wp2_with (first
        | ((with_reducible show wpList _ _ _ (⟨some 28, .slice _ _ _ _ _, _, _, _, _⟩ :: _) _ _); refine wpList_run0 rfl _ (run_slice_allO (.tmp 27) rfl b (o + k * 33 + 1) rfl _) ?_; simp only [Act.put])
        | ((with_reducible show wpList _ _ _ (⟨some 29, .call _, _, _, _, _⟩ :: _) _ _); refine wpList_run rfl v9 w9 (run_append_op (.tmp 20) (.tmp 28) 23 rfl _ _ rfl rfl Hr9.out) ?_; simp only [Act.put]))
      go_roundw
      case rel => exact ⟨k + 1, by omega, by go_num, Ho9.out, hB9⟩
      case measure => simp [intOf] <;> omega
    · obtain rfl : k = n := by omega
      have hd : decide ((k : Int) < (k : Int)) = false := by simp
      rw [List.take_of_length_le (by rw [Hlr.out]; exact Nat.le_refl _), Hres.out] at ho
      go_wp2_with fail
      go_ret
      exact ⟨_, rfl, ho, hB⟩
end Go.Proofs.Ytonidnfgneokbaa
