/- notaryref10: Parts, Bytes; notaryref01.Number. -/
import Derived.Test.YtonidnfgneokbaaQd227
namespace Go.Proofs.Ytonidnfgneokbaa
open Go Go.RowKit Go.Shelf
attribute [local go_sem] Oper.semAt_some

set_option maxHeartbeats 4000000 in
set_option maxRecDepth 100000 in
theorem rfparts_nil (w : World) : Calls Try.prog 127 #[.pointer none] w fun e w' => e = .returned (.slice none 0 0) ∧ w' = w := by
  go_enter Try.func127, Try.ntmps127
  go_wp2_with fail
  go_loopw [3, 4] (fun v3 v4 wr => v3 = .slice none 0 0 ∧ v4 = .int .i64 0 ∧ wr = w) (fun _ _ _ => 0)
  case atStart => exact ⟨rfl, rfl, rfl⟩
  case round =>
    obtain ⟨rfl, rfl, rfl⟩ := hrel
    go_wp2_with fail
    go_ret
    exact ⟨rfl, rfl⟩
set_option maxHeartbeats 4000000 in
set_option maxRecDepth 100000 in
theorem rfparts_any (g : Nat) (ps : FrV) (w : World) (h : FrP w g ps) (hm63 : ps.length ≤ 63) : Calls Try.prog 127 #[fptr g] w fun e w' => ∃ v, e = .returned v ∧ w'.ownsRow w.heap.size 25 32 v (hashF ps).length (hcells (hashF ps)) ∧ Below w.heap.size w w' := by
  have h32 := h.all
  obtain ⟨A, n, c, hk, hP⟩ := h.ex
  have hlen : ps.length = n := by rw [← hP.len, length_fpq]
  have hkg := hk.lt
  have hroom := hP.sl.room
  have hmx := hP.sl.max
  unfold maxLen at hmx
  obtain ⟨rs, hrs⟩ : ∃ rs, hashF ps = rs := ⟨_, rfl⟩
  have hlr : rs.length = n := by rw [← hrs, ← hlen]; simp [hashF]
  have hr32 : H32 rs := by rw [← hrs]; exact hashF_32 ps h32
  have hat : ∀ k, k < n → (ps.getD k (0, [])).2 = rs.getD k [] := fun k hk => by rw [← hrs, hashF_getD ps k (by omega)]
  rw [hrs]
  have Hk := Lib.hid hk
  have HP := Lib.hid hP
  have Hlr := Lib.hid hlr
  have Hr32 := Lib.hid hr32
  have Hat := Lib.hid hat
  have Hlen := Lib.hid hlen
  have hn63 : n ≤ 63 := by omega
  clear hlr hr32 hat hrs hk hP h h32 hlen hm63
  go_enter Try.func127, Try.ntmps127
  go_wp2_with fail
  go_loopw [3, 4] (fun v3 v4 wr => ∃ k : Nat, k ≤ n ∧ v4 = .int .i64 (k : Int) ∧ wr.ownsRow w.heap.size 25 32 v3 k (hcells (rs.take k)) ∧ Below w.heap.size w wr) (fun _ v4 _ => n - (intOf v4).toNat)
  case atStart => exact ⟨0, Nat.zero_le _, rfl, World.ownsRow_nil _ _ _ _, Below.refl _ _⟩
  case round =>
    obtain ⟨k, hk, rfl, ho, hB⟩ := hrel
    have c12 : wr.cell? ⟨g, 0, none⟩ = some (.slice A n c) := by rw [(Hk.out.below hB hkg).cell]; rfl
    by_cases hkn : k < n
    · have hd : decide ((k : Int) < (n : Int)) = true := by simp; omega
      have hwk : IntKind.i64.wrap ((k : Int) + 1) = (k : Int) + 1 := IntWalk.i64_in _ (by omega)
      have hPr := HP.out.step hB
      obtain ⟨b, o, rfl, -, -⟩ := hPr.at_ (by omega)
      have hget := hPr.hash rfl k hkn
      rw [fpq_getD ps k (by rw [Hlen.out]; exact hkn)] at hget
      replace hget : (Instr.loadAt 25 (.pointer (some ⟨b, o + k * 33 + 1, none⟩))).run Try.prog wr = .ok (.agg ((ps.getD k (0, [])).2.map B).toArray) wr := hget
      rw [Hat.out k hkn] at hget
      have hx32 := Hr32.out.getD k (by rw [Hlr.out]; exact hkn)
      have htk := take_snocF rs k (by rw [Hlr.out]; exact hkn)
      have hql : (rs.take k).length = k := by rw [List.length_take, Hlr.out]; omega
      obtain ⟨x, hx⟩ : ∃ x, rs.getD k [] = x := ⟨_, rfl⟩
      obtain ⟨q, hq⟩ : ∃ q, rs.take k = q := ⟨_, rfl⟩
      rw [hx] at hget hx32 htk
      rw [hq] at htk hql ho
      obtain ⟨v9, w9, hr9, ho9, hg9, -⟩ := append_hw (by rw [hql]; exact ho : wr.ownsRow w.heap.size 25 32 u3 q.length (hcells q)) x hx32 (by omega) hB.size
      rw [List.length_append, hql, ← htk] at ho9
      have hB9 := hB.grown hg9 hB.size (fun r e => (ho.lt r e).1)
      have Hr9 := Lib.hid hr9
      have Hget := Lib.hid hget
      have Ho9 := Lib.hid ho9
      clear hr9 hget htk hx hq hql ho9 hPr
      go_wp2_with (first
        | ((with_reducible show wpList _ _ _ (⟨some 26, .load _ _, _, _, _, _⟩ :: _) _ _); refine wpList_run0 rfl (.agg (x.map B).toArray) (run_load_op 25 (.tmp 25) rfl b (o + k * 33 + 1) rfl _ Hget.out) ?_; simp only [Act.put])
        | ((with_reducible show wpList _ _ _ (⟨some 27, .buildSlice _ _ _, _, _, _, _⟩ :: _) _ _); refine wpList_run rfl _ _ (run_litH1_op x hx32 (.tmp 26) rfl rfl _) ?_; simp only [Act.put])
        | ((with_reducible show wpList _ _ _ (⟨some 28, .call _, _, _, _, _⟩ :: _) _ _); refine wpList_run rfl v9 w9 (run_append_op (.tmp 18) (.tmp 27) 26 rfl _ _ rfl rfl Hr9.out) ?_; simp only [Act.put]))
      go_roundw
      case rel => exact ⟨k + 1, by omega, by go_num, Ho9.out, hB9⟩
      case measure => simp [intOf] <;> omega
    · obtain rfl : k = n := by omega
      have hd : decide ((k : Int) < (k : Int)) = false := by simp
      rw [List.take_of_length_le (by rw [Hlr.out]; exact Nat.le_refl _)] at ho
      go_wp2_with fail
      go_ret
      exact ⟨_, rfl, by rw [Hlr.out]; exact ho, hB⟩

theorem map_set_B (l : List UInt8) (k : Nat) (y : UInt8) : ((l.map B).toArray).setIfInBounds k (B y) = ((l.set k y).map B).toArray := by
  simp [List.map_set]
theorem drop_setF (l : List UInt8) (k : Nat) (y : UInt8) (h : k < l.length) : (l.set k y).drop k = y :: l.drop (k + 1) := by
  rw [List.drop_eq_getElem_cons (by rw [List.length_set]; exact h), List.getElem_set_self, List.drop_set, if_pos (by omega)]
set_option maxHeartbeats 4000000 in
set_option maxRecDepth 100000 in
theorem r01number_any (x : Nat) (w : World) (hx : x < 18446744073709551616) : Calls Try.prog 134 #[.int .i64 8, .int .u64 (x : Int)] w fun e w' => ∃ v, e = .returned v ∧ Fresh w w' v (beN 8 x) := by
  obtain ⟨res, hres⟩ : ∃ r, beN 8 x = r := ⟨_, rfl⟩
  have hrl : res.length = 8 := by rw [← hres]; exact length_beN 8 x
  rw [hres]
  have Hres := Lib.hid hres
  clear hres
  obtain ⟨z, hz⟩ : ∃ z, List.replicate 8 (0 : UInt8) = z := ⟨_, rfl⟩
  have hzl : z.length = 8 := by rw [← hz]; rfl
  have Hz := Lib.hid hz
  have k0 : Blk (w.alloc (.cells (z.map B).toArray 5)) w.heap.size 5 (z.map B).toArray := Blk.new _ _ _
  have hb0 : Below w.heap.size w (w.alloc (.cells (z.map B).toArray 5)) := (Below.refl _ _).alloc (Nat.le_refl _) _
  clear hz
  go_enter Try.func134, Try.ntmps134
  go_wp2_with ((with_reducible show wpList _ _ _ (⟨some 8, .makeSlice _ _ _, _, _, _, _⟩ :: _) _ _); refine wpList_run rfl (.slice (some ⟨w.heap.size, 0, none⟩) 8 8) (w.alloc (.cells (z.map B).toArray 5)) (by rw [← Hz.out]; kernel_rfl) ?_; generalize w.alloc (.cells (z.map B).toArray 5) = w1 at k0 hb0 ⊢; simp only [Act.put])
  go_loopw [1, 6] (fun v1 v6 wr => ∃ (j y : Nat) (l : List UInt8), j ≤ 8 ∧ v6 = .int .i64 ((j : Int) - 1) ∧ v1 = .int .u64 (y : Int) ∧ y = x / 256 ^ (8 - j) ∧ l.length = 8 ∧ l.drop j = beN (8 - j) x ∧ Blk wr w.heap.size 5 (l.map B).toArray ∧ Below w.heap.size w wr) (fun _ v6 _ => (intOf v6 + 1).toNat)
  case atStart => exact ⟨8, x, z, Nat.le_refl _, rfl, rfl, by simp, hzl, by rw [List.drop_of_length_le (by omega)]; rfl, k0, hb0⟩
  case round =>
    clear k0 hb0
    obtain ⟨j, y, l, hj, rfl, rfl, hy, hl, hdr, k, hB⟩ := hrel
    rcases Nat.eq_zero_or_pos j with rfl | hjp
    · have hlr : l = res := by rw [← Hres.out, ← List.drop_zero (l := l)]; exact hdr
      go_wp2_with fail
      go_ret
      refine ⟨_, rfl, ?_, hB⟩
      rw [← hlr, hl]
      exact ⟨by rw [List.length_map, hl], .inr ⟨w.heap.size, 8, (l.map B).toArray, rfl, Nat.le_refl _, k, Nat.le_refl _, by unfold maxLen; decide, by simp [hl], List.take_of_length_le (by simp [hl])⟩⟩
    · obtain ⟨q, rfl⟩ : ∃ q, j = q + 1 := ⟨j - 1, by omega⟩
      have hll : ((q + 1 : Nat) : Int) - 1 = (q : Int) := by omega
      rw [hll]
      have hwl : IntKind.i64.wrap ((q : Int) - 1) = (q : Int) - 1 := IntWalk.i64_in _ (by omega)
      have hge : decide ((0 : Int) ≤ (q : Int)) = true := by simp
      have hq8 : (q : Int) < 8 := by omega
      have hylt : y < 18446744073709551616 := by
        have := Nat.div_le_self x (256 ^ (8 - (q + 1)))
        omega
      have hwb : IntKind.u8.wrap (y : Int) = ((UInt8.ofNat y).toNat : Int) := by rw [IntKind.wrap_u8, UInt8.toNat_ofNat']; omega
      have e8 : 8 - q = (8 - (q + 1)) + 1 := by omega
      have hy2 : y / 256 = x / 256 ^ (8 - q) := by rw [hy, Nat.div_div_eq_div_mul, e8, Nat.pow_succ]
      have hdr2 : (l.set q (UInt8.ofNat y)).drop q = beN (8 - q) x := by
        rw [drop_setF l q _ (by omega), hdr, e8, beN, ← hy]
      have hset := k.set_ q (B (UInt8.ofNat y))
      rw [map_set_B] at hset
      obtain ⟨c0, hc0⟩ : ∃ u, wr.cell? ⟨w.heap.size, q, none⟩ = some u := by
        rw [k.cell]
        exact ⟨_, Array.getElem?_eq_getElem (by rw [List.size_toArray, List.length_map]; omega)⟩
      have f0 := k.frozen q
      have hw4 : IntKind.u64.wrap ((y / 256 : Nat) : Int) = ((y / 256 : Nat) : Int) := by rw [IntKind.wrap_u64]; omega
      obtain ⟨bt, hbt⟩ : ∃ b, UInt8.ofNat y = b := ⟨_, rfl⟩
      rw [hbt] at hwb hset hdr2
      have Hset := Lib.hid hset
      have Hy2 := Lib.hid hy2
      have Hdr2 := Lib.hid hdr2
      clear hset hy2 hdr2 hy hdr e8 hbt
      have hyI : ((y : Int) / 256) = ((y / 256 : Nat) : Int) := by omega
      have HyI := Lib.hid hyI
      clear hyI
      go_wp2_with fail
      go_roundw
      case rel => exact ⟨q, y / 256, l.set q bt, by omega, rfl, by rw [HyI.out], Hy2.out, by rw [List.length_set]; exact hl, Hdr2.out, Hset.out, hB.setCell (p := ⟨w.heap.size, q, none⟩) (Nat.le_refl _) _⟩
      case measure => simp [intOf] <;> omega

/-- one hash of parts, as bytes -/
theorem Pcs.slh {w : World} {X : Nat → Prop} {A : Option Addr} {n c : Nat} {ps : List PcV} (h : Pcs w X A n c ps) {b o : Nat} (hA : A = some ⟨b, o, none⟩) (i : Nat) (hi : i < n) : Sl w X (some ⟨b, o + i * 33 + 1, none⟩) 32 32 (ps.getD i pcD).2 := by
  obtain ⟨b', o', e, hb, hX⟩ := h.at_ (by omega)
  rw [hA] at e
  cases e
  exact ⟨fun _ => ⟨b, _, rfl, hb, hX, fun j v hv => by
    rw [show o + i * 33 + 1 + j = o + i * 33 + (j + 1) by omega]
    exact h.cell hA i hi (j + 1) v (by rw [List.getElem?_cons_succ]; exact hv)⟩, h.all.getD i (by rw [h.len]; exact hi), Nat.le_refl _, (fun e => by cases e), by unfold maxLen; decide⟩
set_option maxHeartbeats 4000000 in
set_option maxRecDepth 100000 in
theorem rfbytes_nil (w : World) : Calls Try.prog 64 #[.pointer none] w fun e w' => e = .returned (.slice none 0 0) ∧ w' = w := by
  go_enter Try.func64, Try.ntmps64
  go_wp2_with fail
  go_ret
  exact ⟨rfl, rfl⟩
set_option maxHeartbeats 4000000 in
set_option maxRecDepth 100000 in
theorem rfbytes_any (g : Nat) (ps : FrV) (w : World) (h : FrP w g ps) (ho : FrOk ps) : Calls Try.prog 64 #[fptr g] w fun e w' => ∃ v, e = .returned v ∧ Fresh w w' v (bytesF ps) := by
  have hm63 := ho.len
  have h32 := h.all
  have htop := ho.top
  have hsz := rfsize_any g ps w h htop
  obtain ⟨A, n, c, hk, hP⟩ := h.ex
  have hlen : ps.length = n := by rw [← hP.len, length_fpq]
  have hkg := hk.lt
  have hroom := hP.sl.room
  have hmx := hP.sl.max
  unfold maxLen at hmx
  unfold bytesF
  obtain ⟨sz, hsze⟩ : ∃ s, szF ps = s := ⟨_, rfl⟩
  rw [hsze] at hsz htop ⊢
  have hnu := r01number_any sz w (by omega)
  obtain ⟨hd8, hhd⟩ : ∃ hd8, beN 8 sz = hd8 := ⟨_, rfl⟩
  have hhl : hd8.length = 8 := by rw [← hhd]; exact length_beN 8 sz
  rw [hhd] at hnu ⊢
  have hwu : IntKind.u64.wrap (sz : Int) = (sz : Int) := by rw [IntKind.wrap_u64]; omega
  obtain ⟨rs, hrs⟩ : ∃ rs, hashF ps = rs := ⟨_, rfl⟩
  have hlr : rs.length = n := by rw [← hrs, ← hlen]; simp [hashF]
  have hr32 : H32 rs := by rw [← hrs]; exact hashF_32 ps h32
  have hat : ∀ k, k < n → (ps.getD k (0, [])).2 = rs.getD k [] := fun k hk => by rw [← hrs, hashF_getD ps k (by omega)]
  rw [hrs]
  obtain ⟨res, hres⟩ : ∃ r, hd8 ++ rs.flatten = r := ⟨_, rfl⟩
  rw [hres]
  have Hres := Lib.hid hres
  have Hk := Lib.hid hk
  have HP := Lib.hid hP
  have Hlr := Lib.hid hlr
  have Hr32 := Lib.hid hr32
  have Hat := Lib.hid hat
  have Hlen := Lib.hid hlen
  have Hsz := Lib.hid hsz
  have Hnu := Lib.hid hnu
  have Hhl := Lib.hid hhl
  have hn63 : n ≤ 63 := by omega
  clear hlr hr32 hat hrs hk hP h h32 hlen hm63 hsz hnu hhl hhd hsze ho hres
  go_enter Try.func64, Try.ntmps64
  go_wp2_with (first
    | (go_at_call 125; refine Hsz.out.mono ?_; rintro e w1 ⟨rfl, hww⟩; obtain rfl := hww.symm)
    | (go_at_call 134; refine Hnu.out.mono ?_; rintro e w2 ⟨v3, rfl, ho3, hb2⟩))
  have hI0 : w2.ownsRow w.heap.size 5 1 v3 (hd8 ++ (rs.take 0).flatten).length ((hd8 ++ (rs.take 0).flatten).map B) := by simpa using ho3
  clear Hsz Hnu ho3
  go_loopw [3, 4] (fun v3 v4 wr => ∃ k : Nat, k ≤ n ∧ v4 = .int .i64 (k : Int) ∧ wr.ownsRow w.heap.size 5 1 v3 (hd8 ++ (rs.take k).flatten).length ((hd8 ++ (rs.take k).flatten).map B) ∧ Below w.heap.size w wr) (fun _ v4 _ => n - (intOf v4).toNat)
  case atStart => exact ⟨0, Nat.zero_le _, rfl, hI0, hb2⟩
  case round =>
    clear hI0 hb2
    obtain ⟨k, hk, rfl, ho, hB⟩ := hrel
    have c15 : wr.cell? ⟨g, 0, none⟩ = some (.slice A n c) := by rw [(Hk.out.below hB hkg).cell]; rfl
    by_cases hkn : k < n
    · have hd : decide ((k : Int) < (n : Int)) = true := by simp; omega
      have hwk : IntKind.i64.wrap ((k : Int) + 1) = (k : Int) + 1 := IntWalk.i64_in _ (by omega)
      have hPr := HP.out.step hB
      obtain ⟨b, o, rfl, -, -⟩ := hPr.at_ (by omega)
      have hsl := hPr.slh rfl k hkn
      rw [fpq_getD ps k (by rw [Hlen.out]; exact hkn)] at hsl
      replace hsl : Sl wr (fun _ => True) (some ⟨b, o + k * 33 + 1, none⟩) 32 32 (ps.getD k (0, [])).2 := hsl
      rw [Hat.out k hkn] at hsl
      have htk := flatten_take_snoc rs k (by rw [Hlr.out]; exact hkn)
      have hql : (hd8 ++ (rs.take k).flatten).length ≤ 1000000 := by rw [List.length_append, Hhl.out, length_flat32 _ (fun x hx => Hr32.out x (List.mem_of_mem_take hx)), List.length_take]; omega
      obtain ⟨x, hx⟩ : ∃ x, rs.getD k [] = x := ⟨_, rfl⟩
      rw [hx] at hsl htk
      have htk : hd8 ++ (rs.take (k + 1)).flatten = (hd8 ++ (rs.take k).flatten) ++ x := by rw [htk, List.append_assoc]
      obtain ⟨q, hq⟩ : ∃ q, hd8 ++ (rs.take k).flatten = q := ⟨_, rfl⟩
      rw [hq] at htk ho hql
      obtain ⟨v9, w9, hr9, ho9, hg9⟩ := append_sl ho hsl (by omega) hB.size
      rw [← htk] at ho9
      have hB9 := hB.grown hg9 hB.size (fun r e => (ho.lt r e).1)
      have Hr9 := Lib.hid hr9
      have Ho9 := Lib.hid ho9
      clear hr9 ho9 htk hq hql hx hsl hPr
      go_wp2_with (first
        | ((with_reducible show wpList _ _ _ (⟨some 28, .slice _ _ _ _ _, _, _, _, _⟩ :: _) _ _); refine wpList_run0 rfl _ (run_slice_allO (.tmp 27) rfl b (o + k * 33 + 1) rfl _) ?_; simp only [Act.put])
        | ((with_reducible show wpList _ _ _ (⟨some 29, .call _, _, _, _, _⟩ :: _) _ _); refine wpList_run rfl v9 w9 (run_append_op (.tmp 20) (.tmp 28) 23 rfl _ _ rfl rfl Hr9.out) ?_; simp only [Act.put]))
      go_roundw
      case rel => exact ⟨k + 1, by omega, by go_num, Ho9.out, hB9⟩
      case measure => simp [intOf] <;> omega
    · obtain rfl : k = n := by omega
      have hd : decide ((k : Int) < (k : Int)) = false := by simp
      rw [List.take_of_length_le (by rw [Hlr.out]; exact Nat.le_refl _), Hres.out] at ho
      go_wp2_with fail
      go_ret
      exact ⟨_, rfl, ho, hB⟩
end Go.Proofs.Ytonidnfgneokbaa
/- notaryref01.Reader: Left, Number, Hash. -/
namespace Go.Proofs.Ytonidnfgneokbaa
open Go Go.RowKit Go.Shelf
attribute [local go_sem] Oper.semAt_some

/-- a reader of the document's, its bytes, how many have been read -/
structure Rd1 (W : World) (X : Nat → Prop) (g : Nat) (l : List UInt8) (p : Nat) : Prop where
  ex : ∃ A n c, Blk W g 162 #[.slice A n c, .int .i64 (p : Int)] ∧ Sl W X A n c l
  off : ∀ b, X b → b ≠ g
  le : p ≤ l.length
theorem Rd1.step {W W' : World} {X : Nat → Prop} {g p : Nat} {l : List UInt8} (h : Rd1 W X g l p) (hb : Below W.heap.size W W') : Rd1 W' X g l p := ⟨let ⟨A, n, c, h1, h2⟩ := h.ex; ⟨A, n, c, h1.step hb, h2.step hb⟩, h.off, h.le⟩
theorem Rd1.lt {W : World} {X : Nat → Prop} {g p : Nat} {l : List UInt8} (h : Rd1 W X g l p) : g < W.heap.size := let ⟨_, _, _, h1, _⟩ := h.ex; h1.lt
theorem Rd1.grown {W W' : World} {X : Nat → Prop} {g p r : Nat} {l : List UInt8} (h : Rd1 W X g l p) (hg : W.grownBy W' (some r)) (h1 : g ≠ r) (h2 : ∀ b, X b → b ≠ r) : Rd1 W' X g l p := ⟨let ⟨A, n, c, k1, k2⟩ := h.ex; ⟨A, n, c, k1.grown hg (fun e => h1 (Option.some.inj e)), k2.grown hg (fun b _ hb e => h2 b hb (Option.some.inj e))⟩, h.off, h.le⟩
/-- the place is moved -/
theorem Rd1.move {W : World} {X : Nat → Prop} {g p q : Nat} {l : List UInt8} (h : Rd1 W X g l p) (hq : q ≤ l.length) : Rd1 (W.setCell ⟨g, 1, none⟩ (.int .i64 (q : Int))) X g l q :=
  ⟨let ⟨A, n, c, k1, k2⟩ := h.ex; ⟨A, n, c, k1.set_ 1 _, k2.setCell (p := ⟨g, 1, none⟩) _ (fun hX => h.off g hX rfl)⟩, h.off, hq⟩
set_option maxHeartbeats 4000000 in
set_option maxRecDepth 100000 in
theorem r1left_any (X : Nat → Prop) (g : Nat) (l : List UInt8) (p : Nat) (w : World) (h : Rd1 w X g l p) :
    Calls Try.prog 123 #[.pointer (some ⟨g, 0, none⟩)] w fun e w' => e = .returned (.int .i64 ((l.length - p : Nat) : Int)) ∧ Below w.heap.size w w' := by
  obtain ⟨A, n, c, hk, hs⟩ := h.ex
  have hle := h.le
  have hlen := hs.len
  have hmx := hs.max
  have hroom := hs.room
  unfold maxLen at hmx
  have hw : IntKind.i64.wrap ((n : Int) - (p : Int)) = ((l.length - p : Nat) : Int) := by rw [IntWalk.i64_in _ (by omega)]; omega
  have c8 : ∀ s : InC (fun W => Below w.heap.size w W), s.W.cell? ⟨g, 0, none⟩ = some (.slice A n c) := fun s => by rw [(hk.step s.ok).cell]; rfl
  have c13 : ∀ s : InC (fun W => Below w.heap.size w W), s.W.cell? ⟨g, 1, none⟩ = some (.int .i64 (p : Int)) := fun s => by rw [(hk.step s.ok).cell]; rfl
  obtain ⟨d, hd⟩ : ∃ d, l.length - p = d := ⟨_, rfl⟩
  rw [hd] at hw ⊢
  clear hd hs hk h hlen
  go_enter Try.func123, Try.ntmps123
  go_wp2_with fail
  have hS : Below w.heap.size w w.drew := (Below.refl _ _).drew
  refine wp_region_mix (fun W => Below w.heap.size w W) [(0, true), (1, true), (2, true), (3, true), (4, true), (5, true), (6, true), (7, true), (8, true), (9, true), (10, true)] (by kernel_rfl) (by kernel_rfl) hS fun _ => ?_
  simp only [List.map_cons, List.map_nil, Array.getD_eq_getD_getElem?, List.getElem?_toArray, List.getElem?_cons_succ, List.getElem?_cons_zero, Option.getD_some]
  generalize w.drew = u2 at hS ⊢
  refine wpMix_s (fun K hK => ?_)
  go_simp
  refine hK _ ?_
  clear hK K
  refine wpMix_s (fun K hK => ?_)
  go_simp
  refine hK _ ?_
  clear hK K
  refine wpMix_s (fun K hK => ?_)
  go_simp
  refine hK _ ?_
  clear hK K
  refine wpMix_s (fun K hK => ?_)
  go_simp
  refine hK _ ?_
  clear hK K
  refine wpMix_s (fun K hK => ?_)
  go_simp
  refine hK _ ?_
  clear hK K
  refine wpMix_s (fun K hK => ?_)
  go_simp
  refine hK _ ?_
  clear hK K
  refine wpMix_s (fun K hK => ?_)
  go_simp
  refine hK _ ?_
  clear hK K
  refine wpMix_s (fun K hK => ?_)
  go_simp
  refine hK _ ?_
  clear hK K
  refine wpMix_s (fun K hK => ?_)
  go_simp
  refine hK _ ?_
  clear hK K
  refine wpMix_s (fun K hK => ?_)
  go_simp
  refine hK _ ?_
  clear hK K
  refine wpMix_s (fun K hK => ?_)
  go_simp
  refine hK _ ?_
  clear hK K
  refine wpMix_nil ?_
  intro _
  go_wp2_with fail
  go_ret
  exact ⟨rfl, hS⟩
theorem drop_take_get (l : List UInt8) (p k m : Nat) (hk : k < m) : ((l.drop p).take m).getD k 0 = l.getD (p + k) 0 := by
  rw [List.getD_eq_getElem?_getD, List.getElem?_take_of_lt hk, List.getElem?_drop, List.getD_eq_getElem?_getD]
set_option maxHeartbeats 4000000 in
set_option maxRecDepth 100000 in
theorem r1number_any (X : Nat → Prop) (g : Nat) (l : List UInt8) (p : Nat) (w : World) (h : Rd1 w X g l p) (hfit : p + 8 ≤ l.length) :
    Calls Try.prog 122 #[.pointer (some ⟨g, 0, none⟩), .int .i64 8] w fun e w' => e = .returned (.tuple #[.int .u64 (numN ((l.drop p).take 8) : Int), .int .i64 0]) ∧ Rd1 w' X g l (p + 8) ∧ w.grownBy w' (some g) := by
  have hleft := r1left_any X g l p w h
  obtain ⟨d, hd⟩ : ∃ d, l.length - p = d := ⟨_, rfl⟩
  rw [hd] at hleft
  have hdec : decide ((d : Int) < 8) = false := by simp; omega
  have hdec' : ¬ (d : Int) < 8 := by omega
  have hkl : ((l.drop p).take 8).length = 8 := by rw [List.length_take, List.length_drop]; omega
  have hat8 : ∀ k, k < 8 → ((l.drop p).take 8).getD k 0 = l.getD (p + k) 0 := fun k hk => drop_take_get l p k 8 hk
  obtain ⟨m8, hm8⟩ : ∃ m, (l.drop p).take 8 = m := ⟨_, rfl⟩
  rw [hm8] at hkl hat8 ⊢
  have Hleft := Lib.hid hleft
  have Hat := Lib.hid hat8
  have Hkl := Lib.hid hkl
  have hg0 := h.lt
  obtain ⟨res, hres⟩ : ∃ r, numN m8 = r := ⟨_, rfl⟩
  rw [hres]
  have Hres := Lib.hid hres
  clear hleft hd hm8 hkl hat8 hres
  go_enter Try.func122, Try.ntmps122
  go_wp2_with (go_at_call 123; refine Hleft.out.mono ?_; rintro e w1 ⟨rfl, hb1⟩)
  go_loopw [6, 7] (fun v6 v7 wr => ∃ k : Nat, k ≤ 8 ∧ v7 = .int .i64 (k : Int) ∧ v6 = .int .u64 (numN (m8.take k) : Int) ∧ Below w.heap.size w wr) (fun _ v7 _ => 8 - (intOf v7).toNat)
  case atStart => exact ⟨0, Nat.zero_le _, rfl, by rw [List.take_zero]; rfl, hb1⟩
  case round =>
    clear hb1
    obtain ⟨k, hk, rfl, rfl, hB⟩ := hrel
    have hr := h.step hB
    obtain ⟨A, n, c, hkb, hs⟩ := hr.ex
    have hlen := hs.len
    have hmx := hs.max
    have hroom := hs.room
    unfold maxLen at hmx
    by_cases hk8 : k < 8
    · have hd : decide ((k : Int) < 8) = true := by simp; omega
      have hd' : (k : Int) < 8 := by omega
      have hwk : IntKind.i64.wrap ((k : Int) + 1) = (k : Int) + 1 := IntWalk.i64_in _ (by omega)
      have hwp : IntKind.i64.wrap ((p : Int) + (k : Int)) = (p : Int) + (k : Int) := IntWalk.i64_in _ (by omega)
      have hpk : (p : Int) + (k : Int) < (n : Int) := by omega
      have hpk0 : (0 : Int) ≤ (p : Int) + (k : Int) := by omega
      have htn : ((p : Int) + (k : Int)).toNat = p + k := by omega
      obtain ⟨b, o, rfl, hbw, hbX, hat⟩ := hs.cells (by omega)
      have hce := hat (p + k) (by omega)
      rw [← Hat.out k hk8] at hce
      have hnt := numN_take m8 k (by rw [Hkl.out]; exact hk8)
      have hlt := numN_lt _ (m8.take (k + 1)) rfl
      have h8 : 256 ^ (m8.take (k + 1)).length ≤ 256 ^ 8 := Nat.pow_le_pow_right (by decide) (by rw [List.length_take, Hkl.out]; omega)
      have hlt : numN (m8.take (k + 1)) < 256 ^ 8 := Nat.lt_of_lt_of_le hlt h8
      obtain ⟨a, ha⟩ : ∃ a, numN (m8.take k) = a := ⟨_, rfl⟩
      obtain ⟨y, hy⟩ : ∃ y, m8.getD k 0 = y := ⟨_, rfl⟩
      rw [ha, hy] at hnt
      rw [hy] at hce
      have hy2 := y.toNat_lt
      obtain ⟨z, hz⟩ : ∃ z, numN (m8.take (k + 1)) = z := ⟨_, rfl⟩
      rw [hz] at hnt hlt
      have hwm : IntKind.u64.wrap (256 * (a : Int)) = 256 * (a : Int) := by rw [IntKind.wrap_u64]; omega
      have hwa : IntKind.u64.wrap (256 * (a : Int) + (y.toNat : Int)) = (z : Int) := by rw [IntKind.wrap_u64]; omega
      have hwy : IntKind.u64.wrap (y.toNat : Int) = (y.toNat : Int) := by rw [IntKind.wrap_u64]; omega
      have Hz := Lib.hid hz
      rw [ha]
      have c22 : ∀ s : InC (fun W => Below wr.heap.size wr W), s.W.cell? ⟨g, 0, none⟩ = some (.slice (some ⟨b, o, none⟩) n c) := fun s => by rw [(hkb.step s.ok).cell]; rfl
      have c26 : ∀ s : InC (fun W => Below wr.heap.size wr W), s.W.cell? ⟨g, 1, none⟩ = some (.int .i64 (p : Int)) := fun s => by rw [(hkb.step s.ok).cell]; rfl
      have c30 : ∀ s : InC (fun W => Below wr.heap.size wr W), s.W.cell? ⟨b, o + (p + k), none⟩ = some (B y) := fun s => by rw [s.ok.cell (p := ⟨b, o + (p + k), none⟩) hbw]; exact hce
      clear ha hy hz hat hce hnt hlt h8
      go_wp2_with fail
      have hS : Below wr.heap.size wr wr.drew := (Below.refl _ _).drew
      refine wp_region_mix (fun W => Below wr.heap.size wr W) [(0, true), (1, true), (2, true), (3, true), (4, true), (5, true), (6, true), (7, true), (8, true), (9, true), (10, true), (11, true), (12, true), (13, true), (14, true), (15, true), (16, true)] (by kernel_rfl) (by kernel_rfl) hS fun _ => ?_
      simp only [List.map_cons, List.map_nil, Array.getD_eq_getD_getElem?, List.getElem?_toArray, List.getElem?_cons_succ, List.getElem?_cons_zero, Option.getD_some]
      generalize wr.drew = u4 at hS ⊢
      refine wpMix_s (fun K hK => ?_)
      go_simp
      refine hK _ ?_
      clear hK K
      refine wpMix_s (fun K hK => ?_)
      go_simp
      refine hK _ ?_
      clear hK K
      refine wpMix_s (fun K hK => ?_)
      go_simp
      refine hK _ ?_
      clear hK K
      refine wpMix_s (fun K hK => ?_)
      go_simp
      refine hK _ ?_
      clear hK K
      refine wpMix_s (fun K hK => ?_)
      go_simp
      refine hK _ ?_
      clear hK K
      refine wpMix_s (fun K hK => ?_)
      go_simp
      refine hK _ ?_
      clear hK K
      refine wpMix_s (fun K hK => ?_)
      go_simp
      refine hK _ ?_
      clear hK K
      refine wpMix_s (fun K hK => ?_)
      go_simp
      refine hK _ ?_
      clear hK K
      refine wpMix_s (fun K hK => ?_)
      go_simp
      refine hK _ ?_
      clear hK K
      refine wpMix_s (fun K hK => ?_)
      go_simp
      refine hK _ ?_
      clear hK K
      refine wpMix_s (fun K hK => ?_)
      go_simp
      refine hK _ ?_
      clear hK K
      refine wpMix_s (fun K hK => ?_)
      go_simp
      refine hK _ ?_
      clear hK K
      refine wpMix_s (fun K hK => ?_)
      go_simp
      refine hK _ ?_
      clear hK K
      refine wpMix_s (fun K hK => ?_)
      go_simp
      refine hK _ ?_
      clear hK K
      refine wpMix_s (fun K hK => ?_)
      go_simp
      refine hK _ ?_
      clear hK K
      refine wpMix_s (fun K hK => ?_)
      go_simp
      refine hK _ ?_
      clear hK K
      refine wpMix_s (fun K hK => ?_)
      go_simp
      refine hK _ ?_
      clear hK K
      refine wpMix_nil ?_
      intro _
      refine np_normal ?_
      go_wp2_with fail
      go_roundw
      case rel => exact ⟨k + 1, by omega, by go_num, by rw [Hz.out], hB.trans (hS.mono hB.size)⟩
      case measure => simp [intOf] <;> omega
    · obtain rfl : k = 8 := by omega
      rw [List.take_of_length_le (by rw [Hkl.out]; exact Nat.le_refl _), Hres.out]
      have hwp : IntKind.i64.wrap ((p : Int) + 8) = ((p + 8 : Nat) : Int) := by rw [IntWalk.i64_in _ (by omega)]; omega
      have c37 : wr.cell? ⟨g, 1, none⟩ = some (.int .i64 (p : Int)) := by rw [hkb.cell]; rfl
      have f37 := hkb.frozen 1
      have hmv := hr.move hfit
      obtain ⟨q, hq⟩ : ∃ q, p + 8 = q := ⟨_, rfl⟩
      rw [hq] at hwp hmv
      have Hq := Lib.hid hq
      clear hq
      go_wp2_with fail
      refine bodyPost_ret (results_tmp2 rfl _ _ _) rfl ⟨rfl, by rw [Hq.out]; exact hmv, grown_setCell (grown_of_below hB _) 1 _⟩
set_option maxHeartbeats 4000000 in
set_option maxRecDepth 100000 in
theorem r1number_bad (X : Nat → Prop) (g : Nat) (l : List UInt8) (p : Nat) (w : World) (h : Rd1 w X g l p) (hfit : ¬ p + 8 ≤ l.length) :
    Calls Try.prog 122 #[.pointer (some ⟨g, 0, none⟩), .int .i64 8] w fun e w' => e = .returned (.tuple #[.int .u64 0, .int .i64 110]) ∧ Rd1 w' X g l p ∧ Below w.heap.size w w' := by
  have hleft := r1left_any X g l p w h
  obtain ⟨d, hd⟩ : ∃ d, l.length - p = d := ⟨_, rfl⟩
  rw [hd] at hleft
  have hdec : decide ((d : Int) < 8) = true := by simp; omega
  have hdec' : (d : Int) < 8 := by omega
  have Hleft := Lib.hid hleft
  clear hleft hd
  go_enter Try.func122, Try.ntmps122
  go_wp2_with (go_at_call 123; refine Hleft.out.mono ?_; rintro e w1 ⟨rfl, hb1⟩)
  exact bodyPost_ret (results_tmp2 rfl _ _ _) rfl ⟨rfl, h.step hb1, hb1⟩
set_option maxHeartbeats 4000000 in
set_option maxRecDepth 100000 in
theorem r1hash_bad (X : Nat → Prop) (g : Nat) (l : List UInt8) (p : Nat) (w : World) (h : Rd1 w X g l p) (hfit : ¬ p + 32 ≤ l.length) :
    Calls Try.prog 124 #[.pointer (some ⟨g, 0, none⟩)] w fun e w' => e = .returned (.tuple #[.agg ((List.replicate 32 (0 : UInt8)).map B).toArray, .int .i64 110]) ∧ Rd1 w' X g l p ∧ Below w.heap.size w w' := by
  obtain ⟨d, hd⟩ : ∃ d, l.length - p = d := ⟨_, rfl⟩
  have hleft := fun W (hb : Below w.heap.size w W) => r1left_any X g l p W (h.step hb)
  rw [hd] at hleft
  have hdec : decide ((d : Int) < 32) = true := by simp; omega
  have hdec' : (d : Int) < 32 := by omega
  have Hleft := Lib.hid hleft
  have hl32 : (List.replicate 32 (0 : UInt8)).length = 32 := rfl
  obtain ⟨z, hz⟩ : ∃ z, List.replicate 32 (0 : UInt8) = z := ⟨_, rfl⟩
  rw [hz] at hl32 ⊢
  have Hz := Lib.hid hz
  clear hleft hd hz
  go_enter Try.func124, Try.ntmps124
  go_wp2_with (first
    | ((with_reducible show wpList _ _ _ (⟨some 2, .alloc _, _, _, _, _⟩ :: _) _ _); refine wpList_hnew rfl rfl ?_; intro w1 k2 hb1; simp only [Act.put])
    | ((with_reducible show wpList _ _ _ (⟨some 4, .alloc _, _, _, _, _⟩ :: _) _ _); refine wpList_hnew rfl rfl ?_; intro w2 k4 hb2; replace k2 := k2.step hb2; have hb12 := hb1.trans (hb2.mono hb1.size); rw [Hz.out] at k4; simp only [Act.put])
    | (go_at_call 123; refine (Hleft.out w2 hb12).mono ?_; rintro e w3 ⟨rfl, hb3⟩; replace k2 := k2.step hb3; replace k4 := k4.step hb3; have hb13 := hb12.trans (hb3.mono hb12.size))
    | ((with_reducible show wpList _ _ _ (⟨some 9, .load _ _, _, _, _, _⟩ :: _) _ _); refine wpList_hload (.tmp 4) (by kernel_rfl) rfl k4 rfl ?_; simp only [Act.put])
    | ((with_reducible show wpList _ _ _ (⟨none, .store _ (.tmp 2) _, _, _, _, _⟩ :: _) _ _); refine wpList_hset (.tmp 2) (.tmp 9) rfl rfl k2 rfl rfl hl32 ?_; intro w8 k2b hb8 hW8; clear hW8; simp only [Act.put]))
  exact bodyPost_ret (tuple_cellT rfl _ _ w.heap.size (z.map B).toArray 32 5 rfl k2b.blk Try.underlying25 (by rw [show (z.map B).toArray.size = 32 by simp [hl32]]; exact info26)) rfl ⟨rfl, h.step (hb13.trans hb8), hb13.trans hb8⟩
theorem take_set (l : List UInt8) (k : Nat) (y : UInt8) (h : k < l.length) : (l.set k y).take (k + 1) = l.take k ++ [y] := by
  rw [List.take_succ_eq_append_getElem (by rw [List.length_set]; exact h), List.getElem_set_self, List.take_set_of_le (Nat.le_refl k)]
theorem take_snocB (l : List UInt8) (k : Nat) (h : k < l.length) : l.take (k + 1) = l.take k ++ [l.getD k 0] := by
  rw [List.take_succ_eq_append_getElem h, List.getD_eq_getElem?_getD, List.getElem?_eq_getElem h]
  rfl
set_option maxHeartbeats 4000000 in
set_option maxRecDepth 100000 in
theorem r1hash_any (X : Nat → Prop) (g : Nat) (l : List UInt8) (p : Nat) (w : World) (h : Rd1 w X g l p) (hX : ∀ b, X b → b < w.heap.size) (hfit : p + 32 ≤ l.length) :
    Calls Try.prog 124 #[.pointer (some ⟨g, 0, none⟩)] w fun e w' => e = .returned (.tuple #[.agg (((l.drop p).take 32).map B).toArray, .int .i64 0]) ∧ Rd1 w' X g l (p + 32) ∧ w.grownBy w' (some g) := by
  obtain ⟨d, hd⟩ : ∃ d, l.length - p = d := ⟨_, rfl⟩
  have hleft := fun W (hb : Below w.heap.size w W) => r1left_any X g l p W (h.step hb)
  rw [hd] at hleft
  have hdec : decide ((d : Int) < 32) = false := by simp; omega
  have hdec' : ¬ (d : Int) < 32 := by omega
  have hkl : ((l.drop p).take 32).length = 32 := by rw [List.length_take, List.length_drop]; omega
  have hat8 : ∀ k, k < 32 → ((l.drop p).take 32).getD k 0 = l.getD (p + k) 0 := fun k hk => drop_take_get l p k 32 hk
  obtain ⟨m8, hm8⟩ : ∃ m, (l.drop p).take 32 = m := ⟨_, rfl⟩
  rw [hm8] at hkl hat8 ⊢
  have Hleft := Lib.hid hleft
  have Hat := Lib.hid hat8
  have Hkl := Lib.hid hkl
  have hg0 := h.lt
  clear hleft hd hm8 hkl hat8
  go_enter Try.func124, Try.ntmps124
  go_wp2_with (first
    | ((with_reducible show wpList _ _ _ (⟨some 2, .alloc _, _, _, _, _⟩ :: _) _ _); refine wpList_hnew rfl rfl ?_; intro w1 k2 hb1; have hwk2 := k2.lt; simp only [Act.put])
    | ((with_reducible show wpList _ _ _ (⟨some 4, .alloc _, _, _, _, _⟩ :: _) _ _); refine wpList_hnew rfl rfl ?_; intro w2 k4 hb2; replace k2 := k2.step hb2; have hb12 := hb1.trans (hb2.mono hb1.size); simp only [Act.put])
    | (go_at_call 123; refine (Hleft.out w2 hb12).mono ?_; rintro e w3 ⟨rfl, hb3⟩; replace k2 := k2.step hb3; replace k4 := k4.step hb3; have hb13 := hb12.trans (hb3.mono hb12.size)))
  obtain ⟨g4, hg4⟩ : ∃ x, w1.heap.size = x := ⟨_, rfl⟩
  rw [hg4] at k4 hwk2 ⊢
  have hk4' : Blk w3 g4 25 ((List.replicate 32 (0 : UInt8)).map B).toArray := k4.blk
  clear hg4 k4 hb12 hb1 hb2 hb3 Hleft
  go_loopw [5] (fun v5 wr => ∃ (k : Nat) (c : List UInt8), k ≤ 32 ∧ v5 = .int .i64 (k : Int) ∧ c.length = 32 ∧ c.take k = m8.take k ∧ Blk wr g4 25 (c.map B).toArray ∧ HV wr w.heap.size (List.replicate 32 0) ∧ Below w.heap.size w wr) (fun v5 _ => 32 - (intOf v5).toNat)
  case atStart => exact ⟨0, _, Nat.zero_le _, rfl, rfl, by rw [List.take_zero, List.take_zero], hk4', k2, hb13⟩
  case round =>
    clear hk4' k2 hb13
    obtain ⟨k, ch, hk, rfl, hcl, htk, k4, k2, hB⟩ := hrel
    have hr := h.step hB
    obtain ⟨A, n, c, hkb, hs⟩ := hr.ex
    have hlen := hs.len
    have hmx := hs.max
    have hroom := hs.room
    unfold maxLen at hmx
    by_cases hk8 : k < 32
    · have hd : decide ((k : Int) < 32) = true := by simp; omega
      have hd' : (k : Int) < 32 := by omega
      have hwk : IntKind.i64.wrap ((k : Int) + 1) = (k : Int) + 1 := IntWalk.i64_in _ (by omega)
      have hwp : IntKind.i64.wrap ((p : Int) + (k : Int)) = (p : Int) + (k : Int) := IntWalk.i64_in _ (by omega)
      have hpk : (p : Int) + (k : Int) < (n : Int) := by omega
      have hpk0 : (0 : Int) ≤ (p : Int) + (k : Int) := by omega
      have htn : ((p : Int) + (k : Int)).toNat = p + k := by omega
      obtain ⟨b, o, rfl, hbw, hbX, hat⟩ := hs.cells (by omega)
      have hce := hat (p + k) (by omega)
      rw [← Hat.out k hk8] at hce
      obtain ⟨y, hy⟩ : ∃ y, m8.getD k 0 = y := ⟨_, rfl⟩
      rw [hy] at hce
      have hts : (ch.set k y).take (k + 1) = m8.take (k + 1) := by rw [take_set ch k y (by omega), htk, take_snocB m8 k (by rw [Hkl.out]; exact hk8), hy]
      have Hts := Lib.hid hts
      have c18 : ∀ s : InC (fun W => Below wr.heap.size wr W), s.W.cell? ⟨g, 0, none⟩ = some (.slice (some ⟨b, o, none⟩) n c) := fun s => by rw [(hkb.step s.ok).cell]; rfl
      have c22 : ∀ s : InC (fun W => Below wr.heap.size wr W), s.W.cell? ⟨g, 1, none⟩ = some (.int .i64 (p : Int)) := fun s => by rw [(hkb.step s.ok).cell]; rfl
      have c26 : ∀ s : InC (fun W => Below wr.heap.size wr W), s.W.cell? ⟨b, o + (p + k), none⟩ = some (B y) := fun s => by rw [s.ok.cell (p := ⟨b, o + (p + k), none⟩) hbw]; exact hce
      clear hy hat hce hts
      go_wp2_with fail
      have hS : Below wr.heap.size wr wr.drew := (Below.refl _ _).drew
      refine wp_region_mix_tail (fun W => Below wr.heap.size wr W) 14 [(0, true), (1, true), (2, true), (3, true), (4, true), (5, true), (6, true), (7, true), (8, true), (9, true), (10, true), (11, true), (12, true), (13, true)] (by kernel_rfl) (by kernel_rfl) hS fun _ => ?_
      simp only [List.map_cons, List.map_nil, Array.getD_eq_getD_getElem?, List.getElem?_toArray, List.getElem?_cons_succ, List.getElem?_cons_zero, Option.getD_some]
      generalize wr.drew = u4 at hS ⊢
      refine wpMix_s (fun K hK => ?_)
      go_simp
      refine hK _ ?_
      clear hK K
      refine wpMix_s (fun K hK => ?_)
      go_simp
      refine hK _ ?_
      clear hK K
      refine wpMix_s (fun K hK => ?_)
      go_simp
      refine hK _ ?_
      clear hK K
      refine wpMix_s (fun K hK => ?_)
      go_simp
      refine hK _ ?_
      clear hK K
      refine wpMix_s (fun K hK => ?_)
      go_simp
      refine hK _ ?_
      clear hK K
      refine wpMix_s (fun K hK => ?_)
      go_simp
      refine hK _ ?_
      clear hK K
      refine wpMix_s (fun K hK => ?_)
      go_simp
      refine hK _ ?_
      clear hK K
      refine wpMix_s (fun K hK => ?_)
      go_simp
      refine hK _ ?_
      clear hK K
      refine wpMix_s (fun K hK => ?_)
      go_simp
      refine hK _ ?_
      clear hK K
      refine wpMix_s (fun K hK => ?_)
      go_simp
      refine hK _ ?_
      clear hK K
      refine wpMix_s (fun K hK => ?_)
      go_simp
      refine hK _ ?_
      clear hK K
      refine wpMix_s (fun K hK => ?_)
      go_simp
      refine hK _ ?_
      clear hK K
      refine wpMix_s (fun K hK => ?_)
      go_simp
      refine hK _ ?_
      clear hK K
      refine wpMix_s (fun K hK => ?_)
      go_simp
      refine hK _ ?_
      clear hK K
      refine wpMix_nil ?_
      intro _
      simp only [List.drop_succ_cons, List.drop_zero]
      have k4s := k4.step hS
      obtain ⟨c0, hc0⟩ : ∃ u, u4.cell? ⟨g4, k, none⟩ = some u := by
        rw [k4s.cell]
        exact ⟨_, Array.getElem?_eq_getElem (by rw [List.size_toArray, List.length_map]; omega)⟩
      have f0 := k4s.frozen k
      have hset := k4s.set_ k (B y)
      rw [map_set_B] at hset
      have hb4 : Below w.heap.size w (u4.setCell ⟨g4, k, none⟩ (B y)) := (hB.trans (hS.mono hB.size)).setCell (p := ⟨g4, k, none⟩) (Nat.le_of_lt hwk2) _
      have k2s : HV (u4.setCell ⟨g4, k, none⟩ (B y)) w.heap.size (List.replicate 32 0) := (k2.step hS).far ((Below.refl g4 _).setCell (p := ⟨g4, k, none⟩) (Nat.le_refl _) _) hwk2
      have Hset := Lib.hid hset
      have Hk2 := Lib.hid k2s
      have Hb4 := Lib.hid hb4
      clear hset k2s hb4
      go_wp2_with fail
      refine np_normal ?_
      go_wp2_with fail
      go_roundw
      case rel => exact ⟨k + 1, ch.set k y, by omega, by go_num, by rw [List.length_set]; exact hcl, Hts.out, Hset.out, Hk2.out, Hb4.out⟩
      case measure => simp [intOf] <;> omega
    · obtain rfl : k = 32 := by omega
      have hch : ch = m8 := by
        rw [List.take_of_length_le (by omega), List.take_of_length_le (by rw [Hkl.out]; exact Nat.le_refl _)] at htk
        exact htk
      subst hch
      have hwp : IntKind.i64.wrap ((p : Int) + 32) = (p : Int) + 32 := IntWalk.i64_in _ (by omega)
      have c32 : wr.cell? ⟨g, 1, none⟩ = some (.int .i64 (p : Int)) := by rw [hkb.cell]; rfl
      have f32 := hkb.frozen 1
      have hmv := hr.move hfit
      rw [show (((p + 32 : Nat)) : Int) = (p : Int) + 32 by omega] at hmv
      have hgs : wr.grownBy (wr.setCell ⟨g, 1, none⟩ (.int .i64 ((p : Int) + 32))) (some g) := grown_setCell (grown_of_below (Below.refl _ _) _) 1 _
      obtain ⟨W2, hW2⟩ : ∃ W2, wr.setCell ⟨g, 1, none⟩ (.int .i64 ((p : Int) + 32)) = W2 := ⟨_, rfl⟩
      rw [hW2] at hmv hgs
      have k4b : HV W2 g4 ch := ⟨k4.grown hgs (fun e => by have e : g4 = g := Option.some.inj e; omega), hcl⟩
      have k2b : HV W2 w.heap.size (List.replicate 32 0) := ⟨k2.blk.grown hgs (fun e => by have e : w.heap.size = g := Option.some.inj e; omega), rfl⟩
      have HW2 := Lib.hid hW2
      clear hW2
      go_wp2_with (first
        | rw [HW2.out]
        | ((with_reducible show wpList _ _ _ (⟨some 36, .load _ _, _, _, _, _⟩ :: _) _ _); refine wpList_hload (.tmp 4) (by kernel_rfl) rfl k4b rfl ?_; simp only [Act.put])
        | ((with_reducible show wpList _ _ _ (⟨none, .store _ (.tmp 2) _, _, _, _, _⟩ :: _) _ _); refine wpList_hset (.tmp 2) (.tmp 36) rfl rfl k2b rfl rfl hcl ?_; intro w8 k2c hb8 hW8; have hg8 : W2.grownBy w8 (some w.heap.size) := (by rw [hW8]; exact grown_setRow (grown_of_below (Below.refl _ _) _) _); clear hW8; simp only [Act.put]))
      exact bodyPost_ret (tuple_cellT rfl _ _ w.heap.size (ch.map B).toArray 32 5 rfl k2c.blk Try.underlying25 (by rw [show (ch.map B).toArray.size = 32 by simp [hcl]]; exact info26)) rfl ⟨rfl, hmv.grown hg8 (by omega) (fun b hb => Nat.ne_of_lt (hX b hb)), grown_row (grown_same (grown_of_below hB (some g)) hgs) hg8⟩
end Go.Proofs.Ytonidnfgneokbaa
