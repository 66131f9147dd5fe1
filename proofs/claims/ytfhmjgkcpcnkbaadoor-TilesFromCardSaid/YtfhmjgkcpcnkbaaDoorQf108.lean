/- notaryref03.Block: what it computes. -/
import Derived.Test.YtfhmjgkcpcnkbaaDoorQf102
import Derived.Test.YtfhmjgkcpcnkbaaDoorQf104
namespace Go.Proofs.YtfhmjgkcpcnkbaaDoor
open Go.RowKit

set_option maxHeartbeats 400000 in
theorem refrot_any (x : UInt32) (n : Nat) (w : World) (h1 : 1 ≤ n) (h2 : n ≤ 31) :
    Calls Tryd.prog 103 #[U x, .int .i64 (n : Int)] w fun e w' => e = .returned (U (rotr x n)) ∧ ∃ k, w' = w.drewN k := by
  have hx := u32_lt x
  have e1 : (32 : Int) - n = ((32 - n : Nat) : Int) := by omega
  have e2 : IntKind.i64.wrap ((32 : Int) - n) = ((32 - n : Nat) : Int) := by rw [IntWalk.i64_in _ (by omega)]; omega
  go_enter Tryd.func103, Tryd.ntmps103
  go_wp2
  go_quiet (fail)
  go_wp2
  go_ret
  refine ⟨ret_int ?_, nq, rfl⟩
  rw [shl32 x (32 - n) (by omega), shr32 x n (by omega), bor32]
  rfl
theorem refrot_i (x : UInt32) (k : Int) (w : World) (h1 : 1 ≤ k) (h2 : k ≤ 31) :
    Calls Tryd.prog 103 #[U x, .int .i64 k] w fun e w' => e = .returned (U (rotr x k.toNat)) ∧ ∃ k, w' = w.drewN k := by
  have := refrot_any x k.toNat w (by omega) (by omega)
  rwa [show ((k.toNat : Nat) : Int) = k by omega] at this

set_option maxHeartbeats 400000 in
set_option maxRecDepth 100000 in
theorem refk_any (t : Nat) (w : World) (h : t < 64) :
    Calls Tryd.prog 104 #[.int .i64 (t : Int)] w fun e w' => e = .returned (U (K256.getD t 0)) ∧ Below w.heap.size w w' := by
  have hc := (Blk.new w 135 (K256.map U).toArray |>.cell t).trans (cellU K256 t (by rw [length_K256]; exact h))
  obtain ⟨kt, hkt⟩ : ∃ kt, K256.getD t 0 = kt := ⟨_, rfl⟩
  rw [hkt] at hc ⊢
  clear hkt
  obtain ⟨kv, hkv⟩ : ∃ kv, (K256.map U).toArray = kv := ⟨_, rfl⟩
  rw [hkv] at hc
  have Hkv := Lib.hid hkv
  clear hkv
  go_enter Tryd.func104, Tryd.ntmps104
  go_wp2_with (refine wpList_run (o := ⟨some 4, .buildSlice _ _ _, _, _, _, _⟩) rfl (.slice (some ⟨w.heap.size, 0, none⟩) 64 64) (w.alloc (.cells kv 135)) (by rw [← Hkv.out]; kernel_rfl) ?_)
  go_ret
  exact ⟨rfl, (Below.refl _ _).alloc (Nat.le_refl _) _⟩

theorem getD_zeros (n j : Nat) : (List.replicate n (0 : UInt32)).getD j 0 = 0 := by
  rw [List.getD_eq_getElem?_getD, List.getElem?_replicate]; split <;> rfl

/-- what the call's own blocks hold, between two statements -/
def RB (w : World) (st L : List UInt32) (W : World) : Prop :=
  Blk W w.heap.size 136 (st.map U).toArray ∧ Blk W (w.heap.size + 1) 136 ((List.replicate 8 0).map U).toArray ∧ Blk W (w.heap.size + 1 + 1) 161 (L.map U).toArray ∧ Below w.heap.size w W
section
variable {w W W' : World} {st L : List UInt32}
theorem RB.drew (h : RB w st L W) : RB w st L W.drew := ⟨h.1.drew, h.2.1.drew, h.2.2.1.drew, h.2.2.2.drew⟩
theorem RB.drewN (h : RB w st L W) (n : Nat) : RB w st L (W.drewN n) := ⟨h.1.drewN n, h.2.1.drewN n, h.2.2.1.drewN n, below_drewN h.2.2.2 n⟩
theorem RB.below (h : RB w st L W) (hb : Below W.heap.size W W') : RB w st L W' :=
  ⟨h.1.below hb h.1.lt, h.2.1.below hb h.2.1.lt, h.2.2.1.below hb h.2.2.1.lt, h.2.2.2.trans (hb.mono (by have := h.1.lt; omega))⟩
theorem RB.set_ (h : RB w st L W) (t : Nat) (x : UInt32) : RB w st (L.set t x) (W.setCell ⟨w.heap.size + 1 + 1, t, none⟩ (U x)) :=
  ⟨h.1.apart (by omega) _, h.2.1.apart (by omega) _, by rw [← setU]; exact h.2.2.1.set_ t _, h.2.2.2.setCell (by simp; omega) _⟩
theorem RB.at_ (h : RB w st L W) (i : Nat) (hi : i < L.length) : W.cell? ⟨w.heap.size + 1 + 1, i, none⟩ = some (U (L.getD i 0)) := (h.2.2.1.cell i).trans (cellU L i hi)
theorem RB.free (h : RB w st L W) (i : Nat) : W.frozen? ⟨w.heap.size + 1 + 1, i, none⟩ = false := h.2.2.1.frozen i
theorem RB.st_ (h : RB w st L W) (i : Nat) (hi : i < st.length) : W.cell? ⟨w.heap.size, i, none⟩ = some (U (st.getD i 0)) := (h.1.cell i).trans (cellU st i hi)
end

set_option maxHeartbeats 2000000 in
set_option maxRecDepth 100000 in
theorem refblock_any (st : List UInt32) (bl : List UInt8) (g o n c : Nat) (w : World) (hs : st.length = 8) (hb : bl.length = 64) (hn : n = 64) (hnc : n ≤ c) (hg : g < w.heap.size)
    (hcells : ∀ j, j < 64 → w.cell? ⟨g, o + j, none⟩ = some (B (bl.getD j 0))) :
    Calls Tryd.prog 94 #[.agg (st.map U).toArray, .slice (some ⟨g, o, none⟩) n c] w fun e w' => e = .returned (.agg (((S8.of st).block bl).list.map U).toArray) ∧ Below w.heap.size w w' := by
  subst hn
  have Hs := Lib.hid hs
  have Hb := Lib.hid hb
  have Hc := Lib.hid hcells
  clear hs hb hcells
  have R0 := add32_i
  have R1 := add32_w
  have R2 := mul256_i
  have R3 := mul256_w
  have R4 := up32_i
  have R5 := up32_w
  have R6 := xor32_i
  have R7 := and32_i
  have R8 := not32_i
  go_enter Tryd.func94, Tryd.ntmps94
  go_wp2_with fail
  -- the first sixteen words
  go_loopw [6] (fun i wr => ∃ (t : Nat) (L : List UInt32), t ≤ 16 ∧ i = .int .i64 t ∧ L.length = 64 ∧ L.take t = firstW bl t ∧ (∀ j, t ≤ j → L.getD j 0 = 0) ∧ RB w st L wr)
    (fun i _ => 16 - (intOf i).toNat)
  case atStart =>
    refine ⟨0, List.replicate 64 0, by omega, rfl, rfl, rfl, fun j _ => getD_zeros 64 j, ?_, ?_, ?_, ?_⟩
    · exact (((Blk.new w _ _).alloc _).alloc _)
    · exact (Blk.new' _ _ _ _ (by simp)).alloc _
    · exact Blk.new' _ _ _ _ (by simp)
    · go_grown
  case round =>
    obtain ⟨t, L, ht, rfl, hL, hT, hZ, hrb⟩ := hrel
    have HL := Lib.hid hL
    have HT := Lib.hid hT
    have HZ := Lib.hid hZ
    clear hL hT hZ
    by_cases hlt : t < 16
    · go_wp2_with fail
      obtain ⟨wo, rfl⟩ : ∃ wo : World, wo = wr := ⟨_, rfl⟩
      go_loopw [7] (fun i wr => ∃ (m : Nat), m ≤ 4 ∧ i = .int .i64 m ∧ RB w st (L.set t (partW bl t m)) wr) (fun i _ => 4 - (intOf i).toNat)
      case atStart =>
        refine ⟨0, by omega, rfl, ?_⟩
        have : L.set t (partW bl t 0) = L := by
          apply List.ext_getElem (by simp)
          intro j j1 j2
          by_cases hj : t = j
          · subst hj
            have := HZ.out t (Nat.le_refl _)
            rw [List.getD_eq_getElem?_getD, List.getElem?_eq_getElem j2] at this
            simp [partW]; exact this.symm
          · simp [hj]
        rw [this]; exact hrb
      case round =>
        obtain ⟨m, hm, rfl, prb⟩ := hrel
        by_cases hlm : m < 4
        · obtain ⟨x, Hx⟩ : ∃ x, Hid (partW bl t m = x) := ⟨_, rfl⟩
          obtain ⟨y, Hy⟩ : ∃ y, Hid (bl.getD (4 * t + m) 0 = y) := ⟨_, rfl⟩
          have cb : ∀ s : InC (RB w st (L.set t (partW bl t m))), s.W.cell? ⟨g, o + (4 * t + m), none⟩ = some (B y) := fun s => by
            rw [s.ok.2.2.2.cell (p := ⟨g, o + (4 * t + m), none⟩) hg, Hc.out (4 * t + m) (by omega), Hy.out]
          have cw : ∀ s : InC (RB w st (L.set t (partW bl t m))), s.W.cell? ⟨w.heap.size + 1 + 1, t, none⟩ = some (U x) := fun s => by
            rw [s.ok.at_ t (by have := HL.out; simp; omega), getD_set_same _ _ _ _ (by have := HL.out; omega), Hx.out]
          have i0 : (t : Int) < 64 := by omega
          have i1 : (0 : Int) ≤ 4 * (t : Int) + (m : Int) := by omega
          have i2 : 4 * (t : Int) + (m : Int) < 64 := by omega
          go_wp2_with fail
          refine wp_region_class_tail (RB w st (L.set t (partW bl t m))) 15 (by kernel_rfl) (by kernel_rfl) prb.drew fun _ => ?_
          simp only [List.take_succ_cons, List.take_zero, List.drop_succ_cons, List.drop_zero]
          repeat (go_big_quiet_step (fail))
          refine wpQuiet_nil ?_
          intro W1 hW1
          have cw1 := cw ⟨W1, hW1⟩
          have cf := hW1.free t
          go_wp2_with fail
          go_roundw
          case rel =>
            refine ⟨m + 1, by omega, by go_num, ?_⟩
            have := hW1.set_ t (add32 (mul256 x) (up32 y))
            rw [List.set_set] at this
            rw [partW_succ, Hx.out, Hy.out]
            exact this
          case measure => simp [intOf]; omega
        · have hm4 : m = 4 := by omega
          rw [hm4, partW_four] at prb
          clear hm4
          go_wp2_with fail
          go_roundw
          case rel =>
            have hl := HL.out
            refine ⟨t + 1, L.set t (wordAt bl t), by omega, by go_num, by simpa using hl, ?_, fun j hj => ?_, prb⟩
            · rw [take_set_succ _ _ _ (by omega), HT.out, firstW_succ]
            · rw [getD_set_other _ _ _ _ _ (by omega)]; exact HZ.out j (by omega)
          case measure => simp [intOf]; omega
    · have ht' : t = 16 := by omega
      have HT' := Lib.hid (show L.take 16 = firstW bl 16 by rw [← ht']; exact HT.out)
      clear ht'
      go_wp2_with fail
      -- the other words
      go_loopw [8] (fun i wr => ∃ (t : Nat) (L : List UInt32), 16 ≤ t ∧ t ≤ 64 ∧ i = .int .i64 t ∧ L.length = 64 ∧ L.take t = moreW (t - 16) (firstW bl 16) ∧ RB w st L wr)
        (fun i _ => 64 - (intOf i).toNat)
      case atStart => exact ⟨16, L, by omega, by omega, rfl, HL.out, HT'.out, hrb⟩
      case round =>
        obtain ⟨t, L, ht0, ht, rfl, hL, hT, hrb⟩ := hrel
        have HL := Lib.hid hL
        have HT := Lib.hid hT
        clear hL hT
        by_cases hlt : t < 64
        · obtain ⟨x15, H15⟩ : ∃ x, Hid (L.getD (t - 15) 0 = x) := ⟨_, rfl⟩
          obtain ⟨x2, H2⟩ : ∃ x, Hid (L.getD (t - 2) 0 = x) := ⟨_, rfl⟩
          obtain ⟨x16, H16⟩ : ∃ x, Hid (L.getD (t - 16) 0 = x) := ⟨_, rfl⟩
          obtain ⟨x7, H7⟩ : ∃ x, Hid (L.getD (t - 7) 0 = x) := ⟨_, rfl⟩
          have c15 : ∀ s : InC (RB w st L), s.W.cell? ⟨w.heap.size + 1 + 1, t - 15, none⟩ = some (U x15) := fun s => by rw [s.ok.at_ _ (by have := HL.out; omega), H15.out]
          have c2 : ∀ s : InC (RB w st L), s.W.cell? ⟨w.heap.size + 1 + 1, t - 2, none⟩ = some (U x2) := fun s => by rw [s.ok.at_ _ (by have := HL.out; omega), H2.out]
          have c16 : ∀ s : InC (RB w st L), s.W.cell? ⟨w.heap.size + 1 + 1, t - 16, none⟩ = some (U x16) := fun s => by rw [s.ok.at_ _ (by have := HL.out; omega), H16.out]
          have c7 : ∀ s : InC (RB w st L), s.W.cell? ⟨w.heap.size + 1 + 1, t - 7, none⟩ = some (U x7) := fun s => by rw [s.ok.at_ _ (by have := HL.out; omega), H7.out]
          have i0 : (t : Int) < 64 := by omega
          have n15 : (0 : Int) ≤ (t : Int) - 15 := by omega
          have n2 : (0 : Int) ≤ (t : Int) - 2 := by omega
          have n16 : (0 : Int) ≤ (t : Int) - 16 := by omega
          have n7 : (0 : Int) ≤ (t : Int) - 7 := by omega
          have l15 : (t : Int) - 15 < 64 := by omega
          have l2 : (t : Int) - 2 < 64 := by omega
          have l16 : (t : Int) - 16 < 64 := by omega
          have l7 : (t : Int) - 7 < 64 := by omega
          have R9 := shr3_i
          have R10 := shr10_i
          go_wp2_with fail
          refine wp_region_class (RB w st L) (by kernel_rfl) (by kernel_rfl) hrb.drew fun _ => ?_
          repeat (go_big_quiet_step ((go_at_call 103; refine (refrot_i _ _ _ (by omega) (by omega)).mono ?_; rintro e w' ⟨rfl, k, rfl⟩; exact ⟨rfl, ⟨_, RB.drewN (InC.ok _) k⟩, rfl⟩)))
          refine wpQuiet_nil ?_
          intro W1 hW1
          go_wp2_with fail
          refine wp_region_class (RB w st L) (by kernel_rfl) (by kernel_rfl) hW1.drew fun _ => ?_
          repeat (go_big_quiet_step ((go_at_call 103; refine (refrot_i _ _ _ (by omega) (by omega)).mono ?_; rintro e w' ⟨rfl, k, rfl⟩; exact ⟨rfl, ⟨_, RB.drewN (InC.ok _) k⟩, rfl⟩)))
          refine wpQuiet_nil ?_
          intro W2 hW2
          go_wp2_with fail
          refine wp_region_class_tail (RB w st L) 15 (by kernel_rfl) (by kernel_rfl) hW2.drew fun _ => ?_
          simp only [List.take_succ_cons, List.take_zero, List.drop_succ_cons, List.drop_zero]
          repeat (go_big_quiet_step (fail))
          refine wpQuiet_nil ?_
          intro W3 hW3
          have cw3 := hW3.at_ t (by have := HL.out; omega)
          have cf3 := hW3.free t
          go_wp2_with fail
          go_roundw
          case rel =>
            have hl := HL.out
            refine ⟨t + 1, L.set t _, by omega, by omega, by go_num, by simpa using hl, ?_, hW3.set_ t _⟩
            rw [take_set_succ _ _ _ (by omega), show t + 1 - 16 = (t - 16) + 1 by omega, moreW_succ, ← HT.out, nextW_take _ _ ht0 (by omega), H15.out, H2.out, H16.out, H7.out]
            have : ∀ p q r u : UInt32, p + q + r + u = p + r + q + u := fun p q r u => by rw [UInt32.add_assoc p q r, UInt32.add_comm q r, ← UInt32.add_assoc]
            rw [this x16 x7 (sig0 x15) (sig1 x2)]
            rfl
          case measure => simp [intOf]; omega
        · have ht' : t = 64 := by omega
          have hL' : L = sched bl := by
            have h := HT.out
            rw [ht', List.take_of_length_le (by have := HL.out; omega)] at h
            exact h
          have HS := Lib.hid hL'
          clear hL' ht'
          have s0 : ∀ s : InC (RB w st L), s.W.cell? ⟨w.heap.size, 0, none⟩ = some (U (st.getD 0 0)) := fun s => s.ok.st_ 0 (by have := Hs.out; omega)
          have s1 : ∀ s : InC (RB w st L), s.W.cell? ⟨w.heap.size, 1, none⟩ = some (U (st.getD 1 0)) := fun s => s.ok.st_ 1 (by have := Hs.out; omega)
          have s2 : ∀ s : InC (RB w st L), s.W.cell? ⟨w.heap.size, 2, none⟩ = some (U (st.getD 2 0)) := fun s => s.ok.st_ 2 (by have := Hs.out; omega)
          have s3 : ∀ s : InC (RB w st L), s.W.cell? ⟨w.heap.size, 3, none⟩ = some (U (st.getD 3 0)) := fun s => s.ok.st_ 3 (by have := Hs.out; omega)
          have s4 : ∀ s : InC (RB w st L), s.W.cell? ⟨w.heap.size, 4, none⟩ = some (U (st.getD 4 0)) := fun s => s.ok.st_ 4 (by have := Hs.out; omega)
          have s5 : ∀ s : InC (RB w st L), s.W.cell? ⟨w.heap.size, 5, none⟩ = some (U (st.getD 5 0)) := fun s => s.ok.st_ 5 (by have := Hs.out; omega)
          have s6 : ∀ s : InC (RB w st L), s.W.cell? ⟨w.heap.size, 6, none⟩ = some (U (st.getD 6 0)) := fun s => s.ok.st_ 6 (by have := Hs.out; omega)
          have s7 : ∀ s : InC (RB w st L), s.W.cell? ⟨w.heap.size, 7, none⟩ = some (U (st.getD 7 0)) := fun s => s.ok.st_ 7 (by have := Hs.out; omega)
          obtain ⟨S, hS⟩ : ∃ S : S8, S8.of st = S := ⟨_, rfl⟩
          have e0 : st.getD 0 0 = S.a := by rw [← hS]; rfl
          have e1 : st.getD 1 0 = S.b := by rw [← hS]; rfl
          have e2 : st.getD 2 0 = S.c := by rw [← hS]; rfl
          have e3 : st.getD 3 0 = S.d := by rw [← hS]; rfl
          have e4 : st.getD 4 0 = S.e := by rw [← hS]; rfl
          have e5 : st.getD 5 0 = S.f := by rw [← hS]; rfl
          have e6 : st.getD 6 0 = S.g := by rw [← hS]; rfl
          have e7 : st.getD 7 0 = S.h := by rw [← hS]; rfl
          rw [e0] at s0
          rw [e1] at s1
          rw [e2] at s2
          rw [e3] at s3
          rw [e4] at s4
          rw [e5] at s5
          rw [e6] at s6
          rw [e7] at s7
          have HSS := Lib.hid hS
          clear hS e0 e1 e2 e3 e4 e5 e6 e7
          go_wp2_with fail
          refine wp_region_class (RB w st L) (by kernel_rfl) (by kernel_rfl) hrb.drew fun _ => ?_
          repeat (go_big_quiet_step (fail))
          refine wpQuiet_nil ?_
          intro W1 hW1
          go_wp2_with fail
          go_loopw [11, 12, 13, 14, 15, 16, 17, 18, 19] (fun a b c d e f g h i wr => ∃ (r : Nat) (v : S8), r ≤ 64 ∧ S.rounds L r = v ∧ i = .int .i64 r ∧ a = U v.a ∧ b = U v.b ∧ c = U v.c ∧ d = U v.d ∧ e = U v.e ∧ f = U v.f ∧ g = U v.g ∧ h = U v.h ∧ RB w st L wr)
            (fun _ _ _ _ _ _ _ _ i _ => 64 - (intOf i).toNat)
          case atStart => exact ⟨0, S, by omega, rfl, rfl, rfl, rfl, rfl, rfl, rfl, rfl, rfl, rfl, hW1⟩
          case round =>
            obtain ⟨r, v, hr, hv, rfl, rfl, rfl, rfl, rfl, rfl, rfl, rfl, rfl, qrb⟩ := hrel
            have HV := Lib.hid hv
            clear hv
            by_cases hlr : r < 64
            · obtain ⟨kr, Hkr⟩ : ∃ x, Hid (K256.getD r 0 = x) := ⟨_, rfl⟩
              obtain ⟨wt, Hwt⟩ : ∃ x, Hid (L.getD r 0 = x) := ⟨_, rfl⟩
              have cw : ∀ s : InC (RB w st L), s.W.cell? ⟨w.heap.size + 1 + 1, r, none⟩ = some (U wt) := fun s => by rw [s.ok.at_ _ (by have := HL.out; omega), Hwt.out]
              have i0 : (r : Int) < 64 := by omega
              obtain ⟨a, b, c, d, e, f, g, h⟩ := v
              go_wp2_with fail
              refine wp_region_class (RB w st L) (by kernel_rfl) (by kernel_rfl) qrb.drew fun _ => ?_
              repeat (go_big_quiet_step (first | ((go_at_call 103; refine (refrot_i _ _ _ (by omega) (by omega)).mono ?_; rintro e w' ⟨rfl, k, rfl⟩; exact ⟨rfl, ⟨_, RB.drewN (InC.ok _) k⟩, rfl⟩)) | ((go_at_call 104; refine (refk_any _ _ hlr).mono ?_; rw [Hkr.out]; rintro e w' ⟨rfl, hb⟩; exact ⟨rfl, ⟨_, RB.below (InC.ok _) hb⟩, rfl⟩))))
              refine wpQuiet_nil ?_
              intro W2 hW2
              go_wp2_with (go_at_call 103; refine (refrot_i _ _ _ (by omega) (by omega)).mono ?_; rintro e w' ⟨rfl, k, rfl⟩)
              go_roundw
              case rel =>
                refine ⟨r + 1, (⟨a, b, c, d, e, f, g, h⟩ : S8).round kr wt, by omega, ?_, by go_num, rfl, rfl, rfl, rfl, rfl, rfl, rfl, rfl, ?_⟩
                · rw [show S.rounds L (r + 1) = (S.rounds L r).round (K256.getD r 0) (L.getD r 0) from rfl, HV.out, Hkr.out, Hwt.out]
                · exact hW2.drewN _
              case measure => simp [intOf]; omega
            · have hr' : r = 64 := by omega
              have hfin : (S8.of st).block bl = S.plus v := by
                have h1 := HV.out
                rw [hr'] at h1
                rw [HSS.out, S8.block, ← HS.out, h1]
              have HF := Lib.hid hfin
              clear hfin hr'
              have k0 := s0 ⟨wr, qrb⟩
              have k1 := s1 ⟨wr, qrb⟩
              have k2 := s2 ⟨wr, qrb⟩
              have k3 := s3 ⟨wr, qrb⟩
              have k4 := s4 ⟨wr, qrb⟩
              have k5 := s5 ⟨wr, qrb⟩
              have k6 := s6 ⟨wr, qrb⟩
              have k7 := s7 ⟨wr, qrb⟩
              clear s0 s1 s2 s3 s4 s5 s6 s7
              go_wp2_with (refine wpList_store_blk rfl 136 (.tmp 4) (.tmp 208) rfl 8 size33 (w.heap.size + 1) ((S.plus v).list.map U).toArray rfl ?_ rfl (oneCell_U _) 136 _ qrb.2.1 (by rfl) ?_)
              · have hp : (S.plus v) = ⟨add32 S.a v.a, add32 S.b v.b, add32 S.c v.c, add32 S.d v.d, add32 S.e v.e, add32 S.f v.f, add32 S.g v.g, add32 S.h v.h⟩ := by
                  unfold S8.plus add32
                  rw [UInt32.add_comm v.a, UInt32.add_comm v.b, UInt32.add_comm v.c, UInt32.add_comm v.d, UInt32.add_comm v.e, UInt32.add_comm v.f, UInt32.add_comm v.g, UInt32.add_comm v.h]
                rw [hp]
                rfl
              · refine bodyPost_ret (results_cell_row rfl _ _ (w.heap.size + 1) 136 ((S.plus v).list.map U).toArray (0, 0) _ rfl (qrb.2.1.setRow_ _) Tryd.underlying136 rfl (by kernel_rfl)) rfl ⟨by rw [HF.out], ?_⟩
                exact below_setRow qrb.2.2.2 (by omega) _
end Go.Proofs.YtfhmjgkcpcnkbaaDoor
