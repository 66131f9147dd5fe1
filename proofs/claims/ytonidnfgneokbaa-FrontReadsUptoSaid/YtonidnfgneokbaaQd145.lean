/- notaryref10: Leaf, Append, Grow. -/
import Derived.Test.YtonidnfgneokbaaQd144
namespace Go.Proofs.Ytonidnfgneokbaa
open Go Go.RowKit Go.Shelf
attribute [local go_sem] Oper.semAt_some

theorem FrP.small {w : World} {g : Nat} {ps : FrV} (h : FrP w g ps) : ∃ (T : TypeId) (cs : Array Value), Blk w g T cs ∧ cs.size = 1 := by
  obtain ⟨A, n, c, hk, -⟩ := h.ex
  exact ⟨_, _, hk, rfl⟩
theorem rfcome_one (g : Nat) (ps : FrV) (x : List UInt8) (w : World) (h : FrP w g ps) (hx : x.length = 32) (ht : szF ps + 1 ≤ 9223372036854775807) (hn : ps.length ≤ 1000000) :
    Calls Try.prog 148 #[.pointer (some ⟨g, 0, none⟩), .agg (Value.int .i64 1 :: x.map B).toArray] w fun e w' => e = .returned (.tuple #[]) ∧ FrP w' g (comeF ps (0, x)) ∧ w.grownBy w' (some g) :=
  rfcome_any g ps (0, x) w h hx ht hn
theorem szF_leaf_take (ps : FrV) (hs : List (List UInt8)) (k : Nat) (h : k ≤ hs.length) : szF (leafF ps (hs.take k)) = szF ps + k := by rw [szF_leaf, List.length_take]; omega

set_option maxHeartbeats 4000000 in
set_option maxRecDepth 100000 in
theorem rfleaf_nil (A : Option Addr) (n c : Nat) (w : World) : Calls Try.prog 132 #[.pointer none, .slice A n c] w fun e w' => e = .returned (.int .i64 1) ∧ w' = w := by
  go_enter Try.func132, Try.ntmps132
  go_wp2_with fail
  go_ret
  exact ⟨rfl, rfl⟩
set_option maxHeartbeats 4000000 in
set_option maxRecDepth 100000 in
theorem rfleaf_any (g : Nat) (ps : FrV) (hs : List (List UInt8)) (A : Option Addr) (n c : Nat) (w : World) (h : FrP w g ps) (ho : FrOk ps) (hh : Hs w (fun _ => True) A n c hs) (hn : n ≤ 1000000000) :
    Calls Try.prog 132 #[fptr g, .slice A n c] w fun e w' => e = .returned (.int .i64 (leafE ps hs).2) ∧ FrP w' g (leafE ps hs).1 ∧ w.grownBy w' (some g) := by
  have hlen := hh.len
  have hroom := hh.sl.room
  have hmx := hh.sl.max
  unfold maxLen at hmx
  have h32 := hh.all
  have htop := ho.top
  have hsz := rfsize_any g ps w h htop
  obtain ⟨sz, hsze⟩ : ∃ s, szF ps = s := ⟨_, rfl⟩
  rw [hsze] at hsz htop
  have Hsz := Lib.hid hsz
  have hw1 : IntKind.i64.wrap (9223372036854775807 - (sz : Int)) = 9223372036854775807 - (sz : Int) := IntWalk.i64_in _ (by omega)
  unfold leafE
  rw [hsze, hlen]
  have Hlen := Lib.hid hlen
  have H32 := Lib.hid h32
  have Hsze := Lib.hid hsze
  have Ho := Lib.hid ho
  clear hsz hlen h32 hsze ho
  by_cases hb : 9223372036854775807 < sz + n
  · rw [if_pos hb]
    have hd : decide (9223372036854775807 - (sz : Int) < (n : Int)) = true := by simp; omega
    have hd' : 9223372036854775807 - (sz : Int) < (n : Int) := by omega
    go_enter Try.func132, Try.ntmps132
    go_wp2_with (go_at_call 125; refine Hsz.out.mono ?_; rintro e w1 ⟨rfl, hww⟩; obtain rfl := hww.symm)
    go_ret
    exact ⟨rfl, h, grown_refl _ _⟩
  · rw [if_neg hb]
    have hd : decide (9223372036854775807 - (sz : Int) < (n : Int)) = false := by simp; omega
    have hd' : ¬ 9223372036854775807 - (sz : Int) < (n : Int) := by omega
    obtain ⟨res, hres⟩ : ∃ r, leafF ps hs = r := ⟨_, rfl⟩
    rw [hres]
    have Hres := Lib.hid hres
    obtain ⟨T, cs, hk1, hcs⟩ := h.small
    have hh1 := (hh.apart hk1 (by omega)).weak (Y := fun b => b ≠ g ∧ b < w.heap.size) fun b hb hx => ⟨hx.2, hb⟩
    have Hd := Lib.hid hd
    clear hres hk1 hcs T cs
    go_enter Try.func132, Try.ntmps132
    go_wp2_with (go_at_call 125; refine Hsz.out.mono ?_; rintro e w1 ⟨rfl, hww⟩; obtain rfl := hww.symm)
    clear hd hd' hw1 Hd
    go_loopw [5] (fun v5 wr => ∃ k : Nat, k ≤ n ∧ v5 = .int .i64 k ∧ FrP wr g (leafF ps (hs.take k)) ∧ w.grownBy wr (some g) ∧ Hs wr (fun b => b ≠ g ∧ b < w.heap.size) A n c hs) (fun v5 _ => n - (intOf v5).toNat)
    case atStart => exact ⟨0, Nat.zero_le _, rfl, h, grown_refl _ _, hh1⟩
    case round =>
      clear h hh hh1
      obtain ⟨k, hk, rfl, hF, hg, hH⟩ := hrel
      by_cases hlt : k < n
      · have hd : decide ((k : Int) < (n : Int)) = true := by simp; omega
        have hwk : IntKind.i64.wrap ((k : Int) + 1) = (k : Int) + 1 := IntWalk.i64_in _ (by omega)
        obtain ⟨b, o, rfl, -, -, -⟩ := hH.at_ (by omega)
        have hget := hH.get rfl k hlt
        have hx32 := H32.out.getD k (by rw [Hlen.out]; exact hlt)
        have hsn := leafF_snoc ps (hs.take k) (hs.getD k [])
        rw [← take_snocF hs k (by rw [Hlen.out]; exact hlt)] at hsn
        have hok := Ho.out.leafF (hs.take k) (fun x hx => H32.out x (List.mem_of_mem_take hx)) (by rw [Hsze.out, List.length_take, Hlen.out]; omega)
        have hst := szF_leaf_take ps hs k (by rw [Hlen.out]; exact hk)
        rw [Hsze.out] at hst
        obtain ⟨x, hx⟩ : ∃ x, hs.getD k [] = x := ⟨_, rfl⟩
        obtain ⟨cur, hcur⟩ : ∃ x, leafF ps (hs.take k) = x := ⟨_, rfl⟩
        rw [hx] at hget hx32 hsn
        rw [hcur] at hsn hok hF hst
        have hcm := rfcome_one g cur x wr hF hx32 (by omega) (by have := hok.len; omega)
        have Hget := Lib.hid hget
        have Hx32 := Lib.hid hx32
        have Hsn := Lib.hid hsn
        have Hcm := Lib.hid hcm
        clear hget hx32 hsn hcm hx hcur hok hst
        go_wp2_with (first
          | ((with_reducible show wpList _ _ _ (⟨some 24, .load _ _, _, _, _, _⟩ :: _) _ _); refine wpList_run0 rfl (.agg (x.map B).toArray) (run_load_op 25 (.tmp 23) rfl b (o + k * 32) rfl _ Hget.out) ?_; simp only [Act.put])
          | ((with_reducible show wpList _ _ _ (⟨some 25, .build _ _, _, _, _, _⟩ :: _) _ _); refine wpList_run0 rfl (.agg (Value.int .i64 1 :: x.map B).toArray) (run_build_pq_op 1 x Hx32.out (.const (.int .i64 1)) (.tmp 24) rfl rfl rfl _) ?_; simp only [Act.put])
          | (go_at_call 148; refine Hcm.out.mono ?_; rintro e w3 ⟨rfl, hF3, hg3⟩))
        go_roundw
        case rel => exact ⟨k + 1, by omega, by go_num, by rw [Hsn.out]; exact hF3, grown_same hg hg3, hH.grown hg3 (fun b _ hx e => hx.1 (Option.some.inj e))⟩
        case measure => simp [intOf]; omega
      · obtain rfl : k = n := by omega
        have hd : decide ((k : Int) < (k : Int)) = false := by simp
        rw [List.take_of_length_le (by rw [Hlen.out]; exact Nat.le_refl _), Hres.out] at hF
        go_wp2_with fail
        go_ret
        exact ⟨rfl, hF, hg⟩

set_option maxHeartbeats 4000000 in
set_option maxRecDepth 100000 in
theorem rfappend_nil (A : Option Addr) (n c : Nat) (w : World) : Calls Try.prog 130 #[.pointer none, .slice A n c] w fun e w' => e = .returned (.int .i64 1) ∧ w' = w := by
  go_enter Try.func130, Try.ntmps130
  go_wp2_with fail
  go_ret
  exact ⟨rfl, rfl⟩
theorem Es.grownF {w w' : World} {X : Nat → Prop} {A : Option Addr} {n c : Nat} {ls : List (List UInt8)} {row : Option Nat} (h : Es w X A n c ls) (hg : w.grownBy w' row) (hX : ∀ b, b < w.heap.size → X b → some b ≠ row) : Es w' X A n c ls :=
  let ⟨vs, h1, h2⟩ := h.ex; ⟨⟨vs, h1.grown hg hX, fun i hi => let ⟨Ai, ci, g1, g2⟩ := h2 i hi; ⟨Ai, ci, g1, g2.grown hg hX⟩⟩, h.len⟩
set_option maxHeartbeats 4000000 in
set_option maxRecDepth 100000 in
theorem rfappend_any (g : Nat) (ps : FrV) (es : List (List UInt8)) (A : Option Addr) (n c : Nat) (w : World) (h : FrP w g ps) (ho : FrOk ps) (hh : Es w (· ≠ g) A n c es) (hn : n ≤ 100000000) :
    Calls Try.prog 130 #[fptr g, .slice A n c] w fun e w' => e = .returned (.int .i64 (appendE ps es).2) ∧ FrP w' g (appendE ps es).1 ∧ w.grownBy w' (some g) := by
  have hlen := hh.len
  have hroom := hh.room
  have hmx := hh.max
  unfold maxLen at hmx
  have Ho := Lib.hid ho
  have Hlen := Lib.hid hlen
  have htop := ho.top
  have hsz := rfsize_any g ps w h htop
  obtain ⟨sz, hsze⟩ : ∃ s, szF ps = s := ⟨_, rfl⟩
  rw [hsze] at hsz htop
  have Hsz := Lib.hid hsz
  have hw1 : IntKind.i64.wrap (9223372036854775807 - (sz : Int)) = 9223372036854775807 - (sz : Int) := IntWalk.i64_in _ (by omega)
  obtain ⟨res, hres⟩ : ∃ r, appendE ps es = r := ⟨_, rfl⟩
  rw [hres]
  have Hres := Lib.hid hres
  have Hsze := Lib.hid hsze
  clear ho hlen hsz hres hsze
  go_enter Try.func130, Try.ntmps130
  go_wp2_with fail
  go_loopw [5] (fun v5 wr => ∃ k : Nat, k ≤ n ∧ v5 = .int .i64 k ∧ wr = w ∧ longE (es.take k) = false) (fun v5 _ => n - (intOf v5).toNat)
  case atStart => exact ⟨0, Nat.zero_le _, rfl, rfl, rfl⟩
  case round =>
    obtain ⟨k, hk, rfl, hww, hlg⟩ := hrel
    obtain rfl := hww.symm
    by_cases hlt : k < n
    · have hd : decide ((k : Int) < (n : Int)) = true := by simp; omega
      have hwk : IntKind.i64.wrap ((k : Int) + 1) = (k : Int) + 1 := IntWalk.i64_in _ (by omega)
      have hkl : k < es.length := by rw [Hlen.out]; exact hlt
      have Hh := Lib.hid hh
      obtain ⟨b, o, rfl, -, -, hat⟩ := hh.at_ (by omega)
      obtain ⟨Ai, ci, hce, hsl⟩ := hat k hlt
      have hsn := longE_snoc es k hkl
      rw [hlg, Bool.false_or] at hsn
      have hmx2 := hsl.max
      have hrm := hsl.room
      unfold maxLen at hmx2
      clear hsl hat hh
      obtain ⟨x, hx⟩ : ∃ x, es.getD k [] = x := ⟨_, rfl⟩
      rw [hx] at hce hsn hrm
      obtain ⟨m, hm⟩ : ∃ m, x.length = m := ⟨_, rfl⟩
      rw [hm] at hce hsn hrm
      have Hsn := Lib.hid hsn
      clear hm hx hsn hlg
      by_cases hlong : 4096 < m
      · have hd2 : decide ((4096 : Int) < (m : Int)) = true := by simp; omega
        have hd2' : (4096 : Int) < (m : Int) := by omega
        go_wp2_with fail
        have hE : longE es = true := longE_of_take es (k + 1) (by rw [Hsn.out]; simpa using hlong)
        have hA : appendE ps es = (ps, 3) := by unfold appendE; exact if_pos hE
        have hr : res = (ps, 3) := by rw [← Hres.out, hA]
        go_ret
        rw [hr]
        exact ⟨rfl, h, grown_refl _ _⟩
      · have hd2 : decide ((4096 : Int) < (m : Int)) = false := by simp; omega
        have hd2' : ¬ (4096 : Int) < (m : Int) := by omega
        go_wp2_with fail
        go_roundw
        case rel => exact ⟨k + 1, by omega, by go_num, by first | rfl | trivial, by rw [Hsn.out]; simpa using hlong⟩
        case measure => simp [intOf]; omega
    · obtain rfl : k = n := by omega
      have hd : decide ((k : Int) < (k : Int)) = false := by simp
      rw [List.take_of_length_le (by rw [Hlen.out]; exact Nat.le_refl _)] at hlg
      have hA : appendE ps es = leafE ps (es.map hLeaf) := by unfold appendE; exact if_neg (by show ¬ longE es = true; rw [hlg]; simp)
      have hr := Hres.out
      rw [hA] at hr
      unfold leafE at hr
      rw [Hsze.out, List.length_map, Hlen.out] at hr
      clear hA
      by_cases hb : 9223372036854775807 < sz + k
      · rw [if_pos hb] at hr
        have hd1 : decide (9223372036854775807 - (sz : Int) < (k : Int)) = true := by simp; omega
        have hd1' : 9223372036854775807 - (sz : Int) < (k : Int) := by omega
        go_wp2_with (go_at_call 125; refine Hsz.out.mono ?_; rintro e w1 ⟨rfl, hww⟩; obtain rfl := hww.symm)
        go_ret
        rw [← hr]
        exact ⟨rfl, h, grown_refl _ _⟩
      · rw [if_neg hb] at hr
        have hd1 : decide (9223372036854775807 - (sz : Int) < (k : Int)) = false := by simp; omega
        have hd1' : ¬ 9223372036854775807 - (sz : Int) < (k : Int) := by omega
        have Hr := Lib.hid hr
        have hlgs : ∀ x ∈ es, x.length ≤ 4096 := fun x hx => by
          have : ∀ x ∈ es, ¬ 4096 < x.length := by unfold longE at hlg; simpa using hlg
          have := this x hx
          omega
        have Hlgs := Lib.hid hlgs
        clear hr hlg hlgs
        go_wp2_with (go_at_call 125; refine Hsz.out.mono ?_; rintro e w1 ⟨rfl, hww⟩; obtain rfl := hww.symm)
        clear hd hd1 hd1' hw1
        have hh1 := hh.weak (Y := fun b => b ≠ g ∧ b < w.heap.size) fun b hb hx => ⟨hx, hb⟩
        clear hh
        go_loopw [6] (fun v6 wr => ∃ q : Nat, q ≤ k ∧ v6 = .int .i64 q ∧ FrP wr g (leafF ps ((es.take q).map hLeaf)) ∧ w.grownBy wr (some g) ∧ Es wr (fun b => b ≠ g ∧ b < w.heap.size) A k c es) (fun v6 _ => k - (intOf v6).toNat)
        case atStart => exact ⟨0, Nat.zero_le _, rfl, h, grown_refl _ _, hh1⟩
        case round =>
          clear h hh1
          obtain ⟨q, hq, rfl, hF, hg, hH⟩ := hrel
          by_cases hlt : q < k
          · have hd : decide ((q : Int) < (k : Int)) = true := by simp; omega
            have hwk : IntKind.i64.wrap ((q : Int) + 1) = (q : Int) + 1 := IntWalk.i64_in _ (by omega)
            have Hh2 := Lib.hid hH
            obtain ⟨b, o, rfl, -, -, hat⟩ := hH.at_ (by omega)
            obtain ⟨Ai, ci, hce, hsl⟩ := hat q hlt
            have hql : q < es.length := by rw [Hlen.out]; exact hlt
            have hsn := leafF_snoc ps ((es.take q).map hLeaf) (hLeaf (es.getD q []))
            rw [← map_take_snoc es q hql] at hsn
            have hok := Ho.out.leafF ((es.take q).map hLeaf) (fun x hx => h32_leaves _ x hx) (by rw [Hsze.out, List.length_map, List.length_take, Hlen.out]; omega)
            have hst : szF (leafF ps ((es.take q).map hLeaf)) = sz + q := by rw [szF_leaf, Hsze.out, List.length_map, List.length_take, Hlen.out]; omega
            have hxl : (es.getD q []).length ≤ 4096 := by
              rw [List.getD_eq_getElem?_getD, List.getElem?_eq_getElem hql]
              exact Hlgs.out _ (List.getElem_mem hql)
            have hleaf := hrleaf_any (es.getD q []) Ai (es.getD q []).length ci wr hsl.all (by omega)
            have hyl := length_hLeaf (es.getD q [])
            obtain ⟨y, hy⟩ : ∃ y, hLeaf (es.getD q []) = y := ⟨_, rfl⟩
            obtain ⟨cur, hcur⟩ : ∃ x, leafF ps ((es.take q).map hLeaf) = x := ⟨_, rfl⟩
            rw [hy] at hleaf hyl hsn
            rw [hcur] at hsn hok hF hst
            obtain ⟨m, hm⟩ : ∃ m, (es.getD q []).length = m := ⟨_, rfl⟩
            rw [hm] at hleaf hce
            have hcm := fun W (hb : Below wr.heap.size wr W) => rfcome_one g cur y W (hF.step hb) hyl (by omega) (by have := hok.len; omega)
            have Hlf := Lib.hid hleaf
            have Hsn := Lib.hid hsn
            have Hcm := Lib.hid hcm
            clear hleaf hsn hcm hcur hok hst hy hm hsl hat hH hxl
            go_wp2_with (first
              | (go_at_call 66; refine Hlf.out.mono ?_; rintro e w3 ⟨rfl, hb3⟩)
              | ((with_reducible show wpList _ _ _ (⟨some 39, .build _ _, _, _, _, _⟩ :: _) _ _); refine wpList_run0 rfl (.agg (Value.int .i64 1 :: y.map B).toArray) (run_build_pq_op 1 y hyl (.const (.int .i64 1)) (.tmp 38) rfl rfl rfl _) ?_; simp only [Act.put])
              | (go_at_call 148; refine (Hcm.out w3 hb3).mono ?_; rintro e w4 ⟨rfl, hF4, hg4⟩))
            go_roundw
            case rel => exact ⟨q + 1, by omega, by go_num, by rw [Hsn.out]; exact hF4, grown_same (grown_same hg (grown_of_below hb3 (some g))) hg4, (Hh2.out.step hb3).grownF hg4 (fun b _ hx e => hx.1 (Option.some.inj e))⟩
            case measure => simp [intOf]; omega
          · obtain rfl : q = k := by omega
            have hd : decide ((q : Int) < (q : Int)) = false := by simp
            rw [List.take_of_length_le (by rw [Hlen.out]; exact Nat.le_refl _)] at hF
            go_wp2_with fail
            go_ret
            rw [← Hr.out]
            exact ⟨rfl, hF, hg⟩

set_option maxHeartbeats 4000000 in
set_option maxRecDepth 100000 in
theorem rfgrow_nil (lv : Int) (x : List UInt8) (w : World) : Calls Try.prog 133 #[.pointer none, .int .i64 lv, .agg (x.map B).toArray] w fun e w' => e = .returned (.int .i64 1) ∧ Below w.heap.size w w' := by
  obtain ⟨w0, hw0⟩ : ∃ w0, w.alloc (.cells (x.map B).toArray 25) = w0 := ⟨_, rfl⟩
  have hb0 : Below w.heap.size w w0 := by rw [← hw0]; exact (Below.refl _ _).alloc (Nat.le_refl _) _
  have Hw0 := Lib.hid hw0
  clear hw0
  go_enter Try.func133, Try.ntmps133
  go_wp2_with (rw [Hw0.out])
  go_ret
  exact ⟨rfl, hb0⟩
set_option maxHeartbeats 4000000 in
set_option maxRecDepth 100000 in
theorem rfgrow_any (g : Nat) (ps : FrV) (lv : Int) (x : List UInt8) (w : World) (h : FrP w g ps) (ho : FrOk ps) (hx : x.length = 32) :
    Calls Try.prog 133 #[fptr g, .int .i64 lv, .agg (x.map B).toArray] w fun e w' => e = .returned (.int .i64 (growE ps lv x).2) ∧ FrP w' g (growE ps lv x).1 ∧ w.grownBy w' (some g) := by
  obtain ⟨w0, hw0⟩ : ∃ w0, w.alloc (.cells (x.map B).toArray 25) = w0 := ⟨_, rfl⟩
  have hb0 : Below w.heap.size w w0 := by rw [← hw0]; exact (Below.refl _ _).alloc (Nat.le_refl _) _
  have k5 : HV w0 w.heap.size x := ⟨by rw [← hw0]; exact Blk.new _ _ _, hx⟩
  have h0 := h.step hb0
  have Hw0 := Lib.hid hw0
  have Ho := Lib.hid ho
  clear hw0 h ho
  obtain ⟨res, hres⟩ : ∃ r, growE ps lv x = r := ⟨_, rfl⟩
  rw [hres]
  unfold growE at hres
  rcases Int.lt_or_le lv 0 with hneg | hpos
  · rw [if_pos (.inl hneg)] at hres
    subst hres
    have hd : decide (lv < 0) = true := by simp; omega
    go_enter Try.func133, Try.ntmps133
    go_wp2_with (rw [Hw0.out])
    go_ret
    exact ⟨rfl, h0, grown_of_below hb0 _⟩
  have hd0 : decide (lv < 0) = false := by simp; omega
  have hd0' : ¬ lv < 0 := by omega
  rcases Int.lt_or_le 62 lv with hbig | hsm
  · rw [if_pos (.inr hbig)] at hres
    subst hres
    have hd : decide (62 < lv) = true := by simp; omega
    go_enter Try.func133, Try.ntmps133
    go_wp2_with (rw [Hw0.out])
    go_ret
    exact ⟨rfl, h0, grown_of_below hb0 _⟩
  have hd1 : decide (62 < lv) = false := by simp; omega
  have hd1' : ¬ 62 < lv := by omega
  obtain ⟨l, rfl⟩ : ∃ l : Nat, lv = l := ⟨lv.toNat, by omega⟩
  rw [if_neg (by omega), Int.toNat_natCast] at hres
  have hl : l ≤ 62 := by omega
  have hsz := rfsize_any g ps w0 h0 Ho.out.top
  have htop := Ho.out.top
  have hcm := fun (ht : szF ps + 2 ^ l ≤ 9223372036854775807) => rfcome_any g ps (l, x) w0 h0 hx ht (by have := Ho.out.len; omega)
  obtain ⟨sz, hsze⟩ : ∃ s, szF ps = s := ⟨_, rfl⟩
  rw [hsze] at hsz htop hres hcm
  have hp62 : 2 ^ l ≤ 2 ^ 62 := Nat.pow_le_pow_right (by decide) hl
  have hp0 := Nat.two_pow_pos l
  have hpwI : ((2 : Int) ^ l) = ((2 ^ l : Nat) : Int) := by simp
  have hpi := pow_i64 l hl
  replace hcm : sz + 2 ^ l ≤ 9223372036854775807 → Calls Try.prog 148 #[.pointer (some ⟨g, 0, none⟩), .agg (Value.int .i64 ((2 ^ l : Nat) : Int) :: x.map B).toArray] w0 fun e w' => e = .returned (.tuple #[]) ∧ FrP w' g (comeF ps (l, x)) ∧ w0.grownBy w' (some g) := hcm
  obtain ⟨pw, hpw⟩ : ∃ p, 2 ^ l = p := ⟨_, rfl⟩
  rw [hpw] at hp62 hp0 hres hpwI hcm
  obtain ⟨md, hmd⟩ : ∃ m, sz % pw = m := ⟨_, rfl⟩
  rw [hmd] at hres
  have hmdI : Int.tmod (sz : Int) (pw : Int) = (md : Int) := by rw [← hmd]; exact Int.ofNat_tmod sz pw
  have hpne : ¬ (pw : Int) = 0 := by omega
  have hpne2 : ((pw : Int) == 0) = false := by simp; omega
  have hw2 : IntKind.i64.wrap (9223372036854775807 - (sz : Int)) = 9223372036854775807 - (sz : Int) := IntWalk.i64_in _ (by omega)
  have hwm : IntKind.i64.wrap (md : Int) = (md : Int) := IntWalk.i64_in _ (by have := Nat.mod_lt sz hp0; omega)
  have Hsz := Lib.hid hsz
  have Hcm := Lib.hid hcm
  clear hsz hsze hpw hmd hcm Ho
  by_cases hmd0 : md = 0
  · rw [if_neg (by simp [hmd0])] at hres
    subst hmd0
    by_cases hb : 9223372036854775807 < sz + pw
    · rw [if_pos hb] at hres
      subst hres
      have hd : decide (9223372036854775807 - (sz : Int) < (pw : Int)) = true := by simp; omega
      have hd' : 9223372036854775807 - (sz : Int) < (pw : Int) := by omega
      go_enter Try.func133, Try.ntmps133
      go_wp2_with (first
        | rw [Hw0.out]
        | (go_at_call 125; refine Hsz.out.mono ?_; rintro e w1 ⟨rfl, hww⟩; obtain rfl := hww))
      go_ret
      exact ⟨rfl, h0, grown_of_below hb0 _⟩
    · rw [if_neg hb] at hres
      have hd : decide (9223372036854775807 - (sz : Int) < (pw : Int)) = false := by simp; omega
      have hd' : ¬ 9223372036854775807 - (sz : Int) < (pw : Int) := by omega
      have hcm := Hcm.out (by omega)
      have Hcm2 := Lib.hid hcm
      clear hcm
      go_enter Try.func133, Try.ntmps133
      go_wp2_with (first
        | rw [Hw0.out]
        | (go_at_call 125; refine Hsz.out.mono ?_; rintro e w1 ⟨rfl, hww⟩; obtain rfl := hww.symm)
        | ((with_reducible show wpList _ _ _ (⟨some 31, .load _ _, _, _, _, _⟩ :: _) _ _); refine wpList_hload (.tmp 5) (by kernel_rfl) rfl k5 rfl ?_; simp only [Act.put])
        | ((with_reducible show wpList _ _ _ (⟨some 32, .build _ _, _, _, _, _⟩ :: _) _ _); refine wpList_run0 rfl (.agg (Value.int .i64 (pw : Int) :: x.map B).toArray) (run_build_pq_op (pw : Int) x hx (.tmp 30) (.tmp 31) rfl rfl rfl _) ?_; simp only [Act.put])
        | (go_at_call 148; refine Hcm2.out.mono ?_; rintro e w9 ⟨rfl, hF9, hg9⟩))
      go_ret
      rw [← hres]
      exact ⟨rfl, hF9, grown_same (grown_of_below hb0 (some g)) hg9⟩
  · rw [if_pos hmd0] at hres
    subst hres
    have hne2 : ¬ (md : Int) = 0 := by omega
    have hne' : ((md : Int) == 0) = false := by simp; omega
    go_enter Try.func133, Try.ntmps133
    go_wp2_with (first
      | rw [Hw0.out]
      | (go_at_call 125; refine Hsz.out.mono ?_; rintro e w1 ⟨rfl, hww⟩; obtain rfl := hww))
    go_ret
    exact ⟨rfl, h0, grown_of_below hb0 _⟩
end Go.Proofs.Ytonidnfgneokbaa
