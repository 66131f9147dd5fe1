/- notaryref10: Leaf, Append, Grow. -/
import Derived.Test.YtonidnfgneokbaaQd226
namespace Go.Proofs.Ytonidnfgneokbaa
open Go Go.RowKit Go.Shelf
attribute [local go_sem] Oper.semAt_some

theorem FrP.small {w : World} {g : Nat} {ps : FrV} (h : FrP w g ps) : ∃ (T : TypeId) (cs : Array Value), Blk w g T cs ∧ cs.size = 1 := by
  obtain ⟨A, n, c, hk, -⟩ := h.ex
  exact ⟨_, _, hk, rfl⟩
theorem rfcome_one (g : Nat) (ps : FrV) (x : List UInt8) (w : World) (h : FrP w g ps) (hx : x.length = 32) (ht : szF ps + 1 ≤ 9223372036854775807) (hn : ps.length ≤ 1000000) :
    Calls Try.prog 148 #[.pointer (some ⟨g, 0, none⟩), .agg (Value.int .i64 1 :: x.map B).toArray] w fun e w' => e = .returned (.tuple #[]) ∧ FrP w' g (comeF ps (0, x)) ∧ w.grownBy w' (some g) :=
  rfcome_any g ps (0, x) w h hx ht hn
theorem szF_leaf_take (ps : FrV) (hs : List (List UInt8)) (k : Nat) (h : k ≤ hs.length) : szF (leafF ps (hs.take k)) = szF ps + k := by rw [szF_leaf, List.length_take]; omega

set_option maxHeartbeats 4000000 in
set_option maxRecDepth 100000 in
theorem rfleaf_nil (A : Option Addr) (n c : Nat) (w : World) : Calls Try.prog 132 #[.pointer none, .slice A n c] w fun e w' => e = .returned (.int .i64 1) ∧ w' = w := by
  go_enter Try.func132, Try.ntmps132
  go_wp2_with fail
  go_ret
  exact ⟨rfl, rfl⟩
set_option maxHeartbeats 4000000 in
set_option maxRecDepth 100000 in
theorem rfleaf_any (g : Nat) (ps : FrV) (hs : List (List UInt8)) (A : Option Addr) (n c : Nat) (w : World) (h : FrP w g ps) (ho : FrOk ps) (hh : Hs w (fun _ => True) A n c hs) (hn : n ≤ 1000000000) :
    Calls Try.prog 132 #[fptr g, .slice A n c] w fun e w' => e = .returned (.int .i64 (leafE ps hs).2) ∧ FrP w' g (leafE ps hs).1 ∧ w.grownBy w' (some g) := by
  have hlen := hh.len
  have hroom := hh.sl.room
  have hmx := hh.sl.max
  unfold maxLen at hmx
  have h32 := hh.all
  have htop := ho.top
  have hsz := rfsize_any g ps w h htop
  obtain ⟨sz, hsze⟩ : ∃ s, szF ps = s := ⟨_, rfl⟩
  rw [hsze] at hsz htop
  have Hsz := Lib.hid hsz
  have hw1 : IntKind.i64.wrap (9223372036854775807 - (sz : Int)) = 9223372036854775807 - (sz : Int) := IntWalk.i64_in _ (by omega)
  unfold leafE
  rw [hsze, hlen]
  have Hlen := Lib.hid hlen
  have H32 := Lib.hid h32
  have Hsze := Lib.hid hsze
  have Ho := Lib.hid ho
  clear hsz hlen h32 hsze ho
  by_cases hb : 9223372036854775807 < sz + n
  · rw [if_pos hb]
    have hd : decide (9223372036854775807 - (sz : Int) < (n : Int)) = true := by simp; omega
    have hd' : 9223372036854775807 - (sz : Int) < (n : Int) := by omega
    go_enter Try.func132, Try.ntmps132
    go_wp2_with (go_at_call 125; refine Hsz.out.mono ?_; rintro e w1 ⟨rfl, hww⟩; obtain rfl := hww.symm)
    go_ret
    exact ⟨rfl, h, grown_refl _ _⟩
  · rw [if_neg hb]
    have hd : decide (9223372036854775807 - (sz : Int) < (n : Int)) = false := by simp; omega
    have hd' : ¬ 9223372036854775807 - (sz : Int) < (n : Int) := by omega
    obtain ⟨res, hres⟩ : ∃ r, leafF ps hs = r := ⟨_, rfl⟩
    rw [hres]
    have Hres := Lib.hid hres
    obtain ⟨T, cs, hk1, hcs⟩ := h.small
    have hh1 := (hh.apart hk1 (by omega)).weak (Y := fun b => b ≠ g ∧ b < w.heap.size) fun b hb hx => ⟨hx.2, hb⟩
    have Hd := Lib.hid hd
    clear hres hk1 hcs T cs
    go_enter Try.func132, Try.ntmps132
    go_wp2_with (go_at_call 125; refine Hsz.out.mono ?_; rintro e w1 ⟨rfl, hww⟩; obtain rfl := hww.symm)
    clear hd hd' hw1 Hd
    go_loopw [5] (fun v5 wr => ∃ k : Nat, k ≤ n ∧ v5 = .int .i64 k ∧ FrP wr g (leafF ps (hs.take k)) ∧ w.grownBy wr (some g) ∧ Hs wr (fun b => b ≠ g ∧ b < w.heap.size) A n c hs) (fun v5 _ => n - (intOf v5).toNat)
    case atStart => exact ⟨0, Nat.zero_le _, rfl, h, grown_refl _ _, hh1⟩
    case round =>
      clear h hh hh1
      obtain ⟨k, hk, rfl, hF, hg, hH⟩ := hrel
      by_cases hlt : k < n
      · have hd : decide ((k : Int) < (n : Int)) = true := by simp; omega
        have hwk : IntKind.i64.wrap ((k : Int) + 1) = (k : Int) + 1 := IntWalk.i64_in _ (by omega)
        obtain ⟨b, o, rfl, -, -, -⟩ := hH.at_ (by omega)
        have hget := hH.get rfl k hlt
        have hx32 := H32.out.getD k (by rw [Hlen.out]; exact hlt)
        have hsn := leafF_snoc ps (hs.take k) (hs.getD k [])
        rw [← take_snocF hs k (by rw [Hlen.out]; exact hlt)] at hsn
        have hok := Ho.out.leafF (hs.take k) (fun x hx => H32.out x (List.mem_of_mem_take hx)) (by rw [Hsze.out, List.length_take, Hlen.out]; omega)
        have hst := szF_leaf_take ps hs k (by rw [Hlen.out]; exact hk)
        rw [Hsze.out] at hst
        obtain ⟨x, hx⟩ : ∃ x, hs.getD k [] = x := ⟨_, rfl⟩
        obtain ⟨cur, hcur⟩ : ∃ x, leafF ps (hs.take k) = x := ⟨_, rfl⟩
        rw [hx] at hget hx32 hsn
        rw [hcur] at hsn hok hF hst
        have hcm := rfcome_one g cur x wr hF hx32 (by omega) (by have := hok.len; omega)
        have Hget := Lib.hid hget
        have Hx32 := Lib.hid hx32
        have Hsn := Lib.hid hsn
        have Hcm := Lib.hid hcm
        clear hget hx32 hsn hcm hx hcur hok hst
        go_wp2_with (first
          | ((with_reducible show wpList _ _ _ (⟨some 24, .load _ _, _, _, _, _⟩ :: _) _ _); refine wpList_run0 rfl (.agg (x.map B).toArray) (run_load_op 25 (.tmp 23) rfl b (o + k * 32) rfl _ Hget.out) ?_; simp only [Act.put])
          | ((with_reducible show wpList _ _ _ (⟨some 25, .build _ _, _, _, _, _⟩ :: _) _ _); refine wpList_run0 rfl (.agg (Value.int .i64 1 :: x.map B).toArray) (run_build_pq_op 1 x Hx32.out (.const (.int .i64 1)) (.tmp 24) rfl rfl rfl _) ?_; simp only [Act.put])
          | (go_at_call 148; refine Hcm.out.mono ?_; rintro e w3 ⟨rfl, hF3, hg3⟩))
        go_roundw
        case rel => exact ⟨k + 1, by omega, by go_num, by rw [Hsn.out]; exact hF3, grown_same hg hg3, hH.grown hg3 (fun b _ hx e => hx.1 (Option.some.inj e))⟩
        case measure => simp [intOf]; omega
      · obtain rfl : k = n := by omega
        have hd : decide ((k : Int) < (k : Int)) = false := by simp
        rw [List.take_of_length_le (by rw [Hlen.out]; exact Nat.le_refl _), Hres.out] at hF
        go_wp2_with fail
        go_ret
        exact ⟨rfl, hF, hg⟩

set_option maxHeartbeats 4000000 in
set_option maxRecDepth 100000 in
theorem rfappend_nil (A : Option Addr) (n c : Nat) (w : World) : Calls Try.prog 130 #[.pointer none, .slice A n c] w fun e w' => e = .returned (.int .i64 1) ∧ w' = w := by
  go_enter Try.func130, Try.ntmps130
  go_wp2_with fail
  go_ret
  exact ⟨rfl, rfl⟩
theorem Es.grownF {w w' : World} {X : Nat → Prop} {A : Option Addr} {n c : Nat} {ls : List (List UInt8)} {row : Option Nat} (h : Es w X A n c ls) (hg : w.grownBy w' row) (hX : ∀ b, b < w.heap.size → X b → some b ≠ row) : Es w' X A n c ls :=
  let ⟨vs, h1, h2⟩ := h.ex; ⟨⟨vs, h1.grown hg hX, fun i hi => let ⟨Ai, ci, g1, g2⟩ := h2 i hi; ⟨Ai, ci, g1, g2.grown hg hX⟩⟩, h.len⟩
set_option maxHeartbeats 4000000 in
set_option maxRecDepth 100000 in
theorem rfappend_any (g : Nat) (ps : FrV) (es : List (List UInt8)) (A : Option Addr) (n c : Nat) (w : World) (h : FrP w g ps) (ho : FrOk ps) (hh : Es w (· ≠ g) A n c es) (hn : n ≤ 100000000) :
    Calls Try.prog 130 #[fptr g, .slice A n c] w fun e w' => e = .returned (.int .i64 (appendE ps es).2) ∧ FrP w' g (appendE ps es).1 ∧ w.grownBy w' (some g) := by
  have hlen := hh.len
  have hroom := hh.room
  have hmx := hh.max
  unfold maxLen at hmx
  have Ho := Lib.hid ho
  have Hlen := Lib.hid hlen
  have htop := ho.top
  have hsz := rfsize_any g ps w h htop
  obtain ⟨sz, hsze⟩ : ∃ s, szF ps = s := ⟨_, rfl⟩
  rw [hsze] at hsz htop
  have Hsz := Lib.hid hsz
  have hw1 : IntKind.i64.wrap (9223372036854775807 - (sz : Int)) = 9223372036854775807 - (sz : Int) := IntWalk.i64_in _ (by omega)
  obtain ⟨res, hres⟩ : ∃ r, appendE ps es = r := ⟨_, rfl⟩
  rw [hres]
  have Hres := Lib.hid hres
  have Hsze := Lib.hid hsze
  clear ho hlen hsz hres hsze
  go_enter Try.func130, Try.ntmps130
  go_wp2_with fail
  go_loopw [5] (fun v5 wr => ∃ k : Nat, k ≤ n ∧ v5 = .int .i64 k ∧ wr = w ∧ longE (es.take k) = false) (fun v5 _ => n - (intOf v5).toNat)
  case atStart => exact ⟨0, Nat.zero_le _, rfl, rfl, rfl⟩
  case round =>
    obtain ⟨k, hk, rfl, hww, hlg⟩ := hrel
    obtain rfl := hww.symm
    by_cases hlt : k < n
    · have hd : decide ((k : Int) < (n : Int)) = true := by simp; omega
      have hwk : IntKind.i64.wrap ((k : Int) + 1) = (k : Int) + 1 := IntWalk.i64_in _ (by omega)
      have hkl : k < es.length := by rw [Hlen.out]; exact hlt
      have Hh := Lib.hid hh
      obtain ⟨b, o, rfl, -, -, hat⟩ := hh.at_ (by omega)
      obtain ⟨Ai, ci, hce, hsl⟩ := hat k hlt
      have hsn := longE_snoc es k hkl
      rw [hlg, Bool.false_or] at hsn
      have hmx2 := hsl.max
      have hrm := hsl.room
      unfold maxLen at hmx2
      clear hsl hat hh
      obtain ⟨x, hx⟩ : ∃ x, es.getD k [] = x := ⟨_, rfl⟩
      rw [hx] at hce hsn hrm
      obtain ⟨m, hm⟩ : ∃ m, x.length = m := ⟨_, rfl⟩
      rw [hm] at hce hsn hrm
      have Hsn := Lib.hid hsn
      clear hm hx hsn hlg
      by_cases hlong : 4096 < m
      · have hd2 : decide ((4096 : Int) < (m : Int)) = true := by simp; omega
        have hd2' : (4096 : Int) < (m : Int) := by omega
        go_wp2_with fail
        have hE : longE es = true := longE_of_take es (k + 1) (by rw [Hsn.out]; simpa using hlong)
        have hA : appendE ps es = (ps, 3) := by unfold appendE; exact if_pos hE
        have hr : res = (ps, 3) := by rw [← Hres.out, hA]
        go_ret
        rw [hr]
        exact ⟨rfl, h, grown_refl _ _⟩
      · have hd2 : decide ((4096 : Int) < (m : Int)) = false := by simp; omega
        have hd2' : ¬ (4096 : Int) < (m : Int) := by omega
        go_wp2_with fail
        go_roundw
        case rel => exact ⟨k + 1, by omega, by go_num, by first | rfl | trivial, by rw [Hsn.out]; simpa using hlong⟩
        case measure => simp [intOf]; omega
    · obtain rfl : k = n := by omega
      have hd : decide ((k : Int) < (k : Int)) = false := by simp
      rw [List.take_of_length_le (by rw [Hlen.out]; exact Nat.le_refl _)] at hlg
      have hA : appendE ps es = leafE ps (es.map hLeaf) := by unfold appendE; exact if_neg (by show ¬ longE es = true; rw [hlg]; simp)
      have hr := Hres.out
      rw [hA] at hr
      unfold leafE at hr
      rw [Hsze.out, List.length_map, Hlen.out] at hr
      clear hA
      by_cases hb : 9223372036854775807 < sz + k
      · rw [if_pos hb] at hr
        have hd1 : decide (9223372036854775807 - (sz : Int) < (k : Int)) = true := by simp; omega
        have hd1' : 9223372036854775807 - (sz : Int) < (k : Int) := by omega
        go_wp2_with (go_at_call 125; refine Hsz.out.mono ?_; rintro e w1 ⟨rfl, hww⟩; obtain rfl := hww.symm)
        go_ret
        rw [← hr]
        exact ⟨rfl, h, grown_refl _ _⟩
      · rw [if_neg hb] at hr
        have hd1 : decide (9223372036854775807 - (sz : Int) < (k : Int)) = false := by simp; omega
        have hd1' : ¬ 9223372036854775807 - (sz : Int) < (k : Int) := by omega
        have Hr := Lib.hid hr
        have hlgs : ∀ x ∈ es, x.length ≤ 4096 := fun x hx => by
          have : ∀ x ∈ es, ¬ 4096 < x.length := by unfold longE at hlg; simpa using hlg
          have := this x hx
          omega
        have Hlgs := Lib.hid hlgs
        clear hr hlg hlgs
        go_wp2_with (go_at_call 125; refine Hsz.out.mono ?_; rintro e w1 ⟨rfl, hww⟩; obtain rfl := hww.symm)
        clear hd hd1 hd1' hw1
        have hh1 := hh.weak (Y := fun b => b ≠ g ∧ b < w.heap.size) fun b hb hx => ⟨hx, hb⟩
        clear hh
        go_loopw [6] (fun v6 wr => ∃ q : Nat, q ≤ k ∧ v6 = .int .i64 q ∧ FrP wr g (leafF ps ((es.take q).map hLeaf)) ∧ w.grownBy wr (some g) ∧ Es wr (fun b => b ≠ g ∧ b < w.heap.size) A k c es) (fun v6 _ => k - (intOf v6).toNat)
        case atStart => exact ⟨0, Nat.zero_le _, rfl, h, grown_refl _ _, hh1⟩
        case round =>
          clear h hh1
          obtain ⟨q, hq, rfl, hF, hg, hH⟩ := hrel
          by_cases hlt : q < k
          · have hd : decide ((q : Int) < (k : Int)) = true := by simp; omega
            have hwk : IntKind.i64.wrap ((q : Int) + 1) = (q : Int) + 1 := IntWalk.i64_in _ (by omega)
            have Hh2 := Lib.hid hH
            obtain ⟨b, o, rfl, -, -, hat⟩ := hH.at_ (by omega)
            obtain ⟨Ai, ci, hce, hsl⟩ := hat q hlt
            have hql : q < es.length := by rw [Hlen.out]; exact hlt
            have hsn := leafF_snoc ps ((es.take q).map hLeaf) (hLeaf (es.getD q []))
            rw [← map_take_snoc es q hql] at hsn
            have hok := Ho.out.leafF ((es.take q).map hLeaf) (fun x hx => h32_leaves _ x hx) (by rw [Hsze.out, List.length_map, List.length_take, Hlen.out]; omega)
            have hst : szF (leafF ps ((es.take q).map hLeaf)) = sz + q := by rw [szF_leaf, Hsze.out, List.length_map, List.length_take, Hlen.out]; omega
            have hxl : (es.getD q []).length ≤ 4096 := by
              rw [List.getD_eq_getElem?_getD, List.getElem?_eq_getElem hql]
              exact Hlgs.out _ (List.getElem_mem hql)
            have hleaf := hrleaf_any (es.getD q []) Ai (es.getD q []).length ci wr hsl.all (by omega)
            have hyl := length_hLeaf (es.getD q [])
            obtain ⟨y, hy⟩ : ∃ y, hLeaf (es.getD q []) = y := ⟨_, rfl⟩
            obtain ⟨cur, hcur⟩ : ∃ x, leafF ps ((es.take q).map hLeaf) = x := ⟨_, rfl⟩
            rw [hy] at hleaf hyl hsn
            rw [hcur] at hsn hok hF hst
            obtain ⟨m, hm⟩ : ∃ m, (es.getD q []).length = m := ⟨_, rfl⟩
            rw [hm] at hleaf hce
            have hcm := fun W (hb : Below wr.heap.size wr W) => rfcome_one g cur y W (hF.step hb) hyl (by omega) (by have := hok.len; omega)
            have Hlf := Lib.hid hleaf
            have Hsn := Lib.hid hsn
            have Hcm := Lib.hid hcm
            clear hleaf hsn hcm hcur hok hst hy hm hsl hat hH hxl
            go_wp2_with (first
              | (go_at_call 66; refine Hlf.out.mono ?_; rintro e w3 ⟨rfl, hb3⟩)
              | ((with_reducible show wpList _ _ _ (⟨some 39, .build _ _, _, _, _, _⟩ :: _) _ _); refine wpList_run0 rfl (.agg (Value.int .i64 1 :: y.map B).toArray) (run_build_pq_op 1 y hyl (.const (.int .i64 1)) (.tmp 38) rfl rfl rfl _) ?_; simp only [Act.put])
              | (go_at_call 148; refine (Hcm.out w3 hb3).mono ?_; rintro e w4 ⟨rfl, hF4, hg4⟩))
            go_roundw
            case rel => exact ⟨q + 1, by omega, by go_num, by rw [Hsn.out]; exact hF4, grown_same (grown_same hg (grown_of_below hb3 (some g))) hg4, (Hh2.out.step hb3).grownF hg4 (fun b _ hx e => hx.1 (Option.some.inj e))⟩
            case measure => simp [intOf]; omega
          · obtain rfl : q = k := by omega
            have hd : decide ((q : Int) < (q : Int)) = false := by simp
            rw [List.take_of_length_le (by rw [Hlen.out]; exact Nat.le_refl _)] at hF
            go_wp2_with fail
            go_ret
            rw [← Hr.out]
            exact ⟨rfl, hF, hg⟩

set_option maxHeartbeats 4000000 in
set_option maxRecDepth 100000 in
theorem rfgrow_nil (lv : Int) (x : List UInt8) (w : World) : Calls Try.prog 133 #[.pointer none, .int .i64 lv, .agg (x.map B).toArray] w fun e w' => e = .returned (.int .i64 1) ∧ Below w.heap.size w w' := by
  obtain ⟨w0, hw0⟩ : ∃ w0, w.alloc (.cells (x.map B).toArray 25) = w0 := ⟨_, rfl⟩
  have hb0 : Below w.heap.size w w0 := by rw [← hw0]; exact (Below.refl _ _).alloc (Nat.le_refl _) _
  have Hw0 := Lib.hid hw0
  clear hw0
  go_enter Try.func133, Try.ntmps133
  go_wp2_with (rw [Hw0.out])
  go_ret
  exact ⟨rfl, hb0⟩
set_option maxHeartbeats 4000000 in
set_option maxRecDepth 100000 in
theorem rfgrow_any (g : Nat) (ps : FrV) (lv : Int) (x : List UInt8) (w : World) (h : FrP w g ps) (ho : FrOk ps) (hx : x.length = 32) :
    Calls Try.prog 133 #[fptr g, .int .i64 lv, .agg (x.map B).toArray] w fun e w' => e = .returned (.int .i64 (growE ps lv x).2) ∧ FrP w' g (growE ps lv x).1 ∧ w.grownBy w' (some g) := by
  obtain ⟨w0, hw0⟩ : ∃ w0, w.alloc (.cells (x.map B).toArray 25) = w0 := ⟨_, rfl⟩
  have hb0 : Below w.heap.size w w0 := by rw [← hw0]; exact (Below.refl _ _).alloc (Nat.le_refl _) _
  have k5 : HV w0 w.heap.size x := ⟨by rw [← hw0]; exact Blk.new _ _ _, hx⟩
  have h0 := h.step hb0
  have Hw0 := Lib.hid hw0
  have Ho := Lib.hid ho
  clear hw0 h ho
  obtain ⟨res, hres⟩ : ∃ r, growE ps lv x = r := ⟨_, rfl⟩
  rw [hres]
  unfold growE at hres
  rcases Int.lt_or_le lv 0 with hneg | hpos
  · rw [if_pos (.inl hneg)] at hres
    subst hres
    have hd : decide (lv < 0) = true := by simp; omega
    go_enter Try.func133, Try.ntmps133
    go_wp2_with (rw [Hw0.out])
    go_ret
    exact ⟨rfl, h0, grown_of_below hb0 _⟩
  have hd0 : decide (lv < 0) = false := by simp; omega
  have hd0' : ¬ lv < 0 := by omega
  rcases Int.lt_or_le 62 lv with hbig | hsm
  · rw [if_pos (.inr hbig)] at hres
    subst hres
    have hd : decide (62 < lv) = true := by simp; omega
    go_enter Try.func133, Try.ntmps133
    go_wp2_with (rw [Hw0.out])
    go_ret
    exact ⟨rfl, h0, grown_of_below hb0 _⟩
  have hd1 : decide (62 < lv) = false := by simp; omega
  have hd1' : ¬ 62 < lv := by omega
  obtain ⟨l, rfl⟩ : ∃ l : Nat, lv = l := ⟨lv.toNat, by omega⟩
  rw [if_neg (by omega), Int.toNat_natCast] at hres
  have hl : l ≤ 62 := by omega
  have hsz := rfsize_any g ps w0 h0 Ho.out.top
  have htop := Ho.out.top
  have hcm := fun (ht : szF ps + 2 ^ l ≤ 9223372036854775807) => rfcome_any g ps (l, x) w0 h0 hx ht (by have := Ho.out.len; omega)
  obtain ⟨sz, hsze⟩ : ∃ s, szF ps = s := ⟨_, rfl⟩
  rw [hsze] at hsz htop hres hcm
  have hp62 : 2 ^ l ≤ 2 ^ 62 := Nat.pow_le_pow_right (by decide) hl
  have hp0 := Nat.two_pow_pos l
  have hpwI : ((2 : Int) ^ l) = ((2 ^ l : Nat) : Int) := by simp
  have hpi := pow_i64 l hl
  replace hcm : sz + 2 ^ l ≤ 9223372036854775807 → Calls Try.prog 148 #[.pointer (some ⟨g, 0, none⟩), .agg (Value.int .i64 ((2 ^ l : Nat) : Int) :: x.map B).toArray] w0 fun e w' => e = .returned (.tuple #[]) ∧ FrP w' g (comeF ps (l, x)) ∧ w0.grownBy w' (some g) := hcm
  obtain ⟨pw, hpw⟩ : ∃ p, 2 ^ l = p := ⟨_, rfl⟩
  rw [hpw] at hp62 hp0 hres hpwI hcm
  obtain ⟨md, hmd⟩ : ∃ m, sz % pw = m := ⟨_, rfl⟩
  rw [hmd] at hres
  have hmdI : Int.tmod (sz : Int) (pw : Int) = (md : Int) := by rw [← hmd]; exact Int.ofNat_tmod sz pw
  have hpne : ¬ (pw : Int) = 0 := by omega
  have hpne2 : ((pw : Int) == 0) = false := by simp; omega
  have hw2 : IntKind.i64.wrap (9223372036854775807 - (sz : Int)) = 9223372036854775807 - (sz : Int) := IntWalk.i64_in _ (by omega)
  have hwm : IntKind.i64.wrap (md : Int) = (md : Int) := IntWalk.i64_in _ (by have := Nat.mod_lt sz hp0; omega)
  have Hsz := Lib.hid hsz
  have Hcm := Lib.hid hcm
  clear hsz hsze hpw hmd hcm Ho
  by_cases hmd0 : md = 0
  · rw [if_neg (by simp [hmd0])] at hres
    subst hmd0
    by_cases hb : 9223372036854775807 < sz + pw
    · rw [if_pos hb] at hres
      subst hres
      have hd : decide (9223372036854775807 - (sz : Int) < (pw : Int)) = true := by simp; omega
      have hd' : 9223372036854775807 - (sz : Int) < (pw : Int) := by omega
      go_enter Try.func133, Try.ntmps133
      go_wp2_with (first
        | rw [Hw0.out]
        | (go_at_call 125; refine Hsz.out.mono ?_; rintro e w1 ⟨rfl, hww⟩; obtain rfl := hww))
      go_ret
      exact ⟨rfl, h0, grown_of_below hb0 _⟩
    · rw [if_neg hb] at hres
      have hd : decide (9223372036854775807 - (sz : Int) < (pw : Int)) = false := by simp; omega
      have hd' : ¬ 9223372036854775807 - (sz : Int) < (pw : Int) := by omega
      have hcm := Hcm.out (by omega)
      have Hcm2 := Lib.hid hcm
      clear hcm
      go_enter Try.func133, Try.ntmps133
      go_wp2_with (first
        | rw [Hw0.out]
        | (go_at_call 125; refine Hsz.out.mono ?_; rintro e w1 ⟨rfl, hww⟩; obtain rfl := hww.symm)
        | ((with_reducible show wpList _ _ _ (⟨some 31, .load _ _, _, _, _, _⟩ :: _) _ _); refine wpList_hload (.tmp 5) (by kernel_rfl) rfl k5 rfl ?_; simp only [Act.put])
        | ((with_reducible show wpList _ _ _ (⟨some 32, .build _ _, _, _, _, _⟩ :: _) _ _); refine wpList_run0 rfl (.agg (Value.int .i64 (pw : Int) :: x.map B).toArray) (run_build_pq_op (pw : Int) x hx (.tmp 30) (.tmp 31) rfl rfl rfl _) ?_; simp only [Act.put])
        | (go_at_call 148; refine Hcm2.out.mono ?_; rintro e w9 ⟨rfl, hF9, hg9⟩))
      go_ret
      rw [← hres]
      exact ⟨rfl, hF9, grown_same (grown_of_below hb0 (some g)) hg9⟩
  · rw [if_pos hmd0] at hres
    subst hres
    have hne2 : ¬ (md : Int) = 0 := by omega
    have hne' : ((md : Int) == 0) = false := by simp; omega
    go_enter Try.func133, Try.ntmps133
    go_wp2_with (first
      | rw [Hw0.out]
      | (go_at_call 125; refine Hsz.out.mono ?_; rintro e w1 ⟨rfl, hww⟩; obtain rfl := hww))
    go_ret
    exact ⟨rfl, h0, grown_of_below hb0 _⟩
end Go.Proofs.Ytonidnfgneokbaa
/- notaryref10: Root, Parts. -/
namespace Go.Proofs.Ytonidnfgneokbaa
open Go Go.RowKit Go.Shelf
attribute [local go_sem] Oper.semAt_some

theorem rootG_drop (ps : FrV) (j : Nat) (h : j + 1 < ps.length) : rootG (ps.drop j) = hNode (ps.getD j (0, [])).2 (rootG (ps.drop (j + 1))) := by
  rw [drop_atF (0, []) ps j (by omega), drop_atF (0, []) ps (j + 1) h]
  rfl
theorem rootG_last (ps : FrV) (j : Nat) (h : j + 1 = ps.length) : rootG (ps.drop j) = (ps.getD j (0, [])).2 := by
  rw [drop_atF (0, []) ps j (by omega), List.drop_of_length_le (by omega)]
  rfl
theorem of_none (w : World) : Calls Try.prog 102 #[.slice none 0 0] w fun e w' => e = .returned (.agg (hEmpty.map B).toArray) ∧ Below w.heap.size w w' := hrof_any [] none 0 0 w Sl.nil (by omega)
set_option maxHeartbeats 4000000 in
set_option maxRecDepth 100000 in
theorem rfroot_nil (w : World) : Calls Try.prog 126 #[.pointer none] w fun e w' => e = .returned (.agg ((List.replicate 32 (0 : UInt8)).map B).toArray) ∧ Below w.heap.size w w' := by
  have h32 : (List.replicate 32 (0 : UInt8)).length = 32 := rfl
  obtain ⟨z, hz⟩ : ∃ z, List.replicate 32 (0 : UInt8) = z := ⟨_, rfl⟩
  rw [hz] at h32 ⊢
  have Hz := Lib.hid hz
  clear hz
  go_enter Try.func126, Try.ntmps126
  go_wp2_with (first
    | ((with_reducible show wpList _ _ _ (⟨some 2, .alloc _, _, _, _, _⟩ :: _) _ _); refine wpList_hnew rfl rfl ?_; intro w1 k2 hb1; simp only [Act.put])
    | ((with_reducible show wpList _ _ _ (⟨some 7, .build _ _, _, _, _, _⟩ :: _) _ _); refine wpList_run0 rfl (.agg (z.map B).toArray) (by rw [← Hz.out]; kernel_rfl) ?_; simp only [Act.put])
    | ((with_reducible show wpList _ _ _ [⟨none, .store _ (.tmp 2) _, _, _, _, _⟩] _ _); refine wpList_hset (.tmp 2) (.tmp 7) rfl rfl k2 rfl rfl h32 ?_; intro w2 k2b hb2 hW2; clear hW2; simp only [Act.put]))
  exact bodyPost_ret (ret_hash rfl rfl k2b) rfl ⟨rfl, hb1.trans hb2⟩
set_option maxHeartbeats 4000000 in
set_option maxRecDepth 100000 in
theorem rfroot_any (g : Nat) (ps : FrV) (w : World) (h : FrP w g ps) (hm63 : ps.length ≤ 63) : Calls Try.prog 126 #[fptr g] w fun e w' => e = .returned (.agg ((rootG ps).map B).toArray) ∧ Below w.heap.size w w' := by
  have h32 := h.all
  obtain ⟨A, n, c, hk, hP⟩ := h.ex
  have hlen : ps.length = n := by rw [← hP.len, length_fpq]
  have hkg := hk.lt
  have hrl := length_rootG ps h32
  obtain ⟨res, hres⟩ : ∃ r, rootG ps = r := ⟨_, rfl⟩
  rw [hres] at hrl ⊢
  have Hres := Lib.hid hres
  have Hk := Lib.hid hk
  rcases Nat.eq_zero_or_pos n with rfl | hn0
  · obtain rfl : ps = [] := List.eq_nil_of_length_eq_zero hlen
    have hcall := fun W => of_none W
    rw [show hEmpty = res from hres] at hcall
    have Hcall := Lib.hid hcall
    clear hcall hres h hP hk hlen
    go_enter Try.func126, Try.ntmps126
    go_wp2_with (first
      | ((with_reducible show wpList _ _ _ (⟨some 2, .alloc _, _, _, _, _⟩ :: _) _ _); refine wpList_hnew rfl rfl ?_; intro w1 k2 hb1; have c11 : w1.cell? ⟨g, 0, none⟩ = some (.slice A 0 c) := (by rw [(Hk.out.step hb1).cell]; rfl); simp only [Act.put])
      | (go_at_call 102; refine (Hcall.out w1).mono ?_; rintro e w2 ⟨rfl, hb2⟩; replace k2 := k2.step hb2)
      | ((with_reducible show wpList _ _ _ [⟨none, .store _ (.tmp 2) _, _, _, _, _⟩] _ _); refine wpList_hset (.tmp 2) (.tmp 14) rfl rfl k2 rfl rfl hrl ?_; intro w3 k2b hb3 hW2; clear hW2; simp only [Act.put]))
    exact bodyPost_ret (ret_hash rfl rfl k2b) rfl ⟨rfl, (hb1.trans (hb2.mono hb1.size)).trans hb3⟩
  · obtain ⟨m, rfl⟩ : ∃ m, n = m + 1 := ⟨n - 1, by omega⟩
    have hne0 : (((m + 1 : Nat) : Int) == 0) = false := by simp; omega
    have hne0' : ((m : Int) + 1 == 0) = false := by simp; omega
    obtain ⟨b, o, rfl, hbw, -⟩ := hP.at_ (by omega)
    have hroom := hP.sl.room
    have hmx := hP.sl.max
    unfold maxLen at hmx
    have hw1 : IntKind.i64.wrap ((m : Int) + 1 - 1) = (m : Int) := by rw [IntWalk.i64_in _ (by omega)]; omega
    have hw2 : IntKind.i64.wrap ((m : Int) + 1 - 2) = (m : Int) - 1 := by rw [IntWalk.i64_in _ (by omega)]; omega
    have hmm : (m : Int) < (m : Int) + 1 := by omega
    have hwm : IntKind.i64.wrap (m : Int) = (m : Int) := IntWalk.i64_in _ (by omega)
    have hhs := fun W (hb : Below w.heap.size w W) => (hP.step hb).hash rfl m (Nat.lt_succ_self m)
    rw [fpq_getD ps m (by omega), ← rootG_last ps m (by omega)] at hhs
    have HP := Lib.hid hP
    have hll := length_rootG (ps.drop m) (fun p hp => h32 p (List.mem_of_mem_drop hp))
    have Hhs := Lib.hid hhs
    have H32 := Lib.hid h32
    have Hlen := Lib.hid hlen
    obtain ⟨last, hlast⟩ : ∃ x, rootG (ps.drop m) = x := ⟨_, rfl⟩
    have Hlast := Lib.hid hlast
    have hhs2 : ∀ W, Below w.heap.size w W → (Instr.loadAt 25 (.pointer (some ⟨b, o + m * 33 + 1, none⟩))).run Try.prog W = .ok (.agg (last.map B).toArray) W := fun W hb => by have := hhs W hb; rw [hlast] at this; exact this
    have Hhs2 := Lib.hid hhs2
    rw [hlast] at hll
    clear hhs hhs2 hP h hk h32 hlen hlast hres Hhs
    go_enter Try.func126, Try.ntmps126
    go_wp2_with ((with_reducible show wpList _ _ _ (⟨some 2, .alloc _, _, _, _, _⟩ :: _) _ _); refine wpList_hnew rfl rfl ?_; intro w1 k2 hb1; have c11 : w1.cell? ⟨g, 0, none⟩ = some (.slice (some ⟨b, o, none⟩) (m + 1) c) := (by rw [(Hk.out.step hb1).cell]; rfl); simp only [Act.put])
    have c18 : ∀ s : InC (fun W => Below w1.heap.size w1 W), s.W.cell? ⟨g, 0, none⟩ = some (.slice (some ⟨b, o, none⟩) (m + 1) c) := fun s => by rw [((Hk.out.step hb1).step s.ok).cell]; rfl
    have hS : Below w1.heap.size w1 w1.drew := (Below.refl _ _).drew
    refine wp_region_mix_tail (fun W => Below w1.heap.size w1 W) 14 [(0, true), (1, true), (2, true), (3, true), (4, true), (5, true), (6, true), (7, true), (8, true), (9, true), (10, true), (11, true), (12, true), (13, false)] (by kernel_rfl) (by kernel_rfl) hS fun _ => ?_
    simp only [List.map_cons, List.map_nil, Array.getD_eq_getD_getElem?, List.getElem?_toArray, List.getElem?_cons_succ, List.getElem?_cons_zero, Option.getD_some]
    generalize w1.drew = u2 at hS ⊢
    refine wpMix_s (fun K hK => ?_)
    go_simp
    refine hK _ ?_
    clear hK K
    refine wpMix_s (fun K hK => ?_)
    go_simp
    refine hK _ ?_
    clear hK K
    refine wpMix_s (fun K hK => ?_)
    go_simp
    refine hK _ ?_
    clear hK K
    refine wpMix_s (fun K hK => ?_)
    go_simp
    refine hK _ ?_
    clear hK K
    refine wpMix_s (fun K hK => ?_)
    go_simp
    refine hK _ ?_
    clear hK K
    refine wpMix_s (fun K hK => ?_)
    go_simp
    refine hK _ ?_
    clear hK K
    refine wpMix_s (fun K hK => ?_)
    go_simp
    refine hK _ ?_
    clear hK K
    refine wpMix_s (fun K hK => ?_)
    go_simp
    refine hK _ ?_
    clear hK K
    refine wpMix_s (fun K hK => ?_)
    go_simp
    refine hK _ ?_
    clear hK K
    refine wpMix_s (fun K hK => ?_)
    go_simp
    refine hK _ ?_
    clear hK K
    refine wpMix_s (fun K hK => ?_)
    go_simp
    refine hK _ ?_
    clear hK K
    refine wpMix_s (fun K hK => ?_)
    go_simp
    refine hK _ ?_
    clear hK K
    refine wpMix_load (by kernel_rfl) 25 (.tmp 26) rfl (b) (o + m * 33 + 1) rfl (last.map B).toArray ((fun s => Hhs2.out s.W (hb1.trans (s.ok.mono hb1.size)))) ?_
    simp only [Act.put]
    have k3g := hS.size
    refine wpMix_hnew rfl rfl (fun _ hb => hS.trans (hb.mono hS.size)) ?_
    intro u2_1 k3 hb'
    simp only [Act.put]
    replace hS := hS.trans (hb'.mono hS.size)
    clear hb'
    refine wpMix_nil ?_
    intro _
    simp only [List.drop_succ_cons, List.drop_zero]
    have k2s := k2.step hS
    have hwk2 := k2.lt
    go_wp2_with ((with_reducible show wpList _ _ _ [⟨none, .store _ (.tmp 3) _, _, _, _, _⟩] _ _); refine wpList_hset (.tmp 3) (.tmp 27) rfl rfl k3 rfl rfl hll ?_; intro w5 k3b hb5 hW5; clear hW5; simp only [Act.put])
    have hbel5 := ((hb1.trans (hS.mono hb1.size)).trans (hb5.mono (Nat.le_trans hb1.size k3g)))
    have c31 : w5.cell? ⟨g, 0, none⟩ = some (.slice (some ⟨b, o, none⟩) (m + 1) c) := by rw [(Hk.out.below hbel5 hkg).cell]; rfl
    refine np_normal ?_
    go_wp2_with fail
    have k25 : HV w5 w.heap.size (List.replicate 32 0) := k2s.far hb5 (Nat.lt_of_lt_of_le hwk2 k3g)
    have hwb : w.heap.size < u2.heap.size := Nat.lt_of_lt_of_le hwk2 k3g
    obtain ⟨b3, hb3e⟩ : ∃ x, u2.heap.size = x := ⟨_, rfl⟩
    rw [hb3e] at k3b hwb ⊢
    clear k2s hb3e k3 hb5 hS k2 hb1 hwk2 k3g c31 Hhs2
    go_loopw [4] (fun v4 wr => ∃ j : Nat, j ≤ m ∧ v4 = .int .i64 ((j : Int) - 1) ∧ HV wr b3 (rootG (ps.drop j)) ∧ HV wr w.heap.size (List.replicate 32 0) ∧ Below w.heap.size w wr) (fun v4 _ => (intOf v4 + 1).toNat)
    case atStart => exact ⟨m, Nat.le_refl _, rfl, by rw [Hlast.out]; exact k3b, k25, hbel5⟩
    case round =>
      clear k3b k25 hbel5
      obtain ⟨j, hj, rfl, k3, k2, hbel⟩ := hrel
      rcases Nat.eq_zero_or_pos j with rfl | hjp
      · rw [List.drop_zero, Hres.out] at k3
        go_wp2_with (first
          | ((with_reducible show wpList _ _ _ (⟨some 48, .load _ _, _, _, _, _⟩ :: _) _ _); refine wpList_hload (.tmp 3) (by kernel_rfl) rfl k3 rfl ?_; simp only [Act.put])
          | ((with_reducible show wpList _ _ _ [⟨none, .store _ (.tmp 2) _, _, _, _, _⟩] _ _); refine wpList_hset (.tmp 2) (.tmp 48) rfl rfl k2 rfl rfl hrl ?_; intro w7 k2b hb7 hW2; clear hW2; simp only [Act.put]))
        exact bodyPost_ret (ret_hash rfl rfl k2b) rfl ⟨rfl, hbel.trans hb7⟩
      · obtain ⟨l, rfl⟩ : ∃ l, j = l + 1 := ⟨j - 1, by omega⟩
        have hll' : ((l + 1 : Nat) : Int) - 1 = (l : Int) := by omega
        rw [hll']
        have hwl : IntKind.i64.wrap ((l : Int) - 1) = (l : Int) - 1 := IntWalk.i64_in _ (by omega)
        have hge : decide ((0 : Int) ≤ (l : Int)) = true := by simp
        have hlm : (l : Int) < (m : Int) + 1 := by omega
        have hrd := rootG_drop ps l (by rw [Hlen.out]; omega)
        have hhs := fun W (hb : Below wr.heap.size wr W) => ((HP.out.step hbel).step hb).hash rfl l (by omega)
        have hxl := (H32.out : F32 ps)
        have hx32 : (ps.getD l (0, [])).2.length = 32 := by
          rw [List.getD_eq_getElem?_getD, List.getElem?_eq_getElem (by rw [Hlen.out]; omega)]
          exact hxl _ (List.getElem_mem _)
        rw [fpq_getD ps l (by rw [Hlen.out]; omega)] at hhs
        have hhs : ∀ W, Below wr.heap.size wr W → (Instr.loadAt 25 (.pointer (some ⟨b, o + l * 33 + 1, none⟩))).run Try.prog W = .ok (.agg ((ps.getD l (0, [])).2.map B).toArray) W := hhs
        obtain ⟨x, hx⟩ : ∃ x, (ps.getD l (0, [])).2 = x := ⟨_, rfl⟩
        rw [hx] at hhs hrd hx32
        obtain ⟨cur, hcur⟩ : ∃ x, rootG (ps.drop (l + 1)) = x := ⟨_, rfl⟩
        rw [hcur] at hrd k3
        have hcl := k3.len
        have hnl := length_hNode x cur
        have hcm := fun W => hrnode_any x cur W hx32 hcl
        obtain ⟨nx, hnx⟩ : ∃ n, hNode x cur = n := ⟨_, rfl⟩
        rw [hnx] at hrd hnl hcm
        have Hhs := Lib.hid hhs
        have Hrd := Lib.hid hrd
        have Hcm := Lib.hid hcm
        clear hhs hrd hcm hnx hcur hx hxl
        have c41 : ∀ s : InC (fun W => Below wr.heap.size wr W), s.W.cell? ⟨g, 0, none⟩ = some (.slice (some ⟨b, o, none⟩) (m + 1) c) := fun s => by rw [((Hk.out.below hbel hkg).step s.ok).cell]; rfl
        go_wp2_with fail
        have hS : Below wr.heap.size wr wr.drew := (Below.refl _ _).drew
        refine wp_region_mix_tail (fun W => Below wr.heap.size wr W) 10 [(0, true), (1, true), (2, true), (3, true), (4, true), (5, true), (6, true), (7, true), (8, true), (9, false)] (by kernel_rfl) (by kernel_rfl) hS fun _ => ?_
        simp only [List.map_cons, List.map_nil, Array.getD_eq_getD_getElem?, List.getElem?_toArray, List.getElem?_cons_succ, List.getElem?_cons_zero, Option.getD_some]
        generalize wr.drew = u4 at hS ⊢
        refine wpMix_s (fun K hK => ?_)
        go_simp
        refine hK _ ?_
        clear hK K
        refine wpMix_s (fun K hK => ?_)
        go_simp
        refine hK _ ?_
        clear hK K
        refine wpMix_s (fun K hK => ?_)
        go_simp
        refine hK _ ?_
        clear hK K
        refine wpMix_s (fun K hK => ?_)
        go_simp
        refine hK _ ?_
        clear hK K
        refine wpMix_s (fun K hK => ?_)
        go_simp
        refine hK _ ?_
        clear hK K
        refine wpMix_s (fun K hK => ?_)
        go_simp
        refine hK _ ?_
        clear hK K
        refine wpMix_s (fun K hK => ?_)
        go_simp
        refine hK _ ?_
        clear hK K
        refine wpMix_load (by kernel_rfl) 25 (.tmp 44) rfl (b) (o + l * 33 + 1) rfl (x.map B).toArray ((fun s => Hhs.out s.W s.ok)) ?_
        simp only [Act.put]
        refine wpMix_load (by kernel_rfl) 25 (.tmp 3) rfl (b3) (0) rfl (cur.map B).toArray ((fun s => (k3.step s.ok).load)) ?_
        simp only [Act.put]
        refine wpMix_c (fun K hK => ?_) hS
        go_simp
        refine (Hcm.out u4).mono ?_
        rintro e u4_1 ⟨rfl, hb'⟩
        refine hK _ _ ?_
        clear hK K
        replace hS := hS.trans (hb'.mono hS.size)
        refine ⟨hS, ?_⟩
        clear hb'
        refine wpMix_nil ?_
        intro _
        simp only [List.drop_succ_cons, List.drop_zero]
        have k3s := k3.step hS
        have k2s := k2.step hS
        go_wp2_with ((with_reducible show wpList _ _ _ [⟨none, .store _ (.tmp 3) _, _, _, _, _⟩] _ _); refine wpList_hset (.tmp 3) (.tmp 47) rfl rfl k3s rfl rfl hnl ?_; intro w7 k3c hb7 hW2; clear hW2; simp only [Act.put])
        refine np_normal ?_
        go_wp2_with fail
        go_roundw
        case rel => exact ⟨l, by omega, rfl, by rw [Hrd.out]; exact k3c, k2s.far hb7 hwb, (hbel.trans (hS.mono hbel.size)).trans (hb7.mono (Nat.le_of_lt hwb))⟩
        case measure => simp [intOf] <;> omega
end Go.Proofs.Ytonidnfgneokbaa
