/- notarylaw08.HashBytes. -/
import Derived.Test.YtdkgndjomkbbjaaHLaw
import Derived.Test.YtdkgndjomkbbjaaHash2
import Derived.Test.YtdkgndjomkbbjaaNil
namespace Go.Proofs.Ytdkgndjomkbbjaa
open Go Go.RowKit

/-- what is known in HashBytes -/
structure HbC (w : World) (hv : Array Value) (A : Option Addr) (n c : Nat) (a : List UInt8) (A' : Option Addr) (n' c' : Nat) (b : List UInt8) (g1 c1 g2 c2 : Nat) (W : World) : Prop where
  box : Blk W w.heap.size 53 hv
  sa : Sl W (fun _ => True) A n c a
  sb : Sl W (fun _ => True) A' n' c' b
  la : LentM W (fun _ => True) g1 n c1 a
  lb : LentM W (fun _ => True) g2 n' c2 b
  bel : Below w.heap.size w W
  big : w.heap.size < W.heap.size
theorem HbC.step {w W W' : World} {hv : Array Value} {A A' : Option Addr} {n c n' c' g1 c1 g2 c2 : Nat} {a b : List UInt8} (h : HbC w hv A n c a A' n' c' b g1 c1 g2 c2 W) (hb : Below W.heap.size W W') : HbC w hv A n c a A' n' c' b g1 c1 g2 c2 W' :=
  ⟨h.box.below hb h.box.lt, h.sa.step hb, h.sb.step hb, h.la.step hb, h.lb.step hb, h.bel.trans (hb.mono h.bel.size), Nat.lt_of_lt_of_le h.big hb.size⟩

theorem BsS.two {W : World} {A A' : Option Addr} {c c' : Nat} {a b : List UInt8} (ha : Sl W (fun _ => True) A a.length c a) (hb : Sl W (fun _ => True) A' b.length c' b) :
    BsS (W.alloc (.cells #[.slice A a.length c, .slice A' b.length c'] 23)) (· < (W.alloc (.cells #[.slice A a.length c, .slice A' b.length c'] 23)).heap.size) (some ⟨W.heap.size, 0, none⟩) [a, b] :=
  BsS.lit W [.slice A a.length c, .slice A' b.length c'] [a, b] rfl fun i hi => by
    match i, hi with
    | 0, _ => exact ⟨A, c, rfl, ha.room, ha.bs⟩
    | 1, _ => exact ⟨A', c', rfl, hb.room, hb.bs⟩
theorem BsS.one {W : World} {A : Option Addr} {c : Nat} {a : List UInt8} (ha : Sl W (fun _ => True) A a.length c a) :
    BsS (W.alloc (.cells #[.slice A a.length c] 23)) (· < (W.alloc (.cells #[.slice A a.length c] 23)).heap.size) (some ⟨W.heap.size, 0, none⟩) [a] :=
  BsS.lit W [.slice A a.length c] [a] rfl fun i hi => by
    match i, hi with
    | 0, _ => exact ⟨A, c, rfl, ha.room, ha.bs⟩
theorem BsS.none_ (W : World) : BsS W (· < W.heap.size) none [] := ⟨[], Bs.nil, rfl, fun i hi => absurd hi (by simp)⟩

set_option maxHeartbeats 2000000 in
set_option maxRecDepth 100000 in
theorem hbytes_any (a b x y : List UInt8) (A A' : Option Addr) (n c n' c' : Nat) (w : World) (ha : Sl w (fun _ => True) A n c a) (hb : Sl w (fun _ => True) A' n' c' b) (hx : x.length = 32) (hy : y.length = 32) (hn : n ≤ 1073741824) (hn' : n' ≤ 1073741824) :
    Calls Try.prog 7 #[.slice A n c, .slice A' n' c', .agg ((x ++ y).map B).toArray] w fun e w' => e = .returned (.bool true) ∧ Below w.heap.size w w' := by
  obtain ⟨hv, hhv⟩ : ∃ hv, ((x ++ y).map B).toArray = hv := ⟨_, rfl⟩
  rw [hhv]
  have hal := ha.len
  have hbl := hb.len
  obtain ⟨w0, hw0⟩ : ∃ w0, w.alloc (.cells hv 53) = w0 := ⟨_, rfl⟩
  have b0 : Below w.heap.size w w0 := by rw [← hw0]; exact (Below.refl _ _).alloc (Nat.le_refl _) _
  have k0 : Blk w0 w.heap.size 53 hv := by rw [← hw0]; exact Blk.new _ _ _
  have sa0 := ha.step b0
  have sb0 := hb.step b0
  subst hal hbl
  have hlong := long_any [a, b] _ 2 2 _ rfl ((BsS.two sa0 sb0).weak fun _ _ _ => trivial) (by simp; omega)
  have Hhv := Lib.hid hhv
  have Hw0 := Lib.hid hw0
  have Hlong := Lib.hid hlong
  clear hhv hw0 hlong ha hb
  go_enter Try.func7, Try.ntmps7
  go_wp2_with ((with_reducible show wpList _ _ _ (⟨some 5, .box _ _, _, _, _, _⟩ :: _) _ _); refine wpList_run rfl (.pointer (some ⟨w.heap.size, 0, none⟩)) w0 (by rw [← Hw0.out]; rfl) ?_; simp only [Act.put])
  refine Hlong.out.mono ?_
  rintro e w1 ⟨rfl, lg, rfl, hlg⟩
  have b1 := b0.trans (((Below.refl w0.heap.size w0).alloc (Nat.le_refl _) (.cells #[.slice A a.length c, .slice A' b.length c'] 23)).mono b0.size)
  have sa1 := sa0.alloc (.cells #[.slice A a.length c, .slice A' b.length c'] 23)
  have sb1 := sb0.alloc (.cells #[.slice A a.length c, .slice A' b.length c'] 23)
  have k1 := k0.alloc (.cells #[.slice A a.length c, .slice A' b.length c'] 23)
  generalize w0.alloc (.cells #[.slice A a.length c, .slice A' b.length c'] 23) = w1 at b1 sa1 sb1 k1 ⊢
  clear sa0 sb0 k0 b0 Hlong
  cases lg with
  | true =>
    go_wp2_with (go_at_call 29; refine (works_any _).mono ?_; rintro e w2 ⟨rfl, hb2⟩)
    go_ret
    exact ⟨rfl, b1.trans (hb2.mono b1.size)⟩
  | false =>
  have hsz := hlg rfl
  simp only [List.flatten_cons, List.flatten_nil, List.append_nil, List.length_append] at hsz
  have Hsz := Lib.hid hsz
  clear hsz hlg
  go_upto_region 4 with (first
    | (go_at_call_of 30 (Value.slice A a.length c); with_reducible refine (lent8_any a A a.length c w1 sa1 (by omega)).mono ?_; rintro e w2 ⟨g1, c1, rfl, hl1, hb2⟩)
    | (go_at_call_of 30 (Value.slice A' b.length c'); with_reducible refine (lent8_any b A' b.length c' w2 (sb1.step hb2) (by omega)).mono ?_; rintro e w3 ⟨g2, c2, rfl, hl2, hb3⟩))
  have hC3 : HbC w hv A a.length c a A' b.length c' b g1 c1 g2 c2 w3 := ⟨(k1.below hb2 k1.lt).below hb3 (Nat.lt_of_lt_of_le k1.lt hb2.size), (sa1.step hb2).step hb3, (sb1.step hb2).step hb3, (hl1.step hb3).weak fun _ _ _ => trivial, hl2.weak fun _ _ _ => trivial, (b1.trans (hb2.mono b1.size)).trans (hb3.mono (Nat.le_trans b1.size hb2.size)), Nat.lt_of_lt_of_le k1.lt (Nat.le_trans hb2.size hb3.size)⟩
  clear hl1 hl2 hb2 hb3 k1 sa1 sb1 b1
  obtain ⟨w4, hw4⟩ : ∃ w4, w3.alloc (.cells #[] 5) = w4 := ⟨_, rfl⟩
  have o4 : w4.ownsRow w3.heap.size 5 1 (.slice (some ⟨w3.heap.size, 0, none⟩) 0 0) 0 [] := by
    rw [← hw4]; exact World.ownsRow_lit (base := w3.heap.size) (e := 5) (size := 1) w3 #[] 0 (Nat.le_refl _) (by decide) rfl
  have b4 : Below w3.heap.size w3 w4 := by rw [← hw4]; exact (Below.refl _ _).alloc (Nat.le_refl _) _
  have hC4 := hC3.step b4
  obtain ⟨v5, w5, hr5, ho5, hg5⟩ := append_sl (xs := []) o4 hC4.sa (by have := Hsz.out; simp; omega) b4.size
  rw [List.nil_append] at ho5
  have b5 := b4.grown hg5 b4.size (fun k hk => (o4.lt k hk).1)
  have hC5 := hC3.step b5
  obtain ⟨v6, w6, hr6, ho6, hg6⟩ := append_sl ho5 hC5.sb (by have := Hsz.out; omega) b5.size
  have b6 := b5.grown hg6 b5.size (fun k hk => (ho5.lt k hk).1)
  have hC6 := hC3.step b6
  obtain ⟨A3, c3, rfl, hs6⟩ := owns_sl ho6
  replace hs6 := hs6.all
  obtain ⟨n3, hn3⟩ : ∃ n3, (a ++ b).length = n3 := ⟨_, rfl⟩
  rw [hn3] at hs6 hr6
  have hn3' : n3 ≤ 100000 := by rw [← hn3, List.length_append]; have := Hsz.out; omega
  obtain ⟨m, hm⟩ : ∃ m, a ++ b = m := ⟨_, rfl⟩
  rw [hm] at hs6
  obtain ⟨r, hr⟩ : ∃ r, sha256 m = r := ⟨_, rfl⟩
  have hrl : r.length = 32 := by rw [← hr]; exact length_sha256 _
  obtain ⟨s, hs⟩ : ∃ s, hLeaf a = s := ⟨_, rfl⟩
  have hsl : s.length = 32 := by rw [← hs]; exact length_hLeaf _
  obtain ⟨z, hz⟩ : ∃ z, hEmpty = z := ⟨_, rfl⟩
  have hzl : z.length = 32 := by rw [← hz]; exact length_hEmpty
  have hmn : m.length = n3 := hs6.len
  have Hw4 := Lib.hid hw4
  have Hr5 := Lib.hid hr5
  have Hr6 := Lib.hid hr6
  have Hn3 := Lib.hid hn3
  have Hm := Lib.hid hm
  have Hr := Lib.hid hr
  have Hrl := Lib.hid hrl
  have Hs := Lib.hid hs
  have Hsl := Lib.hid hsl
  have Hz := Lib.hid hz
  have Hzl := Lib.hid hzl
  have Hmn := Lib.hid hmn
  clear hw4 hr5 hr6 hn3 hm hr hrl hs hsl hz hzl hmn hC3 hC4 hC5 b4 b5 b6 o4 ho5 ho6 hg5 hg6
  go_wp2_with (first
    | ((with_reducible show wpList _ _ _ (⟨some 21, .call _, _, _, _, _⟩ :: _) _ _); rw [Hw4.out]; refine wpList_run rfl v5 w5 (run_append_op (.tmp 19) (.tmp 20) 23 rfl _ _ rfl rfl Hr5.out) ?_; simp only [Act.put])
    | ((with_reducible show wpList _ _ _ (⟨some 23, .call _, _, _, _, _⟩ :: _) _ _); refine wpList_run rfl _ w6 (run_append_op (.tmp 21) (.tmp 22) 23 rfl _ _ rfl rfl Hr6.out) ?_; simp only [Act.put]))
  -- the text in two parts
  have h7 := hof_any [a, b] _ 2 2 _ rfl (BsS.two hC6.la.sl hC6.lb.sl) (by decide) (by have := Hsz.out; simp; omega)
  rw [show sha256 [a, b].flatten = r by rw [← Hr.out, ← Hm.out]; simp] at h7
  refine h7.mono ?_
  rintro e w7 ⟨rfl, hb7⟩
  have q7 := ((Below.refl w6.heap.size w6).alloc (Nat.le_refl _) (.cells #[.slice (some ⟨g1, 0, none⟩) a.length c1, .slice (some ⟨g2, 0, none⟩) b.length c2] 23)).trans (hb7.mono (by simp))
  have hC7 := hC6.step q7
  have hs7 := hs6.step q7
  clear h7 hb7 q7 hC6 hs6
  go_wp2_with fail
  have h8 := hrof_any m A3 n3 c3 w7 hs7 (by omega)
  rw [Hr.out] at h8
  refine h8.mono ?_
  rintro e w8 ⟨rfl, hb8⟩
  have hC8 := hC7.step hb8
  have hs8 := hs7.step hb8
  clear h8 hb8 hC7 hs7
  go_wp2_with ((with_reducible show wpList _ _ _ (⟨some 30, .binOp _ _ _ _ _, _, _, _, _⟩ :: _) _ _); refine wpList_runG (by kernel_rfl) (.bool false) _ (run_neq26_f (.tmp 27) (.tmp 29) _ r r rfl rfl rfl Hrl.out Hrl.out rfl _) ?_; simp only [Act.put])
  -- .. in one
  have hs8' : Sl w8 (fun _ => True) A3 m.length c3 m := by rw [Hmn.out]; exact hs8
  have h9 := hof_any [m] _ 1 1 _ rfl (BsS.one hs8') (by decide) (by have := Hmn.out; simp; omega)
  rw [show sha256 [m].flatten = r by rw [← Hr.out]; simp, Hmn.out] at h9
  refine h9.mono ?_
  rintro e w9 ⟨rfl, hb9⟩
  have q9 := ((Below.refl w8.heap.size w8).alloc (Nat.le_refl _) (.cells #[.slice A3 n3 c3] 23)).trans (hb9.mono (by simp))
  have hC9 := hC8.step q9
  have hs9 := hs8.step q9
  clear h9 hb9 q9 hC8 hs8 hs8'
  go_wp2_with fail
  have h10 := hrof_any m A3 n3 c3 w9 hs9 (by omega)
  rw [Hr.out] at h10
  refine h10.mono ?_
  rintro e w10 ⟨rfl, hb10⟩
  have hC10 := hC9.step hb10
  clear h10 hb10 hC9 hs9
  go_wp2_with ((with_reducible show wpList _ _ _ (⟨some 37, .binOp _ _ _ _ _, _, _, _, _⟩ :: _) _ _); refine wpList_runG (by kernel_rfl) (.bool false) _ (run_neq26_f (.tmp 34) (.tmp 36) _ r r rfl rfl rfl Hrl.out Hrl.out rfl _) ?_; simp only [Act.put])
  -- nothing
  have h11 := hof_any [] none 0 0 w10 rfl (BsS.none_ _) (by decide) (by simp)
  rw [show sha256 [].flatten = z from Hz.out] at h11
  refine h11.mono ?_
  rintro e w11 ⟨rfl, hb11⟩
  have hC11 := hC10.step hb11
  clear h11 hb11 hC10
  go_wp2_with fail
  have h12 := hempty_any w11
  rw [Hz.out] at h12
  refine h12.mono ?_
  rintro e w12 ⟨rfl, hb12⟩
  have hC12 := hC11.step hb12
  clear h12 hb12 hC11
  go_wp2_with ((with_reducible show wpList _ _ _ (⟨some 42, .binOp _ _ _ _ _, _, _, _, _⟩ :: _) _ _); refine wpList_runG (by kernel_rfl) (.bool false) _ (run_neq26_f (.tmp 40) (.tmp 41) _ z z rfl rfl rfl Hzl.out Hzl.out rfl _) ?_; simp only [Act.put])
  -- the leaf
  have h13 := hleaf_any a (some ⟨g1, 0, none⟩) a.length c1 w12 hC12.la.sl (by omega)
  rw [Hs.out] at h13
  refine h13.mono ?_
  rintro e w13 ⟨rfl, hb13⟩
  have hC13 := hC12.step hb13
  clear h13 hb13 hC12
  go_wp2_with fail
  have h14 := hrleaf_any a A a.length c w13 hC13.sa (by omega)
  rw [Hs.out] at h14
  refine h14.mono ?_
  rintro e w14 ⟨rfl, hb14⟩
  have hC14 := hC13.step hb14
  clear h14 hb14 hC13
  go_wp2_with ((with_reducible show wpList _ _ _ (⟨some 49, .binOp _ _ _ _ _, _, _, _, _⟩ :: _) _ _); refine wpList_runG (by kernel_rfl) (.bool false) _ (run_neq26_f (.tmp 46) (.tmp 48) _ s s rfl rfl rfl Hsl.out Hsl.out rfl _) ?_; simp only [Act.put])
  obtain ⟨t, ht⟩ : ∃ t, hNode x y = t := ⟨_, rfl⟩
  have htl : t.length = 32 := by rw [← ht]; exact length_hNode _ _
  have hvs : hv.size = 64 := by rw [← Hhv.out]; simp [hx, hy]
  have hxd : ∀ W, Below w14.heap.size w14 W → (Instr.loadAt 26 (.pointer (some ⟨w.heap.size, 0, none⟩))).run Try.prog W = .ok (.agg (x.map B).toArray) W := fun W hW => by
    refine run_load_agg (agg26 _) (size26 _) w.heap.size 0 _ (by rw [List.length_map, hx]) fun j u hu => ?_
    rw [Nat.zero_add, (hC14.box.below hW hC14.box.lt).cell, ← Hhv.out, List.getElem?_toArray, List.map_append, List.getElem?_append_left (List.getElem?_eq_some_iff.1 hu).1]
    exact hu
  have hyd : ∀ W, Below w14.heap.size w14 W → (Instr.loadAt 26 (.pointer (some ⟨w.heap.size, 32, none⟩))).run Try.prog W = .ok (.agg (y.map B).toArray) W := fun W hW => by
    refine run_load_agg (agg26 _) (size26 _) w.heap.size 32 _ (by rw [List.length_map, hy]) fun j u hu => ?_
    rw [(hC14.box.below hW hC14.box.lt).cell, ← Hhv.out, List.getElem?_toArray, List.map_append, List.getElem?_append_right (by rw [List.length_map, hx]; omega), List.length_map, hx, Nat.add_sub_cancel_left]
    exact hu
  have Ht := Lib.hid ht
  have Htl := Lib.hid htl
  have Hxd := Lib.hid hxd
  have Hyd := Lib.hid hyd
  have Hx := Lib.hid hx
  have Hy := Lib.hid hy
  clear ht htl hxd hyd hvs hx hy
  refine wp_region_mix (fun W => Below w14.heap.size w14 W) [(0, true), (1, true), (2, true), (3, true), (5, true), (6, true), (7, true), (8, true), (4, false), (9, false), (10, true), (11, true), (12, true), (13, true), (14, false), (15, true), (16, true), (17, true), (18, true), (19, false), (20, true), (21, true), (22, false), (23, true), (24, true)] (by kernel_rfl) (by kernel_rfl) (Below.refl _ _).drew fun _ => ?_
  simp only [List.map_cons, List.map_nil, Array.getD_eq_getD_getElem?, List.getElem?_toArray, List.getElem?_cons_succ, List.getElem?_cons_zero, Option.getD_some]
  have hS : Below w14.heap.size w14 w14.drew := (Below.refl _ _).drew
  generalize w14.drew = W0 at hS ⊢
  refine wpMix_s (fun K hK => ?_)
  go_simp
  refine hK _ ?_
  clear hK K
  refine wpMix_load (by kernel_rfl) 26 (.tmp 51) rfl w.heap.size 0 rfl (x.map B).toArray (fun s => Hxd.out s.W s.ok) ?_
  simp only [Act.put]
  refine wpMix_s (fun K hK => ?_)
  go_simp
  refine hK _ ?_
  clear hK K
  refine wpMix_load (by kernel_rfl) 26 (.tmp 53) rfl w.heap.size 32 rfl (y.map B).toArray (fun s => Hyd.out s.W s.ok) ?_
  simp only [Act.put]
  refine wpMix_s (fun K hK => ?_)
  go_simp
  refine hK _ ?_
  clear hK K
  refine wpMix_load (by kernel_rfl) 26 (.tmp 56) rfl w.heap.size 0 rfl (x.map B).toArray (fun s => Hxd.out s.W s.ok) ?_
  simp only [Act.put]
  refine wpMix_s (fun K hK => ?_)
  go_simp
  refine hK _ ?_
  clear hK K
  refine wpMix_load (by kernel_rfl) 26 (.tmp 58) rfl w.heap.size 32 rfl (y.map B).toArray (fun s => Hyd.out s.W s.ok) ?_
  simp only [Act.put]
  refine wpMix_c (fun K hK => ?_) hS
  go_simp
  refine (hnode_any x y W0 Hx.out Hy.out).mono ?_
  rintro e W1 ⟨rfl, hb'⟩
  refine hK _ _ ?_
  clear hK K
  replace hS := hS.trans (hb'.mono hS.size)
  refine ⟨hS, ?_⟩
  clear hb'
  rw [Ht.out]
  refine wpMix_c (fun K hK => ?_) hS
  go_simp
  refine (hrnode_any x y W1 Hx.out Hy.out).mono ?_
  rintro e W2 ⟨rfl, hb'⟩
  refine hK _ _ ?_
  clear hK K
  replace hS := hS.trans (hb'.mono hS.size)
  refine ⟨hS, ?_⟩
  clear hb'
  rw [Ht.out]
  refine wpMix_v (by kernel_rfl) (.bool true) (fun s => run_eql26_t (.tmp 55) (.tmp 60) _ t t rfl rfl rfl Htl.out Htl.out rfl s.W) ?_
  simp only [Act.put]
  refine wpMix_s (fun K hK => ?_)
  go_simp
  refine hK _ ?_
  clear hK K
  refine wpMix_s (fun K hK => ?_)
  go_simp
  refine hK _ ?_
  clear hK K
  refine wpMix_s (fun K hK => ?_)
  go_simp
  refine hK _ ?_
  clear hK K
  refine wpMix_c (fun K hK => ?_) hS
  go_simp
  refine (kept8_any g1 a.length c1 a A c W2 (hC14.step hS).la (hC14.step hS).sa (by omega)).mono ?_
  rintro e W' ⟨rfl, rfl⟩
  refine hK _ _ ?_
  clear hK K
  refine ⟨hS, ?_⟩
  refine wpMix_s (fun K hK => ?_)
  go_simp
  refine hK _ ?_
  clear hK K
  refine wpMix_s (fun K hK => ?_)
  go_simp
  refine hK _ ?_
  clear hK K
  refine wpMix_s (fun K hK => ?_)
  go_simp
  refine hK _ ?_
  clear hK K
  refine wpMix_s (fun K hK => ?_)
  go_simp
  refine hK _ ?_
  clear hK K
  refine wpMix_c (fun K hK => ?_) hS
  go_simp
  refine (kept8_any g2 b.length c2 b A' c' W2 (hC14.step hS).lb (hC14.step hS).sb (by omega)).mono ?_
  rintro e W' ⟨rfl, rfl⟩
  refine hK _ _ ?_
  clear hK K
  refine ⟨hS, ?_⟩
  refine wpMix_s (fun K hK => ?_)
  go_simp
  refine hK _ ?_
  clear hK K
  refine wpMix_s (fun K hK => ?_)
  go_simp
  refine hK _ ?_
  clear hK K
  refine wpMix_c (fun K hK => ?_) hS
  go_simp
  refine (works_any W2).mono ?_
  rintro e W3 ⟨rfl, hb'⟩
  refine hK _ _ ?_
  clear hK K
  replace hS := hS.trans (hb'.mono hS.size)
  refine ⟨hS, ?_⟩
  clear hb'
  refine wpMix_s (fun K hK => ?_)
  go_simp
  refine hK _ ?_
  clear hK K
  refine wpMix_s (fun K hK => ?_)
  go_simp
  refine hK _ ?_
  clear hK K
  refine wpMix_nil ?_
  intro _
  go_wp2_with fail
  go_ret
  exact ⟨rfl, hC14.bel.trans (hS.mono hC14.bel.size)⟩
end Go.Proofs.Ytdkgndjomkbbjaa
