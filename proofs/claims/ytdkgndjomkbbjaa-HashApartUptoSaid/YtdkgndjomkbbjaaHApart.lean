/- notarylaw08.HashApart. -/
import Derived.Test.YtdkgndjomkbbjaaRTop
import Derived.Test.YtdkgndjomkbbjaaHBytes
import Derived.Test.YtdkgndjomkbbjaaShare
import Derived.Test.YtdkgndjomkbbjaaSpoil
namespace Go.Proofs.Ytdkgndjomkbbjaa
open Go Go.RowKit

theorem slice_all26o (g o : Nat) (W : World) : (Instr.sliceAt 26 (.pointer (some ⟨g, o, none⟩)) none none none).run Try.prog W = .ok (.slice (some ⟨g, o, none⟩) 32 32) W := by
  rw [run_sliceAt_array_all W _ _ arrT26, size26e, arrN26]
  simp [slicedAt, Result.andThen, Addr.add]
theorem BsS.step {w w' : World} {A : Option Addr} {ls : List (List UInt8)} (h : BsS w (· < w.heap.size) A ls) (hb : Below w.heap.size w w') : BsS w' (· < w'.heap.size) A ls :=
  (h.below hb fun _ hb _ => hb).weak fun _ hb _ => hb
theorem sl_of_blk {W : World} {g : Nat} {t : TypeId} (pre x post : List UInt8) (h : Blk W g t ((pre ++ x ++ post).map B).toArray) (hm : x.length ≤ maxLen) : Sl W (fun _ => True) (some ⟨g, pre.length, none⟩) x.length x.length x :=
  ⟨fun _ => ⟨g, pre.length, rfl, h.lt, trivial, fun j u hu => by
    rw [h.cell, List.getElem?_toArray, List.map_append, List.map_append, List.append_assoc, List.getElem?_append_right (by simp), List.length_map, Nat.add_sub_cancel_left, List.getElem?_append_left (List.getElem?_eq_some_iff.1 hu).1]
    exact hu⟩, rfl, Nat.le_refl _, (fun h => by cases h), hm⟩

theorem dbl_any (hs : List (List UInt8)) (A : Option Addr) (n c : Nat) (W : World) (h : Hs W (fun _ => True) A n c hs) (hn : n ≤ 1073741824) :
    ∃ v W1 A' c' W2, (Builtin.append_ #[57, 57] 57 #[.slice (some ⟨W.heap.size, 0, none⟩) 0 0, .slice A n c]).run Try.prog (W.alloc (.cells #[] 26)) = .ok v W1 ∧
      (Builtin.append_ #[57, 57] 57 #[v, .slice A n c]).run Try.prog W1 = .ok (.slice A' (n + n) c') W2 ∧ Hs W2 (fun _ => True) A' (n + n) c' (hs ++ hs) ∧ Below W.heap.size W W2 := by
  have b0 : Below W.heap.size W (W.alloc (.cells #[] 26)) := (Below.refl _ _).alloc (Nat.le_refl _) _
  have o0 : (W.alloc (.cells #[] 26)).ownsRow W.heap.size 26 32 (.slice (some ⟨W.heap.size, 0, none⟩) 0 0) 0 [] := World.ownsRow_lit (base := W.heap.size) (e := 26) (size := 32) W #[] 0 (Nat.le_refl _) (by decide) rfl
  obtain ⟨v1, w1, hr1, ho1, hg1, -⟩ := append_slv (ty := 57) Try.underlying57 info26z (by simp [Value.cells]) (by decide) o0 (h.step b0).sl (oneB _) (by unfold maxLen; omega) (by omega) b0.size
  rw [Nat.zero_add, List.nil_append] at ho1
  have b1 := b0.grown hg1 b0.size (fun k hk => (o0.lt k hk).1)
  obtain ⟨v2, w2, hr2, ho2, hg2, -⟩ := append_slv (ty := 57) Try.underlying57 info26z (by simp [Value.cells]) (by decide) ho1 (h.step b1).sl (oneB _) (by unfold maxLen; omega) (by omega) b1.size
  rw [← hcells_append] at ho2
  have b2 := b1.grown hg2 b1.size (fun k hk => (ho1.lt k hk).1)
  obtain ⟨A2, c2, rfl, hs2⟩ := Hs.of_owns ho2 (by rw [List.length_append, h.len]) (h.all.append h.all)
  exact ⟨v1, w1, A2, c2, w2, hr1, hr2, hs2.weak fun _ _ _ => trivial, b2⟩

/-- what is known in HashApart -/
structure HaC (w : World) (hv : Array Value) (A : Option Addr) (n c : Nat) (a : List UInt8) (A' : Option Addr) (n' c' : Nat) (hs : List (List UInt8)) (x y : List UInt8) (W : World) : Prop where
  box : Blk W w.heap.size 53 hv
  sa : Sl W (fun _ => True) A n c a
  sl : Hs W (fun _ => True) A' n' c' hs
  sx : Sl W (fun _ => True) (some ⟨w.heap.size, 0, none⟩) 32 32 x
  sy : Sl W (fun _ => True) (some ⟨w.heap.size, 32, none⟩) 32 32 y
  bel : Below w.heap.size w W
theorem HaC.step {w W W' : World} {hv : Array Value} {A A' : Option Addr} {n c n' c' : Nat} {a x y : List UInt8} {hs : List (List UInt8)} (h : HaC w hv A n c a A' n' c' hs x y W) (hb : Below W.heap.size W W') : HaC w hv A n c a A' n' c' hs x y W' :=
  ⟨h.box.below hb h.box.lt, h.sa.step hb, h.sl.step hb, h.sx.step hb, h.sy.step hb, h.bel.trans (hb.mono h.bel.size)⟩
theorem BsS.pair {W W' : World} {g : Nat} {b : List UInt8} {A' : Option Addr} {n' c' : Nat} {a : List UInt8} {A : Option Addr} {n c : Nat} (ha : Sl W (fun _ => True) A n c a) (hb : Sl W (fun _ => True) A' n' c' b) (hW : W' = W.alloc (.cells #[.slice A n c, .slice A' n' c'] 23)) (hg : g = W.heap.size) :
    BsS W' (· < W'.heap.size) (some ⟨g, 0, none⟩) [a, b] := by
  subst hW hg
  obtain rfl := ha.len
  obtain rfl := hb.len
  exact BsS.two ha hb

set_option maxHeartbeats 2000000 in
set_option maxRecDepth 100000 in
theorem hapart_any (a x y : List UInt8) (hs : List (List UInt8)) (A A' : Option Addr) (n c n' c' : Nat) (w : World) (ha : Sl w (fun _ => True) A n c a) (hl : Hs w (fun _ => True) A' n' c' hs) (hx : x.length = 32) (hy : y.length = 32) (hn : n ≤ 1073741824) (hn' : n' ≤ 1073741824) :
    Calls Try.prog 9 #[.slice A n c, .slice A' n' c', .agg ((x ++ y).map B).toArray] w fun e w' => e = .returned (.bool true) ∧ Below w.heap.size w w' := by
  obtain ⟨hv, hhv⟩ : ∃ hv, ((x ++ y).map B).toArray = hv := ⟨_, rfl⟩
  rw [hhv]
  have hal := ha.len
  obtain ⟨w0, hw0⟩ : ∃ w0, w.alloc (.cells hv 53) = w0 := ⟨_, rfl⟩
  have b0 : Below w.heap.size w w0 := by rw [← hw0]; exact (Below.refl _ _).alloc (Nat.le_refl _) _
  have k0 : Blk w0 w.heap.size 53 hv := by rw [← hw0]; exact Blk.new _ _ _
  have sx0 : Sl w0 (fun _ => True) (some ⟨w.heap.size, 0, none⟩) 32 32 x := by
    have := sl_of_blk (W := w0) (g := w.heap.size) (t := 53) [] x y (by rw [List.nil_append, hhv]; exact k0) (by rw [hx]; decide)
    rwa [hx] at this
  have sy0 : Sl w0 (fun _ => True) (some ⟨w.heap.size, 32, none⟩) 32 32 y := by
    have := sl_of_blk (W := w0) (g := w.heap.size) (t := 53) x y [] (by rw [List.append_nil, hhv]; exact k0) (by rw [hy]; decide)
    rwa [hx, hy] at this
  have hC0 : HaC w hv A n c a A' n' c' hs x y w0 := ⟨k0, ha.step b0, hl.step b0, sx0, sy0, b0⟩
  subst hal
  have hlong := long_any [a] _ 1 1 _ rfl ((BsS.one hC0.sa).weak fun _ _ _ => trivial) (by simp; omega)
  have Hhv := Lib.hid hhv
  have Hw0 := Lib.hid hw0
  have Hlong := Lib.hid hlong
  clear hhv hw0 hlong ha hl b0 k0 sx0 sy0
  go_enter Try.func9, Try.ntmps9
  go_wp2_with ((with_reducible show wpList _ _ _ (⟨some 5, .box _ _, _, _, _, _⟩ :: _) _ _); refine wpList_run rfl (.pointer (some ⟨w.heap.size, 0, none⟩)) w0 (by rw [← Hw0.out]; rfl) ?_; simp only [Act.put])
  refine Hlong.out.mono ?_
  rintro e w1 ⟨rfl, lg, rfl, hlg⟩
  have hC1 := hC0.step ((Below.refl w0.heap.size w0).alloc (Nat.le_refl _) (.cells #[.slice A a.length c] 23))
  generalize w0.alloc (.cells #[.slice A a.length c] 23) = w1 at hC1 ⊢
  clear hC0 Hlong
  cases lg with
  | true =>
    go_wp2_with (go_at_call 29; refine (works_any _).mono ?_; rintro e w2 ⟨rfl, hb2⟩)
    go_ret
    exact ⟨rfl, hC1.bel.trans (hb2.mono hC1.bel.size)⟩
  | false =>
  have hsz := hlg rfl
  simp only [List.flatten_cons, List.flatten_nil, List.append_nil] at hsz
  have Hsz := Lib.hid hsz
  clear hsz hlg
  by_cases hbig : 512 < n'
  · have hd : decide ((512 : Int) < (n' : Int)) = true := by simp; omega
    go_wp2_with (go_at_call 29; refine (works_any _).mono ?_; rintro e w2 ⟨rfl, hb2⟩)
    go_ret
    exact ⟨rfl, hC1.bel.trans (hb2.mono hC1.bel.size)⟩
  have hd : decide ((512 : Int) < (n' : Int)) = false := by simp; omega
  obtain ⟨w2, hw2⟩ : ∃ w2, w1.alloc (.cells #[.int .u8 1] 5) = w2 := ⟨_, rfl⟩
  have b2 : Below w1.heap.size w1 w2 := by rw [← hw2]; exact (Below.refl _ _).alloc (Nat.le_refl _) _
  have o2 : w2.ownsRow w1.heap.size 5 1 (.slice (some ⟨w1.heap.size, 0, none⟩) 1 1) [(1 : UInt8)].length ([(1 : UInt8)].map B) := by
    rw [← hw2]; exact World.ownsRow_lit (base := w1.heap.size) (e := 5) (size := 1) w1 #[.int .u8 1] 1 (Nat.le_refl _) (by decide) rfl
  have hC2 := hC1.step b2
  obtain ⟨v3, w3, hr3, ho3, hg3⟩ := append_sl o2 hC2.sx (by simp) b2.size
  have b3 := b2.grown hg3 b2.size (fun k hk => (o2.lt k hk).1)
  have hC3 := hC1.step b3
  obtain ⟨A7, c7, rfl, hs7⟩ := owns_sl ho3
  rw [show ([1] ++ x : List UInt8).length = 33 by simp [hx]] at hs7 hr3
  replace hs7 := hs7.all
  have hsl := slice_all26o w.heap.size 0
  have Hr3 := Lib.hid hr3
  have Hw2 := Lib.hid hw2
  have Hx := Lib.hid hx
  have Hy := Lib.hid hy
  have Hsl := Lib.hid hsl
  clear hr3 hw2 hC2 o2 b2 ho3 hg3 b3 hC1 hx hy
  go_wp2_with ((with_reducible show wpList _ _ _ (⟨some 24, .call _, _, _, _, _⟩ :: _) _ _); rw [Hw2.out]; refine wpList_run rfl _ w3 (run_append_op (.tmp 21) (.tmp 23) 23 rfl _ _ rfl rfl Hr3.out) ?_; simp only [Act.put])
  clear hsl
  obtain ⟨q, hs'⟩ : ∃ q, hLeaf a = q := ⟨_, rfl⟩
  have hsl : q.length = 32 := by rw [← hs']; exact length_hLeaf _
  obtain ⟨t, ht⟩ : ∃ t, hNode x y = t := ⟨_, rfl⟩
  have htl : t.length = 32 := by rw [← ht]; exact length_hNode _ _
  have hleaf := fun W (h : Below w3.heap.size w3 W) => hleaf_any a A a.length c W ((hC3.step h).sa) (by omega)
  have hnode := fun W => hnode_any x y W Hx.out Hy.out
  have hofl := fun W A (h : BsS W (· < W.heap.size) A [[0], a]) => hof_any [[0], a] A 2 2 W rfl h (by decide) (by simp; omega)
  rw [show sha256 [[0], a].flatten = q by rw [← hs']; simp [hLeaf]] at hofl
  have hofn := fun W A (h : BsS W (· < W.heap.size) A [[1] ++ x, y]) => hof_any [[1] ++ x, y] A 2 2 W rfl h (by decide) (by simp [Hx.out, Hy.out])
  rw [show sha256 [[1] ++ x, y].flatten = t by rw [← ht]; simp [hNode]] at hofn
  rw [hs'] at hleaf
  rw [ht] at hnode
  have hxd : ∀ W, Below w3.heap.size w3 W → (Instr.loadAt 26 (.pointer (some ⟨w.heap.size, 0, none⟩))).run Try.prog W = .ok (.agg (x.map B).toArray) W := fun W hW => by
    obtain ⟨b, o, hA, -, -, hce⟩ := (hC3.step hW).sx.cells (by decide)
    cases hA
    exact run_load_agg (agg26 _) (size26 _) w.heap.size 0 _ (by rw [List.length_map, Hx.out]) fun j u hu => by
      obtain ⟨b, o, hA, -, -, hce⟩ := (hC3.step hW).sx.bs.at_ (by rw [List.length_map, Hx.out]; decide)
      cases hA
      exact hce j u hu
  have hyd : ∀ W, Below w3.heap.size w3 W → (Instr.loadAt 26 (.pointer (some ⟨w.heap.size, 32, none⟩))).run Try.prog W = .ok (.agg (y.map B).toArray) W := fun W hW => by
    exact run_load_agg (agg26 _) (size26 _) w.heap.size 32 _ (by rw [List.length_map, Hy.out]) fun j u hu => by
      obtain ⟨b, o, hA, -, -, hce⟩ := (hC3.step hW).sy.bs.at_ (by rw [List.length_map, Hy.out]; decide)
      cases hA
      exact hce j u hu
  have Hs := Lib.hid hs'
  have Hslen := Lib.hid hsl
  have Ht := Lib.hid ht
  have Htl := Lib.hid htl
  have Hleaf := Lib.hid hleaf
  have Hnode := Lib.hid hnode
  have Hofl := Lib.hid hofl
  have Hofn := Lib.hid hofn
  have Hxd := Lib.hid hxd
  have Hyd := Lib.hid hyd
  clear hs' hsl ht htl hleaf hnode hofl hofn hxd hyd Hsl
  have hS : Below w3.heap.size w3 w3.drew := (Below.refl _ _).drew
  refine wp_region_begin (fun W => Below w3.heap.size w3 W) (by kernel_rfl) hS fun _ => ?_
  generalize w3.drew = W0 at hS ⊢
  refine wpAnyH_pre (f := 18) (by kernel_rfl) #[true, false, false, true, false, false, false, false, false, false, false, false, false, false, false, false, false, false, false, false] [(0, true), (3, true)] _ _ _ (by kernel_rfl) hS ?_
  simp only [List.map_cons, List.map_nil, Array.getD_eq_getD_getElem?, List.getElem?_toArray, List.getElem?_cons_succ, List.getElem?_cons_zero, Option.getD_some]
  refine wpMix_s (fun K hK => ?_)
  go_simp
  refine hK _ ?_
  clear hK K
  refine wpMix_s (fun K hK => ?_)
  go_simp
  refine hK _ ?_
  clear hK K
  refine wpMix_nil ?_
  intro _
  refine wpAnyH_shared (T := Value × Value) 14 #[true, true, true, true, true, true, false, false, false, false, false, false, false, false, false, false, false, false, false, false] (fun v => [(26, .agg (q.map B).toArray), (27, v.1), (29, v.2), (30, .agg (q.map B).toArray)]) (fun _ W => Below w3.heap.size w3 W) ?tail ?head
  case head =>
    intro key
    simp only [List.foldl_cons, List.foldl_nil, Act.put, List.setIfInBounds_toArray, List.set_cons_succ, List.set_cons_zero] at key
    refine wpAnyH_fork (f := 17) (i := 1) (j := 2) (by kernel_rfl) hS ?_ ?_
    · simp only [Array.getD_eq_getD_getElem?, List.getElem?_toArray, List.getElem?_cons_succ, List.getElem?_cons_zero, Option.getD_some]
      refine wpMix_c (fun K hK => ?_) hS
      go_simp
      refine (Hleaf.out W0 hS).mono ?_
      rintro e W1 ⟨rfl, hb'⟩
      refine hK _ _ ?_
      clear hK K
      replace hS := hS.trans (hb'.mono hS.size)
      refine ⟨hS, ?_⟩
      clear hb'
      refine wpMix_nil ?_
      intro hS
      show wpAnyH _ _ _ _ _ _ #[true, true, false, true, false, false, false, false, false, false, false, false, false, false, false, false, false, false, false, false] _ _
      refine wpAnyH_pre (f := 14) (by kernel_rfl) #[true, true, true, true, true, true, false, false, false, false, false, false, false, false, false, false, false, false, false, false] [(2, false), (4, false), (5, false)] _ _ _ (by kernel_rfl) hS ?_
      simp only [List.map_cons, List.map_nil, Array.getD_eq_getD_getElem?, List.getElem?_toArray, List.getElem?_cons_succ, List.getElem?_cons_zero, Option.getD_some]
      refine wpMix_c (fun K hK => ?_) hS
      go_simp
      refine hK _ _ ?_
      clear hK K
      refine mix_world (fun W => Below w3.heap.size w3 W ∧ Sl W (fun _ => True) (some ⟨W1.heap.size, 0, none⟩) 1 1 [0]) ⟨hS.alloc hS.size _, ⟨Bs.new W1 (fun _ => True) 5 ([(0 : UInt8)].map B) trivial, rfl, Nat.le_refl _, (fun h => by cases h), by decide⟩⟩ (fun _ h => h.1) ?_
      clear hS
      rintro W2 ⟨hS, hz⟩
      refine wpMix_c (fun K hK => ?_) hS
      go_simp
      refine hK _ _ ?_
      clear hK K
      refine mix_world (fun W => Below w3.heap.size w3 W ∧ BsS W (· < W.heap.size) (some ⟨W2.heap.size, 0, none⟩) [[0], a]) ⟨hS.alloc hS.size _, BsS.pair hz (hC3.step hS).sa rfl rfl⟩ (fun _ h => h.1) ?_
      clear hS hz
      rintro W3 ⟨hS, hp⟩
      refine wpMix_c (fun K hK => ?_) hS
      go_simp
      refine (Hofl.out W3 _ hp).mono ?_
      rintro e W4 ⟨rfl, hb'⟩
      refine hK _ _ ?_
      clear hK K
      replace hS := hS.trans (hb'.mono hS.size)
      refine ⟨hS, ?_⟩
      clear hb'
      refine wpMix_nil ?_
      intro hS
      exact key (_, _) _ hS
    · simp only [Array.getD_eq_getD_getElem?, List.getElem?_toArray, List.getElem?_cons_succ, List.getElem?_cons_zero, Option.getD_some]
      refine wpMix_c (fun K hK => ?_) hS
      go_simp
      refine hK _ _ ?_
      clear hK K
      refine mix_world (fun W => Below w3.heap.size w3 W ∧ Sl W (fun _ => True) (some ⟨W0.heap.size, 0, none⟩) 1 1 [0]) ⟨hS.alloc hS.size _, ⟨Bs.new W0 (fun _ => True) 5 ([(0 : UInt8)].map B) trivial, rfl, Nat.le_refl _, (fun h => by cases h), by decide⟩⟩ (fun _ h => h.1) ?_
      clear hS
      rintro W1 ⟨hS, hz⟩
      refine wpMix_nil ?_
      intro hS
      show wpAnyH _ _ _ _ _ _ #[true, false, true, true, false, false, false, false, false, false, false, false, false, false, false, false, false, false, false, false] _ _
      refine wpAnyH_fork (f := 16) (i := 1) (j := 4) (by kernel_rfl) hS ?_ ?_
      · simp only [Array.getD_eq_getD_getElem?, List.getElem?_toArray, List.getElem?_cons_succ, List.getElem?_cons_zero, Option.getD_some]
        refine wpMix_c (fun K hK => ?_) hS
        go_simp
        refine (Hleaf.out W1 hS).mono ?_
        rintro e W2 ⟨rfl, hb'⟩
        refine hK _ _ ?_
        clear hK K
        replace hS := hS.trans (hb'.mono hS.size)
        refine ⟨hS, ?_⟩
        replace hz := hz.step hb'
        clear hb'
        refine wpMix_nil ?_
        intro hS
        show wpAnyH _ _ _ _ _ _ #[true, true, true, true, false, false, false, false, false, false, false, false, false, false, false, false, false, false, false, false] _ _
        refine wpAnyH_pre (f := 14) (by kernel_rfl) #[true, true, true, true, true, true, false, false, false, false, false, false, false, false, false, false, false, false, false, false] [(4, false), (5, false)] _ _ _ (by kernel_rfl) hS ?_
        simp only [List.map_cons, List.map_nil, Array.getD_eq_getD_getElem?, List.getElem?_toArray, List.getElem?_cons_succ, List.getElem?_cons_zero, Option.getD_some]
        refine wpMix_c (fun K hK => ?_) hS
        go_simp
        refine hK _ _ ?_
        clear hK K
        refine mix_world (fun W => Below w3.heap.size w3 W ∧ BsS W (· < W.heap.size) (some ⟨W2.heap.size, 0, none⟩) [[0], a]) ⟨hS.alloc hS.size _, BsS.pair hz (hC3.step hS).sa rfl rfl⟩ (fun _ h => h.1) ?_
        clear hS hz
        rintro W3 ⟨hS, hp⟩
        refine wpMix_c (fun K hK => ?_) hS
        go_simp
        refine (Hofl.out W3 _ hp).mono ?_
        rintro e W4 ⟨rfl, hb'⟩
        refine hK _ _ ?_
        clear hK K
        replace hS := hS.trans (hb'.mono hS.size)
        refine ⟨hS, ?_⟩
        clear hb'
        refine wpMix_nil ?_
        intro hS
        exact key (_, _) _ hS
      · simp only [Array.getD_eq_getD_getElem?, List.getElem?_toArray, List.getElem?_cons_succ, List.getElem?_cons_zero, Option.getD_some]
        refine wpMix_c (fun K hK => ?_) hS
        go_simp
        refine hK _ _ ?_
        clear hK K
        refine mix_world (fun W => Below w3.heap.size w3 W ∧ BsS W (· < W.heap.size) (some ⟨W1.heap.size, 0, none⟩) [[0], a]) ⟨hS.alloc hS.size _, BsS.pair hz (hC3.step hS).sa rfl rfl⟩ (fun _ h => h.1) ?_
        clear hS hz
        rintro W2 ⟨hS, hp⟩
        refine wpMix_nil ?_
        intro hS
        show wpAnyH _ _ _ _ _ _ #[true, false, true, true, true, false, false, false, false, false, false, false, false, false, false, false, false, false, false, false] _ _
        refine wpAnyH_pre (f := 14) (by kernel_rfl) #[true, true, true, true, true, true, false, false, false, false, false, false, false, false, false, false, false, false, false, false] [(1, false), (5, false)] _ _ _ (by kernel_rfl) hS ?_
        simp only [List.map_cons, List.map_nil, Array.getD_eq_getD_getElem?, List.getElem?_toArray, List.getElem?_cons_succ, List.getElem?_cons_zero, Option.getD_some]
        refine wpMix_c (fun K hK => ?_) hS
        go_simp
        refine (Hleaf.out W2 hS).mono ?_
        rintro e W3 ⟨rfl, hb'⟩
        refine hK _ _ ?_
        clear hK K
        replace hS := hS.trans (hb'.mono hS.size)
        refine ⟨hS, ?_⟩
        replace hp := hp.step hb'
        clear hb'
        refine wpMix_c (fun K hK => ?_) hS
        go_simp
        refine (Hofl.out W3 _ hp).mono ?_
        rintro e W4 ⟨rfl, hb'⟩
        refine hK _ _ ?_
        clear hK K
        replace hS := hS.trans (hb'.mono hS.size)
        refine ⟨hS, ?_⟩
        clear hb'
        refine wpMix_nil ?_
        intro hS
        exact key (_, _) _ hS
  case tail =>
    clear hS
    rintro ⟨v27, v29⟩ W0 hS
    simp only [List.foldl_cons, List.foldl_nil, Act.put, List.setIfInBounds_toArray, List.set_cons_succ, List.set_cons_zero]
    refine wpAnyH_pre (f := 5) (by kernel_rfl) #[true, true, true, true, true, true, true, true, true, true, true, true, false, true, true, true, false, false, false, false] [(6, true), (7, true), (8, true), (9, true), (10, true), (11, true), (13, true), (14, true), (15, true)] _ _ _ (by kernel_rfl) hS ?_
    simp only [List.map_cons, List.map_nil, Array.getD_eq_getD_getElem?, List.getElem?_toArray, List.getElem?_cons_succ, List.getElem?_cons_zero, Option.getD_some]
    refine wpMix_v (by kernel_rfl) (.bool false) (fun s => run_neq26_f (.tmp 26) (.tmp 30) _ q q rfl rfl rfl Hslen.out Hslen.out rfl s.W) ?_
    simp only [Act.put]
    refine wpMix_s (fun K hK => ?_)
    go_simp
    refine hK _ ?_
    clear hK K
    refine wpMix_s (fun K hK => ?_)
    go_simp
    refine hK _ ?_
    clear hK K
    refine wpMix_load (by kernel_rfl) 26 (.tmp 33) rfl (w.heap.size) (0) rfl (x.map B).toArray (fun s => Hxd.out s.W s.ok) ?_
    simp only [Act.put]
    refine wpMix_s (fun K hK => ?_)
    go_simp
    refine hK _ ?_
    clear hK K
    refine wpMix_load (by kernel_rfl) 26 (.tmp 35) rfl (w.heap.size) (32) rfl (y.map B).toArray (fun s => Hyd.out s.W s.ok) ?_
    simp only [Act.put]
    refine wpMix_s (fun K hK => ?_)
    go_simp
    refine hK _ ?_
    clear hK K
    refine wpMix_s (fun K hK => ?_)
    go_simp
    refine hK _ ?_
    clear hK K
    refine wpMix_v (by kernel_rfl) (.slice (some ⟨w.heap.size, 32, none⟩) 32 32) (fun s => by unfold execOp; simp only [Act.eval, Array.getD_eq_getD_getElem?, List.getElem?_toArray, List.getElem?_cons_succ, List.getElem?_cons_zero, Option.getD_some, Sem.run_bind, Sem.run_pure]; rfl) ?_
    simp only [Act.put]
    refine wpMix_nil ?_
    intro _
    refine wpAnyH_shared (T := Value) 2 #[true, true, true, true, true, true, true, true, true, true, true, true, true, true, true, true, true, true, false, false] (fun t' => [(37, .agg (t.map B).toArray), (41, t'), (42, .agg (t.map B).toArray)]) (fun _ W => Below w3.heap.size w3 W) ?tail2 ?head2
    case head2 =>
      intro key
      simp only [List.foldl_cons, List.foldl_nil, Act.put, List.setIfInBounds_toArray, List.set_cons_succ, List.set_cons_zero] at key
      refine wpAnyH_fork (f := 4) (i := 12) (j := 16) (by kernel_rfl) hS ?_ ?_
      · simp only [Array.getD_eq_getD_getElem?, List.getElem?_toArray, List.getElem?_cons_succ, List.getElem?_cons_zero, Option.getD_some]
        refine wpMix_c (fun K hK => ?_) hS
        go_simp
        refine (Hnode.out W0).mono ?_
        rintro e W1 ⟨rfl, hb'⟩
        refine hK _ _ ?_
        clear hK K
        replace hS := hS.trans (hb'.mono hS.size)
        refine ⟨hS, ?_⟩
        clear hb'
        refine wpMix_nil ?_
        intro hS
        show wpAnyH _ _ _ _ _ _ #[true, true, true, true, true, true, true, true, true, true, true, true, true, true, true, true, false, false, false, false] _ _
        refine wpAnyH_pre (f := 2) (by kernel_rfl) #[true, true, true, true, true, true, true, true, true, true, true, true, true, true, true, true, true, true, false, false] [(16, false), (17, false)] _ _ _ (by kernel_rfl) hS ?_
        simp only [List.map_cons, List.map_nil, Array.getD_eq_getD_getElem?, List.getElem?_toArray, List.getElem?_cons_succ, List.getElem?_cons_zero, Option.getD_some]
        refine wpMix_c (fun K hK => ?_) hS
        go_simp
        refine hK _ _ ?_
        clear hK K
        refine mix_world (fun W => Below w3.heap.size w3 W ∧ BsS W (· < W.heap.size) (some ⟨W1.heap.size, 0, none⟩) [[1] ++ x, y]) ⟨hS.alloc hS.size _, BsS.pair (hs7.step hS) (hC3.step hS).sy rfl rfl⟩ (fun _ h => h.1) ?_
        clear hS
        rintro W2 ⟨hS, hp⟩
        refine wpMix_c (fun K hK => ?_) hS
        go_simp
        refine (Hofn.out W2 _ hp).mono ?_
        rintro e W3 ⟨rfl, hb'⟩
        refine hK _ _ ?_
        clear hK K
        replace hS := hS.trans (hb'.mono hS.size)
        refine ⟨hS, ?_⟩
        clear hb'
        refine wpMix_nil ?_
        intro hS
        exact key _ _ hS
      · simp only [Array.getD_eq_getD_getElem?, List.getElem?_toArray, List.getElem?_cons_succ, List.getElem?_cons_zero, Option.getD_some]
        refine wpMix_c (fun K hK => ?_) hS
        go_simp
        refine hK _ _ ?_
        clear hK K
        refine mix_world (fun W => Below w3.heap.size w3 W ∧ BsS W (· < W.heap.size) (some ⟨W0.heap.size, 0, none⟩) [[1] ++ x, y]) ⟨hS.alloc hS.size _, BsS.pair (hs7.step hS) (hC3.step hS).sy rfl rfl⟩ (fun _ h => h.1) ?_
        clear hS
        rintro W1 ⟨hS, hp⟩
        refine wpMix_nil ?_
        intro hS
        show wpAnyH _ _ _ _ _ _ #[true, true, true, true, true, true, true, true, true, true, true, true, false, true, true, true, true, false, false, false] _ _
        refine wpAnyH_pre (f := 2) (by kernel_rfl) #[true, true, true, true, true, true, true, true, true, true, true, true, true, true, true, true, true, true, false, false] [(12, false), (17, false)] _ _ _ (by kernel_rfl) hS ?_
        simp only [List.map_cons, List.map_nil, Array.getD_eq_getD_getElem?, List.getElem?_toArray, List.getElem?_cons_succ, List.getElem?_cons_zero, Option.getD_some]
        refine wpMix_c (fun K hK => ?_) hS
        go_simp
        refine (Hnode.out W1).mono ?_
        rintro e W2 ⟨rfl, hb'⟩
        refine hK _ _ ?_
        clear hK K
        replace hS := hS.trans (hb'.mono hS.size)
        refine ⟨hS, ?_⟩
        replace hp := hp.step hb'
        clear hb'
        refine wpMix_c (fun K hK => ?_) hS
        go_simp
        refine (Hofn.out W2 _ hp).mono ?_
        rintro e W3 ⟨rfl, hb'⟩
        refine hK _ _ ?_
        clear hK K
        replace hS := hS.trans (hb'.mono hS.size)
        refine ⟨hS, ?_⟩
        clear hb'
        refine wpMix_nil ?_
        intro hS
        exact key _ _ hS
    case tail2 =>
      clear hS
      rintro v41 W0 hS
      simp only [List.foldl_cons, List.foldl_nil, Act.put, List.setIfInBounds_toArray, List.set_cons_succ, List.set_cons_zero]
      refine wpAnyH_pre (f := 0) (by kernel_rfl) #[true, true, true, true, true, true, true, true, true, true, true, true, true, true, true, true, true, true, true, true] [(18, true), (19, true)] _ _ _ (by kernel_rfl) hS ?_
      simp only [List.map_cons, List.map_nil, Array.getD_eq_getD_getElem?, List.getElem?_toArray, List.getElem?_cons_succ, List.getElem?_cons_zero, Option.getD_some]
      refine wpMix_v (by kernel_rfl) (.bool false) (fun s => run_neq26_f (.tmp 37) (.tmp 42) _ t t rfl rfl rfl Htl.out Htl.out rfl s.W) ?_
      simp only [Act.put]
      refine wpMix_s (fun K hK => ?_)
      go_simp
      refine hK _ ?_
      clear hK K
      refine wpMix_nil ?_
      intro _
      refine wpAnyH_end (by kernel_rfl) ?_
      have hC4 := hC3.step hS
      clear hS hC3 hs7
      generalize hfin : W0 = W4 at hC4
      subst hfin
      obtain ⟨zs, hzs⟩ : ∃ zs, zeroHash = zs := ⟨_, rfl⟩
      have hzl : zs.size = 32 := by rw [← hzs]; rfl
      have hzm : ((List.replicate 32 (0 : UInt8)).map B).toArray = zs := hzs
      have Hzs := Lib.hid hzs
      have Hzl := Lib.hid hzl
      clear hzs hzl
      obtain ⟨p, er, hp⟩ : ∃ p er, topR hs = (p, er) := ⟨_, _, rfl⟩
      obtain ⟨p2, hp2⟩ : ∃ p2, topR (hs ++ hs) = (p2, er) ∧ p.length = 32 ∧ p2.length = 32 ∧ (er = 0 ∧ hNode p p = p2 ∨ er = 2) := by
        have hl2 : (hs ++ hs).length = hs.length + hs.length := List.length_append
        unfold topR at hp ⊢
        rw [hl2, pow2_double]
        cases hpow : pow2 hs.length with
        | true =>
          rw [hpow] at hp
          simp only [if_true, Prod.mk.injEq] at hp ⊢
          obtain ⟨rfl, rfl⟩ := hp
          exact ⟨_, ⟨rfl, rfl⟩, length_topL _ hC4.sl.all, length_topL _ (hC4.sl.all.append hC4.sl.all), .inl ⟨rfl, (topL_double _ _ (Nat.le_refl _) hpow).symm⟩⟩
        | false =>
          rw [hpow] at hp
          simp only [Bool.false_eq_true, if_false, Prod.mk.injEq] at hp ⊢
          obtain ⟨rfl, rfl⟩ := hp
          exact ⟨_, ⟨rfl, rfl⟩, by simp, by simp, .inr rfl⟩
      obtain ⟨hp2, hpl, hpl2, her⟩ := hp2
      have htop := top_any hs A' n' c' W0 hC4.sl (by omega)
      rw [hp] at htop
      have Hp := Lib.hid hp
      have Hp2 := Lib.hid hp2
      have Hpl := Lib.hid hpl
      have Hpl2 := Lib.hid hpl2
      have Htop := Lib.hid htop
      clear hp hp2 hpl hpl2 htop hzm
      go_wp2_with fail
      refine Htop.out.mono ?_
      rintro e W5 ⟨rfl, hb5⟩
      have hC5 := hC4.step hb5
      have b6 : Below W5.heap.size W5 (W5.alloc (.cells zs 26)) := (Below.refl _ _).alloc (Nat.le_refl _) _
      have k6 : Blk (W5.alloc (.cells zs 26)) W5.heap.size 26 zs := Blk.new _ _ _
      have b7 : Below W5.heap.size W5 ((W5.alloc (.cells zs 26)).setRow W5.heap.size (p.map B).toArray) := below_setRow b6 (Nat.le_refl _) _
      have k7 := k6.setRow_ (p.map B).toArray
      obtain ⟨W7, hW7⟩ : ∃ W7, (W5.alloc (.cells zs 26)).setRow W5.heap.size (p.map B).toArray = W7 := ⟨_, rfl⟩
      rw [hW7] at b7 k7
      have hC7 := hC5.step b7
      obtain ⟨v9, W9, A10, c10, W10, hr9, hr10, hs10, b10⟩ := dbl_any hs A' n' c' W7 hC7.sl (by omega)
      have htop2 := top_any (hs ++ hs) A10 (n' + n') c10 W10 hs10 (by omega)
      rw [Hp2.out] at htop2
      have k10 := k7.below b10 k7.lt
      have hC10 := hC7.step b10
      have Hr9 := Lib.hid hr9
      have Hr10 := Lib.hid hr10
      have HW7 := Lib.hid hW7
      have Htop2 := Lib.hid htop2
      clear hb5 b6 b7 k7 hr9 hr10 hW7 htop2 Htop hC4 hC5 hs10 hC7
      have hne : ((er : Int) != er) = false := by simp
      go_wp2_with (first
        | ((with_reducible show wpList _ _ _ (⟨some 8, .alloc _, _, _, _, _⟩ :: _) _ _); refine wpList_run rfl (.pointer (some ⟨W5.heap.size, 0, none⟩)) (W5.alloc (.cells zs 26)) (by rw [← Hzs.out]; rfl) ?_; simp only [Act.put])
        | ((with_reducible show wpList _ _ _ (⟨none, .store _ (.tmp 8) _, _, _, _, _⟩ :: _) _ _); refine wpList_store_blk rfl 26 (.tmp 8) (.tmp 48) rfl 32 size26 W5.heap.size (p.map B).toArray rfl rfl (by simp [Hpl.out]) (oneCell_B _) 26 _ k6 Hzl.out ?_; rw [HW7.out]; simp only [Act.put])
        | ((with_reducible show wpList _ _ _ (⟨some 53, .call _, _, _, _, _⟩ :: _) _ _); refine wpList_run rfl v9 W9 (run_append_op (.tmp 51) (.tmp 52) 57 rfl _ _ rfl rfl Hr9.out) ?_; simp only [Act.put])
        | ((with_reducible show wpList _ _ _ (⟨some 55, .call _, _, _, _, _⟩ :: _) _ _); refine wpList_run rfl _ W10 (run_append_op (.tmp 53) (.tmp 54) 57 rfl _ _ rfl rfl Hr10.out) ?_; simp only [Act.put])
        | (go_at_call 40; refine Htop2.out.mono ?_; rintro e W11 ⟨rfl, hb11⟩; have k11 := k10.below hb11 k10.lt; have hC11 := hC10.step hb11; clear hb11 k10 hC10)
        | ((with_reducible show wpList _ _ _ (⟨some 10, .alloc _, _, _, _, _⟩ :: _) _ _); refine wpList_run rfl (.pointer (some ⟨W11.heap.size, 0, none⟩)) (W11.alloc (.cells zs 26)) (by rw [← Hzs.out]; rfl) ?_; simp only [Act.put])
        | ((with_reducible show wpList _ _ _ (⟨none, .store _ (.tmp 10) _, _, _, _, _⟩ :: _) _ _); refine wpList_store_blk rfl 26 (.tmp 10) (.tmp 57) rfl 32 size26 W11.heap.size (p2.map B).toArray rfl rfl (by simp [Hpl2.out]) (oneCell_B _) 26 _ (Blk.new _ _ _) Hzl.out ?_; simp only [Act.put]))
      have b12 : Below W11.heap.size W11 ((W11.alloc (.cells zs 26)).setRow W11.heap.size (p2.map B).toArray) := below_setRow ((Below.refl _ _).alloc (Nat.le_refl _) _) (Nat.le_refl _) _
      have k12 := k11.below b12 k11.lt
      have k12' : Blk ((W11.alloc (.cells zs 26)).setRow W11.heap.size (p2.map B).toArray) W11.heap.size 26 (p2.map B).toArray := (Blk.new _ _ _).setRow_ _
      have hC12 := hC11.step b12
      clear k11 hC11 k6
      generalize (W11.alloc (.cells zs 26)).setRow W11.heap.size (p2.map B).toArray = W12 at b12 k12 k12' hC12 ⊢
      refine wp_region_mix (fun W => Below W12.heap.size W12 W) [(0, true), (1, false), (2, true), (3, true), (4, true), (5, true), (6, true), (7, false), (8, true), (9, true), (10, true), (11, false), (12, true), (13, true)] (by kernel_rfl) (by kernel_rfl) (Below.refl _ _).drew fun _ => ?_
      simp only [List.map_cons, List.map_nil, Array.getD_eq_getD_getElem?, List.getElem?_toArray, List.getElem?_cons_succ, List.getElem?_cons_zero, Option.getD_some]
      have hS : Below W12.heap.size W12 W12.drew := (Below.refl _ _).drew
      generalize W12.drew = V0 at hS ⊢
      rcases her with ⟨rfl, hnn⟩ | rfl
      · refine wpMix_s (fun K hK => ?_)
        go_simp
        refine hK _ ?_
        clear hK K
        refine wpMix_c (fun K hK => ?_) hS
        go_simp
        refine (num_any 0 V0).mono ?_
        rintro e W' ⟨rfl, rfl⟩
        refine hK _ _ ?_
        clear hK K
        refine ⟨hS, ?_⟩
        refine wpMix_s (fun K hK => ?_)
        go_simp
        refine hK _ ?_
        clear hK K
        refine wpMix_s (fun K hK => ?_)
        go_simp
        refine hK _ ?_
        clear hK K
        refine wpMix_load (by kernel_rfl) 26 (.tmp 10) rfl (W11.heap.size) (0) rfl (p2.map B).toArray (fun s => run_load_blk (agg26 _) (size26 _) _ _ (by simp [Hpl2.out]) (k12'.below s.ok k12'.lt)) ?_
        simp only [Act.put]
        refine wpMix_load (by kernel_rfl) 26 (.tmp 8) rfl (W5.heap.size) (0) rfl (p.map B).toArray (fun s => run_load_blk (agg26 _) (size26 _) _ _ (by simp [Hpl.out]) (k12.below s.ok k12.lt)) ?_
        simp only [Act.put]
        refine wpMix_load (by kernel_rfl) 26 (.tmp 8) rfl (W5.heap.size) (0) rfl (p.map B).toArray (fun s => run_load_blk (agg26 _) (size26 _) _ _ (by simp [Hpl.out]) (k12.below s.ok k12.lt)) ?_
        simp only [Act.put]
        refine wpMix_c (fun K hK => ?_) hS
        go_simp
        refine (hnode_any p p V0 Hpl.out Hpl.out).mono ?_
        rintro e V1 ⟨rfl, hb'⟩
        refine hK _ _ ?_
        clear hK K
        replace hS := hS.trans (hb'.mono hS.size)
        refine ⟨hS, ?_⟩
        clear hb'
        rw [hnn]
        refine wpMix_v (by kernel_rfl) (.bool true) (fun s => run_eql26_t (.tmp 66) (.tmp 69) _ p2 p2 rfl rfl rfl Hpl2.out Hpl2.out rfl s.W) ?_
        simp only [Act.put]
        refine wpMix_s (fun K hK => ?_)
        go_simp
        refine hK _ ?_
        clear hK K
        refine wpMix_s (fun K hK => ?_)
        go_simp
        refine hK _ ?_
        clear hK K
        refine wpMix_c (fun K hK => ?_) hS
        go_simp
        refine (works_any V1).mono ?_
        rintro e V2 ⟨rfl, hb'⟩
        refine hK _ _ ?_
        clear hK K
        replace hS := hS.trans (hb'.mono hS.size)
        refine ⟨hS, ?_⟩
        clear hb'
        refine wpMix_s (fun K hK => ?_)
        go_simp
        refine hK _ ?_
        clear hK K
        refine wpMix_s (fun K hK => ?_)
        go_simp
        refine hK _ ?_
        clear hK K
        refine wpMix_nil ?_
        intro _
        go_wp2_with fail
        go_ret
        exact ⟨rfl, hC12.bel.trans (hS.mono hC12.bel.size)⟩
      · refine wpMix_s (fun K hK => ?_)
        go_simp
        refine hK _ ?_
        clear hK K
        refine wpMix_c (fun K hK => ?_) hS
        go_simp
        refine (num_any 2 V0).mono ?_
        rintro e W' ⟨rfl, rfl⟩
        refine hK _ _ ?_
        clear hK K
        refine ⟨hS, ?_⟩
        refine wpMix_s (fun K hK => ?_)
        go_simp
        refine hK _ ?_
        clear hK K
        refine wpMix_s (fun K hK => ?_)
        go_simp
        refine hK _ ?_
        clear hK K
        refine wpMix_s (fun K hK => ?_)
        go_simp
        refine hK _ ?_
        clear hK K
        refine wpMix_s (fun K hK => ?_)
        go_simp
        refine hK _ ?_
        clear hK K
        refine wpMix_s (fun K hK => ?_)
        go_simp
        refine hK _ ?_
        clear hK K
        refine wpMix_c (fun K hK => ?_) hS
        go_simp
        refine hK _ _ ⟨hS, ?_⟩
        clear hK K
        refine wpMix_s (fun K hK => ?_)
        go_simp
        refine hK _ ?_
        clear hK K
        refine wpMix_s (fun K hK => ?_)
        go_simp
        refine hK _ ?_
        clear hK K
        refine wpMix_s (fun K hK => ?_)
        go_simp
        refine hK _ ?_
        clear hK K
        refine wpMix_c (fun K hK => ?_) hS
        go_simp
        refine (works_any V0).mono ?_
        rintro e V2 ⟨rfl, hb'⟩
        refine hK _ _ ?_
        clear hK K
        replace hS := hS.trans (hb'.mono hS.size)
        refine ⟨hS, ?_⟩
        clear hb'
        refine wpMix_s (fun K hK => ?_)
        go_simp
        refine hK _ ?_
        clear hK K
        refine wpMix_s (fun K hK => ?_)
        go_simp
        refine hK _ ?_
        clear hK K
        refine wpMix_nil ?_
        intro _
        go_wp2_with fail
        go_ret
        exact ⟨rfl, hC12.bel.trans (hS.mono hC12.bel.size)⟩
end Go.Proofs.Ytdkgndjomkbbjaa
