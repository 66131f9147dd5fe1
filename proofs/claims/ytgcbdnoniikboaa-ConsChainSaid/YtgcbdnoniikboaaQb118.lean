/- notaryref09.Stretch, tree.Node, notaryref09.Node. -/
import Derived.Test.YtgcbdnoniikboaaQb117
import Derived.Test.YtgcbdnoniikboaaQb109
namespace Go.Proofs.Ytgcbdnoniikboaa
open Go Go.RowKit

set_option maxHeartbeats 2000000 in
set_option maxRecDepth 100000 in
theorem rstretch_ok (hs : List (List UInt8)) (A : Option Addr) (n c : Nat) (w : World) (a b : Nat) (h : Hs w (fun _ => True) A n c hs) (hn : n ≤ 4398046511104) (hab : a < b) (hb : b ≤ n) :
    Calls Try.prog 33 #[.slice A n c, .agg #[.int .i64 (a : Int), .int .i64 (b : Int)]] w fun e w' => e = .returned (.tuple #[.agg ((stretchL hs a b).map B).toArray, .int .i64 0]) ∧ Below w.heap.size w w' := by
  obtain ⟨zs, hzs⟩ : ∃ zs, zeroHash = zs := ⟨_, rfl⟩
  have hzl : zs.size = 32 := by rw [← hzs]; rfl
  have hroom := h.sl.room
  have hmax := h.sl.max
  unfold maxLen at hmax
  have hbx := (Below.refl w.heap.size w).alloc (Nat.le_refl _) (.cells #[.int .i64 (a : Int), .int .i64 (b : Int)] 29)
  have x0 := Blk.new w 29 #[.int .i64 (a : Int), .int .i64 (b : Int)]
  have hb0 := hbx.alloc hbx.size (.cells zs 34)
  have k0 := Blk.new (w.alloc (.cells #[.int .i64 (a : Int), .int .i64 (b : Int)] 29)) 34 zs
  have x1 := x0.alloc (.cells zs 34)
  have h0 := (h.step hb0).drop a (by omega)
  rw [if_neg (by omega)] at h0
  have h1 := h0.take (b - a) (by omega)
  have hof := fun W (hW : Below ((w.alloc (.cells #[.int .i64 (a : Int), .int .i64 (b : Int)] 29)).alloc (.cells zs 34)).heap.size ((w.alloc (.cells #[.int .i64 (a : Int), .int .i64 (b : Int)] 29)).alloc (.cells zs 34)) W) => rof_any ((hs.drop a).take (b - a)) _ (b - a) (c - a) W (h1.step hW) (by omega)
  obtain ⟨r, hr⟩ : ∃ r, stretchL hs a b = r := ⟨_, rfl⟩
  have hrl : r.length = 32 := by rw [← hr]; exact length_stretchL hs _ _ h.all
  rw [show rootL ((hs.drop a).take (b - a)) = r from hr] at hof
  rw [hr]
  have e0 : ((w.alloc (.cells #[.int .i64 (a : Int), .int .i64 (b : Int)] 29)).alloc (.cells zs 34)).cell? ⟨w.heap.size, 0, none⟩ = some (.int .i64 (a : Int)) := by rw [x1.cell]; rfl
  have e1 : ((w.alloc (.cells #[.int .i64 (a : Int), .int .i64 (b : Int)] 29)).alloc (.cells zs 34)).cell? ⟨w.heap.size, 1, none⟩ = some (.int .i64 (b : Int)) := by rw [x1.cell]; rfl
  have Hof := Lib.hid hof
  have Hzs := Lib.hid hzs
  have Hrl := Lib.hid hrl
  have d0 : decide ((a : Int) < 0) = false := by simp
  have d1 : decide ((b : Int) ≤ (a : Int)) = false := by simp; omega
  have d1' : decide (b ≤ a) = false := by simp; omega
  have d2 : decide ((n : Int) < (b : Int)) = false := by simp; omega
  have d2' : decide (n < b) = false := by simp; omega
  clear hof hzs hrl hr h h0 h1 x0 x1 hbx
  go_enter Try.func33, Try.ntmps33
  go_wp2_with (first
    | ((with_reducible show wpList _ _ _ (⟨some 4, .alloc _, _, _, _, _⟩ :: _) _ _); refine wpList_run rfl (.pointer (some ⟨(w.alloc (.cells #[.int .i64 (a : Int), .int .i64 (b : Int)] 29)).heap.size, 0, none⟩)) ((w.alloc (.cells #[.int .i64 (a : Int), .int .i64 (b : Int)] 29)).alloc (.cells zs 34)) (by rw [← Hzs.out]; rfl) ?_; simp only [Act.put]))
  refine (Hof.out _ (Below.refl _ _)).mono ?_
  rintro e w2 ⟨rfl, hb2⟩
  have k2 := k0.below hb2 k0.lt
  rw [show (w.alloc (.cells #[.int .i64 (a : Int), .int .i64 (b : Int)] 29)).heap.size = w.heap.size + 1 by simp] at k2
  have B2 := hb0.trans (hb2.mono hb0.size)
  clear e0 e1 d0 d1 d1' d2 d2' Hof
  go_wp2_with ((with_reducible show wpList _ _ _ (⟨none, .store _ _ _, _, _, _, _⟩ :: _) _ _); refine wpList_store_blk rfl 34 (.tmp 4) (.tmp 30) rfl 32 size26 (w.heap.size + 1) (r.map B).toArray rfl rfl (by simp [Hrl.out]) (oneCell_B _) 34 _ k2 hzl ?_; simp only [Act.put])
  refine bodyPost_ret (tuple_cellT rfl _ _ (w.heap.size + 1) (r.map B).toArray _ _ rfl (k2.setRow_ _) Try.underlying34 (by rw [show (r.map B).toArray.size = 32 by simp [Hrl.out]]; exact info26)) rfl ⟨rfl, ?_⟩
  exact below_setRow B2 (by omega) _

set_option maxHeartbeats 2000000 in
set_option maxRecDepth 100000 in
theorem rstretch_bad (A : Option Addr) (n c : Nat) (w : World) (a b : Int) (hbad : a < 0 ∨ b ≤ a ∨ n < b) :
    Calls Try.prog 33 #[.slice A n c, .agg #[.int .i64 a, .int .i64 b]] w fun e w' => e = .returned (.tuple #[.agg zeroHash, .int .i64 4]) ∧ Below w.heap.size w w' := by
  obtain ⟨zs, hzs⟩ : ∃ zs, zeroHash = zs := ⟨_, rfl⟩
  have hzl : zs.size = 32 := by rw [← hzs]; rfl
  have hz1 : ∀ v ∈ zs.toList, v.oneCell' = true := by rw [← hzs]; exact oneCell_B _
  rw [hzs]
  have hbx := (Below.refl w.heap.size w).alloc (Nat.le_refl _) (.cells #[.int .i64 a, .int .i64 b] 29)
  have x0 := Blk.new w 29 #[.int .i64 a, .int .i64 b]
  have hb0 := hbx.alloc hbx.size (.cells zs 34)
  have k0 := Blk.new (w.alloc (.cells #[.int .i64 a, .int .i64 b] 29)) 34 zs
  have x1 := x0.alloc (.cells zs 34)
  rw [show (w.alloc (.cells #[.int .i64 a, .int .i64 b] 29)).heap.size = w.heap.size + 1 by simp] at k0
  have e0 : ((w.alloc (.cells #[.int .i64 a, .int .i64 b] 29)).alloc (.cells zs 34)).cell? ⟨w.heap.size, 0, none⟩ = some (.int .i64 a) := by rw [x1.cell]; rfl
  have e1 : ((w.alloc (.cells #[.int .i64 a, .int .i64 b] 29)).alloc (.cells zs 34)).cell? ⟨w.heap.size, 1, none⟩ = some (.int .i64 b) := by rw [x1.cell]; rfl
  have Hzs := Lib.hid hzs
  have Hz1 := Lib.hid hz1
  clear hzs hz1 x0 x1 hbx
  have hd : (decide (a < 0) = true) ∨ (decide (a < 0) = false ∧ decide (b ≤ a) = true) ∨ (decide (a < 0) = false ∧ decide (b ≤ a) = false ∧ decide ((n : Int) < b) = true) := by
    by_cases h1 : a < 0
    · exact .inl (decide_eq_true h1)
    · by_cases h2 : b ≤ a
      · exact .inr (.inl ⟨decide_eq_false h1, decide_eq_true h2⟩)
      · exact .inr (.inr ⟨decide_eq_false h1, decide_eq_false h2, decide_eq_true (by omega)⟩)
  clear hbad
  go_enter Try.func33, Try.ntmps33
  rcases hd with d1 | ⟨d1, d2⟩ | ⟨d1, d2, d3⟩
  all_goals
    go_wp2_with (first
      | ((with_reducible show wpList _ _ _ (⟨some 4, .alloc _, _, _, _, _⟩ :: _) _ _); refine wpList_run rfl (.pointer (some ⟨(w.alloc (.cells #[.int .i64 a, .int .i64 b] 29)).heap.size, 0, none⟩)) ((w.alloc (.cells #[.int .i64 a, .int .i64 b] 29)).alloc (.cells zs 34)) (by rw [← Hzs.out]; rfl) ?_; simp only [Act.put])
      | ((with_reducible show wpList _ _ _ (⟨some 23, .build _ _, _, _, _, _⟩ :: _) _ _); refine wpList_run0 rfl (.agg zs) (by rw [← Hzs.out]; kernel_rfl) ?_; simp only [Act.put])
      | ((with_reducible show wpList _ _ _ (⟨none, .store _ _ _, _, _, _, _⟩ :: _) _ _); refine wpList_store_blk rfl 34 (.tmp 4) (.tmp 23) rfl 32 size26 (w.heap.size + 1) zs rfl rfl hzl Hz1.out 34 _ k0 hzl ?_; simp only [Act.put]))
    refine bodyPost_ret (tuple_cellT rfl _ _ (w.heap.size + 1) zs _ _ rfl (k0.setRow_ _) Try.underlying34 (by rw [hzl]; exact info26)) rfl ⟨rfl, ?_⟩
    exact below_setRow hb0 (by omega) _

def zeroL : List UInt8 := List.replicate 32 0
def stretchR (hs : List (List UInt8)) (a b : Int) : List UInt8 × Int := if 0 ≤ a ∧ a < b ∧ b ≤ hs.length then (stretchL hs a.toNat b.toNat, 0) else (zeroL, 4)
theorem length_stretchR (hs : List (List UInt8)) (a b : Int) (h : H32 hs) : (stretchR hs a b).1.length = 32 := by
  unfold stretchR
  split
  · exact length_stretchL hs _ _ h
  · rfl
theorem tstretch_any (hs : List (List UInt8)) (A : Option Addr) (n c : Nat) (w : World) (a b : Int) (h : Hs w (fun _ => True) A n c hs) (hn : n ≤ 4398046511104) :
    Calls Try.prog 32 #[.slice A n c, .agg #[.int .i64 a, .int .i64 b]] w fun e w' => e = .returned (.tuple #[.agg ((stretchR hs a b).1.map B).toArray, .int .i64 (stretchR hs a b).2]) ∧ Below w.heap.size w w' := by
  have hl := h.len
  unfold stretchR
  by_cases hc : 0 ≤ a ∧ a < b ∧ b ≤ hs.length
  · rw [if_pos hc]
    obtain ⟨x, rfl⟩ : ∃ x : Nat, a = (x : Int) := ⟨a.toNat, by omega⟩
    obtain ⟨y, rfl⟩ : ∃ y : Nat, b = (y : Int) := ⟨b.toNat, by omega⟩
    rw [Int.toNat_natCast, Int.toNat_natCast]
    exact tstretch_ok hs A n c w x y h hn (by omega) (by omega)
  · rw [if_neg hc]
    exact tstretch_bad A n c w a b (by omega)
theorem rstretch_any (hs : List (List UInt8)) (A : Option Addr) (n c : Nat) (w : World) (a b : Int) (h : Hs w (fun _ => True) A n c hs) (hn : n ≤ 4398046511104) :
    Calls Try.prog 33 #[.slice A n c, .agg #[.int .i64 a, .int .i64 b]] w fun e w' => e = .returned (.tuple #[.agg ((stretchR hs a b).1.map B).toArray, .int .i64 (stretchR hs a b).2]) ∧ Below w.heap.size w w' := by
  have hl := h.len
  unfold stretchR
  by_cases hc : 0 ≤ a ∧ a < b ∧ b ≤ hs.length
  · rw [if_pos hc]
    obtain ⟨x, rfl⟩ : ∃ x : Nat, a = (x : Int) := ⟨a.toNat, by omega⟩
    obtain ⟨y, rfl⟩ : ∃ y : Nat, b = (y : Int) := ⟨b.toNat, by omega⟩
    rw [Int.toNat_natCast, Int.toNat_natCast]
    exact rstretch_ok hs A n c w x y h hn (by omega) (by omega)
  · rw [if_neg hc]
    exact rstretch_bad A n c w a b (by omega)

/-- a node by its level and its index -/
def nodeR (hs : List (List UInt8)) (lv ix : Int) : List UInt8 × Int :=
  if 0 ≤ lv ∧ lv ≤ 62 ∧ 0 ≤ ix ∧ ix.toNat ≤ hs.length / 2 ^ lv.toNat then stretchR hs ((ix.toNat * 2 ^ lv.toNat : Nat) : Int) ((ix.toNat * 2 ^ lv.toNat + 2 ^ lv.toNat : Nat) : Int) else (zeroL, 4)
theorem length_nodeR (hs : List (List UInt8)) (lv ix : Int) (h : H32 hs) : (nodeR hs lv ix).1.length = 32 := by
  unfold nodeR
  split
  · exact length_stretchR hs _ _ h
  · rfl

set_option maxHeartbeats 2000000 in
set_option maxRecDepth 100000 in
theorem tnode_ok (hs : List (List UInt8)) (A : Option Addr) (n c : Nat) (w : World) (l x : Nat) (h : Hs w (fun _ => True) A n c hs) (hn : n ≤ 1099511627776) (hl : l ≤ 62) (hx : x ≤ n / 2 ^ l) :
    Calls Try.prog 34 #[.slice A n c, .int .i64 (l : Int), .int .i64 (x : Int)] w fun e w' => e = .returned (.tuple #[.agg ((stretchR hs ((x * 2 ^ l : Nat) : Int) ((x * 2 ^ l + 2 ^ l : Nat) : Int)).1.map B).toArray, .int .i64 (stretchR hs ((x * 2 ^ l : Nat) : Int) ((x * 2 ^ l + 2 ^ l : Nat) : Int)).2]) ∧ Below w.heap.size w w' := by
  obtain ⟨zs, hzs⟩ : ∃ zs, zeroHash = zs := ⟨_, rfl⟩
  have hzl : zs.size = 32 := by rw [← hzs]; rfl
  have hroom := h.sl.room
  have hmax := h.sl.max
  unfold maxLen at hmax
  have hb0 := (Below.refl w.heap.size w).alloc (Nat.le_refl _) (.cells zs 34)
  have k0 := Blk.new w 34 zs
  have hpl : 2 ^ l ≤ 4611686018427387904 := Nat.le_trans (Nat.pow_le_pow_right (by decide) hl) (Nat.le_refl _)
  have hp := Nat.two_pow_pos l
  have hk2 : (2 : Int) ^ l = ((2 ^ l : Nat) : Int) := by simp
  have hxk : x * 2 ^ l ≤ n := Nat.le_trans (Nat.mul_le_mul_right _ hx) (Nat.div_mul_le_self n _)
  have hdiv : (n : Int) / ((2 ^ l : Nat) : Int) = ((n / 2 ^ l : Nat) : Int) := (Int.natCast_ediv _ _).symm
  have hmul : (x : Int) * ((2 ^ l : Nat) : Int) = ((x * 2 ^ l : Nat) : Int) := (Int.natCast_mul _ _).symm
  obtain ⟨q, hq⟩ : ∃ q, n / 2 ^ l = q := ⟨_, rfl⟩
  rw [hq] at hx hdiv
  obtain ⟨a, ha⟩ : ∃ a, x * 2 ^ l = a := ⟨_, rfl⟩
  rw [ha] at hxk hmul ⊢
  obtain ⟨k, hk⟩ : ∃ k, 2 ^ l = k := ⟨_, rfl⟩
  rw [hk] at hpl hp hk2 hdiv hmul ⊢
  have hst := fun W (hW : Below w.heap.size w W) => tstretch_any hs A n c W (a : Int) ((a + k : Nat) : Int) (h.step hW) (by omega)
  have hrl := length_stretchR hs (a : Int) ((a + k : Nat) : Int) h.all
  obtain ⟨r, hr⟩ : ∃ r, stretchR hs (a : Int) ((a + k : Nat) : Int) = r := ⟨_, rfl⟩
  rw [hr] at hst hrl ⊢
  rw [show ((a + k : Nat) : Int) = (a : Int) + (k : Int) by omega] at hst
  have hw1 : IntKind.i64.wrap (a : Int) = (a : Int) := IntWalk.i64_in _ (by omega)
  have hw2 : IntKind.i64.wrap (k : Int) = (k : Int) := IntWalk.i64_in _ (by omega)
  have hw3 : IntKind.i64.wrap ((a : Int) + (k : Int)) = (a : Int) + (k : Int) := IntWalk.i64_in _ (by omega)
  have d1 : decide ((62 : Int) < (l : Int)) = false := by simp; omega
  have d1' : decide (62 < l) = false := by simp; omega
  have d2 : decide ((q : Int) < (x : Int)) = false := by simp; omega
  have d2' : decide (q < x) = false := by simp; omega
  have Hst := Lib.hid hst
  have Hrl := Lib.hid hrl
  have Hzs := Lib.hid hzs
  clear hst hrl hzs hr h hq ha hk
  go_enter Try.func34, Try.ntmps34
  go_wp2_with ((with_reducible show wpList _ _ _ (⟨some 6, .alloc _, _, _, _, _⟩ :: _) _ _); refine wpList_run rfl (.pointer (some ⟨w.heap.size, 0, none⟩)) (w.alloc (.cells zs 34)) (by rw [← Hzs.out]; rfl) ?_; simp only [Act.put])
  clear hdiv d1 d1' d2 d2'
  obtain ⟨w1, hw⟩ : ∃ w1, w.alloc (.cells zs 34) = w1 := ⟨_, rfl⟩
  rw [hw] at hb0 k0 ⊢
  have hS : Below w.heap.size w w1.drew := hb0.drew
  have k1 := k0.drew
  refine wp_region_mix (fun W => Below w.heap.size w W) [(0, true), (1, true), (2, true), (3, true), (4, true), (5, true), (6, true), (7, true), (8, true), (9, true), (10, true), (11, false), (12, true), (13, true), (14, false), (15, true)] (by kernel_rfl) (by kernel_rfl) hS fun _ => ?_
  simp only [List.map_cons, List.map_nil, Array.getD_eq_getD_getElem?, List.getElem?_toArray, List.getElem?_cons_succ, List.getElem?_cons_zero, Option.getD_some]
  generalize w1.drew = W0 at hS k1 ⊢
  refine wpMix_s (fun K hK => ?_)
  go_simp
  refine hK _ ?_
  clear hK K
  refine wpMix_s (fun K hK => ?_)
  go_simp
  refine hK _ ?_
  clear hK K
  refine wpMix_s (fun K hK => ?_)
  go_simp
  refine hK _ ?_
  clear hK K
  refine wpMix_s (fun K hK => ?_)
  go_simp
  refine hK _ ?_
  clear hK K
  refine wpMix_s (fun K hK => ?_)
  go_simp
  refine hK _ ?_
  clear hK K
  refine wpMix_s (fun K hK => ?_)
  go_simp
  refine hK _ ?_
  clear hK K
  refine wpMix_s (fun K hK => ?_)
  go_simp
  refine hK _ ?_
  clear hK K
  refine wpMix_s (fun K hK => ?_)
  go_simp
  refine hK _ ?_
  clear hK K
  refine wpMix_s (fun K hK => ?_)
  go_simp
  refine hK _ ?_
  clear hK K
  refine wpMix_s (fun K hK => ?_)
  go_simp
  refine hK _ ?_
  clear hK K
  refine wpMix_s (fun K hK => ?_)
  go_simp
  refine hK _ ?_
  clear hK K
  refine wpMix_c (fun K hK => ?_) hS
  go_simp
  refine (Hst.out W0 hS).mono ?_
  rintro e W1 ⟨rfl, hb'⟩
  refine hK _ _ ?_
  clear hK K
  replace hS := hS.trans (hb'.mono hS.size)
  refine ⟨hS, ?_⟩
  have k2 := k1.below hb' k1.lt
  clear hb'
  refine wpMix_s (fun K hK => ?_)
  go_simp
  refine hK _ ?_
  clear hK K
  refine wpMix_s (fun K hK => ?_)
  go_simp
  refine hK _ ?_
  clear hK K
  refine wpMix_store_blk rfl 34 (.tmp 6) (.tmp 39) rfl 32 size26 w.heap.size (r.1.map B).toArray rfl rfl (by simp [Hrl.out]) (oneCell_B _) 34 _ k2 hzl (below_setRow hS (Nat.le_refl _) _) ?_
  simp only [Act.put]
  refine wpMix_s (fun K hK => ?_)
  go_simp
  refine hK _ ?_
  clear hK K
  refine wpMix_nil ?_
  intro hS2
  go_wp2_with fail
  refine bodyPost_ret (tuple_cellT rfl _ _ w.heap.size (r.1.map B).toArray _ _ rfl (k2.setRow_ _) Try.underlying34 (by rw [show (r.1.map B).toArray.size = 32 by simp [Hrl.out]]; exact info26)) rfl ⟨rfl, ?_⟩
  exact hS2


set_option maxHeartbeats 2000000 in
set_option maxRecDepth 100000 in
theorem tnode_bad1 (A : Option Addr) (n c : Nat) (w : World) (lv ix : Int) (hbad : lv < 0 ∨ 62 < lv ∨ ix < 0) :
    Calls Try.prog 34 #[.slice A n c, .int .i64 lv, .int .i64 ix] w fun e w' => e = .returned (.tuple #[.agg (zeroL.map B).toArray, .int .i64 4]) ∧ Below w.heap.size w w' := by
  obtain ⟨zs, hzs⟩ : ∃ zs, zeroHash = zs := ⟨_, rfl⟩
  have hzl : zs.size = 32 := by rw [← hzs]; rfl
  have hz1 : ∀ v ∈ zs.toList, v.oneCell' = true := by rw [← hzs]; exact oneCell_B _
  rw [show (zeroL.map B).toArray = zs from hzs]
  have hb0 := (Below.refl w.heap.size w).alloc (Nat.le_refl _) (.cells zs 34)
  have k0 := Blk.new w 34 zs
  have Hzs := Lib.hid hzs
  have Hz1 := Lib.hid hz1
  clear hzs hz1
  have hd : (decide (lv < 0) = true) ∨ (decide (lv < 0) = false ∧ decide (62 < lv) = true) ∨ (decide (lv < 0) = false ∧ decide (62 < lv) = false ∧ decide (ix < 0) = true) := by
    by_cases h1 : lv < 0
    · exact .inl (decide_eq_true h1)
    · by_cases h2 : 62 < lv
      · exact .inr (.inl ⟨decide_eq_false h1, decide_eq_true h2⟩)
      · exact .inr (.inr ⟨decide_eq_false h1, decide_eq_false h2, decide_eq_true (by omega)⟩)
  clear hbad
  go_enter Try.func34, Try.ntmps34
  rcases hd with d1 | ⟨d1, d2⟩ | ⟨d1, d2, d3⟩
  all_goals
    go_wp2_with (first
      | ((with_reducible show wpList _ _ _ (⟨some 6, .alloc _, _, _, _, _⟩ :: _) _ _); refine wpList_run rfl (.pointer (some ⟨w.heap.size, 0, none⟩)) (w.alloc (.cells zs 34)) (by rw [← Hzs.out]; rfl) ?_; simp only [Act.put])
      | ((with_reducible show wpList _ _ _ (⟨some 26, .build _ _, _, _, _, _⟩ :: _) _ _); refine wpList_run0 rfl (.agg zs) (by rw [← Hzs.out]; kernel_rfl) ?_; simp only [Act.put])
      | ((with_reducible show wpList _ _ _ (⟨none, .store _ _ _, _, _, _, _⟩ :: _) _ _); refine wpList_store_blk rfl 34 (.tmp 6) (.tmp 26) rfl 32 size26 w.heap.size zs rfl rfl hzl Hz1.out 34 _ k0 hzl ?_; simp only [Act.put]))
    refine bodyPost_ret (tuple_cellT rfl _ _ w.heap.size zs _ _ rfl (k0.setRow_ _) Try.underlying34 (by rw [hzl]; exact info26)) rfl ⟨rfl, ?_⟩
    exact below_setRow hb0 (Nat.le_refl _) _

set_option maxHeartbeats 2000000 in
set_option maxRecDepth 100000 in
theorem rnode_bad1 (A : Option Addr) (n c : Nat) (w : World) (lv ix : Int) (hbad : lv < 0 ∨ 62 < lv ∨ ix < 0) :
    Calls Try.prog 35 #[.slice A n c, .int .i64 lv, .int .i64 ix] w fun e w' => e = .returned (.tuple #[.agg (zeroL.map B).toArray, .int .i64 4]) ∧ Below w.heap.size w w' := by
  obtain ⟨zs, hzs⟩ : ∃ zs, zeroHash = zs := ⟨_, rfl⟩
  have hzl : zs.size = 32 := by rw [← hzs]; rfl
  have hz1 : ∀ v ∈ zs.toList, v.oneCell' = true := by rw [← hzs]; exact oneCell_B _
  rw [show (zeroL.map B).toArray = zs from hzs]
  have hb0 := (Below.refl w.heap.size w).alloc (Nat.le_refl _) (.cells zs 34)
  have k0 := Blk.new w 34 zs
  have Hzs := Lib.hid hzs
  have Hz1 := Lib.hid hz1
  clear hzs hz1
  have hd : (decide (lv < 0) = true) ∨ (decide (lv < 0) = false ∧ decide (62 < lv) = true) ∨ (decide (lv < 0) = false ∧ decide (62 < lv) = false ∧ decide (ix < 0) = true) := by
    by_cases h1 : lv < 0
    · exact .inl (decide_eq_true h1)
    · by_cases h2 : 62 < lv
      · exact .inr (.inl ⟨decide_eq_false h1, decide_eq_true h2⟩)
      · exact .inr (.inr ⟨decide_eq_false h1, decide_eq_false h2, decide_eq_true (by omega)⟩)
  clear hbad
  go_enter Try.func35, Try.ntmps35
  rcases hd with d1 | ⟨d1, d2⟩ | ⟨d1, d2, d3⟩
  all_goals
    go_wp2_with (first
      | ((with_reducible show wpList _ _ _ (⟨some 6, .alloc _, _, _, _, _⟩ :: _) _ _); refine wpList_run rfl (.pointer (some ⟨w.heap.size, 0, none⟩)) (w.alloc (.cells zs 34)) (by rw [← Hzs.out]; rfl) ?_; simp only [Act.put])
      | ((with_reducible show wpList _ _ _ (⟨some 25, .build _ _, _, _, _, _⟩ :: _) _ _); refine wpList_run0 rfl (.agg zs) (by rw [← Hzs.out]; kernel_rfl) ?_; simp only [Act.put])
      | ((with_reducible show wpList _ _ _ (⟨none, .store _ _ _, _, _, _, _⟩ :: _) _ _); refine wpList_store_blk rfl 34 (.tmp 6) (.tmp 25) rfl 32 size26 w.heap.size zs rfl rfl hzl Hz1.out 34 _ k0 hzl ?_; simp only [Act.put]))
    refine bodyPost_ret (tuple_cellT rfl _ _ w.heap.size zs _ _ rfl (k0.setRow_ _) Try.underlying34 (by rw [hzl]; exact info26)) rfl ⟨rfl, ?_⟩
    exact below_setRow hb0 (Nat.le_refl _) _

set_option maxHeartbeats 2000000 in
set_option maxRecDepth 100000 in
theorem tnode_bad2 (A : Option Addr) (n c : Nat) (w : World) (lv ix : Int) (h0 : 0 ≤ lv) (h1 : lv ≤ 62) (h2 : 0 ≤ ix) (hbad : n / 2 ^ lv.toNat < ix.toNat) :
    Calls Try.prog 34 #[.slice A n c, .int .i64 lv, .int .i64 ix] w fun e w' => e = .returned (.tuple #[.agg (zeroL.map B).toArray, .int .i64 4]) ∧ Below w.heap.size w w' := by
  obtain ⟨zs, hzs⟩ : ∃ zs, zeroHash = zs := ⟨_, rfl⟩
  have hzl : zs.size = 32 := by rw [← hzs]; rfl
  have hz1 : ∀ v ∈ zs.toList, v.oneCell' = true := by rw [← hzs]; exact oneCell_B _
  rw [show (zeroL.map B).toArray = zs from hzs]
  have hb0 := (Below.refl w.heap.size w).alloc (Nat.le_refl _) (.cells zs 34)
  have k0 := Blk.new w 34 zs
  have Hzs := Lib.hid hzs
  have Hz1 := Lib.hid hz1
  clear hzs hz1
  obtain ⟨l, rfl⟩ : ∃ l : Nat, lv = (l : Int) := ⟨lv.toNat, by omega⟩
  obtain ⟨x, rfl⟩ : ∃ x : Nat, ix = (x : Int) := ⟨ix.toNat, by omega⟩
  simp only [Int.toNat_natCast] at hbad
  have hk2 : (2 : Int) ^ l = ((2 ^ l : Nat) : Int) := by simp
  have hp := Nat.two_pow_pos l
  have hdiv : (n : Int) / ((2 ^ l : Nat) : Int) = ((n / 2 ^ l : Nat) : Int) := (Int.natCast_ediv _ _).symm
  have hqn := Nat.div_le_self n (2 ^ l)
  obtain ⟨q, hq⟩ : ∃ q, n / 2 ^ l = q := ⟨_, rfl⟩
  rw [hq] at hbad hdiv hqn
  clear hq
  obtain ⟨k, hk⟩ : ∃ k, 2 ^ l = k := ⟨_, rfl⟩
  rw [hk] at hk2 hdiv hp
  clear hk
  have d1 : decide ((62 : Int) < (l : Int)) = false := by simp; omega
  have d1' : decide (62 < l) = false := by simp; omega
  have d2 : decide ((q : Int) < (x : Int)) = true := by simp; omega
  have d2' : decide (q < x) = true := by simp; omega
  go_enter Try.func34, Try.ntmps34
  skip
  all_goals
    go_wp2_with (first
      | ((with_reducible show wpList _ _ _ (⟨some 6, .alloc _, _, _, _, _⟩ :: _) _ _); refine wpList_run rfl (.pointer (some ⟨w.heap.size, 0, none⟩)) (w.alloc (.cells zs 34)) (by rw [← Hzs.out]; rfl) ?_; simp only [Act.put])
      | ((with_reducible show wpList _ _ _ (⟨some 26, .build _ _, _, _, _, _⟩ :: _) _ _); refine wpList_run0 rfl (.agg zs) (by rw [← Hzs.out]; kernel_rfl) ?_; simp only [Act.put])
      | ((with_reducible show wpList _ _ _ (⟨none, .store _ _ _, _, _, _, _⟩ :: _) _ _); refine wpList_store_blk rfl 34 (.tmp 6) (.tmp 26) rfl 32 size26 w.heap.size zs rfl rfl hzl Hz1.out 34 _ k0 hzl ?_; simp only [Act.put]))
    refine bodyPost_ret (tuple_cellT rfl _ _ w.heap.size zs _ _ rfl (k0.setRow_ _) Try.underlying34 (by rw [hzl]; exact info26)) rfl ⟨rfl, ?_⟩
    exact below_setRow hb0 (Nat.le_refl _) _

set_option maxHeartbeats 2000000 in
set_option maxRecDepth 100000 in
theorem rnode_bad2 (A : Option Addr) (n c : Nat) (w : World) (lv ix : Int) (h0 : 0 ≤ lv) (h1 : lv ≤ 62) (h2 : 0 ≤ ix) (hbad : 40 < lv ∨ n / 2 ^ lv.toNat < ix.toNat) :
    Calls Try.prog 35 #[.slice A n c, .int .i64 lv, .int .i64 ix] w fun e w' => e = .returned (.tuple #[.agg (zeroL.map B).toArray, .int .i64 4]) ∧ Below w.heap.size w w' := by
  obtain ⟨zs, hzs⟩ : ∃ zs, zeroHash = zs := ⟨_, rfl⟩
  have hzl : zs.size = 32 := by rw [← hzs]; rfl
  have hz1 : ∀ v ∈ zs.toList, v.oneCell' = true := by rw [← hzs]; exact oneCell_B _
  rw [show (zeroL.map B).toArray = zs from hzs]
  have hb0 := (Below.refl w.heap.size w).alloc (Nat.le_refl _) (.cells zs 34)
  have k0 := Blk.new w 34 zs
  have Hzs := Lib.hid hzs
  have Hz1 := Lib.hid hz1
  clear hzs hz1
  obtain ⟨l, rfl⟩ : ∃ l : Nat, lv = (l : Int) := ⟨lv.toNat, by omega⟩
  obtain ⟨x, rfl⟩ : ∃ x : Nat, ix = (x : Int) := ⟨ix.toNat, by omega⟩
  simp only [Int.toNat_natCast] at hbad
  have hk2 : (2 : Int) ^ l = ((2 ^ l : Nat) : Int) := by simp
  have hp := Nat.two_pow_pos l
  have hdiv : (n : Int) / ((2 ^ l : Nat) : Int) = ((n / 2 ^ l : Nat) : Int) := (Int.natCast_ediv _ _).symm
  have hqn := Nat.div_le_self n (2 ^ l)
  obtain ⟨q, hq⟩ : ∃ q, n / 2 ^ l = q := ⟨_, rfl⟩
  rw [hq] at hbad hdiv hqn
  clear hq
  obtain ⟨k, hk⟩ : ∃ k, 2 ^ l = k := ⟨_, rfl⟩
  rw [hk] at hk2 hdiv hp
  clear hk
  have d1 : decide ((62 : Int) < (l : Int)) = false := by simp; omega
  have d1' : decide (62 < l) = false := by simp; omega
  have hd : (decide ((n : Int) < (x : Int)) = true ∧ decide (n < x) = true) ∨ ((decide ((n : Int) < (x : Int)) = false ∧ decide (n < x) = false) ∧ ((decide ((40 : Int) < (l : Int)) = true ∧ decide (40 < l) = true) ∨ (decide ((40 : Int) < (l : Int)) = false ∧ decide (40 < l) = false ∧ decide ((q : Int) < (x : Int)) = true ∧ decide (q < x) = true))) := by
    by_cases g1 : n < x
    · exact .inl ⟨by simp; omega, decide_eq_true g1⟩
    · refine .inr ⟨⟨by simp; omega, decide_eq_false g1⟩, ?_⟩
      by_cases g2 : 40 < l
      · exact .inl ⟨by simp; omega, decide_eq_true g2⟩
      · exact .inr ⟨by simp; omega, decide_eq_false g2, by simp; omega, by simp; omega⟩
  clear hbad
  go_enter Try.func35, Try.ntmps35
  rcases hd with ⟨d3, d3p⟩ | ⟨⟨d3, d3p⟩, ⟨d4, d4p⟩ | ⟨d4, d4p, d5, d5p⟩⟩
  all_goals
    go_wp2_with (first
      | ((with_reducible show wpList _ _ _ (⟨some 6, .alloc _, _, _, _, _⟩ :: _) _ _); refine wpList_run rfl (.pointer (some ⟨w.heap.size, 0, none⟩)) (w.alloc (.cells zs 34)) (by rw [← Hzs.out]; rfl) ?_; simp only [Act.put])
      | ((with_reducible show wpList _ _ _ (⟨some 25, .build _ _, _, _, _, _⟩ :: _) _ _); refine wpList_run0 rfl (.agg zs) (by rw [← Hzs.out]; kernel_rfl) ?_; simp only [Act.put])
      | ((with_reducible show wpList _ _ _ (⟨some 36, .build _ _, _, _, _, _⟩ :: _) _ _); refine wpList_run0 rfl (.agg zs) (by rw [← Hzs.out]; kernel_rfl) ?_; simp only [Act.put])
      | ((with_reducible show wpList _ _ _ (⟨none, .store _ _ _, _, _, _, _⟩ :: _) _ _); refine wpList_store_blk rfl 34 (.tmp 6) (.tmp 36) rfl 32 size26 w.heap.size zs rfl rfl hzl Hz1.out 34 _ k0 hzl ?_; simp only [Act.put])
      | ((with_reducible show wpList _ _ _ (⟨none, .store _ _ _, _, _, _, _⟩ :: _) _ _); refine wpList_store_blk rfl 34 (.tmp 6) (.tmp 25) rfl 32 size26 w.heap.size zs rfl rfl hzl Hz1.out 34 _ k0 hzl ?_; simp only [Act.put]))
    refine bodyPost_ret (tuple_cellT rfl _ _ w.heap.size zs _ _ rfl (k0.setRow_ _) Try.underlying34 (by rw [hzl]; exact info26)) rfl ⟨rfl, ?_⟩
    exact below_setRow hb0 (Nat.le_refl _) _
set_option maxHeartbeats 2000000 in
set_option maxRecDepth 100000 in
theorem rnode_ok (hs : List (List UInt8)) (A : Option Addr) (n c : Nat) (w : World) (l x : Nat) (h : Hs w (fun _ => True) A n c hs) (hn : n ≤ 1099511627776) (hl : l ≤ 40) (hx : x ≤ n / 2 ^ l) :
    Calls Try.prog 35 #[.slice A n c, .int .i64 (l : Int), .int .i64 (x : Int)] w fun e w' => e = .returned (.tuple #[.agg ((stretchR hs ((x * 2 ^ l : Nat) : Int) ((x * 2 ^ l + 2 ^ l : Nat) : Int)).1.map B).toArray, .int .i64 (stretchR hs ((x * 2 ^ l : Nat) : Int) ((x * 2 ^ l + 2 ^ l : Nat) : Int)).2]) ∧ Below w.heap.size w w' := by
  obtain ⟨zs, hzs⟩ : ∃ zs, zeroHash = zs := ⟨_, rfl⟩
  have hzl : zs.size = 32 := by rw [← hzs]; rfl
  have hroom := h.sl.room
  have hmax := h.sl.max
  unfold maxLen at hmax
  have hb0 := (Below.refl w.heap.size w).alloc (Nat.le_refl _) (.cells zs 34)
  have k0 := Blk.new w 34 zs
  have hpl : 2 ^ l ≤ 4611686018427387904 := Nat.le_trans (Nat.pow_le_pow_right (by decide) (show l ≤ 62 by omega)) (Nat.le_refl _)
  have hp := Nat.two_pow_pos l
  have hk2 : (2 : Int) ^ l = ((2 ^ l : Nat) : Int) := by simp
  have hxk : x * 2 ^ l ≤ n := Nat.le_trans (Nat.mul_le_mul_right _ hx) (Nat.div_mul_le_self n _)
  have hdiv : (n : Int) / ((2 ^ l : Nat) : Int) = ((n / 2 ^ l : Nat) : Int) := (Int.natCast_ediv _ _).symm
  have hmul : (x : Int) * ((2 ^ l : Nat) : Int) = ((x * 2 ^ l : Nat) : Int) := (Int.natCast_mul _ _).symm
  have hqn := Nat.div_le_self n (2 ^ l)
  obtain ⟨q, hq⟩ : ∃ q, n / 2 ^ l = q := ⟨_, rfl⟩
  rw [hq] at hx hdiv hqn
  obtain ⟨a, ha⟩ : ∃ a, x * 2 ^ l = a := ⟨_, rfl⟩
  rw [ha] at hxk hmul ⊢
  obtain ⟨k, hk⟩ : ∃ k, 2 ^ l = k := ⟨_, rfl⟩
  rw [hk] at hpl hp hk2 hdiv hmul ⊢
  have hst := fun W (hW : Below w.heap.size w W) => rstretch_any hs A n c W (a : Int) ((a + k : Nat) : Int) (h.step hW) (by omega)
  have hrl := length_stretchR hs (a : Int) ((a + k : Nat) : Int) h.all
  obtain ⟨r, hr⟩ : ∃ r, stretchR hs (a : Int) ((a + k : Nat) : Int) = r := ⟨_, rfl⟩
  rw [hr] at hst hrl ⊢
  rw [show ((a + k : Nat) : Int) = (a : Int) + (k : Int) by omega] at hst
  have hw1 : IntKind.i64.wrap (a : Int) = (a : Int) := IntWalk.i64_in _ (by omega)
  have hw2 : IntKind.i64.wrap (k : Int) = (k : Int) := IntWalk.i64_in _ (by omega)
  have hw3 : IntKind.i64.wrap ((a : Int) + (k : Int)) = (a : Int) + (k : Int) := IntWalk.i64_in _ (by omega)
  have d1 : decide ((62 : Int) < (l : Int)) = false := by simp; omega
  have d1' : decide (62 < l) = false := by simp; omega
  have d2 : decide ((q : Int) < (x : Int)) = false := by simp; omega
  have d2' : decide (q < x) = false := by simp; omega
  have d3 : decide ((n : Int) < (x : Int)) = false := by simp; omega
  have d3' : decide (n < x) = false := by simp; omega
  have d4 : decide ((40 : Int) < (l : Int)) = false := by simp; omega
  have d4' : decide (40 < l) = false := by simp; omega
  have Hst := Lib.hid hst
  have Hrl := Lib.hid hrl
  have Hzs := Lib.hid hzs
  clear hst hrl hzs hr h hq ha hk
  go_enter Try.func35, Try.ntmps35
  go_wp2_with ((with_reducible show wpList _ _ _ (⟨some 6, .alloc _, _, _, _, _⟩ :: _) _ _); refine wpList_run rfl (.pointer (some ⟨w.heap.size, 0, none⟩)) (w.alloc (.cells zs 34)) (by rw [← Hzs.out]; rfl) ?_; simp only [Act.put])
  refine (Hst.out _ hb0).mono ?_
  rintro e w2 ⟨rfl, hb2⟩
  have k2 := k0.below hb2 k0.lt
  have B2 := hb0.trans (hb2.mono hb0.size)
  go_wp2_with ((with_reducible show wpList _ _ _ (⟨none, .store _ _ _, _, _, _, _⟩ :: _) _ _); refine wpList_store_blk rfl 34 (.tmp 6) (.tmp 50) rfl 32 size26 w.heap.size (r.1.map B).toArray rfl rfl (by simp [Hrl.out]) (oneCell_B _) 34 _ k2 hzl ?_; simp only [Act.put])
  refine bodyPost_ret (tuple_cellT rfl _ _ w.heap.size (r.1.map B).toArray _ _ rfl (k2.setRow_ _) Try.underlying34 (by rw [show (r.1.map B).toArray.size = 32 by simp [Hrl.out]]; exact info26)) rfl ⟨rfl, ?_⟩
  exact below_setRow B2 (Nat.le_refl _) _

theorem tnode_any (hs : List (List UInt8)) (A : Option Addr) (n c : Nat) (w : World) (lv ix : Int) (h : Hs w (fun _ => True) A n c hs) (hn : n ≤ 1099511627776) :
    Calls Try.prog 34 #[.slice A n c, .int .i64 lv, .int .i64 ix] w fun e w' => e = .returned (.tuple #[.agg ((nodeR hs lv ix).1.map B).toArray, .int .i64 (nodeR hs lv ix).2]) ∧ Below w.heap.size w w' := by
  have hl := h.len
  unfold nodeR
  rw [hl]
  by_cases hc : 0 ≤ lv ∧ lv ≤ 62 ∧ 0 ≤ ix ∧ ix.toNat ≤ n / 2 ^ lv.toNat
  · rw [if_pos hc]
    obtain ⟨c1, c2, c3, c4⟩ := hc
    obtain ⟨l, rfl⟩ : ∃ l : Nat, lv = (l : Int) := ⟨lv.toNat, by omega⟩
    obtain ⟨x, rfl⟩ : ∃ x : Nat, ix = (x : Int) := ⟨ix.toNat, by omega⟩
    simp only [Int.toNat_natCast] at c4 ⊢
    exact tnode_ok hs A n c w l x h hn (by omega) c4
  · rw [if_neg hc]
    by_cases h1 : lv < 0 ∨ 62 < lv ∨ ix < 0
    · exact tnode_bad1 A n c w lv ix h1
    · refine tnode_bad2 A n c w lv ix (by omega) (by omega) (by omega) (Nat.lt_of_not_le fun g => hc ⟨by omega, by omega, by omega, g⟩)
theorem rnode_any (hs : List (List UInt8)) (A : Option Addr) (n c : Nat) (w : World) (lv ix : Int) (h : Hs w (fun _ => True) A n c hs) (hn : n ≤ 1099511627775) :
    Calls Try.prog 35 #[.slice A n c, .int .i64 lv, .int .i64 ix] w fun e w' => e = .returned (.tuple #[.agg ((nodeR hs lv ix).1.map B).toArray, .int .i64 (nodeR hs lv ix).2]) ∧ Below w.heap.size w w' := by
  have hl := h.len
  by_cases h1 : lv < 0 ∨ 62 < lv ∨ ix < 0
  · unfold nodeR
    rw [if_neg (by rintro ⟨c1, c2, c3, c4⟩; omega)]
    exact rnode_bad1 A n c w lv ix h1
  · obtain ⟨l, rfl⟩ : ∃ l : Nat, lv = (l : Int) := ⟨lv.toNat, by omega⟩
    obtain ⟨x, rfl⟩ : ∃ x : Nat, ix = (x : Int) := ⟨ix.toNat, by omega⟩
    by_cases h2 : 40 < l ∨ n / 2 ^ l < x
    · have he : nodeR hs (l : Int) (x : Int) = (zeroL, 4) := by
        unfold nodeR
        rw [hl]
        simp only [Int.toNat_natCast]
        split
        · rename_i hc
          obtain ⟨c1, c2, c3, c4⟩ := hc
          rcases h2 with h2 | h2
          · have hp : 1099511627776 ≤ 2 ^ l := Nat.le_trans (by decide : 1099511627776 ≤ 2 ^ 40) (Nat.pow_le_pow_right (by decide) (by omega))
            unfold stretchR
            rw [if_neg]
            rintro ⟨-, -, g⟩
            rw [hl] at g
            generalize 2 ^ l = k at *
            generalize x * k = y at *
            omega
          · exact absurd c4 (by omega)
        · rfl
      rw [he]
      exact rnode_bad2 A n c w l x (by omega) (by omega) (by omega) (by simp only [Int.toNat_natCast]; omega)
    · have he : nodeR hs (l : Int) (x : Int) = stretchR hs ((x * 2 ^ l : Nat) : Int) ((x * 2 ^ l + 2 ^ l : Nat) : Int) := by
        unfold nodeR
        rw [hl]
        simp only [Int.toNat_natCast]
        rw [if_pos ⟨by omega, by omega, by omega, by omega⟩]
      rw [he]
      exact rnode_ok hs A n c w l x h (by omega) (by omega) (by omega)
end Go.Proofs.Ytgcbdnoniikboaa
/- The stretches that are in a list, in their order (plain). -/
namespace Go.Proofs.Ytgcbdnoniikboaa
open Go Go.RowKit

def okR (hs : List (List UInt8)) (x : Int × Int) : Bool := decide ((stretchR hs x.1 x.2).2 = 0)
def goodL (hs : List (List UInt8)) (l : List (Int × Int)) : List (Int × Int) := l.filter (okR hs)
def cntL (hs : List (List UInt8)) (l : List (Int × Int)) (k : Nat) : Nat := (goodL hs (l.take k)).length
theorem cntL_zero (hs : List (List UInt8)) (l : List (Int × Int)) : cntL hs l 0 = 0 := rfl
theorem cntL_all (hs : List (List UInt8)) (l : List (Int × Int)) : cntL hs l l.length = (goodL hs l).length := by unfold cntL; rw [List.take_length]
theorem take_snoc (l : List (Int × Int)) (k : Nat) (h : k < l.length) : l.take (k + 1) = l.take k ++ [l.getD k (0, 0)] := by
  rw [List.take_succ_eq_append_getElem h, List.getD_eq_getElem?_getD, List.getElem?_eq_getElem h]; rfl
theorem cntL_ok (hs : List (List UInt8)) (l : List (Int × Int)) (k : Nat) (h : k < l.length) (ho : (stretchR hs (l.getD k (0, 0)).1 (l.getD k (0, 0)).2).2 = 0) : cntL hs l (k + 1) = cntL hs l k + 1 := by
  unfold cntL goodL
  rw [take_snoc l k h, List.filter_append, List.length_append, List.filter_cons_of_pos (by unfold okR; exact decide_eq_true ho)]
  rfl
theorem cntL_bad (hs : List (List UInt8)) (l : List (Int × Int)) (k : Nat) (h : k < l.length) (ho : (stretchR hs (l.getD k (0, 0)).1 (l.getD k (0, 0)).2).2 ≠ 0) : cntL hs l (k + 1) = cntL hs l k := by
  unfold cntL goodL
  rw [take_snoc l k h, List.filter_append, List.length_append, List.filter_cons_of_neg (by unfold okR; simpa using ho)]
  rfl
theorem goodL_at (hs : List (List UInt8)) (l : List (Int × Int)) (k : Nat) (h : k < l.length) (ho : (stretchR hs (l.getD k (0, 0)).1 (l.getD k (0, 0)).2).2 = 0) : cntL hs l k < (goodL hs l).length ∧ (goodL hs l).getD (cntL hs l k) (0, 0) = l.getD k (0, 0) := by
  have e : goodL hs l = goodL hs (l.take k) ++ l.getD k (0, 0) :: goodL hs (l.drop (k + 1)) := by
    conv => lhs; rw [← List.take_append_drop k l, List.drop_eq_getElem_cons h]
    have hg : l[k] = l.getD k (0, 0) := by rw [List.getD_eq_getElem?_getD, List.getElem?_eq_getElem h]; rfl
    unfold goodL
    rw [hg, List.filter_append, List.filter_cons_of_pos (by unfold okR; exact decide_eq_true ho)]
  unfold cntL
  rw [e]
  constructor
  · rw [List.length_append, List.length_cons]; omega
  · rw [List.getD_eq_getElem?_getD, List.getElem?_append_right (Nat.le_refl _), Nat.sub_self]; rfl
theorem goodL_mem (hs : List (List UInt8)) (l : List (Int × Int)) (k : Nat) (h : k < (goodL hs l).length) : (stretchR hs ((goodL hs l).getD k (0, 0)).1 ((goodL hs l).getD k (0, 0)).2).2 = 0 := by
  have hm : (goodL hs l).getD k (0, 0) ∈ goodL hs l := by rw [List.getD_eq_getElem?_getD, List.getElem?_eq_getElem h]; exact List.getElem_mem h
  have := (List.mem_filter.1 hm).2
  exact of_decide_eq_true this
theorem goodL_le (hs : List (List UInt8)) (l : List (Int × Int)) : (goodL hs l).length ≤ l.length := List.length_filter_le _ _
theorem goodL_pick (hs : List (List UInt8)) (l : List (Int × Int)) (k : Nat) (h : k < l.length) (ho : (stretchR hs (l.getD k (0, 0)).1 (l.getD k (0, 0)).2).2 = 0) : goodL hs (l.take (k + 1)) = goodL hs (l.take k) ++ [l.getD k (0, 0)] := by
  unfold goodL
  rw [take_snoc l k h, List.filter_append, List.filter_cons_of_pos (by unfold okR; exact decide_eq_true ho)]
  rfl
theorem goodL_skip (hs : List (List UInt8)) (l : List (Int × Int)) (k : Nat) (h : k < l.length) (ho : (stretchR hs (l.getD k (0, 0)).1 (l.getD k (0, 0)).2).2 ≠ 0) : goodL hs (l.take (k + 1)) = goodL hs (l.take k) := by
  unfold goodL
  rw [take_snoc l k h, List.filter_append, List.filter_cons_of_neg (by unfold okR; simpa using ho)]
  simp
/-- a good stretch's root, by the reference's words -/
theorem good_of (hs : List (List UInt8)) (a b : Int) (h : (stretchR hs a b).2 = 0) : 0 ≤ a ∧ a < b ∧ b ≤ hs.length ∧ (stretchR hs a b).1 = stretchL hs a.toNat b.toNat := by
  unfold stretchR at h ⊢
  split at h
  · rename_i hc
    rw [if_pos hc]
    exact ⟨hc.1, hc.2.1, hc.2.2, rfl⟩
  · cases h
end Go.Proofs.Ytgcbdnoniikboaa
