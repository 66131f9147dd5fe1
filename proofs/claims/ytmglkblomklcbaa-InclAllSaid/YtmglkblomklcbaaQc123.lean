/- notaryref11.Split, Root, Len, Prove. -/
import Derived.Test.YtmglkblomklcbaaQc122
import Derived.Test.YtmglkblomklcbaaQc115
import Derived.Test.YtmglkblomklcbaaQc113
import Derived.Test.YtmglkblomklcbaaQc120
import Derived.Laws.Tables
import Derived.Test.YtmglkblomklcbaaQc119
import Derived.Test.YtmglkblomklcbaaQc116
import Derived.Test.YtmglkblomklcbaaQc106
import Derived.Test.YtmglkblomklcbaaQc110
namespace Go.Proofs.Ytmglkblomklcbaa
open Go Go.RowKit

set_option maxHeartbeats 400000 in
theorem r11split_any (n : Int) (w : World) (h2 : 2 ≤ n) (hn : n ≤ 9223372036854775807) :
    Calls Try.prog 39 #[.int .i64 n] w fun e w' => e = .returned (.int .i64 (splitN n.toNat : Int)) ∧ w = w' := by
  obtain ⟨m, rfl⟩ : ∃ m : Nat, n = (m : Int) := ⟨n.toNat, by omega⟩
  rw [Int.toNat_natCast]
  obtain ⟨s, hs⟩ : ∃ s, splitN m = s := ⟨_, rfl⟩
  have hsl := splitN_lt m (by omega)
  have Hs := Lib.hid hs
  rw [hs] at hsl ⊢
  clear hs
  go_enter Try.func39, Try.ntmps39
  go_wp2_with fail
  go_loop [3] (fun v => ∃ j k : Nat, 1 ≤ k ∧ k < m ∧ k = 2 ^ j ∧ v = .int .i64 (k : Int)) (fun v => m - (intOf v).toNat)
  case atStart => exact ⟨0, 1, by omega, by omega, rfl, rfl⟩
  case round =>
    obtain ⟨j, k, hk1, hkm, hk, rfl⟩ := hrel
    by_cases hlt : k < m - k
    · have Hk := Lib.hid hk
      clear hk
      have hd : decide ((k : Int) < (m : Int) - (k : Int)) = true := by simp; omega
      go_wp2_with fail
      go_round
      case rel => exact ⟨j + 1, 2 * k, by omega, by omega, by rw [Nat.pow_succ, Hk.out]; omega, by go_num⟩
      case measure => simp [intOf]; omega
    · have hks : s = k := by rw [← Hs.out, splitN_eq m j (by omega) (by rw [Nat.pow_succ]; omega), hk]
      subst hks
      clear hk
      have hd : decide ((s : Int) < (m : Int) - (s : Int)) = false := by simp; omega
      go_wp2_with fail
      go_ret
      exact ⟨rfl, rfl⟩
theorem r08nil (w : World) : Calls Try.prog 54 #[.slice none 0 0] w fun e w' => e = .returned (.agg (hEmpty.map B).toArray) ∧ Below w.heap.size w w' :=
  hrof_any [] none 0 0 w Sl.nil (by decide)

set_option maxHeartbeats 2000000 in
set_option maxRecDepth 100000 in
theorem r11root_rec (d : Nat) : ∀ (hs : List (List UInt8)) (A : Option Addr) (n c : Nat) (w : World), n ≤ d → Hs w (fun _ => True) A n c hs → n ≤ 4398046511104 →
    Calls Try.prog 40 #[.slice A n c] w fun e w' => e = .returned (.agg ((rootL hs).map B).toArray) ∧ Below w.heap.size w w' := by
  induction d using Nat.strongRecOn with
  | ind d ih =>
  intro hs A n c w hnd h hn
  obtain ⟨zs, hzs⟩ : ∃ zs, zeroHash = zs := ⟨_, rfl⟩
  have hzl : zs.size = 32 := by rw [← hzs]; rfl
  have hlen := h.len
  have hroom := h.sl.room
  have hmax := h.sl.max
  unfold maxLen at hmax
  have hb0 := (Below.refl w.heap.size w).alloc (Nat.le_refl _) (.cells zs 45)
  have k0 := Blk.new w 45 zs
  have h0 := h.step hb0
  obtain ⟨r, hr⟩ : ∃ r, rootL hs = r := ⟨_, rfl⟩
  have hrl : r.length = 32 := by rw [← hr]; exact length_rootL hs h.all
  rw [hr]
  have Hzs := Lib.hid hzs
  have Hrl := Lib.hid hrl
  have Hr := Lib.hid hr
  have Hlen := Lib.hid hlen
  clear hzs hrl hr hlen
  by_cases hn0 : n = 0
  · subst hn0
    have hnil : hs = [] := List.eq_nil_of_length_eq_zero Hlen.out
    subst hnil
    obtain rfl : r = hEmpty := Hr.out.symm
    clear ih h h0
    go_enter Try.func40, Try.ntmps40
    go_wp2_with (first
      | ((with_reducible show wpList _ _ _ (⟨some 2, .alloc _, _, _, _, _⟩ :: _) _ _); refine wpList_run rfl (.pointer (some ⟨w.heap.size, 0, none⟩)) (w.alloc (.cells zs 45)) (by rw [← Hzs.out]; rfl) ?_; simp only [Act.put])
      | (go_at_call 54; refine (r08nil _).mono ?_; rintro e w1 ⟨rfl, hb1⟩; have k1 := k0.below hb1 (by simp); have B1 := hb0.trans (hb1.mono (by simp)))
      | ((with_reducible show wpList _ _ _ (⟨none, .store _ _ _, _, _, _, _⟩ :: _) _ _); refine wpList_store_blk rfl 45 (.tmp 2) (.tmp 9) rfl 32 size26 w.heap.size (hEmpty.map B).toArray rfl rfl (by simp [Hrl.out]) (oneCell_B _) 45 _ k1 hzl ?_; simp only [Act.put]))
    refine bodyPost_ret (results_cell_row rfl _ _ w.heap.size 45 (hEmpty.map B).toArray (0, 0) _ rfl (k1.setRow_ _) Try.underlying45 rfl (by rw [show (hEmpty.map B).toArray.size = 32 by simp [Hrl.out]]; exact info26)) rfl ⟨rfl, ?_⟩
    exact below_setRow B1 (Nat.le_refl _) _
  by_cases hn1 : n = 1
  · subst hn1
    obtain ⟨x, rfl⟩ := List.length_eq_one_iff.1 Hlen.out
    obtain rfl : r = x := Hr.out.symm
    obtain ⟨b, o, rfl, -, -, hat⟩ := h0.at_ (by omega)
    have hld : (Instr.loadAt 45 (.pointer (some ⟨b, o, none⟩))).run Try.prog (w.alloc (.cells zs 45)) = .ok (.agg (r.map B).toArray) (w.alloc (.cells zs 45)) := hat 0 (by omega)
    have Hld := Lib.hid hld
    clear ih h h0 hat hld
    go_enter Try.func40, Try.ntmps40
    go_wp2_with (first
      | ((with_reducible show wpList _ _ _ (⟨some 2, .alloc _, _, _, _, _⟩ :: _) _ _); refine wpList_run rfl (.pointer (some ⟨w.heap.size, 0, none⟩)) (w.alloc (.cells zs 45)) (by rw [← Hzs.out]; rfl) ?_; simp only [Act.put])
      | ((with_reducible show wpList _ _ _ (⟨some 14, .load _ _, _, _, _, _⟩ :: _) _ _); refine wpList_load rfl 45 (.tmp 13) rfl b o rfl (r.map B).toArray Hld.out ?_; simp only [Act.put])
      | ((with_reducible show wpList _ _ _ (⟨none, .store _ _ _, _, _, _, _⟩ :: _) _ _); refine wpList_store_blk rfl 45 (.tmp 2) (.tmp 14) rfl 32 size26 w.heap.size (r.map B).toArray rfl rfl (by simp [Hrl.out]) (oneCell_B _) 45 _ k0 hzl ?_; simp only [Act.put]))
    refine bodyPost_ret (results_cell_row rfl _ _ w.heap.size 45 (r.map B).toArray (0, 0) _ rfl (k0.setRow_ _) Try.underlying45 rfl (by rw [show (r.map B).toArray.size = 32 by simp [Hrl.out]]; exact info26)) rfl ⟨rfl, ?_⟩
    exact below_setRow hb0 (Nat.le_refl _) _
  have hne0 : ((n : Int) == 0) = false := by simp; omega
  have hne1 : ((n : Int) == 1) = false := by simp; omega
  have hmore := rootL_more hs (by rw [Hlen.out]; omega)
  rw [Hlen.out, Hr.out] at hmore
  have hspl := fun w => r11split_any (n : Int) w (by omega) (by omega)
  rw [Int.toNat_natCast] at hspl
  have hsl := splitN_lt n (by omega)
  have hsp := splitN_pos n (by omega)
  obtain ⟨s, hs'⟩ : ∃ s, splitN n = s := ⟨_, rfl⟩
  rw [hs'] at hmore hspl hsl hsp
  have hL := fun W (hW : Below (w.alloc (.cells zs 45)).heap.size (w.alloc (.cells zs 45)) W) => ih s (by omega) (hs.take s) A s c W (Nat.le_refl _) ((h0.step hW).take s (by omega)) (by omega)
  have hR := fun W (hW : Below (w.alloc (.cells zs 45)).heap.size (w.alloc (.cells zs 45)) W) => ih (n - s) (by omega) (hs.drop s) _ (n - s) (c - s) W (Nat.le_refl _) ((h0.step hW).drop s (by omega)) (by omega)
  obtain ⟨x, hx⟩ : ∃ x, rootL (hs.take s) = x := ⟨_, rfl⟩
  obtain ⟨y, hy⟩ : ∃ y, rootL (hs.drop s) = y := ⟨_, rfl⟩
  have hxl : x.length = 32 := by rw [← hx]; exact length_rootL _ (h.all.take s)
  have hyl : y.length = 32 := by rw [← hy]; exact length_rootL _ (h.all.drop s)
  rw [hx] at hL hmore
  rw [hy] at hR hmore
  have hN := fun W => hrnode_any x y W hxl hyl
  rw [← hmore] at hN
  have Hspl := Lib.hid hspl
  have HL := Lib.hid hL
  have HR := Lib.hid hR
  have HN := Lib.hid hN
  clear hspl hL hR hN hx hy hxl hyl hmore hs' ih h
  go_enter Try.func40, Try.ntmps40
  go_wp2_with (first
    | ((with_reducible show wpList _ _ _ (⟨some 2, .alloc _, _, _, _, _⟩ :: _) _ _); refine wpList_run rfl (.pointer (some ⟨w.heap.size, 0, none⟩)) (w.alloc (.cells zs 45)) (by rw [← Hzs.out]; rfl) ?_; simp only [Act.put])
    | (go_at_call 39; refine (Hspl.out _).mono ?_; rintro e w1 ⟨rfl, rfl⟩))
  generalize w.alloc (.cells zs 45) = w1 at hb0 k0 h0 HL HR ⊢
  have hS : Below w1.heap.size w1 w1.drew := (Below.refl _ _).drew
  refine wp_region_mix_last (fun W => Below w1.heap.size w1 W) 9 [(0, true), (1, true), (2, true), (4, true), (5, true), (6, true), (3, false), (7, false), (8, false)] (by kernel_rfl) (by kernel_rfl) hS fun _ => ?_
  simp only [List.map_cons, List.map_nil, Array.getD_eq_getD_getElem?, List.getElem?_toArray, List.getElem?_cons_succ, List.getElem?_cons_zero, Option.getD_some]
  generalize w1.drew = W0 at hS ⊢
  refine wpMix_s (fun K hK => ?_)
  go_simp
  refine hK _ ?_
  clear hK K
  refine wpMix_s (fun K hK => ?_)
  go_simp
  refine hK _ ?_
  clear hK K
  refine wpMix_v (by kernel_rfl) (.slice A s c) (fun u => run_slice_op_hi (.tmp 17) (.tmp 18) rfl A n c s rfl rfl (by omega) u.W) ?_
  simp only [Act.put]
  refine wpMix_s (fun K hK => ?_)
  go_simp
  refine hK _ ?_
  clear hK K
  refine wpMix_s (fun K hK => ?_)
  go_simp
  refine hK _ ?_
  clear hK K
  refine wpMix_v (by kernel_rfl) (.slice (if c = s then A else A.map (·.add (s * 32))) (n - s) (c - s)) (fun u => run_slice_op_lo (.tmp 21) (.tmp 22) rfl A n c s rfl rfl (by omega) u.W) ?_
  simp only [Act.put]
  refine wpMix_c (fun K hK => ?_) hS
  go_simp
  refine (HL.out W0 hS).mono ?_
  rintro e W1 ⟨rfl, hb'⟩
  refine hK _ _ ?_
  clear hK K
  replace hS := hS.trans (hb'.mono hS.size)
  refine ⟨hS, ?_⟩
  clear hb'
  refine wpMix_c (fun K hK => ?_) hS
  go_simp
  refine (HR.out W1 hS).mono ?_
  rintro e W2 ⟨rfl, hb'⟩
  refine hK _ _ ?_
  clear hK K
  replace hS := hS.trans (hb'.mono hS.size)
  refine ⟨hS, ?_⟩
  clear hb'
  refine wpMix_c (fun K hK => ?_) hS
  go_simp
  refine (HN.out W2).mono ?_
  rintro e W3 ⟨rfl, hb'⟩
  refine hK _ _ ?_
  clear hK K
  replace hS := hS.trans (hb'.mono hS.size)
  refine ⟨hS, ?_⟩
  clear hb'
  refine wpMix_nil ?_
  intro _
  simp only [List.drop_succ_cons, List.drop_zero]
  have k3 := k0.below hS k0.lt
  go_wp2_with ((with_reducible show wpList _ _ _ (⟨none, .store _ _ _, _, _, _, _⟩ :: _) _ _); refine wpList_store_blk rfl 45 (.tmp 2) (.tmp 25) rfl 32 size26 w.heap.size (r.map B).toArray rfl rfl (by simp [Hrl.out]) (oneCell_B _) 45 _ k3 hzl ?_; simp only [Act.put])
  refine np_normal ?_
  go_wp2_with fail
  refine bodyPost_ret (results_cell_row rfl _ _ w.heap.size 45 (r.map B).toArray (0, 0) _ rfl (k3.setRow_ _) Try.underlying45 rfl (by rw [show (r.map B).toArray.size = 32 by simp [Hrl.out]]; exact info26)) rfl ⟨rfl, ?_⟩
  exact below_setRow (hb0.trans (hS.mono hb0.size)) (Nat.le_refl _) _
theorem r11root_any (hs : List (List UInt8)) (A : Option Addr) (n c : Nat) (w : World) (h : Hs w (fun _ => True) A n c hs) (hn : n ≤ 4398046511104) :
    Calls Try.prog 40 #[.slice A n c] w fun e w' => e = .returned (.agg ((rootL hs).map B).toArray) ∧ Below w.heap.size w w' := r11root_rec n hs A n c w (Nat.le_refl _) h hn

/-- a path, further on -/
theorem pathL_shift (k d : Nat) : ∀ (i a b : Nat), b - a ≤ d → pathL (i + k) (a + k) (b + k) = (pathL i a b).map fun x => (x.1 + k, x.2 + k) := by
  induction d with
  | zero => intro i a b h; rw [pathL_small _ _ _ (by omega), pathL_small _ _ _ (by omega)]; rfl
  | succ d ih =>
    intro i a b h
    by_cases h2 : b - a < 2
    · rw [pathL_small _ _ _ (by omega), pathL_small _ _ _ h2]; rfl
    · have hl := splitN_lt (b - a) (by omega)
      have hp := splitN_pos (b - a) (by omega)
      have e : b + k - (a + k) = b - a := by omega
      by_cases hi : i < a + splitN (b - a)
      · rw [pathL_left (i + k) (a + k) (b + k) (by omega) (by rw [e]; omega), pathL_left i a b (by omega) hi, e, show a + k + splitN (b - a) = a + splitN (b - a) + k by omega, ih i a (a + splitN (b - a)) (by omega)]
        simp
      · rw [pathL_right (i + k) (a + k) (b + k) (by omega) (by rw [e]; omega), pathL_right i a b (by omega) hi, e, show a + k + splitN (b - a) = a + splitN (b - a) + k by omega, ih i (a + splitN (b - a)) b (by omega)]
        simp
theorem stretchL_take (hs : List (List UInt8)) (k a b : Nat) (h : b ≤ k) : stretchL (hs.take k) a b = stretchL hs a b := by
  unfold stretchL
  rw [List.drop_take, List.take_take, Nat.min_eq_left (by omega)]
theorem stretchL_drop (hs : List (List UInt8)) (k a b : Nat) : stretchL (hs.drop k) a b = stretchL hs (a + k) (b + k) := by
  unfold stretchL
  rw [List.drop_drop, show b + k - (a + k) = b - a by omega, show k + a = a + k by omega]
/-- the proof of an entry that is there -/
def rootsN (hs : List (List UInt8)) (i : Nat) : List (List UInt8) := rootsL hs (pathL i 0 hs.length)
theorem rootsN_left (hs : List (List UInt8)) (i : Nat) (h2 : 2 ≤ hs.length) (hi : i < splitN hs.length) : rootsN hs i = rootsN (hs.take (splitN hs.length)) i ++ [rootL (hs.drop (splitN hs.length))] := by
  have hl := splitN_lt hs.length h2
  have hok := pathL_ok (splitN hs.length) i 0 (splitN hs.length) (by omega) (by omega) hi
  unfold rootsN
  rw [pathL_left i 0 hs.length (by omega) (by simpa using hi), List.length_take, Nat.min_eq_left (by omega), Nat.sub_zero, Nat.zero_add]
  unfold rootsL
  rw [List.map_append]
  congr 1
  · refine List.map_congr_left fun x hx => ?_
    exact (stretchL_take hs _ _ _ (hok.each x hx).2.2.1).symm
  · simp only [List.map_cons, List.map_nil]
    unfold stretchL
    rw [List.take_of_length_le (by rw [List.length_drop]; exact Nat.le_refl _)]
theorem rootsN_right (hs : List (List UInt8)) (i : Nat) (h2 : 2 ≤ hs.length) (hi : ¬ i < splitN hs.length) : rootsN hs i = rootsN (hs.drop (splitN hs.length)) (i - splitN hs.length) ++ [rootL (hs.take (splitN hs.length))] := by
  have hl := splitN_lt hs.length h2
  unfold rootsN
  rw [pathL_right i 0 hs.length (by omega) (by simpa using hi), List.length_drop, Nat.sub_zero, Nat.zero_add]
  have hsh := pathL_shift (splitN hs.length) (hs.length - splitN hs.length) (i - splitN hs.length) 0 (hs.length - splitN hs.length) (by omega)
  rw [show i - splitN hs.length + splitN hs.length = i by omega, Nat.zero_add, show hs.length - splitN hs.length + splitN hs.length = hs.length by omega] at hsh
  rw [hsh]
  unfold rootsL
  rw [List.map_append, List.map_map]
  congr 1
  · refine List.map_congr_left fun x hx => ?_
    exact (stretchL_drop hs _ _ _).symm
theorem rootsN_small (hs : List (List UInt8)) (i : Nat) (h : hs.length < 2) : rootsN hs i = [] := by
  unfold rootsN
  rw [pathL_small _ _ _ (by omega)]; rfl
theorem rootsN_all (hs : List (List UInt8)) (h : H32 hs) (i : Nat) : H32 (rootsN hs i) := rootsL_all hs h _
theorem length_rootsN (hs : List (List UInt8)) (i : Nat) : (rootsN hs i).length = (pathL i 0 hs.length).length := by simp [rootsN, rootsL]
theorem rootsP_nat (hs : List (List UInt8)) (i : Int) (h0 : 0 ≤ i) (h1 : i < hs.length) : rootsP hs i = rootsN hs i.toNat ∧ (pathA i hs.length).2 = 0 := by
  unfold rootsP rootsN pathA
  rw [if_neg (by omega)]
  exact ⟨by rw [Int.toNat_natCast], rfl⟩
end Go.Proofs.Ytmglkblomklcbaa
/- What incl.All hands out goes over the proofs of all entries. -/
namespace Go.Proofs.Ytmglkblomklcbaa
open Go Go.RowKit

theorem KeepU.hs {B n₁ : Nat} {U : Nat → Prop} {W W' : World} {X : Nat → Prop} {A : Option Addr} {n c : Nat} {q : List (List UInt8)} (h : KeepU B n₁ U W W') (hs : Hs W X A n c q) (hm : ∀ b, b < W.heap.size → X b → b < n₁ ∧ ¬ U b) : Hs W' X A n c q := ⟨h.slv hs.sl hm, hs.len, hs.all⟩
/-- a round is handed its number and the proof, new each time -/
def AllY (hs : List (List UInt8)) (n₁ k : Nat) (vs : Array Value) (W : World) : Prop :=
  ∃ v, vs = #[.int .i64 (k : Int), v] ∧ W.ownsRow n₁ 45 32 v (rootsN hs k).length (hcells (rootsN hs k))

set_option maxRecDepth 100000 in
set_option maxHeartbeats 2000000 in
theorem all1_seq (hs : List (List UInt8)) (A : Option Addr) (n c g : Nat) (U : Nat → Prop) (w : World) (hbox : Blk w g 22 #[.slice A n c]) (hgU : ¬ U g) (h : Hs w (fun b => ¬ U b) A n c hs) (hn : n ≤ 1000) :
    SeqU Try.prog 41 #[.pointer (some ⟨g, 0, none⟩)] n U (AllY hs) w := by
  intro ly J Jx W hW hJ hJx hY h0
  have hbox' := hbox.below hW hbox.lt
  have h' := h.step hW
  have hmx := h.sl.max
  have hroom := h.sl.room
  unfold maxLen at hmx
  have hgl : g < W.heap.size := hbox'.lt
  have hlen := h.len
  have hcell : W.cell? ⟨g, 0, none⟩ = some (.slice A n c) := by rw [hbox'.cell]; rfl
  have hst : J W.heap.size 0 W := h0 _ (Nat.le_refl _)
  have Hst := Lib.hid hst
  have HJ := Lib.hid hJ
  have HY := Lib.hid hY
  have Hlen := Lib.hid hlen
  clear hbox hJx hJ hY h hW h0 hst hlen
  refine callsIn_of_wp Try.func41 rfl trivial ?_ rfl
  simp only [Try.ntmps41, List.size_toArray, List.length_cons, List.length_nil, Nat.reduceAdd, Nat.reduceSub, Array.replicate_succ, Array.replicate_zero, List.push_toArray, List.append_toArray, List.nil_append, List.cons_append]
  gi_wp2
  gi_loopw [8] (fun i wr => ∃ k : Nat, k ≤ n ∧ i = .int .i64 k ∧ W.heap.size ≤ wr.heap.size ∧ J W.heap.size k wr ∧ Blk wr g 22 #[.slice A n c] ∧ Hs wr (fun b => b < W.heap.size ∧ ¬ U b) A n c hs)
    (fun i _ => n - (intOf i).toNat)
  case atStart => exact ⟨0, Nat.zero_le _, rfl, Nat.le_refl _, Hst.out, hbox', h'.weak fun b hb hx => ⟨hb, hx⟩⟩
  case round =>
    clear Hst h' hcell hbox'
    obtain ⟨k, hk, rfl, hsz, hJs, hbx, hs'⟩ := hrel
    by_cases hlt : k < n
    · have hpr := iprove_any hs A n c wr (k : Int) (hs'.weak fun _ _ _ => trivial) (by omega)
      obtain ⟨e1, e2⟩ := rootsP_nat hs (k : Int) (by omega) (by rw [Hlen.out]; omega)
      rw [e1, e2, Int.toNat_natCast] at hpr
      have c1 : wr.cell? ⟨g, 0, none⟩ = some (.slice A n c) := by rw [hbx.cell]; rfl
      have Hpr := Lib.hid hpr
      have hd : decide ((k : Int) < (n : Int)) = true := by simp; omega
      clear hpr e1 e2
      gi_wp2_with ((with_reducible show wpListIn _ _ _ _ _ (⟨some 14, .call _, _, _, _, _⟩ :: _) _ _); fail)
      refine ⟨trivial, callsIn_any openW (Hpr.out.mono ?_)⟩
      rintro e W2 ⟨v, rfl, ho, hb2⟩
      have hJ2 := HJ.out W.heap.size k wr W2 none hJs (grown_of_below hb2 none) (fun r e => by cases e)
      obtain ⟨fn, tmps, assign, body, hy, hR⟩ := HY.out W.heap.size k #[.int .i64 (k : Int), v] W2 (Nat.le_refl _) (Nat.le_trans hsz hb2.size) hlt hJ2 ⟨v, rfl, owns_le ho hsz⟩
      have hs2 := hs'.step hb2
      have hbx2 := hbx.step hb2
      have hsz2 := hb2.size
      clear hJ2 hJs hb2 hs' hbx c1 ho
      gi_wp2
      refine hR.mono ?_
      clear hR hy
      rintro e w4 (⟨rfl, hj4, hk4⟩ | ⟨rfl, hjx4, hk4⟩)
      · have hs4 : Hs w4 (fun b => b < W.heap.size ∧ ¬ U b) A n c hs := hk4.hs hs2 fun b _ hb => hb
        have hbx4 := hk4.blk hbx2 hgl hgU
        have hsz4 := hk4.size
        clear hk4 hs2 hbx2
        gi_wp2
        exact ⟨⟨k + 1, by omega, by go_num, by omega, hj4, hbx4, hs4⟩, by simp [intOf]; omega⟩
      · gi_wp2
        refine bodyPost_ret (by exact results_none rfl _ _ _) rfl ?_
        exact ⟨⟨_, rfl⟩, _, Nat.le_refl _, .inr ⟨k, hlt, hjx4⟩⟩
    · obtain rfl : k = n := by omega
      have hd : decide ((k : Int) < (k : Int)) = false := by simp
      gi_wp2
      go_end0
      exact ⟨⟨_, rfl⟩, _, Nat.le_refl _, .inl hJs⟩
end Go.Proofs.Ytmglkblomklcbaa
/- A range with a hash, as a value, a variable, in a slice. -/
namespace Go.Proofs.Ytmglkblomklcbaa
open Go Go.RowKit

def scell (s : StepV) : List Value := [.int .i64 (s.1.1 : Int), .int .i64 (s.1.2 : Int)] ++ s.2.map B
def scells (l : List StepV) : List Value := l.flatMap scell
def S32 (l : List StepV) : Prop := ∀ s ∈ l, s.2.length = 32
theorem length_scell (s : StepV) (h : s.2.length = 32) : (scell s).length = 34 := by simp [scell, h]
theorem scells_nil : scells [] = [] := rfl
theorem scells_one (s : StepV) : scells [s] = scell s := by simp [scells]
theorem scells_append (a b : List StepV) : scells (a ++ b) = scells a ++ scells b := by simp [scells]
theorem S32.append {a b : List StepV} (h : S32 a) (k : S32 b) : S32 (a ++ b) := fun x hx => (List.mem_append.1 hx).elim (h x) (k x)
theorem S32.one {s : StepV} (h : s.2.length = 32) : S32 [s] := fun x hx => by rw [List.mem_singleton.1 hx]; exact h
theorem scells_len : ∀ l : List StepV, S32 l → (scells l).length = l.length * 34
  | [], _ => rfl
  | s :: l, h => by
    have h1 := scells_len l (fun x hx => h x (by simp [hx]))
    have h2 := length_scell s (h s (by simp))
    simp only [scells, List.flatMap_cons, List.length_append, List.length_cons] at *
    omega
theorem oneS (l : List StepV) : ∀ v ∈ scells l, v.oneCell' = true := by
  intro v hv
  obtain ⟨s, _, hv⟩ := List.mem_flatMap.1 hv
  simp only [scell, List.mem_append, List.mem_cons, List.not_mem_nil, or_false] at hv
  rcases hv with (rfl | rfl) | hv
  · rfl
  · rfl
  · obtain ⟨b, _, rfl⟩ := List.mem_map.1 hv
    rfl
theorem oneSc (s : StepV) : ∀ v ∈ (scell s).toArray.toList, v.oneCell' = true := by
  have := oneS [s]
  rw [scells_one] at this
  simpa using this
theorem scells_at (l : List StepV) (h : S32 l) (k : Nat) (hk : k < l.length) (j : Nat) (v : Value) (hv : (scell (l.getD k ((0, 0), [])))[j]? = some v) : (scells l)[k * 34 + j]? = some v := by
  have e : l = l.take k ++ l.getD k ((0, 0), []) :: l.drop (k + 1) := by
    rw [List.getD_eq_getElem?_getD, List.getElem?_eq_getElem hk, Option.getD_some, ← List.drop_eq_getElem_cons hk, List.take_append_drop]
  have hl : (scells (l.take k)).length = k * 34 := by rw [scells_len _ (fun x hx => h x (List.mem_of_mem_take hx)), List.length_take, Nat.min_eq_left (Nat.le_of_lt hk)]
  generalize l.getD k ((0, 0), []) = s at e hv
  rw [e, scells_append, List.getElem?_append_right (by omega), hl, Nat.add_sub_cancel_left, scells, List.flatMap_cons, List.getElem?_append_left (List.getElem?_eq_some_iff.1 hv).1]
  exact hv
theorem explode32 (l : List UInt8) (h : l.length = 32) : ∃ a0 a1 a2 a3 a4 a5 a6 a7 a8 a9 a10 a11 a12 a13 a14 a15 a16 a17 a18 a19 a20 a21 a22 a23 a24 a25 a26 a27 a28 a29 a30 a31 : UInt8, l = [a0, a1, a2, a3, a4, a5, a6, a7, a8, a9, a10, a11, a12, a13, a14, a15, a16, a17, a18, a19, a20, a21, a22, a23, a24, a25, a26, a27, a28, a29, a30, a31] := by
  match l, h with
  | [a0, a1, a2, a3, a4, a5, a6, a7, a8, a9, a10, a11, a12, a13, a14, a15, a16, a17, a18, a19, a20, a21, a22, a23, a24, a25, a26, a27, a28, a29, a30, a31], _ => exact ⟨_, _, _, _, _, _, _, _, _, _, _, _, _, _, _, _, _, _, _, _, _, _, _, _, _, _, _, _, _, _, _, _, rfl⟩

/-- a type of such pairs, the type of its slices -/
structure StepT (T S : TypeId) : Prop where
  agg : ∀ w : World, (isAgg T).run Try.prog w = .ok true w
  size : ∀ w : World, (sizeOf T).run Try.prog w = .ok 34 w
  info : (Try.prog.info? T).map (fun i => (i.zero, i.size, i.bytes)) = some (some (.agg (scell ((0, 0), List.replicate 32 0)).toArray), 34, 48)
  slice : Try.prog.underlying S = some (.slice T)
  elem : Try.prog.elem S = T
  made : ∀ (a b : Nat) (l : List UInt8), l.length = 32 → Try.prog.built T [(0, .agg #[.int .i64 (a : Int), .int .i64 (b : Int)]), (1, .agg (l.map B).toArray)] = some (scell ((a, b), l)).toArray
theorem stepT1 : StepT 90 86 := ⟨fun _ => by kernel_rfl, fun _ => by kernel_rfl, by kernel_rfl, by kernel_rfl, by kernel_rfl, fun a b l h => by
  obtain ⟨a0, a1, a2, a3, a4, a5, a6, a7, a8, a9, a10, a11, a12, a13, a14, a15, a16, a17, a18, a19, a20, a21, a22, a23, a24, a25, a26, a27, a28, a29, a30, a31, rfl⟩ := explode32 l h
  kernel_rfl⟩
theorem stepT2 : StepT 92 54 := ⟨fun _ => by kernel_rfl, fun _ => by kernel_rfl, by kernel_rfl, by kernel_rfl, by kernel_rfl, fun a b l h => by
  obtain ⟨a0, a1, a2, a3, a4, a5, a6, a7, a8, a9, a10, a11, a12, a13, a14, a15, a16, a17, a18, a19, a20, a21, a22, a23, a24, a25, a26, a27, a28, a29, a30, a31, rfl⟩ := explode32 l h
  kernel_rfl⟩

theorem run_build_op {ρ : Operand → Value} {o : Oper} {T : TypeId} {ps : Array (Nat × Operand)} {cs : Array Value} (ho : o.op = .build T ps) (h : Try.prog.built T ((ps.map fun (i, x) => (i, ρ x)).toList) = some cs) (W : World) : (execOp ρ o).run Try.prog W = .ok (.value (.agg cs)) W := by
  unfold execOp
  simp only [ho, Sem.run_bind, Sem.run_pure, run_build W T _ cs h, Result.andThen_ok]
theorem run_build_st {T S : TypeId} (hT : StepT T S) {ρ : Operand → Value} {o : Oper} (x y : Operand) (a b : Nat) (l : List UInt8) (hl : l.length = 32) (ho : o.op = .build T #[(0, x), (1, y)]) (hx : ρ x = .agg #[.int .i64 (a : Int), .int .i64 (b : Int)]) (hy : ρ y = .agg (l.map B).toArray) (W : World) :
    (execOp ρ o).run Try.prog W = .ok (.value (.agg (scell ((a, b), l)).toArray)) W :=
  run_build_op ho (by
    have e : (#[(0, x), (1, y)].map fun (i, x) => (i, ρ x)).toList = [(0, .agg #[.int .i64 (a : Int), .int .i64 (b : Int)]), (1, .agg (l.map B).toArray)] := by simp [hx, hy]
    rw [e]
    exact hT.made a b l hl) W

/-- a variable that holds such a pair -/
structure SV (T : TypeId) (w : World) (g : Nat) (s : StepV) : Prop where
  blk : Blk w g T (scell s).toArray
  len : s.2.length = 32
section
variable {T S : TypeId} {w W : World} {g : Nat} {s : StepV}
theorem SV.step (h : SV T w g s) (hb : Below w.heap.size w W) : SV T W g s := ⟨h.blk.step hb, h.len⟩
theorem SV.lt (h : SV T w g s) : g < w.heap.size := h.blk.lt
theorem SV.drew (h : SV T w g s) : SV T w.drew g s := ⟨h.blk, h.len⟩
theorem SV.far {n : Nat} (h : SV T w g s) (hb : Below n w W) (hn : g < n) : SV T W g s := ⟨h.blk.below hb hn, h.len⟩
theorem SV.grown {row : Option Nat} (h : SV T w g s) (hg : w.grownBy W row) (hr : some g ≠ row) : SV T W g s := ⟨h.blk.grown hg hr, h.len⟩
theorem SV.load (hT : StepT T S) (h : SV T w g s) : (Instr.loadAt T (.pointer (some ⟨g, 0, none⟩))).run Try.prog w = .ok (.agg (scell s).toArray) w :=
  run_load_blk (hT.agg _) (hT.size _) g _ (by simp [length_scell s h.len]) h.blk
theorem SV.hash (h : SV T w g s) : (Instr.loadAt 45 (.pointer (some ⟨g, 2, none⟩))).run Try.prog w = .ok (.agg (s.2.map B).toArray) w :=
  run_load_agg (agg26 _) (size26 _) g 2 (s.2.map B) (by simp [h.len]) fun j u hu => by
    rw [h.blk.cell, List.getElem?_toArray]
    show ([Value.int .i64 (s.1.1 : Int), .int .i64 (s.1.2 : Int)] ++ s.2.map B)[2 + j]? = some u
    rw [List.getElem?_append_right (by simp)]
    simpa using hu
theorem SV.range (h : SV T w g s) : (Instr.loadAt 68 (.pointer (some ⟨g, 0, none⟩))).run Try.prog w = .ok (.agg #[.int .i64 (s.1.1 : Int), .int .i64 (s.1.2 : Int)]) w :=
  run_load_agg (aggR _) (sizeR _) g 0 [.int .i64 (s.1.1 : Int), .int .i64 (s.1.2 : Int)] rfl fun j u hu => by
    rw [h.blk.cell, List.getElem?_toArray, Nat.zero_add]
    show ([Value.int .i64 (s.1.1 : Int), .int .i64 (s.1.2 : Int)] ++ s.2.map B)[j]? = some u
    rw [List.getElem?_append_left (List.getElem?_eq_some_iff.1 hu).1]
    exact hu
end
section
variable {T S : TypeId} {w : World} {ops : Array Oper} {rest : List Oper} {o o1 o2 : Oper} {a : Act} {Q : Exit → Act → World → Prop} {s : StepV}
theorem run_alloc_st (hT : StepT T S) {ρ : Operand → Value} (ho : o.op = .alloc T) (w : World) : (execOp ρ o).run Try.prog w = .ok (.value (.pointer (some ⟨w.heap.size, 0, none⟩))) (w.alloc (.cells (scell ((0, 0), List.replicate 32 0)).toArray T)) := by
  obtain ⟨i, hi, hii⟩ := Option.map_eq_some_iff.1 hT.info
  simp only [Prod.mk.injEq] at hii
  unfold execOp
  rw [ho]
  simp [Instr.alloc, Sem.run_bind, zeroValue, typeInfo, hi, hii.1, newVar, newRow, Value.cells]
theorem wpList_snew (hT : StepT T S) (hg : o.guard = none) (ho : o.op = .alloc T) (h : ∀ W, SV T W w.heap.size ((0, 0), List.replicate 32 0) → Below w.heap.size w W → wpList Try.prog ops Q rest (a.put o.dst (.pointer (some ⟨w.heap.size, 0, none⟩))) W) : wpList Try.prog ops Q (o :: rest) a w :=
  wpList_run hg _ _ (run_alloc_st hT ho w) (h _ ⟨Blk.new w T _, rfl⟩ ((Below.refl _ _).alloc (Nat.le_refl _) _))
/-- such a variable is written over -/
theorem wpList_sset (hT : StepT T S) {g : Nat} {s' : StepV} (x y : Operand) (hg : o.guard = none) (ho : o.op = .store T x y) (k : SV T w g s') (hx : a.eval x = .pointer (some ⟨g, 0, none⟩)) (hy : a.eval y = .agg (scell s).toArray) (hl : s.2.length = 32)
    (h : ∀ W, SV T W g s → w.grownBy W (some g) → wpList Try.prog ops Q rest (a.put o.dst undef) W) : wpList Try.prog ops Q (o :: rest) a w :=
  wpList_store_blk hg T x y ho 34 hT.size g (scell s).toArray hx hy (by simp [length_scell s hl]) (oneSc s) T _ k.blk (by simp [length_scell s' k.len]) (h _ ⟨k.blk.setRow_ _, hl⟩ ⟨rfl, rfl, rfl, by simp, fun i _ hne => setRow_other w g i _ (fun e => hne (by rw [e]))⟩)
/-- a new one, written at once -/
theorem wpList_svar (hT : StepT T S) (x y : Operand) (hg1 : o1.guard = none) (hg2 : o2.guard = none) (ho1 : o1.op = .alloc T) (ho2 : o2.op = .store T x y)
    (hx : (a.put o1.dst (.pointer (some ⟨w.heap.size, 0, none⟩))).eval x = .pointer (some ⟨w.heap.size, 0, none⟩)) (hy : (a.put o1.dst (.pointer (some ⟨w.heap.size, 0, none⟩))).eval y = .agg (scell s).toArray) (hl : s.2.length = 32)
    (h : ∀ W, SV T W w.heap.size s → Below w.heap.size w W → wpList Try.prog ops Q rest ((a.put o1.dst (.pointer (some ⟨w.heap.size, 0, none⟩))).put o2.dst undef) W) : wpList Try.prog ops Q (o1 :: o2 :: rest) a w :=
  wpList_snew hT hg1 ho1 fun W k hb => wpList_sset hT x y hg2 ho2 k hx hy hl fun W' k' hg => h W' k' (hb.grown hg hb.size fun r e => by cases e; exact Nat.le_refl _)
/-- its hash is written over -/
theorem wpList_shash {g : Nat} {l : List UInt8} (x y : Operand) (hg : o.guard = none) (ho : o.op = .store 45 x y) (k : SV T w g s) (hx : a.eval x = .pointer (some ⟨g, 2, none⟩)) (hy : a.eval y = .agg (l.map B).toArray) (hl : l.length = 32)
    (h : ∀ W, SV T W g (s.1, l) → w.grownBy W (some g) → wpList Try.prog ops Q rest (a.put o.dst undef) W) : wpList Try.prog ops Q (o :: rest) a w := by
  refine wpList_store_agg hg 45 x y ho 32 size26 g 2 (l.map B).toArray hx hy (by simp [hl]) (oneCell_B _) T _ k.blk (by simp [length_scell s k.len]) ?_
  refine h _ ⟨?_, hl⟩ ⟨rfl, rfl, rfl, by simp, fun i _ hne => setRow_other w g i _ (fun e => hne (by rw [e]))⟩
  have e : (((scell s).toArray.toList.take 2 ++ (l.map B).toArray.toList ++ (scell s).toArray.toList.drop (2 + 32)).toArray) = (scell (s.1, l)).toArray := by
    have h1 : (scell s).drop 34 = [] := List.drop_eq_nil_of_le (by rw [length_scell s k.len]; exact Nat.le_refl _)
    show (((scell s).take 2 ++ l.map B ++ (scell s).drop 34).toArray) = _
    rw [h1]
    simp [scell]
  rw [e]
  exact k.blk.setRow_ _
end
/-- one more behind a row of one's own -/
theorem append_st {T S : TypeId} (hT : StepT T S) {w : World} {base n : Nat} {v : Value} {q : List StepV} (hown : w.ownsRow base T 34 v n (scells q)) (s : StepV) (hs : s.2.length = 32) (hn : n ≤ 1000000) (hbase : base ≤ w.heap.size) :
    ∃ v' w', (Builtin.append_ #[S, S] S #[v, .slice (some ⟨w.heap.size, 0, none⟩) 1 1]).run Try.prog (w.alloc (.cells (scell s).toArray T)) = .ok v' w' ∧ w'.ownsRow base T 34 v' (n + 1) (scells (q ++ [s])) ∧ w.grownBy w' v.ownBlock ∧ (v'.ownBlock = v.ownBlock ∨ ∃ k, v'.ownBlock = some k ∧ w.heap.size ≤ k) := by
  have hb : Below w.heap.size w (w.alloc (.cells (scell s).toArray T)) := (Below.refl _ _).alloc (Nat.le_refl _) _
  have hz : (Value.agg (scell ((0, 0), List.replicate 32 0)).toArray).cells.size = 34 := rfl
  obtain ⟨v', w', h1, h2, h3, h4⟩ := append_slv (P := Try.prog) (ty := S) hT.slice hT.info hz (by decide) (owns_step hown hb) (SlV.lit w (fun _ => True) T (scell s) (n := 1) (s := 34) (by rw [length_scell s hs]) (by unfold maxLen; omega) trivial) (by have := oneSc s; simpa using this) (by unfold maxLen; omega) (by omega) (Nat.le_trans hbase hb.size)
  refine ⟨v', w', h1, by rw [scells_append, scells_one]; exact h2, ⟨h3.os, h3.tape, h3.output, Nat.le_trans hb.size h3.size, fun k hk hne => (h3.block k (Nat.lt_of_lt_of_le hk hb.size) hne).trans (hb.block k hk)⟩, ?_⟩
  rcases h4 with h4 | ⟨k, h4, h5⟩
  · exact .inl h4
  · exact .inr ⟨k, h4, Nat.le_trans hb.size h5⟩
/-- a literal of one -/
theorem run_litS_op {T S : TypeId} (hT : StepT T S) {ρ : Operand → Value} {o : Oper} (s : StepV) (hs : s.2.length = 32) (y : Operand) (ho : o.op = .buildSlice S 1 #[(0, y)]) (hy : ρ y = .agg (scell s).toArray) (W : World) :
    (execOp ρ o).run Try.prog W = .ok (.value (.slice (some ⟨W.heap.size, 0, none⟩) 1 1)) (W.alloc (.cells (scell s).toArray T)) := by
  obtain ⟨i, hi, hii⟩ := Option.map_eq_some_iff.1 hT.info
  simp only [Prod.mk.injEq] at hii
  obtain ⟨hz, hsz, -⟩ := hii
  have := run_buildSlice (P := Try.prog) W S T 1 #[(0, .agg (scell s).toArray)] (scell s).toArray i _ hT.slice hi hz (by rw [hsz]; omega) (by rw [hsz]; omega) (by
    have hw := Great.fill_whole (s := 34) (by decide) [Value.agg (scell s).toArray] ((Array.range (1 * 34)).map ((Value.agg (scell ((0, 0), List.replicate 32 0)).toArray).cells[· % (Value.agg (scell ((0, 0), List.replicate 32 0)).toArray).cells.size]!)) (by intro v hv; rw [List.mem_singleton.1 hv]; simp [Value.cells, length_scell s hs]) (by simp)
    rw [hsz]
    exact hw.trans (by simp [Value.cells]))
  unfold execOp
  simp only [ho, Sem.run_bind, Sem.run_pure, show (#[(0, y)].map fun (x : Nat × Operand) => (x.1, ρ x.2)) = #[(0, .agg (scell s).toArray)] by simp [hy], this, Result.andThen_ok]
end Go.Proofs.Ytmglkblomklcbaa
/- Slices of steps. -/
namespace Go.Proofs.Ytmglkblomklcbaa
open Go Go.RowKit

structure St (w : World) (X : Nat → Prop) (A : Option Addr) (n c : Nat) (q : List StepV) : Prop where
  sl : SlV w X A n c 34 (scells q)
  len : q.length = n
  all : S32 q
section
variable {w w' : World} {X Y : Nat → Prop} {A : Option Addr} {n c : Nat} {q : List StepV}
theorem St.weak (h : St w X A n c q) (hX : ∀ b, b < w.heap.size → X b → Y b) : St w Y A n c q := ⟨h.sl.weak hX, h.len, h.all⟩
theorem St.step (h : St w X A n c q) (hb : Below w.heap.size w w') : St w' X A n c q := ⟨h.sl.step hb, h.len, h.all⟩
theorem St.drew (h : St w X A n c q) : St w.drew X A n c q := ⟨h.sl.drew, h.len, h.all⟩
theorem St.below {N : Nat} (h : St w X A n c q) (hb : Below N w w') (hX : ∀ b, b < w.heap.size → X b → b < N) : St w' X A n c q := ⟨h.sl.below hb hX, h.len, h.all⟩
theorem St.of_owns {base : Nat} {T : TypeId} {v : Value} (h : w.ownsRow base T 34 v n (scells q)) (hn : q.length = n) (ha : S32 q) : ∃ A c, v = .slice A n c ∧ St w (fun b => base ≤ b ∧ some b = v.ownBlock) A n c q := by
  obtain ⟨A, c, hv, hs⟩ := owns_slv h
  exact ⟨A, c, hv, hs, hn, ha⟩
theorem St.at_ (h : St w X A n c q) (hn : 0 < n) : ∃ b o, A = some ⟨b, o, none⟩ ∧ b < w.heap.size ∧ X b ∧ ∀ i, i < n →
    (Instr.loadAt 45 (.pointer (some ⟨b, o + i * 34 + 2, none⟩))).run Try.prog w = .ok (.agg ((q.getD i ((0, 0), [])).2.map B).toArray) w ∧
    (Instr.loadAt 68 (.pointer (some ⟨b, o + i * 34, none⟩))).run Try.prog w = .ok (.agg #[.int .i64 ((q.getD i ((0, 0), [])).1.1 : Int), .int .i64 ((q.getD i ((0, 0), [])).1.2 : Int)]) w ∧
    ∀ T S, StepT T S → (Instr.loadAt T (.pointer (some ⟨b, o + i * 34, none⟩))).run Try.prog w = .ok (.agg (scell (q.getD i ((0, 0), []))).toArray) w := by
  obtain ⟨b, o, h1, h2, h3, h4⟩ := h.sl.at_ hn (by decide)
  refine ⟨b, o, h1, h2, h3, fun i hi => ?_⟩
  have hi' : i < q.length := by rw [h.len]; exact hi
  have hl : (q.getD i ((0, 0), [])).2.length = 32 := by
    rw [List.getD_eq_getElem?_getD, List.getElem?_eq_getElem hi']
    exact h.all _ (List.getElem_mem hi')
  have hat := fun j v hv => scells_at q h.all i hi' j v hv
  generalize q.getD i ((0, 0), []) = s at hl hat ⊢
  refine ⟨run_load_agg (agg26 _) (size26 _) b (o + i * 34 + 2) (s.2.map B) (by simp [hl]) fun j u hu => ?_,
    run_load_agg (aggR _) (sizeR _) b (o + i * 34) [.int .i64 (s.1.1 : Int), .int .i64 (s.1.2 : Int)] rfl fun j u hu => ?_, fun T S hT => ?_⟩
  · rw [show o + i * 34 + 2 + j = o + (i * 34 + (2 + j)) by omega]
    refine h4 _ u (hat (2 + j) u ?_)
    show ([Value.int .i64 (s.1.1 : Int), .int .i64 (s.1.2 : Int)] ++ s.2.map B)[2 + j]? = some u
    rw [List.getElem?_append_right (by simp)]
    simpa using hu
  · rw [Nat.add_assoc]
    refine h4 _ u (hat j u ?_)
    show ([Value.int .i64 (s.1.1 : Int), .int .i64 (s.1.2 : Int)] ++ s.2.map B)[j]? = some u
    rw [List.getElem?_append_left (List.getElem?_eq_some_iff.1 hu).1]
    exact hu
  · exact run_load_agg (hT.agg _) (hT.size _) b (o + i * 34) (scell s) (length_scell s hl) fun j u hu => by
      rw [Nat.add_assoc]
      exact h4 _ u (hat j u hu)
end
theorem lastH_at (q : List StepV) (n : Nat) (h : q.length = n + 1) : (q.getD n ((0, 0), [])).2 = lastH q := by
  unfold lastH
  rw [List.getLastD_eq_getLast?, List.getLast?_eq_getElem?, List.getD_eq_getElem?_getD, h, Nat.add_sub_cancel]
end Go.Proofs.Ytmglkblomklcbaa
/- What incl.Up hands out goes over the steps. -/
namespace Go.Proofs.Ytmglkblomklcbaa
open Go Go.RowKit

def stepVs (s : StepV) : Array Value := #[.agg #[.int .i64 (s.1.1 : Int), .int .i64 (s.1.2 : Int)], .agg (s.2.map B).toArray]
theorem KeepU.st {B n₁ : Nat} {U : Nat → Prop} {W W' : World} {X : Nat → Prop} {A : Option Addr} {n c : Nat} {q : List StepV} (h : KeepU B n₁ U W W') (hs : St W X A n c q) (hm : ∀ b, b < W.heap.size → X b → b < n₁ ∧ ¬ U b) : St W' X A n c q := ⟨h.slv hs.sl hm, hs.len, hs.all⟩

set_option maxRecDepth 100000 in
set_option maxHeartbeats 2000000 in
theorem up1_seq (q : List StepV) (A : Option Addr) (n c g : Nat) (U : Nat → Prop) (w : World) (hbox : Blk w g 86 #[.slice A n c]) (h : St w (fun b => ¬ U b) A n c q) (hn : n ≤ 1099511627776) :
    SeqU Try.prog 44 #[.pointer (some ⟨g, 0, none⟩)] n U (fun _ k vs _ => vs = stepVs (q.getD k ((0, 0), []))) w := by
  intro ly J Jx W hW hJ hJx hY h0
  have hbox' := hbox.below hW hbox.lt
  have h' := h.step hW
  have hmx := h.sl.max
  have hroom := h.sl.room
  unfold maxLen at hmx
  have hgl : g < W.heap.size := hbox'.lt
  have hcell : W.cell? ⟨g, 0, none⟩ = some (.slice A n c) := by rw [hbox'.cell]; rfl
  have hst : J W.heap.size 0 W := h0 _ (Nat.le_refl _)
  have Hst := Lib.hid hst
  have HJ := Lib.hid hJ
  have HY := Lib.hid hY
  have Hbox := Lib.hid hbox'
  clear hbox hJx hJ hY hbox' h hW h0 hst
  refine callsIn_of_wp Try.func44 rfl trivial ?_ rfl
  simp only [Try.ntmps44, List.size_toArray, List.length_cons, List.length_nil, Nat.reduceAdd, Nat.reduceSub, Array.replicate_succ, Array.replicate_zero, List.push_toArray, List.append_toArray, List.nil_append, List.cons_append]
  gi_wp2
  gi_loopw [7] (fun i wr => ∃ k : Nat, k ≤ n ∧ i = .int .i64 k ∧ W.heap.size ≤ wr.heap.size ∧ J W.heap.size k wr ∧ St wr (fun b => b < W.heap.size ∧ ¬ U b) A n c q)
    (fun i _ => n - (intOf i).toNat)
  case atStart => exact ⟨0, Nat.zero_le _, rfl, Nat.le_refl _, Hst.out, h'.weak fun b hb hx => ⟨hb, hx⟩⟩
  case round =>
    clear Hst h' hcell
    obtain ⟨k, hk, rfl, hsz, hJs, hs⟩ := hrel
    by_cases hlt : k < n
    · obtain ⟨b, o, rfl, -, -, hld⟩ := hs.at_ (by omega)
      obtain ⟨-, -, hld⟩ := hld k hlt
      have hld := hld _ _ stepT1
      have hsl : (q.getD k ((0, 0), [])).2.length = 32 := by
        rw [List.getD_eq_getElem?_getD, List.getElem?_eq_getElem (by rw [hs.len]; exact hlt)]
        exact hs.all _ (List.getElem_mem _)
      obtain ⟨s, hx⟩ : ∃ x, q.getD k ((0, 0), []) = x := ⟨_, rfl⟩
      rw [hx] at hld hsl
      have Hx := Lib.hid hx
      have Hsl := Lib.hid hsl
      clear hx hsl
      gi_wp2_with (first
        | ((with_reducible show wpListIn _ _ _ _ _ (⟨some 10, .load _ _, _, _, _, _⟩ :: _) _ _); refine wpListIn_of1 openW rfl ?_; refine wpList_cell 90 (.tmp 9) b (o + k * 34) (.agg (scell s).toArray) (by kernel_rfl) rfl rfl hld ?_; refine thenN_nil ?_; simp only [Act.put])
        | ((with_reducible show wpListIn _ _ _ _ _ (⟨some 4, .alloc _, _, _, _, _⟩ :: _) _ _); refine wpListIn_of2 openW rfl ?_; refine wpList_svar (s := s) stepT1 (.tmp 4) (.tmp 10) rfl rfl rfl rfl rfl rfl Hsl.out ?_; intro W2 k4 hb2; refine thenN_nil ?_; simp only [Act.put])
        | ((with_reducible show wpListIn _ _ _ _ _ (⟨some 13, .load _ _, _, _, _, _⟩ :: _) _ _); refine wpListIn_of1 openW rfl ?_; refine wpList_cell 68 (.tmp 12) wr.heap.size 0 (.agg #[.int .i64 (s.1.1 : Int), .int .i64 (s.1.2 : Int)]) (by kernel_rfl) rfl rfl k4.range ?_; refine thenN_nil ?_; simp only [Act.put])
        | ((with_reducible show wpListIn _ _ _ _ _ (⟨some 15, .load _ _, _, _, _, _⟩ :: _) _ _); refine wpListIn_of1 openW rfl ?_; refine wpList_cell 45 (.tmp 14) wr.heap.size 2 (.agg (s.2.map B).toArray) (by kernel_rfl) rfl rfl k4.hash ?_; refine thenN_nil ?_; simp only [Act.put]; have hJ2 := HJ.out W.heap.size k wr W2 none hJs (grown_of_below hb2 none) (fun r e => by cases e); obtain ⟨fn, tmps, assign, body, hy, hR⟩ := HY.out W.heap.size k (stepVs s) W2 (Nat.le_refl _) (Nat.le_trans hsz hb2.size) hlt hJ2 (by rw [Hx.out]); clear hJ2 hJs hld; unfold stepVs at hy))
      refine hR.mono ?_
      have hs2 := hs.step hb2
      have hsz2 := hb2.size
      clear hR hy k4 hb2 hs
      rintro e w4 (⟨rfl, hj4, hk4⟩ | ⟨rfl, hjx4, hk4⟩)
      · have hs4 : St w4 (fun b => b < W.heap.size ∧ ¬ U b) (some ⟨b, o, none⟩) n c q := hk4.st hs2 fun b _ hb => hb
        have hsz4 := hk4.size
        clear hk4 hs2
        gi_wp2
        exact ⟨⟨k + 1, by omega, by go_num, by omega, hj4, hs4⟩, by simp [intOf]; omega⟩
      · gi_wp2
        refine bodyPost_ret (by exact results_none rfl _ _ _) rfl ?_
        exact ⟨⟨_, rfl⟩, _, Nat.le_refl _, .inr ⟨k, hlt, hjx4⟩⟩
    · obtain rfl : k = n := by omega
      gi_wp2
      go_end0
      exact ⟨⟨_, rfl⟩, _, Nat.le_refl _, .inl hJs⟩
end Go.Proofs.Ytmglkblomklcbaa
/- notaryref08.Same: where two rows are alike. -/
namespace Go.Proofs.Ytmglkblomklcbaa
open Go Go.RowKit

structure Sm8C (w : World) (A A' : Option Addr) (n c c' : Nat) (hs : List (List UInt8)) (W : World) : Prop where
  h1 : Hs W (fun _ => True) A n c hs
  h2 : Hs W (fun _ => True) A' n c' hs
  bel : Below w.heap.size w W
theorem Sm8C.drew {w W : World} {A A' : Option Addr} {n c c' : Nat} {hs : List (List UInt8)} (h : Sm8C w A A' n c c' hs W) : Sm8C w A A' n c c' hs W.drew := ⟨h.h1.drew, h.h2.drew, h.bel.drew⟩

set_option maxHeartbeats 1000000 in
set_option maxRecDepth 100000 in
theorem same_any (hs : List (List UInt8)) (A A' : Option Addr) (n c c' : Nat) (w : World) (h1 : Hs w (fun _ => True) A n c hs) (h2 : Hs w (fun _ => True) A' n c' hs) (hn : n ≤ 4398046511104) :
    Calls Try.prog 16 #[.slice A n c, .slice A' n c'] w fun e w' => e = .returned (.bool true) ∧ Below w.heap.size w w' := by
  have hlen := h1.len
  have hc1 := h1.sl.room
  have hc2 := h2.sl.room
  have hC0 : Sm8C w A A' n c c' hs w := ⟨h1, h2, Below.refl _ _⟩
  clear h1 h2
  have Hlen := Lib.hid hlen
  clear hlen
  go_enter Try.func16, Try.ntmps16
  go_wp2_with fail
  go_loopw [5] (fun v wr => ∃ (q : Nat), q ≤ n ∧ v = .int .i64 q ∧ Sm8C w A A' n c c' hs wr) (fun v _ => n - (intOf v).toNat)
  case atStart => exact ⟨0, by omega, rfl, hC0⟩
  case round =>
    clear hC0
    obtain ⟨q, hq, rfl, hC⟩ := hrel
    by_cases hlq : q < n
    · obtain ⟨b1, o1, hA1, -, -, -⟩ := hC.h1.at_ (by omega)
      obtain ⟨b2, o2, hA2, -, -, -⟩ := hC.h2.at_ (by omega)
      subst hA1 hA2
      obtain ⟨x, hx⟩ : ∃ x, hs.getD q [] = x := ⟨_, rfl⟩
      have hxl : x.length = 32 := by rw [← hx]; exact hC.h1.all.getD q (by rw [Hlen.out]; exact hlq)
      have l1 : ∀ s : InC (Sm8C w (some ⟨b1, o1, none⟩) (some ⟨b2, o2, none⟩) n c c' hs), (Instr.loadAt 45 (.pointer (some ⟨b1, o1 + q * 32, none⟩))).run Try.prog s.W = .ok (.agg (x.map B).toArray) s.W := fun s => by
        obtain ⟨b, o, hA, -, -, hld⟩ := s.ok.h1.at_ (by omega)
        cases hA
        rw [← hx]; exact hld q hlq
      have l2 : ∀ s : InC (Sm8C w (some ⟨b1, o1, none⟩) (some ⟨b2, o2, none⟩) n c c' hs), (Instr.loadAt 45 (.pointer (some ⟨b2, o2 + q * 32, none⟩))).run Try.prog s.W = .ok (.agg (x.map B).toArray) s.W := fun s => by
        obtain ⟨b, o, hA, -, -, hld⟩ := s.ok.h2.at_ (by omega)
        cases hA
        rw [← hx]; exact hld q hlq
      have Hx := Lib.hid hx
      have Hxl := Lib.hid hxl
      have Hl1 := Lib.hid l1
      have Hl2 := Lib.hid l2
      clear hx hxl l1 l2
      go_upto_region 6 with fail
      refine wp_region_mix (Sm8C w (some ⟨b1, o1, none⟩) (some ⟨b2, o2, none⟩) n c c' hs) [(0, true), (1, true), (2, true), (3, true), (4, true), (5, true), (6, true), (7, true), (8, true)] (by kernel_rfl) (by kernel_rfl) hC.drew fun _ => ?_
      simp only [List.map_cons, List.map_nil, Array.getD_eq_getD_getElem?, List.getElem?_toArray, List.getElem?_cons_succ, List.getElem?_cons_zero, Option.getD_some]
      iterate 3 (refine wpMix_s (fun K hK => ?_); go_simp; refine hK _ ?_; clear hK K)
      refine wpMix_load (by kernel_rfl) 45 (.tmp 19) rfl b1 (o1 + q * 32) rfl (x.map B).toArray Hl1.out ?_
      simp only [Act.put]
      iterate 3 (refine wpMix_s (fun K hK => ?_); go_simp; refine hK _ ?_; clear hK K)
      refine wpMix_load (by kernel_rfl) 45 (.tmp 23) rfl b2 (o2 + q * 32) rfl (x.map B).toArray Hl2.out ?_
      simp only [Act.put]
      refine wpMix_v (by kernel_rfl) (.bool false) (fun s => run_neq26_f (.tmp 20) (.tmp 24) _ x x rfl rfl rfl Hxl.out Hxl.out rfl s.W) ?_
      simp only [Act.put]
      refine wpMix_nil ?_
      intro hC1
      generalize wr.drew = W1 at hC1 ⊢
      go_wp2_with fail
      refine ⟨⟨q + 1, by omega, by go_num, hC1⟩, by simp [intOf]; omega⟩
    · have hqn : q = n := by omega
      subst hqn
      go_wp2_with fail
      go_ret
      exact ⟨rfl, hC.bel⟩
end Go.Proofs.Ytmglkblomklcbaa
/- A part of a row of hashes. -/
namespace Go.Proofs.Ytmglkblomklcbaa
open Go Go.RowKit

theorem Hs.fewer {W : World} {X : Nat → Prop} {A : Option Addr} {n m c : Nat} {hs ms : List (List UInt8)} (h : Hs W X A m c (hs ++ ms)) (hn : hs.length = n) : Hs W X A n c hs := by
  subst hn
  have := h.take hs.length (by rw [← h.len, List.length_append]; omega)
  rwa [List.take_left] at this

end Go.Proofs.Ytmglkblomklcbaa
