/- The front of a list of hashes: its parts are the roots of the list's whole stretches, its root is the list's (plain). -/
import Derived.Test.YtonidnfgneokbaaQd217
import Derived.Test.YtonidnfgneokbaaQd220
import Derived.Test.YtonidnfgneokbaaQd210
namespace Go.Proofs.Ytonidnfgneokbaa
open Go Go.RowKit

/-- the parts stand for these hashes -/
def IsF : FrV → List (List UInt8) → Prop
  | [], hs => hs = []
  | p :: ps, hs => 2 ^ p.1 ≤ hs.length ∧ p.2 = rootL (hs.take (2 ^ p.1)) ∧ IsF ps (hs.drop (2 ^ p.1))
theorem rootL_pow (k : Nat) (a b : List (List UInt8)) (ha : a.length = 2 ^ k) (hb : b.length = 2 ^ k) : rootL (a ++ b) = hNode (rootL a) (rootL b) := by
  have hp := Nat.two_pow_pos k
  have h2 : 2 ^ (k + 1) = 2 ^ k + 2 ^ k := by rw [Nat.pow_succ]; omega
  have hl : (a ++ b).length = 2 ^ k + 2 ^ k := by rw [List.length_append, ha, hb]
  rw [rootL_more (a ++ b) (by rw [hl]; omega), hl, splitN_eq (2 ^ k + 2 ^ k) k (by omega) (by omega), ← ha, List.take_left, List.drop_left]
theorem IsF.append : ∀ (ps : FrV) (hs : List (List UInt8)), IsF ps hs → ∀ qs hs', IsF qs hs' → IsF (ps ++ qs) (hs ++ hs')
  | [], hs, h, qs, hs', h' => by rw [show hs = [] from h]; exact h'
  | p :: ps, hs, h, qs, hs', h' => by
    obtain ⟨h1, h2, h3⟩ := h
    refine ⟨by rw [List.length_append]; omega, by rw [List.take_append_of_le_length h1]; exact h2, ?_⟩
    rw [List.drop_append_of_le_length h1]
    exact IsF.append ps _ h3 qs hs' h'
theorem IsF.split : ∀ (ps qs : FrV) (hs : List (List UInt8)), IsF (ps ++ qs) hs → ∃ a b, hs = a ++ b ∧ IsF ps a ∧ IsF qs b
  | [], qs, hs, h => ⟨[], hs, rfl, rfl, h⟩
  | p :: ps, qs, hs, h => by
    obtain ⟨h1, h2, h3⟩ := h
    obtain ⟨a, b, e, ha, hb⟩ := IsF.split ps qs _ h3
    have hl : (hs.take (2 ^ p.1)).length = 2 ^ p.1 := by rw [List.length_take]; omega
    refine ⟨hs.take (2 ^ p.1) ++ a, b, by rw [List.append_assoc, ← e, List.take_append_drop], ⟨by rw [List.length_append, hl]; omega, ?_, ?_⟩, hb⟩
    · rw [List.take_append_of_le_length (by rw [hl]; omega), List.take_of_length_le (by rw [hl]; omega)]
      exact h2
    · rw [List.drop_append_of_le_length (by rw [hl]; omega), List.drop_of_length_le (by rw [hl]; omega)]
      exact ha
theorem IsF.one {p : FpV} {hs : List (List UInt8)} (hl : hs.length = 2 ^ p.1) (h : p.2 = rootL hs) : IsF [p] hs :=
  ⟨by omega, by rw [List.take_of_length_le (by omega)]; exact h, List.drop_of_length_le (by omega)⟩
theorem IsF.one' {p : FpV} {hs : List (List UInt8)} (h : IsF [p] hs) : hs.length = 2 ^ p.1 ∧ p.2 = rootL hs := by
  obtain ⟨h1, h2, h3⟩ := h
  have h4 : (hs.drop (2 ^ p.1)).length = 0 := by rw [show hs.drop (2 ^ p.1) = [] from h3]; rfl
  rw [List.length_drop] at h4
  have hl : hs.length = 2 ^ p.1 := by omega
  exact ⟨hl, by rw [List.take_of_length_le (by omega)] at h2; exact h2⟩
theorem IsF.come_ : ∀ (n : Nat) (ps : FrV), ps.length = n → ∀ (hs : List (List UInt8)), IsF ps hs → ∀ (p : FpV) (hs' : List (List UInt8)), hs'.length = 2 ^ p.1 → p.2 = rootL hs' → IsF (comeF ps p) (hs ++ hs')
  | 0, ps, hn, hs, h, p, hs', hl, hp => by
    rw [List.length_eq_zero_iff.1 hn] at h ⊢
    rw [comeF_nil, show hs = [] from h]
    exact IsF.one hl hp
  | n + 1, ps, hn, hs, h, p, hs', hl, hp => by
    rcases snoc_cases ps with rfl | ⟨l, q, rfl⟩
    · cases hn
    · by_cases hq : q.1 = p.1
      · rw [comeF_step l q p hq]
        obtain ⟨a, b, rfl, ha, hb⟩ := IsF.split l [q] hs h
        obtain ⟨hbl, hbr⟩ := hb.one'
        rw [hq] at hbl
        rw [List.append_assoc]
        refine IsF.come_ n l (by simpa using hn) a ha _ (b ++ hs') ?_ ?_
        · rw [List.length_append, hbl, hl, Nat.pow_succ]; omega
        · rw [rootL_pow p.1 b hs' hbl hl, ← hbr, ← hp]
      · rw [comeF_stop l q p hq]
        exact IsF.append _ _ h [p] hs' (IsF.one hl hp)
theorem IsF.come {ps : FrV} {hs : List (List UInt8)} (h : IsF ps hs) (p : FpV) (hs' : List (List UInt8)) (hl : hs'.length = 2 ^ p.1) (hp : p.2 = rootL hs') : IsF (comeF ps p) (hs ++ hs') := IsF.come_ _ ps rfl hs h p hs' hl hp
theorem IsF.leaf : ∀ (hs' : List (List UInt8)) (ps : FrV) (hs : List (List UInt8)), IsF ps hs → IsF (leafF ps hs') (hs ++ hs')
  | [], ps, hs, h => by rw [List.append_nil]; exact h
  | x :: hs', ps, hs, h => by
    have h1 := h.come (0, x) [x] rfl (rootL_one x).symm
    have h2 := IsF.leaf hs' _ _ h1
    rw [List.append_assoc] at h2
    exact h2
theorem isF_leaf (hs : List (List UInt8)) : IsF (leafF [] hs) hs := IsF.leaf hs [] [] rfl
theorem IsF.size : ∀ (ps : FrV) (hs : List (List UInt8)), IsF ps hs → szF ps = hs.length
  | [], hs, h => by rw [show hs = [] from h]; rfl
  | p :: ps, hs, h => by
    obtain ⟨h1, _, h3⟩ := h
    have := IsF.size ps _ h3
    rw [List.length_drop] at this
    show szF ([p] ++ ps) = _
    rw [szF_append, szF_one, this]
    omega
theorem IsF.root : ∀ (ps : FrV) (hs : List (List UInt8)), IsF ps hs → DecF ps → rootG ps = rootL hs
  | [], hs, h, _ => by rw [show hs = [] from h]; rfl
  | [p], hs, h, _ => by
    have := h.one'
    show p.2 = _
    exact this.2
  | p :: q :: ps, hs, h, hd => by
    obtain ⟨h1, h2, h3⟩ := h
    obtain ⟨hd1, hd2⟩ := List.pairwise_cons.1 hd
    have hr := IsF.root (q :: ps) _ h3 hd2
    have hsz := IsF.size _ _ h3
    have hlt := szF_lt (q :: ps) hd2 p.1 hd1
    have hpos : 0 < szF (q :: ps) := by
      have := pow_le_szF (q :: ps) q List.mem_cons_self
      have := Nat.two_pow_pos q.1
      omega
    have hp := Nat.two_pow_pos p.1
    have h2p : 2 ^ (p.1 + 1) = 2 ^ p.1 + 2 ^ p.1 := by rw [Nat.pow_succ]; omega
    rw [List.length_drop] at hsz
    show hNode p.2 (rootG (q :: ps)) = _
    rw [hr, rootL_more hs (by omega), splitN_eq hs.length p.1 (by omega) (by omega), h2]
theorem IsF.at_ : ∀ (ps : FrV) (hs : List (List UInt8)), IsF ps hs → ∀ k, k < ps.length → szF (ps.take k) + 2 ^ (ps.getD k (0, [])).1 ≤ hs.length ∧ (ps.getD k (0, [])).2 = rootL ((hs.drop (szF (ps.take k))).take (2 ^ (ps.getD k (0, [])).1))
  | [], _, _, k, hk => by cases hk
  | p :: ps, hs, h, 0, _ => by
    obtain ⟨h1, h2, _⟩ := h
    exact ⟨by simpa [szF] using h1, by simpa [szF] using h2⟩
  | p :: ps, hs, h, k + 1, hk => by
    obtain ⟨h1, _, h3⟩ := h
    obtain ⟨g1, g2⟩ := IsF.at_ ps _ h3 k (by simpa using hk)
    have e : szF ((p :: ps).take (k + 1)) = 2 ^ p.1 + szF (ps.take k) := by
      rw [List.take_succ_cons]
      show szF ([p] ++ ps.take k) = _
      rw [szF_append, szF_one]
    rw [List.length_drop] at g1
    rw [List.getD_cons_succ, e]
    refine ⟨by omega, ?_⟩
    rw [List.drop_drop] at g2
    exact g2
theorem leafF_append : ∀ (a b : List (List UInt8)) (ps : FrV), leafF ps (a ++ b) = leafF (leafF ps a) b
  | [], _, _ => rfl
  | _ :: a, b, _ => leafF_append a b _
/-- as whole parts -/
theorem come_take (ps : FrV) (hd : DecF ps) (k : Nat) (hk : k < ps.length) : comeF (ps.take k) (ps.getD k (0, [])) = ps.take (k + 1) := by
  have hg : ps.getD k (0, []) = ps[k] := by rw [List.getD_eq_getElem?_getD, List.getElem?_eq_getElem hk]; rfl
  rw [hg, List.take_succ_eq_append_getElem hk]
  rcases snoc_cases (ps.take k) with h | ⟨l, q, h⟩
  · rw [h]; rfl
  · rw [h, comeF_stop l q ps[k]]
    have hd2 : DecF (ps.take k ++ ps.drop k) := by rw [List.take_append_drop]; exact hd
    have := (List.pairwise_append.1 hd2).2.2 q (by rw [h]; simp) ps[k] (by rw [List.drop_eq_getElem_cons hk]; exact List.mem_cons_self)
    omega
end Go.Proofs.Ytonidnfgneokbaa
/- hash.Leaves, notaryref09.Leaves. -/
namespace Go.Proofs.Ytonidnfgneokbaa
open Go Go.RowKit

def leavesL (ls : List (List UInt8)) : List (List UInt8) := ls.map hLeaf
theorem leavesL_all (ls : List (List UInt8)) : H32 (leavesL ls) := fun h hh => by
  obtain ⟨l, _, rfl⟩ := List.mem_map.1 hh
  exact length_hLeaf l

set_option maxHeartbeats 1000000 in
set_option maxRecDepth 100000 in
theorem rleaves_any (ls : List (List UInt8)) (A : Option Addr) (n c : Nat) (w : World) (vs : List Value) (h : SlS w A n c vs ls) (hm : n + ls.flatten.length ≤ 1073741824) :
    Calls Try.prog 44 #[.slice A n c] w fun e w' => ∃ v, e = .returned v ∧ w'.ownsRow w.heap.size 25 32 v n (hcells (leavesL ls)) ∧ Below w.heap.size w w' := by
  have Hh := Lib.hid h
  have hroom := h.out.room
  have hmax := h.out.max
  unfold maxLen at hmax
  clear h
  go_enter Try.func44, Try.ntmps44
  go_wp2_with fail
  go_loopw [3, 4] (fun v i wr => ∃ k : Nat, k ≤ n ∧ i = .int .i64 k ∧ wr.ownsRow w.heap.size 25 32 v k (hcells (leavesL (ls.take k))) ∧ Below w.heap.size w wr) (fun _ i _ => n - (intOf i).toNat)
  case atStart => exact ⟨0, by omega, rfl, World.ownsRow_nil _ _ _ _, Below.refl _ _⟩
  case round =>
    obtain ⟨k, hk, rfl, ho, hB⟩ := hrel
    by_cases hlt : k < n
    · have hkl : k < ls.length := by rw [Hh.out.len]; exact hlt
      obtain ⟨Ai, ci, hv, hs⟩ := Hh.out.ins k hkl
      obtain ⟨b0, o0, hA, hb0, _, hcell⟩ := Hh.out.out.at_ (by omega) (by decide)
      subst hA
      have hce : wr.cell? ⟨b0, o0 + k, none⟩ = some (.slice Ai (ls[k]).length ci) := by
        rw [hB.cell (p := ⟨b0, o0 + k, none⟩) hb0]; exact hcell k _ hv
      have hs2 := (hs.below hB (fun _ _ h => h)).all
      have hfl3 := flatten_take_le ls (k + 1)
      rw [flatten_take_succ ls k hkl, List.length_append] at hfl3
      have hleaf := hrleaf_any (ls[k]) Ai (ls[k]).length ci wr hs2 (by omega)
      obtain ⟨x, hx⟩ : ∃ x, hLeaf (ls[k]) = x := ⟨_, rfl⟩
      have hxl : x.length = 32 := by rw [← hx]; exact length_hLeaf _
      rw [hx] at hleaf
      have hsn : hcells (leavesL (ls.take (k + 1))) = hcells (leavesL (ls.take k)) ++ hcells [x] := by
        rw [List.take_succ_eq_append_getElem hkl, leavesL, List.map_append, hcells_append, ← hx]; rfl
      have Hx := Lib.hid hx
      have Hxl := Lib.hid hxl
      have Hsn := Lib.hid hsn
      clear hx hxl hsn hv hs hs2
      generalize (ls[k]).length = m at *
      go_wp2_with fail
      refine hleaf.mono ?_
      rintro e w2 ⟨rfl, hb2⟩
      have h32 : H32 [x] := by intro h hh; rw [List.mem_singleton.1 hh]; exact Hxl.out
      have hbA : Below w2.heap.size w2 (w2.alloc (.cells (hcells [x]).toArray 25)) := (Below.refl _ _).alloc (Nat.le_refl _) _
      have hB2 := (hB.trans (hb2.mono hB.size)).trans (hbA.mono (Nat.le_trans hB.size hb2.size))
      have ho2 := owns_step (owns_step ho hb2) hbA
      obtain ⟨v3, w3, hr3, ho3, hg3, -⟩ := append_slv (ty := 26) Try.underlying26 info26z (by simp [Value.cells]) (by decide) ho2 (Hs.lit w2 [x] h32 (by simp) 1 rfl).sl (oneB _) (by unfold maxLen; omega) (by omega) hB2.size
      rw [← Hsn.out] at ho3
      have hB3 := hB2.grown hg3 hB2.size (fun k hk => (ho2.lt k hk).1)
      have Hr3 := Lib.hid hr3
      clear hr3 hg3
      go_wp2_with (first
        | ((with_reducible show wpList _ _ _ (⟨some 17, .buildSlice _ _ _, _, _, _, _⟩ :: _) _ _); refine wpList_run rfl _ _ (run_lit_op [x] h32 (by simp) (by simp) 1 _ rfl (by simp [Act.eval]) rfl _) ?_; simp only [Act.put])
        | ((with_reducible show wpList _ _ _ (⟨some 18, .call _, _, _, _, _⟩ :: _) _ _); refine wpList_run rfl v3 w3 (run_append_op (.tmp 11) (.tmp 17) 26 rfl _ _ rfl rfl Hr3.out) ?_; simp only [Act.put]))
      go_roundw
      case rel => exact ⟨k + 1, by omega, by go_num, ho3, hB3⟩
      case measure => simp [intOf]; omega
    · have hkn : k = n := by omega
      subst hkn
      rw [List.take_of_length_le (by rw [Hh.out.len]; exact Nat.le_refl _)] at ho
      go_wp2_with fail
      go_ret
      exact ⟨_, rfl, ho, hB⟩
end Go.Proofs.Ytonidnfgneokbaa
