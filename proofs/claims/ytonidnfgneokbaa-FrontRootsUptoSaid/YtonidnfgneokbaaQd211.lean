/- A tree's edge: parts that come (plain). -/
import Derived.Test.YtonidnfgneokbaaQd210
import Derived.Test.YtonidnfgneokbaaQd201
namespace Go.Proofs.Ytonidnfgneokbaa
open Go

/-- parts: each with its level and its hash -/
abbrev FrV := List (Nat × List UInt8)
abbrev FpV := Nat × List UInt8
/-- a part comes; the parts stand with the last ahead -/
def comeR : FrV → FpV → FrV
  | [], p => [p]
  | q :: r, p => if q.1 = p.1 then comeR r (p.1 + 1, hNode q.2 p.2) else p :: q :: r
def comeF (ps : FrV) (p : FpV) : FrV := (comeR ps.reverse p).reverse
theorem comeF_nil (p : FpV) : comeF [] p = [p] := rfl
theorem comeF_step (l : FrV) (q p : FpV) (h : q.1 = p.1) : comeF (l ++ [q]) p = comeF l (p.1 + 1, hNode q.2 p.2) := by
  unfold comeF
  rw [List.reverse_append, List.reverse_singleton, List.singleton_append]
  conv => lhs; unfold comeR
  rw [if_pos h]
theorem comeF_stop (l : FrV) (q p : FpV) (h : q.1 ≠ p.1) : comeF (l ++ [q]) p = l ++ [q] ++ [p] := by
  unfold comeF
  rw [List.reverse_append, List.reverse_singleton, List.singleton_append]
  unfold comeR
  rw [if_neg h]
  simp
/-- how many entries -/
def szF (ps : FrV) : Nat := (ps.map fun p => 2 ^ p.1).sum
theorem szF_nil : szF [] = 0 := rfl
theorem szF_append (a b : FrV) : szF (a ++ b) = szF a + szF b := by unfold szF; rw [List.map_append, List.sum_append]
theorem szF_one (p : FpV) : szF [p] = 2 ^ p.1 := by simp [szF]
/-- the levels fall -/
def DecF (ps : FrV) : Prop := ps.Pairwise fun a b => b.1 < a.1
def F32 (ps : FrV) : Prop := ∀ p ∈ ps, p.2.length = 32
def F62 (ps : FrV) : Prop := ∀ p ∈ ps, p.1 ≤ 62
theorem snoc_cases (ps : FrV) : ps = [] ∨ ∃ l q, ps = l ++ [q] := by
  rcases List.eq_nil_or_concat ps with h | ⟨l, q, h⟩
  · exact .inl h
  · exact .inr ⟨l, q, by rw [h, List.concat_eq_append]⟩
theorem come_size : ∀ (n : Nat) (ps : FrV), ps.length = n → ∀ p : FpV, szF (comeF ps p) = szF ps + 2 ^ p.1
  | 0, ps, h, p => by
    rw [List.length_eq_zero_iff.1 h, comeF_nil, szF_one, szF_nil, Nat.zero_add]
  | n + 1, ps, h, p => by
    rcases snoc_cases ps with rfl | ⟨l, q, rfl⟩
    · cases h
    · by_cases hq : q.1 = p.1
      · rw [comeF_step l q p hq, come_size n l (by simpa using h), szF_append, szF_one, hq, Nat.pow_succ]
        omega
      · rw [comeF_stop l q p hq, szF_append, szF_one]
theorem szF_come (ps : FrV) (p : FpV) : szF (comeF ps p) = szF ps + 2 ^ p.1 := come_size _ ps rfl p
theorem come_mem : ∀ (n : Nat) (ps : FrV), ps.length = n → ∀ p : FpV, F32 ps → p.2.length = 32 → F32 (comeF ps p)
  | 0, ps, h, p, _, h2 => by
    rw [List.length_eq_zero_iff.1 h, comeF_nil]
    intro x hx
    rw [List.mem_singleton.1 hx]; exact h2
  | n + 1, ps, h, p, h1, h2 => by
    rcases snoc_cases ps with rfl | ⟨l, q, rfl⟩
    · cases h
    · by_cases hq : q.1 = p.1
      · rw [comeF_step l q p hq]
        exact come_mem n l (by simpa using h) _ (fun x hx => h1 x (List.mem_append_left _ hx)) (length_hNode _ _)
      · rw [comeF_stop l q p hq]
        intro x hx
        rcases List.mem_append.1 hx with hx | hx
        · exact h1 x hx
        · rw [List.mem_singleton.1 hx]; exact h2
theorem F32_come (ps : FrV) (p : FpV) (h : F32 ps) (hp : p.2.length = 32) : F32 (comeF ps p) := come_mem _ ps rfl p h hp
theorem come_dec : ∀ (n : Nat) (ps : FrV), ps.length = n → ∀ p : FpV, DecF ps → (∀ q ∈ ps, p.1 ≤ q.1) → DecF (comeF ps p)
  | 0, ps, h, p, _, _ => by
    rw [List.length_eq_zero_iff.1 h, comeF_nil]
    exact List.pairwise_singleton _ _
  | n + 1, ps, h, p, hd, hq => by
    rcases snoc_cases ps with rfl | ⟨l, q, rfl⟩
    · cases h
    · have hd' := List.pairwise_append.1 hd
      by_cases hqp : q.1 = p.1
      · rw [comeF_step l q p hqp]
        refine come_dec n l (by simpa using h) _ hd'.1 fun x hx => ?_
        have h3 : q.1 < x.1 := hd'.2.2 x hx q (List.mem_singleton.2 rfl)
        show p.1 + 1 ≤ x.1
        omega
      · rw [comeF_stop l q p hqp]
        refine List.pairwise_append.2 ⟨hd, List.pairwise_singleton _ _, fun x hx y hy => ?_⟩
        rw [List.mem_singleton.1 hy]
        have h1 := hq q (List.mem_append_right _ (List.mem_singleton.2 rfl))
        rcases List.mem_append.1 hx with hx | hx
        · have h3 : q.1 < x.1 := hd'.2.2 x hx q (List.mem_singleton.2 rfl)
          omega
        · rw [List.mem_singleton.1 hx]; omega
theorem DecF_come (ps : FrV) (p : FpV) (h : DecF ps) (hp : ∀ q ∈ ps, p.1 ≤ q.1) : DecF (comeF ps p) := come_dec _ ps rfl p h hp
theorem pow_le_szF (ps : FrV) (p : FpV) (h : p ∈ ps) : 2 ^ p.1 ≤ szF ps := by
  obtain ⟨a, b, rfl⟩ := List.append_of_mem h
  rw [show a ++ p :: b = a ++ ([p] ++ b) by simp, szF_append, szF_append, szF_one]
  omega
/-- a size that is a number has no level above 62 -/
theorem F62_of_size (ps : FrV) (h : szF ps ≤ 9223372036854775807) : F62 ps := fun p hp => by
  have h1 := pow_le_szF ps p hp
  rcases Nat.lt_or_ge 62 p.1 with h2 | h2
  · have h3 : 2 ^ 63 ≤ 2 ^ p.1 := Nat.pow_le_pow_right (by decide) h2
    omega
  · exact h2
/-- falling levels: what is behind is less than the one ahead -/
theorem szF_lt : ∀ (ps : FrV), DecF ps → ∀ k, (∀ p ∈ ps, p.1 < k) → szF ps < 2 ^ k
  | [], _, k, _ => by rw [szF_nil]; exact Nat.two_pow_pos k
  | p :: ps, hd, k, hk => by
    have hd' := List.pairwise_cons.1 hd
    have h1 := szF_lt ps hd'.2 p.1 fun q hq => hd'.1 q hq
    have h2 := hk p List.mem_cons_self
    have h3 : 2 ^ (p.1 + 1) ≤ 2 ^ k := Nat.pow_le_pow_right (by decide) h2
    rw [Nat.pow_succ] at h3
    rw [show p :: ps = [p] ++ ps from rfl, szF_append, szF_one]
    omega
theorem szF_mod : ∀ (ps : FrV) (k : Nat), (∀ p ∈ ps, k ≤ p.1) → szF ps % 2 ^ k = 0
  | [], k, _ => by rw [szF_nil]; exact Nat.zero_mod _
  | p :: ps, k, h => by
    have h1 := szF_mod ps k fun q hq => h q (List.mem_cons_of_mem _ hq)
    have h2 := h p List.mem_cons_self
    rw [show p :: ps = [p] ++ ps from rfl, szF_append, szF_one]
    have h3 : 2 ^ p.1 % 2 ^ k = 0 := by
      obtain ⟨d, hd⟩ : ∃ d, p.1 = k + d := ⟨p.1 - k, by omega⟩
      rw [hd, Nat.pow_add]
      exact Nat.mul_mod_right _ _
    rw [Nat.add_mod, h1, h3]
    simp
/-- where a size has no remainder, no level is lower -/
theorem dec_of_mod (ps : FrV) (k : Nat) (hd : DecF ps) (h : szF ps % 2 ^ k = 0) : ∀ p ∈ ps, k ≤ p.1 := by
  intro p hp
  rcases Nat.lt_or_ge p.1 k with hlt | hge
  · exfalso
    -- those of a lower level are last, and less than 2^k together
    obtain ⟨a, b, hab, ha, hb⟩ : ∃ a b, ps = a ++ b ∧ (∀ q ∈ a, k ≤ q.1) ∧ ∀ q ∈ b, q.1 < k := by
      clear h hp hlt
      induction ps with
      | nil => exact ⟨[], [], rfl, fun _ h => (by cases h), fun _ h => (by cases h)⟩
      | cons q r ih =>
        have hd' := List.pairwise_cons.1 hd
        rcases Nat.lt_or_ge q.1 k with h1 | h1
        · refine ⟨[], q :: r, rfl, fun _ h => (by cases h), fun x hx => ?_⟩
          rcases List.mem_cons.1 hx with rfl | hx
          · exact h1
          · have := hd'.1 x hx; omega
        · obtain ⟨a, b, e, ha, hb⟩ := ih hd'.2
          refine ⟨q :: a, b, by rw [e]; rfl, fun x hx => ?_, hb⟩
          rcases List.mem_cons.1 hx with rfl | hx
          · exact h1
          · exact ha x hx
    subst hab
    have h1 := szF_mod a k ha
    have h2 := szF_lt b (List.pairwise_append.1 hd).2.1 k hb
    have hpb : p ∈ b := by
      rcases List.mem_append.1 hp with h3 | h3
      · have := ha p h3; omega
      · exact h3
    have h4 := pow_le_szF b p hpb
    have h5 := Nat.two_pow_pos p.1
    rw [szF_append, Nat.add_mod, h1, Nat.zero_add, Nat.mod_mod, Nat.mod_eq_of_lt h2] at h
    omega
  · exact hge
/-- the root of parts -/
def rootG : FrV → List UInt8
  | [] => hEmpty
  | [p] => p.2
  | p :: q :: r => hNode p.2 (rootG (q :: r))
theorem length_rootG : ∀ ps : FrV, F32 ps → (rootG ps).length = 32
  | [], _ => length_hEmpty
  | [p], h => h p (List.mem_singleton.2 rfl)
  | _ :: _ :: _, _ => length_hNode _ _
/-- leaves come, one by one -/
def leafF : FrV → List (List UInt8) → FrV
  | ps, [] => ps
  | ps, h :: hs => leafF (comeF ps (0, h)) hs
theorem szF_leaf : ∀ (hs : List (List UInt8)) (ps : FrV), szF (leafF ps hs) = szF ps + hs.length
  | [], _ => rfl
  | h :: hs, ps => by
    show szF (leafF (comeF ps (0, h)) hs) = _
    rw [szF_leaf hs, szF_come, List.length_cons]
    show szF ps + 2 ^ 0 + hs.length = _
    omega
theorem leafF_ok : ∀ (hs : List (List UInt8)) (ps : FrV), F32 ps → DecF ps → (∀ h ∈ hs, h.length = 32) → F32 (leafF ps hs) ∧ DecF (leafF ps hs)
  | [], _, h1, h2, _ => ⟨h1, h2⟩
  | h :: hs, ps, h1, h2, h3 => leafF_ok hs _ (F32_come ps _ h1 (h3 h List.mem_cons_self)) (DecF_come ps _ h2 fun _ _ => Nat.zero_le _) fun x hx => h3 x (List.mem_cons_of_mem _ hx)
theorem leafF_snoc (ps : FrV) (hs : List (List UInt8)) (h : List UInt8) : leafF ps (hs ++ [h]) = comeF (leafF ps hs) (0, h) := by
  induction hs generalizing ps with
  | nil => rfl
  | cons x hs ih => exact ih _
end Go.Proofs.Ytonidnfgneokbaa
/- slices.Reverse, of stretches. -/
namespace Go.Proofs.Ytonidnfgneokbaa
open Go Go.RowKit

theorem wpMix_store_agg {P : Program} {ops : Array Oper} {Q : Exit → Act → World → Prop} {S : World → Prop} {R : Act → World → Prop} {o : Oper} {l : List (Oper × Bool)} {a : Act} {w : World} (hgd : o.guard = none) (ty : TypeId) (x y : Operand) (ho : o.op = .store ty x y)
    (n : Nat) (hsz : ∀ w : World, (sizeOf ty).run P w = .ok n w) (g off : Nat) (vs : Array Value) (hx : a.eval x = .pointer (some ⟨g, off, none⟩)) (hy : a.eval y = .agg vs) (hv : vs.size = n) (h1 : ∀ v ∈ vs.toList, v.oneCell' = true)
    (t : TypeId) (cur : Array Value) (hg : Blk w g t cur) (hc : off + n ≤ cur.size) (hS : S (w.setRow g (cur.toList.take off ++ vs.toList ++ cur.toList.drop (off + n)).toArray))
    (h : wpMix P ops S Q R l (a.put o.dst undef) (w.setRow g (cur.toList.take off ++ vs.toList ++ cur.toList.drop (off + n)).toArray)) : wpMix P ops S Q R ((o, false) :: l) a w := by
  refine ⟨?_⟩
  unfold wpMix0
  rw [if_pos (by simp [Region.wanted, hgd])]
  unfold Oper.wp execOp
  simp only [ho, hx, hy, run_store_agg (P := P) (hsz w) g off vs cur hv h1 hg hc, Sem.run_bind, Sem.run_pure, Result.andThen_ok, Oper.upon]
  exact ⟨hS, h.out⟩
theorem run_load_op {P : Program} {ρ : Operand → Value} {o : Oper} {w : World} (ty : TypeId) (x : Operand) (ho : o.op = .load ty x) (g off : Nat) (hx : ρ x = .pointer (some ⟨g, off, none⟩)) (v : Value) (h : (Instr.loadAt ty (.pointer (some ⟨g, off, none⟩))).run P w = .ok v w) :
    (execOp ρ o).run P w = .ok (.value v) w := by
  unfold execOp
  simp only [ho, hx, Sem.run_bind, Sem.run_pure, h, Result.andThen_ok]

/-- k at either end have changed places -/
def revK (os : List (Int × Int)) (k : Nat) : List (Int × Int) := (List.range os.length).map fun p => os.getD (if p < k ∨ os.length ≤ p + k then os.length - 1 - p else p) (0, 0)
theorem length_revK (os : List (Int × Int)) (k : Nat) : (revK os k).length = os.length := by simp [revK]
theorem revK_zero (os : List (Int × Int)) : revK os 0 = os := by
  apply List.ext_getElem
  · simp [revK]
  · intro i h1 h2
    simp only [revK, List.getElem_map, List.getElem_range]
    rw [if_neg (by omega), List.getD_eq_getElem?_getD, List.getElem?_eq_getElem h2]; rfl
theorem revK_getD (os : List (Int × Int)) (k p : Nat) (h : p < os.length) : (revK os k).getD p (0, 0) = os.getD (if p < k ∨ os.length ≤ p + k then os.length - 1 - p else p) (0, 0) := by
  rw [List.getD_eq_getElem?_getD, List.getElem?_eq_getElem (by rw [length_revK]; exact h)]
  simp [revK]
theorem revK_step (os : List (Int × Int)) (k j : Nat) (h : k < j) (hj : j + k + 1 = os.length) :
    ((revK os k).set k ((revK os k).getD j (0, 0))).set j ((revK os k).getD k (0, 0)) = revK os (k + 1) := by
  rw [revK_getD os k j (by omega), revK_getD os k k (by omega), if_neg (by omega), if_neg (by omega)]
  apply List.ext_getElem
  · simp [revK]
  · intro i h1 h2
    have hi : i < os.length := by rw [length_revK] at h2; exact h2
    rw [List.getElem_set, List.getElem_set]
    simp only [revK, List.getElem_map, List.getElem_range]
    by_cases e1 : j = i
    · rw [if_pos e1, if_pos (by omega)]; congr 1; omega
    · rw [if_neg e1]
      by_cases e2 : k = i
      · rw [if_pos e2, if_pos (by omega)]; congr 1; omega
      · rw [if_neg e2]
        by_cases e3 : i < k ∨ os.length ≤ i + k
        · rw [if_pos e3, if_pos (by omega)]
        · rw [if_neg e3, if_neg (by omega)]
theorem revK_end (os : List (Int × Int)) (k : Nat) (h : os.length ≤ 2 * k + 1) : revK os k = os.reverse := by
  apply List.ext_getElem
  · simp [revK]
  · intro i h1 h2
    have hi : i < os.length := by rw [length_revK] at h1; exact h1
    simp only [revK, List.getElem_map, List.getElem_range, List.getElem_reverse]
    by_cases e : i < k ∨ os.length ≤ i + k
    · rw [if_pos e, List.getD_eq_getElem?_getD, List.getElem?_eq_getElem (by omega)]; rfl
    · rw [if_neg e, List.getD_eq_getElem?_getD, List.getElem?_eq_getElem (by omega)]
      have : os.length - 1 - i = i := by omega
      simp [this]

end Go.Proofs.Ytonidnfgneokbaa
/- An operation with a guard whose run is known. No program in sight. -/
namespace Go.Proofs.Ytonidnfgneokbaa
open Go Go.RowKit

theorem wpList_runG {P : Program} {w : World} {ops : Array Oper} {rest : List Oper} {o : Oper} {a : Act} {Q : Exit → Act → World → Prop} (hw : Region.wanted o (yielded ops a.tmps) = true) (v : Value) (w' : World) (hrun : (execOp a.eval o).run P w = .ok (.value v) w')
    (h : wpList P ops Q rest (a.put o.dst v) w') : wpList P ops Q (o :: rest) a w :=
  wpList_step fun K hK => by
    rw [if_pos hw]
    unfold Oper.wp
    rw [hrun]
    exact hK _ _ h
end Go.Proofs.Ytonidnfgneokbaa
/- Variables that hold a hash: one step for each, by what is known of their block. -/
namespace Go.Proofs.Ytonidnfgneokbaa
open Go Go.RowKit

/-- a block holds this hash -/
structure HV (w : World) (g : Nat) (l : List UInt8) : Prop where
  blk : Blk w g 25 (l.map B).toArray
  len : l.length = 32
theorem HV.step {w W : World} {g : Nat} {l : List UInt8} (h : HV w g l) (hb : Below w.heap.size w W) : HV W g l := ⟨h.blk.below hb h.blk.lt, h.len⟩
theorem HV.lt {w : World} {g : Nat} {l : List UInt8} (h : HV w g l) : g < w.heap.size := h.blk.lt
theorem HV.drew {w : World} {g : Nat} {l : List UInt8} (h : HV w g l) : HV w.drew g l := ⟨h.blk, h.len⟩
theorem HV.load {w : World} {g : Nat} {l : List UInt8} (h : HV w g l) : (Instr.loadAt 25 (.pointer (some ⟨g, 0, none⟩))).run Try.prog w = .ok (.agg (l.map B).toArray) w :=
  run_load_blk (agg26 _) (size26 _) g _ (by simp [h.len]) h.blk
theorem HV.far {w W : World} {g g' : Nat} {l : List UInt8} (h : HV w g l) (hb : Below g' w W) (hg : g < g') : HV W g l := ⟨h.blk.below hb hg, h.len⟩
theorem Blk.step {w W : World} {g : Nat} {t : TypeId} {cs : Array Value} (h : Blk w g t cs) (hb : Below w.heap.size w W) : Blk W g t cs := h.below hb h.lt

section
variable {w : World} {ops : Array Oper} {rest : List Oper} {o o1 o2 o3 : Oper} {a : Act} {Q : Exit → Act → World → Prop}
set_option maxRecDepth 100000 in
/-- a new variable, written at once -/
theorem wpList_hvar {l : List UInt8} (x y : Operand) (hg1 : o1.guard = none) (hg2 : o2.guard = none) (ho1 : o1.op = .alloc 25) (ho2 : o2.op = .store 25 x y)
    (hx : (a.put o1.dst (.pointer (some ⟨w.heap.size, 0, none⟩))).eval x = .pointer (some ⟨w.heap.size, 0, none⟩)) (hy : (a.put o1.dst (.pointer (some ⟨w.heap.size, 0, none⟩))).eval y = .agg (l.map B).toArray) (hl : l.length = 32)
    (h : ∀ W, HV W w.heap.size l → Below w.heap.size w W → wpList Try.prog ops Q rest ((a.put o1.dst (.pointer (some ⟨w.heap.size, 0, none⟩))).put o2.dst undef) W) : wpList Try.prog ops Q (o1 :: o2 :: rest) a w := by
  have hz : zeroHash.size = 32 := rfl
  refine wpList_run hg1 (.pointer (some ⟨w.heap.size, 0, none⟩)) (w.alloc (.cells zeroHash 25)) ?_ ?_
  · unfold execOp
    rw [ho1]
    rfl
  · refine wpList_store_blk hg2 25 x y ho2 32 size26 w.heap.size (l.map B).toArray hx hy (by simp [hl]) (oneCell_B _) 25 _ (Blk.new w 25 zeroHash) hz ?_
    exact h _ ⟨(Blk.new w 25 zeroHash).setRow_ _, hl⟩ (below_setRow ((Below.refl _ _).alloc (Nat.le_refl _) _) (Nat.le_refl _) _)
set_option maxRecDepth 100000 in
/-- a new variable, nought -/
theorem wpList_hnew (hg1 : o1.guard = none) (ho1 : o1.op = .alloc 25)
    (h : ∀ W, HV W w.heap.size (List.replicate 32 0) → Below w.heap.size w W → wpList Try.prog ops Q rest (a.put o1.dst (.pointer (some ⟨w.heap.size, 0, none⟩))) W) : wpList Try.prog ops Q (o1 :: rest) a w := by
  refine wpList_run hg1 (.pointer (some ⟨w.heap.size, 0, none⟩)) (w.alloc (.cells zeroHash 25)) ?_ (h _ ⟨Blk.new w 25 zeroHash, rfl⟩ ((Below.refl _ _).alloc (Nat.le_refl _) _))
  unfold execOp
  rw [ho1]
  rfl
/-- a variable is written over: all below it stays -/
theorem wpList_hset {l l' : List UInt8} {g : Nat} (x y : Operand) (hg2 : o.guard = none) (ho2 : o.op = .store 25 x y) (k : HV w g l')
    (hx : a.eval x = .pointer (some ⟨g, 0, none⟩)) (hy : a.eval y = .agg (l.map B).toArray) (hl : l.length = 32)
    (h : ∀ W, HV W g l → Below g w W → W = w.setRow g (l.map B).toArray → wpList Try.prog ops Q rest (a.put o.dst undef) W) : wpList Try.prog ops Q (o :: rest) a w :=
  wpList_store_blk hg2 25 x y ho2 32 size26 g (l.map B).toArray hx hy (by simp [hl]) (oneCell_B _) 25 _ k.blk (by simp [k.len])
    (h _ ⟨k.blk.setRow_ _, hl⟩ (below_setRow (Below.refl _ _) (Nat.le_refl _) _) rfl)
theorem wpList_hload {l : List UInt8} {g : Nat} (x : Operand) (hw : Region.wanted o (yielded ops a.tmps) = true) (ho : o.op = .load 25 x) (k : HV w g l) (hx : a.eval x = .pointer (some ⟨g, 0, none⟩))
    (h : wpList Try.prog ops Q rest (a.put o.dst (.agg (l.map B).toArray)) w) : wpList Try.prog ops Q (o :: rest) a w :=
  wpList_runG hw (.agg (l.map B).toArray) w (run_load_op 25 x ho g 0 hx _ k.load) h
/-- a scalar, by its cell -/
theorem wpList_cell {P : Program} (ty : TypeId) (x : Operand) (g off : Nat) (v : Value) (hw : Region.wanted o (yielded ops a.tmps) = true) (ho : o.op = .load ty x) (hx : a.eval x = .pointer (some ⟨g, off, none⟩))
    (hrun : (Instr.loadAt ty (.pointer (some ⟨g, off, none⟩))).run P w = .ok v w) (h : wpList P ops Q rest (a.put o.dst v) w) : wpList P ops Q (o :: rest) a w :=
  wpList_runG hw v w (run_load_op ty x ho g off hx _ hrun) h
end
theorem run_load_scalar {P : Program} {W : World} {ty : TypeId} {g o : Nat} {v : Value} (hagg : (isAgg ty).run P W = .ok false W) (h : W.cell? ⟨g, o, none⟩ = some v) : (Instr.loadAt ty (.pointer (some ⟨g, o, none⟩))).run P W = .ok v W := by
  simp [Instr.loadAt, Instr.sureAddr, loadVar, Sem.run_bind, hagg, Go.load, Sem.run, h]
theorem notagg64 : ∀ w : World, (isAgg 2).run Try.prog w = .ok false w := fun _ => by kernel_rfl
/-- hashes: one is put in the place of another -/
theorem hcells_set : ∀ (l : List (List UInt8)), H32 l → ∀ (k : Nat) (x : List UInt8), k < l.length → (hcells l).take (k * 32) ++ x.map B ++ (hcells l).drop (k * 32 + 32) = hcells (l.set k x) := by
  intro l h k x hk
  rw [hcells_take l h k (by omega), show k * 32 + 32 = (k + 1) * 32 by omega, hcells_drop l h (k + 1) (by omega), List.set_eq_take_append_cons_drop, if_pos hk, hcells_append]
  simp [hcells]
theorem H32.set {l : List (List UInt8)} (h : H32 l) (k : Nat) {x : List UInt8} (hx : x.length = 32) : H32 (l.set k x) := fun y hy => by
  rcases List.mem_or_eq_of_mem_set hy with h1 | rfl
  · exact h y h1
  · exact hx
theorem Hs.get {w : World} {X : Nat → Prop} {A : Option Addr} {n c : Nat} {hs : List (List UInt8)} (h : Hs w X A n c hs) {b o : Nat} (hA : A = some ⟨b, o, none⟩) (i : Nat) (hi : i < n) :
    (Instr.loadAt 25 (.pointer (some ⟨b, o + i * 32, none⟩))).run Try.prog w = .ok (.agg ((hs.getD i []).map B).toArray) w := by
  obtain ⟨b', o', hA', -, -, hat⟩ := h.at_ (by omega)
  rw [hA] at hA'
  cases hA'
  exact hat i hi
end Go.Proofs.Ytonidnfgneokbaa
