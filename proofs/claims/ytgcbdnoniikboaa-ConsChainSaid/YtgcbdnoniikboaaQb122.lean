/- Proofs are taken (plain). -/
import Derived.Test.YtgcbdnoniikboaaQb121
import Derived.Test.YtgcbdnoniikboaaQb101
import Derived.Test.YtgcbdnoniikboaaQb116
import Derived.Test.YtgcbdnoniikboaaQb110
namespace Go.Proofs.Ytgcbdnoniikboaa
open Go Go.RowKit

theorem stretch_split (hs : List (List UInt8)) (a n : Nat) (hn : 2 ≤ n) (h : a + n ≤ hs.length) : stretchL hs a (a + n) = hNode (stretchL hs a (a + splitN n)) (stretchL hs (a + splitN n) (a + n)) := by
  have hl := splitN_lt n hn
  unfold stretchL
  rw [show a + n - a = n by omega, show a + splitN n - a = splitN n by omega, show a + n - (a + splitN n) = n - splitN n by omega]
  have hlen : ((hs.drop a).take n).length = n := by rw [List.length_take, List.length_drop]; omega
  rw [rootL_more ((hs.drop a).take n) (by rw [hlen]; omega), hlen, List.take_take, Nat.min_eq_left (by omega), List.drop_take, List.drop_drop]
theorem rootsL_snoc (hs : List (List UInt8)) (l : List (Nat × Nat)) (x : Nat × Nat) : rootsL hs (l ++ [x]) = rootsL hs l ++ [stretchL hs x.1 x.2] := by simp [rootsL]
theorem last_snocH (l : List (List UInt8)) (x : List UInt8) : (l ++ [x]).getD ((l ++ [x]).length - 1) [] = x := by simp [List.getD_eq_getElem?_getD]
/-- the same split, for what lies behind it too -/
theorem splitN_same (m n : Nat) (h : splitN n < m) (hn : m ≤ n) (h2 : 2 ≤ n) : splitN m = splitN n := by
  obtain ⟨j, h3, h4, h5⟩ := splitN_pow n h2
  rw [h3] at h ⊢
  exact splitN_eq m j h (by omega)
theorem bothL_roots (hs : List (List UInt8)) (d : Nat) : ∀ (m a n : Nat) (whole : Bool) (x : List UInt8), n ≤ d → 1 ≤ m → m ≤ n → a + n ≤ hs.length → (whole = true → x = stretchL hs a (a + m)) →
    bothL m n whole x (rootsL hs (stepsL m a n whole)) = (stretchL hs a (a + m), stretchL hs a (a + n)) := by
  induction d with
  | zero => intro m a n whole x h h1 h2; omega
  | succ d ih =>
    intro m a n whole x h h1 h2 ha hx
    by_cases hmn : m = n
    · subst hmn
      rw [bothL_eq m whole x _ h1, stepsL_eq m a whole h1]
      cases whole with
      | true => rw [if_pos rfl, ← hx rfl]
      | false => rfl
    · have hl := splitN_lt n (by omega)
      have hps := splitN_pos n (by omega)
      by_cases hk : m ≤ splitN n
      · rw [bothL_left m n whole x _ h1 (by omega) hk, stepsL_left m a n whole h1 (by omega) hk, rootsL_snoc, List.dropLast_concat, last_snocH, ih m a (splitN n) whole x (by omega) h1 hk (by omega) hx, stretch_split hs a n (by omega) ha]
      · rw [bothL_right m n whole x _ h1 (by omega) hk, stepsL_right m a n whole h1 (by omega) hk, rootsL_snoc, List.dropLast_concat, last_snocH, ih (m - splitN n) (a + splitN n) (n - splitN n) false x (by omega) (by omega) (by omega) (by omega) (fun e => by cases e),
          stretch_split hs a n (by omega) ha, stretch_split hs a m (by omega) (by omega), splitN_same m n (by omega) h2 (by omega), show a + splitN n + (m - splitN n) = a + m by omega, show a + splitN n + (n - splitN n) = a + n by omega]
/-- the first hash is not looked at where the stretch is not whole -/
theorem bothL_false (d : Nat) : ∀ (m n : Nat) (x y : List UInt8) (p : List (List UInt8)), n ≤ d → 1 ≤ m → m ≤ n → bothL m n false x p = bothL m n false y p := by
  induction d with
  | zero => intro m n x y p h h1 h2; omega
  | succ d ih =>
    intro m n x y p h h1 h2
    by_cases hmn : m = n
    · subst hmn
      rw [bothL_eq m false x p h1, bothL_eq m false y p h1]
      rfl
    · have hl := splitN_lt n (by omega)
      have hps := splitN_pos n (by omega)
      by_cases hk : m ≤ splitN n
      · rw [bothL_left m n false x p h1 (by omega) hk, bothL_left m n false y p h1 (by omega) hk, ih m (splitN n) x y _ (by omega) h1 hk]
      · rw [bothL_right m n false x p h1 (by omega) hk, bothL_right m n false y p h1 (by omega) hk, ih (m - splitN n) (n - splitN n) x y _ (by omega) (by omega) (by omega)]
/-- nor where the smaller one is no power of two -/
theorem bothL_true (d : Nat) : ∀ (m n : Nat) (x y : List UInt8) (p : List (List UInt8)), n ≤ d → 1 ≤ m → m < n → (∀ j, m ≠ 2 ^ j) → bothL m n true x p = bothL m n true y p := by
  induction d with
  | zero => intro m n x y p h h1 h2; omega
  | succ d ih =>
    intro m n x y p h h1 h2 hp
    have hl := splitN_lt n (by omega)
    have hps := splitN_pos n (by omega)
    obtain ⟨j, h3, _, _⟩ := splitN_pow n (by omega)
    by_cases hk : m ≤ splitN n
    · have hne : m ≠ splitN n := by rw [h3]; exact hp j
      rw [bothL_left m n true x p h1 (by omega) hk, bothL_left m n true y p h1 (by omega) hk, ih m (splitN n) x y _ (by omega) h1 (by omega) hp]
    · rw [bothL_right m n true x p h1 (by omega) hk, bothL_right m n true y p h1 (by omega) hk, bothL_false d (m - splitN n) (n - splitN n) x y _ (by omega) (by omega) (by omega)]
theorem stepsA_nat (m n : Nat) (h1 : 1 ≤ m) (h2 : m ≤ n) : stepsA (m : Int) (n : Int) = (stepsL m 0 n true, 0) := by
  unfold stepsA
  rw [if_neg (by omega), if_neg (by omega), Int.toNat_natCast, Int.toNat_natCast]
theorem stepsA_none (n : Nat) : stepsA 0 (n : Int) = ([], 0) := by
  unfold stepsA
  rw [if_neg (by omega), if_pos rfl]
theorem stepsA_fine (m n : Nat) (h : m ≤ n) : (stepsA (m : Int) (n : Int)).2 = 0 := by
  rcases Nat.eq_zero_or_pos m with h0 | h0
  · subst h0; exact congrArg Prod.snd (stepsA_none n)
  · rw [stepsA_nat m n h0 h]
theorem stretch_all (hs : List (List UInt8)) : stretchL hs 0 hs.length = rootL hs := by unfold stretchL; simp
theorem stretch_head (hs : List (List UInt8)) (m : Nat) : stretchL hs 0 m = rootL (hs.take m) := by unfold stretchL; simp
/-- the two roots come out of the proof -/
theorem bothE_roots (hs : List (List UInt8)) (m : Nat) (h1 : 1 ≤ m) (h2 : m ≤ hs.length) : bothE (m : Int) (hs.length : Int) (rootL (hs.take m)) (rootsS hs (m : Int)) = ((rootL (hs.take m), rootL hs), 0) := by
  rw [bothE_ok _ _ _ _ (by omega) (by rw [length_rootsS]), Int.toNat_natCast, Int.toNat_natCast]
  unfold rootsS
  rw [stepsA_nat m hs.length h1 h2]
  have := bothL_roots hs hs.length m 0 hs.length true (rootL (hs.take m)) (Nat.le_refl _) h1 h2 (by omega) (fun _ => by rw [Nat.zero_add, stretch_head])
  simp only [Nat.zero_add, stretch_head, List.take_length] at this
  rw [this]
/-- the proof is taken -/
theorem checkE_taken (hs : List (List UInt8)) (m : Nat) (h2 : m ≤ hs.length) : checkE (m : Int) (hs.length : Int) (rootL (hs.take m)) (rootL hs) (rootsS hs (m : Int)) = 0 := by
  unfold checkE
  rw [if_neg (by omega)]
  rcases Nat.eq_zero_or_pos m with h0 | h0
  · subst h0
    rw [if_pos (by decide), if_neg]
    rintro (h | h | ⟨h, h'⟩)
    · exact h rfl
    · exact h (by unfold rootsS; rw [show ((0 : Nat) : Int) = 0 from rfl, stepsA_none]; rfl)
    · exact h' (by rw [show hs = [] from List.eq_nil_of_length_eq_zero (by omega)]; rfl)
  · rw [if_neg (by omega), bothE_roots hs m h0 h2]
    simp
/-- not with another second root -/
theorem checkE_second (hs : List (List UInt8)) (m : Nat) (h1 : 1 ≤ m) (h2 : m ≤ hs.length) (y : List UInt8) (hy : y ≠ rootL hs) : checkE (m : Int) (hs.length : Int) (rootL (hs.take m)) y (rootsS hs (m : Int)) = 220 := by
  unfold checkE
  rw [if_neg (by omega), if_neg (by omega), bothE_roots hs m h1 h2, if_pos (.inr (.inr fun e => hy e.symm))]
/-- not with more hashes, nor with fewer -/
theorem checkE_length (m n : Nat) (h1 : 1 ≤ m) (h2 : m ≤ n) (x y : List UInt8) (p : List (List UInt8)) (h : (stepsA (m : Int) (n : Int)).1.length ≠ p.length) : checkE (m : Int) (n : Int) x y p = 220 := by
  unfold checkE
  rw [if_neg (by omega), if_neg (by omega), bothE_size _ _ _ _ (by omega) h, if_pos (.inl (by decide))]
/-- nor, where the smaller list is no power of two, or not smaller, with another first root -/
theorem checkE_first (hs : List (List UInt8)) (m : Nat) (h1 : 1 ≤ m) (h2 : m ≤ hs.length) (x : List UInt8) (hx : x ≠ rootL (hs.take m)) (hp : m = hs.length ∨ ∀ j, m ≠ 2 ^ j) : checkE (m : Int) (hs.length : Int) x (rootL hs) (rootsS hs (m : Int)) = 220 := by
  unfold checkE
  rw [if_neg (by omega), if_neg (by omega)]
  rw [if_pos]
  have hb := bothE_roots hs m h1 h2
  rw [bothE_ok _ _ _ _ (by omega) (by rw [length_rootsS]), Int.toNat_natCast, Int.toNat_natCast] at hb ⊢
  dsimp only at hb ⊢
  by_cases he : m = hs.length
  · right; right
    rw [← he, bothL_eq m true _ _ h1, if_pos rfl]
    rw [he, List.take_length] at hx
    exact hx
  · right; left
    rw [bothL_true hs.length m hs.length x (rootL (hs.take m)) _ (Nat.le_refl _) h1 (by omega) (hp.resolve_left he), congrArg Prod.fst (congrArg Prod.fst hb)]
    exact fun e => hx e.symm
end Go.Proofs.Ytgcbdnoniikboaa
/- Chains of proofs, and their check (plain). -/
namespace Go.Proofs.Ytgcbdnoniikboaa
open Go Go.RowKit

/-- do the numbers rise, from 'last' on -/
def riseFrom (last : Int) : List Int → Bool
  | [] => true
  | x :: l => if x < last then false else riseFrom x l
def lastOf (last : Int) : List Int → Int
  | [] => last
  | x :: l => lastOf x l
/-- each number is none below the one ahead, and none above the bound -/
def okFrom (n last : Int) : List Int → Bool
  | [] => true
  | x :: l => if x < last ∨ n < x then false else okFrom n x l
theorem riseFrom_le : ∀ (l : List Int) (last : Int), riseFrom last l = true → last ≤ lastOf last l
  | [], _, _ => Int.le_refl _
  | x :: l, last, h => by
    unfold riseFrom at h
    split at h
    · cases h
    · have := riseFrom_le l x h
      show last ≤ lastOf x l
      omega
theorem okFrom_eq (n : Int) : ∀ (l : List Int) (last : Int), last ≤ n → okFrom n last l = (riseFrom last l && decide (lastOf last l ≤ n))
  | [], last, h => by simp [okFrom, riseFrom, lastOf, h]
  | x :: l, last, h => by
    unfold okFrom riseFrom
    by_cases h1 : x < last
    · rw [if_pos (.inl h1), if_pos h1]; rfl
    · rw [if_neg h1]
      by_cases h2 : n < x
      · rw [if_pos (.inr h2)]
        show false = (riseFrom x l && decide (lastOf x l ≤ n))
        cases hr : riseFrom x l with
        | false => rfl
        | true =>
          have := riseFrom_le l x hr
          symm
          rw [Bool.true_and, decide_eq_false_iff_not]
          omega
      · rw [if_neg (by omega)]
        exact okFrom_eq n l x (by omega)
/-- what is all right so far is so at each place -/
theorem okFrom_at (n : Int) : ∀ (l : List Int) (last : Int), 0 ≤ last → okFrom n last l = true → ∀ i, i < l.length → 0 ≤ l.getD i 0 ∧ l.getD i 0 ≤ n ∧ (∀ k, i = k + 1 → l.getD k 0 ≤ l.getD i 0) ∧ last ≤ l.getD i 0
  | [], _, _, _, i, hi => by simp at hi
  | x :: l, last, h0, h, i, hi => by
    unfold okFrom at h
    split at h
    · cases h
    · rename_i hx
      have hx1 : last ≤ x ∧ x ≤ n := by omega
      cases i with
      | zero => exact ⟨(by show 0 ≤ x; omega), hx1.2, (fun k e => absurd e (by omega)), hx1.1⟩
      | succ i =>
        obtain ⟨h1, h2, h3, h4⟩ := okFrom_at n l x (by omega) h i (by simpa using hi)
        refine ⟨h1, h2, fun k e => ?_, (by show last ≤ l.getD i 0; omega)⟩
        cases e
        cases i with
        | zero => exact h4
        | succ k => exact h3 k rfl

/-- the proofs from each size to the next -/
def chainK (hs : List (List UInt8)) (s : List Int) (k : Nat) : List (List (List UInt8)) := (List.range k).map fun i => rootsS (hs.take (s.getD (i + 1) 0).toNat) (s.getD i 0)
def chainA (hs : List (List UInt8)) (s : List Int) : List (List (List UInt8)) × Int := if okFrom hs.length 0 s = true then (chainK hs s (s.length - 1), 0) else ([], 4)
theorem length_chainK (hs : List (List UInt8)) (s : List Int) (k : Nat) : (chainK hs s k).length = k := by simp [chainK]
theorem chainK_succ (hs : List (List UInt8)) (s : List Int) (k : Nat) : chainK hs s (k + 1) = chainK hs s k ++ [rootsS (hs.take (s.getD (k + 1) 0).toNat) (s.getD k 0)] := by
  unfold chainK
  rw [List.range_succ, List.map_append]
  rfl
theorem chainK_at (hs : List (List UInt8)) (s : List Int) (k i : Nat) (h : i < k) : (chainK hs s k).getD i [] = rootsS (hs.take (s.getD (i + 1) 0).toNat) (s.getD i 0) := by
  unfold chainK
  rw [List.getD_eq_getElem?_getD, List.getElem?_map, List.getElem?_range h]
  rfl

abbrev PtV := Int × List UInt8
abbrev ptD : PtV := (0, [])
/-- from a place on, while what stands there is taken -/
def checksGo (f : Nat → Int) : Nat → Nat → Nat × Int
  | 0, i => (i, 0)
  | n + 1, i => if f i = 0 then checksGo f n (i + 1) else (i, f i)
def checksF (ps : List PtV) (prs : List (List (List UInt8))) (i : Nat) : Int := checkE (ps.getD i ptD).1 (ps.getD (i + 1) ptD).1 (ps.getD i ptD).2 (ps.getD (i + 1) ptD).2 (prs.getD i [])
def checksA (ps : List PtV) (prs : List (List (List UInt8))) : Nat × Int := if prs.length ≠ ps.length - 1 then (0, 2) else checksGo (checksF ps prs) prs.length 0
theorem checksGo_all (f : Nat → Int) : ∀ (n i : Nat), (∀ k, i ≤ k → k < i + n → f k = 0) → checksGo f n i = (i + n, 0)
  | 0, i, _ => rfl
  | n + 1, i, h => by
    unfold checksGo
    rw [if_pos (h i (Nat.le_refl _) (by omega)), checksGo_all f n (i + 1) fun k h1 h2 => h k (by omega) (by omega)]
    congr 1
    omega
/-- the points of the sizes -/
def pointAt (hs : List (List UInt8)) (z : List UInt8) (m : Int) : PtV := (m, if 0 ≤ m ∧ m ≤ (hs.length : Int) then rootL (hs.take m.toNat) else z)
/-- a chain of right proofs is taken -/
theorem checks_chain (hs : List (List UInt8)) (z : List UInt8) (s : List Int) (hok : okFrom hs.length 0 s = true) : checksA (s.map (pointAt hs z)) (chainK hs s (s.length - 1)) = (s.length - 1, 0) := by
  unfold checksA
  rw [if_neg (by rw [length_chainK, List.length_map]; simp), length_chainK, checksGo_all]
  · rw [Nat.zero_add]
  · intro k _ hk
    have hk1 : k + 1 < s.length := by omega
    obtain ⟨a1, a2, -, -⟩ := okFrom_at hs.length s 0 (Int.le_refl _) hok k (by omega)
    obtain ⟨b1, b2, b3, -⟩ := okFrom_at hs.length s 0 (Int.le_refl _) hok (k + 1) hk1
    have b3 := b3 k rfl
    have e : ∀ i, i < s.length → (s.map (pointAt hs z)).getD i ptD = pointAt hs z (s.getD i 0) := fun i hi => by
      rw [List.getD_eq_getElem?_getD, List.getElem?_map, List.getD_eq_getElem?_getD, List.getElem?_eq_getElem hi]
      rfl
    unfold checksF
    rw [e k (by omega), e (k + 1) hk1, chainK_at _ _ _ _ (by omega)]
    obtain ⟨x, hx⟩ := Int.eq_ofNat_of_zero_le a1
    obtain ⟨y, hy⟩ := Int.eq_ofNat_of_zero_le b1
    rw [hx] at a2 b3 ⊢
    rw [hy] at b2 b3 ⊢
    unfold pointAt
    rw [if_pos ⟨by omega, a2⟩, if_pos ⟨by omega, b2⟩]
    dsimp only
    rw [Int.toNat_natCast, Int.toNat_natCast]
    have hy2 : (hs.take y).length = y := by rw [List.length_take]; omega
    have hxy : (hs.take y).take x = hs.take x := by rw [List.take_take, Nat.min_eq_left (by omega)]
    have := checkE_taken (hs.take y) x (by omega)
    rw [hxy, hy2] at this
    exact this
end Go.Proofs.Ytgcbdnoniikboaa
/- An operation with a guard whose run is known. No program in sight. -/
namespace Go.Proofs.Ytgcbdnoniikboaa
open Go Go.RowKit

theorem wpList_runG {P : Program} {w : World} {ops : Array Oper} {rest : List Oper} {o : Oper} {a : Act} {Q : Exit → Act → World → Prop} (hw : Region.wanted o (yielded ops a.tmps) = true) (v : Value) (w' : World) (hrun : (execOp a.eval o).run P w = .ok (.value v) w')
    (h : wpList P ops Q rest (a.put o.dst v) w') : wpList P ops Q (o :: rest) a w :=
  wpList_step fun K hK => by
    rw [if_pos hw]
    unfold Oper.wp
    rw [hrun]
    exact hK _ _ h
end Go.Proofs.Ytgcbdnoniikboaa
/- Variables that hold a hash: one step for each, by what is known of their block. -/
namespace Go.Proofs.Ytgcbdnoniikboaa
open Go Go.RowKit

/-- a block holds this hash -/
structure HV (w : World) (g : Nat) (l : List UInt8) : Prop where
  blk : Blk w g 34 (l.map B).toArray
  len : l.length = 32
theorem HV.step {w W : World} {g : Nat} {l : List UInt8} (h : HV w g l) (hb : Below w.heap.size w W) : HV W g l := ⟨h.blk.below hb h.blk.lt, h.len⟩
theorem HV.lt {w : World} {g : Nat} {l : List UInt8} (h : HV w g l) : g < w.heap.size := h.blk.lt
theorem HV.drew {w : World} {g : Nat} {l : List UInt8} (h : HV w g l) : HV w.drew g l := ⟨h.blk, h.len⟩
theorem HV.load {w : World} {g : Nat} {l : List UInt8} (h : HV w g l) : (Instr.loadAt 34 (.pointer (some ⟨g, 0, none⟩))).run Try.prog w = .ok (.agg (l.map B).toArray) w :=
  run_load_blk (agg26 _) (size26 _) g _ (by simp [h.len]) h.blk
theorem HV.far {w W : World} {g g' : Nat} {l : List UInt8} (h : HV w g l) (hb : Below g' w W) (hg : g < g') : HV W g l := ⟨h.blk.below hb hg, h.len⟩
theorem Blk.step {w W : World} {g : Nat} {t : TypeId} {cs : Array Value} (h : Blk w g t cs) (hb : Below w.heap.size w W) : Blk W g t cs := h.below hb h.lt

section
variable {w : World} {ops : Array Oper} {rest : List Oper} {o o1 o2 o3 : Oper} {a : Act} {Q : Exit → Act → World → Prop}
set_option maxRecDepth 100000 in
/-- a new variable, written at once -/
theorem wpList_hvar {l : List UInt8} (x y : Operand) (hg1 : o1.guard = none) (hg2 : o2.guard = none) (ho1 : o1.op = .alloc 34) (ho2 : o2.op = .store 34 x y)
    (hx : (a.put o1.dst (.pointer (some ⟨w.heap.size, 0, none⟩))).eval x = .pointer (some ⟨w.heap.size, 0, none⟩)) (hy : (a.put o1.dst (.pointer (some ⟨w.heap.size, 0, none⟩))).eval y = .agg (l.map B).toArray) (hl : l.length = 32)
    (h : ∀ W, HV W w.heap.size l → Below w.heap.size w W → wpList Try.prog ops Q rest ((a.put o1.dst (.pointer (some ⟨w.heap.size, 0, none⟩))).put o2.dst undef) W) : wpList Try.prog ops Q (o1 :: o2 :: rest) a w := by
  have hz : zeroHash.size = 32 := rfl
  refine wpList_run hg1 (.pointer (some ⟨w.heap.size, 0, none⟩)) (w.alloc (.cells zeroHash 34)) ?_ ?_
  · unfold execOp
    rw [ho1]
    rfl
  · refine wpList_store_blk hg2 34 x y ho2 32 size26 w.heap.size (l.map B).toArray hx hy (by simp [hl]) (oneCell_B _) 34 _ (Blk.new w 34 zeroHash) hz ?_
    exact h _ ⟨(Blk.new w 34 zeroHash).setRow_ _, hl⟩ (below_setRow ((Below.refl _ _).alloc (Nat.le_refl _) _) (Nat.le_refl _) _)
set_option maxRecDepth 100000 in
/-- a new variable, nought -/
theorem wpList_hnew (hg1 : o1.guard = none) (ho1 : o1.op = .alloc 34)
    (h : ∀ W, HV W w.heap.size (List.replicate 32 0) → Below w.heap.size w W → wpList Try.prog ops Q rest (a.put o1.dst (.pointer (some ⟨w.heap.size, 0, none⟩))) W) : wpList Try.prog ops Q (o1 :: rest) a w := by
  refine wpList_run hg1 (.pointer (some ⟨w.heap.size, 0, none⟩)) (w.alloc (.cells zeroHash 34)) ?_ (h _ ⟨Blk.new w 34 zeroHash, rfl⟩ ((Below.refl _ _).alloc (Nat.le_refl _) _))
  unfold execOp
  rw [ho1]
  rfl
/-- a variable is written over: all below it stays -/
theorem wpList_hset {l l' : List UInt8} {g : Nat} (x y : Operand) (hg2 : o.guard = none) (ho2 : o.op = .store 34 x y) (k : HV w g l')
    (hx : a.eval x = .pointer (some ⟨g, 0, none⟩)) (hy : a.eval y = .agg (l.map B).toArray) (hl : l.length = 32)
    (h : ∀ W, HV W g l → Below g w W → W = w.setRow g (l.map B).toArray → wpList Try.prog ops Q rest (a.put o.dst undef) W) : wpList Try.prog ops Q (o :: rest) a w :=
  wpList_store_blk hg2 34 x y ho2 32 size26 g (l.map B).toArray hx hy (by simp [hl]) (oneCell_B _) 34 _ k.blk (by simp [k.len])
    (h _ ⟨k.blk.setRow_ _, hl⟩ (below_setRow (Below.refl _ _) (Nat.le_refl _) _) rfl)
theorem wpList_hload {l : List UInt8} {g : Nat} (x : Operand) (hw : Region.wanted o (yielded ops a.tmps) = true) (ho : o.op = .load 34 x) (k : HV w g l) (hx : a.eval x = .pointer (some ⟨g, 0, none⟩))
    (h : wpList Try.prog ops Q rest (a.put o.dst (.agg (l.map B).toArray)) w) : wpList Try.prog ops Q (o :: rest) a w :=
  wpList_runG hw (.agg (l.map B).toArray) w (run_load_op 34 x ho g 0 hx _ k.load) h
/-- a scalar, by its cell -/
theorem wpList_cell {P : Program} (ty : TypeId) (x : Operand) (g off : Nat) (v : Value) (hw : Region.wanted o (yielded ops a.tmps) = true) (ho : o.op = .load ty x) (hx : a.eval x = .pointer (some ⟨g, off, none⟩))
    (hrun : (Instr.loadAt ty (.pointer (some ⟨g, off, none⟩))).run P w = .ok v w) (h : wpList P ops Q rest (a.put o.dst v) w) : wpList P ops Q (o :: rest) a w :=
  wpList_runG hw v w (run_load_op ty x ho g off hx _ hrun) h
end
theorem run_load_scalar {P : Program} {W : World} {ty : TypeId} {g o : Nat} {v : Value} (hagg : (isAgg ty).run P W = .ok false W) (h : W.cell? ⟨g, o, none⟩ = some v) : (Instr.loadAt ty (.pointer (some ⟨g, o, none⟩))).run P W = .ok v W := by
  simp [Instr.loadAt, Instr.sureAddr, loadVar, Sem.run_bind, hagg, Go.load, Sem.run, h]
theorem notagg64 : ∀ w : World, (isAgg 2).run Try.prog w = .ok false w := fun _ => by kernel_rfl
/-- hashes: one is put in the place of another -/
theorem hcells_set : ∀ (l : List (List UInt8)), H32 l → ∀ (k : Nat) (x : List UInt8), k < l.length → (hcells l).take (k * 32) ++ x.map B ++ (hcells l).drop (k * 32 + 32) = hcells (l.set k x) := by
  intro l h k x hk
  rw [hcells_take l h k (by omega), show k * 32 + 32 = (k + 1) * 32 by omega, hcells_drop l h (k + 1) (by omega), List.set_eq_take_append_cons_drop, if_pos hk, hcells_append]
  simp [hcells]
theorem H32.set {l : List (List UInt8)} (h : H32 l) (k : Nat) {x : List UInt8} (hx : x.length = 32) : H32 (l.set k x) := fun y hy => by
  rcases List.mem_or_eq_of_mem_set hy with h1 | rfl
  · exact h y h1
  · exact hx
theorem Hs.get {w : World} {X : Nat → Prop} {A : Option Addr} {n c : Nat} {hs : List (List UInt8)} (h : Hs w X A n c hs) {b o : Nat} (hA : A = some ⟨b, o, none⟩) (i : Nat) (hi : i < n) :
    (Instr.loadAt 34 (.pointer (some ⟨b, o + i * 32, none⟩))).run Try.prog w = .ok (.agg ((hs.getD i []).map B).toArray) w := by
  obtain ⟨b', o', hA', -, -, hat⟩ := h.at_ (by omega)
  rw [hA] at hA'
  cases hA'
  exact hat i hi
end Go.Proofs.Ytgcbdnoniikboaa
