/- notarylaw11.row, left, num. -/
import Derived.Test.YtmglkblomklcbaaQc123
import Derived.Test.YtmglkblomklcbaaQc112
import Derived.Test.YtmglkblomklcbaaQc122
import Derived.Test.YtmglkblomklcbaaQc113
import Derived.Test.YtmglkblomklcbaaQc120
import Derived.Test.YtmglkblomklcbaaQc119
import Derived.Test.YtmglkblomklcbaaQc121
namespace Go.Proofs.Ytmglkblomklcbaa
open Go Go.RowKit

theorem num11_any (i : Int) (w : World) : Calls Try.prog 15 #[.int .i64 i] w fun e w' => e = .returned (.int .i64 i) ∧ w = w' := by
  go_enter Try.func15, Try.ntmps15
  go_wp2_with fail
  go_ret
  exact ⟨rfl, rfl⟩

set_option maxHeartbeats 400000 in
set_option maxRecDepth 100000 in
theorem row11_any (hs : List (List UInt8)) (A : Option Addr) (n c : Nat) (w : World) (h : Hs w (fun _ => True) A n c hs) (hn : n ≤ 1099511627776) :
    Calls Try.prog 10 #[.slice A n c] w fun e w' => ∃ g c', e = .returned (.slice (some ⟨g, 0, none⟩) n c') ∧ w'.ownsRow w.heap.size 45 32 (.slice (some ⟨g, 0, none⟩) (n + 1) c') (n + 1) (hcells (hs ++ [oneHash 165])) ∧ Below w.heap.size w w' := by
  obtain ⟨x, hx⟩ : ∃ x, oneHash 165 = x := ⟨_, rfl⟩
  have hxl : x.length = 32 := by rw [← hx]; exact length_oneHash _
  rw [hx]
  obtain ⟨w0, hw0⟩ : ∃ w0, w.alloc (.cells #[] 45) = w0 := ⟨_, rfl⟩
  have b0 : Below w.heap.size w w0 := by rw [← hw0]; exact (Below.refl _ _).alloc (Nat.le_refl _) _
  have o0 : w0.ownsRow w.heap.size 45 32 (.slice (some ⟨w.heap.size, 0, none⟩) 0 0) 0 [] := by
    rw [← hw0]; exact World.ownsRow_lit (base := w.heap.size) (e := 45) (size := 32) w #[] 0 (Nat.le_refl _) (by decide) rfl
  obtain ⟨v1, w1, hr1, ho1, hg1, -⟩ := append_slv (ty := 22) Try.underlying22 info26z (by simp [Value.cells]) (by decide) o0 (h.step b0).sl (oneB _) (by unfold maxLen; omega) (by omega) b0.size
  rw [Nat.zero_add, List.nil_append] at ho1
  have b1 := b0.grown hg1 b0.size (fun k hk => (o0.lt k hk).1)
  have h32 : H32 [x] := by intro h hh; rw [List.mem_singleton.1 hh]; exact hxl
  have bA : Below w1.heap.size w1 (w1.alloc (.cells (hcells [x]).toArray 45)) := (Below.refl _ _).alloc (Nat.le_refl _) _
  have ho2 := owns_step ho1 bA
  have b2 := b1.trans (bA.mono b1.size)
  obtain ⟨v3, w3, hr3, ho3, hg3, -⟩ := append_slv (ty := 22) Try.underlying22 info26z (by simp [Value.cells]) (by decide) ho2 (Hs.lit w1 [x] h32 (by simp) 1 rfl).sl (oneB _) (by unfold maxLen; omega) (by omega) b2.size
  rw [← hcells_append] at ho3
  have b3 := b2.grown hg3 b2.size (fun k hk => (ho2.lt k hk).1)
  obtain ⟨g, c3, rfl, hc3, hcm⟩ : ∃ g c3, v3 = .slice (some ⟨g, 0, none⟩) (n + 1) c3 ∧ n + 1 ≤ c3 ∧ c3 ≤ maxLen := by
    rcases ho3.2 with ⟨_, h0⟩ | ⟨g, cap, cur, hv, _, _, h1, h2, _⟩
    · omega
    · exact ⟨g, cap, hv, h1, h2⟩
  unfold maxLen at hcm
  have sl1 := fun W => run_slice_high (P := Try.prog) sliceHs sizeHs (some ⟨g, 0, none⟩) (n + 1) c3 n (by omega) W
  have Hw0 := Lib.hid hw0
  have Hr1 := Lib.hid hr1
  have Hr3 := Lib.hid hr3
  have Hx := Lib.hid hx
  clear hw0 hr1 hr3 hx hg1 hg3 ho1 ho2 o0 b0 b1 b2 bA h
  go_enter Try.func10, Try.ntmps10
  go_wp2_with (first
    | ((with_reducible show wpList _ _ _ (⟨some 5, .call _, _, _, _, _⟩ :: _) _ _); rw [Hw0.out]; refine wpList_run rfl v1 w1 (run_append_op (.tmp 3) (.tmp 4) 22 rfl _ _ rfl rfl Hr1.out) ?_; simp only [Act.put])
    | ((with_reducible show wpList _ _ _ (⟨some 6, .build _ _, _, _, _, _⟩ :: _) _ _); refine wpList_run0 rfl (.agg (x.map B).toArray) (by rw [← Hx.out]; kernel_rfl) ?_; simp only [Act.put])
    | ((with_reducible show wpList _ _ _ (⟨some 7, .buildSlice _ _ _, _, _, _, _⟩ :: _) _ _); refine wpList_run rfl _ _ (run_lit_op [x] h32 (by simp) (by simp) 1 _ rfl (by simp [Act.eval]) rfl _) ?_; simp only [Act.put])
    | ((with_reducible show wpList _ _ _ (⟨some 8, .call _, _, _, _, _⟩ :: _) _ _); refine wpList_run rfl _ w3 (run_append_op (.tmp 5) (.tmp 7) 22 rfl _ _ rfl rfl Hr3.out) ?_; simp only [Act.put]))
  go_ret
  exact ⟨g, c3, rfl, ho3, b3⟩

set_option maxHeartbeats 400000 in
set_option maxRecDepth 100000 in
theorem left11_any (hs : List (List UInt8)) (g : Nat) (A : Option Addr) (n c' c : Nat) (w : World) (h : Hs w (fun _ => True) (some ⟨g, 0, none⟩) (n + 1) c' (hs ++ [oneHash 165])) (h2 : Hs w (fun _ => True) A n c hs) (hn : n ≤ 1099511627776) :
    Calls Try.prog 17 #[.slice (some ⟨g, 0, none⟩) n c', .slice A n c] w fun e w' => e = .returned (.bool true) ∧ Below w.heap.size w w' := by
  have hsame := same_any hs (some ⟨g, 0, none⟩) A n c' c w (h.fewer h2.len) h2 (by omega)
  have hroom := h.sl.room
  have hmax := h.sl.max
  unfold maxLen at hmax
  have sl1 := fun W => run_slice_high (P := Try.prog) sliceHs sizeHs (some ⟨g, 0, none⟩) n c' (n + 1) (by omega) W
  have en : ((n + 1 : Nat) : Int) = (n : Int) + 1 := by omega
  rw [en] at sl1
  clear en
  obtain ⟨x, hx⟩ : ∃ x, oneHash 165 = x := ⟨_, rfl⟩
  have hxl : x.length = 32 := by rw [← hx]; exact length_oneHash _
  rw [hx] at h
  have hld : ∀ W, Below w.heap.size w W → (Instr.loadAt 45 (.pointer (some ⟨g, n * 32, none⟩))).run Try.prog W = .ok (.agg (x.map B).toArray) W := fun W hW => by
    obtain ⟨b, o, hA, -, -, hat⟩ := (h.step hW).at_ (by omega)
    cases hA
    have := hat n (by omega)
    rw [Nat.zero_add, List.getD_eq_getElem?_getD, List.getElem?_append_right (by rw [h2.len]; exact Nat.le_refl _), h2.len, Nat.sub_self] at this
    exact this
  have Hx := Lib.hid hx
  have Hxl := Lib.hid hxl
  have Hld := Lib.hid hld
  have Hsame := Lib.hid hsame
  clear hx hxl hld hsame h h2
  go_enter Try.func17, Try.ntmps17
  go_wp2_with fail
  refine Hsame.out.mono ?_
  rintro e w2 ⟨rfl, hb2⟩
  go_wp2_with (first
    | ((with_reducible show wpList _ _ _ (⟨some 17, .load _ _, _, _, _, _⟩ :: _) _ _); refine wpList_runG (by kernel_rfl) (.agg (x.map B).toArray) w2 (run_load_op 45 (.tmp 16) rfl g (n * 32) rfl _ (Hld.out w2 hb2)) ?_; simp only [Act.put])
    | ((with_reducible show wpList _ _ _ (⟨some 18, .build _ _, _, _, _, _⟩ :: _) _ _); refine wpList_runG (by kernel_rfl) (.agg (x.map B).toArray) w2 (by rw [← Hx.out]; kernel_rfl) ?_; simp only [Act.put])
    | ((with_reducible show wpList _ _ _ (⟨some 19, .binOp _ _ _ _ _, _, _, _, _⟩ :: _) _ _); refine wpList_runG (by kernel_rfl) (.bool true) w2 (run_eql26_t (.tmp 17) (.tmp 18) _ x x rfl rfl rfl Hxl.out Hxl.out rfl _) ?_; simp only [Act.put]))
  go_ret
  exact ⟨rfl, hb2⟩
end Go.Proofs.Ytmglkblomklcbaa
/- What incl.All makes. -/
namespace Go.Proofs.Ytmglkblomklcbaa
open Go Go.RowKit

set_option maxHeartbeats 1000000 in
set_option maxRecDepth 100000 in
theorem iall_any (hs : List (List UInt8)) (A : Option Addr) (n c : Nat) (w : World) (h : Hs w (fun _ => True) A n c hs) (hn : n ≤ 1099511627776) :
    Calls Try.prog 19 #[.slice A n c] w fun e w' => ∃ (A' : Option Addr) (c' : Nat), e = .returned (.func (.func 41) #[] #[.pointer (some ⟨w.heap.size, 0, none⟩)]) ∧
      Blk w' w.heap.size 22 #[.slice A' n c'] ∧ Hs w' (w.heap.size < ·) A' n c' hs ∧ Below w.heap.size w w' := by
  obtain ⟨w2, hw2⟩ : ∃ w2, (w.alloc (.cells #[.slice A n c] 22)).alloc (.cells #[] 45) = w2 := ⟨_, rfl⟩
  have hb2 : Below w.heap.size w w2 := by rw [← hw2]; exact ((Below.refl _ _).alloc (Nat.le_refl _) _).alloc (by simp) _
  have hsz2 : w2.heap.size = w.heap.size + 1 + 1 := by rw [← hw2]; simp
  have k1 : Blk w2 w.heap.size 22 #[.slice A n c] := by rw [← hw2]; exact (Blk.new _ _ _).alloc _
  have o0 : w2.ownsRow (w.heap.size + 1) 45 32 (.slice (some ⟨w.heap.size + 1, 0, none⟩) 0 0) 0 [] := by
    have := World.ownsRow_lit (base := w.heap.size + 1) (e := 45) (size := 32) (w.alloc (.cells #[.slice A n c] 22)) #[] 0 (by simp) (by decide) rfl
    rw [← hw2]
    rw [show (w.alloc (.cells #[.slice A n c] 22)).heap.size = w.heap.size + 1 by simp] at this
    exact this
  obtain ⟨v1, w3, hr1, ho1, hg1, -⟩ := append_slv (ty := 22) Try.underlying22 info26z (by simp [Value.cells]) (by decide) o0 (h.step hb2).sl (oneB _) (by unfold maxLen; omega) (by omega) (by omega)
  rw [Nat.zero_add, List.nil_append] at ho1
  have b1 := hb2.grown hg1 hb2.size (fun k hk => Nat.le_of_succ_le (o0.lt k hk).1)
  have k13 : Blk w3 w.heap.size 22 #[.slice A n c] := k1.grown hg1 (fun e => by have := (o0.lt _ e.symm).1; omega)
  have c1 : w2.cell? ⟨w.heap.size, 0, none⟩ = some (.slice A n c) := by rw [k1.cell]; rfl
  have c3 : w3.cell? ⟨w.heap.size, 0, none⟩ = some (.slice A n c) := by rw [k13.cell]; rfl
  have f3 := k13.frozen 0
  obtain ⟨A1, c1', rfl, hs1⟩ := Hs.of_owns ho1 h.len h.all
  have hs1 := hs1.weak (Y := (w.heap.size < ·)) fun b _ hb => by have := hb.1; omega
  have Hw2 := Lib.hid hw2
  have Hr1 := Lib.hid hr1
  have hk4 := k13.set_ 0 (.slice A1 n c1')
  have hs4 : Hs (w3.setCell ⟨w.heap.size, 0, none⟩ (.slice A1 n c1')) (w.heap.size < ·) A1 n c1' hs := hs1.grown (grownBy_setCell' w3 w.heap.size _) (fun b _ hb e => by have := Option.some.inj e; omega)
  have hb4 : Below w.heap.size w (w3.setCell ⟨w.heap.size, 0, none⟩ (.slice A1 n c1')) := b1.setCell (Nat.le_refl _) _
  have Hs4 := Lib.hid hs4
  have Hk4 := Lib.hid hk4
  have Hb4 := Lib.hid hb4
  clear hw2 hr1 ho1 hg1 o0 h hb2 b1 k1 k13 hs1 hs4 hk4 hb4
  go_enter Try.func19, Try.ntmps19
  go_wp2_with (first
    | ((with_reducible show wpList _ _ _ (⟨some 4, .load _ _, _, _, _, _⟩ :: _) _ _); rw [Hw2.out])
    | ((with_reducible show wpList _ _ _ (⟨some 5, .call _, _, _, _, _⟩ :: _) _ _); refine wpList_run rfl _ w3 (run_append_op (.tmp 3) (.tmp 4) 22 rfl _ _ rfl rfl Hr1.out) ?_; simp only [Act.put]))
  go_ret
  exact ⟨A1, c1', rfl, Hk4.out, Hs4.out, Hb4.out⟩
end Go.Proofs.Ytmglkblomklcbaa
/- The two roots that are put together out of a proof (plain). -/
namespace Go.Proofs.Ytmglkblomklcbaa
open Go Go.RowKit

/-- back through the steps of m in a stretch of n: the two hashes -/
def bothF : Nat → Nat → Nat → Bool → List UInt8 → List (List UInt8) → List UInt8 × List UInt8
  | 0, _, _, _, x, _ => (x, x)
  | f + 1, m, n, whole, x, p =>
    if m = n then (if whole then (x, x) else (p.getD 0 [], p.getD 0 []))
    else if m ≤ splitN n then ((bothF f m (splitN n) whole x p.dropLast).1, hNode (bothF f m (splitN n) whole x p.dropLast).2 (p.getD (p.length - 1) []))
    else (hNode (p.getD (p.length - 1) []) (bothF f (m - splitN n) (n - splitN n) false x p.dropLast).1, hNode (p.getD (p.length - 1) []) (bothF f (m - splitN n) (n - splitN n) false x p.dropLast).2)
theorem bothF_enough : ∀ (f g m n : Nat) (whole : Bool) (x : List UInt8) (p : List (List UInt8)), 1 ≤ m → m ≤ n → n ≤ f → n ≤ g → bothF f m n whole x p = bothF g m n whole x p
  | 0, _, _, _, _, _, _, h1, h2, h3, _ => by omega
  | _ + 1, 0, _, _, _, _, _, h1, h2, _, h4 => by omega
  | f + 1, g + 1, m, n, whole, x, p, h1, h2, h3, h4 => by
    simp only [bothF]
    split
    · rfl
    · have hl := splitN_lt n (by omega)
      have hp := splitN_pos n (by omega)
      split
      · rename_i h
        rw [bothF_enough f g m (splitN n) whole x _ h1 h (by omega) (by omega)]
      · rw [bothF_enough f g (m - splitN n) (n - splitN n) false x _ (by omega) (by omega) (by omega) (by omega)]
def bothL (m n : Nat) (whole : Bool) (x : List UInt8) (p : List (List UInt8)) : List UInt8 × List UInt8 := bothF n m n whole x p
theorem bothL_eq (m : Nat) (whole : Bool) (x : List UInt8) (p : List (List UInt8)) (h : 1 ≤ m) : bothL m m whole x p = if whole then (x, x) else (p.getD 0 [], p.getD 0 []) := by
  obtain ⟨k, rfl⟩ : ∃ k, m = k + 1 := ⟨m - 1, by omega⟩
  unfold bothL
  simp only [bothF, if_true]
theorem bothL_left (m n : Nat) (whole : Bool) (x : List UInt8) (p : List (List UInt8)) (h : 1 ≤ m) (hn : m < n) (hk : m ≤ splitN n) : bothL m n whole x p = ((bothL m (splitN n) whole x p.dropLast).1, hNode (bothL m (splitN n) whole x p.dropLast).2 (p.getD (p.length - 1) [])) := by
  have hl := splitN_lt n (by omega)
  unfold bothL
  rw [bothF_enough n (n + 1) m n whole x p h (by omega) (Nat.le_refl _) (by omega), bothF, if_neg (by omega), if_pos hk, bothF_enough n (splitN n) m (splitN n) whole x _ h hk (by omega) (Nat.le_refl _)]
theorem bothL_right (m n : Nat) (whole : Bool) (x : List UInt8) (p : List (List UInt8)) (h : 1 ≤ m) (hn : m < n) (hk : ¬ m ≤ splitN n) : bothL m n whole x p = (hNode (p.getD (p.length - 1) []) (bothL (m - splitN n) (n - splitN n) false x p.dropLast).1, hNode (p.getD (p.length - 1) []) (bothL (m - splitN n) (n - splitN n) false x p.dropLast).2) := by
  have hp := splitN_pos n (by omega)
  unfold bothL
  rw [bothF_enough n (n + 1) m n whole x p h (by omega) (Nat.le_refl _) (by omega), bothF, if_neg (by omega), if_neg hk, bothF_enough n (n - splitN n) (m - splitN n) (n - splitN n) false x _ (by omega) (by omega) (by omega) (Nat.le_refl _)]
/-- how many hashes are taken -/
def cntS (m n : Nat) (whole : Bool) : Nat := (stepsL m 0 n whole).length
theorem stepsL_cnt (d : Nat) : ∀ (m a b n : Nat) (whole : Bool), n ≤ d → 1 ≤ m → m ≤ n → (stepsL m a n whole).length = (stepsL m b n whole).length := by
  induction d with
  | zero => intro m a b n whole h h1 h2; omega
  | succ d ih =>
    intro m a b n whole h h1 h2
    by_cases hmn : m = n
    · subst hmn
      rw [stepsL_eq m a whole h1, stepsL_eq m b whole h1]
      split <;> rfl
    · have hl := splitN_lt n (by omega)
      have hp := splitN_pos n (by omega)
      by_cases hk : m ≤ splitN n
      · rw [stepsL_left m a n whole h1 (by omega) hk, stepsL_left m b n whole h1 (by omega) hk, List.length_append, List.length_append, ih m a b (splitN n) whole (by omega) h1 hk]; rfl
      · rw [stepsL_right m a n whole h1 (by omega) hk, stepsL_right m b n whole h1 (by omega) hk, List.length_append, List.length_append, ih (m - splitN n) (a + splitN n) (b + splitN n) (n - splitN n) false (by omega) (by omega) (by omega)]; rfl
theorem cntS_eq (m : Nat) (whole : Bool) (h : 1 ≤ m) : cntS m m whole = if whole then 0 else 1 := by
  unfold cntS
  rw [stepsL_eq m 0 whole h]
  split <;> rfl
theorem cntS_left (m n : Nat) (whole : Bool) (h : 1 ≤ m) (hn : m < n) (hk : m ≤ splitN n) : cntS m n whole = cntS m (splitN n) whole + 1 := by
  unfold cntS
  rw [stepsL_left m 0 n whole h hn hk, List.length_append]; rfl
theorem cntS_right (m n : Nat) (whole : Bool) (h : 1 ≤ m) (hn : m < n) (hk : ¬ m ≤ splitN n) : cntS m n whole = cntS (m - splitN n) (n - splitN n) false + 1 := by
  have hp := splitN_pos n (by omega)
  unfold cntS
  rw [stepsL_right m 0 n whole h hn hk, List.length_append, stepsL_cnt n (m - splitN n) (0 + splitN n) 0 (n - splitN n) false (by omega) (by omega) (by omega)]; rfl
theorem length_bothL (d : Nat) : ∀ (m n : Nat) (whole : Bool) (x : List UInt8) (p : List (List UInt8)), n ≤ d → 1 ≤ m → m ≤ n → x.length = 32 → H32 p → p.length = cntS m n whole → (bothL m n whole x p).1.length = 32 ∧ (bothL m n whole x p).2.length = 32 := by
  induction d with
  | zero => intro m n whole x p h h1 h2; omega
  | succ d ih =>
    intro m n whole x p h h1 h2 hx hp hc
    by_cases hmn : m = n
    · subst hmn
      rw [cntS_eq m whole h1] at hc
      rw [bothL_eq m whole x p h1]
      split
      · exact ⟨hx, hx⟩
      · rename_i hw
        rw [if_neg hw] at hc
        have := hp.getD 0 (by omega)
        exact ⟨this, this⟩
    · have hl := splitN_lt n (by omega)
      have hps := splitN_pos n (by omega)
      have hpd : H32 p.dropLast := by rw [List.dropLast_eq_take]; exact hp.take _
      by_cases hk : m ≤ splitN n
      · rw [cntS_left m n whole h1 (by omega) hk] at hc
        rw [bothL_left m n whole x p h1 (by omega) hk]
        exact ⟨(ih m (splitN n) whole x _ (by omega) h1 hk hx hpd (by rw [List.length_dropLast]; omega)).1, length_hNode _ _⟩
      · rw [bothL_right m n whole x p h1 (by omega) hk]
        exact ⟨length_hNode _ _, length_hNode _ _⟩
end Go.Proofs.Ytmglkblomklcbaa
/- notaryref12.both. -/
namespace Go.Proofs.Ytmglkblomklcbaa
open Go Go.RowKit

theorem results_cells2 {fn : Func} {p q : Tmp} {ty : TypeId} (h : fn.results = #[.cell p ty, .cell q ty]) (tmps : Array Value) (P : Program) (w : World) :
    (results fn tmps).run P w =
      ((asAddr (tmps.getD p undef)).run P w).andThen fun a w₁ => ((loadVar ty a).run P w₁).andThen fun v w₂ => ((asAddr (tmps.getD q undef)).run P w₂).andThen fun b w₃ => ((loadVar ty b).run P w₃).andThen fun u w₄ => .ok (.tuple #[v, u]) w₄ := by
  simp only [results, h]
  simp [Sem.run_bind, Result.andThen]
theorem tuple_cells2 {fn : Func} {p q : Tmp} (h : fn.results = #[.cell p 45, .cell q 45]) (tmps : Array Value) (w : World) (g g' : Nat) (x y : List UInt8)
    (hp : tmps.getD p undef = .pointer (some ⟨g, 0, none⟩)) (hq : tmps.getD q undef = .pointer (some ⟨g', 0, none⟩)) (hx : HV w g x) (hy : HV w g' y) :
    (results fn tmps).run Try.prog w = .ok (.tuple #[.agg (x.map B).toArray, .agg (y.map B).toArray]) w := by
  have l1 := run_loadVar_row (P := Try.prog) w g _ 45 _ (0, 0) _ hx.blk Try.underlying45 rfl (by rw [show (x.map B).toArray.size = 32 by simp [hx.len]]; exact info26)
  have l2 := run_loadVar_row (P := Try.prog) w g' _ 45 _ (0, 0) _ hy.blk Try.underlying45 rfl (by rw [show (y.map B).toArray.size = 32 by simp [hy.len]]; exact info26)
  rw [results_cells2 h, hp, hq]
  simp only [asAddr, Sem.run_pure, Result.andThen_ok, l1, l2]

end Go.Proofs.Ytmglkblomklcbaa
/- What cons.Both hands out: a function that takes the next hash, one that goes back through the steps. -/
namespace Go.Proofs.Ytmglkblomklcbaa
open Go Go.RowKit

theorem results_cell1 {fn : Func} {p : Tmp} (h : fn.results = #[.cell p 45]) (tmps : Array Value) (w : World) (g : Nat) (x : List UInt8) (hp : tmps.getD p undef = .pointer (some ⟨g, 0, none⟩)) (hx : HV w g x) :
    (results fn tmps).run Try.prog w = .ok (.agg (x.map B).toArray) w := by
  have l1 := run_loadVar_row (P := Try.prog) w g _ 45 _ (0, 0) _ hx.blk Try.underlying45 rfl (by rw [show (x.map B).toArray.size = 32 by simp [hx.len]]; exact info26)
  have hp' : tmps[p]?.getD undef = .pointer (some ⟨g, 0, none⟩) := by simpa using hp
  simp only [results, h]
  simp [hp', asAddr, l1]
theorem HV.grown {w W : World} {g : Nat} {l : List UInt8} {row : Option Nat} (h : HV w g l) (hg : w.grownBy W row) (hne : some g ≠ row) : HV W g l := ⟨h.blk.grown hg hne, h.len⟩
section
variable {M : Nat} {x : List UInt8} {p : List (List UInt8)} {A : Option Addr} {np c g4 g6 g7 g13 g14 g15 N j : Nat} {W W' : World}
end
theorem grownBy_below {A B C : World} {r : Option Nat} (h : A.grownBy B r) (k : Below A.heap.size B C) : A.grownBy C r :=
  ⟨k.os.trans h.os, k.tape.trans h.tape, k.output.trans h.output, Nat.le_trans h.size k.size, fun i hi hn => (k.block i hi).trans (h.block i hi hn)⟩
theorem grownBy_trans {A B C : World} {g : Nat} (h : A.grownBy B (some g)) (k : B.grownBy C (some g)) : A.grownBy C (some g) :=
  ⟨k.os.trans h.os, k.tape.trans h.tape, k.output.trans h.output, Nat.le_trans h.size k.size, fun i hi hn => (k.block i (Nat.lt_of_lt_of_le hi h.size) hn).trans (h.block i hi hn)⟩

section
variable {M : Nat} {x : List UInt8} {p : List (List UInt8)} {A : Option Addr} {np c g4 g6 g7 g13 g14 g15 N j : Nat} {w W W' : World}
end
theorem last_take (p : List (List UInt8)) (j e : Nat) (h : j + e < p.length) : ((p.drop j).take (e + 1)).dropLast = (p.drop j).take e ∧ ((p.drop j).take (e + 1)).getD (((p.drop j).take (e + 1)).length - 1) [] = p.getD (j + e) [] := by
  have hl : ((p.drop j).take (e + 1)).length = e + 1 := by rw [List.length_take, List.length_drop]; omega
  constructor
  · rw [List.dropLast_eq_take, hl, List.take_take]
    congr 1
    omega
  · rw [hl, Nat.add_sub_cancel, List.getD_eq_getElem?_getD, List.getElem?_take, if_pos (by omega), List.getElem?_drop, List.getD_eq_getElem?_getD]
end Go.Proofs.Ytmglkblomklcbaa
/- What cons.Both and cons.Check answer (plain). -/
namespace Go.Proofs.Ytmglkblomklcbaa
open Go Go.RowKit

def bothE (m n : Int) (x : List UInt8) (p : List (List UInt8)) : (List UInt8 × List UInt8) × Int :=
  if m < 1 ∨ n < m then ((zeroL, zeroL), 4) else if (stepsA m n).1.length ≠ p.length then ((zeroL, zeroL), 220) else (bothL m.toNat n.toNat true x p, 0)
def checkE (m n : Int) (x y : List UInt8) (p : List (List UInt8)) : Int :=
  if m < 0 ∨ n < m then 4 else if m = 0 then (if x ≠ hEmpty ∨ p.length ≠ 0 ∨ (n = 0 ∧ y ≠ x) then 220 else 0)
  else if (bothE m n x p).2 ≠ 0 ∨ (bothE m n x p).1.1 ≠ x ∨ (bothE m n x p).1.2 ≠ y then 220 else 0
theorem stepsA_cnt (m n : Int) (h1 : 1 ≤ m) (h2 : m ≤ n) : (stepsA m n).1.length = cntS m.toNat n.toNat true := by
  unfold stepsA
  rw [if_neg (by omega), if_neg (by omega)]
  rfl
theorem bothE_bad (m n : Int) (x : List UInt8) (p : List (List UInt8)) (h : m < 1 ∨ n < m) : bothE m n x p = ((zeroL, zeroL), 4) := if_pos h
theorem bothE_size (m n : Int) (x : List UInt8) (p : List (List UInt8)) (h : ¬ (m < 1 ∨ n < m)) (hs : (stepsA m n).1.length ≠ p.length) : bothE m n x p = ((zeroL, zeroL), 220) := by unfold bothE; rw [if_neg h, if_pos hs]
theorem bothE_ok (m n : Int) (x : List UInt8) (p : List (List UInt8)) (h : ¬ (m < 1 ∨ n < m)) (hs : (stepsA m n).1.length = p.length) : bothE m n x p = (bothL m.toNat n.toNat true x p, 0) := by unfold bothE; rw [if_neg h, if_neg (by simpa using hs)]
theorem length_bothE (m n : Int) (x : List UInt8) (p : List (List UInt8)) (hx : x.length = 32) (hp : H32 p) : (bothE m n x p).1.1.length = 32 ∧ (bothE m n x p).1.2.length = 32 := by
  by_cases h : m < 1 ∨ n < m
  · rw [bothE_bad m n x p h]; exact ⟨rfl, rfl⟩
  · by_cases hs : (stepsA m n).1.length = p.length
    · rw [bothE_ok m n x p h hs]
      exact length_bothL n.toNat m.toNat n.toNat true x p (Nat.le_refl _) (by omega) (by omega) hx hp (by rw [← hs, stepsA_cnt m n (by omega) (by omega)])
    · rw [bothE_size m n x p h hs]; exact ⟨rfl, rfl⟩
theorem bothE_e (m n : Int) (x : List UInt8) (p : List (List UInt8)) : (bothE m n x p).2 = 0 ∨ (bothE m n x p).2 = 4 ∨ (bothE m n x p).2 = 220 := by
  unfold bothE
  split
  · exact .inr (.inl rfl)
  · split
    · exact .inr (.inr rfl)
    · exact .inl rfl
end Go.Proofs.Ytmglkblomklcbaa
/- cons.Size; notaryref12.Prove. -/
namespace Go.Proofs.Ytmglkblomklcbaa
open Go Go.RowKit

structure RpI (w : World) (hs : List (List UInt8)) (A : Option Addr) (n c : Nat) (As : Option Addr) (ns cs b1 : Nat) (ls : List (Nat × Nat)) (q : List (List UInt8)) (v : Value) (W : World) : Prop where
  src : Hs W (· < w.heap.size) A n c hs
  st : Rs W (· < b1) As ns cs (natR ls)
  own : W.ownsRow b1 45 32 v q.length (hcells q)
  bel : Below w.heap.size w W
  le : w.heap.size ≤ b1
  sz : b1 ≤ W.heap.size

end Go.Proofs.Ytmglkblomklcbaa
/- cons.Both; notaryref12.Both. -/
namespace Go.Proofs.Ytmglkblomklcbaa
open Go Go.RowKit

theorem results_cells2t {fn : Func} {p q u : Tmp} {ty : TypeId} (h : fn.results = #[.cell p ty, .cell q ty, .tmp u]) (tmps : Array Value) (P : Program) (w : World) :
    (results fn tmps).run P w =
      ((asAddr (tmps.getD p undef)).run P w).andThen fun a w₁ => ((loadVar ty a).run P w₁).andThen fun v w₂ => ((asAddr (tmps.getD q undef)).run P w₂).andThen fun b w₃ => ((loadVar ty b).run P w₃).andThen fun z w₄ => .ok (.tuple #[v, z, tmps.getD u undef]) w₄ := by
  simp only [results, h]
  simp [Sem.run_bind, Result.andThen]
theorem tuple_cells2t {fn : Func} {p q u : Tmp} (h : fn.results = #[.cell p 45, .cell q 45, .tmp u]) (tmps : Array Value) (w : World) (g g' : Nat) (x y : List UInt8)
    (hp : tmps.getD p undef = .pointer (some ⟨g, 0, none⟩)) (hq : tmps.getD q undef = .pointer (some ⟨g', 0, none⟩)) (hx : HV w g x) (hy : HV w g' y) :
    (results fn tmps).run Try.prog w = .ok (.tuple #[.agg (x.map B).toArray, .agg (y.map B).toArray, tmps.getD u undef]) w := by
  have l1 := run_loadVar_row (P := Try.prog) w g _ 45 _ (0, 0) _ hx.blk Try.underlying45 rfl (by rw [show (x.map B).toArray.size = 32 by simp [hx.len]]; exact info26)
  have l2 := run_loadVar_row (P := Try.prog) w g' _ 45 _ (0, 0) _ hy.blk Try.underlying45 rfl (by rw [show (y.map B).toArray.size = 32 by simp [hy.len]]; exact info26)
  rw [results_cells2t h, hp, hq]
  simp only [asAddr, Sem.run_pure, Result.andThen_ok, l1, l2]
theorem length_zeroL : zeroL.length = 32 := rfl
theorem below_of_grownBy {n g : Nat} {w w' : World} (h : w.grownBy w' (some g)) (hn : n ≤ g) (hsz : n ≤ w.heap.size) : Below n w w' :=
  ⟨h.os, h.tape, h.output, h.size, fun k hk => h.block k (Nat.lt_of_lt_of_le hk hsz) (fun e => by have := Option.some.inj e; omega)⟩

end Go.Proofs.Ytmglkblomklcbaa
