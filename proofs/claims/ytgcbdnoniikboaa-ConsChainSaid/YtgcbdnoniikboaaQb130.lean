/- cons.rise: do numbers rise. -/
import Derived.Test.YtgcbdnoniikboaaQb122
import Derived.Test.YtgcbdnoniikboaaQb129
import Derived.Test.YtgcbdnoniikboaaQb110
import Derived.Test.YtgcbdnoniikboaaQb116
import Derived.Test.YtgcbdnoniikboaaQb119
import Derived.Test.YtgcbdnoniikboaaQb117
namespace Go.Proofs.Ytgcbdnoniikboaa
open Go Go.RowKit

abbrev icells (s : List Int) : List Value := s.map (Value.int .i64)
theorem icell_at {w : World} {X : Nat → Prop} {A : Option Addr} {n c : Nat} {s : List Int} (h : SlV w X A n c 1 (icells s)) (hn : s.length = n) {b o : Nat} (hA : A = some ⟨b, o, none⟩) (k : Nat) (hk : k < n) : w.cell? ⟨b, o + k, none⟩ = some (.int .i64 (s.getD k 0)) := by
  obtain ⟨b', o', e, -, -, hc⟩ := h.at_ (by omega) (by decide)
  rw [hA] at e
  cases e
  refine hc k _ ?_
  rw [List.getElem?_map, List.getD_eq_getElem?_getD, List.getElem?_eq_getElem (by omega)]
  rfl
theorem riseFrom_drop (s : List Int) (last : Int) (k : Nat) (hk : k < s.length) : riseFrom last (s.drop k) = if s.getD k 0 < last then false else riseFrom (s.getD k 0) (s.drop (k + 1)) := by
  rw [List.drop_eq_getElem_cons hk, List.getD_eq_getElem?_getD, List.getElem?_eq_getElem hk]
  rfl

set_option maxHeartbeats 1000000 in
set_option maxRecDepth 100000 in
theorem crise_any (s : List Int) (A : Option Addr) (n c : Nat) (w : World) (h : SlV w (fun _ => True) A n c 1 (icells s)) (hn : s.length = n) :
    Calls Try.prog 73 #[.slice A n c] w fun e w' => e = .returned (.bool (riseFrom 0 s)) ∧ w' = w := by
  have hroom := h.room
  have hmx := h.max
  unfold maxLen at hmx
  obtain ⟨r, hr⟩ : ∃ r, riseFrom 0 s = r := ⟨_, rfl⟩
  rw [hr]
  have Hr := Lib.hid hr
  have Hn := Lib.hid hn
  clear hr hn
  go_enter Try.func73, Try.ntmps73
  go_wp2_with fail
  go_loopw [3, 5, 8] (fun v3 _ v8 wr => ∃ (k : Nat) (last : Int), k ≤ n ∧ v8 = .int .i64 (k : Int) ∧ v3 = .int .i64 last ∧ wr = w ∧ riseFrom last (s.drop k) = r) (fun _ _ v8 _ => n - (intOf v8).toNat)
  case atStart => exact ⟨0, 0, Nat.zero_le _, rfl, rfl, rfl, Hr.out⟩
  case round =>
    obtain ⟨k, last, hk, rfl, rfl, rfl, hrr⟩ := hrel
    by_cases hkn : k < n
    · have hd : decide ((k : Int) < (n : Int)) = true := by simp; omega
      rw [riseFrom_drop s last k (by rw [Hn.out]; exact hkn)] at hrr
      obtain ⟨b, o, rfl, -, -, -⟩ := h.at_ (by omega) (by decide)
      have hc := icell_at h Hn.out rfl k hkn
      obtain ⟨x, hx⟩ : ∃ x, s.getD k 0 = x := ⟨_, rfl⟩
      rw [hx] at hc hrr
      have Hrr := Lib.hid hrr
      clear hrr hx
      by_cases hxl : x < last
      · have hd2 : decide (x < last) = true := by simp; omega
        go_wp2_with fail
        have e := Hrr.out
        rw [if_pos hxl] at e
        subst e
        go_ret
        exact ⟨rfl, rfl⟩
      · have hd2 : decide (x < last) = false := by simp; omega
        go_wp2_with fail
        have e := Hrr.out
        rw [if_neg hxl] at e
        refine ⟨⟨k + 1, x, by omega, by go_num, by first | rfl | trivial, by first | rfl | trivial, e⟩, by simp [intOf]; omega⟩
    · obtain rfl : n = k := by omega
      have hd : decide ((n : Int) < (n : Int)) = false := by simp
      rw [List.drop_of_length_le (by rw [Hn.out]; exact Nat.le_refl _)] at hrr
      go_wp2_with fail
      go_ret
      exact ⟨by rw [← hrr]; rfl, rfl⟩
end Go.Proofs.Ytgcbdnoniikboaa
/- A law's arguments that are slices of int64, and slices of slices of hashes, opened. -/
namespace Go.Proofs.Ytgcbdnoniikboaa
open Go.RowKit

section
variable {H : Type} {enc : TypeId × Value → H} {P : Program} {W : World} {base : Nat} {held : Bool}
theorem open_i64l {t e : TypeId} {fuel : Nat} {cs : List Value} {x : DataW H × List MemPlace} (ht : P.underlying t = some (.slice e)) (he : P.underlying e = some (.int .i64)) (hc : P.cellsOf e = 1)
    (h : DataW.trod enc P W 0 (fun _ => true) held fuel t cs = some x) : ∃ (A : Option Addr) (n c : Nat) (zs : List Int), cs = [Value.slice A n c] ∧ SlV W (· < W.heap.size) A n c 1 (icells zs) ∧ zs.length = n ∧ (∀ z ∈ zs, z ≤ 9223372036854775807) ∧ n + 1 ≤ Rows.uptoBulk x.1 := by
  obtain ⟨A, n, c, L, xs, h1, h2, h3, h4, _, h6, h7⟩ := open_slR (fun (z : Int) cs => cs = [Value.int .i64 z] ∧ (-9223372036854775808 ≤ z ∧ z ≤ 9223372036854775807)) (fun _ => 0) ht hc (by decide) (fun fuel cs y hy _ => by
    obtain ⟨z, rfl, hy2, hwf⟩ := DataW.trod_int he hy
    refine ⟨z, ⟨rfl, ?_⟩, bulk_one _⟩
    simpa [Lit.wf, IntKind.min, IntKind.max, IntKind.signed, IntKind.bits] using hwf) h
  have hL := map_of_each (fun z : Int => [Value.int .i64 z]) L xs (by omega) (fun i a b ha hb => (h6 i a b ha hb).1)
  refine ⟨A, n, c, xs, h1, ?_, h4, fun z hz => ?_, by omega⟩
  · rw [hL, flatten_map_single] at h2
    exact h2
  · obtain ⟨i, hi, rfl⟩ := List.getElem_of_mem hz
    exact (h6 i xs[i] (L[i]'(by omega)) (List.getElem?_eq_getElem hi) (List.getElem?_eq_getElem (by omega))).2.2
theorem open_hashess {t e q r : TypeId} {fuel : Nat} {cs : List Value} {x : DataW H × List MemPlace} (ht : P.underlying t = some (.slice e)) (he : P.underlying e = some (.slice q)) (hq : P.underlying q = some (.array 32 r)) (hr : P.underlying r = some (.int .u8)) (ce : P.cellsOf e = 1) (cq : P.cellsOf q = 32) (cr : P.cellsOf r = 1)
    (h : DataW.trod enc P W 0 (fun _ => true) held fuel t cs = some x) : ∃ (A : Option Addr) (n c : Nat) (vs : List Value) (rs : List (List (List UInt8))), cs = [Value.slice A n c] ∧ HsS W (· < W.heap.size) A n c vs rs ∧ n + 1 ≤ Rows.uptoBulk x.1 := by
  obtain ⟨A, n, c, L, xs, h1, h2, h3, h4, h5, h6, h7⟩ := open_slR (fun (l : List (List UInt8)) cs => ∃ Ai ci, cs = [Value.slice Ai l.length ci] ∧ Hs W (· < W.heap.size) Ai l.length ci l) (fun _ => 0) ht ce (by decide) (fun fuel cs y hy _ => by
    obtain ⟨A, n, c, l, g1, g2, g3⟩ := open_hashes he hq hr cr cq hy
    have := g2.len
    subst this
    exact ⟨l, ⟨A, c, g1, g2⟩, bulk_one _⟩) h
  refine ⟨A, n, c, L.flatten, xs, h1, ⟨h2, h4, fun i hi => ?_⟩, by omega⟩
  have hiL : i < L.length := by omega
  obtain ⟨Ai, ci, g1, g2⟩ := h6 i xs[i] L[i] (List.getElem?_eq_getElem hi) (List.getElem?_eq_getElem hiL)
  refine ⟨Ai, ci, ?_, g2⟩
  have hL1 : ∀ (L : List (List Value)) (i : Nat) (v : Value), (∀ cs ∈ L, cs.length = 1) → L[i]? = some [v] → L.flatten[i]? = some v := by
    intro L
    induction L with
    | nil => intro i v _ h; simp at h
    | cons c L ih =>
      intro i v hl h
      obtain ⟨a, rfl⟩ := List.length_eq_one_iff.1 (hl c (by simp))
      cases i with
      | zero => simp at h ⊢; exact h
      | succ i => simp at h ⊢; exact ih i v (fun cs hcs => hl cs (by simp [hcs])) h
  exact hL1 L i _ h5 (by rw [List.getElem?_eq_getElem hiL, g1])
end
end Go.Proofs.Ytgcbdnoniikboaa
/- notarylaw12.lent, kept: hashes with a mark behind them. -/
namespace Go.Proofs.Ytgcbdnoniikboaa
open Go Go.RowKit

/-- lent: one hash of a mark lies behind them -/
def markH : List UInt8 := oneHash 165
theorem length_markH : markH.length = 32 := rfl

set_option maxHeartbeats 1000000 in
set_option maxRecDepth 100000 in
theorem lent12_own (hs : List (List UInt8)) (A : Option Addr) (n c : Nat) (w : World) (h : Hs w (fun _ => True) A n c hs) (hmax : n ≤ 1099511627776) :
    Calls Try.prog 40 #[.slice A n c] w fun e w' => ∃ A' c', e = .returned (.slice A' n c') ∧ w'.ownsRow w.heap.size 34 32 (.slice A' (n + 1) c') (n + 1) (hcells (hs ++ [markH])) ∧ Hs w' (w.heap.size ≤ ·) A' (n + 1) c' (hs ++ [markH]) ∧ Below w.heap.size w w' := by
  have hroom := h.sl.room
  have hmx := h.sl.max
  unfold maxLen at hmx
  have hlen := h.len
  obtain ⟨v1, w1, hr1, ho1, hg1, -⟩ := append_slv (ty := 37) Try.underlying37 info26z (by simp [Value.cells]) (by decide) (World.ownsRow_nil w w.heap.size 34 32) h.sl (oneB _) (by unfold maxLen; omega) (by omega) (Nat.le_refl _)
  rw [List.nil_append, Nat.zero_add] at ho1
  obtain ⟨m, hm⟩ : ∃ m, markH = m := ⟨_, rfl⟩
  have hml : m.length = 32 := by rw [← hm]; rfl
  have hm32 : H32 [m] := by intro x hx; rw [List.mem_singleton.1 hx]; exact hml
  have B1 := (Below.refl w.heap.size w).grown hg1 (Nat.le_refl _) (fun k hk => by cases hk)
  have hbA : Below w1.heap.size w1 (w1.alloc (.cells (hcells [m]).toArray 34)) := (Below.refl _ _).alloc (Nat.le_refl _) _
  have ho2 := owns_step ho1 hbA
  have B2 := B1.trans (hbA.mono B1.size)
  obtain ⟨v3, w3, hr3, ho3, hg3, -⟩ := append_slv (ty := 37) Try.underlying37 info26z (by simp [Value.cells]) (by decide) ho2 (Hs.lit w1 [m] hm32 (by simp) 1 rfl).sl (oneB _) (by unfold maxLen; omega) (by omega) B2.size
  rw [← hcells_append] at ho3
  have B3 := B2.grown hg3 B2.size (fun k hk => (ho2.lt k hk).1)
  obtain ⟨A3, c3, rfl, hs3⟩ := Hs.of_owns ho3 (by rw [List.length_append, hlen]; rfl) (h.all.append hm32)
  have hr3' := hs3.sl.room
  have hs4 : Hs w3 (w.heap.size ≤ ·) A3 (n + 1) c3 (hs ++ [m]) := hs3.weak fun _ _ hx => hx.1
  rw [hm]
  have Hr1 := Lib.hid hr1
  have Hr3 := Lib.hid hr3
  have Hm := Lib.hid hm
  have Ho3 := Lib.hid ho3
  clear hr1 hr3 ho1 ho2 ho3 hg1 hg3 B1 B2 hbA h hm hs3
  go_enter Try.func40, Try.ntmps40
  go_wp2_with (first
    | ((with_reducible show wpList _ _ _ (⟨some 4, .call _, _, _, _, _⟩ :: _) _ _); refine wpList_run rfl v1 w1 (run_append_op (.const (.slice none 0 0)) (.tmp 3) 37 rfl _ _ rfl rfl Hr1.out) ?_; simp only [Act.put])
    | ((with_reducible show wpList _ _ _ (⟨some 5, .build _ _, _, _, _, _⟩ :: _) _ _); refine wpList_run0 rfl (.agg (m.map B).toArray) (by rw [← Hm.out]; kernel_rfl) ?_; simp only [Act.put])
    | ((with_reducible show wpList _ _ _ (⟨some 6, .buildSlice _ _ _, _, _, _, _⟩ :: _) _ _); refine wpList_run rfl _ _ (run_lit_op [m] hm32 (by simp) (by simp) 1 _ rfl (by simp [Act.eval]) rfl _) ?_; simp only [Act.put])
    | ((with_reducible show wpList _ _ _ (⟨some 7, .call _, _, _, _, _⟩ :: _) _ _); refine wpList_run rfl (.slice A3 (n + 1) c3) w3 (run_append_op (.tmp 4) (.tmp 6) 37 rfl _ _ rfl rfl Hr3.out) ?_; simp only [Act.put])
    | ((with_reducible show wpList _ _ _ (⟨some 10, .slice _ _ _ _ _, _, _, _, _⟩ :: _) _ _); refine wpList_run0 rfl (.slice A3 n c3) (run_slice_op_hi (.tmp 7) (.tmp 9) rfl A3 (n + 1) c3 n rfl rfl (by omega) _) ?_; simp only [Act.put]))
  go_ret
  exact ⟨A3, c3, rfl, Ho3.out, hs4, B3⟩
theorem lent12_any (hs : List (List UInt8)) (A : Option Addr) (n c : Nat) (w : World) (h : Hs w (fun _ => True) A n c hs) (hmax : n ≤ 1099511627776) :
    Calls Try.prog 40 #[.slice A n c] w fun e w' => ∃ A' c', e = .returned (.slice A' n c') ∧ Hs w' (w.heap.size ≤ ·) A' (n + 1) c' (hs ++ [markH]) ∧ Below w.heap.size w w' :=
  (lent12_own hs A n c w h hmax).mono fun _ _ ⟨A', c', h1, _, h2, h3⟩ => ⟨A', c', h1, h2, h3⟩

set_option maxHeartbeats 1000000 in
set_option maxRecDepth 100000 in
theorem kept12_any (hs : List (List UInt8)) (A A' : Option Addr) (n c c' : Nat) (w : World) (h : Hs w (fun _ => True) A (n + 1) c (hs ++ [markH])) (hb : Hs w (fun _ => True) A' n c' hs) (hmax : n ≤ 1099511627776) :
    Calls Try.prog 45 #[.slice A n c, .slice A' n c'] w fun e w' => e = .returned (.bool true) ∧ Below w.heap.size w w' := by
  have hroom := h.sl.room
  have hmx := h.sl.max
  unfold maxLen at hmx
  have hr2 := hb.sl.room
  have hmx2 := hb.sl.max
  unfold maxLen at hmx2
  have ht := h.take n (by omega)
  rw [show (hs ++ [markH]).take n = hs by rw [← hb.len]; simp] at ht
  have hsame := sameh_any hs A A' n c c' w ht hb (by omega)
  obtain ⟨b, o, rfl, -, -, -⟩ := h.at_ (by omega)
  have hld : ∀ W, Below w.heap.size w W → (Instr.loadAt 34 (.pointer (some ⟨b, o + n * 32, none⟩))).run Try.prog W = .ok (.agg (markH.map B).toArray) W := fun W hW => by
    obtain ⟨b', o', hA, -, -, hat⟩ := (h.step hW).at_ (by omega)
    cases hA
    have := hat n (by omega)
    rw [show (hs ++ [markH]).getD n [] = markH by rw [← hb.len]; simp [List.getD_eq_getElem?_getD]] at this
    exact this
  obtain ⟨m, hm⟩ : ∃ m, markH = m := ⟨_, rfl⟩
  have hml : m.length = 32 := by rw [← hm]; rfl
  rw [hm] at hld
  have hw1 : IntKind.i64.wrap ((n : Int) + 1) = (n : Int) + 1 := IntWalk.i64_in _ (by omega)
  have hnn : (n : Int) < (n : Int) + 1 := by omega
  have Hld := Lib.hid hld
  have Hm := Lib.hid hm
  have Hsame := Lib.hid hsame
  clear hld hm hsame ht h hb
  go_enter Try.func45, Try.ntmps45
  go_wp2_with fail
  refine Hsame.out.mono ?_
  rintro e w1 ⟨rfl, hb1⟩
  go_wp2_with (first
    | ((with_reducible show wpList _ _ _ (⟨some 13, .slice _ _ _ _ _, _, _, _, _⟩ :: _) _ _); refine wpList_runG (by kernel_rfl) (.slice (some ⟨b, o, none⟩) (n + 1) c) _ (run_slice_op_hi (.tmp 9) (.tmp 12) rfl (some ⟨b, o, none⟩) n c (n + 1) rfl rfl (by omega) _) ?_; simp only [Act.put])
    | ((with_reducible show wpList _ _ _ (⟨some 17, .load _ _, _, _, _, _⟩ :: _) _ _); refine wpList_runG (by kernel_rfl) (.agg (m.map B).toArray) _ (run_load_op 34 (.tmp 16) rfl b (o + n * 32) rfl _ (Hld.out _ hb1)) ?_; simp only [Act.put])
    | ((with_reducible show wpList _ _ _ (⟨some 18, .build _ _, _, _, _, _⟩ :: _) _ _); refine wpList_runG (by kernel_rfl) (.agg (m.map B).toArray) w1 (by rw [← Hm.out]; kernel_rfl) ?_; simp only [Act.put])
    | ((with_reducible show wpList _ _ _ (⟨some 19, .binOp _ _ _ _ _, _, _, _, _⟩ :: _) _ _); refine wpList_runG (by kernel_rfl) (.bool true) _ (run_eql26_t (.tmp 17) (.tmp 18) _ m m rfl rfl rfl hml hml rfl _) ?_; simp only [Act.put]))
  go_ret
  exact ⟨rfl, hb1⟩
end Go.Proofs.Ytgcbdnoniikboaa
/- Lent hashes and their source, while a law of layer 12 goes on. -/
namespace Go.Proofs.Ytgcbdnoniikboaa
open Go Go.RowKit

/-- the lent hashes, while the law goes on -/
structure CpL (w : World) (hs : List (List UInt8)) (A : Option Addr) (n c : Nat) (A' : Option Addr) (c' N : Nat) (W : World) : Prop where
  src : Hs W (· < w.heap.size) A n c hs
  lent : Hs W (fun b => w.heap.size ≤ b ∧ b < N) A' (n + 1) c' (hs ++ [markH])
  le : N ≤ W.heap.size
  ge : w.heap.size ≤ N
  bel : Below w.heap.size w W
section
variable {w W W' : World} {hs : List (List UInt8)} {A A' : Option Addr} {n c c' N : Nat}
theorem CpL.step (h : CpL w hs A n c A' c' N W) (hb : Below W.heap.size W W') : CpL w hs A n c A' c' N W' :=
  ⟨h.src.step hb, h.lent.step hb, Nat.le_trans h.le hb.size, h.ge, h.bel.trans (hb.mono h.bel.size)⟩
theorem CpL.setRow (h : CpL w hs A n c A' c' N W) (g : Nat) (cs : Array Value) (hg : N ≤ g) : CpL w hs A n c A' c' N (W.setRow g cs) :=
  ⟨h.src.setRow g cs (by have := h.ge; omega), h.lent.setRow g cs (by omega), by simpa using h.le, h.ge, below_setRow h.bel (Nat.le_trans h.ge hg) _⟩
theorem CpL.far {k : Nat} (h : CpL w hs A n c A' c' N W) (hb : Below k W W') (hk : N ≤ k) : CpL w hs A n c A' c' N W' :=
  ⟨⟨h.src.sl.below hb (fun b _ hx => by have : b < w.heap.size := hx; have := h.ge; omega), h.src.len, h.src.all⟩, ⟨h.lent.sl.below hb (fun _ _ hx => Nat.lt_of_lt_of_le hx.2 hk), h.lent.len, h.lent.all⟩, Nat.le_trans h.le hb.size, h.ge, h.bel.trans (hb.mono (Nat.le_trans h.ge hk))⟩
theorem CpL.mine (h : CpL w hs A n c A' c' N W) : Hs W (fun _ => True) A' n c' hs := by
  have := (h.lent.take n (by omega)).weak (Y := fun _ => True) fun _ _ _ => trivial
  rwa [show (hs ++ [markH]).take n = hs by rw [← h.src.len]; simp] at this
theorem CpL.yours (h : CpL w hs A n c A' c' N W) : Hs W (fun _ => True) A n c hs := h.src.weak fun _ _ _ => trivial
theorem CpL.kept (h : CpL w hs A n c A' c' N W) : Hs W (fun _ => True) A' (n + 1) c' (hs ++ [markH]) := h.lent.weak fun _ _ _ => trivial
end
end Go.Proofs.Ytgcbdnoniikboaa
/- cons.Size; notaryref12.Prove. -/
namespace Go.Proofs.Ytgcbdnoniikboaa
open Go Go.RowKit

set_option maxRecDepth 100000 in
theorem csize_any (m n : Int) (w : World) (hn : n ≤ 9223372036854775807) :
    Calls Try.prog 42 #[.int .i64 m, .int .i64 n] w fun e w' => e = .returned (.tuple #[.int .i64 ((stepsA m n).1.length : Int), .int .i64 (stepsA m n).2]) ∧ Below w.heap.size w w' := by
  have hst := tstepsA_any m n w hn
  obtain ⟨⟨ls, e0⟩, hse⟩ : ∃ s, stepsA m n = s := ⟨_, rfl⟩
  rw [hse] at hst ⊢
  dsimp only at hst ⊢
  have Hst := Lib.hid hst
  clear hst hse
  go_enter Try.func42, Try.ntmps42
  go_wp2_with fail
  refine Hst.out.mono ?_
  rintro e w1 ⟨vs, rfl, hP⟩
  obtain ⟨As, cs, rfl, -⟩ := Rs.of_owns hP.own (length_natR ls)
  have hb1 := hP.bel
  clear hP
  go_wp2_with fail
  refine bodyPost_ret (results_tmp2 rfl _ _ _) rfl ⟨rfl, hb1⟩

structure RpI (w : World) (hs : List (List UInt8)) (A : Option Addr) (n c : Nat) (As : Option Addr) (ns cs b1 : Nat) (ls : List (Nat × Nat)) (q : List (List UInt8)) (v : Value) (W : World) : Prop where
  src : Hs W (· < w.heap.size) A n c hs
  st : Rs W (· < b1) As ns cs (natR ls)
  own : W.ownsRow b1 34 32 v q.length (hcells q)
  bel : Below w.heap.size w W
  le : w.heap.size ≤ b1
  sz : b1 ≤ W.heap.size

set_option maxHeartbeats 2000000 in
set_option maxRecDepth 100000 in
theorem rprove_any (hs : List (List UInt8)) (A : Option Addr) (n c : Nat) (w : World) (m : Int) (h : Hs w (fun _ => True) A n c hs) (hn : n ≤ 1099511627776) :
    Calls Try.prog 43 #[.slice A n c, .int .i64 m] w fun e w' => ∃ v, e = .returned (.tuple #[v, .int .i64 (stepsA m hs.length).2]) ∧ w'.ownsRow w.heap.size 34 32 v (rootsS hs m).length (hcells (rootsS hs m)) ∧ Below w.heap.size w w' := by
  have hlen := h.len
  have h32 := h.all
  have hroom := h.sl.room
  have hmx := h.sl.max
  unfold maxLen at hmx
  have hst := rstepsA_any m (n : Int) w (by omega)
  have heach := stepsA_each m n
  obtain ⟨⟨ls, e0⟩, hse⟩ : ∃ s, stepsA m (n : Int) = s := ⟨_, rfl⟩
  rw [hse] at hst heach
  dsimp only at hst heach
  have hlm : ls.length ≤ 64 := by have := stepsA_len m (n : Int) (by omega); rw [hse] at this; exact this
  have Hlen := Lib.hid hlen
  have H32h := Lib.hid h32
  have Hst := Lib.hid hst
  have Heach := Lib.hid heach
  rw [hlen, hse]
  dsimp only
  by_cases he0 : e0 = 0
  · subst he0
    have hrs : rootsS hs m = rootsL hs ls := by unfold rootsS; rw [hlen, hse]
    have hlr : (rootsL hs ls).length = ls.length := by simp [rootsL]
    rw [hrs]
    have Hlr := Lib.hid hlr
    clear hlen h32 hst hlr hrs hse heach
    go_enter Try.func43, Try.ntmps43
    go_wp2_with fail
    refine Hst.out.mono ?_
    rintro e w1 ⟨vs, rfl, hP⟩
    obtain ⟨As, cs, rfl, hrs1⟩ := Rs.of_owns hP.own (length_natR ls)
    have hC1 : RpI w hs A n c As ls.length cs w1.heap.size ls [] (.slice none 0 0) w1 := ⟨(h.weak fun b hb _ => hb).step hP.bel, hrs1.weak fun b hb _ => hb, World.ownsRow_nil _ _ _ _, hP.bel, hP.bel.size, Nat.le_refl _⟩
    have hroom1 := hrs1.sl.room
    have hmx1 := hrs1.sl.max
    unfold maxLen at hmx1
    clear h hP hrs1
    generalize w1.heap.size = b1 at *
    go_wp2_with fail
    go_loopw [8, 9] (fun v i wr => ∃ k : Nat, k ≤ ls.length ∧ i = .int .i64 k ∧ RpI w hs A n c As ls.length cs b1 ls ((rootsL hs ls).take k) v wr) (fun _ i _ => ls.length - (intOf i).toNat)
    case atStart => exact ⟨0, Nat.zero_le _, rfl, hC1⟩
    case round =>
      clear hC1
      obtain ⟨k, hk, rfl, hC⟩ := hrel
      by_cases hkn : k < ls.length
      · obtain ⟨b, o, rfl, -, -, hat⟩ := hC.st.at_ (by omega)
        obtain ⟨h1, h2⟩ := Heach.out _ (List.getElem_mem hkn)
        have hx : (natR ls).getD k (0, 0) = (((ls[k]).1 : Int), ((ls[k]).2 : Int)) := by
          unfold natR
          rw [List.getD_eq_getElem?_getD, List.getElem?_map, List.getElem?_eq_getElem hkn]; rfl
        have htk := take_snocH (rootsL hs ls) k (by rw [Hlr.out]; exact hkn)
        have hz : (rootsL hs ls).getD k [] = stretchL hs (ls[k]).1 (ls[k]).2 := by
          unfold rootsL
          rw [List.getD_eq_getElem?_getD, List.getElem?_map, List.getElem?_eq_getElem hkn]; rfl
        have hlenq : ((rootsL hs ls).take k).length ≤ 64 := by rw [List.length_take, Hlr.out]; omega
        generalize (ls[k]).1 = x1 at *
        generalize (ls[k]).2 = x2 at *
        generalize hqq : (rootsL hs ls).take k = q at *
        rw [hz] at htk
        obtain ⟨z, hz'⟩ : ∃ z, stretchL hs x1 x2 = z := ⟨_, rfl⟩
        have hzl : z.length = 32 := by rw [← hz']; exact length_stretchL hs x1 x2 H32h.out
        rw [hz'] at htk
        have hS : Below b1 wr wr.drew := (Below.refl _ _).drew
        have d0 : ∀ s : InC (fun W => Below b1 wr W), s.W.cell? ⟨b, o + k * 2, none⟩ = some (.int .i64 (x1 : Int)) := fun s => by
          obtain ⟨b', o', hA, -, -, h⟩ := (show Rs s.W (· < b1) (some ⟨b, o, none⟩) ls.length cs (natR ls) from ⟨hC.st.sl.below s.ok fun _ _ h => h, hC.st.len⟩).at_ (by omega)
          cases hA
          rw [(h k hkn).1, hx]
        have d1 : ∀ s : InC (fun W => Below b1 wr W), s.W.cell? ⟨b, o + k * 2 + 1, none⟩ = some (.int .i64 (x2 : Int)) := fun s => by
          obtain ⟨b', o', hA, -, -, h⟩ := (show Rs s.W (· < b1) (some ⟨b, o, none⟩) ls.length cs (natR ls) from ⟨hC.st.sl.below s.ok fun _ _ h => h, hC.st.len⟩).at_ (by omega)
          cases hA
          rw [(h k hkn).2, hx]
        have hsub : Hs wr.drew (fun _ => True) (if c = x1 then A else A.map (·.add (x1 * 32))) (x2 - x1) (c - x1) ((hs.take x2).drop x1) := (((hC.src.take x2 (by omega)).drop x1 (by omega)).weak fun _ _ _ => trivial).drew
        have hrof := rof_any _ _ _ _ _ hsub (by omega)
        rw [show rootL ((hs.take x2).drop x1) = z by rw [List.drop_take]; exact hz'] at hrof
        generalize hAs : (if c = x1 then A else A.map (·.add (x1 * 32))) = Ax at hrof
        have HAs := Lib.hid hAs
        have Htk := Lib.hid htk
        have Hzl := Lib.hid hzl
        clear hAs htk hzl hz hz' hx hat hsub hqq
        go_upto_region 8 with fail
        have hC0 : RpI w hs A n c (some ⟨b, o, none⟩) ls.length cs b1 ls q _ wr.drew := ⟨hC.src.drew, hC.st.drew, owns_step hC.own (Below.refl _ _).drew, hC.bel.drew, hC.le, hC.sz⟩
        clear hC
        refine wp_region_mix (fun W => Below b1 wr W) [(0, true), (1, true), (2, true), (3, true), (4, true), (5, true), (6, true), (7, true), (8, true), (9, true), (10, true), (11, true), (12, true), (13, false), (14, false), (15, false), (16, true)] (by kernel_rfl) (by kernel_rfl) hS fun _ => ?_
        simp only [List.map_cons, List.map_nil, Array.getD_eq_getD_getElem?, List.getElem?_toArray, List.getElem?_cons_succ, List.getElem?_cons_zero, Option.getD_some]
        generalize wr.drew = W0 at hS hrof hC0 ⊢
        refine wpMix_s (fun K hK => ?_)
        go_simp
        refine hK _ ?_
        clear hK K
        refine wpMix_s (fun K hK => ?_)
        go_simp
        refine hK _ ?_
        clear hK K
        refine wpMix_s (fun K hK => ?_)
        go_simp
        refine hK _ ?_
        clear hK K
        refine wpMix_s (fun K hK => ?_)
        go_simp
        refine hK _ ?_
        clear hK K
        refine wpMix_s (fun K hK => ?_)
        go_simp
        refine hK _ ?_
        clear hK K
        refine wpMix_s (fun K hK => ?_)
        go_simp
        refine hK _ ?_
        clear hK K
        refine wpMix_s (fun K hK => ?_)
        go_simp
        refine hK _ ?_
        clear hK K
        refine wpMix_s (fun K hK => ?_)
        go_simp
        refine hK _ ?_
        clear hK K
        refine wpMix_s (fun K hK => ?_)
        go_simp
        refine hK _ ?_
        clear hK K
        refine wpMix_s (fun K hK => ?_)
        go_simp
        refine hK _ ?_
        clear hK K
        refine wpMix_s (fun K hK => ?_)
        go_simp
        refine hK _ ?_
        clear hK K
        refine wpMix_s (fun K hK => ?_)
        go_simp
        refine hK _ ?_
        clear hK K
        refine wpMix_v (by kernel_rfl) (.slice Ax (x2 - x1) (c - x1)) (fun s => by rw [← HAs.out]; exact run_slice_op_both (.tmp 27) (.tmp 32) (.tmp 37) rfl A n c x1 x2 rfl rfl rfl (by omega) (by omega) s.W) ?_
        simp only [Act.put]
        refine wpMix_c (fun K hK => ?_) hS
        go_simp
        refine hrof.mono ?_
        rintro e W1 ⟨rfl, hb'⟩
        refine hK _ _ ?_
        clear hK K
        have hC1 : RpI w hs A n c (some ⟨b, o, none⟩) ls.length cs b1 ls q _ W1 := ⟨hC0.src.step hb', hC0.st.step hb', owns_step hC0.own hb', hC0.bel.trans (hb'.mono hC0.bel.size), hC0.le, Nat.le_trans hC0.sz hb'.size⟩
        replace hS := hS.trans (hb'.mono hC0.sz)
        refine ⟨hS, ?_⟩
        clear hC0 hb'
        obtain ⟨v', W9, hr9, hv9, hg9, -⟩ := append_hR hC1.own z Hzl.out (by omega) hC1.sz
        have hb9 : Below b1 W1 W9 := (Below.refl _ _).grown hg9 hC1.sz (fun r e => (hC1.own.lt r e).1)
        have hC9 : RpI w hs A n c (some ⟨b, o, none⟩) ls.length cs b1 ls (q ++ [z]) v' W9 := ⟨⟨hC1.src.sl.below hb9 (fun _ _ h => Nat.lt_of_lt_of_le h hC1.le), hC1.src.len, hC1.src.all⟩, ⟨hC1.st.sl.below hb9 (fun _ _ h => h), hC1.st.len⟩, hv9, hC1.bel.trans (hb9.mono hC1.le), hC1.le, Nat.le_trans hC1.sz hb9.size⟩
        refine wpMix_run (by kernel_rfl) (.slice (some ⟨W1.heap.size, 0, none⟩) 1 1) (W1.alloc (.cells (hcells [z]).toArray 34)) (run_litH_op z Hzl.out (.tmp 39) rfl rfl _) (hS.alloc (by have := hC1.sz; omega) _) ?_
        simp only [Act.put]
        refine wpMix_run (by kernel_rfl) (v') (W9) (run_append_op (.tmp 26) (.tmp 40) 37 rfl _ _ rfl rfl hr9) (hS.trans hb9) ?_
        simp only [Act.put]
        refine wpMix_s (fun K hK => ?_)
        go_simp
        refine hK _ ?_
        clear hK K
        refine wpMix_nil ?_
        intro _
        clear hS hC1 hr9 hv9 hg9 hb9 d0 d1
        go_wp2_with fail
        refine ⟨⟨k + 1, by omega, by go_num, by rw [Htk.out]; exact hC9⟩, by simp [intOf]; omega⟩
      · obtain rfl : k = ls.length := by omega
        go_wp2_with fail
        rw [List.take_of_length_le (by rw [Hlr.out]; exact Nat.le_refl _)] at hC
        refine bodyPost_ret (results_tmp2 rfl _ _ _) rfl ⟨_, rfl, owns_le hC.own hC.le, hC.bel⟩
  · have hb0 : rootsS hs m = [] := rootsS_bad hs m (by rw [hlen, hse]; exact he0)
    rw [hb0]
    have hne : (e0 != 0) = true := by simpa using he0
    clear hlen h32 hst hse he0 hb0
    go_enter Try.func43, Try.ntmps43
    go_wp2_with fail
    refine Hst.out.mono ?_
    rintro e w1 ⟨vs, rfl, hP⟩
    obtain ⟨As, cs, rfl, -⟩ := Rs.of_owns hP.own (length_natR ls)
    have hb1 := hP.bel
    clear hP
    go_wp2_with fail
    refine bodyPost_ret (results_tmp2 rfl _ _ _) rfl ⟨_, rfl, World.ownsRow_nil _ _ _ _, hb1⟩
end Go.Proofs.Ytgcbdnoniikboaa
