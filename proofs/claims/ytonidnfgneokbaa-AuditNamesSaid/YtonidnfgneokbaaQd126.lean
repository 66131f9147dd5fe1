/- Slices of pairs; tree.said. -/
import Derived.Test.YtonidnfgneokbaaQd125
import Derived.Test.YtonidnfgneokbaaQd107
namespace Go.Proofs.Ytonidnfgneokbaa
open Go Go.RowKit Go.Shelf
attribute [local go_sem] Oper.semAt_some

/-- elements of s cells, side by side: one is found -/
theorem flatl_at {s : Nat} : ∀ (L : List (List Value)) (_ : ∀ cs ∈ L, cs.length = s) (k j : Nat) (v : Value) (_ : k < L.length) (_ : (L.getD k [])[j]? = some v), L.flatten[k * s + j]? = some v
  | cs :: L, hL, 0, j, v, _, h => by
    have h : cs[j]? = some v := h
    rw [List.flatten_cons, Nat.zero_mul, Nat.zero_add, List.getElem?_append_left (List.getElem?_eq_some_iff.1 h).1]
    exact h
  | cs :: L, hL, k + 1, j, v, hk, h => by
    have hc := hL cs (by simp)
    have := flatl_at L (fun x hx => hL x (by simp [hx])) k j v (by simpa using hk) h
    rw [List.flatten_cons, List.getElem?_append_right (by rw [hc, Nat.succ_mul]; omega), hc, show (k + 1) * s + j - s = k * s + j by rw [Nat.succ_mul]; omega]
    exact this
/-- one is put in the place of another -/
theorem flatl_set {s : Nat} : ∀ (L : List (List Value)) (_ : ∀ cs ∈ L, cs.length = s) (k : Nat) (x : List Value) (_ : k < L.length), L.flatten.take (k * s) ++ x ++ L.flatten.drop (k * s + s) = (L.set k x).flatten
  | cs :: L, hL, 0, x, _ => by
    have hc := hL cs (by simp)
    rw [List.flatten_cons, Nat.zero_mul, Nat.zero_add, List.take_zero, List.nil_append, List.drop_left' hc, List.set_cons_zero, List.flatten_cons]
  | cs :: L, hL, k + 1, x, hk => by
    have hc := hL cs (by simp)
    have := flatl_set L (fun x hx => hL x (by simp [hx])) k x (by simpa using hk)
    rw [List.set_cons_succ, List.flatten_cons, List.flatten_cons, ← this, show (k + 1) * s = s + k * s by rw [Nat.succ_mul]; omega, show s + k * s + s = s + (k * s + s) by omega]
    rw [← hc, List.take_length_add_append, List.drop_length_add_append, hc]
    simp [List.append_assoc]
abbrev pcell (q : PairV) : List Value := (q.1 ++ q.2).map B
def prcells (qs : List PairV) : List Value := (qs.map pcell).flatten
def Q32 (qs : List PairV) : Prop := ∀ q ∈ qs, q.1.length = 32 ∧ q.2.length = 32
abbrev pairD : PairV := ([], [])
theorem Q32.cell {qs : List PairV} (h : Q32 qs) : ∀ cs ∈ qs.map pcell, cs.length = 64 := fun cs hc => by
  obtain ⟨q, hq, rfl⟩ := List.mem_map.1 hc
  obtain ⟨h1, h2⟩ := h q hq
  simp [h1, h2]
theorem Q32.getD {qs : List PairV} (h : Q32 qs) (k : Nat) (hk : k < qs.length) : (qs.getD k pairD).1.length = 32 ∧ (qs.getD k pairD).2.length = 32 := by
  rw [List.getD_eq_getElem?_getD, List.getElem?_eq_getElem hk]
  exact h _ (List.getElem_mem hk)
theorem Q32.set {qs : List PairV} (h : Q32 qs) (k : Nat) {q : PairV} (hq : q.1.length = 32 ∧ q.2.length = 32) : Q32 (qs.set k q) := fun x hx => by
  rcases List.mem_or_eq_of_mem_set hx with h1 | rfl
  · exact h x h1
  · exact hq
theorem prcells_len (qs : List PairV) (h : Q32 qs) : (prcells qs).length = qs.length * 64 := by
  unfold prcells
  rw [flat_len _ h.cell, List.length_map]
theorem prcells_set (qs : List PairV) (h : Q32 qs) (k : Nat) (q : PairV) (hk : k < qs.length) : (prcells qs).take (k * 64) ++ pcell q ++ (prcells qs).drop (k * 64 + 64) = prcells (qs.set k q) := by
  unfold prcells
  rw [flatl_set _ h.cell k (pcell q) (by rw [List.length_map]; exact hk), List.map_set]
structure Prs (w : World) (X : Nat → Prop) (A : Option Addr) (n c : Nat) (qs : List PairV) : Prop where
  sl : SlV w X A n c 64 (prcells qs)
  len : qs.length = n
  all : Q32 qs
section
variable {w w' : World} {X Y : Nat → Prop} {A : Option Addr} {n c : Nat} {qs : List PairV}
theorem Prs.weak (h : Prs w X A n c qs) (hX : ∀ b, b < w.heap.size → X b → Y b) : Prs w Y A n c qs := ⟨h.sl.weak hX, h.len, h.all⟩
theorem Prs.step (h : Prs w X A n c qs) (hb : Below w.heap.size w w') : Prs w' X A n c qs := ⟨h.sl.step hb, h.len, h.all⟩
theorem Prs.of_blk {g : Nat} (h : Blk w g 139 (prcells qs).toArray) (hl : qs.length = n) (ha : Q32 qs) (hm : n ≤ maxLen) (hX : X g) : Prs w X (some ⟨g, 0, none⟩) n n qs :=
  ⟨SlV.of_blk h (by rw [prcells_len qs ha, hl]) hm hX, hl, ha⟩
theorem Prs.at_ (h : Prs w X A n c qs) (hn : 0 < n) : ∃ b o, A = some ⟨b, o, none⟩ ∧ b < w.heap.size ∧ X b := by
  obtain ⟨b, o, h1, h2, h3, -⟩ := h.sl.at_ hn (by decide)
  exact ⟨b, o, h1, h2, h3⟩
theorem Prs.load (h : Prs w X A n c qs) {b o : Nat} (hA : A = some ⟨b, o, none⟩) (i : Nat) (hi : i < n) : (Instr.loadAt 139 (.pointer (some ⟨b, o + i * 64, none⟩))).run Try.prog w = .ok (.agg (pcell (qs.getD i pairD)).toArray) w := by
  obtain ⟨b', o', e, -, -, h4⟩ := h.sl.at_ (by omega) (by decide)
  rw [hA] at e
  cases e
  obtain ⟨l1, l2⟩ := h.all.getD i (by rw [h.len]; exact hi)
  refine run_load_agg (pairAgg _) (pairSize _) b (o + i * 64) (pcell (qs.getD i pairD)) (by rw [List.length_map, List.length_append, l1, l2]) fun j u hu => ?_
  rw [Nat.add_assoc]
  refine h4 _ u (flatl_at _ h.all.cell i j u (by rw [List.length_map, h.len]; exact hi) ?_)
  rw [List.getD_eq_getElem?_getD, List.getElem?_map, List.getElem?_eq_getElem (l := qs) (by rw [h.len]; exact hi)]
  rw [List.getD_eq_getElem?_getD, List.getElem?_eq_getElem (l := qs) (by rw [h.len]; exact hi)] at hu
  exact hu
end
abbrev pairZ : PairV := (List.replicate 32 0, List.replicate 32 0)
theorem prcells_zero : ∀ m : Nat, prcells (List.replicate m pairZ) = (List.replicate (m * 64) (0 : UInt8)).map B
  | 0 => rfl
  | m + 1 => by
    have := prcells_zero m
    unfold prcells at this ⊢
    rw [List.replicate_succ, List.map_cons, List.flatten_cons, this, show (m + 1) * 64 = 64 + m * 64 by omega, ← List.replicate_append_replicate, List.map_append]
    rfl
theorem run_make_pair (w : World) (m : Nat) (hm : m ≤ 1099511627776) :
    (Instr.makeSlice 128 (.int .i64 (m : Int)) (.int .i64 (m : Int))).run Try.prog w = .ok (.slice (some ⟨w.heap.size, 0, none⟩) m m) (w.alloc (.cells (prcells (List.replicate m pairZ)).toArray 139)) := by
  obtain ⟨i, hi⟩ : ∃ i, Try.prog.info? 139 = some i := Option.isSome_iff_exists.1 (by kernel_rfl)
  have hz : i.zero = some (.agg ((List.replicate 64 (0 : UInt8)).map B).toArray) := by
    have : (Try.prog.info? 139).bind (·.zero) = some (.agg ((List.replicate 64 (0 : UInt8)).map B).toArray) := by kernel_rfl
    rw [hi] at this; exact this
  have hs : i.size = 64 := by
    have : (Try.prog.info? 139).map (·.size) = some 64 := by kernel_rfl
    rw [hi] at this; exact Option.some.inj this
  have hby : i.bytes = 64 := by
    have : (Try.prog.info? 139).map (·.bytes) = some 64 := by kernel_rfl
    rw [hi] at this; exact Option.some.inj this
  have := run_make (P := Try.prog) w 128 139 i _ Try.underlying128 hi hz .i64 .i64 m m (by omega) (by omega) (by rw [hby]; omega) (by omega)
  rw [this, hs, Int.toNat_natCast, prcells_zero]
  have hm : madeCells (Value.agg ((List.replicate 64 (0 : UInt8)).map B).toArray).cells (m * 64) = ((List.replicate (m * 64) (0 : UInt8)).map B).toArray := by
    apply Array.ext
    · simp [madeCells]
    · intro k h1 h2
      have hz : ∀ q, q < 64 → (((List.replicate 64 (0 : UInt8)).map B).toArray)[q]! = B 0 := fun q hq => by
        rw [getElem!_pos _ _ (by simp only [List.size_toArray, List.length_map, List.length_replicate]; exact hq), List.getElem_toArray, List.getElem_map, List.getElem_replicate]
      simp only [madeCells, Array.getElem_map, Array.getElem_range, List.getElem_toArray, List.getElem_map, List.getElem_replicate]
      exact hz _ (by rw [show (Value.agg ((List.replicate 64 (0 : UInt8)).map B).toArray).cells = ((List.replicate 64 (0 : UInt8)).map B).toArray from rfl]; simp; omega)
  rw [hm]
theorem ret_tmp_hash {fn : Func} {u p : Tmp} {tmps : Array Value} {W : World} {g : Nat} {l : List UInt8} (h : fn.results = #[.tmp u, .cell p 25]) (hp : tmps.getD p undef = .pointer (some ⟨g, 0, none⟩)) (k : HV W g l) : (results fn tmps).run Try.prog W = .ok (.tuple #[tmps.getD u undef, .agg (l.map B).toArray]) W := by
  have hp' : tmps[p]?.getD undef = .pointer (some ⟨g, 0, none⟩) := by simpa using hp
  simp [results, h, hp', asAddr, run_loadVar_row W g 25 25 (l.map B).toArray (0, 0) _ k.blk Try.underlying25 rfl (by rw [show (l.map B).toArray.size = 32 by simp [k.len]]; exact info26)]
/-- a pair, in its box -/
structure PV (w : World) (g : Nat) (z : List UInt8) : Prop where
  blk : Blk w g 139 (z.map B).toArray
  len : z.length = 64
theorem PV.step {w W : World} {g : Nat} {l : List UInt8} (h : PV w g l) (hb : Below w.heap.size w W) : PV W g l := ⟨h.blk.below hb h.blk.lt, h.len⟩
theorem PV.load {w : World} {g : Nat} {z : List UInt8} (k : PV w g z) : (Instr.loadAt 139 (.pointer (some ⟨g, 0, none⟩))).run Try.prog w = .ok (.agg (z.map B).toArray) w := pair_load k.len k.blk
theorem PV.apart_ {w : World} {g : Nat} {z : List UInt8} (k : PV w g z) (g' : Nat) (h : g ≠ g') (cs : Array Value) : PV (w.setRow g' cs) g z := ⟨k.blk.setRow_apart h cs, k.len⟩
section
variable {w : World} {ops : Array Oper} {rest : List Oper} {o : Oper} {a : Act} {Q : Exit → Act → World → Prop}
set_option maxRecDepth 100000 in
theorem wpList_prnew (hg1 : o.guard = none) (ho1 : o.op = .alloc 139)
    (h : ∀ W, PV W w.heap.size (List.replicate 64 0) → Below w.heap.size w W → wpList Try.prog ops Q rest (a.put o.dst (.pointer (some ⟨w.heap.size, 0, none⟩))) W) : wpList Try.prog ops Q (o :: rest) a w := by
  refine wpList_run hg1 (.pointer (some ⟨w.heap.size, 0, none⟩)) (w.alloc (.cells ((List.replicate 64 (0 : UInt8)).map B).toArray 139)) ?_ (h _ ⟨Blk.new w 139 _, rfl⟩ ((Below.refl _ _).alloc (Nat.le_refl _) _))
  unfold execOp
  rw [ho1]
  rfl
theorem wpList_prset {l l' : List UInt8} {g : Nat} (x y : Operand) (hg2 : o.guard = none) (ho2 : o.op = .store 139 x y) (k : PV w g l')
    (hx : a.eval x = .pointer (some ⟨g, 0, none⟩)) (hy : a.eval y = .agg (l.map B).toArray) (hl : l.length = 64)
    (h : ∀ W, PV W g l → Below g w W → wpList Try.prog ops Q rest (a.put o.dst undef) W) : wpList Try.prog ops Q (o :: rest) a w :=
  wpList_store_blk hg2 139 x y ho2 64 pairSize g (l.map B).toArray hx hy (by simp [hl]) (oneCell_B _) 139 _ k.blk (by simp [k.len])
    (h _ ⟨k.blk.setRow_ _, hl⟩ (below_setRow (Below.refl _ _) (Nat.le_refl _) _))
end

theorem run_make13_op {P : Program} {ρ : Operand → Value} {o : Oper} {w w' : World} {v : Value} {S : TypeId} (x y : Operand) (ho : o.op = .makeSlice S x y) (vx vy : Value) (hx : ρ x = vx) (hy : ρ y = vy) (h : (Instr.makeSlice S vx vy).run P w = .ok v w') : (execOp ρ o).run P w = .ok (.value v) w' := by
  unfold execOp
  simp only [ho, hx, hy, Sem.run_bind, Sem.run_pure, h, Result.andThen_ok]
/-- between two rounds of tree.said -/
structure SdI (w : World) (f : Nat) (H : Hf) (way : List Bool) (pf : List (List UInt8)) (a0 : List UInt8) (L go : Nat) (x : List UInt8) (i : Nat) (W : World) : Prop where
  k4 : Blk W w.heap.size 123 #[hval f]
  k6 : HV W (w.heap.size + 1) x
  k9 : HV W (w.heap.size + 1 + 1) (List.replicate 32 0)
  out : ∃ qs : List PairV, Blk W go 139 (prcells qs).toArray ∧ qs.length = L ∧ Q32 qs ∧ ∀ n, n < L → L ≤ n + i → qs.getD n pairD = prI H way pf a0 (L - 1 - n)
  bel : Below w.heap.size w W
  hgo : w.heap.size + 1 + 1 < go
section
variable {w W W' : World} {f : Nat} {H : Hf} {way : List Bool} {pf : List (List UInt8)} {a0 x : List UInt8} {L go i : Nat}
theorem SdI.step (h : SdI w f H way pf a0 L go x i W) (hb : Below W.heap.size W W') : SdI w f H way pf a0 L go x i W' :=
  ⟨h.k4.step hb, h.k6.step hb, h.k9.step hb, let ⟨qs, h1, h2⟩ := h.out; ⟨qs, h1.step hb, h2⟩, h.bel.trans (hb.mono h.bel.size), h.hgo⟩
theorem SdI.at_ (h : SdI w f H way pf a0 L go x i W) (y : List UInt8) (hy : y.length = 32) : SdI w f H way pf a0 L go y i (W.setRow (w.heap.size + 1) (y.map B).toArray) :=
  ⟨h.k4.setRow_apart (by omega) _, ⟨h.k6.blk.setRow_ _, hy⟩, ⟨h.k9.blk.setRow_apart (by omega) _, h.k9.len⟩, let ⟨qs, h1, h2⟩ := h.out; ⟨qs, h1.setRow_apart (by have := h.hgo; omega) _, h2⟩, below_setRow h.bel (by omega) _, h.hgo⟩
theorem SdI.put (h : SdI w f H way pf a0 L go x i W) (n : Nat) (hn : n + i + 1 = L) (z : List UInt8) (hz : (prI H way pf a0 i).1 ++ (prI H way pf a0 i).2 = z) (h1 : (prI H way pf a0 i).1.length = 32) (h2 : (prI H way pf a0 i).2.length = 32) :
    ∃ (cur : Array Value) (W6 : World), Blk W go 139 cur ∧ n * 64 + 64 ≤ cur.size ∧ W.setRow go (cur.toList.take (n * 64) ++ (z.map B).toArray.toList ++ cur.toList.drop (n * 64 + 64)).toArray = W6 ∧ SdI w f H way pf a0 L go x (i + 1) W6 ∧ ∀ g' z', g' ≠ go → PV W g' z' → PV W6 g' z' := by
  obtain ⟨qs, g1, g2, g3, g4⟩ := h.out
  have hgo := h.hgo
  refine ⟨_, _, g1, by simp only [List.size_toArray]; rw [prcells_len qs g3, g2]; omega, rfl, ⟨h.k4.setRow_apart (by omega) _, ⟨h.k6.blk.setRow_apart (by omega) _, h.k6.len⟩, ⟨h.k9.blk.setRow_apart (by omega) _, h.k9.len⟩, ⟨qs.set n (prI H way pf a0 i), ?_, by rw [List.length_set]; exact g2, g3.set n ⟨h1, h2⟩, fun m hm hmi => ?_⟩, below_setRow h.bel (by omega) _, hgo⟩, fun g' z' hne k => k.apart_ go hne _⟩
  · have e := prcells_set qs g3 n (prI H way pf a0 i) (by rw [g2]; omega)
    rw [show pcell (prI H way pf a0 i) = z.map B by rw [← hz]] at e
    rw [← e]
    exact g1.setRow_ _
  · by_cases hmn : m = n
    · subst hmn
      rw [getD_set_same _ _ _ _ (by rw [g2]; omega), show L - 1 - m = i by omega]
    · rw [getD_set_other _ _ _ _ _ (by omega)]
      exact g4 m hm (by omega)
end
set_option maxHeartbeats 8000000 in
set_option maxRecDepth 100000 in
theorem said_any {f : Nat} {H : Hf} (hF : HFn f H) (way : List Bool) (Aw : Option Addr) (L cw : Nat) (a0 : List UInt8) (pf : List (List UInt8)) (Ap : Option Addr) (cp : Nat) (w : World)
    (hw : SlV w (fun _ => True) Aw L cw 1 (bcells way)) (hwl : way.length = L) (ha0 : a0.length = 32) (hp : Hs w (fun _ => True) Ap L cp pf) (hL : L ≤ 1099511627776) :
    Calls Try.prog 88 #[.agg #[hval f], .slice Aw L cw, .agg (a0.map B).toArray, .slice Ap L cp] w fun e w' =>
      ∃ A c, e = .returned (.tuple #[.slice A L c, .agg ((atI H way pf a0 L).map B).toArray]) ∧ Prs w' (w.heap.size ≤ ·) A L c (saidL H way pf a0) ∧ Below w.heap.size w w' := by
  have hroom := hp.sl.room
  have hmx := hp.sl.max
  unfold maxLen at hmx
  have hroom2 := hw.room
  have hmx2 := hw.max
  unfold maxLen at hmx2
  obtain ⟨w0, hw0⟩ : ∃ w0, (w.alloc (.cells #[hval f] 123)).alloc (.cells (a0.map B).toArray 25) = w0 := ⟨_, rfl⟩
  have hb0 : Below w.heap.size w w0 := by rw [← hw0]; exact ((Below.refl _ _).alloc (Nat.le_refl _) _).alloc (by simp) _
  have k4 : Blk w0 w.heap.size 123 #[hval f] := by rw [← hw0]; exact (Blk.new _ _ _).alloc _
  have k6 : HV w0 (w.heap.size + 1) a0 := ⟨by rw [← hw0]; exact Blk.new' _ _ _ _ (by simp), ha0⟩
  have hs0 : w0.heap.size = w.heap.size + 1 + 1 := by rw [← hw0]; simp
  have hmk := fun W => run_make_pair W L hL
  have hpl := hp.len
  have h32 := hp.all
  have hlen := hF.len
  have Hmk := Lib.hid hmk
  have Hw0 := Lib.hid hw0
  have Hs0 := Lib.hid hs0
  have Hwl := Lib.hid hwl
  have Hpl := Lib.hid hpl
  have H32' := Lib.hid h32
  have Hlen := Lib.hid hlen
  have Ha0 := Lib.hid ha0
  clear hmk hw0 hs0 hwl hpl h32 hlen ha0
  go_enter Try.func88, Try.ntmps88
  go_wp2_with (first
    | ((with_reducible show wpList _ _ _ (⟨some 9, .alloc _, _, _, _, _⟩ :: _) _ _); rw [Hw0.out]; refine wpList_hnew rfl rfl ?_; intro w1 k9 hb1; simp only [Act.put])
    | ((with_reducible show wpList _ _ _ (⟨some 17, .makeSlice _ _ _, _, _, _, _⟩ :: _) _ _); refine wpList_run rfl _ _ (run_make13_op (.tmp 16) (.tmp 16) rfl _ _ rfl rfl (Hmk.out _)) ?_; simp only [Act.put]))
  obtain ⟨w2, hw2⟩ : ∃ w2, w1.alloc (.cells (prcells (List.replicate L pairZ)).toArray 139) = w2 := ⟨_, rfl⟩
  obtain ⟨go, hgo⟩ : ∃ g, w1.heap.size = g := ⟨_, rfl⟩
  have hI : SdI w f H way pf a0 L go a0 0 w2 := by
    have hb2 : Below w1.heap.size w1 w2 := by rw [← hw2]; exact (Below.refl _ _).alloc (Nat.le_refl _) _
    have hg9 := k9.lt
    have hs1 := Hs0.out
    rw [hs1] at k9 hg9
    refine ⟨(k4.step hb1).step hb2, (k6.step hb1).step hb2, k9.step hb2, ⟨List.replicate L pairZ, by rw [← hw2, ← hgo]; exact Blk.new _ _ _, List.length_replicate, fun q hq => ?_, fun n hn h => absurd h (by omega)⟩, (hb0.trans (hb1.mono hb0.size)).trans (hb2.mono (Nat.le_trans hb0.size hb1.size)), by omega⟩
    rw [List.eq_of_mem_replicate hq]
    exact ⟨rfl, rfl⟩
  rw [hgo, hw2]
  have hW9 := Hs0.out
  rw [hW9]
  clear hw2 hgo k4 k6 k9 hb0 hb1 Hmk Hw0 Hs0 hW9
  go_loopw [11, 12, 13, 14, 20] (fun _ _ _ _ v20 wr => ∃ i : Nat, i ≤ L ∧ v20 = .int .i64 (i : Int) ∧ SdI w f H way pf a0 L go (atI H way pf a0 i) i wr) (fun _ _ _ _ v20 _ => L - (intOf v20).toNat)
  case atStart => exact ⟨0, Nat.zero_le _, rfl, hI⟩
  case round =>
    clear hI
    obtain ⟨i, hi, rfl, hI⟩ := hrel
    by_cases hiL : i < L
    · have hd : decide ((i : Int) < (L : Int)) = true := by simp; omega
      have hwi : IntKind.i64.wrap ((i : Int) + 1) = (i : Int) + 1 := IntWalk.i64_in _ (by omega)
      obtain ⟨n, hn⟩ : ∃ n, n + i + 1 = L := ⟨L - 1 - i, by omega⟩
      have hw1 : IntKind.i64.wrap ((L : Int) - 1) = (L : Int) - 1 := IntWalk.i64_in _ (by omega)
      have hw2 : IntKind.i64.wrap ((L : Int) - 1 - (i : Int)) = (n : Int) := by rw [IntWalk.i64_in _ (by omega)]; omega
      have hnL : n < L := by omega
      have hbel := hI.bel
      obtain ⟨bp, op, rfl, hbp, -, -⟩ := (hp.weak (Y := (· < w.heap.size)) fun b hb _ => hb).at_ (by omega)
      obtain ⟨bw, ow, rfl, hbw, -, hatw⟩ := (hw.weak (Y := (· < w.heap.size)) fun b hb _ => hb).at_ (by omega) (by decide)
      have hcw := hatw n (.bool (way.getD n false)) (by rw [List.getElem?_map, List.getD_eq_getElem?_getD, List.getElem?_eq_getElem (by rw [Hwl.out]; exact hnL)]; rfl)
      have hcw' := fun W (hb : Below wr.heap.size wr W) => (hb.cell (p := ⟨bw, ow + n, none⟩) (Nat.lt_of_lt_of_le hbw hbel.size)).trans ((hbel.cell (p := ⟨bw, ow + n, none⟩) hbw).trans hcw)
      have hget := (hp.step hbel).get rfl i hiL
      have hyl := H32'.out.getD i (by rw [Hpl.out]; exact hiL)
      have hxl := hI.k6.len
      have hgoW : go < wr.heap.size := by obtain ⟨qs, g1, -⟩ := hI.out; exact g1.lt
      have hpr : prI H way pf a0 i = pairB (way.getD n false) (pf.getD i []) (atI H way pf a0 i) := by unfold prI; rw [Hwl.out, show L - 1 - i = n by omega]
      have hsu := atI_succ H way pf a0 i
      rw [hpr] at hsu
      have hput := fun W (h : SdI w f H way pf a0 L go (atI H way pf a0 i) i W) z hz => h.put n hn z hz (by rw [hpr]; unfold pairB; split; exact hyl; exact hxl) (by rw [hpr]; unfold pairB; split; exact hxl; exact hyl)
      rw [hpr] at hput
      obtain ⟨x, hx⟩ : ∃ x, atI H way pf a0 i = x := ⟨_, rfl⟩
      obtain ⟨y, hy⟩ : ∃ y, pf.getD i [] = y := ⟨_, rfl⟩
      rw [hx] at hI hxl hsu hput
      rw [hy] at hget hyl hsu hput
      have Hget := Lib.hid hget
      have Hyl := Lib.hid hyl
      have Hxl := Lib.hid hxl
      have Hn := Lib.hid hn
      have Hcw := Lib.hid hcw'
      clear hatw hcw hcw' hget hyl hxl hpr hn hx hy hbel
      cases hb : way.getD n false with
      | false =>
        rw [hb] at hsu hput Hcw
        have hz64 : (x ++ y).length = 64 := by simp [Hxl.out, Hyl.out]
        obtain ⟨z, hz⟩ : ∃ z, x ++ y = z := ⟨_, rfl⟩
        have hput := fun W h => hput W h z hz
        have hnd := fun W => tnode13_any hF x y W Hxl.out Hyl.out
        rw [hz] at hz64 hnd
        rw [show H (nodeD (pairB false y x)) = H (nodeD (x, y)) from rfl] at hsu
        obtain ⟨r, hr⟩ : ∃ r, H (nodeD (x, y)) = r := ⟨_, rfl⟩
        have hrl : r.length = 32 := by rw [← hr]; exact Hlen.out _
        rw [hr] at hnd hsu
        have Hz := Lib.hid hz
        have Hz64 := Lib.hid hz64
        have Hput := Lib.hid hput
        have Hnd := Lib.hid hnd
        have Hsu := Lib.hid hsu
        have Hrl := Lib.hid hrl
        clear hz hz64 hput hnd hsu hr hrl hb
        go_wp2_with (first
          | ((with_reducible show wpList _ _ _ (⟨some 24, .load _ _, _, _, _, _⟩ :: _) _ _); refine wpList_run0 rfl (.agg (y.map B).toArray) (run_load_op 25 (.tmp 23) rfl bp (op + i * 32) rfl _ Hget.out) ?_; simp only [Act.put])
          | ((with_reducible show wpList _ _ _ (⟨some 12, .alloc _, _, _, _, _⟩ :: _) _ _); refine wpList_hnew rfl rfl ?_; intro W1 k12 hb1; simp only [Act.put])
          | ((with_reducible show wpList _ _ _ [⟨none, .store _ (.tmp 12) _, _, _, _, _⟩] _ _); refine wpList_hset (.tmp 12) (.tmp 24) rfl rfl k12 rfl rfl Hyl.out ?_; intro W2 k12b hb2 hW2; clear hW2; have hbA := hb1.trans hb2; simp only [Act.put])
          | ((with_reducible show wpList _ _ _ (⟨some 30, .load _ _, _, _, _, _⟩ :: _) _ _); refine wpList_hload (.tmp 6) (by kernel_rfl) rfl (hI.step hbA).k6 rfl ?_; simp only [Act.put])
          | ((with_reducible show wpList _ _ _ (⟨some 31, .load _ _, _, _, _, _⟩ :: _) _ _); refine wpList_hload (.tmp 12) (by kernel_rfl) rfl k12b rfl ?_; simp only [Act.put])
          | ((with_reducible show wpList _ _ _ (⟨some 32, .build _ _, _, _, _, _⟩ :: _) _ _); refine wpList_run0 rfl (.agg (z.map B).toArray) (by rw [← Hz.out]; exact run_build_pair_op x y Hxl.out Hyl.out (.tmp 30) (.tmp 31) rfl rfl rfl _) ?_; simp only [Act.put])
          | ((with_reducible show wpList _ _ _ (⟨some 14, .alloc _, _, _, _, _⟩ :: _) _ _); refine wpList_prnew rfl rfl ?_; intro W3 k14 hb3; simp only [Act.put])
          | ((with_reducible show wpList _ _ _ [⟨none, .store _ (.tmp 14) (.tmp 32), _, _, _, _⟩] _ _); refine wpList_prset (.tmp 14) (.tmp 32) rfl rfl k14 rfl rfl Hz64.out ?_; intro W4 k14b hb4; have hbB := hbA.trans ((hb3.trans hb4).mono hbA.size); have c36 := Hcw.out _ hbB; simp only [Act.put])
          | ((with_reducible show wpList _ _ _ (⟨some 42, .load _ _, _, _, _, _⟩ :: _) _ _); refine wpList_run0 rfl (.agg (z.map B).toArray) (run_load_op 139 (.tmp 14) rfl _ 0 rfl _ k14b.load) ?_; simp only [Act.put])
          | ((with_reducible show wpList _ _ _ [⟨none, .store _ (.tmp 43) _, _, _, _, _⟩] _ _); obtain ⟨cur, W6, hcu, hfit, hW6, hI2, hk14⟩ := Hput.out _ (hI.step hbB); have k14d := hk14 _ _ (Nat.ne_of_gt (Nat.lt_of_lt_of_le hgoW hbA.size)) k14b; refine wpList_store_agg rfl 139 (.tmp 43) (.tmp 42) rfl 64 pairSize go (n * 64) (z.map B).toArray rfl rfl (by simp [Hz64.out]) (oneCell_B _) 139 cur hcu hfit ?_; rw [hW6]; clear hW6 hcu hfit hk14; simp only [Act.put])
          | ((with_reducible show wpList _ _ _ (⟨some 44, .load _ _, _, _, _, _⟩ :: _) _ _); refine wpList_run0 rfl (.agg #[hval f]) (run_load_op 123 (.tmp 4) rfl w.heap.size 0 rfl _ (tree_load hI2.k4)) ?_; simp only [Act.put])
          | ((with_reducible show wpList _ _ _ (⟨some 45, .load _ _, _, _, _, _⟩ :: _) _ _); refine wpList_run0 rfl (.agg (z.map B).toArray) (run_load_op 139 (.tmp 14) rfl _ 0 rfl _ k14d.load) ?_; simp only [Act.put])
          | (go_at_call 137; refine (Hnd.out _).mono ?_; rintro e W7 ⟨rfl, hb7⟩; have hI3 := hI2.step hb7)
          | ((with_reducible show wpList _ _ _ [⟨none, .store _ (.tmp 6) _, _, _, _, _⟩] _ _); refine wpList_hset (.tmp 6) (.tmp 46) rfl rfl hI3.k6 rfl rfl Hrl.out ?_; intro W8 k6b hb8 hW8; have hI4 := hI3.at_ r Hrl.out; rw [← hW8] at hI4; clear hW8; simp only [Act.put]))
        go_roundw
        case rel => exact ⟨i + 1, by omega, by go_num, by rw [Hsu.out]; exact hI4⟩
        case measure => simp [intOf]; omega
      | true =>
        rw [hb] at hsu hput Hcw
        have hz64 : (y ++ x).length = 64 := by simp [Hxl.out, Hyl.out]
        have hz64' : (x ++ y).length = 64 := by simp [Hxl.out, Hyl.out]
        obtain ⟨z, hz⟩ : ∃ z, y ++ x = z := ⟨_, rfl⟩
        obtain ⟨z', hz'⟩ : ∃ z, x ++ y = z := ⟨_, rfl⟩
        have hput := fun W h => hput W h z hz
        have hnd := fun W => tnode13_any hF y x W Hyl.out Hxl.out
        rw [hz] at hz64 hnd
        rw [hz'] at hz64'
        rw [show H (nodeD (pairB true y x)) = H (nodeD (y, x)) from rfl] at hsu
        obtain ⟨r, hr⟩ : ∃ r, H (nodeD (y, x)) = r := ⟨_, rfl⟩
        have hrl : r.length = 32 := by rw [← hr]; exact Hlen.out _
        rw [hr] at hnd hsu
        have Hz := Lib.hid hz
        have Hz64 := Lib.hid hz64
        have Hz' := Lib.hid hz'
        have Hz64' := Lib.hid hz64'
        have Hput := Lib.hid hput
        have Hnd := Lib.hid hnd
        have Hsu := Lib.hid hsu
        have Hrl := Lib.hid hrl
        clear hz hz64 hz' hz64' hput hnd hsu hr hrl hb
        go_wp2_with (first
          | ((with_reducible show wpList _ _ _ (⟨some 24, .load _ _, _, _, _, _⟩ :: _) _ _); refine wpList_run0 rfl (.agg (y.map B).toArray) (run_load_op 25 (.tmp 23) rfl bp (op + i * 32) rfl _ Hget.out) ?_; simp only [Act.put])
          | ((with_reducible show wpList _ _ _ (⟨some 12, .alloc _, _, _, _, _⟩ :: _) _ _); refine wpList_hnew rfl rfl ?_; intro W1 k12 hb1; simp only [Act.put])
          | ((with_reducible show wpList _ _ _ [⟨none, .store _ (.tmp 12) _, _, _, _, _⟩] _ _); refine wpList_hset (.tmp 12) (.tmp 24) rfl rfl k12 rfl rfl Hyl.out ?_; intro W2 k12b hb2 hW2; clear hW2; have hbA := hb1.trans hb2; simp only [Act.put])
          | ((with_reducible show wpList _ _ _ (⟨some 30, .load _ _, _, _, _, _⟩ :: _) _ _); refine wpList_hload (.tmp 6) (by kernel_rfl) rfl (hI.step hbA).k6 rfl ?_; simp only [Act.put])
          | ((with_reducible show wpList _ _ _ (⟨some 31, .load _ _, _, _, _, _⟩ :: _) _ _); refine wpList_hload (.tmp 12) (by kernel_rfl) rfl k12b rfl ?_; simp only [Act.put])
          | ((with_reducible show wpList _ _ _ (⟨some 32, .build _ _, _, _, _, _⟩ :: _) _ _); refine wpList_run0 rfl (.agg (z'.map B).toArray) (by rw [← Hz'.out]; exact run_build_pair_op x y Hxl.out Hyl.out (.tmp 30) (.tmp 31) rfl rfl rfl _) ?_; simp only [Act.put])
          | ((with_reducible show wpList _ _ _ (⟨some 14, .alloc _, _, _, _, _⟩ :: _) _ _); refine wpList_prnew rfl rfl ?_; intro W3 k14 hb3; simp only [Act.put])
          | ((with_reducible show wpList _ _ _ [⟨none, .store _ (.tmp 14) (.tmp 32), _, _, _, _⟩] _ _); refine wpList_prset (.tmp 14) (.tmp 32) rfl rfl k14 rfl rfl Hz64'.out ?_; intro W4 k14b hb4; have hbB := hbA.trans ((hb3.trans hb4).mono hbA.size); have c36 := Hcw.out _ hbB; simp only [Act.put])
          | ((with_reducible show wpList _ _ _ (⟨some 37, .load _ _, _, _, _, _⟩ :: _) _ _); refine wpList_hload (.tmp 12) (by kernel_rfl) rfl (k12b.step (hb3.trans hb4)) rfl ?_; simp only [Act.put])
          | ((with_reducible show wpList _ _ _ (⟨some 38, .load _ _, _, _, _, _⟩ :: _) _ _); refine wpList_hload (.tmp 6) (by kernel_rfl) rfl (hI.step hbB).k6 rfl ?_; simp only [Act.put])
          | ((with_reducible show wpList _ _ _ (⟨some 39, .build _ _, _, _, _, _⟩ :: _) _ _); refine wpList_run0 rfl (.agg (z.map B).toArray) (by rw [← Hz.out]; exact run_build_pair_op y x Hyl.out Hxl.out (.tmp 37) (.tmp 38) rfl rfl rfl _) ?_; simp only [Act.put])
          | ((with_reducible show wpList _ _ _ [⟨none, .store _ (.tmp 14) (.tmp 39), _, _, _, _⟩] _ _); refine wpList_prset (.tmp 14) (.tmp 39) rfl rfl k14b rfl rfl Hz64.out ?_; intro W5 k14c hb5; have hbC := hbB.trans (hb5.mono (Nat.le_trans hbA.size (Nat.le_refl _))); simp only [Act.put])
          | ((with_reducible show wpList _ _ _ (⟨some 42, .load _ _, _, _, _, _⟩ :: _) _ _); refine wpList_run0 rfl (.agg (z.map B).toArray) (run_load_op 139 (.tmp 14) rfl _ 0 rfl _ k14c.load) ?_; simp only [Act.put])
          | ((with_reducible show wpList _ _ _ [⟨none, .store _ (.tmp 43) _, _, _, _, _⟩] _ _); obtain ⟨cur, W6, hcu, hfit, hW6, hI2, hk14⟩ := Hput.out _ (hI.step hbC); have k14d := hk14 _ _ (Nat.ne_of_gt (Nat.lt_of_lt_of_le hgoW hbA.size)) k14c; refine wpList_store_agg rfl 139 (.tmp 43) (.tmp 42) rfl 64 pairSize go (n * 64) (z.map B).toArray rfl rfl (by simp [Hz64.out]) (oneCell_B _) 139 cur hcu hfit ?_; rw [hW6]; clear hW6 hcu hfit hk14; simp only [Act.put])
          | ((with_reducible show wpList _ _ _ (⟨some 44, .load _ _, _, _, _, _⟩ :: _) _ _); refine wpList_run0 rfl (.agg #[hval f]) (run_load_op 123 (.tmp 4) rfl w.heap.size 0 rfl _ (tree_load hI2.k4)) ?_; simp only [Act.put])
          | ((with_reducible show wpList _ _ _ (⟨some 45, .load _ _, _, _, _, _⟩ :: _) _ _); refine wpList_run0 rfl (.agg (z.map B).toArray) (run_load_op 139 (.tmp 14) rfl _ 0 rfl _ k14d.load) ?_; simp only [Act.put])
          | (go_at_call 137; refine (Hnd.out _).mono ?_; rintro e W7 ⟨rfl, hb7⟩; have hI3 := hI2.step hb7)
          | ((with_reducible show wpList _ _ _ [⟨none, .store _ (.tmp 6) _, _, _, _, _⟩] _ _); refine wpList_hset (.tmp 6) (.tmp 46) rfl rfl hI3.k6 rfl rfl Hrl.out ?_; intro W8 k6b hb8 hW8; have hI4 := hI3.at_ r Hrl.out; rw [← hW8] at hI4; clear hW8; simp only [Act.put]))
        go_roundw
        case rel => exact ⟨i + 1, by omega, by go_num, by rw [Hsu.out]; exact hI4⟩
        case measure => simp [intOf]; omega
    · obtain rfl : L = i := by omega
      have hd : decide ((L : Int) < (L : Int)) = false := by simp
      obtain ⟨qs, g1, g2, g3, g4⟩ := hI.out
      have hq : qs = saidL H way pf a0 := by
        apply List.ext_getElem
        · rw [g2, length_saidL, Hwl.out]
        · intro k h1 h2
          have e1 := g4 k (by omega) (by omega)
          have e2 := saidL_getD H way pf a0 k pairD (by rw [Hwl.out]; omega)
          rw [List.getD_eq_getElem?_getD, List.getElem?_eq_getElem h1] at e1
          rw [List.getD_eq_getElem?_getD, List.getElem?_eq_getElem h2, Hwl.out] at e2
          exact Eq.trans e1 e2.symm
      have hbel := hI.bel
      have hk6 := hI.k6
      have hk9 := hI.k9
      have hgo := hI.hgo
      rw [hq] at g1 g2 g3
      clear hq g4 hI
      go_wp2_with fail
      have hS : Below wr.heap.size wr wr.drew := (Below.refl _ _).drew
      replace hk9 := hk9.drew
      replace hbel := hbel.drew
      replace g1 := g1.drew
      refine wp_region_mix_last (fun W => Below wr.heap.size wr W) 3 [(0, true), (1, true), (2, true)] (by kernel_rfl) (by kernel_rfl) hS fun _ => ?_
      simp only [List.map_cons, List.map_nil, Array.getD_eq_getD_getElem?, List.getElem?_toArray, List.getElem?_cons_succ, List.getElem?_cons_zero, Option.getD_some]
      generalize wr.drew = u9 at hS hk9 hbel g1 ⊢
      refine wpMix_s (fun K hK => ?_)
      go_simp
      refine hK _ ?_
      clear hK K
      refine wpMix_load (by kernel_rfl) 25 (.tmp 6) rfl (w.heap.size + 1) (0) rfl ((atI H way pf a0 L).map B).toArray ((fun s => (hk6.step s.ok).load)) ?_
      simp only [Act.put]
      refine wpMix_s (fun K hK => ?_)
      go_simp
      refine hK _ ?_
      clear hK K
      refine wpMix_nil ?_
      intro _
      simp only [List.drop_succ_cons, List.drop_zero]
      have hk9l := hk9.lt
      refine wpList_hset (.tmp 9) (.tmp 49) rfl rfl hk9 rfl rfl hk6.len ?_
      intro W8 k9s hb8 hW8
      simp only [Act.put]
      have hg8 : Blk W8 go 139 (prcells (saidL H way pf a0)).toArray := by rw [hW8]; exact g1.setRow_apart (by omega) _
      clear hW8
      refine np_normal ?_
      go_wp2_with fail
      exact bodyPost_ret (ret_tmp_hash rfl rfl k9s) rfl ⟨_, _, rfl, Prs.of_blk hg8 g2 g3 (by unfold maxLen; omega) (by show w.heap.size ≤ go; omega), hbel.trans (hb8.mono (by omega))⟩
end Go.Proofs.Ytonidnfgneokbaa
