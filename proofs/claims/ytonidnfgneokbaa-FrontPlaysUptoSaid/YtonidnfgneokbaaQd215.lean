/- Parts side by side in memory; fronts; front.New, slices.Clone of parts. -/
import Derived.Test.YtonidnfgneokbaaQd210
import Derived.Test.YtonidnfgneokbaaQd214
import Derived.Lib.LazyBuf
import Derived.Test.YtonidnfgneokbaaQd211
namespace Go.Proofs.Ytonidnfgneokbaa
open Go Go.RowKit Go.Shelf
attribute [local go_sem] Oper.semAt_some

abbrev PcV := Int × List UInt8
def pcD : PcV := (0, [])
abbrev pccell (p : PcV) : List Value := Value.int .i64 p.1 :: p.2.map B
theorem oneCell_pc (n : Int) (l : List UInt8) : ∀ v ∈ (Value.int .i64 n :: l.map B).toArray.toList, v.oneCell' = true := by
  intro v hv
  simp only [List.mem_cons, List.mem_map] at hv
  rcases hv with rfl | ⟨b, _, rfl⟩ <;> rfl
theorem flat_atC {s : Nat} : ∀ (L : List (List Value)) (_ : ∀ cs ∈ L, cs.length = s) (k j : Nat) (v : Value) (_ : k < L.length) (_ : (L.getD k [])[j]? = some v), L.flatten[k * s + j]? = some v
  | cs :: L, hL, 0, j, v, _, h => by
    have h : cs[j]? = some v := h
    rw [List.flatten_cons, Nat.zero_mul, Nat.zero_add, List.getElem?_append_left (List.getElem?_eq_some_iff.1 h).1]
    exact h
  | cs :: L, hL, k + 1, j, v, hk, h => by
    have hc := hL cs (by simp)
    have := flat_atC L (fun x hx => hL x (by simp [hx])) k j v (by simpa using hk) h
    rw [List.flatten_cons, List.getElem?_append_right (by rw [hc, Nat.succ_mul]; omega), hc, show (k + 1) * s + j - s = k * s + j by rw [Nat.succ_mul]; omega]
    exact this
theorem flat_lenC {s : Nat} : ∀ (L : List (List Value)), (∀ cs ∈ L, cs.length = s) → L.flatten.length = L.length * s
  | [], _ => by simp
  | cs :: L, h => by
    rw [List.flatten_cons, List.length_append, h cs (by simp), flat_lenC L (fun x hx => h x (by simp [hx])), List.length_cons, Nat.succ_mul]
    omega
def pccells (ps : List PcV) : List Value := (ps.map pccell).flatten
def Pc32 (ps : List PcV) : Prop := ∀ p ∈ ps, p.2.length = 32
structure Pcs (w : World) (X : Nat → Prop) (A : Option Addr) (n c : Nat) (ps : List PcV) : Prop where
  sl : SlV w X A n c 33 (pccells ps)
  len : ps.length = n
  all : Pc32 ps
theorem pccells_append (a b : List PcV) : pccells (a ++ b) = pccells a ++ pccells b := by simp [pccells]
theorem Pc32.append {a b : List PcV} (h : Pc32 a) (k : Pc32 b) : Pc32 (a ++ b) := fun x hx => (List.mem_append.1 hx).elim (h x) (k x)
theorem Pc32.getD {ps : List PcV} (h : Pc32 ps) (k : Nat) (hk : k < ps.length) : (ps.getD k pcD).2.length = 32 := by
  rw [List.getD_eq_getElem?_getD, List.getElem?_eq_getElem hk]
  exact h _ (List.getElem_mem hk)
theorem Pc32.cell {ps : List PcV} (h : Pc32 ps) : ∀ cs ∈ ps.map pccell, cs.length = 33 := fun cs hc => by
  obtain ⟨p, hp, rfl⟩ := List.mem_map.1 hc
  simp [h p hp]
theorem pccells_len (ps : List PcV) (h : Pc32 ps) : (pccells ps).length = ps.length * 33 := by
  unfold pccells
  rw [flat_lenC _ h.cell, List.length_map]
theorem onePc (ps : List PcV) : ∀ v ∈ pccells ps, v.oneCell' = true := fun v hv => by
  obtain ⟨cs, h1, h2⟩ := List.mem_flatten.1 hv
  obtain ⟨p, _, rfl⟩ := List.mem_map.1 h1
  exact oneCell_pc p.1 p.2 v h2
section
variable {w w' : World} {X Y : Nat → Prop} {A : Option Addr} {n c : Nat} {ps : List PcV}
theorem Pcs.weak (h : Pcs w X A n c ps) (hX : ∀ b, b < w.heap.size → X b → Y b) : Pcs w Y A n c ps := ⟨h.sl.weak hX, h.len, h.all⟩
theorem Pcs.every (h : Pcs w X A n c ps) : Pcs w (fun _ => True) A n c ps := h.weak fun _ _ _ => trivial
theorem Pcs.step (h : Pcs w X A n c ps) (hb : Below w.heap.size w w') : Pcs w' X A n c ps := ⟨h.sl.step hb, h.len, h.all⟩
theorem Pcs.grown {row : Option Nat} (h : Pcs w X A n c ps) (hg : w.grownBy w' row) (hX : ∀ b, b < w.heap.size → X b → some b ≠ row) : Pcs w' X A n c ps := ⟨h.sl.grown hg hX, h.len, h.all⟩
theorem Pcs.empty : Pcs w X none 0 0 [] := ⟨SlV.empty, rfl, fun _ h => absurd h (by simp)⟩
theorem Pcs.of_owns {T : TypeId} {base : Nat} {v : Value} (h : w.ownsRow base T 33 v n (pccells ps)) (hn : ps.length = n) (ha : Pc32 ps) : ∃ A c, v = .slice A n c ∧ Pcs w (fun b => base ≤ b ∧ some b = v.ownBlock) A n c ps := by
  obtain ⟨A, c, hv, hs⟩ := owns_slv h
  exact ⟨A, c, hv, hs, hn, ha⟩
theorem Pcs.take (h : Pcs w X A n c ps) (k : Nat) (hk : k ≤ n) : Pcs w X A k c (ps.take k) := by
  refine ⟨?_, by rw [List.length_take, h.len]; omega, fun p hp => h.all p (List.mem_of_mem_take hp)⟩
  have e : pccells (ps.take k) = (pccells ps).take (k * 33) := by
    have h1 : pccells ps = pccells (ps.take k) ++ pccells (ps.drop k) := by rw [← pccells_append, List.take_append_drop]
    have h2 := pccells_len (ps.take k) fun p hp => h.all p (List.mem_of_mem_take hp)
    rw [List.length_take, h.len, Nat.min_eq_left hk] at h2
    obtain ⟨q, hq⟩ : ∃ q, pccells (ps.take k) = q := ⟨_, rfl⟩
    rw [hq] at h1 h2 ⊢
    rw [h1, List.take_append_of_le_length (by rw [h2]; exact Nat.le_refl _), List.take_of_length_le (by rw [h2]; exact Nat.le_refl _)]
  rw [e]
  exact h.sl.take k hk
theorem Pcs.at_ (h : Pcs w X A n c ps) (hn : 0 < n) : ∃ b o, A = some ⟨b, o, none⟩ ∧ b < w.heap.size ∧ X b := by
  obtain ⟨b, o, h1, h2, h3, -⟩ := h.sl.at_ hn (by decide)
  exact ⟨b, o, h1, h2, h3⟩
theorem Pcs.cell (h : Pcs w X A n c ps) {b o : Nat} (hA : A = some ⟨b, o, none⟩) (i : Nat) (hi : i < n) (j : Nat) (v : Value) (hv : (pccell (ps.getD i pcD))[j]? = some v) : w.cell? ⟨b, o + i * 33 + j, none⟩ = some v := by
  obtain ⟨b', o', e, -, -, h4⟩ := h.sl.at_ (by omega) (by decide)
  rw [hA] at e
  cases e
  rw [Nat.add_assoc]
  refine h4 _ v (flat_atC _ h.all.cell i j v (by rw [List.length_map, h.len]; exact hi) ?_)
  rw [List.getD_eq_getElem?_getD, List.getElem?_map, List.getElem?_eq_getElem (l := ps) (by rw [h.len]; exact hi)]
  rw [List.getD_eq_getElem?_getD, List.getElem?_eq_getElem (l := ps) (by rw [h.len]; exact hi)] at hv
  exact hv
theorem Pcs.num (h : Pcs w X A n c ps) {b o : Nat} (hA : A = some ⟨b, o, none⟩) (i : Nat) (hi : i < n) : w.cell? ⟨b, o + i * 33, none⟩ = some (.int .i64 (ps.getD i pcD).1) := h.cell hA i hi 0 _ rfl
theorem Pcs.hash (h : Pcs w X A n c ps) {b o : Nat} (hA : A = some ⟨b, o, none⟩) (i : Nat) (hi : i < n) : (Instr.loadAt 25 (.pointer (some ⟨b, o + i * 33 + 1, none⟩))).run Try.prog w = .ok (.agg ((ps.getD i pcD).2.map B).toArray) w :=
  run_load_agg (agg26 _) (size26 _) b (o + i * 33 + 1) ((ps.getD i pcD).2.map B) (by rw [List.length_map, h.all.getD i (by rw [h.len]; exact hi)]) fun j u hu => by
    rw [show o + i * 33 + 1 + j = o + i * 33 + (j + 1) by omega]
    exact h.cell hA i hi (j + 1) u (by rw [List.getElem?_cons_succ]; exact hu)
theorem Pcs.load {T : TypeId} (hT : ∀ w : World, (isAgg T).run Try.prog w = .ok true w) (hs : ∀ w : World, (sizeOf T).run Try.prog w = .ok 33 w) (h : Pcs w X A n c ps) {b o : Nat} (hA : A = some ⟨b, o, none⟩) (i : Nat) (hi : i < n) :
    (Instr.loadAt T (.pointer (some ⟨b, o + i * 33, none⟩))).run Try.prog w = .ok (.agg (.int .i64 (ps.getD i pcD).1 :: (ps.getD i pcD).2.map B).toArray) w :=
  run_load_agg (hT _) (hs _) b (o + i * 33) (pccell (ps.getD i pcD)) (by rw [List.length_cons, List.length_map, h.all.getD i (by rw [h.len]; exact hi)]) fun j u hu => h.cell hA i hi j u hu
/-- parts lie nowhere where less than 33 cells are -/
theorem Pcs.apart (h : Pcs w X A n c ps) {g : Nat} {T : TypeId} {cs : Array Value} (k : Blk w g T cs) (hk : cs.size < 33) : Pcs w (fun b => X b ∧ b ≠ g) A n c ps := by
  refine ⟨⟨fun hne => ?_, h.sl.len, h.sl.room, h.sl.nil, h.sl.max⟩, h.len, h.all⟩
  obtain ⟨b, o, h1, h2, h3, h4⟩ := h.sl.bs hne
  refine ⟨b, o, h1, h2, ⟨h3, fun e => ?_⟩, h4⟩
  subst e
  have hlen := pccells_len ps h.all
  have hq : 0 < ps.length := by
    rcases Nat.eq_zero_or_pos ps.length with e | e
    · rw [List.length_eq_zero_iff.1 e] at hne; exact absurd rfl hne
    · exact e
  have h5 := h4 32 _ (List.getElem?_eq_getElem (by rw [hlen]; omega))
  rw [k.cell, Array.getElem?_eq_none (by omega)] at h5
  cases h5
end
theorem aggFp : ∀ w : World, (isAgg 156).run Try.prog w = .ok true w := fun _ => by kernel_rfl
theorem sizeFp : ∀ w : World, (sizeOf 156).run Try.prog w = .ok 33 w := fun _ => by kernel_rfl
theorem infoFp : (Try.prog.info? 156).map (fun i => (i.zero, i.size, i.bytes)) = some (some (.agg (.int .i64 0 :: (List.replicate 32 (0 : UInt8)).map B).toArray), 33, 40) := by kernel_rfl
/-- a front's parts, as they lie -/
def fpc (ps : FrV) : List PcV := ps.map fun p => ((p.1 : Int), p.2)
theorem fpc_append (a b : FrV) : fpc (a ++ b) = fpc a ++ fpc b := by simp [fpc]
theorem length_fpc (ps : FrV) : (fpc ps).length = ps.length := by simp [fpc]
theorem fpc_32 (ps : FrV) (h : F32 ps) : Pc32 (fpc ps) := fun p hp => by
  obtain ⟨q, hq, rfl⟩ := List.mem_map.1 hp
  exact h q hq
theorem fpc_getD (ps : FrV) (i : Nat) : (fpc ps).getD i pcD = (((ps.getD i (0, [])).1 : Int), (ps.getD i (0, [])).2) := by
  unfold fpc
  rw [List.getD_eq_getElem?_getD, List.getElem?_map, List.getD_eq_getElem?_getD]
  cases ps[i]? <;> rfl
/-- a front in memory -/
structure FrO (W : World) (g : Nat) (ps : FrV) : Prop where
  ex : ∃ A n c, Blk W g 107 #[.slice A n c] ∧ Pcs W (fun _ => True) A n c (fpc ps)
theorem FrO.step {W W' : World} {g : Nat} {ps : FrV} (h : FrO W g ps) (hb : Below W.heap.size W W') : FrO W' g ps := let ⟨A, n, c, h1, h2⟩ := h.ex; ⟨A, n, c, h1.step hb, h2.step hb⟩
theorem FrO.lt {W : World} {g : Nat} {ps : FrV} (h : FrO W g ps) : g < W.heap.size := let ⟨_, _, _, h1, _⟩ := h.ex; h1.lt
theorem FrO.all {W : World} {g : Nat} {ps : FrV} (h : FrO W g ps) : F32 ps := fun p hp => by
  obtain ⟨A, n, c, h1, h2⟩ := h.ex
  exact h2.all _ (List.mem_map.2 ⟨p, hp, rfl⟩)
/-- another small block is written -/
theorem FrO.grown {W W' : World} {g g' : Nat} {ps : FrV} {T : TypeId} {cs : Array Value} (h : FrO W g ps) (hg : W.grownBy W' (some g')) (k : Blk W g' T cs) (hk : cs.size < 33) (hne : g ≠ g') : FrO W' g ps := by
  obtain ⟨A, n, c, h1, h2⟩ := h.ex
  exact ⟨A, n, c, h1.grown hg (fun e => hne (Option.some.inj e)), ((h2.apart k hk).grown hg (fun b _ hb e => hb.2 (Option.some.inj e))).every⟩

set_option maxHeartbeats 1000000 in
set_option maxRecDepth 100000 in
theorem fnew_any (w : World) : Calls Try.prog 40 #[] w fun e w' => e = .returned (.pointer (some ⟨w.heap.size, 0, none⟩)) ∧ FrO w' w.heap.size [] ∧ Below w.heap.size w w' := by
  have k : FrO (w.alloc (.cells #[.slice none 0 0] 107)) w.heap.size [] := ⟨none, 0, 0, Blk.new _ _ _, Pcs.empty⟩
  have hb : Below w.heap.size w (w.alloc (.cells #[.slice none 0 0] 107)) := (Below.refl _ _).alloc (Nat.le_refl _) _
  go_enter Try.func40, Try.ntmps40
  go_wp2_with fail
  go_ret
  exact ⟨rfl, k, hb⟩
set_option maxHeartbeats 1000000 in
set_option maxRecDepth 100000 in
theorem clonep_any (l : List PcV) (A : Option Addr) (n c : Nat) (w : World) (h : Pcs w (fun _ => True) A n c l) (hn : n ≤ 1099511627776) :
    Calls Try.prog 119 #[.slice A n c] w fun e w' => ∃ v, e = .returned v ∧ w'.ownsRow w.heap.size 156 33 v n (pccells l) ∧ Below w.heap.size w w' := by
  cases A with
  | none =>
    obtain ⟨rfl, rfl⟩ := h.sl.nil rfl
    obtain rfl : l = [] := List.eq_nil_of_length_eq_zero h.len
    clear h
    have hnil := fun w => run_eql_slice_nil (P := Try.prog) w 105 156 none 0 0 Try.underlying105
    go_enter Try.func119, Try.ntmps119
    go_wp2_with fail
    go_ret
    exact ⟨_, rfl, World.ownsRow_nil _ _ _ _, Below.refl _ _⟩
  | some a =>
    have hroom := h.sl.room
    have hmx := h.sl.max
    unfold maxLen at hmx
    have hb1 : Below w.heap.size w (w.alloc (.cells #[] 156)) := (Below.refl _ _).alloc (Nat.le_refl _) _
    have ho0 : (w.alloc (.cells #[] 156)).ownsRow w.heap.size 156 33 (.slice (some ⟨w.heap.size, 0, none⟩) 0 0) 0 [] :=
      World.ownsRow_lit (base := w.heap.size) (e := 156) (size := 33) w #[] 0 (Nat.le_refl _) (by unfold maxLen; decide) (by simp)
    obtain ⟨v1, w1, hr1, ho1, hg1, -⟩ := append_slv (ty := 105) Try.underlying105 infoFp (by simp [Value.cells]) (by decide) ho0 (h.step hb1).sl (onePc _) (by unfold maxLen; omega) (by omega) hb1.size
    rw [List.nil_append, Nat.zero_add] at ho1
    have hb2 := hb1.grown hg1 hb1.size (fun k hk => by cases hk; exact Nat.le_refl _)
    have Hr1 := Lib.hid hr1
    have hnil := fun w => run_eql_slice_nil (P := Try.prog) w 105 156 (some a) n c Try.underlying105
    clear hr1 ho0 hg1 hb1 h
    go_enter Try.func119, Try.ntmps119
    go_wp2_with ((with_reducible show wpList _ _ _ (⟨some 7, .call _, _, _, _, _⟩ :: _) _ _); refine wpList_run rfl v1 w1 (run_append_op (.tmp 5) (.tmp 6) 105 rfl _ _ rfl rfl Hr1.out) ?_; simp only [Act.put])
    go_ret
    exact ⟨_, rfl, ho1, hb2⟩
end Go.Proofs.Ytonidnfgneokbaa
/- (*Front).come. -/
namespace Go.Proofs.Ytonidnfgneokbaa
open Go Go.RowKit Go.Shelf
attribute [local go_sem] Oper.semAt_some

/-- a part in its box -/
structure PcB (W : World) (g : Nat) (T : TypeId) (n : Int) (l : List UInt8) : Prop where
  blk : Blk W g T (Value.int .i64 n :: l.map B).toArray
  len : l.length = 32
section
variable {W W' : World} {g : Nat} {T : TypeId} {n : Int} {l : List UInt8}
theorem PcB.step (h : PcB W g T n l) (hb : Below W.heap.size W W') : PcB W' g T n l := ⟨h.blk.step hb, h.len⟩
theorem PcB.far {g' : Nat} (h : PcB W g T n l) (hb : Below g' W W') (hg : g < g') : PcB W' g T n l := ⟨h.blk.below hb hg, h.len⟩
theorem PcB.lt (h : PcB W g T n l) : g < W.heap.size := h.blk.lt
theorem PcB.num (h : PcB W g T n l) : W.cell? ⟨g, 0, none⟩ = some (.int .i64 n) := by rw [h.blk.cell]; rfl
theorem PcB.hash (h : PcB W g T n l) : (Instr.loadAt 25 (.pointer (some ⟨g, 1, none⟩))).run Try.prog W = .ok (.agg (l.map B).toArray) W :=
  run_load_agg (agg26 _) (size26 _) g 1 (l.map B) (by simp [h.len]) fun j u hu => by
    rw [h.blk.cell, List.getElem?_toArray, show 1 + j = j + 1 by omega, List.getElem?_cons_succ]
    exact hu
theorem PcB.load {T' : TypeId} (hT : ∀ w : World, (isAgg T').run Try.prog w = .ok true w) (hs : ∀ w : World, (sizeOf T').run Try.prog w = .ok 33 w) (h : PcB W g T n l) : (Instr.loadAt T' (.pointer (some ⟨g, 0, none⟩))).run Try.prog W = .ok (.agg (.int .i64 n :: l.map B).toArray) W :=
  run_load_blk (hT _) (hs _) g _ (by simp [h.len]) h.blk
theorem PcB.setHash {z : List UInt8} (k : PcB W g T n z) (hl : l.length = 32) : ∃ W', W.setRow g (((Value.int .i64 n :: z.map B).toArray).toList.take 1 ++ (l.map B).toArray.toList ++ ((Value.int .i64 n :: z.map B).toArray).toList.drop (1 + 32)).toArray = W' ∧ PcB W' g T n l ∧ Below g W W' := by
  refine ⟨_, rfl, ⟨?_, hl⟩, below_setRow (Below.refl _ _) (Nat.le_refl _) _⟩
  have e : (((Value.int .i64 n :: z.map B).toArray).toList.take 1 ++ (l.map B).toArray.toList ++ ((Value.int .i64 n :: z.map B).toArray).toList.drop (1 + 32)) = Value.int .i64 n :: l.map B := by
    have : (z.map B).drop 32 = [] := List.drop_of_length_le (by rw [List.length_map, k.len]; exact Nat.le_refl _)
    simp [this]
  rw [e]
  exact k.blk.setRow_ _
theorem PcB.setNum (k : PcB W g T n l) (m : Int) : PcB (W.setCell ⟨g, 0, none⟩ (.int .i64 m)) g T m l := ⟨by have := k.blk.set_ 0 (.int .i64 m); simpa using this, k.len⟩
theorem below_setNum (_k : PcB W g T n l) (m : Int) : Below g W (W.setCell ⟨g, 0, none⟩ (.int .i64 m)) := (Below.refl g W).setCell (p := ⟨g, 0, none⟩) (Nat.le_refl g) _
end
theorem owns_someB {W : World} {base : Nat} {e s : TypeId} {v : Value} {n : Nat} {xs : List Value} (h : W.ownsRow base e s v n xs) (hn : 0 < n) : ∃ g c, v = .slice (some ⟨g, 0, none⟩) n c ∧ base ≤ g := by
  rcases h.2 with ⟨_, h0⟩ | ⟨g, cap, cur, hv, hg, _⟩
  · omega
  · exact ⟨g, cap, hv, hg⟩
theorem owns_fewerF {w : World} {base g n m c s : Nat} {e : TypeId} {xs : List Value} (h : w.ownsRow base e s (.slice (some ⟨g, 0, none⟩) m c) m xs) (hn : n ≤ m) :
    w.ownsRow base e s (.slice (some ⟨g, 0, none⟩) n c) n (xs.take (n * s)) := by
  have hl := h.1
  have hns : n * s ≤ m * s := Nat.mul_le_mul_right _ hn
  refine ⟨by rw [List.length_take, hl]; omega, ?_⟩
  rcases h.2 with ⟨hv, _⟩ | ⟨g', cap, cur, hv', hbg, hg, hnc, hcm, hcs, ht⟩
  · cases hv
  · cases hv'
    exact .inr ⟨g, c, cur, rfl, hbg, hg, by omega, hcm, hcs, by rw [← ht, List.take_take, Nat.min_eq_left hns]⟩
theorem run_lit_oneF {P : Program} {t e : TypeId} {z x : Value} {size bytes : Nat} (hu : P.underlying t = some (.slice e)) (hinfo : (P.info? e).map (fun i => (i.zero, i.size, i.bytes)) = some (some z, size, bytes)) (hx : x.cells.size = size) (h0 : 0 < size) (h1 : size ≤ 1000) (W : World) :
    (Instr.buildSlice t 1 #[(0, x)]).run P W = .ok (.slice (some ⟨W.heap.size, 0, none⟩) 1 1) (W.alloc (.cells x.cells e)) := by
  obtain ⟨i, hi⟩ : ∃ i, P.info? e = some i := by
    cases h : P.info? e with
    | none => rw [h] at hinfo; cases hinfo
    | some i => exact ⟨i, rfl⟩
  rw [hi] at hinfo
  have hz : i.zero = some z := congrArg Prod.fst (Option.some.inj hinfo)
  have hs : i.size = size := congrArg (fun x => x.2.1) (Option.some.inj hinfo)
  refine run_buildSlice (P := P) W t e 1 _ x.cells i z hu hi hz (by rw [hs]; omega) (by rw [hs]; omega) ?_
  have hc : ∀ v ∈ [x], v.cells.size = size := fun v hv => by rw [List.mem_singleton.1 hv]; exact hx
  have hp : (#[(0, x)] : Array (Nat × Value)).toList = ([x].zipIdx 0).map fun x => (x.2, x.1) := rfl
  rw [hp, hs, Great.fill_whole h0 _ _ hc (by simp)]
  simp
theorem run_lit_oneF_op {P : Program} {ρ : Operand → Value} {o : Oper} {t e : TypeId} {z x : Value} {size bytes : Nat} (hu : P.underlying t = some (.slice e)) (hinfo : (P.info? e).map (fun i => (i.zero, i.size, i.bytes)) = some (some z, size, bytes)) (hx : x.cells.size = size) (h0 : 0 < size) (h1 : size ≤ 1000)
    (y : Operand) (ho : o.op = .buildSlice t 1 #[(0, y)]) (hy : ρ y = x) (W : World) : (execOp ρ o).run P W = .ok (.value (.slice (some ⟨W.heap.size, 0, none⟩) 1 1)) (W.alloc (.cells x.cells e)) := by
  unfold execOp
  have hm : (#[(0, y)] : Array (Nat × Operand)).map (fun (i, x) => (i, ρ x)) = #[(0, x)] := by simp [hy]
  simp only [ho, Sem.run_bind, Sem.run_pure, hm, run_lit_oneF hu hinfo hx h0 h1 W, Result.andThen_ok]
/-- one part more: the literal, and behind it -/
theorem append_pc {T S : TypeId} {w : World} {base : Nat} {v : Value} {l : List PcV} (hu : Try.prog.underlying S = some (.slice T)) (hinfo : (Try.prog.info? T).map (fun i => (i.zero, i.size, i.bytes)) = some (some (.agg (.int .i64 0 :: (List.replicate 32 (0 : UInt8)).map B).toArray), 33, 40))
    (h : w.ownsRow base T 33 v l.length (pccells l)) (x : PcV) (hx : x.2.length = 32) (hn : l.length ≤ 2199023255552) (hb : base ≤ w.heap.size) :
    ∃ v' w', (Builtin.append_ #[S, S] S #[v, .slice (some ⟨w.heap.size, 0, none⟩) 1 1]).run Try.prog (w.alloc (.cells (pccell x).toArray T)) = .ok v' w' ∧
      w'.ownsRow base T 33 v' (l ++ [x]).length (pccells (l ++ [x])) ∧ Below base (w.alloc (.cells (pccell x).toArray T)) w' := by
  have hbA : Below w.heap.size w (w.alloc (.cells (pccell x).toArray T)) := (Below.refl _ _).alloc (Nat.le_refl _) _
  have hl : (pccell x).length = 33 := by simp [hx]
  have hsl : SlV (w.alloc (.cells (pccell x).toArray T)) (fun _ => True) (some ⟨w.heap.size, 0, none⟩) 1 1 33 (pccell x) := SlV.lit w _ T (pccell x) (by rw [hl]) (by unfold maxLen; decide) trivial
  have h1 : ∀ u ∈ pccell x, u.oneCell' = true := fun u hu => oneCell_pc x.1 x.2 u hu
  have ho := owns_step h hbA
  obtain ⟨v', w', hr, ho', hg, -⟩ := append_slv (ty := S) hu hinfo (by simp [Value.cells]) (by decide) ho hsl h1 (by unfold maxLen; omega) (by omega) (Nat.le_trans hb hbA.size)
  refine ⟨v', w', hr, by rw [List.length_append, pccells_append]; simpa [pccells] using ho', (Below.refl _ _).grown hg (Nat.le_trans hb hbA.size) fun r e => (ho.lt r e).1⟩
theorem run_slice_op_hiP {ρ : Operand → Value} {o : Oper} (x y : Operand) (ho : o.op = .slice 105 x none (some y) none) (A : Option Addr) (n c k : Nat) (hx : ρ x = .slice A n c) (hy : ρ y = .int .i64 (k : Int)) (hk : k ≤ c) (W : World) :
    (execOp ρ o).run Try.prog W = .ok (.value (.slice A k c)) W := by
  have h := run_slice_high (P := Try.prog) (t := 105) (s := 33) (by kernel_rfl) (fun _ => by kernel_rfl) A n c k hk W
  unfold execOp
  simp only [ho, hx, hy, Option.map_some, Option.map_none, Sem.run_bind, Sem.run_pure, h, Result.andThen_ok]
/-- between two rounds of come -/
structure CmC (w : World) (pb b1 g : Nat) (fs : Value) (l : FrV) (p : FpV) (v : Value) (W : World) : Prop where
  own : W.ownsRow b1 156 33 v l.length (pccells (fpc l))
  box : PcB W pb 156 (p.1 : Int) p.2
  obj : Blk W g 107 #[fs]
  bel : Below w.heap.size w W
  all : F32 l
theorem CmC.step {w : World} {pb b1 g : Nat} {fs : Value} {l : FrV} {p : FpV} {v : Value} {W W' : World} (h : CmC w pb b1 g fs l p v W) (hb : Below W.heap.size W W') : CmC w pb b1 g fs l p v W' := ⟨owns_step h.own hb, h.box.step hb, h.obj.step hb, h.bel.trans (hb.mono h.bel.size), h.all⟩

set_option maxHeartbeats 4000000 in
set_option maxRecDepth 100000 in
theorem fcome_any (g : Nat) (ps : FrV) (p : FpV) (w : World) (h : FrO w g ps) (hp : p.2.length = 32) (hl : p.1 ≤ 62) (hn : ps.length ≤ 1099511627776) :
    Calls Try.prog 117 #[.pointer (some ⟨g, 0, none⟩), .agg (Value.int .i64 (p.1 : Int) :: p.2.map B).toArray] w fun e w' => e = .returned (.tuple #[]) ∧ FrO w' g (comeF ps p) ∧ w.grownBy w' (some g) := by
  have h32 := h.all
  obtain ⟨A, n, c, hk, hP⟩ := h.ex
  have hlen : ps.length = n := by rw [← hP.len, length_fpc]
  obtain ⟨w0, hw0⟩ : ∃ w0, w.alloc (.cells (Value.int .i64 (p.1 : Int) :: p.2.map B).toArray 156) = w0 := ⟨_, rfl⟩
  have hb0 : Below w.heap.size w w0 := by rw [← hw0]; exact (Below.refl _ _).alloc (Nat.le_refl _) _
  have k3 : PcB w0 w.heap.size 156 (p.1 : Int) p.2 := ⟨by rw [← hw0]; exact Blk.new _ _ _, hp⟩
  have hkg := hk.lt
  replace hk := hk.step hb0
  replace hP := hP.step hb0
  have hcl := clonep_any (fpc ps) A n c w0 hP (by omega)
  obtain ⟨res, hres⟩ : ∃ r, comeF ps p = r := ⟨_, rfl⟩
  have hr32 : F32 res := by rw [← hres]; exact F32_come ps p h32 hp
  rw [hres]
  have Hres := Lib.hid hres
  have Hw0 := Lib.hid hw0
  have Hcl := Lib.hid hcl
  have Hlen := Lib.hid hlen
  have H32 := Lib.hid h32
  have Hr32 := Lib.hid hr32
  have Hl := Lib.hid hl
  have c0 : w0.cell? ⟨g, 0, none⟩ = some (.slice A n c) := by rw [hk.cell]; rfl
  clear hres hw0 hcl hlen h32 hr32 hP h hp
  go_enter Try.func117, Try.ntmps117
  go_wp2_with (first
    | rw [Hw0.out]
    | (go_at_call 119; refine Hcl.out.mono ?_; rintro e w1 ⟨v, rfl, ho, hb1⟩))
  have hC : CmC w w.heap.size w0.heap.size g (.slice A n c) ps p v w1 := ⟨by rw [Hlen.out]; exact ho, k3.step hb1, hk.step hb1, hb0.trans (hb1.mono hb0.size), H32.out⟩
  have hbz := k3.lt
  have hbs := Nat.le_of_eq (show w0.heap.size = w.heap.size + 1 by rw [← Hw0.out]; simp)
  have hlv : sliceLen v = ps.length := by obtain ⟨A_, c_, rfl, -⟩ := owns_slv ho; exact Hlen.out.symm
  clear ho hb1 k3 hk hb0 c0 Hw0 Hcl
  go_loopw [4] (fun v4 wr => ∃ (l : FrV) (p : FpV) (v : Value), v = v4 ∧ CmC w w.heap.size w0.heap.size g (.slice A n c) l p v wr ∧ comeF l p = res ∧ p.1 + l.length ≤ 1099511627838) (fun v4 _ => sliceLen v4)
  case atStart => exact ⟨ps, p, _, rfl, hC, Hres.out, by have := Hl.out; omega⟩
  case round =>
    clear hC hlv Hres Hl H32
    obtain ⟨l, p, v4, rfl, hC, hcm, hle⟩ := hrel
    have c3 : ∀ s : InC (fun W => Below wr.heap.size wr W), s.W.cell? ⟨w.heap.size, 0, none⟩ = some (.int .i64 (p.1 : Int)) := fun s => (hC.step s.ok).box.num
    rcases snoc_cases l with rfl | ⟨l', q, rfl⟩
    · obtain ⟨A4, c4, rfl, -⟩ := owns_slv hC.own
      go_wp2_with fail
      have hS : Below wr.heap.size wr wr.drew := (Below.refl _ _).drew
      refine wp_region_mix (fun W => Below wr.heap.size wr W) [(0, true), (1, true), (2, true), (3, true), (4, true), (5, true), (6, true), (7, true), (8, true), (9, true), (10, true), (11, true), (12, true), (13, true), (14, true)] (by kernel_rfl) (by kernel_rfl) hS fun _ => ?_
      simp only [List.map_cons, List.map_nil, Array.getD_eq_getD_getElem?, List.getElem?_toArray, List.getElem?_cons_succ, List.getElem?_cons_zero, Option.getD_some]
      generalize wr.drew = u2 at hS ⊢
      refine wpMix_s (fun K hK => ?_)
      go_simp
      refine hK _ ?_
      clear hK K
      refine wpMix_s (fun K hK => ?_)
      go_simp
      refine hK _ ?_
      clear hK K
      refine wpMix_s (fun K hK => ?_)
      go_simp
      refine hK _ ?_
      clear hK K
      refine wpMix_s (fun K hK => ?_)
      go_simp
      refine hK _ ?_
      clear hK K
      refine wpMix_s (fun K hK => ?_)
      go_simp
      refine hK _ ?_
      clear hK K
      refine wpMix_s (fun K hK => ?_)
      go_simp
      refine hK _ ?_
      clear hK K
      refine wpMix_s (fun K hK => ?_)
      go_simp
      refine hK _ ?_
      clear hK K
      refine wpMix_s (fun K hK => ?_)
      go_simp
      refine hK _ ?_
      clear hK K
      refine wpMix_s (fun K hK => ?_)
      go_simp
      refine hK _ ?_
      clear hK K
      refine wpMix_s (fun K hK => ?_)
      go_simp
      refine hK _ ?_
      clear hK K
      refine wpMix_s (fun K hK => ?_)
      go_simp
      refine hK _ ?_
      clear hK K
      refine wpMix_s (fun K hK => ?_)
      go_simp
      refine hK _ ?_
      clear hK K
      refine wpMix_s (fun K hK => ?_)
      go_simp
      refine hK _ ?_
      clear hK K
      refine wpMix_s (fun K hK => ?_)
      go_simp
      refine hK _ ?_
      clear hK K
      refine wpMix_s (fun K hK => ?_)
      go_simp
      refine hK _ ?_
      clear hK K
      refine wpMix_nil ?_
      intro _
      have hres6 : res = [] ++ [p] := by rw [← hcm, comeF_nil]; rfl
      have hr32 : F32 ([] ++ [p]) := by have h := Hr32.out; rw [hres6] at h; exact h
      have hC6 := hC.step hS
      obtain ⟨v9, W9, hr9, ho9, hb9⟩ := append_pc (S := 105) Try.underlying105 infoFp (by rw [length_fpc]; exact hC6.own : u2.ownsRow w0.heap.size 156 33 _ (fpc []).length (pccells (fpc []))) ((p.1 : Int), p.2) hC6.box.len (by rw [length_fpc]; simp) (Nat.le_trans hbs (Nat.le_trans hC.box.lt hS.size))
      have hbA : Below u2.heap.size u2 (u2.alloc (.cells (pccell ((p.1 : Int), p.2)).toArray 156)) := (Below.refl _ _).alloc (Nat.le_refl _) _
      have hkg9 := (hC6.obj.step hbA).below hb9 (Nat.lt_trans hkg hbz)
      have hbel9 := (hC6.bel.trans (hbA.mono hC6.bel.size)).trans (hb9.mono (Nat.le_of_lt hbz))
      have c5 : u2.cell? ⟨g, 0, none⟩ = some (.slice A n c) := by rw [hC6.obj.cell]; rfl
      have hfe : fpc [] ++ [((p.1 : Int), p.2)] = fpc ([] ++ [p]) := (fpc_append [] [p]).symm
      rw [hfe] at ho9
      obtain ⟨n9, hn9⟩ : ∃ n, (fpc ([] ++ [p])).length = n := ⟨_, rfl⟩
      rw [hn9] at ho9
      obtain ⟨A9, c9, rfl, hs9⟩ := Pcs.of_owns ho9 hn9 (fpc_32 _ hr32)
      have hs9 := (hs9.weak (Y := fun b => w0.heap.size ≤ b) fun b _ hb => hb.1)
      have Hr9 := Lib.hid hr9
      clear hr9 ho9 hn9
      go_wp2_with (first
        | ((with_reducible show wpList _ _ _ (⟨some 47, .load _ _, _, _, _, _⟩ :: _) _ _); refine wpList_run0 rfl (.agg (.int .i64 (p.1 : Int) :: p.2.map B).toArray) (run_load_op 156 (.tmp 3) rfl _ 0 rfl _ (hC6.box.load aggFp sizeFp)) ?_; simp only [Act.put])
        | ((with_reducible show wpList _ _ _ (⟨some 48, .buildSlice _ _ _, _, _, _, _⟩ :: _) _ _); refine wpList_run rfl (.slice (some ⟨u2.heap.size, 0, none⟩) 1 1) (u2.alloc (.cells (pccell ((p.1 : Int), p.2)).toArray 156)) (run_lit_oneF_op (x := .agg (pccell ((p.1 : Int), p.2)).toArray) Try.underlying105 infoFp (by simp [Value.cells, hC6.box.len]) (by decide) (by decide) (.tmp 47) rfl rfl _) ?_; simp only [Act.put])
        | ((with_reducible show wpList _ _ _ (⟨some 49, .call _, _, _, _, _⟩ :: _) _ _); refine wpList_run rfl _ W9 (run_append_op (.tmp 46) (.tmp 48) 105 rfl _ _ rfl rfl Hr9.out) ?_; simp only [Act.put])
        | ((with_reducible show wpList _ _ _ [⟨none, .store _ _ _, _, _, _, _⟩] _ _); refine wpList_store_one rfl 105 (.tmp 51) (.tmp 49) rfl g rfl rfl 107 (.slice A n c) hkg9 (by kernel_rfl) ?_; show wpList _ _ _ _ _ (W9.setRow g #[Value.slice A9 n9 c9]); simp only [Act.put]))
      have hgr : W9.grownBy (W9.setRow g #[Value.slice A9 n9 c9]) (some g) := grown_setRow (grown_of_below (Below.refl _ _) _) _
      exact bodyPost_end (by exact results_none rfl _ _ _) rfl ⟨rfl, by rw [hres6]; exact ⟨A9, _, c9, hkg9.setRow_ _, (hs9.grown hgr (fun b _ hb e => by have h9 : b = g := Option.some.inj e; have h8 : w0.heap.size ≤ b := hb; omega)).every⟩, grown_setRow (grown_of_below hbel9 _) _⟩
    · have hl1 : (l' ++ [q]).length = l'.length + 1 := by simp
      have hq32 : q.2.length = 32 := hC.all q (List.mem_append_right _ (List.mem_singleton.2 rfl))
      have ho := hC.own
      rw [hl1] at ho hle
      obtain ⟨k, hk⟩ : ∃ k, l'.length = k := ⟨_, rfl⟩
      rw [hk] at ho hle
      obtain ⟨gb, c4, rfl, hgb⟩ := owns_someB ho (by omega)
      obtain ⟨A_, c_, e, hsl⟩ := owns_slv ho
      have hP : Pcs wr (fun _ => True) (some ⟨gb, 0, none⟩) (k + 1) c4 (fpc (l' ++ [q])) := by injection e with e1 e2 e3; subst e1 e3; exact ⟨hsl.weak fun _ _ _ => trivial, by rw [length_fpc, hl1, hk], fpc_32 _ hC.all⟩
      have hnum := fun W (hb : Below wr.heap.size wr W) => (hP.step hb).num rfl k (Nat.lt_succ_self _)
      have hhs := fun W (hb : Below wr.heap.size wr W) => (hP.step hb).hash rfl k (Nat.lt_succ_self _)
      have hgq : (fpc (l' ++ [q])).getD k pcD = ((q.1 : Int), q.2) := by rw [← hk, fpc_getD, List.getD_eq_getElem?_getD, List.getElem?_append_right (Nat.le_refl _), Nat.sub_self]; rfl
      rw [hgq, Nat.zero_add] at hnum hhs
      have hroom := hP.sl.room
      have hmx := hP.sl.max
      unfold maxLen at hmx
      clear hsl hP hgq
      have Hk := Lib.hid hk
      have hcl33 : (pccells (fpc l')).length = k * 33 := by rw [pccells_len _ (fpc_32 _ fun x hx => hC.all x (List.mem_append_left _ hx)), length_fpc, hk]
      clear hk
      have hww : IntKind.i64.wrap ((k : Int) + 1 - 1) = (k : Int) := by rw [IntWalk.i64_in _ (by omega)]; omega
      have hww2 : IntKind.i64.wrap ((((k + 1 : Nat)) : Int) - 1) = (k : Int) := by rw [IntWalk.i64_in _ (by omega)]; omega
      have hwk : IntKind.i64.wrap (k : Int) = (k : Int) := IntWalk.i64_in _ (by omega)
      have hkk : (k : Int) < (k : Int) + 1 := by omega
      have c20 : ∀ s : InC (fun W => Below wr.heap.size wr W), s.W.cell? ⟨gb, k * 33, none⟩ = some (.int .i64 (q.1 : Int)) := fun s => hnum s.W s.ok
      have hpos : decide ((0 : Int) < (k : Int) + 1) = true := by rw [decide_eq_true_eq]; omega
      have Hhs := Lib.hid hhs
      clear hnum hhs
      by_cases hqp : q.1 = p.1
      · have heq : ((q.1 : Int) == (p.1 : Int)) = true := by simp [hqp]
        go_wp2_with fail
        have hS : Below wr.heap.size wr wr.drew := (Below.refl _ _).drew
        refine wp_region_mix (fun W => Below wr.heap.size wr W) [(0, true), (1, true), (2, true), (3, true), (4, true), (5, true), (6, true), (7, true), (8, true), (9, true), (10, true), (11, true), (12, true), (13, true), (14, true)] (by kernel_rfl) (by kernel_rfl) hS fun _ => ?_
        simp only [List.map_cons, List.map_nil, Array.getD_eq_getD_getElem?, List.getElem?_toArray, List.getElem?_cons_succ, List.getElem?_cons_zero, Option.getD_some]
        generalize wr.drew = u2 at hS ⊢
        refine wpMix_s (fun K hK => ?_)
        go_simp
        refine hK _ ?_
        clear hK K
        refine wpMix_s (fun K hK => ?_)
        go_simp
        refine hK _ ?_
        clear hK K
        refine wpMix_s (fun K hK => ?_)
        go_simp
        refine hK _ ?_
        clear hK K
        refine wpMix_s (fun K hK => ?_)
        go_simp
        refine hK _ ?_
        clear hK K
        refine wpMix_s (fun K hK => ?_)
        go_simp
        refine hK _ ?_
        clear hK K
        refine wpMix_s (fun K hK => ?_)
        go_simp
        refine hK _ ?_
        clear hK K
        refine wpMix_s (fun K hK => ?_)
        go_simp
        refine hK _ ?_
        clear hK K
        refine wpMix_s (fun K hK => ?_)
        go_simp
        refine hK _ ?_
        clear hK K
        refine wpMix_s (fun K hK => ?_)
        go_simp
        refine hK _ ?_
        clear hK K
        refine wpMix_s (fun K hK => ?_)
        go_simp
        refine hK _ ?_
        clear hK K
        refine wpMix_s (fun K hK => ?_)
        go_simp
        refine hK _ ?_
        clear hK K
        refine wpMix_s (fun K hK => ?_)
        go_simp
        refine hK _ ?_
        clear hK K
        refine wpMix_s (fun K hK => ?_)
        go_simp
        refine hK _ ?_
        clear hK K
        refine wpMix_s (fun K hK => ?_)
        go_simp
        refine hK _ ?_
        clear hK K
        refine wpMix_s (fun K hK => ?_)
        go_simp
        refine hK _ ?_
        clear hK K
        refine wpMix_nil ?_
        intro _
        go_wp2_with fail
        have hC3 := hC.step hS
        have hS3 : Below u2.heap.size u2 u2.drew := (Below.refl _ _).drew
        refine wp_region_mix_tail (fun W => Below u2.heap.size u2 W) 11 [(0, true), (1, true), (2, true), (3, true), (4, true), (5, true), (6, true), (7, true), (8, true), (9, false), (10, true)] (by kernel_rfl) (by kernel_rfl) hS3 fun _ => ?_
        simp only [List.map_cons, List.map_nil, Array.getD_eq_getD_getElem?, List.getElem?_toArray, List.getElem?_cons_succ, List.getElem?_cons_zero, Option.getD_some]
        generalize u2.drew = u3 at hS3 ⊢
        refine wpMix_s (fun K hK => ?_)
        go_simp
        refine hK _ ?_
        clear hK K
        refine wpMix_s (fun K hK => ?_)
        go_simp
        refine hK _ ?_
        clear hK K
        refine wpMix_s (fun K hK => ?_)
        go_simp
        refine hK _ ?_
        clear hK K
        refine wpMix_s (fun K hK => ?_)
        go_simp
        refine hK _ ?_
        clear hK K
        refine wpMix_s (fun K hK => ?_)
        go_simp
        refine hK _ ?_
        clear hK K
        refine wpMix_s (fun K hK => ?_)
        go_simp
        refine hK _ ?_
        clear hK K
        refine wpMix_load (by kernel_rfl) 25 (.tmp 30) rfl (gb) (k * 33 + 1) rfl (q.2.map B).toArray ((fun s => Hhs.out s.W (hS.trans (s.ok.mono hS.size)))) ?_
        simp only [Act.put]
        refine wpMix_s (fun K hK => ?_)
        go_simp
        refine hK _ ?_
        clear hK K
        refine wpMix_load (by kernel_rfl) 25 (.tmp 32) rfl (w.heap.size) (1) rfl (p.2.map B).toArray ((fun s => (hC3.step s.ok).box.hash)) ?_
        simp only [Act.put]
        refine wpMix_c (fun K hK => ?_) hS3
        go_simp
        refine (hnode_any q.2 p.2 u3 hq32 hC3.box.len).mono ?_
        rintro e u3_1 ⟨rfl, hb'⟩
        refine hK _ _ ?_
        clear hK K
        replace hS3 := hS3.trans (hb'.mono hS3.size)
        refine ⟨hS3, ?_⟩
        clear hb'
        refine wpMix_s (fun K hK => ?_)
        go_simp
        refine hK _ ?_
        clear hK K
        refine wpMix_nil ?_
        intro _
        simp only [List.drop_succ_cons, List.drop_zero]
        have hC4 := hC3.step hS3
        have hzl := length_hNode q.2 p.2
        obtain ⟨z, hz⟩ : ∃ z, hNode q.2 p.2 = z := ⟨_, rfl⟩
        rw [hz] at hzl ⊢
        obtain ⟨U4, hU4, kp4, hb4⟩ := hC4.box.setHash hzl
        refine wpList_store_agg rfl 25 (.tmp 35) (.tmp 34) rfl 32 size26 w.heap.size 1 _ rfl rfl (by simp [hzl]) (oneCell_B _) 156 _ hC4.box.blk (by simp [hC4.box.len]) ?_
        have hgr4 : u3_1.grownBy U4 (some w.heap.size) := by rw [← hU4]; exact grown_setRow (grown_of_below (Below.refl _ _) _) _
        rw [hU4]
        clear hU4
        simp only [Act.put]
        go_wp2_with fail
        refine np_normal ?_
        have c37 : U4.cell? ⟨w.heap.size, 0, none⟩ = some (.int .i64 (p.1 : Int)) := kp4.num
        have f37 := kp4.blk.frozen 0
        have hwp : IntKind.i64.wrap ((p.1 : Int) + 1) = (p.1 : Int) + 1 := IntWalk.i64_in _ (by omega)
        go_wp2_with ((with_reducible show wpList _ _ _ (⟨some 44, .slice _ _ _ _ _, _, _, _, _⟩ :: _) _ _); refine wpList_run0 rfl (.slice (some ⟨gb, 0, none⟩) k c4) (run_slice_op_hiP (.tmp 40) (.tmp 43) rfl (some ⟨gb, 0, none⟩) (k + 1) c4 k rfl rfl (by omega) _) ?_; simp only [Act.put])
        go_roundw
        case rel =>
          have kp5 := kp4.setNum ((p.1 : Int) + 1)
          have hb5 := below_setNum kp4 ((p.1 : Int) + 1)
          have hgr5 := grown_setCell hgr4 0 (.int .i64 ((p.1 : Int) + 1))
          have ho4 := (owns_step (owns_step (owns_fewerF ho (Nat.le_succ k)) hS) hS3).kept hgr5 (.inr fun e => by have h9 : gb = w.heap.size := Option.some.inj e; omega)
          rw [fpc_append, pccells_append, show (pccells (fpc l') ++ pccells (fpc [q])).take (k * 33) = pccells (fpc l') by rw [List.take_append_of_le_length (by rw [hcl33]; exact Nat.le_refl _), List.take_of_length_le (by rw [hcl33]; exact Nat.le_refl _)]] at ho4
          refine ⟨l', (p.1 + 1, z), _, rfl, ⟨by rw [Hk.out]; exact ho4, ?_, (hC4.obj.below hb4 hkg).below hb5 hkg, (hC4.bel.trans hb4).trans hb5, fun x hx => hC.all x (List.mem_append_left _ hx)⟩, by rw [← hcm, comeF_step l' q p hqp, hz], by show p.1 + 1 + l'.length ≤ _; rw [Hk.out]; omega⟩
          have e : ((p.1 + 1 : Nat) : Int) = (p.1 : Int) + 1 := by omega
          show PcB _ _ _ ((p.1 + 1 : Nat) : Int) z
          rw [e]
          exact kp5
        case measure => simp [sliceLen]
      · have heq : ((q.1 : Int) == (p.1 : Int)) = false := by simp; omega
        go_wp2_with fail
        have hS : Below wr.heap.size wr wr.drew := (Below.refl _ _).drew
        refine wp_region_mix (fun W => Below wr.heap.size wr W) [(0, true), (1, true), (2, true), (3, true), (4, true), (5, true), (6, true), (7, true), (8, true), (9, true), (10, true), (11, true), (12, true), (13, true), (14, true)] (by kernel_rfl) (by kernel_rfl) hS fun _ => ?_
        simp only [List.map_cons, List.map_nil, Array.getD_eq_getD_getElem?, List.getElem?_toArray, List.getElem?_cons_succ, List.getElem?_cons_zero, Option.getD_some]
        generalize wr.drew = u2 at hS ⊢
        refine wpMix_s (fun K hK => ?_)
        go_simp
        refine hK _ ?_
        clear hK K
        refine wpMix_s (fun K hK => ?_)
        go_simp
        refine hK _ ?_
        clear hK K
        refine wpMix_s (fun K hK => ?_)
        go_simp
        refine hK _ ?_
        clear hK K
        refine wpMix_s (fun K hK => ?_)
        go_simp
        refine hK _ ?_
        clear hK K
        refine wpMix_s (fun K hK => ?_)
        go_simp
        refine hK _ ?_
        clear hK K
        refine wpMix_s (fun K hK => ?_)
        go_simp
        refine hK _ ?_
        clear hK K
        refine wpMix_s (fun K hK => ?_)
        go_simp
        refine hK _ ?_
        clear hK K
        refine wpMix_s (fun K hK => ?_)
        go_simp
        refine hK _ ?_
        clear hK K
        refine wpMix_s (fun K hK => ?_)
        go_simp
        refine hK _ ?_
        clear hK K
        refine wpMix_s (fun K hK => ?_)
        go_simp
        refine hK _ ?_
        clear hK K
        refine wpMix_s (fun K hK => ?_)
        go_simp
        refine hK _ ?_
        clear hK K
        refine wpMix_s (fun K hK => ?_)
        go_simp
        refine hK _ ?_
        clear hK K
        refine wpMix_s (fun K hK => ?_)
        go_simp
        refine hK _ ?_
        clear hK K
        refine wpMix_s (fun K hK => ?_)
        go_simp
        refine hK _ ?_
        clear hK K
        refine wpMix_s (fun K hK => ?_)
        go_simp
        refine hK _ ?_
        clear hK K
        refine wpMix_nil ?_
        intro _
        have hres6 : res = l' ++ [q] ++ [p] := by rw [← hcm, comeF_stop l' q p hqp]
        have hr32 : F32 (l' ++ [q] ++ [p]) := by have h := Hr32.out; rw [hres6] at h; exact h
        have hC6 := hC.step hS
        obtain ⟨v9, W9, hr9, ho9, hb9⟩ := append_pc (S := 105) Try.underlying105 infoFp (by rw [length_fpc]; exact hC6.own : u2.ownsRow w0.heap.size 156 33 _ (fpc (l' ++ [q])).length (pccells (fpc (l' ++ [q])))) ((p.1 : Int), p.2) hC6.box.len (by rw [length_fpc]; rw [hl1, Hk.out]; omega) (Nat.le_trans hbs (Nat.le_trans hC.box.lt hS.size))
        have hbA : Below u2.heap.size u2 (u2.alloc (.cells (pccell ((p.1 : Int), p.2)).toArray 156)) := (Below.refl _ _).alloc (Nat.le_refl _) _
        have hkg9 := (hC6.obj.step hbA).below hb9 (Nat.lt_trans hkg hbz)
        have hbel9 := (hC6.bel.trans (hbA.mono hC6.bel.size)).trans (hb9.mono (Nat.le_of_lt hbz))
        have c5 : u2.cell? ⟨g, 0, none⟩ = some (.slice A n c) := by rw [hC6.obj.cell]; rfl
        have hfe : fpc (l' ++ [q]) ++ [((p.1 : Int), p.2)] = fpc ((l' ++ [q]) ++ [p]) := (fpc_append (l' ++ [q]) [p]).symm
        rw [hfe] at ho9
        obtain ⟨n9, hn9⟩ : ∃ n, (fpc ((l' ++ [q]) ++ [p])).length = n := ⟨_, rfl⟩
        rw [hn9] at ho9
        obtain ⟨A9, c9, rfl, hs9⟩ := Pcs.of_owns ho9 hn9 (fpc_32 _ hr32)
        have hs9 := (hs9.weak (Y := fun b => w0.heap.size ≤ b) fun b _ hb => hb.1)
        have Hr9 := Lib.hid hr9
        clear hr9 ho9 hn9
        go_wp2_with (first
          | ((with_reducible show wpList _ _ _ (⟨some 47, .load _ _, _, _, _, _⟩ :: _) _ _); refine wpList_run0 rfl (.agg (.int .i64 (p.1 : Int) :: p.2.map B).toArray) (run_load_op 156 (.tmp 3) rfl _ 0 rfl _ (hC6.box.load aggFp sizeFp)) ?_; simp only [Act.put])
          | ((with_reducible show wpList _ _ _ (⟨some 48, .buildSlice _ _ _, _, _, _, _⟩ :: _) _ _); refine wpList_run rfl (.slice (some ⟨u2.heap.size, 0, none⟩) 1 1) (u2.alloc (.cells (pccell ((p.1 : Int), p.2)).toArray 156)) (run_lit_oneF_op (x := .agg (pccell ((p.1 : Int), p.2)).toArray) Try.underlying105 infoFp (by simp [Value.cells, hC6.box.len]) (by decide) (by decide) (.tmp 47) rfl rfl _) ?_; simp only [Act.put])
          | ((with_reducible show wpList _ _ _ (⟨some 49, .call _, _, _, _, _⟩ :: _) _ _); refine wpList_run rfl _ W9 (run_append_op (.tmp 46) (.tmp 48) 105 rfl _ _ rfl rfl Hr9.out) ?_; simp only [Act.put])
          | ((with_reducible show wpList _ _ _ [⟨none, .store _ _ _, _, _, _, _⟩] _ _); refine wpList_store_one rfl 105 (.tmp 51) (.tmp 49) rfl g rfl rfl 107 (.slice A n c) hkg9 (by kernel_rfl) ?_; show wpList _ _ _ _ _ (W9.setRow g #[Value.slice A9 n9 c9]); simp only [Act.put]))
        have hgr : W9.grownBy (W9.setRow g #[Value.slice A9 n9 c9]) (some g) := grown_setRow (grown_of_below (Below.refl _ _) _) _
        exact bodyPost_end (by exact results_none rfl _ _ _) rfl ⟨rfl, by rw [hres6]; exact ⟨A9, _, c9, hkg9.setRow_ _, (hs9.grown hgr (fun b _ hb e => by have h9 : b = g := Option.some.inj e; have h8 : w0.heap.size ≤ b := hb; omega)).every⟩, grown_setRow (grown_of_below hbel9 _) _⟩
end Go.Proofs.Ytonidnfgneokbaa
