/- Parts side by side in memory; fronts; front.New, slices.Clone of parts. -/
import Derived.Test.YtonidnfgneokbaaQd111
import Derived.Test.YtonidnfgneokbaaQd110
import Derived.Test.YtonidnfgneokbaaQd114
import Derived.Lib.LazyBuf
namespace Go.Proofs.Ytonidnfgneokbaa
open Go Go.RowKit Go.Shelf
attribute [local go_sem] Oper.semAt_some

abbrev PcV := Int × List UInt8
def pcD : PcV := (0, [])
abbrev pccell (p : PcV) : List Value := Value.int .i64 p.1 :: p.2.map B
theorem oneCell_pc (n : Int) (l : List UInt8) : ∀ v ∈ (Value.int .i64 n :: l.map B).toArray.toList, v.oneCell' = true := by
  intro v hv
  simp only [List.mem_cons, List.mem_map] at hv
  rcases hv with rfl | ⟨b, _, rfl⟩ <;> rfl
theorem flat_atC {s : Nat} : ∀ (L : List (List Value)) (_ : ∀ cs ∈ L, cs.length = s) (k j : Nat) (v : Value) (_ : k < L.length) (_ : (L.getD k [])[j]? = some v), L.flatten[k * s + j]? = some v
  | cs :: L, hL, 0, j, v, _, h => by
    have h : cs[j]? = some v := h
    rw [List.flatten_cons, Nat.zero_mul, Nat.zero_add, List.getElem?_append_left (List.getElem?_eq_some_iff.1 h).1]
    exact h
  | cs :: L, hL, k + 1, j, v, hk, h => by
    have hc := hL cs (by simp)
    have := flat_atC L (fun x hx => hL x (by simp [hx])) k j v (by simpa using hk) h
    rw [List.flatten_cons, List.getElem?_append_right (by rw [hc, Nat.succ_mul]; omega), hc, show (k + 1) * s + j - s = k * s + j by rw [Nat.succ_mul]; omega]
    exact this
theorem flat_lenC {s : Nat} : ∀ (L : List (List Value)), (∀ cs ∈ L, cs.length = s) → L.flatten.length = L.length * s
  | [], _ => by simp
  | cs :: L, h => by
    rw [List.flatten_cons, List.length_append, h cs (by simp), flat_lenC L (fun x hx => h x (by simp [hx])), List.length_cons, Nat.succ_mul]
    omega
def pccells (ps : List PcV) : List Value := (ps.map pccell).flatten
def Pc32 (ps : List PcV) : Prop := ∀ p ∈ ps, p.2.length = 32
structure Pcs (w : World) (X : Nat → Prop) (A : Option Addr) (n c : Nat) (ps : List PcV) : Prop where
  sl : SlV w X A n c 33 (pccells ps)
  len : ps.length = n
  all : Pc32 ps
theorem pccells_append (a b : List PcV) : pccells (a ++ b) = pccells a ++ pccells b := by simp [pccells]
theorem Pc32.append {a b : List PcV} (h : Pc32 a) (k : Pc32 b) : Pc32 (a ++ b) := fun x hx => (List.mem_append.1 hx).elim (h x) (k x)
theorem Pc32.getD {ps : List PcV} (h : Pc32 ps) (k : Nat) (hk : k < ps.length) : (ps.getD k pcD).2.length = 32 := by
  rw [List.getD_eq_getElem?_getD, List.getElem?_eq_getElem hk]
  exact h _ (List.getElem_mem hk)
theorem Pc32.cell {ps : List PcV} (h : Pc32 ps) : ∀ cs ∈ ps.map pccell, cs.length = 33 := fun cs hc => by
  obtain ⟨p, hp, rfl⟩ := List.mem_map.1 hc
  simp [h p hp]
theorem pccells_len (ps : List PcV) (h : Pc32 ps) : (pccells ps).length = ps.length * 33 := by
  unfold pccells
  rw [flat_lenC _ h.cell, List.length_map]
theorem onePc (ps : List PcV) : ∀ v ∈ pccells ps, v.oneCell' = true := fun v hv => by
  obtain ⟨cs, h1, h2⟩ := List.mem_flatten.1 hv
  obtain ⟨p, _, rfl⟩ := List.mem_map.1 h1
  exact oneCell_pc p.1 p.2 v h2
section
variable {w w' : World} {X Y : Nat → Prop} {A : Option Addr} {n c : Nat} {ps : List PcV}
theorem Pcs.weak (h : Pcs w X A n c ps) (hX : ∀ b, b < w.heap.size → X b → Y b) : Pcs w Y A n c ps := ⟨h.sl.weak hX, h.len, h.all⟩
theorem Pcs.every (h : Pcs w X A n c ps) : Pcs w (fun _ => True) A n c ps := h.weak fun _ _ _ => trivial
theorem Pcs.step (h : Pcs w X A n c ps) (hb : Below w.heap.size w w') : Pcs w' X A n c ps := ⟨h.sl.step hb, h.len, h.all⟩
theorem Pcs.grown {row : Option Nat} (h : Pcs w X A n c ps) (hg : w.grownBy w' row) (hX : ∀ b, b < w.heap.size → X b → some b ≠ row) : Pcs w' X A n c ps := ⟨h.sl.grown hg hX, h.len, h.all⟩
theorem Pcs.empty : Pcs w X none 0 0 [] := ⟨SlV.empty, rfl, fun _ h => absurd h (by simp)⟩
theorem Pcs.of_owns {T : TypeId} {base : Nat} {v : Value} (h : w.ownsRow base T 33 v n (pccells ps)) (hn : ps.length = n) (ha : Pc32 ps) : ∃ A c, v = .slice A n c ∧ Pcs w (fun b => base ≤ b ∧ some b = v.ownBlock) A n c ps := by
  obtain ⟨A, c, hv, hs⟩ := owns_slv h
  exact ⟨A, c, hv, hs, hn, ha⟩
theorem Pcs.take (h : Pcs w X A n c ps) (k : Nat) (hk : k ≤ n) : Pcs w X A k c (ps.take k) := by
  refine ⟨?_, by rw [List.length_take, h.len]; omega, fun p hp => h.all p (List.mem_of_mem_take hp)⟩
  have e : pccells (ps.take k) = (pccells ps).take (k * 33) := by
    have h1 : pccells ps = pccells (ps.take k) ++ pccells (ps.drop k) := by rw [← pccells_append, List.take_append_drop]
    have h2 := pccells_len (ps.take k) fun p hp => h.all p (List.mem_of_mem_take hp)
    rw [List.length_take, h.len, Nat.min_eq_left hk] at h2
    obtain ⟨q, hq⟩ : ∃ q, pccells (ps.take k) = q := ⟨_, rfl⟩
    rw [hq] at h1 h2 ⊢
    rw [h1, List.take_append_of_le_length (by rw [h2]; exact Nat.le_refl _), List.take_of_length_le (by rw [h2]; exact Nat.le_refl _)]
  rw [e]
  exact h.sl.take k hk
theorem Pcs.at_ (h : Pcs w X A n c ps) (hn : 0 < n) : ∃ b o, A = some ⟨b, o, none⟩ ∧ b < w.heap.size ∧ X b := by
  obtain ⟨b, o, h1, h2, h3, -⟩ := h.sl.at_ hn (by decide)
  exact ⟨b, o, h1, h2, h3⟩
theorem Pcs.cell (h : Pcs w X A n c ps) {b o : Nat} (hA : A = some ⟨b, o, none⟩) (i : Nat) (hi : i < n) (j : Nat) (v : Value) (hv : (pccell (ps.getD i pcD))[j]? = some v) : w.cell? ⟨b, o + i * 33 + j, none⟩ = some v := by
  obtain ⟨b', o', e, -, -, h4⟩ := h.sl.at_ (by omega) (by decide)
  rw [hA] at e
  cases e
  rw [Nat.add_assoc]
  refine h4 _ v (flat_atC _ h.all.cell i j v (by rw [List.length_map, h.len]; exact hi) ?_)
  rw [List.getD_eq_getElem?_getD, List.getElem?_map, List.getElem?_eq_getElem (l := ps) (by rw [h.len]; exact hi)]
  rw [List.getD_eq_getElem?_getD, List.getElem?_eq_getElem (l := ps) (by rw [h.len]; exact hi)] at hv
  exact hv
theorem Pcs.num (h : Pcs w X A n c ps) {b o : Nat} (hA : A = some ⟨b, o, none⟩) (i : Nat) (hi : i < n) : w.cell? ⟨b, o + i * 33, none⟩ = some (.int .i64 (ps.getD i pcD).1) := h.cell hA i hi 0 _ rfl
theorem Pcs.hash (h : Pcs w X A n c ps) {b o : Nat} (hA : A = some ⟨b, o, none⟩) (i : Nat) (hi : i < n) : (Instr.loadAt 25 (.pointer (some ⟨b, o + i * 33 + 1, none⟩))).run Try.prog w = .ok (.agg ((ps.getD i pcD).2.map B).toArray) w :=
  run_load_agg (agg26 _) (size26 _) b (o + i * 33 + 1) ((ps.getD i pcD).2.map B) (by rw [List.length_map, h.all.getD i (by rw [h.len]; exact hi)]) fun j u hu => by
    rw [show o + i * 33 + 1 + j = o + i * 33 + (j + 1) by omega]
    exact h.cell hA i hi (j + 1) u (by rw [List.getElem?_cons_succ]; exact hu)
theorem Pcs.load {T : TypeId} (hT : ∀ w : World, (isAgg T).run Try.prog w = .ok true w) (hs : ∀ w : World, (sizeOf T).run Try.prog w = .ok 33 w) (h : Pcs w X A n c ps) {b o : Nat} (hA : A = some ⟨b, o, none⟩) (i : Nat) (hi : i < n) :
    (Instr.loadAt T (.pointer (some ⟨b, o + i * 33, none⟩))).run Try.prog w = .ok (.agg (.int .i64 (ps.getD i pcD).1 :: (ps.getD i pcD).2.map B).toArray) w :=
  run_load_agg (hT _) (hs _) b (o + i * 33) (pccell (ps.getD i pcD)) (by rw [List.length_cons, List.length_map, h.all.getD i (by rw [h.len]; exact hi)]) fun j u hu => h.cell hA i hi j u hu
/-- parts lie nowhere where less than 33 cells are -/
theorem Pcs.apart (h : Pcs w X A n c ps) {g : Nat} {T : TypeId} {cs : Array Value} (k : Blk w g T cs) (hk : cs.size < 33) : Pcs w (fun b => X b ∧ b ≠ g) A n c ps := by
  refine ⟨⟨fun hne => ?_, h.sl.len, h.sl.room, h.sl.nil, h.sl.max⟩, h.len, h.all⟩
  obtain ⟨b, o, h1, h2, h3, h4⟩ := h.sl.bs hne
  refine ⟨b, o, h1, h2, ⟨h3, fun e => ?_⟩, h4⟩
  subst e
  have hlen := pccells_len ps h.all
  have hq : 0 < ps.length := by
    rcases Nat.eq_zero_or_pos ps.length with e | e
    · rw [List.length_eq_zero_iff.1 e] at hne; exact absurd rfl hne
    · exact e
  have h5 := h4 32 _ (List.getElem?_eq_getElem (by rw [hlen]; omega))
  rw [k.cell, Array.getElem?_eq_none (by omega)] at h5
  cases h5
end
theorem aggFp : ∀ w : World, (isAgg 156).run Try.prog w = .ok true w := fun _ => by kernel_rfl
theorem sizeFp : ∀ w : World, (sizeOf 156).run Try.prog w = .ok 33 w := fun _ => by kernel_rfl
theorem infoFp : (Try.prog.info? 156).map (fun i => (i.zero, i.size, i.bytes)) = some (some (.agg (.int .i64 0 :: (List.replicate 32 (0 : UInt8)).map B).toArray), 33, 40) := by kernel_rfl
/-- a front's parts, as they lie -/
def fpc (ps : FrV) : List PcV := ps.map fun p => ((p.1 : Int), p.2)
theorem fpc_append (a b : FrV) : fpc (a ++ b) = fpc a ++ fpc b := by simp [fpc]
theorem length_fpc (ps : FrV) : (fpc ps).length = ps.length := by simp [fpc]
theorem fpc_32 (ps : FrV) (h : F32 ps) : Pc32 (fpc ps) := fun p hp => by
  obtain ⟨q, hq, rfl⟩ := List.mem_map.1 hp
  exact h q hq
theorem fpc_getD (ps : FrV) (i : Nat) : (fpc ps).getD i pcD = (((ps.getD i (0, [])).1 : Int), (ps.getD i (0, [])).2) := by
  unfold fpc
  rw [List.getD_eq_getElem?_getD, List.getElem?_map, List.getD_eq_getElem?_getD]
  cases ps[i]? <;> rfl
/-- a front in memory -/
structure FrO (W : World) (g : Nat) (ps : FrV) : Prop where
  ex : ∃ A n c, Blk W g 107 #[.slice A n c] ∧ Pcs W (fun _ => True) A n c (fpc ps)
theorem FrO.step {W W' : World} {g : Nat} {ps : FrV} (h : FrO W g ps) (hb : Below W.heap.size W W') : FrO W' g ps := let ⟨A, n, c, h1, h2⟩ := h.ex; ⟨A, n, c, h1.step hb, h2.step hb⟩
theorem FrO.lt {W : World} {g : Nat} {ps : FrV} (h : FrO W g ps) : g < W.heap.size := let ⟨_, _, _, h1, _⟩ := h.ex; h1.lt
theorem FrO.all {W : World} {g : Nat} {ps : FrV} (h : FrO W g ps) : F32 ps := fun p hp => by
  obtain ⟨A, n, c, h1, h2⟩ := h.ex
  exact h2.all _ (List.mem_map.2 ⟨p, hp, rfl⟩)
/-- another small block is written -/
theorem FrO.grown {W W' : World} {g g' : Nat} {ps : FrV} {T : TypeId} {cs : Array Value} (h : FrO W g ps) (hg : W.grownBy W' (some g')) (k : Blk W g' T cs) (hk : cs.size < 33) (hne : g ≠ g') : FrO W' g ps := by
  obtain ⟨A, n, c, h1, h2⟩ := h.ex
  exact ⟨A, n, c, h1.grown hg (fun e => hne (Option.some.inj e)), ((h2.apart k hk).grown hg (fun b _ hb e => hb.2 (Option.some.inj e))).every⟩

set_option maxHeartbeats 1000000 in
set_option maxRecDepth 100000 in
theorem fnew_any (w : World) : Calls Try.prog 40 #[] w fun e w' => e = .returned (.pointer (some ⟨w.heap.size, 0, none⟩)) ∧ FrO w' w.heap.size [] ∧ Below w.heap.size w w' := by
  have k : FrO (w.alloc (.cells #[.slice none 0 0] 107)) w.heap.size [] := ⟨none, 0, 0, Blk.new _ _ _, Pcs.empty⟩
  have hb : Below w.heap.size w (w.alloc (.cells #[.slice none 0 0] 107)) := (Below.refl _ _).alloc (Nat.le_refl _) _
  go_enter Try.func40, Try.ntmps40
  go_wp2_with fail
  go_ret
  exact ⟨rfl, k, hb⟩
set_option maxHeartbeats 1000000 in
set_option maxRecDepth 100000 in
theorem clonep_any (l : List PcV) (A : Option Addr) (n c : Nat) (w : World) (h : Pcs w (fun _ => True) A n c l) (hn : n ≤ 1099511627776) :
    Calls Try.prog 119 #[.slice A n c] w fun e w' => ∃ v, e = .returned v ∧ w'.ownsRow w.heap.size 156 33 v n (pccells l) ∧ Below w.heap.size w w' := by
  cases A with
  | none =>
    obtain ⟨rfl, rfl⟩ := h.sl.nil rfl
    obtain rfl : l = [] := List.eq_nil_of_length_eq_zero h.len
    clear h
    have hnil := fun w => run_eql_slice_nil (P := Try.prog) w 105 156 none 0 0 Try.underlying105
    go_enter Try.func119, Try.ntmps119
    go_wp2_with fail
    go_ret
    exact ⟨_, rfl, World.ownsRow_nil _ _ _ _, Below.refl _ _⟩
  | some a =>
    have hroom := h.sl.room
    have hmx := h.sl.max
    unfold maxLen at hmx
    have hb1 : Below w.heap.size w (w.alloc (.cells #[] 156)) := (Below.refl _ _).alloc (Nat.le_refl _) _
    have ho0 : (w.alloc (.cells #[] 156)).ownsRow w.heap.size 156 33 (.slice (some ⟨w.heap.size, 0, none⟩) 0 0) 0 [] :=
      World.ownsRow_lit (base := w.heap.size) (e := 156) (size := 33) w #[] 0 (Nat.le_refl _) (by unfold maxLen; decide) (by simp)
    obtain ⟨v1, w1, hr1, ho1, hg1, -⟩ := append_slv (ty := 105) Try.underlying105 infoFp (by simp [Value.cells]) (by decide) ho0 (h.step hb1).sl (onePc _) (by unfold maxLen; omega) (by omega) hb1.size
    rw [List.nil_append, Nat.zero_add] at ho1
    have hb2 := hb1.grown hg1 hb1.size (fun k hk => by cases hk; exact Nat.le_refl _)
    have Hr1 := Lib.hid hr1
    have hnil := fun w => run_eql_slice_nil (P := Try.prog) w 105 156 (some a) n c Try.underlying105
    clear hr1 ho0 hg1 hb1 h
    go_enter Try.func119, Try.ntmps119
    go_wp2_with ((with_reducible show wpList _ _ _ (⟨some 7, .call _, _, _, _, _⟩ :: _) _ _); refine wpList_run rfl v1 w1 (run_append_op (.tmp 5) (.tmp 6) 105 rfl _ _ rfl rfl Hr1.out) ?_; simp only [Act.put])
    go_ret
    exact ⟨_, rfl, ho1, hb2⟩
end Go.Proofs.Ytonidnfgneokbaa
