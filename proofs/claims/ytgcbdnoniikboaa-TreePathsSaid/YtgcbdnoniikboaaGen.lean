/- Slices of elements of any size, read and appended to. No program in sight. -/
import Derived.Test.YtgcbdnoniikboaaMix2
import Derived.Laws.AppendOwn
import Derived.Laws.OwnMore
namespace Go.Proofs.Ytgcbdnoniikboaa
open Go.RowKit

/-- the slice at A, n elements (of s cells each) of c, holds these cells; where it is nil, it has no room -/
structure SlV (w : World) (X : Nat → Prop) (A : Option Addr) (n c s : Nat) (l : List Value) : Prop where
  bs : Bs w X A l
  len : l.length = n * s
  room : n ≤ c
  nil : A = none → n = 0 ∧ c = 0
  max : c ≤ maxLen

section
variable {w w' : World} {X Y : Nat → Prop} {A : Option Addr} {n c s : Nat} {l : List Value}
theorem SlV.weak (h : SlV w X A n c s l) (hX : ∀ b, b < w.heap.size → X b → Y b) : SlV w Y A n c s l := ⟨h.bs.weak hX, h.len, h.room, h.nil, h.max⟩
theorem SlV.all (h : SlV w X A n c s l) : SlV w (fun _ => True) A n c s l := h.weak fun _ _ _ => trivial
theorem SlV.keep (h : SlV w X A n c s l) (hs : w.heap.size ≤ w'.heap.size) (hk : ∀ p : Addr, p.block < w.heap.size → X p.block → w'.cell? p = w.cell? p) : SlV w' X A n c s l := ⟨h.bs.keep hs hk, h.len, h.room, h.nil, h.max⟩
theorem SlV.below {N : Nat} (h : SlV w X A n c s l) (hb : Below N w w') (hX : ∀ b, b < w.heap.size → X b → b < N) : SlV w' X A n c s l := ⟨h.bs.below hb hX, h.len, h.room, h.nil, h.max⟩
theorem SlV.step (h : SlV w X A n c s l) (hb : Below w.heap.size w w') : SlV w' X A n c s l := h.below hb fun _ hb _ => hb
theorem SlV.alloc (h : SlV w X A n c s l) (o : Obj) : SlV (w.alloc o) X A n c s l := ⟨h.bs.alloc o, h.len, h.room, h.nil, h.max⟩
theorem SlV.drewN (h : SlV w X A n c s l) (k : Nat) : SlV (w.drewN k) X A n c s l := ⟨h.bs.drewN k, h.len, h.room, h.nil, h.max⟩
theorem SlV.drew (h : SlV w X A n c s l) : SlV w.drew X A n c s l := ⟨h.bs.drew, h.len, h.room, h.nil, h.max⟩
theorem SlV.grown {row : Option Nat} (h : SlV w X A n c s l) (hg : w.grownBy w' row) (hX : ∀ b, b < w.heap.size → X b → some b ≠ row) : SlV w' X A n c s l := ⟨h.bs.grown hg hX, h.len, h.room, h.nil, h.max⟩
theorem SlV.setCell (h : SlV w X A n c s l) {p : Addr} (u : Value) (hX : ¬ X p.block) : SlV (w.setCell p u) X A n c s l := ⟨h.bs.setCell u hX, h.len, h.room, h.nil, h.max⟩
theorem SlV.drop (h : SlV w X A n c s l) (k : Nat) (hk : k ≤ n) : SlV w X (if c = k then A else A.map (·.add (k * s))) (n - k) (c - k) s (l.drop (k * s)) := by
  refine ⟨?_, by rw [List.length_drop, h.len, Nat.sub_mul], by have := h.room; omega, fun hA => ?_, by have := h.max; omega⟩
  · exact h.bs.drop (c := c) (k := k) (s := s) (by rw [h.len]; exact Nat.mul_le_mul_right _ h.room)
  · by_cases hc : c = k
    · subst hc
      rw [if_pos rfl] at hA
      have := h.nil hA
      omega
    · rw [if_neg hc] at hA
      cases A with
      | none => have := h.nil rfl; omega
      | some a => cases hA
theorem SlV.take (h : SlV w X A n c s l) (k : Nat) (hk : k ≤ n) : SlV w X A k c s (l.take (k * s)) := by
  refine ⟨h.bs.take, ?_, by have := h.room; omega, fun hA => ?_, h.max⟩
  · rw [List.length_take, h.len]; exact Nat.min_eq_left (Nat.mul_le_mul_right _ hk)
  · have := h.nil hA; omega
theorem SlV.empty : SlV w X none 0 0 s [] := ⟨Bs.nil, by simp, Nat.le_refl _, fun _ => ⟨rfl, rfl⟩, Nat.zero_le _⟩
/-- where its cells lie -/
theorem SlV.at_ (h : SlV w X A n c s l) (hn : 0 < n) (hs : 0 < s) : ∃ b o, A = some ⟨b, o, none⟩ ∧ b < w.heap.size ∧ X b ∧ ∀ j v, l[j]? = some v → w.cell? ⟨b, o + j, none⟩ = some v :=
  h.bs.at_ (by rw [h.len]; exact Nat.mul_pos hn hs)
theorem SlV.lit (w : World) (X : Nat → Prop) (t : TypeId) (cs : List Value) (hl : cs.length = n * s) (hm : n ≤ maxLen) (hX : X w.heap.size) : SlV (w.alloc (.cells cs.toArray t)) X (some ⟨w.heap.size, 0, none⟩) n n s cs :=
  ⟨fun _ => ⟨w.heap.size, 0, rfl, by simp, hX, fun j v hv => by rw [Nat.zero_add, (Blk.new w t cs.toArray).cell]; simpa using hv⟩, hl, Nat.le_refl _, (fun h => by cases h), hm⟩
theorem SlV.of_blk {g : Nat} {t : TypeId} {cs : List Value} (h : Blk w g t cs.toArray) (hl : cs.length = n * s) (hm : n ≤ maxLen) (hX : X g) : SlV w X (some ⟨g, 0, none⟩) n n s cs :=
  ⟨fun _ => ⟨g, 0, rfl, h.lt, hX, fun j v hv => by rw [Nat.zero_add, h.cell]; simpa using hv⟩, hl, Nat.le_refl _, (fun h => by cases h), hm⟩

theorem owns_slv {base : Nat} {e : TypeId} {v : Value} (h : w.ownsRow base e s v n l) : ∃ A c, v = .slice A n c ∧ SlV w (fun b => base ≤ b ∧ some b = v.ownBlock) A n c s l := by
  rcases h.2 with ⟨hv, h0⟩ | ⟨g, cap, cur, hv, hg, hb, hnc, hcm, hcs, ht⟩
  · subst h0
    have hl := h.1
    rw [Nat.zero_mul] at hl
    have := List.eq_nil_of_length_eq_zero hl
    subst this
    exact ⟨none, 0, hv, SlV.empty⟩
  · refine ⟨_, cap, hv, fun _ => ⟨g, 0, rfl, ?_, ⟨hg, by rw [hv]; rfl⟩, fun j u hu => ?_⟩, h.1, hnc, by simp, hcm⟩
    · exact (show Blk w g _ cur from hb).lt
    · rw [Nat.zero_add, (show Blk w g _ cur from hb).cell, ← Array.getElem?_toList]
      rw [← ht] at hu
      rw [List.getElem?_take] at hu
      split at hu
      · exact hu
      · cases hu
theorem grown_of_below {w w' : World} (h : Below w.heap.size w w') (row : Option Nat) : w.grownBy w' row := ⟨h.os, h.tape, h.output, h.size, fun k hk _ => h.block k hk⟩
theorem owns_step {base : Nat} {e : TypeId} {size : Nat} {v : Value} {xs : List Value} (h : w.ownsRow base e size v n xs) (hb : Below w.heap.size w w') : w'.ownsRow base e size v n xs := by
  cases hv : v.ownBlock with
  | none => exact h.kept (grown_of_below hb none) (.inl hv)
  | some k => exact h.kept (grown_of_below hb none) (.inr (by rw [hv]; simp))
theorem owns_le {b b' : Nat} {e : TypeId} {v : Value} {xs : List Value} (h : w.ownsRow b e s v n xs) (hb : b' ≤ b) : w.ownsRow b' e s v n xs :=
  ⟨h.1, h.2.elim Or.inl (fun ⟨g, cap, cur, hv, hg, r⟩ => Or.inr ⟨g, cap, cur, hv, Nat.le_trans hb hg, r⟩)⟩
end

/-- what is appended to a row of one's own, whatever its elements -/
theorem append_slv {P : Program} {w : World} {base : Nat} {t ty e : TypeId} {z : Value} {size bytes : Nat} (ht : P.underlying t = some (.slice e)) (hinfo : (P.info? e).map (fun i => (i.zero, i.size, i.bytes)) = some (some z, size, bytes)) (hzs : z.cells.size = size) (hsz : 0 < size)
    {v : Value} {n : Nat} {xs : List Value} (hown : w.ownsRow base e size v n xs) {X : Nat → Prop} {A : Option Addr} {m c : Nat} {news : List Value} (h : SlV w X A m c size news) (h1 : ∀ u ∈ news, u.oneCell' = true)
    (hb : n + m ≤ maxLen) (hbytes : (n + m) * bytes ≤ 140737488355328) (hbase : base ≤ w.heap.size) :
    ∃ v' w', (Builtin.append_ #[t, t] ty #[v, .slice A m c]).run P w = .ok v' w' ∧ w'.ownsRow base e size v' (n + m) (xs ++ news) ∧ w.grownBy w' v.ownBlock ∧ (v'.ownBlock = v.ownBlock ∨ ∃ k, v'.ownBlock = some k ∧ w.heap.size ≤ k) := by
  obtain ⟨i, hi, hii⟩ := Option.map_eq_some_iff.1 hinfo
  simp only [Prod.mk.injEq] at hii
  obtain ⟨hz, hs, hby⟩ := hii
  cases A with
  | none =>
    obtain ⟨h0, h1⟩ := h.nil rfl
    subst h0; subst h1
    have hl := h.len
    rw [Nat.zero_mul] at hl
    obtain rfl := List.eq_nil_of_length_eq_zero hl
    exact ⟨v, w, run_append_owned_none (P := P) (w := w) base t ty e i size ht hi v n xs hown, by simpa using hown, ⟨rfl, rfl, rfl, Nat.le_refl _, fun _ _ _ => rfl⟩, .inl rfl⟩
  | some a =>
    have hcell : ∀ j u, news[j]? = some u → w.cell? (a.add j) = some u := fun j u hu => by
      have hne : news ≠ [] := fun e => by rw [e] at hu; cases hu
      obtain ⟨b, o, hA, _, _, hc⟩ := h.bs hne
      cases hA
      rw [addr_add]
      exact hc j u hu
    have hmaxLen : maxLen = 9223372036854775807 := rfl
    obtain ⟨v', w', hr, h2, h3, _⟩ := run_append_own (P := P) w base t ty e i z size bytes ht hi hz hs hby hzs hsz v n xs hown a m c news h.len hcell h1 hb hbytes hbase
    refine ⟨v', w', hr, h2, h3, ?_⟩
    subst hs; subst hby
    rcases hown.2 with ⟨rfl, rfl⟩ | ⟨g, cap, cur, rfl, hbg, hg, hnc, hcm, hcs, htake⟩
    · by_cases hm : m = 0
      · subst hm
        rcases h2.2 with ⟨rfl, _⟩ | ⟨g, cap, cur, rfl, hbg, hg, _⟩
        · exact .inl rfl
        · have hl := h.len
          rw [Nat.zero_mul] at hl
          obtain rfl := List.eq_nil_of_length_eq_zero hl
          have : (Builtin.append_ #[t, t] ty #[.slice none 0 0, .slice (some a) 0 c]).run P w = .ok (.slice none 0 0) w := by
            simp [Builtin.append_, run_underlying ht, sizeOf, typeInfo, hi, Builtin.lenOf, Builtin.firstCells, loadCells, loadCellsFrom]
          rw [this] at hr
          cases hr
      · have hr' := run_append_nil (P := P) w t ty e i z ht hi hz a m c news h.len hcell (by omega) (by omega) (by rw [Nat.zero_add] at hbytes; omega)
        rw [hr'] at hr
        cases hr
        exact .inr ⟨_, rfl, Nat.le_refl _⟩
    · by_cases hroom : n + m ≤ cap
      · have hfit : n * i.size + news.length ≤ cur.size := by rw [h.len, hcs, ← Nat.add_mul]; exact Nat.mul_le_mul_right _ hroom
        have hr' := run_append_room (P := P) w t ty e i ht hi g n cap cur hg a m c news h.len hcell h1 hroom hfit
        rw [hr'] at hr
        cases hr
        exact .inl rfl
      · have holds : ∀ j u, xs[j]? = some u → w.cell? ((⟨g, 0, none⟩ : Addr).add j) = some u := hown.cells (g := g) rfl
        have hr' := run_append_grow (P := P) w t ty e i z ht hi hz ⟨g, 0, none⟩ n cap xs hown.1 holds a m c news h.len hcell (by omega) (by omega) (growslice_fits (by omega) hbytes)
        rw [hr'] at hr
        cases hr
        exact .inr ⟨_, rfl, Nat.le_refl _⟩
theorem run_append_op {P : Program} {ρ : Operand → Value} {o : Oper} {w w' : World} {v : Value} (x y : Operand) (t : TypeId) (ho : o.op = .call { callee := .builtin .append, args := #[x, y], argTypes := #[t, t] }) (vx vy : Value) (hx : ρ x = vx) (hy : ρ y = vy)
    (h : (Builtin.append_ #[t, t] o.type #[vx, vy]).run P w = .ok v w') : (execOp ρ o).run P w = .ok (.value v) w' := by
  unfold execOp
  simp only [ho, resolve, invoke, builtin, Sem.run_bind, Sem.run_pure, Result.andThen_ok, List.map_toArray, List.map_cons, List.map_nil, hx, hy, h]
theorem run_copy_op {P : Program} {ρ : Operand → Value} {o : Oper} {w w' : World} {v : Value} (x y : Operand) (t : TypeId) (ho : o.op = .call { callee := .builtin .copy, args := #[x, y], argTypes := #[t, t] }) (vx vy : Value) (hx : ρ x = vx) (hy : ρ y = vy)
    (h : (Builtin.copy_ #[t, t] o.type #[vx, vy]).run P w = .ok v w') : (execOp ρ o).run P w = .ok (.value v) w' := by
  unfold execOp
  simp only [ho, resolve, invoke, builtin, Sem.run_bind, Sem.run_pure, Result.andThen_ok, List.map_toArray, List.map_cons, List.map_nil, hx, hy, h]
end Go.Proofs.Ytgcbdnoniikboaa
