/- Strings that are held against each other; a byte of a row of one's own is written. -/
import Derived.Test.YtgcbdnoniikboaaQb110
namespace Go.Proofs.Ytgcbdnoniikboaa
open Go Go.RowKit

theorem run_neq_strM (l m : List UInt8) (W : World) : (binOp .neq 9 (.string (bstr l)) (.string (bstr m))).run Try.prog W = .ok (.bool (l != m)) W := by
  have : ∀ l : List UInt8, (bstr l).toList = l := fun l => by rw [ByteArray.toList_eq]; rfl
  rw [binOp_string_neq, Sem.run_pure, this, this]; rfl
theorem run_neqstrM_f {ρ : Operand → Value} {o : Oper} (x y : Operand) (ty : TypeId) (l : List UInt8) (ho : o.op = .binOp .neq 9 x y ty) (hx : ρ x = .string (bstr l)) (hy : ρ y = .string (bstr l)) (W : World) :
    (execOp ρ o).run Try.prog W = .ok (.value (.bool false)) W := by
  unfold execOp
  simp only [ho, hx, hy, eqGuard_at_string, Sem.run_bind, Sem.run_pure, run_neq_strM, Result.andThen_ok, bne_self_eq_false]
theorem run_str_op {ρ : Operand → Value} {o : Oper} {W : World} {X : Nat → Prop} {A : Option Addr} {n c : Nat} {l : List UInt8} (x : Operand) (ho : o.op = .convert 32 9 x) (hx : ρ x = .slice A n c) (h : Sl W X A n c l) :
    (execOp ρ o).run Try.prog W = .ok (.value (.string (bstr l))) W := by
  unfold execOp
  simp only [ho, hx, run_str h, Sem.run_bind, Sem.run_pure, Result.andThen_ok]
theorem owns_setB {W : World} {base g n c : Nat} {e : TypeId} {xs : List Value} (h : W.ownsRow base e 1 (.slice (some ⟨g, 0, none⟩) n c) n xs) (k : Nat) (hk : k < n) (u : Value) :
    (∃ v, W.cell? ⟨g, k, none⟩ = some v) ∧ W.frozen? ⟨g, k, none⟩ = false ∧ ∃ xs', (W.setCell ⟨g, k, none⟩ u).ownsRow base e 1 (.slice (some ⟨g, 0, none⟩) n c) n xs' := by
  rcases h.2 with ⟨hv, _⟩ | ⟨g', cap, cur, hv, hbg, hg, hnc, hcm, hcs, ht⟩
  · cases hv
  · cases hv
    have hB : Blk W g e cur := hg
    have hkc : k < cur.size := by omega
    refine ⟨⟨cur[k], by rw [hB.cell, Array.getElem?_eq_getElem hkc]⟩, hB.frozen k, (cur.setIfInBounds k u).toList.take (n * 1), ?_, .inr ⟨g, c, cur.setIfInBounds k u, rfl, hbg, hB.set_ k u, hnc, hcm, by simpa using hcs, rfl⟩⟩
    rw [List.length_take]
    simp
    omega
end Go.Proofs.Ytgcbdnoniikboaa
