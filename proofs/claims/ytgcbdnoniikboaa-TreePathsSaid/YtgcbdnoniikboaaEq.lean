/- Arrays of bytes that are values: are they equal? -/
import Derived.Test.YtgcbdnoniikboaaSums
import Derived.Laws.StructEq
namespace Go.Proofs.Ytgcbdnoniikboaa
open Go

theorem run_equalIn_ints {α : Type} [BEq α] [LawfulBEq α] {k : IntKind} (f : α → Int) (hf : ∀ a b, (f a == f b) = (a == b)) {P : Program} {t e : TypeId} {N : Nat} (ht : P.underlying t = some (.array N e)) (he : P.underlying e = some (.int k)) (hs : ∀ W : World, (sizeOf e).run P W = .ok 1 W) (ha : ∀ W : World, (isAgg e).run P W = .ok false W) (d : Nat)
    (xs ys : List α) (hx : xs.length = N) (hy : ys.length = N) (W : World) : (Op.equalIn (d + 2) t (.agg (xs.map fun x => Value.int k (f x)).toArray) (.agg (ys.map fun x => Value.int k (f x)).toArray)).run P W = .ok (xs == ys) W := by
  have hint : ∀ (W : World) (a b : Int), (Op.equalIn (d + 1) e (.int k a) (.int k b)).run P W = .ok (a == b) W := fun W a b => run_equalIn_int W d e k k a b he
  show (Op.equalIn (d + 1 + 1) _ _ _).run P W = _
  generalize d + 1 = D at hint ⊢
  simp only [Op.equalIn, Sem.run_bind, run_underlying ht, Result.andThen_ok, hs, Std.Legacy.Range.forIn_eq_forIn_range', Std.Legacy.Range.size, Nat.sub_zero, Nat.add_sub_cancel, Nat.div_one]
  have hcell : ∀ (zs : List α) (i : Nat) (h : i < zs.length), (part e (zs.map fun x => Value.int k (f x)).toArray (i * 1)).run P W = .ok (.int k (f (zs[i]'h))) W := fun zs i h => by
    have hv : ((zs.map fun x => Value.int k (f x)).toArray)[i]? = some (.int k (f (zs[i]'h))) := by simp [h]
    simp [part, hs, ha, hv]
  have key : ∀ (n i : Nat) (hi : i + n = N),
      (do let r ← forIn (List.range' i n 1) ((none, ()) : Option Bool × PUnit) fun i r => do
            let __do_lift ← part e (xs.map fun x => Value.int k (f x)).toArray (i * 1)
            let __do_lift_1 ← part e (ys.map fun x => Value.int k (f x)).toArray (i * 1)
            let __do_lift ← Op.equalIn D e __do_lift __do_lift_1
            if (!__do_lift) = true then pure (ForInStep.done (some false, ())) else pure (ForInStep.yield (none, ()))
          match r.fst with
            | some r => pure r
            | none => pure true : Sem Bool).run P W = .ok (xs.drop i == ys.drop i) W := by
    intro n
    induction n with
    | zero =>
      intro i hi
      have h1 : xs.drop i = [] := List.drop_eq_nil_iff.2 (by omega)
      have h2 : ys.drop i = [] := List.drop_eq_nil_iff.2 (by omega)
      simp [h1, h2]
    | succ n ih =>
      intro i hi
      have hxi : i < xs.length := by omega
      have hyi : i < ys.length := by omega
      rw [List.drop_eq_getElem_cons hxi, List.drop_eq_getElem_cons hyi]
      have h0 := ih (i + 1) (by omega)
      simp only [List.range'_succ, List.forIn_cons, Sem.run_bind, hcell xs i hxi, hcell ys i hyi, Result.andThen_ok, hint] at h0 ⊢
      rw [hf, List.cons_beq_cons]
      cases hb : xs[i] == ys[i]
      · simp
      · simpa using h0
  have := key N 0 (by omega)
  simp only [Sem.run_bind, List.drop_zero] at this
  refine Eq.trans (congrArg _ (funext fun a => funext fun w' => ?_)) this
  rcases a with ⟨_ | _, _⟩ <;> rfl

theorem eqB (a b : UInt8) : ((a.toNat : Int) == (b.toNat : Int)) = (a == b) := by rw [Bool.eq_iff_iff]; simp [← UInt8.toNat_inj]; omega
theorem eqU (a b : UInt32) : ((a.toNat : Int) == (b.toNat : Int)) = (a == b) := by rw [Bool.eq_iff_iff]; simp [← UInt32.toNat_inj]; omega
theorem run_eql_words {P : Program} {t e : TypeId} {N : Nat} (ht : P.underlying t = some (.array N e)) (he : P.underlying e = some (.int .u32)) (hs : ∀ W : World, (sizeOf e).run P W = .ok 1 W) (ha : ∀ W : World, (isAgg e).run P W = .ok false W)
    (xs ys : List UInt32) (hx : xs.length = N) (hy : ys.length = N) (W : World) : (binOp .eql t (.agg (xs.map U).toArray) (.agg (ys.map U).toArray)).run P W = .ok (.bool (xs == ys)) W := by
  rw [run_eql_struct, run_equalIn_ints (fun x : UInt32 => (x.toNat : Int)) eqU ht he hs ha 9998 xs ys hx hy W]
  rfl
theorem run_eql_bytes {P : Program} {t e : TypeId} {N : Nat} (ht : P.underlying t = some (.array N e)) (he : P.underlying e = some (.int .u8)) (hs : ∀ W : World, (sizeOf e).run P W = .ok 1 W) (ha : ∀ W : World, (isAgg e).run P W = .ok false W)
    (xs ys : List UInt8) (hx : xs.length = N) (hy : ys.length = N) (W : World) : (binOp .eql t (.agg (xs.map B).toArray) (.agg (ys.map B).toArray)).run P W = .ok (.bool (xs == ys)) W := by
  rw [run_eql_struct, run_equalIn_ints (fun x : UInt8 => (x.toNat : Int)) eqB ht he hs ha 9998 xs ys hx hy W]
  rfl
theorem run_neq_bytes {P : Program} {t e : TypeId} {N : Nat} (ht : P.underlying t = some (.array N e)) (he : P.underlying e = some (.int .u8)) (hs : ∀ W : World, (sizeOf e).run P W = .ok 1 W) (ha : ∀ W : World, (isAgg e).run P W = .ok false W)
    (xs ys : List UInt8) (hx : xs.length = N) (hy : ys.length = N) (W : World) : (binOp .neq t (.agg (xs.map B).toArray) (.agg (ys.map B).toArray)).run P W = .ok (.bool (xs != ys)) W := by
  rw [run_neq_struct, run_equalIn_ints (fun x : UInt8 => (x.toNat : Int)) eqB ht he hs ha 9998 xs ys hx hy W]
  rfl
end Go.Proofs.Ytgcbdnoniikboaa
