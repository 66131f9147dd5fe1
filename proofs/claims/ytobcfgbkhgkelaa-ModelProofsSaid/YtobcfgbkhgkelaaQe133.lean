/- incl.Len. -/
import Derived.Test.YtobcfgbkhgkelaaQe128
import Derived.Test.YtobcfgbkhgkelaaQe132
import Derived.Laws.MakeOwn
import Derived.Test.YtobcfgbkhgkelaaQe124
import Derived.Test.YtobcfgbkhgkelaaQe119
import Derived.Test.YtobcfgbkhgkelaaQe131
import Derived.Test.YtobcfgbkhgkelaaQe110
import Derived.Test.YtobcfgbkhgkelaaQe111
namespace Go.Proofs.Ytobcfgbkhgkelaa
open Go Go.RowKit

set_option maxRecDepth 100000 in
theorem ilen_any (m n : Int) (w : World) (hn : n ≤ 9223372036854775807) :
    Calls Try.prog 100 #[.int .i64 m, .int .i64 n] w fun e w' => e = .returned (.tuple #[.int .i64 ((pathA m n).1.length : Int), .int .i64 (pathA m n).2]) ∧ Below w.heap.size w w' := by
  have hst := tpathA_any m n w hn
  obtain ⟨⟨ls, e0⟩, hse⟩ : ∃ s, pathA m n = s := ⟨_, rfl⟩
  rw [hse] at hst ⊢
  dsimp only at hst ⊢
  have Hst := Lib.hid hst
  clear hst hse
  go_enter Try.func100, Try.ntmps100
  go_wp2_with fail
  refine Hst.out.mono ?_
  rintro e w1 ⟨vs, rfl, hP⟩
  obtain ⟨As, cs, rfl, -⟩ := Rs.of_owns hP.own (length_natR ls)
  have hb1 := hP.bel
  clear hP
  go_wp2_with fail
  refine bodyPost_ret (results_tmp2 rfl _ _ _) rfl ⟨rfl, hb1⟩

end Go.Proofs.Ytobcfgbkhgkelaa
/- incl.way. -/
namespace Go.Proofs.Ytobcfgbkhgkelaa
open Go Go.RowKit

theorem wayA_bad (leaf : List UInt8) (i n : Int) (p : List (List UInt8)) (h : (pathA i n).2 ≠ 0) : wayA leaf i n p = ([], (pathA i n).2) := if_pos h
theorem wayA_len (leaf : List UInt8) (i n : Int) (p : List (List UInt8)) (h : (pathA i n).2 = 0) (hl : (pathA i n).1.length ≠ p.length) : wayA leaf i n p = ([], 210) := by unfold wayA; rw [if_neg (by simp [h]), if_pos hl]
theorem wayA_ok (leaf : List UInt8) (i n : Int) (p : List (List UInt8)) (h : (pathA i n).2 = 0) (hl : (pathA i n).1.length = p.length) : wayA leaf i n p = (upL leaf i.toNat 0 n.toNat p, 0) := by unfold wayA; rw [if_neg (by simp [h]), if_neg (by simp [hl])]
theorem pathA_in (i n : Int) (h : (pathA i n).2 = 0) : 0 ≤ i ∧ i < n ∧ (pathA i n).1 = pathL i.toNat 0 n.toNat := by
  unfold pathA at *
  split at h
  · exact absurd h (by simp)
  · rename_i h1
    rw [if_neg h1]
    exact ⟨by omega, by omega, rfl⟩
theorem run_make_op {P : Program} {ρ : Operand → Value} {o : Oper} {w w' : World} {v : Value} {S : TypeId} (x y : Operand) (ho : o.op = .makeSlice S x y) (vx vy : Value) (hx : ρ x = vx) (hy : ρ y = vy) (h : (Instr.makeSlice S vx vy).run P w = .ok v w') : (execOp ρ o).run P w = .ok (.value v) w' := by
  unfold execOp
  simp only [ho, hx, hy, Sem.run_bind, Sem.run_pure, h, Result.andThen_ok]
theorem make_steps {T S : TypeId} (hT : StepT T S) (W : World) (n : Nat) (hn : n ≤ 1000) : ∃ w', (Instr.makeSlice S (.int .i64 0) (.int .i64 ((n : Int) + 1))).run Try.prog W = .ok (.slice (some ⟨W.heap.size, 0, none⟩) 0 (n + 1)) w' ∧ w'.ownsRow W.heap.size T 34 (.slice (some ⟨W.heap.size, 0, none⟩) 0 (n + 1)) 0 [] ∧ Below W.heap.size W w' ∧ w'.heap.size = W.heap.size + 1 := by
  obtain ⟨i, hi, hii⟩ := Option.map_eq_some_iff.1 hT.info
  simp only [Prod.mk.injEq] at hii
  obtain ⟨hz, hs, hby⟩ := hii
  have hr := run_make (P := Try.prog) W S T i _ hT.slice hi hz .i64 .i64 0 ((n : Int) + 1) (Int.le_refl _) (by omega) (by rw [hby]; omega) (by omega)
  rw [hs, show ((n : Int) + 1).toNat = n + 1 by omega] at hr
  exact ⟨_, hr, World.ownsRow_made W _ (n + 1) (Nat.le_refl _) (by unfold maxLen; omega) (size_madeCells _ _), (Below.refl _ _).alloc (Nat.le_refl _) _, by simp⟩

set_option maxHeartbeats 4000000 in
set_option maxRecDepth 100000 in
theorem way_any (leaf : List UInt8) (i n : Int) (p : List (List UInt8)) (A : Option Addr) (np c : Nat) (w : World) (hlf : leaf.length = 32) (hn : n ≤ 9223372036854775807) (h : Hs w (fun _ => True) A np c p) :
    Calls Try.prog 83 #[.agg (leaf.map B).toArray, .int .i64 i, .int .i64 n, .slice A np c] w fun e w' => ∃ v, e = .returned (.tuple #[v, .int .i64 (wayA leaf i n p).2]) ∧ w'.ownsRow w.heap.size 131 34 v (wayA leaf i n p).1.length (scells (wayA leaf i n p).1) ∧ Below w.heap.size w w' := by
  obtain ⟨w3, hw3⟩ : ∃ w3, ((w.alloc (.cells (leaf.map B).toArray 26)).alloc (.cells #[.int .i64 i] 2)).alloc (.cells #[.slice A np c] 33) = w3 := ⟨_, rfl⟩
  have hb3 : Below w.heap.size w w3 := by rw [← hw3]; exact (((Below.refl _ _).alloc (Nat.le_refl _) _).alloc (by simp) _).alloc (by simp; omega) _
  have hsz3 : w3.heap.size = w.heap.size + 1 + 1 + 1 := by rw [← hw3]; simp
  have k4 : HV w3 w.heap.size leaf := ⟨by rw [← hw3]; exact ((Blk.new _ _ _).alloc _).alloc _, hlf⟩
  have k5 : Blk w3 (w.heap.size + 1) 2 #[.int .i64 i] := by rw [← hw3]; exact (Blk.new' _ _ _ _ (by simp)).alloc _
  have k7 : Blk w3 (w.heap.size + 1 + 1) 33 #[.slice A np c] := by rw [← hw3]; exact Blk.new' _ _ _ _ (by simp)
  have c5 : w3.cell? ⟨w.heap.size + 1, 0, none⟩ = some (.int .i64 i) := by rw [k5.cell]; rfl
  have hp3 := (h.weak (Y := (· < w.heap.size)) fun b hb _ => hb).step hb3
  have hlen := h.len
  have hroom := h.sl.room
  have hmx := h.sl.max
  unfold maxLen at hmx
  have hil := fun W => ilen_any i n W hn
  have hpl := pathA_len i n hn
  have Hw3 := Lib.hid hw3
  have Hlf := Lib.hid hlf
  clear hw3 h hlf
  by_cases hbad : (pathA i n).2 = 0
  · have hin := pathA_in i n hbad
    by_cases hnp : (pathA i n).1.length = p.length
    · rw [wayA_ok leaf i n p hbad hnp]
      dsimp only
      obtain ⟨hi0, hin, hpa⟩ := hin
      obtain ⟨i, rfl⟩ : ∃ k : Nat, i = (k : Int) := ⟨i.toNat, by omega⟩
      obtain ⟨n, rfl⟩ : ∃ k : Nat, n = (k : Int) := ⟨n.toNat, by omega⟩
      rw [hbad] at hil
      rw [Int.toNat_natCast, Int.toNat_natCast] at hpa ⊢
      rw [hpa] at hnp hil hpl
      rw [hnp, hlen] at hil hpl
      have hup := fun g4 g5 g7 g12 g13 base v0 W (h : UpC leaf i p A np c g4 g5 g7 g12 g13 base v0 [] W) => up_rec leaf i p A np c g4 g5 g7 g12 g13 base Hlf.out n 0 n v0 W (by omega) (by omega) (by omega) (by omega) (by omega) h
      rw [hnp, List.take_of_length_le (Nat.le_refl _), show ((0 : Nat) : Int) = 0 from rfl] at hup
      have hql : (upL leaf i 0 n p).length = np + 1 := by rw [length_upL leaf n i 0 n p (by omega) (by omega) (by omega), hnp, hlen]
      obtain ⟨q, hq⟩ : ∃ q, upL leaf i 0 n p = q := ⟨_, rfl⟩
      rw [hq] at hup hql ⊢
      have hw1 : IntKind.i64.wrap ((np : Int) + 1) = (np : Int) + 1 := IntWalk.i64_in _ (by omega)
      have Hil := Lib.hid hil
      have Hup := Lib.hid hup
      have Hql := Lib.hid hql
      have Hlen := Lib.hid hlen
      clear hil hup hql hlen hq hnp hpa hbad
      go_enter Try.func83, Try.ntmps83
      go_wp2_with ((with_reducible show wpList _ _ _ (⟨some 15, .load _ _, _, _, _, _⟩ :: _) _ _); rw [Hw3.out])
      refine (Hil.out _).mono ?_
      rintro e W4 ⟨rfl, hb4⟩
      replace k4 := k4.step hb4
      replace k5 := k5.step hb4
      replace k7 := k7.step hb4
      replace hp3 := hp3.step hb4
      replace hb3 := hb3.trans (hb4.mono hb3.size)
      have c7 : W4.cell? ⟨w.heap.size + 1 + 1, 0, none⟩ = some (.slice A np c) := by rw [k7.cell]; rfl
      have hs4 := hb4.size
      clear hb4 c5
      obtain ⟨w5, hr5, ho5, hb5, hsz5⟩ := make_steps stepT1 W4 np (by omega)
      go_wp2_with (first
        | ((with_reducible show wpList _ _ _ (⟨some 29, .makeSlice _ _ _, _, _, _, _⟩ :: _) _ _); refine wpList_run rfl _ w5 (run_make_op (.const (.int .i64 0)) (.tmp 28) rfl _ _ rfl rfl hr5) ?_; simp only [Act.put]; clear hr5))
      have hUp : UpC leaf i p A np c w.heap.size (w.heap.size + 1) (w.heap.size + 1 + 1) (W4.heap.size + 1) (W4.heap.size + 1 + 1) W4.heap.size (.slice (some ⟨W4.heap.size, 0, none⟩) 0 (np + 1)) []
          ((w5.alloc (.cells #[.slice (some ⟨W4.heap.size, 0, none⟩) 0 (np + 1)] 127)).alloc (.cells #[.func (.func 101) #[] #[.pointer (some ⟨w.heap.size, 0, none⟩), .pointer (some ⟨w.heap.size + 1, 0, none⟩), .pointer (some ⟨W4.heap.size + 1 + 1, 0, none⟩), .pointer (some ⟨w.heap.size + 1 + 1, 0, none⟩), .pointer (some ⟨W4.heap.size + 1, 0, none⟩)]] 155)) := by
        have hb6 : Below W4.heap.size W4 ((w5.alloc (.cells #[.slice (some ⟨W4.heap.size, 0, none⟩) 0 (np + 1)] 127)).alloc (.cells #[.func (.func 101) #[] #[.pointer (some ⟨w.heap.size, 0, none⟩), .pointer (some ⟨w.heap.size + 1, 0, none⟩), .pointer (some ⟨W4.heap.size + 1 + 1, 0, none⟩), .pointer (some ⟨w.heap.size + 1 + 1, 0, none⟩), .pointer (some ⟨W4.heap.size + 1, 0, none⟩)]] 155)) := (hb5.alloc (by omega) _).alloc (by simp; omega) _
        have hb7 : Below w5.heap.size w5 ((w5.alloc (.cells #[.slice (some ⟨W4.heap.size, 0, none⟩) 0 (np + 1)] 127)).alloc (.cells #[.func (.func 101) #[] #[.pointer (some ⟨w.heap.size, 0, none⟩), .pointer (some ⟨w.heap.size + 1, 0, none⟩), .pointer (some ⟨W4.heap.size + 1 + 1, 0, none⟩), .pointer (some ⟨w.heap.size + 1 + 1, 0, none⟩), .pointer (some ⟨W4.heap.size + 1, 0, none⟩)]] 155)) := ((Below.refl _ _).alloc (Nat.le_refl _) _).alloc (by simp) _
        refine ⟨k4.step hb6, k5.step hb6, k7.step hb6, ?_, Blk.new' _ _ _ _ (by simp; omega), (hp3.step hb6).weak (fun b _ hb => by omega), owns_step ho5 hb7, by omega, by omega, by omega, by omega, by omega, by omega, ?_⟩
        · exact (Blk.new' _ _ _ _ (by omega)).alloc _
        · intro r e
          have e : W4.heap.size = r := Option.some.inj e
          exact ⟨by omega, by omega⟩
      have hb6 : Below W4.heap.size W4 ((w5.alloc (.cells #[.slice (some ⟨W4.heap.size, 0, none⟩) 0 (np + 1)] 127)).alloc (.cells #[.func (.func 101) #[] #[.pointer (some ⟨w.heap.size, 0, none⟩), .pointer (some ⟨w.heap.size + 1, 0, none⟩), .pointer (some ⟨W4.heap.size + 1 + 1, 0, none⟩), .pointer (some ⟨w.heap.size + 1 + 1, 0, none⟩), .pointer (some ⟨W4.heap.size + 1, 0, none⟩)]] 155)) := (hb5.alloc (by omega) _).alloc (by simp; omega) _
      have hsz7 := hb6.size
      replace hb3 := hb3.trans (hb6.mono (by omega))
      clear hb6 k4 k5 k7 hp3 ho5 hb5 c7
      refine (Hup.out _ _ _ _ _ _ _ _ hUp).mono ?_
      rintro e W8 ⟨rfl, v', hC8, hK8, -⟩
      have hb8 := hK8.bel hb3 (by omega) (by
        rintro k (rfl | e)
        · omega
        · have e : W4.heap.size = k := Option.some.inj e
          omega)
      have c12 : W8.cell? ⟨W4.heap.size + 1, 0, none⟩ = some v' := by rw [hC8.b12.cell]; rfl
      clear hUp hK8 hb3
      go_wp2_with fail
      refine bodyPost_ret (results_tmp2 rfl _ _ _) rfl ⟨_, rfl, owns_le hC8.own (by omega), hb8⟩
    · rw [wayA_len leaf i n p hbad hnp]
      dsimp only
      rw [hbad] at hil
      rw [hlen] at hnp
      obtain ⟨m, hm⟩ : ∃ m, (pathA i n).1.length = m := ⟨_, rfl⟩
      rw [hm] at hil hpl hnp
      have hne : ((m : Int) != (np : Int)) = true := by simp; omega
      have Hil := Lib.hid hil
      clear hil hin hm hbad hlen hnp hp3 k4
      go_enter Try.func83, Try.ntmps83
      go_wp2_with ((with_reducible show wpList _ _ _ (⟨some 15, .load _ _, _, _, _, _⟩ :: _) _ _); rw [Hw3.out])
      refine (Hil.out _).mono ?_
      rintro e W4 ⟨rfl, hb4⟩
      replace k7 := k7.step hb4
      replace hb3 := hb3.trans (hb4.mono hb3.size)
      have c7 : W4.cell? ⟨w.heap.size + 1 + 1, 0, none⟩ = some (.slice A np c) := by rw [k7.cell]; rfl
      clear hb4 c5 k5
      go_wp2_with fail
      refine bodyPost_ret (results_tmp2 rfl _ _ _) rfl ⟨_, rfl, World.ownsRow_nil _ _ _ _, hb3⟩
  · rw [wayA_bad leaf i n p hbad]
    dsimp only
    obtain ⟨m, hm⟩ : ∃ m, (pathA i n).1.length = m := ⟨_, rfl⟩
    obtain ⟨e0, he⟩ : ∃ e, (pathA i n).2 = e := ⟨_, rfl⟩
    rw [hm] at hil hpl
    rw [he] at hil hbad ⊢
    have hne : (e0 != 0) = true := by simpa using hbad
    have Hil := Lib.hid hil
    clear hil hm he hbad hlen hp3 k4
    go_enter Try.func83, Try.ntmps83
    go_wp2_with ((with_reducible show wpList _ _ _ (⟨some 15, .load _ _, _, _, _, _⟩ :: _) _ _); rw [Hw3.out])
    refine (Hil.out _).mono ?_
    rintro e W4 ⟨rfl, hb4⟩
    replace hb3 := hb3.trans (hb4.mono hb3.size)
    clear hb4 c5 k5 k7
    go_wp2_with fail
    refine bodyPost_ret (results_tmp2 rfl _ _ _) rfl ⟨_, rfl, World.ownsRow_nil _ _ _ _, hb3⟩
end Go.Proofs.Ytobcfgbkhgkelaa
/- Slices of steps. -/
namespace Go.Proofs.Ytobcfgbkhgkelaa
open Go Go.RowKit

structure St (w : World) (X : Nat → Prop) (A : Option Addr) (n c : Nat) (q : List StepV) : Prop where
  sl : SlV w X A n c 34 (scells q)
  len : q.length = n
  all : S32 q
section
variable {w w' : World} {X Y : Nat → Prop} {A : Option Addr} {n c : Nat} {q : List StepV}
theorem St.weak (h : St w X A n c q) (hX : ∀ b, b < w.heap.size → X b → Y b) : St w Y A n c q := ⟨h.sl.weak hX, h.len, h.all⟩
theorem St.step (h : St w X A n c q) (hb : Below w.heap.size w w') : St w' X A n c q := ⟨h.sl.step hb, h.len, h.all⟩
theorem St.drew (h : St w X A n c q) : St w.drew X A n c q := ⟨h.sl.drew, h.len, h.all⟩
theorem St.below {N : Nat} (h : St w X A n c q) (hb : Below N w w') (hX : ∀ b, b < w.heap.size → X b → b < N) : St w' X A n c q := ⟨h.sl.below hb hX, h.len, h.all⟩
theorem St.of_owns {base : Nat} {T : TypeId} {v : Value} (h : w.ownsRow base T 34 v n (scells q)) (hn : q.length = n) (ha : S32 q) : ∃ A c, v = .slice A n c ∧ St w (fun b => base ≤ b ∧ some b = v.ownBlock) A n c q := by
  obtain ⟨A, c, hv, hs⟩ := owns_slv h
  exact ⟨A, c, hv, hs, hn, ha⟩
theorem St.at_ (h : St w X A n c q) (hn : 0 < n) : ∃ b o, A = some ⟨b, o, none⟩ ∧ b < w.heap.size ∧ X b ∧ ∀ i, i < n →
    (Instr.loadAt 26 (.pointer (some ⟨b, o + i * 34 + 2, none⟩))).run Try.prog w = .ok (.agg ((q.getD i ((0, 0), [])).2.map B).toArray) w ∧
    (Instr.loadAt 121 (.pointer (some ⟨b, o + i * 34, none⟩))).run Try.prog w = .ok (.agg #[.int .i64 ((q.getD i ((0, 0), [])).1.1 : Int), .int .i64 ((q.getD i ((0, 0), [])).1.2 : Int)]) w ∧
    ∀ T S, StepT T S → (Instr.loadAt T (.pointer (some ⟨b, o + i * 34, none⟩))).run Try.prog w = .ok (.agg (scell (q.getD i ((0, 0), []))).toArray) w := by
  obtain ⟨b, o, h1, h2, h3, h4⟩ := h.sl.at_ hn (by decide)
  refine ⟨b, o, h1, h2, h3, fun i hi => ?_⟩
  have hi' : i < q.length := by rw [h.len]; exact hi
  have hl : (q.getD i ((0, 0), [])).2.length = 32 := by
    rw [List.getD_eq_getElem?_getD, List.getElem?_eq_getElem hi']
    exact h.all _ (List.getElem_mem hi')
  have hat := fun j v hv => scells_at q h.all i hi' j v hv
  generalize q.getD i ((0, 0), []) = s at hl hat ⊢
  refine ⟨run_load_agg (agg26 _) (size26 _) b (o + i * 34 + 2) (s.2.map B) (by simp [hl]) fun j u hu => ?_,
    run_load_agg (aggR _) (sizeR _) b (o + i * 34) [.int .i64 (s.1.1 : Int), .int .i64 (s.1.2 : Int)] rfl fun j u hu => ?_, fun T S hT => ?_⟩
  · rw [show o + i * 34 + 2 + j = o + (i * 34 + (2 + j)) by omega]
    refine h4 _ u (hat (2 + j) u ?_)
    show ([Value.int .i64 (s.1.1 : Int), .int .i64 (s.1.2 : Int)] ++ s.2.map B)[2 + j]? = some u
    rw [List.getElem?_append_right (by simp)]
    simpa using hu
  · rw [Nat.add_assoc]
    refine h4 _ u (hat j u ?_)
    show ([Value.int .i64 (s.1.1 : Int), .int .i64 (s.1.2 : Int)] ++ s.2.map B)[j]? = some u
    rw [List.getElem?_append_left (List.getElem?_eq_some_iff.1 hu).1]
    exact hu
  · exact run_load_agg (hT.agg _) (hT.size _) b (o + i * 34) (scell s) (length_scell s hl) fun j u hu => by
      rw [Nat.add_assoc]
      exact h4 _ u (hat j u hu)
end
theorem lastH_at (q : List StepV) (n : Nat) (h : q.length = n + 1) : (q.getD n ((0, 0), [])).2 = lastH q := by
  unfold lastH
  rw [List.getLastD_eq_getLast?, List.getLast?_eq_getElem?, List.getD_eq_getElem?_getD, h, Nat.add_sub_cancel]
end Go.Proofs.Ytobcfgbkhgkelaa
/- incl.Root, incl.Check; what incl.Up and incl.All make. -/
namespace Go.Proofs.Ytobcfgbkhgkelaa
open Go Go.RowKit

theorem wayA_q (leaf : List UInt8) (i n : Int) (p : List (List UInt8)) (hlf : leaf.length = 32) : S32 (wayA leaf i n p).1 ∧ ((wayA leaf i n p).2 = 0 → (wayA leaf i n p).1.length ≠ 0) ∧ ((wayA leaf i n p).2 = 0 ∨ (wayA leaf i n p).2 = 4 ∨ (wayA leaf i n p).2 = 210) ∧ ((wayA leaf i n p).2 ≠ 0 → (wayA leaf i n p).1 = []) ∧ (n ≤ 9223372036854775807 → (wayA leaf i n p).1.length ≤ 64) := by
  by_cases h : (pathA i n).2 = 0
  · by_cases hl : (pathA i n).1.length = p.length
    · rw [wayA_ok leaf i n p h hl]
      obtain ⟨h1, h2, h3⟩ := pathA_in i n h
      have hlen := length_upL leaf n.toNat i.toNat 0 n.toNat p (by omega) (by omega) (by omega)
      refine ⟨upL_all leaf hlf n.toNat _ _ _ _ (by omega), fun _ => by dsimp only; omega, .inl rfl, fun e => absurd rfl e, fun hn => ?_⟩
      have := pathL_len 63 i.toNat 0 n.toNat (by omega)
      dsimp only
      omega
    · rw [wayA_len leaf i n p h hl]
      exact ⟨fun _ h => (by cases h), fun e => absurd e (by decide), .inr (.inr rfl), fun _ => rfl, fun _ => by simp⟩
  · rw [wayA_bad leaf i n p h]
    rcases pathA_e i n with e | e
    · exact absurd e h
    · exact ⟨fun _ h => (by cases h), fun e2 => absurd e2 h, .inr (.inl e), fun _ => rfl, fun _ => by simp⟩
theorem fromA_len (leaf : List UInt8) (i n : Int) (p : List (List UInt8)) (hlf : leaf.length = 32) : (fromA leaf i n p).1.length = 32 ∧ ((fromA leaf i n p).2 = 0 ∨ (fromA leaf i n p).2 = 4 ∨ (fromA leaf i n p).2 = 210) := by
  obtain ⟨h1, h2, h3, -, -⟩ := wayA_q leaf i n p hlf
  unfold fromA
  split
  · exact ⟨by simp, h3⟩
  · rename_i h
    have h0 : (wayA leaf i n p).2 = 0 := Decidable.not_not.1 h
    refine ⟨?_, .inl rfl⟩
    have hne := h2 h0
    generalize (wayA leaf i n p).1 = q at h1 hne
    obtain ⟨m, hm⟩ : ∃ m, q.length = m + 1 := ⟨q.length - 1, by omega⟩
    dsimp only
    rw [← lastH_at q m hm, List.getD_eq_getElem?_getD, List.getElem?_eq_getElem (by omega)]
    exact h1 _ (List.getElem_mem _)

set_option maxHeartbeats 4000000 in
set_option maxRecDepth 100000 in
theorem iroot_any (leaf : List UInt8) (i n : Int) (p : List (List UInt8)) (A : Option Addr) (np c : Nat) (w : World) (hlf : leaf.length = 32) (hn : n ≤ 9223372036854775807) (h : Hs w (fun _ => True) A np c p) :
    Calls Try.prog 60 #[.agg (leaf.map B).toArray, .int .i64 i, .int .i64 n, .slice A np c] w fun e w' => e = .returned (.tuple #[.agg ((fromA leaf i n p).1.map B).toArray, .int .i64 (fromA leaf i n p).2]) ∧ Below w.heap.size w w' := by
  obtain ⟨w1, hw1⟩ : ∃ w1, w.alloc (.cells (leaf.map B).toArray 26) = w1 := ⟨_, rfl⟩
  have hb1 : Below w.heap.size w w1 := by rw [← hw1]; exact (Below.refl _ _).alloc (Nat.le_refl _) _
  have k4 : HV w1 w.heap.size leaf := ⟨by rw [← hw1]; exact Blk.new _ _ _, hlf⟩
  have hq := wayA_q leaf i n p hlf
  have hway := fun W (h : Hs W (fun _ => True) A np c p) => way_any leaf i n p A np c W hlf hn h
  have h1 := h.step hb1
  have hs1 := hb1.size
  unfold fromA
  obtain ⟨⟨q, e0⟩, hqe⟩ : ∃ s, wayA leaf i n p = s := ⟨_, rfl⟩
  rw [hqe] at hq hway ⊢
  dsimp only at hq hway ⊢
  obtain ⟨hq1, hq2, -, -, hq4⟩ := hq
  have hq4 := hq4 hn
  have Hw1 := Lib.hid hw1
  have Hway := Lib.hid hway
  have Hq1 := Lib.hid hq1
  clear hw1 hway hq1 hqe h
  by_cases h0 : e0 = 0
  · subst h0
    rw [if_neg (by simp)]
    dsimp only
    have hq2 := hq2 rfl
    obtain ⟨m, hm⟩ : ∃ m, q.length = m + 1 := ⟨q.length - 1, by omega⟩
    obtain ⟨z, hz⟩ : ∃ z, lastH q = z := ⟨_, rfl⟩
    have hat := lastH_at q m hm
    rw [hz] at hat ⊢
    have hzl : z.length = 32 := by
      rw [← hat, List.getD_eq_getElem?_getD, List.getElem?_eq_getElem (by omega)]
      exact Hq1.out _ (List.getElem_mem _)
    have hwm : IntKind.i64.wrap (m : Int) = (m : Int) := IntWalk.i64_in _ (by omega)
    have Hz := Lib.hid hz
    have Hat := Lib.hid hat
    have Hzl := Lib.hid hzl
    have Hm := Lib.hid hm
    have hm64 : m < 64 := by omega
    clear hz hat hzl hq2 hq4
    go_enter Try.func60, Try.ntmps60
    go_wp2_with (first
      | ((with_reducible show wpList _ _ _ (⟨some 8, .alloc _, _, _, _, _⟩ :: _) _ _); rw [Hw1.out]; refine wpList_hnew rfl rfl ?_; intro W2 k8 hb2; simp only [Act.put]; have k42 := k4.step hb2; have hb02 := hb1.trans (hb2.mono hb1.size); have hs2 := hb2.size; have hl8 := k8.lt)
      | ((with_reducible show wpList _ _ _ (⟨some 13, .load _ _, _, _, _, _⟩ :: _) _ _); refine wpList_hload (.tmp 4) (by kernel_rfl) rfl k42 rfl ?_; simp only [Act.put]))
    clear k4
    refine (Hway.out _ (h1.step hb2)).mono ?_
    rintro e W3 ⟨v, rfl, ho, hb3⟩
    rw [Hm.out] at ho
    obtain ⟨gq, cq, rfl⟩ := owns_some ho (by omega)
    obtain ⟨A', c', hv, hs⟩ := St.of_owns ho Hm.out Hq1.out
    cases hv
    obtain ⟨b, o, hA, -, -, hld⟩ := hs.at_ (by omega)
    cases hA
    obtain ⟨hld, -, -⟩ := hld m (by omega)
    rw [Hat.out] at hld
    have hroom := hs.sl.room
    have hmx := hs.sl.max
    unfold maxLen at hmx
    have k83 := k8.step hb3
    have hb03 := hb02.trans (hb3.mono hb02.size)
    clear hs ho k8 k42 hb3 hb2 hb02 h1 hb1
    go_wp2_with (first
      | ((with_reducible show wpList _ _ _ (⟨some 30, .load _ _, _, _, _, _⟩ :: _) _ _); refine wpList_runG (by kernel_rfl) (.agg (z.map B).toArray) _ (run_load_op 26 (.tmp 29) rfl gq (0 + m * 34 + 2) (by simp [Act.eval]) _ hld) ?_; simp only [Act.put])
      | ((with_reducible show wpList _ _ _ (⟨none, .store _ (.tmp 8) _, _, _, _, _⟩ :: _) _ _); refine wpList_hset (.tmp 8) (.tmp 30) rfl rfl k83 rfl rfl Hzl.out ?_; intro W4 k9 hb4 hx; clear hx; simp only [Act.put]))
    refine bodyPost_ret (tuple_cellT rfl _ _ w1.heap.size (z.map B).toArray _ _ rfl k9.blk Try.underlying26 (by rw [show (z.map B).toArray.size = 32 by simp [k9.len]]; exact info26)) rfl ⟨rfl, hb03.trans (hb4.mono (by omega))⟩
  · rw [if_pos h0]
    dsimp only
    have hne : (e0 != 0) = true := by simpa using h0
    obtain ⟨z, hz⟩ : ∃ z, List.replicate 32 (0 : UInt8) = z := ⟨_, rfl⟩
    have hzl : z.length = 32 := by rw [← hz]; rfl
    rw [hz]
    have Hz := Lib.hid hz
    have Hzl := Lib.hid hzl
    clear hz hzl h0 hq2 hq4
    go_enter Try.func60, Try.ntmps60
    go_wp2_with (first
      | ((with_reducible show wpList _ _ _ (⟨some 8, .alloc _, _, _, _, _⟩ :: _) _ _); rw [Hw1.out]; refine wpList_hnew rfl rfl ?_; intro W2 k8 hb2; simp only [Act.put]; have k42 := k4.step hb2; have hb02 := hb1.trans (hb2.mono hb1.size); have hs2 := hb2.size; have hl8 := k8.lt)
      | ((with_reducible show wpList _ _ _ (⟨some 13, .load _ _, _, _, _, _⟩ :: _) _ _); refine wpList_hload (.tmp 4) (by kernel_rfl) rfl k42 rfl ?_; simp only [Act.put]))
    clear k4
    refine (Hway.out _ (h1.step hb2)).mono ?_
    rintro e W3 ⟨v, rfl, ho, hb3⟩
    have k83 := k8.step hb3
    have hb03 := hb02.trans (hb3.mono hb02.size)
    clear ho k8 k42 hb3 hb2 hb02 h1 hb1
    go_wp2_with (first
      | ((with_reducible show wpList _ _ _ (⟨some 22, .build _ _, _, _, _, _⟩ :: _) _ _); refine wpList_run0 rfl (.agg (z.map B).toArray) (by rw [← Hz.out]; kernel_rfl) ?_; simp only [Act.put])
      | ((with_reducible show wpList _ _ _ (⟨none, .store _ (.tmp 8) _, _, _, _, _⟩ :: _) _ _); refine wpList_hset (.tmp 8) (.tmp 22) rfl rfl k83 rfl rfl Hzl.out ?_; intro W4 k9 hb4 hx; clear hx; simp only [Act.put]))
    refine bodyPost_ret (tuple_cellT rfl _ _ w1.heap.size (z.map B).toArray _ _ rfl k9.blk Try.underlying26 (by rw [show (z.map B).toArray.size = 32 by simp [k9.len]]; exact info26)) rfl ⟨rfl, hb03.trans (hb4.mono (by omega))⟩

set_option maxHeartbeats 4000000 in
set_option maxRecDepth 100000 in
theorem icheck_any (leaf : List UInt8) (i n : Int) (root : List UInt8) (p : List (List UInt8)) (A : Option Addr) (np c : Nat) (w : World) (hlf : leaf.length = 32) (hrl : root.length = 32) (hn : n ≤ 9223372036854775807) (h : Hs w (fun _ => True) A np c p) :
    Calls Try.prog 29 #[.agg (leaf.map B).toArray, .int .i64 i, .agg (.int .i64 n :: root.map B).toArray, .slice A np c] w fun e w' => e = .returned (.int .i64 (takenA leaf i n root p)) ∧ Below w.heap.size w w' := by
  obtain ⟨w2, hw2⟩ : ∃ w2, (w.alloc (.cells (leaf.map B).toArray 26)).alloc (.cells (.int .i64 n :: root.map B).toArray 28) = w2 := ⟨_, rfl⟩
  have hb2 : Below w.heap.size w w2 := by rw [← hw2]; exact ((Below.refl _ _).alloc (Nat.le_refl _) _).alloc (by simp) _
  have k4 : HV w2 w.heap.size leaf := ⟨by rw [← hw2]; exact (Blk.new _ _ _).alloc _, hlf⟩
  have k6 : Blk w2 (w.heap.size + 1) 28 (.int .i64 n :: root.map B).toArray := by rw [← hw2]; exact Blk.new' _ _ _ _ (by simp)
  have c6 : w2.cell? ⟨w.heap.size + 1, 0, none⟩ = some (.int .i64 n) := by rw [k6.cell]; rfl
  have hfl := fromA_len leaf i n p hlf
  have hro := fun W (h : Hs W (fun _ => True) A np c p) => iroot_any leaf i n p A np c W hlf hn h
  have h1 := h.step hb2
  unfold takenA
  obtain ⟨⟨r, e0⟩, hre⟩ : ∃ s, fromA leaf i n p = s := ⟨_, rfl⟩
  rw [hre] at hfl hro ⊢
  dsimp only at hfl hro ⊢
  obtain ⟨hfl, -⟩ := hfl
  have Hw2 := Lib.hid hw2
  have Hro := Lib.hid hro
  have Hfl := Lib.hid hfl
  have Hrl := Lib.hid hrl
  clear hw2 hro hre h hfl hrl
  have hld : ∀ W, Blk W (w.heap.size + 1) 28 (.int .i64 n :: root.map B).toArray → (Instr.loadAt 26 (.pointer (some ⟨w.heap.size + 1, 1, none⟩))).run Try.prog W = .ok (.agg (root.map B).toArray) W := fun W k =>
    run_load_agg (agg26 _) (size26 _) _ 1 (root.map B) (by simp [Hrl.out]) fun j u hu => by
      rw [k.cell, List.getElem?_toArray, show 1 + j = j + 1 by omega, List.getElem?_cons_succ]
      exact hu
  have Hld := Lib.hid hld
  clear hld
  by_cases h0 : e0 = 0
  · subst h0
    rw [if_neg (by simp)]
    by_cases hrr : r = root
    · rw [if_neg (by simp [hrr])]
      have Hrr := Lib.hid hrr
      clear hrr
      go_enter Try.func29, Try.ntmps29
      go_wp2_with (first
        | ((with_reducible show wpList _ _ _ (⟨some 12, .load _ _, _, _, _, _⟩ :: _) _ _); rw [Hw2.out]; refine wpList_hload (.tmp 4) (by kernel_rfl) rfl k4 rfl ?_; simp only [Act.put]))
      refine (Hro.out _ h1).mono ?_
      rintro e W3 ⟨rfl, hb3⟩
      replace k6 := k6.step hb3
      have hb03 := hb2.trans (hb3.mono hb2.size)
      clear hb3 c6 k4 hb2 h1
      go_wp2_with (first
        | ((with_reducible show wpList _ _ _ (⟨some 9, .alloc _, _, _, _, _⟩ :: _) _ _); refine wpList_hvar (.tmp 9) (.tmp 18) rfl rfl rfl rfl rfl rfl Hfl.out ?_; intro W4 k9 hb4; simp only [Act.put])
        | ((with_reducible show wpList _ _ _ (⟨some 23, .load _ _, _, _, _, _⟩ :: _) _ _); refine wpList_hload (.tmp 9) (by kernel_rfl) rfl k9 rfl ?_; simp only [Act.put])
        | ((with_reducible show wpList _ _ _ (⟨some 25, .load _ _, _, _, _, _⟩ :: _) _ _); refine wpList_runG (by kernel_rfl) (.agg (root.map B).toArray) _ (run_load_op 26 (.tmp 24) rfl _ 1 rfl _ (Hld.out _ (k6.step hb4))) ?_; simp only [Act.put])
        | ((with_reducible show wpList _ _ _ (⟨some 26, .binOp _ _ _ _ _, _, _, _, _⟩ :: _) _ _); refine wpList_runG (by kernel_rfl) (.bool false) _ (run_neq26_f (.tmp 23) (.tmp 25) _ r root rfl rfl rfl Hfl.out Hrl.out Hrr.out _) ?_; simp only [Act.put]))
      go_ret
      exact ⟨rfl, hb03.trans (hb4.mono hb03.size)⟩
    · rw [if_pos hrr]
      have Hrr := Lib.hid hrr
      clear hrr
      go_enter Try.func29, Try.ntmps29
      go_wp2_with (first
        | ((with_reducible show wpList _ _ _ (⟨some 12, .load _ _, _, _, _, _⟩ :: _) _ _); rw [Hw2.out]; refine wpList_hload (.tmp 4) (by kernel_rfl) rfl k4 rfl ?_; simp only [Act.put]))
      refine (Hro.out _ h1).mono ?_
      rintro e W3 ⟨rfl, hb3⟩
      replace k6 := k6.step hb3
      have hb03 := hb2.trans (hb3.mono hb2.size)
      clear hb3 c6 k4 hb2 h1
      go_wp2_with (first
        | ((with_reducible show wpList _ _ _ (⟨some 9, .alloc _, _, _, _, _⟩ :: _) _ _); refine wpList_hvar (.tmp 9) (.tmp 18) rfl rfl rfl rfl rfl rfl Hfl.out ?_; intro W4 k9 hb4; simp only [Act.put])
        | ((with_reducible show wpList _ _ _ (⟨some 23, .load _ _, _, _, _, _⟩ :: _) _ _); refine wpList_hload (.tmp 9) (by kernel_rfl) rfl k9 rfl ?_; simp only [Act.put])
        | ((with_reducible show wpList _ _ _ (⟨some 25, .load _ _, _, _, _, _⟩ :: _) _ _); refine wpList_runG (by kernel_rfl) (.agg (root.map B).toArray) _ (run_load_op 26 (.tmp 24) rfl _ 1 rfl _ (Hld.out _ (k6.step hb4))) ?_; simp only [Act.put])
        | ((with_reducible show wpList _ _ _ (⟨some 26, .binOp _ _ _ _ _, _, _, _, _⟩ :: _) _ _); refine wpList_runG (by kernel_rfl) (.bool true) _ (run_neq26_t (.tmp 23) (.tmp 25) _ r root rfl rfl rfl Hfl.out Hrl.out Hrr.out _) ?_; simp only [Act.put]))
      go_ret
      exact ⟨rfl, hb03.trans (hb4.mono hb03.size)⟩
  · rw [if_pos h0]
    have h0i : ¬ e0 = 0 := h0
    have hne : (e0 == 0) = false := by simpa using h0
    go_enter Try.func29, Try.ntmps29
    go_wp2_with (first
      | ((with_reducible show wpList _ _ _ (⟨some 12, .load _ _, _, _, _, _⟩ :: _) _ _); rw [Hw2.out]; refine wpList_hload (.tmp 4) (by kernel_rfl) rfl k4 rfl ?_; simp only [Act.put]))
    refine (Hro.out _ h1).mono ?_
    rintro e W3 ⟨rfl, hb3⟩
    replace k6 := k6.step hb3
    have hb03 := hb2.trans (hb3.mono hb2.size)
    clear hb3 c6 k4 hb2 h1
    go_wp2_with (first
      | ((with_reducible show wpList _ _ _ (⟨some 9, .alloc _, _, _, _, _⟩ :: _) _ _); refine wpList_hvar (.tmp 9) (.tmp 18) rfl rfl rfl rfl rfl rfl Hfl.out ?_; intro W4 k9 hb4; simp only [Act.put]))
    go_ret
    exact ⟨rfl, hb03.trans (hb4.mono hb03.size)⟩
end Go.Proofs.Ytobcfgbkhgkelaa
/- The way up of a right proof (plain). -/
namespace Go.Proofs.Ytobcfgbkhgkelaa
open Go Go.RowKit

abbrev stepD : StepV := ((0, 0), [])
/-- the ranges of a way up: from the entry to the whole, each one around the one ahead, with one end of it -/
structure UpOk (i a b : Nat) (l : List StepV) : Prop where
  pos : 0 < l.length
  first : (l.getD 0 stepD).1 = (i, i + 1)
  last : (l.getD (l.length - 1) stepD).1 = (a, b)
  step : ∀ k, k + 1 < l.length → (l.getD (k + 1) stepD).1.1 ≤ (l.getD k stepD).1.1 ∧ (l.getD k stepD).1.2 ≤ (l.getD (k + 1) stepD).1.2 ∧ (l.getD (k + 1) stepD).1 ≠ (l.getD k stepD).1 ∧ ((l.getD (k + 1) stepD).1.1 = (l.getD k stepD).1.1 ∨ (l.getD (k + 1) stepD).1.2 = (l.getD k stepD).1.2)
theorem getD_append_l {α : Type} (l m : List α) (k : Nat) (d : α) (h : k < l.length) : (l ++ m).getD k d = l.getD k d := by
  rw [List.getD_eq_getElem?_getD, List.getD_eq_getElem?_getD, List.getElem?_append_left h]
theorem getD_append_last {α : Type} (l : List α) (x d : α) : (l ++ [x]).getD l.length d = x := by
  rw [List.getD_eq_getElem?_getD, List.getElem?_append_right (Nat.le_refl _), Nat.sub_self]; rfl
theorem UpOk.snoc {i a b a' b' : Nat} {l : List StepV} (h : UpOk i a b l) (z : List UInt8) (h1 : a' ≤ a) (h2 : b ≤ b') (h3 : (a', b') ≠ (a, b)) (h4 : a' = a ∨ b' = b) : UpOk i a' b' (l ++ [((a', b'), z)]) := by
  have hl := h.pos
  refine ⟨by simp, ?_, ?_, fun k hk => ?_⟩
  · rw [getD_append_l _ _ _ _ hl]; exact h.first
  · rw [List.length_append, show l.length + [((a', b'), z)].length - 1 = l.length from rfl, getD_append_last]
  · rw [List.length_append, List.length_singleton] at hk
    by_cases hkl : k + 1 < l.length
    · rw [getD_append_l _ _ _ _ hkl, getD_append_l _ _ _ _ (by omega)]
      exact h.step k hkl
    · have hk1 : k + 1 = l.length := by omega
      have e : k = l.length - 1 := by omega
      rw [hk1, getD_append_last, getD_append_l _ _ _ _ (by omega), e, h.last]
      exact ⟨h1, h2, h3, h4⟩
theorem upL_ok (leaf : List UInt8) (d : Nat) : ∀ (i a b : Nat) (p : List (List UInt8)), b - a ≤ d → a ≤ i → i < b → UpOk i a b (upL leaf i a b p) := by
  induction d with
  | zero => intro i a b p h h1 h2; omega
  | succ d ih =>
    intro i a b p h h1 h2
    by_cases hs : b - a < 2
    · rw [upL_small leaf i a b p hs]
      obtain rfl : a = i := by omega
      obtain rfl : b = a + 1 := by omega
      exact ⟨by simp, rfl, rfl, fun k hk => by simp at hk⟩
    · have hl := splitN_lt (b - a) (by omega)
      have hp := splitN_pos (b - a) (by omega)
      by_cases hi : i < a + splitN (b - a)
      · rw [upL_left leaf i a b p (by omega) hi]
        exact (ih i a (a + splitN (b - a)) p.dropLast (by omega) h1 hi).snoc _ (Nat.le_refl _) (by omega) (fun e => by have := (Prod.mk.inj e).2; omega) (.inl rfl)
      · rw [upL_right leaf i a b p (by omega) hi]
        exact (ih i (a + splitN (b - a)) b p.dropLast (by omega) (by omega) h2).snoc _ (by omega) (Nat.le_refl _) (fun e => by have := (Prod.mk.inj e).1; omega) (.inr rfl)

theorem getD_mem {α : Type} (l : List α) (k : Nat) (d : α) (h : k < l.length) : l.getD k d ∈ l := by
  rw [List.getD_eq_getElem?_getD, List.getElem?_eq_getElem h]
  exact List.getElem_mem _
theorem stretchL_all (hs : List (List UInt8)) : stretchL hs 0 hs.length = rootL hs := by
  unfold stretchL
  rw [List.drop_zero, Nat.sub_zero, List.take_of_length_le (Nat.le_refl _)]
section
variable (hs : List (List UInt8)) (i : Nat) (hi : i < hs.length)
include hi
theorem wayA_right : wayA (hs.getD i []) (i : Int) (hs.length : Int) (rootsN hs i) = (upL (hs.getD i []) i 0 hs.length (rootsN hs i), 0) := by
  have e : pathA (i : Int) (hs.length : Int) = (pathL i 0 hs.length, 0) := by
    unfold pathA
    rw [if_neg (by omega), Int.toNat_natCast, Int.toNat_natCast]
  rw [wayA_ok _ _ _ _ (by rw [e]) (by rw [e, length_rootsN]), Int.toNat_natCast, Int.toNat_natCast]
theorem length_right : (upL (hs.getD i []) i 0 hs.length (rootsN hs i)).length = (rootsN hs i).length + 1 := by
  rw [length_rootsN, length_upL (hs.getD i []) hs.length i 0 hs.length (rootsN hs i) (by omega) (by omega) hi]
theorem upL_at (k : Nat) (hk : k < (rootsN hs i).length + 1) : ((upL (hs.getD i []) i 0 hs.length (rootsN hs i)).getD k stepD).2 = stretchL hs ((upL (hs.getD i []) i 0 hs.length (rootsN hs i)).getD k stepD).1.1 ((upL (hs.getD i []) i 0 hs.length (rootsN hs i)).getD k stepD).1.2 := by
  have hl := length_right hs i hi
  exact (upL_roots hs hs.length i 0 hs.length (by omega) (by omega) hi (Nat.le_refl _) _ (getD_mem (upL (hs.getD i []) i 0 hs.length (rootsN hs i)) k stepD (by omega))).1
theorem fromA_right : fromA (hs.getD i []) (i : Int) (hs.length : Int) (rootsN hs i) = (rootL hs, 0) := by
  unfold fromA
  rw [wayA_right hs i hi, if_neg (by simp)]
  have hl := length_right hs i hi
  have hok := upL_ok (hs.getD i []) hs.length i 0 hs.length (rootsN hs i) (by omega) (by omega) hi
  have hat := upL_at hs i hi (rootsN hs i).length (by omega)
  have e := lastH_at _ _ hl
  have hla := hok.last
  rw [hl, Nat.add_sub_cancel] at hla
  rw [hla] at hat
  rw [← stretchL_all hs, ← hat, e]
theorem takenA_right : takenA (hs.getD i []) (i : Int) (hs.length : Int) (rootL hs) (rootsN hs i) = 0 := by
  unfold takenA
  rw [fromA_right hs i hi, if_neg (by simp), if_neg (by simp)]
/-- a proof with a hash more, or less, is none -/
theorem takenA_long (leaf root : List UInt8) (q : List (List UInt8)) (h : q.length ≠ (rootsN hs i).length) : takenA leaf (i : Int) (hs.length : Int) root q = 210 := by
  have e : pathA (i : Int) (hs.length : Int) = (pathL i 0 hs.length, 0) := by
    unfold pathA
    rw [if_neg (by omega), Int.toNat_natCast, Int.toNat_natCast]
  unfold takenA fromA
  rw [wayA_len leaf i hs.length q (by rw [e]) (by rw [e, ← length_rootsN]; exact fun e => h e.symm)]
  rfl
end
end Go.Proofs.Ytobcfgbkhgkelaa
/- hash.Leaves, notaryref09.Leaves. -/
namespace Go.Proofs.Ytobcfgbkhgkelaa
open Go Go.RowKit

def leavesL (ls : List (List UInt8)) : List (List UInt8) := ls.map hLeaf
theorem leavesL_all (ls : List (List UInt8)) : H32 (leavesL ls) := fun h hh => by
  obtain ⟨l, _, rfl⟩ := List.mem_map.1 hh
  exact length_hLeaf l

set_option maxHeartbeats 1000000 in
set_option maxRecDepth 100000 in
theorem rleaves_any (ls : List (List UInt8)) (A : Option Addr) (n c : Nat) (w : World) (vs : List Value) (h : SlS w A n c vs ls) (hm : n + ls.flatten.length ≤ 1073741824) :
    Calls Try.prog 24 #[.slice A n c] w fun e w' => ∃ v, e = .returned v ∧ w'.ownsRow w.heap.size 26 32 v n (hcells (leavesL ls)) ∧ Below w.heap.size w w' := by
  have Hh := Lib.hid h
  have hroom := h.out.room
  have hmax := h.out.max
  unfold maxLen at hmax
  clear h
  go_enter Try.func24, Try.ntmps24
  go_wp2_with fail
  go_loopw [3, 4] (fun v i wr => ∃ k : Nat, k ≤ n ∧ i = .int .i64 k ∧ wr.ownsRow w.heap.size 26 32 v k (hcells (leavesL (ls.take k))) ∧ Below w.heap.size w wr) (fun _ i _ => n - (intOf i).toNat)
  case atStart => exact ⟨0, by omega, rfl, World.ownsRow_nil _ _ _ _, Below.refl _ _⟩
  case round =>
    obtain ⟨k, hk, rfl, ho, hB⟩ := hrel
    by_cases hlt : k < n
    · have hkl : k < ls.length := by rw [Hh.out.len]; exact hlt
      obtain ⟨Ai, ci, hv, hs⟩ := Hh.out.ins k hkl
      obtain ⟨b0, o0, hA, hb0, _, hcell⟩ := Hh.out.out.at_ (by omega) (by decide)
      subst hA
      have hce : wr.cell? ⟨b0, o0 + k, none⟩ = some (.slice Ai (ls[k]).length ci) := by
        rw [hB.cell (p := ⟨b0, o0 + k, none⟩) hb0]; exact hcell k _ hv
      have hs2 := (hs.below hB (fun _ _ h => h)).all
      have hfl3 := flatten_take_le ls (k + 1)
      rw [flatten_take_succ ls k hkl, List.length_append] at hfl3
      have hleaf := hrleaf_any (ls[k]) Ai (ls[k]).length ci wr hs2 (by omega)
      obtain ⟨x, hx⟩ : ∃ x, hLeaf (ls[k]) = x := ⟨_, rfl⟩
      have hxl : x.length = 32 := by rw [← hx]; exact length_hLeaf _
      rw [hx] at hleaf
      have hsn : hcells (leavesL (ls.take (k + 1))) = hcells (leavesL (ls.take k)) ++ hcells [x] := by
        rw [List.take_succ_eq_append_getElem hkl, leavesL, List.map_append, hcells_append, ← hx]; rfl
      have Hx := Lib.hid hx
      have Hxl := Lib.hid hxl
      have Hsn := Lib.hid hsn
      clear hx hxl hsn hv hs hs2
      generalize (ls[k]).length = m at *
      go_wp2_with fail
      refine hleaf.mono ?_
      rintro e w2 ⟨rfl, hb2⟩
      have h32 : H32 [x] := by intro h hh; rw [List.mem_singleton.1 hh]; exact Hxl.out
      have hbA : Below w2.heap.size w2 (w2.alloc (.cells (hcells [x]).toArray 26)) := (Below.refl _ _).alloc (Nat.le_refl _) _
      have hB2 := (hB.trans (hb2.mono hB.size)).trans (hbA.mono (Nat.le_trans hB.size hb2.size))
      have ho2 := owns_step (owns_step ho hb2) hbA
      obtain ⟨v3, w3, hr3, ho3, hg3, -⟩ := append_slv (ty := 33) Try.underlying33 info26z (by simp [Value.cells]) (by decide) ho2 (Hs.lit w2 [x] h32 (by simp) 1 rfl).sl (oneB _) (by unfold maxLen; omega) (by omega) hB2.size
      rw [← Hsn.out] at ho3
      have hB3 := hB2.grown hg3 hB2.size (fun k hk => (ho2.lt k hk).1)
      have Hr3 := Lib.hid hr3
      clear hr3 hg3
      go_wp2_with (first
        | ((with_reducible show wpList _ _ _ (⟨some 17, .buildSlice _ _ _, _, _, _, _⟩ :: _) _ _); refine wpList_run rfl _ _ (run_lit_op [x] h32 (by simp) (by simp) 1 _ rfl (by simp [Act.eval]) rfl _) ?_; simp only [Act.put])
        | ((with_reducible show wpList _ _ _ (⟨some 18, .call _, _, _, _, _⟩ :: _) _ _); refine wpList_run rfl v3 w3 (run_append_op (.tmp 11) (.tmp 17) 33 rfl _ _ rfl rfl Hr3.out) ?_; simp only [Act.put]))
      go_roundw
      case rel => exact ⟨k + 1, by omega, by go_num, ho3, hB3⟩
      case measure => simp [intOf]; omega
    · have hkn : k = n := by omega
      subst hkn
      rw [List.take_of_length_le (by rw [Hh.out.len]; exact Nat.le_refl _)] at ho
      go_wp2_with fail
      go_ret
      exact ⟨_, rfl, ho, hB⟩
end Go.Proofs.Ytobcfgbkhgkelaa
