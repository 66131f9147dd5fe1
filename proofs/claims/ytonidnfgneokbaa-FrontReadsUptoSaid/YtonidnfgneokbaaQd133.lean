/- slices.Grow, slices.Concat; what is hashed at a node. -/
import Derived.Test.YtonidnfgneokbaaQd122
import Derived.Lib.AppendZeros
namespace Go.Proofs.Ytonidnfgneokbaa
open Go Go.RowKit Go.Shelf
attribute [local go_sem] Oper.semAt_some

theorem run_append2_op {P : Program} {ρ : Operand → Value} {o : Oper} {w w' : World} {v : Value} (x y : Operand) (t u : TypeId) (ho : o.op = .call { callee := .builtin .append, args := #[x, y], argTypes := #[t, u] }) (vx vy : Value) (hx : ρ x = vx) (hy : ρ y = vy)
    (h : (Builtin.append_ #[t, u] o.type #[vx, vy]).run P w = .ok v w') : (execOp ρ o).run P w = .ok (.value v) w' := by
  unfold execOp
  simp only [ho, resolve, invoke, builtin, Sem.run_bind, Sem.run_pure, Result.andThen_ok, List.map_toArray, List.map_cons, List.map_nil, hx, hy, h]
theorem sizeB8 : ∀ w : World, (sizeOf (Try.prog.elem 23)).run Try.prog w = .ok 1 w := fun _ => by kernel_rfl
theorem sliceB8 : Try.prog.underlying 23 = some (.slice (Try.prog.elem 23)) := by kernel_rfl
theorem run_slice_hi8 {ρ : Operand → Value} {o : Oper} (x y : Operand) (ho : o.op = .slice 23 x none (some y) none) (A : Option Addr) (n c k : Nat) (hx : ρ x = .slice A n c) (hy : ρ y = .int .i64 (k : Int)) (hk : k ≤ c) (W : World) :
    (execOp ρ o).run Try.prog W = .ok (.value (.slice A k c)) W := by
  unfold execOp
  simp only [ho, hx, hy, Option.map_some, Option.map_none, run_slice_high sliceB8 sizeB8 A n c k hk W, Sem.run_bind, Sem.run_pure, Result.andThen_ok]

set_option maxHeartbeats 1000000 in
set_option maxRecDepth 100000 in
theorem grow8_any (m : Nat) (w : World) (hm : m ≤ 1099511627776) :
    Calls Try.prog 150 #[.slice none 0 0, .int .i64 (m : Int)] w fun e w' => ∃ v, e = .returned v ∧ w'.ownsRow w.heap.size 5 1 v 0 [] ∧ Below w.heap.size w w' := by
  have hd : decide ((m : Int) < 0) = false := by simp
  have hw : IntKind.i64.wrap (m : Int) = (m : Int) := IntWalk.i64_in _ (by omega)
  by_cases h0 : m = 0
  · subst h0
    go_enter Try.func150, Try.ntmps150
    go_wp2_with fail
    go_ret
    exact ⟨_, rfl, World.ownsRow_nil _ _ _ _, Below.refl _ _⟩
  · have hd1 : decide ((0 : Int) < (m : Int)) = true := by simp; omega
    have hd2 : 0 < m := by omega
    obtain ⟨i, hi⟩ : ∃ i, Try.prog.info? 5 = some i := Option.isSome_iff_exists.1 (by kernel_rfl)
    have hz : i.zero = some (.int .u8 0) := by
      have : (Try.prog.info? 5).bind (·.zero) = some (.int .u8 0) := by kernel_rfl
      rw [hi] at this; exact this
    have hs : i.size = 1 := by
      have : (Try.prog.info? 5).map (·.size) = some 1 := by kernel_rfl
      rw [hi] at this; exact Option.some.inj this
    have hby : i.bytes = 1 := by
      have : (Try.prog.info? 5).map (·.bytes) = some 1 := by kernel_rfl
      rw [hi] at this; exact Option.some.inj this
    have hr := Lib.run_append_nil_zeros (P := Try.prog) w 23 3 23 5 i _ .i64 .i64 Try.underlying23 Try.underlying3 hi hz m hd2 (by omega) (by omega) (by rw [hby]; omega)
    obtain ⟨cap, hcap⟩ : ∃ cap, grownCap w m 0 5 = cap := ⟨_, rfl⟩
    have hcm : cap ≤ maxLen := by rw [← hcap]; exact grownCap_le_maxLen w m 0 _ (by unfold maxLen; omega)
    have hcg : m ≤ cap := by rw [← hcap]; exact grownCap_ge w m 0 _
    rw [hcap] at hr
    obtain ⟨Z, hZ⟩ : ∃ Z, Builtin.zeroCells (Value.int .u8 0).cells m ++ Builtin.zeroCells (Value.int .u8 0).cells (cap - m) = Z := ⟨_, rfl⟩
    have hZs : Z.size = cap := by rw [← hZ]; simp [size_zeroCells, Value.cells]; omega
    rw [hZ] at hr
    have hmk := World.ownsRow_made (base := w.heap.size) (e := 5) (size := 1) w.drew Z cap (Nat.le_refl _) hcm (by omega)
    have hb : Below w.heap.size w (w.drew.alloc (.cells Z 5)) := (Below.refl _ _).drew.alloc (Nat.le_refl _) _
    obtain ⟨w1, hw1⟩ : ∃ w1, w.drew.alloc (.cells Z 5) = w1 := ⟨_, rfl⟩
    rw [hw1] at hr hmk hb
    unfold maxLen at hcm
    have Hr := Lib.hid hr
    have Hcap := Lib.hid hcap
    have hcap0 : 0 ≤ cap := Nat.zero_le _
    clear hr hz hs hby hi hcap hZ hZs hw1
    go_enter Try.func150, Try.ntmps150
    go_wp2_with (first
      | ((with_reducible show wpList _ _ _ (⟨some 20, .slice _ _ _ _ _, _, _, _, _⟩ :: _) _ _); refine wpList_run0 rfl (.slice none 0 0) (run_slice_hi8 (.tmp 17) (.tmp 19) rfl none 0 0 0 rfl rfl (by omega) _) ?_; simp only [Act.put])
      | ((with_reducible show wpList _ _ _ (⟨some 22, .call _, _, _, _, _⟩ :: _) _ _); refine wpList_run rfl (.slice (some ⟨w.heap.size, 0, none⟩) m cap) w1 (run_append2_op (.tmp 20) (.tmp 21) 23 3 rfl _ _ rfl rfl Hr.out) ?_; simp only [Act.put])
      | ((with_reducible show wpList _ _ _ (⟨some 25, .slice _ _ _ _ _, _, _, _, _⟩ :: _) _ _); refine wpList_run0 rfl (.slice (some ⟨w.heap.size, 0, none⟩) 0 cap) (run_slice_hi8 (.tmp 22) (.tmp 24) rfl (some ⟨w.heap.size, 0, none⟩) m cap 0 rfl rfl (by omega) _) ?_; simp only [Act.put]))
    go_ret
    exact ⟨_, rfl, hmk, hb⟩

theorem flatB_succ (ls : List (List UInt8)) (k : Nat) (h : k < ls.length) : (ls.take (k + 1)).flatten = (ls.take k).flatten ++ ls.getD k [] := by
  rw [List.take_add_one, List.getElem?_eq_getElem h, List.flatten_append, List.getD_eq_getElem?_getD, List.getElem?_eq_getElem h]
  simp
theorem flatB_le (ls : List (List UInt8)) (k : Nat) : (ls.take k).flatten.length ≤ ls.flatten.length := by
  conv => rhs; rw [← List.take_append_drop k ls, List.flatten_append, List.length_append]
  omega
set_option maxHeartbeats 2000000 in
set_option maxRecDepth 100000 in
theorem concat8_any (ls : List (List UInt8)) (A : Option Addr) (n c : Nat) (w : World) (h : Es w (fun _ => True) A n c ls) (hT : ls.flatten.length ≤ 1099511627776) :
    Calls Try.prog 139 #[.slice A n c] w fun e w' => ∃ v, e = .returned v ∧ Fresh w w' v ls.flatten := by
  have hroom := h.room
  have hmx := h.max
  unfold maxLen at hmx
  have hlen := h.len
  have Hlen := Lib.hid hlen
  have hle := flatB_le ls
  have Hle := Lib.hid hle
  clear hle hlen
  go_enter Try.func139, Try.ntmps139
  go_wp2_with fail
  go_loopw [3, 5, 11] (fun v3 _ v11 wr => ∃ k : Nat, k ≤ n ∧ v11 = .int .i64 (k : Int) ∧ v3 = .int .i64 ((ls.take k).flatten.length : Int) ∧ wr = w) (fun _ _ v11 _ => n - (intOf v11).toNat)
  case atStart => exact ⟨0, Nat.zero_le _, rfl, rfl, rfl⟩
  case round =>
    obtain ⟨k, hk, rfl, rfl, rfl⟩ := hrel
    by_cases hkn : k < n
    · have hd : decide ((k : Int) < (n : Int)) = true := by simp; omega
      have hwk : IntKind.i64.wrap ((k : Int) + 1) = (k : Int) + 1 := IntWalk.i64_in _ (by omega)
      obtain ⟨b, o, rfl, -, -, hat⟩ := h.at_ (by omega)
      obtain ⟨Ai, ci, hc, -⟩ := hat k hkn
      have hf := flatB_succ ls k (by rw [Hlen.out]; exact hkn)
      have hle1 := Hle.out (k + 1)
      rw [hf, List.length_append] at hle1
      obtain ⟨q, hq⟩ : ∃ q, (ls.take k).flatten.length = q := ⟨_, rfl⟩
      obtain ⟨m, hm⟩ : ∃ m, (ls.getD k []).length = m := ⟨_, rfl⟩
      rw [hm] at hc hle1
      rw [hq] at hle1 ⊢
      have hws : IntKind.i64.wrap ((q : Int) + (m : Int)) = (q : Int) + (m : Int) := IntWalk.i64_in _ (by omega)
      have hneg : decide ((q : Int) + (m : Int) < 0) = false := by simp; omega
      have hneg2 : ¬ ((q : Int) + (m : Int) < 0) := by omega
      have Hf := Lib.hid hf
      have Hq := Lib.hid hq
      have Hm := Lib.hid hm
      clear hf hq hm hat
      go_wp2_with fail
      go_roundw
      case rel => exact ⟨k + 1, by omega, by go_num, by rw [Hf.out, List.length_append, Hq.out, Hm.out]; rfl, by first | rfl | trivial⟩
      case measure => simp [intOf]; omega
    · obtain rfl : n = k := by omega
      have hd : decide ((n : Int) < (n : Int)) = false := by simp
      have hTn : (ls.take n).flatten.length ≤ 1099511627776 := Nat.le_trans (flatB_le ls n) hT
      obtain ⟨T, hTe⟩ : ∃ T, (ls.take n).flatten.length = T := ⟨_, rfl⟩
      rw [hTe] at hTn ⊢
      have hgr := grow8_any T wr hTn
      have Hgr := Lib.hid hgr
      clear hgr hTe
      go_wp2_with fail
      refine Hgr.out.mono ?_
      rintro e w1 ⟨v1, rfl, ho1, hb1⟩
      go_wp2_with fail
      go_loopw [6, 8, 27] (fun v6 _ v27 W => ∃ (k : Nat) (v : Value), k ≤ n ∧ v27 = .int .i64 (k : Int) ∧ v = v6 ∧ W.ownsRow wr.heap.size 5 1 v (ls.take k).flatten.length ((ls.take k).flatten.map B) ∧ Below wr.heap.size wr W) (fun _ _ v27 _ => n - (intOf v27).toNat)
      case atStart => exact ⟨0, _, Nat.zero_le _, rfl, rfl, ho1, hb1⟩
      case round =>
        clear ho1 hb1
        rename_i W _ _ _ _
        obtain ⟨k, v6, hk, rfl, rfl, ho, hb⟩ := hrel
        by_cases hkn : k < n
        · have hd : decide ((k : Int) < (n : Int)) = true := by simp; omega
          have hwk : IntKind.i64.wrap ((k : Int) + 1) = (k : Int) + 1 := IntWalk.i64_in _ (by omega)
          obtain ⟨b, o, rfl, -, -, hat⟩ := (h.step hb).at_ (by omega)
          obtain ⟨Ai, ci, hc, hsl⟩ := hat k hkn
          have hf := flatB_succ ls k (by rw [Hlen.out]; exact hkn)
          have hle1 := Hle.out (k + 1)
          rw [hf, List.length_append] at hle1
          obtain ⟨v2, W2, hr2, ho2, hg2⟩ := append_sl ho hsl (by omega) hb.size
          have hb2 := hb.grown hg2 hb.size (fun k hk => (ho.lt k hk).1)
          rw [← hf] at ho2
          have Hr2 := Lib.hid hr2
          clear hf hat hr2 hg2 hsl ho hb
          go_wp2_with ((with_reducible show wpList _ _ _ (⟨some 33, .call _, _, _, _, _⟩ :: _) _ _); refine wpList_run rfl v2 W2 (run_append_op (.tmp 31) (.tmp 32) 23 rfl _ _ rfl rfl Hr2.out) ?_; simp only [Act.put])
          go_roundw
          case rel => exact ⟨k + 1, _, by omega, by go_num, rfl, ho2, hb2⟩
          case measure => simp [intOf]; omega
        · obtain rfl : n = k := by omega
          have hd : decide ((n : Int) < (n : Int)) = false := by simp
          rw [List.take_of_length_le (by rw [Hlen.out]; exact Nat.le_refl _)] at ho
          go_wp2_with fail
          go_ret
          exact ⟨_, rfl, ho, hb⟩
end Go.Proofs.Ytonidnfgneokbaa
