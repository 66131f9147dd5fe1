/- slices.Grow, slices.Concat; what is hashed at a node. -/
import Derived.Test.YtonidnfgneokbaaQd218
import Derived.Lib.AppendZeros
import Derived.Test.YtonidnfgneokbaaQd220
namespace Go.Proofs.Ytonidnfgneokbaa
open Go Go.RowKit Go.Shelf
attribute [local go_sem] Oper.semAt_some

theorem run_append2_op {P : Program} {ρ : Operand → Value} {o : Oper} {w w' : World} {v : Value} (x y : Operand) (t u : TypeId) (ho : o.op = .call { callee := .builtin .append, args := #[x, y], argTypes := #[t, u] }) (vx vy : Value) (hx : ρ x = vx) (hy : ρ y = vy)
    (h : (Builtin.append_ #[t, u] o.type #[vx, vy]).run P w = .ok v w') : (execOp ρ o).run P w = .ok (.value v) w' := by
  unfold execOp
  simp only [ho, resolve, invoke, builtin, Sem.run_bind, Sem.run_pure, Result.andThen_ok, List.map_toArray, List.map_cons, List.map_nil, hx, hy, h]
theorem sizeB8 : ∀ w : World, (sizeOf (Try.prog.elem 23)).run Try.prog w = .ok 1 w := fun _ => by kernel_rfl
theorem sliceB8 : Try.prog.underlying 23 = some (.slice (Try.prog.elem 23)) := by kernel_rfl
theorem run_slice_hi8 {ρ : Operand → Value} {o : Oper} (x y : Operand) (ho : o.op = .slice 23 x none (some y) none) (A : Option Addr) (n c k : Nat) (hx : ρ x = .slice A n c) (hy : ρ y = .int .i64 (k : Int)) (hk : k ≤ c) (W : World) :
    (execOp ρ o).run Try.prog W = .ok (.value (.slice A k c)) W := by
  unfold execOp
  simp only [ho, hx, hy, Option.map_some, Option.map_none, run_slice_high sliceB8 sizeB8 A n c k hk W, Sem.run_bind, Sem.run_pure, Result.andThen_ok]

set_option maxHeartbeats 1000000 in
set_option maxRecDepth 100000 in
theorem grow8_any (m : Nat) (w : World) (hm : m ≤ 1099511627776) :
    Calls Try.prog 150 #[.slice none 0 0, .int .i64 (m : Int)] w fun e w' => ∃ v, e = .returned v ∧ w'.ownsRow w.heap.size 5 1 v 0 [] ∧ Below w.heap.size w w' := by
  have hd : decide ((m : Int) < 0) = false := by simp
  have hw : IntKind.i64.wrap (m : Int) = (m : Int) := IntWalk.i64_in _ (by omega)
  by_cases h0 : m = 0
  · subst h0
    go_enter Try.func150, Try.ntmps150
    go_wp2_with fail
    go_ret
    exact ⟨_, rfl, World.ownsRow_nil _ _ _ _, Below.refl _ _⟩
  · have hd1 : decide ((0 : Int) < (m : Int)) = true := by simp; omega
    have hd2 : 0 < m := by omega
    obtain ⟨i, hi⟩ : ∃ i, Try.prog.info? 5 = some i := Option.isSome_iff_exists.1 (by kernel_rfl)
    have hz : i.zero = some (.int .u8 0) := by
      have : (Try.prog.info? 5).bind (·.zero) = some (.int .u8 0) := by kernel_rfl
      rw [hi] at this; exact this
    have hs : i.size = 1 := by
      have : (Try.prog.info? 5).map (·.size) = some 1 := by kernel_rfl
      rw [hi] at this; exact Option.some.inj this
    have hby : i.bytes = 1 := by
      have : (Try.prog.info? 5).map (·.bytes) = some 1 := by kernel_rfl
      rw [hi] at this; exact Option.some.inj this
    have hr := Lib.run_append_nil_zeros (P := Try.prog) w 23 3 23 5 i _ .i64 .i64 Try.underlying23 Try.underlying3 hi hz m hd2 (by omega) (by omega) (by rw [hby]; omega)
    obtain ⟨cap, hcap⟩ : ∃ cap, grownCap w m 0 5 = cap := ⟨_, rfl⟩
    have hcm : cap ≤ maxLen := by rw [← hcap]; exact grownCap_le_maxLen w m 0 _ (by unfold maxLen; omega)
    have hcg : m ≤ cap := by rw [← hcap]; exact grownCap_ge w m 0 _
    rw [hcap] at hr
    obtain ⟨Z, hZ⟩ : ∃ Z, Builtin.zeroCells (Value.int .u8 0).cells m ++ Builtin.zeroCells (Value.int .u8 0).cells (cap - m) = Z := ⟨_, rfl⟩
    have hZs : Z.size = cap := by rw [← hZ]; simp [size_zeroCells, Value.cells]; omega
    rw [hZ] at hr
    have hmk := World.ownsRow_made (base := w.heap.size) (e := 5) (size := 1) w.drew Z cap (Nat.le_refl _) hcm (by omega)
    have hb : Below w.heap.size w (w.drew.alloc (.cells Z 5)) := (Below.refl _ _).drew.alloc (Nat.le_refl _) _
    obtain ⟨w1, hw1⟩ : ∃ w1, w.drew.alloc (.cells Z 5) = w1 := ⟨_, rfl⟩
    rw [hw1] at hr hmk hb
    unfold maxLen at hcm
    have Hr := Lib.hid hr
    have Hcap := Lib.hid hcap
    have hcap0 : 0 ≤ cap := Nat.zero_le _
    clear hr hz hs hby hi hcap hZ hZs hw1
    go_enter Try.func150, Try.ntmps150
    go_wp2_with (first
      | ((with_reducible show wpList _ _ _ (⟨some 20, .slice _ _ _ _ _, _, _, _, _⟩ :: _) _ _); refine wpList_run0 rfl (.slice none 0 0) (run_slice_hi8 (.tmp 17) (.tmp 19) rfl none 0 0 0 rfl rfl (by omega) _) ?_; simp only [Act.put])
      | ((with_reducible show wpList _ _ _ (⟨some 22, .call _, _, _, _, _⟩ :: _) _ _); refine wpList_run rfl (.slice (some ⟨w.heap.size, 0, none⟩) m cap) w1 (run_append2_op (.tmp 20) (.tmp 21) 23 3 rfl _ _ rfl rfl Hr.out) ?_; simp only [Act.put])
      | ((with_reducible show wpList _ _ _ (⟨some 25, .slice _ _ _ _ _, _, _, _, _⟩ :: _) _ _); refine wpList_run0 rfl (.slice (some ⟨w.heap.size, 0, none⟩) 0 cap) (run_slice_hi8 (.tmp 22) (.tmp 24) rfl (some ⟨w.heap.size, 0, none⟩) m cap 0 rfl rfl (by omega) _) ?_; simp only [Act.put]))
    go_ret
    exact ⟨_, rfl, hmk, hb⟩

theorem flatB_succ (ls : List (List UInt8)) (k : Nat) (h : k < ls.length) : (ls.take (k + 1)).flatten = (ls.take k).flatten ++ ls.getD k [] := by
  rw [List.take_add_one, List.getElem?_eq_getElem h, List.flatten_append, List.getD_eq_getElem?_getD, List.getElem?_eq_getElem h]
  simp
theorem flatB_le (ls : List (List UInt8)) (k : Nat) : (ls.take k).flatten.length ≤ ls.flatten.length := by
  conv => rhs; rw [← List.take_append_drop k ls, List.flatten_append, List.length_append]
  omega
set_option maxHeartbeats 2000000 in
set_option maxRecDepth 100000 in
theorem concat8_any (ls : List (List UInt8)) (A : Option Addr) (n c : Nat) (w : World) (h : Es w (fun _ => True) A n c ls) (hT : ls.flatten.length ≤ 1099511627776) :
    Calls Try.prog 139 #[.slice A n c] w fun e w' => ∃ v, e = .returned v ∧ Fresh w w' v ls.flatten := by
  have hroom := h.room
  have hmx := h.max
  unfold maxLen at hmx
  have hlen := h.len
  have Hlen := Lib.hid hlen
  have hle := flatB_le ls
  have Hle := Lib.hid hle
  clear hle hlen
  go_enter Try.func139, Try.ntmps139
  go_wp2_with fail
  go_loopw [3, 5, 11] (fun v3 _ v11 wr => ∃ k : Nat, k ≤ n ∧ v11 = .int .i64 (k : Int) ∧ v3 = .int .i64 ((ls.take k).flatten.length : Int) ∧ wr = w) (fun _ _ v11 _ => n - (intOf v11).toNat)
  case atStart => exact ⟨0, Nat.zero_le _, rfl, rfl, rfl⟩
  case round =>
    obtain ⟨k, hk, rfl, rfl, rfl⟩ := hrel
    by_cases hkn : k < n
    · have hd : decide ((k : Int) < (n : Int)) = true := by simp; omega
      have hwk : IntKind.i64.wrap ((k : Int) + 1) = (k : Int) + 1 := IntWalk.i64_in _ (by omega)
      obtain ⟨b, o, rfl, -, -, hat⟩ := h.at_ (by omega)
      obtain ⟨Ai, ci, hc, -⟩ := hat k hkn
      have hf := flatB_succ ls k (by rw [Hlen.out]; exact hkn)
      have hle1 := Hle.out (k + 1)
      rw [hf, List.length_append] at hle1
      obtain ⟨q, hq⟩ : ∃ q, (ls.take k).flatten.length = q := ⟨_, rfl⟩
      obtain ⟨m, hm⟩ : ∃ m, (ls.getD k []).length = m := ⟨_, rfl⟩
      rw [hm] at hc hle1
      rw [hq] at hle1 ⊢
      have hws : IntKind.i64.wrap ((q : Int) + (m : Int)) = (q : Int) + (m : Int) := IntWalk.i64_in _ (by omega)
      have hneg : decide ((q : Int) + (m : Int) < 0) = false := by simp; omega
      have hneg2 : ¬ ((q : Int) + (m : Int) < 0) := by omega
      have Hf := Lib.hid hf
      have Hq := Lib.hid hq
      have Hm := Lib.hid hm
      clear hf hq hm hat
      go_wp2_with fail
      go_roundw
      case rel => exact ⟨k + 1, by omega, by go_num, by rw [Hf.out, List.length_append, Hq.out, Hm.out]; rfl, by first | rfl | trivial⟩
      case measure => simp [intOf]; omega
    · obtain rfl : n = k := by omega
      have hd : decide ((n : Int) < (n : Int)) = false := by simp
      have hTn : (ls.take n).flatten.length ≤ 1099511627776 := Nat.le_trans (flatB_le ls n) hT
      obtain ⟨T, hTe⟩ : ∃ T, (ls.take n).flatten.length = T := ⟨_, rfl⟩
      rw [hTe] at hTn ⊢
      have hgr := grow8_any T wr hTn
      have Hgr := Lib.hid hgr
      clear hgr hTe
      go_wp2_with fail
      refine Hgr.out.mono ?_
      rintro e w1 ⟨v1, rfl, ho1, hb1⟩
      go_wp2_with fail
      go_loopw [6, 8, 27] (fun v6 _ v27 W => ∃ (k : Nat) (v : Value), k ≤ n ∧ v27 = .int .i64 (k : Int) ∧ v = v6 ∧ W.ownsRow wr.heap.size 5 1 v (ls.take k).flatten.length ((ls.take k).flatten.map B) ∧ Below wr.heap.size wr W) (fun _ _ v27 _ => n - (intOf v27).toNat)
      case atStart => exact ⟨0, _, Nat.zero_le _, rfl, rfl, ho1, hb1⟩
      case round =>
        clear ho1 hb1
        rename_i W _ _ _ _
        obtain ⟨k, v6, hk, rfl, rfl, ho, hb⟩ := hrel
        by_cases hkn : k < n
        · have hd : decide ((k : Int) < (n : Int)) = true := by simp; omega
          have hwk : IntKind.i64.wrap ((k : Int) + 1) = (k : Int) + 1 := IntWalk.i64_in _ (by omega)
          obtain ⟨b, o, rfl, -, -, hat⟩ := (h.step hb).at_ (by omega)
          obtain ⟨Ai, ci, hc, hsl⟩ := hat k hkn
          have hf := flatB_succ ls k (by rw [Hlen.out]; exact hkn)
          have hle1 := Hle.out (k + 1)
          rw [hf, List.length_append] at hle1
          obtain ⟨v2, W2, hr2, ho2, hg2⟩ := append_sl ho hsl (by omega) hb.size
          have hb2 := hb.grown hg2 hb.size (fun k hk => (ho.lt k hk).1)
          rw [← hf] at ho2
          have Hr2 := Lib.hid hr2
          clear hf hat hr2 hg2 hsl ho hb
          go_wp2_with ((with_reducible show wpList _ _ _ (⟨some 33, .call _, _, _, _, _⟩ :: _) _ _); refine wpList_run rfl v2 W2 (run_append_op (.tmp 31) (.tmp 32) 23 rfl _ _ rfl rfl Hr2.out) ?_; simp only [Act.put])
          go_roundw
          case rel => exact ⟨k + 1, _, by omega, by go_num, rfl, ho2, hb2⟩
          case measure => simp [intOf]; omega
        · obtain rfl : n = k := by omega
          have hd : decide ((n : Int) < (n : Int)) = false := by simp
          rw [List.take_of_length_le (by rw [Hlen.out]; exact Nat.le_refl _)] at ho
          go_wp2_with fail
          go_ret
          exact ⟨_, rfl, ho, hb⟩
end Go.Proofs.Ytonidnfgneokbaa
/- What is hashed at a node; a hash that is handed in. -/
namespace Go.Proofs.Ytonidnfgneokbaa
open Go Go.RowKit Go.Shelf
attribute [local go_sem] Oper.semAt_some

theorem slice_allO (g o : Nat) (W : World) : (Instr.sliceAt 25 (.pointer (some ⟨g, o, none⟩)) none none none).run Try.prog W = .ok (.slice (some ⟨g, o, none⟩) 32 32) W := by
  rw [run_sliceAt_array_all W _ _ arrT26, size26e, arrN26]
  simp [slicedAt, Result.andThen, Addr.add]
theorem run_slice_allO {ρ : Operand → Value} {o : Oper} (x : Operand) (ho : o.op = .slice 25 x none none none) (g off : Nat) (hx : ρ x = .pointer (some ⟨g, off, none⟩)) (W : World) : (execOp ρ o).run Try.prog W = .ok (.value (.slice (some ⟨g, off, none⟩) 32 32)) W := by
  unfold execOp
  simp only [ho, hx, Option.map_none, slice_allO, Sem.run_bind, Sem.run_pure, Result.andThen_ok]
/-- bytes that lie in a block -/
theorem Sl.of_blk {W : World} {g o : Nat} {t : TypeId} {C : Array Value} (h : Blk W g t C) (l : List UInt8) (n : Nat) (hn : l.length = n) (hm : n ≤ maxLen) (hc : ∀ j v, (l.map B)[j]? = some v → C[o + j]? = some v) : Sl W (fun _ => True) (some ⟨g, o, .none⟩) n n l :=
  ⟨fun _ => ⟨g, o, rfl, h.lt, trivial, fun j v hv => by rw [h.cell]; exact hc j v hv⟩, hn, Nat.le_refl _, (fun e => by cases e), hm⟩
theorem Sl.of_hv {W : World} {g : Nat} {l : List UInt8} (h : HV W g l) : Sl W (fun _ => True) (some ⟨g, 0, .none⟩) 32 32 l :=
  Sl.of_blk h.blk l 32 h.len (by decide) fun j v hv => by rw [Nat.zero_add, List.getElem?_toArray]; exact hv
/-- a byte, and two pieces behind it -/
theorem two_after (x : UInt8) (w : World) (l r : List UInt8) (A A' : Option Addr) (n c n' c' : Nat) (h : Sl w (fun _ => True) A n c l) (h' : Sl w (fun _ => True) A' n' c' r) (hn : n ≤ 1099511627776) (hn' : n' ≤ 1099511627776) :
    ∃ v1 w1 v2 w2, (Builtin.append_ #[23, 23] 23 #[.slice (some ⟨w.heap.size, 0, none⟩) 1 1, .slice A n c]).run Try.prog (w.alloc (.cells #[B x] 5)) = .ok v1 w1 ∧
      (Builtin.append_ #[23, 23] 23 #[v1, .slice A' n' c']).run Try.prog w1 = .ok v2 w2 ∧ Below w.heap.size w (w.alloc (.cells #[B x] 5)) ∧ Below w.heap.size w w1 ∧ Fresh w w2 v2 (x :: (l ++ r)) := by
  obtain ⟨v1, w1, h1, h2, h3⟩ := ahead_byte x w l A n c h hn
  have hl := h.len
  obtain ⟨v2, w2, g1, g2, g3⟩ := append_sl h2 (h'.step h3) (by simp; omega) h3.size
  exact ⟨v1, w1, v2, w2, h1, g1, (Below.refl _ _).alloc (Nat.le_refl _) _, h3, g2, h3.grown g3 h3.size (fun k hk => (h2.lt k hk).1)⟩

set_option maxHeartbeats 1000000 in
set_option maxRecDepth 100000 in
theorem rnode13_any (x y : List UInt8) (w : World) (hx : x.length = 32) (hy : y.length = 32) :
    Calls Try.prog 78 #[.agg (x.map B).toArray, .agg (y.map B).toArray] w fun e w' => ∃ v, e = .returned v ∧ Fresh w w' v (nodeD (x, y)) := by
  obtain ⟨w1, hw1⟩ : ∃ w1, (w.alloc (.cells (x.map B).toArray 25)).alloc (.cells (y.map B).toArray 25) = w1 := ⟨_, rfl⟩
  have hb1 : Below w.heap.size w w1 := by rw [← hw1]; exact ((Below.refl _ _).alloc (Nat.le_refl _) _).alloc (by simp) _
  have k2 : HV w1 w.heap.size x := ⟨by rw [← hw1]; exact (Blk.new _ _ _).alloc _, hx⟩
  have k3 : HV w1 (w.heap.size + 1) y := ⟨by rw [← hw1]; exact Blk.new' _ _ _ _ (by simp), hy⟩
  have Hw1 := Lib.hid hw1
  clear hw1
  go_enter Try.func78, Try.ntmps78
  go_wp2_with fail
  rw [Hw1.out]
  have hS : Below w1.heap.size w1 w1.drew := (Below.refl _ _).drew
  refine wp_region_mix (fun W => Below w1.heap.size w1 W) [(1, true), (3, true), (0, false), (2, false), (4, false), (5, true)] (by kernel_rfl) (by kernel_rfl) hS fun _ => ?_
  simp only [List.map_cons, List.map_nil, Array.getD_eq_getD_getElem?, List.getElem?_toArray, List.getElem?_cons_succ, List.getElem?_cons_zero, Option.getD_some]
  generalize w1.drew = u9 at hS ⊢
  refine wpMix_v (by kernel_rfl) (.slice (some ⟨w.heap.size, 0, none⟩) 32 32) (fun s => run_slice_allO (.tmp 2) rfl w.heap.size 0 rfl s.W) ?_
  simp only [Act.put]
  refine wpMix_v (by kernel_rfl) (.slice (some ⟨w.heap.size + 1, 0, none⟩) 32 32) (fun s => run_slice_allO (.tmp 3) rfl (w.heap.size + 1) 0 rfl s.W) ?_
  simp only [Act.put]
  have hS0 := hS
  have hN := Nat.le_trans hb1.size hS0.size
  obtain ⟨v1, U1, v2, U2, hr1, hr2, hba, hbb, hf⟩ := two_after 1 u9 x y _ _ 32 32 32 32 (Sl.of_hv (k2.step hS)) (Sl.of_hv (k3.step hS)) (by omega) (by omega)
  have Hr1 := Lib.hid hr1
  have Hr2 := Lib.hid hr2
  clear hr1 hr2
  refine wpMix_run (by kernel_rfl) (.slice (some ⟨u9.heap.size, 0, none⟩) 1 1) (u9.alloc (.cells #[B 1] 5)) (by kernel_rfl) (hS0.trans (hba.mono hS0.size)) ?_
  simp only [Act.put]
  refine wpMix_run (by kernel_rfl) v1 U1 (run_append_op (.tmp 5) (.tmp 6) 23 rfl _ _ rfl rfl Hr1.out) (hS0.trans (hbb.mono hS0.size)) ?_
  simp only [Act.put]
  refine wpMix_run (by kernel_rfl) v2 U2 (run_append_op (.tmp 7) (.tmp 8) 23 rfl _ _ rfl rfl Hr2.out) (hS0.trans (hf.2.mono hS0.size)) ?_
  simp only [Act.put]
  refine wpMix_s (fun K hK => ?_)
  go_simp
  refine hK _ ?_
  clear hK K
  refine wpMix_nil ?_
  intro _
  go_wp2_with fail
  go_ret
  exact ⟨_, rfl, owns_le hf.1 hN, hb1.trans ((hS0.trans (hf.2.mono hS0.size)).mono hb1.size)⟩

theorem Es.lit3 (W : World) (a b c : Value) (ls : List (List UInt8)) (hl : ls.length = 3) (ha : ∃ A k, a = .slice A (ls.getD 0 []).length k ∧ Sl W (fun _ => True) A (ls.getD 0 []).length k (ls.getD 0 [])) (hb : ∃ A k, b = .slice A (ls.getD 1 []).length k ∧ Sl W (fun _ => True) A (ls.getD 1 []).length k (ls.getD 1 [])) (hc : ∃ A k, c = .slice A (ls.getD 2 []).length k ∧ Sl W (fun _ => True) A (ls.getD 2 []).length k (ls.getD 2 [])) :
    Es (W.alloc (.cells #[a, b, c] 23)) (fun _ => True) (some ⟨W.heap.size, 0, none⟩) 3 3 ls := by
  refine ⟨⟨[a, b, c], SlV.lit (s := 1) W (fun _ => True) 23 [a, b, c] rfl (by decide) trivial, fun i hi => ?_⟩, hl⟩
  obtain ⟨x, y, z, rfl⟩ : ∃ x y z, ls = [x, y, z] := by
    match ls, hl with
    | [x, y, z], _ => exact ⟨x, y, z, rfl⟩
  match i, hi with
  | 0, _ => obtain ⟨A, k, rfl, h⟩ := ha; exact ⟨A, k, rfl, h.alloc _⟩
  | 1, _ => obtain ⟨A, k, rfl, h⟩ := hb; exact ⟨A, k, rfl, h.alloc _⟩
  | 2, _ => obtain ⟨A, k, rfl, h⟩ := hc; exact ⟨A, k, rfl, h.alloc _⟩
set_option maxHeartbeats 1000000 in
set_option maxRecDepth 100000 in
theorem pbytes_any (x y : List UInt8) (w : World) (hx : x.length = 32) (hy : y.length = 32) :
    Calls Try.prog 100 #[.agg ((x ++ y).map B).toArray] w fun e w' => ∃ v, e = .returned v ∧ Fresh w w' v (nodeD (x, y)) := by
  obtain ⟨z, hz⟩ : ∃ z, x ++ y = z := ⟨_, rfl⟩
  rw [hz]
  have Hz := Lib.hid hz
  clear hz
  obtain ⟨w1, hw1⟩ : ∃ w1, w.alloc (.cells (z.map B).toArray 139) = w1 := ⟨_, rfl⟩
  have hb1 : Below w.heap.size w w1 := by rw [← hw1]; exact (Below.refl _ _).alloc (Nat.le_refl _) _
  have k1 : Blk w1 w.heap.size 139 (z.map B).toArray := by rw [← hw1]; exact Blk.new _ _ _
  have Hw1 := Lib.hid hw1
  have Hx := Lib.hid hx
  have Hy := Lib.hid hy
  clear hw1 hx hy
  go_enter Try.func100, Try.ntmps100
  go_wp2_with fail
  rw [Hw1.out]
  have hS : Below w1.heap.size w1 w1.drew := (Below.refl _ _).drew
  refine wp_region_mix (fun W => Below w1.heap.size w1 W) [(1, true), (2, true), (3, true), (4, true), (0, false), (5, false), (6, false), (7, true)] (by kernel_rfl) (by kernel_rfl) hS fun _ => ?_
  simp only [List.map_cons, List.map_nil, Array.getD_eq_getD_getElem?, List.getElem?_toArray, List.getElem?_cons_succ, List.getElem?_cons_zero, Option.getD_some]
  generalize w1.drew = u9 at hS ⊢
  refine wpMix_s (fun K hK => ?_)
  go_simp
  refine hK _ ?_
  clear hK K
  refine wpMix_v (by kernel_rfl) (.slice (some ⟨w.heap.size, 0, none⟩) 32 32) (fun s => run_slice_allO (.tmp 4) rfl w.heap.size 0 rfl s.W) ?_
  simp only [Act.put]
  refine wpMix_s (fun K hK => ?_)
  go_simp
  refine hK _ ?_
  clear hK K
  refine wpMix_v (by kernel_rfl) (.slice (some ⟨w.heap.size, 32, none⟩) 32 32) (fun s => run_slice_allO (.tmp 6) rfl w.heap.size 32 rfl s.W) ?_
  simp only [Act.put]
  have hS0 := hS
  have hba : Below u9.heap.size u9 (u9.alloc (.cells #[B 1] 5)) := (Below.refl _ _).alloc (Nat.le_refl _) _
  have k9 := Blk.new u9 5 #[B 1]
  have k1a := (k1.step hS).step hba
  have hS1 := hS0.trans (hba.mono hS0.size)
  obtain ⟨U1, hU1⟩ : ∃ U, u9.alloc (.cells #[B 1] 5) = U := ⟨_, rfl⟩
  rw [hU1] at k9 k1a hS1
  have HU1 := Lib.hid hU1
  clear hba hU1
  refine wpMix_run (by kernel_rfl) (.slice (some ⟨u9.heap.size, 0, none⟩) 1 1) U1 (by rw [← HU1.out]; kernel_rfl) hS1 ?_
  simp only [Act.put]
  have hE := Es.lit3 U1 (.slice (some ⟨u9.heap.size, 0, none⟩) 1 1) (.slice (some ⟨w.heap.size, 0, none⟩) 32 32) (.slice (some ⟨w.heap.size, 32, none⟩) 32 32) [[1], x, y] rfl
    ⟨_, _, rfl, Sl.of_blk k9 [1] 1 rfl (by decide) fun j v hv => by rw [Nat.zero_add]; show ((([1] : List UInt8).map B).toArray)[j]? = some v; rw [List.getElem?_toArray]; exact hv⟩
    ⟨some ⟨w.heap.size, 0, none⟩, 32, by show Value.slice _ 32 32 = .slice _ x.length 32; rw [Hx.out], by show Sl _ _ _ x.length _ x; rw [Hx.out]; exact Sl.of_blk k1a x 32 Hx.out (by decide) fun j v hv => by rw [Nat.zero_add, List.getElem?_toArray, ← Hz.out, List.map_append, List.getElem?_append_left (List.getElem?_eq_some_iff.1 hv).1]; exact hv⟩
    ⟨some ⟨w.heap.size, 32, none⟩, 32, by show Value.slice _ 32 32 = .slice _ y.length 32; rw [Hy.out], by show Sl _ _ _ y.length _ y; rw [Hy.out]; exact Sl.of_blk k1a y 32 Hy.out (by decide) fun j v hv => by rw [List.getElem?_toArray, ← Hz.out, List.map_append, List.getElem?_append_right (by rw [List.length_map, Hx.out]; omega), List.length_map, Hx.out, show 32 + j - 32 = j by omega]; exact hv⟩
  have hbc : Below U1.heap.size U1 (U1.alloc (.cells #[.slice (some ⟨u9.heap.size, 0, none⟩) 1 1, .slice (some ⟨w.heap.size, 0, none⟩) 32 32, .slice (some ⟨w.heap.size, 32, none⟩) 32 32] 23)) := (Below.refl _ _).alloc (Nat.le_refl _) _
  have hS2 := hS1.trans (hbc.mono hS1.size)
  have hcc := concat8_any [[1], x, y] (some ⟨U1.heap.size, 0, none⟩) 3 3 _ hE (by simp [Hx.out, Hy.out])
  rw [show [[1], x, y].flatten = nodeD (x, y) by simp [nodeD]] at hcc
  obtain ⟨U2, hU2⟩ : ∃ U, U1.alloc (.cells #[.slice (some ⟨u9.heap.size, 0, none⟩) 1 1, .slice (some ⟨w.heap.size, 0, none⟩) 32 32, .slice (some ⟨w.heap.size, 32, none⟩) 32 32] 23) = U := ⟨_, rfl⟩
  rw [hU2] at hcc hS2
  have HU2 := Lib.hid hU2
  have Hcc := Lib.hid hcc
  clear hE hbc hcc hU2
  refine wpMix_run (by kernel_rfl) (.slice (some ⟨U1.heap.size, 0, none⟩) 3 3) U2 (by rw [← HU2.out]; kernel_rfl) hS2 ?_
  simp only [Act.put]
  refine wpMix_c (fun K hK => ?_) hS2
  go_simp
  refine Hcc.out.mono ?_
  rintro e U3 ⟨v9, rfl, hf⟩
  refine hK _ _ ?_
  clear hK K
  refine ⟨hS2.trans (hf.2.mono hS2.size), ?_⟩
  refine wpMix_s (fun K hK => ?_)
  go_simp
  refine hK _ ?_
  clear hK K
  refine wpMix_nil ?_
  intro _
  go_wp2_with fail
  go_ret
  exact ⟨_, rfl, owns_le hf.1 (Nat.le_trans hb1.size hS2.size), hb1.trans ((hS2.trans (hf.2.mono hS2.size)).mono hb1.size)⟩

theorem pairAgg : ∀ w : World, (isAgg 139).run Try.prog w = .ok true w := fun _ => by kernel_rfl
theorem pairSize : ∀ w : World, (sizeOf 139).run Try.prog w = .ok 64 w := fun _ => by kernel_rfl
theorem treeAgg : ∀ w : World, (isAgg 123).run Try.prog w = .ok true w := fun _ => by kernel_rfl
theorem treeSize : ∀ w : World, (sizeOf 123).run Try.prog w = .ok 1 w := fun _ => by kernel_rfl
theorem pair_load {W : World} {g : Nat} {z : List UInt8} (hz : z.length = 64) (k : Blk W g 139 (z.map B).toArray) : (Instr.loadAt 139 (.pointer (some ⟨g, 0, none⟩))).run Try.prog W = .ok (.agg (z.map B).toArray) W :=
  run_load_blk (pairAgg _) (pairSize _) g _ (by simp [hz]) k
theorem tree_load {W : World} {g : Nat} {h : Value} (k : Blk W g 123 #[h]) : (Instr.loadAt 123 (.pointer (some ⟨g, 0, none⟩))).run Try.prog W = .ok (.agg #[h]) W :=
  run_load_blk (treeAgg _) (treeSize _) g _ rfl k
/-- a function that hashes bytes -/
structure HFn (f : Nat) (H : Hf) : Prop where
  enter : ∀ args w, (callFunc f args).run Try.prog w = .ok (.enter f args) w
  len : ∀ l, (H l).length = 32
  call : ∀ (l : List UInt8) (A : Option Addr) (n c : Nat) (w : World), Sl w (fun _ => True) A n c l → n ≤ 1099511627776 → Calls Try.prog f #[.slice A n c] w fun e w' => e = .returned (.agg ((H l).map B).toArray) ∧ Below w.heap.size w w'
abbrev hval (f : Nat) : Value := .func (.func f) #[] #[]
set_option maxHeartbeats 1000000 in
set_option maxRecDepth 100000 in
theorem tnode13_any {f : Nat} {H : Hf} (hF : HFn f H) (x y : List UInt8) (w : World) (hx : x.length = 32) (hy : y.length = 32) :
    Calls Try.prog 137 #[.agg #[hval f], .agg ((x ++ y).map B).toArray] w fun e w' => e = .returned (.agg ((H (nodeD (x, y))).map B).toArray) ∧ Below w.heap.size w w' := by
  have hpb := fun W => pbytes_any x y W hx hy
  obtain ⟨z, hz⟩ : ∃ z, x ++ y = z := ⟨_, rfl⟩
  have hzl : z.length = 64 := by rw [← hz]; simp [hx, hy]
  rw [hz] at hpb ⊢
  clear hz
  obtain ⟨w0, hw0⟩ : ∃ w0, (w.alloc (.cells #[hval f] 123)).alloc (.cells (z.map B).toArray 139) = w0 := ⟨_, rfl⟩
  have hb0 : Below w.heap.size w w0 := by rw [← hw0]; exact ((Below.refl _ _).alloc (Nat.le_refl _) _).alloc (by simp) _
  have k2 : Blk w0 w.heap.size 123 #[hval f] := by rw [← hw0]; exact (Blk.new _ _ _).alloc _
  have k3 : Blk w0 (w.heap.size + 1) 139 (z.map B).toArray := by rw [← hw0]; exact Blk.new' _ _ _ _ (by simp)
  have henter := hF.enter
  have hlH := hF.len (nodeD (x, y))
  have hcall := fun A n c W h => hF.call (nodeD (x, y)) A n c W h
  have hnl : (nodeD (x, y)).length = 65 := by simp [nodeD, hx, hy]
  obtain ⟨nd, hnd⟩ : ∃ q, nodeD (x, y) = q := ⟨_, rfl⟩
  rw [hnd] at hpb hlH hcall hnl ⊢
  obtain ⟨r, hr⟩ : ∃ r, H nd = r := ⟨_, rfl⟩
  rw [hr] at hlH hcall ⊢
  have Hcall := Lib.hid hcall
  have Hpb := Lib.hid hpb
  have HlH := Lib.hid hlH
  have Hnl := Lib.hid hnl
  have Hx := Lib.hid hx
  have Hy := Lib.hid hy
  have Hw0 := Lib.hid hw0
  have Hzl := Lib.hid hzl
  clear hF hw0 hcall hpb hlH hnl hx hy hnd hr hzl
  go_enter Try.func137, Try.ntmps137
  go_wp2_with ((with_reducible show wpList _ _ _ (⟨some 4, .alloc _, _, _, _, _⟩ :: _) _ _); rw [Hw0.out]; refine wpList_hnew rfl rfl ?_; intro w1 k4 hb01; simp only [Act.put])
  obtain ⟨g4, hg4⟩ : ∃ g, w0.heap.size = g := ⟨_, rfl⟩
  rw [hg4] at k4 ⊢
  have hg4' : w.heap.size + 1 < g4 := by rw [← hg4]; exact k3.lt
  replace k2 := k2.step hb01
  replace k3 := k3.step hb01
  have hb1 := hb0.trans (hb01.mono hb0.size)
  clear hb01 hg4
  have cA : ∀ s : InC (fun W => Below g4 w1 W), s.W.cell? ⟨w.heap.size, 0, none⟩ = some (hval f) := fun s => by rw [(k2.below s.ok (by omega)).cell]; rfl
  have hS : Below g4 w1 w1.drew := (Below.refl _ _).drew
  have hg41 := k4.lt
  replace k4 := k4.drew
  refine wp_region_mix (fun W => Below g4 w1 W) [(0, true), (1, true), (2, true), (3, false), (4, false), (5, false)] (by kernel_rfl) (by kernel_rfl) hS fun _ => ?_
  simp only [List.map_cons, List.map_nil, Array.getD_eq_getD_getElem?, List.getElem?_toArray, List.getElem?_cons_succ, List.getElem?_cons_zero, Option.getD_some]
  have hsd : w1.drew.heap.size = w1.heap.size := rfl
  generalize w1.drew = u9 at hS k4 hsd ⊢
  refine wpMix_s (fun K hK => ?_)
  go_simp
  refine hK _ ?_
  clear hK K
  refine wpMix_s (fun K hK => ?_)
  go_simp
  refine hK _ ?_
  clear hK K
  refine wpMix_load (by kernel_rfl) 139 (.tmp 3) rfl (w.heap.size + 1) (0) rfl (z.map B).toArray ((fun s => pair_load Hzl.out (k3.below s.ok (by omega)))) ?_
  simp only [Act.put]
  have hz9 := hS.size
  refine wpMix_c (fun K hK => ?_) hS
  go_simp
  refine (Hpb.out u9).mono ?_
  rintro e u9a ⟨v8, rfl, hf⟩
  refine hK _ _ ?_
  clear hK K
  have hz8 := hf.2.size
  replace k4 := k4.step hf.2
  replace hS := hS.trans (hf.2.mono (by omega))
  refine ⟨hS, ?_⟩
  obtain ⟨A8, c8, rfl, hs8⟩ := hf.sl
  replace hs8 := hs8.all
  rw [Hnl.out] at hs8 ⊢
  clear hf
  refine wpMix_c (fun K hK => ?_) hS
  go_simp
  refine (Hcall.out A8 65 c8 u9a hs8 (by decide)).mono ?_
  rintro e u9aa ⟨rfl, hb'⟩
  refine hK _ _ ?_
  clear hK K
  replace k4 := k4.step hb'
  replace hS := hS.trans (hb'.mono (by omega))
  refine ⟨hS, ?_⟩
  clear hb' hs8
  refine wpMix_hset (.tmp 4) (.tmp 9) rfl rfl k4 rfl rfl HlH.out (fun _ hb => hS.trans (hb.mono (Nat.le_refl _))) ?_
  intro u9_1 k4s hb' hoth
  simp only [Act.put]
  replace hS := hS.trans (hb'.mono (Nat.le_refl _))
  clear hb' hoth
  refine wpMix_nil ?_
  intro _
  go_wp2_with fail
  exact bodyPost_ret (ret_hash rfl rfl k4s) rfl ⟨rfl, hb1.trans (hS.mono (by omega))⟩
end Go.Proofs.Ytonidnfgneokbaa
