/- notarylaw11.spoilt. -/
import Derived.Test.YtmglkblomklcbaaQc115
import Derived.Test.YtmglkblomklcbaaQc114
import Derived.Test.YtmglkblomklcbaaQc120
import Derived.Test.YtmglkblomklcbaaQc110
import Derived.Test.YtmglkblomklcbaaQc126
import Derived.Test.YtmglkblomklcbaaQc127
namespace Go.Proofs.Ytmglkblomklcbaa
open Go Go.RowKit

/-- a row of one's own turns, or a new one takes its place -/
structure SpI (w : World) (base : Nat) (v0 : Value) (m : Nat) (v : Value) (W : World) : Prop where
  own : ∃ xs, W.ownsRow base 45 32 v m xs
  g : w.grownBy W v0.ownBlock
  at_ : v.ownBlock = v0.ownBlock ∨ ∃ r, v.ownBlock = some r ∧ w.heap.size ≤ r
theorem SpI.next {w W W' : World} {base m m' : Nat} {v0 v v' : Value} {xs : List Value} (h : SpI w base v0 m v W) (ho : W'.ownsRow base 45 32 v' m' xs) (hg : W.grownBy W' v.ownBlock) (ha : v'.ownBlock = v.ownBlock ∨ ∃ r, v'.ownBlock = some r ∧ W.heap.size ≤ r) : SpI w base v0 m' v' W' := by
  refine ⟨⟨xs, ho⟩, ⟨hg.os.trans h.g.os, hg.tape.trans h.g.tape, hg.output.trans h.g.output, Nat.le_trans h.g.size hg.size, fun k hk hne => (hg.block k (Nat.lt_of_lt_of_le hk h.g.size) (fun e => ?_)).trans (h.g.block k hk hne)⟩, ?_⟩
  · rcases h.at_ with e2 | ⟨r, e2, hr⟩
    · exact hne (e.trans e2)
    · rw [e2] at e
      have := Option.some.inj e
      omega
  · rcases ha with e | ⟨r, e, hr⟩
    · rcases h.at_ with e2 | ⟨r, e2, hr⟩
      · exact .inl (e.trans e2)
      · exact .inr ⟨r, e.trans e2, hr⟩
    · exact .inr ⟨r, e, Nat.le_trans h.g.size hr⟩

set_option maxHeartbeats 2000000 in
set_option maxRecDepth 100000 in
theorem spoilt11_any (w : World) (base n : Nat) (v : Value) (xs : List Value) (h : w.ownsRow base 45 32 v n xs) (hb : base ≤ w.heap.size) (hn : n ≤ 1099511627776) :
    Calls Try.prog 18 #[v] w fun e w' => e = .returned (.tuple #[]) ∧ w.grownBy w' v.ownBlock := by
  have hI : SpI w base v n v w := ⟨⟨xs, h⟩, ⟨rfl, rfl, rfl, Nat.le_refl _, fun _ _ _ => rfl⟩, .inl rfl⟩
  obtain ⟨A, c, rfl⟩ : ∃ A c, v = .slice A n c := by
    obtain ⟨A, c, e, -⟩ := owns_slv h
    exact ⟨A, c, e⟩
  obtain ⟨x9, hx9⟩ : ∃ x, oneHash 9 = x := ⟨_, rfl⟩
  have h9 : x9.length = 32 := by rw [← hx9]; exact length_oneHash _
  obtain ⟨x8, hx8⟩ : ∃ x, oneHash 8 = x := ⟨_, rfl⟩
  have h8 : x8.length = 32 := by rw [← hx8]; exact length_oneHash _
  have h832 : H32 [x8] := fun h hh => by rw [List.mem_singleton.1 hh]; exact h8
  have Hx9 := Lib.hid hx9
  have H9 := Lib.hid h9
  have Hx8 := Lib.hid hx8
  have H832 := Lib.hid h832
  clear h hx9 h9 hx8 h8 h832
  go_enter Try.func18, Try.ntmps18
  go_wp2_with fail
  go_loopw [2] (fun i wr => ∃ k : Nat, k ≤ n ∧ i = .int .i64 k ∧ SpI w base (.slice A n c) n (.slice A n c) wr) (fun i _ => n - (intOf i).toNat)
  case atStart => exact ⟨0, Nat.zero_le _, rfl, hI⟩
  case round =>
    clear hI
    obtain ⟨k, hk, rfl, hC⟩ := hrel
    by_cases hkn : k < n
    · have hd : decide ((k : Int) < (n : Int)) = true := by simp; omega
      obtain ⟨ys, ho⟩ := hC.own
      obtain ⟨g, c', e⟩ := owns_some ho (by omega)
      cases e
      obtain ⟨cur, hk2, hsz, hbg, ho2⟩ := owns_put ho k hkn (x9.map B) (by rw [List.length_map]; exact H9.out)
      have hg2 : wr.grownBy (wr.setRow g (cur.toList.take (k * 32) ++ x9.map B ++ cur.toList.drop (k * 32 + 32)).toArray) (some g) := ⟨rfl, rfl, rfl, by simp, fun i _ hne => setRow_other wr g i _ (fun e => hne (by rw [e]))⟩
      have hC2 := hC.next ho2 hg2 (.inl rfl)
      have HC2 := Lib.hid hC2
      clear ho ho2 hg2 hC hC2
      go_wp2_with (first
        | ((with_reducible show wpList _ _ _ (⟨some 12, .build _ _, _, _, _, _⟩ :: _) _ _); refine wpList_run0 rfl (.agg (x9.map B).toArray) (by rw [← Hx9.out]; kernel_rfl) ?_; simp only [Act.put])
        | ((with_reducible show wpList _ _ _ (⟨none, .store _ _ _, _, _, _, _⟩ :: _) _ _); refine wpList_store_agg rfl 45 (.tmp 13) (.tmp 12) rfl 32 size26 g (k * 32) (x9.map B).toArray (by simp [Act.eval]) rfl (by simp [H9.out]) (oneCell_B _) 45 cur hk2 hsz ?_; simp only [Act.put]))
      refine ⟨⟨k + 1, by omega, by go_num, by simpa only [List.append_assoc] using HC2.out⟩, by simp [intOf]; omega⟩
    · obtain rfl : k = n := by omega
      have hd : decide ((k : Int) < (k : Int)) = false := by simp
      go_wp2_with fail
      go_loopw [0, 3] (fun v i wr => ∃ j : Nat, j ≤ 5 ∧ i = .int .i64 j ∧ SpI w base (.slice A k c) (k + j) v wr) (fun _ i _ => 5 - (intOf i).toNat)
      case atStart => exact ⟨0, by omega, rfl, hC⟩
      case round =>
        clear hC hd
        obtain ⟨j, hj, rfl, hC⟩ := hrel
        by_cases hj5 : j < 5
        · have hd : decide ((j : Int) < 5) = true := by simp; omega
          obtain ⟨ys, ho⟩ := hC.own
          have hbA := Nat.le_trans hb hC.g.size
          have hA := (Below.refl wr.heap.size wr).alloc (Nat.le_refl _) (.cells (hcells [x8]).toArray 45)
          obtain ⟨v3, W3, hr3, ho3, hg3, ha3⟩ := append_slv (ty := 22) Try.underlying22 info26z (by simp [Value.cells]) (by decide) (owns_step ho hA) (Hs.lit wr [x8] H832.out (by simp) 1 rfl).sl (oneB _) (by unfold maxLen; omega) (by omega) (Nat.le_trans hbA hA.size)
          have hgA := grown_of_below hA none
          have hg4 : wr.grownBy W3 u0.ownBlock := ⟨hg3.os.trans hA.os, hg3.tape.trans hA.tape, hg3.output.trans hA.output, Nat.le_trans hA.size hg3.size, fun k hk hne => (hg3.block k (Nat.lt_of_lt_of_le hk hA.size) hne).trans (hA.block k hk)⟩
          have hC3 := hC.next ho3 hg4 (by
            rcases ha3 with e | ⟨r, e, hr⟩
            · exact .inl e
            · exact .inr ⟨r, e, Nat.le_trans hA.size hr⟩)
          have Hr3 := Lib.hid hr3
          have HC3 := Lib.hid hC3
          clear hr3 ho3 hg3 ha3 ho hC hC3 hA hgA hg4
          go_wp2_with (first
            | ((with_reducible show wpList _ _ _ (⟨some 19, .build _ _, _, _, _, _⟩ :: _) _ _); refine wpList_run0 rfl (.agg (x8.map B).toArray) (by rw [← Hx8.out]; kernel_rfl) ?_; simp only [Act.put])
            | ((with_reducible show wpList _ _ _ (⟨some 20, .buildSlice _ _ _, _, _, _, _⟩ :: _) _ _); refine wpList_run rfl _ _ (run_lit_op [x8] H832.out (by simp) (by simp) 1 _ rfl (by simp [Act.eval]) rfl _) ?_; simp only [Act.put])
            | ((with_reducible show wpList _ _ _ (⟨some 21, .call _, _, _, _, _⟩ :: _) _ _); refine wpList_run rfl v3 W3 (run_append_op (.tmp 18) (.tmp 20) 22 rfl _ _ rfl rfl Hr3.out) ?_; simp only [Act.put]))
          refine ⟨⟨j + 1, by omega, by go_num, HC3.out⟩, by simp [intOf]; omega⟩
        · obtain rfl : j = 5 := by omega
          have hd : decide ((5 : Int) < 5) = false := by decide
          go_wp2_with fail
          exact bodyPost_end (by exact results_none rfl _ _ _) rfl ⟨rfl, hC.g⟩
end Go.Proofs.Ytmglkblomklcbaa
/- Strings that are held against each other; a byte of a row of one's own is written. -/
namespace Go.Proofs.Ytmglkblomklcbaa
open Go Go.RowKit

theorem run_neq_strM (l m : List UInt8) (W : World) : (binOp .neq 9 (.string (bstr l)) (.string (bstr m))).run Try.prog W = .ok (.bool (l != m)) W := by
  have : ∀ l : List UInt8, (bstr l).toList = l := fun l => by rw [ByteArray.toList_eq]; rfl
  rw [binOp_string_neq, Sem.run_pure, this, this]; rfl
theorem run_neqstrM_f {ρ : Operand → Value} {o : Oper} (x y : Operand) (ty : TypeId) (l : List UInt8) (ho : o.op = .binOp .neq 9 x y ty) (hx : ρ x = .string (bstr l)) (hy : ρ y = .string (bstr l)) (W : World) :
    (execOp ρ o).run Try.prog W = .ok (.value (.bool false)) W := by
  unfold execOp
  simp only [ho, hx, hy, eqGuard_at_string, Sem.run_bind, Sem.run_pure, run_neq_strM, Result.andThen_ok, bne_self_eq_false]
theorem run_str_op {ρ : Operand → Value} {o : Oper} {W : World} {X : Nat → Prop} {A : Option Addr} {n c : Nat} {l : List UInt8} (x : Operand) (ho : o.op = .convert 71 9 x) (hx : ρ x = .slice A n c) (h : Sl W X A n c l) :
    (execOp ρ o).run Try.prog W = .ok (.value (.string (bstr l))) W := by
  unfold execOp
  simp only [ho, hx, run_str h, Sem.run_bind, Sem.run_pure, Result.andThen_ok]
theorem owns_setB {W : World} {base g n c : Nat} {e : TypeId} {xs : List Value} (h : W.ownsRow base e 1 (.slice (some ⟨g, 0, none⟩) n c) n xs) (k : Nat) (hk : k < n) (u : Value) :
    (∃ v, W.cell? ⟨g, k, none⟩ = some v) ∧ W.frozen? ⟨g, k, none⟩ = false ∧ ∃ xs', (W.setCell ⟨g, k, none⟩ u).ownsRow base e 1 (.slice (some ⟨g, 0, none⟩) n c) n xs' := by
  rcases h.2 with ⟨hv, _⟩ | ⟨g', cap, cur, hv, hbg, hg, hnc, hcm, hcs, ht⟩
  · cases hv
  · cases hv
    have hB : Blk W g e cur := hg
    have hkc : k < cur.size := by omega
    refine ⟨⟨cur[k], by rw [hB.cell, Array.getElem?_eq_getElem hkc]⟩, hB.frozen k, (cur.setIfInBounds k u).toList.take (n * 1), ?_, .inr ⟨g, c, cur.setIfInBounds k u, rfl, hbg, hB.set_ k u, hnc, hcm, by simpa using hcs, rfl⟩⟩
    rw [List.length_take]
    simp
    omega
end Go.Proofs.Ytmglkblomklcbaa
/- notarylaw11.InclBytes. -/
namespace Go.Proofs.Ytmglkblomklcbaa
open Go Go.RowKit

theorem run_slice_op_hiT {P : Program} {T : TypeId} {s : Nat} (ht : P.underlying T = some (.slice (P.elem T))) (hs : ∀ W : World, (sizeOf (P.elem T)).run P W = .ok s W) {ρ : Operand → Value} {o : Oper} (x y : Operand) (ho : o.op = .slice T x none (some y) none) (A : Option Addr) (n c k : Nat) (hx : ρ x = .slice A n c) (hy : ρ y = .int .i64 (k : Int)) (hk : k ≤ c) (W : World) :
    (execOp ρ o).run P W = .ok (.value (.slice A k c)) W := by
  unfold execOp
  simp only [ho, hx, hy, Option.map_some, Option.map_none, run_slice_high ht hs A n c k hk W, Sem.run_bind, Sem.run_pure, Result.andThen_ok]
theorem sliceU8 : Try.prog.underlying 71 = some (.slice (Try.prog.elem 71)) := by kernel_rfl
theorem sizeU8 : ∀ W : World, (sizeOf (Try.prog.elem 71)).run Try.prog W = .ok 1 W := fun _ => by kernel_rfl

/-- between the statements -/
structure IbC (w : World) (ps : List (List UInt8)) (A : Option Addr) (np c : Nat) (b : List UInt8) (Ab : Option Addr) (nb cb gm cm N1 : Nat) (ask : List Value) (W : World) : Prop where
  src : Hs W (· < w.heap.size) A np c ps
  bs : Sl W (· < w.heap.size) Ab nb cb b
  row : Hs W (fun b => w.heap.size ≤ b ∧ b < N1) (some ⟨gm, 0, none⟩) (np + 1) cm (ps ++ [oneHash 165])
  ask : Blk W w.heap.size 49 ask.toArray
  bel : Below w.heap.size w W
  n1 : w.heap.size ≤ N1
theorem IbC.step {w : World} {ps : List (List UInt8)} {A : Option Addr} {np c : Nat} {b : List UInt8} {Ab : Option Addr} {nb cb gm cm N1 : Nat} {ask : List Value} {W W' : World} (h : IbC w ps A np c b Ab nb cb gm cm N1 ask W) (hb : Below W.heap.size W W') : IbC w ps A np c b Ab nb cb gm cm N1 ask W' :=
  ⟨h.src.step hb, h.bs.step hb, h.row.step hb, h.ask.step hb, h.bel.trans (hb.mono h.bel.size), h.n1⟩

set_option maxHeartbeats 8000000 in
set_option maxRecDepth 100000 in
theorem inclbytes_any (ps : List (List UInt8)) (A : Option Addr) (np c : Nat) (b : List UInt8) (Ab : Option Addr) (nb cb : Nat) (lf : List UInt8) (i n : Int) (root : List UInt8) (w : World) (h : Hs w (· < w.heap.size) A np c ps) (hb : Sl w (· < w.heap.size) Ab nb cb b) (hll : lf.length = 32) (hn : n ≤ 9223372036854775807)
    (hnp : np ≤ 1099511627776) (hnb : nb ≤ 1099511627776) :
    Calls Try.prog 8 #[.slice A np c, .slice Ab nb cb, .agg (lf.map B ++ .int .i64 i :: .int .i64 n :: root.map B).toArray] w fun e w' => e = .returned (.bool true) ∧ Below w.heap.size w w' := by
  have hlen := h.len
  have h32 := h.all
  have hblen := hb.len
  have hroom := h.sl.room
  have hmx := h.sl.max
  have hroomb := hb.room
  have hmxb := hb.max
  unfold maxLen at hmx hmxb
  have hrow := fun W h => row11_any ps A np c W h (by omega)
  have hby := fun A c W (h : Hs W (fun _ => True) A np c ps) => ibytes_any ps A np c W h (by omega)
  have hrb := fun A c W (h : Hs W (fun _ => True) A np c ps) => r11bytes_any ps A np c W h (by omega)
  have hrd := fun A c W (h : Sl W (fun _ => True) A nb c b) => iread_any b A nb c W i n hn h
  have hrr := fun A c W (h : Sl W (fun _ => True) A nb c b) => r11read_any b A nb c W i n hn h
  have hra := readA_all b i n
  have hfl := length_flatten32 ps h32
  have hrl : (readA b i n).1.length ≤ 64 := by
    unfold readA
    split
    · simp
    · split
      · simp
      · rw [length_chunksL]; exact pathA_len i n hn
  obtain ⟨⟨ls, e0⟩, hse⟩ : ∃ s, readA b i n = s := ⟨_, rfl⟩
  rw [hse] at hrd hrr hra hrl
  dsimp only at hrd hrr hra hrl
  obtain ⟨nl, hnl⟩ : ∃ k, ls.length = k := ⟨_, rfl⟩
  rw [hnl] at hrd hrr hrl
  obtain ⟨fl, hfle⟩ : ∃ f, ps.flatten = f := ⟨_, rfl⟩
  rw [hfle] at hby hrb hfl
  obtain ⟨nf, hnf⟩ : ∃ k, fl.length = k := ⟨_, rfl⟩
  rw [hnf] at hfl
  have hby : ∀ A c W, Hs W (fun _ => True) A np c ps → Calls Try.prog 31 #[.slice A np c] W fun e w' => ∃ A' c', e = .returned (.slice A' nf c') ∧ w'.ownsRow W.heap.size 5 1 (.slice A' nf c') nf (fl.map B) ∧ Sl w' (fun b => W.heap.size ≤ b) A' nf c' fl ∧ Below W.heap.size W w' := fun A c W h => (hby A c W h).mono fun e w' he => by
    obtain ⟨v, rfl, ho, hb⟩ := he
    obtain ⟨A', c', rfl, hs⟩ := owns_sl ho
    rw [hnf] at ho hs ⊢
    exact ⟨A', c', rfl, ho, hs, hb⟩
  have hrb : ∀ A c W, Hs W (fun _ => True) A np c ps → Calls Try.prog 34 #[.slice A np c] W fun e w' => ∃ A' c', e = .returned (.slice A' nf c') ∧ Sl w' (fun b => W.heap.size ≤ b) A' nf c' fl ∧ Below W.heap.size W w' := fun A c W h => (hrb A c W h).mono fun e w' he => by
    obtain ⟨v, rfl, ho, hb⟩ := he
    obtain ⟨A', c', rfl, hs⟩ := owns_sl ho
    rw [hnf] at hs ⊢
    exact ⟨A', c', rfl, hs, hb⟩
  have hrd : ∀ A c W, Sl W (fun _ => True) A nb c b → Calls Try.prog 32 #[.slice A nb c, .int .i64 i, .int .i64 n] W fun e w' => ∃ A' c', e = .returned (.tuple #[.slice A' nl c', .int .i64 e0]) ∧ w'.ownsRow W.heap.size 45 32 (.slice A' nl c') nl (hcells ls) ∧ Hs w' (fun b => W.heap.size ≤ b) A' nl c' ls ∧ Below W.heap.size W w' := fun A c W h => (hrd A c W h).mono fun e w' he => by
    obtain ⟨v, rfl, ho, hb⟩ := he
    obtain ⟨A', c', rfl, hs⟩ := Hs.of_owns ho hnl hra
    exact ⟨A', c', rfl, ho, hs.weak (fun b _ hx => hx.1), hb⟩
  have hrr : ∀ A c W, Sl W (fun _ => True) A nb c b → Calls Try.prog 33 #[.slice A nb c, .int .i64 i, .int .i64 n] W fun e w' => ∃ A' c', e = .returned (.tuple #[.slice A' nl c', .int .i64 e0]) ∧ Hs w' (fun b => W.heap.size ≤ b) A' nl c' ls ∧ Below W.heap.size W w' := fun A c W h => (hrr A c W h).mono fun e w' he => by
    obtain ⟨v, rfl, ho, hb⟩ := he
    obtain ⟨A', c', rfl, hs⟩ := Hs.of_owns ho hnl hra
    exact ⟨A', c', rfl, hs.weak (fun b _ hx => hx.1), hb⟩
  obtain ⟨w1, hw1⟩ : ∃ w1, w.alloc (.cells (lf.map B ++ .int .i64 i :: .int .i64 n :: root.map B).toArray 49) = w1 := ⟨_, rfl⟩
  have hb1 : Below w.heap.size w w1 := by rw [← hw1]; exact (Below.refl _ _).alloc (Nat.le_refl _) _
  have k5 : Blk w1 w.heap.size 49 (lf.map B ++ .int .i64 i :: .int .i64 n :: root.map B).toArray := by rw [← hw1]; exact Blk.new _ _ _
  have hcI : ∀ W, Blk W w.heap.size 49 (lf.map B ++ .int .i64 i :: .int .i64 n :: root.map B).toArray → W.cell? ⟨w.heap.size, 32, none⟩ = some (.int .i64 i) := fun W k => by
    rw [k.cell, List.getElem?_toArray, List.getElem?_append_right (by rw [List.length_map, hll]; omega), List.length_map, hll]; rfl
  have hcN : ∀ W, Blk W w.heap.size 49 (lf.map B ++ .int .i64 i :: .int .i64 n :: root.map B).toArray → W.cell? ⟨w.heap.size, 33, none⟩ = some (.int .i64 n) := fun W k => by
    rw [k.cell, List.getElem?_toArray, List.getElem?_append_right (by rw [List.length_map, hll]; omega), List.length_map, hll]; rfl
  obtain ⟨ask, hask⟩ : ∃ a, (lf.map B ++ .int .i64 i :: .int .i64 n :: root.map B) = a := ⟨_, rfl⟩
  rw [hask] at hw1 k5 hcI hcN ⊢
  have h1 := h.step hb1
  have hs1 := hb.step hb1
  have Hw1 := Lib.hid hw1
  have Hrow := Lib.hid hrow
  have Hby := Lib.hid hby
  have Hrb := Lib.hid hrb
  have Hrd := Lib.hid hrd
  have Hrr := Lib.hid hrr
  have Hra := Lib.hid hra
  have Hnl := Lib.hid hnl
  have Hnf := Lib.hid hnf
  have HcI := Lib.hid hcI
  have HcN := Lib.hid hcN
  have Hlen := Lib.hid hlen
  have H32h := Lib.hid h32
  have Hblen := Lib.hid hblen
  have Hfl := Lib.hid hfl
  clear hw1 hrow hby hrb hrd hrr hra hnl hnf hcI hcN hlen h32 hblen hfl hse hfle hask h hb hll
  go_enter Try.func8, Try.ntmps8
  go_wp2_with (go_at_call 10; rw [Hw1.out]; refine (Hrow.out w1 (h1.weak fun _ _ _ => trivial)).mono ?_; rintro e w2 ⟨gm, cm, rfl, hom, hb2⟩)
  obtain ⟨A1, c1, hv1, hm2⟩ := Hs.of_owns hom (by rw [List.length_append, Hlen.out]; rfl) (H32h.out.append (fun x hx => by rw [List.mem_singleton.1 hx]; exact length_oneHash _))
  cases hv1
  have hC : IbC w ps A np c b Ab nb cb gm cm w2.heap.size ask w2 := ⟨h1.step hb2, hs1.step hb2, hm2.weak fun b hb hx => ⟨Nat.le_trans hb1.size hx.1, hb⟩, k5.step hb2, hb1.trans (hb2.mono hb1.size), Nat.le_trans hb1.size hb2.size⟩
  have hrg := hC.row.sl.room
  have hmg := hC.row.sl.max
  unfold maxLen at hmg
  clear h1 hs1 hm2 hom k5 hb1 hb2
  refine (Hby.out _ _ w2 ((hC.row.weak fun _ _ _ => trivial).fewer Hlen.out)).mono ?_
  rintro e w3 ⟨A1, c1, rfl, ho1, hl1, hb3⟩
  replace hC := hC.step hb3
  have hz3 := hb3.size
  have hlt1 := fun r (e : (Value.slice A1 nf c1).ownBlock = some r) => ho1.lt r e
  clear hb3
  go_wp2_with fail
  refine (Hby.out _ _ w3 ((hC.row.weak fun _ _ _ => trivial).fewer Hlen.out)).mono ?_
  rintro e w4 ⟨A2, c2, rfl, -, hl2, hb4⟩
  replace hC := hC.step hb4
  replace ho1 := owns_step ho1 hb4
  replace hl1 := hl1.step hb4
  have hz4 := hb4.size
  replace hl2 := hl2.weak (Y := fun b => w3.heap.size ≤ b ∧ b < w4.heap.size) fun b hb hx => ⟨hx, hb⟩
  clear hb4
  obtain ⟨w5, hw5⟩ : ∃ w5, w4.alloc (.cells #[] 5) = w5 := ⟨_, rfl⟩
  have hb5 : Below w4.heap.size w4 w5 := by rw [← hw5]; exact (Below.refl _ _).alloc (Nat.le_refl _) _
  have oy : w5.ownsRow w4.heap.size 5 1 (.slice (some ⟨w4.heap.size, 0, none⟩) 0 0) ([] : List UInt8).length (([] : List UInt8).map B) := by
    rw [← hw5]; exact World.ownsRow_lit (base := w4.heap.size) (e := 5) (size := 1) w4 #[] 0 (Nat.le_refl _) (by decide) rfl
  obtain ⟨vy1, w6, hr6, oy6, gy6⟩ := append_sl oy ((hC.bs.step hb5).weak (Y := fun _ => True) fun _ _ _ => trivial) (by simp; omega) hb5.size
  rw [List.nil_append] at oy6
  have hb6 : Below w4.heap.size w4 w6 := hb5.grown gy6 hb5.size (fun k e => (oy.lt k e).1)
  obtain ⟨vy2, w7, hr7, oy7, gy7⟩ := append_u1 oy6 165 (by rw [Hblen.out]; omega) hb6.size
  have hb7 : Below w4.heap.size w4 w7 := hb6.grown gy7 hb6.size (fun k e => (oy6.lt k e).1)
  replace hC := hC.step hb7
  replace ho1 := owns_step ho1 hb7
  replace hl1 := hl1.step hb7
  replace hl2 := hl2.step hb7
  have hz7 := hb7.size
  obtain ⟨Ay, cy, rfl, hy⟩ := owns_sl oy7
  rw [List.length_append, Hblen.out, show ([165] : List UInt8).length = 1 from rfl] at hy hr7
  have hy := hy.weak (Y := fun b => w4.heap.size ≤ b ∧ b < w7.heap.size) fun b hb hx => ⟨hx, hb⟩
  have hry := hy.room
  have hmy := hy.max
  unfold maxLen at hmy
  have Hw5 := Lib.hid hw5
  have Hr6 := Lib.hid hr6
  have Hr7 := Lib.hid hr7
  clear hw5 hr6 hr7 oy oy6 oy7 gy6 gy7 hb5 hb6 hb7
  go_wp2_with (first
    | ((with_reducible show wpList _ _ _ (⟨some 27, .call _, _, _, _, _⟩ :: _) _ _); rw [Hw5.out]; refine wpList_run rfl vy1 w6 (run_append_op (.tmp 25) (.tmp 26) 71 rfl _ _ rfl rfl Hr6.out) ?_; simp only [Act.put])
    | ((with_reducible show wpList _ _ _ (⟨some 29, .call _, _, _, _, _⟩ :: _) _ _); refine wpList_run rfl _ w7 (run_append_op (.tmp 27) (.tmp 28) 71 rfl _ _ rfl rfl Hr7.out) ?_; simp only [Act.put]))
  have d1 : ∀ s : InC (fun W => Below w7.heap.size w7 W), s.W.cell? ⟨w.heap.size, 32, none⟩ = some (.int .i64 i) := fun s => HcI.out _ (hC.ask.step s.ok)
  have d2 : ∀ s : InC (fun W => Below w7.heap.size w7 W), s.W.cell? ⟨w.heap.size, 33, none⟩ = some (.int .i64 n) := fun s => HcN.out _ (hC.ask.step s.ok)
  have hyb := hy.take nb (by omega)
  rw [List.take_left' Hblen.out] at hyb
  have hS : Below w7.heap.size w7 w7.drew := (Below.refl _ _).drew
  refine wp_region_mix (fun W => Below w7.heap.size w7 W) [(0, true), (1, true), (2, true), (3, true), (4, true), (5, true), (6, true), (7, true), (8, true), (9, false), (10, true), (11, true), (12, true), (13, true), (14, true)] (by kernel_rfl) (by kernel_rfl) hS fun _ => ?_
  simp only [List.map_cons, List.map_nil, Array.getD_eq_getD_getElem?, List.getElem?_toArray, List.getElem?_cons_succ, List.getElem?_cons_zero, Option.getD_some]
  generalize w7.drew = u8 at hS ⊢
  have hzd5 := hS.size
  refine wpMix_s (fun K hK => ?_)
  go_simp
  refine hK _ ?_
  clear hK K
  refine wpMix_s (fun K hK => ?_)
  go_simp
  refine hK _ ?_
  clear hK K
  refine wpMix_s (fun K hK => ?_)
  go_simp
  refine hK _ ?_
  clear hK K
  refine wpMix_v (by kernel_rfl) (.slice Ay nb cy) (fun s => run_slice_op_hiT sliceU8 sizeU8 (.tmp 31) (.tmp 33) rfl Ay (nb + 1) cy nb rfl rfl (by omega) s.W) ?_
  simp only [Act.put]
  refine wpMix_s (fun K hK => ?_)
  go_simp
  refine hK _ ?_
  clear hK K
  refine wpMix_s (fun K hK => ?_)
  go_simp
  refine hK _ ?_
  clear hK K
  refine wpMix_s (fun K hK => ?_)
  go_simp
  refine hK _ ?_
  clear hK K
  refine wpMix_s (fun K hK => ?_)
  go_simp
  refine hK _ ?_
  clear hK K
  refine wpMix_s (fun K hK => ?_)
  go_simp
  refine hK _ ?_
  clear hK K
  refine wpMix_c (fun K hK => ?_) hS
  go_simp
  refine (Hrd.out _ _ u8 ((hyb.step hS).weak fun _ _ _ => trivial)).mono ?_
  rintro e u8_1 ⟨A5, c5, rfl, ho5, hl5, hb'⟩
  refine hK _ _ ?_
  clear hK K
  replace hS := hS.trans (hb'.mono hS.size)
  refine ⟨hS, ?_⟩
  have hzc5 := hb'.size
  clear hb'
  refine wpMix_s (fun K hK => ?_)
  go_simp
  refine hK _ ?_
  clear hK K
  refine wpMix_s (fun K hK => ?_)
  go_simp
  refine hK _ ?_
  clear hK K
  refine wpMix_s (fun K hK => ?_)
  go_simp
  refine hK _ ?_
  clear hK K
  refine wpMix_s (fun K hK => ?_)
  go_simp
  refine hK _ ?_
  clear hK K
  refine wpMix_s (fun K hK => ?_)
  go_simp
  refine hK _ ?_
  clear hK K
  refine wpMix_nil ?_
  intro _
  have hlt5 := fun r (e : (Value.slice A5 nl c5).ownBlock = some r) => ho5.lt r e
  replace hC := hC.step hS
  replace ho1 := owns_step ho1 hS
  replace hl1 := hl1.step hS
  replace hl2 := hl2.step hS
  replace hy := hy.step hS
  have hz5 := hS.size
  clear d1 d2 hyb
  go_wp2_with fail
  have d1 : ∀ s : InC (fun W => Below u8_1.heap.size u8_1 W), s.W.cell? ⟨w.heap.size, 32, none⟩ = some (.int .i64 i) := fun s => HcI.out _ (hC.ask.step s.ok)
  have d2 : ∀ s : InC (fun W => Below u8_1.heap.size u8_1 W), s.W.cell? ⟨w.heap.size, 33, none⟩ = some (.int .i64 n) := fun s => HcN.out _ (hC.ask.step s.ok)
  have hyb := hy.take nb (by omega)
  rw [List.take_left' Hblen.out] at hyb
  have hS : Below u8_1.heap.size u8_1 u8_1.drew := (Below.refl _ _).drew
  refine wp_region_mix (fun W => Below u8_1.heap.size u8_1 W) [(0, true), (1, true), (2, true), (3, true), (4, true), (5, true), (6, true), (7, true), (8, true), (9, false), (10, true), (11, true), (12, true), (13, true), (14, true)] (by kernel_rfl) (by kernel_rfl) hS fun _ => ?_
  simp only [List.map_cons, List.map_nil, Array.getD_eq_getD_getElem?, List.getElem?_toArray, List.getElem?_cons_succ, List.getElem?_cons_zero, Option.getD_some]
  generalize u8_1.drew = u9 at hS ⊢
  have hzd6 := hS.size
  refine wpMix_s (fun K hK => ?_)
  go_simp
  refine hK _ ?_
  clear hK K
  refine wpMix_s (fun K hK => ?_)
  go_simp
  refine hK _ ?_
  clear hK K
  refine wpMix_s (fun K hK => ?_)
  go_simp
  refine hK _ ?_
  clear hK K
  refine wpMix_v (by kernel_rfl) (.slice Ay nb cy) (fun s => run_slice_op_hiT sliceU8 sizeU8 (.tmp 44) (.tmp 46) rfl Ay (nb + 1) cy nb rfl rfl (by omega) s.W) ?_
  simp only [Act.put]
  refine wpMix_s (fun K hK => ?_)
  go_simp
  refine hK _ ?_
  clear hK K
  refine wpMix_s (fun K hK => ?_)
  go_simp
  refine hK _ ?_
  clear hK K
  refine wpMix_s (fun K hK => ?_)
  go_simp
  refine hK _ ?_
  clear hK K
  refine wpMix_s (fun K hK => ?_)
  go_simp
  refine hK _ ?_
  clear hK K
  refine wpMix_s (fun K hK => ?_)
  go_simp
  refine hK _ ?_
  clear hK K
  refine wpMix_c (fun K hK => ?_) hS
  go_simp
  refine (Hrd.out _ _ u9 ((hyb.step hS).weak fun _ _ _ => trivial)).mono ?_
  rintro e u9_1 ⟨A6, c6, rfl, ho6, hl6, hb'⟩
  refine hK _ _ ?_
  clear hK K
  replace hS := hS.trans (hb'.mono hS.size)
  refine ⟨hS, ?_⟩
  have hzc6 := hb'.size
  clear hb'
  refine wpMix_s (fun K hK => ?_)
  go_simp
  refine hK _ ?_
  clear hK K
  refine wpMix_s (fun K hK => ?_)
  go_simp
  refine hK _ ?_
  clear hK K
  refine wpMix_s (fun K hK => ?_)
  go_simp
  refine hK _ ?_
  clear hK K
  refine wpMix_s (fun K hK => ?_)
  go_simp
  refine hK _ ?_
  clear hK K
  refine wpMix_s (fun K hK => ?_)
  go_simp
  refine hK _ ?_
  clear hK K
  refine wpMix_nil ?_
  intro _
  have hlt6 := fun r (e : (Value.slice A6 nl c6).ownBlock = some r) => ho6.lt r e
  replace hC := hC.step hS
  replace ho1 := owns_step ho1 hS
  replace hl1 := hl1.step hS
  replace hl2 := hl2.step hS
  replace hy := hy.step hS
  replace ho5 := owns_step ho5 hS
  replace hl5 := hl5.step hS
  have hz6 := hS.size
  clear d1 d2 hyb
  clear hlt6
  have d1 := HcI.out _ hC.ask
  have d2 := HcN.out _ hC.ask
  replace hl6 := hl6.weak (Y := fun b => u8_1.heap.size ≤ b) fun b _ hx => Nat.le_trans hzd6 hx
  clear ho6
  go_wp2_with fail
  refine (Hrr.out _ _ u9_1 (hC.bs.weak fun _ _ _ => trivial)).mono ?_
  rintro e w10 ⟨A7, c7, rfl, hl7, hb'⟩
  replace hC := hC.step hb'
  replace ho1 := owns_step ho1 hb'
  replace hl1 := hl1.step hb'
  replace hl2 := hl2.step hb'
  replace hy := hy.step hb'
  replace ho5 := owns_step ho5 hb'
  replace hl5 := hl5.step hb'
  replace hl6 := hl6.step hb'
  replace hl7 := hl7.weak (Y := fun b => u8_1.heap.size ≤ b) fun b _ hx => Nat.le_trans hz6 hx
  have hz10 := hb'.size
  clear hb' d1 d2
  go_wp2_with fail
  refine (Hrb.out _ _ w10 (hC.src.weak fun _ _ _ => trivial)).mono ?_
  rintro e w11 ⟨A8, c8, rfl, hl8, hb'⟩
  replace hC := hC.step hb'
  replace ho1 := owns_step ho1 hb'
  replace hl1 := hl1.step hb'
  replace hl2 := hl2.step hb'
  replace hy := hy.step hb'
  replace ho5 := owns_step ho5 hb'
  replace hl5 := hl5.step hb'
  replace hl6 := hl6.step hb'
  replace hl7 := hl7.step hb'
  replace hl8 := hl8.weak (Y := fun b => u8_1.heap.size ≤ b) fun b _ hx => Nat.le_trans hz6 (Nat.le_trans hz10 hx)
  have hz11 := hb'.size
  clear hb'
  have hyb := hy.take nb (by omega)
  rw [List.take_left' Hblen.out] at hyb
  obtain ⟨gy, oy, hAy, -, -, -⟩ := hy.cells (by omega)
  subst hAy
  have d5 : ∀ s : InC (fun W => Below w11.heap.size w11 W), s.W.cell? ⟨gy, oy + nb, none⟩ = some (.int .u8 165) := fun s => by
    obtain ⟨g', o', hA, -, -, hc⟩ := (hy.step s.ok).cells (by omega)
    cases hA
    rw [hc nb (by omega), List.getD_eq_getElem?_getD, List.getElem?_append_right (by rw [Hblen.out]; exact Nat.le_refl _), Hblen.out, Nat.sub_self]
    rfl
  have hnn : (nb : Int) < (nb : Int) + 1 := by omega
  have hr5 := hl5.sl.room
  have hm5 := hl5.sl.max
  unfold maxLen at hm5
  have hr6 := hl6.sl.room
  have hm6 := hl6.sl.max
  unfold maxLen at hm6
  have hr7 := hl7.sl.room
  have hm7 := hl7.sl.max
  unfold maxLen at hm7
  have hr1 := hl1.room
  have hm1 := hl1.max
  unfold maxLen at hm1
  have hr2 := hl2.room
  have hm2 := hl2.max
  unfold maxLen at hm2
  have hr8 := hl8.room
  have hm8 := hl8.max
  unfold maxLen at hm8
  go_wp2_with fail
  have hS : Below w11.heap.size w11 w11.drew := (Below.refl _ _).drew
  refine wp_region_mix (fun W => Below w11.heap.size w11 W) [(0, true), (1, true), (2, true), (3, true), (4, true), (5, true), (6, true), (7, true), (8, false), (9, true), (10, true), (11, true), (12, true), (14, true), (13, false), (15, true), (16, true), (17, true), (18, true), (19, true), (20, false), (21, true), (22, true), (23, true), (24, true), (25, true), (26, true), (27, true), (28, true), (29, true), (30, true), (31, true), (32, true), (33, true), (34, true), (35, true), (36, true), (37, true), (38, true), (39, true), (40, true)] (by kernel_rfl) (by kernel_rfl) hS fun _ => ?_
  simp only [List.map_cons, List.map_nil, Array.getD_eq_getD_getElem?, List.getElem?_toArray, List.getElem?_cons_succ, List.getElem?_cons_zero, Option.getD_some]
  generalize w11.drew = u12 at hS ⊢
  refine wpMix_s (fun K hK => ?_)
  go_simp
  refine hK _ ?_
  clear hK K
  refine wpMix_v (by kernel_rfl) (.string (bstr fl)) (fun s => run_str_op (.tmp 68) rfl rfl (hl1.step s.ok)) ?_
  simp only [Act.put]
  refine wpMix_s (fun K hK => ?_)
  go_simp
  refine hK _ ?_
  clear hK K
  refine wpMix_v (by kernel_rfl) (.string (bstr fl)) (fun s => run_str_op (.tmp 70) rfl rfl (hl8.step s.ok)) ?_
  simp only [Act.put]
  refine wpMix_v (by kernel_rfl) (.bool false) (fun s => run_neqstrM_f (.tmp 69) (.tmp 71) _ fl rfl rfl rfl s.W) ?_
  simp only [Act.put]
  refine wpMix_s (fun K hK => ?_)
  go_simp
  refine hK _ ?_
  clear hK K
  refine wpMix_s (fun K hK => ?_)
  go_simp
  refine hK _ ?_
  clear hK K
  refine wpMix_s (fun K hK => ?_)
  go_simp
  refine hK _ ?_
  clear hK K
  refine wpMix_c (fun K hK => ?_) hS
  go_simp
  refine (same_any ls A5 A7 nl c5 c7 u12 ((hl5.step hS).weak fun _ _ _ => trivial) ((hl7.step hS).weak fun _ _ _ => trivial) (by omega)).mono ?_
  rintro e u12_1 ⟨rfl, hb'⟩
  refine hK _ _ ?_
  clear hK K
  replace hS := hS.trans (hb'.mono hS.size)
  refine ⟨hS, ?_⟩
  clear hb'
  refine wpMix_s (fun K hK => ?_)
  go_simp
  refine hK _ ?_
  clear hK K
  refine wpMix_s (fun K hK => ?_)
  go_simp
  refine hK _ ?_
  clear hK K
  refine wpMix_s (fun K hK => ?_)
  go_simp
  refine hK _ ?_
  clear hK K
  refine wpMix_s (fun K hK => ?_)
  go_simp
  refine hK _ ?_
  clear hK K
  refine wpMix_s (fun K hK => ?_)
  go_simp
  refine hK _ ?_
  clear hK K
  refine wpMix_c (fun K hK => ?_) hS
  go_simp
  refine (num11_any _ u12_1).mono ?_
  rintro e _ ⟨rfl, rfl⟩
  refine hK _ _ ?_
  clear hK K
  refine ⟨hS, ?_⟩
  refine wpMix_s (fun K hK => ?_)
  go_simp
  refine hK _ ?_
  clear hK K
  refine wpMix_s (fun K hK => ?_)
  go_simp
  refine hK _ ?_
  clear hK K
  refine wpMix_s (fun K hK => ?_)
  go_simp
  refine hK _ ?_
  clear hK K
  refine wpMix_s (fun K hK => ?_)
  go_simp
  refine hK _ ?_
  clear hK K
  refine wpMix_s (fun K hK => ?_)
  go_simp
  refine hK _ ?_
  clear hK K
  refine wpMix_c (fun K hK => ?_) hS
  go_simp
  refine (left11_any ps gm A np cm c u12_1 ((hC.step hS).row.weak fun _ _ _ => trivial) ((hC.step hS).src.weak fun _ _ _ => trivial) (by omega)).mono ?_
  rintro e u12_2 ⟨rfl, hb'⟩
  refine hK _ _ ?_
  clear hK K
  replace hS := hS.trans (hb'.mono hS.size)
  refine ⟨hS, ?_⟩
  clear hb'
  refine wpMix_s (fun K hK => ?_)
  go_simp
  refine hK _ ?_
  clear hK K
  refine wpMix_s (fun K hK => ?_)
  go_simp
  refine hK _ ?_
  clear hK K
  refine wpMix_s (fun K hK => ?_)
  go_simp
  refine hK _ ?_
  clear hK K
  refine wpMix_s (fun K hK => ?_)
  go_simp
  refine hK _ ?_
  clear hK K
  refine wpMix_s (fun K hK => ?_)
  go_simp
  refine hK _ ?_
  clear hK K
  refine wpMix_s (fun K hK => ?_)
  go_simp
  refine hK _ ?_
  clear hK K
  refine wpMix_v (by kernel_rfl) (.slice (some ⟨gy, oy, none⟩) nb cy) (fun s => run_slice_op_hiT sliceU8 sizeU8 (.tmp 92) (.tmp 94) rfl _ (nb + 1) cy nb rfl rfl (by omega) s.W) ?_
  simp only [Act.put]
  refine wpMix_v (by kernel_rfl) (.string (bstr b)) (fun s => run_str_op (.tmp 95) rfl rfl (hyb.step s.ok)) ?_
  simp only [Act.put]
  refine wpMix_s (fun K hK => ?_)
  go_simp
  refine hK _ ?_
  clear hK K
  refine wpMix_v (by kernel_rfl) (.string (bstr b)) (fun s => run_str_op (.tmp 97) rfl rfl (hC.bs.step s.ok)) ?_
  simp only [Act.put]
  refine wpMix_v (by kernel_rfl) (.bool false) (fun s => run_neqstrM_f (.tmp 96) (.tmp 98) _ b rfl rfl rfl s.W) ?_
  simp only [Act.put]
  refine wpMix_s (fun K hK => ?_)
  go_simp
  refine hK _ ?_
  clear hK K
  refine wpMix_s (fun K hK => ?_)
  go_simp
  refine hK _ ?_
  clear hK K
  refine wpMix_s (fun K hK => ?_)
  go_simp
  refine hK _ ?_
  clear hK K
  refine wpMix_s (fun K hK => ?_)
  go_simp
  refine hK _ ?_
  clear hK K
  refine wpMix_s (fun K hK => ?_)
  go_simp
  refine hK _ ?_
  clear hK K
  refine wpMix_s (fun K hK => ?_)
  go_simp
  refine hK _ ?_
  clear hK K
  refine wpMix_s (fun K hK => ?_)
  go_simp
  refine hK _ ?_
  clear hK K
  refine wpMix_s (fun K hK => ?_)
  go_simp
  refine hK _ ?_
  clear hK K
  refine wpMix_s (fun K hK => ?_)
  go_simp
  refine hK _ ?_
  clear hK K
  refine wpMix_nil ?_
  intro _
  replace hC := hC.step hS
  replace ho1 := owns_step ho1 hS
  replace hl2 := hl2.step hS
  replace ho5 := owns_step ho5 hS
  replace hl6 := hl6.step hS
  replace hl7 := hl7.step hS
  replace hl8 := hl8.step hS
  have hz12 := hS.size
  generalize u12_2 = w13 at *
  have hbel := hC.bel
  have hn1 := hC.n1
  clear hS d5 hyb hy hl1 hl5 hC
  go_wp2_with fail
  go_loopw [18] (fun i wr => ∃ k : Nat, k ≤ nf ∧ i = .int .i64 k ∧ (∃ xs, wr.ownsRow w2.heap.size 5 1 (.slice A1 nf c1) nf xs) ∧ w13.grownBy wr (Value.slice A1 nf c1).ownBlock) (fun i _ => nf - (intOf i).toNat)
  case atStart => exact ⟨0, Nat.zero_le _, rfl, ⟨_, ho1⟩, ⟨rfl, rfl, rfl, Nat.le_refl _, fun _ _ _ => rfl⟩⟩
  case round =>
    clear ho1
    obtain ⟨k, hk, rfl, ⟨xs, ho1⟩, hg1⟩ := hrel
    by_cases hkn : k < nf
    · obtain ⟨g1, c1', e⟩ := owns_some ho1 (by omega)
      cases e
      obtain ⟨⟨v, hcv⟩, hfr, xs', ho1'⟩ := owns_setB ho1 k hkn (.int .u8 90)
      have hg1' := grown_setCell hg1 k (.int .u8 90)
      have hd : decide ((k : Int) < (nf : Int)) = true := by simp; omega
      have Ho := Lib.hid ho1'
      have Hg := Lib.hid hg1'
      clear ho1 ho1' hg1 hg1'
      go_wp2_with fail
      exact ⟨⟨k + 1, by omega, by go_num, ⟨_, Ho.out⟩, Hg.out⟩, by simp [intOf]; omega⟩
    · obtain rfl : k = nf := by omega
      have hd : decide ((k : Int) < (k : Int)) = false := by simp
      have hz14 := hg1.size
      replace hbel := hbel.grown hg1 hbel.size (fun r e => by have := (hlt1 r e).1; omega)
      replace hl2 := hl2.grown hg1 (fun b _ hx e => by have := (hlt1 b e.symm).2; have := hx.1; omega)
      replace ho5 := ho5.kept hg1 (by
        cases hv : (Value.slice A5 nl c5).ownBlock with
        | none => exact .inl rfl
        | some r => exact .inr fun e => by have := (hlt1 r e.symm).2; have := (hlt5 r hv).1; omega)
      replace hl6 := hl6.grown hg1 (fun b _ hx e => by have hx : u8_1.heap.size ≤ b := hx; have := (hlt1 b e.symm).2; omega)
      replace hl7 := hl7.grown hg1 (fun b _ hx e => by have hx : u8_1.heap.size ≤ b := hx; have := (hlt1 b e.symm).2; omega)
      replace hl8 := hl8.grown hg1 (fun b _ hx e => by have hx : u8_1.heap.size ≤ b := hx; have := (hlt1 b e.symm).2; omega)
      clear ho1 hg1
      go_wp2_with fail
      refine (spoilt11_any _ u8.heap.size nl _ _ ho5 (by omega) (by omega)).mono ?_
      rintro e w15 ⟨rfl, hg5⟩
      replace hbel := hbel.grown hg5 hbel.size (fun r e => by have := (hlt5 r e).1; omega)
      replace hl2 := hl2.grown hg5 (fun b _ hx e => by have := (hlt5 b e.symm).1; have := hx.2; omega)
      replace hl6 := hl6.grown hg5 (fun b _ hx e => by have hx : u8_1.heap.size ≤ b := hx; have := (hlt5 b e.symm).2; omega)
      replace hl7 := hl7.grown hg5 (fun b _ hx e => by have hx : u8_1.heap.size ≤ b := hx; have := (hlt5 b e.symm).2; omega)
      replace hl8 := hl8.grown hg5 (fun b _ hx e => by have hx : u8_1.heap.size ≤ b := hx; have := (hlt5 b e.symm).2; omega)
      clear ho5 hg5
      go_wp2_with (first
        | ((with_reducible show wpList _ _ _ (⟨some 121, .convert _ _ _, _, _, _, _⟩ :: _) _ _); refine wpList_runG (by kernel_rfl) (.string (bstr fl)) _ (run_str_op (.tmp 120) rfl rfl hl2) ?_; simp only [Act.put])
        | ((with_reducible show wpList _ _ _ (⟨some 123, .convert _ _ _, _, _, _, _⟩ :: _) _ _); refine wpList_runG (by kernel_rfl) (.string (bstr fl)) _ (run_str_op (.tmp 122) rfl rfl hl8) ?_; simp only [Act.put])
        | ((with_reducible show wpList _ _ _ (⟨some 124, .binOp _ _ _ _ _, _, _, _, _⟩ :: _) _ _); refine wpList_runG (by kernel_rfl) (.bool true) _ (run_eqstr_t (.tmp 121) (.tmp 123) _ fl fl rfl rfl rfl rfl _) ?_; simp only [Act.put])
        | (go_at_call 16; refine (same_any ls A6 A7 nl c6 c7 w15 (hl6.weak fun _ _ _ => trivial) (hl7.weak fun _ _ _ => trivial) (by omega)).mono ?_; rintro e w16 ⟨rfl, hb16⟩)
        | (go_at_call 9; refine (works11_any _).mono ?_; rintro e w17 ⟨rfl, hb17⟩))
      go_ret
      exact ⟨rfl, (hbel.trans (hb16.mono hbel.size)).trans (hb17.mono (Nat.le_trans hbel.size hb16.size))⟩
end Go.Proofs.Ytmglkblomklcbaa
