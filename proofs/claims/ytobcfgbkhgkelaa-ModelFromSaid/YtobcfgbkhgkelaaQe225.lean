/- model: Read. slices.Grow, slices.Concat of slices of bytes. -/
import Derived.Test.YtobcfgbkhgkelaaQe224
import Derived.Test.YtobcfgbkhgkelaaQe223
import Derived.Test.YtobcfgbkhgkelaaQe205
import Derived.Test.YtobcfgbkhgkelaaQe212
import Derived.Test.YtobcfgbkhgkelaaQe207
import Derived.Test.YtobcfgbkhgkelaaQe216
namespace Go.Proofs.Ytobcfgbkhgkelaa
open Go Go.RowKit
attribute [local go_sem] Oper.semAt_some

set_option maxRecDepth 100000 in
theorem mread_out (Z : Nat → Prop) (lo g : Nat) (R : MdR) (m : MoV) (W : World) (h : Md Z lo g R m W) (n : Int) (hn : n < 0 ∨ (m.ents.length : Int) ≤ n) :
    Calls Try.prog 15 #[.pointer (some ⟨g, 0, none⟩), .int .i64 n] W fun e w' => e = .returned (.tuple #[.slice none 0 0, .int .i64 4]) ∧ w' = W := by
  have hno := mnone_any h
  have hsz := msize_any h
  clear h
  by_cases h0 : n < 0
  · have d1 : decide (n < 0) = true := by simpa using h0
    go_enter Try.func15, Try.ntmps15
    go_wp2_with (first
      | (go_at_call 43; refine hno.mono ?_; rintro e w' ⟨rfl, hw⟩; obtain rfl := hw.symm)
      | (go_at_call 13; refine hsz.mono ?_; rintro e w' ⟨rfl, hw⟩; obtain rfl := hw.symm))
    go_ret2
    exact ⟨rfl, rfl⟩
  · have d1 : decide (n < 0) = false := by simpa using h0
    have h1 : (m.ents.length : Int) ≤ n := by omega
    have d2 : decide ((m.ents.length : Int) ≤ n) = true := by simpa using h1
    go_enter Try.func15, Try.ntmps15
    go_wp2_with (first
      | (go_at_call 43; refine hno.mono ?_; rintro e w' ⟨rfl, hw⟩; obtain rfl := hw.symm)
      | (go_at_call 13; refine hsz.mono ?_; rintro e w' ⟨rfl, hw⟩; obtain rfl := hw.symm))
    go_ret2
    exact ⟨rfl, rfl⟩
set_option maxRecDepth 100000 in
theorem mread_any (Z : Nat → Prop) (lo g : Nat) (R : MdR) (m : MoV) (W : World) (h : Md Z lo g R m W) (k : Nat) (hk : k < m.ents.length) :
    Calls Try.prog 15 #[.pointer (some ⟨g, 0, none⟩), .int .i64 (k : Int)] W fun e w' => ∃ A' c', e = .returned (.tuple #[.slice A' (m.ents.getD k []).length c', .int .i64 0]) ∧ Sl w' (W.heap.size ≤ ·) A' (m.ents.getD k []).length c' (m.ents.getD k []) ∧ Below W.heap.size W w' := by
  have hno := mnone_any h
  have hsz := msize_any h
  obtain ⟨A, c, hve, hes⟩ := h.ents.es
  have hr := hes.room
  have hm := hes.max
  unfold maxLen at hm
  obtain ⟨b, o, rfl, -, -, hat⟩ := hes.at_ (by omega)
  obtain ⟨Ak, ck, ce, hsk⟩ := hat k hk
  have hbig : (m.ents.getD k []).length ≤ 1099511627776 := h.big _ (by rw [List.getD_eq_getElem?_getD, List.getElem?_eq_getElem hk]; exact List.getElem_mem hk)
  obtain ⟨l, hl⟩ : ∃ x, m.ents.getD k [] = x := ⟨_, rfl⟩
  rw [hl] at ce hsk hbig ⊢
  obtain ⟨N, hN⟩ : ∃ x, m.ents.length = x := ⟨_, rfl⟩
  rw [hN] at hve hk hr hsz
  have c0 : W.cell? ⟨g, 0, none⟩ = some (.slice (some ⟨b, o, none⟩) N c) := (h.cell 0 (by decide)).trans (congrArg some hve)
  have d1 : decide ((k : Int) < 0) = false := by simp
  have d2 : decide ((N : Int) ≤ (k : Int)) = false := by simp; omega
  have hcl := bclone_any l Ak l.length ck W hsk hbig
  have Hcl := Lib.hid hcl
  have hrk := hsk.room
  have hmk := hsk.max
  unfold maxLen at hmk
  clear h hve hes hat hl hN hcl hsk
  go_enter Try.func15, Try.ntmps15
  go_wp2_with (first
    | (go_at_call 43; refine hno.mono ?_; rintro e w' ⟨rfl, hw⟩; obtain rfl := hw.symm)
    | (go_at_call 13; refine hsz.mono ?_; rintro e w' ⟨rfl, hw⟩; obtain rfl := hw.symm)
    | (go_at_call 41; refine Hcl.out.mono ?_; rintro e w9 ⟨A', c', rfl, hs9, hb9⟩))
  go_ret2
  exact ⟨A', c', rfl, hs9, hb9⟩
set_option maxHeartbeats 1000000 in
set_option maxRecDepth 100000 in
theorem growE_any (m : Nat) (w : World) (hm : m ≤ 1000000000) :
    Calls Try.prog 72 #[.slice none 0 0, .int .i64 (m : Int)] w fun e w' => ∃ v, e = .returned v ∧ w'.ownsRow w.heap.size 22 1 v 0 [] ∧ Below w.heap.size w w' := by
  have hd : decide ((m : Int) < 0) = false := by simp
  have hw : IntKind.i64.wrap (m : Int) = (m : Int) := IntWalk.i64_in _ (by omega)
  by_cases h0 : m = 0
  · subst h0
    go_enter Try.func72, Try.ntmps72
    go_wp2_with fail
    go_ret
    exact ⟨_, rfl, World.ownsRow_nil _ _ _ _, Below.refl _ _⟩
  · have hd1 : decide ((0 : Int) < (m : Int)) = true := by simp; omega
    have hd2 : 0 < m := by omega
    obtain ⟨i, hi⟩ : ∃ i, Try.prog.info? 22 = some i := Option.isSome_iff_exists.1 (by kernel_rfl)
    have hz : i.zero = some (.slice none 0 0) := by
      have : (Try.prog.info? 22).bind (·.zero) = some (.slice none 0 0) := by kernel_rfl
      rw [hi] at this; exact this
    have hs : i.size = 1 := by
      have : (Try.prog.info? 22).map (·.size) = some 1 := by kernel_rfl
      rw [hi] at this; exact Option.some.inj this
    have hby : i.bytes = 24 := by
      have : (Try.prog.info? 22).map (·.bytes) = some 24 := by kernel_rfl
      rw [hi] at this; exact Option.some.inj this
    have hr := Lib.run_append_nil_zeros (P := Try.prog) w 23 3 23 22 i _ .i64 .i64 Try.underlying23 Try.underlying3 hi hz m hd2 (by omega) (by omega) (by rw [hby]; omega)
    obtain ⟨cap, hcap⟩ : ∃ cap, grownCap w m 0 22 = cap := ⟨_, rfl⟩
    have hcm : cap ≤ maxLen := by rw [← hcap]; exact grownCap_le_maxLen w m 0 _ (by unfold maxLen; omega)
    have hcg : m ≤ cap := by rw [← hcap]; exact grownCap_ge w m 0 _
    rw [hcap] at hr
    obtain ⟨Z, hZ⟩ : ∃ Z, Builtin.zeroCells (Value.slice none 0 0).cells m ++ Builtin.zeroCells (Value.slice none 0 0).cells (cap - m) = Z := ⟨_, rfl⟩
    have hZs : Z.size = cap := by rw [← hZ]; simp [size_zeroCells, Value.cells]; omega
    rw [hZ] at hr
    have hmk := World.ownsRow_made (base := w.heap.size) (e := 22) (size := 1) w.drew Z cap (Nat.le_refl _) hcm (by omega)
    have hb : Below w.heap.size w (w.drew.alloc (.cells Z 22)) := (Below.refl _ _).drew.alloc (Nat.le_refl _) _
    obtain ⟨w1, hw1⟩ : ∃ w1, w.drew.alloc (.cells Z 22) = w1 := ⟨_, rfl⟩
    rw [hw1] at hr hmk hb
    unfold maxLen at hcm
    have Hr := Lib.hid hr
    have Hcap := Lib.hid hcap
    have hcap0 : 0 ≤ cap := Nat.zero_le _
    clear hr hz hs hby hi hcap hZ hZs hw1
    go_enter Try.func72, Try.ntmps72
    go_wp2_with (first
      | ((with_reducible show wpList _ _ _ (⟨some 20, .slice _ _ _ _ _, _, _, _, _⟩ :: _) _ _); refine wpList_run0 rfl (.slice none 0 0) (run_slice_hiB (.tmp 17) (.tmp 19) rfl none 0 0 0 rfl rfl (by omega) _) ?_; simp only [Act.put])
      | ((with_reducible show wpList _ _ _ (⟨some 22, .call _, _, _, _, _⟩ :: _) _ _); refine wpList_run rfl (.slice (some ⟨w.heap.size, 0, none⟩) m cap) w1 (run_append2_op (.tmp 20) (.tmp 21) 23 3 rfl _ _ rfl rfl Hr.out) ?_; simp only [Act.put])
      | ((with_reducible show wpList _ _ _ (⟨some 25, .slice _ _ _ _ _, _, _, _, _⟩ :: _) _ _); refine wpList_run0 rfl (.slice (some ⟨w.heap.size, 0, none⟩) 0 cap) (run_slice_hiB (.tmp 22) (.tmp 24) rfl (some ⟨w.heap.size, 0, none⟩) m cap 0 rfl rfl (by omega) _) ?_; simp only [Act.put]))
    go_ret
    exact ⟨_, rfl, hmk, hb⟩
def two3 (a b c : Nat) (k : Nat) : Nat := if k = 0 then a else if k = 1 then b else c
theorem infoSl : (Try.prog.info? 22).map (fun i => (i.zero, i.size, i.bytes)) = some (some (.slice none 0 0), 1, 24) := by kernel_rfl
theorem Es.one {W : World} {X : Nat → Prop} {A : Option Addr} {n c : Nat} {ls : List (List UInt8)} {vs : List Value} (hl : ls.length = n) (hs : SlV W X A n c 1 vs) (h : ∀ i (h : i < ls.length), ∃ Ai ci, vs[i]? = some (.slice Ai (ls[i]).length ci) ∧ Sl W X Ai (ls[i]).length ci ls[i]) : ∀ u ∈ vs, u.oneCell' = true := by
  intro u hu
  obtain ⟨i, hi, rfl⟩ := List.getElem_of_mem hu
  have hn := hs.len
  obtain ⟨Ai, ci, h1, _⟩ := h i (by omega)
  rw [List.getElem?_eq_getElem hi] at h1
  rw [Option.some.inj h1]
  rfl
set_option maxHeartbeats 4000000 in
set_option maxRecDepth 100000 in
theorem concat2_any (la lb : List (List UInt8)) (Aa Ab : Option Addr) (na nb ca cb g2 : Nat) (w : World) (k2 : Blk w g2 23 #[.slice Aa na ca, .slice Ab nb cb]) (ha : Es w (fun _ => True) Aa na ca la) (hb : Es w (fun _ => True) Ab nb cb lb) (hn : na + nb ≤ 1000000000) :
    Calls Try.prog 49 #[.slice (some ⟨g2, 0, none⟩) 2 2] w fun e w' => ∃ A c, e = .returned (.slice A (na + nb) c) ∧ Es w' (fun _ => True) A (na + nb) c (la ++ lb) ∧ Below w.heap.size w w' := by
  obtain ⟨va, hsa, hea⟩ := ha.ex
  obtain ⟨vb, hsb, heb⟩ := hb.ex
  have hla := ha.len
  have hlb := hb.len
  have h1a := Es.one hla hsa hea
  have h1b := Es.one hlb hsb heb
  have hra := ha.room
  have hma := ha.max
  have hrb := hb.room
  have hmb := hb.max
  unfold maxLen at hma hmb
  have c0 : w.cell? ⟨g2, 0, none⟩ = some (.slice Aa na ca) := by rw [k2.cell]; rfl
  have c1 : w.cell? ⟨g2, 1, none⟩ = some (.slice Ab nb cb) := by rw [k2.cell]; rfl
  have Hea := Lib.hid hea
  have Heb := Lib.hid heb
  have Hla := Lib.hid hla
  have Hlb := Lib.hid hlb
  clear hea heb hla hlb ha hb
  go_enter Try.func49, Try.ntmps49
  go_wp2_with fail
  go_loopw [3, 5, 11] (fun v3 _ v11 wr => ∃ k : Nat, k ≤ 2 ∧ v11 = .int .i64 (k : Int) ∧ v3 = .int .i64 ((two3 0 na (na + nb) k : Nat) : Int) ∧ wr = w) (fun _ _ v11 _ => 2 - (intOf v11).toNat)
  case atStart => exact ⟨0, by omega, rfl, rfl, rfl⟩
  case round =>
    obtain ⟨k, hk, rfl, rfl, hww⟩ := hrel
    obtain rfl : w = wr := hww.symm
    by_cases h0 : k = 0
    · subst h0
      have hws : IntKind.i64.wrap ((0 : Int) + (na : Int)) = (na : Int) := by rw [IntWalk.i64_in _ (by omega)]; omega
      have hws' : IntKind.i64.wrap ((na : Int)) = (na : Int) := by rw [IntWalk.i64_in _ (by omega)]
      have hneg : decide ((na : Int) < 0) = false := by simp
      simp only [show two3 0 na (na + nb) 0 = 0 from rfl]
      go_wp2_with fail
      go_roundw
      case rel => exact ⟨1, by omega, by rfl, by rfl, by first | rfl | trivial⟩
      case measure => simp [intOf]
    · by_cases h1 : k = 1
      · subst h1
        have hws : IntKind.i64.wrap ((na : Int) + (nb : Int)) = (na : Int) + (nb : Int) := IntWalk.i64_in _ (by omega)
        have hneg : decide ((na : Int) + (nb : Int) < 0) = false := by simp; omega
        have hneg2 : ¬ ((na : Int) + (nb : Int) < 0) := by omega
        simp only [show two3 0 na (na + nb) 1 = na from rfl]
        go_wp2_with fail
        go_roundw
        case rel => exact ⟨2, by omega, by rfl, by rfl, by first | rfl | trivial⟩
        case measure => simp [intOf]
      · have hk2 : k = 2 := by omega
        obtain ⟨T, hT⟩ : ∃ x, two3 0 na (na + nb) k = x := ⟨_, rfl⟩
        have hTe : T = na + nb := by rw [← hT, hk2]; rfl
        rw [hT]
        have hkd : ¬ k < 2 := by omega
        have hgr := growE_any T w (by omega)
        have Hgr := Lib.hid hgr
        have HTe := Lib.hid hTe
        clear hgr hT hk2 h0 h1 hTe
        go_wp2_with fail
        refine Hgr.out.mono ?_
        rintro e w1 ⟨v1, rfl, ho1, hb1⟩
        go_wp2_with fail
        go_loopw [6, 8, 27] (fun v6 _ v27 W => ∃ (j : Nat) (v : Value), j ≤ 2 ∧ v27 = .int .i64 (j : Int) ∧ v = v6 ∧ W.ownsRow w.heap.size 22 1 v (two3 0 na (na + nb) j) (if j = 0 then [] else if j = 1 then va else va ++ vb) ∧ Below w.heap.size w W) (fun _ _ v27 _ => 2 - (intOf v27).toNat)
        case atStart => exact ⟨0, _, by omega, rfl, rfl, ho1, hb1⟩
        case round =>
          clear ho1 hb1
          obtain ⟨j, v, hj, rfl, rfl, ho, hB⟩ := hrel
          have c0' : wr.cell? ⟨g2, 0, none⟩ = some (.slice Aa na ca) := by rw [(k2.below hB k2.lt).cell]; rfl
          have c1' : wr.cell? ⟨g2, 1, none⟩ = some (.slice Ab nb cb) := by rw [(k2.below hB k2.lt).cell]; rfl
          by_cases h0 : j = 0
          · subst h0
            obtain ⟨v3, w3, hr3, ho3, hg3, -⟩ := append_slv (ty := 23) Try.underlying23 infoSl rfl (by decide) ho (hsa.step hB) h1a (by show 0 + na ≤ _; unfold maxLen; omega) (by show (0 + na) * 24 ≤ _; omega) hB.size
            have hB3 := hB.grown hg3 hB.size fun k hk => (ho.lt k hk).1
            have Hr3 := Lib.hid hr3
            have Ho3 := Lib.hid ho3
            clear hr3 ho3 ho hg3
            go_wp2_with ((with_reducible show wpList _ _ _ (⟨some 33, .call _, _, _, _, _⟩ :: _) _ _); refine wpList_run rfl v3 w3 (run_append_op (.tmp 31) (.tmp 32) 23 rfl _ _ rfl rfl Hr3.out) ?_; simp only [Act.put])
            go_roundw
            case rel => exact ⟨1, v3, by omega, by rfl, rfl, by have := Ho3.out; simpa [two3] using this, hB3⟩
            case measure => simp [intOf]
          · by_cases h1 : j = 1
            · subst h1
              obtain ⟨v3, w3, hr3, ho3, hg3, -⟩ := append_slv (ty := 23) Try.underlying23 infoSl rfl (by decide) ho (hsb.step hB) h1b (by show na + nb ≤ _; unfold maxLen; omega) (by show (na + nb) * 24 ≤ _; omega) hB.size
              have hB3 := hB.grown hg3 hB.size fun k hk => (ho.lt k hk).1
              have Hr3 := Lib.hid hr3
              have Ho3 := Lib.hid ho3
              clear hr3 ho3 ho hg3
              go_wp2_with ((with_reducible show wpList _ _ _ (⟨some 33, .call _, _, _, _, _⟩ :: _) _ _); refine wpList_run rfl v3 w3 (run_append_op (.tmp 31) (.tmp 32) 23 rfl _ _ rfl rfl Hr3.out) ?_; simp only [Act.put])
              go_roundw
              case rel => exact ⟨2, v3, by omega, by rfl, rfl, by have := Ho3.out; simpa [two3] using this, hB3⟩
              case measure => simp [intOf]
            · have hj2 : j = 2 := by omega
              have hjd : ¬ j < 2 := by omega
              have ho2 : wr.ownsRow w.heap.size 22 1 v (na + nb) (va ++ vb) := by rw [hj2] at ho; exact ho
              obtain ⟨A9, c9, rfl, hs9⟩ := owns_slv ho2
              have hE : Es wr (fun _ => True) A9 (na + nb) c9 (la ++ lb) := by
                refine ⟨⟨va ++ vb, hs9.all, fun i hi => ?_⟩, by rw [List.length_append, Hla.out, Hlb.out]⟩
                have hva : va.length = la.length := by have := hsa.len; rw [Hla.out]; omega
                by_cases hil : i < la.length
                · obtain ⟨Ai, ci, e1, e2⟩ := Hea.out i hil
                  rw [List.getElem_append_left hil]
                  exact ⟨Ai, ci, by rw [List.getElem?_append_left (by omega)]; exact e1, e2.step hB⟩
                · obtain ⟨q, rfl⟩ : ∃ q, i = la.length + q := ⟨i - la.length, by omega⟩
                  have hq : q < lb.length := by rw [List.length_append] at hi; omega
                  obtain ⟨Ai, ci, e1, e2⟩ := Heb.out q hq
                  have hge : (la ++ lb)[la.length + q] = lb[q] := by rw [List.getElem_append_right (by omega)]; congr 1; omega
                  rw [hge]
                  exact ⟨Ai, ci, by rw [List.getElem?_append_right (by omega), show la.length + q - va.length = q by omega]; exact e1, e2.step hB⟩
              have HE := Lib.hid hE
              clear hs9 ho2 ho hE hj2 h0 h1
              go_wp2_with fail
              go_ret
              exact ⟨A9, c9, rfl, HE.out, hB⟩
end Go.Proofs.Ytobcfgbkhgkelaa
/- == and != of two points. -/
namespace Go.Proofs.Ytobcfgbkhgkelaa
open Go Go.RowKit

theorem eqHashP (d : Nat) (xs ys : List UInt8) (hx : xs.length = 32) (hy : ys.length = 32) (W : World) : (Op.equalIn (d + 2) 26 (.agg (xs.map B).toArray) (.agg (ys.map B).toArray)).run Try.prog W = .ok (xs == ys) W :=
  run_equalIn_ints (P := Try.prog) (fun x : UInt8 => (x.toNat : Int)) eqB (t := 26) (e := 5) (N := 32) Try.underlying26 (by kernel_rfl) size25e agg25e d xs ys hx hy W
theorem part_numP (n : Int) (x : List UInt8) (W : World) : (part 2 (Value.int .i64 n :: x.map B).toArray 0).run Try.prog W = .ok (.int .i64 n) W := by
  simp [part]
theorem part_hshP (n : Int) (x : List UInt8) (hx : x.length = 32) (W : World) : (part 26 (Value.int .i64 n :: x.map B).toArray 1).run Try.prog W = .ok (.agg (x.map B).toArray) W := by
  have e2 : (Value.int .i64 n :: x.map B).toArray.extract 1 (1 + 32) = (x.map B).toArray := by
    apply Array.ext_getElem?
    intro i
    simp only [Array.getElem?_extract, List.getElem?_toArray, List.size_toArray, List.length_cons, List.length_map, hx]
    by_cases h : i < 32
    · rw [if_pos (by omega), show 1 + i = i + 1 by omega, List.getElem?_cons_succ]
    · rw [if_neg (by omega), List.getElem?_eq_none (by rw [List.length_map, hx]; omega)]
  simp only [part, Sem.run_bind, agg26, size26, Result.andThen_ok, if_true, Sem.run_pure]
  rw [e2]
theorem underPt : Try.prog.underlying 28 = some (.struct (Try.prog.fieldsOf 28)) := by kernel_rfl
theorem heldPt : Try.prog.stoodInHeld 28 = false := by kernel_rfl
theorem guardPt : Try.prog.eqGuardType Try.prog.depth 28 = false := by kernel_rfl
def ptEq (n1 : Int) (x1 : List UInt8) (n2 : Int) (x2 : List UInt8) : Bool := (n1 == n2) && (x1 == x2)
theorem equalIn_pt (n1 n2 : Int) (x1 x2 : List UInt8) (h1 : x1.length = 32) (h2 : x2.length = 32) (W : World) : (Op.equalIn 10000 28 (.agg (Value.int .i64 n1 :: x1.map B).toArray) (.agg (Value.int .i64 n2 :: x2.map B).toArray)).run Try.prog W = .ok (ptEq n1 x1 n2 x2) W := by
  have hf : (Try.prog.fieldsOf 28).toList = [{ name := "Size", type := 2, offset := 0, embedded := false, tag := "", pkgPath := "", byteOffset := 0 }, { name := "Root", type := 26, offset := 1, embedded := false, tag := "", pkgPath := "", byteOffset := 8 }] := by kernel_rfl
  have e1 := fun W => part_numP n1 x1 W
  have e2 := fun W => part_numP n2 x2 W
  have e3 := fun W => part_hshP n1 x1 h1 W
  have e4 := fun W => part_hshP n2 x2 h2 W
  have e5 := fun W => eqHashP 9997 x1 x2 h1 h2 W
  have e6 : ∀ W, (Op.equalIn 9999 2 (.int .i64 n1) (.int .i64 n2)).run Try.prog W = .ok (n1 == n2) W := fun W => run_equalIn_int W 9998 _ _ _ _ _ Try.underlying2
  rw [show (10000 : Nat) = 9999 + 1 from rfl, run_equalIn_agg W 9999 _ _ _ underPt heldPt, hf]
  generalize (Value.int .i64 n1 :: x1.map B).toArray = U at e1 e3 ⊢
  generalize (Value.int .i64 n2 :: x2.map B).toArray = V at e2 e4 ⊢
  generalize hD : 9999 = D at *
  have e5 : ∀ W, (Op.equalIn D 26 (.agg (x1.map B).toArray) (.agg (x2.map B).toArray)).run Try.prog W = .ok (x1 == x2) W := by rw [← hD]; exact e5
  unfold ptEq
  cases hb : (n1 == n2)
  · simp [Op.eqFields, e1, e2, e6, hb]
  · cases hc : (x1 == x2) <;> simp [Op.eqFields, e1, e2, e3, e4, e6, e5, hb, hc]
theorem eqlPt_op {ρ : Operand → Value} {o : Oper} (a b : Operand) (ty : TypeId) (n1 n2 : Int) (x1 x2 : List UInt8) (ho : o.op = .binOp .eql 28 a b ty) (ha : ρ a = .agg (Value.int .i64 n1 :: x1.map B).toArray) (hb : ρ b = .agg (Value.int .i64 n2 :: x2.map B).toArray) (h1 : x1.length = 32) (h2 : x2.length = 32) (W : World) :
    (execOp ρ o).run Try.prog W = .ok (.value (.bool (ptEq n1 x1 n2 x2))) W := by
  unfold execOp
  simp only [ho, ha, hb, Sem.run_bind, Sem.run_pure, run_eqGuard_agg _ _ _ _ _ _ _ guardPt, run_eql_struct, equalIn_pt n1 n2 x1 x2 h1 h2 W, Result.andThen_ok]
theorem neqPt_op {ρ : Operand → Value} {o : Oper} (a b : Operand) (ty : TypeId) (n1 n2 : Int) (x1 x2 : List UInt8) (ho : o.op = .binOp .neq 28 a b ty) (ha : ρ a = .agg (Value.int .i64 n1 :: x1.map B).toArray) (hb : ρ b = .agg (Value.int .i64 n2 :: x2.map B).toArray) (h1 : x1.length = 32) (h2 : x2.length = 32) (W : World) :
    (execOp ρ o).run Try.prog W = .ok (.value (.bool (!ptEq n1 x1 n2 x2))) W := by
  unfold execOp
  simp only [ho, ha, hb, Sem.run_bind, Sem.run_pure, run_eqGuard_agg _ _ _ _ _ _ _ guardPt, run_neq_struct, equalIn_pt n1 n2 x1 x2 h1 h2 W, Result.andThen_ok]
theorem ptEq_self (n : Int) (x : List UInt8) : ptEq n x n x = true := by simp [ptEq]
end Go.Proofs.Ytobcfgbkhgkelaa
/- What is hashed at a node; a hash that is handed in. -/
namespace Go.Proofs.Ytobcfgbkhgkelaa
open Go Go.RowKit Go.Shelf
attribute [local go_sem] Oper.semAt_some

theorem slice_allO (g o : Nat) (W : World) : (Instr.sliceAt 26 (.pointer (some ⟨g, o, none⟩)) none none none).run Try.prog W = .ok (.slice (some ⟨g, o, none⟩) 32 32) W := by
  rw [run_sliceAt_array_all W _ _ arrT26, size26e, arrN26]
  simp [slicedAt, Result.andThen, Addr.add]
theorem run_slice_allO {ρ : Operand → Value} {o : Oper} (x : Operand) (ho : o.op = .slice 26 x none none none) (g off : Nat) (hx : ρ x = .pointer (some ⟨g, off, none⟩)) (W : World) : (execOp ρ o).run Try.prog W = .ok (.value (.slice (some ⟨g, off, none⟩) 32 32)) W := by
  unfold execOp
  simp only [ho, hx, Option.map_none, slice_allO, Sem.run_bind, Sem.run_pure, Result.andThen_ok]
/-- bytes that lie in a block -/
theorem Sl.of_blk {W : World} {g o : Nat} {t : TypeId} {C : Array Value} (h : Blk W g t C) (l : List UInt8) (n : Nat) (hn : l.length = n) (hm : n ≤ maxLen) (hc : ∀ j v, (l.map B)[j]? = some v → C[o + j]? = some v) : Sl W (fun _ => True) (some ⟨g, o, .none⟩) n n l :=
  ⟨fun _ => ⟨g, o, rfl, h.lt, trivial, fun j v hv => by rw [h.cell]; exact hc j v hv⟩, hn, Nat.le_refl _, (fun e => by cases e), hm⟩
theorem Sl.of_hv {W : World} {g : Nat} {l : List UInt8} (h : HV W g l) : Sl W (fun _ => True) (some ⟨g, 0, .none⟩) 32 32 l :=
  Sl.of_blk h.blk l 32 h.len (by decide) fun j v hv => by rw [Nat.zero_add, List.getElem?_toArray]; exact hv
/-- a byte, and two pieces behind it -/
theorem two_after (x : UInt8) (w : World) (l r : List UInt8) (A A' : Option Addr) (n c n' c' : Nat) (h : Sl w (fun _ => True) A n c l) (h' : Sl w (fun _ => True) A' n' c' r) (hn : n ≤ 1099511627776) (hn' : n' ≤ 1099511627776) :
    ∃ v1 w1 v2 w2, (Builtin.append_ #[22, 22] 22 #[.slice (some ⟨w.heap.size, 0, none⟩) 1 1, .slice A n c]).run Try.prog (w.alloc (.cells #[B x] 5)) = .ok v1 w1 ∧
      (Builtin.append_ #[22, 22] 22 #[v1, .slice A' n' c']).run Try.prog w1 = .ok v2 w2 ∧ Below w.heap.size w (w.alloc (.cells #[B x] 5)) ∧ Below w.heap.size w w1 ∧ Fresh w w2 v2 (x :: (l ++ r)) := by
  obtain ⟨v1, w1, h1, h2, h3⟩ := ahead_byte x w l A n c h hn
  have hl := h.len
  obtain ⟨v2, w2, g1, g2, g3⟩ := append_sl h2 (h'.step h3) (by simp; omega) h3.size
  exact ⟨v1, w1, v2, w2, h1, g1, (Below.refl _ _).alloc (Nat.le_refl _) _, h3, g2, h3.grown g3 h3.size (fun k hk => (h2.lt k hk).1)⟩

theorem Es.lit3 (W : World) (a b c : Value) (ls : List (List UInt8)) (hl : ls.length = 3) (ha : ∃ A k, a = .slice A (ls.getD 0 []).length k ∧ Sl W (fun _ => True) A (ls.getD 0 []).length k (ls.getD 0 [])) (hb : ∃ A k, b = .slice A (ls.getD 1 []).length k ∧ Sl W (fun _ => True) A (ls.getD 1 []).length k (ls.getD 1 [])) (hc : ∃ A k, c = .slice A (ls.getD 2 []).length k ∧ Sl W (fun _ => True) A (ls.getD 2 []).length k (ls.getD 2 [])) :
    Es (W.alloc (.cells #[a, b, c] 22)) (fun _ => True) (some ⟨W.heap.size, 0, none⟩) 3 3 ls := by
  refine ⟨⟨[a, b, c], SlV.lit (s := 1) W (fun _ => True) 22 [a, b, c] rfl (by decide) trivial, fun i hi => ?_⟩, hl⟩
  obtain ⟨x, y, z, rfl⟩ : ∃ x y z, ls = [x, y, z] := by
    match ls, hl with
    | [x, y, z], _ => exact ⟨x, y, z, rfl⟩
  match i, hi with
  | 0, _ => obtain ⟨A, k, rfl, h⟩ := ha; exact ⟨A, k, rfl, h.alloc _⟩
  | 1, _ => obtain ⟨A, k, rfl, h⟩ := hb; exact ⟨A, k, rfl, h.alloc _⟩
  | 2, _ => obtain ⟨A, k, rfl, h⟩ := hc; exact ⟨A, k, rfl, h.alloc _⟩
/-- a function that hashes bytes -/
structure HFn (f : Nat) (H : Hf) : Prop where
  enter : ∀ args w, (callFunc f args).run Try.prog w = .ok (.enter f args) w
  len : ∀ l, (H l).length = 32
  call : ∀ (l : List UInt8) (A : Option Addr) (n c : Nat) (w : World), Sl w (fun _ => True) A n c l → n ≤ 1099511627776 → Calls Try.prog f #[.slice A n c] w fun e w' => e = .returned (.agg ((H l).map B).toArray) ∧ Below w.heap.size w w'
abbrev hval (f : Nat) : Value := .func (.func f) #[] #[]
end Go.Proofs.Ytobcfgbkhgkelaa
/- audit.split, tree.root. -/
namespace Go.Proofs.Ytobcfgbkhgkelaa
open Go Go.RowKit Go.Shelf
attribute [local go_sem] Oper.semAt_some

end Go.Proofs.Ytobcfgbkhgkelaa
/- notaryref13.Hash, and the five hashes. -/
namespace Go.Proofs.Ytobcfgbkhgkelaa
open Go Go.RowKit Go.Shelf
attribute [local go_sem] Oper.semAt_some

/-- hashes, strong and weak -/
def hashK (k : Int) (l : List UInt8) : List UInt8 :=
  if k = 1 then (List.replicate 32 0).set 0 ((sha256 l).getD 0 0) else if k = 2 then (List.replicate 32 0).set 0 ((sha256 l).getD 0 0 % 4) else if k = 3 then List.replicate 32 0
  else if k = 4 then ((List.replicate 32 0).set 0 ((sha256 l).getD 0 0)).set 1 ((sha256 l).getD 1 0) else sha256 l
theorem length_hashK (k : Int) (l : List UInt8) : (hashK k l).length = 32 := by
  unfold hashK
  split
  · simp
  · split
    · simp
    · split
      · simp
      · split
        · simp
        · exact length_sha256 l
theorem u8_rem4 (x : UInt8) : Int.tmod (x.toNat : Int) 4 = (((x % 4).toNat : Nat) : Int) := by
  rw [UInt8.toNat_mod]
  exact (Int.ofNat_tmod x.toNat 4).symm

end Go.Proofs.Ytobcfgbkhgkelaa
/- The functions that hash, handed in; notaryref13.Root. -/
namespace Go.Proofs.Ytobcfgbkhgkelaa
open Go Go.RowKit Go.Shelf
attribute [local go_sem] Oper.semAt_some
theorem enter_fn {P : Program} {f : FuncId} {fn : Func} (hf : P.funcs[f]? = some fn) (hname : (fn.name == "runtime.NumGoroutine") = false) (hb : fn.body.isSome = true) (args : Array Value) (w : World) : (callFunc f args).run P w = .ok (.enter f args) w := by
  have h1 : fn.name ≠ "runtime.NumGoroutine" := by simpa using hname
  obtain ⟨c, hc⟩ := Option.isSome_iff_exists.1 hb
  simp [callFunc, hf, h1, hc]

end Go.Proofs.Ytobcfgbkhgkelaa
/- notaryref13.Root, deep, up. -/
namespace Go.Proofs.Ytobcfgbkhgkelaa
open Go Go.RowKit Go.Shelf
attribute [local go_sem] Oper.semAt_some

theorem wayF_le (st rt : Nat → Nat → Bool) : ∀ f s n, (wayF st rt f s n).length ≤ f
  | 0, _, _ => Nat.le_refl _
  | f + 1, s, n => by
    rw [wayF_s]
    split
    · exact Nat.zero_le _
    · split
      · have := wayF_le st rt f (s - splitN n) (n - splitN n); rw [List.length_cons]; omega
      · have := wayF_le st rt f s (splitN n); rw [List.length_cons]; omega
end Go.Proofs.Ytobcfgbkhgkelaa
/- notaryref13.up. -/
namespace Go.Proofs.Ytobcfgbkhgkelaa
open Go Go.RowKit Go.Shelf
attribute [local go_sem] Oper.semAt_some

theorem length_atI (H : Hf) (hH : ∀ l, (H l).length = 32) (a0 : List UInt8) (ha : a0.length = 32) (w : List Bool) (p : List (List UInt8)) (j : Nat) : (atI H w p a0 j).length = 32 := by cases j with | zero => exact ha | succ j => exact hH _
end Go.Proofs.Ytobcfgbkhgkelaa
/- audit.steps: the way to an entry. -/
namespace Go.Proofs.Ytobcfgbkhgkelaa
open Go Go.RowKit Go.Shelf
attribute [local go_sem] Oper.semAt_some

theorem infoBool : (Try.prog.info? 4).map (fun i => (i.zero, i.size, i.bytes)) = some (some (.bool false), 1, 1) := by kernel_rfl
abbrev bcells (l : List Bool) : List Value := l.map Value.bool
theorem oneBool (l : List Bool) : ∀ v ∈ bcells l, v.oneCell' = true := fun v hv => by obtain ⟨b, _, rfl⟩ := List.mem_map.1 hv; rfl
/-- one block may change, and what is new -/
theorem grown_trans9 {a w w' : World} {g : Nat} {row : Option Nat} (h : a.grownBy w (some g)) (h2 : w.grownBy w' row) (hr : ∀ j, row = some j → a.heap.size ≤ j) : a.grownBy w' (some g) :=
  ⟨h2.os.trans h.os, h2.tape.trans h.tape, h2.output.trans h.output, Nat.le_trans h.size h2.size, fun k hk hne => (h2.block k (Nat.lt_of_lt_of_le hk h.size) (fun e => by have := hr k e.symm; omega)).trans (h.block k hk hne)⟩
end Go.Proofs.Ytobcfgbkhgkelaa
/- Slices of pairs; tree.said. -/
namespace Go.Proofs.Ytobcfgbkhgkelaa
open Go Go.RowKit Go.Shelf
attribute [local go_sem] Oper.semAt_some

/-- elements of s cells, side by side: one is found -/
theorem flatl_at {s : Nat} : ∀ (L : List (List Value)) (_ : ∀ cs ∈ L, cs.length = s) (k j : Nat) (v : Value) (_ : k < L.length) (_ : (L.getD k [])[j]? = some v), L.flatten[k * s + j]? = some v
  | cs :: L, hL, 0, j, v, _, h => by
    have h : cs[j]? = some v := h
    rw [List.flatten_cons, Nat.zero_mul, Nat.zero_add, List.getElem?_append_left (List.getElem?_eq_some_iff.1 h).1]
    exact h
  | cs :: L, hL, k + 1, j, v, hk, h => by
    have hc := hL cs (by simp)
    have := flatl_at L (fun x hx => hL x (by simp [hx])) k j v (by simpa using hk) h
    rw [List.flatten_cons, List.getElem?_append_right (by rw [hc, Nat.succ_mul]; omega), hc, show (k + 1) * s + j - s = k * s + j by rw [Nat.succ_mul]; omega]
    exact this
/-- one is put in the place of another -/
theorem flatl_set {s : Nat} : ∀ (L : List (List Value)) (_ : ∀ cs ∈ L, cs.length = s) (k : Nat) (x : List Value) (_ : k < L.length), L.flatten.take (k * s) ++ x ++ L.flatten.drop (k * s + s) = (L.set k x).flatten
  | cs :: L, hL, 0, x, _ => by
    have hc := hL cs (by simp)
    rw [List.flatten_cons, Nat.zero_mul, Nat.zero_add, List.take_zero, List.nil_append, List.drop_left' hc, List.set_cons_zero, List.flatten_cons]
  | cs :: L, hL, k + 1, x, hk => by
    have hc := hL cs (by simp)
    have := flatl_set L (fun x hx => hL x (by simp [hx])) k x (by simpa using hk)
    rw [List.set_cons_succ, List.flatten_cons, List.flatten_cons, ← this, show (k + 1) * s = s + k * s by rw [Nat.succ_mul]; omega, show s + k * s + s = s + (k * s + s) by omega]
    rw [← hc, List.take_length_add_append, List.drop_length_add_append, hc]
    simp [List.append_assoc]
abbrev pcell (q : PairV) : List Value := (q.1 ++ q.2).map B
def prcells (qs : List PairV) : List Value := (qs.map pcell).flatten
def Q32 (qs : List PairV) : Prop := ∀ q ∈ qs, q.1.length = 32 ∧ q.2.length = 32
abbrev pairD : PairV := ([], [])
theorem Q32.cell {qs : List PairV} (h : Q32 qs) : ∀ cs ∈ qs.map pcell, cs.length = 64 := fun cs hc => by
  obtain ⟨q, hq, rfl⟩ := List.mem_map.1 hc
  obtain ⟨h1, h2⟩ := h q hq
  simp [h1, h2]
theorem Q32.getD {qs : List PairV} (h : Q32 qs) (k : Nat) (hk : k < qs.length) : (qs.getD k pairD).1.length = 32 ∧ (qs.getD k pairD).2.length = 32 := by
  rw [List.getD_eq_getElem?_getD, List.getElem?_eq_getElem hk]
  exact h _ (List.getElem_mem hk)
theorem Q32.set {qs : List PairV} (h : Q32 qs) (k : Nat) {q : PairV} (hq : q.1.length = 32 ∧ q.2.length = 32) : Q32 (qs.set k q) := fun x hx => by
  rcases List.mem_or_eq_of_mem_set hx with h1 | rfl
  · exact h x h1
  · exact hq
theorem prcells_len (qs : List PairV) (h : Q32 qs) : (prcells qs).length = qs.length * 64 := by
  unfold prcells
  rw [flat_len _ h.cell, List.length_map]
theorem prcells_set (qs : List PairV) (h : Q32 qs) (k : Nat) (q : PairV) (hk : k < qs.length) : (prcells qs).take (k * 64) ++ pcell q ++ (prcells qs).drop (k * 64 + 64) = prcells (qs.set k q) := by
  unfold prcells
  rw [flatl_set _ h.cell k (pcell q) (by rw [List.length_map]; exact hk), List.map_set]
structure Prs (w : World) (X : Nat → Prop) (A : Option Addr) (n c : Nat) (qs : List PairV) : Prop where
  sl : SlV w X A n c 64 (prcells qs)
  len : qs.length = n
  all : Q32 qs
section
variable {w w' : World} {X Y : Nat → Prop} {A : Option Addr} {n c : Nat} {qs : List PairV}
theorem Prs.weak (h : Prs w X A n c qs) (hX : ∀ b, b < w.heap.size → X b → Y b) : Prs w Y A n c qs := ⟨h.sl.weak hX, h.len, h.all⟩
theorem Prs.step (h : Prs w X A n c qs) (hb : Below w.heap.size w w') : Prs w' X A n c qs := ⟨h.sl.step hb, h.len, h.all⟩
theorem Prs.at_ (h : Prs w X A n c qs) (hn : 0 < n) : ∃ b o, A = some ⟨b, o, none⟩ ∧ b < w.heap.size ∧ X b := by
  obtain ⟨b, o, h1, h2, h3, -⟩ := h.sl.at_ hn (by decide)
  exact ⟨b, o, h1, h2, h3⟩
end
abbrev pairZ : PairV := (List.replicate 32 0, List.replicate 32 0)
theorem prcells_zero : ∀ m : Nat, prcells (List.replicate m pairZ) = (List.replicate (m * 64) (0 : UInt8)).map B
  | 0 => rfl
  | m + 1 => by
    have := prcells_zero m
    unfold prcells at this ⊢
    rw [List.replicate_succ, List.map_cons, List.flatten_cons, this, show (m + 1) * 64 = 64 + m * 64 by omega, ← List.replicate_append_replicate, List.map_append]
    rfl
theorem ret_tmp_hash {fn : Func} {u p : Tmp} {tmps : Array Value} {W : World} {g : Nat} {l : List UInt8} (h : fn.results = #[.tmp u, .cell p 26]) (hp : tmps.getD p undef = .pointer (some ⟨g, 0, none⟩)) (k : HV W g l) : (results fn tmps).run Try.prog W = .ok (.tuple #[tmps.getD u undef, .agg (l.map B).toArray]) W := by
  have hp' : tmps[p]?.getD undef = .pointer (some ⟨g, 0, none⟩) := by simpa using hp
  simp [results, h, hp', asAddr, run_loadVar_row W g 26 26 (l.map B).toArray (0, 0) _ k.blk Try.underlying26 rfl (by rw [show (l.map B).toArray.size = 32 by simp [k.len]]; exact info26)]
section
variable {w : World} {ops : Array Oper} {rest : List Oper} {o : Oper} {a : Act} {Q : Exit → Act → World → Prop}
end

theorem run_make13_op {P : Program} {ρ : Operand → Value} {o : Oper} {w w' : World} {v : Value} {S : TypeId} (x y : Operand) (ho : o.op = .makeSlice S x y) (vx vy : Value) (hx : ρ x = vx) (hy : ρ y = vy) (h : (Instr.makeSlice S vx vy).run P w = .ok v w') : (execOp ρ o).run P w = .ok (.value v) w' := by
  unfold execOp
  simp only [ho, hx, hy, Sem.run_bind, Sem.run_pure, h, Result.andThen_ok]
section
variable {w W W' : World} {f : Nat} {H : Hf} {way : List Bool} {pf : List (List UInt8)} {a0 x : List UInt8} {L go i : Nat}
end
end Go.Proofs.Ytobcfgbkhgkelaa
/- A hash variable that comes up among others. -/
namespace Go.Proofs.Ytobcfgbkhgkelaa
open Go Go.RowKit

def Fc.hash (N : Nat) (l : List UInt8) : Fc := ⟨fun v W => ∃ g, v = ptrB g ∧ HV W g l ∧ N ≤ g, fun _ _ _ ⟨g, h1, h2, h3⟩ hb => ⟨g, h1, h2.step hb, h3⟩, fun g W ⟨g', h1, h2, _⟩ => by cases h1; exact h2.lt⟩
end Go.Proofs.Ytobcfgbkhgkelaa
/- Pairs held against each other; a pair's variable that comes up among others; clashes. -/
namespace Go.Proofs.Ytobcfgbkhgkelaa
open Go Go.RowKit Go.Shelf

theorem run_equalIn_hash (d : Nat) (xs ys : List UInt8) (hx : xs.length = 32) (hy : ys.length = 32) (W : World) : (Op.equalIn (d + 2) 26 (.agg (xs.map B).toArray) (.agg (ys.map B).toArray)).run Try.prog W = .ok (xs == ys) W :=
  run_equalIn_ints (P := Try.prog) (fun x : UInt8 => (x.toNat : Int)) eqB (t := 26) (e := 5) (N := 32) Try.underlying26 (by kernel_rfl) size25e agg25e d xs ys hx hy W
theorem part_hash (x y : List UInt8) (hx : x.length = 32) (hy : y.length = 32) (W : World) : (part 26 ((x ++ y).map B).toArray 0).run Try.prog W = .ok (.agg (x.map B).toArray) W ∧ (part 26 ((x ++ y).map B).toArray 32).run Try.prog W = .ok (.agg (y.map B).toArray) W := by
  have e1 : ((x ++ y).map B).toArray.extract 0 32 = (x.map B).toArray := by
    apply Array.ext_getElem?
    intro i
    simp only [Array.getElem?_extract, List.getElem?_toArray, List.map_append, List.size_toArray, List.length_append, List.length_map, hx, hy, Nat.zero_add]
    by_cases h : i < 32
    · rw [if_pos (by omega), List.getElem?_append_left (by rw [List.length_map, hx]; exact h)]
    · rw [if_neg (by omega), List.getElem?_eq_none (by rw [List.length_map, hx]; omega)]
  have e2 : ((x ++ y).map B).toArray.extract 32 (32 + 32) = (y.map B).toArray := by
    apply Array.ext_getElem?
    intro i
    simp only [Array.getElem?_extract, List.getElem?_toArray, List.map_append, List.size_toArray, List.length_append, List.length_map, hx, hy]
    by_cases h : i < 32
    · rw [if_pos (by omega), List.getElem?_append_right (by rw [List.length_map, hx]; omega), List.length_map, hx, show 32 + i - 32 = i by omega]
    · rw [if_neg (by omega), List.getElem?_eq_none (by rw [List.length_map, hy]; omega)]
  refine ⟨?_, ?_⟩
  · simp only [part, Sem.run_bind, agg26, size26, Result.andThen_ok, if_true, Sem.run_pure, Nat.zero_add]
    rw [e1]
  · simp only [part, Sem.run_bind, agg26, size26, Result.andThen_ok, if_true, Sem.run_pure]
    rw [e2]
section
variable {ops : Array Oper} {Q : Exit → Act → World → Prop} {S : World → Prop} {R : Act → World → Prop} {o : Oper} {l : List (Oper × Bool)} {a : Act} {w : World}
end
/-- bytes that are new, and stay -/
def Fc.bytes (N : Nat) (l : List UInt8) : Fc := ⟨fun v W => ∃ A c, v = .slice A l.length c ∧ W.ownsRow N 5 1 v l.length (l.map B), fun _ _ _ ⟨A, c, h1, h2⟩ hb => ⟨A, c, h1, owns_step h2 hb⟩, fun g W ⟨A, c, h1, _⟩ => by cases h1⟩

/-- a clash that is told: two rows of one's own -/
structure ClV (base : Nat) (c : PairV) (v : Value) (W : World) : Prop where
  ex : ∃ v1 v2, v = .agg #[v1, v2] ∧ W.ownsRow base 5 1 v1 c.1.length (c.1.map B) ∧ W.ownsRow base 5 1 v2 c.2.length (c.2.map B)
theorem ClV.step {base : Nat} {c : PairV} {v : Value} {W W' : World} (h : ClV base c v W) (hb : Below W.heap.size W W') : ClV base c v W' :=
  let ⟨v1, v2, h1, h2, h3⟩ := h.ex; ⟨v1, v2, h1, owns_step h2 hb, owns_step h3 hb⟩
theorem ClV.le {base b' : Nat} {c : PairV} {v : Value} {W : World} (h : ClV base c v W) (hb : b' ≤ base) : ClV b' c v W :=
  let ⟨v1, v2, h1, h2, h3⟩ := h.ex; ⟨v1, v2, h1, owns_le h2 hb, owns_le h3 hb⟩
abbrev zeroClash : Value := .agg #[.slice none 0 0, .slice none 0 0]
theorem ClV.zero (base : Nat) (W : World) : ClV base noC zeroClash W := ⟨_, _, rfl, World.ownsRow_nil _ _ _ _, World.ownsRow_nil _ _ _ _⟩
end Go.Proofs.Ytobcfgbkhgkelaa
/- tree.lie. -/
namespace Go.Proofs.Ytobcfgbkhgkelaa
open Go Go.RowKit Go.Shelf
attribute [local go_sem] Oper.semAt_some

section
variable {w : World} {ops : Array Oper} {rest : List Oper} {o : Oper} {a : Act} {Q : Exit → Act → World → Prop}
end
/-- the answer of tree.lie -/
def LieR (base : Nat) (r : Option (PairV × PairV) × List (List UInt8)) (e : Ending) (W : World) : Prop :=
  match r with
  | (some (p, h), _) => ∃ v, e = .returned (.tuple #[v, .slice none 0 0, .bool true]) ∧ ClV base (nodeD p, nodeD h) v W
  | (none, rest) => ∃ A n c, e = .returned (.tuple #[zeroClash, .slice A n c, .bool false]) ∧ Es W (fun _ => True) A n c rest
theorem lieF_step (H : Hf) (b : Bool) (way : List Bool) (p : PairV) (sd : List PairV) (d : List (List UInt8)) (h : p = (rootA H (d.take (splitN d.length)), rootA H (d.drop (splitN d.length)))) :
    lieF H (b :: way) (p :: sd) d = lieF H way sd (if b = true then d.drop (splitN d.length) else d.take (splitN d.length)) := by
  conv => lhs; unfold lieF
  rw [if_pos h]
theorem lieF_stop (H : Hf) (b : Bool) (way : List Bool) (p : PairV) (sd : List PairV) (d : List (List UInt8)) (h : p ≠ (rootA H (d.take (splitN d.length)), rootA H (d.drop (splitN d.length)))) :
    lieF H (b :: way) (p :: sd) d = (some (p, (rootA H (d.take (splitN d.length)), rootA H (d.drop (splitN d.length)))), d) := by
  conv => lhs; unfold lieF
  rw [if_neg h]
end Go.Proofs.Ytobcfgbkhgkelaa
/- Too much; bytes held against each other; is it a clash. -/
namespace Go.Proofs.Ytobcfgbkhgkelaa
open Go Go.RowKit Go.Shelf
attribute [local go_sem] Oper.semAt_some

def longB (x : List UInt8) : Bool := decide (4096 < x.length)
/-- where the first one is that is too long -/
def firstLong : List (List UInt8) → Nat → Int
  | [], _ => -1
  | x :: l, k => if longB x = true then (k : Int) else firstLong l (k + 1)
theorem firstLong_any : ∀ (l : List (List UInt8)) (k : Nat), decide ((0 : Int) ≤ firstLong l k) = l.any longB
  | [], k => by simp [firstLong]
  | x :: l, k => by
    unfold firstLong
    rw [List.any_cons]
    split
    · rename_i h; rw [h]; simp
    · rename_i h; rw [firstLong_any l (k + 1)]; simp [h]
set_option maxHeartbeats 400000 in
theorem bequal_any (l m : List UInt8) (A A' : Option Addr) (n c n' c' : Nat) (w : World) (h : Sl w (fun _ => True) A n c l) (h' : Sl w (fun _ => True) A' n' c' m) : Calls Try.prog 51 #[.slice A n c, .slice A' n' c'] w fun e w' => e = .returned (.bool (l == m)) ∧ w' = w := by
  have Hh := Lib.hid h
  have Hh' := Lib.hid h'
  clear h h'
  go_enter Try.func51, Try.ntmps51
  go_wp2_with (first
    | ((with_reducible show wpList _ _ _ (⟨some 6, .convert _ _ _, _, _, _, _⟩ :: _) _ _); refine wpList_run0 rfl (.string (bstr l)) (run_str_op (.tmp 5) rfl rfl Hh.out) ?_; simp only [Act.put])
    | ((with_reducible show wpList _ _ _ (⟨some 8, .convert _ _ _, _, _, _, _⟩ :: _) _ _); refine wpList_run0 rfl (.string (bstr m)) (run_str_op (.tmp 7) rfl rfl Hh'.out) ?_; simp only [Act.put])
    | ((with_reducible show wpList _ _ _ (⟨some 9, .binOp _ _ _ _ _, _, _, _, _⟩ :: _) _ _); refine wpList_run0 rfl (.bool (l == m)) (run_eqstr_op (.tmp 6) (.tmp 8) _ l m rfl rfl rfl _) ?_; simp only [Act.put]))
  go_ret
  exact ⟨rfl, rfl⟩

end Go.Proofs.Ytobcfgbkhgkelaa
