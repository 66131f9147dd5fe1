/- The methods of sha.Sha. -/
import Derived.Test.YtgcbdnoniikboaaUnd
import Derived.Test.YtgcbdnoniikboaaBlock
import Derived.Test.YtgcbdnoniikboaaRegion
namespace Go.Proofs.Ytgcbdnoniikboaa
open Go.RowKit

/-- a sum under way in memory: its 74 cells -/
def shaCells (st : List UInt32) (bk : List UInt8) (n : Nat) : List Value := st.map U ++ (bk.map B ++ [.int .i64 (n : Int), .bool true])
theorem length_shaCells {st : List UInt32} {bk : List UInt8} {n : Nat} (h1 : st.length = 8) (h2 : bk.length = 64) : (shaCells st bk n).length = 74 := by simp [shaCells, h1, h2]

theorem take_two {α : Type} (p x r : List α) (a m : Nat) (hp : p.length = a) (hx : x.length = m) : (p ++ (x ++ r)).take (a + m) = p ++ x := by
  subst hp; subst hx
  rw [← List.append_assoc, ← List.length_append, List.take_left]

/-- the object at block g is the sum under way u; its buffer is bk -/
structure ShB (w : World) (g : Nat) (u : Und) (bk : List UInt8) : Prop where
  blk : Blk w g 129 (shaCells u.st.list bk u.len).toArray
  len : bk.length = 64
  ok : u.ok
  pre : bk.take u.rest.length = u.rest
  lt : u.len < 9223372036854775808

/-- the same, whatever its buffer -/
def Sh (w : World) (g : Nat) (u : Und) : Prop := ∃ bk, ShB w g u bk

section
variable {w w' : World} {g : Nat} {u : Und} {bk : List UInt8}
theorem ShB.move (h : ShB w g u bk) (hb : Blk w' g 129 (shaCells u.st.list bk u.len).toArray) : ShB w' g u bk := ⟨hb, h.len, h.ok, h.pre, h.lt⟩
theorem ShB.size (h : ShB w g u bk) : (shaCells u.st.list bk u.len).toArray.size = 74 := by simpa using length_shaCells (length_list u.st) h.len
theorem ShB.cell_len (h : ShB w g u bk) : w.cell? ⟨g, 72, none⟩ = some (.int .i64 (u.len : Int)) := by
  rw [h.blk.cell]
  simp only [shaCells, List.getElem?_toArray]
  rw [List.getElem?_append_right (by simp [length_list]), List.getElem?_append_right (by simp [length_list, h.len])]
  simp [length_list, h.len]
theorem ShB.cell_made (h : ShB w g u bk) : w.cell? ⟨g, 73, none⟩ = some (.bool true) := by
  rw [h.blk.cell]
  simp only [shaCells, List.getElem?_toArray]
  rw [List.getElem?_append_right (by simp [length_list]), List.getElem?_append_right (by simp [length_list, h.len])]
  simp [length_list, h.len]
theorem ShB.cell_st (h : ShB w g u bk) (j : Nat) (v : Value) (hv : (u.st.list.map U)[j]? = some v) : w.cell? ⟨g, j, none⟩ = some v := by
  have hj : j < 8 := by
    have := (List.getElem?_eq_some_iff.1 hv).1
    simpa [length_list] using this
  rw [h.blk.cell]
  simp only [shaCells, List.getElem?_toArray]
  rw [List.getElem?_append_left (by simpa [length_list] using hj)]
  exact hv
theorem ShB.cell_bk (h : ShB w g u bk) (j : Nat) (v : Value) (hv : (bk.map B)[j]? = some v) : w.cell? ⟨g, 8 + j, none⟩ = some v := by
  have hj : j < 64 := by
    have := (List.getElem?_eq_some_iff.1 hv).1
    simpa [h.len] using this
  rw [h.blk.cell]
  simp only [shaCells, List.getElem?_toArray]
  rw [List.getElem?_append_right (by simp [length_list]), List.getElem?_append_left (by simp [length_list, h.len]; omega)]
  rw [← hv]
  simp [length_list]
/-- the length is written -/
theorem shaCells_len (st : List UInt32) (bk : List UInt8) (n m : Nat) (h1 : st.length = 8) (h2 : bk.length = 64) : (shaCells st bk n).toArray.setIfInBounds 72 (.int .i64 (m : Int)) = (shaCells st bk m).toArray := by
  simp only [List.setIfInBounds_toArray, shaCells]
  rw [List.set_append_right _ _ (by simp [h1]), List.set_append_right _ _ (by simp [h1, h2])]
  simp [h1, h2]
/-- bytes are laid into the buffer -/
theorem shaCells_copy (st : List UInt32) (bk x : List UInt8) (n a : Nat) (h1 : st.length = 8) (h2 : bk.length = 64) (h3 : a + x.length ≤ 64) :
    ((shaCells st bk n).toArray.toList.take (8 + a) ++ x.map B ++ (shaCells st bk n).toArray.toList.drop (8 + a + x.length)) = shaCells st (bk.take a ++ (x ++ bk.drop (a + x.length))) n := by
  simp only [shaCells]
  rw [List.take_append, List.drop_append]
  simp only [List.length_map, h1]
  rw [List.take_of_length_le (by simp [h1]), List.drop_eq_nil_of_le (by simp [h1]; omega), List.take_append, List.drop_append]
  simp only [List.length_map, h2]
  rw [show 8 + a - 8 = a by omega, show 8 + a + x.length - 8 = a + x.length by omega, show a - 64 = 0 by omega, show a + x.length - 64 = 0 by omega]
  simp
/-- the state is written -/
theorem shaCells_st (st st' : List UInt32) (bk : List UInt8) (n : Nat) (h1 : st.length = 8) : ((shaCells st bk n).toArray.toList.take 0 ++ (st'.map U).toArray.toList ++ (shaCells st bk n).toArray.toList.drop (0 + 8)) = shaCells st' bk n := by
  simp only [shaCells]
  rw [List.drop_append]
  simp [h1]
end

theorem size23 : ∀ w : World, (sizeOf (Try.prog.elem 32)).run Try.prog w = .ok 1 w := fun _ => by kernel_rfl
theorem sliceT23 : Try.prog.underlying 32 = some (.slice (Try.prog.elem 32)) := by kernel_rfl
theorem size34e : ∀ w : World, (sizeOf (Try.prog.elem 127)).run Try.prog w = .ok 1 w := fun _ => by kernel_rfl
theorem arrT34 : Try.prog.underlying 127 = some (.array (Try.prog.arrayLen 127) (Try.prog.elem 127)) := by kernel_rfl
theorem arrN34 : Try.prog.arrayLen 127 = 64 := by kernel_rfl
theorem size34 : ∀ w : World, (sizeOf 127).run Try.prog w = .ok 64 w := fun _ => by kernel_rfl
theorem agg34 : ∀ w : World, (isAgg 127).run Try.prog w = .ok true w := fun _ => by kernel_rfl
theorem one5 : (Try.prog.info? 5).map (·.size) = some 1 := by kernel_rfl
theorem oneB (l : List UInt8) : ∀ v ∈ l.map B, v.oneCell' = true := by simp [Value.oneCell']

set_option maxHeartbeats 400000 in
theorem none_any {w : World} {g : Nat} {u : Und} {bk : List UInt8} (h : ShB w g u bk) :
    Calls Try.prog 91 #[.pointer (some ⟨g, 0, none⟩)] w fun e w' => e = .returned (.bool false) ∧ w = w' := by
  have c := h.cell_made
  go_enter Try.func91, Try.ntmps91
  go_wp2
  go_ret
  exact ⟨rfl, rfl⟩

set_option maxHeartbeats 1000000 in
set_option maxRecDepth 100000 in
theorem take_any (g : Nat) (u : Und) (b : List UInt8) (A : Option Addr) (c : Nat) (w : World) (h : Sh w g u) (hb : Bs w (· ≠ g) A (b.map B)) (hc : b.length ≤ c) (hlen : u.len + b.length < 9223372036854775808) :
    Calls Try.prog 83 #[.pointer (some ⟨g, 0, none⟩), .slice A b.length c] w fun e w' => e = .returned (.tuple #[]) ∧ Sh w' g (u.take b) ∧ w.grownBy w' (some g) := by
  have hu0 : u.ok := h.choose_spec.ok
  go_enter Try.func83, Try.ntmps83
  go_wp2_with fail
  go_loopw [1] (fun i wr => ∃ (k : Nat) (A' : Option Addr) (n' c' : Nat), k ≤ b.length ∧ n' = b.length - k ∧ n' ≤ c' ∧ i = .slice A' n' c' ∧ Bs wr (· ≠ g) A' ((b.drop k).map B) ∧ Sh wr g (u.take (b.take k)) ∧ w.grownBy wr (some g))
    (fun i _ => sliceLen i)
  case atStart => exact ⟨0, A, b.length, c, by omega, by omega, hc, rfl, by simpa using hb, by simpa [Und.take_nil u hu0] using h, World.grownBy.refl w _⟩
  case round =>
    obtain ⟨k, A', n', c', hk, hn', hc', rfl, hb', ⟨bk, hsh⟩, hg⟩ := hrel
    have Hn := Lib.hid hn'
    clear hn'
    by_cases hpos : 0 < n'
    · obtain ⟨v, hv⟩ : ∃ v, u.take (b.take k) = v := ⟨_, rfl⟩
      rw [hv] at hsh
      have Hv := Lib.hid hv
      clear hv
      have hlv : v.len = u.len + k := by rw [← Hv.out, Und.take_len, List.length_take]; have := Hn.out; omega
      have hok : v.rest.length = v.len % 64 := hsh.ok
      obtain ⟨a, ha⟩ : ∃ a, v.rest.length = a := ⟨_, rfl⟩
      have ha2 : a < 64 := by omega
      obtain ⟨m, hm⟩ : ∃ m, Nat.min n' (64 - a) = m := ⟨_, rfl⟩
      have hm1 : m ≤ n' := by rw [← hm]; exact Nat.min_le_left _ _
      have hm2 : m ≤ 64 - a := by rw [← hm]; exact Nat.min_le_right _ _
      have hm3 : m = n' ∨ m = 64 - a := by rw [← hm]; rcases Nat.le_total n' (64 - a) with h | h <;> simp [h] <;> omega
      have e1 : (v.len : Int) % 64 = (a : Int) := by omega
      have c1 := hsh.cell_len
      have sl1 := fun W => run_slice_arr (P := Try.prog) arrT34 arrN34 size34e g 8 a ha2 W
      have sl2 := fun W => run_slice_low (P := Try.prog) sliceT23 size23 A' n' c' m hm1 W
      simp only [Nat.mul_one] at sl1 sl2
      have hbl : ((b.drop k).map B).length = n' := by rw [List.length_map, List.length_drop, Hn.out]
      have cp := run_copy_blk (P := Try.prog) 3 Try.underlying32 one5 g (8 + a) 129 _ (64 - a) (64 - a) (· ≠ g) A' ((b.drop k).map B) n' c' hsh.blk hbl hb' (by rw [hsh.size, hm]; omega) (oneB _)
      rw [hm] at cp
      obtain ⟨x, hx⟩ : ∃ x, (b.drop k).take m = x := ⟨_, rfl⟩
      have hxl : x.length = m := by rw [← hx, List.length_take, List.length_drop]; have := Hn.out; omega
      obtain ⟨bk1, hbk1⟩ : ∃ bk1, bk.take a ++ (x ++ bk.drop (a + m)) = bk1 := ⟨_, rfl⟩
      have hcopy : ((shaCells v.st.list bk v.len).toArray.toList.take (8 + a) ++ ((b.drop k).map B).take m ++ (shaCells v.st.list bk v.len).toArray.toList.drop (8 + a + m)) = shaCells v.st.list bk1 v.len := by
        have := shaCells_copy v.st.list bk x v.len a (length_list _) hsh.len (by omega)
        rw [hxl, hbk1, ← hx, List.map_take] at this
        exact this
      rw [hcopy] at cp
      have kbk1 : bk1.length = 64 := by rw [← hbk1]; simp [hsh.len, hxl]; omega
      obtain ⟨W1, hW1⟩ : ∃ W1, wr.setRow g (shaCells v.st.list bk1 v.len).toArray = W1 := ⟨_, rfl⟩
      rw [hW1] at cp
      have k1 : Blk W1 g 129 (shaCells v.st.list bk1 v.len).toArray := by rw [← hW1]; exact hsh.blk.setRow_ _
      have kg : w.grownBy W1 (some g) := by rw [← hW1]; exact grown_setRow hg _
      have kb : Bs W1 (· ≠ g) A' ((b.drop k).map B) := by rw [← hW1]; exact hb'.setRow_ _
      obtain ⟨A2, hA2⟩ : ∃ A2, (if c' = m then A' else A'.map (·.add m)) = A2 := ⟨_, rfl⟩
      rw [hA2] at sl2
      have kb2 : Bs W1 (· ≠ g) A2 ((b.drop (k + m)).map B) := by
        have := kb.drop (c := c') (k := m) (s := 1) (by rw [hbl]; omega)
        rw [Nat.mul_one, hA2, ← List.map_drop, List.drop_drop] at this
        exact this
      have c2 : W1.cell? ⟨g, 72, none⟩ = some (.int .i64 (v.len : Int)) := by
        rw [k1.cell]
        simp only [shaCells, List.getElem?_toArray]
        rw [List.getElem?_append_right (by simp [length_list]), List.getElem?_append_right (by simp [length_list, kbk1])]
        simp [length_list, kbk1]
      have f2 := k1.frozen 72
      have k2 : Blk (W1.setCell ⟨g, 72, none⟩ (.int .i64 ((v.len + m : Nat) : Int))) g 129 (shaCells v.st.list bk1 (v.len + m)).toArray := by
        have := k1.set_ 72 (.int .i64 ((v.len + m : Nat) : Int))
        rw [shaCells_len _ _ _ _ (length_list _) kbk1] at this
        exact this
      have kg2 : w.grownBy (W1.setCell ⟨g, 72, none⟩ (.int .i64 ((v.len + m : Nat) : Int))) (some g) := grown_setCell kg _ _
      have kb3 : Bs (W1.setCell ⟨g, 72, none⟩ (.int .i64 ((v.len + m : Nat) : Int))) (· ≠ g) A2 ((b.drop (k + m)).map B) := kb2.setCell _ (by simp)
      have hcast : ((v.len + m : Nat) : Int) = (v.len : Int) + (m : Int) := by omega
      have hrest : v.take x = u.take (b.take (k + m)) := by
        rw [← Hv.out, Und.take_take, ← hx]
        congr 1
        rw [List.take_add]
      have hlen2 : v.len + m < 9223372036854775808 := by have := Hn.out; omega
      have hmb : k + m ≤ b.length := by have := Hn.out; omega
      have htake : bk1.take (a + m) = v.rest ++ x := by
        have hp := hsh.pre
        rw [ha] at hp
        rw [← hbk1, ← hp]
        have e0 : (bk.take a).length = a := by rw [List.length_take, hsh.len]; omega
        exact take_two _ _ _ _ _ e0 hxl
      rw [hcast] at k2 kg2 kb3
      obtain ⟨W2, hW2⟩ : ∃ W2, W1.setCell ⟨g, 72, none⟩ (.int .i64 ((v.len : Int) + (m : Int))) = W2 := ⟨_, rfl⟩
      rw [hW2] at k2 kg2 kb3
      have Hm := Lib.hid hm3
      have Hhm := Lib.hid hm
      have Hha := Lib.hid ha
      have Hhok := Lib.hid hok
      have Hbl := Lib.hid hbl
      have Hlv := Lib.hid hlv
      have HW1 := Lib.hid hW1
      have HA2 := Lib.hid hA2
      have Hxl := Lib.hid hxl
      have Hbk1 := Lib.hid kbk1
      have Htake := Lib.hid htake
      have Hrest := Lib.hid hrest
      clear hm ha hok hbl hlv hW1 hA2 hcopy hcast hx hbk1 hxl kbk1 htake hrest hm3
      by_cases hfull : a + m = 64
      · have t1 : ((a : Int) + (m : Int) == 64) = true := by rw [beq_iff_eq]; omega
        have Hfull := Lib.hid hfull
        clear hfull
        obtain ⟨sl, hsl⟩ : ∃ sl, v.st.list = sl := ⟨_, rfl⟩
        rw [hsl] at k2
        have Hsl := Lib.hid hsl
        obtain ⟨CC, mk, un⟩ : ∃ CC : World → Prop, (∀ W, Blk W g 129 (shaCells sl bk1 (v.len + m)).toArray → Bs W (· ≠ g) A2 ((b.drop (k + m)).map B) → w.grownBy W (some g) → CC W) ∧
            (∀ W, CC W → Blk W g 129 (shaCells sl bk1 (v.len + m)).toArray ∧ Bs W (· ≠ g) A2 ((b.drop (k + m)).map B) ∧ w.grownBy W (some g)) := ⟨_, fun _ h1 h2 h3 => ⟨h1, h2, h3⟩, fun _ h => h⟩
        have l1 : ∀ s : InC CC, (Instr.loadAt 115 (.pointer (some ⟨g, 0, none⟩))).run Try.prog s.W = .ok (.agg (sl.map U).toArray) s.W := fun s => by
          refine run_load_agg (agg33 _) (size33 _) g 0 (sl.map U) (by rw [← hsl]; rfl) fun j u hu => ?_
          have hj : j < 8 := by have := (List.getElem?_eq_some_iff.1 hu).1; rw [← hsl] at this; simpa [length_list] using this
          rw [Nat.zero_add, (un _ s.ok).1.cell]
          simp only [shaCells, List.getElem?_toArray]
          rw [List.getElem?_append_left (by rw [← hsl]; simpa [length_list] using hj)]
          exact hu
        have l2 : ∀ s : InC CC, (Instr.loadAt 127 (.pointer (some ⟨g, 8, none⟩))).run Try.prog s.W = .ok (.agg (bk1.map B).toArray) s.W := fun s => by
          refine run_load_agg (agg34 _) (size34 _) g 8 (bk1.map B) (by simpa using Hbk1.out) fun j u hu => ?_
          have hj : j < 64 := by have := (List.getElem?_eq_some_iff.1 hu).1; simpa [Hbk1.out] using this
          rw [(un _ s.ok).1.cell]
          simp only [shaCells, List.getElem?_toArray]
          rw [List.getElem?_append_right (by rw [← hsl]; simp [length_list]), List.getElem?_append_left (by rw [← hsl]; simp [length_list, Hbk1.out]; omega), ← hu, ← hsl]
          simp [length_list]
        have hblock : ∀ W : World, Calls Try.prog 90 #[.agg (sl.map U).toArray, .agg (bk1.map B).toArray] W fun e w' => e = .returned (.agg ((v.st.block bk1).list.map U).toArray) ∧ Below W.heap.size W w' := fun W => by
          have := block_any sl bk1 W (by rw [← hsl]; rfl) Hbk1.out
          rw [show S8.of sl = v.st by rw [← hsl]; rfl] at this
          exact this
        have Hblock := Lib.hid hblock
        have Mk := Lib.hid mk
        have Un := Lib.hid un
        clear hsl hblock mk un
        go_wp2_with fail
        refine wp_region_class_tail CC 12 (by kernel_rfl) (by kernel_rfl) (Mk.out _ k2.drew kb3.drew (grown_drew kg2)) fun _ => ?_
        simp only [List.take_succ_cons, List.take_zero, List.drop_succ_cons, List.drop_zero]
        repeat (first | ((with_reducible refine wpQuiet_load rfl 115 (.tmp 39) rfl g 0 rfl _ l1 ?_); simp only [Act.put, List.setIfInBounds_toArray, List.set_cons_succ, List.set_cons_zero]) | ((with_reducible refine wpQuiet_load rfl 127 (.tmp 43) rfl g 8 rfl _ l2 ?_); simp only [Act.put, List.setIfInBounds_toArray, List.set_cons_succ, List.set_cons_zero]) | go_big_quiet_step ((go_at_call 90; refine (Hblock.out _).mono ?_; rintro e w' ⟨rfl, hbe⟩; refine ⟨rfl, ⟨_, Mk.out _ ((Un.out _ (InC.ok _)).1.below hbe (Un.out _ (InC.ok _)).1.lt) ((Un.out _ (InC.ok _)).2.1.below hbe fun _ h _ => h) (grown_below (Un.out _ (InC.ok _)).2.2 hbe)⟩, rfl⟩)))
        refine wpQuiet_nil ?_
        intro W3 hW3
        obtain ⟨k3, kb4, kg3⟩ := Un.out _ hW3
        go_wp2_with (refine wpList_store_agg rfl 115 (.tmp 47) (.tmp 45) rfl 8 size33 g 0 ((v.st.block bk1).list.map U).toArray rfl rfl rfl (oneCell_U _) 129 _ k3 ?_ ?_)
        · rw [List.size_toArray, length_shaCells (by rw [← Hsl.out]; rfl) Hbk1.out]; omega
        · have hst := shaCells_st sl (v.st.block bk1).list bk1 (v.len + m) (by rw [← Hsl.out]; rfl)
          rw [hst]
          have k4 := k3.setRow_ (shaCells (v.st.block bk1).list bk1 (v.len + m)).toArray
          have kg4 := grown_setRow kg3 (shaCells (v.st.block bk1).list bk1 (v.len + m)).toArray
          have kb5 := kb4.setRow_ (shaCells (v.st.block bk1).list bk1 (v.len + m)).toArray
          have hsh2 : Sh (W3.setRow g (shaCells (v.st.block bk1).list bk1 (v.len + m)).toArray) g (u.take (b.take (k + m))) := by
            have hbk : bk1 = v.rest ++ x := by rw [← Htake.out, Hfull.out, List.take_of_length_le (by rw [Hbk1.out]; omega)]
            rw [← Hrest.out, Und.take_full v x (by rw [Hha.out, Hxl.out]; exact Hfull.out), Hxl.out, ← hbk]
            refine ⟨bk1, k4, Hbk1.out, ?_, rfl, hlen2⟩
            unfold Und.ok
            have := Hhok.out
            have := Hha.out
            have := Hfull.out
            simp only [List.length_nil]
            omega
          clear hst
          simp only [Act.put]
          go_wp2_with fail
          go_roundw
          case rel => exact ⟨k + m, A2, _, _, by omega, by have := Hn.out; omega, by omega, rfl, kb5, hsh2, kg4⟩
          case measure =>
            show n' - m < n'
            have := Hfull.out
            omega
      · have t1 : ((a : Int) + (m : Int) == 64) = false := by rw [beq_eq_false_iff_ne]; omega
        have hsh2 : Sh W2 g (u.take (b.take (k + m))) := by
          rw [← Hrest.out, Und.take_short v x (by rw [Hha.out, Hxl.out]; omega), Hxl.out]
          refine ⟨bk1, k2, Hbk1.out, ?_, ?_, hlen2⟩
          · unfold Und.ok; simp only [List.length_append]; rw [Hha.out, Hxl.out]; have := Hhok.out; omega
          · simp only [List.length_append]; rw [Hha.out, Hxl.out]; exact Htake.out
        clear hfull
        go_wp2_with fail
        refine ⟨⟨k + m, A2, _, _, by have := Hn.out; omega, by have := Hn.out; omega, by omega, rfl, kb3, hsh2, kg2⟩, ?_⟩
        show n' - m < n'
        rcases Hm.out with h | h <;> omega
    · have hk0 : k = b.length := by have := Hn.out; omega
      have hfin : Sh wr g (u.take b) := by
        rw [hk0, List.take_length] at hsh
        exact ⟨bk, hsh⟩
      have hn0 : (n' : Int) = 0 := by omega
      clear hk0
      have Hn0 := Lib.hid hn0
      clear hn0
      go_wp2_with fail
      go_end0
      exact ⟨rfl, hfin, hg⟩
end Go.Proofs.Ytgcbdnoniikboaa
