/- notaryref03.Sum; notarylaw03.kept. -/
import Derived.Test.YtgcbdnoniikboaaRef5
namespace Go.Proofs.Ytgcbdnoniikboaa
open Go.RowKit

theorem Und.take_ok' (b : List UInt8) : (Und.new.take b).ok := Und.take_ok _ _ Und.new_ok

set_option maxHeartbeats 1000000 in
set_option maxRecDepth 100000 in
theorem rsum_any (b : List UInt8) (A : Option Addr) (n c : Nat) (w : World) (h : Sl w (fun _ => True) A n c b) (hmax : n ≤ 1099511627776) :
    Calls Try.prog 76 #[.slice A n c] w fun e w' => e = .returned (.agg ((sha256 b).map B).toArray) ∧ Below w.heap.size w w' := by
  have hlen := h.len
  obtain ⟨v, hv⟩ : ∃ v, Und.new.take b = v := ⟨_, rfl⟩
  have hvl : v.len = n := by rw [← hv, Und.take_len, ← hlen]; exact Nat.zero_add _
  have hvok : v.ok := by rw [← hv]; exact Und.take_ok' b
  have hvs : v.sum = sha256 b := by rw [← hv]; rfl
  have htk : ∀ w, Sl w (fun _ => True) A n c b → Calls Try.prog 80 #[undV Und.new (.slice none 0 0), .slice A n c] w fun e w' => ∃ A' n' c', e = .returned (undV v (.slice A' n' c')) ∧ Sl w' (fun _ => True) A' n' c' v.rest ∧ Below w.heap.size w w' := fun w h => by
    rw [← hv]
    exact rtake_any Und.new b none 0 0 A n c w Sl.nil h (by omega) (by have : Und.new.len = 0 := rfl; omega)
  obtain ⟨x0, hx0⟩ : ∃ x0, undV Und.new (.slice none 0 0) = x0 := ⟨_, rfl⟩
  have hnew := fun w => rnew_any w
  rw [hx0] at htk hnew
  obtain ⟨r, hr⟩ : ∃ r, sha256 b = r := ⟨_, rfl⟩
  rw [hr] at hvs ⊢
  have hrl : r.length = 32 := by rw [← hr]; exact length_sha256 _
  have Hrl := Lib.hid hrl
  have Hvs := Lib.hid hvs
  have Hvl := Lib.hid hvl
  have Htk := Lib.hid htk
  have Hnew := Lib.hid hnew
  clear hv hx0 hr hrl hvs hvl htk hnew hlen
  go_enter Try.func76, Try.ntmps76
  go_wp2_with (first
    | (go_at_call 79; refine (Hnew.out _).mono ?_; rintro e w1 ⟨rfl, hb1⟩; have k1 := (Blk.new w _ _).below hb1 (by simp); have hB1 := ((Below.refl _ _).alloc (Nat.le_refl _) _).trans (hb1.mono (by simp)))
    | (go_at_call 80; refine (Htk.out _ (h.step hB1)).mono ?_; rintro e w2 ⟨A2, n2, c2, rfl, hs2, hb2⟩; have k2 := k1.below hb2 k1.lt; have hB2 := hB1.trans (hb2.mono hB1.size))
    | (go_at_call 81; refine (rend_any v A2 n2 c2 _ hs2 hvok (by rw [Hvl.out]; omega)).mono ?_; rintro e w3 ⟨rfl, hb3⟩; have k3 := k2.below hb3 k2.lt; have hB3 := hB2.trans (hb3.mono hB2.size); rw [Hvs.out])
    | ((with_reducible show wpList _ _ _ (⟨none, .store _ _ _, _, _, _, _⟩ :: _) _ _); refine wpList_store_blk rfl 34 (.tmp 2) (.tmp 6) rfl 32 size26 w.heap.size (r.map B).toArray rfl rfl (by simp [Hrl.out]) (oneCell_B _) 34 _ k3 (by rfl) ?_; simp only [Act.put]))
  refine bodyPost_ret (results_cell_row rfl _ _ w.heap.size 34 (r.map B).toArray (0, 0) _ rfl (k3.setRow_ _) Try.underlying34 rfl (by rw [show (r.map B).toArray.size = 32 by simp [Hrl.out]]; exact info26)) rfl ⟨rfl, ?_⟩
  exact below_setRow hB3 (Nat.le_refl _) _

/-- lent bytes: read, and the byte behind them -/
structure LentB (w : World) (X : Nat → Prop) (g n c : Nat) (l : List UInt8) : Prop where
  sl : Sl w X (some ⟨g, 0, none⟩) n c l
  lt : n < c
  mark : w.cell? ⟨g, n, none⟩ = some (.int .u8 165)
  x : X g
  in_ : g < w.heap.size
theorem LentB.step {w w' : World} {X : Nat → Prop} {g n c : Nat} {l : List UInt8} (h : LentB w X g n c l) (hb : Below w.heap.size w w') : LentB w' X g n c l :=
  ⟨h.sl.step hb, h.lt, by rw [hb.cell (p := ⟨g, n, none⟩) h.in_]; exact h.mark, h.x, Nat.lt_of_lt_of_le h.in_ hb.size⟩
theorem LentB.grown {w w' : World} {X : Nat → Prop} {g n c : Nat} {l : List UInt8} {row : Option Nat} (h : LentB w X g n c l) (hg : w.grownBy w' row) (hX : ∀ b, b < w.heap.size → X b → some b ≠ row) : LentB w' X g n c l :=
  ⟨h.sl.grown hg hX, h.lt, by rw [World.cell?_of_block (w := w) (hg.block g h.in_ (hX g h.in_ h.x))]; exact h.mark, h.x, Nat.lt_of_lt_of_le h.in_ hg.size⟩
theorem LentB.of_own {w : World} {X : Nat → Prop} {g c : Nat} {l : List UInt8} {cur : Array Value} (h : Own w g c (l ++ [0xa5]) cur) (hX : X g) : LentB w X g l.length c l := by
  have hr := h.room
  rw [List.length_append] at hr
  simp only [List.length_singleton] at hr
  have hget : ∀ j u, ((l ++ [0xa5]).map B)[j]? = some u → w.cell? ⟨g, j, none⟩ = some u := fun j u hu => by
    rw [h.blk.cell, ← Array.getElem?_toList]
    rw [← h.pre, List.getElem?_take] at hu
    split at hu
    · exact hu
    · cases hu
  refine ⟨⟨fun _ => ⟨g, 0, rfl, h.blk.lt, hX, fun j u hu => ?_⟩, rfl, by omega, by simp, h.max⟩, by omega, ?_, hX, h.blk.lt⟩
  · rw [Nat.zero_add]
    refine hget j u ?_
    rw [List.map_append, List.getElem?_append_left (List.getElem?_eq_some_iff.1 hu).1]
    exact hu
  · refine hget _ _ ?_
    rw [List.map_append, List.getElem?_append_right (by simp)]
    simp
end Go.Proofs.Ytgcbdnoniikboaa
