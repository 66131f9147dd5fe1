/- sha.New, put, Sum, Write; sha.Sum. -/
import Derived.Test.YtgcbdnoniikboaaSha
import Derived.Deep.LoopGhost
namespace Go.Proofs.Ytgcbdnoniikboaa
open Go.RowKit

set_option maxHeartbeats 1000000 in
set_option maxRecDepth 100000 in
theorem first_any (w : World) :
    Calls Try.prog 89 #[] w fun e w' => e = .returned (.agg (H256.map U).toArray) ∧ Below w.heap.size w w' := by
  go_enter Try.func89, Try.ntmps89
  go_wp2_with (first
    | (refine wpList_run0 (o := ⟨some 1, .build _ _, _, _, _, _⟩) rfl (.agg (H256.map U).toArray) (by kernel_rfl) ?_)
    | (refine wpList_store_blk rfl 115 (.tmp 0) (.tmp 1) rfl 8 size33 w.heap.size (H256.map U).toArray rfl (by kernel_rfl) (by rfl) (oneCell_U _) 115 _ (Blk.new _ _ _) (by rfl) ?_))
  refine bodyPost_ret (results_cell_row rfl _ _ w.heap.size 115 (H256.map U).toArray (0, 0) _ rfl ((Blk.new _ _ _).setRow_ _) Try.underlying115 rfl (by kernel_rfl)) rfl ⟨rfl, ?_⟩
  exact below_setRow ((Below.refl _ _).alloc (Nat.le_refl _) _) (Nat.le_refl _) _

set_option maxHeartbeats 1000000 in
set_option maxRecDepth 100000 in
theorem new_any (w : World) :
    Calls Try.prog 82 #[] w fun e w' => ∃ g, e = .returned (.pointer (some ⟨g, 0, none⟩)) ∧ w.heap.size ≤ g ∧ Sh w' g Und.new ∧ Below w.heap.size w w' := by
  obtain ⟨cs, hcs⟩ : ∃ cs, (shaCells H256 (List.replicate 64 0) 0).toArray = cs := ⟨_, rfl⟩
  obtain ⟨fs, hfs⟩ : ∃ fs, (H256.map U).toArray = fs := ⟨_, rfl⟩
  have hf := first_any w
  rw [hfs] at hf
  have Hfs := Lib.hid hfs
  have Hcs := Lib.hid hcs
  clear hcs hfs
  go_enter Try.func82, Try.ntmps82
  go_wp2_with (first
    | (go_at_call 89; refine hf.mono ?_; rintro e w1 ⟨rfl, hb1⟩)
    | (refine wpList_run0 (o := ⟨some 2, .build _ _, _, _, _, _⟩) rfl (.agg cs) (by rw [← Hcs.out, ← Hfs.out]; kernel_rfl) ?_)
    | (refine wpList_run (o := ⟨some 3, .box _ _, _, _, _, _⟩) rfl (.pointer (some ⟨w1.heap.size, 0, none⟩)) (w1.alloc (.cells cs 129)) (by rfl) ?_))
  go_ret
  refine ⟨w1.heap.size, rfl, hb1.size, ⟨List.replicate 64 0, ?_, by simp, rfl, rfl, by decide⟩, hb1.alloc hb1.size _⟩
  rw [show Und.new.st.list = H256 from rfl, show Und.new.len = 0 from rfl, Hcs.out]
  exact Blk.new _ _ _

/-- four bytes are laid -/
def setFour (L : List UInt8) (o : Nat) (x : UInt32) : List UInt8 := L.take o ++ (word4 x ++ L.drop (o + 4))
theorem length_setFour (L : List UInt8) (o : Nat) (x : UInt32) (h : o + 4 ≤ L.length) : (setFour L o x).length = L.length := by
  simp [setFour, length_word4]; omega
theorem set_chain (L : List UInt8) (o : Nat) (x : UInt32) (h : o + 4 ≤ L.length) :
    (((L.set o (x >>> 24).toUInt8).set (o + 1) (x >>> 16).toUInt8).set (o + 2) (x >>> 8).toUInt8).set (o + 3) x.toUInt8 = setFour L o x := by
  obtain ⟨p, q, hp, hq⟩ : ∃ p q, L = p ++ q ∧ p.length = o := ⟨L.take o, L.drop o, by simp, by simp; omega⟩
  subst hp; subst hq
  match q, h with
  | a :: b :: c :: d :: r, _ => simp [setFour, word4]
  | [], h => exact absurd h (by simp)
  | [_], h => simp at h
  | [_, _], h => simp at h
  | [_, _, _], h => simp at h
theorem byte24 (x : UInt32) : (x.toNat : Int) / (16777216 : Int) % (256 : Int) = (((x >>> 24).toUInt8).toNat : Int) := by
  have h := shr32 x 24 (by omega)
  rw [show (UInt32.ofNat 24) = 24 from rfl] at h
  rw [UInt32.toNat_toUInt8, Int.natCast_emod, ← h]; rfl
theorem byte24' (x : UInt32) : (x.toNat : Int) / (16777216 : Int) = (((x >>> 24).toUInt8).toNat : Int) := by
  rw [← byte24]
  have := u32_lt x
  omega
theorem byte16 (x : UInt32) : (x.toNat : Int) / (65536 : Int) % (256 : Int) = (((x >>> 16).toUInt8).toNat : Int) := by
  have h := shr32 x 16 (by omega)
  rw [show (UInt32.ofNat 16) = 16 from rfl] at h
  rw [UInt32.toNat_toUInt8, Int.natCast_emod, ← h]; rfl
theorem byte8 (x : UInt32) : (x.toNat : Int) / (256 : Int) % (256 : Int) = (((x >>> 8).toUInt8).toNat : Int) := by
  have h := shr32 x 8 (by omega)
  rw [show (UInt32.ofNat 8) = 8 from rfl] at h
  rw [UInt32.toNat_toUInt8, Int.natCast_emod, ← h]; rfl
theorem byte0 (x : UInt32) : (x.toNat : Int) % (256 : Int) = ((x.toUInt8).toNat : Int) := by
  rw [UInt32.toNat_toUInt8, Int.natCast_emod]; rfl

set_option maxHeartbeats 1000000 in
theorem put_any (g o n c : Nat) (t : TypeId) (L : List UInt8) (x : UInt32) (w : World) (h : Blk w g t (L.map B).toArray) (ho : o + 4 ≤ L.length) (hn : 4 ≤ n) :
    Calls Try.prog 92 #[.slice (some ⟨g, o, none⟩) n c, U x] w fun e w' => e = .returned (.tuple #[]) ∧ Blk w' g t ((setFour L o x).map B).toArray ∧ w.grownBy w' (some g) := by
  have hx := u32_lt x
  have c0 := (h.cell o).trans (cellB L o (by omega))
  have c1 := (h.cell (o + 1)).trans (cellB L (o + 1) (by omega))
  have c2 := (h.cell (o + 2)).trans (cellB L (o + 2) (by omega))
  have c3 := (h.cell (o + 3)).trans (cellB L (o + 3) (by omega))
  have f0 := h.frozen o
  have f1 := h.frozen (o + 1)
  have f2 := h.frozen (o + 2)
  have f3 := h.frozen (o + 3)
  go_enter Try.func92, Try.ntmps92
  go_wp2_with fail
  go_rounds 5
  go_end0
  refine ⟨rfl, ?_, ?_⟩
  · have := (((h.set_ o (B (x >>> 24).toUInt8)).set_ (o + 1) (B (x >>> 16).toUInt8)).set_ (o + 2) (B (x >>> 8).toUInt8)).set_ (o + 3) (B x.toUInt8)
    rw [setB, setB, setB, setB, set_chain L o x ho] at this
    rw [byte24', byte16, byte8, byte0]
    exact this
  · exact grown_setCell (grown_setCell (grown_setCell (grown_setCell (World.grownBy.refl w _) _ _) _ _) _ _) _ _
end Go.Proofs.Ytgcbdnoniikboaa
