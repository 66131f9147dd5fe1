/- notarylaw03.lent: bytes in memory of their own, a mark behind. -/
import Derived.Test.YtgcbdnoniikboaaMark
import Derived.Test.YtgcbdnoniikboaaGen
import Derived.Laws.AppendOwn
import Derived.Laws.OwnMore
import Derived.Laws.BytesArg
namespace Go.Proofs.Ytgcbdnoniikboaa
open Go.RowKit

/-- the slice at A, n bytes of c, holds l; where it is nil, it has no room -/
structure Sl (w : World) (X : Nat → Prop) (A : Option Addr) (n c : Nat) (l : List UInt8) : Prop where
  bs : Bs w X A (l.map B)
  len : l.length = n
  room : n ≤ c
  none : A = none → n = 0 ∧ c = 0
  max : c ≤ maxLen

/-- bytes as a string -/
def bstr (l : List UInt8) : ByteArray := ⟨l.toArray⟩
theorem run_str {w : World} {X : Nat → Prop} {A : Option Addr} {n c : Nat} {l : List UInt8} (h : Sl w X A n c l) : (convert 32 9 (.slice A n c)).run Try.prog w = .ok (.string (bstr l)) w := by
  cases A with
  | none =>
    obtain ⟨h0, h1⟩ := h.none rfl
    have hl := h.len
    subst h0
    obtain rfl := List.eq_nil_of_length_eq_zero hl
    exact run_convert_bytes_nil w _ _ Try.underlying32 (by kernel_rfl) 0 c _ (by kernel_rfl)
  | some a =>
    have hcell : ∀ j u, (l.map B)[j]? = some u → w.cell? (a.add j) = some u := fun j u hu => by
      have hne : l.map B ≠ [] := fun e => by rw [e] at hu; cases hu
      obtain ⟨b, o, hA, _, _, hc⟩ := h.bs hne
      cases hA
      rw [addr_add]
      exact hc j u hu
    have hld := run_loadCells_list (P := Try.prog) w a (l.map B) hcell
    rw [List.length_map, h.len] at hld
    have hmm : (l.map B) = (l.map fun x => (x.toNat : Int)).map (Value.int .u8) := by rw [List.map_map]; rfl
    rw [hmm] at hld
    rw [run_convert_bytes_string w _ _ _ (some a) n c Try.underlying32 (show Try.prog.underlying 5 = some (.int .u8) by kernel_rfl) (by kernel_rfl), run_bytesToString w a n c _ hld, foldl_push_bytes, List.map_map]
    have : (fun n : Int => UInt8.ofNat n.toNat) ∘ (fun x : UInt8 => (x.toNat : Int)) = id := by funext x; simp
    rw [this, List.map_id]
    simp [bstr, ByteArray.empty, ByteArray.emptyWithCapacity]
    rfl
theorem run_eql_str (l m : List UInt8) (W : World) : (binOp .eql 9 (.string (bstr l)) (.string (bstr m))).run Try.prog W = .ok (.bool (l == m)) W := by
  have : ∀ l : List UInt8, (bstr l).toList = l := fun l => by rw [ByteArray.toList_eq]; rfl
  rw [binOp_string_eql, Sem.run_pure, this, this]

/-- a row of one's own, as 'append' leaves it, and its cells -/
structure Own (w : World) (g c : Nat) (l : List UInt8) (cur : Array Value) : Prop where
  blk : Blk w g 5 cur
  size : cur.size = c
  room : l.length ≤ c
  max : c ≤ maxLen
  pre : cur.toList.take l.length = l.map B

/-- what is appended to a row of one's own -/
theorem append_sl {w : World} {base : Nat} {v : Value} {xs l : List UInt8} {X : Nat → Prop} {A : Option Addr} {n c : Nat} (hown : w.ownsRow base 5 1 v xs.length (xs.map B)) (h : Sl w X A n c l) (hb : xs.length + n ≤ 140737488355328) (hbase : base ≤ w.heap.size) :
    ∃ v' w', (Builtin.append_ #[32, 32] 32 #[v, .slice A n c]).run Try.prog w = .ok v' w' ∧ w'.ownsRow base 5 1 v' (xs ++ l).length ((xs ++ l).map B) ∧ w.grownBy w' v.ownBlock := by
  obtain ⟨i, hi⟩ : ∃ i, Try.prog.info? 5 = some i := Option.isSome_iff_exists.1 (by kernel_rfl)
  have hz : i.zero = some (.int .u8 0) := by
    have : (Try.prog.info? 5).bind (·.zero) = some (.int .u8 0) := by kernel_rfl
    rw [hi] at this; exact this
  have hs : i.size = 1 := by
    have : (Try.prog.info? 5).map (·.size) = some 1 := by kernel_rfl
    rw [hi] at this; exact Option.some.inj this
  have hby : i.bytes = 1 := by
    have : (Try.prog.info? 5).map (·.bytes) = some 1 := by kernel_rfl
    rw [hi] at this; exact Option.some.inj this
  cases A with
  | none =>
    obtain ⟨h0, h1⟩ := h.none rfl
    have hl := h.len
    subst h0; subst h1
    obtain rfl := List.eq_nil_of_length_eq_zero hl
    have := run_append_owned_none (P := Try.prog) (w := w) base 32 32 5 i 1 Try.underlying32 hi v xs.length (xs.map B) hown
    exact ⟨v, w, this, by simpa using hown, ⟨rfl, rfl, rfl, Nat.le_refl _, fun _ _ _ => rfl⟩⟩
  | some a =>
    have hcell : ∀ j u, (l.map B)[j]? = some u → w.cell? (a.add j) = some u := fun j u hu => by
      have hne : l.map B ≠ [] := fun e => by rw [e] at hu; cases hu
      obtain ⟨b, o, hA, _, _, hc⟩ := h.bs hne
      cases hA
      rw [addr_add]
      exact hc j u hu
    have hlen := h.len
    obtain ⟨v', w', h1, h2, h3, _⟩ := run_append_own (P := Try.prog) w base 32 32 5 i (.int .u8 0) 1 1 Try.underlying32 hi hz hs hby rfl (by decide) v xs.length (xs.map B) hown a n c (l.map B) (by simpa using hlen) hcell (by simp [Value.oneCell']) (by simp only [maxLen]; omega) (by omega) hbase
    refine ⟨v', w', h1, ?_, h3⟩
    rw [List.length_append, List.map_append, hlen]
    exact h2

theorem Own.of_owns {w : World} {base : Nat} {v : Value} {xs : List UInt8} (h : w.ownsRow base 5 1 v xs.length (xs.map B)) (hx : 0 < xs.length) :
    ∃ g c cur, v = .slice (some ⟨g, 0, none⟩) xs.length c ∧ base ≤ g ∧ Own w g c xs cur := by
  rcases h.2 with ⟨_, h0⟩ | ⟨g, c, cur, rfl, hg, hb, hnc, hcm, hcs, ht⟩
  · omega
  · exact ⟨g, c, cur, rfl, hg, hb, by simpa using hcs, hnc, hcm, by simpa using ht⟩
end Go.Proofs.Ytgcbdnoniikboaa
