/- notarylaw03.lent: bytes in memory of their own, a mark behind. -/
import Derived.Test.YtdkgndjomkbbjaaMark
import Derived.Test.YtdkgndjomkbbjaaGen
import Derived.Laws.AppendOwn
import Derived.Laws.OwnMore
import Derived.Laws.BytesArg
namespace Go.Proofs.Ytdkgndjomkbbjaa
open Go.RowKit

/-- the slice at A, n bytes of c, holds l; where it is nil, it has no room -/
structure Sl (w : World) (X : Nat → Prop) (A : Option Addr) (n c : Nat) (l : List UInt8) : Prop where
  bs : Bs w X A (l.map B)
  len : l.length = n
  room : n ≤ c
  none : A = none → n = 0 ∧ c = 0
  max : c ≤ maxLen

/-- bytes as a string -/
def bstr (l : List UInt8) : ByteArray := ⟨l.toArray⟩
theorem run_str {w : World} {X : Nat → Prop} {A : Option Addr} {n c : Nat} {l : List UInt8} (h : Sl w X A n c l) : (convert 23 9 (.slice A n c)).run Try.prog w = .ok (.string (bstr l)) w := by
  cases A with
  | none =>
    obtain ⟨h0, h1⟩ := h.none rfl
    have hl := h.len
    subst h0
    obtain rfl := List.eq_nil_of_length_eq_zero hl
    exact run_convert_bytes_nil w _ _ Try.underlying23 (by kernel_rfl) 0 c _ (by kernel_rfl)
  | some a =>
    have hcell : ∀ j u, (l.map B)[j]? = some u → w.cell? (a.add j) = some u := fun j u hu => by
      have hne : l.map B ≠ [] := fun e => by rw [e] at hu; cases hu
      obtain ⟨b, o, hA, _, _, hc⟩ := h.bs hne
      cases hA
      rw [addr_add]
      exact hc j u hu
    have hld := run_loadCells_list (P := Try.prog) w a (l.map B) hcell
    rw [List.length_map, h.len] at hld
    have hmm : (l.map B) = (l.map fun x => (x.toNat : Int)).map (Value.int .u8) := by rw [List.map_map]; rfl
    rw [hmm] at hld
    rw [run_convert_bytes_string w _ _ _ (some a) n c Try.underlying23 (show Try.prog.underlying 5 = some (.int .u8) by kernel_rfl) (by kernel_rfl), run_bytesToString w a n c _ hld, foldl_push_bytes, List.map_map]
    have : (fun n : Int => UInt8.ofNat n.toNat) ∘ (fun x : UInt8 => (x.toNat : Int)) = id := by funext x; simp
    rw [this, List.map_id]
    simp [bstr, ByteArray.empty, ByteArray.emptyWithCapacity]
    rfl
theorem run_eql_str (l m : List UInt8) (W : World) : (binOp .eql 9 (.string (bstr l)) (.string (bstr m))).run Try.prog W = .ok (.bool (l == m)) W := by
  have : ∀ l : List UInt8, (bstr l).toList = l := fun l => by rw [ByteArray.toList_eq]; rfl
  rw [binOp_string_eql, Sem.run_pure, this, this]

/-- a row of one's own, as 'append' leaves it, and its cells -/
structure Own (w : World) (g c : Nat) (l : List UInt8) (cur : Array Value) : Prop where
  blk : Blk w g 5 cur
  size : cur.size = c
  room : l.length ≤ c
  max : c ≤ maxLen
  pre : cur.toList.take l.length = l.map B

/-- what is appended to a row of one's own -/
theorem append_sl {w : World} {base : Nat} {v : Value} {xs l : List UInt8} {X : Nat → Prop} {A : Option Addr} {n c : Nat} (hown : w.ownsRow base 5 1 v xs.length (xs.map B)) (h : Sl w X A n c l) (hb : xs.length + n ≤ 140737488355328) (hbase : base ≤ w.heap.size) :
    ∃ v' w', (Builtin.append_ #[23, 23] 23 #[v, .slice A n c]).run Try.prog w = .ok v' w' ∧ w'.ownsRow base 5 1 v' (xs ++ l).length ((xs ++ l).map B) ∧ w.grownBy w' v.ownBlock := by
  obtain ⟨i, hi⟩ : ∃ i, Try.prog.info? 5 = some i := Option.isSome_iff_exists.1 (by kernel_rfl)
  have hz : i.zero = some (.int .u8 0) := by
    have : (Try.prog.info? 5).bind (·.zero) = some (.int .u8 0) := by kernel_rfl
    rw [hi] at this; exact this
  have hs : i.size = 1 := by
    have : (Try.prog.info? 5).map (·.size) = some 1 := by kernel_rfl
    rw [hi] at this; exact Option.some.inj this
  have hby : i.bytes = 1 := by
    have : (Try.prog.info? 5).map (·.bytes) = some 1 := by kernel_rfl
    rw [hi] at this; exact Option.some.inj this
  cases A with
  | none =>
    obtain ⟨h0, h1⟩ := h.none rfl
    have hl := h.len
    subst h0; subst h1
    obtain rfl := List.eq_nil_of_length_eq_zero hl
    have := run_append_owned_none (P := Try.prog) (w := w) base 23 23 5 i 1 Try.underlying23 hi v xs.length (xs.map B) hown
    exact ⟨v, w, this, by simpa using hown, ⟨rfl, rfl, rfl, Nat.le_refl _, fun _ _ _ => rfl⟩⟩
  | some a =>
    have hcell : ∀ j u, (l.map B)[j]? = some u → w.cell? (a.add j) = some u := fun j u hu => by
      have hne : l.map B ≠ [] := fun e => by rw [e] at hu; cases hu
      obtain ⟨b, o, hA, _, _, hc⟩ := h.bs hne
      cases hA
      rw [addr_add]
      exact hc j u hu
    have hlen := h.len
    obtain ⟨v', w', h1, h2, h3, _⟩ := run_append_own (P := Try.prog) w base 23 23 5 i (.int .u8 0) 1 1 Try.underlying23 hi hz hs hby rfl (by decide) v xs.length (xs.map B) hown a n c (l.map B) (by simpa using hlen) hcell (by simp [Value.oneCell']) (by simp only [maxLen]; omega) (by omega) hbase
    refine ⟨v', w', h1, ?_, h3⟩
    rw [List.length_append, List.map_append, hlen]
    exact h2

theorem Own.of_owns {w : World} {base : Nat} {v : Value} {xs : List UInt8} (h : w.ownsRow base 5 1 v xs.length (xs.map B)) (hx : 0 < xs.length) :
    ∃ g c cur, v = .slice (some ⟨g, 0, none⟩) xs.length c ∧ base ≤ g ∧ Own w g c xs cur := by
  rcases h.2 with ⟨_, h0⟩ | ⟨g, c, cur, rfl, hg, hb, hnc, hcm, hcs, ht⟩
  · omega
  · exact ⟨g, c, cur, rfl, hg, hb, by simpa using hcs, hnc, hcm, by simpa using ht⟩

set_option maxHeartbeats 400000 in
set_option maxRecDepth 100000 in
theorem lent_any (l : List UInt8) (A : Option Addr) (n c : Nat) (w : World) (h : Sl w (fun _ => True) A n c l) (hmax : n ≤ 1099511627776) :
    Calls Try.prog 14 #[.slice A n c] w fun e w' => ∃ g c' cur, e = .returned (.slice (some ⟨g, 0, none⟩) n c') ∧ w.heap.size ≤ g ∧ Own w' g c' (l ++ [0xa5]) cur ∧ Below w.heap.size w w' := by
  have hn := h.len
  obtain ⟨v1, w1, hr1, ho1, hg1⟩ := append_sl (base := w.heap.size) (xs := []) (World.ownsRow_nil w _ _ _) h (by simp; omega) (Nat.le_refl _)
  rw [List.nil_append] at ho1
  have hs1 := hg1.size
  have ho2 : (w1.alloc (.cells #[.int .u8 165] 5)).ownsRow w.heap.size 5 1 v1 l.length (l.map B) := ho1.alloc _
  have hsl2 : Sl (w1.alloc (.cells #[.int .u8 165] 5)) (fun _ => True) (some ⟨w1.heap.size, 0, none⟩) 1 1 [0xa5] := ⟨Bs.new w1 _ _ _ trivial, rfl, Nat.le_refl _, by simp, by decide⟩
  obtain ⟨v3, w3, hr3, ho3, hg3⟩ := append_sl ho2 hsl2 (by omega) (by simp; omega)
  obtain ⟨g, c3, cur, rfl, hgb, hown⟩ := Own.of_owns ho3 (by simp)
  have hlen3 : (l ++ [(0xa5 : UInt8)]).length = n + 1 := by simp [hn]
  rw [hlen3] at hr3
  have hc3 : n + 1 ≤ c3 := by have := hown.room; omega
  have hcm := hown.max
  simp only [maxLen] at hcm
  have hsh := fun W => run_slice_high (P := Try.prog) sliceT23 size23 (some ⟨g, 0, none⟩) (n + 1) c3 n (by omega) W
  have hb1 : Below w.heap.size w w1 := ⟨hg1.os, hg1.tape, hg1.output, hg1.size, fun k hk => hg1.block k hk (by simp [Value.ownBlock])⟩
  have hne : ∀ k, k < w.heap.size → some k ≠ v1.ownBlock := fun k hk e => by
    have := (ho1.lt k e.symm).1
    omega
  have hb3 : Below w.heap.size w w3 := hb1.trans ⟨hg3.os, hg3.tape, hg3.output, by have := hg3.size; simp at this; omega, fun k hk => by
    have h1 := hg3.block k (by simp; omega) (hne k hk)
    rw [h1]
    exact Below.heap_alloc w1 _ k (by omega)⟩
  clear hne hg3 hg1 ho1 ho2 ho3 hsl2 hs1 h
  go_enter Try.func14, Try.ntmps14
  go_wp2_with (first
    | ((with_reducible show wpList _ _ _ (⟨some 4, .call _, _, _, _, _⟩ :: _) _ _); refine wpList_run rfl v1 w1 (run_append_op (.const (.slice none 0 0)) (.tmp 3) 23 rfl _ _ rfl rfl hr1) ?_; simp only [Act.put])
    | ((with_reducible show wpList _ _ _ (⟨some 6, .call _, _, _, _, _⟩ :: _) _ _); refine wpList_run rfl _ w3 (run_append_op (.tmp 4) (.tmp 5) 23 rfl _ _ rfl rfl hr3) ?_; simp only [Act.put]))
  go_ret
  exact ⟨g, c3, cur, rfl, hgb, hown, hb3⟩
end Go.Proofs.Ytdkgndjomkbbjaa
