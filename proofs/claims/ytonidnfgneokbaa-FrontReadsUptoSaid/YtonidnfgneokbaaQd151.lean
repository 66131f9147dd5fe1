/- Fronts and their bytes, there and back (plain). -/
import Derived.Test.YtonidnfgneokbaaQd140
namespace Go.Proofs.Ytonidnfgneokbaa
open Go

def powS (l : List Nat) : Nat := (l.map (2 ^ ·)).sum
def DecN (l : List Nat) : Prop := l.Pairwise fun a b => b < a
theorem powS_cons (a : Nat) (l : List Nat) : powS (a :: l) = 2 ^ a + powS l := by simp [powS]
theorem powS_lt : ∀ (l : List Nat), DecN l → ∀ k, (∀ a ∈ l, a < k) → powS l < 2 ^ k
  | [], _, k, _ => by show 0 < _; exact Nat.two_pow_pos k
  | a :: l, h, k, hk => by
    have h' := List.pairwise_cons.1 h
    have h1 := powS_lt l h'.2 a h'.1
    have h2 : 2 ^ (a + 1) ≤ 2 ^ k := Nat.pow_le_pow_right (by decide) (hk a List.mem_cons_self)
    rw [powS_cons]
    rw [Nat.pow_succ] at h2
    omega
theorem powS_head {a b : Nat} {l m : List Nat} (hm : DecN (b :: m)) (h : powS (a :: l) = powS (b :: m)) : ¬ b < a := fun hlt => by
  have h1 := powS_lt (b :: m) hm (b + 1) fun x hx => by
    rcases List.mem_cons.1 hx with rfl | hx
    · omega
    · have := (List.pairwise_cons.1 hm).1 x hx; omega
  have h2 : 2 ^ (b + 1) ≤ 2 ^ a := Nat.pow_le_pow_right (by decide) hlt
  rw [← h, powS_cons] at h1
  omega
theorem powS_inj : ∀ (l m : List Nat), DecN l → DecN m → powS l = powS m → l = m
  | [], [], _, _, _ => rfl
  | [], b :: m, _, _, h => by
    rw [powS_cons] at h
    have := Nat.two_pow_pos b
    have h0 : powS [] = 0 := rfl
    omega
  | a :: l, [], _, _, h => by
    rw [powS_cons] at h
    have := Nat.two_pow_pos a
    have h0 : powS [] = 0 := rfl
    omega
  | a :: l, b :: m, hl, hm, h => by
    have h1 := powS_head hm h
    have h2 := powS_head hl h.symm
    obtain rfl : a = b := by omega
    rw [powS_cons, powS_cons] at h
    rw [powS_inj l m (List.pairwise_cons.1 hl).2 (List.pairwise_cons.1 hm).2 (by omega)]
theorem levelsF_szF (ps : FrV) (ho : FrOk ps) : levelsF (szF ps) 63 = ps.map (·.1) := by
  refine powS_inj _ _ (levelsF_dec _ 63) (List.pairwise_map.2 ho.dec) ?_
  have h1 : powS (levelsF (szF ps) 63) = szF ps % 2 ^ 63 := levelsF_sum _ 63
  have h2 : powS (ps.map (·.1)) = szF ps := by
    unfold powS szF
    rw [List.map_map]
    rfl
  rw [h1, h2]
  exact Nat.mod_eq_of_lt (by have := ho.top; omega)
theorem zip_fst_snd : ∀ (ps : FrV), (ps.map (·.1)).zip (ps.map (·.2)) = ps
  | [] => rfl
  | p :: ps => by rw [List.map_cons, List.map_cons, List.zip_cons_cons, zip_fst_snd ps]
theorem fromE_szF (ps : FrV) (ho : FrOk ps) : fromE (szF ps : Int) (hashF ps) = (some ps, 0) := by
  unfold fromE
  rw [if_neg (by omega), Int.toNat_natCast, levelsF_szF ps ho, if_neg (by simp [hashF])]
  rw [show hashF ps = ps.map (·.2) from rfl, zip_fst_snd]
theorem chunksF_get (b : List UInt8) (m k : Nat) (h : k < (chunksF b m).length) : (chunksF b m)[k] = chunkF b k := by simp [chunksF]
theorem chunksF_flat (hs : List (List UInt8)) (h : H32 hs) : chunksF hs.flatten hs.length = hs := by
  apply List.ext_getElem
  · exact length_chunksF _ _
  · intro k h1 h2
    rw [chunksF_get]
    unfold chunkF
    clear h1
    induction hs generalizing k with
    | nil => cases h2
    | cons x l ih =>
      have hx := h x List.mem_cons_self
      cases k with
      | zero =>
        rw [Nat.mul_zero, List.drop_zero, List.flatten_cons, List.take_append_of_le_length (by omega), List.take_of_length_le (by omega)]
        rfl
      | succ k =>
        have e : (x :: l).flatten.drop (32 * (k + 1)) = l.flatten.drop (32 * k) := by
          rw [List.flatten_cons, List.drop_append, List.drop_of_length_le (by omega), List.nil_append, hx, show 32 * (k + 1) - 32 = 32 * k by omega]
        rw [e]
        exact ih (fun y hy => h y (List.mem_cons_of_mem _ hy)) k (by simpa using h2)
theorem flat_chunksF : ∀ (m : Nat) (r : List UInt8), r.length = 32 * m → (chunksF r m).flatten = r
  | 0, r, h => by
    obtain rfl : r = [] := List.length_eq_zero_iff.1 (by omega)
    rfl
  | m + 1, r, h => by
    have h1 := flat_chunksF m (r.take (32 * m)) (by rw [List.length_take]; omega)
    have e : chunksF (r.take (32 * m)) m = chunksF r m := by
      unfold chunksF
      refine List.map_congr_left fun k hk => ?_
      have hk := List.mem_range.1 hk
      unfold chunkF
      rw [List.drop_take, List.take_take, Nat.min_eq_left (by omega)]
    rw [e] at h1
    rw [chunksF_succ, List.flatten_append, h1]
    have h2 : chunkF r m = r.drop (32 * m) := by unfold chunkF; exact List.take_of_length_le (by rw [List.length_drop]; omega)
    rw [h2]
    simp
theorem length_bytesF (ps : FrV) (h : F32 ps) : (bytesF ps).length = 8 + ps.length * 32 := by
  unfold bytesF
  rw [List.length_append, length_beN, length_flat32 _ (hashF_32 ps h)]
  simp [hashF]
/-- a front's bytes are read as it -/
theorem readF_bytes (ps : FrV) (ho : FrOk ps) : readF (bytesF ps) = (some ps, 0) := by
  have hl := length_bytesF ps ho.h32
  have h8 := length_beN 8 (szF ps)
  have ht : (bytesF ps).take 8 = beN 8 (szF ps) := by unfold bytesF; rw [List.take_append_of_le_length (by omega), List.take_of_length_le (by omega)]
  have hd : (bytesF ps).drop 8 = (hashF ps).flatten := by unfold bytesF; rw [List.drop_append, List.drop_of_length_le (by omega), List.nil_append, h8, Nat.sub_self, List.drop_zero]
  have hs : sgnN (numN (beN 8 (szF ps))) = (szF ps : Int) := by
    rw [numN_beN]
    unfold sgnN
    have := ho.top
    rw [IntKind.wrap_i64]
    omega
  have hm : (8 + ps.length * 32 - 8) / 32 = (hashF ps).length := by simp [hashF]
  unfold readF
  rw [ht, hd, hl, if_neg (by omega), if_neg (by omega), hs, hm, chunksF_flat _ (hashF_32 ps ho.h32), fromE_szF ps ho]
/-- a front that is read has the bytes that it is read from -/
theorem readF_some (b : List UInt8) (ps : FrV) (h : (readF b).1 = some ps) : FrOk ps ∧ bytesF ps = b := by
  unfold readF at h
  split at h
  · cases h
  rename_i h8
  split at h
  · cases h
  rename_i hm
  have hm : (b.length - 8) % 32 = 0 := by omega
  generalize hfe : (fromE (sgnN (numN (b.take 8))) (chunksF (b.drop 8) ((b.length - 8) / 32))).1 = o at h
  cases o with
  | none => cases h
  | some qs =>
    obtain rfl : qs = ps := Option.some.inj h
    have hdl : (b.drop 8).length = 32 * ((b.length - 8) / 32) := by rw [List.length_drop]; omega
    obtain ⟨h1, h2, h3⟩ := fromE_ok _ _ (chunksF_all _ _ (by omega)) (sgnN_le _) _ hfe
    refine ⟨h1, ?_⟩
    have hn : numN (b.take 8) < 256 ^ 8 := numN_lt 8 _ (by rw [List.length_take]; omega)
    have hz : szF qs = numN (b.take 8) := by
      unfold sgnN at h2
      rw [IntKind.wrap_i64] at h2
      omega
    unfold bytesF
    rw [hz, beN_numN 8 _ (by rw [List.length_take]; omega), show hashF qs = qs.map (·.2) from rfl, h3, flat_chunksF _ _ hdl, List.take_append_drop]
theorem readF_two (b : List UInt8) : (∃ ps, readF b = (some ps, 0)) ∨ readF b = (none, 200) := by
  unfold readF
  split
  · exact .inr rfl
  split
  · exact .inr rfl
  generalize (fromE (sgnN (numN (b.take 8))) (chunksF (b.drop 8) ((b.length - 8) / 32))).1 = o
  cases o with
  | none => exact .inr rfl
  | some ps => exact .inl ⟨ps, rfl⟩
end Go.Proofs.Ytonidnfgneokbaa
