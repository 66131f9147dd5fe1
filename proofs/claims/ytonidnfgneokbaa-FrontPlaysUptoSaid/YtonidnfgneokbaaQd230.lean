/- Fronts and their bytes, there and back (plain). -/
import Derived.Test.YtonidnfgneokbaaQd225
import Derived.Test.YtonidnfgneokbaaQd229
namespace Go.Proofs.Ytonidnfgneokbaa
open Go

def powS (l : List Nat) : Nat := (l.map (2 ^ ·)).sum
def DecN (l : List Nat) : Prop := l.Pairwise fun a b => b < a
theorem powS_cons (a : Nat) (l : List Nat) : powS (a :: l) = 2 ^ a + powS l := by simp [powS]
theorem powS_lt : ∀ (l : List Nat), DecN l → ∀ k, (∀ a ∈ l, a < k) → powS l < 2 ^ k
  | [], _, k, _ => by show 0 < _; exact Nat.two_pow_pos k
  | a :: l, h, k, hk => by
    have h' := List.pairwise_cons.1 h
    have h1 := powS_lt l h'.2 a h'.1
    have h2 : 2 ^ (a + 1) ≤ 2 ^ k := Nat.pow_le_pow_right (by decide) (hk a List.mem_cons_self)
    rw [powS_cons]
    rw [Nat.pow_succ] at h2
    omega
theorem powS_head {a b : Nat} {l m : List Nat} (hm : DecN (b :: m)) (h : powS (a :: l) = powS (b :: m)) : ¬ b < a := fun hlt => by
  have h1 := powS_lt (b :: m) hm (b + 1) fun x hx => by
    rcases List.mem_cons.1 hx with rfl | hx
    · omega
    · have := (List.pairwise_cons.1 hm).1 x hx; omega
  have h2 : 2 ^ (b + 1) ≤ 2 ^ a := Nat.pow_le_pow_right (by decide) hlt
  rw [← h, powS_cons] at h1
  omega
theorem powS_inj : ∀ (l m : List Nat), DecN l → DecN m → powS l = powS m → l = m
  | [], [], _, _, _ => rfl
  | [], b :: m, _, _, h => by
    rw [powS_cons] at h
    have := Nat.two_pow_pos b
    have h0 : powS [] = 0 := rfl
    omega
  | a :: l, [], _, _, h => by
    rw [powS_cons] at h
    have := Nat.two_pow_pos a
    have h0 : powS [] = 0 := rfl
    omega
  | a :: l, b :: m, hl, hm, h => by
    have h1 := powS_head hm h
    have h2 := powS_head hl h.symm
    obtain rfl : a = b := by omega
    rw [powS_cons, powS_cons] at h
    rw [powS_inj l m (List.pairwise_cons.1 hl).2 (List.pairwise_cons.1 hm).2 (by omega)]
theorem levelsF_szF (ps : FrV) (ho : FrOk ps) : levelsF (szF ps) 63 = ps.map (·.1) := by
  refine powS_inj _ _ (levelsF_dec _ 63) (List.pairwise_map.2 ho.dec) ?_
  have h1 : powS (levelsF (szF ps) 63) = szF ps % 2 ^ 63 := levelsF_sum _ 63
  have h2 : powS (ps.map (·.1)) = szF ps := by
    unfold powS szF
    rw [List.map_map]
    rfl
  rw [h1, h2]
  exact Nat.mod_eq_of_lt (by have := ho.top; omega)
theorem zip_fst_snd : ∀ (ps : FrV), (ps.map (·.1)).zip (ps.map (·.2)) = ps
  | [] => rfl
  | p :: ps => by rw [List.map_cons, List.map_cons, List.zip_cons_cons, zip_fst_snd ps]
theorem fromE_szF (ps : FrV) (ho : FrOk ps) : fromE (szF ps : Int) (hashF ps) = (some ps, 0) := by
  unfold fromE
  rw [if_neg (by omega), Int.toNat_natCast, levelsF_szF ps ho, if_neg (by simp [hashF])]
  rw [show hashF ps = ps.map (·.2) from rfl, zip_fst_snd]
theorem chunksF_get (b : List UInt8) (m k : Nat) (h : k < (chunksF b m).length) : (chunksF b m)[k] = chunkF b k := by simp [chunksF]
theorem chunksF_flat (hs : List (List UInt8)) (h : H32 hs) : chunksF hs.flatten hs.length = hs := by
  apply List.ext_getElem
  · exact length_chunksF _ _
  · intro k h1 h2
    rw [chunksF_get]
    unfold chunkF
    clear h1
    induction hs generalizing k with
    | nil => cases h2
    | cons x l ih =>
      have hx := h x List.mem_cons_self
      cases k with
      | zero =>
        rw [Nat.mul_zero, List.drop_zero, List.flatten_cons, List.take_append_of_le_length (by omega), List.take_of_length_le (by omega)]
        rfl
      | succ k =>
        have e : (x :: l).flatten.drop (32 * (k + 1)) = l.flatten.drop (32 * k) := by
          rw [List.flatten_cons, List.drop_append, List.drop_of_length_le (by omega), List.nil_append, hx, show 32 * (k + 1) - 32 = 32 * k by omega]
        rw [e]
        exact ih (fun y hy => h y (List.mem_cons_of_mem _ hy)) k (by simpa using h2)
theorem flat_chunksF : ∀ (m : Nat) (r : List UInt8), r.length = 32 * m → (chunksF r m).flatten = r
  | 0, r, h => by
    obtain rfl : r = [] := List.length_eq_zero_iff.1 (by omega)
    rfl
  | m + 1, r, h => by
    have h1 := flat_chunksF m (r.take (32 * m)) (by rw [List.length_take]; omega)
    have e : chunksF (r.take (32 * m)) m = chunksF r m := by
      unfold chunksF
      refine List.map_congr_left fun k hk => ?_
      have hk := List.mem_range.1 hk
      unfold chunkF
      rw [List.drop_take, List.take_take, Nat.min_eq_left (by omega)]
    rw [e] at h1
    rw [chunksF_succ, List.flatten_append, h1]
    have h2 : chunkF r m = r.drop (32 * m) := by unfold chunkF; exact List.take_of_length_le (by rw [List.length_drop]; omega)
    rw [h2]
    simp
theorem length_bytesF (ps : FrV) (h : F32 ps) : (bytesF ps).length = 8 + ps.length * 32 := by
  unfold bytesF
  rw [List.length_append, length_beN, length_flat32 _ (hashF_32 ps h)]
  simp [hashF]
/-- a front's bytes are read as it -/
theorem readF_bytes (ps : FrV) (ho : FrOk ps) : readF (bytesF ps) = (some ps, 0) := by
  have hl := length_bytesF ps ho.h32
  have h8 := length_beN 8 (szF ps)
  have ht : (bytesF ps).take 8 = beN 8 (szF ps) := by unfold bytesF; rw [List.take_append_of_le_length (by omega), List.take_of_length_le (by omega)]
  have hd : (bytesF ps).drop 8 = (hashF ps).flatten := by unfold bytesF; rw [List.drop_append, List.drop_of_length_le (by omega), List.nil_append, h8, Nat.sub_self, List.drop_zero]
  have hs : sgnN (numN (beN 8 (szF ps))) = (szF ps : Int) := by
    rw [numN_beN]
    unfold sgnN
    have := ho.top
    rw [IntKind.wrap_i64]
    omega
  have hm : (8 + ps.length * 32 - 8) / 32 = (hashF ps).length := by simp [hashF]
  unfold readF
  rw [ht, hd, hl, if_neg (by omega), if_neg (by omega), hs, hm, chunksF_flat _ (hashF_32 ps ho.h32), fromE_szF ps ho]
/-- a front that is read has the bytes that it is read from -/
theorem readF_some (b : List UInt8) (ps : FrV) (h : (readF b).1 = some ps) : FrOk ps ∧ bytesF ps = b := by
  unfold readF at h
  split at h
  · cases h
  rename_i h8
  split at h
  · cases h
  rename_i hm
  have hm : (b.length - 8) % 32 = 0 := by omega
  generalize hfe : (fromE (sgnN (numN (b.take 8))) (chunksF (b.drop 8) ((b.length - 8) / 32))).1 = o at h
  cases o with
  | none => cases h
  | some qs =>
    obtain rfl : qs = ps := Option.some.inj h
    have hdl : (b.drop 8).length = 32 * ((b.length - 8) / 32) := by rw [List.length_drop]; omega
    obtain ⟨h1, h2, h3⟩ := fromE_ok _ _ (chunksF_all _ _ (by omega)) (sgnN_le _) _ hfe
    refine ⟨h1, ?_⟩
    have hn : numN (b.take 8) < 256 ^ 8 := numN_lt 8 _ (by rw [List.length_take]; omega)
    have hz : szF qs = numN (b.take 8) := by
      unfold sgnN at h2
      rw [IntKind.wrap_i64] at h2
      omega
    unfold bytesF
    rw [hz, beN_numN 8 _ (by rw [List.length_take]; omega), show hashF qs = qs.map (·.2) from rfl, h3, flat_chunksF _ _ hdl, List.take_append_drop]
theorem readF_two (b : List UInt8) : (∃ ps, readF b = (some ps, 0)) ∨ readF b = (none, 200) := by
  unfold readF
  split
  · exact .inr rfl
  split
  · exact .inr rfl
  generalize (fromE (sgnN (numN (b.take 8))) (chunksF (b.drop 8) ((b.length - 8) / 32))).1 = o
  cases o with
  | none => exact .inr rfl
  | some ps => exact .inl ⟨ps, rfl⟩
end Go.Proofs.Ytonidnfgneokbaa
/- Chapter 10: fronts that may not be there; what two answers are held against each other with. -/
namespace Go.Proofs.Ytonidnfgneokbaa
open Go Go.RowKit Go.Shelf
attribute [local go_sem] Oper.semAt_some

def zero32 : List UInt8 := List.replicate 32 0
def szO : Option FrV → Nat | none => 0 | some ps => szF ps
def rootO : Option FrV → List UInt8 | none => zero32 | some ps => rootG ps
def hashO : Option FrV → List (List UInt8) | none => [] | some ps => hashF ps
def bytesO : Option FrV → List UInt8 | none => [] | some ps => bytesF ps
/-- the program's front, or none -/
def HasO (W : World) (v : Value) (o : Option FrV) : Prop := (o = none ∧ v = .pointer none) ∨ ∃ g ps, o = some ps ∧ v = fptr g ∧ FrO W g ps ∧ FrOk ps
/-- the document's -/
def HasR (W : World) (v : Value) (o : Option FrV) : Prop := (o = none ∧ v = .pointer none) ∨ ∃ g ps, o = some ps ∧ v = fptr g ∧ FrP W g ps ∧ FrOk ps
theorem HasO.step {W W' : World} {v : Value} {o : Option FrV} (h : HasO W v o) (hb : Below W.heap.size W W') : HasO W' v o := by
  rcases h with h | ⟨g, ps, h1, h2, h3, h4⟩
  · exact .inl h
  · exact .inr ⟨g, ps, h1, h2, h3.step hb, h4⟩
theorem HasR.step {W W' : World} {v : Value} {o : Option FrV} (h : HasR W v o) (hb : Below W.heap.size W W') : HasR W' v o := by
  rcases h with h | ⟨g, ps, h1, h2, h3, h4⟩
  · exact .inl h
  · exact .inr ⟨g, ps, h1, h2, h3.step hb, h4⟩
theorem HasO.one {W : World} {v : Value} {o : Option FrV} (h : HasO W v o) : v.oneCell' = true := by
  rcases h with ⟨_, rfl⟩ | ⟨g, ps, _, rfl, _⟩ <;> rfl
theorem HasR.one {W : World} {v : Value} {o : Option FrV} (h : HasR W v o) : v.oneCell' = true := by
  rcases h with ⟨_, rfl⟩ | ⟨g, ps, _, rfl, _⟩ <;> rfl
theorem HasO.root {W : World} {v : Value} {o : Option FrV} (h : HasO W v o) : (rootO o).length = 32 := by
  rcases h with ⟨rfl, _⟩ | ⟨g, ps, rfl, _, _, h4⟩
  · rfl
  · exact length_rootG ps h4.h32
theorem HasO.h32 {W : World} {v : Value} {o : Option FrV} (h : HasO W v o) : H32 (hashO o) := by
  rcases h with ⟨rfl, _⟩ | ⟨g, ps, rfl, _, _, h4⟩
  · exact fun _ h => (by cases h)
  · exact hashF_32 ps h4.h32
theorem HasO.few {W : World} {v : Value} {o : Option FrV} (h : HasO W v o) : (hashO o).length ≤ 63 := by
  rcases h with ⟨rfl, _⟩ | ⟨g, ps, rfl, _, _, h4⟩
  · exact Nat.zero_le _
  · simp only [hashO, hashF, List.length_map]; exact h4.len
theorem HasO.fewB {W : World} {v : Value} {o : Option FrV} (h : HasO W v o) : (bytesO o).length ≤ 2024 := by
  rcases h with ⟨rfl, _⟩ | ⟨g, ps, rfl, _, _, h4⟩
  · exact Nat.zero_le _
  · have := length_bytesF ps h4.h32
    have := h4.len
    show (bytesF ps).length ≤ 2024
    omega
section
variable (v : Value) (o : Option FrV) (w : World)
theorem size_o (h : HasO w v o) : Calls Try.prog 43 #[v] w fun e w' => e = .returned (.int .i64 (szO o : Int)) ∧ Below w.heap.size w w' := by
  rcases h with ⟨rfl, rfl⟩ | ⟨g, ps, rfl, rfl, h3, h4⟩
  · exact fsize_any (.pointer none) [] w rfl (allOk_nil w) List.Pairwise.nil (by decide)
  · exact fsize_some h3 h4
theorem root_o (h : HasO w v o) : Calls Try.prog 45 #[v] w fun e w' => e = .returned (.agg ((rootO o).map B).toArray) ∧ Below w.heap.size w w' := by
  rcases h with ⟨rfl, rfl⟩ | ⟨g, ps, rfl, rfl, h3, h4⟩
  · exact froot_nil w
  · exact froot_any g ps w h3 h4
theorem point_o (h : HasO w v o) : Calls Try.prog 67 #[v] w fun e w' => e = .returned (.agg (.int .i64 (szO o : Int) :: (rootO o).map B).toArray) ∧ Below w.heap.size w w' :=
  fpoint_any v (szO o) (rootO o) w h.root (fun W hb => size_o v o W (h.step hb)) (fun W hb => root_o v o W (h.step hb))
theorem parts_o (h : HasO w v o) : Calls Try.prog 68 #[v] w fun e w' => ∃ v', e = .returned v' ∧ w'.ownsRow w.heap.size 25 32 v' (hashO o).length (hcells (hashO o)) ∧ Below w.heap.size w w' := by
  rcases h with ⟨rfl, rfl⟩ | ⟨g, ps, rfl, rfl, h3, h4⟩
  · exact fparts_any (.pointer none) [] w rfl (allOk_nil w) (fun _ h => by cases h) (by simp)
  · exact fparts_any (fptr g) ps w rfl (allOk_some h3 h4.h62 (by have := h4.len; omega)) h4.h32 (by have := h4.len; omega)
theorem bytes_o (h : HasO w v o) : Calls Try.prog 48 #[v] w fun e w' => ∃ v', e = .returned v' ∧ Fresh w w' v' (bytesO o) := by
  rcases h with ⟨rfl, rfl⟩ | ⟨g, ps, rfl, rfl, h3, h4⟩
  · exact (fbytes_nil w).mono fun e w' ⟨h1, h2⟩ => ⟨_, h1, by rw [h2]; exact ⟨World.ownsRow_nil _ _ _ _, Below.refl _ _⟩⟩
  · exact fbytes_any g ps w h3 h4
theorem rsize_o (h : HasR w v o) : Calls Try.prog 125 #[v] w fun e w' => e = .returned (.int .i64 (szO o : Int)) ∧ w' = w := by
  rcases h with ⟨rfl, rfl⟩ | ⟨g, ps, rfl, rfl, h3, h4⟩
  · exact rfsize_nil w
  · exact rfsize_any g ps w h3 h4.top
theorem rroot_o (h : HasR w v o) : Calls Try.prog 126 #[v] w fun e w' => e = .returned (.agg ((rootO o).map B).toArray) ∧ Below w.heap.size w w' := by
  rcases h with ⟨rfl, rfl⟩ | ⟨g, ps, rfl, rfl, h3, h4⟩
  · exact rfroot_nil w
  · exact rfroot_any g ps w h3 h4.len
theorem rparts_o (h : HasR w v o) : Calls Try.prog 127 #[v] w fun e w' => ∃ v', e = .returned v' ∧ w'.ownsRow w.heap.size 25 32 v' (hashO o).length (hcells (hashO o)) ∧ Below w.heap.size w w' := by
  rcases h with ⟨rfl, rfl⟩ | ⟨g, ps, rfl, rfl, h3, h4⟩
  · exact (rfparts_nil w).mono fun e w' ⟨h1, h2⟩ => ⟨_, h1, by rw [h2]; exact ⟨World.ownsRow_nil _ _ _ _, Below.refl _ _⟩⟩
  · exact rfparts_any g ps w h3 h4.len
theorem rbytes_o (h : HasR w v o) : Calls Try.prog 64 #[v] w fun e w' => ∃ v', e = .returned v' ∧ Fresh w w' v' (bytesO o) := by
  rcases h with ⟨rfl, rfl⟩ | ⟨g, ps, rfl, rfl, h3, h4⟩
  · exact (rfbytes_nil w).mono fun e w' ⟨h1, h2⟩ => ⟨_, h1, by rw [h2]; exact ⟨World.ownsRow_nil _ _ _ _, Below.refl _ _⟩⟩
  · exact rfbytes_any g ps w h3 h4
end
theorem Fresh.slE {w w' : World} {v : Value} {l : List UInt8} (h : Fresh w w' v l) : ∃ A c, v = .slice A l.length c ∧ Sl w' (fun b => w.heap.size ≤ b) A l.length c l := by
  obtain ⟨A, c, hv, hs⟩ := owns_slv h.1
  have hs := hs.weak (Y := fun b => w.heap.size ≤ b) fun b _ hb => hb.1
  exact ⟨A, c, hv, hs.bs, rfl, hs.room, hs.nil, hs.max⟩
set_option maxHeartbeats 400000 in
theorem same10_any (l m : List UInt8) (A A' : Option Addr) (n c n' c' : Nat) (w : World) (h : Sl w (fun _ => True) A n c l) (h' : Sl w (fun _ => True) A' n' c' m) : Calls Try.prog 23 #[.slice A n c, .slice A' n' c'] w fun e w' => e = .returned (.bool (l == m)) ∧ w' = w := by
  have Hh := Lib.hid h
  have Hh' := Lib.hid h'
  clear h h'
  go_enter Try.func23, Try.ntmps23
  go_wp2_with (first
    | ((with_reducible show wpList _ _ _ (⟨some 6, .convert _ _ _, _, _, _, _⟩ :: _) _ _); refine wpList_run0 rfl (.string (bstr l)) (run_str_op (.tmp 5) rfl rfl Hh.out) ?_; simp only [Act.put])
    | ((with_reducible show wpList _ _ _ (⟨some 8, .convert _ _ _, _, _, _, _⟩ :: _) _ _); refine wpList_run0 rfl (.string (bstr m)) (run_str_op (.tmp 7) rfl rfl Hh'.out) ?_; simp only [Act.put])
    | ((with_reducible show wpList _ _ _ (⟨some 9, .binOp _ _ _ _ _, _, _, _, _⟩ :: _) _ _); refine wpList_run0 rfl (.bool (l == m)) (run_eqstr_op (.tmp 6) (.tmp 8) _ l m rfl rfl rfl _) ?_; simp only [Act.put]))
  go_ret
  exact ⟨rfl, rfl⟩
set_option maxHeartbeats 1000000 in
set_option maxRecDepth 100000 in
theorem num10_any (n : Int) (w : World) : Calls Try.prog 41 #[.int .i64 n] w fun e w' => e = .returned (.int .i64 n) ∧ w' = w := by
  go_enter Try.func41, Try.ntmps41
  go_wp2_with fail
  go_ret
  exact ⟨rfl, rfl⟩
set_option maxHeartbeats 2000000 in
set_option maxRecDepth 100000 in
theorem sameh10_any (hs : List (List UInt8)) (A A' : Option Addr) (n c c' : Nat) (w : World) (h1 : Hs w (fun _ => True) A n c hs) (h2 : Hs w (fun _ => True) A' n c' hs) :
    Calls Try.prog 22 #[.slice A n c, .slice A' n c'] w fun e w' => e = .returned (.bool true) ∧ Below w.heap.size w w' := by
  have hlen := h1.len
  have hc1 := h1.sl.room
  have hc2 := h2.sl.room
  have hm1 := h1.sl.max
  unfold maxLen at hm1
  have Hlen := Lib.hid hlen
  clear hlen
  go_enter Try.func22, Try.ntmps22
  go_wp2_with fail
  go_loopw [5] (fun v wr => ∃ (q : Nat), q ≤ n ∧ v = .int .i64 q ∧ Below w.heap.size w wr) (fun v _ => n - (intOf v).toNat)
  case atStart => exact ⟨0, by omega, rfl, Below.refl _ _⟩
  case round =>
    obtain ⟨q, hq, rfl, hB⟩ := hrel
    by_cases hlq : q < n
    · have hd : decide ((q : Int) < (n : Int)) = true := by simp; omega
      have hwk : IntKind.i64.wrap ((q : Int) + 1) = (q : Int) + 1 := IntWalk.i64_in _ (by omega)
      have h1r := h1.step hB
      have h2r := h2.step hB
      obtain ⟨b1, o1, rfl, -, -, -⟩ := h1r.at_ (by omega)
      obtain ⟨b2, o2, rfl, -, -, -⟩ := h2r.at_ (by omega)
      have l1 := fun W (hb : Below wr.heap.size wr W) => (h1r.step hb).get rfl q hlq
      have l2 := fun W (hb : Below wr.heap.size wr W) => (h2r.step hb).get rfl q hlq
      have hxl := h1r.all.getD q (by rw [Hlen.out]; exact hlq)
      obtain ⟨x, hx⟩ : ∃ x, hs.getD q [] = x := ⟨_, rfl⟩
      rw [hx] at l1 l2 hxl
      have Hl1 := Lib.hid l1
      have Hl2 := Lib.hid l2
      clear l1 l2 hx h1r h2r
      go_wp2_with fail
      have hS : Below wr.heap.size wr wr.drew := (Below.refl _ _).drew
      refine wp_region_mix (fun W => Below wr.heap.size wr W) [(0, true), (1, true), (2, true), (3, true), (4, true), (5, true), (6, true), (7, true), (8, true)] (by kernel_rfl) (by kernel_rfl) hS fun _ => ?_
      simp only [List.map_cons, List.map_nil, Array.getD_eq_getD_getElem?, List.getElem?_toArray, List.getElem?_cons_succ, List.getElem?_cons_zero, Option.getD_some]
      generalize wr.drew = u4 at hS ⊢
      refine wpMix_s (fun K hK => ?_)
      go_simp
      refine hK _ ?_
      clear hK K
      refine wpMix_s (fun K hK => ?_)
      go_simp
      refine hK _ ?_
      clear hK K
      refine wpMix_s (fun K hK => ?_)
      go_simp
      refine hK _ ?_
      clear hK K
      refine wpMix_load (by kernel_rfl) 25 (.tmp 19) rfl (b1) (o1 + q * 32) rfl (x.map B).toArray ((fun s => Hl1.out s.W s.ok)) ?_
      simp only [Act.put]
      refine wpMix_s (fun K hK => ?_)
      go_simp
      refine hK _ ?_
      clear hK K
      refine wpMix_s (fun K hK => ?_)
      go_simp
      refine hK _ ?_
      clear hK K
      refine wpMix_s (fun K hK => ?_)
      go_simp
      refine hK _ ?_
      clear hK K
      refine wpMix_load (by kernel_rfl) 25 (.tmp 23) rfl (b2) (o2 + q * 32) rfl (x.map B).toArray ((fun s => Hl2.out s.W s.ok)) ?_
      simp only [Act.put]
      refine wpMix_v (by kernel_rfl) (.bool false) ((fun s => run_neq26_f (.tmp 20) (.tmp 24) _ x x rfl rfl rfl hxl hxl rfl s.W)) ?_
      simp only [Act.put]
      refine wpMix_nil ?_
      intro _
      go_wp2_with fail
      go_roundw
      case rel => exact ⟨q + 1, by omega, by go_num, hB.trans (hS.mono hB.size)⟩
      case measure => simp [intOf]; omega
    · obtain rfl : q = n := by omega
      have hd : decide ((q : Int) < (q : Int)) = false := by simp
      go_wp2_with fail
      go_ret
      exact ⟨rfl, hB⟩
end Go.Proofs.Ytonidnfgneokbaa
/- notarylaw10.tells. -/
namespace Go.Proofs.Ytonidnfgneokbaa
open Go Go.RowKit Go.Shelf
attribute [local go_sem] Oper.semAt_some

def x99 : List UInt8 := 99 :: List.replicate 31 0
theorem x99_32 : x99.length = 32 := rfl
theorem owns_set10 {w : World} {base g n c k : Nat} {T : TypeId} {xs : List Value} (h : w.ownsRow base T 1 (.slice (some ⟨g, 0, none⟩) n c) n xs) (hk : k < n) (u : Value) :
    ∃ cs : Array Value, Blk w g T cs ∧ k < cs.size ∧ ∃ xs', (w.setCell ⟨g, k, none⟩ u).ownsRow base T 1 (.slice (some ⟨g, 0, none⟩) n c) n xs' := by
  rcases h.2 with ⟨hv, _⟩ | ⟨g', cap, cur, hv, hg, hb, hnc, hcm, hcs, ht⟩
  · cases hv
  · cases hv
    refine ⟨cur, hb, by omega, (cur.setIfInBounds k u).toList.take (n * 1), by simp [hcs]; omega, .inr ⟨g, _, cur.setIfInBounds k u, rfl, hg, Blk.set_ hb k u, hnc, hcm, by simp [hcs], rfl⟩⟩

set_option maxHeartbeats 8000000 in
set_option maxRecDepth 100000 in
theorem tells_any (f r : Value) (o : Option FrV) (w : World) (hf : HasO w f o) (hr : HasR w r o) : Calls Try.prog 54 #[f, r] w fun e w' => e = .returned (.bool true) ∧ Below w.heap.size w w' := by
  have hrl := hf.root
  have h32 := hf.h32
  have hfw := hf.few
  have hfb := hf.fewB
  have Hsz := Lib.hid fun W (hb : Below w.heap.size w W) => size_o f o W (hf.step hb)
  have Hrt := Lib.hid fun W (hb : Below w.heap.size w W) => root_o f o W (hf.step hb)
  have Hpt := Lib.hid (point_o f o w hf)
  have Hpa := Lib.hid fun W (hb : Below w.heap.size w W) => parts_o f o W (hf.step hb)
  have Hby := Lib.hid fun W (hb : Below w.heap.size w W) => bytes_o f o W (hf.step hb)
  have Gsz := Lib.hid fun W (hb : Below w.heap.size w W) => rsize_o r o W (hr.step hb)
  have Grt := Lib.hid fun W (hb : Below w.heap.size w W) => rroot_o r o W (hr.step hb)
  have Gpa := Lib.hid fun W (hb : Below w.heap.size w W) => rparts_o r o W (hr.step hb)
  have Gby := Lib.hid fun W (hb : Below w.heap.size w W) => rbytes_o r o W (hr.step hb)
  clear hf hr
  obtain ⟨sz, hsz⟩ : ∃ s, szO o = s := ⟨_, rfl⟩
  obtain ⟨root, hroot⟩ : ∃ s, rootO o = s := ⟨_, rfl⟩
  obtain ⟨hs, hhs⟩ : ∃ s, hashO o = s := ⟨_, rfl⟩
  obtain ⟨bs, hbs⟩ : ∃ s, bytesO o = s := ⟨_, rfl⟩
  rw [hsz] at Hsz Hpt Gsz
  rw [hroot] at Hrt Hpt Grt hrl
  rw [hhs] at Hpa Gpa h32 hfw
  rw [hbs] at Hby Gby hfb
  obtain ⟨n, hn⟩ : ∃ n, hs.length = n := ⟨_, rfl⟩
  rw [hn] at Hpa Gpa hfw
  have Hn := Lib.hid hn
  have H32 := Lib.hid h32
  have hbb : (bs == bs) = true := by simp
  have Hbb := Lib.hid hbb
  obtain ⟨m, hm⟩ : ∃ n, bs.length = n := ⟨_, rfl⟩
  rw [hm] at hfb
  have Hm := Lib.hid hm
  clear hsz hroot hhs hbs hn h32 hm hbb
  go_enter Try.func54, Try.ntmps54
  go_wp2_with (first
    | (go_at_call 67; refine Hpt.out.mono ?_; rintro e w1 ⟨rfl, hbel⟩; have hsz1 := hbel.size)
    | ((with_reducible show wpList _ _ _ (⟨some 5, .alloc _, _, _, _, _⟩ :: _) _ _); refine wpList_boxnew (T := 109) (fun W => by kernel_rfl) rfl ?_; intro w2 k5 hb; replace hbel := hbel.trans (hb.mono hbel.size); clear hb; simp only [Act.put])
    | ((with_reducible show wpList _ _ _ [⟨none, .store _ (.tmp 5) _, _, _, _, _⟩] _ _); refine wpList_boxset ptSizeF (.tmp 5) (.tmp 11) rfl rfl k5 rfl rfl hrl ?_; intro w3 k5b hb; replace hbel := hbel.trans (hb.mono hsz1); clear hb k5; simp only [Act.put]))
  have c26 : ∀ s : InC (fun W => Below w3.heap.size w3 W), s.W.cell? ⟨w1.heap.size, 0, none⟩ = some (.int .i64 (sz : Int)) := fun s => (k5b.step s.ok).num
  have hS : Below w3.heap.size w3 w3.drew := (Below.refl _ _).drew
  refine wp_region_mix (fun W => Below w3.heap.size w3 W) [(0, true), (2, true), (1, false), (3, false), (4, true), (5, true), (6, true), (8, true), (7, false), (9, false), (10, true), (11, true), (12, true), (13, true), (14, true), (15, true), (16, false), (17, true), (18, true), (19, true), (20, true), (21, true), (22, true), (23, false), (24, true), (25, true)] (by kernel_rfl) (by kernel_rfl) hS fun _ => ?_
  simp only [List.map_cons, List.map_nil, Array.getD_eq_getD_getElem?, List.getElem?_toArray, List.getElem?_cons_succ, List.getElem?_cons_zero, Option.getD_some]
  generalize w3.drew = u2 at hS ⊢
  refine wpMix_s (fun K hK => ?_)
  go_simp
  refine hK _ ?_
  clear hK K
  refine wpMix_s (fun K hK => ?_)
  go_simp
  refine hK _ ?_
  clear hK K
  refine wpMix_c (fun K hK => ?_) hS
  go_simp
  refine (Hsz.out u2 (hbel.trans (hS.mono hbel.size))).mono ?_
  rintro e u2_1 ⟨rfl, hb'⟩
  refine hK _ _ ?_
  clear hK K
  replace hS := hS.trans (hb'.mono hS.size)
  refine ⟨hS, ?_⟩
  clear hb'
  refine wpMix_c (fun K hK => ?_) hS
  go_simp
  refine (Gsz.out u2_1 (hbel.trans (hS.mono hbel.size))).mono ?_
  rintro e u2e ⟨rfl, hww⟩
  obtain rfl := hww.symm
  refine hK _ _ ?_
  clear hK K
  refine ⟨hS, ?_⟩
  refine wpMix_s (fun K hK => ?_)
  go_simp
  refine hK _ ?_
  clear hK K
  refine wpMix_s (fun K hK => ?_)
  go_simp
  refine hK _ ?_
  clear hK K
  refine wpMix_s (fun K hK => ?_)
  go_simp
  refine hK _ ?_
  clear hK K
  refine wpMix_s (fun K hK => ?_)
  go_simp
  refine hK _ ?_
  clear hK K
  refine wpMix_c (fun K hK => ?_) hS
  go_simp
  refine (Hrt.out u2_1 (hbel.trans (hS.mono hbel.size))).mono ?_
  rintro e u2_2 ⟨rfl, hb'⟩
  refine hK _ _ ?_
  clear hK K
  replace hS := hS.trans (hb'.mono hS.size)
  refine ⟨hS, ?_⟩
  clear hb'
  refine wpMix_c (fun K hK => ?_) hS
  go_simp
  refine (Grt.out u2_2 (hbel.trans (hS.mono hbel.size))).mono ?_
  rintro e u2_3 ⟨rfl, hb'⟩
  refine hK _ _ ?_
  clear hK K
  replace hS := hS.trans (hb'.mono hS.size)
  refine ⟨hS, ?_⟩
  clear hb'
  refine wpMix_v (by kernel_rfl) (.bool false) ((fun s => run_neq26_f (.tmp 19) (.tmp 21) _ root root rfl rfl rfl hrl hrl rfl s.W)) ?_
  simp only [Act.put]
  refine wpMix_s (fun K hK => ?_)
  go_simp
  refine hK _ ?_
  clear hK K
  refine wpMix_s (fun K hK => ?_)
  go_simp
  refine hK _ ?_
  clear hK K
  refine wpMix_s (fun K hK => ?_)
  go_simp
  refine hK _ ?_
  clear hK K
  refine wpMix_s (fun K hK => ?_)
  go_simp
  refine hK _ ?_
  clear hK K
  refine wpMix_s (fun K hK => ?_)
  go_simp
  refine hK _ ?_
  clear hK K
  refine wpMix_c (fun K hK => ?_) hS
  go_simp
  refine (Gsz.out u2_3 (hbel.trans (hS.mono hbel.size))).mono ?_
  rintro e u2e ⟨rfl, hww⟩
  obtain rfl := hww.symm
  refine hK _ _ ?_
  clear hK K
  refine ⟨hS, ?_⟩
  refine wpMix_s (fun K hK => ?_)
  go_simp
  refine hK _ ?_
  clear hK K
  refine wpMix_s (fun K hK => ?_)
  go_simp
  refine hK _ ?_
  clear hK K
  refine wpMix_s (fun K hK => ?_)
  go_simp
  refine hK _ ?_
  clear hK K
  refine wpMix_s (fun K hK => ?_)
  go_simp
  refine hK _ ?_
  clear hK K
  refine wpMix_load (by kernel_rfl) 25 (.tmp 32) rfl (w1.heap.size) (1) rfl (root.map B).toArray ((fun s => (k5b.step s.ok).hash)) ?_
  simp only [Act.put]
  refine wpMix_s (fun K hK => ?_)
  go_simp
  refine hK _ ?_
  clear hK K
  refine wpMix_c (fun K hK => ?_) hS
  go_simp
  refine (Grt.out u2_3 (hbel.trans (hS.mono hbel.size))).mono ?_
  rintro e u2_4 ⟨rfl, hb'⟩
  refine hK _ _ ?_
  clear hK K
  replace hS := hS.trans (hb'.mono hS.size)
  refine ⟨hS, ?_⟩
  clear hb'
  refine wpMix_v (by kernel_rfl) (.bool false) ((fun s => run_neq26_f (.tmp 33) (.tmp 35) _ root root rfl rfl rfl hrl hrl rfl s.W)) ?_
  simp only [Act.put]
  refine wpMix_s (fun K hK => ?_)
  go_simp
  refine hK _ ?_
  clear hK K
  refine wpMix_nil ?_
  intro _
  have hbel2 := hbel.trans (hS.mono hbel.size)
  clear c26 hS hbel
  go_wp2_with (first
    | (go_at_call 68; refine (Hpa.out _ hbel2).mono ?_; rintro e w4 ⟨v6, rfl, ho6, hb⟩; have hbel20 := hbel2.size; have hs4 := hb.size; replace hbel2 := hbel2.trans (hb.mono hbel2.size); clear hb)
    | (go_at_call 48; refine (Hby.out w4 hbel2).mono ?_; rintro e w5 ⟨v7, rfl, ho7, hb⟩; have hlt6 := fun r e => (ho6.lt r e).2; have hge6 := hbel20; replace ho6 := owns_step ho6 hb; replace hbel2 := hbel2.trans (hb.mono hbel2.size); rw [Hm.out] at ho7; obtain ⟨A6, c6, rfl, hs6⟩ := owns_slv ho6; obtain ⟨A7, c7, rfl, hs7⟩ := owns_slv ho7; clear hb)
    | (go_at_call 127; refine (Gpa.out w5 hbel2).mono ?_; rintro e w6 ⟨v44, rfl, ho44, hb⟩; replace ho6 := owns_step ho6 hb; replace ho7 := owns_step ho7 hb; replace hbel2 := hbel2.trans (hb.mono hbel2.size); obtain ⟨A44, c44, rfl, hs44⟩ := owns_hs ho44 Hn.out H32.out; obtain ⟨A6', c6', e6, hs6'⟩ := owns_hs ho6 Hn.out H32.out; injection e6 with e61 _ e62; subst e61 e62; have Hsame := Lib.hid (sameh10_any hs _ _ n _ _ w6 (hs6'.weak fun _ _ _ => trivial) (hs44.weak fun _ _ _ => trivial)); clear hb hs44 hs6' ho44 hs6 hs7)
    | (go_at_call 22; refine Hsame.out.mono ?_; rintro e w7 ⟨rfl, hb⟩; replace ho6 := owns_step ho6 hb; replace ho7 := owns_step ho7 hb; replace hbel2 := hbel2.trans (hb.mono hbel2.size); clear hb Hsame)
    | (go_at_call 64; refine (Gby.out w7 hbel2).mono ?_; rintro e w8 ⟨v50, rfl, hF⟩; obtain ⟨A50, c50, rfl, hs50⟩ := hF.slE; replace ho6 := owns_step ho6 hF.2; replace ho7 := owns_step ho7 hF.2; replace hbel2 := hbel2.trans (hF.2.mono hbel2.size); obtain ⟨A7', c7', e7, hs7'⟩ := owns_slv ho7; injection e7 with e71 _ e72; subst e71 e72; have Hsame := Lib.hid (same10_any bs bs _ _ m _ _ _ w8 ⟨(hs7'.weak fun _ _ _ => trivial).bs, Hm.out, hs7'.room, hs7'.nil, hs7'.max⟩ (hs50.weak fun _ _ _ => trivial)); rw [Hbb.out] at Hsame; clear hF hs50 hs7')
    | (go_at_call 23; refine Hsame.out.mono ?_; rintro e w9 ⟨rfl, hww⟩; obtain rfl := hww.symm; clear Hsame))
  obtain ⟨b6, hb6e⟩ : ∃ x, u2_4.heap.size = x := ⟨_, rfl⟩
  obtain ⟨b7, hb7e⟩ : ∃ x, w4.heap.size = x := ⟨_, rfl⟩
  rw [hb6e] at ho6 hge6
  rw [hb7e] at ho7 hlt6
  have hge7 : w.heap.size ≤ b7 := by omega
  have hx99 : x99.length = 32 := x99_32
  clear hb6e hb7e hbel20 hs4
  obtain ⟨xs, hxs⟩ : ∃ x, hcells hs = x := ⟨_, rfl⟩
  obtain ⟨ys, hys⟩ : ∃ x, bs.map B = x := ⟨_, rfl⟩
  rw [hxs] at ho6
  rw [hys] at ho7
  clear hxs hys
  go_loopw [8] (fun v8 wr => ∃ (k : Nat) (xs ys : List Value), k ≤ n ∧ v8 = .int .i64 (k : Int) ∧ wr.ownsRow b6 25 32 (.slice A6 n c6) n xs ∧ wr.ownsRow b7 5 1 (.slice A7 m c7) m ys ∧ Below w.heap.size w wr) (fun v8 _ => n - (intOf v8).toNat)
  case atStart => exact ⟨0, xs, ys, Nat.zero_le _, rfl, ho6, ho7, hbel2⟩
  case round =>
    clear ho6 ho7 hbel2 xs ys
    obtain ⟨k, xs, ys, hk, rfl, ho6, ho7, hB⟩ := hrel
    by_cases hkn : k < n
    · have hd : decide ((k : Int) < (n : Int)) = true := by simp; omega
      have hwk : IntKind.i64.wrap ((k : Int) + 1) = (k : Int) + 1 := IntWalk.i64_in _ (by omega)
      obtain ⟨g6, c6', e6, hg6⟩ := owns_someB ho6 (by omega)
      injection e6 with e61 _ e62
      subst e61 e62
      obtain ⟨cur, hk1, hs1, -, ho6n⟩ := owns_put ho6 k hkn (x99.map B) (by rw [List.length_map]; exact hx99)
      have hgr : wr.grownBy (wr.setRow g6 (cur.toList.take (k * 32) ++ (x99.map B).toArray.toList ++ cur.toList.drop (k * 32 + 32)).toArray) (some g6) := grown_setRow (grown_of_below (Below.refl _ _) _) _
      have hg67 : g6 < b7 := hlt6 g6 rfl
      have ho7n := owns_keptF ho7 hgr hg67
      have hBn := hB.grown hgr hB.size (fun r e => by have e := Option.some.inj e; omega)
      obtain ⟨W2, hW2⟩ : ∃ x, wr.setRow g6 (cur.toList.take (k * 32) ++ (x99.map B).toArray.toList ++ cur.toList.drop (k * 32 + 32)).toArray = x := ⟨_, rfl⟩
      obtain ⟨xs', ho6n⟩ : ∃ xs', W2.ownsRow b6 25 32 (.slice (some ⟨g6, 0, none⟩) n c6) n xs' := ⟨_, by rw [← hW2]; exact ho6n⟩
      rw [hW2] at ho7n hBn
      have HW2 := Lib.hid hW2
      clear hW2 hgr
      go_wp2_with (first
        | ((with_reducible show wpList _ _ _ (⟨some 62, .build _ _, _, _, _, _⟩ :: _) _ _); refine wpList_run0 rfl (.agg (x99.map B).toArray) (by kernel_rfl) ?_; simp only [Act.put])
        | ((with_reducible show wpList _ _ _ [⟨none, .store _ (.tmp 63) _, _, _, _, _⟩] _ _); refine wpList_store_agg rfl 25 (.tmp 63) (.tmp 62) rfl 32 size26 g6 (k * 32) (x99.map B).toArray rfl rfl (by simp [hx99]) (oneCell_B _) 25 cur hk1 hs1 ?_; rw [HW2.out]; simp only [Act.put]))
      go_roundw
      case rel => exact ⟨k + 1, _, ys, by omega, by go_num, ho6n, ho7n, hBn⟩
      case measure => simp [intOf]; omega
    · obtain rfl : k = n := by omega
      have hd : decide ((k : Int) < (k : Int)) = false := by simp
      go_wp2_with fail
      go_loopw [9] (fun v9 wr => ∃ (q : Nat) (ys : List Value), q ≤ m ∧ v9 = .int .i64 (q : Int) ∧ wr.ownsRow b7 5 1 (.slice A7 m c7) m ys ∧ Below w.heap.size w wr) (fun v9 _ => m - (intOf v9).toNat)
      case atStart => exact ⟨0, ys, Nat.zero_le _, rfl, ho7, hB⟩
      case round =>
        clear ho6 ho7 hB xs ys hd
        obtain ⟨q, ys, hq, rfl, ho7, hB⟩ := hrel
        by_cases hqm : q < m
        · have hd : decide ((q : Int) < (m : Int)) = true := by simp; omega
          have hwq : IntKind.i64.wrap ((q : Int) + 1) = (q : Int) + 1 := IntWalk.i64_in _ (by omega)
          obtain ⟨g7, c7', e7, hg7⟩ := owns_someB ho7 (by omega)
          injection e7 with e71 _ e72
          subst e71 e72
          obtain ⟨cs, hk1, hs1, ys', ho7n⟩ := owns_set10 ho7 hqm (.int .u8 99)
          obtain ⟨c0, hc0⟩ : ∃ u, wr.cell? ⟨g7, q, none⟩ = some u := by
            rw [hk1.cell]
            exact ⟨_, Array.getElem?_eq_getElem hs1⟩
          have f0 := hk1.frozen q
          have hBn : Below w.heap.size w (wr.setCell ⟨g7, q, none⟩ (.int .u8 99)) := hB.setCell (p := ⟨g7, q, none⟩) (by show w.heap.size ≤ g7; omega) _
          have Ho := Lib.hid ho7n
          have HB := Lib.hid hBn
          clear ho7n hBn
          go_wp2_with fail
          go_roundw
          case rel => exact ⟨q + 1, ys', by omega, by go_num, Ho.out, HB.out⟩
          case measure => simp [intOf]; omega
        · obtain rfl : q = m := by omega
          have hd : decide ((q : Int) < (q : Int)) = false := by simp
          clear ho7
          go_wp2_with (first
            | (go_at_call 68; refine (Hpa.out _ hB).mono ?_; rintro e w4 ⟨v6, rfl, ho6, hb⟩; replace hB := hB.trans (hb.mono hB.size); obtain ⟨A66, c66, rfl, hs66⟩ := owns_hs ho6 Hn.out H32.out; clear hb)
            | (go_at_call 127; refine (Gpa.out w4 hB).mono ?_; rintro e w6 ⟨v44, rfl, ho44, hb⟩; replace hB := hB.trans (hb.mono hB.size); obtain ⟨A44, c44, rfl, hs44⟩ := owns_hs ho44 Hn.out H32.out; have Hsame := Lib.hid (sameh10_any hs _ _ k _ _ w6 ((hs66.weak fun _ _ _ => trivial).step hb) (hs44.weak fun _ _ _ => trivial)); clear hb hs44 ho44)
            | (go_at_call 22; refine Hsame.out.mono ?_; rintro e w7 ⟨rfl, hb⟩; replace hB := hB.trans (hb.mono hB.size); clear hb Hsame)
            | (go_at_call 48; refine (Hby.out w7 hB).mono ?_; rintro e w8 ⟨v80, rfl, hF⟩; obtain ⟨A80, c80, rfl, hs80⟩ := hF.slE; rw [Hm.out] at hs80 ⊢; replace hB := hB.trans (hF.2.mono hB.size); clear hF)
            | (go_at_call 64; refine (Gby.out w8 hB).mono ?_; rintro e w9 ⟨v82, rfl, hF⟩; obtain ⟨A82, c82, rfl, hs82⟩ := hF.slE; rw [Hm.out] at hs82 ⊢; have Hsame := Lib.hid (same10_any bs bs _ _ q _ q _ w9 ((hs80.weak fun _ _ _ => trivial).step hF.2) (hs82.weak fun _ _ _ => trivial)); rw [Hbb.out] at Hsame; replace hB := hB.trans (hF.2.mono hB.size); clear hF hs80 hs82)
            | (go_at_call 23; refine Hsame.out.mono ?_; rintro e w10 ⟨rfl, hww⟩; obtain rfl := hww.symm; clear Hsame))
          go_ret
          exact ⟨rfl, hB⟩
end Go.Proofs.Ytonidnfgneokbaa
/- What stays where some blocks may turn: every block but those of M. -/
namespace Go.Proofs.Ytonidnfgneokbaa
open Go Go.RowKit Go.Shelf

/-- every block stays but those of M -/
structure KB (M : Nat → Prop) (W W' : World) : Prop where
  os : W'.os = W.os
  tape : W'.tape = W.tape
  output : W'.output = W.output
  size : W.heap.size ≤ W'.heap.size
  block : ∀ k, k < W.heap.size → ¬ M k → W'.heap[k]? = W.heap[k]?
/-- what may turn is small: less than a hash -/
def SmallM (M : Nat → Prop) (W : World) : Prop := ∀ b, M b → ∃ (T : TypeId) (cs : Array Value), Blk W b T cs ∧ cs.size < 32
section
variable {M M' : Nat → Prop} {W W' W2 w : World} {T : TypeId} {cs : Array Value} {g : Nat}
theorem KB.refl (M : Nat → Prop) (W : World) : KB M W W := ⟨rfl, rfl, rfl, Nat.le_refl _, fun _ _ _ => rfl⟩
theorem KB.trans (h : KB M W W') (k : KB M W' W2) : KB M W W2 :=
  ⟨k.os.trans h.os, k.tape.trans h.tape, k.output.trans h.output, Nat.le_trans h.size k.size, fun i hi hm => (k.block i (Nat.lt_of_lt_of_le hi h.size) hm).trans (h.block i hi hm)⟩
theorem KB.mono (h : KB M W W') (hM : ∀ b, M b → M' b) : KB M' W W' := ⟨h.os, h.tape, h.output, h.size, fun k hk hm => h.block k hk fun hx => hm (hM k hx)⟩
theorem KB.of_below (h : Below W.heap.size W W') : KB M W W' := ⟨h.os, h.tape, h.output, h.size, fun k hk _ => h.block k hk⟩
theorem KB.of_grown {row : Option Nat} (h : W.grownBy W' row) (hM : ∀ r, row = some r → M r) : KB M W W' :=
  ⟨h.os, h.tape, h.output, h.size, fun k hk hm => h.block k hk fun e => hm (hM k e.symm)⟩
theorem KB.below {N : Nat} (h : KB M W W') (hM : ∀ b, M b → N ≤ b) (hN : N ≤ W.heap.size) : Below N W W' :=
  ⟨h.os, h.tape, h.output, h.size, fun k hk => h.block k (by omega) fun hm => by have := hM k hm; omega⟩
theorem KB.blk (h : KB M W W') (hb : Blk W g T cs) (hm : ¬ M g) : Blk W' g T cs := (h.block g hb.lt hm).trans hb
theorem KB.keepC (h : KB M W W') : KeepC M W W' := ⟨h.os, h.tape, h.output, h.size, fun k _ hk _ hm => (h.block k (Array.getElem?_eq_some_iff.1 hk).1 hm).trans hk⟩
theorem KB.slv {X : Nat → Prop} {A : Option Addr} {n c s : Nat} {l : List Value} (h : KB M W W') (hs : SlV W X A n c s l) (hm : ∀ b, b < W.heap.size → X b → ¬ M b) : SlV W' X A n c s l := h.keepC.slv hs hm
theorem KB.slb {X : Nat → Prop} {A : Option Addr} {n c : Nat} {l : List UInt8} (h : KB M W W') (hs : Sl W X A n c l) (hm : ∀ b, b < W.heap.size → X b → ¬ M b) : Sl W' X A n c l :=
  ⟨fun hl => by
    obtain ⟨b, o, h1, h2, h3, h4⟩ := hs.bs hl
    exact ⟨b, o, h1, Nat.lt_of_lt_of_le h2 h.size, h3, fun j v hv => h.keepC.cell (h4 j v hv) (hm b h2 h3)⟩, hs.len, hs.room, hs.none, hs.max⟩
theorem KB.keepU {B n₁ : Nat} {U : Nat → Prop} (h : KB M W W') (hM : ∀ b, M b → (n₁ ≤ b ∨ U b) ∧ ∃ (T : TypeId) (cs : Array Value), Blk W b T cs) : KeepU B n₁ U W W' :=
  ⟨⟨h.size, fun k o _ hk ho => (h.block k (Array.getElem?_eq_some_iff.1 hk).1 (fun hm => by
      obtain ⟨_, T, cs, hb⟩ := hM k hm
      rw [show W.heap[k]? = _ from hb] at hk; cases hk; cases ho)).trans hk⟩, h.os, h.tape, h.output,
    fun k o hk hu ho _ => (h.block k (Array.getElem?_eq_some_iff.1 ho).1 (fun hm => by
      rcases (hM k hm).1 with h1 | h1
      · omega
      · exact hu h1)).trans ho⟩
theorem SmallM.pcs (hM : SmallM M W) {X : Nat → Prop} {A : Option Addr} {n c : Nat} {ps : List PcV} (h : Pcs W X A n c ps) (hn : 0 < n) : ∀ b o, A = some ⟨b, o, none⟩ → ¬ M b := fun b o hA hm => by
  obtain ⟨T, cs, hb, hc⟩ := hM b hm
  obtain ⟨b', o', hA', -, hx⟩ := (h.apart hb (by omega)).at_ hn
  rw [hA] at hA'; cases hA'
  exact hx.2 rfl
theorem KB.pcs {X : Nat → Prop} {A : Option Addr} {n c : Nat} {ps : List PcV} (h : KB M W W') (hM : SmallM M W) (hs : Pcs W X A n c ps) : Pcs W' X A n c ps := by
  refine ⟨?_, hs.len, hs.all⟩
  have hsl := hs.sl
  by_cases hn : 0 < n
  · obtain ⟨b, o, hA, -, -⟩ := hs.at_ hn
    have hm := hM.pcs hs hn b o hA
    refine ⟨fun hl => ?_, hsl.len, hsl.room, hsl.nil, hsl.max⟩
    obtain ⟨b', o', h1, h2, h3, h4⟩ := hsl.bs hl
    rw [hA] at h1; cases h1
    exact ⟨b, o, hA, Nat.lt_of_lt_of_le h2 h.size, h3, fun j v hv => h.keepC.cell (h4 j v hv) hm⟩
  · refine ⟨fun hl => ?_, hsl.len, hsl.room, hsl.nil, hsl.max⟩
    exact absurd (List.length_eq_zero_iff.1 (by rw [hsl.len, show n = 0 by omega, Nat.zero_mul])) hl
theorem KB.fro {ps : FrV} (h : KB M W W') (hM : SmallM M W) (hf : FrO W g ps) (hg : ¬ M g) : FrO W' g ps := let ⟨A, n, c, h1, h2⟩ := hf.ex; ⟨A, n, c, h.blk h1 hg, h.pcs hM h2⟩
theorem KB.frp {ps : FrV} (h : KB M W W') (hM : SmallM M W) (hf : FrP W g ps) (hg : ¬ M g) : FrP W' g ps := let ⟨A, n, c, h1, h2⟩ := hf.ex; ⟨A, n, c, h.blk h1 hg, h.pcs hM h2⟩
end
/-- the block that a pointer names -/
def AtB (v : Value) (b : Nat) : Prop := v = fptr b
theorem HasO.small {W : World} {v : Value} {o : Option FrV} (h : HasO W v o) : SmallM (AtB v) W := fun b hb => by
  rcases h with ⟨_, rfl⟩ | ⟨g, ps, _, rfl, h3, _⟩
  · cases hb
  · cases hb
    obtain ⟨T, cs, h1, h2⟩ := h3.small
    exact ⟨T, cs, h1, by omega⟩
theorem HasR.small {W : World} {v : Value} {o : Option FrV} (h : HasR W v o) : SmallM (AtB v) W := fun b hb => by
  rcases h with ⟨_, rfl⟩ | ⟨g, ps, _, rfl, h3, _⟩
  · cases hb
  · cases hb
    obtain ⟨A, n, c, h1, h2⟩ := h3.ex
    exact ⟨_, _, h1, by simp⟩
theorem HasO.kb {M : Nat → Prop} {W W' : World} {v : Value} {o : Option FrV} (h : HasO W v o) (hk : KB M W W') (hM : SmallM M W) (hv : ∀ b, AtB v b → ¬ M b) : HasO W' v o := by
  rcases h with h | ⟨g, ps, h1, rfl, h3, h4⟩
  · exact .inl h
  · exact .inr ⟨g, ps, h1, rfl, hk.fro hM h3 (hv g rfl), h4⟩
theorem HasR.kb {M : Nat → Prop} {W W' : World} {v : Value} {o : Option FrV} (h : HasR W v o) (hk : KB M W W') (hM : SmallM M W) (hv : ∀ b, AtB v b → ¬ M b) : HasR W' v o := by
  rcases h with h | ⟨g, ps, h1, rfl, h3, h4⟩
  · exact .inl h
  · exact .inr ⟨g, ps, h1, rfl, hk.frp hM h3 (hv g rfl), h4⟩
theorem HasO.lt {W : World} {v : Value} {o : Option FrV} (h : HasO W v o) {b : Nat} (hb : AtB v b) : b < W.heap.size := by
  obtain ⟨T, cs, h1, -⟩ := h.small b hb
  exact h1.lt
theorem HasR.lt {W : World} {v : Value} {o : Option FrV} (h : HasR W v o) {b : Nat} (hb : AtB v b) : b < W.heap.size := by
  obtain ⟨T, cs, h1, -⟩ := h.small b hb
  exact h1.lt
end Go.Proofs.Ytonidnfgneokbaa
