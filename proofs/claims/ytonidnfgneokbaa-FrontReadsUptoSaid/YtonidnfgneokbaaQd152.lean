/- Chapter 10: fronts that may not be there; what two answers are held against each other with. -/
import Derived.Test.YtonidnfgneokbaaQd150
import Derived.Test.YtonidnfgneokbaaQd151
namespace Go.Proofs.Ytonidnfgneokbaa
open Go Go.RowKit Go.Shelf
attribute [local go_sem] Oper.semAt_some

def zero32 : List UInt8 := List.replicate 32 0
def szO : Option FrV → Nat | none => 0 | some ps => szF ps
def rootO : Option FrV → List UInt8 | none => zero32 | some ps => rootG ps
def hashO : Option FrV → List (List UInt8) | none => [] | some ps => hashF ps
def bytesO : Option FrV → List UInt8 | none => [] | some ps => bytesF ps
/-- the program's front, or none -/
def HasO (W : World) (v : Value) (o : Option FrV) : Prop := (o = none ∧ v = .pointer none) ∨ ∃ g ps, o = some ps ∧ v = fptr g ∧ FrO W g ps ∧ FrOk ps
/-- the document's -/
def HasR (W : World) (v : Value) (o : Option FrV) : Prop := (o = none ∧ v = .pointer none) ∨ ∃ g ps, o = some ps ∧ v = fptr g ∧ FrP W g ps ∧ FrOk ps
theorem HasO.step {W W' : World} {v : Value} {o : Option FrV} (h : HasO W v o) (hb : Below W.heap.size W W') : HasO W' v o := by
  rcases h with h | ⟨g, ps, h1, h2, h3, h4⟩
  · exact .inl h
  · exact .inr ⟨g, ps, h1, h2, h3.step hb, h4⟩
theorem HasR.step {W W' : World} {v : Value} {o : Option FrV} (h : HasR W v o) (hb : Below W.heap.size W W') : HasR W' v o := by
  rcases h with h | ⟨g, ps, h1, h2, h3, h4⟩
  · exact .inl h
  · exact .inr ⟨g, ps, h1, h2, h3.step hb, h4⟩
theorem HasO.one {W : World} {v : Value} {o : Option FrV} (h : HasO W v o) : v.oneCell' = true := by
  rcases h with ⟨_, rfl⟩ | ⟨g, ps, _, rfl, _⟩ <;> rfl
theorem HasR.one {W : World} {v : Value} {o : Option FrV} (h : HasR W v o) : v.oneCell' = true := by
  rcases h with ⟨_, rfl⟩ | ⟨g, ps, _, rfl, _⟩ <;> rfl
theorem HasO.root {W : World} {v : Value} {o : Option FrV} (h : HasO W v o) : (rootO o).length = 32 := by
  rcases h with ⟨rfl, _⟩ | ⟨g, ps, rfl, _, _, h4⟩
  · rfl
  · exact length_rootG ps h4.h32
theorem HasO.h32 {W : World} {v : Value} {o : Option FrV} (h : HasO W v o) : H32 (hashO o) := by
  rcases h with ⟨rfl, _⟩ | ⟨g, ps, rfl, _, _, h4⟩
  · exact fun _ h => (by cases h)
  · exact hashF_32 ps h4.h32
theorem HasO.few {W : World} {v : Value} {o : Option FrV} (h : HasO W v o) : (hashO o).length ≤ 63 := by
  rcases h with ⟨rfl, _⟩ | ⟨g, ps, rfl, _, _, h4⟩
  · exact Nat.zero_le _
  · simp only [hashO, hashF, List.length_map]; exact h4.len
theorem HasO.fewB {W : World} {v : Value} {o : Option FrV} (h : HasO W v o) : (bytesO o).length ≤ 2024 := by
  rcases h with ⟨rfl, _⟩ | ⟨g, ps, rfl, _, _, h4⟩
  · exact Nat.zero_le _
  · have := length_bytesF ps h4.h32
    have := h4.len
    show (bytesF ps).length ≤ 2024
    omega
section
variable (v : Value) (o : Option FrV) (w : World)
theorem size_o (h : HasO w v o) : Calls Try.prog 43 #[v] w fun e w' => e = .returned (.int .i64 (szO o : Int)) ∧ Below w.heap.size w w' := by
  rcases h with ⟨rfl, rfl⟩ | ⟨g, ps, rfl, rfl, h3, h4⟩
  · exact fsize_any (.pointer none) [] w rfl (allOk_nil w) List.Pairwise.nil (by decide)
  · exact fsize_some h3 h4
theorem root_o (h : HasO w v o) : Calls Try.prog 45 #[v] w fun e w' => e = .returned (.agg ((rootO o).map B).toArray) ∧ Below w.heap.size w w' := by
  rcases h with ⟨rfl, rfl⟩ | ⟨g, ps, rfl, rfl, h3, h4⟩
  · exact froot_nil w
  · exact froot_any g ps w h3 h4
theorem point_o (h : HasO w v o) : Calls Try.prog 67 #[v] w fun e w' => e = .returned (.agg (.int .i64 (szO o : Int) :: (rootO o).map B).toArray) ∧ Below w.heap.size w w' :=
  fpoint_any v (szO o) (rootO o) w h.root (fun W hb => size_o v o W (h.step hb)) (fun W hb => root_o v o W (h.step hb))
theorem parts_o (h : HasO w v o) : Calls Try.prog 68 #[v] w fun e w' => ∃ v', e = .returned v' ∧ w'.ownsRow w.heap.size 25 32 v' (hashO o).length (hcells (hashO o)) ∧ Below w.heap.size w w' := by
  rcases h with ⟨rfl, rfl⟩ | ⟨g, ps, rfl, rfl, h3, h4⟩
  · exact fparts_any (.pointer none) [] w rfl (allOk_nil w) (fun _ h => by cases h) (by simp)
  · exact fparts_any (fptr g) ps w rfl (allOk_some h3 h4.h62 (by have := h4.len; omega)) h4.h32 (by have := h4.len; omega)
theorem bytes_o (h : HasO w v o) : Calls Try.prog 48 #[v] w fun e w' => ∃ v', e = .returned v' ∧ Fresh w w' v' (bytesO o) := by
  rcases h with ⟨rfl, rfl⟩ | ⟨g, ps, rfl, rfl, h3, h4⟩
  · exact (fbytes_nil w).mono fun e w' ⟨h1, h2⟩ => ⟨_, h1, by rw [h2]; exact ⟨World.ownsRow_nil _ _ _ _, Below.refl _ _⟩⟩
  · exact fbytes_any g ps w h3 h4
theorem rsize_o (h : HasR w v o) : Calls Try.prog 125 #[v] w fun e w' => e = .returned (.int .i64 (szO o : Int)) ∧ w' = w := by
  rcases h with ⟨rfl, rfl⟩ | ⟨g, ps, rfl, rfl, h3, h4⟩
  · exact rfsize_nil w
  · exact rfsize_any g ps w h3 h4.top
theorem rroot_o (h : HasR w v o) : Calls Try.prog 126 #[v] w fun e w' => e = .returned (.agg ((rootO o).map B).toArray) ∧ Below w.heap.size w w' := by
  rcases h with ⟨rfl, rfl⟩ | ⟨g, ps, rfl, rfl, h3, h4⟩
  · exact rfroot_nil w
  · exact rfroot_any g ps w h3 h4.len
theorem rparts_o (h : HasR w v o) : Calls Try.prog 127 #[v] w fun e w' => ∃ v', e = .returned v' ∧ w'.ownsRow w.heap.size 25 32 v' (hashO o).length (hcells (hashO o)) ∧ Below w.heap.size w w' := by
  rcases h with ⟨rfl, rfl⟩ | ⟨g, ps, rfl, rfl, h3, h4⟩
  · exact (rfparts_nil w).mono fun e w' ⟨h1, h2⟩ => ⟨_, h1, by rw [h2]; exact ⟨World.ownsRow_nil _ _ _ _, Below.refl _ _⟩⟩
  · exact rfparts_any g ps w h3 h4.len
theorem rbytes_o (h : HasR w v o) : Calls Try.prog 64 #[v] w fun e w' => ∃ v', e = .returned v' ∧ Fresh w w' v' (bytesO o) := by
  rcases h with ⟨rfl, rfl⟩ | ⟨g, ps, rfl, rfl, h3, h4⟩
  · exact (rfbytes_nil w).mono fun e w' ⟨h1, h2⟩ => ⟨_, h1, by rw [h2]; exact ⟨World.ownsRow_nil _ _ _ _, Below.refl _ _⟩⟩
  · exact rfbytes_any g ps w h3 h4
end
theorem Fresh.slE {w w' : World} {v : Value} {l : List UInt8} (h : Fresh w w' v l) : ∃ A c, v = .slice A l.length c ∧ Sl w' (fun b => w.heap.size ≤ b) A l.length c l := by
  obtain ⟨A, c, hv, hs⟩ := owns_slv h.1
  have hs := hs.weak (Y := fun b => w.heap.size ≤ b) fun b _ hb => hb.1
  exact ⟨A, c, hv, hs.bs, rfl, hs.room, hs.nil, hs.max⟩
set_option maxHeartbeats 400000 in
theorem same10_any (l m : List UInt8) (A A' : Option Addr) (n c n' c' : Nat) (w : World) (h : Sl w (fun _ => True) A n c l) (h' : Sl w (fun _ => True) A' n' c' m) : Calls Try.prog 23 #[.slice A n c, .slice A' n' c'] w fun e w' => e = .returned (.bool (l == m)) ∧ w' = w := by
  have Hh := Lib.hid h
  have Hh' := Lib.hid h'
  clear h h'
  go_enter Try.func23, Try.ntmps23
  go_wp2_with (first
    | ((with_reducible show wpList _ _ _ (⟨some 6, .convert _ _ _, _, _, _, _⟩ :: _) _ _); refine wpList_run0 rfl (.string (bstr l)) (run_str_op (.tmp 5) rfl rfl Hh.out) ?_; simp only [Act.put])
    | ((with_reducible show wpList _ _ _ (⟨some 8, .convert _ _ _, _, _, _, _⟩ :: _) _ _); refine wpList_run0 rfl (.string (bstr m)) (run_str_op (.tmp 7) rfl rfl Hh'.out) ?_; simp only [Act.put])
    | ((with_reducible show wpList _ _ _ (⟨some 9, .binOp _ _ _ _ _, _, _, _, _⟩ :: _) _ _); refine wpList_run0 rfl (.bool (l == m)) (run_eqstr_op (.tmp 6) (.tmp 8) _ l m rfl rfl rfl _) ?_; simp only [Act.put]))
  go_ret
  exact ⟨rfl, rfl⟩
set_option maxHeartbeats 1000000 in
set_option maxRecDepth 100000 in
theorem num10_any (n : Int) (w : World) : Calls Try.prog 41 #[.int .i64 n] w fun e w' => e = .returned (.int .i64 n) ∧ w' = w := by
  go_enter Try.func41, Try.ntmps41
  go_wp2_with fail
  go_ret
  exact ⟨rfl, rfl⟩
set_option maxHeartbeats 2000000 in
set_option maxRecDepth 100000 in
theorem sameh10_any (hs : List (List UInt8)) (A A' : Option Addr) (n c c' : Nat) (w : World) (h1 : Hs w (fun _ => True) A n c hs) (h2 : Hs w (fun _ => True) A' n c' hs) :
    Calls Try.prog 22 #[.slice A n c, .slice A' n c'] w fun e w' => e = .returned (.bool true) ∧ Below w.heap.size w w' := by
  have hlen := h1.len
  have hc1 := h1.sl.room
  have hc2 := h2.sl.room
  have hm1 := h1.sl.max
  unfold maxLen at hm1
  have Hlen := Lib.hid hlen
  clear hlen
  go_enter Try.func22, Try.ntmps22
  go_wp2_with fail
  go_loopw [5] (fun v wr => ∃ (q : Nat), q ≤ n ∧ v = .int .i64 q ∧ Below w.heap.size w wr) (fun v _ => n - (intOf v).toNat)
  case atStart => exact ⟨0, by omega, rfl, Below.refl _ _⟩
  case round =>
    obtain ⟨q, hq, rfl, hB⟩ := hrel
    by_cases hlq : q < n
    · have hd : decide ((q : Int) < (n : Int)) = true := by simp; omega
      have hwk : IntKind.i64.wrap ((q : Int) + 1) = (q : Int) + 1 := IntWalk.i64_in _ (by omega)
      have h1r := h1.step hB
      have h2r := h2.step hB
      obtain ⟨b1, o1, rfl, -, -, -⟩ := h1r.at_ (by omega)
      obtain ⟨b2, o2, rfl, -, -, -⟩ := h2r.at_ (by omega)
      have l1 := fun W (hb : Below wr.heap.size wr W) => (h1r.step hb).get rfl q hlq
      have l2 := fun W (hb : Below wr.heap.size wr W) => (h2r.step hb).get rfl q hlq
      have hxl := h1r.all.getD q (by rw [Hlen.out]; exact hlq)
      obtain ⟨x, hx⟩ : ∃ x, hs.getD q [] = x := ⟨_, rfl⟩
      rw [hx] at l1 l2 hxl
      have Hl1 := Lib.hid l1
      have Hl2 := Lib.hid l2
      clear l1 l2 hx h1r h2r
      go_wp2_with fail
      have hS : Below wr.heap.size wr wr.drew := (Below.refl _ _).drew
      refine wp_region_mix (fun W => Below wr.heap.size wr W) [(0, true), (1, true), (2, true), (3, true), (4, true), (5, true), (6, true), (7, true), (8, true)] (by kernel_rfl) (by kernel_rfl) hS fun _ => ?_
      simp only [List.map_cons, List.map_nil, Array.getD_eq_getD_getElem?, List.getElem?_toArray, List.getElem?_cons_succ, List.getElem?_cons_zero, Option.getD_some]
      generalize wr.drew = u4 at hS ⊢
      refine wpMix_s (fun K hK => ?_)
      go_simp
      refine hK _ ?_
      clear hK K
      refine wpMix_s (fun K hK => ?_)
      go_simp
      refine hK _ ?_
      clear hK K
      refine wpMix_s (fun K hK => ?_)
      go_simp
      refine hK _ ?_
      clear hK K
      refine wpMix_load (by kernel_rfl) 25 (.tmp 19) rfl (b1) (o1 + q * 32) rfl (x.map B).toArray ((fun s => Hl1.out s.W s.ok)) ?_
      simp only [Act.put]
      refine wpMix_s (fun K hK => ?_)
      go_simp
      refine hK _ ?_
      clear hK K
      refine wpMix_s (fun K hK => ?_)
      go_simp
      refine hK _ ?_
      clear hK K
      refine wpMix_s (fun K hK => ?_)
      go_simp
      refine hK _ ?_
      clear hK K
      refine wpMix_load (by kernel_rfl) 25 (.tmp 23) rfl (b2) (o2 + q * 32) rfl (x.map B).toArray ((fun s => Hl2.out s.W s.ok)) ?_
      simp only [Act.put]
      refine wpMix_v (by kernel_rfl) (.bool false) ((fun s => run_neq26_f (.tmp 20) (.tmp 24) _ x x rfl rfl rfl hxl hxl rfl s.W)) ?_
      simp only [Act.put]
      refine wpMix_nil ?_
      intro _
      go_wp2_with fail
      go_roundw
      case rel => exact ⟨q + 1, by omega, by go_num, hB.trans (hS.mono hB.size)⟩
      case measure => simp [intOf]; omega
    · obtain rfl : q = n := by omega
      have hd : decide ((q : Int) < (q : Int)) = false := by simp
      go_wp2_with fail
      go_ret
      exact ⟨rfl, hB⟩
end Go.Proofs.Ytonidnfgneokbaa
