/- notarylaw12.sameProofs; what is known while ConsChain goes on. -/
import Derived.Test.YtgcbdnoniikboaaQb130
import Derived.Test.YtgcbdnoniikboaaQb132
import Derived.Test.YtgcbdnoniikboaaQb119
import Derived.Test.YtgcbdnoniikboaaQb133
import Derived.Test.YtgcbdnoniikboaaQb116
namespace Go.Proofs.Ytgcbdnoniikboaa
open Go Go.RowKit Go.Shelf
attribute [local go_sem] Oper.semAt_some

theorem HsS.cellAt {W : World} {X : Nat → Prop} {A : Option Addr} {n c : Nat} {vs : List Value} {rs : List (List (List UInt8))} (h : HsS W X A n c vs rs) {b o : Nat} (hA : A = some ⟨b, o, none⟩) (k : Nat) (hk : k < n) : ∃ Ai ci, W.cell? ⟨b, o + k, none⟩ = some (.slice Ai (rs.getD k []).length ci) ∧ Hs W X Ai (rs.getD k []).length ci (rs.getD k []) := by
  obtain ⟨Ai, ci, h1, h2⟩ := h.ins k (by rw [h.len]; exact hk)
  obtain ⟨b', o', e, -, -, h4⟩ := h.out.at_ (by omega) (by decide)
  rw [hA] at e
  cases e
  have hg : rs.getD k [] = rs[k]'(by rw [h.len]; exact hk) := by rw [List.getD_eq_getElem?_getD, List.getElem?_eq_getElem (by rw [h.len]; exact hk)]; rfl
  rw [hg]
  exact ⟨Ai, ci, h4 k _ h1, h2⟩

set_option maxHeartbeats 2000000 in
set_option maxRecDepth 100000 in
theorem samep_any (rs : List (List (List UInt8))) (A A' : Option Addr) (n c c' : Nat) (vs vs' : List Value) (w : World) (h1 : HsS w (fun _ => True) A n c vs rs) (h2 : HsS w (fun _ => True) A' n c' vs' rs) (hl : ∀ r ∈ rs, r.length ≤ 4398046511104) :
    Calls Try.prog 52 #[.slice A n c, .slice A' n c'] w fun e w' => e = .returned (.bool true) ∧ Below w.heap.size w w' := by
  have hroom := h1.out.room
  have hmx := h1.out.max
  unfold maxLen at hmx
  have hlen := h1.len
  have he : ((n : Int) != (n : Int)) = false := by simp
  have Hlen := Lib.hid hlen
  clear hlen
  go_enter Try.func52, Try.ntmps52
  go_wp2_with fail
  go_loopw [5, 6] (fun v5 _ wr => ∃ k : Nat, k ≤ n ∧ v5 = .int .i64 (k : Int) ∧ Below w.heap.size w wr) (fun v5 _ _ => n - (intOf v5).toNat)
  case atStart => exact ⟨0, Nat.zero_le _, rfl, Below.refl _ _⟩
  case round =>
    obtain ⟨k, hk, rfl, hbr⟩ := hrel
    by_cases hkn : k < n
    · have hd : decide ((k : Int) < (n : Int)) = true := by simp; omega
      obtain ⟨ba, oa, rfl, hba, -, -⟩ := h1.out.at_ (by omega) (by decide)
      obtain ⟨bb, ob, rfl, hbb, -, -⟩ := h2.out.at_ (by omega) (by decide)
      obtain ⟨Ai, ci, hcA, hsA⟩ := (h1.step hbr).cellAt rfl k hkn
      obtain ⟨Bi, di, hcB, hsB⟩ := (h2.step hbr).cellAt rfl k hkn
      have hrl : (rs.getD k []).length ≤ 4398046511104 := hl _ (by rw [List.getD_eq_getElem?_getD, List.getElem?_eq_getElem (by rw [Hlen.out]; exact hkn)]; exact List.getElem_mem _)
      obtain ⟨r, hr⟩ : ∃ r, rs.getD k [] = r := ⟨_, rfl⟩
      rw [hr] at hcA hsA hcB hsB hrl
      have hsm := fun W (hb : Below wr.heap.size wr W) => sameh_any r Ai Bi r.length ci di W (hsA.step hb) (hsB.step hb) hrl
      replace hba := Nat.lt_of_lt_of_le hba hbr.size
      replace hbb := Nat.lt_of_lt_of_le hbb hbr.size
      have cA : ∀ s : InC (fun W => Below wr.heap.size wr W), s.W.cell? ⟨ba, oa + k, none⟩ = some (.slice Ai r.length ci) := fun s => by rw [s.ok.cell (p := ⟨ba, oa + k, none⟩) hba]; exact hcA
      have cB : ∀ s : InC (fun W => Below wr.heap.size wr W), s.W.cell? ⟨bb, ob + k, none⟩ = some (.slice Bi r.length di) := fun s => by rw [s.ok.cell (p := ⟨bb, ob + k, none⟩) hbb]; exact hcB
      have Hsm := Lib.hid hsm
      clear hsm hcA hcB hsA hsB hr
      go_wp2_with fail
      have hS : Below wr.heap.size wr wr.drew := (Below.refl _ _).drew
      refine wp_region_mix (fun W => Below wr.heap.size wr W) [(0, true), (1, true), (2, true), (3, true), (4, true), (5, true), (6, true), (7, true), (8, false), (9, true)] (by kernel_rfl) (by kernel_rfl) hS fun _ => ?_
      simp only [List.map_cons, List.map_nil, Array.getD_eq_getD_getElem?, List.getElem?_toArray, List.getElem?_cons_succ, List.getElem?_cons_zero, Option.getD_some]
      generalize wr.drew = u9 at hS ⊢
      refine wpMix_s (fun K hK => ?_)
      go_simp
      refine hK _ ?_
      clear hK K
      refine wpMix_s (fun K hK => ?_)
      go_simp
      refine hK _ ?_
      clear hK K
      refine wpMix_s (fun K hK => ?_)
      go_simp
      refine hK _ ?_
      clear hK K
      refine wpMix_s (fun K hK => ?_)
      go_simp
      refine hK _ ?_
      clear hK K
      refine wpMix_s (fun K hK => ?_)
      go_simp
      refine hK _ ?_
      clear hK K
      refine wpMix_s (fun K hK => ?_)
      go_simp
      refine hK _ ?_
      clear hK K
      refine wpMix_s (fun K hK => ?_)
      go_simp
      refine hK _ ?_
      clear hK K
      refine wpMix_s (fun K hK => ?_)
      go_simp
      refine hK _ ?_
      clear hK K
      refine wpMix_c (fun K hK => ?_) hS
      go_simp
      refine (Hsm.out u9 hS).mono ?_
      rintro e u9_1 ⟨rfl, hb'⟩
      refine hK _ _ ?_
      clear hK K
      replace hS := hS.trans (hb'.mono hS.size)
      refine ⟨hS, ?_⟩
      clear hb'
      refine wpMix_s (fun K hK => ?_)
      go_simp
      refine hK _ ?_
      clear hK K
      refine wpMix_nil ?_
      intro _
      go_wp2_with fail
      go_roundw
      case rel => exact ⟨k + 1, by omega, by go_num, hbr.trans (hS.mono hbr.size)⟩
      case measure => simp [intOf]; omega
    · obtain rfl : n = k := by omega
      have hd : decide ((n : Int) < (n : Int)) = false := by simp
      go_wp2_with fail
      go_ret
      exact ⟨rfl, hbr⟩

theorem HsS.far {k : Nat} {W W' : World} {X : Nat → Prop} {A : Option Addr} {n c : Nat} {vs : List Value} {rs : List (List (List UInt8))} (h : HsS W X A n c vs rs) (hb : Below k W W') (hX : ∀ b, b < W.heap.size → X b → b < k) : HsS W' X A n c vs rs :=
  ⟨h.out.below hb hX, h.len, fun i hi => let ⟨Ai, ci, h1, h2⟩ := h.ins i hi; ⟨Ai, ci, h1, h2.below hb hX⟩⟩
theorem HsS.setRow {W : World} {X : Nat → Prop} {A : Option Addr} {n c : Nat} {vs : List Value} {rs : List (List (List UInt8))} (h : HsS W X A n c vs rs) (g : Nat) (cs : Array Value) (hX : ¬ X g) : HsS (W.setRow g cs) X A n c vs rs :=
  ⟨h.out.grown (grown_setRow (grown_of_below (Below.refl _ _) (some g)) cs) (fun _ _ hx e => hX ((Option.some.inj e) ▸ hx)), h.len, fun i hi => let ⟨Ai, ci, h1, h2⟩ := h.ins i hi; ⟨Ai, ci, h1, h2.setRow g cs hX⟩⟩
theorem HsS.setCell {W : World} {X : Nat → Prop} {A : Option Addr} {n c : Nat} {vs : List Value} {rs : List (List (List UInt8))} (h : HsS W X A n c vs rs) (g i : Nat) (u : Value) (hX : ¬ X g) : HsS (W.setCell ⟨g, i, none⟩ u) X A n c vs rs :=
  ⟨h.out.grown (grown_setCell (grown_of_below (Below.refl _ _) (some g)) i u) (fun _ _ hx e => hX ((Option.some.inj e) ▸ hx)), h.len, fun i' hi => let ⟨Ai, ci, h1, h2⟩ := h.ins i' hi; ⟨Ai, ci, h1, h2.grown (grown_setCell (grown_of_below (Below.refl _ _) (some g)) i u) (fun _ _ hx e => hX ((Option.some.inj e) ▸ hx))⟩⟩
theorem owns_over {W : World} {base n s g : Nat} {e e' : TypeId} {v : Value} {xs : List Value} {cur cs : Array Value} (h : W.ownsRow base e s v n xs) (hg : Blk W g e' cur) (hc : cs.size = cur.size) : ∃ xs', (W.setRow g cs).ownsRow base e s v n xs' := by
  by_cases hv : v.ownBlock = some g
  · rcases h.2 with ⟨rfl, hn⟩ | ⟨g', cap, cur', rfl, hb, hgg, h1, h2, h3, h4⟩
    · cases hv
    · cases hv
      have hh : W.heap[g']? = some (.cells cur e' (0, 0)) := hg
      rw [hh] at hgg
      cases hgg
      refine ⟨cs.toList.take (n * s), ?_, .inr ⟨g', cap, cs, rfl, hb, hg.setRow_ cs, h1, h2, by rw [hc]; exact h3, rfl⟩⟩
      rw [List.length_take, Array.length_toList, hc, h3]
      exact Nat.min_eq_left (Nat.mul_le_mul_right _ h1)
  · exact ⟨xs, h.kept (grown_setRow (grown_of_below (Below.refl _ _) (some g)) cs) (.inr hv)⟩
/-- a cell of a row of one's own is written over -/
theorem owns_setv {W : World} {base g n c : Nat} {e : TypeId} {xs : List Value} (h : W.ownsRow base e 1 (.slice (some ⟨g, 0, none⟩) n c) n xs) (k : Nat) (hk : k < n) (u : Value) :
    (∃ v, W.cell? ⟨g, k, none⟩ = some v) ∧ W.frozen? ⟨g, k, none⟩ = false ∧ base ≤ g ∧ (W.setCell ⟨g, k, none⟩ u).ownsRow base e 1 (.slice (some ⟨g, 0, none⟩) n c) n (xs.set k u) := by
  rcases h.2 with ⟨hv, _⟩ | ⟨g', cap, cur, hv, hb, hgg, h1, h2, h3, h4⟩
  · cases hv
  · cases hv
    have hg : Blk W g e cur := hgg
    refine ⟨⟨cur[k]'(by omega), by rw [hg.cell, Array.getElem?_eq_getElem]⟩, hg.frozen k, hb, by rw [List.length_set]; exact h.1, .inr ⟨g, c, cur.setIfInBounds k u, rfl, hb, hg.set_ k u, h1, h2, by rw [Array.size_setIfInBounds]; exact h3, ?_⟩⟩
    rw [← h4, Array.toList_setIfInBounds, List.take_set]

theorem ChC.hss {base : Nat} {rs : List (List (List UInt8))} {v : Value} {vs : List Value} {W : World} (h : ChC base rs rs.length v vs W) (ha : ∀ r ∈ rs, H32 r) : ∃ A c, v = .slice A rs.length c ∧ HsS W (base ≤ ·) A rs.length c vs rs := by
  obtain ⟨A, c, hv, hs⟩ := owns_slv h.own
  refine ⟨A, c, hv, hs.weak fun _ _ hx => hx.1, rfl, fun i hi => ?_⟩
  obtain ⟨x, h1, h2⟩ := h.ins i hi
  have hg : rs.getD i [] = rs[i] := by rw [List.getD_eq_getElem?_getD, List.getElem?_eq_getElem hi]; rfl
  rw [hg] at h2
  obtain ⟨Ai, ci, rfl, h3⟩ := Hs.of_owns h2 rfl (ha _ (List.getElem_mem hi))
  exact ⟨Ai, ci, h1, h3.weak fun _ _ hx => hx.1⟩

/-- what was handed in and lent -/
structure CcS (w : World) (hs : List (List UInt8)) (s : List Int) (prs : List (List (List UInt8))) (A : Option Addr) (n c : Nat) (As : Option Addr) (ns cs : Nat) (Ao : Option Addr) (no co : Nat) (vso : List Value) (A' : Option Addr) (c' : Nat) (S2 : Option Addr) (c2 N : Nat) (W : World) : Prop where
  t : CpL w hs A n c A' c' N W
  sz : SlV W (· < w.heap.size) As ns cs 1 (icells s)
  ot : HsS W (· < w.heap.size) Ao no co vso prs
  cp : SlV W (· < N) S2 (ns + 1) c2 1 (icells s ++ [.int .i64 4242])
  sl : s.length = ns
section
variable {w W W' : World} {hs : List (List UInt8)} {s : List Int} {prs : List (List (List UInt8))} {A As Ao A' S2 : Option Addr} {n c ns cs no co c' c2 N : Nat} {vso : List Value}
theorem CcS.step (h : CcS w hs s prs A n c As ns cs Ao no co vso A' c' S2 c2 N W) (hb : Below W.heap.size W W') : CcS w hs s prs A n c As ns cs Ao no co vso A' c' S2 c2 N W' := ⟨h.t.step hb, h.sz.step hb, h.ot.step hb, h.cp.step hb, h.sl⟩
theorem CcS.far {k : Nat} (h : CcS w hs s prs A n c As ns cs Ao no co vso A' c' S2 c2 N W) (hb : Below k W W') (hk : N ≤ k) : CcS w hs s prs A n c As ns cs Ao no co vso A' c' S2 c2 N W' :=
  ⟨h.t.far hb hk, h.sz.below hb (fun b _ hx => by have hx : b < w.heap.size := hx; have := h.t.ge; omega), h.ot.far hb (fun b _ hx => by have hx : b < w.heap.size := hx; have := h.t.ge; omega), h.cp.below hb (fun _ _ hx => Nat.lt_of_lt_of_le hx hk), h.sl⟩
theorem CcS.mine (h : CcS w hs s prs A n c As ns cs Ao no co vso A' c' S2 c2 N W) : SlV W (fun _ => True) S2 ns c2 1 (icells s) := by
  have := (h.cp.take ns (by omega)).weak (Y := fun _ => True) fun _ _ _ => trivial
  rwa [show (icells s ++ [Value.int .i64 4242]).take (ns * 1) = icells s by rw [Nat.mul_one, ← h.sl]; simp] at this
theorem owns_far {W W' : World} {base n s K : Nat} {e : TypeId} {v : Value} {xs : List Value} (h : W.ownsRow base e s v n xs) (hb : Below K W W') (hlt : ∀ g, v.ownBlock = some g → g < K) : W'.ownsRow base e s v n xs := by
  rcases h.2 with hn | ⟨g, cap, cur, rfl, h1, h2, h3⟩
  · exact ⟨h.1, .inl hn⟩
  · have hk : Blk W g e cur := h2
    exact ⟨h.1, .inr ⟨g, cap, cur, rfl, h1, hk.below hb (hlt g rfl), h3⟩⟩
/-- the proofs that came twice, and those that are wanted -/
structure CcA (w : World) (hs : List (List UInt8)) (s : List Int) (prs : List (List (List UInt8))) (A : Option Addr) (n c : Nat) (As : Option Addr) (ns cs : Nat) (Ao : Option Addr) (no co : Nat) (vso : List Value) (A' : Option Addr) (c' : Nat) (S2 : Option Addr) (c2 N M K : Nat)
    (rs : List (List (List UInt8))) (va : Value) (vsa : List Value) (Bb : Option Addr) (cb : Nat) (vsb : List Value) (Bw : Option Addr) (cw : Nat) (vsw : List Value) (W : World) : Prop where
  s : CcS w hs s prs A n c As ns cs Ao no co vso A' c' S2 c2 N W
  a : ChC N rs rs.length va vsa W
  b : HsS W (fun b => M ≤ b ∧ b < K) Bb rs.length cb vsb rs
  v : HsS W (fun b => M ≤ b ∧ b < K) Bw rs.length cw vsw rs
  alt : ∀ g, va.ownBlock = some g → g < M
  aint : ∀ (j : Nat) (x : Value), vsa[j]? = some x → ∀ g, x.ownBlock = some g → g < M
  nm : N ≤ M
  mkl : M ≤ K
  le : K ≤ W.heap.size
variable {M K cb cw : Nat} {rs : List (List (List UInt8))} {va : Value} {vsa vsb vsw : List Value} {Bb Bw : Option Addr}
theorem CcA.step (h : CcA w hs s prs A n c As ns cs Ao no co vso A' c' S2 c2 N M K rs va vsa Bb cb vsb Bw cw vsw W) (hb : Below W.heap.size W W') : CcA w hs s prs A n c As ns cs Ao no co vso A' c' S2 c2 N M K rs va vsa Bb cb vsb Bw cw vsw W' := ⟨h.s.step hb, h.a.step hb, h.b.step hb, h.v.step hb, h.alt, h.aint, h.nm, h.mkl, Nat.le_trans h.le hb.size⟩
theorem CcA.far (h : CcA w hs s prs A n c As ns cs Ao no co vso A' c' S2 c2 N M K rs va vsa Bb cb vsb Bw cw vsw W) (hb : Below K W W') : CcA w hs s prs A n c As ns cs Ao no co vso A' c' S2 c2 N M K rs va vsa Bb cb vsb Bw cw vsw W' :=
  ⟨h.s.far hb (Nat.le_trans h.nm h.mkl), ⟨owns_far h.a.own hb fun g hg => Nat.lt_of_lt_of_le (h.alt g hg) h.mkl, fun i hi => let ⟨x, h1, h2⟩ := h.a.ins i hi; ⟨x, h1, owns_far h2 hb fun g hg => Nat.lt_of_lt_of_le (h.aint i x h1 g hg) h.mkl⟩⟩, h.b.far hb (fun _ _ hx => hx.2), h.v.far hb (fun _ _ hx => hx.2), h.alt, h.aint, h.nm, h.mkl, Nat.le_trans h.le hb.size⟩
/-- while the first proofs are spoilt: from the i-th on they are there -/
structure SpI (w : World) (hs : List (List UInt8)) (s : List Int) (prs : List (List (List UInt8))) (A : Option Addr) (n c : Nat) (As : Option Addr) (ns cs : Nat) (Ao : Option Addr) (no co : Nat) (vso : List Value) (A' : Option Addr) (c' : Nat) (S2 : Option Addr) (c2 N M K : Nat)
    (rs : List (List (List UInt8))) (va : Value) (vsa : List Value) (Bb : Option Addr) (cb : Nat) (vsb : List Value) (Bw : Option Addr) (cw : Nat) (vsw : List Value) (i : Nat) (W : World) : Prop where
  s : CcS w hs s prs A n c As ns cs Ao no co vso A' c' S2 c2 N W
  out : ∃ vs', W.ownsRow N 37 1 va rs.length vs' ∧ ∀ j, i ≤ j → vs'[j]? = vsa[j]?
  ins : ∀ j, i ≤ j → j < rs.length → ∃ x xs, vsa[j]? = some x ∧ W.ownsRow N 34 32 x (rs.getD j []).length xs
  b : HsS W (fun b => M ≤ b ∧ b < K) Bb rs.length cb vsb rs
  v : HsS W (fun b => M ≤ b ∧ b < K) Bw rs.length cw vsw rs
  alt : ∀ g, va.ownBlock = some g → g < M
  aint : ∀ (j : Nat) (x : Value), vsa[j]? = some x → ∀ g, x.ownBlock = some g → g < M
theorem CcA.spoil (h : CcA w hs s prs A n c As ns cs Ao no co vso A' c' S2 c2 N M K rs va vsa Bb cb vsb Bw cw vsw W) : SpI w hs s prs A n c As ns cs Ao no co vso A' c' S2 c2 N M K rs va vsa Bb cb vsb Bw cw vsw 0 W :=
  ⟨h.s, ⟨vsa, h.a.own, fun _ _ => rfl⟩, fun j _ hj => let ⟨x, h1, h2⟩ := h.a.ins j hj; ⟨x, _, h1, h2⟩, h.b, h.v, h.alt, h.aint⟩
variable {i : Nat}
theorem SpI.row (h : SpI w hs s prs A n c As ns cs Ao no co vso A' c' S2 c2 N M K rs va vsa Bb cb vsb Bw cw vsw i W) (hi : i < rs.length) : ∃ ga ca Ai ci, va = .slice (some ⟨ga, 0, none⟩) rs.length ca ∧ ga < W.heap.size ∧ W.cell? ⟨ga, i, none⟩ = some (.slice Ai (rs.getD i []).length ci) ∧ (0 < (rs.getD i []).length → ∃ g, Ai = some ⟨g, 0, none⟩) ∧ (rs.getD i []).length ≤ maxLen := by
  obtain ⟨vs', h1, h2⟩ := h.out
  obtain ⟨x, xs, h3, h4⟩ := h.ins i (Nat.le_refl _) hi
  obtain ⟨ga, ca, rfl⟩ := owns_some h1 (by omega)
  obtain ⟨A1, c1, e1, hs1⟩ := owns_slv h1
  cases e1
  obtain ⟨b', o', e2, hlt, -, hat⟩ := hs1.at_ (by omega) (by decide)
  cases e2
  obtain ⟨A2, c2', rfl, hs2⟩ := owns_slv h4
  refine ⟨ga, ca, A2, c2', rfl, hlt, by have := hat i _ ((h2 i (Nat.le_refl _)).trans h3); rwa [Nat.zero_add] at this, fun hp => ?_, Nat.le_trans hs2.room hs2.max⟩
  obtain ⟨g, c3, e3⟩ := owns_some h4 hp
  cases e3
  exact ⟨g, rfl⟩
theorem SpI.put (h : SpI w hs s prs A n c As ns cs Ao no co vso A' c' S2 c2 N M K rs va vsa Bb cb vsb Bw cw vsw i W) (hi : i < rs.length) {ga ca g ci : Nat} (hva : va = .slice (some ⟨ga, 0, none⟩) rs.length ca) (hc : W.cell? ⟨ga, i, none⟩ = some (.slice (some ⟨g, 0, none⟩) (rs.getD i []).length ci)) (k : Nat) (hk : k < (rs.getD i []).length) (y : List UInt8) (hy : y.length = 32) :
    ∃ cur : Array Value, Blk W g 34 cur ∧ k * 32 + 32 ≤ cur.size ∧ SpI w hs s prs A n c As ns cs Ao no co vso A' c' S2 c2 N M K rs va vsa Bb cb vsb Bw cw vsw i (W.setRow g (cur.toList.take (k * 32) ++ (y.map B).toArray.toList ++ cur.toList.drop (k * 32 + 32)).toArray) ∧ ga ≠ g := by
  obtain ⟨vs', h1, h2⟩ := h.out
  obtain ⟨x, xs, h3, h4⟩ := h.ins i (Nat.le_refl _) hi
  have hx : x = .slice (some ⟨g, 0, none⟩) (rs.getD i []).length ci := by
    obtain ⟨A1, c1, e1, hs1⟩ := owns_slv h1
    rw [hva] at e1
    cases e1
    obtain ⟨b', o', e2, -, -, hat⟩ := hs1.at_ (by omega) (by decide)
    cases e2
    have := hat i _ ((h2 i (Nat.le_refl _)).trans h3)
    rw [Nat.zero_add, hc] at this
    exact (Option.some.inj this).symm
  subst hx
  have hgM := h.aint i _ h3 g rfl
  obtain ⟨cur, k1, k2, k3, -⟩ := owns_put h4 k hk (y.map B).toArray.toList (by simp [hy])
  have hsz : (cur.toList.take (k * 32) ++ (y.map B).toArray.toList ++ cur.toList.drop (k * 32 + 32)).toArray.size = cur.size := by simp [hy]; omega
  have hne : ga ≠ g := by
    have := owns_apart h1 h4 (by decide)
    rw [hva] at this
    rcases this with h | h
    · cases h
    · exact fun e => h (by rw [e]; rfl)
  refine ⟨cur, k1, k2, ⟨h.s.far (below_setRow (Below.refl _ _) k3 _) (Nat.le_refl _), ⟨vs', h1.kept (grown_setRow (grown_of_below (Below.refl _ _) (some g)) _) (owns_apart h1 h4 (by decide)), h2⟩, fun j hj hjl => ?_, h.b.setRow g _ (by omega), h.v.setRow g _ (by omega), h.alt, h.aint⟩, hne⟩
  obtain ⟨x', xs', h5, h6⟩ := h.ins j hj hjl
  obtain ⟨xs2, h7⟩ := owns_over h6 k1 hsz
  exact ⟨x', xs2, h5, h7⟩
theorem SpI.next (h : SpI w hs s prs A n c As ns cs Ao no co vso A' c' S2 c2 N M K rs va vsa Bb cb vsb Bw cw vsw i W) (hi : i < rs.length) {ga ca : Nat} (hva : va = .slice (some ⟨ga, 0, none⟩) rs.length ca) :
    (∃ v, W.cell? ⟨ga, i, none⟩ = some v) ∧ W.frozen? ⟨ga, i, none⟩ = false ∧ SpI w hs s prs A n c As ns cs Ao no co vso A' c' S2 c2 N M K rs va vsa Bb cb vsb Bw cw vsw (i + 1) (W.setCell ⟨ga, i, none⟩ (.slice none 0 0)) := by
  obtain ⟨vs', h1, h2⟩ := h.out
  subst hva
  obtain ⟨h3, h4, h5, h6⟩ := owns_setv h1 i hi (.slice none 0 0)
  have hgM := h.alt ga rfl
  have hgr : W.grownBy (W.setCell ⟨ga, i, none⟩ (.slice none 0 0)) (some ga) := grown_setCell (grown_of_below (Below.refl _ _) (some ga)) i _
  refine ⟨h3, h4, h.s.far ((Below.refl _ _).setCell (p := ⟨ga, i, none⟩) h5 _) (Nat.le_refl _), ⟨_, h6, fun j hj => by rw [List.getElem?_set_ne (by omega)]; exact h2 j (by omega)⟩, fun j hj hjl => ?_, h.b.setCell ga i _ (by omega), h.v.setCell ga i _ (by omega), h.alt, h.aint⟩
  obtain ⟨x', xs', h7, h8⟩ := h.ins j (by omega) hjl
  exact ⟨x', xs', h7, h8.kept hgr (owns_apart h8 h1 (by decide))⟩
end
end Go.Proofs.Ytgcbdnoniikboaa
