/- notarylaw13.AuditCons. -/
import Derived.Test.YtonidnfgneokbaaQd148
namespace Go.Proofs.Ytonidnfgneokbaa
open Go Go.RowKit Go.Shelf
attribute [local go_sem] Oper.semAt_some

theorem lieF_memW (H : Hf) (hH : ∀ l, (H l).length = 32) : ∀ (way : List Bool) (sd : List PairV) (d : List (List UInt8)) (p h : PairV) (r : List (List UInt8)), lieF H way sd d = (some (p, h), r) → p ∈ sd ∧ h.1.length = 32 ∧ h.2.length = 32
  | [], sd, d, p, h, r, e => by cases sd <;> cases e
  | b :: way, [], d, p, h, r, e => by cases e
  | b :: way, q :: sd, d, p, h, r, e => by
    unfold lieF at e
    split at e
    · obtain ⟨h1, h2⟩ := lieF_memW H hH way sd _ p h r e
      exact ⟨List.mem_cons_of_mem _ h1, h2⟩
    · cases e
      exact ⟨List.mem_cons_self, length_rootA H hH _, length_rootA H hH _⟩
theorem saidL_lenW (H : Hf) (hH : ∀ l, (H l).length = 32) (way : List Bool) (pf : List (List UInt8)) (a0 : List UInt8) (ha : a0.length = 32) (hp : ∀ x ∈ pf, x.length = 32) : ∀ p ∈ saidL H way pf a0, p.1.length ≤ 32 ∧ p.2.length ≤ 32 := by
  intro p h
  unfold saidL at h
  obtain ⟨n, -, rfl⟩ := List.mem_map.1 h
  have h1 : (atI H way pf a0 (way.length - 1 - n)).length ≤ 32 := Nat.le_of_eq (length_atI H hH a0 ha _ _ _)
  have h2 : (pf.getD (way.length - 1 - n) []).length ≤ 32 := by
    rw [List.getD_eq_getElem?_getD]
    cases hq : pf[way.length - 1 - n]? with
    | none => simp
    | some x => exact Nat.le_of_eq (hp x (List.mem_of_getElem? hq))
  unfold prI pairB
  split
  · exact ⟨h2, h1⟩
  · exact ⟨h1, h2⟩
theorem consC_len (H : Hf) (hH : ∀ l, (H l).length = 32) (d : List (List UInt8)) (m : Int) (fi : List UInt8) (pf : List (List UInt8)) (hf : fi.length = 32) (hp : ∀ x ∈ pf, x.length = 32) : (consC H d m fi pf).1.1.length ≤ 4097 ∧ (consC H d m fi pf).1.2.length ≤ 4097 := by
  have h0 : (noC : PairV).1.length ≤ 4097 ∧ (noC : PairV).2.length ≤ 4097 := ⟨by decide, by decide⟩
  unfold consC
  split
  · exact h0
  split
  · exact h0
  split
  · exact h0
  rename_i h3
  split
  · exact h0
  have hx := seedX_len true (wayC m.toNat d.length) fi pf hf hp (Decidable.not_not.1 h3)
  have hb := seedB_mem true (wayC m.toNat d.length) pf hp
  obtain ⟨way, hway⟩ : ∃ way, wayC m.toNat d.length = way := ⟨_, rfl⟩
  rw [hway] at hx hb ⊢
  unfold consM
  obtain ⟨⟨o, r⟩, hq⟩ : ∃ q, lieF H way (saidL H way (seedB true way pf) (seedX true way fi pf)) d = q := ⟨_, rfl⟩
  rw [hq]
  cases o with
  | some q =>
    obtain ⟨p, h⟩ := q
    obtain ⟨g1, g2, g3⟩ := lieF_memW H hH _ _ _ p h r hq
    obtain ⟨g4, g5⟩ := saidL_lenW H hH _ (seedB true way pf) _ hx hb p g1
    constructor
    · show (nodeD p).length ≤ 4097
      simp only [nodeD, List.length_cons, List.length_append]; omega
    · show (nodeD h).length ≤ 4097
      simp only [nodeD, List.length_cons, List.length_append]; omega
  | none => exact h0

set_option maxHeartbeats 4000000 in
set_option maxRecDepth 100000 in
theorem cons13_any (k : Int) (hk : k = 0 ∨ k = 1 ∨ k = 2 ∨ k = 3 ∨ k = 4) (ls : List (List UInt8)) (Ad : Option Addr) (nd cd : Nat) (m : Int) (fi : List UInt8) (pf : List (List UInt8)) (Ap : Option Addr) (np cp : Nat) (w : World)
    (hd : Es w (fun _ => True) Ad nd cd ls) (hfi : fi.length = 32) (hp : Hs w (fun _ => True) Ap np cp pf) :
    Calls Try.prog 29 #[.int .i64 k, .slice Ad nd cd, .int .i64 m, .agg (fi.map B).toArray, .slice Ap np cp] w fun e' w' => ∃ v, e' = .returned (.tuple #[v, .int .i64 (consC (hashK k) ls m fi pf).2]) ∧ ClV w.heap.size (consC (hashK k) ls m fi pf).1 v w' ∧ Below w.heap.size w w' := by
  obtain ⟨w0, hw0⟩ : ∃ w0, w.alloc (.cells (fi.map B).toArray 25) = w0 := ⟨_, rfl⟩
  have hb0 : Below w.heap.size w w0 := by rw [← hw0]; exact (Below.refl _ _).alloc (Nat.le_refl _) _
  have k8 : HV w0 w.heap.size fi := ⟨by rw [← hw0]; exact Blk.new _ _ _, hfi⟩
  obtain ⟨w1, hw1⟩ : ∃ w1, w0.alloc (.cells #[.slice none 0 0, .slice none 0 0] 34) = w1 := ⟨_, rfl⟩
  have hb01 : Below w0.heap.size w0 w1 := by rw [← hw1]; exact (Below.refl _ _).alloc (Nat.le_refl _) _
  have k1 : Blk w1 w0.heap.size 34 #[.slice none 0 0, .slice none 0 0] := by rw [← hw1]; exact Blk.new _ _ _
  have hz1 : w1.heap.size = w0.heap.size + 1 := by rw [← hw1]; simp
  have hz0 := hb0.size
  have hb1 := hb0.trans (hb01.mono hz0)
  replace k8 := k8.step hb01
  have hi := fun (f : Nat) (H : Hf) (hF : HFn f H) => acons_any hF ls Ad nd cd m fi pf Ap np cp w1 (hd.step hb1) hfi (hp.step hb1)
  have Hw0 := Lib.hid hw0
  have Hw1 := Lib.hid hw1
  have Hi := Lib.hid hi
  clear hd hp hw0 hw1 hi hb01
  rcases hk with rfl | rfl | rfl | rfl | rfl
  · have hi := Hi.out _ _ strong13_fn
    obtain ⟨⟨c1, e1⟩, hc⟩ : ∃ r, consC (hashK 0) ls m fi pf = r := ⟨_, rfl⟩
    rw [hc] at hi ⊢
    have Hi2 := Lib.hid hi
    clear hi hc
    go_enter Try.func29, Try.ntmps29
    refine Code.wp_mono (fun _ _ _ h => BP.out h) ?_
    go_wp2_with (first
      | ((with_reducible show wpList _ _ _ (⟨some 10, .alloc _, _, _, _, _⟩ :: _) _ _); rw [Hw0.out]; refine wpList_run rfl (.pointer (some ⟨w0.heap.size, 0, none⟩)) w1 (by rw [← Hw1.out]; rfl) ?_; simp only [Act.put])
      | ((with_reducible show wpList _ _ _ (⟨some 51, .load _ _, _, _, _, _⟩ :: _) _ _); refine wpList_hload (.tmp 8) (by kernel_rfl) rfl k8 rfl ?_; simp only [Act.put]))
    refine Hi2.out.mono ?_
    rintro e w2 ⟨v, rfl, ⟨a8, a9, rfl, ho8, ho9⟩, hb2⟩
    obtain ⟨A8, c8, rfl, -⟩ := owns_slv ho8
    obtain ⟨A9, c9, rfl, -⟩ := owns_slv ho9
    have k2 := k1.step hb2
    go_wp2_with ((with_reducible show wpList _ _ _ (⟨none, .store _ (.tmp 10) _, _, _, _, _⟩ :: _) _ _); refine wpList_clset (.tmp 10) (.tmp 54) rfl rfl k2 rfl rfl rfl rfl ?_; intro W3 k3 hb3 hW3; have hgr : w2.grownBy W3 (some w0.heap.size) := (by rw [hW3]; exact grown_setRow (grown_of_below (Below.refl _ _) _) _); replace ho8 := ho8.kept hgr (.inr fun e => by have := (ho8.lt _ e).1; omega); replace ho9 := ho9.kept hgr (.inr fun e => by have := (ho9.lt _ e).1; omega); have hbE := (hb1.trans (hb2.mono hb1.size)).trans (hb3.mono hz0); clear hW3 hgr; simp only [Act.put])
    exact ⟨bodyPost_ret (ret_clash2 rfl rfl k3) rfl ⟨_, rfl, ⟨_, _, rfl, owns_le ho8 (show w.heap.size ≤ w1.heap.size by omega), owns_le ho9 (show w.heap.size ≤ w1.heap.size by omega)⟩, hbE⟩⟩
  · have hi := Hi.out _ _ first13_fn
    obtain ⟨⟨c1, e1⟩, hc⟩ : ∃ r, consC (hashK 1) ls m fi pf = r := ⟨_, rfl⟩
    rw [hc] at hi ⊢
    have Hi2 := Lib.hid hi
    clear hi hc
    go_enter Try.func29, Try.ntmps29
    refine Code.wp_mono (fun _ _ _ h => BP.out h) ?_
    go_wp2_with (first
      | ((with_reducible show wpList _ _ _ (⟨some 10, .alloc _, _, _, _, _⟩ :: _) _ _); rw [Hw0.out]; refine wpList_run rfl (.pointer (some ⟨w0.heap.size, 0, none⟩)) w1 (by rw [← Hw1.out]; rfl) ?_; simp only [Act.put])
      | ((with_reducible show wpList _ _ _ (⟨some 17, .load _ _, _, _, _, _⟩ :: _) _ _); refine wpList_hload (.tmp 8) (by kernel_rfl) rfl k8 rfl ?_; simp only [Act.put]))
    refine Hi2.out.mono ?_
    rintro e w2 ⟨v, rfl, ⟨a8, a9, rfl, ho8, ho9⟩, hb2⟩
    obtain ⟨A8, c8, rfl, -⟩ := owns_slv ho8
    obtain ⟨A9, c9, rfl, -⟩ := owns_slv ho9
    have k2 := k1.step hb2
    go_wp2_with ((with_reducible show wpList _ _ _ (⟨none, .store _ (.tmp 10) _, _, _, _, _⟩ :: _) _ _); refine wpList_clset (.tmp 10) (.tmp 20) rfl rfl k2 rfl rfl rfl rfl ?_; intro W3 k3 hb3 hW3; have hgr : w2.grownBy W3 (some w0.heap.size) := (by rw [hW3]; exact grown_setRow (grown_of_below (Below.refl _ _) _) _); replace ho8 := ho8.kept hgr (.inr fun e => by have := (ho8.lt _ e).1; omega); replace ho9 := ho9.kept hgr (.inr fun e => by have := (ho9.lt _ e).1; omega); have hbE := (hb1.trans (hb2.mono hb1.size)).trans (hb3.mono hz0); clear hW3 hgr; simp only [Act.put])
    exact ⟨bodyPost_ret (ret_clash2 rfl rfl k3) rfl ⟨_, rfl, ⟨_, _, rfl, owns_le ho8 (show w.heap.size ≤ w1.heap.size by omega), owns_le ho9 (show w.heap.size ≤ w1.heap.size by omega)⟩, hbE⟩⟩
  · have hi := Hi.out _ _ bits13_fn
    obtain ⟨⟨c1, e1⟩, hc⟩ : ∃ r, consC (hashK 2) ls m fi pf = r := ⟨_, rfl⟩
    rw [hc] at hi ⊢
    have Hi2 := Lib.hid hi
    clear hi hc
    go_enter Try.func29, Try.ntmps29
    refine Code.wp_mono (fun _ _ _ h => BP.out h) ?_
    go_wp2_with (first
      | ((with_reducible show wpList _ _ _ (⟨some 10, .alloc _, _, _, _, _⟩ :: _) _ _); rw [Hw0.out]; refine wpList_run rfl (.pointer (some ⟨w0.heap.size, 0, none⟩)) w1 (by rw [← Hw1.out]; rfl) ?_; simp only [Act.put])
      | ((with_reducible show wpList _ _ _ (⟨some 26, .load _ _, _, _, _, _⟩ :: _) _ _); refine wpList_hload (.tmp 8) (by kernel_rfl) rfl k8 rfl ?_; simp only [Act.put]))
    refine Hi2.out.mono ?_
    rintro e w2 ⟨v, rfl, ⟨a8, a9, rfl, ho8, ho9⟩, hb2⟩
    obtain ⟨A8, c8, rfl, -⟩ := owns_slv ho8
    obtain ⟨A9, c9, rfl, -⟩ := owns_slv ho9
    have k2 := k1.step hb2
    go_wp2_with ((with_reducible show wpList _ _ _ (⟨none, .store _ (.tmp 10) _, _, _, _, _⟩ :: _) _ _); refine wpList_clset (.tmp 10) (.tmp 29) rfl rfl k2 rfl rfl rfl rfl ?_; intro W3 k3 hb3 hW3; have hgr : w2.grownBy W3 (some w0.heap.size) := (by rw [hW3]; exact grown_setRow (grown_of_below (Below.refl _ _) _) _); replace ho8 := ho8.kept hgr (.inr fun e => by have := (ho8.lt _ e).1; omega); replace ho9 := ho9.kept hgr (.inr fun e => by have := (ho9.lt _ e).1; omega); have hbE := (hb1.trans (hb2.mono hb1.size)).trans (hb3.mono hz0); clear hW3 hgr; simp only [Act.put])
    exact ⟨bodyPost_ret (ret_clash2 rfl rfl k3) rfl ⟨_, rfl, ⟨_, _, rfl, owns_le ho8 (show w.heap.size ≤ w1.heap.size by omega), owns_le ho9 (show w.heap.size ≤ w1.heap.size by omega)⟩, hbE⟩⟩
  · have hi := Hi.out _ _ none13_fn
    obtain ⟨⟨c1, e1⟩, hc⟩ : ∃ r, consC (hashK 3) ls m fi pf = r := ⟨_, rfl⟩
    rw [hc] at hi ⊢
    have Hi2 := Lib.hid hi
    clear hi hc
    go_enter Try.func29, Try.ntmps29
    refine Code.wp_mono (fun _ _ _ h => BP.out h) ?_
    go_wp2_with (first
      | ((with_reducible show wpList _ _ _ (⟨some 10, .alloc _, _, _, _, _⟩ :: _) _ _); rw [Hw0.out]; refine wpList_run rfl (.pointer (some ⟨w0.heap.size, 0, none⟩)) w1 (by rw [← Hw1.out]; rfl) ?_; simp only [Act.put])
      | ((with_reducible show wpList _ _ _ (⟨some 35, .load _ _, _, _, _, _⟩ :: _) _ _); refine wpList_hload (.tmp 8) (by kernel_rfl) rfl k8 rfl ?_; simp only [Act.put]))
    refine Hi2.out.mono ?_
    rintro e w2 ⟨v, rfl, ⟨a8, a9, rfl, ho8, ho9⟩, hb2⟩
    obtain ⟨A8, c8, rfl, -⟩ := owns_slv ho8
    obtain ⟨A9, c9, rfl, -⟩ := owns_slv ho9
    have k2 := k1.step hb2
    go_wp2_with ((with_reducible show wpList _ _ _ (⟨none, .store _ (.tmp 10) _, _, _, _, _⟩ :: _) _ _); refine wpList_clset (.tmp 10) (.tmp 38) rfl rfl k2 rfl rfl rfl rfl ?_; intro W3 k3 hb3 hW3; have hgr : w2.grownBy W3 (some w0.heap.size) := (by rw [hW3]; exact grown_setRow (grown_of_below (Below.refl _ _) _) _); replace ho8 := ho8.kept hgr (.inr fun e => by have := (ho8.lt _ e).1; omega); replace ho9 := ho9.kept hgr (.inr fun e => by have := (ho9.lt _ e).1; omega); have hbE := (hb1.trans (hb2.mono hb1.size)).trans (hb3.mono hz0); clear hW3 hgr; simp only [Act.put])
    exact ⟨bodyPost_ret (ret_clash2 rfl rfl k3) rfl ⟨_, rfl, ⟨_, _, rfl, owns_le ho8 (show w.heap.size ≤ w1.heap.size by omega), owns_le ho9 (show w.heap.size ≤ w1.heap.size by omega)⟩, hbE⟩⟩
  · have hi := Hi.out _ _ two13_fn
    obtain ⟨⟨c1, e1⟩, hc⟩ : ∃ r, consC (hashK 4) ls m fi pf = r := ⟨_, rfl⟩
    rw [hc] at hi ⊢
    have Hi2 := Lib.hid hi
    clear hi hc
    go_enter Try.func29, Try.ntmps29
    refine Code.wp_mono (fun _ _ _ h => BP.out h) ?_
    go_wp2_with (first
      | ((with_reducible show wpList _ _ _ (⟨some 10, .alloc _, _, _, _, _⟩ :: _) _ _); rw [Hw0.out]; refine wpList_run rfl (.pointer (some ⟨w0.heap.size, 0, none⟩)) w1 (by rw [← Hw1.out]; rfl) ?_; simp only [Act.put])
      | ((with_reducible show wpList _ _ _ (⟨some 44, .load _ _, _, _, _, _⟩ :: _) _ _); refine wpList_hload (.tmp 8) (by kernel_rfl) rfl k8 rfl ?_; simp only [Act.put]))
    refine Hi2.out.mono ?_
    rintro e w2 ⟨v, rfl, ⟨a8, a9, rfl, ho8, ho9⟩, hb2⟩
    obtain ⟨A8, c8, rfl, -⟩ := owns_slv ho8
    obtain ⟨A9, c9, rfl, -⟩ := owns_slv ho9
    have k2 := k1.step hb2
    go_wp2_with ((with_reducible show wpList _ _ _ (⟨none, .store _ (.tmp 10) _, _, _, _, _⟩ :: _) _ _); refine wpList_clset (.tmp 10) (.tmp 47) rfl rfl k2 rfl rfl rfl rfl ?_; intro W3 k3 hb3 hW3; have hgr : w2.grownBy W3 (some w0.heap.size) := (by rw [hW3]; exact grown_setRow (grown_of_below (Below.refl _ _) _) _); replace ho8 := ho8.kept hgr (.inr fun e => by have := (ho8.lt _ e).1; omega); replace ho9 := ho9.kept hgr (.inr fun e => by have := (ho9.lt _ e).1; omega); have hbE := (hb1.trans (hb2.mono hb1.size)).trans (hb3.mono hz0); clear hW3 hgr; simp only [Act.put])
    exact ⟨bodyPost_ret (ret_clash2 rfl rfl k3) rfl ⟨_, rfl, ⟨_, _, rfl, owns_le ho8 (show w.heap.size ≤ w1.heap.size by omega), owns_le ho9 (show w.heap.size ≤ w1.heap.size by omega)⟩, hbE⟩⟩
/-- what is handed in, boxed -/
structure AcC (w : World) (cs : Array Value) (ls : List (List UInt8)) (Ad : Option Addr) (nd cd : Nat) (pf : List (List UInt8)) (Ap : Option Addr) (np cp : Nat) (W : World) : Prop where
  box : Blk W w.heap.size 28 cs
  es : Es W (· < w.heap.size) Ad nd cd ls
  pfs : Hs W (· < w.heap.size) Ap np cp pf
  bel : Below w.heap.size w W
section
variable {w : World} {cs : Array Value} {ls : List (List UInt8)} {Ad : Option Addr} {nd cd : Nat} {pf : List (List UInt8)} {Ap : Option Addr} {np cp : Nat} {W W' : World}
theorem AcC.step (h : AcC w cs ls Ad nd cd pf Ap np cp W) (hb : Below W.heap.size W W') : AcC w cs ls Ad nd cd pf Ap np cp W' := ⟨h.box.step hb, h.es.step hb, h.pfs.step hb, h.bel.trans (hb.mono h.bel.size)⟩
theorem AcC.below {N : Nat} (h : AcC w cs ls Ad nd cd pf Ap np cp W) (hN : w.heap.size < N) (hb : Below N W W') : AcC w cs ls Ad nd cd pf Ap np cp W' :=
  ⟨h.box.below hb hN, h.es.below hb fun _ _ hx => Nat.lt_trans hx hN, h.pfs.below hb fun _ _ hx => Nat.lt_trans hx hN, h.bel.trans (hb.mono (Nat.le_of_lt hN))⟩
end
/-- what is lent, with its marks -/
structure AcL (N : Nat) (ls : List (List UInt8)) (Am : Option Addr) (nd cm : Nat) (pf : List (List UInt8)) (P3 : Option Addr) (np pc : Nat) (W : World) : Prop where
  lm : Lm W (· < N) Am nd cm ls
  p : Hs W (· < N) P3 (np + 1) pc (pf ++ [h77])
section
variable {N : Nat} {ls : List (List UInt8)} {Am : Option Addr} {nd cm : Nat} {pf : List (List UInt8)} {P3 : Option Addr} {np pc : Nat} {W W' : World}
theorem AcL.step (h : AcL N ls Am nd cm pf P3 np pc W) (hb : Below W.heap.size W W') : AcL N ls Am nd cm pf P3 np pc W' := ⟨h.lm.step hb, h.p.step hb⟩
theorem AcL.below (h : AcL N ls Am nd cm pf P3 np pc W) (hb : Below N W W') : AcL N ls Am nd cm pf P3 np pc W' := ⟨h.lm.below hb fun _ _ hx => hx, h.p.below hb fun _ _ hx => hx⟩
theorem AcL.pfs (h : AcL N ls Am nd cm pf P3 np pc W) (hn : pf.length = np) : Hs W (fun _ => True) P3 np pc pf := by
  have := (h.p.take np (Nat.le_succ _)).weak (Y := fun _ => True) fun _ _ _ => trivial
  rwa [List.take_append_of_le_length (by omega), List.take_of_length_le (by omega)] at this
end

set_option maxHeartbeats 16000000 in
set_option maxRecDepth 100000 in
theorem auditcons_any (kd : Int) (ls : List (List UInt8)) (Ad : Option Addr) (nd cd : Nat) (i : Int) (Ae : Option Addr) (ne ce : Nat) (fi : List UInt8) (pf : List (List UInt8)) (Ap : Option Addr) (np cp : Nat) (w : World)
    (hd : Es w (· < w.heap.size) Ad nd cd ls) (hp : Hs w (· < w.heap.size) Ap np cp pf) (hfi : fi.length = 32) (hbl : ls.flatten.length ≤ 1048576) (hnp : np ≤ 1048576) :
    Calls Try.prog 5 #[.int .i64 kd, .agg (Value.slice Ad nd cd :: .int .i64 i :: .slice Ae ne ce :: (fi.map B ++ [.slice Ap np cp])).toArray] w fun e' w' => e' = .returned (.bool true) ∧ Below w.heap.size w w' := by
  have hdl := hd.len
  have hpl := hp.len
  have hroomd := hd.room
  have hmxd := hd.max
  unfold maxLen at hmxd
  have hroomp := hp.sl.room
  have hmxp := hp.sl.max
  unfold maxLen at hmxp
  have hx : ∀ x ∈ ls, x.length ≤ 1048576 := fun x hx => Nat.le_trans (List.sublist_flatten_of_mem hx).length_le hbl
  obtain ⟨cs, hcs⟩ : ∃ cs, (Value.slice Ad nd cd :: .int .i64 i :: .slice Ae ne ce :: (fi.map B ++ [.slice Ap np cp])).toArray = cs := ⟨_, rfl⟩
  have g0 : cs[0]? = some (.slice Ad nd cd) := by rw [← hcs]; rfl
  have g1 : cs[1]? = some (.int .i64 i) := by rw [← hcs]; rfl
  have g35 : cs[35]? = some (.slice Ap np cp) := by
    rw [← hcs, List.getElem?_toArray, show (35 : Nat) = 32 + 1 + 1 + 1 from rfl, List.getElem?_cons_succ, List.getElem?_cons_succ, List.getElem?_cons_succ, List.getElem?_append_right (by rw [List.length_map, hfi]; exact Nat.le_refl _), List.length_map, hfi]
    rfl
  have gfi : ∀ j u, (fi.map B)[j]? = some u → cs[3 + j]? = some u := fun j u hu => by
    rw [← hcs, List.getElem?_toArray, show 3 + j = j + 1 + 1 + 1 by omega, List.getElem?_cons_succ, List.getElem?_cons_succ, List.getElem?_cons_succ, List.getElem?_append_left (List.getElem?_eq_some_iff.1 hu).1]
    exact hu
  rw [hcs]
  obtain ⟨w0, hw0⟩ : ∃ w0, w.alloc (.cells cs 28) = w0 := ⟨_, rfl⟩
  have hb0 : Below w.heap.size w w0 := by rw [← hw0]; exact (Below.refl _ _).alloc (Nat.le_refl _) _
  have k0 : Blk w0 w.heap.size 28 cs := by rw [← hw0]; exact Blk.new _ _ _
  have hC : AcC w cs ls Ad nd cd pf Ap np cp w0 := ⟨k0, hd.step hb0, hp.step hb0, hb0⟩
  have Hw0 := Lib.hid hw0
  have Hcs := Lib.hid hcs
  have Hdl := Lib.hid hdl
  have Hpl := Lib.hid hpl
  have Hx := Lib.hid hx
  have G0 := Lib.hid g0
  have G1 := Lib.hid g1
  have Gfi := Lib.hid (fun W (h : AcC w cs ls Ad nd cd pf Ap np cp W) => run_load_agg (agg26 W) (size26 W) w.heap.size 3 (fi.map B) (by simp [hfi]) fun j u hu => (h.box.cell (3 + j)).trans (gfi j u hu))
  have Hfi := Lib.hid hfi
  have G35 := Lib.hid g35
  clear hw0 hcs hdl hpl hx g0 g1 g35 gfi k0 hd hp hfi hbl
  have c0 : w0.cell? ⟨w.heap.size, 0, none⟩ = some (.slice Ad nd cd) := by rw [hC.box.cell]; exact G0.out
  by_cases hbig : 300 < nd
  · have hbg : decide ((300 : Int) < (nd : Int)) = true := by simp; omega
    go_enter Try.func5, Try.ntmps5
    go_wp2_with (first
      | ((with_reducible show wpList _ _ _ (⟨some 3, .box _ _, _, _, _, _⟩ :: _) _ _); refine wpList_run rfl (.pointer (some ⟨w.heap.size, 0, none⟩)) w0 (by rw [← Hw0.out]; rfl) ?_; simp only [Act.put])
      | (go_at_call 13; refine (large13_any _ _ _ _).mono ?_; rintro e w1 ⟨rfl, hww⟩; obtain rfl := hww.symm)
      | (go_at_call 14; refine (known13_any _).mono ?_; rintro e w2 ⟨rfl, hb2⟩))
    go_ret
    exact ⟨rfl, hb0.trans (hb2.mono hb0.size)⟩
  have hbg : decide ((300 : Int) < (nd : Int)) = false := by simp; omega
  have hnd : nd ≤ 300 := by omega
  go_enter Try.func5, Try.ntmps5
  go_wp2_with (first
      | ((with_reducible show wpList _ _ _ (⟨some 3, .box _ _, _, _, _, _⟩ :: _) _ _); refine wpList_run rfl (.pointer (some ⟨w.heap.size, 0, none⟩)) w0 (by rw [← Hw0.out]; rfl) ?_; simp only [Act.put])
      | (go_at_call 13; refine (large13_any _ _ _ _).mono ?_; rintro e w1 ⟨rfl, hww⟩; obtain rfl := hww.symm)
      | (go_at_call 15; refine (number13_any _ _).mono ?_; rintro e w1 ⟨rfl, hww⟩; obtain rfl := hww.symm))
  obtain ⟨k, hk⟩ : ∃ k, numK kd = k := ⟨_, rfl⟩
  have hk5 := numK_cases kd
  rw [hk] at hk5
  try rw [hk]
  clear hk
  have Hk5 := Lib.hid hk5
  clear hk5
  refine (lent13_any ls Ad nd cd w0 hC.es.all (by omega) (fun x hx => Nat.le_trans (Hx.out x hx) (by decide))).mono ?_
  rintro e w2 ⟨Am, cm, rfl, hLm, hb2⟩
  replace hC := hC.step hb2
  obtain ⟨v1, w3a, P3, pc, w3, hrp1, hrp2, hp3, hb3⟩ := p77_own pf Ap np cp w2 (hC.pfs.weak fun _ _ _ => trivial) (by omega)
  have hC3 := hC.step hb3
  have hL : AcL w3.heap.size ls Am nd cm pf P3 np pc w3 := ⟨(hLm.step hb3).weak fun _ hb _ => hb, hp3.weak fun _ hb _ => hb⟩
  have hcm := hLm.lt
  have hcmm := hLm.max
  unfold maxLen at hcmm
  have hpc := hp3.sl.room
  have hpcm := hp3.sl.max
  unfold maxLen at hpcm
  have c0 : w2.cell? ⟨w.heap.size, 0, none⟩ = some (.slice Ad nd cd) := by rw [hC.box.cell]; exact G0.out
  have c35 : w2.cell? ⟨w.heap.size, 35, none⟩ = some (.slice Ap np cp) := by rw [hC.box.cell]; exact G35.out
  have hwN : w.heap.size < w3.heap.size := hC3.box.lt
  have Hrp1 := Lib.hid hrp1
  have Hrp2 := Lib.hid hrp2
  clear hrp1 hrp2 hLm hp3 hb2 hb3 hC hb0
  go_wp2_with (first
    | ((with_reducible show wpList _ _ _ (⟨some 25, .call _, _, _, _, _⟩ :: _) _ _); refine wpList_run rfl v1 w3a (run_append_op (.const (.slice none 0 0)) (.tmp 24) 26 rfl _ _ rfl rfl Hrp1.out) ?_; simp only [Act.put])
    | ((with_reducible show wpList _ _ _ (⟨some 26, .build _ _, _, _, _, _⟩ :: _) _ _); refine wpList_run0 rfl (.agg (h77.map B).toArray) (by kernel_rfl) ?_; simp only [Act.put])
    | ((with_reducible show wpList _ _ _ (⟨some 27, .buildSlice _ _ _, _, _, _, _⟩ :: _) _ _); refine wpList_run rfl _ _ (run_lit_op [h77] h77_32 (by simp) (by simp) 1 _ rfl (by simp [Act.eval]) rfl _) ?_; simp only [Act.put])
    | ((with_reducible show wpList _ _ _ (⟨some 28, .call _, _, _, _, _⟩ :: _) _ _); refine wpList_run rfl (.slice P3 (np + 1) pc) w3 (run_append_op (.tmp 25) (.tmp 27) 26 rfl _ _ rfl rfl Hrp2.out) ?_; simp only [Act.put]))
  clear c0 c35
  have hin := fun W (h : AcL w3.heap.size ls Am nd cm pf P3 np pc W) => cons13_any k Hk5.out ls Am nd cm i fi pf P3 np pc W h.lm.es.all Hfi.out (h.pfs Hpl.out)
  have hrin := fun W (h : AcC w cs ls Ad nd cd pf Ap np cp W) => rcons_any k ls Ad nd cd i fi pf Ap np cp W h.es.all Hfi.out (h.pfs.weak fun _ _ _ => trivial)
  obtain ⟨⟨⟨r1, r2⟩, rc⟩, hres⟩ : ∃ r, consC (hashK k) ls i fi pf = r := ⟨_, rfl⟩
  rw [hres] at hin hrin
  have Hin := Lib.hid hin
  have Hrin := Lib.hid hrin
  have Hres := Lib.hid hres
  clear hin hrin hres
  have e0 : ∀ s : InC (fun W => Below w3.heap.size w3 W), s.W.cell? ⟨w.heap.size, 0, none⟩ = some (.slice Ad nd cd) := fun s => by rw [(hC3.step s.ok).box.cell]; exact G0.out
  have e1 : ∀ s : InC (fun W => Below w3.heap.size w3 W), s.W.cell? ⟨w.heap.size, 1, none⟩ = some (.int .i64 i) := fun s => by rw [(hC3.step s.ok).box.cell]; exact G1.out
  have e35 : ∀ s : InC (fun W => Below w3.heap.size w3 W), s.W.cell? ⟨w.heap.size, 35, none⟩ = some (.slice Ap np cp) := fun s => by rw [(hC3.step s.ok).box.cell]; exact G35.out
  have hS : Below w3.heap.size w3 w3.drew := (Below.refl _ _).drew
  refine wp_region_begin (fun W => Below w3.heap.size w3 W) (by kernel_rfl) hS fun _ => ?_
  generalize w3.drew = u7 at hS ⊢
  refine wpAnyH_pre (f := 7) (by kernel_rfl) #[true, true, true, true, true, true, true, true, true, true, true, false, false, false, false, false, false, false] [(0, true), (1, true), (2, true), (3, true), (4, true), (5, true), (6, true), (7, true), (8, true), (9, true), (10, true)] _ _ _ (by kernel_rfl) hS ?_
  simp only [List.map_cons, List.map_nil, Array.getD_eq_getD_getElem?, List.getElem?_toArray, List.getElem?_cons_succ, List.getElem?_cons_zero, Option.getD_some]
  refine wpMix_s (fun K hK => ?_)
  go_simp
  refine hK _ ?_
  clear hK K
  refine wpMix_s (fun K hK => ?_)
  go_simp
  refine hK _ ?_
  clear hK K
  refine wpMix_s (fun K hK => ?_)
  go_simp
  refine hK _ ?_
  clear hK K
  refine wpMix_s (fun K hK => ?_)
  go_simp
  refine hK _ ?_
  clear hK K
  refine wpMix_s (fun K hK => ?_)
  go_simp
  refine hK _ ?_
  clear hK K
  refine wpMix_load (by kernel_rfl) 25 (.tmp 34) rfl (w.heap.size) (3) rfl (fi.map B).toArray ((fun s => Gfi.out s.W (hC3.step s.ok))) ?_
  simp only [Act.put]
  refine wpMix_s (fun K hK => ?_)
  go_simp
  refine hK _ ?_
  clear hK K
  refine wpMix_s (fun K hK => ?_)
  go_simp
  refine hK _ ?_
  clear hK K
  refine wpMix_s (fun K hK => ?_)
  go_simp
  refine hK _ ?_
  clear hK K
  refine wpMix_s (fun K hK => ?_)
  go_simp
  refine hK _ ?_
  clear hK K
  refine wpMix_v (by kernel_rfl) (.slice P3 np pc) (fun s => run_slice_op_hi (.tmp 36) (.tmp 39) rfl P3 (np + 1) pc np rfl rfl (by omega) s.W) ?_
  simp only [Act.put]
  refine wpMix_nil ?_
  intro hS
  refine wpAnyH_shared (T := Value × Value × Nat) 2 #[true, true, true, true, true, true, true, true, true, true, true, true, true, true, true, true, false, false] (fun t => [(41, .tuple #[.agg #[t.1, t.2.1], .int .i64 rc]), (29, .tuple #[.agg #[t.1, t.2.1], .int .i64 rc]), (42, .agg #[t.1, t.2.1]), (43, .int .i64 rc), (8, .pointer (some ⟨t.2.2, 0, none⟩))]) (fun t W => Below w3.heap.size w3 W ∧ W.ownsRow w3.heap.size 5 1 t.1 r1.length (r1.map B) ∧ W.ownsRow w3.heap.size 5 1 t.2.1 r2.length (r2.map B) ∧ Blk W t.2.2 34 #[.slice none 0 0, .slice none 0 0] ∧ w3.heap.size ≤ t.2.2) ?tail ?head
  case head =>
    intro key
    simp only [List.foldl_cons, List.foldl_nil, Act.put, List.setIfInBounds_toArray, List.set_cons_succ, List.set_cons_zero] at key
    refine wpAnyH_fork (f := 6) (i := 11) (j := 15) (by kernel_rfl) hS ?_ ?_
    · simp only [Array.getD_eq_getD_getElem?, List.getElem?_toArray, List.getElem?_cons_succ, List.getElem?_cons_zero, Option.getD_some]
      refine wpMix_c (fun K hK => ?_) hS
      go_simp
      refine (Hin.out u7 (hL.step hS)).mono ?_
      rintro e W1_ ⟨v8, rfl, ⟨a_, b_, rfl, h8_, h9_⟩, hb_⟩
      refine hK _ _ ?_
      clear hK K
      replace h8_ := owns_le h8_ hS.size
      replace h9_ := owns_le h9_ hS.size
      have hbn := hS.trans (hb_.mono hS.size)
      refine ⟨hbn, ?_⟩
      refine wpMix_nil ?_
      intro hS1
      show wpAnyH _ _ _ _ _ _ #[true, true, true, true, true, true, true, true, true, true, true, true, false, false, false, false, false, false] _ _
      refine wpAnyH_pre (f := 2) (by kernel_rfl) #[true, true, true, true, true, true, true, true, true, true, true, true, true, true, true, true, false, false] [(12, true), (13, true), (14, true), (15, false)] _ _ _ (by kernel_rfl) hS1 ?_
      simp only [List.map_cons, List.map_nil, Array.getD_eq_getD_getElem?, List.getElem?_toArray, List.getElem?_cons_succ, List.getElem?_cons_zero, Option.getD_some]
      refine wpMix_s (fun K hK => ?_)
      go_simp
      refine hK _ ?_
      clear hK K
      refine wpMix_s (fun K hK => ?_)
      go_simp
      refine hK _ ?_
      clear hK K
      refine wpMix_s (fun K hK => ?_)
      go_simp
      refine hK _ ?_
      clear hK K
      have hgn := hS1.size
      refine wpMix_clnew rfl rfl (fun _ hb => hS1.trans (hb.mono hS1.size)) ?_
      intro W2_ kj hb2_
      simp only [Act.put]
      refine wpMix_nil ?_
      intro _
      exact key (a_, b_, W1_.heap.size) _ ⟨hS1.trans (hb2_.mono hS1.size), owns_step h8_ hb2_, owns_step h9_ hb2_, kj, hgn⟩
    · simp only [Array.getD_eq_getD_getElem?, List.getElem?_toArray, List.getElem?_cons_succ, List.getElem?_cons_zero, Option.getD_some]
      have hgn := hS.size
      refine wpMix_clnew rfl rfl (fun _ hb => hS.trans (hb.mono hS.size)) ?_
      intro W1_ kj hb2_
      simp only [Act.put]
      refine wpMix_nil ?_
      intro hS1
      show wpAnyH _ _ _ _ _ _ #[true, true, true, true, true, true, true, true, true, true, true, false, false, false, false, true, false, false] _ _
      refine wpAnyH_pre (f := 2) (by kernel_rfl) #[true, true, true, true, true, true, true, true, true, true, true, true, true, true, true, true, false, false] [(11, false), (12, true), (13, true), (14, true)] _ _ _ (by kernel_rfl) hS1 ?_
      simp only [List.map_cons, List.map_nil, Array.getD_eq_getD_getElem?, List.getElem?_toArray, List.getElem?_cons_succ, List.getElem?_cons_zero, Option.getD_some]
      refine wpMix_c (fun K hK => ?_) hS1
      go_simp
      refine (Hin.out W1_ (hL.step hS1)).mono ?_
      rintro e W2_ ⟨v8, rfl, ⟨a_, b_, rfl, h8_, h9_⟩, hb_⟩
      refine hK _ _ ?_
      clear hK K
      replace h8_ := owns_le h8_ hS1.size
      replace h9_ := owns_le h9_ hS1.size
      have hbn := hS1.trans (hb_.mono hS1.size)
      refine ⟨hbn, ?_⟩
      refine wpMix_s (fun K hK => ?_)
      go_simp
      refine hK _ ?_
      clear hK K
      refine wpMix_s (fun K hK => ?_)
      go_simp
      refine hK _ ?_
      clear hK K
      refine wpMix_s (fun K hK => ?_)
      go_simp
      refine hK _ ?_
      clear hK K
      refine wpMix_nil ?_
      intro _
      exact key (a_, b_, u7.heap.size) _ ⟨hbn, h8_, h9_, kj.step hb_, hgn⟩
  case tail =>
    clear hS
    rintro ⟨a8, a9, g9⟩ u7t ⟨hS, hoa8, hoa9, k9, hg9⟩
    dsimp only at hoa8 hoa9 k9 hg9
    simp only [List.foldl_cons, List.foldl_nil, Act.put, List.setIfInBounds_toArray, List.set_cons_succ, List.set_cons_zero]
    refine wpAnyH_pre (f := 0) (by kernel_rfl) #[true, true, true, true, true, true, true, true, true, true, true, true, true, true, true, true, true, true] [(16, false), (17, true)] _ _ _ (by kernel_rfl) hS ?_
    simp only [List.map_cons, List.map_nil, Array.getD_eq_getD_getElem?, List.getElem?_toArray, List.getElem?_cons_succ, List.getElem?_cons_zero, Option.getD_some]
    refine wpMix_clset (.tmp 8) (.tmp 42) rfl rfl k9 rfl rfl (owns_oneCell hoa8) (owns_oneCell hoa9) (fun _ hb => hS.trans (hb.mono hg9)) ?_
    intro u7ts k9s hb' hgw
    simp only [Act.put]
    replace hS := hS.trans (hb'.mono hg9)
    replace hoa8 := hoa8.kept hgw (owns_ne_clash hoa8 k9)
    replace hoa9 := hoa9.kept hgw (owns_ne_clash hoa9 k9)
    clear hb' hgw k9
    refine wpMix_s (fun K hK => ?_)
    go_simp
    refine hK _ ?_
    clear hK K
    refine wpMix_nil ?_
    intro _
    refine wpAnyH_end (by kernel_rfl) ?_
    clear e0 e1 e35
    have hC7 := hC3.step hS
    have hL7 := hL.step hS
    have hz4 := hS.size
    have hOA8 : ∀ r, a8.ownBlock = some r → w3.heap.size ≤ r ∧ r < u7ts.heap.size := fun r e => hoa8.lt r e
    have hOA9 : ∀ r, a9.ownBlock = some r → w3.heap.size ≤ r ∧ r < u7ts.heap.size := fun r e => hoa9.lt r e
    have HOA8 := Lib.hid hOA8
    have HOA9 := Lib.hid hOA9
    clear hC3 hL hS hOA8 hOA9
    go_wp2_with fail
    have e0 : ∀ s : InC (fun W => Below u7ts.heap.size u7ts W), s.W.cell? ⟨w.heap.size, 0, none⟩ = some (.slice Ad nd cd) := fun s => by rw [(hC7.step s.ok).box.cell]; exact G0.out
    have e1 : ∀ s : InC (fun W => Below u7ts.heap.size u7ts W), s.W.cell? ⟨w.heap.size, 1, none⟩ = some (.int .i64 i) := fun s => by rw [(hC7.step s.ok).box.cell]; exact G1.out
    have e35 : ∀ s : InC (fun W => Below u7ts.heap.size u7ts W), s.W.cell? ⟨w.heap.size, 35, none⟩ = some (.slice Ap np cp) := fun s => by rw [(hC7.step s.ok).box.cell]; exact G35.out
    have hS : Below u7ts.heap.size u7ts u7ts.drew := (Below.refl _ _).drew
    refine wp_region_begin (fun W => Below u7ts.heap.size u7ts W) (by kernel_rfl) hS fun _ => ?_
    generalize u7ts.drew = u8 at hS ⊢
    refine wpAnyH_pre (f := 7) (by kernel_rfl) #[true, true, true, true, true, true, true, true, true, true, true, false, false, false, false, false, false, false] [(0, true), (1, true), (2, true), (3, true), (4, true), (5, true), (6, true), (7, true), (8, true), (9, true), (10, true)] _ _ _ (by kernel_rfl) hS ?_
    simp only [List.map_cons, List.map_nil, Array.getD_eq_getD_getElem?, List.getElem?_toArray, List.getElem?_cons_succ, List.getElem?_cons_zero, Option.getD_some]
    refine wpMix_s (fun K hK => ?_)
    go_simp
    refine hK _ ?_
    clear hK K
    refine wpMix_s (fun K hK => ?_)
    go_simp
    refine hK _ ?_
    clear hK K
    refine wpMix_s (fun K hK => ?_)
    go_simp
    refine hK _ ?_
    clear hK K
    refine wpMix_s (fun K hK => ?_)
    go_simp
    refine hK _ ?_
    clear hK K
    refine wpMix_s (fun K hK => ?_)
    go_simp
    refine hK _ ?_
    clear hK K
    refine wpMix_load (by kernel_rfl) 25 (.tmp 49) rfl (w.heap.size) (3) rfl (fi.map B).toArray ((fun s => Gfi.out s.W (hC7.step s.ok))) ?_
    simp only [Act.put]
    refine wpMix_s (fun K hK => ?_)
    go_simp
    refine hK _ ?_
    clear hK K
    refine wpMix_s (fun K hK => ?_)
    go_simp
    refine hK _ ?_
    clear hK K
    refine wpMix_s (fun K hK => ?_)
    go_simp
    refine hK _ ?_
    clear hK K
    refine wpMix_s (fun K hK => ?_)
    go_simp
    refine hK _ ?_
    clear hK K
    refine wpMix_v (by kernel_rfl) (.slice P3 np pc) (fun s => run_slice_op_hi (.tmp 51) (.tmp 54) rfl P3 (np + 1) pc np rfl rfl (by omega) s.W) ?_
    simp only [Act.put]
    refine wpMix_nil ?_
    intro hS
    refine wpAnyH_shared (T := Value × Value × Nat) 2 #[true, true, true, true, true, true, true, true, true, true, true, true, true, true, true, true, false, false] (fun t => [(56, .tuple #[.agg #[t.1, t.2.1], .int .i64 rc]), (44, .tuple #[.agg #[t.1, t.2.1], .int .i64 rc]), (57, .agg #[t.1, t.2.1]), (58, .int .i64 rc), (10, .pointer (some ⟨t.2.2, 0, none⟩))]) (fun t W => Below u7ts.heap.size u7ts W ∧ W.ownsRow u7ts.heap.size 5 1 t.1 r1.length (r1.map B) ∧ W.ownsRow u7ts.heap.size 5 1 t.2.1 r2.length (r2.map B) ∧ Blk W t.2.2 34 #[.slice none 0 0, .slice none 0 0] ∧ u7ts.heap.size ≤ t.2.2) ?tail ?head
    case head =>
      intro key
      simp only [List.foldl_cons, List.foldl_nil, Act.put, List.setIfInBounds_toArray, List.set_cons_succ, List.set_cons_zero] at key
      refine wpAnyH_fork (f := 6) (i := 11) (j := 15) (by kernel_rfl) hS ?_ ?_
      · simp only [Array.getD_eq_getD_getElem?, List.getElem?_toArray, List.getElem?_cons_succ, List.getElem?_cons_zero, Option.getD_some]
        refine wpMix_c (fun K hK => ?_) hS
        go_simp
        refine (Hin.out u8 (hL7.step hS)).mono ?_
        rintro e W1_ ⟨v8, rfl, ⟨a_, b_, rfl, h8_, h9_⟩, hb_⟩
        refine hK _ _ ?_
        clear hK K
        replace h8_ := owns_le h8_ hS.size
        replace h9_ := owns_le h9_ hS.size
        have hbn := hS.trans (hb_.mono hS.size)
        refine ⟨hbn, ?_⟩
        refine wpMix_nil ?_
        intro hS1
        show wpAnyH _ _ _ _ _ _ #[true, true, true, true, true, true, true, true, true, true, true, true, false, false, false, false, false, false] _ _
        refine wpAnyH_pre (f := 2) (by kernel_rfl) #[true, true, true, true, true, true, true, true, true, true, true, true, true, true, true, true, false, false] [(12, true), (13, true), (14, true), (15, false)] _ _ _ (by kernel_rfl) hS1 ?_
        simp only [List.map_cons, List.map_nil, Array.getD_eq_getD_getElem?, List.getElem?_toArray, List.getElem?_cons_succ, List.getElem?_cons_zero, Option.getD_some]
        refine wpMix_s (fun K hK => ?_)
        go_simp
        refine hK _ ?_
        clear hK K
        refine wpMix_s (fun K hK => ?_)
        go_simp
        refine hK _ ?_
        clear hK K
        refine wpMix_s (fun K hK => ?_)
        go_simp
        refine hK _ ?_
        clear hK K
        have hgn := hS1.size
        refine wpMix_clnew rfl rfl (fun _ hb => hS1.trans (hb.mono hS1.size)) ?_
        intro W2_ kj hb2_
        simp only [Act.put]
        refine wpMix_nil ?_
        intro _
        exact key (a_, b_, W1_.heap.size) _ ⟨hS1.trans (hb2_.mono hS1.size), owns_step h8_ hb2_, owns_step h9_ hb2_, kj, hgn⟩
      · simp only [Array.getD_eq_getD_getElem?, List.getElem?_toArray, List.getElem?_cons_succ, List.getElem?_cons_zero, Option.getD_some]
        have hgn := hS.size
        refine wpMix_clnew rfl rfl (fun _ hb => hS.trans (hb.mono hS.size)) ?_
        intro W1_ kj hb2_
        simp only [Act.put]
        refine wpMix_nil ?_
        intro hS1
        show wpAnyH _ _ _ _ _ _ #[true, true, true, true, true, true, true, true, true, true, true, false, false, false, false, true, false, false] _ _
        refine wpAnyH_pre (f := 2) (by kernel_rfl) #[true, true, true, true, true, true, true, true, true, true, true, true, true, true, true, true, false, false] [(11, false), (12, true), (13, true), (14, true)] _ _ _ (by kernel_rfl) hS1 ?_
        simp only [List.map_cons, List.map_nil, Array.getD_eq_getD_getElem?, List.getElem?_toArray, List.getElem?_cons_succ, List.getElem?_cons_zero, Option.getD_some]
        refine wpMix_c (fun K hK => ?_) hS1
        go_simp
        refine (Hin.out W1_ (hL7.step hS1)).mono ?_
        rintro e W2_ ⟨v8, rfl, ⟨a_, b_, rfl, h8_, h9_⟩, hb_⟩
        refine hK _ _ ?_
        clear hK K
        replace h8_ := owns_le h8_ hS1.size
        replace h9_ := owns_le h9_ hS1.size
        have hbn := hS1.trans (hb_.mono hS1.size)
        refine ⟨hbn, ?_⟩
        refine wpMix_s (fun K hK => ?_)
        go_simp
        refine hK _ ?_
        clear hK K
        refine wpMix_s (fun K hK => ?_)
        go_simp
        refine hK _ ?_
        clear hK K
        refine wpMix_s (fun K hK => ?_)
        go_simp
        refine hK _ ?_
        clear hK K
        refine wpMix_nil ?_
        intro _
        exact key (a_, b_, u8.heap.size) _ ⟨hbn, h8_, h9_, kj.step hb_, hgn⟩
    case tail =>
      clear hS
      rintro ⟨b8, b9, g11⟩ u8t ⟨hS, hob8, hob9, k11, hg11⟩
      dsimp only at hob8 hob9 k11 hg11
      simp only [List.foldl_cons, List.foldl_nil, Act.put, List.setIfInBounds_toArray, List.set_cons_succ, List.set_cons_zero]
      refine wpAnyH_pre (f := 0) (by kernel_rfl) #[true, true, true, true, true, true, true, true, true, true, true, true, true, true, true, true, true, true] [(16, false), (17, true)] _ _ _ (by kernel_rfl) hS ?_
      simp only [List.map_cons, List.map_nil, Array.getD_eq_getD_getElem?, List.getElem?_toArray, List.getElem?_cons_succ, List.getElem?_cons_zero, Option.getD_some]
      refine wpMix_clset (.tmp 10) (.tmp 57) rfl rfl k11 rfl rfl (owns_oneCell hob8) (owns_oneCell hob9) (fun _ hb => hS.trans (hb.mono hg11)) ?_
      intro u8ts k11s hb' hgw
      simp only [Act.put]
      replace hS := hS.trans (hb'.mono hg11)
      replace hob8 := hob8.kept hgw (owns_ne_clash hob8 k11)
      replace hob9 := hob9.kept hgw (owns_ne_clash hob9 k11)
      clear hb' hgw k11
      refine wpMix_s (fun K hK => ?_)
      go_simp
      refine hK _ ?_
      clear hK K
      refine wpMix_nil ?_
      intro _
      refine wpAnyH_end (by kernel_rfl) ?_
      clear e0 e1 e35
      have hC8 := hC7.step hS
      have hL8 := hL7.step hS
      replace k9s := k9s.step hS
      replace hoa8 := owns_step hoa8 hS
      replace hoa9 := owns_step hoa9 hS
      have hz7 := hS.size
      clear hC7 hL7 hS
      have c0 : u8ts.cell? ⟨w.heap.size, 0, none⟩ = some (.slice Ad nd cd) := by rw [hC8.box.cell]; exact G0.out
      have c1 : u8ts.cell? ⟨w.heap.size, 1, none⟩ = some (.int .i64 i) := by rw [hC8.box.cell]; exact G1.out
      have c35 : u8ts.cell? ⟨w.heap.size, 35, none⟩ = some (.slice Ap np cp) := by rw [hC8.box.cell]; exact G35.out
      go_wp2_with (first
        | ((with_reducible show wpList _ _ _ (⟨some 66, .load _ _, _, _, _, _⟩ :: _) _ _); refine wpList_run0 rfl (.agg (fi.map B).toArray) (run_load_op 25 (.tmp 65) rfl w.heap.size 3 rfl _ (Gfi.out _ hC8)) ?_; simp only [Act.put])
        | (go_at_call 30; refine (Hrin.out _ hC8).mono ?_; rintro e w9 ⟨v9, rfl, ⟨d8, d9, rfl, hod8, hod9⟩, hb9⟩)
        | ((with_reducible show wpList _ _ _ (⟨some 12, .alloc _, _, _, _, _⟩ :: _) _ _); refine wpList_clvar (.tmp 12) (.tmp 70) rfl rfl rfl rfl rfl rfl (owns_oneCell hod8) (owns_oneCell hod9) ?_; intro w10 k13 hb10; simp only [Act.put]))
      have hb11 := hb9.trans (hb10.mono hb9.size)
      have hC10 := hC8.step hb11
      have hL10 := hL8.step hb11
      replace k9s := k9s.step hb11
      replace k11s := k11s.step hb11
      replace hoa8 := owns_step hoa8 hb11
      replace hoa9 := owns_step hoa9 hb11
      replace hob8 := owns_step hob8 hb11
      replace hob9 := owns_step hob9 hb11
      replace hod8 := owns_step hod8 hb10
      replace hod9 := owns_step hod9 hb10
      have hz8 := hb11.size
      have hz9 := hb9.size
      clear c0 c1 c35 hC8 hL8 hb9 hb10 hb11
      obtain ⟨A8, ac8, rfl, sa8⟩ := owns_sl hoa8
      obtain ⟨A9, ac9, rfl, sa9⟩ := owns_sl hoa9
      obtain ⟨B8, bc8, rfl, sb8⟩ := owns_sl hob8
      obtain ⟨B9, bc9, rfl, sb9⟩ := owns_sl hob9
      obtain ⟨D8, dc8, rfl, sd8⟩ := owns_sl hod8
      obtain ⟨D9, dc9, rfl, sd9⟩ := owns_sl hod9
      have hlen := consC_len (hashK k) (length_hashK k) ls i fi pf Hfi.out hC10.pfs.all
      rw [Hres.out] at hlen
      have hl1 : r1.length ≤ 4097 := hlen.1
      have hl2 : r2.length ≤ 4097 := hlen.2
      have hisc : rc = 0 → isC (hashK k) (r1, r2) = true := fun h => by
        have h9 := consC_is (hashK k) (length_hashK k) ls i fi pf Hfi.out hC10.pfs.all (by rw [Hres.out]; exact h)
        rwa [Hres.out] at h9
      have Hisc := Lib.hid hisc
      have Hl1 := Lib.hid hl1
      have Hl2 := Lib.hid hl2
      clear hlen hisc hl1 hl2
      obtain ⟨m1, hm1⟩ : ∃ m, r1.length = m := ⟨_, rfl⟩
      obtain ⟨m2, hm2⟩ : ∃ m, r2.length = m := ⟨_, rfl⟩
      rw [hm1] at sa8 sb8 sd8 Hl1
      rw [hm2] at sa9 sb9 sd9 Hl2
      rw [hm1] at hoa8 hob8 hod8
      rw [hm2] at hoa9 hob9 hod9
      try rw [hm1] at k9s k11s k13
      try rw [hm2] at k9s k11s k13
      have Hm1 := Lib.hid hm1
      have Hm2 := Lib.hid hm2
      clear hm1 hm2
      have hp10 := hL10.p
      obtain ⟨bp, op, rfl, -, -, -⟩ := hp10.at_ (by omega)
      have hget := fun W (hb : Below w10.heap.size w10 W) => (hL10.step hb).p.get rfl np (Nat.lt_succ_self np)
      rw [show (pf ++ [h77]).getD np [] = h77 by rw [List.getD_eq_getElem?_getD, List.getElem?_append_right (by rw [Hpl.out]; exact Nat.le_refl _), Hpl.out, Nat.sub_self]; rfl] at hget
      have Hget := Lib.hid hget
      have hnp1 : (np : Int) < (np : Int) + 1 := by omega
      clear hget hp10
      have e0 : ∀ s : InC (fun W => Below w10.heap.size w10 W), s.W.cell? ⟨w.heap.size, 0, none⟩ = some (.slice Ad nd cd) := fun s => by rw [(hC10.step s.ok).box.cell]; exact G0.out
      have e1 : ∀ s : InC (fun W => Below w10.heap.size w10 W), s.W.cell? ⟨w.heap.size, 1, none⟩ = some (.int .i64 i) := fun s => by rw [(hC10.step s.ok).box.cell]; exact G1.out
      have e35 : ∀ s : InC (fun W => Below w10.heap.size w10 W), s.W.cell? ⟨w.heap.size, 35, none⟩ = some (.slice Ap np cp) := fun s => by rw [(hC10.step s.ok).box.cell]; exact G35.out
      have hS : Below w10.heap.size w10 w10.drew := (Below.refl _ _).drew
      refine wp_region_mix (fun W => Below w10.heap.size w10 W) [(0, true), (2, true), (1, false), (3, true), (4, true), (5, true), (6, true), (7, false), (8, true), (9, true), (10, true), (11, true), (12, true), (13, true), (14, false), (15, true), (16, true), (17, true), (18, true), (19, true), (20, true), (21, true), (22, true), (23, true), (24, true), (25, false), (26, true), (27, true), (28, true), (29, true), (30, true), (31, true), (32, true), (33, true), (34, true), (35, true), (36, true), (37, true)] (by kernel_rfl) (by kernel_rfl) hS fun _ => ?_
      simp only [List.map_cons, List.map_nil, Array.getD_eq_getD_getElem?, List.getElem?_toArray, List.getElem?_cons_succ, List.getElem?_cons_zero, Option.getD_some]
      generalize w10.drew = u10 at hS ⊢
      refine wpMix_s (fun K hK => ?_)
      go_simp
      refine hK _ ?_
      clear hK K
      refine wpMix_s (fun K hK => ?_)
      go_simp
      refine hK _ ?_
      clear hK K
      refine wpMix_c (fun K hK => ?_) hS
      go_simp
      refine (num13_any rc u10).mono ?_
      rintro e u10e ⟨rfl, hww⟩
      obtain rfl := hww.symm
      refine hK _ _ ?_
      clear hK K
      refine ⟨hS, ?_⟩
      refine wpMix_s (fun K hK => ?_)
      go_simp
      refine hK _ ?_
      clear hK K
      refine wpMix_s (fun K hK => ?_)
      go_simp
      refine hK _ ?_
      clear hK K
      refine wpMix_v (by kernel_rfl) (.agg #[.slice A8 m1 ac8, .slice A9 m2 ac9]) (fun s => run_load_op 34 (.tmp 8) rfl g9 0 rfl _ (cl_load (k9s.step s.ok))) ?_
      simp only [Act.put]
      refine wpMix_v (by kernel_rfl) (.agg #[.slice D8 m1 dc8, .slice D9 m2 dc9]) (fun s => run_load_op 34 (.tmp 12) rfl w9.heap.size 0 rfl _ (cl_load (k13.step s.ok))) ?_
      simp only [Act.put]
      refine wpMix_c (fun K hK => ?_) hS
      go_simp
      refine (csame_any r1 r2 A8 A9 D8 D9 m1 ac8 m2 ac9 dc8 dc9 u10 (sa8.step hS).all (sa9.step hS).all (sd8.step hS).all (sd9.step hS).all).mono ?_
      rintro e u10_1 ⟨rfl, hb'⟩
      refine hK _ _ ?_
      clear hK K
      replace hS := hS.trans (hb'.mono hS.size)
      refine ⟨hS, ?_⟩
      clear hb'
      refine wpMix_s (fun K hK => ?_)
      go_simp
      refine hK _ ?_
      clear hK K
      refine wpMix_s (fun K hK => ?_)
      go_simp
      refine hK _ ?_
      clear hK K
      refine wpMix_s (fun K hK => ?_)
      go_simp
      refine hK _ ?_
      clear hK K
      refine wpMix_s (fun K hK => ?_)
      go_simp
      refine hK _ ?_
      clear hK K
      refine wpMix_s (fun K hK => ?_)
      go_simp
      refine hK _ ?_
      clear hK K
      refine wpMix_s (fun K hK => ?_)
      go_simp
      refine hK _ ?_
      clear hK K
      refine wpMix_c (fun K hK => ?_) hS
      go_simp
      refine (left13_any ls Am Ad nd cm cd u10_1 (hL10.step hS).lm.all (hC10.step hS).es.all (by omega)).mono ?_
      rintro e u10_2 ⟨rfl, hb'⟩
      refine hK _ _ ?_
      clear hK K
      replace hS := hS.trans (hb'.mono hS.size)
      refine ⟨hS, ?_⟩
      clear hb'
      refine wpMix_s (fun K hK => ?_)
      go_simp
      refine hK _ ?_
      clear hK K
      refine wpMix_s (fun K hK => ?_)
      go_simp
      refine hK _ ?_
      clear hK K
      refine wpMix_s (fun K hK => ?_)
      go_simp
      refine hK _ ?_
      clear hK K
      refine wpMix_s (fun K hK => ?_)
      go_simp
      refine hK _ ?_
      clear hK K
      refine wpMix_s (fun K hK => ?_)
      go_simp
      refine hK _ ?_
      clear hK K
      refine wpMix_s (fun K hK => ?_)
      go_simp
      refine hK _ ?_
      clear hK K
      refine wpMix_s (fun K hK => ?_)
      go_simp
      refine hK _ ?_
      clear hK K
      refine wpMix_v (by kernel_rfl) (.slice (some ⟨bp, op, none⟩) np pc) (fun s => run_slice_op_hi (.tmp 90) (.tmp 93) rfl (some ⟨bp, op, none⟩) (np + 1) pc np rfl rfl (by omega) s.W) ?_
      simp only [Act.put]
      refine wpMix_s (fun K hK => ?_)
      go_simp
      refine hK _ ?_
      clear hK K
      refine wpMix_s (fun K hK => ?_)
      go_simp
      refine hK _ ?_
      clear hK K
      refine wpMix_c (fun K hK => ?_) hS
      go_simp
      refine (sameh1_any pf (some ⟨bp, op, none⟩) Ap np pc cp u10_2 ((hL10.step hS).pfs Hpl.out) (((hC10.step hS).pfs).weak fun _ _ _ => trivial) (by omega)).mono ?_
      rintro e u10_3 ⟨rfl, hb'⟩
      refine hK _ _ ?_
      clear hK K
      replace hS := hS.trans (hb'.mono hS.size)
      refine ⟨hS, ?_⟩
      clear hb'
      refine wpMix_s (fun K hK => ?_)
      go_simp
      refine hK _ ?_
      clear hK K
      refine wpMix_s (fun K hK => ?_)
      go_simp
      refine hK _ ?_
      clear hK K
      refine wpMix_s (fun K hK => ?_)
      go_simp
      refine hK _ ?_
      clear hK K
      refine wpMix_s (fun K hK => ?_)
      go_simp
      refine hK _ ?_
      clear hK K
      refine wpMix_s (fun K hK => ?_)
      go_simp
      refine hK _ ?_
      clear hK K
      refine wpMix_s (fun K hK => ?_)
      go_simp
      refine hK _ ?_
      clear hK K
      refine wpMix_s (fun K hK => ?_)
      go_simp
      refine hK _ ?_
      clear hK K
      refine wpMix_s (fun K hK => ?_)
      go_simp
      refine hK _ ?_
      clear hK K
      refine wpMix_load (by kernel_rfl) 25 (.tmp 105) rfl (bp) (op + np * 32) rfl (h77.map B).toArray ((fun s => Hget.out s.W s.ok)) ?_
      simp only [Act.put]
      refine wpMix_v (by kernel_rfl) (.agg (h77.map B).toArray) (fun s => by kernel_rfl) ?_
      simp only [Act.put]
      refine wpMix_v (by kernel_rfl) (.bool false) (fun s => run_neq26_f (.tmp 106) (.tmp 107) _ h77 h77 rfl rfl rfl h77_len h77_len rfl s.W) ?_
      simp only [Act.put]
      refine wpMix_s (fun K hK => ?_)
      go_simp
      refine hK _ ?_
      clear hK K
      refine wpMix_nil ?_
      intro _
      clear e0 e1 e35
      have hC11 := hC10.step hS
      have hL11 := hL10.step hS
      replace k9s := k9s.step hS
      replace k11s := k11s.step hS
      replace k13 := k13.step hS
      replace hoa8 := owns_step hoa8 hS
      replace hoa9 := owns_step hoa9 hS
      replace sa8 := (sa8.step hS).all
      replace sa9 := (sa9.step hS).all
      replace sb8 := sb8.step hS
      replace sb9 := sb9.step hS
      replace sd8 := sd8.step hS
      replace sd9 := sd9.step hS
      have hz10 := hS.size
      clear hC10 hL10 hS Hget hob8 hob9 hod8 hod9
      by_cases hrc : rc = 0
      · subst hrc
        have hq1 := fun W (hb : Below u10_3.heap.size u10_3 W) => is13_any k Hk5.out r1 r2 A8 A9 m1 ac8 m2 ac9 W (sa8.step hb) (sa9.step hb) (Nat.le_trans Hl1.out (by decide)) (Nat.le_trans Hl2.out (by decide))
        have hq2 := fun W (hb : Below u10_3.heap.size u10_3 W) => ris_any k r1 r2 A8 A9 m1 ac8 m2 ac9 W (sa8.step hb) (sa9.step hb) (Nat.le_trans Hl1.out (by decide)) (Nat.le_trans Hl2.out (by decide))
        rw [Hisc.out rfl] at hq1 hq2
        have Hq1 := Lib.hid hq1
        have Hq2 := Lib.hid hq2
        clear hq1 hq2
        go_wp2_with (first
          | ((with_reducible show wpList _ _ _ (⟨some 114, .load _ _, _, _, _, _⟩ :: _) _ _); refine wpList_runG (by kernel_rfl) (.agg #[.slice A8 m1 ac8, .slice A9 m2 ac9]) _ (run_load_op 34 (.tmp 8) rfl g9 0 rfl _ (cl_load k9s)) ?_; simp only [Act.put])
          | ((with_reducible show wpList _ _ _ (⟨some 119, .load _ _, _, _, _, _⟩ :: _) _ _); refine wpList_runG (by kernel_rfl) (.agg #[.slice A8 m1 ac8, .slice A9 m2 ac9]) _ (run_load_op 34 (.tmp 8) rfl g9 0 rfl _ (cl_load k9s)) ?_; simp only [Act.put])
          | (go_at_call 24; refine (Hq1.out _ (Below.refl _ _)).mono ?_; rintro e w12 ⟨rfl, hb12⟩; replace k9s := k9s.step hb12)
          | (go_at_call 25; refine (Hq2.out _ hb12).mono ?_; rintro e w13 ⟨rfl, hb13⟩; replace k9s := k9s.step hb13)
          | ((with_reducible show wpList _ _ _ (⟨some 124, .load _ _, _, _, _, _⟩ :: _) _ _); refine wpList_runG (by kernel_rfl) (.agg #[.slice A8 m1 ac8, .slice A9 m2 ac9]) _ (run_load_op 34 (.tmp 8) rfl g9 0 rfl _ (cl_load k9s)) ?_; simp only [Act.put]))
        have hb14 := hb12.trans (hb13.mono hb12.size)
        refine (spoil13_any _ w3.heap.size m1 m2 _ _ ⟨_, owns_step hoa8 hb14⟩ ⟨_, owns_step hoa9 hb14⟩).mono ?_
        rintro e w15 ⟨rfl, wm, hg1, hg2⟩
        have hr1 : ∀ r, (Value.slice A8 m1 ac8).ownBlock = some r → w3.heap.size ≤ r ∧ r < u7ts.heap.size := fun r e => HOA8.out r (by rw [Hm1.out]; exact e)
        have hr2 : ∀ r, (Value.slice A9 m2 ac9).ownBlock = some r → w3.heap.size ≤ r ∧ r < u7ts.heap.size := fun r e => HOA9.out r (by rw [Hm2.out]; exact e)
        have hz14 := hb14.size
        have hz15 := hg1.size
        have hb15 : Below w3.heap.size u10_3 w15 := ((hb14.mono (by omega)).grown hg1 (by omega) fun r e => (hr1 r e).1).grown hg2 (by omega) fun r e => (hr2 r e).1
        have hC15 := hC11.below hwN hb15
        have hL15 := hL11.below hb15
        have k11z := ((k11s.step hb14).grown hg1 (fun e => by have := (hr1 _ e.symm).2; omega)).grown hg2 (fun e => by have := (hr2 _ e.symm).2; omega)
        have k13z := ((k13.step hb14).grown hg1 (fun e => by have := (hr1 _ e.symm).2; omega)).grown hg2 (fun e => by have := (hr2 _ e.symm).2; omega)
        have sb8z := (((sb8.step hb14).grown hg1 (fun b _ hx e => by have hx : u7ts.heap.size ≤ b := hx; have := (hr1 _ e.symm).2; omega)).grown hg2 (fun b _ hx e => by have hx : u7ts.heap.size ≤ b := hx; have := (hr2 _ e.symm).2; omega)).all
        have sb9z := (((sb9.step hb14).grown hg1 (fun b _ hx e => by have hx : u7ts.heap.size ≤ b := hx; have := (hr1 _ e.symm).2; omega)).grown hg2 (fun b _ hx e => by have hx : u7ts.heap.size ≤ b := hx; have := (hr2 _ e.symm).2; omega)).all
        have sd8z := (((sd8.step hb14).grown hg1 (fun b _ hx e => by have hx : u8ts.heap.size ≤ b := hx; have := (hr1 _ e.symm).2; omega)).grown hg2 (fun b _ hx e => by have hx : u8ts.heap.size ≤ b := hx; have := (hr2 _ e.symm).2; omega)).all
        have sd9z := (((sd9.step hb14).grown hg1 (fun b _ hx e => by have hx : u8ts.heap.size ≤ b := hx; have := (hr1 _ e.symm).2; omega)).grown hg2 (fun b _ hx e => by have hx : u8ts.heap.size ≤ b := hx; have := (hr2 _ e.symm).2; omega)).all
        clear hg1 hg2 hb14
        have hcs := csame_any r1 r2 B8 B9 D8 D9 m1 bc8 m2 bc9 dc8 dc9 w15 sb8z sb9z sd8z sd9z
        go_wp2_with (first
          | ((with_reducible show wpList _ _ _ (⟨some 126, .load _ _, _, _, _, _⟩ :: _) _ _); refine wpList_runG (by kernel_rfl) (.agg #[.slice B8 m1 bc8, .slice B9 m2 bc9]) _ (run_load_op 34 (.tmp 10) rfl g11 0 rfl _ (cl_load k11z)) ?_; simp only [Act.put])
          | ((with_reducible show wpList _ _ _ (⟨some 127, .load _ _, _, _, _, _⟩ :: _) _ _); refine wpList_runG (by kernel_rfl) (.agg #[.slice D8 m1 dc8, .slice D9 m2 dc9]) _ (run_load_op 34 (.tmp 12) rfl w9.heap.size 0 rfl _ (cl_load k13z)) ?_; simp only [Act.put])
          | (go_at_call 20; refine hcs.mono ?_; clear hcs; rintro e w16 ⟨rfl, hb16⟩; have hC16 := hC15.step hb16; have hL16 := hL15.step hb16; have c0 : w16.cell? ⟨w.heap.size, 0, none⟩ = some (.slice Ad nd cd) := (by rw [hC16.box.cell]; exact G0.out))
          | (go_at_call 21; refine (left13_any ls Am Ad nd cm cd w16 hL16.lm.all hC16.es.all (by omega)).mono ?_; clear c0; rintro e w17 ⟨rfl, hb17⟩; have hC17 := hC16.step hb17)
          | (go_at_call 14; refine (known13_any _).mono ?_; rintro e w18 ⟨rfl, hb18⟩))
        go_ret
        exact ⟨rfl, hC17.bel.trans (hb18.mono hC17.bel.size)⟩
      · have hrc0 : (rc == 0) = false := by simpa using hrc
        have hb14 := Below.refl u10_3.heap.size u10_3
        go_wp2_with (first
          | ((with_reducible show wpList _ _ _ (⟨some 124, .load _ _, _, _, _, _⟩ :: _) _ _); refine wpList_runG (by kernel_rfl) (.agg #[.slice A8 m1 ac8, .slice A9 m2 ac9]) _ (run_load_op 34 (.tmp 8) rfl g9 0 rfl _ (cl_load k9s)) ?_; simp only [Act.put]))
        refine (spoil13_any _ w3.heap.size m1 m2 _ _ ⟨_, owns_step hoa8 hb14⟩ ⟨_, owns_step hoa9 hb14⟩).mono ?_
        rintro e w15 ⟨rfl, wm, hg1, hg2⟩
        have hr1 : ∀ r, (Value.slice A8 m1 ac8).ownBlock = some r → w3.heap.size ≤ r ∧ r < u7ts.heap.size := fun r e => HOA8.out r (by rw [Hm1.out]; exact e)
        have hr2 : ∀ r, (Value.slice A9 m2 ac9).ownBlock = some r → w3.heap.size ≤ r ∧ r < u7ts.heap.size := fun r e => HOA9.out r (by rw [Hm2.out]; exact e)
        have hz14 := hb14.size
        have hz15 := hg1.size
        have hb15 : Below w3.heap.size u10_3 w15 := ((hb14.mono (by omega)).grown hg1 (by omega) fun r e => (hr1 r e).1).grown hg2 (by omega) fun r e => (hr2 r e).1
        have hC15 := hC11.below hwN hb15
        have hL15 := hL11.below hb15
        have k11z := ((k11s.step hb14).grown hg1 (fun e => by have := (hr1 _ e.symm).2; omega)).grown hg2 (fun e => by have := (hr2 _ e.symm).2; omega)
        have k13z := ((k13.step hb14).grown hg1 (fun e => by have := (hr1 _ e.symm).2; omega)).grown hg2 (fun e => by have := (hr2 _ e.symm).2; omega)
        have sb8z := (((sb8.step hb14).grown hg1 (fun b _ hx e => by have hx : u7ts.heap.size ≤ b := hx; have := (hr1 _ e.symm).2; omega)).grown hg2 (fun b _ hx e => by have hx : u7ts.heap.size ≤ b := hx; have := (hr2 _ e.symm).2; omega)).all
        have sb9z := (((sb9.step hb14).grown hg1 (fun b _ hx e => by have hx : u7ts.heap.size ≤ b := hx; have := (hr1 _ e.symm).2; omega)).grown hg2 (fun b _ hx e => by have hx : u7ts.heap.size ≤ b := hx; have := (hr2 _ e.symm).2; omega)).all
        have sd8z := (((sd8.step hb14).grown hg1 (fun b _ hx e => by have hx : u8ts.heap.size ≤ b := hx; have := (hr1 _ e.symm).2; omega)).grown hg2 (fun b _ hx e => by have hx : u8ts.heap.size ≤ b := hx; have := (hr2 _ e.symm).2; omega)).all
        have sd9z := (((sd9.step hb14).grown hg1 (fun b _ hx e => by have hx : u8ts.heap.size ≤ b := hx; have := (hr1 _ e.symm).2; omega)).grown hg2 (fun b _ hx e => by have hx : u8ts.heap.size ≤ b := hx; have := (hr2 _ e.symm).2; omega)).all
        clear hg1 hg2 hb14
        have hcs := csame_any r1 r2 B8 B9 D8 D9 m1 bc8 m2 bc9 dc8 dc9 w15 sb8z sb9z sd8z sd9z
        go_wp2_with (first
          | ((with_reducible show wpList _ _ _ (⟨some 126, .load _ _, _, _, _, _⟩ :: _) _ _); refine wpList_runG (by kernel_rfl) (.agg #[.slice B8 m1 bc8, .slice B9 m2 bc9]) _ (run_load_op 34 (.tmp 10) rfl g11 0 rfl _ (cl_load k11z)) ?_; simp only [Act.put])
          | ((with_reducible show wpList _ _ _ (⟨some 127, .load _ _, _, _, _, _⟩ :: _) _ _); refine wpList_runG (by kernel_rfl) (.agg #[.slice D8 m1 dc8, .slice D9 m2 dc9]) _ (run_load_op 34 (.tmp 12) rfl w9.heap.size 0 rfl _ (cl_load k13z)) ?_; simp only [Act.put])
          | (go_at_call 20; refine hcs.mono ?_; clear hcs; rintro e w16 ⟨rfl, hb16⟩; have hC16 := hC15.step hb16; have hL16 := hL15.step hb16; have c0 : w16.cell? ⟨w.heap.size, 0, none⟩ = some (.slice Ad nd cd) := (by rw [hC16.box.cell]; exact G0.out))
          | (go_at_call 21; refine (left13_any ls Am Ad nd cm cd w16 hL16.lm.all hC16.es.all (by omega)).mono ?_; clear c0; rintro e w17 ⟨rfl, hb17⟩; have hC17 := hC16.step hb17)
          | (go_at_call 14; refine (known13_any _).mono ?_; rintro e w18 ⟨rfl, hb18⟩))
        go_ret
        exact ⟨rfl, hC17.bel.trans (hb18.mono hC17.bel.size)⟩
end Go.Proofs.Ytonidnfgneokbaa
