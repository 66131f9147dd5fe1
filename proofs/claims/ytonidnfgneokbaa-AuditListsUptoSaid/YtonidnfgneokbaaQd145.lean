/- notarylaw13.AuditLists. -/
import Derived.Test.YtonidnfgneokbaaQd144
namespace Go.Proofs.Ytonidnfgneokbaa
open Go Go.RowKit Go.Shelf
attribute [local go_sem] Oper.semAt_some

set_option maxHeartbeats 4000000 in
set_option maxRecDepth 100000 in
theorem lists13_any (k : Int) (hk : k = 0 ∨ k = 1 ∨ k = 2 ∨ k = 3 ∨ k = 4) (ls ms : List (List UInt8)) (A A' : Option Addr) (n c n' c' : Nat) (w : World)
    (h : Es w (fun _ => True) A n c ls) (h' : Es w (fun _ => True) A' n' c' ms) :
    Calls Try.prog 27 #[.int .i64 k, .slice A n c, .slice A' n' c'] w fun e' w' => ∃ v, e' = .returned (.tuple #[v, .int .i64 (listsC (hashK k) ls ms).2]) ∧ ClV w.heap.size (listsC (hashK k) ls ms).1 v w' ∧ Below w.heap.size w w' := by
  obtain ⟨w1, hw1⟩ : ∃ w1, w.alloc (.cells #[.slice none 0 0, .slice none 0 0] 34) = w1 := ⟨_, rfl⟩
  have hb1 : Below w.heap.size w w1 := by rw [← hw1]; exact (Below.refl _ _).alloc (Nat.le_refl _) _
  have k1 : Blk w1 w.heap.size 34 #[.slice none 0 0, .slice none 0 0] := by rw [← hw1]; exact Blk.new _ _ _
  have hz1 : w1.heap.size = w.heap.size + 1 := by rw [← hw1]; simp
  have hi := fun (f : Nat) (H : Hf) (hF : HFn f H) => alists_any hF ls ms A A' n c n' c' w1 (h.step hb1) (h'.step hb1)
  have Hw1 := Lib.hid hw1
  have Hi := Lib.hid hi
  clear h h' hw1 hi
  rcases hk with rfl | rfl | rfl | rfl | rfl
  · have hi := Hi.out _ _ strong13_fn
    obtain ⟨⟨c1, e1⟩, hc⟩ : ∃ r, listsC (hashK 0) ls ms = r := ⟨_, rfl⟩
    rw [hc] at hi ⊢
    have Hi2 := Lib.hid hi
    clear hi hc
    go_enter Try.func27, Try.ntmps27
    refine Code.wp_mono (fun _ _ _ h => BP.out h) ?_
    go_wp2_with ((with_reducible show wpList _ _ _ (⟨some 6, .alloc _, _, _, _, _⟩ :: _) _ _); refine wpList_run rfl (.pointer (some ⟨w.heap.size, 0, none⟩)) w1 (by rw [← Hw1.out]; rfl) ?_; simp only [Act.put])
    refine Hi2.out.mono ?_
    rintro e w2 ⟨v, rfl, ⟨a8, a9, rfl, ho8, ho9⟩, hb2⟩
    obtain ⟨A8, c8, rfl, -⟩ := owns_slv ho8
    obtain ⟨A9, c9, rfl, -⟩ := owns_slv ho9
    have k2 := k1.step hb2
    go_wp2_with ((with_reducible show wpList _ _ _ (⟨none, .store _ (.tmp 6) _, _, _, _, _⟩ :: _) _ _); refine wpList_clset (.tmp 6) (.tmp 40) rfl rfl k2 rfl rfl rfl rfl ?_; intro W3 k3 hb3 hW3; have hgr : w2.grownBy W3 (some w.heap.size) := (by rw [hW3]; exact grown_setRow (grown_of_below (Below.refl _ _) _) _); replace ho8 := ho8.kept hgr (.inr fun e => by have := (ho8.lt _ e).1; omega); replace ho9 := ho9.kept hgr (.inr fun e => by have := (ho9.lt _ e).1; omega); have hbE := (hb1.trans (hb2.mono hb1.size)).trans (hb3.mono (Nat.le_refl _)); clear hW3 hgr; simp only [Act.put])
    exact ⟨bodyPost_ret (ret_clash2 rfl rfl k3) rfl ⟨_, rfl, ⟨_, _, rfl, owns_le ho8 (show w.heap.size ≤ w1.heap.size by omega), owns_le ho9 (show w.heap.size ≤ w1.heap.size by omega)⟩, hbE⟩⟩
  · have hi := Hi.out _ _ first13_fn
    obtain ⟨⟨c1, e1⟩, hc⟩ : ∃ r, listsC (hashK 1) ls ms = r := ⟨_, rfl⟩
    rw [hc] at hi ⊢
    have Hi2 := Lib.hid hi
    clear hi hc
    go_enter Try.func27, Try.ntmps27
    refine Code.wp_mono (fun _ _ _ h => BP.out h) ?_
    go_wp2_with ((with_reducible show wpList _ _ _ (⟨some 6, .alloc _, _, _, _, _⟩ :: _) _ _); refine wpList_run rfl (.pointer (some ⟨w.heap.size, 0, none⟩)) w1 (by rw [← Hw1.out]; rfl) ?_; simp only [Act.put])
    refine Hi2.out.mono ?_
    rintro e w2 ⟨v, rfl, ⟨a8, a9, rfl, ho8, ho9⟩, hb2⟩
    obtain ⟨A8, c8, rfl, -⟩ := owns_slv ho8
    obtain ⟨A9, c9, rfl, -⟩ := owns_slv ho9
    have k2 := k1.step hb2
    go_wp2_with ((with_reducible show wpList _ _ _ (⟨none, .store _ (.tmp 6) _, _, _, _, _⟩ :: _) _ _); refine wpList_clset (.tmp 6) (.tmp 14) rfl rfl k2 rfl rfl rfl rfl ?_; intro W3 k3 hb3 hW3; have hgr : w2.grownBy W3 (some w.heap.size) := (by rw [hW3]; exact grown_setRow (grown_of_below (Below.refl _ _) _) _); replace ho8 := ho8.kept hgr (.inr fun e => by have := (ho8.lt _ e).1; omega); replace ho9 := ho9.kept hgr (.inr fun e => by have := (ho9.lt _ e).1; omega); have hbE := (hb1.trans (hb2.mono hb1.size)).trans (hb3.mono (Nat.le_refl _)); clear hW3 hgr; simp only [Act.put])
    exact ⟨bodyPost_ret (ret_clash2 rfl rfl k3) rfl ⟨_, rfl, ⟨_, _, rfl, owns_le ho8 (show w.heap.size ≤ w1.heap.size by omega), owns_le ho9 (show w.heap.size ≤ w1.heap.size by omega)⟩, hbE⟩⟩
  · have hi := Hi.out _ _ bits13_fn
    obtain ⟨⟨c1, e1⟩, hc⟩ : ∃ r, listsC (hashK 2) ls ms = r := ⟨_, rfl⟩
    rw [hc] at hi ⊢
    have Hi2 := Lib.hid hi
    clear hi hc
    go_enter Try.func27, Try.ntmps27
    refine Code.wp_mono (fun _ _ _ h => BP.out h) ?_
    go_wp2_with ((with_reducible show wpList _ _ _ (⟨some 6, .alloc _, _, _, _, _⟩ :: _) _ _); refine wpList_run rfl (.pointer (some ⟨w.heap.size, 0, none⟩)) w1 (by rw [← Hw1.out]; rfl) ?_; simp only [Act.put])
    refine Hi2.out.mono ?_
    rintro e w2 ⟨v, rfl, ⟨a8, a9, rfl, ho8, ho9⟩, hb2⟩
    obtain ⟨A8, c8, rfl, -⟩ := owns_slv ho8
    obtain ⟨A9, c9, rfl, -⟩ := owns_slv ho9
    have k2 := k1.step hb2
    go_wp2_with ((with_reducible show wpList _ _ _ (⟨none, .store _ (.tmp 6) _, _, _, _, _⟩ :: _) _ _); refine wpList_clset (.tmp 6) (.tmp 21) rfl rfl k2 rfl rfl rfl rfl ?_; intro W3 k3 hb3 hW3; have hgr : w2.grownBy W3 (some w.heap.size) := (by rw [hW3]; exact grown_setRow (grown_of_below (Below.refl _ _) _) _); replace ho8 := ho8.kept hgr (.inr fun e => by have := (ho8.lt _ e).1; omega); replace ho9 := ho9.kept hgr (.inr fun e => by have := (ho9.lt _ e).1; omega); have hbE := (hb1.trans (hb2.mono hb1.size)).trans (hb3.mono (Nat.le_refl _)); clear hW3 hgr; simp only [Act.put])
    exact ⟨bodyPost_ret (ret_clash2 rfl rfl k3) rfl ⟨_, rfl, ⟨_, _, rfl, owns_le ho8 (show w.heap.size ≤ w1.heap.size by omega), owns_le ho9 (show w.heap.size ≤ w1.heap.size by omega)⟩, hbE⟩⟩
  · have hi := Hi.out _ _ none13_fn
    obtain ⟨⟨c1, e1⟩, hc⟩ : ∃ r, listsC (hashK 3) ls ms = r := ⟨_, rfl⟩
    rw [hc] at hi ⊢
    have Hi2 := Lib.hid hi
    clear hi hc
    go_enter Try.func27, Try.ntmps27
    refine Code.wp_mono (fun _ _ _ h => BP.out h) ?_
    go_wp2_with ((with_reducible show wpList _ _ _ (⟨some 6, .alloc _, _, _, _, _⟩ :: _) _ _); refine wpList_run rfl (.pointer (some ⟨w.heap.size, 0, none⟩)) w1 (by rw [← Hw1.out]; rfl) ?_; simp only [Act.put])
    refine Hi2.out.mono ?_
    rintro e w2 ⟨v, rfl, ⟨a8, a9, rfl, ho8, ho9⟩, hb2⟩
    obtain ⟨A8, c8, rfl, -⟩ := owns_slv ho8
    obtain ⟨A9, c9, rfl, -⟩ := owns_slv ho9
    have k2 := k1.step hb2
    go_wp2_with ((with_reducible show wpList _ _ _ (⟨none, .store _ (.tmp 6) _, _, _, _, _⟩ :: _) _ _); refine wpList_clset (.tmp 6) (.tmp 28) rfl rfl k2 rfl rfl rfl rfl ?_; intro W3 k3 hb3 hW3; have hgr : w2.grownBy W3 (some w.heap.size) := (by rw [hW3]; exact grown_setRow (grown_of_below (Below.refl _ _) _) _); replace ho8 := ho8.kept hgr (.inr fun e => by have := (ho8.lt _ e).1; omega); replace ho9 := ho9.kept hgr (.inr fun e => by have := (ho9.lt _ e).1; omega); have hbE := (hb1.trans (hb2.mono hb1.size)).trans (hb3.mono (Nat.le_refl _)); clear hW3 hgr; simp only [Act.put])
    exact ⟨bodyPost_ret (ret_clash2 rfl rfl k3) rfl ⟨_, rfl, ⟨_, _, rfl, owns_le ho8 (show w.heap.size ≤ w1.heap.size by omega), owns_le ho9 (show w.heap.size ≤ w1.heap.size by omega)⟩, hbE⟩⟩
  · have hi := Hi.out _ _ two13_fn
    obtain ⟨⟨c1, e1⟩, hc⟩ : ∃ r, listsC (hashK 4) ls ms = r := ⟨_, rfl⟩
    rw [hc] at hi ⊢
    have Hi2 := Lib.hid hi
    clear hi hc
    go_enter Try.func27, Try.ntmps27
    refine Code.wp_mono (fun _ _ _ h => BP.out h) ?_
    go_wp2_with ((with_reducible show wpList _ _ _ (⟨some 6, .alloc _, _, _, _, _⟩ :: _) _ _); refine wpList_run rfl (.pointer (some ⟨w.heap.size, 0, none⟩)) w1 (by rw [← Hw1.out]; rfl) ?_; simp only [Act.put])
    refine Hi2.out.mono ?_
    rintro e w2 ⟨v, rfl, ⟨a8, a9, rfl, ho8, ho9⟩, hb2⟩
    obtain ⟨A8, c8, rfl, -⟩ := owns_slv ho8
    obtain ⟨A9, c9, rfl, -⟩ := owns_slv ho9
    have k2 := k1.step hb2
    go_wp2_with ((with_reducible show wpList _ _ _ (⟨none, .store _ (.tmp 6) _, _, _, _, _⟩ :: _) _ _); refine wpList_clset (.tmp 6) (.tmp 35) rfl rfl k2 rfl rfl rfl rfl ?_; intro W3 k3 hb3 hW3; have hgr : w2.grownBy W3 (some w.heap.size) := (by rw [hW3]; exact grown_setRow (grown_of_below (Below.refl _ _) _) _); replace ho8 := ho8.kept hgr (.inr fun e => by have := (ho8.lt _ e).1; omega); replace ho9 := ho9.kept hgr (.inr fun e => by have := (ho9.lt _ e).1; omega); have hbE := (hb1.trans (hb2.mono hb1.size)).trans (hb3.mono (Nat.le_refl _)); clear hW3 hgr; simp only [Act.put])
    exact ⟨bodyPost_ret (ret_clash2 rfl rfl k3) rfl ⟨_, rfl, ⟨_, _, rfl, owns_le ho8 (show w.heap.size ≤ w1.heap.size by omega), owns_le ho9 (show w.heap.size ≤ w1.heap.size by omega)⟩, hbE⟩⟩

/-- what is handed in: two lists, a clash in its box -/
structure AlC (w : World) (la : List (List UInt8)) (Aa : Option Addr) (na ca : Nat) (lb : List (List UInt8)) (Ab : Option Addr) (nb cb : Nat) (l1 : List UInt8) (C1 : Option Addr) (q1 d1 : Nat) (l2 : List UInt8) (C2 : Option Addr) (q2 d2 : Nat) (W : World) : Prop where
  box : Blk W w.heap.size 34 #[.slice C1 q1 d1, .slice C2 q2 d2]
  ea : Es W (· < w.heap.size) Aa na ca la
  eb : Es W (· < w.heap.size) Ab nb cb lb
  s1 : Sl W (· < w.heap.size) C1 q1 d1 l1
  s2 : Sl W (· < w.heap.size) C2 q2 d2 l2
  bel : Below w.heap.size w W
section
variable {w : World} {la : List (List UInt8)} {Aa : Option Addr} {na ca : Nat} {lb : List (List UInt8)} {Ab : Option Addr} {nb cb : Nat} {l1 : List UInt8} {C1 : Option Addr} {q1 d1 : Nat} {l2 : List UInt8} {C2 : Option Addr} {q2 d2 : Nat} {W W' : World}
theorem AlC.step (h : AlC w la Aa na ca lb Ab nb cb l1 C1 q1 d1 l2 C2 q2 d2 W) (hb : Below W.heap.size W W') : AlC w la Aa na ca lb Ab nb cb l1 C1 q1 d1 l2 C2 q2 d2 W' := ⟨h.box.step hb, h.ea.step hb, h.eb.step hb, h.s1.step hb, h.s2.step hb, h.bel.trans (hb.mono h.bel.size)⟩
theorem AlC.below {N : Nat} (h : AlC w la Aa na ca lb Ab nb cb l1 C1 q1 d1 l2 C2 q2 d2 W) (hN : w.heap.size < N) (hb : Below N W W') : AlC w la Aa na ca lb Ab nb cb l1 C1 q1 d1 l2 C2 q2 d2 W' :=
  ⟨h.box.below hb hN, h.ea.below hb fun _ _ hx => Nat.lt_trans hx hN, h.eb.below hb fun _ _ hx => Nat.lt_trans hx hN, h.s1.below hb fun _ _ hx => Nat.lt_trans hx hN, h.s2.below hb fun _ _ hx => Nat.lt_trans hx hN, h.bel.trans (hb.mono (Nat.le_of_lt hN))⟩
end

set_option maxHeartbeats 16000000 in
set_option maxRecDepth 100000 in
theorem auditlists_any (kd : Int) (la : List (List UInt8)) (Aa : Option Addr) (na ca : Nat) (lb : List (List UInt8)) (Ab : Option Addr) (nb cb : Nat) (l1 : List UInt8) (C1 : Option Addr) (q1 d1 : Nat) (l2 : List UInt8) (C2 : Option Addr) (q2 d2 : Nat) (w : World)
    (ha : Es w (· < w.heap.size) Aa na ca la) (hb : Es w (· < w.heap.size) Ab nb cb lb) (h1 : Sl w (· < w.heap.size) C1 q1 d1 l1) (h2 : Sl w (· < w.heap.size) C2 q2 d2 l2) (hbl : la.flatten.length ≤ 1048576) (hbl2 : lb.flatten.length ≤ 1048576) (hq1 : q1 ≤ 1048576) (hq2 : q2 ≤ 1048576) :
    Calls Try.prog 4 #[.int .i64 kd, .slice Aa na ca, .slice Ab nb cb, .agg #[.slice C1 q1 d1, .slice C2 q2 d2]] w fun e' w' => e' = .returned (.bool true) ∧ Below w.heap.size w w' := by
  have hra := ha.room
  have hma := ha.max
  unfold maxLen at hma
  have hrb := hb.room
  have hmb := hb.max
  unfold maxLen at hmb
  have hx : ∀ x ∈ la, x.length ≤ 1048576 := fun x hx => Nat.le_trans (List.sublist_flatten_of_mem hx).length_le hbl
  have hy : ∀ x ∈ lb, x.length ≤ 1048576 := fun x hx => Nat.le_trans (List.sublist_flatten_of_mem hx).length_le hbl2
  obtain ⟨w0, hw0⟩ : ∃ w0, w.alloc (.cells #[.slice C1 q1 d1, .slice C2 q2 d2] 34) = w0 := ⟨_, rfl⟩
  have hb0 : Below w.heap.size w w0 := by rw [← hw0]; exact (Below.refl _ _).alloc (Nat.le_refl _) _
  have hC : AlC w la Aa na ca lb Ab nb cb l1 C1 q1 d1 l2 C2 q2 d2 w0 := ⟨by rw [← hw0]; exact Blk.new _ _ _, ha.step hb0, hb.step hb0, h1.step hb0, h2.step hb0, hb0⟩
  have Hw0 := Lib.hid hw0
  have Hx := Lib.hid hx
  have Hy := Lib.hid hy
  clear hw0 hx hy ha hb h1 h2 hbl hbl2
  by_cases hA : 300 < na
  · have hda : decide ((300 : Int) < (na : Int)) = true := by simp; omega
    go_enter Try.func4, Try.ntmps4
    go_wp2_with (first
      | rw [Hw0.out]
      | (go_at_call_of 13 (Value.slice Aa na ca); refine (large13_any _ _ _ _).mono ?_; rintro e w1 ⟨rfl, hww⟩; obtain rfl := hww.symm)
      | (go_at_call_of 13 (Value.slice Ab nb cb); refine (large13_any _ _ _ _).mono ?_; rintro e w1 ⟨rfl, hww⟩; obtain rfl := hww.symm)
      | (go_at_call 14; refine (known13_any _).mono ?_; rintro e w2 ⟨rfl, hb2⟩))
    go_ret
    exact ⟨rfl, hb0.trans (hb2.mono hb0.size)⟩
  have hda : decide ((300 : Int) < (na : Int)) = false := by simp; omega
  have hna : na ≤ 300 := by omega
  by_cases hB : 300 < nb
  · have hdb : decide ((300 : Int) < (nb : Int)) = true := by simp; omega
    go_enter Try.func4, Try.ntmps4
    go_wp2_with (first
      | rw [Hw0.out]
      | (go_at_call_of 13 (Value.slice Aa na ca); refine (large13_any _ _ _ _).mono ?_; rintro e w1 ⟨rfl, hww⟩; obtain rfl := hww.symm)
      | (go_at_call_of 13 (Value.slice Ab nb cb); refine (large13_any _ _ _ _).mono ?_; rintro e w1 ⟨rfl, hww⟩; obtain rfl := hww.symm)
      | (go_at_call 14; refine (known13_any _).mono ?_; rintro e w2 ⟨rfl, hb2⟩))
    go_ret
    exact ⟨rfl, hb0.trans (hb2.mono hb0.size)⟩
  have hdb : decide ((300 : Int) < (nb : Int)) = false := by simp; omega
  have hnb : nb ≤ 300 := by omega
  clear hA hB
  go_enter Try.func4, Try.ntmps4
  go_wp2_with (first
    | rw [Hw0.out]
    | (go_at_call_of 13 (Value.slice Aa na ca); refine (large13_any _ _ _ _).mono ?_; rintro e w1 ⟨rfl, hww⟩; obtain rfl := hww.symm)
    | (go_at_call_of 13 (Value.slice Ab nb cb); refine (large13_any _ _ _ _).mono ?_; rintro e w1 ⟨rfl, hww⟩; obtain rfl := hww.symm)
    | (go_at_call 15; refine (number13_any _ _).mono ?_; rintro e w1 ⟨rfl, hww⟩; obtain rfl := hww.symm))
  obtain ⟨k, hk⟩ : ∃ k, numK kd = k := ⟨_, rfl⟩
  have hk5 := numK_cases kd
  rw [hk] at hk5
  try rw [hk]
  clear hk
  have Hk5 := Lib.hid hk5
  clear hk5
  refine (lent13_any la Aa na ca w0 hC.ea.all (by omega) (fun x hx => Nat.le_trans (Hx.out x hx) (by decide))).mono ?_
  rintro e w2 ⟨Am, cm, rfl, hLa, hb2⟩
  replace hC := hC.step hb2
  go_wp2_with fail
  refine (lent13_any lb Ab nb cb w2 hC.eb.all (by omega) (fun x hx => Nat.le_trans (Hy.out x hx) (by decide))).mono ?_
  rintro e w4 ⟨Bm, dm, rfl, hLb, hb3⟩
  replace hC := hC.step hb3
  have hza := hb3.size
  have hLa4 : Lm w4 (· < w4.heap.size) Am na cm la := (hLa.step hb3).weak fun _ hb _ => hb
  have hLb4 : Lm w4 (· < w4.heap.size) Bm nb dm lb := hLb.weak fun _ hb _ => hb
  have hwN : w.heap.size < w4.heap.size := hC.box.lt
  clear hLa hLb hb2 hb3 hb0
  have hin := fun W (ha : Lm W (· < w4.heap.size) Am na cm la) (hb : Lm W (· < w4.heap.size) Bm nb dm lb) => lists13_any k Hk5.out la lb Am Bm na cm nb dm W ha.es.all hb.es.all
  have hrin := fun W (h : AlC w la Aa na ca lb Ab nb cb l1 C1 q1 d1 l2 C2 q2 d2 W) => rlists_any k la lb Aa Ab na ca cb nb W h.ea.all h.eb.all
  obtain ⟨⟨⟨r1, r2⟩, rc⟩, hres⟩ : ∃ r, listsC (hashK k) la lb = r := ⟨_, rfl⟩
  rw [hres] at hin hrin
  have hlen := listsC_len (hashK k) (length_hashK k) la lb
  rw [hres] at hlen
  have hl1 : r1.length ≤ 4097 := hlen.1
  have hl2 : r2.length ≤ 4097 := hlen.2
  have hisc : rc = 0 → isC (hashK k) (r1, r2) = true := fun h => by
    have h9 := listsC_is (hashK k) (length_hashK k) la lb (by rw [hres]; exact h)
    rwa [hres] at h9
  have Hin := Lib.hid hin
  have Hrin := Lib.hid hrin
  have Hisc := Lib.hid hisc
  have Hl1 := Lib.hid hl1
  have Hl2 := Lib.hid hl2
  obtain ⟨qq, hqq⟩ : ∃ q, isC (hashK k) (l1, l2) = q := ⟨_, rfl⟩
  have hi1 := fun W (h : AlC w la Aa na ca lb Ab nb cb l1 C1 q1 d1 l2 C2 q2 d2 W) => is13_any k Hk5.out l1 l2 C1 C2 q1 d1 q2 d2 W h.s1.all h.s2.all (Nat.le_trans hq1 (by decide)) (Nat.le_trans hq2 (by decide))
  have hi2 := fun W (h : AlC w la Aa na ca lb Ab nb cb l1 C1 q1 d1 l2 C2 q2 d2 W) => ris_any k l1 l2 C1 C2 q1 d1 q2 d2 W h.s1.all h.s2.all (Nat.le_trans hq1 (by decide)) (Nat.le_trans hq2 (by decide))
  rw [hqq] at hi1 hi2
  have Hi1 := Lib.hid hi1
  have Hi2 := Lib.hid hi2
  obtain ⟨m1, hm1⟩ : ∃ m, r1.length = m := ⟨_, rfl⟩
  obtain ⟨m2, hm2⟩ : ∃ m, r2.length = m := ⟨_, rfl⟩
  rw [hm1] at Hl1
  rw [hm2] at Hl2
  have Hm1 := Lib.hid hm1
  have Hm2 := Lib.hid hm2
  clear hin hrin hisc hl1 hl2 hlen hqq hi1 hi2 hres hm1 hm2
  go_wp2_with fail
  refine (Hin.out w4 hLa4 hLb4).mono ?_
  rintro e w5 ⟨v_, rfl, ⟨a8, a9, rfl, hoa8, hoa9⟩, hb_⟩
  have hzw5 := hb_.size
  replace hC := hC.step hb_
  replace hLa4 := hLa4.step hb_
  replace hLb4 := hLb4.step hb_
  clear hb_
  go_wp2_with ((with_reducible show wpList _ _ _ (⟨some 12, .alloc _, _, _, _, _⟩ :: _) _ _); refine wpList_clvar (.tmp 12) (.tmp 36) rfl rfl rfl rfl rfl rfl (owns_oneCell hoa8) (owns_oneCell hoa9) ?_; intro w6 k12 hb_; simp only [Act.put])
  have hzw6 := hb_.size
  replace hC := hC.step hb_
  replace hLa4 := hLa4.step hb_
  replace hLb4 := hLb4.step hb_
  replace hoa8 := owns_step hoa8 hb_
  replace hoa9 := owns_step hoa9 hb_
  clear hb_
  have hOA8 : ∀ r, a8.ownBlock = some r → w4.heap.size ≤ r ∧ r < w6.heap.size := fun r e => hoa8.lt r e
  have hOA9 : ∀ r, a9.ownBlock = some r → w4.heap.size ≤ r ∧ r < w6.heap.size := fun r e => hoa9.lt r e
  have HOA8 := Lib.hid hOA8
  have HOA9 := Lib.hid hOA9
  clear hOA8 hOA9
  refine (Hin.out w6 hLa4 hLb4).mono ?_
  rintro e w7 ⟨v_, rfl, ⟨b8, b9, rfl, hob8, hob9⟩, hb_⟩
  have hzw7 := hb_.size
  replace hC := hC.step hb_
  replace hLa4 := hLa4.step hb_
  replace hLb4 := hLb4.step hb_
  replace k12 := k12.step hb_
  replace hoa8 := owns_step hoa8 hb_
  replace hoa9 := owns_step hoa9 hb_
  clear hb_
  go_wp2_with ((with_reducible show wpList _ _ _ (⟨some 14, .alloc _, _, _, _, _⟩ :: _) _ _); refine wpList_clvar (.tmp 14) (.tmp 43) rfl rfl rfl rfl rfl rfl (owns_oneCell hob8) (owns_oneCell hob9) ?_; intro w8 k14 hb_; simp only [Act.put])
  have hzw8 := hb_.size
  replace hC := hC.step hb_
  replace hLa4 := hLa4.step hb_
  replace hLb4 := hLb4.step hb_
  replace k12 := k12.step hb_
  replace hoa8 := owns_step hoa8 hb_
  replace hoa9 := owns_step hoa9 hb_
  replace hob8 := owns_step hob8 hb_
  replace hob9 := owns_step hob9 hb_
  clear hb_
  refine (Hrin.out w8 hC).mono ?_
  rintro e w9 ⟨v_, rfl, ⟨d8, d9, rfl, hod8, hod9⟩, hb_⟩
  have hzw9 := hb_.size
  replace hC := hC.step hb_
  replace hLa4 := hLa4.step hb_
  replace hLb4 := hLb4.step hb_
  replace k12 := k12.step hb_
  replace k14 := k14.step hb_
  replace hoa8 := owns_step hoa8 hb_
  replace hoa9 := owns_step hoa9 hb_
  replace hob8 := owns_step hob8 hb_
  replace hob9 := owns_step hob9 hb_
  clear hb_
  go_wp2_with ((with_reducible show wpList _ _ _ (⟨some 16, .alloc _, _, _, _, _⟩ :: _) _ _); refine wpList_clvar (.tmp 16) (.tmp 50) rfl rfl rfl rfl rfl rfl (owns_oneCell hod8) (owns_oneCell hod9) ?_; intro w10 k16 hb_; simp only [Act.put])
  have hzw10 := hb_.size
  replace hC := hC.step hb_
  replace hLa4 := hLa4.step hb_
  replace hLb4 := hLb4.step hb_
  replace k12 := k12.step hb_
  replace k14 := k14.step hb_
  replace hoa8 := owns_step hoa8 hb_
  replace hoa9 := owns_step hoa9 hb_
  replace hob8 := owns_step hob8 hb_
  replace hob9 := owns_step hob9 hb_
  replace hod8 := owns_step hod8 hb_
  replace hod9 := owns_step hod9 hb_
  clear hb_
  obtain ⟨A8, ac8, rfl, sa8⟩ := owns_sl hoa8
  obtain ⟨A9, ac9, rfl, sa9⟩ := owns_sl hoa9
  obtain ⟨B8, bc8, rfl, sb8⟩ := owns_sl hob8
  obtain ⟨B9, bc9, rfl, sb9⟩ := owns_sl hob9
  obtain ⟨D8, dc8, rfl, sd8⟩ := owns_sl hod8
  obtain ⟨D9, dc9, rfl, sd9⟩ := owns_sl hod9
  have hm1 := Hm1.out
  have hm2 := Hm2.out
  rw [hm1] at sa8 sb8 sd8 hoa8 hob8 hod8
  rw [hm2] at sa9 sb9 sd9 hoa9 hob9 hod9
  rw [hm1, hm2] at k12 k14 k16
  clear hm1 hm2 hob8 hob9 hod8 hod9
  by_cases hrc : rc = 0
  · subst hrc
    have hq1 := fun W (hb : Below w10.heap.size w10 W) => is13_any k Hk5.out r1 r2 A8 A9 m1 ac8 m2 ac9 W (sa8.step hb).all (sa9.step hb).all (Nat.le_trans Hl1.out (by decide)) (Nat.le_trans Hl2.out (by decide))
    rw [Hisc.out rfl] at hq1
    have Hq1 := Lib.hid hq1
    clear hq1
    have hS : Below w10.heap.size w10 w10.drew := (Below.refl _ _).drew
    refine wp_region_mix (fun W => Below w10.heap.size w10 W) [(0, true), (2, true), (1, false), (3, true), (4, true), (5, true), (6, true), (7, false), (8, true), (9, true), (10, true), (11, true), (12, true), (13, true), (14, true), (15, true), (16, false), (17, true), (18, true), (19, true), (20, true), (21, true), (22, true), (24, true), (25, true), (23, false), (26, false), (27, true), (28, true)] (by kernel_rfl) (by kernel_rfl) hS fun _ => ?_
    simp only [List.map_cons, List.map_nil, Array.getD_eq_getD_getElem?, List.getElem?_toArray, List.getElem?_cons_succ, List.getElem?_cons_zero, Option.getD_some]
    generalize w10.drew = u8 at hS ⊢
    refine wpMix_s (fun K hK => ?_)
    go_simp
    refine hK _ ?_
    clear hK K
    refine wpMix_s (fun K hK => ?_)
    go_simp
    refine hK _ ?_
    clear hK K
    refine wpMix_c (fun K hK => ?_) hS
    go_simp
    refine (num13_any 0 u8).mono ?_
    rintro e u8e ⟨rfl, hww⟩
    obtain rfl := hww.symm
    refine hK _ _ ?_
    clear hK K
    refine ⟨hS, ?_⟩
    refine wpMix_s (fun K hK => ?_)
    go_simp
    refine hK _ ?_
    clear hK K
    refine wpMix_s (fun K hK => ?_)
    go_simp
    refine hK _ ?_
    clear hK K
    refine wpMix_v (by kernel_rfl) (.agg #[.slice A8 m1 ac8, .slice A9 m2 ac9]) (fun s => run_load_op 34 (.tmp 12) rfl w5.heap.size 0 rfl _ (cl_load (k12.step s.ok))) ?_
    simp only [Act.put]
    refine wpMix_v (by kernel_rfl) (.agg #[.slice D8 m1 dc8, .slice D9 m2 dc9]) (fun s => run_load_op 34 (.tmp 16) rfl w9.heap.size 0 rfl _ (cl_load (k16.step s.ok))) ?_
    simp only [Act.put]
    refine wpMix_c (fun K hK => ?_) hS
    go_simp
    refine (csame_any r1 r2 A8 A9 D8 D9 m1 ac8 m2 ac9 dc8 dc9 u8 (sa8.step hS).all (sa9.step hS).all (sd8.step hS).all (sd9.step hS).all).mono ?_
    rintro e u8_1 ⟨rfl, hb'⟩
    refine hK _ _ ?_
    clear hK K
    replace hS := hS.trans (hb'.mono hS.size)
    refine ⟨hS, ?_⟩
    clear hb'
    refine wpMix_s (fun K hK => ?_)
    go_simp
    refine hK _ ?_
    clear hK K
    refine wpMix_s (fun K hK => ?_)
    go_simp
    refine hK _ ?_
    clear hK K
    refine wpMix_s (fun K hK => ?_)
    go_simp
    refine hK _ ?_
    clear hK K
    refine wpMix_s (fun K hK => ?_)
    go_simp
    refine hK _ ?_
    clear hK K
    refine wpMix_s (fun K hK => ?_)
    go_simp
    refine hK _ ?_
    clear hK K
    refine wpMix_s (fun K hK => ?_)
    go_simp
    refine hK _ ?_
    clear hK K
    refine wpMix_s (fun K hK => ?_)
    go_simp
    refine hK _ ?_
    clear hK K
    refine wpMix_v (by kernel_rfl) (.agg #[.slice A8 m1 ac8, .slice A9 m2 ac9]) (fun s => run_load_op 34 (.tmp 12) rfl w5.heap.size 0 rfl _ (cl_load (k12.step s.ok))) ?_
    simp only [Act.put]
    refine wpMix_c (fun K hK => ?_) hS
    go_simp
    refine (Hq1.out u8_1 hS).mono ?_
    rintro e u8_2 ⟨rfl, hb'⟩
    refine hK _ _ ?_
    clear hK K
    replace hS := hS.trans (hb'.mono hS.size)
    refine ⟨hS, ?_⟩
    clear hb'
    refine wpMix_s (fun K hK => ?_)
    go_simp
    refine hK _ ?_
    clear hK K
    refine wpMix_s (fun K hK => ?_)
    go_simp
    refine hK _ ?_
    clear hK K
    refine wpMix_s (fun K hK => ?_)
    go_simp
    refine hK _ ?_
    clear hK K
    refine wpMix_s (fun K hK => ?_)
    go_simp
    refine hK _ ?_
    clear hK K
    refine wpMix_s (fun K hK => ?_)
    go_simp
    refine hK _ ?_
    clear hK K
    refine wpMix_v (by kernel_rfl) (.agg #[.slice C1 q1 d1, .slice C2 q2 d2]) (fun s => run_load_op 34 (.tmp 7) rfl w.heap.size 0 rfl _ (cl_load (hC.step s.ok).box)) ?_
    simp only [Act.put]
    refine wpMix_s (fun K hK => ?_)
    go_simp
    refine hK _ ?_
    clear hK K
    refine wpMix_v (by kernel_rfl) (.agg #[.slice C1 q1 d1, .slice C2 q2 d2]) (fun s => run_load_op 34 (.tmp 7) rfl w.heap.size 0 rfl _ (cl_load (hC.step s.ok).box)) ?_
    simp only [Act.put]
    refine wpMix_c (fun K hK => ?_) hS
    go_simp
    refine (Hi1.out u8_2 (hC.step hS)).mono ?_
    rintro e u8_3 ⟨rfl, hb'⟩
    refine hK _ _ ?_
    clear hK K
    replace hS := hS.trans (hb'.mono hS.size)
    refine ⟨hS, ?_⟩
    clear hb'
    refine wpMix_c (fun K hK => ?_) hS
    go_simp
    refine (Hi2.out u8_3 (hC.step hS)).mono ?_
    rintro e u8_4 ⟨rfl, hb'⟩
    refine hK _ _ ?_
    clear hK K
    replace hS := hS.trans (hb'.mono hS.size)
    refine ⟨hS, ?_⟩
    clear hb'
    refine wpMix_s (fun K hK => ?_)
    go_simp
    refine hK _ ?_
    clear hK K
    refine wpMix_s (fun K hK => ?_)
    go_simp
    refine hK _ ?_
    clear hK K
    refine wpMix_nil ?_
    intro _
    have hC11 := hC.step hS
    replace hLa4 := hLa4.step hS
    replace hLb4 := hLb4.step hS
    replace k12 := k12.step hS
    replace k14 := k14.step hS
    replace k16 := k16.step hS
    replace hoa8 := owns_step hoa8 hS
    replace hoa9 := owns_step hoa9 hS
    replace sb8 := sb8.step hS
    replace sb9 := sb9.step hS
    replace sd8 := sd8.step hS
    replace sd9 := sd9.step hS
    have hz11 := hS.size
    clear hS hC
    go_wp2_with ((with_reducible show wpList _ _ _ (⟨some 81, .load _ _, _, _, _, _⟩ :: _) _ _); refine wpList_runG (by kernel_rfl) (.agg #[.slice A8 m1 ac8, .slice A9 m2 ac9]) _ (run_load_op 34 (.tmp 12) rfl w5.heap.size 0 rfl _ (cl_load k12)) ?_; simp only [Act.put])
    refine (spoil13_any _ w4.heap.size m1 m2 _ _ ⟨_, hoa8⟩ ⟨_, hoa9⟩).mono ?_
    rintro e w15 ⟨rfl, wm, hg1, hg2⟩
    have hr1 : ∀ r, (Value.slice A8 m1 ac8).ownBlock = some r → w4.heap.size ≤ r ∧ r < w6.heap.size := fun r e => HOA8.out r (by rw [Hm1.out]; exact e)
    have hr2 : ∀ r, (Value.slice A9 m2 ac9).ownBlock = some r → w4.heap.size ≤ r ∧ r < w6.heap.size := fun r e => HOA9.out r (by rw [Hm2.out]; exact e)
    have hz15 := hg1.size
    have hb15 : Below w4.heap.size u8_4 w15 := ((Below.refl _ u8_4).grown hg1 (by omega) fun r e => (hr1 r e).1).grown hg2 (by omega) fun r e => (hr2 r e).1
    have hC15 := hC11.below hwN hb15
    have hLa15 := hLa4.below hb15 fun _ _ hx => hx
    have hLb15 := hLb4.below hb15 fun _ _ hx => hx
    have k14z := (k14.grown hg1 (fun e => by have := (hr1 _ e.symm).2; omega)).grown hg2 (fun e => by have := (hr2 _ e.symm).2; omega)
    have k16z := (k16.grown hg1 (fun e => by have := (hr1 _ e.symm).2; omega)).grown hg2 (fun e => by have := (hr2 _ e.symm).2; omega)
    have sb8z := ((sb8.grown hg1 (fun b _ hx e => by have hx : w6.heap.size ≤ b := hx; have := (hr1 _ e.symm).2; omega)).grown hg2 (fun b _ hx e => by have hx : w6.heap.size ≤ b := hx; have := (hr2 _ e.symm).2; omega)).all
    have sb9z := ((sb9.grown hg1 (fun b _ hx e => by have hx : w6.heap.size ≤ b := hx; have := (hr1 _ e.symm).2; omega)).grown hg2 (fun b _ hx e => by have hx : w6.heap.size ≤ b := hx; have := (hr2 _ e.symm).2; omega)).all
    have sd8z := ((sd8.grown hg1 (fun b _ hx e => by have hx : w8.heap.size ≤ b := hx; have := (hr1 _ e.symm).2; omega)).grown hg2 (fun b _ hx e => by have hx : w8.heap.size ≤ b := hx; have := (hr2 _ e.symm).2; omega)).all
    have sd9z := ((sd9.grown hg1 (fun b _ hx e => by have hx : w8.heap.size ≤ b := hx; have := (hr1 _ e.symm).2; omega)).grown hg2 (fun b _ hx e => by have hx : w8.heap.size ≤ b := hx; have := (hr2 _ e.symm).2; omega)).all
    clear hg1 hg2
    have hcs := csame_any r1 r2 B8 B9 D8 D9 m1 bc8 m2 bc9 dc8 dc9 w15 sb8z sb9z sd8z sd9z
    go_wp2_with (first
      | ((with_reducible show wpList _ _ _ (⟨some 83, .load _ _, _, _, _, _⟩ :: _) _ _); refine wpList_runG (by kernel_rfl) (.agg #[.slice B8 m1 bc8, .slice B9 m2 bc9]) _ (run_load_op 34 (.tmp 14) rfl w7.heap.size 0 rfl _ (cl_load k14z)) ?_; simp only [Act.put])
      | ((with_reducible show wpList _ _ _ (⟨some 84, .load _ _, _, _, _, _⟩ :: _) _ _); refine wpList_runG (by kernel_rfl) (.agg #[.slice D8 m1 dc8, .slice D9 m2 dc9]) _ (run_load_op 34 (.tmp 16) rfl w9.heap.size 0 rfl _ (cl_load k16z)) ?_; simp only [Act.put])
      | (go_at_call 20; refine hcs.mono ?_; clear hcs; rintro e w16 ⟨rfl, hb16⟩; have hC16 := hC15.step hb16; have hLa16 := hLa15.step hb16; have hLb16 := hLb15.step hb16)
      | (go_at_call_of 21 (Value.slice Aa na ca); refine (left13_any la Am Aa na cm ca w16 hLa16.all hC16.ea.all (by omega)).mono ?_; rintro e w17 ⟨rfl, hb17⟩; have hC17 := hC16.step hb17; have hLb17 := hLb16.step hb17)
      | (go_at_call_of 21 (Value.slice Ab nb cb); refine (left13_any lb Bm Ab nb dm cb w17 hLb17.all hC17.eb.all (by omega)).mono ?_; rintro e w18 ⟨rfl, hb18⟩; have hC18 := hC17.step hb18)
      | (go_at_call 14; refine (known13_any _).mono ?_; rintro e w19 ⟨rfl, hb19⟩))
    go_ret
    exact ⟨rfl, hC18.bel.trans (hb19.mono hC18.bel.size)⟩
  · have hrc0 : (rc == 0) = false := by simpa using hrc
    have hS : Below w10.heap.size w10 w10.drew := (Below.refl _ _).drew
    refine wp_region_mix (fun W => Below w10.heap.size w10 W) [(0, true), (2, true), (1, false), (3, true), (4, true), (5, true), (6, true), (7, false), (8, true), (9, true), (10, true), (11, true), (12, true), (13, true), (14, true), (15, true), (16, false), (17, true), (18, true), (19, true), (20, true), (21, true), (22, true), (24, true), (25, true), (23, false), (26, false), (27, true), (28, true)] (by kernel_rfl) (by kernel_rfl) hS fun _ => ?_
    simp only [List.map_cons, List.map_nil, Array.getD_eq_getD_getElem?, List.getElem?_toArray, List.getElem?_cons_succ, List.getElem?_cons_zero, Option.getD_some]
    generalize w10.drew = u8 at hS ⊢
    refine wpMix_s (fun K hK => ?_)
    go_simp
    refine hK _ ?_
    clear hK K
    refine wpMix_s (fun K hK => ?_)
    go_simp
    refine hK _ ?_
    clear hK K
    refine wpMix_c (fun K hK => ?_) hS
    go_simp
    refine (num13_any rc u8).mono ?_
    rintro e u8e ⟨rfl, hww⟩
    obtain rfl := hww.symm
    refine hK _ _ ?_
    clear hK K
    refine ⟨hS, ?_⟩
    refine wpMix_s (fun K hK => ?_)
    go_simp
    refine hK _ ?_
    clear hK K
    refine wpMix_s (fun K hK => ?_)
    go_simp
    refine hK _ ?_
    clear hK K
    refine wpMix_v (by kernel_rfl) (.agg #[.slice A8 m1 ac8, .slice A9 m2 ac9]) (fun s => run_load_op 34 (.tmp 12) rfl w5.heap.size 0 rfl _ (cl_load (k12.step s.ok))) ?_
    simp only [Act.put]
    refine wpMix_v (by kernel_rfl) (.agg #[.slice D8 m1 dc8, .slice D9 m2 dc9]) (fun s => run_load_op 34 (.tmp 16) rfl w9.heap.size 0 rfl _ (cl_load (k16.step s.ok))) ?_
    simp only [Act.put]
    refine wpMix_c (fun K hK => ?_) hS
    go_simp
    refine (csame_any r1 r2 A8 A9 D8 D9 m1 ac8 m2 ac9 dc8 dc9 u8 (sa8.step hS).all (sa9.step hS).all (sd8.step hS).all (sd9.step hS).all).mono ?_
    rintro e u8_1 ⟨rfl, hb'⟩
    refine hK _ _ ?_
    clear hK K
    replace hS := hS.trans (hb'.mono hS.size)
    refine ⟨hS, ?_⟩
    clear hb'
    refine wpMix_s (fun K hK => ?_)
    go_simp
    refine hK _ ?_
    clear hK K
    refine wpMix_s (fun K hK => ?_)
    go_simp
    refine hK _ ?_
    clear hK K
    refine wpMix_s (fun K hK => ?_)
    go_simp
    refine hK _ ?_
    clear hK K
    refine wpMix_s (fun K hK => ?_)
    go_simp
    refine hK _ ?_
    clear hK K
    refine wpMix_s (fun K hK => ?_)
    go_simp
    refine hK _ ?_
    clear hK K
    refine wpMix_s (fun K hK => ?_)
    go_simp
    refine hK _ ?_
    clear hK K
    refine wpMix_s (fun K hK => ?_)
    go_simp
    refine hK _ ?_
    clear hK K
    refine wpMix_s (fun K hK => ?_)
    go_simp
    refine hK _ ?_
    clear hK K
    refine wpMix_c (fun K hK => ?_) hS
    go_simp
    refine hK _ _ ?_
    clear hK K
    refine ⟨hS, ?_⟩
    refine wpMix_s (fun K hK => ?_)
    go_simp
    refine hK _ ?_
    clear hK K
    refine wpMix_s (fun K hK => ?_)
    go_simp
    refine hK _ ?_
    clear hK K
    refine wpMix_s (fun K hK => ?_)
    go_simp
    refine hK _ ?_
    clear hK K
    refine wpMix_s (fun K hK => ?_)
    go_simp
    refine hK _ ?_
    clear hK K
    refine wpMix_s (fun K hK => ?_)
    go_simp
    refine hK _ ?_
    clear hK K
    refine wpMix_v (by kernel_rfl) (.agg #[.slice C1 q1 d1, .slice C2 q2 d2]) (fun s => run_load_op 34 (.tmp 7) rfl w.heap.size 0 rfl _ (cl_load (hC.step s.ok).box)) ?_
    simp only [Act.put]
    refine wpMix_s (fun K hK => ?_)
    go_simp
    refine hK _ ?_
    clear hK K
    refine wpMix_v (by kernel_rfl) (.agg #[.slice C1 q1 d1, .slice C2 q2 d2]) (fun s => run_load_op 34 (.tmp 7) rfl w.heap.size 0 rfl _ (cl_load (hC.step s.ok).box)) ?_
    simp only [Act.put]
    refine wpMix_c (fun K hK => ?_) hS
    go_simp
    refine (Hi1.out u8_1 (hC.step hS)).mono ?_
    rintro e u8_2 ⟨rfl, hb'⟩
    refine hK _ _ ?_
    clear hK K
    replace hS := hS.trans (hb'.mono hS.size)
    refine ⟨hS, ?_⟩
    clear hb'
    refine wpMix_c (fun K hK => ?_) hS
    go_simp
    refine (Hi2.out u8_2 (hC.step hS)).mono ?_
    rintro e u8_3 ⟨rfl, hb'⟩
    refine hK _ _ ?_
    clear hK K
    replace hS := hS.trans (hb'.mono hS.size)
    refine ⟨hS, ?_⟩
    clear hb'
    refine wpMix_s (fun K hK => ?_)
    go_simp
    refine hK _ ?_
    clear hK K
    refine wpMix_s (fun K hK => ?_)
    go_simp
    refine hK _ ?_
    clear hK K
    refine wpMix_nil ?_
    intro _
    have hC11 := hC.step hS
    replace hLa4 := hLa4.step hS
    replace hLb4 := hLb4.step hS
    replace k12 := k12.step hS
    replace k14 := k14.step hS
    replace k16 := k16.step hS
    replace hoa8 := owns_step hoa8 hS
    replace hoa9 := owns_step hoa9 hS
    replace sb8 := sb8.step hS
    replace sb9 := sb9.step hS
    replace sd8 := sd8.step hS
    replace sd9 := sd9.step hS
    have hz11 := hS.size
    clear hS hC
    go_wp2_with ((with_reducible show wpList _ _ _ (⟨some 81, .load _ _, _, _, _, _⟩ :: _) _ _); refine wpList_runG (by kernel_rfl) (.agg #[.slice A8 m1 ac8, .slice A9 m2 ac9]) _ (run_load_op 34 (.tmp 12) rfl w5.heap.size 0 rfl _ (cl_load k12)) ?_; simp only [Act.put])
    refine (spoil13_any _ w4.heap.size m1 m2 _ _ ⟨_, hoa8⟩ ⟨_, hoa9⟩).mono ?_
    rintro e w15 ⟨rfl, wm, hg1, hg2⟩
    have hr1 : ∀ r, (Value.slice A8 m1 ac8).ownBlock = some r → w4.heap.size ≤ r ∧ r < w6.heap.size := fun r e => HOA8.out r (by rw [Hm1.out]; exact e)
    have hr2 : ∀ r, (Value.slice A9 m2 ac9).ownBlock = some r → w4.heap.size ≤ r ∧ r < w6.heap.size := fun r e => HOA9.out r (by rw [Hm2.out]; exact e)
    have hz15 := hg1.size
    have hb15 : Below w4.heap.size u8_3 w15 := ((Below.refl _ u8_3).grown hg1 (by omega) fun r e => (hr1 r e).1).grown hg2 (by omega) fun r e => (hr2 r e).1
    have hC15 := hC11.below hwN hb15
    have hLa15 := hLa4.below hb15 fun _ _ hx => hx
    have hLb15 := hLb4.below hb15 fun _ _ hx => hx
    have k14z := (k14.grown hg1 (fun e => by have := (hr1 _ e.symm).2; omega)).grown hg2 (fun e => by have := (hr2 _ e.symm).2; omega)
    have k16z := (k16.grown hg1 (fun e => by have := (hr1 _ e.symm).2; omega)).grown hg2 (fun e => by have := (hr2 _ e.symm).2; omega)
    have sb8z := ((sb8.grown hg1 (fun b _ hx e => by have hx : w6.heap.size ≤ b := hx; have := (hr1 _ e.symm).2; omega)).grown hg2 (fun b _ hx e => by have hx : w6.heap.size ≤ b := hx; have := (hr2 _ e.symm).2; omega)).all
    have sb9z := ((sb9.grown hg1 (fun b _ hx e => by have hx : w6.heap.size ≤ b := hx; have := (hr1 _ e.symm).2; omega)).grown hg2 (fun b _ hx e => by have hx : w6.heap.size ≤ b := hx; have := (hr2 _ e.symm).2; omega)).all
    have sd8z := ((sd8.grown hg1 (fun b _ hx e => by have hx : w8.heap.size ≤ b := hx; have := (hr1 _ e.symm).2; omega)).grown hg2 (fun b _ hx e => by have hx : w8.heap.size ≤ b := hx; have := (hr2 _ e.symm).2; omega)).all
    have sd9z := ((sd9.grown hg1 (fun b _ hx e => by have hx : w8.heap.size ≤ b := hx; have := (hr1 _ e.symm).2; omega)).grown hg2 (fun b _ hx e => by have hx : w8.heap.size ≤ b := hx; have := (hr2 _ e.symm).2; omega)).all
    clear hg1 hg2
    have hcs := csame_any r1 r2 B8 B9 D8 D9 m1 bc8 m2 bc9 dc8 dc9 w15 sb8z sb9z sd8z sd9z
    go_wp2_with (first
      | ((with_reducible show wpList _ _ _ (⟨some 83, .load _ _, _, _, _, _⟩ :: _) _ _); refine wpList_runG (by kernel_rfl) (.agg #[.slice B8 m1 bc8, .slice B9 m2 bc9]) _ (run_load_op 34 (.tmp 14) rfl w7.heap.size 0 rfl _ (cl_load k14z)) ?_; simp only [Act.put])
      | ((with_reducible show wpList _ _ _ (⟨some 84, .load _ _, _, _, _, _⟩ :: _) _ _); refine wpList_runG (by kernel_rfl) (.agg #[.slice D8 m1 dc8, .slice D9 m2 dc9]) _ (run_load_op 34 (.tmp 16) rfl w9.heap.size 0 rfl _ (cl_load k16z)) ?_; simp only [Act.put])
      | (go_at_call 20; refine hcs.mono ?_; clear hcs; rintro e w16 ⟨rfl, hb16⟩; have hC16 := hC15.step hb16; have hLa16 := hLa15.step hb16; have hLb16 := hLb15.step hb16)
      | (go_at_call_of 21 (Value.slice Aa na ca); refine (left13_any la Am Aa na cm ca w16 hLa16.all hC16.ea.all (by omega)).mono ?_; rintro e w17 ⟨rfl, hb17⟩; have hC17 := hC16.step hb17; have hLb17 := hLb16.step hb17)
      | (go_at_call_of 21 (Value.slice Ab nb cb); refine (left13_any lb Bm Ab nb dm cb w17 hLb17.all hC17.eb.all (by omega)).mono ?_; rintro e w18 ⟨rfl, hb18⟩; have hC18 := hC17.step hb18)
      | (go_at_call 14; refine (known13_any _).mono ?_; rintro e w19 ⟨rfl, hb19⟩))
    go_ret
    exact ⟨rfl, hC18.bel.trans (hb19.mono hC18.bel.size)⟩
end Go.Proofs.Ytonidnfgneokbaa
