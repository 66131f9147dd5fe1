/- cons.Size; notaryref12.Prove. -/
import Derived.Test.YtgcbdnoniikboaaQa26
import Derived.Test.YtgcbdnoniikboaaQa16
import Derived.Test.YtgcbdnoniikboaaQa22
namespace Go.Proofs.Ytgcbdnoniikboaa
open Go Go.RowKit

set_option maxRecDepth 100000 in
theorem csize_any (m n : Int) (w : World) (hn : n ≤ 9223372036854775807) :
    Calls Try.prog 42 #[.int .i64 m, .int .i64 n] w fun e w' => e = .returned (.tuple #[.int .i64 ((stepsA m n).1.length : Int), .int .i64 (stepsA m n).2]) ∧ Below w.heap.size w w' := by
  have hst := tstepsA_any m n w hn
  obtain ⟨⟨ls, e0⟩, hse⟩ : ∃ s, stepsA m n = s := ⟨_, rfl⟩
  rw [hse] at hst ⊢
  dsimp only at hst ⊢
  have Hst := Lib.hid hst
  clear hst hse
  go_enter Try.func42, Try.ntmps42
  go_wp2_with fail
  refine Hst.out.mono ?_
  rintro e w1 ⟨vs, rfl, hP⟩
  obtain ⟨As, cs, rfl, -⟩ := Rs.of_owns hP.own (length_natR ls)
  have hb1 := hP.bel
  clear hP
  go_wp2_with fail
  refine bodyPost_ret (results_tmp2 rfl _ _ _) rfl ⟨rfl, hb1⟩

structure RpI (w : World) (hs : List (List UInt8)) (A : Option Addr) (n c : Nat) (As : Option Addr) (ns cs b1 : Nat) (ls : List (Nat × Nat)) (q : List (List UInt8)) (v : Value) (W : World) : Prop where
  src : Hs W (· < w.heap.size) A n c hs
  st : Rs W (· < b1) As ns cs (natR ls)
  own : W.ownsRow b1 34 32 v q.length (hcells q)
  bel : Below w.heap.size w W
  le : w.heap.size ≤ b1
  sz : b1 ≤ W.heap.size

set_option maxHeartbeats 2000000 in
set_option maxRecDepth 100000 in
theorem rprove_any (hs : List (List UInt8)) (A : Option Addr) (n c : Nat) (w : World) (m : Int) (h : Hs w (fun _ => True) A n c hs) (hn : n ≤ 1099511627776) :
    Calls Try.prog 43 #[.slice A n c, .int .i64 m] w fun e w' => ∃ v, e = .returned (.tuple #[v, .int .i64 (stepsA m hs.length).2]) ∧ w'.ownsRow w.heap.size 34 32 v (rootsS hs m).length (hcells (rootsS hs m)) ∧ Below w.heap.size w w' := by
  have hlen := h.len
  have h32 := h.all
  have hroom := h.sl.room
  have hmx := h.sl.max
  unfold maxLen at hmx
  have hst := rstepsA_any m (n : Int) w (by omega)
  have heach := stepsA_each m n
  obtain ⟨⟨ls, e0⟩, hse⟩ : ∃ s, stepsA m (n : Int) = s := ⟨_, rfl⟩
  rw [hse] at hst heach
  dsimp only at hst heach
  have hlm : ls.length ≤ 64 := by have := stepsA_len m (n : Int) (by omega); rw [hse] at this; exact this
  have Hlen := Lib.hid hlen
  have H32h := Lib.hid h32
  have Hst := Lib.hid hst
  have Heach := Lib.hid heach
  rw [hlen, hse]
  dsimp only
  by_cases he0 : e0 = 0
  · subst he0
    have hrs : rootsS hs m = rootsL hs ls := by unfold rootsS; rw [hlen, hse]
    have hlr : (rootsL hs ls).length = ls.length := by simp [rootsL]
    rw [hrs]
    have Hlr := Lib.hid hlr
    clear hlen h32 hst hlr hrs hse heach
    go_enter Try.func43, Try.ntmps43
    go_wp2_with fail
    refine Hst.out.mono ?_
    rintro e w1 ⟨vs, rfl, hP⟩
    obtain ⟨As, cs, rfl, hrs1⟩ := Rs.of_owns hP.own (length_natR ls)
    have hC1 : RpI w hs A n c As ls.length cs w1.heap.size ls [] (.slice none 0 0) w1 := ⟨(h.weak fun b hb _ => hb).step hP.bel, hrs1.weak fun b hb _ => hb, World.ownsRow_nil _ _ _ _, hP.bel, hP.bel.size, Nat.le_refl _⟩
    have hroom1 := hrs1.sl.room
    have hmx1 := hrs1.sl.max
    unfold maxLen at hmx1
    clear h hP hrs1
    generalize w1.heap.size = b1 at *
    go_wp2_with fail
    go_loopw [8, 9] (fun v i wr => ∃ k : Nat, k ≤ ls.length ∧ i = .int .i64 k ∧ RpI w hs A n c As ls.length cs b1 ls ((rootsL hs ls).take k) v wr) (fun _ i _ => ls.length - (intOf i).toNat)
    case atStart => exact ⟨0, Nat.zero_le _, rfl, hC1⟩
    case round =>
      clear hC1
      obtain ⟨k, hk, rfl, hC⟩ := hrel
      by_cases hkn : k < ls.length
      · obtain ⟨b, o, rfl, -, -, hat⟩ := hC.st.at_ (by omega)
        obtain ⟨h1, h2⟩ := Heach.out _ (List.getElem_mem hkn)
        have hx : (natR ls).getD k (0, 0) = (((ls[k]).1 : Int), ((ls[k]).2 : Int)) := by
          unfold natR
          rw [List.getD_eq_getElem?_getD, List.getElem?_map, List.getElem?_eq_getElem hkn]; rfl
        have htk := take_snocH (rootsL hs ls) k (by rw [Hlr.out]; exact hkn)
        have hz : (rootsL hs ls).getD k [] = stretchL hs (ls[k]).1 (ls[k]).2 := by
          unfold rootsL
          rw [List.getD_eq_getElem?_getD, List.getElem?_map, List.getElem?_eq_getElem hkn]; rfl
        have hlenq : ((rootsL hs ls).take k).length ≤ 64 := by rw [List.length_take, Hlr.out]; omega
        generalize (ls[k]).1 = x1 at *
        generalize (ls[k]).2 = x2 at *
        generalize hqq : (rootsL hs ls).take k = q at *
        rw [hz] at htk
        obtain ⟨z, hz'⟩ : ∃ z, stretchL hs x1 x2 = z := ⟨_, rfl⟩
        have hzl : z.length = 32 := by rw [← hz']; exact length_stretchL hs x1 x2 H32h.out
        rw [hz'] at htk
        have hS : Below b1 wr wr.drew := (Below.refl _ _).drew
        have d0 : ∀ s : InC (fun W => Below b1 wr W), s.W.cell? ⟨b, o + k * 2, none⟩ = some (.int .i64 (x1 : Int)) := fun s => by
          obtain ⟨b', o', hA, -, -, h⟩ := (show Rs s.W (· < b1) (some ⟨b, o, none⟩) ls.length cs (natR ls) from ⟨hC.st.sl.below s.ok fun _ _ h => h, hC.st.len⟩).at_ (by omega)
          cases hA
          rw [(h k hkn).1, hx]
        have d1 : ∀ s : InC (fun W => Below b1 wr W), s.W.cell? ⟨b, o + k * 2 + 1, none⟩ = some (.int .i64 (x2 : Int)) := fun s => by
          obtain ⟨b', o', hA, -, -, h⟩ := (show Rs s.W (· < b1) (some ⟨b, o, none⟩) ls.length cs (natR ls) from ⟨hC.st.sl.below s.ok fun _ _ h => h, hC.st.len⟩).at_ (by omega)
          cases hA
          rw [(h k hkn).2, hx]
        have hsub : Hs wr.drew (fun _ => True) (if c = x1 then A else A.map (·.add (x1 * 32))) (x2 - x1) (c - x1) ((hs.take x2).drop x1) := (((hC.src.take x2 (by omega)).drop x1 (by omega)).weak fun _ _ _ => trivial).drew
        have hrof := rof_any _ _ _ _ _ hsub (by omega)
        rw [show rootL ((hs.take x2).drop x1) = z by rw [List.drop_take]; exact hz'] at hrof
        generalize hAs : (if c = x1 then A else A.map (·.add (x1 * 32))) = Ax at hrof
        have HAs := Lib.hid hAs
        have Htk := Lib.hid htk
        have Hzl := Lib.hid hzl
        clear hAs htk hzl hz hz' hx hat hsub hqq
        go_upto_region 8 with fail
        have hC0 : RpI w hs A n c (some ⟨b, o, none⟩) ls.length cs b1 ls q _ wr.drew := ⟨hC.src.drew, hC.st.drew, owns_step hC.own (Below.refl _ _).drew, hC.bel.drew, hC.le, hC.sz⟩
        clear hC
        refine wp_region_mix (fun W => Below b1 wr W) [(0, true), (1, true), (2, true), (3, true), (4, true), (5, true), (6, true), (7, true), (8, true), (9, true), (10, true), (11, true), (12, true), (13, false), (14, false), (15, false), (16, true)] (by kernel_rfl) (by kernel_rfl) hS fun _ => ?_
        simp only [List.map_cons, List.map_nil, Array.getD_eq_getD_getElem?, List.getElem?_toArray, List.getElem?_cons_succ, List.getElem?_cons_zero, Option.getD_some]
        generalize wr.drew = W0 at hS hrof hC0 ⊢
        refine wpMix_s (fun K hK => ?_)
        go_simp
        refine hK _ ?_
        clear hK K
        refine wpMix_s (fun K hK => ?_)
        go_simp
        refine hK _ ?_
        clear hK K
        refine wpMix_s (fun K hK => ?_)
        go_simp
        refine hK _ ?_
        clear hK K
        refine wpMix_s (fun K hK => ?_)
        go_simp
        refine hK _ ?_
        clear hK K
        refine wpMix_s (fun K hK => ?_)
        go_simp
        refine hK _ ?_
        clear hK K
        refine wpMix_s (fun K hK => ?_)
        go_simp
        refine hK _ ?_
        clear hK K
        refine wpMix_s (fun K hK => ?_)
        go_simp
        refine hK _ ?_
        clear hK K
        refine wpMix_s (fun K hK => ?_)
        go_simp
        refine hK _ ?_
        clear hK K
        refine wpMix_s (fun K hK => ?_)
        go_simp
        refine hK _ ?_
        clear hK K
        refine wpMix_s (fun K hK => ?_)
        go_simp
        refine hK _ ?_
        clear hK K
        refine wpMix_s (fun K hK => ?_)
        go_simp
        refine hK _ ?_
        clear hK K
        refine wpMix_s (fun K hK => ?_)
        go_simp
        refine hK _ ?_
        clear hK K
        refine wpMix_v (by kernel_rfl) (.slice Ax (x2 - x1) (c - x1)) (fun s => by rw [← HAs.out]; exact run_slice_op_both (.tmp 27) (.tmp 32) (.tmp 37) rfl A n c x1 x2 rfl rfl rfl (by omega) (by omega) s.W) ?_
        simp only [Act.put]
        refine wpMix_c (fun K hK => ?_) hS
        go_simp
        refine hrof.mono ?_
        rintro e W1 ⟨rfl, hb'⟩
        refine hK _ _ ?_
        clear hK K
        have hC1 : RpI w hs A n c (some ⟨b, o, none⟩) ls.length cs b1 ls q _ W1 := ⟨hC0.src.step hb', hC0.st.step hb', owns_step hC0.own hb', hC0.bel.trans (hb'.mono hC0.bel.size), hC0.le, Nat.le_trans hC0.sz hb'.size⟩
        replace hS := hS.trans (hb'.mono hC0.sz)
        refine ⟨hS, ?_⟩
        clear hC0 hb'
        obtain ⟨v', W9, hr9, hv9, hg9, -⟩ := append_hR hC1.own z Hzl.out (by omega) hC1.sz
        have hb9 : Below b1 W1 W9 := (Below.refl _ _).grown hg9 hC1.sz (fun r e => (hC1.own.lt r e).1)
        have hC9 : RpI w hs A n c (some ⟨b, o, none⟩) ls.length cs b1 ls (q ++ [z]) v' W9 := ⟨⟨hC1.src.sl.below hb9 (fun _ _ h => Nat.lt_of_lt_of_le h hC1.le), hC1.src.len, hC1.src.all⟩, ⟨hC1.st.sl.below hb9 (fun _ _ h => h), hC1.st.len⟩, hv9, hC1.bel.trans (hb9.mono hC1.le), hC1.le, Nat.le_trans hC1.sz hb9.size⟩
        refine wpMix_run (by kernel_rfl) (.slice (some ⟨W1.heap.size, 0, none⟩) 1 1) (W1.alloc (.cells (hcells [z]).toArray 34)) (run_litH_op z Hzl.out (.tmp 39) rfl rfl _) (hS.alloc (by have := hC1.sz; omega) _) ?_
        simp only [Act.put]
        refine wpMix_run (by kernel_rfl) (v') (W9) (run_append_op (.tmp 26) (.tmp 40) 37 rfl _ _ rfl rfl hr9) (hS.trans hb9) ?_
        simp only [Act.put]
        refine wpMix_s (fun K hK => ?_)
        go_simp
        refine hK _ ?_
        clear hK K
        refine wpMix_nil ?_
        intro _
        clear hS hC1 hr9 hv9 hg9 hb9 d0 d1
        go_wp2_with fail
        refine ⟨⟨k + 1, by omega, by go_num, by rw [Htk.out]; exact hC9⟩, by simp [intOf]; omega⟩
      · obtain rfl : k = ls.length := by omega
        go_wp2_with fail
        rw [List.take_of_length_le (by rw [Hlr.out]; exact Nat.le_refl _)] at hC
        refine bodyPost_ret (results_tmp2 rfl _ _ _) rfl ⟨_, rfl, owns_le hC.own hC.le, hC.bel⟩
  · have hb0 : rootsS hs m = [] := rootsS_bad hs m (by rw [hlen, hse]; exact he0)
    rw [hb0]
    have hne : (e0 != 0) = true := by simpa using he0
    clear hlen h32 hst hse he0 hb0
    go_enter Try.func43, Try.ntmps43
    go_wp2_with fail
    refine Hst.out.mono ?_
    rintro e w1 ⟨vs, rfl, hP⟩
    obtain ⟨As, cs, rfl, -⟩ := Rs.of_owns hP.own (length_natR ls)
    have hb1 := hP.bel
    clear hP
    go_wp2_with fail
    refine bodyPost_ret (results_tmp2 rfl _ _ _) rfl ⟨_, rfl, World.ownsRow_nil _ _ _ _, hb1⟩
end Go.Proofs.Ytgcbdnoniikboaa
/- cons.Both; notaryref12.Both. -/
namespace Go.Proofs.Ytgcbdnoniikboaa
open Go Go.RowKit

theorem results_cells2t {fn : Func} {p q u : Tmp} {ty : TypeId} (h : fn.results = #[.cell p ty, .cell q ty, .tmp u]) (tmps : Array Value) (P : Program) (w : World) :
    (results fn tmps).run P w =
      ((asAddr (tmps.getD p undef)).run P w).andThen fun a w₁ => ((loadVar ty a).run P w₁).andThen fun v w₂ => ((asAddr (tmps.getD q undef)).run P w₂).andThen fun b w₃ => ((loadVar ty b).run P w₃).andThen fun z w₄ => .ok (.tuple #[v, z, tmps.getD u undef]) w₄ := by
  simp only [results, h]
  simp [Sem.run_bind, Result.andThen]
theorem tuple_cells2t {fn : Func} {p q u : Tmp} (h : fn.results = #[.cell p 34, .cell q 34, .tmp u]) (tmps : Array Value) (w : World) (g g' : Nat) (x y : List UInt8)
    (hp : tmps.getD p undef = .pointer (some ⟨g, 0, none⟩)) (hq : tmps.getD q undef = .pointer (some ⟨g', 0, none⟩)) (hx : HV w g x) (hy : HV w g' y) :
    (results fn tmps).run Try.prog w = .ok (.tuple #[.agg (x.map B).toArray, .agg (y.map B).toArray, tmps.getD u undef]) w := by
  have l1 := run_loadVar_row (P := Try.prog) w g _ 34 _ (0, 0) _ hx.blk Try.underlying34 rfl (by rw [show (x.map B).toArray.size = 32 by simp [hx.len]]; exact info26)
  have l2 := run_loadVar_row (P := Try.prog) w g' _ 34 _ (0, 0) _ hy.blk Try.underlying34 rfl (by rw [show (y.map B).toArray.size = 32 by simp [hy.len]]; exact info26)
  rw [results_cells2t h, hp, hq]
  simp only [asAddr, Sem.run_pure, Result.andThen_ok, l1, l2]
theorem length_zeroL : zeroL.length = 32 := rfl
theorem below_of_grownBy {n g : Nat} {w w' : World} (h : w.grownBy w' (some g)) (hn : n ≤ g) (hsz : n ≤ w.heap.size) : Below n w w' :=
  ⟨h.os, h.tape, h.output, h.size, fun k hk => h.block k (Nat.lt_of_lt_of_le hk hsz) (fun e => by have := Option.some.inj e; omega)⟩

set_option maxHeartbeats 4000000 in
set_option maxRecDepth 100000 in
theorem rbothE_any (m n : Int) (x : List UInt8) (p : List (List UInt8)) (A : Option Addr) (np c : Nat) (w : World) (hn : n ≤ 9223372036854775807) (hx : x.length = 32) (h : Hs w (fun _ => True) A np c p) :
    Calls Try.prog 47 #[.int .i64 m, .int .i64 n, .agg (x.map B).toArray, .slice A np c] w fun e w' => e = .returned (.tuple #[.agg ((bothE m n x p).1.1.map B).toArray, .agg ((bothE m n x p).1.2.map B).toArray, .int .i64 (bothE m n x p).2]) ∧ Below w.heap.size w w' := by
  obtain ⟨w3, hw3⟩ : ∃ w3, ((w.alloc (.cells (x.map B).toArray 34)).alloc (.cells #[.int .u8 0, .int .u8 0, .int .u8 0, .int .u8 0, .int .u8 0, .int .u8 0, .int .u8 0, .int .u8 0, .int .u8 0, .int .u8 0, .int .u8 0, .int .u8 0, .int .u8 0, .int .u8 0, .int .u8 0, .int .u8 0, .int .u8 0, .int .u8 0, .int .u8 0, .int .u8 0, .int .u8 0, .int .u8 0, .int .u8 0, .int .u8 0, .int .u8 0, .int .u8 0, .int .u8 0, .int .u8 0, .int .u8 0, .int .u8 0, .int .u8 0, .int .u8 0] 34)).alloc (.cells #[.int .u8 0, .int .u8 0, .int .u8 0, .int .u8 0, .int .u8 0, .int .u8 0, .int .u8 0, .int .u8 0, .int .u8 0, .int .u8 0, .int .u8 0, .int .u8 0, .int .u8 0, .int .u8 0, .int .u8 0, .int .u8 0, .int .u8 0, .int .u8 0, .int .u8 0, .int .u8 0, .int .u8 0, .int .u8 0, .int .u8 0, .int .u8 0, .int .u8 0, .int .u8 0, .int .u8 0, .int .u8 0, .int .u8 0, .int .u8 0, .int .u8 0, .int .u8 0] 34) = w3 := ⟨_, rfl⟩
  have hb0 : Below w.heap.size w w3 := by rw [← hw3]; exact (((Below.refl _ _).alloc (Nat.le_refl _) _).alloc (by simp) _).alloc (by simp; omega) _
  have hsz3 : w3.heap.size = w.heap.size + 1 + 1 + 1 := by rw [← hw3]; simp
  have k6 : HV w3 w.heap.size x := ⟨by rw [← hw3]; exact ((Blk.new _ _ _).alloc _).alloc _, hx⟩
  have k8 : HV w3 (w.heap.size + 1) (List.replicate 32 0) := ⟨by rw [← hw3]; exact (Blk.new' _ _ zeroHash _ (by simp)).alloc _, rfl⟩
  have k9 : HV w3 (w.heap.size + 1 + 1) (List.replicate 32 0) := ⟨by rw [← hw3]; exact Blk.new' _ _ zeroHash _ (by simp), rfl⟩
  have h3 := h.step hb0
  have hlen := h.len
  have h32 := h.all
  have hroom := h.sl.room
  have hmx := h.sl.max
  unfold maxLen at hmx
  have Hw3 := Lib.hid hw3
  have Hx := Lib.hid hx
  clear hw3 h hx
  by_cases hbad : m < 1 ∨ n < m
  · rw [bothE_bad m n x p hbad]
    dsimp only
    obtain ⟨z, hz⟩ : ∃ z, zeroL = z := ⟨_, rfl⟩
    have hzl : z.length = 32 := by rw [← hz]; rfl
    rw [hz]
    have Hz := Lib.hid hz
    have Hzl := Lib.hid hzl
    clear hz hzl
    rcases Int.lt_or_le m 1 with hm | hm
    · clear hbad
      have hw3 := Hw3.out
      go_enter Try.func47, Try.ntmps47
      go_wp2_with (first
        | ((with_reducible show wpList _ _ _ (⟨some 22, .build _ _, _, _, _, _⟩ :: _) _ _); refine wpList_run0 rfl (.agg (z.map B).toArray) (by rw [← Hz.out]; kernel_rfl) ?_; simp only [Act.put])
        | ((with_reducible show wpList _ _ _ (⟨some 23, .build _ _, _, _, _, _⟩ :: _) _ _); refine wpList_run0 rfl (.agg (z.map B).toArray) (by rw [← Hz.out]; kernel_rfl) ?_; simp only [Act.put])
        | ((with_reducible show wpList _ _ _ (⟨none, .store _ (.tmp 8) (.tmp 22), _, _, _, _⟩ :: _) _ _); refine wpList_hset2 (.tmp 8) (.tmp 22) rfl rfl k8 rfl rfl Hzl.out ?_; intro W1 k8s hb1 hoth1; simp only [Act.put]; replace k9 := hoth1 _ _ (by omega) k9; replace hb0 := hb0.trans (hb1.mono (by omega)))
        | ((with_reducible show wpList _ _ _ (⟨none, .store _ (.tmp 9) (.tmp 23), _, _, _, _⟩ :: _) _ _); refine wpList_hset2 (.tmp 9) (.tmp 23) rfl rfl k9 rfl rfl Hzl.out ?_; intro W2 k9s hb2 hoth2; simp only [Act.put]; replace k8s := hoth2 _ _ (by omega) k8s; replace hb0 := hb0.trans (hb2.mono (by omega))))
      refine bodyPost_ret (tuple_cells2t rfl _ _ (w.heap.size + 1) (w.heap.size + 1 + 1) z z rfl rfl k8s k9s) rfl ⟨rfl, hb0⟩
    · have hnm : n < m := by omega
      clear hbad
      have hw3 := Hw3.out
      go_enter Try.func47, Try.ntmps47
      go_wp2_with (first
        | ((with_reducible show wpList _ _ _ (⟨some 22, .build _ _, _, _, _, _⟩ :: _) _ _); refine wpList_run0 rfl (.agg (z.map B).toArray) (by rw [← Hz.out]; kernel_rfl) ?_; simp only [Act.put])
        | ((with_reducible show wpList _ _ _ (⟨some 23, .build _ _, _, _, _, _⟩ :: _) _ _); refine wpList_run0 rfl (.agg (z.map B).toArray) (by rw [← Hz.out]; kernel_rfl) ?_; simp only [Act.put])
        | ((with_reducible show wpList _ _ _ (⟨none, .store _ (.tmp 8) (.tmp 22), _, _, _, _⟩ :: _) _ _); refine wpList_hset2 (.tmp 8) (.tmp 22) rfl rfl k8 rfl rfl Hzl.out ?_; intro W1 k8s hb1 hoth1; simp only [Act.put]; replace k9 := hoth1 _ _ (by omega) k9; replace hb0 := hb0.trans (hb1.mono (by omega)))
        | ((with_reducible show wpList _ _ _ (⟨none, .store _ (.tmp 9) (.tmp 23), _, _, _, _⟩ :: _) _ _); refine wpList_hset2 (.tmp 9) (.tmp 23) rfl rfl k9 rfl rfl Hzl.out ?_; intro W2 k9s hb2 hoth2; simp only [Act.put]; replace k8s := hoth2 _ _ (by omega) k8s; replace hb0 := hb0.trans (hb2.mono (by omega))))
      refine bodyPost_ret (tuple_cells2t rfl _ _ (w.heap.size + 1) (w.heap.size + 1 + 1) z z rfl rfl k8s k9s) rfl ⟨rfl, hb0⟩
  · have hm1 : ¬ m < 1 := by omega
    have hnm : ¬ n < m := by omega
    have hst := fun W => rstepsA_any m n W hn
    have hsl := stepsA_len m n hn
    by_cases hsz : (stepsA m n).1.length = p.length
    · rw [bothE_ok m n x p hbad hsz]
      dsimp only
      have hcnt := stepsA_cnt m n (by omega) (by omega)
      have hlb := length_bothL n.toNat m.toNat n.toNat true x p (Nat.le_refl _) (by omega) (by omega) Hx.out h32 (by rw [← hsz, hcnt])
      have hnp : cntS m.toNat n.toNat true = np := by rw [← hcnt, hsz, hlen]
      have hrb := fun W (h : Hs W (fun _ => True) A np c p) => rboth_rec n.toNat m.toNat n.toNat true x p A c W (Nat.le_refl _) (by omega) (by omega) (by omega) Hx.out (by rw [hnp]; exact h)
      rw [hnp, show ((m.toNat : Nat) : Int) = m by omega, show ((n.toNat : Nat) : Int) = n by omega] at hrb
      obtain ⟨r1, hr1⟩ : ∃ r, (bothL m.toNat n.toNat true x p).1 = r := ⟨_, rfl⟩
      obtain ⟨r2, hr2⟩ : ∃ r, (bothL m.toNat n.toNat true x p).2 = r := ⟨_, rfl⟩
      rw [hr1, hr2] at hlb hrb ⊢
      obtain ⟨hl1, hl2⟩ := hlb
      rw [hlen] at hsz
      obtain ⟨⟨ls, e0⟩, hse⟩ : ∃ s, stepsA m n = s := ⟨_, rfl⟩
      rw [hse] at hst hsz hsl
      dsimp only at hst hsz hsl
      have Hl1 := Lib.hid hl1
      have Hl2 := Lib.hid hl2
      have Hrb := Lib.hid hrb
      have Hst := Lib.hid hst
      clear hl1 hl2 hrb hst hr1 hr2 hse hcnt hnp hbad
      have hw3 := Hw3.out
      go_enter Try.func47, Try.ntmps47
      go_wp2_with fail
      clear hw3
      refine (Hst.out w3).mono ?_
      rintro e W4 ⟨vs, rfl, hP⟩
      obtain ⟨As, cs, rfl, -⟩ := Rs.of_owns hP.own (length_natR ls)
      have hb4 := hP.bel
      replace k6 := k6.step hb4
      replace k8 := k8.step hb4
      replace k9 := k9.step hb4
      replace h3 := h3.step hb4
      replace hb0 := hb0.trans (hb4.mono hb0.size)
      have hs4 := hb4.size
      rw [hsz]
      clear hP hb4
      go_wp2_with ((with_reducible show wpList _ _ _ (⟨some 40, .load _ _, _, _, _, _⟩ :: _) _ _); refine wpList_hload (.tmp 6) (by kernel_rfl) rfl k6 rfl ?_; simp only [Act.put])
      refine (Hrb.out W4 h3).mono ?_
      rintro e W5 ⟨rfl, hb5⟩
      replace k8 := k8.step hb5
      replace k9 := k9.step hb5
      replace hb0 := hb0.trans (hb5.mono hb0.size)
      have hs5 := hb5.size
      clear hb5 h3 k6
      go_wp2_with (first
        | ((with_reducible show wpList _ _ _ (⟨some 13, .alloc _, _, _, _, _⟩ :: _) _ _); refine wpList_hnew rfl rfl ?_; intro W6 ka hb6; simp only [Act.put]; replace k8 := k8.step hb6; replace k9 := k9.step hb6; replace hb0 := hb0.trans (hb6.mono hb0.size); have hlta := ka.lt; have hs6 := hb6.size)
        | ((with_reducible show wpList _ _ _ (⟨some 14, .alloc _, _, _, _, _⟩ :: _) _ _); refine wpList_hnew rfl rfl ?_; intro W7 kb hb7; simp only [Act.put]; replace k8 := k8.step hb7; replace k9 := k9.step hb7; replace ka := ka.step hb7; replace hb0 := hb0.trans (hb7.mono hb0.size))
        | ((with_reducible show wpList _ _ _ (⟨none, .store _ (.tmp 13) _, _, _, _, _⟩ :: _) _ _); refine wpList_hset2 (.tmp 13) (.tmp 43) rfl rfl ka rfl rfl Hl1.out ?_; intro W8 kas hb8 hoth8; simp only [Act.put]; replace k8 := hoth8 _ _ (by omega) k8; replace k9 := hoth8 _ _ (by omega) k9; replace kb := hoth8 _ _ (by omega) kb; replace hb0 := hb0.trans (hb8.mono (by omega)))
        | ((with_reducible show wpList _ _ _ (⟨none, .store _ (.tmp 14) _, _, _, _, _⟩ :: _) _ _); refine wpList_hset2 (.tmp 14) (.tmp 44) rfl rfl kb rfl rfl Hl2.out ?_; intro W9 kbs hb9 hoth9; simp only [Act.put]; replace k8 := hoth9 _ _ (by omega) k8; replace k9 := hoth9 _ _ (by omega) k9; replace kas := hoth9 _ _ (by omega) kas; replace hb0 := hb0.trans (hb9.mono (by omega))))
      clear ka kb hb6 hb7 hb8 hb9 hoth8 hoth9
      generalize W5.heap.size = ga at *
      generalize W6.heap.size = gb at *
      have ka := kas
      have kb := kbs
      have hS : (HV W9.drew ga r1 ∧ HV W9.drew gb r2) ∧ Below w.heap.size W9 W9.drew := ⟨⟨ka.drew, kb.drew⟩, (Below.refl _ _).drew⟩
      replace k8 := k8.drew
      replace k9 := k9.drew
      go_wp2_with fail
      refine wp_region_mix (fun W => (HV W ga r1 ∧ HV W gb r2) ∧ Below w.heap.size W9 W) [(0, true), (1, true), (2, false), (3, false), (4, true)] (by kernel_rfl) (by kernel_rfl) hS fun _ => ?_
      simp only [List.map_cons, List.map_nil, Array.getD_eq_getD_getElem?, List.getElem?_toArray, List.getElem?_cons_succ, List.getElem?_cons_zero, Option.getD_some]
      generalize W9.drew = Wz at hS k8 k9 ⊢
      refine wpMix_load (by kernel_rfl) 34 (.tmp 13) rfl (ga) (0) rfl (r1.map B).toArray (fun s => s.ok.1.1.load) ?_
      simp only [Act.put]
      refine wpMix_load (by kernel_rfl) 34 (.tmp 14) rfl (gb) (0) rfl (r2.map B).toArray (fun s => s.ok.1.2.load) ?_
      simp only [Act.put]
      refine wpMix_hset3 (.tmp 8) (.tmp 45) rfl rfl k8 rfl rfl Hl1.out (fun _ _ hb hoth => ⟨⟨hoth _ _ (by omega) hS.1.1, hoth _ _ (by omega) hS.1.2⟩, hS.2.trans (hb.mono (by omega))⟩) ?_
      intro Wx k8s hbx hothx
      simp only [Act.put]
      replace hS : (HV Wx ga r1 ∧ HV Wx gb r2) ∧ Below w.heap.size W9 Wx := ⟨⟨hothx _ _ (by omega) hS.1.1, hothx _ _ (by omega) hS.1.2⟩, hS.2.trans (hbx.mono (by omega))⟩
      replace k9 := hothx _ _ (by omega) k9
      refine wpMix_hset3 (.tmp 9) (.tmp 46) rfl rfl k9 rfl rfl Hl2.out (fun _ _ hb hoth => ⟨⟨hoth _ _ (by omega) hS.1.1, hoth _ _ (by omega) hS.1.2⟩, hS.2.trans (hb.mono (by omega))⟩) ?_
      intro Wy k9s hby hothy
      simp only [Act.put]
      replace hS : (HV Wy ga r1 ∧ HV Wy gb r2) ∧ Below w.heap.size W9 Wy := ⟨⟨hothy _ _ (by omega) hS.1.1, hothy _ _ (by omega) hS.1.2⟩, hS.2.trans (hby.mono (by omega))⟩
      replace k8s := hothy _ _ (by omega) k8s
      refine wpMix_s (fun K hK => ?_)
      go_simp
      refine hK _ ?_
      clear hK K
      refine wpMix_nil ?_
      intro _
      go_wp2_with fail
      refine bodyPost_ret (tuple_cells2t rfl _ _ (w.heap.size + 1) (w.heap.size + 1 + 1) r1 r2 rfl rfl k8s k9s) rfl ⟨rfl, hb0.trans hS.2⟩
    · rw [bothE_size m n x p hbad hsz]
      dsimp only
      obtain ⟨z, hz⟩ : ∃ z, zeroL = z := ⟨_, rfl⟩
      have hzl : z.length = 32 := by rw [← hz]; rfl
      rw [hz]
      have Hz := Lib.hid hz
      have Hzl := Lib.hid hzl
      rw [hlen] at hsz
      obtain ⟨⟨ls, e0⟩, hse⟩ : ∃ s, stepsA m n = s := ⟨_, rfl⟩
      rw [hse] at hst hsz hsl
      dsimp only at hst hsz hsl
      have hne : ((ls.length : Int) != (np : Int)) = true := by simp; omega
      have Hst := Lib.hid hst
      clear hz hzl hst hse hsz hbad
      have hw3 := Hw3.out
      go_enter Try.func47, Try.ntmps47
      go_wp2_with fail
      clear hw3
      refine (Hst.out w3).mono ?_
      rintro e W4 ⟨vs, rfl, hP⟩
      obtain ⟨As, cs, rfl, -⟩ := Rs.of_owns hP.own (length_natR ls)
      have hb4 := hP.bel
      replace k8 := k8.step hb4
      replace k9 := k9.step hb4
      replace hb0 := hb0.trans (hb4.mono hb0.size)
      have hs4 := hb4.size
      clear hP hb4
      go_wp2_with (first
        | ((with_reducible show wpList _ _ _ (⟨some 35, .build _ _, _, _, _, _⟩ :: _) _ _); refine wpList_run0 rfl (.agg (z.map B).toArray) (by rw [← Hz.out]; kernel_rfl) ?_; simp only [Act.put])
        | ((with_reducible show wpList _ _ _ (⟨some 36, .build _ _, _, _, _, _⟩ :: _) _ _); refine wpList_run0 rfl (.agg (z.map B).toArray) (by rw [← Hz.out]; kernel_rfl) ?_; simp only [Act.put])
        | ((with_reducible show wpList _ _ _ (⟨none, .store _ (.tmp 8) (.tmp 35), _, _, _, _⟩ :: _) _ _); refine wpList_hset2 (.tmp 8) (.tmp 35) rfl rfl k8 rfl rfl Hzl.out ?_; intro W5 k8s hb1 hoth1; simp only [Act.put]; replace k9 := hoth1 _ _ (by omega) k9; replace hb0 := hb0.trans (hb1.mono (by omega)))
        | ((with_reducible show wpList _ _ _ (⟨none, .store _ (.tmp 9) (.tmp 36), _, _, _, _⟩ :: _) _ _); refine wpList_hset2 (.tmp 9) (.tmp 36) rfl rfl k9 rfl rfl Hzl.out ?_; intro W6 k9s hb2 hoth2; simp only [Act.put]; replace k8s := hoth2 _ _ (by omega) k8s; replace hb0 := hb0.trans (hb2.mono (by omega))))
      refine bodyPost_ret (tuple_cells2t rfl _ _ (w.heap.size + 1) (w.heap.size + 1 + 1) z z rfl rfl k8s k9s) rfl ⟨rfl, hb0⟩

set_option maxHeartbeats 4000000 in
set_option maxRecDepth 100000 in
theorem cbothE_any (m n : Int) (x : List UInt8) (p : List (List UInt8)) (A : Option Addr) (np c : Nat) (w : World) (hn : n ≤ 9223372036854775807) (hx : x.length = 32) (h : Hs w (fun _ => True) A np c p) :
    Calls Try.prog 46 #[.int .i64 m, .int .i64 n, .agg (x.map B).toArray, .slice A np c] w fun e w' => e = .returned (.tuple #[.agg ((bothE m n x p).1.1.map B).toArray, .agg ((bothE m n x p).1.2.map B).toArray, .int .i64 (bothE m n x p).2]) ∧ Below w.heap.size w w' := by
  obtain ⟨w5, hw5⟩ : ∃ w5, ((((w.alloc (.cells #[.int .i64 m] 2)).alloc (.cells (x.map B).toArray 34)).alloc (.cells #[.slice A np c] 37)).alloc (.cells #[.int .u8 0, .int .u8 0, .int .u8 0, .int .u8 0, .int .u8 0, .int .u8 0, .int .u8 0, .int .u8 0, .int .u8 0, .int .u8 0, .int .u8 0, .int .u8 0, .int .u8 0, .int .u8 0, .int .u8 0, .int .u8 0, .int .u8 0, .int .u8 0, .int .u8 0, .int .u8 0, .int .u8 0, .int .u8 0, .int .u8 0, .int .u8 0, .int .u8 0, .int .u8 0, .int .u8 0, .int .u8 0, .int .u8 0, .int .u8 0, .int .u8 0, .int .u8 0] 34)).alloc (.cells #[.int .u8 0, .int .u8 0, .int .u8 0, .int .u8 0, .int .u8 0, .int .u8 0, .int .u8 0, .int .u8 0, .int .u8 0, .int .u8 0, .int .u8 0, .int .u8 0, .int .u8 0, .int .u8 0, .int .u8 0, .int .u8 0, .int .u8 0, .int .u8 0, .int .u8 0, .int .u8 0, .int .u8 0, .int .u8 0, .int .u8 0, .int .u8 0, .int .u8 0, .int .u8 0, .int .u8 0, .int .u8 0, .int .u8 0, .int .u8 0, .int .u8 0, .int .u8 0] 34) = w5 := ⟨_, rfl⟩
  have hb0 : Below w.heap.size w w5 := by rw [← hw5]; exact (((((Below.refl _ _).alloc (Nat.le_refl _) _).alloc (by simp) _).alloc (by simp; omega) _).alloc (by simp; omega) _).alloc (by simp; omega) _
  have hsz5 : w5.heap.size = w.heap.size + 1 + 1 + 1 + 1 + 1 := by rw [← hw5]; simp
  have k4 : Blk w5 w.heap.size 2 #[.int .i64 m] := by rw [← hw5]; exact ((((Blk.new _ _ _).alloc _).alloc _).alloc _).alloc _
  have k6 : HV w5 (w.heap.size + 1) x := ⟨by rw [← hw5]; exact (((Blk.new' _ _ _ _ (by simp)).alloc _).alloc _).alloc _, hx⟩
  have k7 : Blk w5 (w.heap.size + 1 + 1) 37 #[.slice A np c] := by rw [← hw5]; exact ((Blk.new' _ _ _ _ (by simp)).alloc _).alloc _
  have k8 : HV w5 (w.heap.size + 1 + 1 + 1) (List.replicate 32 0) := ⟨by rw [← hw5]; exact (Blk.new' _ _ zeroHash _ (by simp)).alloc _, rfl⟩
  have k9 : HV w5 (w.heap.size + 1 + 1 + 1 + 1) (List.replicate 32 0) := ⟨by rw [← hw5]; exact Blk.new' _ _ zeroHash _ (by simp), rfl⟩
  have c4 : w5.cell? ⟨w.heap.size, 0, none⟩ = some (.int .i64 m) := by rw [k4.cell]; rfl
  have c7 : w5.cell? ⟨w.heap.size + 1 + 1, 0, none⟩ = some (.slice A np c) := by rw [k7.cell]; rfl
  have hin : ∀ b, b < w.heap.size → (fun _ => True) b → b < w.heap.size := fun _ h _ => h
  have h5 := (h.weak hin).step hb0
  have hlen := h.len
  have h32 := h.all
  have hroom := h.sl.room
  have hmx := h.sl.max
  unfold maxLen at hmx
  have Hw5 := Lib.hid hw5
  have Hx := Lib.hid hx
  clear hw5 h hx hin
  by_cases hbad : m < 1 ∨ n < m
  · rw [bothE_bad m n x p hbad]
    dsimp only
    obtain ⟨z, hz⟩ : ∃ z, zeroL = z := ⟨_, rfl⟩
    have hzl : z.length = 32 := by rw [← hz]; rfl
    rw [hz]
    have Hz := Lib.hid hz
    have Hzl := Lib.hid hzl
    clear hz hzl
    rcases Int.lt_or_le m 1 with hm | hm
    · clear hbad
      go_enter Try.func46, Try.ntmps46
      go_wp2_with (first
        | ((with_reducible show wpList _ _ _ (⟨some 18, .load _ _, _, _, _, _⟩ :: _) _ _); rw [Hw5.out])
        | ((with_reducible show wpList _ _ _ (⟨some 25, .build _ _, _, _, _, _⟩ :: _) _ _); refine wpList_run0 rfl (.agg (z.map B).toArray) (by rw [← Hz.out]; kernel_rfl) ?_; simp only [Act.put])
        | ((with_reducible show wpList _ _ _ (⟨some 26, .build _ _, _, _, _, _⟩ :: _) _ _); refine wpList_run0 rfl (.agg (z.map B).toArray) (by rw [← Hz.out]; kernel_rfl) ?_; simp only [Act.put])
        | ((with_reducible show wpList _ _ _ (⟨none, .store _ (.tmp 8) (.tmp 25), _, _, _, _⟩ :: _) _ _); refine wpList_hset2 (.tmp 8) (.tmp 25) rfl rfl k8 rfl rfl Hzl.out ?_; intro W1 k8s hb1 hoth1; simp only [Act.put]; replace k9 := hoth1 _ _ (by omega) k9; replace hb0 := hb0.trans (hb1.mono (by omega)))
        | ((with_reducible show wpList _ _ _ (⟨none, .store _ (.tmp 9) (.tmp 26), _, _, _, _⟩ :: _) _ _); refine wpList_hset2 (.tmp 9) (.tmp 26) rfl rfl k9 rfl rfl Hzl.out ?_; intro W2 k9s hb2 hoth2; simp only [Act.put]; replace k8s := hoth2 _ _ (by omega) k8s; replace hb0 := hb0.trans (hb2.mono (by omega))))
      refine bodyPost_ret (tuple_cells2t rfl _ _ (w.heap.size + 1 + 1 + 1) (w.heap.size + 1 + 1 + 1 + 1) z z rfl rfl k8s k9s) rfl ⟨rfl, hb0⟩
    · have hnm : n < m := by omega
      clear hbad
      go_enter Try.func46, Try.ntmps46
      go_wp2_with (first
        | ((with_reducible show wpList _ _ _ (⟨some 18, .load _ _, _, _, _, _⟩ :: _) _ _); rw [Hw5.out])
        | ((with_reducible show wpList _ _ _ (⟨some 25, .build _ _, _, _, _, _⟩ :: _) _ _); refine wpList_run0 rfl (.agg (z.map B).toArray) (by rw [← Hz.out]; kernel_rfl) ?_; simp only [Act.put])
        | ((with_reducible show wpList _ _ _ (⟨some 26, .build _ _, _, _, _, _⟩ :: _) _ _); refine wpList_run0 rfl (.agg (z.map B).toArray) (by rw [← Hz.out]; kernel_rfl) ?_; simp only [Act.put])
        | ((with_reducible show wpList _ _ _ (⟨none, .store _ (.tmp 8) (.tmp 25), _, _, _, _⟩ :: _) _ _); refine wpList_hset2 (.tmp 8) (.tmp 25) rfl rfl k8 rfl rfl Hzl.out ?_; intro W1 k8s hb1 hoth1; simp only [Act.put]; replace k9 := hoth1 _ _ (by omega) k9; replace hb0 := hb0.trans (hb1.mono (by omega)))
        | ((with_reducible show wpList _ _ _ (⟨none, .store _ (.tmp 9) (.tmp 26), _, _, _, _⟩ :: _) _ _); refine wpList_hset2 (.tmp 9) (.tmp 26) rfl rfl k9 rfl rfl Hzl.out ?_; intro W2 k9s hb2 hoth2; simp only [Act.put]; replace k8s := hoth2 _ _ (by omega) k8s; replace hb0 := hb0.trans (hb2.mono (by omega))))
      refine bodyPost_ret (tuple_cells2t rfl _ _ (w.heap.size + 1 + 1 + 1) (w.heap.size + 1 + 1 + 1 + 1) z z rfl rfl k8s k9s) rfl ⟨rfl, hb0⟩
  · have hm1 : ¬ m < 1 := by omega
    have hnm : ¬ n < m := by omega
    have hst := fun W => csize_any m n W hn
    have hsl := stepsA_len m n hn
    by_cases hsz : (stepsA m n).1.length = p.length
    · rw [bothE_ok m n x p hbad hsz]
      dsimp only
      have hcnt := stepsA_cnt m n (by omega) (by omega)
      have hlb := length_bothL n.toNat m.toNat n.toNat true x p (Nat.le_refl _) (by omega) (by omega) Hx.out h32 (by rw [← hsz, hcnt])
      have hnp : cntS m.toNat n.toNat true = np := by rw [← hcnt, hsz, hlen]
      have hrb := fun g4 g6 g7 g13 g14 g15 N W (h : BkC m.toNat x p A np c g4 g6 g7 g13 g14 g15 N 0 W) => back_rec m.toNat x p A np c g4 g6 g7 g13 g14 g15 N Hx.out (by omega) n.toNat 0 n.toNat 0 true W (by omega) (by omega) (by omega) (by omega) (by rw [Nat.sub_zero, Nat.sub_zero, hnp]; omega) h
      rw [Nat.sub_zero, Nat.sub_zero, hnp, List.drop_zero, List.take_of_length_le (by omega), show ((n.toNat : Nat) : Int) = n by omega, show ((0 : Nat) : Int) = 0 from rfl, Nat.zero_add] at hrb
      obtain ⟨r1, hr1⟩ : ∃ r, (bothL m.toNat n.toNat true x p).1 = r := ⟨_, rfl⟩
      obtain ⟨r2, hr2⟩ : ∃ r, (bothL m.toNat n.toNat true x p).2 = r := ⟨_, rfl⟩
      rw [hr1, hr2] at hlb hrb ⊢
      obtain ⟨hl1, hl2⟩ := hlb
      rw [hlen] at hsz
      obtain ⟨⟨ls, e0⟩, hse⟩ : ∃ s, stepsA m n = s := ⟨_, rfl⟩
      rw [hse] at hst hsz hsl
      dsimp only at hst hsz hsl
      have Hl1 := Lib.hid hl1
      have Hl2 := Lib.hid hl2
      have Hrb := Lib.hid hrb
      have Hst := Lib.hid hst
      clear hl1 hl2 hrb hst hr1 hr2 hse hcnt hnp hbad
      go_enter Try.func46, Try.ntmps46
      go_wp2_with ((with_reducible show wpList _ _ _ (⟨some 18, .load _ _, _, _, _, _⟩ :: _) _ _); rw [Hw5.out])
      refine (Hst.out w5).mono ?_
      rintro e W4 ⟨rfl, hb4⟩
      replace k4 := k4.step hb4
      replace k6 := k6.step hb4
      replace k7 := k7.step hb4
      replace k8 := k8.step hb4
      replace k9 := k9.step hb4
      replace h5 := h5.step hb4
      replace hb0 := hb0.trans (hb4.mono hb0.size)
      replace c7 : W4.cell? ⟨w.heap.size + 1 + 1, 0, none⟩ = some (.slice A np c) := by rw [k7.cell]; rfl
      have hs4 := hb4.size
      rw [hsz]
      clear hb4 c4
      obtain ⟨w9, hw9⟩ : ∃ w9, ((W4.alloc (.cells #[.int .i64 0] 3)).alloc (.cells #[.func (.func 70) #[] #[.pointer (some ⟨W4.heap.size, 0, none⟩), .pointer (some ⟨w.heap.size + 1 + 1, 0, none⟩)]] 95)).alloc (.cells #[.func (.func 71) #[] #[.pointer (some ⟨w.heap.size, 0, none⟩), .pointer (some ⟨w.heap.size + 1, 0, none⟩), .pointer (some ⟨W4.heap.size + 1, 0, none⟩), .pointer (some ⟨W4.heap.size + 1 + 1, 0, none⟩)]] 109) = w9 := ⟨_, rfl⟩
      have hb9 : Below W4.heap.size W4 w9 := by rw [← hw9]; exact (((Below.refl _ _).alloc (Nat.le_refl _) _).alloc (by simp) _).alloc (by simp; omega) _
      have hC : BkC m.toNat x p A np c w.heap.size (w.heap.size + 1) (w.heap.size + 1 + 1) W4.heap.size (W4.heap.size + 1) (W4.heap.size + 1 + 1) (W4.heap.size + 1 + 1 + 1) 0 w9 :=
        ⟨by rw [show ((m.toNat : Nat) : Int) = m by omega]; exact k4.step hb9, k6.step hb9, k7.step hb9, by rw [← hw9]; exact ((Blk.new _ _ _).alloc _).alloc _, by rw [← hw9]; exact (Blk.new' _ _ _ _ (by simp)).alloc _, by rw [← hw9]; exact Blk.new' _ _ _ _ (by simp),
          (h5.step hb9).weak (fun b _ hb => ⟨by omega, by omega⟩), by omega, by omega, by omega, by omega, by omega, by omega, by rw [← hw9]; simp, by omega, by omega, by omega, by omega, by omega⟩
      replace k8 := k8.step hb9
      replace k9 := k9.step hb9
      replace hb0 := hb0.trans (hb9.mono hb0.size)
      have hs9 := hb9.size
      have Hw9 := Lib.hid hw9
      clear hw9 k4 k6 k7 h5 hb9
      go_wp2_with ((with_reducible show wpList _ _ _ (⟨some 42, .load _ _, _, _, _, _⟩ :: _) _ _); fail)
      rw [Hw9.out]
      refine (Hrb.out _ _ _ _ _ _ _ w9 hC).mono ?_
      rintro e W5 ⟨rfl, -, hg5⟩
      have k85 := k8.grown hg5 (fun e => by have := Option.some.inj e; omega)
      have k95 := k9.grown hg5 (fun e => by have := Option.some.inj e; omega)
      replace hb0 := hb0.trans (below_of_grownBy hg5 (by omega) (by omega))
      have hs5 := hg5.size
      clear k8 k9
      have k8 := k85
      have k9 := k95
      clear hg5 hC k85 k95
      go_wp2_with (first
        | ((with_reducible show wpList _ _ _ (⟨some 16, .alloc _, _, _, _, _⟩ :: _) _ _); refine wpList_hnew rfl rfl ?_; intro W6 ka hb6; simp only [Act.put]; replace k8 := k8.step hb6; replace k9 := k9.step hb6; replace hb0 := hb0.trans (hb6.mono hb0.size); have hlta := ka.lt; have hs6 := hb6.size)
        | ((with_reducible show wpList _ _ _ (⟨some 17, .alloc _, _, _, _, _⟩ :: _) _ _); refine wpList_hnew rfl rfl ?_; intro W7 kb hb7; simp only [Act.put]; replace k8 := k8.step hb7; replace k9 := k9.step hb7; replace ka := ka.step hb7; replace hb0 := hb0.trans (hb7.mono hb0.size))
        | ((with_reducible show wpList _ _ _ (⟨none, .store _ (.tmp 16) _, _, _, _, _⟩ :: _) _ _); refine wpList_hset2 (.tmp 16) (.tmp 45) rfl rfl ka rfl rfl Hl1.out ?_; intro W8 kas hb8 hoth8; simp only [Act.put]; replace k8 := hoth8 _ _ (by omega) k8; replace k9 := hoth8 _ _ (by omega) k9; replace kb := hoth8 _ _ (by omega) kb; replace hb0 := hb0.trans (hb8.mono (by omega)))
        | ((with_reducible show wpList _ _ _ (⟨none, .store _ (.tmp 17) _, _, _, _, _⟩ :: _) _ _); refine wpList_hset2 (.tmp 17) (.tmp 46) rfl rfl kb rfl rfl Hl2.out ?_; intro W9 kbs hb9 hoth9; simp only [Act.put]; replace k8 := hoth9 _ _ (by omega) k8; replace k9 := hoth9 _ _ (by omega) k9; replace kas := hoth9 _ _ (by omega) kas; replace hb0 := hb0.trans (hb9.mono (by omega))))
      clear ka kb hb6 hb7 hb8 hb9 hoth8 hoth9
      generalize W5.heap.size = ga at *
      generalize W6.heap.size = gb at *
      have ka := kas
      have kb := kbs
      have hS : (HV W9.drew ga r1 ∧ HV W9.drew gb r2) ∧ Below w.heap.size W9 W9.drew := ⟨⟨ka.drew, kb.drew⟩, (Below.refl _ _).drew⟩
      replace k8 := k8.drew
      replace k9 := k9.drew
      go_wp2_with fail
      refine wp_region_mix (fun W => (HV W ga r1 ∧ HV W gb r2) ∧ Below w.heap.size W9 W) [(0, true), (1, true), (2, false), (3, false), (4, true)] (by kernel_rfl) (by kernel_rfl) hS fun _ => ?_
      simp only [List.map_cons, List.map_nil, Array.getD_eq_getD_getElem?, List.getElem?_toArray, List.getElem?_cons_succ, List.getElem?_cons_zero, Option.getD_some]
      generalize W9.drew = Wz at hS k8 k9 ⊢
      refine wpMix_load (by kernel_rfl) 34 (.tmp 16) rfl (ga) (0) rfl (r1.map B).toArray (fun s => s.ok.1.1.load) ?_
      simp only [Act.put]
      refine wpMix_load (by kernel_rfl) 34 (.tmp 17) rfl (gb) (0) rfl (r2.map B).toArray (fun s => s.ok.1.2.load) ?_
      simp only [Act.put]
      refine wpMix_hset3 (.tmp 8) (.tmp 47) rfl rfl k8 rfl rfl Hl1.out (fun _ _ hb hoth => ⟨⟨hoth _ _ (by omega) hS.1.1, hoth _ _ (by omega) hS.1.2⟩, hS.2.trans (hb.mono (by omega))⟩) ?_
      intro Wx k8s hbx hothx
      simp only [Act.put]
      replace hS : (HV Wx ga r1 ∧ HV Wx gb r2) ∧ Below w.heap.size W9 Wx := ⟨⟨hothx _ _ (by omega) hS.1.1, hothx _ _ (by omega) hS.1.2⟩, hS.2.trans (hbx.mono (by omega))⟩
      replace k9 := hothx _ _ (by omega) k9
      refine wpMix_hset3 (.tmp 9) (.tmp 48) rfl rfl k9 rfl rfl Hl2.out (fun _ _ hb hoth => ⟨⟨hoth _ _ (by omega) hS.1.1, hoth _ _ (by omega) hS.1.2⟩, hS.2.trans (hb.mono (by omega))⟩) ?_
      intro Wy k9s hby hothy
      simp only [Act.put]
      replace hS : (HV Wy ga r1 ∧ HV Wy gb r2) ∧ Below w.heap.size W9 Wy := ⟨⟨hothy _ _ (by omega) hS.1.1, hothy _ _ (by omega) hS.1.2⟩, hS.2.trans (hby.mono (by omega))⟩
      replace k8s := hothy _ _ (by omega) k8s
      refine wpMix_s (fun K hK => ?_)
      go_simp
      refine hK _ ?_
      clear hK K
      refine wpMix_nil ?_
      intro _
      go_wp2_with fail
      refine bodyPost_ret (tuple_cells2t rfl _ _ (w.heap.size + 1 + 1 + 1) (w.heap.size + 1 + 1 + 1 + 1) r1 r2 rfl rfl k8s k9s) rfl ⟨rfl, hb0.trans hS.2⟩
    · rw [bothE_size m n x p hbad hsz]
      dsimp only
      obtain ⟨z, hz⟩ : ∃ z, zeroL = z := ⟨_, rfl⟩
      have hzl : z.length = 32 := by rw [← hz]; rfl
      rw [hz]
      have Hz := Lib.hid hz
      have Hzl := Lib.hid hzl
      rw [hlen] at hsz
      obtain ⟨⟨ls, e0⟩, hse⟩ : ∃ s, stepsA m n = s := ⟨_, rfl⟩
      rw [hse] at hst hsz hsl
      dsimp only at hst hsz hsl
      have hne : ((ls.length : Int) != (np : Int)) = true := by simp; omega
      have Hst := Lib.hid hst
      clear hz hzl hst hse hsz hbad
      go_enter Try.func46, Try.ntmps46
      go_wp2_with ((with_reducible show wpList _ _ _ (⟨some 18, .load _ _, _, _, _, _⟩ :: _) _ _); rw [Hw5.out])
      refine (Hst.out w5).mono ?_
      rintro e W4 ⟨rfl, hb4⟩
      replace k7 := k7.step hb4
      replace k8 := k8.step hb4
      replace k9 := k9.step hb4
      replace hb0 := hb0.trans (hb4.mono hb0.size)
      replace c7 : W4.cell? ⟨w.heap.size + 1 + 1, 0, none⟩ = some (.slice A np c) := by rw [k7.cell]; rfl
      have hs4 := hb4.size
      clear hb4 c4
      go_wp2_with (first
        | ((with_reducible show wpList _ _ _ (⟨some 37, .build _ _, _, _, _, _⟩ :: _) _ _); refine wpList_run0 rfl (.agg (z.map B).toArray) (by rw [← Hz.out]; kernel_rfl) ?_; simp only [Act.put])
        | ((with_reducible show wpList _ _ _ (⟨some 38, .build _ _, _, _, _, _⟩ :: _) _ _); refine wpList_run0 rfl (.agg (z.map B).toArray) (by rw [← Hz.out]; kernel_rfl) ?_; simp only [Act.put])
        | ((with_reducible show wpList _ _ _ (⟨none, .store _ (.tmp 8) (.tmp 37), _, _, _, _⟩ :: _) _ _); refine wpList_hset2 (.tmp 8) (.tmp 37) rfl rfl k8 rfl rfl Hzl.out ?_; intro W5 k8s hb1 hoth1; simp only [Act.put]; replace k9 := hoth1 _ _ (by omega) k9; replace hb0 := hb0.trans (hb1.mono (by omega)))
        | ((with_reducible show wpList _ _ _ (⟨none, .store _ (.tmp 9) (.tmp 38), _, _, _, _⟩ :: _) _ _); refine wpList_hset2 (.tmp 9) (.tmp 38) rfl rfl k9 rfl rfl Hzl.out ?_; intro W6 k9s hb2 hoth2; simp only [Act.put]; replace k8s := hoth2 _ _ (by omega) k8s; replace hb0 := hb0.trans (hb2.mono (by omega))))
      refine bodyPost_ret (tuple_cells2t rfl _ _ (w.heap.size + 1 + 1 + 1) (w.heap.size + 1 + 1 + 1 + 1) z z rfl rfl k8s k9s) rfl ⟨rfl, hb0⟩
end Go.Proofs.Ytgcbdnoniikboaa
