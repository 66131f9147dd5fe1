/- notarylaw12.ConsChain. -/
import Derived.Test.YtgcbdnoniikboaaQb134
import Derived.Test.YtgcbdnoniikboaaQb140
import Derived.Test.YtgcbdnoniikboaaQb141
import Derived.Test.YtgcbdnoniikboaaQb130
namespace Go.Proofs.Ytgcbdnoniikboaa
open Go Go.RowKit Go.Shelf
attribute [local go_sem] Oper.semAt_some

theorem size64s : ∀ w : World, (sizeOf (Try.prog.elem 80)).run Try.prog w = .ok 1 w := fun _ => by kernel_rfl
theorem slice64s : Try.prog.underlying 80 = some (.slice (Try.prog.elem 80)) := by kernel_rfl
theorem info64s : (Try.prog.info? 2).map (fun i => (i.zero, i.size, i.bytes)) = some (some (.int .i64 0), 1, 8) := by kernel_rfl
theorem run_slice_op_hi64 {ρ : Operand → Value} {o : Oper} (x y : Operand) (ho : o.op = .slice 80 x none (some y) none) (A : Option Addr) (n c k : Nat) (hx : ρ x = .slice A n c) (hy : ρ y = .int .i64 (k : Int)) (hk : k ≤ c) (W : World) :
    (execOp ρ o).run Try.prog W = .ok (.value (.slice A k c)) W := by
  unfold execOp
  simp only [ho, hx, hy, Option.map_some, Option.map_none, run_slice_high slice64s size64s A n c k hk W, Sem.run_bind, Sem.run_pure, Result.andThen_ok]
theorem copy64 (w : World) (s : List Int) (As : Option Addr) (ns cs : Nat) (h : SlV w (fun _ => True) As ns cs 1 (icells s)) (hns : ns ≤ 1000) :
    ∃ (v1 : Value) (W1 W3 : World) (S2 : Option Addr) (c2 : Nat), (Builtin.append_ #[80, 80] 80 #[.slice none 0 0, .slice As ns cs]).run Try.prog w = .ok v1 W1 ∧
      (Builtin.append_ #[80, 80] 80 #[v1, .slice (some ⟨W1.heap.size, 0, none⟩) 1 1]).run Try.prog (W1.alloc (.cells #[.int .i64 4242] 2)) = .ok (.slice S2 (ns + 1) c2) W3 ∧
      SlV W3 (w.heap.size ≤ ·) S2 (ns + 1) c2 1 (icells s ++ [.int .i64 4242]) ∧ Below w.heap.size w W3 := by
  obtain ⟨v1, W1, hr1, ho1, hg1, -⟩ := append_slv (ty := 80) Try.underlying80 info64s rfl (by decide) (World.ownsRow_nil w w.heap.size 2 1) h (by simp [Value.oneCell']) (by unfold maxLen; omega) (by omega) (Nat.le_refl _)
  rw [List.nil_append, Nat.zero_add] at ho1
  have hb1 : Below w.heap.size w W1 := (Below.refl _ _).grown hg1 (Nat.le_refl _) (fun k hk => by cases hk)
  have hba : Below W1.heap.size W1 (W1.alloc (.cells #[.int .i64 4242] 2)) := (Below.refl _ _).alloc (Nat.le_refl _) _
  have ho2 := owns_step ho1 hba
  have hb2 := hb1.trans (hba.mono hb1.size)
  obtain ⟨v3, W3, hr3, ho3, hg3, -⟩ := append_slv (ty := 80) Try.underlying80 info64s rfl (by decide) ho2 (SlV.lit (s := 1) W1 (fun _ => True) 2 [.int .i64 4242] rfl (by decide) trivial) (by simp [Value.oneCell']) (by unfold maxLen; omega) (by omega) hb2.size
  obtain ⟨S2, c2, rfl, hs3⟩ := owns_slv ho3
  exact ⟨v1, W1, W3, S2, c2, hr1, hr3, hs3.weak fun _ _ hx => hx.1, hb2.grown hg3 hb2.size (fun k hk => (ho2.lt k hk).1)⟩
theorem append_pt {w : World} {base k : Nat} {v : Value} {ps : List PtV} (h : w.ownsRow base 89 33 v k (ptcells ps)) (x : Int) (l : List UInt8) (hl : l.length = 32) (hk : k ≤ 1000000) (hb : base ≤ w.heap.size) :
    ∃ v' W', (Builtin.append_ #[87, 87] 87 #[v, .slice (some ⟨w.heap.size, 0, none⟩) 1 1]).run Try.prog (w.alloc (.cells (.int .i64 x :: l.map B).toArray 89)) = .ok v' W' ∧
      W'.ownsRow base 89 33 v' (k + 1) (ptcells (ps ++ [(x, l)])) ∧ Below base w W' := by
  have hba : Below w.heap.size w (w.alloc (.cells (.int .i64 x :: l.map B).toArray 89)) := (Below.refl _ _).alloc (Nat.le_refl _) _
  have ho1 := owns_step h hba
  obtain ⟨v', W', hr, ho, hg, -⟩ := append_slv (ty := 87) Try.underlying87 infoPt (by simp [Value.cells]) (by decide) ho1 (SlV.lit (s := 33) (n := 1) w (fun _ => True) 89 (.int .i64 x :: l.map B) (by simp [hl]) (by decide) trivial) (oneCell_pt x l) (by unfold maxLen; omega) (by omega) (Nat.le_trans hb hba.size)
  refine ⟨v', W', hr, ?_, (hba.mono hb).grown hg (Nat.le_trans hb hba.size) (fun k hk => (ho1.lt k hk).1)⟩
  rw [ptcells_append, show ptcells [(x, l)] = .int .i64 x :: l.map B by simp [ptcells]]
  exact ho
theorem owns_own {W W' : World} {base n s g : Nat} {e : TypeId} {v : Value} {xs : List Value} (h : W.ownsRow base e s v n xs) (hb : Below g W W') (hlt : ∀ j, v.ownBlock = some j → j < g) : W'.ownsRow base e s v n xs := owns_far h hb hlt
/-- what is held against each other at the end -/
theorem chain_fin (hs : List (List UInt8)) (z : List UInt8) (s : List Int) (rs : List (List (List UInt8))) (ee : Int) (kA : Nat) (gA : Int) (h1 : chainA hs s = (rs, ee)) (h2 : checksA (s.map (pointAt hs z)) rs = (kA, gA)) :
    ee = 4 ∨ (ee = 0 ∧ s.length = 0) ∨ (ee = 0 ∧ 0 < s.length ∧ gA = 0 ∧ kA = s.length - 1) := by
  unfold chainA at h1
  split at h1
  · rename_i hok
    cases h1
    rw [checks_chain hs z s hok] at h2
    cases h2
    omega
  · cases h1
    exact .inl rfl
theorem chain_h32 (hs : List (List UInt8)) (ha : H32 hs) (s : List Int) : (∀ r ∈ (chainA hs s).1, H32 r) := by
  unfold chainA
  split
  · intro r hr
    obtain ⟨i, -, rfl⟩ := List.mem_map.1 hr
    exact rootsS_all _ (ha.take _) _
  · intro r hr
    cases hr
theorem chain_short (hs : List (List UInt8)) (s : List Int) (hn : hs.length ≤ 60) : ∀ r ∈ (chainA hs s).1, r.length ≤ 100 := by
  unfold chainA
  split
  · intro r hr
    obtain ⟨i, -, rfl⟩ := List.mem_map.1 hr
    rw [length_rootsS]
    have := stepsA_len (s.getD i 0) ((hs.take (s.getD (i + 1) 0).toNat).length : Int) (by rw [List.length_take]; omega)
    omega
  · intro r hr
    cases hr
theorem chain_len (hs : List (List UInt8)) (s : List Int) : (chainA hs s).1.length ≤ s.length := by
  unfold chainA
  split
  · rw [length_chainK]; omega
  · exact Nat.zero_le _

set_option maxHeartbeats 40000000 in
set_option maxRecDepth 100000 in
theorem conschain_any (hs : List (List UInt8)) (A : Option Addr) (n c : Nat) (s : List Int) (As : Option Addr) (ns cs : Nat) (prs : List (List (List UInt8))) (Ao : Option Addr) (no co : Nat) (vso : List Value) (w : World) (h : Hs w (· < w.heap.size) A n c hs)
    (h2 : SlV w (· < w.heap.size) As ns cs 1 (icells s)) (hsl : s.length = ns) (hsx : ∀ z ∈ s, z ≤ 9223372036854775807) (h3 : HsS w (· < w.heap.size) Ao no co vso prs) :
    Calls Try.prog 13 #[.slice A n c, .slice As ns cs, .slice Ao no co] w fun e w' => e = .returned (.bool true) ∧ Below w.heap.size w w' := by
  by_cases hbig1 : 60 < n
  · have hd1 : decide ((60 : Int) < (n : Int)) = true := by simp; omega
    have hd1' : 60 < n := by omega
    clear h h2 h3
    go_enter Try.func13, Try.ntmps13
    go_wp2_with (go_at_call 39; refine (known12_any _).mono ?_; rintro e w2 ⟨rfl, hb2⟩)
    go_ret
    exact ⟨rfl, hb2⟩
  by_cases hbig2 : 30 < ns
  · have hd1 : decide ((60 : Int) < (n : Int)) = false := by simp; omega
    have hd1' : ¬ 60 < n := by omega
    have hd2 : decide ((30 : Int) < (ns : Int)) = true := by simp; omega
    have hd2' : 30 < ns := by omega
    clear h h2 h3
    go_enter Try.func13, Try.ntmps13
    go_wp2_with (go_at_call 39; refine (known12_any _).mono ?_; rintro e w2 ⟨rfl, hb2⟩)
    go_ret
    exact ⟨rfl, hb2⟩
  by_cases hbig3 : 30 < no
  · have hd1 : decide ((60 : Int) < (n : Int)) = false := by simp; omega
    have hd1' : ¬ 60 < n := by omega
    have hd2 : decide ((30 : Int) < (ns : Int)) = false := by simp; omega
    have hd2' : ¬ 30 < ns := by omega
    have hd3 : decide ((30 : Int) < (no : Int)) = true := by simp; omega
    have hd3' : 30 < no := by omega
    clear h h2 h3
    go_enter Try.func13, Try.ntmps13
    go_wp2_with (go_at_call 39; refine (known12_any _).mono ?_; rintro e w2 ⟨rfl, hb2⟩)
    go_ret
    exact ⟨rfl, hb2⟩
  have hd1 : decide ((60 : Int) < (n : Int)) = false := by simp; omega
  have hd1' : ¬ 60 < n := by omega
  have hd2 : decide ((30 : Int) < (ns : Int)) = false := by simp; omega
  have hd2' : ¬ 30 < ns := by omega
  have hd3 : decide ((30 : Int) < (no : Int)) = false := by simp; omega
  have hd3' : ¬ 30 < no := by omega
  have hn : n ≤ 60 := by omega
  have hns : ns ≤ 30 := by omega
  have hno : no ≤ 30 := by omega
  have hlen := h.len
  have h32 := h.all
  have hroom := h.sl.room
  have hmx := h.sl.max
  unfold maxLen at hmx
  have hroom2 := h2.room
  have hmx2 := h2.max
  unfold maxLen at hmx2
  have hroom3 := h3.out.room
  have hmx3 := h3.out.max
  unfold maxLen at hmx3
  have hle := lent12_any hs A n c w (h.weak fun _ _ _ => trivial) (by omega)
  have hch := fun A' c' S2 c2 W (h : Hs W (fun _ => True) A' n c' hs) (h2 : SlV W (fun _ => True) S2 ns c2 1 (icells s)) => cchain_any hs A' n c' s S2 ns c2 W h h2 hsl (by omega) (by omega)
  have hrc := fun W (h : Hs W (fun _ => True) A n c hs) (h2 : SlV W (fun _ => True) As ns cs 1 (icells s)) => rchain_any hs A n c s As ns cs W h h2 hsl (by omega) (by omega)
  have ha32 := chain_h32 hs h32 s
  have hsh := chain_short hs s (by omega)
  have hcl := chain_len hs s
  have hfin := fun rs ee kA gA => chain_fin hs zeroL s rs ee kA gA
  obtain ⟨⟨rs, ee⟩, hq⟩ : ∃ q, chainA hs s = q := ⟨_, rfl⟩
  rw [hq] at hch hrc ha32 hsh hcl
  replace hfin := fun kA gA => hfin rs ee kA gA hq
  dsimp only at hch hrc ha32 hsh hcl
  obtain ⟨⟨kA, gA⟩, hqA⟩ : ∃ q, checksA (s.map (pointAt hs zeroL)) rs = q := ⟨_, rfl⟩
  obtain ⟨⟨kO, gO⟩, hqO⟩ : ∃ q, checksA (s.map (pointAt hs zeroL)) prs = q := ⟨_, rfl⟩
  replace hfin := hfin kA gA hqA
  have hP32 : P32 (s.map (pointAt hs zeroL)) := fun p hp => by
    obtain ⟨z, -, rfl⟩ := List.mem_map.1 hp
    unfold pointAt
    split
    · exact length_rootL _ (h32.take _)
    · rfl
  have hpx : ∀ p ∈ s.map (pointAt hs zeroL), p.1 ≤ 9223372036854775807 := fun p hp => by
    obtain ⟨z, hz, rfl⟩ := List.mem_map.1 hp
    exact hsx z hz
  obtain ⟨kr, hkr⟩ : ∃ k, rs.length = k := ⟨_, rfl⟩
  rw [hkr] at hch hrc hcl
  have hck := fun A c W (h : Pts W (fun _ => True) A ns c (s.map (pointAt hs zeroL))) (Ab : Option Addr) (cb : Nat) vs (h2 : HsS W (fun _ => True) Ab kr cb vs rs) => cchecks_any (s.map (pointAt hs zeroL)) A ns c rs Ab kr cb vs W h h2 hpx
  have hrk := fun A c W (h : Pts W (fun _ => True) A ns c (s.map (pointAt hs zeroL))) (Ab : Option Addr) (cb : Nat) vs (h2 : HsS W (fun _ => True) Ab kr cb vs rs) => rchecks_any (s.map (pointAt hs zeroL)) A ns c rs Ab kr cb vs W h h2 hpx
  have hco := fun A c W (h : Pts W (fun _ => True) A ns c (s.map (pointAt hs zeroL))) (h2 : HsS W (fun _ => True) Ao no co vso prs) => cchecks_any (s.map (pointAt hs zeroL)) A ns c prs Ao no co vso W h h2 hpx
  have hro := fun A c W (h : Pts W (fun _ => True) A ns c (s.map (pointAt hs zeroL))) (h2 : HsS W (fun _ => True) Ao no co vso prs) => rchecks_any (s.map (pointAt hs zeroL)) A ns c prs Ao no co vso W h h2 hpx
  rw [hqA] at hck hrk
  rw [hqO] at hco hro
  dsimp only at hck hrk hco hro
  have he1 : (ee != ee) = false := by simp
  have he2 : ((kA : Int) != (kA : Int)) = false := by simp
  have he3 : (gA != gA) = false := by simp
  have he4 : ((kO : Int) != (kO : Int)) = false := by simp
  have he5 : (gO != gO) = false := by simp
  have hw1 : IntKind.i64.wrap ((ns : Int) + 1) = (ns : Int) + 1 := IntWalk.i64_in _ (by omega)
  have Hle := Lib.hid hle
  have Hch := Lib.hid hch
  have Hrc := Lib.hid hrc
  have Hck := Lib.hid hck
  have Hrk := Lib.hid hrk
  have Hco := Lib.hid hco
  have Hro := Lib.hid hro
  have Ha32 := Lib.hid ha32
  have Hsh := Lib.hid hsh
  have Hcl := Lib.hid hcl
  have Hfin := Lib.hid hfin
  have Hkr := Lib.hid hkr
  have Hlen := Lib.hid hlen
  have Hsl := Lib.hid hsl
  have H32' := Lib.hid h32
  have HP32 := Lib.hid hP32
  clear hbig1 hbig2 hbig3 hle hch hrc hck hrk hco hro ha32 hsh hcl hfin hkr hlen hsl h32 hP32 hpx hsx hq hqA hqO
  go_enter Try.func13, Try.ntmps13
  go_wp2_with fail
  refine Hle.out.mono ?_
  rintro e w1 ⟨A', c', rfl, hl1, hb1⟩
  obtain ⟨v1, W1, w4, S2, c2, hr1, hr3, hs4, hb4⟩ := copy64 w1 s As ns cs ((h2.step hb1).weak fun _ _ _ => trivial) (by omega)
  have hN : w1.heap.size ≤ w4.heap.size := hb4.size
  have hC : CcS w hs s prs A n c As ns cs Ao no co vso A' c' S2 c2 w4.heap.size w4 := ⟨⟨(h.step hb1).step hb4, (hl1.step hb4).below (Below.refl w4.heap.size w4) (fun b hb _ => hb) |>.weak fun b hb hx => ⟨hx, hb⟩, Nat.le_refl _, Nat.le_trans hb1.size hN, hb1.trans (hb4.mono hb1.size)⟩, (h2.step hb1).step hb4, (h3.step hb1).step hb4, hs4.weak fun b hb _ => hb, Hsl.out⟩
  have hr4 := hs4.room
  have hm4 := hs4.max
  unfold maxLen at hm4
  have hrl := hl1.sl.room
  have hml := hl1.sl.max
  unfold maxLen at hml
  have Hr1 := Lib.hid hr1
  have Hr3 := Lib.hid hr3
  clear hr1 hr3 h h2 h3 hl1 hb1 hs4 hb4
  go_wp2_with (first
    | ((with_reducible show wpList _ _ _ (⟨some 45, .call _, _, _, _, _⟩ :: _) _ _); refine wpList_run rfl v1 W1 (run_append_op (.const (.slice none 0 0)) (.tmp 44) 80 rfl _ _ rfl rfl Hr1.out) ?_; simp only [Act.put])
    | ((with_reducible show wpList _ _ _ (⟨some 46, .buildSlice _ _ _, _, _, _, _⟩ :: _) _ _); refine wpList_run rfl (.slice (some ⟨W1.heap.size, 0, none⟩) 1 1) (W1.alloc (.cells #[.int .i64 4242] 2)) (by kernel_rfl) ?_; simp only [Act.put])
    | ((with_reducible show wpList _ _ _ (⟨some 47, .call _, _, _, _, _⟩ :: _) _ _); refine wpList_run rfl (.slice S2 (ns + 1) c2) w4 (run_append_op (.tmp 45) (.tmp 46) 80 rfl _ _ rfl rfl Hr3.out) ?_; simp only [Act.put])
    | ((with_reducible show wpList _ _ _ (⟨some 50, .slice _ _ _ _ _, _, _, _, _⟩ :: _) _ _); refine wpList_run0 rfl (.slice S2 ns c2) (run_slice_op_hi64 (.tmp 47) (.tmp 49) rfl S2 (ns + 1) c2 ns rfl rfl (by omega) _) ?_; simp only [Act.put]))
  clear Hr1 Hr3
  obtain ⟨N, hNe⟩ : ∃ N, w4.heap.size = N := ⟨_, rfl⟩
  rw [hNe] at hC
  refine (Hch.out A' c' S2 c2 w4 hC.t.mine hC.mine).mono ?_
  rintro e w5 ⟨va, vsa, rfl, ha5, hb5⟩
  rw [hNe] at ha5
  replace hC := hC.step hb5
  have hN5 := hb5.size
  rw [hNe] at hN5
  clear hb5 hNe hN
  obtain ⟨M, hMe⟩ : ∃ M, w5.heap.size = M := ⟨_, rfl⟩
  have halt : ∀ g, va.ownBlock = some g → g < M := fun g hg => by rw [← hMe]; exact (ha5.own.lt g hg).2
  have haint : ∀ (j : Nat) (x : Value), vsa[j]? = some x → ∀ g, x.ownBlock = some g → g < M := fun j x hx g hg => by
    have hj : j < kr := by have := (List.getElem?_eq_some_iff.1 hx).1; have := ha5.own.1; omega
    obtain ⟨y, h5, h6⟩ := ha5.ins j hj
    rw [hx] at h5
    cases h5
    rw [← hMe]
    exact (h6.lt g hg).2
  have Haint := Lib.hid haint
  have Halt := Lib.hid halt
  clear haint halt
  go_wp2_with fail
  refine (Hch.out A' c' S2 c2 w5 hC.t.mine hC.mine).mono ?_
  rintro e w6 ⟨vb, vsb, rfl, ha6, hb6⟩
  rw [hMe] at ha6 hN5
  replace hC := hC.step hb6
  replace ha5 := ha5.step hb6
  have hN6 := hb6.size
  rw [hMe] at hN6
  clear hb6 hMe Hch
  obtain ⟨M6, hM6⟩ : ∃ M, w6.heap.size = M := ⟨_, rfl⟩
  go_wp2_with fail
  refine (Hrc.out w6 hC.t.yours (hC.sz.weak fun _ _ _ => trivial)).mono ?_
  rintro e w7 ⟨vw, vsw, rfl, ha7, hb7⟩
  rw [hM6] at ha7 hN6
  replace hC := hC.step hb7
  replace ha5 := ha5.step hb7
  replace ha6 := ha6.step hb7
  have hN7 := hb7.size
  rw [hM6] at hN7
  clear hb7 hM6 Hrc
  rw [← Hkr.out] at ha5 ha6 ha7
  obtain ⟨Bb, cb, rfl, hsb⟩ := ha6.hss Ha32.out
  obtain ⟨Bw, cw, rfl, hsw⟩ := ha7.hss Ha32.out
  obtain ⟨Aa, ca, rfl, hsa⟩ := ha5.hss Ha32.out
  rw [Hkr.out] at hsa
  obtain ⟨K, hKe⟩ : ∃ K, w7.heap.size = K := ⟨_, rfl⟩
  have hA : CcA w hs s prs A n c As ns cs Ao no co vso A' c' S2 c2 N M K rs (.slice Aa rs.length ca) vsa Bb cb vsb Bw cw vsw w7 := ⟨hC, ha5, hsb.far (Below.refl w7.heap.size w7) (fun b hb _ => hb) |>.weak fun b hb hx => ⟨hx, by rw [← hKe]; exact hb⟩, hsw.far (Below.refl w7.heap.size w7) (fun b hb _ => hb) |>.weak fun b hb hx => ⟨by have : M6 ≤ b := hx; omega, by rw [← hKe]; exact hb⟩, Halt.out, Haint.out, by omega, by omega, by omega⟩
  rw [Hkr.out]
  have hrA := hsa.out.room
  have hmA := hsa.out.max
  unfold maxLen at hmA
  clear hC ha5 ha6 ha7 hsb hsw Halt Haint hN5 hN6 hN7
  obtain ⟨b2, o2, hS2, hb2l, -, hat2⟩ := hA.s.cp.at_ (by omega) (by decide)
  subst hS2
  have hc4 := hat2 ns (.int .i64 4242) (by rw [List.getElem?_append_right (by simp [Hsl.out]), List.length_map, Hsl.out, Nat.sub_self]; rfl)
  have hb2l7 : b2 < w7.heap.size := by have := hA.le; have := hA.nm; have := hA.mkl; omega
  have hc4' := fun W (hb : Below w7.heap.size w7 W) => (hb.cell (p := ⟨b2, o2 + ns, none⟩) hb2l7).trans hc4
  have hsp := fun W (hb : Below w7.heap.size w7 W) => samep_any rs Aa Bw kr ca cw vsa vsw W ((hsa.step hb).weak fun _ _ _ => trivial) (by have := ((hA.v.step hb).weak (Y := fun _ => True) fun _ _ _ => trivial); rw [Hkr.out] at this; exact this) (fun r hr => by have := Hsh.out r hr; omega)
  have hkp := fun W (hb : Below w7.heap.size w7 W) => kept12_any hs A' A n c' c W (hA.s.step hb).t.kept (hA.s.step hb).t.yours (by omega)
  have Hc4 := Lib.hid hc4'
  have Hsp := Lib.hid hsp
  have Hkp := Lib.hid hkp
  clear hsp hkp hat2 hb2l hc4 hc4' hsa
  go_wp2_with (first
    | (go_at_call 52; refine (Hsp.out _ (Below.refl _ _)).mono ?_; rintro e w8 ⟨rfl, hb8⟩)
    | (go_at_call 45; refine (Hkp.out _ hb8).mono ?_; rintro e w9 ⟨rfl, hb9⟩; have hb10 := hb8.trans (hb9.mono hb8.size))
    | ((with_reducible show wpList _ _ _ (⟨some 89, .slice _ _ _ _ _, _, _, _, _⟩ :: _) _ _); refine wpList_runG (by kernel_rfl) (.slice (some ⟨b2, o2, none⟩) (ns + 1) c2) _ (run_slice_op_hi64 (.tmp 85) (.tmp 88) rfl (some ⟨b2, o2, none⟩) ns c2 (ns + 1) rfl rfl (by omega) _) ?_; simp only [Act.put])
    | ((with_reducible show wpList _ _ _ (⟨some 93, .load _ _, _, _, _, _⟩ :: _) _ _); refine wpList_cell 2 (.tmp 92) b2 (o2 + ns) (.int .i64 4242) (by kernel_rfl) rfl rfl (run_load_scalar (notagg64 _) (Hc4.out _ hb10)) ?_; simp only [Act.put]))
  replace hA := hA.step hb10
  clear hb10 hb9 hb8 Hc4 Hsp Hkp hb2l7
  go_loopw [15, 16, 17] (fun v15 v16 _ wr => ∃ (k : Nat) (v : Value), k ≤ ns ∧ v16 = .int .i64 (k : Int) ∧ v = v15 ∧ wr.ownsRow K 89 33 v k (ptcells ((s.take k).map (pointAt hs zeroL))) ∧ CcA w hs s prs A n c As ns cs Ao no co vso A' c' (some ⟨b2, o2, none⟩) c2 N M K rs (.slice Aa rs.length ca) vsa Bb cb vsb Bw cw vsw wr) (fun _ v16 _ _ => ns - (intOf v16).toNat)
  case atStart => exact ⟨0, .slice none 0 0, Nat.zero_le _, rfl, rfl, World.ownsRow_nil _ _ _ _, hA⟩
  case round =>
    clear hA
    obtain ⟨k, v15, hk, rfl, rfl, hP, hA⟩ := hrel
    by_cases hkn : k < ns
    · have hd : decide ((k : Int) < (ns : Int)) = true := by simp; omega
      have hwk : IntKind.i64.wrap ((k : Int) + 1) = (k : Int) + 1 := IntWalk.i64_in _ (by omega)
      obtain ⟨bs, os, hAs, hbs, -, -⟩ := hA.s.sz.at_ (by omega) (by decide)
      subst hAs
      have hbs' : bs < wr.heap.size := by have := hA.s.t.bel.size; omega
      have hb2' : b2 < wr.heap.size := by obtain ⟨_, _, e, h5, -⟩ := hA.s.cp.at_ (by omega) (by decide); cases e; exact h5
      have hc1 := icell_at (hA.s.sz.weak (Y := fun _ => True) fun _ _ _ => trivial) Hsl.out rfl k hkn
      have hc2 := icell_at hA.s.mine Hsl.out rfl k hkn
      obtain ⟨xx, hxx⟩ : ∃ x, s.getD k 0 = x := ⟨_, rfl⟩
      rw [hxx] at hc1 hc2
      have hne : (xx != xx) = false := by simp
      have cA : ∀ s : InC (fun W => Below wr.heap.size wr W), s.W.cell? ⟨bs, os + k, none⟩ = some (.int .i64 xx) := fun s => by rw [s.ok.cell (p := ⟨bs, os + k, none⟩) hbs']; exact hc1
      have cB : ∀ s : InC (fun W => Below wr.heap.size wr W), s.W.cell? ⟨b2, o2 + k, none⟩ = some (.int .i64 xx) := fun s => by rw [s.ok.cell (p := ⟨b2, o2 + k, none⟩) hb2']; exact hc2
      have hps : (s.take (k + 1)).map (pointAt hs zeroL) = (s.take k).map (pointAt hs zeroL) ++ [pointAt hs zeroL xx] := by
        rw [List.take_add_one, List.map_append, ← hxx, List.getD_eq_getElem?_getD, List.getElem?_eq_getElem (by rw [Hsl.out]; exact hkn)]
        rfl
      have Hps := Lib.hid hps
      clear hps hc2 hxx
      go_wp2_with fail
      have hS : Below wr.heap.size wr wr.drew := (Below.refl _ _).drew
      refine wp_region_mix (fun W => Below wr.heap.size wr W) [(0, true), (1, true), (2, true), (3, true), (4, true), (5, true), (6, true), (7, true), (8, true)] (by kernel_rfl) (by kernel_rfl) hS fun _ => ?_
      simp only [List.map_cons, List.map_nil, Array.getD_eq_getD_getElem?, List.getElem?_toArray, List.getElem?_cons_succ, List.getElem?_cons_zero, Option.getD_some]
      generalize wr.drew = U1 at hS ⊢
      refine wpMix_s (fun K hK => ?_)
      go_simp
      refine hK _ ?_
      clear hK K
      refine wpMix_s (fun K hK => ?_)
      go_simp
      refine hK _ ?_
      clear hK K
      refine wpMix_s (fun K hK => ?_)
      go_simp
      refine hK _ ?_
      clear hK K
      refine wpMix_s (fun K hK => ?_)
      go_simp
      refine hK _ ?_
      clear hK K
      refine wpMix_s (fun K hK => ?_)
      go_simp
      refine hK _ ?_
      clear hK K
      refine wpMix_s (fun K hK => ?_)
      go_simp
      refine hK _ ?_
      clear hK K
      refine wpMix_s (fun K hK => ?_)
      go_simp
      refine hK _ ?_
      clear hK K
      refine wpMix_s (fun K hK => ?_)
      go_simp
      refine hK _ ?_
      clear hK K
      refine wpMix_s (fun K hK => ?_)
      go_simp
      refine hK _ ?_
      clear hK K
      refine wpMix_nil ?_
      intro _
      clear cA cB
      replace hA := hA.step hS
      replace hP := owns_step hP hS
      have hc3 : U1.cell? ⟨bs, os + k, none⟩ = some (.int .i64 xx) := by rw [hS.cell (p := ⟨bs, os + k, none⟩) hbs']; exact hc1
      have hbs2 := Nat.lt_of_lt_of_le hbs' hS.size
      have hgK0 : K ≤ U1.heap.size := hA.le
      have hgP : ∀ j, v15.ownBlock = some j → j < U1.heap.size := fun j hj => (hP.lt j hj).2
      clear hc1 hS
      go_upto_region 17 with (first
        | ((with_reducible show wpList _ _ _ (⟨some 115, .build _ _, _, _, _, _⟩ :: _) _ _); refine wpList_run0 rfl (.agg (.int .i64 xx :: (List.replicate 32 (0 : UInt8)).map B).toArray) (by kernel_rfl) ?_; simp only [Act.put])
        | ((with_reducible show wpList _ _ _ (⟨some 17, .alloc _, _, _, _, _⟩ :: _) _ _); refine wpList_pnv (n := xx) (l := List.replicate 32 0) (.tmp 17) (.tmp 115) rfl rfl rfl rfl rfl rfl rfl ?_; intro U2 kp hbp; simp only [Act.put]))
      replace hA := hA.step hbp
      replace hP := owns_step hP hbp
      have hc4 : U2.cell? ⟨bs, os + k, none⟩ = some (.int .i64 xx) := by rw [hbp.cell (p := ⟨bs, os + k, none⟩) hbs2]; exact hc3
      have hgK : K ≤ U1.heap.size := hgK0
      obtain ⟨g, hg⟩ : ∃ g, U1.heap.size = g := ⟨_, rfl⟩
      rw [hg] at kp hgK hgP
      clear hbp hbs2 hc3 hgK0
      try rw [hg]
      clear hg
      by_cases hin : 0 ≤ xx ∧ xx ≤ (n : Int)
      · obtain ⟨m, rfl⟩ := Int.eq_ofNat_of_zero_le hin.1
        have hmn : m ≤ n := by omega
        have hdm : decide ((m : Int) ≤ (n : Int)) = true := by simp; omega
        have hof := rof_any (hs.take m) A m c U2 ((hA.s.t.yours).take m hmn) (by omega)
        have hrl : (rootL (hs.take m)).length = 32 := length_rootL _ (H32'.out.take m)
        have hpe : pointAt hs zeroL (m : Int) = ((m : Int), rootL (hs.take m)) := by
          unfold pointAt
          rw [if_pos ⟨by omega, by rw [Hlen.out]; omega⟩, Int.toNat_natCast]
        obtain ⟨root, hroot⟩ : ∃ r, rootL (hs.take m) = r := ⟨_, rfl⟩
        rw [hroot] at hof hrl hpe
        have Hof := Lib.hid hof
        have Hpe := Lib.hid hpe
        have Hrl := Lib.hid hrl
        clear hof hpe hroot hin hrl
        go_wp2_with ((with_reducible show wpList _ _ _ (⟨some 135, .slice _ _ _ _ _, _, _, _, _⟩ :: _) _ _); refine wpList_run0 rfl (.slice A m c) (run_slice_op_hi (.tmp 130) (.tmp 134) rfl A n c m rfl rfl (by omega) _) ?_; simp only [Act.put])
        refine Hof.out.mono ?_
        rintro e U3 ⟨rfl, hb3⟩
        replace hA := hA.step hb3
        replace hP := owns_step hP hb3
        have kp3 := kp.step hb3
        obtain ⟨U4, hU4, kp4, hb4⟩ := kp3.setRoot Hrl.out
        replace hA := hA.far (hb4.mono hgK)
        replace hP := owns_own hP hb4 hgP
        have hs4 : K ≤ U4.heap.size := hA.le
        clear hb3 kp Hof
        obtain ⟨v5, U5, hr5, ho5, hb5⟩ := append_pt hP (m : Int) root Hrl.out (by omega) hs4
        have hA5 := hA.far hb5
        have Hr5 := Lib.hid hr5
        have HU4 := Lib.hid hU4
        have l4 := kp4.load
        have hz32 : (List.replicate 32 (0 : UInt8)).length = 32 := rfl
        clear hr5 hb5 hA hP hU4 hb4
        go_wp2_with (first
          | ((with_reducible show wpList _ _ _ (⟨none, .store _ _ _, _, _, _, _⟩ :: _) _ _); refine wpList_store_agg rfl 34 (.tmp 137) (.tmp 136) rfl 32 size26 g 1 (root.map B).toArray rfl rfl (by simp [Hrl.out]) (oneCell_B _) 89 _ kp3.blk (by simp) ?_; simp only [Act.put]; rw [HU4.out])
          | ((with_reducible show wpList _ _ _ (⟨some 139, .load _ _, _, _, _, _⟩ :: _) _ _); refine wpList_run0 rfl _ (run_load_op 89 (.tmp 17) rfl g 0 rfl _ l4) ?_; simp only [Act.put])
          | ((with_reducible show wpList _ _ _ (⟨some 140, .buildSlice _ _ _, _, _, _, _⟩ :: _) _ _); refine wpList_run rfl _ _ (run_lit_one_op (x := .agg (.int .i64 (m : Int) :: root.map B).toArray) Try.underlying87 infoPt (by simp [Value.cells, Hrl.out]) (by decide) (by decide) (.tmp 139) rfl rfl _) ?_; simp only [Act.put])
          | ((with_reducible show wpList _ _ _ (⟨some 141, .call _, _, _, _, _⟩ :: _) _ _); refine wpList_run rfl v5 U5 (run_append_op (.tmp 138) (.tmp 140) 87 rfl _ _ rfl rfl Hr5.out) ?_; simp only [Act.put]))
        go_roundw
        case rel => exact ⟨k + 1, _, by omega, by go_num, rfl, by rw [Hps.out, Hpe.out]; exact ho5, hA5⟩
        case measure => simp [intOf]; omega
      · have hpe : pointAt hs zeroL xx = (xx, List.replicate 32 0) := by
          unfold pointAt
          rw [if_neg (by rw [Hlen.out]; exact hin)]
          rfl
        have hz32 : (List.replicate 32 (0 : UInt8)).length = 32 := rfl
        obtain ⟨zz, hzz⟩ : ∃ z, List.replicate 32 (0 : UInt8) = z := ⟨_, rfl⟩
        rw [hzz] at hpe hz32 kp
        have hs4 : K ≤ U2.heap.size := hA.le
        obtain ⟨v5, U5, hr5, ho5, hb5⟩ := append_pt hP xx zz hz32 (by omega) hs4
        have hA5 := hA.far hb5
        have Hr5 := Lib.hid hr5
        have Hpe := Lib.hid hpe
        have Hz := Lib.hid hz32
        have l4 := kp.load
        clear hr5 hb5 hA hP hpe hz32 hzz
        by_cases hx0 : 0 ≤ xx
        · have hd0 : decide ((0 : Int) ≤ xx) = true := by simp; omega
          have hdn : decide (xx ≤ (n : Int)) = false := by simp; omega
          clear hin hx0
          go_wp2_with (first
            | ((with_reducible show wpList _ _ _ (⟨some 139, .load _ _, _, _, _, _⟩ :: _) _ _); refine wpList_run0 rfl _ (run_load_op 89 (.tmp 17) rfl g 0 rfl _ l4) ?_; simp only [Act.put])
            | ((with_reducible show wpList _ _ _ (⟨some 140, .buildSlice _ _ _, _, _, _, _⟩ :: _) _ _); refine wpList_run rfl _ _ (run_lit_one_op (x := .agg (.int .i64 xx :: zz.map B).toArray) Try.underlying87 infoPt (by simp [Value.cells, Hz.out]) (by decide) (by decide) (.tmp 139) rfl rfl _) ?_; simp only [Act.put])
            | ((with_reducible show wpList _ _ _ (⟨some 141, .call _, _, _, _, _⟩ :: _) _ _); refine wpList_run rfl v5 U5 (run_append_op (.tmp 138) (.tmp 140) 87 rfl _ _ rfl rfl Hr5.out) ?_; simp only [Act.put]))
          go_roundw
          case rel => exact ⟨k + 1, _, by omega, by go_num, rfl, by rw [Hps.out, Hpe.out]; exact ho5, hA5⟩
          case measure => simp [intOf]; omega
        · have hd0 : decide ((0 : Int) ≤ xx) = false := by simp; omega
          clear hin hx0
          go_wp2_with (first
            | ((with_reducible show wpList _ _ _ (⟨some 139, .load _ _, _, _, _, _⟩ :: _) _ _); refine wpList_run0 rfl _ (run_load_op 89 (.tmp 17) rfl g 0 rfl _ l4) ?_; simp only [Act.put])
            | ((with_reducible show wpList _ _ _ (⟨some 140, .buildSlice _ _ _, _, _, _, _⟩ :: _) _ _); refine wpList_run rfl _ _ (run_lit_one_op (x := .agg (.int .i64 xx :: zz.map B).toArray) Try.underlying87 infoPt (by simp [Value.cells, Hz.out]) (by decide) (by decide) (.tmp 139) rfl rfl _) ?_; simp only [Act.put])
            | ((with_reducible show wpList _ _ _ (⟨some 141, .call _, _, _, _, _⟩ :: _) _ _); refine wpList_run rfl v5 U5 (run_append_op (.tmp 138) (.tmp 140) 87 rfl _ _ rfl rfl Hr5.out) ?_; simp only [Act.put]))
          go_roundw
          case rel => exact ⟨k + 1, _, by omega, by go_num, rfl, by rw [Hps.out, Hpe.out]; exact ho5, hA5⟩
          case measure => simp [intOf]; omega
    · have hd : decide ((k : Int) < (ns : Int)) = false := by simp; omega
      have hd2 : ¬ ((k : Int) < (ns : Int)) := by omega
      obtain rfl : ns = k := by omega
      rw [List.take_of_length_le (by rw [Hsl.out]; exact Nat.le_refl _)] at hP
      obtain ⟨Ap, cp, rfl, hP⟩ := Pts.of_owns hP (by rw [List.length_map, Hsl.out]) HP32.out
      replace hP := hP.weak (Y := fun _ => True) fun _ _ _ => trivial
      have hrP := hP.sl.room
      have hmP := hP.sl.max
      unfold maxLen at hmP
      obtain ⟨Aa', ca', e1, hsa⟩ := hA.a.hss Ha32.out
      cases e1
      rw [Hkr.out] at hsa
      replace hsa := hsa.weak (Y := fun _ => True) fun _ _ _ => trivial
      go_wp2_with fail
      refine (Hck.out Ap cp wr hP Aa ca vsa hsa).mono ?_
      rintro e U1 ⟨rfl, hb'⟩
      replace hA := hA.step hb'
      replace hP := hP.step hb'
      replace hsa := hsa.step hb'
      clear hb' Hck
      go_wp2_with fail
      refine (Hrk.out Ap cp U1 hP Aa ca vsa hsa).mono ?_
      rintro e U2 ⟨rfl, hb'⟩
      replace hA := hA.step hb'
      replace hP := hP.step hb'
      clear hb' Hrk hsa
      go_wp2_with fail
      refine (Hco.out Ap cp U2 hP (hA.s.ot.weak fun _ _ _ => trivial)).mono ?_
      rintro e U3 ⟨rfl, hb'⟩
      replace hA := hA.step hb'
      replace hP := hP.step hb'
      clear hb' Hco
      go_wp2_with fail
      refine (Hro.out Ap cp U3 hP (hA.s.ot.weak fun _ _ _ => trivial)).mono ?_
      rintro e U4 ⟨rfl, hb'⟩
      replace hA := hA.step hb'
      clear hb' Hro hP
      go_upto_region 24 with fail
      refine wp_share_us (fun us a' W' => a' = { tmps := #[.slice A n c, .slice As ns cs, .slice Ao no co, us 3, us 4, us 5, us 6, (.slice A' n c'), .slice (some ⟨b2, o2, none⟩) ns c2, .slice Aa kr ca, us 10, .slice Bb kr cb, us 12, .slice Bw kr cw, us 14, us 15, us 16, us 17, us 18, us 19, us 20, us 21, us 22, us 23, us 24, us 25, us 26, us 27, us 28, us 29, us 30, us 31, us 32, us 33, us 34, us 35, us 36, us 37, us 38, us 39, us 40, us 41, us 42, us 43, us 44, us 45, us 46, us 47, us 48, us 49, us 50, us 51, us 52, us 53, us 54, us 55, us 56, us 57, us 58, us 59, us 60, us 61, us 62, us 63, us 64, us 65, us 66, us 67, us 68, us 69, us 70, us 71, us 72, us 73, us 74, us 75, us 76, us 77, us 78, us 79, us 80, us 81, us 82, us 83, us 84, us 85, us 86, us 87, us 88, us 89, us 90, us 91, us 92, us 93, us 94, us 95, us 96, us 97, us 98, us 99, us 100, us 101, us 102, us 103, us 104, us 105, us 106, us 107, us 108, us 109, us 110, us 111, us 112, us 113, us 114, us 115, us 116, us 117, us 118, us 119, us 120, us 121, us 122, us 123, us 124, us 125, us 126, us 127, us 128, us 129, us 130, us 131, us 132, us 133, us 134, us 135, us 136, us 137, us 138, us 139, us 140, us 141, us 142, us 143, us 144, us 145, us 146, us 147, us 148, us 149, us 150, us 151, us 152, us 153, us 154, us 155, us 156, us 157, us 158, us 159, us 160, us 161, us 162, us 163, us 164, us 165, us 166, us 167, us 168, us 169, us 170, us 171, us 172, us 173, us 174, us 175, us 176, us 177, us 178, us 179, us 180, us 181, us 182, us 183, us 184, us 185, us 186, us 187, us 188, us 189, us 190, us 191, us 192, us 193, us 194, us 195, us 196, us 197, us 198, us 199, us 200, us 201, us 202, .bool false, us 204, us 205, us 206, us 207, us 208, us 209, us 210, us 211, us 212, us 213, us 214, us 215, us 216, us 217, us 218, us 219, us 220, us 221, us 222, us 223, us 224, us 225, us 226, us 227, us 228, us 229, us 230, us 231, us 232, us 233, us 234, us 235, us 236, us 237, us 238, us 239], defers := [] } ∧ W' = U4) ?_ ?_
      · have h24 := Hfin.out
        rcases h24 with rfl | ⟨rfl, h0⟩ | ⟨rfl, h0, hg, hk24⟩
        · have hf : ((4 : Int) == 0) = false := by decide
          go_wp2_with fail
          exact ⟨by kernel_rfl, rfl⟩
        · rw [Hsl.out] at h0
          have hf : ((0 : Int) == 0) = true := by decide
          have hn0 : decide ((0 : Int) < (ns : Int)) = false := by simp; omega
          have hn0' : ¬ 0 < ns := by omega
          have H0 := Lib.hid h0
          clear h0
          go_wp2_with fail
          exact ⟨by kernel_rfl, rfl⟩
        · rw [Hsl.out] at h0 hk24
          have hf : ((0 : Int) == 0) = true := by decide
          have hf2 : (gA != 0) = false := by rw [hg]; rfl
          have hn0 : decide ((0 : Int) < (ns : Int)) = true := by simp; omega
          have hn0' : 0 < ns := h0
          have hw2 : IntKind.i64.wrap ((ns : Int) - 1) = (kA : Int) := by rw [IntWalk.i64_in _ (by omega)]; omega
          have H0 := Lib.hid h0
          clear h0 hg hk24
          go_wp2_with fail
          exact ⟨by kernel_rfl, rfl⟩
      rintro us a' U5 ⟨rfl, rfl⟩
      have hI := hA.spoil
      clear hA Hfin
      go_wp2_with fail
      go_loopw [26, 27] (fun v26 _ wr => ∃ (i : Nat), i ≤ kr ∧ v26 = .int .i64 (i : Int) ∧ SpI w hs s prs A n c As ns cs Ao no co vso A' c' (some ⟨b2, o2, none⟩) c2 N M K rs (.slice Aa rs.length ca) vsa Bb cb vsb Bw cw vsw i wr) (fun v26 _ _ => kr - (intOf v26).toNat)
      case atStart => exact ⟨0, Nat.zero_le _, rfl, hI⟩
      case round =>
        clear hI
        obtain ⟨i, hi, rfl, hI⟩ := hrel
        by_cases hik : i < kr
        · have hdi : decide ((i : Int) < (kr : Int)) = true := by simp; omega
          have hwi : IntKind.i64.wrap ((i : Int) + 1) = (i : Int) + 1 := IntWalk.i64_in _ (by omega)
          obtain ⟨ga, ca', Ai, ci, hva, -, hcr, hAi, hmi⟩ := hI.row (by rw [Hkr.out]; exact hik)
          cases hva
          unfold maxLen at hmi
          obtain ⟨mi, hmie⟩ : ∃ m, (rs.getD i []).length = m := ⟨_, rfl⟩
          rw [hmie] at hcr hAi hmi
          have Hmi := Lib.hid hmie
          clear hmie
          go_wp2_with fail
          go_loopw [27] (fun v27 wr => ∃ (k : Nat), k ≤ mi ∧ v27 = .int .i64 (k : Int) ∧ SpI w hs s prs A n c As ns cs Ao no co vso A' c' (some ⟨b2, o2, none⟩) c2 N M K rs (.slice (some ⟨ga, 0, none⟩) rs.length ca) vsa Bb cb vsb Bw cw vsw i wr ∧ wr.cell? ⟨ga, i, none⟩ = some (.slice Ai mi ci)) (fun v27 _ => mi - (intOf v27).toNat)
          case atStart => exact ⟨0, Nat.zero_le _, rfl, hI, hcr⟩
          case round =>
            clear hI hcr
            obtain ⟨k, hk, rfl, hI, hcr⟩ := hrel
            by_cases hkm : k < mi
            · have hdk : decide ((k : Int) < (mi : Int)) = true := by simp; omega
              have hwk : IntKind.i64.wrap ((k : Int) + 1) = (k : Int) + 1 := IntWalk.i64_in _ (by omega)
              obtain ⟨g, rfl⟩ := hAi (by omega)
              obtain ⟨nine, h9⟩ : ∃ x, oneHash 9 = x := ⟨_, rfl⟩
              have h9l : nine.length = 32 := by rw [← h9]; rfl
              obtain ⟨cur, hcu, hfit, hI2, hne⟩ := hI.put (by rw [Hkr.out]; exact hik) rfl (by rw [Hmi.out]; exact hcr) k (by rw [Hmi.out]; exact hkm) nine h9l
              obtain ⟨W5, hW5⟩ : ∃ W5, wr.setRow g (cur.toList.take (k * 32) ++ (nine.map B).toArray.toList ++ cur.toList.drop (k * 32 + 32)).toArray = W5 := ⟨_, rfl⟩
              rw [hW5] at hI2
              have hcr2 : W5.cell? ⟨ga, i, none⟩ = some (.slice (some ⟨g, 0, none⟩) mi ci) := by
                rw [← hW5, World.cell?_of_block (setRow_other _ _ _ _ hne)]
                exact hcr
              have H9 := Lib.hid h9
              have H9l := Lib.hid h9l
              have HW5 := Lib.hid hW5
              clear h9 h9l hI hW5
              go_wp2_with (first
                | ((with_reducible show wpList _ _ _ (⟨some 224, .build _ _, _, _, _, _⟩ :: _) _ _); refine wpList_run0 rfl (.agg (nine.map B).toArray) (by rw [← H9.out]; kernel_rfl) ?_; simp only [Act.put])
                | ((with_reducible show wpList _ _ _ (⟨none, .store _ _ _, _, _, _, _⟩ :: _) _ _); refine wpList_store_agg rfl 34 (.tmp 225) (.tmp 224) rfl 32 size26 g (k * 32) (nine.map B).toArray rfl rfl (by simp [H9l.out]) (oneCell_B _) 34 cur hcu hfit ?_; simp only [Act.put]; rw [HW5.out]))
              go_roundw
              case rel => exact ⟨k + 1, by omega, by go_num, hI2, hcr2⟩
              case measure => simp [intOf]; omega
            · have hdk : decide ((k : Int) < (mi : Int)) = false := by simp; omega
              obtain ⟨hc5, hf5, hI2⟩ := hI.next (by rw [Hkr.out]; exact hik) rfl
              obtain ⟨vv, hc5⟩ := hc5
              clear hc5 hI
              go_wp2_with fail
              go_roundw
              case rel => exact ⟨i + 1, by omega, by go_num, hI2⟩
              case measure => simp [intOf]; omega
        · have hdi : decide ((i : Int) < (kr : Int)) = false := by simp; omega
          have hsp := samep_any rs Bb Bw kr cb cw vsb vsw wr (by have := hI.b.weak (Y := fun _ => True) fun _ _ _ => trivial; rw [Hkr.out] at this; exact this) (by have := hI.v.weak (Y := fun _ => True) fun _ _ _ => trivial; rw [Hkr.out] at this; exact this) (fun r hr => by have := Hsh.out r hr; omega)
          have hkp := fun W (hb : Below wr.heap.size wr W) => kept12_any hs A' A n c' c W (hI.s.step hb).t.kept (hI.s.step hb).t.yours (by omega)
          have hbel := hI.s.t.bel
          have Hsp := Lib.hid hsp
          have Hkp := Lib.hid hkp
          clear hsp hkp hI
          go_wp2_with (first
            | (go_at_call 52; refine Hsp.out.mono ?_; rintro e w7 ⟨rfl, hb7⟩)
            | (go_at_call 45; refine (Hkp.out _ hb7).mono ?_; rintro e w8 ⟨rfl, hb8⟩; have hb9 := hb7.trans (hb8.mono hb7.size))
            | (go_at_call 39; refine (known12_any _).mono ?_; rintro e w9 ⟨rfl, hb10⟩; have hb11 := hb9.trans (hb10.mono hb9.size)))
          go_ret
          exact ⟨rfl, hbel.trans (hb11.mono hbel.size)⟩
end Go.Proofs.Ytgcbdnoniikboaa
