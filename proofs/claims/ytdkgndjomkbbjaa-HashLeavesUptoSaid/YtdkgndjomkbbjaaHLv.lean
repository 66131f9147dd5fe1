/- notarylaw08.HashLeaves. -/
import Derived.Test.YtdkgndjomkbbjaaHLeaves
import Derived.Test.YtdkgndjomkbbjaaHSame
import Derived.Test.YtdkgndjomkbbjaaSpoil
namespace Go.Proofs.Ytdkgndjomkbbjaa
open Go Go.RowKit

theorem sizeBB : ∀ w : World, (sizeOf (Try.prog.elem 22)).run Try.prog w = .ok 1 w := fun _ => by kernel_rfl
theorem sliceBB : Try.prog.underlying 22 = some (.slice (Try.prog.elem 22)) := by kernel_rfl

/-- in the first loop: the lent entries -/
structure HlC (w : World) (ls : List (List UInt8)) (k : Nat) (v : Value) (vs : List Value) (W : World) : Prop where
  own : W.ownsRow w.heap.size 23 1 v k vs
  lents : ∀ i (h : i < ls.length), i < k → ∃ g c, vs[i]? = some (.slice (some ⟨g, 0, none⟩) (ls[i]).length c) ∧ LentM W (fun b => w.heap.size ≤ b ∧ some b ≠ v.ownBlock) g (ls[i]).length c ls[i]
  bel : Below w.heap.size w W
section
variable {w W W' : World} {ls : List (List UInt8)} {k : Nat} {v v' : Value} {vs : List Value}
theorem HlC.step (h : HlC w ls k v vs W) (hb : Below W.heap.size W W') : HlC w ls k v vs W' :=
  ⟨owns_step h.own hb, fun i hi hk => let ⟨g, c, h1, h2⟩ := h.lents i hi hk; ⟨g, c, h1, h2.step hb⟩, h.bel.trans (hb.mono h.bel.size)⟩
theorem HlC.app (h : HlC w ls k v vs W) (hg : W.grownBy W' v.ownBlock) (hf : v'.ownBlock = v.ownBlock ∨ ∃ k, v'.ownBlock = some k ∧ W.heap.size ≤ k) {x : Value}
    (ho : W'.ownsRow w.heap.size 23 1 v' (k + 1) (vs ++ [x])) (hx : ∀ hk : k < ls.length, ∃ g c, x = .slice (some ⟨g, 0, none⟩) (ls[k]).length c ∧ LentM W (fun b => w.heap.size ≤ b ∧ some b ≠ v.ownBlock) g (ls[k]).length c ls[k]) :
    HlC w ls (k + 1) v' (vs ++ [x]) W' := by
  have hvl : vs.length = k := by have := h.own.1; omega
  refine ⟨ho, fun i hi hk => ?_, h.bel.grown hg h.bel.size fun k hk => (h.own.lt k hk).1⟩
  have hgo : ∀ g n c l, LentM W (fun b => w.heap.size ≤ b ∧ some b ≠ v.ownBlock) g n c l → LentM W' (fun b => w.heap.size ≤ b ∧ some b ≠ v'.ownBlock) g n c l := fun g n c l h2 => by
    refine (h2.weak (Y := fun b => (w.heap.size ≤ b ∧ some b ≠ v'.ownBlock) ∧ some b ≠ v.ownBlock) fun b hb hx => ⟨⟨hx.1, ?_⟩, hx.2⟩).grown hg (fun b _ hx => hx.2) |>.weak fun b _ hx => hx.1
    rcases hf with hf | ⟨k, hf, hk⟩
    · rw [hf]; exact hx.2
    · rw [hf]; intro e; cases e; omega
  by_cases hik : i < k
  · obtain ⟨g, c, h1, h2⟩ := h.lents i hi hik
    exact ⟨g, c, by rw [List.getElem?_append_left (by omega)]; exact h1, hgo _ _ _ _ h2⟩
  · obtain rfl : i = k := by omega
    obtain ⟨g, c, h1, h2⟩ := hx hi
    exact ⟨g, c, by rw [List.getElem?_append_right (by omega), hvl, Nat.sub_self, h1]; rfl, hgo _ _ _ _ h2⟩
theorem HlC.lent {p : List UInt8} {g cg n : Nat} {w2 : World} {k : Nat} (h : HlC w ls k v vs W) {hk : k < ls.length} (hp : ls[k] = p) (hn : p.length = n) (ho : LentM w2 (W.heap.size ≤ ·) g n cg p) (hb : Below W.heap.size W w2) (hl : k ≤ 2097152) :
    ∃ v' w3, (Builtin.append_ #[22, 22] 22 #[v, .slice (some ⟨w2.heap.size, 0, none⟩) 1 1]).run Try.prog (w2.alloc (.cells #[.slice (some ⟨g, 0, none⟩) n cg] 23)) = .ok v' w3 ∧
      HlC w ls (k + 1) v' (vs ++ [.slice (some ⟨g, 0, none⟩) n cg]) w3 := by
  subst hn
  have hba := (Below.refl w2.heap.size w2).alloc (Nat.le_refl _) (.cells #[.slice (some ⟨g, 0, none⟩) p.length cg] 23)
  have h2 := h.step hb
  have h3 := h2.step hba
  obtain ⟨v4', w3, hr, ho4, hg4, hf4⟩ := append_slv (ty := 22) Try.underlying22 info23 rfl (by decide) h3.own (SlV.lit (s := 1) w2 (fun _ => True) 23 [.slice (some ⟨g, 0, none⟩) p.length cg] rfl (by decide) trivial) (by simp [Value.oneCell']) (by unfold maxLen; omega) (by omega) h3.bel.size
  refine ⟨v4', w3, hr, h3.app hg4 hf4 ho4 fun hk' => ⟨g, cg, by rw [hp], ?_⟩⟩
  rw [hp]
  refine (ho.weak fun b _ hx => ⟨?_, fun e => ?_⟩).step hba
  · have := h.bel.size; have : W.heap.size ≤ b := hx; omega
  · have := (h.own.lt b e.symm).2; have : W.heap.size ≤ b := hx; omega
/-- the lent entries, as a slice of slices -/
theorem HlC.sls {x : Value} (h : HlC w ls (k + 1) v (vs ++ [x]) W) (hk : ls.length = k) : ∃ A c, v = .slice A (k + 1) c ∧ SlV W (fun b => w.heap.size ≤ b ∧ some b = v.ownBlock) A (k + 1) c 1 (vs ++ [x]) ∧ SlS W A k c vs ls := by
  obtain ⟨A4, c4, rfl, hs4⟩ := owns_slv h.own
  have hv : vs.length = k := by have := hs4.len; rw [List.length_append, List.length_singleton] at this; omega
  refine ⟨A4, c4, rfl, hs4, ?_, hk, fun i hi => ?_⟩
  · have := (hs4.take k (by omega)).weak (Y := (· < W.heap.size)) fun b hb _ => hb
    rw [Nat.mul_one, ← hv, List.take_left] at this
    rw [← hv]
    exact this
  · obtain ⟨g, c, h1, h2⟩ := h.lents i hi (by omega)
    rw [List.getElem?_append_left (by omega)] at h1
    exact ⟨_, c, h1, h2.sl.weak fun b hb _ => hb⟩
end
theorem SlS.step {w w' : World} {A : Option Addr} {n c : Nat} {vs : List Value} {ls : List (List UInt8)} (h : SlS w A n c vs ls) (hb : Below w.heap.size w w') : SlS w' A n c vs ls :=
  ⟨(h.out.step hb).weak fun _ hb' _ => hb', h.len, fun i hi => let ⟨Ai, ci, h1, h2⟩ := h.ins i hi; ⟨Ai, ci, h1, (h2.step hb).weak fun _ hb' _ => hb'⟩⟩
theorem SlS.bss {w : World} {A : Option Addr} {n c : Nat} {vs : List Value} {ls : List (List UInt8)} (h : SlS w A n c vs ls) : BsS w (fun _ => True) A ls :=
  ⟨vs, h.out.bs.weak fun _ _ _ => trivial, by have := h.out.len; have := h.len; omega, fun i hi => let ⟨Ai, ci, h1, h2⟩ := h.ins i hi; ⟨Ai, ci, h1, by have := h2.room; have := h2.len; omega, h2.bs.weak fun _ _ _ => trivial⟩⟩
/-- behind the first loop -/
structure HmC (w0 : World) (ls : List (List UInt8)) (A : Option Addr) (n c : Nat) (vs0 : List Value) (b4 o4 c4 x9 : Nat) (vs : List Value) (w : World) : Prop where
  src : SlS w A n c vs0 ls
  lent : SlS w (some ⟨b4, o4, none⟩) n c4 vs ls
  cells : ∀ j u, (vs ++ [.slice (some ⟨x9, 0, none⟩) 1 1])[j]? = some u → w.cell? ⟨b4, o4 + j, none⟩ = some u
  marks : ∀ i (h : i < ls.length), ∃ g c, vs[i]? = some (.slice (some ⟨g, 0, none⟩) (ls[i]).length c) ∧ LentM w (fun _ => True) g (ls[i]).length c ls[i]
  lt : b4 < w.heap.size
  bel : Below w0.heap.size w0 w
theorem HmC.step {w0 w w' : World} {ls : List (List UInt8)} {A : Option Addr} {n c : Nat} {vs0 : List Value} {b4 o4 c4 x9 : Nat} {vs : List Value} (h : HmC w0 ls A n c vs0 b4 o4 c4 x9 vs w) (hb : Below w.heap.size w w') : HmC w0 ls A n c vs0 b4 o4 c4 x9 vs w' :=
  ⟨h.src.step hb, h.lent.step hb, fun j u hu => by rw [hb.cell (p := ⟨b4, o4 + j, none⟩) h.lt]; exact h.cells j u hu, fun i hi => let ⟨g, c, h1, h2⟩ := h.marks i hi; ⟨g, c, h1, h2.step hb⟩, Nat.lt_of_lt_of_le h.lt hb.size, h.bel.trans (hb.mono h.bel.size)⟩
/-- while the first answer is written over -/
structure HnC (w0 : World) (va : Value) (Ab : Option Addr) (n cb : Nat) (Aw : Option Addr) (cw : Nat) (hs : List (List UInt8)) (w : World) : Prop where
  own : ∃ xs, w.ownsRow w0.heap.size 26 32 va n xs
  hb : Hs w (fun b => some b ≠ va.ownBlock) Ab n cb hs
  hw : Hs w (fun b => some b ≠ va.ownBlock) Aw n cw hs
  bel : Below w0.heap.size w0 w
theorem HnC.step {w0 w w' : World} {va : Value} {Ab Aw : Option Addr} {n cb cw : Nat} {hs : List (List UInt8)} (h : HnC w0 va Ab n cb Aw cw hs w) (hb : Below w.heap.size w w') : HnC w0 va Ab n cb Aw cw hs w' :=
  ⟨let ⟨xs, hx⟩ := h.own; ⟨xs, owns_step hx hb⟩, h.hb.step hb, h.hw.step hb, h.bel.trans (hb.mono h.bel.size)⟩

set_option maxHeartbeats 1000000 in
set_option maxRecDepth 100000 in
theorem hleaveslaw_any (ls : List (List UInt8)) (A : Option Addr) (n c : Nat) (vs0 : List Value) (w : World) (h : SlS w A n c vs0 ls) (hn : n ≤ 2097152) (hl : ls.flatten.length ≤ 2097152) :
    Calls Try.prog 11 #[.slice A n c] w fun e w' => e = .returned (.bool true) ∧ Below w.heap.size w w' := by
  have hlong := long_any ls A n c w h.len.symm h.bss (by omega)
  have hmax := h.out.max
  have hroom := h.out.room
  unfold maxLen at hmax
  have Hh := Lib.hid h
  have hlen := h.len
  have Hlen := Lib.hid hlen
  have Hlong := Lib.hid hlong
  clear h hlong hlen
  go_enter Try.func11, Try.ntmps11
  go_wp2_with fail
  refine Hlong.out.mono ?_
  rintro e w1 ⟨rfl, lg, rfl, hlg⟩
  clear Hlong
  cases lg with
  | true =>
    go_wp2_with (go_at_call 29; refine (works_any _).mono ?_; rintro e w2 ⟨rfl, hb2⟩)
    go_ret
    exact ⟨rfl, hb2⟩
  | false =>
  have hsz := hlg rfl
  clear hlg
  go_wp2_with fail
  go_loopw [3, 4] (fun a3 i wr => ∃ (k : Nat) (v3 : Value) (vs : List Value), k ≤ n ∧ i = .int .i64 k ∧ v3 = a3 ∧ HlC w ls k v3 vs wr) (fun _ i => fun _ => n - (intOf i).toNat)
  case atStart => exact ⟨0, _, [], by omega, rfl, rfl, World.ownsRow_nil _ _ _ _, fun i _ h => absurd h (by omega), Below.refl _ _⟩
  case round =>
    obtain ⟨k, v3, vs, hk, rfl, rfl, hC⟩ := hrel
    by_cases hlt : k < n
    · have hkl : k < ls.length := by have := Hlen.out; omega
      obtain ⟨b0, o0, rfl, hb0, _, hcell⟩ := Hh.out.out.at_ (by omega) (by omega)
      obtain ⟨Ai, ci, hv, hs⟩ := Hh.out.ins k hkl
      have c1 : wr.cell? ⟨b0, o0 + k, none⟩ = some (.slice Ai (ls[k]).length ci) := by rw [hC.bel.cell (p := ⟨b0, o0 + k, none⟩) hb0]; exact hcell k _ hv
      have hfl3 := flatten_take_le ls (k + 1)
      rw [flatten_take_succ ls k hkl, List.length_append] at hfl3
      have hlent := lent8_any ls[k] Ai (ls[k]).length ci wr (hs.below hC.bel (fun _ _ h => h)).all (by omega)
      obtain ⟨p, hp⟩ : ∃ p, ls[k] = p := ⟨_, rfl⟩
      rw [hp] at c1 hlent hfl3
      have Hp := Lib.hid hp
      have Hlent := Lib.hid hlent
      have HC := Lib.hid hC
      clear hC hp hs hv hcell hlent
      go_wp2_with (first
        | (go_at_call 30; refine Hlent.out.mono ?_; rintro e w2 ⟨g, cg, rfl, hown, hb2⟩; obtain ⟨v4', w3, hr4, hC4⟩ := HC.out.lent (n := p.length) Hp.out rfl hown hb2 (by omega); have Hr4 := Lib.hid hr4; have HC4 := Lib.hid hC4; clear hr4 hC4 hown hb2)
        | ((with_reducible show wpList _ _ _ (⟨some 26, .call _, _, _, _, _⟩ :: _) _ _); refine wpList_run rfl v4' w3 (run_append_op (.tmp 19) (.tmp 25) 22 rfl _ _ rfl rfl Hr4.out) ?_; simp only [Act.put]))
      go_roundw
      case rel => exact ⟨k + 1, v4', _, by omega, by go_num, rfl, HC4.out⟩
      case measure => simp [intOf]; omega
    · obtain rfl : n = k := by omega
      have hvl : vs.length = n := by have := hC.own.1; omega
      have hba := (Below.refl wr.heap.size wr).alloc (Nat.le_refl _) (.cells #[.int .u8 9] 5)
      have hbb := hba.alloc (by simp) (.cells #[.slice (some ⟨wr.heap.size, 0, none⟩) 1 1] 23)
      have hC2 := hC.step hbb
      obtain ⟨v4, w3, hr4, ho4, hg4, hf4⟩ := append_slv (ty := 22) Try.underlying22 info23 rfl (by decide) hC2.own (SlV.lit (s := 1) (wr.alloc (.cells #[.int .u8 9] 5)) (fun _ => True) 23 [.slice (some ⟨wr.heap.size, 0, none⟩) 1 1] rfl (by decide) trivial) (by simp [Value.oneCell']) (by unfold maxLen; omega) (by omega) hC2.bel.size
      have hC3 := hC2.app hg4 hf4 ho4 (fun hk => absurd hk (by have := Hlen.out; omega))
      obtain ⟨A4, c4, rfl, hs4, hsls⟩ := hC3.sls Hlen.out
      obtain ⟨b4, o4, rfl, hb4, -, hcell4⟩ := hs4.at_ (by omega) (by omega)
      have hc4 := hs4.room
      have hc4m := hs4.max
      unfold maxLen at hc4m
      have hm : HmC w ls A n c vs0 b4 o4 c4 wr.heap.size vs w3 := ⟨Hh.out.step hC3.bel, hsls, hcell4, fun i hi => by
        obtain ⟨g, c, h1, h2⟩ := hC3.lents i hi (by have := Hlen.out; omega)
        rw [List.getElem?_append_left (by have := Hlen.out; omega)] at h1
        exact ⟨g, c, h1, h2.weak fun _ _ _ => trivial⟩, hb4, hC3.bel⟩
      have sl1 := fun W => run_slice_high (P := Try.prog) sliceBB sizeBB (some ⟨b4, o4, none⟩) (n + 1) c4 n (by omega) W
      have sl2 := fun W => run_slice_high (P := Try.prog) sliceBB sizeBB (some ⟨b4, o4, none⟩) n c4 (n + 1) (by omega) W
      have en : ((n + 1 : Nat) : Int) = (n : Int) + 1 := by omega
      rw [en] at sl2
      clear en
      rw [show (wr.alloc (.cells #[.int .u8 9] 5)).heap.size = wr.heap.size + 1 by simp] at hr4
      have Hr4 := Lib.hid hr4
      have Hvl := Lib.hid hvl
      obtain ⟨hs, hhs⟩ : ∃ hs, leavesL ls = hs := ⟨_, rfl⟩
      have hsn : hs.length = n := by rw [← hhs, leavesL, List.length_map, Hlen.out]
      have ha32 : H32 hs := by rw [← hhs]; exact leavesL_all ls
      have hleaves := fun w A c vs (h : SlS w A n c vs ls) => hleaves_any ls A n c w vs h (by omega)
      have hrleaves := fun w A c vs (h : SlS w A n c vs ls) => rleaves_any ls A n c w vs h (by omega)
      rw [hhs] at hleaves hrleaves
      have Hleaves := Lib.hid hleaves
      have Hrleaves := Lib.hid hrleaves
      have Hsn := Lib.hid hsn
      clear hsn hhs hleaves hrleaves
      clear hr4 hvl hC hC2 hC3 hs4 hsls hg4 hf4 ho4 hba hbb hcell4
      go_wp2_with ((with_reducible show wpList _ _ _ (⟨some 30, .call _, _, _, _, _⟩ :: _) _ _); refine wpList_run rfl _ w3 (run_append_op (.tmp 27) (.tmp 29) 22 rfl _ _ rfl rfl Hr4.out) ?_; simp only [Act.put])
      refine (Hleaves.out _ _ _ _ hm.lent).mono ?_
      rintro e w5 ⟨va, rfl, hoa, hb5⟩
      have hm5 := hm.step hb5
      have hle3 := hm.bel.size
      clear hm
      go_wp2_with fail
      refine (Hleaves.out _ _ _ _ hm5.lent).mono ?_
      rintro e w6 ⟨vb, rfl, hob, hb6⟩
      have hm6 := hm5.step hb6
      go_wp2_with fail
      refine (Hrleaves.out _ _ _ _ hm6.src).mono ?_
      rintro e w7 ⟨vw, rfl, how, hb7⟩
      have hm7 := hm6.step hb7
      have hoa7 := owns_step (owns_step hoa hb6) hb7
      have hob7 := owns_step hob hb7
      obtain ⟨Aa, ca, rfl, hsa⟩ := Hs.of_owns hoa7 Hsn.out ha32
      obtain ⟨Ab, cb, rfl, hsb⟩ := Hs.of_owns hob7 Hsn.out ha32
      obtain ⟨Aw, cw, rfl, hsw⟩ := Hs.of_owns how Hsn.out ha32
      have hN : HnC w (.slice Aa n ca) Ab n cb Aw cw hs w7 := ⟨⟨_, owns_le hoa7 hle3⟩, hsb.weak fun b _ hx e => by
          have := (hoa.lt b e.symm).2
          omega, hsw.weak fun b _ hx e => by
          have := (hoa.lt b e.symm).2
          have := hb6.size
          omega, hm7.bel⟩
      replace hsa := hsa.weak (Y := fun _ => True) fun _ _ _ => trivial
      replace hsw := hsw.weak (Y := fun _ => True) fun _ _ _ => trivial
      clear hoa hob how hoa7 hob7 hsb hm5 hm6 hb5 hb6 hb7 sl1
      obtain ⟨zs, hzs⟩ : ∃ zs, zeroHash = zs := ⟨_, rfl⟩
      have hzl : zs.size = 32 := by rw [← hzs]; rfl
      have hz1 : ∀ v ∈ zs.toList, v.oneCell' = true := by rw [← hzs]; decide
      obtain ⟨x, hx⟩ : ∃ x, oneHash 1 = x := ⟨_, rfl⟩
      have hxl : x.length = 32 := by rw [← hx]; exact length_oneHash _
      have Hzs := Lib.hid hzs
      have Hzl := Lib.hid hzl
      have Hz1 := Lib.hid hz1
      have Hx := Lib.hid hx
      have Hxl := Lib.hid hxl
      clear hzs hzl hz1 hx hxl
      go_wp2_with fail
      refine (same_any hs Aa Aw n ca cw w7 hsa hsw (by omega)).mono ?_
      rintro e w8 ⟨rfl, hb8⟩
      have hm8 := hm7.step hb8
      have hN8 := hN.step hb8
      have hce : w8.cell? ⟨b4, o4 + n, none⟩ = some (.slice (some ⟨wr.heap.size, 0, none⟩) 1 1) := hm8.cells n _ (by rw [List.getElem?_append_right (by rw [Hvl.out]; omega), Hvl.out, Nat.sub_self]; rfl)
      clear hN hsa hsw hm7
      go_wp2_with fail
      clear sl2 hce hb8 hb4
      go_loopw [8] (fun i wr => ∃ k : Nat, k ≤ n ∧ i = .int .i64 k ∧ Below w8.heap.size w8 wr) (fun i _ => n - (intOf i).toNat)
      case atStart => exact ⟨0, by omega, rfl, Below.refl _ _⟩
      case round =>
        obtain ⟨k, hk, rfl, hB⟩ := hrel
        by_cases hlt : k < n
        · have hkl : k < ls.length := by have := Hlen.out; omega
          have hmr := hm8.step hB
          obtain ⟨g, cg, g1, g2⟩ := hmr.marks k hkl
          obtain ⟨b0, o0, hA0, hb0, _, hcell⟩ := hmr.src.out.at_ (by omega) (by omega)
          subst hA0
          obtain ⟨Ai, ci, hv, hs'⟩ := hmr.src.ins k hkl
          have c1 : wr.cell? ⟨b0, o0 + k, none⟩ = some (.slice Ai (ls[k]).length ci) := hcell k _ hv
          have c2 : wr.cell? ⟨b4, o4 + k, none⟩ = some (.slice (some ⟨g, 0, none⟩) (ls[k]).length cg) := hmr.cells k _ (by rw [List.getElem?_append_left (by have := Hvl.out; omega)]; exact g1)
          have hfl3 := flatten_take_le ls (k + 1)
          rw [flatten_take_succ ls k hkl, List.length_append] at hfl3
          have hkept := fun n' => kept8_any g (ls[k]).length cg ls[k] Ai ci (wr.drewN n') ⟨g2.sl.drewN n', g2.lt, g2.mark, g2.mark2, trivial, g2.in_⟩ (hs'.drewN n').all (by omega)
          obtain ⟨p, hp⟩ : ∃ p, ls[k] = p := ⟨_, rfl⟩
          rw [hp] at hkept c1 c2 hfl3
          have Hkept := Lib.hid hkept
          clear hkept g1 g2 hs' hp hcell hv hmr hfl3
          go_wp2_with fail
          go_quiet ((go_at_call 38; exact Calls.quiet_of_same ((Hkept.out _).mono fun _ _ ⟨h1, h2⟩ => ⟨h1, h2.symm⟩)))
          go_wp2_with fail
          refine ⟨⟨k + 1, by omega, by go_num, hB.trans ⟨rfl, rfl, rfl, Nat.le_refl _, fun _ _ => rfl⟩⟩, ?_⟩
          simp [intOf]; omega
        · obtain rfl : n = k := by omega
          have hNr := hN8.step hB
          clear hN8 hm8 hB
          go_wp2_with fail
          go_loopw [9] (fun i wr => ∃ k : Nat, k ≤ n ∧ i = .int .i64 k ∧ HnC w (.slice Aa n ca) Ab n cb Aw cw hs wr) (fun i _ => n - (intOf i).toNat)
          case atStart => exact ⟨0, by omega, rfl, hNr⟩
          case round =>
            clear hNr
            obtain ⟨k, hk, rfl, hC⟩ := hrel
            by_cases hlt : k < n
            · obtain ⟨xs, hown⟩ := hC.own
              obtain ⟨g, rfl⟩ : ∃ g, Aa = some ⟨g, 0, none⟩ := by
                rcases hown.2 with ⟨hv, h0⟩ | ⟨g, cap, cur, hv, _⟩
                · omega
                · cases hv; exact ⟨g, rfl⟩
              obtain ⟨cur, hblk, hsz', hbg, hown'⟩ := owns_put hown k hlt zs.toList (by simpa using Hzl.out)
              have hW := hC.bel
              have hsB := hC.hb
              have hsW := hC.hw
              clear hown
              go_wp2_with (first
                | ((with_reducible show wpList _ _ _ (⟨some 81, .build _ _, _, _, _, _⟩ :: _) _ _); refine wpList_run0 rfl (.agg zs) (by rw [← Hzs.out]; kernel_rfl) ?_; simp only [Act.put])
                | ((with_reducible show wpList _ _ _ (⟨none, .store _ (.tmp 82) _, _, _, _, _⟩ :: _) _ _); refine wpList_store_agg rfl 26 (.tmp 82) (.tmp 81) rfl 32 size26 g (k * 32) zs rfl rfl Hzl.out Hz1.out 26 _ hblk hsz' ?_; simp only [Act.put]; refine wpList_world (HnC w (.slice (some ⟨g, 0, none⟩) n ca) Ab n cb Aw cw hs) ⟨⟨_, hown'⟩, hsB.setRow _ _ (by simp [Value.ownBlock]), hsW.setRow _ _ (by simp [Value.ownBlock]), below_setRow hW hbg _⟩ ?_; intro W4 hC4))
              go_roundw
              case rel => exact ⟨k + 1, by omega, by go_num, hC4⟩
              case measure => simp [intOf]; omega
            · obtain rfl : n = k := by omega
              obtain ⟨xs, hown⟩ := hC.own
              have h32 : H32 [x] := by intro h hh; rw [List.mem_singleton.1 hh]; exact Hxl.out
              have hbA : Below wr.heap.size wr (wr.alloc (.cells (hcells [x]).toArray 26)) := (Below.refl _ _).alloc (Nat.le_refl _) _
              have ho2 := owns_step hown hbA
              have hC2 := hC.step hbA
              obtain ⟨v3, w12, hr3, ho3, hg3, -⟩ := append_slv (ty := 57) Try.underlying57 info26z (by simp [Value.cells]) (by decide) ho2 (Hs.lit wr [x] h32 (by simp) 1 rfl).sl (oneB _) (by unfold maxLen; omega) (by omega) hC2.bel.size
              have hB3 := hC2.bel.grown hg3 hC2.bel.size (fun k hk => (ho2.lt k hk).1)
              have hsB := (hC2.hb.grown hg3 fun _ _ h => h).weak (Y := fun _ => True) fun _ _ _ => trivial
              have hsW := (hC2.hw.grown hg3 fun _ _ h => h).weak (Y := fun _ => True) fun _ _ _ => trivial
              obtain ⟨A5, c5, rfl, -⟩ := owns_slv ho3
              have Hr3 := Lib.hid hr3
              clear hr3 hg3 ho3 ho2 hC2 hC hown
              go_wp2_with (first
                | ((with_reducible show wpList _ _ _ (⟨some 84, .build _ _, _, _, _, _⟩ :: _) _ _); refine wpList_run0 rfl (.agg (x.map B).toArray) (by rw [← Hx.out]; kernel_rfl) ?_; simp only [Act.put])
                | ((with_reducible show wpList _ _ _ (⟨some 85, .buildSlice _ _ _, _, _, _, _⟩ :: _) _ _); refine wpList_run rfl _ _ (run_lit_op [x] h32 (by simp) (by simp) 1 _ rfl (by simp [Act.eval]) rfl _) ?_; simp only [Act.put])
                | ((with_reducible show wpList _ _ _ (⟨some 86, .call _, _, _, _, _⟩ :: _) _ _); refine wpList_run rfl _ w12 (run_append_op (.tmp 83) (.tmp 85) 57 rfl _ _ rfl rfl Hr3.out) ?_; simp only [Act.put])
                | (go_at_call 53; refine (same_any hs Ab Aw n cb cw w12 hsB hsW (by omega)).mono ?_; rintro e w13 ⟨rfl, hb13⟩)
                | (go_at_call 29; refine (works_any _).mono ?_; rintro e w14 ⟨rfl, hb14⟩))
              go_ret
              have hB13 := hB3.trans (hb13.mono hB3.size)
              exact ⟨rfl, hB13.trans (hb14.mono hB13.size)⟩
end Go.Proofs.Ytdkgndjomkbbjaa
