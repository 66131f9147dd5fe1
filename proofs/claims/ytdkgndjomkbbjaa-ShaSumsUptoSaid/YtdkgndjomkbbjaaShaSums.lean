/- notarylaw03.ShaSums, walked. -/
import Derived.Test.YtdkgndjomkbbjaaRef6
import Derived.Test.YtdkgndjomkbbjaaKnown
namespace Go.Proofs.Ytdkgndjomkbbjaa
open Go.RowKit

theorem size22e : ∀ w : World, (sizeOf (Try.prog.elem 22)).run Try.prog w = .ok 1 w := fun _ => by kernel_rfl
theorem sliceT22 : Try.prog.underlying 22 = some (.slice (Try.prog.elem 22)) := by kernel_rfl

theorem bstr_toList (l : List UInt8) : (bstr l).toList = l := by rw [ByteArray.toList_eq]; rfl
theorem run_neq_str (l m : List UInt8) (W : World) : (binOp .neq 9 (.string (bstr l)) (.string (bstr m))).run Try.prog W = .ok (.bool (l != m)) W := by
  have : ∀ l : List UInt8, (bstr l).toList = l := fun l => by rw [ByteArray.toList_eq]; rfl
  rw [binOp_string_neq, Sem.run_pure, this, this]; rfl

/-- in the first loop: all the bytes, the lent parts -/
structure SsC (w : World) (ls : List (List UInt8)) (k3 k4 : Nat) (v3 v4 : Value) (vs : List Value) (W : World) : Prop where
  own3 : W.ownsRow w.heap.size 5 1 v3 (ls.take k3).flatten.length ((ls.take k3).flatten.map B)
  own4 : W.ownsRow w.heap.size 23 1 v4 k4 vs
  lents : ∀ i (h : i < ls.length), i < k4 → ∃ g c, vs[i]? = some (.slice (some ⟨g, 0, none⟩) (ls[i]).length c) ∧ LentB W (fun b => w.heap.size ≤ b ∧ some b ≠ v3.ownBlock ∧ some b ≠ v4.ownBlock) g (ls[i]).length c ls[i]
  ne : ∀ g, v3.ownBlock = some g → v4.ownBlock ≠ some g
  bel : Below w.heap.size w W

section
variable {w W W' : World} {ls : List (List UInt8)} {k3 k4 : Nat} {v3 v4 v' : Value} {vs : List Value}
theorem LentB.weak {w : World} {X Y : Nat → Prop} {g n c : Nat} {l : List UInt8} (h : LentB w X g n c l) (hX : ∀ b, b < w.heap.size → X b → Y b) : LentB w Y g n c l := ⟨h.sl.weak hX, h.lt, h.mark, hX g h.in_ h.x, h.in_⟩
theorem SsC.step (h : SsC w ls k3 k4 v3 v4 vs W) (hb : Below W.heap.size W W') : SsC w ls k3 k4 v3 v4 vs W' :=
  ⟨owns_step h.own3 hb, owns_step h.own4 hb, fun i hi hk => let ⟨g, c, h1, h2⟩ := h.lents i hi hk; ⟨g, c, h1, h2.step hb⟩, h.ne, h.bel.trans (hb.mono h.bel.size)⟩
theorem SsC.app3 (h : SsC w ls k3 k4 v3 v4 vs W) (hg : W.grownBy W' v3.ownBlock) (hf : v'.ownBlock = v3.ownBlock ∨ ∃ k, v'.ownBlock = some k ∧ W.heap.size ≤ k)
    (ho : W'.ownsRow w.heap.size 5 1 v' (ls.take (k3 + 1)).flatten.length ((ls.take (k3 + 1)).flatten.map B)) : SsC w ls (k3 + 1) k4 v' v4 vs W' := by
  refine ⟨ho, h.own4.kept hg ?_, fun i hi hk => ?_, fun g hg' => ?_, h.bel.grown hg h.bel.size fun k hk => (h.own3.lt k hk).1⟩
  · cases hv : v4.ownBlock with
    | none => exact .inl rfl
    | some g => exact .inr fun e => h.ne g e.symm hv
  · obtain ⟨g, c, h1, h2⟩ := h.lents i hi hk
    refine ⟨g, c, h1, (h2.weak (Y := fun b => (w.heap.size ≤ b ∧ some b ≠ v'.ownBlock ∧ some b ≠ v4.ownBlock) ∧ some b ≠ v3.ownBlock) fun b hb hx => ⟨⟨hx.1, ?_, hx.2.2⟩, hx.2.1⟩).grown hg (fun b _ hx => hx.2) |>.weak fun b _ hx => hx.1⟩
    rcases hf with hf | ⟨k, hf, hk⟩
    · rw [hf]; exact hx.2.1
    · rw [hf]; intro e; cases e; omega
  · rcases hf with hf | ⟨k, hf, hk⟩
    · rw [hf] at hg'; exact h.ne g hg'
    · rw [hf] at hg'
      cases hg'
      intro e
      have := (h.own4.lt g e).2
      omega
theorem SsC.app4 (h : SsC w ls k3 k4 v3 v4 vs W) (hg : W.grownBy W' v4.ownBlock) (hf : v'.ownBlock = v4.ownBlock ∨ ∃ k, v'.ownBlock = some k ∧ W.heap.size ≤ k) {x : Value}
    (ho : W'.ownsRow w.heap.size 23 1 v' (k4 + 1) (vs ++ [x])) (hx : ∀ hk : k4 < ls.length, ∃ g c, x = .slice (some ⟨g, 0, none⟩) (ls[k4]).length c ∧ LentB W (fun b => w.heap.size ≤ b ∧ some b ≠ v3.ownBlock ∧ some b ≠ v4.ownBlock) g (ls[k4]).length c ls[k4]) :
    SsC w ls k3 (k4 + 1) v3 v' (vs ++ [x]) W' := by
  have hvl : vs.length = k4 := by have := h.own4.1; omega
  refine ⟨h.own3.kept hg ?_, ho, fun i hi hk => ?_, fun g hg' => ?_, h.bel.grown hg h.bel.size fun k hk => (h.own4.lt k hk).1⟩
  · cases hv : v3.ownBlock with
    | none => exact .inl rfl
    | some g => exact .inr fun e => h.ne g hv e.symm
  · have hgo : ∀ g n c l, LentB W (fun b => w.heap.size ≤ b ∧ some b ≠ v3.ownBlock ∧ some b ≠ v4.ownBlock) g n c l → LentB W' (fun b => w.heap.size ≤ b ∧ some b ≠ v3.ownBlock ∧ some b ≠ v'.ownBlock) g n c l := fun g n c l h2 => by
      refine (h2.weak (Y := fun b => (w.heap.size ≤ b ∧ some b ≠ v3.ownBlock ∧ some b ≠ v'.ownBlock) ∧ some b ≠ v4.ownBlock) fun b hb hx => ⟨⟨hx.1, hx.2.1, ?_⟩, hx.2.2⟩).grown hg (fun b _ hx => hx.2) |>.weak fun b _ hx => hx.1
      rcases hf with hf | ⟨k, hf, hk⟩
      · rw [hf]; exact hx.2.2
      · rw [hf]; intro e; cases e; omega
    by_cases hik : i < k4
    · obtain ⟨g, c, h1, h2⟩ := h.lents i hi hik
      exact ⟨g, c, by rw [List.getElem?_append_left (by omega)]; exact h1, hgo _ _ _ _ h2⟩
    · obtain rfl : i = k4 := by omega
      obtain ⟨g, c, h1, h2⟩ := hx hi
      exact ⟨g, c, by rw [List.getElem?_append_right (by omega), hvl, Nat.sub_self, h1]; rfl, hgo _ _ _ _ h2⟩
  · rcases hf with hf | ⟨k, hf, hk⟩
    · rw [hf]; exact h.ne g hg'
    · rw [hf]
      intro e
      cases e
      have := (h.own3.lt _ hg').2
      omega
theorem SsC.bss {k : Nat} {x : Value} (h : SsC w ls k3 (k + 1) v3 v4 (vs ++ [x]) W) (hk : ls.length = k) (hv : ls.length = vs.length) : ∃ A c, v4 = .slice A (k + 1) c ∧ SlV W (fun b => w.heap.size ≤ b ∧ some b = v4.ownBlock) A (k + 1) c 1 (vs ++ [x]) ∧ BsS W (· < W.heap.size) A ls := by
  obtain ⟨A4, c4, rfl, hs4⟩ := owns_slv h.own4
  refine ⟨A4, c4, rfl, hs4, vs, ?_, hv.symm, fun i hi => ?_⟩
  · have := (hs4.bs.take (k := vs.length)).weak (Y := (· < W.heap.size)) fun b hb _ => hb
    rw [List.take_left] at this
    exact this
  · obtain ⟨g, c, h1, h2⟩ := h.lents i hi (by omega)
    rw [List.getElem?_append_left (by omega)] at h1
    exact ⟨_, c, h1, by have := h2.lt; omega, h2.sl.bs.weak fun b hb _ => hb⟩
theorem SsC.lent {v3 : Value} {p : List UInt8} {g cg n : Nat} {cur : Array Value} {w2 : World} {k : Nat} (h : SsC w ls (k + 1) k v3 v4 vs W) {hk : k < ls.length} (hp : ls[k] = p) (hn : p.length = n) (hg : W.heap.size ≤ g) (ho : Own w2 g cg (p ++ [0xa5]) cur) (hb : Below W.heap.size W w2) (hl : k ≤ 2097152) :
    ∃ v4' w3, (Builtin.append_ #[22, 22] 22 #[v4, .slice (some ⟨w2.heap.size, 0, none⟩) 1 1]).run Try.prog (w2.alloc (.cells #[.slice (some ⟨g, 0, none⟩) n cg] 23)) = .ok v4' w3 ∧
      SsC w ls (k + 1) (k + 1) v3 v4' (vs ++ [.slice (some ⟨g, 0, none⟩) n cg]) w3 := by
  subst hn
  have hba := (Below.refl w2.heap.size w2).alloc (Nat.le_refl _) (.cells #[.slice (some ⟨g, 0, none⟩) p.length cg] 23)
  have h2 := h.step hb
  have h3 := h2.step hba
  obtain ⟨v4', w3, hr, ho4, hg4, hf4⟩ := append_slv (ty := 22) Try.underlying22 info23 rfl (by decide) h3.own4 (SlV.lit (s := 1) w2 (fun _ => True) 23 [.slice (some ⟨g, 0, none⟩) p.length cg] rfl (by decide) trivial) (by simp [Value.oneCell']) (by unfold maxLen; omega) (by omega) h3.bel.size
  refine ⟨v4', w3, hr, h3.app4 hg4 hf4 ho4 fun hk' => ⟨g, cg, by rw [hp], ?_⟩⟩
  rw [hp]
  refine (LentB.of_own ho ⟨?_, fun e => ?_, fun e => ?_⟩).step hba
  · have := h.bel.size; omega
  · have := (h.own3.lt g e.symm).2; omega
  · have := (h.own4.lt g e.symm).2; omega
end
theorem flatten_take_succ' (ls : List (List UInt8)) (k : Nat) (h : k < ls.length) : (ls.take (k + 1)).flatten = (ls.take k).flatten ++ ls[k] := by
  rw [List.take_succ_eq_append_getElem h, List.flatten_append]; simp
theorem flatten_take_len (ls : List (List UInt8)) (k : Nat) : (ls.take k).flatten.length ≤ ls.flatten.length := by
  conv => rhs; rw [← List.take_append_drop k ls, List.flatten_append, List.length_append]
  omega
theorem part_len (ls : List (List UInt8)) (k : Nat) (h : k < ls.length) : (ls[k]).length ≤ ls.flatten.length := by
  have h1 := flatten_take_succ' ls k h
  have h2 := flatten_take_len ls (k + 1)
  rw [h1, List.length_append] at h2
  omega

set_option maxHeartbeats 2000000 in
set_option maxRecDepth 100000 in
theorem shasums_any (ls : List (List UInt8)) (A : Option Addr) (n c : Nat) (vs0 : List Value) (w : World) (h : SlS w A n c vs0 ls) (hn : n ≤ 2097152) (hl : ls.flatten.length ≤ 2097152) :
    Calls Try.prog 3 #[.slice A n c] w fun e w' => e = .returned (.bool true) ∧ Below w.heap.size w w' := by
  have Hh := Lib.hid h
  have hmax := h.out.max
  have hroom := h.out.room
  have hlen := h.len
  clear h
  unfold maxLen at hmax
  have Hl := Lib.hid hlen
  clear hlen
  go_enter Try.func3, Try.ntmps3
  go_wp2_with fail
  go_loopw [3, 4, 5] (fun a3 a4 i wr => ∃ (k : Nat) (v3 v4 : Value) (vs : List Value), k ≤ n ∧ i = .int .i64 k ∧ v3 = a3 ∧ v4 = a4 ∧ SsC w ls k k v3 v4 vs wr) (fun _ _ i => fun _ => n - (intOf i).toNat)
  case atStart => exact ⟨0, _, _, [], by omega, rfl, rfl, rfl, World.ownsRow_nil _ _ _ _, World.ownsRow_nil _ _ _ _, fun i _ h => absurd h (by omega), (fun g h => by cases h), Below.refl _ _⟩
  case round =>
    obtain ⟨k, v3, v4, vs, hk, rfl, rfl, rfl, hC⟩ := hrel
    by_cases hlt : k < n
    · have hkl : k < ls.length := by have := Hl.out; omega
      obtain ⟨b0, o0, rfl, hb0, _, hcell⟩ := Hh.out.out.at_ (by omega) (by omega)
      obtain ⟨Ai, ci, hv, hs⟩ := Hh.out.ins k hkl
      have hce := hcell k _ hv
      have hpl := part_len ls k hkl
      have hft := flatten_take_len ls k
      have hfs := flatten_take_succ' ls k hkl
      have c1 : wr.cell? ⟨b0, o0 + k, none⟩ = some (.slice Ai (ls[k]).length ci) := by rw [hC.bel.cell (p := ⟨b0, o0 + k, none⟩) hb0]; exact hce
      obtain ⟨v3', w1, hr3, ho3, hg3, hf3⟩ := append_slv (ty := 23) Try.underlying23 info5 rfl (by decide) hC.own3 (hs.below hC.bel (fun _ _ h => h)).v (oneB _) (by unfold maxLen; omega) (by omega) hC.bel.size
      rw [← List.map_append, ← List.length_append, ← hfs] at ho3
      have hC1 := hC.app3 hg3 hf3 ho3
      have c2 : w1.cell? ⟨b0, o0 + k, none⟩ = some (.slice Ai (ls[k]).length ci) := by rw [hC1.bel.cell (p := ⟨b0, o0 + k, none⟩) hb0]; exact hce
      have hs1 := (hs.below hC1.bel (fun _ _ h => h)).all
      have hlent := lent_any ls[k] Ai (ls[k]).length ci w1 hs1 (by omega)
      obtain ⟨p, hp⟩ : ∃ p, ls[k] = p := ⟨_, rfl⟩
      rw [hp] at hr3 c1 c2 hlent hpl
      have Hp := Lib.hid hp
      have Hr3 := Lib.hid hr3
      have Hlent := Lib.hid hlent
      have HC1 := Lib.hid hC1
      clear hr3 ho3 hg3 hf3 hC hfs hp hs hs1 hv hce hcell hlent hC1
      go_wp2_with (first
        | ((with_reducible show wpList _ _ _ (⟨some 18, .call _, _, _, _, _⟩ :: _) _ _); refine wpList_run rfl v3' w1 (run_append_op (.tmp 13) (.tmp 17) 23 rfl _ _ rfl rfl Hr3.out) ?_; simp only [Act.put])
        | (go_at_call 14; refine Hlent.out.mono ?_; rintro e w2 ⟨g, cg, cur, rfl, hg, hown, hb2⟩; obtain ⟨v4', w3, hr4, hC4⟩ := HC1.out.lent (n := p.length) Hp.out rfl hg hown hb2 (by omega); have Hr4 := Lib.hid hr4; have HC4 := Lib.hid hC4; clear hr4 hC4 hown hb2)
        | ((with_reducible show wpList _ _ _ (⟨some 26, .call _, _, _, _, _⟩ :: _) _ _); refine wpList_run rfl v4' w3 (run_append_op (.tmp 19) (.tmp 25) 22 rfl _ _ rfl rfl Hr4.out) ?_; simp only [Act.put]))
      go_roundw
      case rel => exact ⟨k + 1, v3', v4', _, by omega, by go_num, rfl, rfl, HC4.out⟩
      case measure => simp [intOf]; omega
    · obtain rfl : n = k := by omega
      obtain ⟨mk, hmk⟩ : ∃ mk, (([109, 97, 114, 107] : List UInt8).map B).toArray = mk := ⟨_, rfl⟩
      obtain ⟨wm, hcv, hbm, hBm⟩ := conv_new wr mk [109, 97, 114, 107] 4 rfl hmk.symm
      have hCm := hC.step hBm
      have hba := (Below.refl wm.heap.size wm).alloc (Nat.le_refl _) (.cells #[.slice (some ⟨wr.heap.size, 0, none⟩) 4 4] 23)
      have hC2 := hCm.step hba
      obtain ⟨v4', w3, hr4, ho4, hg4, hf4⟩ := append_slv (ty := 22) Try.underlying22 info23 rfl (by decide) hC2.own4 (SlV.lit (s := 1) wm (fun _ => True) 23 [.slice (some ⟨wr.heap.size, 0, none⟩) 4 4] rfl (by decide) trivial) (by simp [Value.oneCell']) (by unfold maxLen; omega) (by omega) hC2.bel.size
      have hC3 := hC2.app4 hg4 hf4 ho4 (fun hk => absurd hk (by have := Hl.out; omega))
      have hms : Sl w3 (fun _ => True) (some ⟨wr.heap.size, 0, none⟩) 4 4 [109, 97, 114, 107] := by
        refine (Sl.grown (X := fun b => some b ≠ v4.ownBlock) (w := wm.alloc (.cells #[.slice (some ⟨wr.heap.size, 0, none⟩) 4 4] 23)) ⟨(hbm.weak fun b hb hx e => ?_).alloc _, rfl, Nat.le_refl _, (fun h => by cases h), by decide⟩ hg4 fun b _ hx => hx).all
        have := (hC.own4.lt b e.symm).2
        have : wr.heap.size ≤ b := hx
        omega
      have hvl : vs.length = n := by have := hC.own4.1; omega
      obtain ⟨A4, c4, rfl, hs4, hbss⟩ := hC3.bss (by have := Hl.out; omega) (by rw [hvl]; exact Hl.out)
      have hall : (ls.take n).flatten = ls.flatten := by rw [List.take_of_length_le (by have := Hl.out; omega)]
      have ho3 := hC3.own3
      rw [hall] at ho3
      obtain ⟨A3, c3, rfl, hs3⟩ := owns_sl ho3
      obtain ⟨m, hm⟩ : ∃ m, ls.flatten.length = m := ⟨_, rfl⟩
      rw [hm] at hs3 hl
      rw [hm]
      have Hm := Lib.hid hm
      clear hm
      have hsum := shasum_any ls A4 n c4 w3 Hl.out.symm hbss (by omega) (by rw [Hm.out]; omega)
      obtain ⟨b4, o4, rfl, hb4, -, hcell4⟩ := hs4.at_ (by omega) (by omega)
      have hce := hcell4 n (.slice (some ⟨wr.heap.size, 0, none⟩) 4 4) (by rw [List.getElem?_append_right (by omega), hvl, Nat.sub_self]; rfl)
      have hfin : ∀ W, Below w3.heap.size w3 W → W.cell? ⟨b4, o4 + n, none⟩ = some (.slice (some ⟨wr.heap.size, 0, none⟩) 4 4) ∧ (convert 23 9 (.slice (some ⟨wr.heap.size, 0, none⟩) 4 4)).run Try.prog W = .ok (.string (bstr [109, 97, 114, 107])) W := fun W hW =>
        ⟨by rw [hW.cell (p := ⟨b4, o4 + n, none⟩) hb4]; exact hce, run_str (hms.step hW)⟩
      have Hfin := Lib.hid hfin
      have Hsum := Lib.hid hsum
      have Hs3 := Lib.hid hs3
      have Hall := Lib.hid hall
      obtain ⟨hs, hhs⟩ : ∃ hs, sha256 ls.flatten = hs := ⟨_, rfl⟩
      have hhl : hs.length = 32 := by rw [← hhs]; exact length_sha256 _
      have hNeq : ∀ {ρ : Operand → Value} {o : Oper} (x y : Operand) (ty : TypeId) (_ : o.op = .binOp .neq 26 x y ty) (_ : ρ x = .agg (hs.map B).toArray) (_ : ρ y = .agg (hs.map B).toArray) (W : World), (execOp ρ o).run Try.prog W = .ok (.value (.bool false)) W := fun x y ty ho hx hy W => by
        have := run_neq26 x y ty hs hs ho hx hy hhl hhl W
        rwa [bne_self_eq_false] at this
      have Hhs := Lib.hid hhs
      clear hall hcell4 hce hfin hsum hs3 ho3 hhs hhl hbss hvl
      have hc4 := hs4.room
      have hc4m := hs4.max
      unfold maxLen at hc4m
      have sl1 := fun W => run_slice_high (P := Try.prog) sliceT22 size22e (some ⟨b4, o4, none⟩) (n + 1) c4 n (by omega) W
      have sl2 := fun W => run_slice_high (P := Try.prog) sliceT22 size22e (some ⟨b4, o4, none⟩) n c4 (n + 1) (by omega) W
      have en : ((n + 1 : Nat) : Int) = (n : Int) + 1 := by omega
      rw [en] at sl2
      clear en
      have Hmk := Lib.hid hmk
      have Hcv := Lib.hid hcv
      have Hr4 := Lib.hid hr4
      have HC3 := Lib.hid hC3
      have Hms := Lib.hid hms
      have Hs4 := Lib.hid hs4
      clear hmk hcv hbm hBm hba hC2 hr4 ho4 hg4 hf4 hC3 hC hms hs4 hCm
      go_wp2_with (first
        | ((with_reducible show wpList _ _ _ (⟨some 29, .convert _ _ _, _, _, _, _⟩ :: _) _ _); rw [show (#[Value.int .u8 109, Value.int .u8 97, Value.int .u8 114, Value.int .u8 107] : Array Value) = mk from Hmk.out]; refine wpList_run rfl _ wm (run_conv_op 23 23 (.tmp 28) rfl _ rfl Hcv.out) ?_; simp only [Act.put])
        | ((with_reducible show wpList _ _ _ (⟨some 31, .call _, _, _, _, _⟩ :: _) _ _); refine wpList_run rfl _ w3 (run_append_op (.tmp 27) (.tmp 30) 22 rfl _ _ rfl rfl Hr4.out) ?_; simp only [Act.put])
        | (go_at_call 15; refine Hsum.out.mono ?_; rintro e w4 ⟨rfl, hb4'⟩; rw [Hhs.out])
        | (go_at_call 16; refine (rsum_any ls.flatten A3 m c3 w4 (Hs3.out.step hb4').all (by omega)).mono ?_; rintro e w5 ⟨rfl, hb5⟩; rw [Hhs.out]; have hB5 := hb4'.trans (hb5.mono hb4'.size); obtain ⟨g1, g2⟩ := Hfin.out w5 hB5; have g3 := bstr_toList [109, 97, 114, 107])
        | ((with_reducible show wpList _ _ _ (⟨some 39, .binOp _ _ _ _ _, _, _, _, _⟩ :: _) _ _); refine wpList_run rfl (.bool false) w5 (hNeq (.tmp 36) (.tmp 38) 26 rfl rfl rfl w5) ?_; simp only [Act.put]))
      have hB5w : Below w.heap.size w w5 := HC3.out.bel.trans (hB5.mono HC3.out.bel.size)
      clear g1 g2 g3 sl1 sl2
      have hlk : ∀ i (hi : i < ls.length) W, Below w5.heap.size w5 W → ∃ g c, W.cell? ⟨b4, o4 + i, none⟩ = some (.slice (some ⟨g, 0, none⟩) (ls[i]).length c) ∧ LentB W (fun _ => True) g (ls[i]).length c ls[i] := fun i hi W hW => by
        have hW3 : Below w3.heap.size w3 W := hB5.trans (hW.mono hB5.size)
        obtain ⟨g, c, h1, h2⟩ := HC3.out.lents i hi (by have := Hl.out; omega)
        obtain ⟨b', o', hA, _, _, hcell⟩ := Hs4.out.at_ (by omega) (by omega)
        cases hA
        exact ⟨g, c, by rw [hW3.cell (p := ⟨b4, o4 + i, none⟩) hb4]; exact hcell i _ h1, (h2.step hW3).weak fun _ _ _ => trivial⟩
      have Hlk := Lib.hid hlk
      clear hlk
      go_loopw [6] (fun i wr => ∃ k : Nat, k ≤ n ∧ i = .int .i64 k ∧ Below w5.heap.size w5 wr) (fun i _ => n - (intOf i).toNat)
      case atStart => exact ⟨0, by omega, rfl, Below.refl _ _⟩
      case round =>
        obtain ⟨k, hk, rfl, hB⟩ := hrel
        by_cases hlt : k < n
        · have hkl : k < ls.length := by have := Hl.out; omega
          obtain ⟨g, cg, g1, g2⟩ := Hlk.out k hkl _ hB
          obtain ⟨b0, o0, hA0, hb0, _, hcell⟩ := Hh.out.out.at_ (by omega) (by omega)
          subst hA0
          obtain ⟨Ai, ci, hv, hs⟩ := Hh.out.ins k hkl
          have hBw := hB5w.trans (hB.mono hB5w.size)
          have c1 : wr.cell? ⟨b0, o0 + k, none⟩ = some (.slice Ai (ls[k]).length ci) := by rw [hBw.cell (p := ⟨b0, o0 + k, none⟩) hb0]; exact hcell k _ hv
          have hpl := part_len ls k hkl
          have hbs := hs.below hBw (fun _ _ h => h)
          have hkept := fun n' => kept_any g (ls[k]).length cg ls[k] Ai ci (wr.drewN n') ⟨g2.sl.drewN n', g2.lt, g2.mark, trivial, g2.in_⟩ (hbs.drewN n').all (by have := Hm.out; omega)
          obtain ⟨p, hp⟩ : ∃ p, ls[k] = p := ⟨_, rfl⟩
          rw [hp] at hkept g1 c1
          have Hkept := Lib.hid hkept
          clear hkept g2 hbs hs hp hcell hv hpl
          go_wp2_with fail
          go_quiet ((go_at_call 17; exact Calls.quiet_of_same ((Hkept.out _).mono fun _ _ ⟨h1, h2⟩ => ⟨h1, h2.symm⟩)))
          go_wp2_with fail
          refine ⟨⟨k + 1, by omega, by go_num, hB.trans ⟨rfl, rfl, rfl, Nat.le_refl _, fun _ _ => rfl⟩⟩, ?_⟩
          simp [intOf]; omega
        · go_wp2_with (go_at_call 18; refine (known_any _).mono ?_; rintro e w6 ⟨rfl, hb6⟩)
          go_ret
          have hB6 := hB5w.trans (hB.mono hB5w.size)
          exact ⟨rfl, hB6.trans (hb6.mono hB6.size)⟩
end Go.Proofs.Ytdkgndjomkbbjaa
