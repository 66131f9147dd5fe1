/- (*sha.Sha).Bytes. -/
import Derived.Test.YtonidnfgneokbaaQd207
import Derived.Test.YtonidnfgneokbaaQd205
import Derived.Test.YtonidnfgneokbaaQd234
import Derived.Test.YtonidnfgneokbaaQd233
namespace Go.Proofs.Ytonidnfgneokbaa
open Go.RowKit

/-- 'p[:k]' of an array behind a pointer -/
theorem run_slice_arr_h {P : Program} {t : TypeId} {s N : Nat} (ht : P.underlying t = some (.array (P.arrayLen t) (P.elem t))) (hN : P.arrayLen t = N) (hs : ∀ W : World, (sizeOf (P.elem t)).run P W = .ok s W) (g o k : Nat) (hk : k ≤ N) (hN0 : 0 < N) (W : World) :
    (Instr.sliceAt t (.pointer (some ⟨g, o, none⟩)) none (some (.int .i64 (k : Int))) none).run P W = .ok (.slice (some ⟨g, o, none⟩) k N) W := by
  rw [run_sliceAt_array_h W t _ ht .i64 (k : Int) (by omega) (by rw [hN]; omega), hs, hN]
  simp only [slicedAt, Result.andThen, Int.toNat_natCast]
  rw [if_neg (by omega), addr_add]
  simp

theorem run_make_u8 (w : World) (n c : Nat) (h : n ≤ c) (hc : c ≤ 140737488355328) :
    (Instr.makeSlice 23 (.int .i64 (n : Int)) (.int .i64 (c : Int))).run Try.prog w = .ok (.slice (some ⟨w.heap.size, 0, none⟩) n c) (w.alloc (.cells ((List.replicate c (0 : UInt8)).map B).toArray 5)) := by
  obtain ⟨i, hi⟩ : ∃ i, Try.prog.info? 5 = some i := Option.isSome_iff_exists.1 (by kernel_rfl)
  have hz : i.zero = some (.int .u8 0) := by
    have : (Try.prog.info? 5).bind (·.zero) = some (.int .u8 0) := by kernel_rfl
    rw [hi] at this; exact this
  have hs : i.size = 1 := by
    have : (Try.prog.info? 5).map (·.size) = some 1 := by kernel_rfl
    rw [hi] at this; exact Option.some.inj this
  have hby : i.bytes = 1 := by
    have : (Try.prog.info? 5).map (·.bytes) = some 1 := by kernel_rfl
    rw [hi] at this; exact Option.some.inj this
  have := run_make (P := Try.prog) w 23 5 i _ Try.underlying23 hi hz .i64 .i64 n c (by omega) (by omega) (by rw [hby]; omega) (by omega)
  rw [this, hs, Nat.mul_one, Int.toNat_natCast, Int.toNat_natCast]
  have hm : madeCells (Value.int .u8 0).cells c = ((List.replicate c (0 : UInt8)).map B).toArray := by
    apply Array.ext'
    rw [show (Value.int .u8 0).cells = #[Value.int .u8 0] from rfl, toList_madeCells_one]
    simp [B]
  rw [hm]

/-- between two statements: the sum, the row -/
structure ByC (w : World) (g : Nat) (u : Und) (bk : List UInt8) (L : List UInt8) (W : World) : Prop where
  sh : ShB W g u bk
  row : Blk W w.heap.size 5 (L.map B).toArray
  bel : Below w.heap.size w W
theorem ByC.step {w W W' : World} {g : Nat} {u : Und} {bk L : List UInt8} (h : ByC w g u bk L W) (hb : Below W.heap.size W W') : ByC w g u bk L W' :=
  ⟨h.sh.move (h.sh.blk.below hb h.sh.blk.lt), h.row.below hb h.row.lt, h.bel.trans (hb.mono h.bel.size)⟩
theorem ByC.drew {w W : World} {g : Nat} {u : Und} {bk L : List UInt8} (h : ByC w g u bk L W) : ByC w g u bk L W.drew := ⟨h.sh.move h.sh.blk.drew, h.row.drew, h.bel.drew⟩
theorem ByC.put {w W W' : World} {g : Nat} {u : Und} {bk L L' : List UInt8} (h : ByC w g u bk L W) (hl : g < w.heap.size) (hb : Blk W' w.heap.size 5 (L'.map B).toArray) (hg : W.grownBy W' (some w.heap.size)) : ByC w g u bk L' W' :=
  ⟨h.sh.move (h.sh.blk.grown hg (by simp; omega)), hb, h.bel.grown hg h.bel.size (by simp)⟩

end Go.Proofs.Ytonidnfgneokbaa
/- FrontNil: a front that is not there, a zero one, the greatest sizes. -/
namespace Go.Proofs.Ytonidnfgneokbaa
open Go Go.RowKit Go.Shelf
attribute [local go_sem] Oper.semAt_some

theorem sl_nil10 (W : World) : Sl W (fun _ => True) none 0 0 [] := ⟨Bs.nil, rfl, Nat.le_refl _, fun _ => ⟨rfl, rfl⟩, Nat.zero_le _⟩
theorem es_nil10 (W : World) : Es W (fun _ => True) none 0 0 [] := ⟨⟨[], ⟨Bs.nil, rfl, Nat.le_refl _, fun _ => ⟨rfl, rfl⟩, Nat.zero_le _⟩, fun i hi => by cases hi⟩, rfl⟩
theorem run_make10_op {P : Program} {ρ : Operand → Value} {o : Oper} {w w' : World} {v : Value} {S : TypeId} (x y : Operand) (ho : o.op = .makeSlice S x y) (vx vy : Value) (hx : ρ x = vx) (hy : ρ y = vy) (h : (Instr.makeSlice S vx vy).run P w = .ok v w') : (execOp ρ o).run P w = .ok (.value v) w' := by
  unfold execOp
  simp only [ho, hx, hy, Sem.run_bind, Sem.run_pure, h, Result.andThen_ok]
def fnT : List (List UInt8) := List.replicate 63 zero32
theorem fnT_32 : H32 fnT := fun x hx => by rw [List.eq_of_mem_replicate hx]; rfl
theorem fnT_len : fnT.length = 63 := List.length_replicate
theorem fn_from1 : ∃ pg, fromE 9223372036854775807 fnT = (some pg, 0) ∧ FrOk pg ∧ szF pg = 9223372036854775807 := by
  have h : (levelsF (9223372036854775807 : Int).toNat 63).length = fnT.length := by rw [fnT_len]; decide +kernel
  have he : fromE 9223372036854775807 fnT = (some ((levelsF (9223372036854775807 : Int).toNat 63).zip fnT), 0) := by
    unfold fromE
    rw [if_neg (by decide), if_neg (fun e => e h)]
  obtain ⟨h1, h2, _⟩ := fromE_ok 9223372036854775807 fnT fnT_32 (by decide) _ (by rw [he])
  exact ⟨_, he, h1, by omega⟩
theorem fn_app (pg : FrV) (h : szF pg = 9223372036854775807) : appendE pg [[]] = (pg, 4) := by
  unfold appendE
  rw [if_neg (by decide)]
  unfold leafE
  rw [if_pos (by rw [h]; decide)]
theorem fn_leaf (pg : FrV) (h : szF pg = 9223372036854775807) : leafE pg [zero32] = (pg, 4) := by
  unfold leafE
  rw [if_pos (by rw [h]; decide)]
theorem fn_none (pg : FrV) (h : szF pg = 9223372036854775807) : appendE pg [] = (pg, 0) := by
  unfold appendE
  rw [if_neg (by decide)]
  unfold leafE
  rw [if_neg (by rw [h]; decide)]
  rfl
theorem fn_grow0 (pg : FrV) (h : szF pg = 9223372036854775807) : growE pg 0 zero32 = (pg, 4) := by
  unfold growE
  rw [if_neg (by decide), if_neg (by rw [h]; decide), if_pos (by rw [h]; decide)]
def fnH : FrV := [(62, zero32)]
def fnH2 : FrV := [(62, zero32), (61, zero32)]
theorem fn_from2 : fromE 4611686018427387904 [zero32] = (some fnH, 0) := by
  have h : levelsF (4611686018427387904 : Int).toNat 63 = [62] := by decide +kernel
  unfold fromE
  rw [if_neg (by decide), h, if_neg (by decide)]
  rfl
theorem fnH_ok : FrOk fnH ∧ szF fnH = 4611686018427387904 := by
  obtain ⟨h1, h2, _⟩ := fromE_ok 4611686018427387904 [zero32] (fun x hx => by rw [List.mem_singleton.1 hx]; rfl) (by decide) fnH (by rw [fn_from2])
  exact ⟨h1, by omega⟩
theorem fn_grow62 : growE fnH 62 zero32 = (fnH, 4) := by
  unfold growE
  rw [if_neg (by decide), if_neg (by rw [fnH_ok.2]; decide), if_pos (by rw [fnH_ok.2]; decide)]
theorem fn_grow61 : growE fnH 61 zero32 = (fnH2, 0) := by
  unfold growE
  rw [if_neg (by decide), if_neg (by rw [fnH_ok.2]; decide), if_neg (by rw [fnH_ok.2]; decide)]
  rfl
theorem fnH2_ok : FrOk fnH2 := by have := fnH_ok.1.growE 61 zero32 rfl; rw [fn_grow61] at this; exact this
theorem fnH2_size : szF fnH2 = 6917529027641081856 := by
  show szF ([(62, zero32)] ++ [(61, zero32)]) = _
  rw [szF_append, szF_one, szF_one]
  decide
theorem fn_zeros (z : List UInt8) (h : z.length = 4097) : appendE kn1 [z] = (kn1, 3) := by
  unfold appendE
  rw [if_pos (by simp [h])]
theorem kn1_size : szF kn1 = 1 := rfl
theorem kn1_root : rootG kn1 = kA := rfl
/-- a point's == -/
theorem underPt10 : Try.prog.underlying 109 = some (.struct (Try.prog.fieldsOf 109)) := by kernel_rfl
theorem heldPt10 : Try.prog.stoodInHeld 109 = false := by kernel_rfl
theorem guardPt10 : Try.prog.eqGuardType Try.prog.depth 109 = false := by kernel_rfl
theorem run_eqlPt10 (x : List UInt8) (hx : x.length = 32) (W : World) : (binOp .eql 109 (.agg (Value.int .i64 0 :: x.map B).toArray) (.agg (Value.int .i64 0 :: x.map B).toArray)).run Try.prog W = .ok (.bool true) W := by
  have hf : (Try.prog.fieldsOf 109).toList = [{ name := "Size", type := 2, offset := 0, embedded := false, tag := "", pkgPath := "", byteOffset := 0 }, { name := "Root", type := 25, offset := 1, embedded := false, tag := "", pkgPath := "", byteOffset := 8 }] := by kernel_rfl
  have h1 := fun W => part_num 0 x W
  have h3 := fun W => part_hsh 0 x hx W
  have h5 := fun W => run_equalIn_hashF 9997 x x hx hx W
  have h6 : ∀ W, (Op.equalIn 9999 2 (.int .i64 0) (.int .i64 0)).run Try.prog W = .ok true W := fun W => run_equalIn_int W 9998 _ _ _ _ _ Try.underlying2
  have e : ∀ V : Array Value, (binOp .eql 109 (.agg V) (.agg V)).run Try.prog W = ((Op.equalIn 10000 109 (.agg V) (.agg V)).run Try.prog W).andThen fun b w' => .ok (.bool b) w' := fun V => by
    simp only [binOp, Op.equal, Op.maxDepth, Sem.run_bind, Sem.run_pure]
  rw [e, show (10000 : Nat) = 9999 + 1 from rfl, run_equalIn_agg W 9999 _ _ _ underPt10 heldPt10, hf]
  generalize (Value.int .i64 0 :: x.map B).toArray = U at h1 h3 ⊢
  generalize hD : 9999 = D at *
  have h5 : ∀ W, (Op.equalIn D 25 (.agg (x.map B).toArray) (.agg (x.map B).toArray)).run Try.prog W = .ok (x == x) W := by rw [← hD]; exact h5
  simp [Op.eqFields, h1, h3, h6, h5]
theorem run_eqlPt10_op {ρ : Operand → Value} {o : Oper} (a b : Operand) (ty : TypeId) (x : List UInt8) (hx : x.length = 32) (ho : o.op = .binOp .eql 109 a b ty) (ha : ρ a = .agg (Value.int .i64 0 :: x.map B).toArray) (hb : ρ b = .agg (Value.int .i64 0 :: x.map B).toArray) (W : World) :
    (execOp ρ o).run Try.prog W = .ok (.value (.bool true)) W := by
  unfold execOp
  simp only [ho, ha, hb, Sem.run_bind, Sem.run_pure, run_eqGuard_agg _ _ _ _ _ _ _ guardPt10, run_eqlPt10 x hx W, Result.andThen_ok]
/-- the three fronts of FrontNil -/
structure FnC (w : World) (gz gg gh : Nat) (pz pg ph : FrV) (W : World) : Prop where
  z : FrO W gz pz
  g : FrO W gg pg
  h : FrO W gh ph
  bel : Below w.heap.size w W
  lz : w.heap.size ≤ gz
  zg : gz < gg
  gh_ : gg < gh
section
variable {w W W' : World} {gz gg gh : Nat} {pz pg ph q : FrV}
theorem FnC.step (c : FnC w gz gg gh pz pg ph W) (hb : Below W.heap.size W W') : FnC w gz gg gh pz pg ph W' := ⟨c.z.step hb, c.g.step hb, c.h.step hb, c.bel.trans (hb.mono c.bel.size), c.lz, c.zg, c.gh_⟩
theorem FnC.onZ (c : FnC w gz gg gh pz pg ph W) (h : FrO W' gz q) (hg : W.grownBy W' (some gz)) : FnC w gz gg gh q pg ph W' := by
  obtain ⟨T, cs, k, hk⟩ := c.z.small
  have := c.lz; have := c.zg; have := c.gh_
  exact ⟨h, c.g.grown hg k (by omega) (by omega), c.h.grown hg k (by omega) (by omega), c.bel.grown hg c.bel.size (fun r e => by cases e; omega), c.lz, c.zg, c.gh_⟩
theorem FnC.onG (c : FnC w gz gg gh pz pg ph W) (h : FrO W' gg q) (hg : W.grownBy W' (some gg)) : FnC w gz gg gh pz q ph W' := by
  obtain ⟨T, cs, k, hk⟩ := c.g.small
  have := c.lz; have := c.zg; have := c.gh_
  exact ⟨c.z.grown hg k (by omega) (by omega), h, c.h.grown hg k (by omega) (by omega), c.bel.grown hg c.bel.size (fun r e => by cases e; omega), c.lz, c.zg, c.gh_⟩
theorem FnC.onH (c : FnC w gz gg gh pz pg ph W) (h : FrO W' gh q) (hg : W.grownBy W' (some gh)) : FnC w gz gg gh pz pg q W' := by
  obtain ⟨T, cs, k, hk⟩ := c.h.small
  have := c.lz; have := c.zg; have := c.gh_
  exact ⟨c.z.grown hg k (by omega) (by omega), c.g.grown hg k (by omega) (by omega), h, c.bel.grown hg c.bel.size (fun r e => by cases e; omega), c.lz, c.zg, c.gh_⟩
end

set_option maxHeartbeats 16000000 in
set_option maxRecDepth 100000 in
theorem frontNil_any (w : World) : Calls Try.prog 12 #[] w fun e w' => e = .returned (.bool true) ∧ Below w.heap.size w w' := by
  obtain ⟨pg, hpg, hpok, hpsz⟩ := fn_from1
  have happ := fn_app pg hpsz
  have hleaf := fn_leaf pg hpsz
  have hnone := fn_none pg hpsz
  have hgr0 := fn_grow0 pg hpsz
  have h63 : fnT.length = 63 := fnT_len
  have hcz : (List.replicate (63 * 32) (0 : UInt8)).map B = hcells fnT := by
    have hfl : List.replicate (63 * 32) (0 : UInt8) = fnT.flatten := by decide +kernel
    rw [hfl, List.map_flatten]
    rfl
  obtain ⟨T, hT⟩ : ∃ x, fnT = x := ⟨_, rfl⟩
  have hT32 : H32 T := by rw [← hT]; exact fnT_32
  rw [hT] at hpg h63 hcz
  obtain ⟨zs, hzs⟩ : ∃ z, List.replicate 4097 (0 : UInt8) = z := ⟨_, rfl⟩
  have hzl : zs.length = 4097 := by rw [← hzs]; exact List.length_replicate
  have hmk := fun W => run_make_u8 W 4097 4097 (Nat.le_refl _) (by decide)
  rw [hzs] at hmk
  have hmh := fun W => run_make_hash W 63 (by decide)
  rw [hcz] at hmh
  have hzz := fn_zeros zs hzl
  obtain ⟨w1, hw1⟩ : ∃ x, w.alloc (.cells #[.slice none 0 0] 107) = x := ⟨_, rfl⟩
  have hz1 : FrO w1 w.heap.size [] := by rw [← hw1]; exact ⟨none, 0, 0, Blk.new _ _ _, Pcs.empty⟩
  have hb1 : Below w.heap.size w w1 := by rw [← hw1]; exact (Below.refl _ _).alloc (Nat.le_refl _) _
  have Hw1 := Lib.hid hw1
  have Hpg := Lib.hid hpg
  have Hpok := Lib.hid hpok
  have Hpsz := Lib.hid hpsz
  have Happ := Lib.hid happ
  have Hleaf := Lib.hid hleaf
  have Hnone := Lib.hid hnone
  have Hgr0 := Lib.hid hgr0
  have H63 := Lib.hid h63
  have HT32 := Lib.hid hT32
  have Hmk := Lib.hid hmk
  have Hmh := Lib.hid hmh
  have Hzz := Lib.hid hzz
  have Hzl := Lib.hid hzl
  have HkA : kA.length = 32 := rfl
  obtain ⟨kAx, hkA⟩ : ∃ x, kA = x := ⟨_, rfl⟩
  rw [hkA] at HkA
  have HKA := Lib.hid hkA
  have hbb0 : ∀ W : World, Below W.heap.size W (W.alloc (.cells #[Value.slice none 0 0] 23)) := fun W => (Below.refl _ _).alloc (Nat.le_refl _) _
  have Hbb0 := Lib.hid hbb0
  clear hw1 hpg hpok hpsz happ hleaf hnone hgr0 h63 hT32 hT hcz hmk hmh hzz hzl hzs hkA hbb0
  go_enter Try.func12, Try.ntmps12
  go_wp2_with (first
    | rw [Hw1.out]
    | ((with_reducible show wpList _ _ _ (⟨some 10, .makeSlice _ _ _, _, _, _, _⟩ :: _) _ _); refine wpList_run rfl (.slice (some ⟨w1.heap.size, 0, none⟩) 63 63) (w1.alloc (.cells (hcells T).toArray 25)) (run_make10_op (.const (.int .i64 63)) (.const (.int .i64 63)) rfl _ _ rfl rfl (Hmh.out w1)) ?_; have sT : Hs (w1.alloc (.cells (hcells T).toArray 25)) (fun _ => True) (some ⟨w1.heap.size, 0, none⟩) 63 63 T := Hs.lit w1 T HT32.out (by rw [H63.out]; decide) 63 H63.out.symm; have hbb : Below w1.heap.size w1 (w1.alloc (.cells (hcells T).toArray 25)) := (Below.refl _ _).alloc (Nat.le_refl _) _; generalize w1.alloc (.cells (hcells T).toArray 25) = w2 at sT hbb ⊢; simp only [Act.put])
    | (go_at_call 41; refine (num10_any _ _).mono ?_; rintro e wn ⟨rfl, hww⟩; obtain rfl := hww.symm))
  have hfr := ffrom_any 9223372036854775807 T (some ⟨w1.heap.size, 0, none⟩) 63 63 w2 sT (by decide)
  rw [Hpg.out] at hfr
  refine hfr.mono ?_
  clear hfr sT
  rintro e w3 ⟨v3, rfl, hO3, hb3⟩
  obtain ⟨gg, rfl, hgg, hG3⟩ := hO3.some'
  have hz3 := (hz1.step hbb).step hb3
  have hb13 := (hb1.trans (hbb.mono hb1.size)).trans (hb3.mono (by have := hb1.size; have := hbb.size; omega))
  have hzlt := hz1.lt
  have hG3 := hG3.fro
  have hgl := hG3.lt
  have hsz2 := hbb.size
  clear hO3 hz1 hb1 hbb hb3
  go_wp2_with (first
    | ((with_reducible show wpList _ _ _ (⟨some 15, .build _ _, _, _, _, _⟩ :: _) _ _); refine wpList_runG (by kernel_rfl) (.agg (zero32.map B).toArray) w3 (by kernel_rfl) ?_; simp only [Act.put])
    | ((with_reducible show wpList _ _ _ (⟨some 16, .buildSlice _ _ _, _, _, _, _⟩ :: _) _ _); refine wpList_run rfl _ _ (run_litH1_op zero32 rfl (.tmp 15) rfl rfl _) ?_; have sT : Hs (w3.alloc (.cells (hcells [zero32]).toArray 25)) (fun _ => True) (some ⟨w3.heap.size, 0, none⟩) 1 1 [zero32] := Hs.lit w3 [zero32] (fun x hx => by rw [List.mem_singleton.1 hx]; rfl) (by decide) 1 rfl; have hbb : Below w3.heap.size w3 (w3.alloc (.cells (hcells [zero32]).toArray 25)) := (Below.refl _ _).alloc (Nat.le_refl _) _; generalize w3.alloc (.cells (hcells [zero32]).toArray 25) = w4 at sT hbb ⊢; simp only [Act.put])
    | (go_at_call 41; refine (num10_any _ _).mono ?_; rintro e wn ⟨rfl, hww⟩; obtain rfl := hww.symm))
  have hfr := ffrom_any 4611686018427387904 [zero32] (some ⟨w3.heap.size, 0, none⟩) 1 1 w4 sT (by decide)
  rw [fn_from2] at hfr
  refine hfr.mono ?_
  clear hfr sT
  rintro e w5 ⟨v5, rfl, hO5, hb5⟩
  obtain ⟨gh, rfl, hgh, hH5⟩ := hO5.some'
  have hsz4 := hbb.size
  have hC : FnC w w.heap.size gg gh [] pg fnH w5 := ⟨(hz3.step hbb).step hb5, (hG3.step hbb).step hb5, hH5.fro, (hb13.trans (hbb.mono hb13.size)).trans (hb5.mono (by have := hb13.size; omega)), Nat.le_refl _, by omega, by omega⟩
  clear hO5 hz3 hG3 hH5 hb13 hbb hb5 hgl hgg hgh hsz4 hsz2
  have hgzv : w.heap.size < w1.heap.size := hzlt
  clear hgzv hzlt
  obtain ⟨gz, hgz⟩ : ∃ x, w.heap.size = x := ⟨_, rfl⟩
  have Hgz := Lib.hid hgz
  rw [hgz] at hC ⊢
  clear hgz
  go_wp2_with (first
    | ((with_reducible show wpList _ _ _ (⟨some 29, .buildSlice _ _ _, _, _, _, _⟩ :: _) _ _); refine wpList_runG (by kernel_rfl) (.slice (some ⟨w5.heap.size, 0, none⟩) 1 1) (w5.alloc (.cells #[Value.slice none 0 0] 23)) (by kernel_rfl) ?_; have sE : Es (w5.alloc (.cells #[Value.slice none 0 0] 23)) (fun _ => True) (some ⟨w5.heap.size, 0, none⟩) 1 1 [[]] := Es.one (w := w5) (x := []) (n := 0) (A := none) (c := 0) (sl_nil10 w5) rfl; replace hC := hC.step (Hbb0.out w5); generalize w5.alloc (.cells #[Value.slice none 0 0] 23) = w5a at sE hC ⊢; simp only [Act.put])
    | (go_at_call 41; refine (num10_any _ _).mono ?_; rintro e wn ⟨rfl, hww⟩; obtain rfl := hww.symm))
  have hcl := fappend_any gg pg [[]] (some ⟨w5.heap.size, 0, none⟩) 1 1 w5a hC.g Hpok.out sE (by decide) (by decide)
  rw [Happ.out] at hcl
  refine hcl.mono ?_
  clear hcl
  rintro e w6 ⟨rfl, hF9, hg9⟩
  replace hC := hC.onG hF9 hg9
  clear hF9 hg9
  go_wp2_with (first
    | ((with_reducible show wpList _ _ _ (⟨some 36, .build _ _, _, _, _, _⟩ :: _) _ _); refine wpList_runG (by kernel_rfl) (.agg (zero32.map B).toArray) w6 (by kernel_rfl) ?_; simp only [Act.put])
    | ((with_reducible show wpList _ _ _ (⟨some 37, .buildSlice _ _ _, _, _, _, _⟩ :: _) _ _); refine wpList_runG (by kernel_rfl) _ _ (run_litH1_op zero32 rfl (.tmp 36) rfl rfl _) ?_; have sT : Hs (w6.alloc (.cells (hcells [zero32]).toArray 25)) (fun _ => True) (some ⟨w6.heap.size, 0, none⟩) 1 1 [zero32] := Hs.lit w6 [zero32] (fun x hx => by rw [List.mem_singleton.1 hx]; rfl) (by decide) 1 rfl; replace hC := hC.step ((Below.refl _ _).alloc (Nat.le_refl _) (.cells (hcells [zero32]).toArray 25)); generalize w6.alloc (.cells (hcells [zero32]).toArray 25) = w6a at sT hC ⊢; simp only [Act.put])
    | (go_at_call 41; refine (num10_any _ _).mono ?_; rintro e wn ⟨rfl, hww⟩; obtain rfl := hww.symm))
  have hcl := fleaf_any gg pg [zero32] (some ⟨w6.heap.size, 0, none⟩) 1 1 w6a hC.g Hpok.out sT (by decide)
  rw [Hleaf.out] at hcl
  refine hcl.mono ?_
  clear hcl
  rintro e w7 ⟨rfl, hF9, hg9⟩
  replace hC := hC.onG hF9 hg9
  clear hF9 hg9
  go_wp2_with (first
    | (go_at_call 41; refine (num10_any _ _).mono ?_; rintro e wn ⟨rfl, hww⟩; obtain rfl := hww.symm))
  have hcl := fappend_any gg pg [] none 0 0 w7 hC.g Hpok.out (es_nil10 _) (by decide) (by simp)
  rw [Hnone.out] at hcl
  refine hcl.mono ?_
  clear hcl
  rintro e w8 ⟨rfl, hF9, hg9⟩
  replace hC := hC.onG hF9 hg9
  clear hF9 hg9
  go_wp2_with (first
    | ((with_reducible show wpList _ _ _ (⟨some 50, .build _ _, _, _, _, _⟩ :: _) _ _); refine wpList_runG (by kernel_rfl) (.agg (zero32.map B).toArray) w8 (by kernel_rfl) ?_; simp only [Act.put])
    | (go_at_call 41; refine (num10_any _ _).mono ?_; rintro e wn ⟨rfl, hww⟩; obtain rfl := hww.symm))
  have hcl := fgrow_any gg pg 0 zero32 w8 hC.g Hpok.out rfl
  rw [Hgr0.out] at hcl
  refine hcl.mono ?_
  clear hcl
  rintro e w9 ⟨rfl, hF9, hg9⟩
  replace hC := hC.onG hF9 hg9
  clear hF9 hg9
  go_wp2_with (first
    | ((with_reducible show wpList _ _ _ (⟨some 66, .build _ _, _, _, _, _⟩ :: _) _ _); refine wpList_runG (by kernel_rfl) (.agg (zero32.map B).toArray) w9 (by kernel_rfl) ?_; simp only [Act.put])
    | (go_at_call 41; refine (num10_any _ _).mono ?_; rintro e wn ⟨rfl, hww⟩; obtain rfl := hww.symm))
  have hcl := fgrow_any gh fnH 62 zero32 w9 hC.h fnH_ok.1 rfl
  rw [fn_grow62] at hcl
  refine hcl.mono ?_
  clear hcl
  rintro e w10 ⟨rfl, hF9, hg9⟩
  replace hC := hC.onH hF9 hg9
  clear hF9 hg9
  go_wp2_with (first
    | ((with_reducible show wpList _ _ _ (⟨some 73, .build _ _, _, _, _, _⟩ :: _) _ _); refine wpList_runG (by kernel_rfl) (.agg (zero32.map B).toArray) w10 (by kernel_rfl) ?_; simp only [Act.put])
    | (go_at_call 41; refine (num10_any _ _).mono ?_; rintro e wn ⟨rfl, hww⟩; obtain rfl := hww.symm))
  have hcl := fgrow_any gh fnH 61 zero32 w10 hC.h fnH_ok.1 rfl
  rw [fn_grow61] at hcl
  refine hcl.mono ?_
  clear hcl
  rintro e w11 ⟨rfl, hF9, hg9⟩
  replace hC := hC.onH hF9 hg9
  clear hF9 hg9
  go_wp2_with (first
    | (go_at_call 41; refine (num10_any _ _).mono ?_; rintro e wn ⟨rfl, hww⟩; obtain rfl := hww.symm))
  have hcl := fsize_some hC.h fnH2_ok (w := w11)
  rw [fnH2_size] at hcl
  refine hcl.mono ?_
  clear hcl
  rintro e w12 ⟨rfl, hb9⟩
  replace hC := hC.step hb9
  clear hb9
  go_wp2_with (first
    | ((with_reducible show wpList _ _ _ (⟨some 84, .buildSlice _ _ _, _, _, _, _⟩ :: _) _ _); obtain ⟨wt, hct, hst, hbt⟩ := byte_text w12 97; refine wpList_run rfl (.slice (some ⟨w12.heap.size, 0, none⟩) 1 1) (w12.alloc (.cells #[B 97] 5)) (by kernel_rfl) ?_; simp only [Act.put])
    | ((with_reducible show wpList _ _ _ (⟨some 85, .convert _ _ _, _, _, _, _⟩ :: _) _ _); refine wpList_run rfl _ wt (run_conv_op 23 23 (.tmp 84) rfl _ rfl hct) ?_; replace hC := hC.step hbt; clear hbt hct; simp only [Act.put])
    | ((with_reducible show wpList _ _ _ (⟨some 86, .buildSlice _ _ _, _, _, _, _⟩ :: _) _ _); refine wpList_run rfl (.slice (some ⟨wt.heap.size, 0, none⟩) 1 1) (wt.alloc (.cells #[.slice (some ⟨w12.heap.size, 0, none⟩) 1 1] 23)) (by kernel_rfl) ?_; obtain ⟨wu, hwu⟩ : ∃ x, wt.alloc (.cells #[.slice (some ⟨w12.heap.size, 0, none⟩) 1 1] 23) = x := ⟨_, rfl⟩; have sE := Es.one hst hwu; replace hC := hC.step (show Below wt.heap.size wt wu by rw [← hwu]; exact (Below.refl _ _).alloc (Nat.le_refl _) _); rw [hwu]; clear hwu hst; simp only [Act.put])
    | (go_at_call 41; refine (num10_any _ _).mono ?_; rintro e wn ⟨rfl, hww⟩; obtain rfl := hww.symm))
  have hcl := fappend_any gz [] [[97]] (some ⟨wt.heap.size, 0, none⟩) 1 1 wu hC.z frOk_nil sE (by decide) (by decide)
  rw [kn_one] at hcl
  refine hcl.mono ?_
  clear hcl
  rintro e w13 ⟨rfl, hF9, hg9⟩
  replace hC := hC.onZ hF9 hg9
  clear hF9 hg9
  go_wp2_with (first
    | (go_at_call 41; refine (num10_any _ _).mono ?_; rintro e wn ⟨rfl, hww⟩; obtain rfl := hww.symm))
  have hcl := fsize_some hC.z kn1_ok (w := w13)
  rw [kn1_size] at hcl
  refine hcl.mono ?_
  clear hcl
  rintro e w14 ⟨rfl, hb9⟩
  replace hC := hC.step hb9
  clear hb9
  go_wp2_with (first
    | (go_at_call 41; refine (num10_any _ _).mono ?_; rintro e wn ⟨rfl, hww⟩; obtain rfl := hww.symm))
  have hcl := froot_any gz kn1 w14 hC.z kn1_ok
  rw [kn1_root, HKA.out] at hcl
  refine hcl.mono ?_
  clear hcl
  rintro e w15 ⟨rfl, hb9⟩
  replace hC := hC.step hb9
  clear hb9
  go_wp2_with (first
    | ((with_reducible show wpList _ _ _ (⟨some 98, .buildSlice _ _ _, _, _, _, _⟩ :: _) _ _); obtain ⟨wt2, hct, hst, hbt⟩ := byte_text w15 97; refine wpList_runG (by kernel_rfl) (.slice (some ⟨w15.heap.size, 0, none⟩) 1 1) (w15.alloc (.cells #[B 97] 5)) (by kernel_rfl) ?_; simp only [Act.put])
    | ((with_reducible show wpList _ _ _ (⟨some 99, .convert _ _ _, _, _, _, _⟩ :: _) _ _); refine wpList_runG (by kernel_rfl) _ wt2 (run_conv_op 23 23 (.tmp 98) rfl _ rfl hct) ?_; replace hC := hC.step hbt; clear hbt hct; simp only [Act.put])
    | (go_at_call 41; refine (num10_any _ _).mono ?_; rintro e wn ⟨rfl, hww⟩; obtain rfl := hww.symm))
  have hcl := hrleaf_any [97] _ 1 1 wt2 hst (by decide)
  rw [show hLeaf [97] = kAx from HKA.out] at hcl
  refine hcl.mono ?_
  clear hcl hst
  rintro e w16 ⟨rfl, hb9⟩
  replace hC := hC.step hb9
  clear hb9
  go_wp2_with (first
    | ((with_reducible show wpList _ _ _ (⟨some 101, .binOp _ _ _ _ _, _, _, _, _⟩ :: _) _ _); refine wpList_runG (by kernel_rfl) (.bool false) _ (run_neq26_f (.tmp 97) (.tmp 100) _ kAx kAx rfl rfl rfl HkA HkA rfl _) ?_; simp only [Act.put])
    | ((with_reducible show wpList _ _ _ (⟨some 105, .makeSlice _ _ _, _, _, _, _⟩ :: _) _ _); refine wpList_runG (by kernel_rfl) (.slice (some ⟨w16.heap.size, 0, none⟩) 4097 4097) (w16.alloc (.cells (zs.map B).toArray 5)) (run_make10_op (.const (.int .i64 4097)) (.const (.int .i64 4097)) rfl _ _ rfl rfl (Hmk.out w16)) ?_; have sz : Sl (w16.alloc (.cells (zs.map B).toArray 5)) (fun _ => True) (some ⟨w16.heap.size, 0, none⟩) 4097 4097 zs := ⟨Bs.new w16 (fun _ => True) 5 (zs.map B) trivial, Hzl.out, Nat.le_refl _, by simp, by decide⟩; replace hC := hC.step ((Below.refl _ _).alloc (Nat.le_refl _) (.cells (zs.map B).toArray 5)); generalize w16.alloc (.cells (zs.map B).toArray 5) = wv at sz hC ⊢; simp only [Act.put])
    | ((with_reducible show wpList _ _ _ (⟨some 106, .buildSlice _ _ _, _, _, _, _⟩ :: _) _ _); refine wpList_runG (by kernel_rfl) (.slice (some ⟨wv.heap.size, 0, none⟩) 1 1) (wv.alloc (.cells #[.slice (some ⟨w16.heap.size, 0, none⟩) 4097 4097] 23)) (by kernel_rfl) ?_; obtain ⟨wu2, hwu⟩ : ∃ x, wv.alloc (.cells #[.slice (some ⟨w16.heap.size, 0, none⟩) 4097 4097] 23) = x := ⟨_, rfl⟩; have sE := Es.one sz hwu; replace hC := hC.step (show Below wv.heap.size wv wu2 by rw [← hwu]; exact (Below.refl _ _).alloc (Nat.le_refl _) _); rw [hwu]; clear hwu sz; simp only [Act.put])
    | (go_at_call 41; refine (num10_any _ _).mono ?_; rintro e wn ⟨rfl, hww⟩; obtain rfl := hww.symm))
  have hcl := fappend_any gz kn1 [zs] (some ⟨wv.heap.size, 0, none⟩) 1 1 wu2 hC.z kn1_ok sE (by decide) (by intro x hx; rw [List.mem_singleton.1 hx, Hzl.out]; decide)
  rw [Hzz.out] at hcl
  refine hcl.mono ?_
  clear hcl
  rintro e w17 ⟨rfl, hF9, hg9⟩
  replace hC := hC.onZ hF9 hg9
  clear hF9 hg9
  go_upto_region 9 with (first
    | (go_at_call 41; refine (num10_any _ _).mono ?_; rintro e wn ⟨rfl, hww⟩; obtain rfl := hww.symm))
  refine wp_region_lit ?_
  simp only [List.append_eq, List.cons_append, List.nil_append]
  go_wp2_with (first
    | (go_at_call 41; refine (num10_any _ _).mono ?_; rintro e wn ⟨rfl, hww⟩; obtain rfl := hww.symm))
  refine (size_o (.pointer none) none w17 (.inl ⟨rfl, rfl⟩ : HasO w17 (.pointer none) none)).mono ?_
  rintro e w18 ⟨rfl, hb9⟩
  replace hC := hC.step hb9
  clear hb9
  go_wp2_with (first
    | (go_at_call 45; refine (root_o (.pointer none) none w18 (.inl ⟨rfl, rfl⟩ : HasO w18 (.pointer none) none)).mono ?_; rintro e w19 ⟨rfl, hb9⟩; replace hC := hC.step hb9; clear hb9)
    | ((with_reducible show wpList _ _ _ (⟨some 117, .build _ _, _, _, _, _⟩ :: _) _ _); refine wpList_runG (by kernel_rfl) (.agg (zero32.map B).toArray) w19 (by kernel_rfl) ?_; simp only [Act.put])
    | ((with_reducible show wpList _ _ _ (⟨some 118, .binOp _ _ _ _ _, _, _, _, _⟩ :: _) _ _); refine wpList_runG (by kernel_rfl) (.bool true) _ (run_eql26_t (.tmp 116) (.tmp 117) _ zero32 zero32 rfl rfl rfl rfl rfl rfl _) ?_; simp only [Act.put])
    | (go_at_call 67; refine (point_o (.pointer none) none w19 (.inl ⟨rfl, rfl⟩ : HasO w19 (.pointer none) none)).mono ?_; rintro e w20 ⟨rfl, hb9⟩; replace hC := hC.step hb9; clear hb9)
    | ((with_reducible show wpList _ _ _ (⟨some 123, .build _ _, _, _, _, _⟩ :: _) _ _); refine wpList_runG (by kernel_rfl) (.agg (Value.int .i64 0 :: zero32.map B).toArray) w20 (by kernel_rfl) ?_; simp only [Act.put])
    | ((with_reducible show wpList _ _ _ (⟨some 124, .binOp _ _ _ _ _, _, _, _, _⟩ :: _) _ _); refine wpList_runG (by kernel_rfl) (.bool true) _ (run_eqlPt10_op (.tmp 122) (.tmp 123) _ zero32 rfl rfl rfl rfl _) ?_; simp only [Act.put])
    | (go_at_call 41; refine (num10_any _ _).mono ?_; rintro e wn ⟨rfl, hww⟩; obtain rfl := hww.symm))
  refine (parts_o (.pointer none) none w20 (.inl ⟨rfl, rfl⟩ : HasO w20 (.pointer none) none)).mono ?_
  rintro e w21 ⟨v9, rfl, ho9, hb9⟩
  obtain ⟨A9, c9, rfl, -⟩ := owns_slv ho9
  clear ho9
  replace hC := hC.step hb9
  clear hb9
  go_wp2_with (first
    | (go_at_call 41; refine (num10_any _ _).mono ?_; rintro e wn ⟨rfl, hww⟩; obtain rfl := hww.symm))
  refine (bytes_o (.pointer none) none w21 (.inl ⟨rfl, rfl⟩ : HasO w21 (.pointer none) none)).mono ?_
  rintro e w22 ⟨v8, rfl, ho8⟩
  have hb9 := ho8.2
  obtain ⟨A8, c8, rfl, -⟩ := ho8.slE
  clear ho8
  replace hC := hC.step hb9
  clear hb9
  go_wp2_with (first
    | (go_at_call 41; refine (num10_any _ _).mono ?_; rintro e wn ⟨rfl, hww⟩; obtain rfl := hww.symm))
  refine (fcopy_nil w22).mono ?_
  rintro e wn ⟨rfl, hww⟩
  obtain rfl := hww.symm
  clear hww
  go_wp2_with (first
    | (go_at_call 41; refine (num10_any _ _).mono ?_; rintro e wn ⟨rfl, hww⟩; obtain rfl := hww.symm))
  refine (fsame_nilL (.pointer none) w22 (.inl rfl)).mono ?_
  rintro e wn ⟨rfl, hww⟩
  obtain rfl := hww.symm
  clear hww
  go_wp2_with (first
    | (go_at_call 41; refine (num10_any _ _).mono ?_; rintro e wn ⟨rfl, hww⟩; obtain rfl := hww.symm))
  refine (fsame_nilR gz w22).mono ?_
  rintro e wn ⟨rfl, hww⟩
  obtain rfl := hww.symm
  clear hww
  go_wp2_with (first
    | (go_at_call 41; refine (num10_any _ _).mono ?_; rintro e wn ⟨rfl, hww⟩; obtain rfl := hww.symm))
  refine (fappend_nil none 0 0 w22).mono ?_
  rintro e wn ⟨rfl, hww⟩
  obtain rfl := hww.symm
  clear hww
  go_wp2_with (first
    | (go_at_call 41; refine (num10_any _ _).mono ?_; rintro e wn ⟨rfl, hww⟩; obtain rfl := hww.symm))
  refine (fleaf_nil none 0 0 w22).mono ?_
  rintro e wn ⟨rfl, hww⟩
  obtain rfl := hww.symm
  clear hww
  go_wp2_with (first
    | ((with_reducible show wpList _ _ _ (⟨some 169, .build _ _, _, _, _, _⟩ :: _) _ _); refine wpList_runG (by kernel_rfl) (.agg (zero32.map B).toArray) w22 (by kernel_rfl) ?_; simp only [Act.put])
    | (go_at_call 41; refine (num10_any _ _).mono ?_; rintro e wn ⟨rfl, hww⟩; obtain rfl := hww.symm))
  refine (fgrow_nil 0 zero32 w22).mono ?_
  rintro e w23 ⟨rfl, hb9⟩
  replace hC := hC.step hb9
  clear hb9
  go_wp2_with (first
    | (go_at_call 41; refine (num10_any _ _).mono ?_; rintro e wn ⟨rfl, hww⟩; obtain rfl := hww.symm))
  refine (goes_any (.pointer none) (.pointer none) none 0 w23 (.inl ⟨rfl, rfl⟩) (.inl ⟨rfl, rfl⟩)).mono ?_
  rintro e w24 ⟨rfl, hb9⟩
  replace hC := hC.step hb9
  clear hb9
  go_wp2_with (first
    | (go_at_call 41; refine (num10_any _ _).mono ?_; rintro e wn ⟨rfl, hww⟩; obtain rfl := hww.symm))
  refine (known10_any w24).mono ?_
  rintro e w25 ⟨rfl, hb9⟩
  replace hC := hC.step hb9
  clear hb9
  go_wp2_with (first
    | (go_at_call 41; refine (num10_any _ _).mono ?_; rintro e wn ⟨rfl, hww⟩; obtain rfl := hww.symm))
  go_ret
  exact ⟨rfl, Hgz.out ▸ hC.bel⟩
end Go.Proofs.Ytonidnfgneokbaa
