import Derived.Test.YtdjhoankkddomaaGreatQg245
import Derived.Test.YtdjhoankkddomaaGreatQg224
import Derived.Test.YtdjhoankkddomaaGreatQg225
import Derived.Test.YtdjhoankkddomaaGreatQg215
import Derived.Test.YtdjhoankkddomaaGreatQg244
namespace Go.Proofs.YtdjhoankkddomaaGreat
open Go Go.RowKit Go.Shelf
attribute [local go_sem] Oper.semAt_some
set_option maxHeartbeats 1000000 in
theorem mreadO_any (Z:Nat→Prop) (lo g:Nat) (R:MdR) (m:MoV) (W:World) (h:Md Z lo g R m W) (k:Nat) (hk:k<m.ents.length) :
  Calls Tryz.prog 16 #[.pointer (some ⟨g,0,none⟩),.int .i64 (k:Int)] W fun e w'=>∃ v,e = .returned (.tuple #[v,.int .i64 0])∧Fresh W w' v (m.ents.getD k []):=by
 have hno:=mnone_any h
 have hsz:=msize_any h
 obtain ⟨A,c,hve,hes⟩:=h.ents.es
 have hr:=hes.room
 have hm:=hes.max
 unfold maxLen at hm
 obtain ⟨b,o,rfl,-,-,hat⟩:=hes.at_ (by omega)
 obtain ⟨Ak,ck,ce,hsk⟩:=hat k hk
 have hbig:(m.ents.getD k []).length≤1099511627776:=h.big _ (by rw [List.getD_eq_getElem?_getD,List.getElem?_eq_getElem hk];exact List.getElem_mem hk)
 obtain ⟨l,hl⟩:∃ x,m.ents.getD k []=x:=⟨_,rfl⟩
 rw [hl] at ce hsk hbig ⊢
 obtain ⟨N,hN⟩:∃ x,m.ents.length=x:=⟨_,rfl⟩
 rw [hN] at hve hk hr hsz
 have c0:W.cell? ⟨g,0,none⟩=some (.slice (some ⟨b,o,none⟩) N c):=(h.cell 0 (by decide)).trans (congrArg some hve)
 have d1:decide ((k:Int)<0)=false:=by simp
 have d2:decide ((N:Int)≤(k:Int))=false:=by simp;omega
 have hcl:=bcloneO_any l Ak l.length ck W hsk hbig
 have Hcl:=Lib.hid hcl
 have hrk:=hsk.room
 have hmk:=hsk.max
 unfold maxLen at hmk
 clear h hve hes hat hl hN hcl hsk
 go_enter Tryz.func16,Tryz.ntmps16
 go_wp2_with (first
  | (go_at_call 51;refine hno.mono ?_;rintro e w' ⟨rfl,hw⟩;obtain rfl:=hw.symm)
  | (go_at_call 32;refine hsz.mono ?_;rintro e w' ⟨rfl,hw⟩;obtain rfl:=hw.symm)
  | (go_at_call 46;refine Hcl.out.mono ?_;rintro e w9 ⟨v,rfl,hf9⟩))
 go_ret2
 exact ⟨v,rfl,hf9⟩
def inR (m:MoV) (n:Int):Bool:=decide (0≤n)&&decide (n<(m.ents.length:Int))
def rdL (m:MoV) (n:Int):List UInt8:=if inR m n then m.ents.getD n.toNat [] else []
theorem mreadU_any (Z:Nat→Prop) (lo g:Nat) (R:MdR) (m:MoV) (W:World) (h:Md Z lo g R m W) (n:Int) :
  Calls Tryz.prog 16 #[.pointer (some ⟨g,0,none⟩),.int .i64 n] W fun e w'=>∃ v,e = .returned (.tuple #[v,.int .i64 (if inR m n then 0 else 4)])∧Fresh W w' v (rdL m n):=by
 by_cases hi:inR m n=true
 ·unfold rdL
  rw [if_pos hi,if_pos hi]
  unfold inR at hi
  simp only [Bool.and_eq_true,decide_eq_true_eq] at hi
  have:=mreadO_any Z lo g R m W h n.toNat (by omega)
  rw [Int.toNat_of_nonneg hi.1] at this
  exact this
 ·unfold rdL
  rw [if_neg hi,if_neg hi]
  unfold inR at hi
  simp only [Bool.and_eq_true,decide_eq_true_eq] at hi
  refine (mread_out Z lo g R m W h n (by omega)).mono ?_
  rintro e w' ⟨rfl,hw⟩
  obtain rfl:=hw.symm
  exact ⟨_,rfl,World.ownsRow_nil _ _ _ _,Below.refl _ _⟩
theorem eql_allm_nil (g1 g2:Nat) (W:World):(binOp .eql 91 (.func (.func 64) #[] #[.pointer (some ⟨g1,0,none⟩),.pointer (some ⟨g2,0,none⟩)]) .nilFunc).run Tryz.prog W = .ok (.bool false) W:=by
 kernel_rfl
theorem results_cbT {fn:Func} {p:Tmp} (h:fn.results=#[.cell p 4]) (tmps:Array Value) (w:World) (g:Nat) (b:Bool) (hp:tmps.getD p undef = .pointer (some ⟨g,0,none⟩)) (hg:Blk w g 4 #[.bool b]) :
  (results fn tmps).run Tryz.prog w = .ok (.bool b) w:=by
 have hp':tmps[p]?.getD undef = .pointer (some ⟨g,0,none⟩):=by simpa using hp
 have hc:w.cell? ⟨g,0,none⟩=some (.bool b):=by rw [hg.cell];rfl
 have hagg:∀ w:World,(isAgg 4).run Tryz.prog w = .ok false w:=fun _=>by kernel_rfl
 simp [results,h,hp',asAddr,loadVar,hagg,hc,go_sem]
structure TdR (w8:World) (gT gk t:Nat) (ds:List Nat) (p:Nat) (W:World):Prop where
 bel:Below w8.heap.size w8 W
 bT:Blk W gT 3 #[.int .i64 (t:Int)]
 bk:Blk W gk 2 #[.int .i64 (p:Int)]
 mks:MarksOk w8.heap.size ds W
 zT:w8.heap.size≤gT
 tk:gT<gk
section
variable {w8 W W':World} {gT gk t p B:Nat} {ds:List Nat}
theorem TdR.step (h:TdR w8 gT gk t ds p W) (hb:Below W.heap.size W W'):TdR w8 gT gk t ds p W':=⟨h.bel.trans (hb.mono h.bel.size),h.bT.step hb,h.bk.step hb,h.mks.step hb,h.zT,h.tk⟩
theorem TdR.own (hB:gk<B) (hd:∀ D ∈ ds,D<B) (f:Nat→Nat):OwnFrom B (fun k W=>TdR w8 gT gk t ds (f k) W):=fun k X Y row h hg hr=>by
 have h1:=h.zT
 have h2:=h.tk
 have hne:∀ g,g<B→some g≠row:=fun g hg e=>by have:=(hr g e.symm).1;omega
 exact ⟨h.bel.grown hg h.bel.size (fun r e=>by have:=(hr r e).1;omega),h.bT.grown hg (hne _ (by omega)),h.bk.grown hg (hne _ hB),h.mks.grown hg (fun D hD=>hne _ (hd D hD)),h1,h2⟩
theorem TdR.setk (h:TdR w8 gT gk t ds p W) (p':Nat):TdR w8 gT gk t ds p' (W.setCell ⟨gk,0,none⟩ (.int .i64 (p':Int))):=by
 have h1:=h.zT
 have h2:=h.tk
 exact ⟨h.bel.grown (grownBy_setCell' W gk _) h.bel.size (fun r e=>by cases e;omega),h.bT.apart (by omega) _,h.bk.set_ 0 _,h.mks.cell h.bk _,h1,h2⟩
theorem TdR.far (h:TdR w8 gT gk t ds p W) {g i:Nat} {u:Value} (hg:gk<g) (hd:∀ D ∈ ds,D≠g):TdR w8 gT gk t ds p (W.setCell ⟨g,i,none⟩ u):=by
 have h1:=h.zT
 have h2:=h.tk
 have hgr:W.grownBy (W.setCell ⟨g,i,none⟩ u) (some g):=grown_setCell (World.grownBy.refl _ _) i u
 exact ⟨h.bel.grown hgr h.bel.size (fun r e=>by cases e;omega),h.bT.apart (by omega) _,h.bk.apart (by omega) _,h.mks.grown hgr (fun D hD e=>hd D hD (Option.some.inj e)),h1,h2⟩
end
set_option maxHeartbeats 16000000 in
set_option maxRecDepth 100000 in
theorem told_any (Z : Nat → Prop) (lo g : Nat) (R : MdR) (m : MoV) (W : World) (h : Md Z lo g R m W) (Z2 : Nat → Prop) (gx : Nat) (Rx : XdR) (hx : Xd Z2 gx Rx m W) (fr : Int) (hn : m.ents.length ≤ 100000) (hfr : fr ≤ 9223372036854775807) :
    Calls Tryz.prog 9 #[.pointer (some ⟨g, 0, none⟩), .pointer (some ⟨gx, 0, none⟩), .int .i64 fr] W fun e w' => e = .returned (.bool true) ∧ Below W.heap.size W w' := by
  obtain ⟨w1, hw1⟩ : ∃ x, W.alloc (.cells #[.pointer (some ⟨gx, 0, none⟩)] 28) = x := ⟨_, rfl⟩
  obtain ⟨w2, hw2⟩ : ∃ x, w1.alloc (.cells #[.bool false] 4) = x := ⟨_, rfl⟩
  have hb1 : Below W.heap.size W w1 := by rw [← hw1]; exact (Below.refl _ _).alloc (Nat.le_refl _) _
  have hb2 : Below w1.heap.size w1 w2 := by rw [← hw2]; exact (Below.refl _ _).alloc (Nat.le_refl _) _
  have k4 : Blk w2 W.heap.size 28 #[.pointer (some ⟨gx, 0, none⟩)] := Blk.step (by rw [← hw1]; exact Blk.new _ _ _) hb2
  have k6 : Blk w2 w1.heap.size 4 #[.bool false] := by rw [← hw2]; exact Blk.new _ _ _
  have B2 := hb1.trans (hb2.mono hb1.size)
  have h2 := h.step B2
  have x2 := hx.step B2
  have hs1 := hb1.size
  have hla := mlast_any h2
  have lastL := h.lastL
  have hbg := h.big
  have HBg := Lib.hid hbg
  clear hbg
  have Hw1 := Lib.hid hw1
  have Hw2 := Lib.hid hw2
  have Hla := Lib.hid hla
  have H2 := Lib.hid h2
  have X2 := Lib.hid x2
  clear hw1 hw2 hla h hx h2 x2 hb1 hb2
  refine (callsIn_wide (n := 5)).1 ?_
  refine callsIn_of_wp_marks Tryz.func9 rfl trivial ?_ rfl
  simp only [Tryz.ntmps9, List.size_toArray, List.length_cons, List.length_nil, Nat.reduceAdd, Nat.reduceSub, Array.replicate_succ, Array.replicate_zero, List.push_toArray, List.append_toArray, List.nil_append, List.cons_append]
  refine wpIn_wide.2 ?_
  go_wp2_with (first | rw [Hw1.out] | rw [Hw2.out])
  refine Hla.out.mono ?_
  rintro e w3 ⟨rfl, b3⟩
  go_upto_region 2 with ((with_reducible show wpList _ _ _ (⟨some 7, .alloc _, _, _, _, _⟩ :: _) _ _); refine wpList_pnv (n := m.lastS) (l := m.lastR) (.tmp 7) (.tmp 21) rfl rfl rfl rfl rfl rfl lastL ?_; intro w4 p7 b4; simp only [Act.put, List.setIfInBounds_toArray, List.set_cons_succ, List.set_cons_zero])
  have h4 := (H2.out.step b3).step b4
  have x4 := (X2.out.step b3).step b4
  have k44 := (k4.step b3).step b4
  have k64 := (k6.step b3).step b4
  have B4 := (B2.trans (b3.mono B2.size)).trans (b4.mono (Nat.le_trans B2.size b3.size))
  obtain ⟨Aq, cq, hqe, hqs⟩ := x4.queue
  have hrq := hqs.room
  have hmq := hqs.max
  unfold maxLen at hmq
  have f1 : ∀ V, Below w4.heap.size w4 V → Calls Tryz.prog 32 #[.pointer (some ⟨g, 0, none⟩)] V fun e w' => e = .returned (.int .i64 (m.ents.length : Int)) ∧ w' = V := fun V hb => msize_any (h4.step hb)
  have f2 : ∀ V, Below w4.heap.size w4 V → Calls Tryz.prog 8 #[.pointer (some ⟨gx, 0, none⟩)] V fun e w' => e = .returned (.int .i64 (m.ents.length : Int)) ∧ w' = V := fun V hb => xsize_any (x4.step hb)
  have f3 : ∀ V, Below w4.heap.size w4 V → Calls Tryz.prog 33 #[.pointer (some ⟨g, 0, none⟩)] V fun e w' => e = .returned (.int .i64 (m.queue.length : Int)) ∧ w' = V := fun V hb => mwait_any (h4.step hb)
  have f4 : ∀ V, Below w4.heap.size w4 V → Calls Tryz.prog 34 #[.pointer (some ⟨g, 0, none⟩)] V fun e w' => e = .returned (.agg #[.int .i64 m.seg, .int .i64 m.cap]) ∧ Below V.heap.size V w' := fun V hb => mjob_any (h4.step hb)
  have f5 : ∀ V, Below w4.heap.size w4 V → Calls Tryz.prog 35 #[.pointer (some ⟨g, 0, none⟩)] V fun e w' => e = .returned (.bool m.only) ∧ w' = V := fun V hb => monly_any (h4.step hb)
  have l7 : ∀ s : InC (fun V => Below w4.heap.size w4 V), (Instr.loadAt 55 (.pointer (some ⟨w3.heap.size, 0, none⟩))).run Tryz.prog s.W = .ok (.agg (.int .i64 m.lastS :: m.lastR.map B).toArray) s.W := fun s => (p7.step s.ok).load
  have lx : ∀ s : InC (fun V => Below w4.heap.size w4 V), (Instr.loadAt 55 (.pointer (some ⟨gx, 5, none⟩))).run Tryz.prog s.W = .ok (.agg (.int .i64 m.lastS :: m.lastR.map B).toArray) s.W := fun s => (x4.step s.ok).loadLast
  have lj : ∀ s : InC (fun V => Below w4.heap.size w4 V), (Instr.loadAt 23 (.pointer (some ⟨gx, 0, none⟩))).run Tryz.prog s.W = .ok (.agg #[.int .i64 m.seg, .int .i64 m.cap]) s.W := fun s => (x4.step s.ok).loadJob
  have c4 : ∀ s : InC (fun V => Below w4.heap.size w4 V), s.W.cell? ⟨W.heap.size, 0, none⟩ = some (.pointer (some ⟨gx, 0, none⟩)) := fun s => by rw [(k44.step s.ok).cell]; rfl
  have c3 : ∀ s : InC (fun V => Below w4.heap.size w4 V), s.W.cell? ⟨gx, 3, none⟩ = some (.slice Aq m.queue.length cq) := fun s => ((x4.step s.ok).cell 3 (by decide)).trans (congrArg some hqe)
  have cH : ∀ s : InC (fun V => Below w4.heap.size w4 V), s.W.cell? ⟨gx, 4, none⟩ = some (.bool m.has) := fun s => (x4.step s.ok).cell 4 (by decide)
  have cO : ∀ s : InC (fun V => Below w4.heap.size w4 V), s.W.cell? ⟨gx, 73, none⟩ = some (.bool m.only) := fun s => (x4.step s.ok).cell 73 (by decide)
  have F1 := Lib.hid f1
  have F2 := Lib.hid f2
  have F3 := Lib.hid f3
  have F4 := Lib.hid f4
  have F5 := Lib.hid f5
  have L7 := Lib.hid l7
  have Lx := Lib.hid lx
  have Lj := Lib.hid lj
  have H4 := Lib.hid h4
  have X4 := Lib.hid x4
  have K44 := Lib.hid k44
  have K64 := Lib.hid k64
  have hS : Below w4.heap.size w4 w4.drew := (Below.refl _ _).drew
  clear f1 f2 f3 f4 f5 l7 lx lj h4 x4 k44 k64 k4 k6 hqe hqs p7 b3 b4 B2 H2 X2 Hla
  refine wp_region_mix (fun W => Below w4.heap.size w4 W) [(0, true), (1, true), (2, true), (3, true), (4, true), (5, true), (6, true), (7, true), (8, true), (9, true), (10, true), (11, true), (12, true), (13, true), (14, true), (15, true), (17, true), (16, false), (18, false), (19, true), (20, true), (21, true), (22, true), (24, true), (25, true), (26, true), (27, true), (28, true), (23, false), (29, true), (30, true), (31, true), (32, true), (34, true), (35, true), (36, true), (37, true), (33, false), (38, true), (39, true), (40, true), (41, true), (43, true), (44, true), (45, true), (46, true), (42, false), (47, true), (48, true)] (by kernel_rfl) (by kernel_rfl) hS fun _ => ?_
  simp only [List.map_cons, List.map_nil, Array.getD_eq_getD_getElem?, List.getElem?_toArray, List.getElem?_cons_succ, List.getElem?_cons_zero, Option.getD_some]
  generalize w4.drew = Z4 at hS ⊢
  refine wpMix_load (by kernel_rfl) 55 (.tmp 7) rfl (w3.heap.size) (0) rfl (.int .i64 m.lastS :: m.lastR.map B).toArray (L7.out) ?_
  simp only [Act.put, List.setIfInBounds_toArray, List.set_cons_succ, List.set_cons_zero]
  iterate 3 (refine wpMix_s (fun K hK => ?_); go_simp; refine hK _ ?_; clear hK K)
  refine wpMix_load (by kernel_rfl) 55 (.tmp 26) rfl (gx) (5) rfl (.int .i64 m.lastS :: m.lastR.map B).toArray (Lx.out) ?_
  simp only [Act.put, List.setIfInBounds_toArray, List.set_cons_succ, List.set_cons_zero]
  refine wpMix_v (by kernel_rfl) (.bool false) (fun s => neqPt_self (.tmp 23) (.tmp 27) _ m.lastS m.lastR rfl rfl rfl lastL s.W) ?_
  simp only [Act.put, List.setIfInBounds_toArray, List.set_cons_succ, List.set_cons_zero]
  iterate 11 (refine wpMix_s (fun K hK => ?_); go_simp; refine hK _ ?_; clear hK K)
  refine wpMix_c (fun K hK => ?_) hS
  go_simp
  refine (F1.out Z4 hS).mono ?_
  rintro e Z4e ⟨rfl, hww⟩
  obtain rfl := hww.symm
  refine hK _ _ ?_
  clear hK K
  refine ⟨hS, ?_⟩
  refine wpMix_c (fun K hK => ?_) hS
  go_simp
  refine (F2.out Z4 hS).mono ?_
  rintro e Z4e ⟨rfl, hww⟩
  obtain rfl := hww.symm
  refine hK _ _ ?_
  clear hK K
  refine ⟨hS, ?_⟩
  iterate 9 (refine wpMix_s (fun K hK => ?_); go_simp; refine hK _ ?_; clear hK K)
  refine wpMix_c (fun K hK => ?_) hS
  go_simp
  refine (F3.out Z4 hS).mono ?_
  rintro e Z4e ⟨rfl, hww⟩
  obtain rfl := hww.symm
  refine hK _ _ ?_
  clear hK K
  refine ⟨hS, ?_⟩
  iterate 7 (refine wpMix_s (fun K hK => ?_); go_simp; refine hK _ ?_; clear hK K)
  refine wpMix_load (by kernel_rfl) 23 (.tmp 59) rfl (gx) (0) rfl #[.int .i64 m.seg, .int .i64 m.cap] (Lj.out) ?_
  simp only [Act.put, List.setIfInBounds_toArray, List.set_cons_succ, List.set_cons_zero]
  refine wpMix_c (fun K hK => ?_) hS
  go_simp
  refine (F4.out Z4 hS).mono ?_
  rintro e Z4_1 ⟨rfl, hb'⟩
  refine hK _ _ ?_
  clear hK K
  replace hS := hS.trans (hb'.mono hS.size)
  refine ⟨hS, ?_⟩
  clear hb'
  refine wpMix_v (by kernel_rfl) (.bool false) (fun s => run_neqCf_f (.tmp 56) (.tmp 60) _ m.seg m.cap rfl rfl rfl s.W) ?_
  simp only [Act.put, List.setIfInBounds_toArray, List.set_cons_succ, List.set_cons_zero]
  iterate 7 (refine wpMix_s (fun K hK => ?_); go_simp; refine hK _ ?_; clear hK K)
  refine wpMix_c (fun K hK => ?_) hS
  go_simp
  refine (F5.out Z4_1 hS).mono ?_
  rintro e Z4e ⟨rfl, hww⟩
  obtain rfl := hww.symm
  refine hK _ _ ?_
  clear hK K
  refine ⟨hS, ?_⟩
  iterate 2 (refine wpMix_s (fun K hK => ?_); go_simp; refine hK _ ?_; clear hK K)
  refine wpMix_nil ?_
  intro _
  have h5 := H4.out.step hS
  have x5 := X4.out.step hS
  have k45 := K44.out.step hS
  have k65 := K64.out.step hS
  have B5 := B4.trans (hS.mono B4.size)
  have hrd := mreadU_any Z lo g R m Z4_1 h5 fr
  obtain ⟨er, her⟩ : ∃ x : Int, (if inR m fr then 0 else 4) = x := ⟨_, rfl⟩
  rw [her] at hrd
  have Hrd := Lib.hid hrd
  have H5 := Lib.hid h5
  have X5 := Lib.hid x5
  have K45 := Lib.hid k45
  have K65 := Lib.hid k65
  have Her := Lib.hid her
  clear hrd h5 x5 k45 k65 her hS H4 X4 K44 K64 F1 F2 F3 F4 F5 L7 Lx Lj c4 c3 cH cO B4 hrq hmq
  go_wp2_with fail
  refine Hrd.out.mono ?_
  rintro e w6 ⟨v, rfl, ho6, b6⟩
  obtain ⟨wR, hwR⟩ : ∃ x, Z4_1 = x := ⟨_, rfl⟩
  rw [hwR] at ho6 b6 H5 X5 K45 K65 B5
  clear hwR Hrd
  obtain ⟨Av, cv, hve, hsv⟩ := owns_sl ho6
  obtain ⟨lv, hlv⟩ : ∃ x, rdL m fr = x := ⟨_, rfl⟩
  rw [hlv] at ho6 hve hsv
  have Hlv := Lib.hid hlv
  clear hlv
  obtain ⟨nv, hnv⟩ : ∃ x, lv.length = x := ⟨_, rfl⟩
  rw [hnv] at ho6 hve hsv
  have Hnv := Lib.hid hnv
  clear hnv
  subst hve
  have hrv := hsv.room
  have hmv := hsv.max
  unfold maxLen at hmv
  have hO6 : OwnAny w6 wR.heap.size (.slice Av nv cv) nv := ⟨_, ho6⟩
  clear ho6
  go_upto_region 5 with fail
  rename_i Kc hc K0 h0
  have key : ∀ (a : Act) (V : World), a = { tmps := #[.pointer (some ⟨g, 0, none⟩), (fun j => a.tmps.toList.getD j undef) 1, .int .i64 fr, (fun j => a.tmps.toList.getD j undef) 3, .pointer (some ⟨W.heap.size, 0, none⟩), (fun j => a.tmps.toList.getD j undef) 5, .pointer (some ⟨w1.heap.size, 0, none⟩), (fun j => a.tmps.toList.getD j undef) 7, (fun j => a.tmps.toList.getD j undef) 8, .slice Av nv cv, (fun j => a.tmps.toList.getD j undef) 10, (fun j => a.tmps.toList.getD j undef) 11, (fun j => a.tmps.toList.getD j undef) 12, (fun j => a.tmps.toList.getD j undef) 13, (fun j => a.tmps.toList.getD j undef) 14, (fun j => a.tmps.toList.getD j undef) 15, (fun j => a.tmps.toList.getD j undef) 16, (fun j => a.tmps.toList.getD j undef) 17, (fun j => a.tmps.toList.getD j undef) 18, (fun j => a.tmps.toList.getD j undef) 19, (fun j => a.tmps.toList.getD j undef) 20, (fun j => a.tmps.toList.getD j undef) 21, (fun j => a.tmps.toList.getD j undef) 22, (fun j => a.tmps.toList.getD j undef) 23, (fun j => a.tmps.toList.getD j undef) 24, (fun j => a.tmps.toList.getD j undef) 25, (fun j => a.tmps.toList.getD j undef) 26, (fun j => a.tmps.toList.getD j undef) 27, (fun j => a.tmps.toList.getD j undef) 28, (fun j => a.tmps.toList.getD j undef) 29, (fun j => a.tmps.toList.getD j undef) 30, (fun j => a.tmps.toList.getD j undef) 31, (fun j => a.tmps.toList.getD j undef) 32, (fun j => a.tmps.toList.getD j undef) 33, (fun j => a.tmps.toList.getD j undef) 34, (fun j => a.tmps.toList.getD j undef) 35, (fun j => a.tmps.toList.getD j undef) 36, (fun j => a.tmps.toList.getD j undef) 37, (fun j => a.tmps.toList.getD j undef) 38, (fun j => a.tmps.toList.getD j undef) 39, (fun j => a.tmps.toList.getD j undef) 40, (fun j => a.tmps.toList.getD j undef) 41, (fun j => a.tmps.toList.getD j undef) 42, (fun j => a.tmps.toList.getD j undef) 43, (fun j => a.tmps.toList.getD j undef) 44, (fun j => a.tmps.toList.getD j undef) 45, (fun j => a.tmps.toList.getD j undef) 46, (fun j => a.tmps.toList.getD j undef) 47, (fun j => a.tmps.toList.getD j undef) 48, (fun j => a.tmps.toList.getD j undef) 49, (fun j => a.tmps.toList.getD j undef) 50, (fun j => a.tmps.toList.getD j undef) 51, (fun j => a.tmps.toList.getD j undef) 52, (fun j => a.tmps.toList.getD j undef) 53, (fun j => a.tmps.toList.getD j undef) 54, (fun j => a.tmps.toList.getD j undef) 55, (fun j => a.tmps.toList.getD j undef) 56, (fun j => a.tmps.toList.getD j undef) 57, (fun j => a.tmps.toList.getD j undef) 58, (fun j => a.tmps.toList.getD j undef) 59, (fun j => a.tmps.toList.getD j undef) 60, (fun j => a.tmps.toList.getD j undef) 61, (fun j => a.tmps.toList.getD j undef) 62, (fun j => a.tmps.toList.getD j undef) 63, (fun j => a.tmps.toList.getD j undef) 64, (fun j => a.tmps.toList.getD j undef) 65, (fun j => a.tmps.toList.getD j undef) 66, (fun j => a.tmps.toList.getD j undef) 67, (fun j => a.tmps.toList.getD j undef) 68, (fun j => a.tmps.toList.getD j undef) 69, (fun j => a.tmps.toList.getD j undef) 70, (fun j => a.tmps.toList.getD j undef) 71, (fun j => a.tmps.toList.getD j undef) 72, (fun j => a.tmps.toList.getD j undef) 73, (fun j => a.tmps.toList.getD j undef) 74, (fun j => a.tmps.toList.getD j undef) 75, (fun j => a.tmps.toList.getD j undef) 76, (fun j => a.tmps.toList.getD j undef) 77, (fun j => a.tmps.toList.getD j undef) 78, (fun j => a.tmps.toList.getD j undef) 79, (fun j => a.tmps.toList.getD j undef) 80, (fun j => a.tmps.toList.getD j undef) 81, (fun j => a.tmps.toList.getD j undef) 82, (fun j => a.tmps.toList.getD j undef) 83, (fun j => a.tmps.toList.getD j undef) 84, (fun j => a.tmps.toList.getD j undef) 85, (fun j => a.tmps.toList.getD j undef) 86, (fun j => a.tmps.toList.getD j undef) 87, (fun j => a.tmps.toList.getD j undef) 88, (fun j => a.tmps.toList.getD j undef) 89, (fun j => a.tmps.toList.getD j undef) 90, (fun j => a.tmps.toList.getD j undef) 91, (fun j => a.tmps.toList.getD j undef) 92, (fun j => a.tmps.toList.getD j undef) 93, (fun j => a.tmps.toList.getD j undef) 94, (fun j => a.tmps.toList.getD j undef) 95, (fun j => a.tmps.toList.getD j undef) 96, (fun j => a.tmps.toList.getD j undef) 97, (fun j => a.tmps.toList.getD j undef) 98, (fun j => a.tmps.toList.getD j undef) 99, (fun j => a.tmps.toList.getD j undef) 100, (fun j => a.tmps.toList.getD j undef) 101, (fun j => a.tmps.toList.getD j undef) 102, (fun j => a.tmps.toList.getD j undef) 103, (fun j => a.tmps.toList.getD j undef) 104, (fun j => a.tmps.toList.getD j undef) 105, (fun j => a.tmps.toList.getD j undef) 106, (fun j => a.tmps.toList.getD j undef) 107, (fun j => a.tmps.toList.getD j undef) 108, (fun j => a.tmps.toList.getD j undef) 109, (fun j => a.tmps.toList.getD j undef) 110, (fun j => a.tmps.toList.getD j undef) 111, (fun j => a.tmps.toList.getD j undef) 112, (fun j => a.tmps.toList.getD j undef) 113, (fun j => a.tmps.toList.getD j undef) 114, (fun j => a.tmps.toList.getD j undef) 115, (fun j => a.tmps.toList.getD j undef) 116, (fun j => a.tmps.toList.getD j undef) 117, (fun j => a.tmps.toList.getD j undef) 118, (fun j => a.tmps.toList.getD j undef) 119, (fun j => a.tmps.toList.getD j undef) 120, (fun j => a.tmps.toList.getD j undef) 121, (fun j => a.tmps.toList.getD j undef) 122, (fun j => a.tmps.toList.getD j undef) 123, (fun j => a.tmps.toList.getD j undef) 124, (fun j => a.tmps.toList.getD j undef) 125, (fun j => a.tmps.toList.getD j undef) 126, (fun j => a.tmps.toList.getD j undef) 127, (fun j => a.tmps.toList.getD j undef) 128, (fun j => a.tmps.toList.getD j undef) 129, (fun j => a.tmps.toList.getD j undef) 130, (fun j => a.tmps.toList.getD j undef) 131, (fun j => a.tmps.toList.getD j undef) 132, (fun j => a.tmps.toList.getD j undef) 133, (fun j => a.tmps.toList.getD j undef) 134, (fun j => a.tmps.toList.getD j undef) 135, (fun j => a.tmps.toList.getD j undef) 136, (fun j => a.tmps.toList.getD j undef) 137, (fun j => a.tmps.toList.getD j undef) 138, (fun j => a.tmps.toList.getD j undef) 139, (fun j => a.tmps.toList.getD j undef) 140, (fun j => a.tmps.toList.getD j undef) 141, (fun j => a.tmps.toList.getD j undef) 142, (fun j => a.tmps.toList.getD j undef) 143, (fun j => a.tmps.toList.getD j undef) 144, (fun j => a.tmps.toList.getD j undef) 145, (fun j => a.tmps.toList.getD j undef) 146, (fun j => a.tmps.toList.getD j undef) 147, (fun j => a.tmps.toList.getD j undef) 148, (fun j => a.tmps.toList.getD j undef) 149, (fun j => a.tmps.toList.getD j undef) 150, (fun j => a.tmps.toList.getD j undef) 151, (fun j => a.tmps.toList.getD j undef) 152, (fun j => a.tmps.toList.getD j undef) 153, (fun j => a.tmps.toList.getD j undef) 154, (fun j => a.tmps.toList.getD j undef) 155, (fun j => a.tmps.toList.getD j undef) 156, (fun j => a.tmps.toList.getD j undef) 157, (fun j => a.tmps.toList.getD j undef) 158, (fun j => a.tmps.toList.getD j undef) 159, (fun j => a.tmps.toList.getD j undef) 160, (fun j => a.tmps.toList.getD j undef) 161, (fun j => a.tmps.toList.getD j undef) 162, (fun j => a.tmps.toList.getD j undef) 163, (fun j => a.tmps.toList.getD j undef) 164, (fun j => a.tmps.toList.getD j undef) 165, (fun j => a.tmps.toList.getD j undef) 166, (fun j => a.tmps.toList.getD j undef) 167, (fun j => a.tmps.toList.getD j undef) 168, (fun j => a.tmps.toList.getD j undef) 169, (fun j => a.tmps.toList.getD j undef) 170, (fun j => a.tmps.toList.getD j undef) 171, (fun j => a.tmps.toList.getD j undef) 172, (fun j => a.tmps.toList.getD j undef) 173, (fun j => a.tmps.toList.getD j undef) 174, (fun j => a.tmps.toList.getD j undef) 175, (fun j => a.tmps.toList.getD j undef) 176, (fun j => a.tmps.toList.getD j undef) 177, (fun j => a.tmps.toList.getD j undef) 178, (fun j => a.tmps.toList.getD j undef) 179, (fun j => a.tmps.toList.getD j undef) 180, (fun j => a.tmps.toList.getD j undef) 181, (fun j => a.tmps.toList.getD j undef) 182, (fun j => a.tmps.toList.getD j undef) 183, (fun j => a.tmps.toList.getD j undef) 184, (fun j => a.tmps.toList.getD j undef) 185, (fun j => a.tmps.toList.getD j undef) 186, (fun j => a.tmps.toList.getD j undef) 187, (fun j => a.tmps.toList.getD j undef) 188, (fun j => a.tmps.toList.getD j undef) 189, (fun j => a.tmps.toList.getD j undef) 190, (fun j => a.tmps.toList.getD j undef) 191, (fun j => a.tmps.toList.getD j undef) 192, (fun j => a.tmps.toList.getD j undef) 193, (fun j => a.tmps.toList.getD j undef) 194, (fun j => a.tmps.toList.getD j undef) 195], defers := [] } → Below w6.heap.size w6 V → Kc a V := by
    clear h0
    intro a V ha hV
    obtain ⟨us, hus⟩ : ∃ us, (fun j => a.tmps.toList.getD j undef) = us := ⟨_, rfl⟩
    replace ha : a = { tmps := #[.pointer (some ⟨g, 0, none⟩), us 1, .int .i64 fr, us 3, .pointer (some ⟨W.heap.size, 0, none⟩), us 5, .pointer (some ⟨w1.heap.size, 0, none⟩), us 7, us 8, .slice Av nv cv, us 10, us 11, us 12, us 13, us 14, us 15, us 16, us 17, us 18, us 19, us 20, us 21, us 22, us 23, us 24, us 25, us 26, us 27, us 28, us 29, us 30, us 31, us 32, us 33, us 34, us 35, us 36, us 37, us 38, us 39, us 40, us 41, us 42, us 43, us 44, us 45, us 46, us 47, us 48, us 49, us 50, us 51, us 52, us 53, us 54, us 55, us 56, us 57, us 58, us 59, us 60, us 61, us 62, us 63, us 64, us 65, us 66, us 67, us 68, us 69, us 70, us 71, us 72, us 73, us 74, us 75, us 76, us 77, us 78, us 79, us 80, us 81, us 82, us 83, us 84, us 85, us 86, us 87, us 88, us 89, us 90, us 91, us 92, us 93, us 94, us 95, us 96, us 97, us 98, us 99, us 100, us 101, us 102, us 103, us 104, us 105, us 106, us 107, us 108, us 109, us 110, us 111, us 112, us 113, us 114, us 115, us 116, us 117, us 118, us 119, us 120, us 121, us 122, us 123, us 124, us 125, us 126, us 127, us 128, us 129, us 130, us 131, us 132, us 133, us 134, us 135, us 136, us 137, us 138, us 139, us 140, us 141, us 142, us 143, us 144, us 145, us 146, us 147, us 148, us 149, us 150, us 151, us 152, us 153, us 154, us 155, us 156, us 157, us 158, us 159, us 160, us 161, us 162, us 163, us 164, us 165, us 166, us 167, us 168, us 169, us 170, us 171, us 172, us 173, us 174, us 175, us 176, us 177, us 178, us 179, us 180, us 181, us 182, us 183, us 184, us 185, us 186, us 187, us 188, us 189, us 190, us 191, us 192, us 193, us 194, us 195], defers := [] } := by rw [← hus]; exact ha
    clear hus
    subst ha
    refine hc _ _ ?_
    clear hc
    have hBV : Below wR.heap.size wR V := b6.trans (hV.mono b6.size)
    have hOV := hO6.step hV
    clear hO6 hV b6 hsv
    go_wp2_with fail
    refine wp_loop_us (fun us a V => ∃ i : Nat, i ≤ nv ∧ a = { tmps := #[.pointer (some ⟨g, 0, none⟩), us 1, .int .i64 fr, us 3, .pointer (some ⟨W.heap.size, 0, none⟩), us 5, .pointer (some ⟨w1.heap.size, 0, none⟩), us 7, us 8, .slice Av nv cv, us 10, .int .i64 (i : Int), us 12, us 13, us 14, us 15, us 16, us 17, us 18, us 19, us 20, us 21, us 22, us 23, us 24, us 25, us 26, us 27, us 28, us 29, us 30, us 31, us 32, us 33, us 34, us 35, us 36, us 37, us 38, us 39, us 40, us 41, us 42, us 43, us 44, us 45, us 46, us 47, us 48, us 49, us 50, us 51, us 52, us 53, us 54, us 55, us 56, us 57, us 58, us 59, us 60, us 61, us 62, us 63, us 64, us 65, us 66, us 67, us 68, us 69, us 70, us 71, us 72, us 73, us 74, us 75, us 76, us 77, us 78, us 79, us 80, us 81, us 82, us 83, us 84, us 85, us 86, us 87, us 88, us 89, us 90, us 91, us 92, us 93, us 94, us 95, us 96, us 97, us 98, us 99, us 100, us 101, us 102, us 103, us 104, us 105, us 106, us 107, us 108, us 109, us 110, us 111, us 112, us 113, us 114, us 115, us 116, us 117, us 118, us 119, us 120, us 121, us 122, us 123, us 124, us 125, us 126, us 127, us 128, us 129, us 130, us 131, us 132, us 133, us 134, us 135, us 136, us 137, us 138, us 139, us 140, us 141, us 142, us 143, us 144, us 145, us 146, us 147, us 148, us 149, us 150, us 151, us 152, us 153, us 154, us 155, us 156, us 157, us 158, us 159, us 160, us 161, us 162, us 163, us 164, us 165, us 166, us 167, us 168, us 169, us 170, us 171, us 172, us 173, us 174, us 175, us 176, us 177, us 178, us 179, us 180, us 181, us 182, us 183, us 184, us 185, us 186, us 187, us 188, us 189, us 190, us 191, us 192, us 193, us 194, us 195], defers := [] } ∧ Below wR.heap.size wR V ∧ OwnAny V wR.heap.size (.slice Av nv cv) nv) (fun a _ => nv - (intOf (a.tmps.toList.getD 11 undef)).toNat) ?_ ?_
    · exact ⟨0, Nat.zero_le _, by kernel_rfl, hBV, hOV⟩
    · clear hBV hOV us V
      rintro us a V ⟨i, hi, rfl, hBV, hOV⟩
      by_cases hin : i < nv
      · have hd : decide ((i : Int) < (nv : Int)) = true := by simp; omega
        have hd2 : decide (i < nv) = true := by simp; omega
        have hwi : IntKind.i64.wrap ((i : Int) + 1) = (i : Int) + 1 := IntWalk.i64_in _ (by omega)
        obtain ⟨ge, ce, hve, hge, hgl, -, -, hcf⟩ := hOV.at_ (by omega)
        injection hve with e1 e2 e3
        subst e1
        subst e3
        clear e2
        obtain ⟨⟨u, hcu⟩, hfu⟩ := hcf i hin
        have hO2 := hOV.setCell ge i (.int .u8 90)
        have hB2 : Below wR.heap.size wR (V.setCell ⟨ge, i, none⟩ (.int .u8 90)) := hBV.setCell (by show wR.heap.size ≤ ge; exact hge) _
        have HO2 := Lib.hid hO2
        have HB2 := Lib.hid hB2
        clear hcf hO2 hB2 hOV hBV
        go_wp2_with fail
        exact ⟨⟨i + 1, by omega, by kernel_rfl, HB2.out, HO2.out⟩, by simp [intOf]; omega⟩
      · obtain rfl : i = nv := by omega
        have h7 := H5.out.step hBV
        have x7 := X5.out.step hBV
        have k47 := K45.out.step hBV
        have k67 := K65.out.step hBV
        have B7 := B5.trans (hBV.mono B5.size)
        have hal := mall_any Z lo g R m V h7 fr (by omega)
        have Hal := Lib.hid hal
        have H7 := Lib.hid h7
        have X7 := Lib.hid x7
        have K47 := Lib.hid k47
        have K67 := Lib.hid k67
        clear hal h7 x7 k47 k67 hBV hOV H5 X5 K45 K65 B5
        go_wp2_with fail
        refine Hal.out.mono ?_
        rintro e w8 ⟨g1, g2, A8, c8, rfl, hk1, hk2, hg1, hg2, hes8, b8⟩
        obtain ⟨f0, hf⟩ : ∃ f0 : Nat, max fr 0 = (f0 : Int) := ⟨(max fr 0).toNat, by omega⟩
        rw [hf] at hk2
        rw [hf, Int.toNat_natCast] at hk1 hes8
        obtain ⟨N, hN⟩ : ∃ x, (m.ents.drop f0).length = x := ⟨_, rfl⟩
        rw [hN] at hk1 hes8
        have hNf : N = m.ents.length - f0 := by rw [← hN, List.length_drop]
        have hN1 : N ≤ 100000 := by omega
        have h8 := H7.out.step b8
        have x8 := X7.out.step b8
        have k48 := K47.out.step b8
        have k68 := K67.out.step b8
        have B8 := B7.trans (b8.mono B7.size)
        have hnil := eql_allm_nil g1 g2 w8
        have HN := Lib.hid hN
        have HNf := Lib.hid hNf
        have Hk1 := Lib.hid hk1
        have Hk2 := Lib.hid hk2
        have Hes8 := Lib.hid hes8
        have X8 := Lib.hid x8
        have K48 := Lib.hid k48
        have K68 := Lib.hid k68
        have hz18 := hk1.lt
        have hz28 := hk2.lt
        have hz48 := k48.lt
        have hz68 := k68.lt
        have hzx8 := x8.blk.lt
        clear hN hNf hk1 hk2 hes8 h8 x8 k48 k68 b8 Hal H7 X7 K47 K67 B7
        go_wp2_with fail
        have hT0 : Blk (w8.alloc (.cells #[.int .i64 0] 3)) w8.heap.size 3 #[.int .i64 0] := Blk.new _ _ _
        have hbT : Below w8.heap.size w8 (w8.alloc (.cells #[.int .i64 0] 3)) := (Below.refl _ _).alloc (Nat.le_refl _) _
        generalize w8.alloc (.cells #[.int .i64 0] 3) = W0 at *
        refine wp_loop_us (fun us a V => ∃ (gT : Nat) (ds : List Nat), ds.length ≤ 2 ∧ a = { tmps := #[.pointer (some ⟨g, 0, none⟩), us 1, .int .i64 fr, us 3, .pointer (some ⟨W.heap.size, 0, none⟩), us 5, .pointer (some ⟨w1.heap.size, 0, none⟩), us 7, us 8, us 9, us 10, us 11, .func (.func 64) #[] #[.pointer (some ⟨g1, 0, none⟩), .pointer (some ⟨g2, 0, none⟩)], .pointer (some ⟨gT, 0, none⟩), us 14, us 15, us 16, us 17, us 18, us 19, us 20, us 21, us 22, us 23, us 24, us 25, us 26, us 27, us 28, us 29, us 30, us 31, us 32, us 33, us 34, us 35, us 36, us 37, us 38, us 39, us 40, us 41, us 42, us 43, us 44, us 45, us 46, us 47, us 48, us 49, us 50, us 51, us 52, us 53, us 54, us 55, us 56, us 57, us 58, us 59, us 60, us 61, us 62, us 63, us 64, us 65, us 66, us 67, us 68, us 69, us 70, us 71, us 72, us 73, us 74, us 75, us 76, us 77, us 78, us 79, us 80, us 81, us 82, us 83, us 84, us 85, us 86, us 87, us 88, us 89, us 90, us 91, us 92, us 93, us 94, us 95, us 96, us 97, us 98, us 99, us 100, us 101, us 102, us 103, us 104, us 105, us 106, us 107, us 108, us 109, us 110, us 111, us 112, us 113, us 114, us 115, us 116, us 117, us 118, us 119, us 120, us 121, us 122, us 123, us 124, us 125, us 126, us 127, us 128, us 129, us 130, us 131, us 132, us 133, us 134, us 135, us 136, us 137, us 138, us 139, us 140, us 141, us 142, us 143, us 144, us 145, us 146, us 147, us 148, us 149, us 150, us 151, us 152, us 153, us 154, us 155, us 156, us 157, us 158, us 159, us 160, us 161, us 162, us 163, us 164, us 165, us 166, us 167, us 168, us 169, us 170, us 171, us 172, us 173, us 174, us 175, us 176, us 177, us 178, us 179, us 180, us 181, us 182, us 183, us 184, us 185, us 186, us 187, us 188, us 189, us 190, us 191, us 192, us 193, us 194, us 195], defers := ds.map markOf } ∧ Below w8.heap.size w8 V ∧ Blk V gT 3 #[.int .i64 (ds.length : Int)] ∧ MarksOk w8.heap.size ds V ∧ w8.heap.size ≤ gT) (fun a _ => 2 - a.defers.length) ?_ ?_
        · exact ⟨w8.heap.size, [], by simp, by kernel_rfl, hbT, hT0, MarksOk.nil _ _, Nat.le_refl _⟩
        · clear hT0 hbT W0
          rintro us a V ⟨gT, ds, hds, rfl, hbel, hT, hM, hgT⟩
          obtain ⟨t, ht⟩ : ∃ t, ds.length = t := ⟨_, rfl⟩
          rw [ht] at hT hds
          have c13 : V.cell? ⟨gT, 0, none⟩ = some (.int .i64 (t : Int)) := by rw [hT.cell]; rfl
          have Ht := Lib.hid ht
          have hTs := hT.lt
          clear ht
          by_cases ht2 : t < 2
          · clear hds
            go_wp2_with fail
            have hbk : Below V.heap.size V (V.alloc (.cells #[.int .i64 (f0 : Int)] 2)) := (Below.refl _ _).alloc (Nat.le_refl _) _
            have hQ0 : TdR w8 gT V.heap.size t ds f0 (V.alloc (.cells #[.int .i64 (f0 : Int)] 2)) := ⟨hbel.trans (hbk.mono hbel.size), hT.step hbk, Blk.new _ _ _, hM.step hbk, hgT, hTs⟩
            have hmD := hM.lt
            have hsz1 : V.heap.size < (V.alloc (.cells #[.int .i64 (f0 : Int)] 2)).heap.size := by simp
            have hWs := hbel.size
            clear hbel hT hM hbk c13
            generalize V.alloc (.cells #[.int .i64 (f0 : Int)] 2) = W1 at *
            generalize V.heap.size = gk at *
            refine wp_range_U (gf := 64) (lb := #[.pointer (some ⟨g1, 0, none⟩), .pointer (some ⟨g2, 0, none⟩)]) rfl (enters_of Tryz.func64 (by kernel_rfl) rfl)
              (mall_seq f0 (m.ents.drop f0) g1 g2 A8 N c8 (· = gk) W1 (Hk1.out.below hQ0.bel hz18) (Hk2.out.below hQ0.bel hz28) (((Hes8.out.weak (Y := (· < w8.heap.size)) fun b hb _ => hb).below hQ0.bel fun b _ hb => hb).weak fun b _ hb e => by have hb : b < w8.heap.size := hb; have e : b = gk := e; omega) (fun b hb => by have hb : b = gk := hb; omega) (fun e => by have e : g1 = gk := e; omega) (fun e => by have e : g2 = gk := e; omega) (by have := HNf.out; omega) (fun x hx => HBg.out x (List.mem_of_mem_drop hx)))
              (fun _ _ _ _ h => by obtain ⟨v, rfl, _⟩ := h; rfl)
              (fun _ k V => TdR w8 gT gk t ds (f0 + k) V) (fun _ cd k V => cd = .exit 4 ∧ t = 0 ∧ TdR w8 gT gk t ds (f0 + k) V)
              (fun _ => TdR.own (by omega) (fun D hD => by have := hmD D hD; omega) (fun k => f0 + k)) (fun _ cd k X Y row h hg hr => ⟨h.1, h.2.1, TdR.own (by omega) (fun D hD => by have := hmD D hD; omega) (fun k => f0 + k) k X Y row h.2.2 hg hr⟩) (fun _ _ => hQ0) ?round ?done ?stop
            case round =>
              clear hQ0
              intro li n₁ k vs X hl hln hnX hk hI hy
              obtain ⟨v, hvs, ho⟩ := hy
              subst hvs
              obtain ⟨p, hp⟩ : ∃ p, f0 + k = p := ⟨_, rfl⟩
              rw [hp] at hI ⊢
              have hpe : (m.ents.drop f0).getD k [] = m.ents.getD p [] := by rw [← hp, List.getD_eq_getElem?_getD, List.getD_eq_getElem?_getD, List.getElem?_drop]
              rw [hpe] at ho
              rw [HN.out] at hk
              have hpn : p < m.ents.length := by have := HNf.out; omega
              have Hp := Lib.hid hp
              obtain ⟨l, hl⟩ : ∃ x, m.ents.getD p [] = x := ⟨_, rfl⟩
              rw [hl] at ho
              obtain ⟨A2, c2, hve, hs2⟩ := owns_sl ho
              subst hve
              obtain ⟨ll, hll⟩ : ∃ x, l.length = x := ⟨_, rfl⟩
              rw [hll] at ho hs2 ⊢
              have hr2 := hs2.room
              have hm2 := hs2.max
              unfold maxLen at hm2
              clear hpe hp
              gi_wp2
              refine ⟨KeepU.refl _ _ _ _, ?_⟩
              intro X2 hturn
              have hQ2 : TdR w8 gT gk t ds p X2 := hturn.own (TdR.own (by omega) (fun D hD => by have := hmD D hD; omega) (fun _ => p)) (s := k) hI
              have ho2 := hturn.own_row ho
              have hs2' : Sl X2 (fun _ => True) A2 ll c2 l := ⟨(hturn.slv hs2.v.all).bs, hs2.len, hs2.room, hs2.none, hs2.max⟩
              have xX2 := X8.out.step hQ2.bel
              have k4X := K48.out.below hQ2.bel hz48
              obtain ⟨Ax, cx, hxe, hxs⟩ := xX2.ents
              have hrx := hxs.room
              have hmx := hxs.max
              unfold maxLen at hmx
              obtain ⟨bx, ox, hAx, hblx, -, hatx⟩ := hxs.at_ (by omega)
              obtain ⟨Ap, cp, cep, hsp⟩ := hatx p hpn
              rw [hl] at cep hsp
              rw [hll] at cep hsp
              subst hAx
              have hrp := hsp.room
              have hmp := hsp.max
              unfold maxLen at hmp
              have q14 : ∀ s : InC (fun V => Below X2.heap.size X2 V), s.W.cell? ⟨gk, 0, none⟩ = some (.int .i64 (p : Int)) := fun s => by rw [(hQ2.bk.step s.ok).cell]; rfl
              have q4 : ∀ s : InC (fun V => Below X2.heap.size X2 V), s.W.cell? ⟨W.heap.size, 0, none⟩ = some (.pointer (some ⟨gx, 0, none⟩)) := fun s => by rw [(k4X.step s.ok).cell]; rfl
              have q2 : ∀ s : InC (fun V => Below X2.heap.size X2 V), s.W.cell? ⟨gx, 2, none⟩ = some (.slice (some ⟨bx, ox, none⟩) m.ents.length cx) := fun s => ((xX2.step s.ok).cell 2 (by decide)).trans (congrArg some hxe)
              have qe : ∀ s : InC (fun V => Below X2.heap.size X2 V), s.W.cell? ⟨bx, ox + p, none⟩ = some (.slice Ap ll cp) := fun s => (World.cell?_of_block (s.ok.block bx hblx)).trans cep
              have S1 := Lib.hid (fun s : InC (fun V => Below X2.heap.size X2 V) => hs2'.step s.ok)
              have S2 := Lib.hid (fun s : InC (fun V => Below X2.heap.size X2 V) => hsp.step s.ok)
              have G2 := Lib.hid (fun V (hb : Below X2.heap.size X2 V) => xsize_any (xX2.step hb))
              have hge1 : decide ((m.ents.length : Int) ≤ (p : Int)) = false := by simp; omega
              have hge2 : decide (m.ents.length ≤ p) = false := by simp; omega
              have hS : Below X2.heap.size X2 X2.drew := (Below.refl _ _).drew
              clear hturn ho hs2 hs2' xX2 k4X hxe hxs hatx cep hsp hI hnX hl hll
              gi_wp2
              refine wpIn_region_mix (openR li) rfl (fun _ _ h => h) (fun W => Below X2.heap.size X2 W) [(0, true), (1, true), (2, true), (3, true), (4, true), (5, true), (6, false), (7, true), (8, true), (9, true), (10, true), (11, true), (12, true), (13, true), (14, true), (15, true), (16, true), (17, true), (18, true), (19, true), (20, true), (21, true)] (by kernel_rfl) (by kernel_rfl) hS fun _ => ?_
              simp only [List.map_cons, List.map_nil, Array.getD_eq_getD_getElem?, List.getElem?_toArray, List.getElem?_cons_succ, List.getElem?_cons_zero, Option.getD_some]
              generalize X2.drew = Z24 at hS ⊢
              iterate 6 (refine wpMix_s (fun K hK => ?_); go_simp; refine hK _ ?_; clear hK K)
              refine wpMix_c (fun K hK => ?_) hS
              go_simp
              refine (G2.out Z24 hS).mono ?_
              rintro e Z24e ⟨rfl, hww⟩
              obtain rfl := hww.symm
              refine hK _ _ ?_
              clear hK K
              refine ⟨hS, ?_⟩
              iterate 4 (refine wpMix_s (fun K hK => ?_); go_simp; refine hK _ ?_; clear hK K)
              refine wpMix_v (by kernel_rfl) (.string (bstr l)) (fun s => strM_op (.tmp 141) rfl rfl (S1.out s)) ?_
              simp only [Act.put, List.setIfInBounds_toArray, List.set_cons_succ, List.set_cons_zero]
              iterate 7 (refine wpMix_s (fun K hK => ?_); go_simp; refine hK _ ?_; clear hK K)
              refine wpMix_v (by kernel_rfl) (.string (bstr l)) (fun s => strM_op (.tmp 149) rfl rfl (S2.out s)) ?_
              simp only [Act.put, List.setIfInBounds_toArray, List.set_cons_succ, List.set_cons_zero]
              refine wpMix_v (by kernel_rfl) (.bool false) (fun s => run_neqstr_fG (.tmp 142) (.tmp 150) _ l rfl rfl rfl s.W) ?_
              simp only [Act.put, List.setIfInBounds_toArray, List.set_cons_succ, List.set_cons_zero]
              (refine wpMix_s (fun K hK => ?_); go_simp; refine hK _ ?_; clear hK K)
              refine wpMix_nil ?_
              intro _
              have hQ3 := hQ2.step hS
              have ho3 := owns_step ho2 hS
              have hK3 : KeepU W1.heap.size n₁ (· = gk) X2 Z24 := KeepU.below hS
              have hO3 : OwnAny Z24 n₁ (.slice A2 ll c2) ll := ⟨_, ho3⟩
              clear hQ2 ho2 ho3 hS q14 q4 q2 qe S1 S2 G2
              gi_wp2
              gi_loopw [17] (fun v wr => ∃ q : Nat, q ≤ ll ∧ v = .int .i64 (q : Int) ∧ KeepU W1.heap.size n₁ (· = gk) X2 wr ∧ TdR w8 gT gk t ds p wr ∧ OwnAny wr n₁ (.slice A2 ll c2) ll) (fun v _ => ll - (intOf v).toNat)
              case atStart => exact ⟨0, Nat.zero_le _, rfl, hK3, hQ3, hO3⟩
              case round =>
                clear hK3 hQ3 hO3
                obtain ⟨q, hq, rfl, hK3, hQ3, hO3⟩ := hrel
                by_cases hql : q < ll
                · have hd : decide ((q : Int) < (ll : Int)) = true := by simp; omega
                  have hd2 : decide (q < ll) = true := by simp; omega
                  have hwq : IntKind.i64.wrap ((q : Int) + 1) = (q : Int) + 1 := IntWalk.i64_in _ (by omega)
                  obtain ⟨ge, ce, hve, hge, hgl, -, -, hcf⟩ := hO3.at_ (by omega)
                  injection hve with e1 e2 e3
                  subst e1
                  subst e3
                  clear e2
                  obtain ⟨⟨u, hcu⟩, hfu⟩ := hcf q hql
                  have hbl : ∃ T cs, Blk wr ge T cs := by
                    obtain ⟨xs, h1, h2⟩ := hO3
                    rcases h2 with ⟨h3, _⟩ | ⟨g', cap, cur, h3, _, h4, _⟩
                    · cases h3
                    · injection h3 with h3
                      injection h3 with h3
                      injection h3 with h3
                      subst h3
                      exact ⟨_, _, h4⟩
                  obtain ⟨T, cs, hbl⟩ := hbl
                  have hK4 := hK3.trans (KeepU.setCell (B := W1.heap.size) (n₁ := n₁) (U := (· = gk)) hbl (.inl hge) q (.int .u8 90))
                  have hQ4 := hQ3.far (i := q) (u := .int .u8 90) (g := ge) (by omega) (fun D hD e => by have := hmD D hD; omega)
                  have hO4 := hO3.setCell ge q (.int .u8 90)
                  have HK4 := Lib.hid hK4
                  have HQ4 := Lib.hid hQ4
                  have HO4 := Lib.hid hO4
                  clear hcf hK4 hQ4 hO4 hK3 hQ3 hO3 hbl
                  gi_wp2
                  exact ⟨⟨q + 1, by omega, by go_num, HK4.out, HQ4.out, HO4.out⟩, by simp [intOf]; omega⟩
                · obtain rfl : q = ll := by omega
                  have p14 : wr.cell? ⟨gk, 0, none⟩ = some (.int .i64 (p : Int)) := by rw [hQ3.bk.cell]; rfl
                  have pf14 := hQ3.bk.frozen 0
                  have hwp : IntKind.i64.wrap ((p : Int) + 1) = (p : Int) + 1 := IntWalk.i64_in _ (by omega)
                  have hQ4 := hQ3.setk (p + 1)
                  have hK4 := hK3.trans (KeepU.setCell (B := W1.heap.size) (n₁ := n₁) (U := (· = gk)) hQ3.bk (.inr rfl) 0 (.int .i64 ((p + 1 : Nat) : Int)))
                  rw [show ((p + 1 : Nat) : Int) = (p : Int) + 1 by omega] at hQ4 hK4
                  obtain ⟨W4, hW4⟩ : ∃ x, wr.setCell ⟨gk, 0, none⟩ (.int .i64 ((p : Int) + 1)) = x := ⟨_, rfl⟩
                  rw [hW4] at hQ4 hK4
                  have p13 : W4.cell? ⟨gT, 0, none⟩ = some (.int .i64 (t : Int)) := by rw [hQ4.bT.cell]; rfl
                  have p14' : W4.cell? ⟨gk, 0, none⟩ = some (.int .i64 ((p : Int) + 1)) := by rw [hQ4.bk.cell]; simp
                  obtain ⟨r, hr⟩ : ∃ r : Nat, (p + 1) % 3 = r := ⟨_, rfl⟩
                  have hr1 : ((p : Int) + 1).tmod 3 = (r : Int) := by rw [← hr]; rfl
                  have hr2 : ((p : Int) + 1) % 3 = (r : Int) := by rw [← hr]; rfl
                  have hpk : p + 1 = f0 + (k + 1) := by have := Hp.out; omega
                  rw [hpk] at hQ4
                  have HW4 := Lib.hid hW4
                  have HQ4 := Lib.hid hQ4
                  have HK4 := Lib.hid hK4
                  clear hQ3 hK3 hO3 hQ4 hK4 hW4 hr hpk hq
                  have htt : t = 0 ∨ t = 1 := by omega
                  rcases htt with rfl | rfl
                  · by_cases hr0 : r = 2
                    · have dr1 : ((r : Int) == 2) = true := by rw [hr0]; rfl
                      have dr2 : decide ((r : Int) = 2) = true := by rw [hr0]; rfl
                      clear hr0
                      gi_wp2_with (rw [HW4.out])
                      exact ⟨HK4.out.f, rfl, HQ4.out⟩
                    · have dr1 : ((r : Int) == 2) = false := by simp; omega
                      have dr2 : decide ((r : Int) = 2) = false := by simp; omega
                      clear hr0
                      gi_wp2_with (rw [HW4.out])
                      exact ⟨HK4.out, HQ4.out⟩
                  · gi_wp2_with (rw [HW4.out])
                    exact ⟨HK4.out, HQ4.out⟩
            case done =>
              clear hQ0
              intro D n₁ X hD hDn hI hK
              rw [HN.out] at hI
              obtain ⟨p, hp⟩ : ∃ p, f0 + N = p := ⟨_, rfl⟩
              rw [hp] at hI
              have q4 : ∀ s : InC (fun V => Below X.heap.size X V), s.W.cell? ⟨W.heap.size, 0, none⟩ = some (.pointer (some ⟨gx, 0, none⟩)) := fun s => by rw [((K48.out.below hI.bel hz48).step s.ok).cell]; rfl
              have q13 : ∀ s : InC (fun V => Below X.heap.size X V), s.W.cell? ⟨gT, 0, none⟩ = some (.int .i64 (t : Int)) := fun s => by rw [(hI.bT.step s.ok).cell]; rfl
              have q14 : ∀ s : InC (fun V => Below X.heap.size X V), s.W.cell? ⟨gk, 0, none⟩ = some (.int .i64 (p : Int)) := fun s => by rw [(hI.bk.step s.ok).cell]; rfl
              have G2 := Lib.hid (fun V (hb : Below X.heap.size X V) => xsize_any ((X8.out.step hI.bel).step hb))
              have HI := Lib.hid hI
              have HKD := Lib.hid hK
              have hXd : X.heap.size ≤ X.heap.size := Nat.le_refl _
              have hDX : D < X.heap.size := (Array.getElem?_eq_some_iff.1 hK).1
              have hS : Below X.heap.size X X.drew := (Below.refl _ _).drew
              clear hI hK
              have htt : t = 0 ∨ t = 1 := by omega
              rcases htt with rfl | rfl
              · clear hp
                go_wp2_with fail
                refine wp_region_mix (fun W => Below X.heap.size X W) [(0, true), (1, true), (2, true), (3, true), (4, true), (5, true), (6, true), (7, true), (8, true), (9, true), (10, true), (11, false), (12, true), (13, true), (14, true), (15, true), (16, true), (17, true), (18, true), (19, true), (20, false), (21, true), (22, true), (23, true)] (by kernel_rfl) (by kernel_rfl) hS fun _ => ?_
                simp only [List.map_cons, List.map_nil, Array.getD_eq_getD_getElem?, List.getElem?_toArray, List.getElem?_cons_succ, List.getElem?_cons_zero, Option.getD_some]
                generalize X.drew = Z32 at hS ⊢
                iterate 11 (refine wpMix_s (fun K hK => ?_); go_simp; refine hK _ ?_; clear hK K)
                refine wpMix_c (fun K hK => ?_) hS
                go_simp
                refine hK _ _ ?_
                clear hK K
                refine ⟨hS, ?_⟩
                iterate 8 (refine wpMix_s (fun K hK => ?_); go_simp; refine hK _ ?_; clear hK K)
                refine wpMix_c (fun K hK => ?_) hS
                go_simp
                refine hK _ _ ?_
                clear hK K
                refine ⟨hS, ?_⟩
                iterate 3 (refine wpMix_s (fun K hK => ?_); go_simp; refine hK _ ?_; clear hK K)
                refine wpMix_nil ?_
                intro _
                have hI := HI.out.step hS
                have hK : Z32.heap[D]? = some (.deferred (some [])) := (hS.block D hDX).trans HKD.out
                have hbX : Below Z32.heap.size Z32 (Z32.alloc (.cells #[.int .i64 ((0 + 1 : Nat) : Int)] 3)) := (Below.refl _ _).alloc (Nat.le_refl _) _
                have hB9 := hI.bel.trans (hbX.mono hI.bel.size)
                have hM9 := ((hI.mks.cons (D := D) (by omega) hK (fun h => by have := hmD D h; omega)).step hbX)
                have hT9 : Blk (Z32.alloc (.cells #[.int .i64 ((0 + 1 : Nat) : Int)] 3)) Z32.heap.size 3 #[.int .i64 ((0 + 1 : Nat) : Int)] := Blk.new _ _ _
                have hgX : w8.heap.size ≤ Z32.heap.size := hI.bel.size
                have r13 : Z32.cell? ⟨gT, 0, none⟩ = some (.int .i64 (0 : Int)) := by rw [hI.bT.cell]; rfl
                have HB10 := Lib.hid hB9
                have HM10 := Lib.hid hM9
                have HT10 := Lib.hid hT9
                clear hB9 hM9 hT9 hbX hI hK q4 q13 q14 G2 HI HKD hS
                go_wp2_with fail
                refine ⟨⟨Z32.heap.size, D :: ds, by rw [List.length_cons, Ht.out]; omega, by first | kernel_rfl | exact ⟨rfl, rfl⟩, HB10.out, by rw [List.length_cons, Ht.out]; exact HT10.out, HM10.out, hgX⟩, ?_⟩
                simp only [List.length_cons, List.length_map, Ht.out]
                omega
              · by_cases hpf : p = f0
                · have e1 : ((p : Int) == (f0 : Int)) = true := by simp; omega
                  have e2 : decide ((p : Int) = (f0 : Int)) = true := by simp; omega
                  have e3 : decide ((p : Int) < (m.ents.length : Int)) = false := by simp; have := HNf.out; omega
                  have e4 : decide (p < m.ents.length) = false := by simp; have := HNf.out; omega
                  obtain rfl : f0 = p := hpf.symm
                  clear hp
                  go_wp2_with fail
                  refine wp_region_mix (fun W => Below X.heap.size X W) [(0, true), (1, true), (2, true), (3, true), (4, true), (5, true), (6, true), (7, true), (8, true), (9, true), (10, true), (11, false), (12, true), (13, true), (14, true), (15, true), (16, true), (17, true), (18, true), (19, true), (20, false), (21, true), (22, true), (23, true)] (by kernel_rfl) (by kernel_rfl) hS fun _ => ?_
                  simp only [List.map_cons, List.map_nil, Array.getD_eq_getD_getElem?, List.getElem?_toArray, List.getElem?_cons_succ, List.getElem?_cons_zero, Option.getD_some]
                  generalize X.drew = Z32 at hS ⊢
                  iterate 11 (refine wpMix_s (fun K hK => ?_); go_simp; refine hK _ ?_; clear hK K)
                  refine wpMix_c (fun K hK => ?_) hS
                  go_simp
                  refine hK _ _ ?_
                  clear hK K
                  refine ⟨hS, ?_⟩
                  iterate 8 (refine wpMix_s (fun K hK => ?_); go_simp; refine hK _ ?_; clear hK K)
                  refine wpMix_c (fun K hK => ?_) hS
                  go_simp
                  refine (G2.out Z32 hS).mono ?_
                  rintro e Z32e ⟨rfl, hww⟩
                  obtain rfl := hww.symm
                  refine hK _ _ ?_
                  clear hK K
                  refine ⟨hS, ?_⟩
                  iterate 3 (refine wpMix_s (fun K hK => ?_); go_simp; refine hK _ ?_; clear hK K)
                  refine wpMix_nil ?_
                  intro _
                  have hI := HI.out.step hS
                  have hK : Z32.heap[D]? = some (.deferred (some [])) := (hS.block D hDX).trans HKD.out
                  have hbX : Below Z32.heap.size Z32 (Z32.alloc (.cells #[.int .i64 ((1 + 1 : Nat) : Int)] 3)) := (Below.refl _ _).alloc (Nat.le_refl _) _
                  have hB9 := hI.bel.trans (hbX.mono hI.bel.size)
                  have hM9 := ((hI.mks.cons (D := D) (by omega) hK (fun h => by have := hmD D h; omega)).step hbX)
                  have hT9 : Blk (Z32.alloc (.cells #[.int .i64 ((1 + 1 : Nat) : Int)] 3)) Z32.heap.size 3 #[.int .i64 ((1 + 1 : Nat) : Int)] := Blk.new _ _ _
                  have hgX : w8.heap.size ≤ Z32.heap.size := hI.bel.size
                  have r13 : Z32.cell? ⟨gT, 0, none⟩ = some (.int .i64 (1 : Int)) := by rw [hI.bT.cell]; rfl
                  have HB10 := Lib.hid hB9
                  have HM10 := Lib.hid hM9
                  have HT10 := Lib.hid hT9
                  clear hB9 hM9 hT9 hbX hI hK q4 q13 q14 G2 HI HKD hS
                  go_wp2_with fail
                  refine ⟨⟨Z32.heap.size, D :: ds, by rw [List.length_cons, Ht.out]; omega, by first | kernel_rfl | exact ⟨rfl, rfl⟩, HB10.out, by rw [List.length_cons, Ht.out]; exact HT10.out, HM10.out, hgX⟩, ?_⟩
                  simp only [Ht.out]
                  omega
                · have e1 : ((p : Int) == (f0 : Int)) = false := by simp; omega
                  have e2 : decide ((p : Int) = (f0 : Int)) = false := by simp; omega
                  have hpm : p = m.ents.length := by have := HNf.out; omega
                  have e6 : ¬ ((p : Int) = (f0 : Int)) := by omega
                  clear hp hpf
                  subst hpm
                  go_wp2_with fail
                  refine wp_region_mix (fun W => Below X.heap.size X W) [(0, true), (1, true), (2, true), (3, true), (4, true), (5, true), (6, true), (7, true), (8, true), (9, true), (10, true), (11, false), (12, true), (13, true), (14, true), (15, true), (16, true), (17, true), (18, true), (19, true), (20, false), (21, true), (22, true), (23, true)] (by kernel_rfl) (by kernel_rfl) hS fun _ => ?_
                  simp only [List.map_cons, List.map_nil, Array.getD_eq_getD_getElem?, List.getElem?_toArray, List.getElem?_cons_succ, List.getElem?_cons_zero, Option.getD_some]
                  generalize X.drew = Z32 at hS ⊢
                  iterate 11 (refine wpMix_s (fun K hK => ?_); go_simp; refine hK _ ?_; clear hK K)
                  refine wpMix_c (fun K hK => ?_) hS
                  go_simp
                  refine (G2.out Z32 hS).mono ?_
                  rintro e Z32e ⟨rfl, hww⟩
                  obtain rfl := hww.symm
                  refine hK _ _ ?_
                  clear hK K
                  refine ⟨hS, ?_⟩
                  iterate 8 (refine wpMix_s (fun K hK => ?_); go_simp; refine hK _ ?_; clear hK K)
                  refine wpMix_c (fun K hK => ?_) hS
                  go_simp
                  refine (G2.out Z32 hS).mono ?_
                  rintro e Z32e ⟨rfl, hww⟩
                  obtain rfl := hww.symm
                  refine hK _ _ ?_
                  clear hK K
                  refine ⟨hS, ?_⟩
                  iterate 3 (refine wpMix_s (fun K hK => ?_); go_simp; refine hK _ ?_; clear hK K)
                  refine wpMix_nil ?_
                  intro _
                  have hI := HI.out.step hS
                  have hK : Z32.heap[D]? = some (.deferred (some [])) := (hS.block D hDX).trans HKD.out
                  have hbX : Below Z32.heap.size Z32 (Z32.alloc (.cells #[.int .i64 ((1 + 1 : Nat) : Int)] 3)) := (Below.refl _ _).alloc (Nat.le_refl _) _
                  have hB9 := hI.bel.trans (hbX.mono hI.bel.size)
                  have hM9 := ((hI.mks.cons (D := D) (by omega) hK (fun h => by have := hmD D h; omega)).step hbX)
                  have hT9 : Blk (Z32.alloc (.cells #[.int .i64 ((1 + 1 : Nat) : Int)] 3)) Z32.heap.size 3 #[.int .i64 ((1 + 1 : Nat) : Int)] := Blk.new _ _ _
                  have hgX : w8.heap.size ≤ Z32.heap.size := hI.bel.size
                  have r13 : Z32.cell? ⟨gT, 0, none⟩ = some (.int .i64 (1 : Int)) := by rw [hI.bT.cell]; rfl
                  have HB10 := Lib.hid hB9
                  have HM10 := Lib.hid hM9
                  have HT10 := Lib.hid hT9
                  clear hB9 hM9 hT9 hbX hI hK q4 q13 q14 G2 HI HKD hS
                  go_wp2_with fail
                  refine ⟨⟨Z32.heap.size, D :: ds, by rw [List.length_cons, Ht.out]; omega, by first | kernel_rfl | exact ⟨rfl, rfl⟩, HB10.out, by rw [List.length_cons, Ht.out]; exact HT10.out, HM10.out, hgX⟩, ?_⟩
                  simp only [Ht.out]
                  omega
            case stop =>
              clear hQ0
              rintro D n₁ cd k X hD hDn hk ⟨rfl, rfl, hI⟩ hK
              obtain ⟨p, hp⟩ : ∃ p, f0 + (k + 1) = p := ⟨_, rfl⟩
              rw [hp] at hI
              clear hp
              have q4 : ∀ s : InC (fun V => Below X.heap.size X V), s.W.cell? ⟨W.heap.size, 0, none⟩ = some (.pointer (some ⟨gx, 0, none⟩)) := fun s => by rw [((K48.out.below hI.bel hz48).step s.ok).cell]; rfl
              have q13 : ∀ s : InC (fun V => Below X.heap.size X V), s.W.cell? ⟨gT, 0, none⟩ = some (.int .i64 ((0 : Nat) : Int)) := fun s => by rw [(hI.bT.step s.ok).cell]; rfl
              have q14 : ∀ s : InC (fun V => Below X.heap.size X V), s.W.cell? ⟨gk, 0, none⟩ = some (.int .i64 (p : Int)) := fun s => by rw [(hI.bk.step s.ok).cell]; rfl
              have G2 := Lib.hid (fun V (hb : Below X.heap.size X V) => xsize_any ((X8.out.step hI.bel).step hb))
              have HI := Lib.hid hI
              have HKD := Lib.hid hK
              have hXd : X.heap.size ≤ X.heap.size := Nat.le_refl _
              have hDX : D < X.heap.size := (Array.getElem?_eq_some_iff.1 hK).1
              have hS : Below X.heap.size X X.drew := (Below.refl _ _).drew
              clear hI hK
              go_wp2_with fail
              refine wp_region_mix (fun W => Below X.heap.size X W) [(0, true), (1, true), (2, true), (3, true), (4, true), (5, true), (6, true), (7, true), (8, true), (9, true), (10, true), (11, false), (12, true), (13, true), (14, true), (15, true), (16, true), (17, true), (18, true), (19, true), (20, false), (21, true), (22, true), (23, true)] (by kernel_rfl) (by kernel_rfl) hS fun _ => ?_
              simp only [List.map_cons, List.map_nil, Array.getD_eq_getD_getElem?, List.getElem?_toArray, List.getElem?_cons_succ, List.getElem?_cons_zero, Option.getD_some]
              generalize X.drew = Z32 at hS ⊢
              iterate 11 (refine wpMix_s (fun K hK => ?_); go_simp; refine hK _ ?_; clear hK K)
              refine wpMix_c (fun K hK => ?_) hS
              go_simp
              refine hK _ _ ?_
              clear hK K
              refine ⟨hS, ?_⟩
              iterate 8 (refine wpMix_s (fun K hK => ?_); go_simp; refine hK _ ?_; clear hK K)
              refine wpMix_c (fun K hK => ?_) hS
              go_simp
              refine hK _ _ ?_
              clear hK K
              refine ⟨hS, ?_⟩
              iterate 3 (refine wpMix_s (fun K hK => ?_); go_simp; refine hK _ ?_; clear hK K)
              refine wpMix_nil ?_
              intro _
              have hI := HI.out.step hS
              have hK : Z32.heap[D]? = some (.deferred (some [])) := (hS.block D hDX).trans HKD.out
              have hbX : Below Z32.heap.size Z32 (Z32.alloc (.cells #[.int .i64 ((0 + 1 : Nat) : Int)] 3)) := (Below.refl _ _).alloc (Nat.le_refl _) _
              have hB9 := hI.bel.trans (hbX.mono hI.bel.size)
              have hM9 := ((hI.mks.cons (D := D) (by omega) hK (fun h => by have := hmD D h; omega)).step hbX)
              have hT9 : Blk (Z32.alloc (.cells #[.int .i64 ((0 + 1 : Nat) : Int)] 3)) Z32.heap.size 3 #[.int .i64 ((0 + 1 : Nat) : Int)] := Blk.new _ _ _
              have hgX : w8.heap.size ≤ Z32.heap.size := hI.bel.size
              have r13 : Z32.cell? ⟨gT, 0, none⟩ = some (.int .i64 (0 : Int)) := by rw [hI.bT.cell]; rfl
              have HB10 := Lib.hid hB9
              have HM10 := Lib.hid hM9
              have HT10 := Lib.hid hT9
              clear hB9 hM9 hT9 hbX hI hK q4 q13 q14 G2 HI HKD hS
              go_wp2_with fail
              refine ⟨⟨Z32.heap.size, D :: ds, by rw [List.length_cons, Ht.out]; omega, by first | kernel_rfl | exact ⟨rfl, rfl⟩, HB10.out, by rw [List.length_cons, Ht.out]; exact HT10.out, HM10.out, hgX⟩, ?_⟩
              simp only [List.length_cons, List.length_map, Ht.out]
              omega
          · obtain rfl : t = 2 := by omega
            have k6 := K68.out.below hbel hz68
            have c6 : V.cell? ⟨w1.heap.size, 0, none⟩ = some (.bool false) := by rw [k6.cell]; rfl
            have f6 := k6.frozen 0
            have k6' := k6.set_ 0 (.bool true)
            have hlow : W.heap.size ≤ w8.heap.size := B8.size
            have hM10 : MarksOk W.heap.size ds (V.setCell ⟨w1.heap.size, 0, none⟩ (.bool true)) := ⟨fun D hD => ⟨by have := (hM.at_ D hD).1; omega, ((hM.cell k6 (.bool true)).at_ D hD).2⟩, hM.nd⟩
            have hbE : Below W.heap.size W (V.setCell ⟨w1.heap.size, 0, none⟩ (.bool true)) := (B8.trans (hbel.mono B8.size)).setCell (by show W.heap.size ≤ w1.heap.size; omega) _
            clear hbel hM hT k6
            go_wp2_with fail
            refine leaves_marks (N := W.heap.size) ds _ hM10 fun w' ht => ⟨_, results_cbT rfl _ _ w1.heap.size true rfl (ht.blk _ _ _ k6'), rfl, hbE.trans ht.bel⟩
  clear hc
  have x6 := X5.out.step b6
  have k46 := K45.out.step b6
  have hxz := xsize_any x6
  have q46 : w6.cell? ⟨W.heap.size, 0, none⟩ = some (.pointer (some ⟨gx, 0, none⟩)) := by rw [k46.cell]; rfl
  by_cases hi : inR m fr = true
  · have her := Her.out
    rw [if_pos hi] at her
    have hlv := Hlv.out
    unfold rdL at hlv
    rw [if_pos hi] at hlv
    unfold inR at hi
    simp only [Bool.and_eq_true, decide_eq_true_eq] at hi
    obtain ⟨f, hfe⟩ : ∃ f : Nat, fr = (f : Int) := ⟨fr.toNat, by omega⟩
    subst hfe
    subst her
    rw [Int.toNat_natCast] at hlv
    have hfl : f < m.ents.length := by omega
    have d1 : decide ((f : Int) < 0) = false := by simp
    have d2 : decide ((m.ents.length : Int) ≤ (f : Int)) = false := by simp; omega
    have d3 : decide (m.ents.length ≤ f) = false := by simp; omega
    obtain ⟨Ax, cx, hxe, hxs⟩ := x6.ents
    have hrx := hxs.room
    have hmx := hxs.max
    unfold maxLen at hmx
    obtain ⟨bx, ox, hAx, hblx, -, hatx⟩ := hxs.at_ (by omega)
    obtain ⟨Ap, cp, cep, hsp⟩ := hatx f hfl
    rw [hlv] at cep hsp
    rw [Hnv.out] at cep hsp
    subst hAx
    have hrp := hsp.room
    have hmp := hsp.max
    unfold maxLen at hmp
    have q4 : ∀ s : InC (fun V => Below w6.heap.size w6 V), s.W.cell? ⟨W.heap.size, 0, none⟩ = some (.pointer (some ⟨gx, 0, none⟩)) := fun s => by rw [(k46.step s.ok).cell]; rfl
    have q2 : ∀ s : InC (fun V => Below w6.heap.size w6 V), s.W.cell? ⟨gx, 2, none⟩ = some (.slice (some ⟨bx, ox, none⟩) m.ents.length cx) := fun s => ((x6.step s.ok).cell 2 (by decide)).trans (congrArg some hxe)
    have qe : ∀ s : InC (fun V => Below w6.heap.size w6 V), s.W.cell? ⟨bx, ox + f, none⟩ = some (.slice Ap nv cp) := fun s => (World.cell?_of_block (s.ok.block bx hblx)).trans cep
    have S1 := Lib.hid (fun s : InC (fun V => Below w6.heap.size w6 V) => hsv.step s.ok)
    have S2 := Lib.hid (fun s : InC (fun V => Below w6.heap.size w6 V) => hsp.step s.ok)
    have hS : Below w6.heap.size w6 w6.drew := (Below.refl _ _).drew
    clear x6 k46 hxe hxs hatx cep hsp hsv hO6 hlv
    go_wp2_with (go_at_call 8; refine hxz.mono ?_; rintro e w' ⟨rfl, hw⟩; obtain rfl := hw.symm)
    refine wp_region_mix (fun W => Below w6.heap.size w6 W) [(0, true), (1, true), (2, true), (3, true), (4, true), (5, true), (6, true), (7, true), (8, true), (9, true), (10, true), (11, true), (12, true), (13, true), (14, true)] (by kernel_rfl) (by kernel_rfl) hS fun _ => ?_
    simp only [List.map_cons, List.map_nil, Array.getD_eq_getD_getElem?, List.getElem?_toArray, List.getElem?_cons_succ, List.getElem?_cons_zero, Option.getD_some]
    generalize w6.drew = Z8 at hS ⊢
    iterate 4 (refine wpMix_s (fun K hK => ?_); go_simp; refine hK _ ?_; clear hK K)
    refine wpMix_v (by kernel_rfl) (.string (bstr lv)) (fun s => strM_op (.tmp 96) rfl rfl (S1.out s)) ?_
    simp only [Act.put, List.setIfInBounds_toArray, List.set_cons_succ, List.set_cons_zero]
    iterate 7 (refine wpMix_s (fun K hK => ?_); go_simp; refine hK _ ?_; clear hK K)
    refine wpMix_v (by kernel_rfl) (.string (bstr lv)) (fun s => strM_op (.tmp 104) rfl rfl (S2.out s)) ?_
    simp only [Act.put, List.setIfInBounds_toArray, List.set_cons_succ, List.set_cons_zero]
    refine wpMix_v (by kernel_rfl) (.bool false) (fun s => run_neqstr_fG (.tmp 97) (.tmp 105) _ lv rfl rfl rfl s.W) ?_
    simp only [Act.put, List.setIfInBounds_toArray, List.set_cons_succ, List.set_cons_zero]
    (refine wpMix_s (fun K hK => ?_); go_simp; refine hK _ ?_; clear hK K)
    refine wpMix_nil ?_
    intro _
    clear S1 S2 q4 q2 qe
    go_wp2_with fail
    exact key _ _ (by kernel_rfl) hS
  · have her := Her.out
    rw [if_neg hi] at her
    have hlv := Hlv.out
    unfold rdL at hlv
    rw [if_neg hi] at hlv
    have hn0 : nv = 0 := by rw [← Hnv.out, ← hlv]; rfl
    subst her
    subst hn0
    unfold inR at hi
    simp only [Bool.and_eq_true, decide_eq_true_eq] at hi
    by_cases hneg : fr < 0
    · have d1 : decide (fr < 0) = true := by simpa using hneg
      clear hsv hO6 hlv x6 k46 hxz hi
      go_wp2_with fail
      exact key _ _ (by kernel_rfl) (Below.refl _ _)
    · have d1 : decide (fr < 0) = false := by simpa using hneg
      have d2 : decide ((m.ents.length : Int) ≤ fr) = true := by simp; omega
      clear hsv hO6 hlv x6 k46 hi
      go_wp2_with (go_at_call 8; refine hxz.mono ?_; rintro e w' ⟨rfl, hw⟩; obtain rfl := hw.symm)
      exact key _ _ (by kernel_rfl) (Below.refl _ _)
end Go.Proofs.YtdjhoankkddomaaGreat
