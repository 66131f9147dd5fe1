/- FrontPlays: three fronts under any steps. -/
import Derived.Test.YtonidnfgneokbaaQd235
namespace Go.Proofs.Ytonidnfgneokbaa
open Go Go.RowKit Go.Shelf
attribute [local go_sem] Oper.semAt_some

theorem Blk.neT {W : World} {g g' : Nat} {T T' : TypeId} {cs cs' : Array Value} (h : Blk W g T cs) (h' : Blk W g' T' cs') (hT : T' ≠ T) : g ≠ g' := fun e => by
  subst e
  have e1 : W.heap[g]? = _ := h
  rw [show W.heap[g]? = _ from h'] at e1
  injection e1 with e1
  injection e1 with _ e2 _
  exact hT e2
def tri {α : Type} (a b c : α) : Nat → α := fun i => match i with | 0 => a | 1 => b | _ => c
theorem lt3 {i : Nat} (h : i < 3) : i = 0 ∨ i = 1 ∨ i = 2 := by omega
theorem FrOpt.grownF {W W' : World} {lo r : Nat} {v : Value} {o : Option FrV} (h : FrOpt W lo v o) (hg : W.grownBy W' (some r)) (hr : r < lo) : FrOpt W' lo v o := by
  rcases h with h | ⟨g, ps, h1, h2, h3, h4⟩
  · exact .inl h
  · exact .inr ⟨g, ps, h1, h2, h3, h4.grown hg hr (by omega)⟩
theorem FrPOpt.grownF {W W' : World} {lo r : Nat} {v : Value} {o : Option FrV} (h : FrPOpt W lo v o) (hg : W.grownBy W' (some r)) (hr : r < lo) : FrPOpt W' lo v o := by
  rcases h with h | ⟨g, ps, h1, h2, h3, h4⟩
  · exact .inl h
  · exact .inr ⟨g, ps, h1, h2, h3, h4.grown hg hr (by omega)⟩
set_option maxHeartbeats 32000000 in
set_option maxRecDepth 100000 in
theorem frontPlays_any (size : Int) (hs : List (List UInt8)) (A : Option Addr) (n c : Nat) (ss : List StepD) (A2 : Option Addr) (n2 c2 : Nat) (w : World) (hz : size ≤ 9223372036854775807) (h : Hs w (fun b => b < w.heap.size) A n c hs) (hn : n ≤ 2097152) (hS : Scr w A2 n2 c2 ss) :
    Calls Try.prog 11 #[.agg #[.int .i64 size, .slice A n c], .slice A2 n2 c2] w fun e w' => e = .returned (.bool true) ∧ Below w.heap.size w w' := by
  have hlen := h.len
  have h32 := h.all
  have hroom2 := hS.room
  have hmx2 := hS.max
  unfold maxLen at hmx2
  have hlen2 := hS.len
  obtain ⟨w1, hw1⟩ : ∃ x, w.alloc (.cells #[.int .i64 size, .slice A n c] 85) = x := ⟨_, rfl⟩
  have hb1 : Below w.heap.size w w1 := by rw [← hw1]; exact (Below.refl _ _).alloc (Nat.le_refl _) _
  have k2 : Blk w1 w.heap.size 85 #[.int .i64 size, .slice A n c] := by rw [← hw1]; exact Blk.new _ _ _
  have s1 : w.heap.size < w1.heap.size := k2.lt
  have c20 : w1.cell? ⟨w.heap.size, 0, none⟩ = some (.int .i64 size) := by rw [k2.cell]; rfl
  have c21 : w1.cell? ⟨w.heap.size, 1, none⟩ = some (.slice A n c) := by rw [k2.cell]; rfl
  have hok := fromE_ok size hs h32 hz
  obtain ⟨o0, er, hoe⟩ : ∃ o er, fromE size hs = (o, er) := ⟨_, _, rfl⟩
  have hok0 : ∀ ps, o0 = some ps → FrOk ps := fun ps e => (hok ps (by rw [hoe]; exact e)).1
  have hH := fun W (hb : Below w.heap.size w W) => (h.step hb).weak (Y := fun _ => True) fun _ _ _ => trivial
  have hm := hashes10_any hs A n c w1 (hH w1 hb1) (by omega)
  have Hw1 := Lib.hid hw1
  have Hm := Lib.hid hm
  have HH := Lib.hid hH
  have Hlen := Lib.hid hlen
  have Hlen2 := Lib.hid hlen2
  have HS := Lib.hid hS
  have Hoe := Lib.hid hoe
  have Hok0 := Lib.hid hok0
  clear hw1 hm hH hlen hok hoe hok0 h hS hlen2
  go_enter Try.func11, Try.ntmps11
  go_wp2_with (rw [Hw1.out])
  refine Hm.out.mono ?_
  rintro e w2 ⟨A5, c5, rfl, ho5, hs5, hb2⟩
  have k22 := k2.step hb2
  have hb12 := hb1.trans (hb2.mono hb1.size)
  have d20 : w2.cell? ⟨w.heap.size, 0, none⟩ = some (.int .i64 size) := by rw [k22.cell]; rfl
  have hT := hs5.take n (by omega)
  rw [show (hs ++ [mark77]).take n = hs by rw [← Hlen.out]; simp] at hT
  have hr5 := hs5.sl.room
  have s2 := hb2.size
  clear Hm c20 c21 k2 hb1 hb2
  go_wp2_with fail
  have hcl := ffrom_any size hs A5 n c5 w2 (hT.weak fun _ _ _ => trivial) hz
  rw [Hoe.out] at hcl
  refine hcl.mono ?_
  clear hcl hT d20
  rintro e w3 ⟨v6, rfl, hO6, hb3⟩
  obtain ⟨hF6, hN6⟩ := hO6.hasO Hok0.out
  have k23 := k22.step hb3
  have hb13 := hb12.trans (hb3.mono hb12.size)
  have d20 : w3.cell? ⟨w.heap.size, 0, none⟩ = some (.int .i64 size) := by rw [k23.cell]; rfl
  have d21 : w3.cell? ⟨w.heap.size, 1, none⟩ = some (.slice A n c) := by rw [k23.cell]; rfl
  have s3 := hb3.size
  go_wp2_with fail
  have hcl := rfrom_any size hs A n c w3 (HH.out w3 hb13) hz
  rw [Hoe.out] at hcl
  refine hcl.mono ?_
  clear hcl d20 d21
  rintro e w4 ⟨v8, rfl, hO8, hb4⟩
  obtain ⟨hR8, hN8⟩ := hO8.hasR Hok0.out
  have hb14 := hb13.trans (hb4.mono hb13.size)
  have hF6 := hF6.step hb4
  replace hO6 := hO6.step hb4
  have hs54 := (hs5.step hb3).step hb4
  have ho54 := owns_step (owns_step ho5 hb3) hb4
  have k24 := k23.step hb4
  have d21 : w4.cell? ⟨w.heap.size, 1, none⟩ = some (.slice A n c) := by rw [k24.cell]; rfl
  have s4 := hb4.size
  have hnb : (o0.isNone != o0.isNone) = false := by cases o0 <;> rfl
  go_wp2_with (first
    | (go_at_call 41; refine (num10_any _ _).mono ?_; rintro e wn ⟨rfl, hww⟩; obtain rfl := hww.symm)
    | ((with_reducible show wpList _ _ _ (⟨some 46, .binOp _ _ _ _ _, _, _, _, _⟩ :: _) _ _); refine wpList_runG (by kernel_rfl) (.bool o0.isNone) _ (nil_o hF6 (.tmp 45) _ rfl rfl rfl _) ?_; simp only [Act.put])
    | ((with_reducible show wpList _ _ _ (⟨some 48, .binOp _ _ _ _ _, _, _, _, _⟩ :: _) _ _); refine wpList_runG (by kernel_rfl) (.bool o0.isNone) _ (nil_r hR8 (.tmp 47) _ rfl rfl rfl _) ?_; simp only [Act.put])
    | (go_at_call 61; refine (kept10_any hs A5 A n c5 c w4 (hs54.weak fun _ _ _ => trivial) (HH.out w4 hb14) (by omega)).mono ?_; rintro e w5 ⟨rfl, hb5⟩))
  replace hO6 := hO6.step hb5
  have hO8 := hO8.step hb5
  have ho55 := owns_step ho54 hb5
  have hb15 := hb14.trans (hb5.mono hb14.size)
  have hgm := fun r e => (ho5.lt r e).2
  have hgm1 := fun r e => (ho5.lt r e).1
  have hx99 : x99.length = 32 := x99_32
  have s5 := hb5.size
  clear k22 hb12 hr5 hb3 hF6 hN6 k23 hb13 hb4 hR8 hN8 hb14 hs5 ho5 hs54 ho54 k24 d21 hb5 hnb
  obtain ⟨xs, hxs⟩ : ∃ x, hcells (hs ++ [mark77]) = x := ⟨_, rfl⟩
  rw [hxs] at ho55
  clear hxs
  obtain ⟨lo, hlo⟩ : ∃ x, w2.heap.size = x := ⟨_, rfl⟩
  obtain ⟨lo3, hlo3⟩ : ∃ x, w3.heap.size = x := ⟨_, rfl⟩
  rw [hlo] at hO6 hgm s2
  rw [hlo3] at hO8
  have hlo23 : lo ≤ lo3 := by omega
  have hlow : w.heap.size ≤ lo := by omega
  clear hlo hlo3 s3 s4 s5
  go_loopw [10] (fun v10 wr => ∃ (k : Nat) (xs : List Value), k ≤ n ∧ v10 = .int .i64 (k : Int) ∧ wr.ownsRow w1.heap.size 25 32 (.slice A5 (n + 1) c5) (n + 1) xs ∧ FrOpt wr lo v6 o0 ∧ FrPOpt wr lo3 v8 o0 ∧ Below w.heap.size w wr) (fun v10 _ => n - (intOf v10).toNat)
  case atStart => exact ⟨0, xs, Nat.zero_le _, rfl, ho55, hO6, hO8, hb15⟩
  case round =>
    clear ho55 hO6 hO8 hb15 xs
    obtain ⟨k, xs, hk, rfl, ho5, hO6, hO8, hB⟩ := hrel
    by_cases hkn : k < n
    · have hd : decide ((k : Int) < (n : Int)) = true := by simp; omega
      have hwk : IntKind.i64.wrap ((k : Int) + 1) = (k : Int) + 1 := IntWalk.i64_in _ (by omega)
      obtain ⟨gm, cm, e5, hg5⟩ := owns_someB ho5 (by omega)
      injection e5 with e51 _ e52
      subst e51 e52
      have hgml := hgm gm rfl
      have hgml1 := hgm1 gm rfl
      obtain ⟨cur, hk1, hs1, -, ho5n⟩ := owns_put ho5 k (by omega : k < n + 1) (x99.map B) (by rw [List.length_map]; exact hx99)
      have hgr : wr.grownBy (wr.setRow gm (cur.toList.take (k * 32) ++ (x99.map B).toArray.toList ++ cur.toList.drop (k * 32 + 32)).toArray) (some gm) := grown_setRow (grown_of_below (Below.refl _ _) _) _
      have hO6n := hO6.grownF hgr hgml
      have hO8n := hO8.grownF hgr (by omega)
      have hBn := hB.grown hgr hB.size (fun r e => by have e := Option.some.inj e; omega)
      obtain ⟨W2, hW2⟩ : ∃ x, wr.setRow gm (cur.toList.take (k * 32) ++ (x99.map B).toArray.toList ++ cur.toList.drop (k * 32 + 32)).toArray = x := ⟨_, rfl⟩
      obtain ⟨xs', ho5n⟩ : ∃ xs', W2.ownsRow w1.heap.size 25 32 (.slice (some ⟨gm, 0, none⟩) (n + 1) c5) (n + 1) xs' := ⟨_, by rw [← hW2]; exact ho5n⟩
      rw [hW2] at hO6n hO8n hBn
      have HW2 := Lib.hid hW2
      clear hW2 hgr
      go_wp2_with (first
        | ((with_reducible show wpList _ _ _ (⟨some 66, .build _ _, _, _, _, _⟩ :: _) _ _); refine wpList_run0 rfl (.agg (x99.map B).toArray) (by kernel_rfl) ?_; simp only [Act.put])
        | ((with_reducible show wpList _ _ _ [⟨none, .store _ (.tmp 67) _, _, _, _, _⟩] _ _); refine wpList_store_agg rfl 25 (.tmp 67) (.tmp 66) rfl 32 size26 gm (k * 32) (x99.map B).toArray rfl rfl (by simp [hx99]) (oneCell_B _) 25 cur hk1 hs1 ?_; rw [HW2.out]; simp only [Act.put]))
      go_roundw
      case rel => exact ⟨k + 1, xs', by omega, by go_num, ho5n, hO6n, hO8n, hBn⟩
      case measure => simp [intOf]; omega
    · obtain rfl : k = n := by omega
      have hd : decide ((k : Int) < (k : Int)) = false := by simp
      clear ho5 hgm hgm1
      have hcl := fnew_any wr
      go_wp2_with fail
      refine hcl.mono ?_
      clear hcl
      rintro e w6 ⟨rfl, hN, hb6⟩
      have hO8l := fun b (hb : AtB v8 b) => (hO8.hasR Hok0.out).1.lt hb
      have hO6l := fun b (hb : AtB v6 b) => (hO6.hasO Hok0.out).1.lt hb
      replace hO6 := hO6.step hb6
      replace hO8 := hO8.step hb6
      have hB6 := hB.trans (hb6.mono hB.size)
      have hNl := hN.lt
      have hF6 := (hO6.hasO Hok0.out).1
      have hR8 := (hO8.hasR Hok0.out).1
      have hN6 := (hO6.hasO Hok0.out).2
      have hN8 := (hO8.hasR Hok0.out).2
      go_wp2_with (first
        | ((with_reducible show wpList _ _ _ (⟨some 70, .build _ _, _, _, _, _⟩ :: _) _ _); refine wpList_run0 rfl (.agg #[fptr wr.heap.size, v6, .pointer none]) (build_t3 hF6 wr.heap.size (.tmp 68) (.tmp 69) rfl rfl rfl rfl _) ?_; simp only [Act.put])
        | ((with_reducible show wpList _ _ _ (⟨some 11, .alloc _, _, _, _, _⟩ :: _) _ _); refine wpList_varA (T := 101) (zs := #[.pointer none, .pointer none, .pointer none]) (cs := #[fptr wr.heap.size, v6, .pointer none]) 3 (.tmp 11) (.tmp 70) rfl rfl (by kernel_rfl) sizeT3 rfl rfl rfl rfl rfl (by intro v hv; simp at hv; rcases hv with rfl | rfl | rfl; rfl; exact hF6.one; rfl) ?_; intro w7 k11 hb7; simp only [Act.put])
        | ((with_reducible show wpList _ _ _ (⟨some 71, .build _ _, _, _, _, _⟩ :: _) _ _); refine wpList_run0 rfl (.agg #[.slice none 0 0]) (by kernel_rfl) ?_; simp only [Act.put])
        | ((with_reducible show wpList _ _ _ (⟨some 72, .box _ _, _, _, _, _⟩ :: _) _ _); refine wpList_run rfl (.pointer (some ⟨w7.heap.size, 0, none⟩)) (w7.alloc (.cells #[.slice none 0 0] 91)) (by kernel_rfl) ?_; obtain ⟨w8, hw8⟩ : ∃ x, w7.alloc (.cells #[.slice none 0 0] 91) = x := ⟨_, rfl⟩; have hN0 : FrP w8 w7.heap.size [] := (by rw [← hw8]; exact ⟨none, 0, 0, Blk.new _ _ _, Pcs.empty⟩); have hb8 : Below w7.heap.size w7 w8 := (by rw [← hw8]; exact (Below.refl _ _).alloc (Nat.le_refl _) _); rw [hw8]; clear hw8; have hR88 := (hR8.step hb7).step hb8; simp only [Act.put])
        | ((with_reducible show wpList _ _ _ (⟨some 74, .build _ _, _, _, _, _⟩ :: _) _ _); refine wpList_run0 rfl (.agg #[fptr w7.heap.size, v8, .pointer none]) (build_r3 hR88 w7.heap.size (.tmp 72) (.tmp 73) rfl rfl rfl rfl _) ?_; simp only [Act.put])
        | ((with_reducible show wpList _ _ _ (⟨some 12, .alloc _, _, _, _, _⟩ :: _) _ _); refine wpList_varA (T := 102) (zs := #[.pointer none, .pointer none, .pointer none]) (cs := #[fptr w7.heap.size, v8, .pointer none]) 3 (.tmp 12) (.tmp 74) rfl rfl (by kernel_rfl) sizeR3 rfl rfl rfl rfl rfl (by intro v hv; simp at hv; rcases hv with rfl | rfl | rfl; rfl; exact hR88.one; rfl) ?_; intro w9 k12 hb9; simp only [Act.put]; have k119 := (k11.step hb8).step hb9; have c110 : w9.cell? ⟨w6.heap.size, 0, none⟩ = some (fptr wr.heap.size) := (by rw [k119.cell]; rfl)))
      have hI : PlI w w6.heap.size w8.heap.size (tri (fptr wr.heap.size) v6 (.pointer none)) (tri (fptr w7.heap.size) v8 (.pointer none)) (tri (some []) o0 none) w9 := by
        have z6 := hB6.size
        have z7 := hb7.size
        have z8 := hb8.size
        have z9 := hb9.size
        have zr := hB.size
        refine ⟨k119, k12, fun i hi => ?_, fun i hi => ?_, fun i j hi hj hij b hb hb' => ?_, fun i j hi hj hij b hb hb' => ?_, fun i hi b hb => ?_, ((hB6.trans (hb7.mono z6)).trans (hb8.mono (by omega))).trans (hb9.mono (by omega)), z6, by omega⟩
        · rcases lt3 hi with rfl | rfl | rfl
          · exact .inr ⟨_, _, rfl, rfl, ((hN.step hb7).step hb8).step hb9, frOk_nil⟩
          · exact ((hF6.step hb7).step hb8).step hb9
          · exact .inl ⟨rfl, rfl⟩
        · rcases lt3 hi with rfl | rfl | rfl
          · exact .inr ⟨_, _, rfl, rfl, hN0.step hb9, frOk_nil⟩
          · exact hR88.step hb9
          · exact .inl ⟨rfl, rfl⟩
        · rcases lt3 hi with rfl | rfl | rfl <;> rcases lt3 hj with rfl | rfl | rfl <;> first
            | exact absurd rfl hij
            | (cases hb; have := hO6l _ hb'; omega)
            | (cases hb'; have := hO6l _ hb; omega)
            | (cases hb; done)
            | (cases hb'; done)
        · rcases lt3 hi with rfl | rfl | rfl <;> rcases lt3 hj with rfl | rfl | rfl <;> first
            | exact absurd rfl hij
            | (cases hb; have := hO8l _ hb'; omega)
            | (cases hb'; have := hO8l _ hb; omega)
            | (cases hb; done)
            | (cases hb'; done)
        · rcases lt3 hi with rfl | rfl | rfl
          · rcases hb with hb | hb
            · cases hb; omega
            · cases hb; omega
          · rcases hb with hb | hb
            · have := hN6 b hb; omega
            · have := hN8 b hb; omega
          · rcases hb with hb | hb <;> cases hb
      obtain ⟨tv0, htv0⟩ : ∃ x, tri (fptr wr.heap.size) v6 (.pointer none) = x := ⟨_, rfl⟩
      obtain ⟨rv0, hrv0⟩ : ∃ x, tri (fptr w7.heap.size) v8 (.pointer none) = x := ⟨_, rfl⟩
      obtain ⟨oo0, hoo0⟩ : ∃ x, tri (some []) o0 none = x := ⟨_, rfl⟩
      rw [htv0, hrv0, hoo0] at hI
      clear htv0 hrv0 hoo0 hN hb6 hO6 hO8 hB6 hNl hO8l hO6l hF6 hR8 hN6 hN8 k11 k12 hb7 hb8 hb9 hN0 hR88 k119 c110 hB
      obtain ⟨g11, hg11⟩ : ∃ x, w6.heap.size = x := ⟨_, rfl⟩
      obtain ⟨g12, hg12⟩ : ∃ x, w8.heap.size = x := ⟨_, rfl⟩
      rw [hg11, hg12] at hI
      rw [hg11, hg12]
      clear hg11 hg12
      refine wp_loop_us (fun us a W => ∃ (i : Nat) (tv rv : Nat → Value) (o : Nat → Option FrV), i ≤ n2 ∧ i ≤ 300 ∧ a = { tmps := #[us 0, .slice A2 n2 c2, us 2, us 3, us 4, us 5, us 6, us 7, us 8, us 9, us 10, .pointer (some ⟨g11, 0, none⟩), .pointer (some ⟨g12, 0, none⟩), .int .i64 (i : Int), us 14, us 15, us 16, us 17, us 18, us 19, us 20, us 21, us 22, us 23, us 24, us 25, us 26, us 27, us 28, us 29, us 30, us 31, us 32, us 33, us 34, us 35, us 36, us 37, us 38, us 39, us 40, us 41, us 42, us 43, us 44, us 45, us 46, us 47, us 48, us 49, us 50, us 51, us 52, us 53, us 54, us 55, us 56, us 57, us 58, us 59, us 60, us 61, us 62, us 63, us 64, us 65, us 66, us 67, us 68, us 69, us 70, us 71, us 72, us 73, us 74, us 75, us 76, us 77, us 78, us 79, us 80, us 81, us 82, us 83, us 84, us 85, us 86, us 87, us 88, us 89, us 90, us 91, us 92, us 93, us 94, us 95, us 96, us 97, us 98, us 99, us 100, us 101, us 102, us 103, us 104, us 105, us 106, us 107, us 108, us 109, us 110, us 111, us 112, us 113, us 114, us 115, us 116, us 117, us 118, us 119, us 120, us 121, us 122, us 123, us 124, us 125, us 126, us 127, us 128, us 129, us 130, us 131, us 132, us 133, us 134, us 135, us 136, us 137, us 138, us 139, us 140, us 141, us 142, us 143, us 144, us 145, us 146, us 147, us 148, us 149, us 150, us 151, us 152, us 153, us 154, us 155, us 156, us 157, us 158, us 159, us 160, us 161, us 162, us 163, us 164, us 165, us 166, us 167, us 168, us 169, us 170, us 171, us 172, us 173, us 174, us 175, us 176, us 177, us 178, us 179, us 180, us 181, us 182, us 183, us 184, us 185, us 186, us 187, us 188, us 189, us 190, us 191, us 192, us 193, us 194, us 195, us 196, us 197, us 198, us 199, us 200, us 201, us 202, us 203, us 204, us 205, us 206, us 207, us 208], defers := [] } ∧ PlI w g11 g12 tv rv o W) (fun a _ => n2 - (intOf (a.tmps.toList.getD 13 undef)).toNat) ?_ ?_
      · exact ⟨0, _, _, _, Nat.zero_le _, Nat.zero_le _, by kernel_rfl, hI⟩
      · clear hI
        rintro us0 a wr ⟨i, tv, rv, o, hi, hi3, rfl, hI⟩
        by_cases hgo : i < n2 ∧ i < 300
        · obtain ⟨hin, hi300⟩ := hgo
          have hd1 : decide ((i : Int) < (n2 : Int)) = true := by simp; omega
          have hd2 : decide ((i : Int) < 300) = true := by simp; omega
          have hil : i < ss.length := by rw [Hlen2.out]; exact hin
          obtain ⟨b, o', hA2, hbl, -⟩ := HS.out.at_ i hil
          subst hA2
          obtain ⟨s, hs_⟩ : ∃ s, ss[i] = s := ⟨_, rfl⟩
          have hld := fun W (hb : Below w.heap.size w W) => HS.out.load hb i hil rfl
          rw [hs_] at hld
          have hin' := HS.out.ins s (by rw [← hs_]; exact List.getElem_mem hil)
          have Hld := Lib.hid hld
          have Hin := Lib.hid hin'
          clear hld hin' hs_
          go_upto_region 18 with (first
            | ((with_reducible show wpList _ _ _ (⟨some 91, .load _ _, _, _, _, _⟩ :: _) _ _); refine wpList_runG (by kernel_rfl) (.agg s.cells) _ (run_load_op 96 (.tmp 90) rfl b (o' + i * 7) rfl _ (Hld.out _ hI.bel)) ?_; simp only [Act.put])
            | ((with_reducible show wpList _ _ _ (⟨some 14, .alloc _, _, _, _, _⟩ :: _) _ _); refine wpList_varA (T := 96) (zs := #[.int .i64 0, .int .i64 0, .int .i64 0, .int .i64 0, .int .i64 0, .slice none 0 0, .slice none 0 0]) (cs := s.cells) 7 (.tmp 14) (.tmp 91) rfl rfl (by kernel_rfl) sizeStep rfl rfl rfl rfl rfl s.one ?_; intro W1 k14 hb14; simp only [Act.put]))
          replace hI := hI.step hb14
          have hg14 := k14.lt
          have hg14z := hI.bel.size
          obtain ⟨g14, hg14e⟩ : ∃ x, wr.heap.size = x := ⟨_, rfl⟩
          rw [hg14e] at k14 hg14 ⊢
          clear hg14e hb14
          have c1 : ∀ s' : InC (fun W => Below W1.heap.size W1 W), s'.W.cell? ⟨g14, 1, none⟩ = some (.int .i64 s.wh) := fun s' => by rw [(k14.step s'.ok).cell]; rfl
          have c2' : ∀ s' : InC (fun W => Below W1.heap.size W1 W), s'.W.cell? ⟨g14, 2, none⟩ = some (.int .i64 s.tv) := fun s' => by rw [(k14.step s'.ok).cell]; rfl
          have hS : Below W1.heap.size W1 W1.drew := (Below.refl _ _).drew
          refine wp_region_mix (fun W => Below W1.heap.size W1 W) [(0, true), (1, true), (3, true), (4, true), (2, false), (5, false), (6, true), (7, true)] (by kernel_rfl) (by kernel_rfl) hS fun _ => ?_
          simp only [List.map_cons, List.map_nil, Array.getD_eq_getD_getElem?, List.getElem?_toArray, List.getElem?_cons_succ, List.getElem?_cons_zero, Option.getD_some]
          generalize W1.drew = u0 at hS ⊢
          refine wpMix_s (fun K hK => ?_)
          go_simp
          refine hK _ ?_
          clear hK K
          refine wpMix_s (fun K hK => ?_)
          go_simp
          refine hK _ ?_
          clear hK K
          refine wpMix_s (fun K hK => ?_)
          go_simp
          refine hK _ ?_
          clear hK K
          refine wpMix_s (fun K hK => ?_)
          go_simp
          refine hK _ ?_
          clear hK K
          refine wpMix_c (fun K hK => ?_) hS
          go_simp
          refine (place_any _ u0).mono ?_
          rintro e u0e ⟨rfl, hww⟩
          obtain rfl := hww.symm
          refine hK _ _ ?_
          clear hK K
          refine ⟨hS, ?_⟩
          refine wpMix_c (fun K hK => ?_) hS
          go_simp
          refine (place_any _ u0).mono ?_
          rintro e u0e ⟨rfl, hww⟩
          obtain rfl := hww.symm
          refine hK _ _ ?_
          clear hK K
          refine ⟨hS, ?_⟩
          refine wpMix_s (fun K hK => ?_)
          go_simp
          refine hK _ ?_
          clear hK K
          refine wpMix_s (fun K hK => ?_)
          go_simp
          refine hK _ ?_
          clear hK K
          refine wpMix_nil ?_
          intro _
          replace hI := hI.step hS
          replace k14 := k14.step hS
          have hwho := plN_lt s.wh
          have hto := plN_lt s.tv
          obtain ⟨who, hwhoe⟩ : ∃ x, plN s.wh = x := ⟨_, rfl⟩
          obtain ⟨to_, htoe⟩ : ∃ x, plN s.tv = x := ⟨_, rfl⟩
          rw [hwhoe] at hwho ⊢
          rw [htoe] at hto ⊢
          clear hwhoe htoe c1 c2' hS
          have hwho3 : (who : Int) < 3 := by omega
          have hto3 : (to_ : Int) < 3 := by omega
          have c0 : u0.cell? ⟨g14, 0, none⟩ = some (.int .i64 s.kd) := by rw [k14.cell]; rfl
          go_upto_region 20 with fail
          rename_i Kc hc K0 h0
          have key : ∀ (a : Act) (tv rv : Nat → Value) (o : Nat → Option FrV) (W : World), a = { tmps := #[(fun j => a.tmps.toList.getD j undef) 0, .slice (some ⟨b, o', none⟩) n2 c2, (fun j => a.tmps.toList.getD j undef) 2, (fun j => a.tmps.toList.getD j undef) 3, (fun j => a.tmps.toList.getD j undef) 4, (fun j => a.tmps.toList.getD j undef) 5, (fun j => a.tmps.toList.getD j undef) 6, (fun j => a.tmps.toList.getD j undef) 7, (fun j => a.tmps.toList.getD j undef) 8, (fun j => a.tmps.toList.getD j undef) 9, (fun j => a.tmps.toList.getD j undef) 10, .pointer (some ⟨g11, 0, none⟩), .pointer (some ⟨g12, 0, none⟩), .int .i64 (i : Int), .pointer (some ⟨g14, 0, none⟩), .int .i64 (who : Int), .int .i64 (to_ : Int), (fun j => a.tmps.toList.getD j undef) 17, (fun j => a.tmps.toList.getD j undef) 18, (fun j => a.tmps.toList.getD j undef) 19, (fun j => a.tmps.toList.getD j undef) 20, (fun j => a.tmps.toList.getD j undef) 21, (fun j => a.tmps.toList.getD j undef) 22, (fun j => a.tmps.toList.getD j undef) 23, (fun j => a.tmps.toList.getD j undef) 24, (fun j => a.tmps.toList.getD j undef) 25, (fun j => a.tmps.toList.getD j undef) 26, (fun j => a.tmps.toList.getD j undef) 27, (fun j => a.tmps.toList.getD j undef) 28, (fun j => a.tmps.toList.getD j undef) 29, (fun j => a.tmps.toList.getD j undef) 30, (fun j => a.tmps.toList.getD j undef) 31, (fun j => a.tmps.toList.getD j undef) 32, (fun j => a.tmps.toList.getD j undef) 33, (fun j => a.tmps.toList.getD j undef) 34, (fun j => a.tmps.toList.getD j undef) 35, (fun j => a.tmps.toList.getD j undef) 36, (fun j => a.tmps.toList.getD j undef) 37, (fun j => a.tmps.toList.getD j undef) 38, (fun j => a.tmps.toList.getD j undef) 39, (fun j => a.tmps.toList.getD j undef) 40, (fun j => a.tmps.toList.getD j undef) 41, (fun j => a.tmps.toList.getD j undef) 42, (fun j => a.tmps.toList.getD j undef) 43, (fun j => a.tmps.toList.getD j undef) 44, (fun j => a.tmps.toList.getD j undef) 45, (fun j => a.tmps.toList.getD j undef) 46, (fun j => a.tmps.toList.getD j undef) 47, (fun j => a.tmps.toList.getD j undef) 48, (fun j => a.tmps.toList.getD j undef) 49, (fun j => a.tmps.toList.getD j undef) 50, (fun j => a.tmps.toList.getD j undef) 51, (fun j => a.tmps.toList.getD j undef) 52, (fun j => a.tmps.toList.getD j undef) 53, (fun j => a.tmps.toList.getD j undef) 54, (fun j => a.tmps.toList.getD j undef) 55, (fun j => a.tmps.toList.getD j undef) 56, (fun j => a.tmps.toList.getD j undef) 57, (fun j => a.tmps.toList.getD j undef) 58, (fun j => a.tmps.toList.getD j undef) 59, (fun j => a.tmps.toList.getD j undef) 60, (fun j => a.tmps.toList.getD j undef) 61, (fun j => a.tmps.toList.getD j undef) 62, (fun j => a.tmps.toList.getD j undef) 63, (fun j => a.tmps.toList.getD j undef) 64, (fun j => a.tmps.toList.getD j undef) 65, (fun j => a.tmps.toList.getD j undef) 66, (fun j => a.tmps.toList.getD j undef) 67, (fun j => a.tmps.toList.getD j undef) 68, (fun j => a.tmps.toList.getD j undef) 69, (fun j => a.tmps.toList.getD j undef) 70, (fun j => a.tmps.toList.getD j undef) 71, (fun j => a.tmps.toList.getD j undef) 72, (fun j => a.tmps.toList.getD j undef) 73, (fun j => a.tmps.toList.getD j undef) 74, (fun j => a.tmps.toList.getD j undef) 75, (fun j => a.tmps.toList.getD j undef) 76, (fun j => a.tmps.toList.getD j undef) 77, (fun j => a.tmps.toList.getD j undef) 78, (fun j => a.tmps.toList.getD j undef) 79, (fun j => a.tmps.toList.getD j undef) 80, (fun j => a.tmps.toList.getD j undef) 81, (fun j => a.tmps.toList.getD j undef) 82, (fun j => a.tmps.toList.getD j undef) 83, (fun j => a.tmps.toList.getD j undef) 84, (fun j => a.tmps.toList.getD j undef) 85, (fun j => a.tmps.toList.getD j undef) 86, (fun j => a.tmps.toList.getD j undef) 87, (fun j => a.tmps.toList.getD j undef) 88, (fun j => a.tmps.toList.getD j undef) 89, (fun j => a.tmps.toList.getD j undef) 90, (fun j => a.tmps.toList.getD j undef) 91, (fun j => a.tmps.toList.getD j undef) 92, (fun j => a.tmps.toList.getD j undef) 93, (fun j => a.tmps.toList.getD j undef) 94, (fun j => a.tmps.toList.getD j undef) 95, (fun j => a.tmps.toList.getD j undef) 96, (fun j => a.tmps.toList.getD j undef) 97, (fun j => a.tmps.toList.getD j undef) 98, (fun j => a.tmps.toList.getD j undef) 99, (fun j => a.tmps.toList.getD j undef) 100, (fun j => a.tmps.toList.getD j undef) 101, (fun j => a.tmps.toList.getD j undef) 102, (fun j => a.tmps.toList.getD j undef) 103, (fun j => a.tmps.toList.getD j undef) 104, (fun j => a.tmps.toList.getD j undef) 105, (fun j => a.tmps.toList.getD j undef) 106, (fun j => a.tmps.toList.getD j undef) 107, (fun j => a.tmps.toList.getD j undef) 108, (fun j => a.tmps.toList.getD j undef) 109, (fun j => a.tmps.toList.getD j undef) 110, (fun j => a.tmps.toList.getD j undef) 111, (fun j => a.tmps.toList.getD j undef) 112, (fun j => a.tmps.toList.getD j undef) 113, (fun j => a.tmps.toList.getD j undef) 114, (fun j => a.tmps.toList.getD j undef) 115, (fun j => a.tmps.toList.getD j undef) 116, (fun j => a.tmps.toList.getD j undef) 117, (fun j => a.tmps.toList.getD j undef) 118, (fun j => a.tmps.toList.getD j undef) 119, (fun j => a.tmps.toList.getD j undef) 120, (fun j => a.tmps.toList.getD j undef) 121, (fun j => a.tmps.toList.getD j undef) 122, (fun j => a.tmps.toList.getD j undef) 123, (fun j => a.tmps.toList.getD j undef) 124, (fun j => a.tmps.toList.getD j undef) 125, (fun j => a.tmps.toList.getD j undef) 126, (fun j => a.tmps.toList.getD j undef) 127, (fun j => a.tmps.toList.getD j undef) 128, (fun j => a.tmps.toList.getD j undef) 129, (fun j => a.tmps.toList.getD j undef) 130, (fun j => a.tmps.toList.getD j undef) 131, (fun j => a.tmps.toList.getD j undef) 132, (fun j => a.tmps.toList.getD j undef) 133, (fun j => a.tmps.toList.getD j undef) 134, (fun j => a.tmps.toList.getD j undef) 135, (fun j => a.tmps.toList.getD j undef) 136, (fun j => a.tmps.toList.getD j undef) 137, (fun j => a.tmps.toList.getD j undef) 138, (fun j => a.tmps.toList.getD j undef) 139, (fun j => a.tmps.toList.getD j undef) 140, (fun j => a.tmps.toList.getD j undef) 141, (fun j => a.tmps.toList.getD j undef) 142, (fun j => a.tmps.toList.getD j undef) 143, (fun j => a.tmps.toList.getD j undef) 144, (fun j => a.tmps.toList.getD j undef) 145, (fun j => a.tmps.toList.getD j undef) 146, (fun j => a.tmps.toList.getD j undef) 147, (fun j => a.tmps.toList.getD j undef) 148, (fun j => a.tmps.toList.getD j undef) 149, (fun j => a.tmps.toList.getD j undef) 150, (fun j => a.tmps.toList.getD j undef) 151, (fun j => a.tmps.toList.getD j undef) 152, (fun j => a.tmps.toList.getD j undef) 153, (fun j => a.tmps.toList.getD j undef) 154, (fun j => a.tmps.toList.getD j undef) 155, (fun j => a.tmps.toList.getD j undef) 156, (fun j => a.tmps.toList.getD j undef) 157, (fun j => a.tmps.toList.getD j undef) 158, (fun j => a.tmps.toList.getD j undef) 159, (fun j => a.tmps.toList.getD j undef) 160, (fun j => a.tmps.toList.getD j undef) 161, (fun j => a.tmps.toList.getD j undef) 162, (fun j => a.tmps.toList.getD j undef) 163, (fun j => a.tmps.toList.getD j undef) 164, (fun j => a.tmps.toList.getD j undef) 165, (fun j => a.tmps.toList.getD j undef) 166, (fun j => a.tmps.toList.getD j undef) 167, (fun j => a.tmps.toList.getD j undef) 168, (fun j => a.tmps.toList.getD j undef) 169, (fun j => a.tmps.toList.getD j undef) 170, (fun j => a.tmps.toList.getD j undef) 171, (fun j => a.tmps.toList.getD j undef) 172, (fun j => a.tmps.toList.getD j undef) 173, (fun j => a.tmps.toList.getD j undef) 174, (fun j => a.tmps.toList.getD j undef) 175, (fun j => a.tmps.toList.getD j undef) 176, (fun j => a.tmps.toList.getD j undef) 177, (fun j => a.tmps.toList.getD j undef) 178, (fun j => a.tmps.toList.getD j undef) 179, (fun j => a.tmps.toList.getD j undef) 180, (fun j => a.tmps.toList.getD j undef) 181, (fun j => a.tmps.toList.getD j undef) 182, (fun j => a.tmps.toList.getD j undef) 183, (fun j => a.tmps.toList.getD j undef) 184, (fun j => a.tmps.toList.getD j undef) 185, (fun j => a.tmps.toList.getD j undef) 186, (fun j => a.tmps.toList.getD j undef) 187, (fun j => a.tmps.toList.getD j undef) 188, (fun j => a.tmps.toList.getD j undef) 189, (fun j => a.tmps.toList.getD j undef) 190, (fun j => a.tmps.toList.getD j undef) 191, (fun j => a.tmps.toList.getD j undef) 192, (fun j => a.tmps.toList.getD j undef) 193, (fun j => a.tmps.toList.getD j undef) 194, (fun j => a.tmps.toList.getD j undef) 195, (fun j => a.tmps.toList.getD j undef) 196, (fun j => a.tmps.toList.getD j undef) 197, (fun j => a.tmps.toList.getD j undef) 198, (fun j => a.tmps.toList.getD j undef) 199, (fun j => a.tmps.toList.getD j undef) 200, (fun j => a.tmps.toList.getD j undef) 201, (fun j => a.tmps.toList.getD j undef) 202, (fun j => a.tmps.toList.getD j undef) 203, (fun j => a.tmps.toList.getD j undef) 204, (fun j => a.tmps.toList.getD j undef) 205, (fun j => a.tmps.toList.getD j undef) 206, (fun j => a.tmps.toList.getD j undef) 207, (fun j => a.tmps.toList.getD j undef) 208], defers := [] } → PlI w g11 g12 tv rv o W → Blk W g14 96 s.cells → Kc a W := by
            clear h0 hI k14 c0 tv rv o
            intro a tv rv o W ha hI k14
            obtain ⟨us, hus⟩ : ∃ us, (fun j => a.tmps.toList.getD j undef) = us := ⟨_, rfl⟩
            replace ha : a = { tmps := #[us 0, .slice (some ⟨b, o', none⟩) n2 c2, us 2, us 3, us 4, us 5, us 6, us 7, us 8, us 9, us 10, .pointer (some ⟨g11, 0, none⟩), .pointer (some ⟨g12, 0, none⟩), .int .i64 (i : Int), .pointer (some ⟨g14, 0, none⟩), .int .i64 (who : Int), .int .i64 (to_ : Int), us 17, us 18, us 19, us 20, us 21, us 22, us 23, us 24, us 25, us 26, us 27, us 28, us 29, us 30, us 31, us 32, us 33, us 34, us 35, us 36, us 37, us 38, us 39, us 40, us 41, us 42, us 43, us 44, us 45, us 46, us 47, us 48, us 49, us 50, us 51, us 52, us 53, us 54, us 55, us 56, us 57, us 58, us 59, us 60, us 61, us 62, us 63, us 64, us 65, us 66, us 67, us 68, us 69, us 70, us 71, us 72, us 73, us 74, us 75, us 76, us 77, us 78, us 79, us 80, us 81, us 82, us 83, us 84, us 85, us 86, us 87, us 88, us 89, us 90, us 91, us 92, us 93, us 94, us 95, us 96, us 97, us 98, us 99, us 100, us 101, us 102, us 103, us 104, us 105, us 106, us 107, us 108, us 109, us 110, us 111, us 112, us 113, us 114, us 115, us 116, us 117, us 118, us 119, us 120, us 121, us 122, us 123, us 124, us 125, us 126, us 127, us 128, us 129, us 130, us 131, us 132, us 133, us 134, us 135, us 136, us 137, us 138, us 139, us 140, us 141, us 142, us 143, us 144, us 145, us 146, us 147, us 148, us 149, us 150, us 151, us 152, us 153, us 154, us 155, us 156, us 157, us 158, us 159, us 160, us 161, us 162, us 163, us 164, us 165, us 166, us 167, us 168, us 169, us 170, us 171, us 172, us 173, us 174, us 175, us 176, us 177, us 178, us 179, us 180, us 181, us 182, us 183, us 184, us 185, us 186, us 187, us 188, us 189, us 190, us 191, us 192, us 193, us 194, us 195, us 196, us 197, us 198, us 199, us 200, us 201, us 202, us 203, us 204, us 205, us 206, us 207, us 208], defers := [] } := by rw [← hus]; exact ha
            clear hus
            subst ha
            refine hc _ _ ?_
            clear hc
            have hFw := hI.ho who hwho
            have hRw := hI.hr who hwho
            have hFt := hI.ho to_ hto
            have hRt := hI.hr to_ hto
            obtain ⟨nm1, nm2⟩ := hI.notM who hwho
            have nm3 : ¬ MfM (tv who) (rv who) g14 := fun e => e.elim (hFw.neT k14 (by decide)) (hRw.neT k14 (by decide))
            obtain ⟨fw, hfw⟩ : ∃ x, tv who = x := ⟨_, rfl⟩
            obtain ⟨rw', hrw'⟩ : ∃ x, rv who = x := ⟨_, rfl⟩
            obtain ⟨ft, hft⟩ : ∃ x, tv to_ = x := ⟨_, rfl⟩
            obtain ⟨rt, hrt⟩ : ∃ x, rv to_ = x := ⟨_, rfl⟩
            obtain ⟨qo, hqo⟩ : ∃ x, o who = x := ⟨_, rfl⟩
            obtain ⟨qt, hqt⟩ : ∃ x, o to_ = x := ⟨_, rfl⟩
            have hnb : (qt.isNone != qt.isNone) = false := by cases qt <;> rfl
            have ct := hI.cellT who hwho
            have cr := hI.cellR who hwho
            have ct' := hI.cellT to_ hto
            have cr' := hI.cellR to_ hto
            rw [hfw] at hFw nm1 nm2 nm3 ct
            rw [hrw'] at hRw nm1 nm2 nm3 cr
            rw [hft] at hFt ct'
            rw [hrt] at hRt cr'
            rw [hqo] at hFw hRw
            rw [hqt] at hFt hRt
            have hne := hFw.apartR hRw
            have C1 : ∀ s' : InC (KB (MfM fw rw') W), s'.W.cell? ⟨g11, who, none⟩ = some fw := fun s' => s'.ok.keepC.cell ct nm1
            have C2 : ∀ s' : InC (KB (MfM fw rw') W), s'.W.cell? ⟨g12, who, none⟩ = some rw' := fun s' => s'.ok.keepC.cell cr nm2
            have C3 : ∀ s' : InC (KB (MfM fw rw') W), s'.W.cell? ⟨g11, to_, none⟩ = some ft := fun s' => s'.ok.keepC.cell ct' nm1
            have C4 : ∀ s' : InC (KB (MfM fw rw') W), s'.W.cell? ⟨g12, to_, none⟩ = some rt := fun s' => s'.ok.keepC.cell cr' nm2
            have L14 := Lib.hid (fun s' : InC (KB (MfM fw rw') W) => load_step (s'.ok.blk k14 nm3))
            obtain ⟨hin1, hin2, hin3, hin4, hin5⟩ := Hin.out
            have hcall := fun X (hb : Below W.heap.size W X) => comes_any fw rw' qo s.kd s.wh s.tv s.lv s.N s.es s.hs s.eA s.en s.ec s.hA s.hn s.hc X (hFw.step hb) (hRw.step hb) hne
              (((hin1.step hI.bel).step hb).weak fun b _ hb' hM => by have hb' : b < w.heap.size := hb'; have := hI.lt who hwho b (by rw [hfw, hrw']; exact hM); omega) (((hin2.step hI.bel).step hb).weak fun _ _ _ => trivial) hin3 hin4 hin5
            have Hcall := Lib.hid hcall
            have hSb : Below W.heap.size W W.drew := (Below.refl _ _).drew
            have hS : KB (MfM fw rw') W W.drew := KB.of_below hSb
            clear hcall hin1 hin2 hin3 hin4 hin5 ct cr ct' cr' hFw hRw
            go_wp2_with fail
            refine wp_region_mix (KB (MfM fw rw') W) [(0, true), (1, true), (2, true), (3, true), (4, true), (5, true), (6, true), (7, true), (8, true), (9, true), (10, true), (11, true), (12, true), (13, true), (14, true), (15, true), (16, true), (17, false), (18, true), (19, true)] (by kernel_rfl) (by kernel_rfl) hS fun _ => ?_
            simp only [List.map_cons, List.map_nil, Array.getD_eq_getD_getElem?, List.getElem?_toArray, List.getElem?_cons_succ, List.getElem?_cons_zero, Option.getD_some]
            generalize W.drew = u1 at hS hSb ⊢
            refine wpMix_s (fun K hK => ?_)
            go_simp
            refine hK _ ?_
            clear hK K
            refine wpMix_s (fun K hK => ?_)
            go_simp
            refine hK _ ?_
            clear hK K
            refine wpMix_s (fun K hK => ?_)
            go_simp
            refine hK _ ?_
            clear hK K
            refine wpMix_v (by kernel_rfl) (.bool qt.isNone) (fun s => nil_o hFt (.tmp 168) _ rfl rfl rfl s.W) ?_
            simp only [Act.put]
            refine wpMix_s (fun K hK => ?_)
            go_simp
            refine hK _ ?_
            clear hK K
            refine wpMix_s (fun K hK => ?_)
            go_simp
            refine hK _ ?_
            clear hK K
            refine wpMix_s (fun K hK => ?_)
            go_simp
            refine hK _ ?_
            clear hK K
            refine wpMix_v (by kernel_rfl) (.bool qt.isNone) (fun s => nil_r hRt (.tmp 172) _ rfl rfl rfl s.W) ?_
            simp only [Act.put]
            refine wpMix_s (fun K hK => ?_)
            go_simp
            refine hK _ ?_
            clear hK K
            refine wpMix_s (fun K hK => ?_)
            go_simp
            refine hK _ ?_
            clear hK K
            refine wpMix_s (fun K hK => ?_)
            go_simp
            refine hK _ ?_
            clear hK K
            refine wpMix_s (fun K hK => ?_)
            go_simp
            refine hK _ ?_
            clear hK K
            refine wpMix_s (fun K hK => ?_)
            go_simp
            refine hK _ ?_
            clear hK K
            refine wpMix_s (fun K hK => ?_)
            go_simp
            refine hK _ ?_
            clear hK K
            refine wpMix_s (fun K hK => ?_)
            go_simp
            refine hK _ ?_
            clear hK K
            refine wpMix_s (fun K hK => ?_)
            go_simp
            refine hK _ ?_
            clear hK K
            refine wpMix_load (by kernel_rfl) 96 (.tmp 14) rfl (g14) (0) rfl s.cells (L14.out) ?_
            simp only [Act.put]
            refine wpMix_c (fun K hK => ?_) hS
            go_simp
            refine (Hcall.out u1 hSb).mono ?_
            rintro e u1X ⟨rfl, hF4, hR4, hK4⟩
            refine hK _ _ ?_
            clear hK K
            refine ⟨hS.trans hK4, ?_⟩
            refine wpMix_s (fun K hK => ?_)
            go_simp
            refine hK _ ?_
            clear hK K
            refine wpMix_s (fun K hK => ?_)
            go_simp
            refine hK _ ?_
            clear hK K
            refine wpMix_nil ?_
            intro _
            have hI4 := hI.turn who hwho (q := qo.map (stepE s.kd s.lv s.es s.hs)) (W' := u1X) (by rw [hfw, hrw']; exact (KB.of_below hSb).trans hK4) (by rw [hfw]; exact hF4) (by rw [hrw']; exact hR4)
            have hwi : IntKind.i64.wrap ((i : Int) + 1) = (i : Int) + 1 := IntWalk.i64_in _ (by omega)
            have HI4 := Lib.hid hI4
            clear hI4 hF4 hR4 hK4 hS hSb C1 C2 C3 C4 hFt hRt hI
            go_wp2_with fail
            refine ⟨⟨i + 1, tv, rv, _, by omega, by omega, by kernel_rfl, HI4.out⟩, ?_⟩
            simp [intOf]
            omega
          clear hc
          by_cases h6 : s.kd = 6
          · have d6 : (s.kd == 6) = true := by simpa using h6
            have hFw := hI.ho who hwho
            have hRw := hI.hr who hwho
            have hFt := hI.ho to_ hto
            have hRt := hI.hr to_ hto
            have ct := fun W (hb : Below u0.heap.size u0 W) => (hI.step hb).cellT who hwho
            have cr := fun W (hb : Below u0.heap.size u0 W) => (hI.step hb).cellR who hwho
            have ct' := fun W (hb : Below u0.heap.size u0 W) => (hI.step hb).cellT to_ hto
            have cr' := fun W (hb : Below u0.heap.size u0 W) => (hI.step hb).cellR to_ hto
            obtain ⟨fw, hfw⟩ : ∃ x, tv who = x := ⟨_, rfl⟩
            obtain ⟨rw', hrw'⟩ : ∃ x, rv who = x := ⟨_, rfl⟩
            obtain ⟨ft, hft⟩ : ∃ x, tv to_ = x := ⟨_, rfl⟩
            obtain ⟨rt, hrt⟩ : ∃ x, rv to_ = x := ⟨_, rfl⟩
            obtain ⟨qo, hqo⟩ : ∃ x, o who = x := ⟨_, rfl⟩
            obtain ⟨qt, hqt⟩ : ∃ x, o to_ = x := ⟨_, rfl⟩
            rw [hfw, hqo] at hFw
            rw [hrw', hqo] at hRw
            rw [hft, hqt] at hFt
            rw [hrt, hqt] at hRt
            rw [hfw] at ct
            rw [hrw'] at cr
            rw [hft] at ct'
            rw [hrt] at cr'
            clear hfw hrw' hft hrt hqo hqt
            have Ct := Lib.hid ct
            have Cr := Lib.hid cr
            have Ct' := Lib.hid ct'
            have Cr' := Lib.hid cr'
            clear ct cr ct' cr'
            have C2 : ∀ s' : InC (KB (fun b => b = g11) u0), s'.W.cell? ⟨g12, who, none⟩ = some rw' := fun s' => s'.ok.keepC.cell (Cr.out _ (Below.refl _ _)) (fun e => hI.r.neT hI.t (by decide) e)
            have hSb : Below u0.heap.size u0 u0.drew := (Below.refl _ _).drew
            have hS : KB (fun b => b = g11) u0 u0.drew := KB.of_below hSb
            have c106 : u0.drew.cell? ⟨g11, who, none⟩ = some fw := Ct.out _ hSb
            go_wp2_with fail
            refine wp_region_mix_last (KB (fun b => b = g11) u0) 13 [(0, true), (1, true), (2, true), (3, true), (6, true), (7, true), (8, true), (4, false), (5, false), (10, true), (9, false), (11, false), (12, true)] (by kernel_rfl) (by kernel_rfl) hS fun _ => ?_
            simp only [List.map_cons, List.map_nil, Array.getD_eq_getD_getElem?, List.getElem?_toArray, List.getElem?_cons_succ, List.getElem?_cons_zero, Option.getD_some]
            generalize u0.drew = u3 at hS hSb c106 ⊢
            refine wpMix_s (fun K hK => ?_)
            go_simp
            refine hK _ ?_
            clear hK K
            refine wpMix_s (fun K hK => ?_)
            go_simp
            refine hK _ ?_
            clear hK K
            refine wpMix_s (fun K hK => ?_)
            go_simp
            refine hK _ ?_
            clear hK K
            refine wpMix_s (fun K hK => ?_)
            go_simp
            refine hK _ ?_
            clear hK K
            refine wpMix_s (fun K hK => ?_)
            go_simp
            refine hK _ ?_
            clear hK K
            refine wpMix_s (fun K hK => ?_)
            go_simp
            refine hK _ ?_
            clear hK K
            refine wpMix_s (fun K hK => ?_)
            go_simp
            refine hK _ ?_
            clear hK K
            refine wpMix_c (fun K hK => ?_) hS
            go_simp
            refine hK _ _ ?_
            clear hK K
            refine ⟨hS, ?_⟩
            refine wpMix_c (fun K hK => ?_) hS
            go_simp
            refine (copy_o fw qo u3 (hFw.step hSb)).mono ?_
            have hz7 := hSb.size
            rintro e u3a ⟨v', rfl, hv1, hv2, hb9⟩
            refine hK _ _ ?_
            clear hK K c106
            replace hS := hS.trans (KB.of_below hb9)
            refine ⟨hS, ?_⟩
            replace hSb := hSb.trans (hb9.mono hSb.size)
            clear hb9
            refine wpMix_s (fun K hK => ?_)
            go_simp
            refine hK _ ?_
            clear hK K
            refine wpMix_c (fun K hK => ?_) hS
            go_simp
            refine (rcopy_o rw' qo u3a (hRw.step hSb)).mono ?_
            have hz8 := hSb.size
            rintro e u3ab ⟨r', rfl, hr1, hr2, hb9⟩
            refine hK _ _ ?_
            clear hK K
            replace hS := hS.trans (KB.of_below hb9)
            refine ⟨hS, ?_⟩
            replace hSb := hSb.trans (hb9.mono hSb.size)
            replace hv1 := hv1.step hb9
            clear hb9
            obtain ⟨X9, hX9⟩ : ∃ x, u3ab = x := ⟨_, rfl⟩
            rw [hX9] at hS hSb hv1 hr1 ⊢
            clear hX9
            have hIX := hI.step hSb
            have k14X := k14.step hSb
            have hN := hI.below_
            have hzN := hI.bel.size
            have hP := hIX.putT to_ hto (N := u0.heap.size) hv1 hr1 hN (fun b hb => by have := hv2 b hb; omega) (fun b hb => by have := hr2 b hb; omega) hzN
            have hg1 : X9.grownBy (X9.setCell ⟨g11, to_, none⟩ v') (some g11) := grown_setCell (grown_of_below (Below.refl _ _) _) to_ v'
            have r1 := hIX.r.grown hg1 (fun e => hIX.r.neT hIX.t (by decide) (Option.some.inj e))
            have k141 := k14X.grown hg1 (fun e => k14X.neT hIX.t (by decide) (Option.some.inj e))
            have k142 := k141.grown (grown_setCell (grown_of_below (Below.refl _ _) (some g12)) to_ r') (fun e => k14X.neT hIX.r (by decide) (Option.some.inj e))
            have e1 : X9.cell? ⟨g11, to_, none⟩ = some (tv to_) := hIX.cellT to_ hto
            have f1 := hIX.t.frozen to_
            have e2 : (X9.setCell ⟨g11, to_, none⟩ v').cell? ⟨g12, to_, none⟩ = some (rv to_) := by rw [r1.cell]; exact get3 rv to_ hto
            have f2 := r1.frozen to_
            have hv1o := hv1.one
            have hr1o := hr1.one
            have HP := Lib.hid hP
            have Hk142 := Lib.hid k142
            clear hP k142 k141 r1 hIX k14X hN hv1 hr1 hv2 hr2 hI k14
            refine wpMix_put1 (by kernel_rfl) 61 (.tmp 112) (.tmp 107) rfl sizePF ⟨g11, to_, none⟩ v' rfl rfl hv1o (tv to_) e1 f1 (hS.trans (KB.of_grown hg1 fun r e => (Option.some.inj e).symm)) ?_
            simp only [Act.put]
            replace hS := hS.trans (KB.of_grown hg1 fun r e => (Option.some.inj e).symm)
            clear e1 f1 hv1o
            refine wpMix_s (fun K hK => ?_)
            go_simp
            refine hK _ ?_
            clear hK K
            refine wpMix_nil ?_
            intro _
            simp only [List.drop_succ_cons, List.drop_zero]
            refine wpList_put1i rfl 79 (.tmp 113) (.tmp 111) rfl sizePR ⟨g12, to_, none⟩ r' rfl rfl hr1o (rv to_) e2 f2 ?_
            simp only [Act.put]
            clear e2 f2 hr1o
            go_wp2_with fail
            refine np_normal ?_
            go_wp2_with fail
            exact key _ _ _ _ _ (by kernel_rfl) HP.out Hk142.out
          · have d6 : (s.kd == 6) = false := by simpa using h6
            by_cases h7 : s.kd = 7
            · have d7 : (s.kd == 7) = true := by simpa using h7
              have hFw := hI.ho who hwho
              have hRw := hI.hr who hwho
              have hFt := hI.ho to_ hto
              have hRt := hI.hr to_ hto
              have ct := fun W (hb : Below u0.heap.size u0 W) => (hI.step hb).cellT who hwho
              have cr := fun W (hb : Below u0.heap.size u0 W) => (hI.step hb).cellR who hwho
              have ct' := fun W (hb : Below u0.heap.size u0 W) => (hI.step hb).cellT to_ hto
              have cr' := fun W (hb : Below u0.heap.size u0 W) => (hI.step hb).cellR to_ hto
              obtain ⟨fw, hfw⟩ : ∃ x, tv who = x := ⟨_, rfl⟩
              obtain ⟨rw', hrw'⟩ : ∃ x, rv who = x := ⟨_, rfl⟩
              obtain ⟨ft, hft⟩ : ∃ x, tv to_ = x := ⟨_, rfl⟩
              obtain ⟨rt, hrt⟩ : ∃ x, rv to_ = x := ⟨_, rfl⟩
              obtain ⟨qo, hqo⟩ : ∃ x, o who = x := ⟨_, rfl⟩
              obtain ⟨qt, hqt⟩ : ∃ x, o to_ = x := ⟨_, rfl⟩
              rw [hfw, hqo] at hFw
              rw [hrw', hqo] at hRw
              rw [hft, hqt] at hFt
              rw [hrt, hqt] at hRt
              rw [hfw] at ct
              rw [hrw'] at cr
              rw [hft] at ct'
              rw [hrt] at cr'
              clear hfw hrw' hft hrt hqo hqt
              have Ct := Lib.hid ct
              have Cr := Lib.hid cr
              have Ct' := Lib.hid ct'
              have Cr' := Lib.hid cr'
              clear ct cr ct' cr'
              have hnb : (qo.isNone != qo.isNone) = false := by cases qo <;> rfl
              have c106 : u0.cell? ⟨g11, who, none⟩ = some fw := Ct.out _ (Below.refl _ _)
              go_wp2_with fail
              refine (bytes_o fw qo u0 hFw).mono ?_
              rintro e x1 ⟨v7, rfl, hFr⟩
              have hSb := hFr.2
              obtain ⟨A7, c7, rfl, hs7⟩ := hFr.slE
              clear hFr c106
              go_wp2_with fail
              refine (read_o fw qo u0 hFw A7 _ c7 x1 (hs7.weak fun _ _ _ => trivial)).mono ?_
              have hz7 := hSb.size
              rintro e x2 ⟨v', rfl, hv1, hv2, hb9⟩
              replace hSb := hSb.trans (hb9.mono hSb.size)
              clear hs7 hb9
              have c127 : x2.cell? ⟨g12, who, none⟩ = some rw' := Cr.out _ hSb
              go_wp2_with fail
              refine (rbytes_o rw' qo x2 (hRw.step hSb)).mono ?_
              rintro e x3 ⟨v7, rfl, hFr⟩
              replace hSb := hSb.trans (hFr.2.mono hSb.size)
              replace hv1 := hv1.step hFr.2
              obtain ⟨A8, c8, rfl, hs8⟩ := hFr.slE
              clear hFr c127
              go_wp2_with fail
              refine (rread_o fw qo u0 hFw A8 _ c8 x3 (hs8.weak fun _ _ _ => trivial)).mono ?_
              have hz8 := hSb.size
              rintro e X9 ⟨r', rfl, hr1, hr2, hb9⟩
              replace hSb := hSb.trans (hb9.mono hSb.size)
              replace hv1 := hv1.step hb9
              clear hs8 hb9
              have hv1c := Lib.hid hv1
              have hr1c := Lib.hid hr1
              have hIX := hI.step hSb
              have k14X := k14.step hSb
              have hN := hI.below_
              have hzN := hI.bel.size
              have hP := hIX.putT to_ hto (N := u0.heap.size) hv1 hr1 hN (fun b hb => by have := hv2 b hb; omega) (fun b hb => by have := hr2 b hb; omega) hzN
              have hg1 : X9.grownBy (X9.setCell ⟨g11, to_, none⟩ v') (some g11) := grown_setCell (grown_of_below (Below.refl _ _) _) to_ v'
              have r1 := hIX.r.grown hg1 (fun e => hIX.r.neT hIX.t (by decide) (Option.some.inj e))
              have k141 := k14X.grown hg1 (fun e => k14X.neT hIX.t (by decide) (Option.some.inj e))
              have k142 := k141.grown (grown_setCell (grown_of_below (Below.refl _ _) (some g12)) to_ r') (fun e => k14X.neT hIX.r (by decide) (Option.some.inj e))
              have e1 : X9.cell? ⟨g11, to_, none⟩ = some (tv to_) := hIX.cellT to_ hto
              have f1 := hIX.t.frozen to_
              have e2 : (X9.setCell ⟨g11, to_, none⟩ v').cell? ⟨g12, to_, none⟩ = some (rv to_) := by rw [r1.cell]; exact get3 rv to_ hto
              have f2 := r1.frozen to_
              have hv1o := hv1.one
              have hr1o := hr1.one
              have HP := Lib.hid hP
              have Hk142 := Lib.hid k142
              clear hP k142 k141 r1 hIX k14X hN hv1 hr1 hv2 hr2 hI k14
              go_wp2_with (first
                | (go_at_call 41; refine (num10_any _ _).mono ?_; rintro e wn ⟨rfl, hww⟩; obtain rfl := hww.symm)
                | ((with_reducible show wpList _ _ _ (⟨some 138, .binOp _ _ _ _ _, _, _, _, _⟩ :: _) _ _); refine wpList_runG (by kernel_rfl) (.bool qo.isNone) _ (nil_o hv1c.out (.tmp 137) _ rfl rfl rfl _) ?_; simp only [Act.put])
                | ((with_reducible show wpList _ _ _ (⟨some 140, .binOp _ _ _ _ _, _, _, _, _⟩ :: _) _ _); refine wpList_runG (by kernel_rfl) (.bool qo.isNone) _ (nil_r hr1c.out (.tmp 139) _ rfl rfl rfl _) ?_; simp only [Act.put])
                | ((with_reducible show wpList _ _ _ (⟨none, .store _ (.tmp 147) _, _, _, _, _⟩ :: _) _ _); refine wpList_put1i rfl 61 (.tmp 147) (.tmp 145) rfl sizePF ⟨g11, to_, none⟩ v' rfl rfl hv1o (tv to_) e1 f1 ?_; simp only [Act.put])
                | ((with_reducible show wpList _ _ _ [⟨none, .store _ (.tmp 148) _, _, _, _, _⟩] _ _); refine wpList_put1i rfl 79 (.tmp 148) (.tmp 146) rfl sizePR ⟨g12, to_, none⟩ r' rfl rfl hr1o (rv to_) e2 f2 ?_; simp only [Act.put]))
              exact key _ _ _ _ _ (by kernel_rfl) HP.out Hk142.out
            · have d7 : (s.kd == 7) = false := by simpa using h7
              by_cases h8 : s.kd = 8
              · have d8 : (s.kd == 8) = true := by simpa using h8
                have hFw := hI.ho who hwho
                have hRw := hI.hr who hwho
                have hFt := hI.ho to_ hto
                have hRt := hI.hr to_ hto
                have ct := fun W (hb : Below u0.heap.size u0 W) => (hI.step hb).cellT who hwho
                have cr := fun W (hb : Below u0.heap.size u0 W) => (hI.step hb).cellR who hwho
                have ct' := fun W (hb : Below u0.heap.size u0 W) => (hI.step hb).cellT to_ hto
                have cr' := fun W (hb : Below u0.heap.size u0 W) => (hI.step hb).cellR to_ hto
                obtain ⟨fw, hfw⟩ : ∃ x, tv who = x := ⟨_, rfl⟩
                obtain ⟨rw', hrw'⟩ : ∃ x, rv who = x := ⟨_, rfl⟩
                obtain ⟨ft, hft⟩ : ∃ x, tv to_ = x := ⟨_, rfl⟩
                obtain ⟨rt, hrt⟩ : ∃ x, rv to_ = x := ⟨_, rfl⟩
                obtain ⟨qo, hqo⟩ : ∃ x, o who = x := ⟨_, rfl⟩
                obtain ⟨qt, hqt⟩ : ∃ x, o to_ = x := ⟨_, rfl⟩
                rw [hfw, hqo] at hFw
                rw [hrw', hqo] at hRw
                rw [hft, hqt] at hFt
                rw [hrt, hqt] at hRt
                rw [hfw] at ct
                rw [hrw'] at cr
                rw [hft] at ct'
                rw [hrt] at cr'
                clear hfw hrw' hft hrt hqo hqt
                have Ct := Lib.hid ct
                have Cr := Lib.hid cr
                have Ct' := Lib.hid ct'
                have Cr' := Lib.hid cr'
                clear ct cr ct' cr'
                have C1 : ∀ s' : InC (fun W => Below u0.heap.size u0 W), s'.W.cell? ⟨g11, who, none⟩ = some fw := fun s' => Ct.out _ s'.ok
                have C2 : ∀ s' : InC (fun W => Below u0.heap.size u0 W), s'.W.cell? ⟨g12, who, none⟩ = some rw' := fun s' => Cr.out _ s'.ok
                have C3 : ∀ s' : InC (fun W => Below u0.heap.size u0 W), s'.W.cell? ⟨g11, to_, none⟩ = some ft := fun s' => Ct'.out _ s'.ok
                have C4 : ∀ s' : InC (fun W => Below u0.heap.size u0 W), s'.W.cell? ⟨g12, to_, none⟩ = some rt := fun s' => Cr'.out _ s'.ok
                have hsm := fun W (hb : Below u0.heap.size u0 W) => same_o fw ft qo qt W (hFw.step hb) (hFt.step hb)
                have hrs := fun W (hb : Below u0.heap.size u0 W) => rsame_o rw' rt qo qt W (hRw.step hb) (hRt.step hb)
                obtain ⟨bb, hbb⟩ : ∃ x, sameO qo qt = x := ⟨_, rfl⟩
                rw [hbb] at hsm hrs
                have hxx : (bb != bb) = false := by cases bb <;> rfl
                have Hsm := Lib.hid hsm
                have Hrs := Lib.hid hrs
                have hS : Below u0.heap.size u0 u0.drew := (Below.refl _ _).drew
                clear hsm hrs hbb hFw hRw hFt hRt
                go_wp2_with fail
                refine wp_region_mix (fun W => Below u0.heap.size u0 W) [(0, true), (1, true), (2, true), (3, true), (4, true), (5, true), (7, true), (8, true), (9, true), (10, true), (11, true), (12, true), (6, false), (13, false), (14, true)] (by kernel_rfl) (by kernel_rfl) hS fun _ => ?_
                simp only [List.map_cons, List.map_nil, Array.getD_eq_getD_getElem?, List.getElem?_toArray, List.getElem?_cons_succ, List.getElem?_cons_zero, Option.getD_some]
                generalize u0.drew = u4 at hS ⊢
                refine wpMix_s (fun K hK => ?_)
                go_simp
                refine hK _ ?_
                clear hK K
                refine wpMix_s (fun K hK => ?_)
                go_simp
                refine hK _ ?_
                clear hK K
                refine wpMix_s (fun K hK => ?_)
                go_simp
                refine hK _ ?_
                clear hK K
                refine wpMix_s (fun K hK => ?_)
                go_simp
                refine hK _ ?_
                clear hK K
                refine wpMix_s (fun K hK => ?_)
                go_simp
                refine hK _ ?_
                clear hK K
                refine wpMix_s (fun K hK => ?_)
                go_simp
                refine hK _ ?_
                clear hK K
                refine wpMix_s (fun K hK => ?_)
                go_simp
                refine hK _ ?_
                clear hK K
                refine wpMix_s (fun K hK => ?_)
                go_simp
                refine hK _ ?_
                clear hK K
                refine wpMix_s (fun K hK => ?_)
                go_simp
                refine hK _ ?_
                clear hK K
                refine wpMix_s (fun K hK => ?_)
                go_simp
                refine hK _ ?_
                clear hK K
                refine wpMix_s (fun K hK => ?_)
                go_simp
                refine hK _ ?_
                clear hK K
                refine wpMix_s (fun K hK => ?_)
                go_simp
                refine hK _ ?_
                clear hK K
                refine wpMix_c (fun K hK => ?_) hS
                go_simp
                refine (Hsm.out u4 hS).mono ?_
                rintro e u4_1 ⟨rfl, hb'⟩
                refine hK _ _ ?_
                clear hK K
                replace hS := hS.trans (hb'.mono hS.size)
                refine ⟨hS, ?_⟩
                clear hb'
                refine wpMix_c (fun K hK => ?_) hS
                go_simp
                refine (Hrs.out u4_1 hS).mono ?_
                rintro e u4_2 ⟨rfl, hb'⟩
                refine hK _ _ ?_
                clear hK K
                replace hS := hS.trans (hb'.mono hS.size)
                refine ⟨hS, ?_⟩
                clear hb'
                refine wpMix_s (fun K hK => ?_)
                go_simp
                refine hK _ ?_
                clear hK K
                refine wpMix_nil ?_
                intro _
                replace hI := hI.step hS
                replace k14 := k14.step hS
                clear C1 C2 C3 C4 hS
                go_wp2_with fail
                exact key _ _ _ _ _ (by kernel_rfl) hI k14
              · have d8 : (s.kd == 8) = false := by simpa using h8
                go_wp2_with fail
                exact key _ _ _ _ _ (by kernel_rfl) hI k14
        · by_cases hin : i < n2
          · have hd1 : decide ((i : Int) < (n2 : Int)) = true := by simp; omega
            have hd2 : decide ((i : Int) < 300) = false := by simp; omega
            clear hgo
            go_wp2_with fail
            go_loopw [21] (fun v21 wr => ∃ j : Nat, j ≤ 3 ∧ v21 = .int .i64 (j : Int) ∧ PlI w g11 g12 tv rv o wr) (fun v21 _ => 3 - (intOf v21).toNat)
            case atStart => exact ⟨0, by omega, rfl, hI⟩
            case round =>
              clear hI
              obtain ⟨j, hj, rfl, hI⟩ := hrel
              by_cases hj3 : j < 3
              · have hdj : decide ((j : Int) < 3) = true := by simp; omega
                have hdj' : (j : Int) < 3 := by omega
                have hwj : IntKind.i64.wrap ((j : Int) + 1) = (j : Int) + 1 := IntWalk.i64_in _ (by omega)
                have hF := hI.ho j hj3
                have hR := hI.hr j hj3
                have ct := fun W (hb : Below wr.heap.size wr W) => (hI.step hb).cellT j hj3
                have cr := fun W (hb : Below wr.heap.size wr W) => (hI.step hb).cellR j hj3
                obtain ⟨fw, hfw⟩ : ∃ x, tv j = x := ⟨_, rfl⟩
                obtain ⟨rw', hrw'⟩ : ∃ x, rv j = x := ⟨_, rfl⟩
                obtain ⟨qo, hqo⟩ : ∃ x, o j = x := ⟨_, rfl⟩
                rw [hfw, hqo] at hF
                rw [hrw', hqo] at hR
                rw [hfw] at ct
                rw [hrw'] at cr
                clear hfw hrw' hqo
                have C1 : ∀ s' : InC (fun W => Below wr.heap.size wr W), s'.W.cell? ⟨g11, j, none⟩ = some fw := fun s' => ct _ s'.ok
                have C2 : ∀ s' : InC (fun W => Below wr.heap.size wr W), s'.W.cell? ⟨g12, j, none⟩ = some rw' := fun s' => cr _ s'.ok
                have hS : Below wr.heap.size wr wr.drew := (Below.refl _ _).drew
                clear ct cr
                go_wp2_with fail
                refine wp_region_mix (fun W => Below wr.heap.size wr W) [(0, true), (1, true), (2, true), (3, true), (4, true), (5, true), (6, false), (7, true), (8, true), (9, true), (10, true), (11, true), (12, true), (13, true), (14, true), (15, false), (16, true), (17, true)] (by kernel_rfl) (by kernel_rfl) hS fun _ => ?_
                simp only [List.map_cons, List.map_nil, Array.getD_eq_getD_getElem?, List.getElem?_toArray, List.getElem?_cons_succ, List.getElem?_cons_zero, Option.getD_some]
                generalize wr.drew = u5 at hS ⊢
                refine wpMix_s (fun K hK => ?_)
                go_simp
                refine hK _ ?_
                clear hK K
                refine wpMix_s (fun K hK => ?_)
                go_simp
                refine hK _ ?_
                clear hK K
                refine wpMix_s (fun K hK => ?_)
                go_simp
                refine hK _ ?_
                clear hK K
                refine wpMix_s (fun K hK => ?_)
                go_simp
                refine hK _ ?_
                clear hK K
                refine wpMix_s (fun K hK => ?_)
                go_simp
                refine hK _ ?_
                clear hK K
                refine wpMix_s (fun K hK => ?_)
                go_simp
                refine hK _ ?_
                clear hK K
                refine wpMix_c (fun K hK => ?_) hS
                go_simp
                refine (tells_any fw rw' qo u5 (hF.step hS) (hR.step hS)).mono ?_
                rintro e u5_1 ⟨rfl, hb'⟩
                refine hK _ _ ?_
                clear hK K
                replace hS := hS.trans (hb'.mono hS.size)
                refine ⟨hS, ?_⟩
                clear hb'
                refine wpMix_s (fun K hK => ?_)
                go_simp
                refine hK _ ?_
                clear hK K
                refine wpMix_s (fun K hK => ?_)
                go_simp
                refine hK _ ?_
                clear hK K
                refine wpMix_s (fun K hK => ?_)
                go_simp
                refine hK _ ?_
                clear hK K
                refine wpMix_s (fun K hK => ?_)
                go_simp
                refine hK _ ?_
                clear hK K
                refine wpMix_s (fun K hK => ?_)
                go_simp
                refine hK _ ?_
                clear hK K
                refine wpMix_s (fun K hK => ?_)
                go_simp
                refine hK _ ?_
                clear hK K
                refine wpMix_s (fun K hK => ?_)
                go_simp
                refine hK _ ?_
                clear hK K
                refine wpMix_s (fun K hK => ?_)
                go_simp
                refine hK _ ?_
                clear hK K
                refine wpMix_c (fun K hK => ?_) hS
                go_simp
                refine (goes_any fw rw' qo 0 u5_1 (hF.step hS) (hR.step hS)).mono ?_
                rintro e u5_2 ⟨rfl, hb'⟩
                refine hK _ _ ?_
                clear hK K
                replace hS := hS.trans (hb'.mono hS.size)
                refine ⟨hS, ?_⟩
                clear hb'
                refine wpMix_s (fun K hK => ?_)
                go_simp
                refine hK _ ?_
                clear hK K
                refine wpMix_s (fun K hK => ?_)
                go_simp
                refine hK _ ?_
                clear hK K
                refine wpMix_nil ?_
                intro _
                replace hI := hI.step hS
                clear C1 C2 hS hF hR
                go_wp2_with fail
                go_roundw
                case rel => exact ⟨j + 1, by omega, by go_num, hI⟩
                case measure => simp [intOf]; omega
              · obtain rfl : j = 3 := by omega
                go_wp2_with (go_at_call 39; refine (known10_any wr).mono ?_; rintro e W9 ⟨rfl, hb9⟩)
                go_ret
                exact ⟨rfl, (hI.step hb9).bel⟩
          · have hd1 : decide ((i : Int) < (n2 : Int)) = false := by simp; omega
            clear hgo
            go_wp2_with fail
            go_loopw [21] (fun v21 wr => ∃ j : Nat, j ≤ 3 ∧ v21 = .int .i64 (j : Int) ∧ PlI w g11 g12 tv rv o wr) (fun v21 _ => 3 - (intOf v21).toNat)
            case atStart => exact ⟨0, by omega, rfl, hI⟩
            case round =>
              clear hI
              obtain ⟨j, hj, rfl, hI⟩ := hrel
              by_cases hj3 : j < 3
              · have hdj : decide ((j : Int) < 3) = true := by simp; omega
                have hdj' : (j : Int) < 3 := by omega
                have hwj : IntKind.i64.wrap ((j : Int) + 1) = (j : Int) + 1 := IntWalk.i64_in _ (by omega)
                have hF := hI.ho j hj3
                have hR := hI.hr j hj3
                have ct := fun W (hb : Below wr.heap.size wr W) => (hI.step hb).cellT j hj3
                have cr := fun W (hb : Below wr.heap.size wr W) => (hI.step hb).cellR j hj3
                obtain ⟨fw, hfw⟩ : ∃ x, tv j = x := ⟨_, rfl⟩
                obtain ⟨rw', hrw'⟩ : ∃ x, rv j = x := ⟨_, rfl⟩
                obtain ⟨qo, hqo⟩ : ∃ x, o j = x := ⟨_, rfl⟩
                rw [hfw, hqo] at hF
                rw [hrw', hqo] at hR
                rw [hfw] at ct
                rw [hrw'] at cr
                clear hfw hrw' hqo
                have C1 : ∀ s' : InC (fun W => Below wr.heap.size wr W), s'.W.cell? ⟨g11, j, none⟩ = some fw := fun s' => ct _ s'.ok
                have C2 : ∀ s' : InC (fun W => Below wr.heap.size wr W), s'.W.cell? ⟨g12, j, none⟩ = some rw' := fun s' => cr _ s'.ok
                have hS : Below wr.heap.size wr wr.drew := (Below.refl _ _).drew
                clear ct cr
                go_wp2_with fail
                refine wp_region_mix (fun W => Below wr.heap.size wr W) [(0, true), (1, true), (2, true), (3, true), (4, true), (5, true), (6, false), (7, true), (8, true), (9, true), (10, true), (11, true), (12, true), (13, true), (14, true), (15, false), (16, true), (17, true)] (by kernel_rfl) (by kernel_rfl) hS fun _ => ?_
                simp only [List.map_cons, List.map_nil, Array.getD_eq_getD_getElem?, List.getElem?_toArray, List.getElem?_cons_succ, List.getElem?_cons_zero, Option.getD_some]
                generalize wr.drew = u5 at hS ⊢
                refine wpMix_s (fun K hK => ?_)
                go_simp
                refine hK _ ?_
                clear hK K
                refine wpMix_s (fun K hK => ?_)
                go_simp
                refine hK _ ?_
                clear hK K
                refine wpMix_s (fun K hK => ?_)
                go_simp
                refine hK _ ?_
                clear hK K
                refine wpMix_s (fun K hK => ?_)
                go_simp
                refine hK _ ?_
                clear hK K
                refine wpMix_s (fun K hK => ?_)
                go_simp
                refine hK _ ?_
                clear hK K
                refine wpMix_s (fun K hK => ?_)
                go_simp
                refine hK _ ?_
                clear hK K
                refine wpMix_c (fun K hK => ?_) hS
                go_simp
                refine (tells_any fw rw' qo u5 (hF.step hS) (hR.step hS)).mono ?_
                rintro e u5_1 ⟨rfl, hb'⟩
                refine hK _ _ ?_
                clear hK K
                replace hS := hS.trans (hb'.mono hS.size)
                refine ⟨hS, ?_⟩
                clear hb'
                refine wpMix_s (fun K hK => ?_)
                go_simp
                refine hK _ ?_
                clear hK K
                refine wpMix_s (fun K hK => ?_)
                go_simp
                refine hK _ ?_
                clear hK K
                refine wpMix_s (fun K hK => ?_)
                go_simp
                refine hK _ ?_
                clear hK K
                refine wpMix_s (fun K hK => ?_)
                go_simp
                refine hK _ ?_
                clear hK K
                refine wpMix_s (fun K hK => ?_)
                go_simp
                refine hK _ ?_
                clear hK K
                refine wpMix_s (fun K hK => ?_)
                go_simp
                refine hK _ ?_
                clear hK K
                refine wpMix_s (fun K hK => ?_)
                go_simp
                refine hK _ ?_
                clear hK K
                refine wpMix_s (fun K hK => ?_)
                go_simp
                refine hK _ ?_
                clear hK K
                refine wpMix_c (fun K hK => ?_) hS
                go_simp
                refine (goes_any fw rw' qo 0 u5_1 (hF.step hS) (hR.step hS)).mono ?_
                rintro e u5_2 ⟨rfl, hb'⟩
                refine hK _ _ ?_
                clear hK K
                replace hS := hS.trans (hb'.mono hS.size)
                refine ⟨hS, ?_⟩
                clear hb'
                refine wpMix_s (fun K hK => ?_)
                go_simp
                refine hK _ ?_
                clear hK K
                refine wpMix_s (fun K hK => ?_)
                go_simp
                refine hK _ ?_
                clear hK K
                refine wpMix_nil ?_
                intro _
                replace hI := hI.step hS
                clear C1 C2 hS hF hR
                go_wp2_with fail
                go_roundw
                case rel => exact ⟨j + 1, by omega, by go_num, hI⟩
                case measure => simp [intOf]; omega
              · obtain rfl : j = 3 := by omega
                go_wp2_with (go_at_call 39; refine (known10_any wr).mono ?_; rintro e W9 ⟨rfl, hb9⟩)
                go_ret
                exact ⟨rfl, (hI.step hb9).bel⟩
end Go.Proofs.Ytonidnfgneokbaa
