/- (*Front).Root, Point. -/
import Derived.Test.YtonidnfgneokbaaQd125
import Derived.Test.YtonidnfgneokbaaQd126
namespace Go.Proofs.Ytonidnfgneokbaa
open Go Go.RowKit Go.Shelf
attribute [local go_sem] Oper.semAt_some

theorem rootG_rev (ps : FrV) (h : ps ≠ []) : rootG ps = (((hashF ps).reverse).drop 1).foldl (fun h x => hNode x h) (((hashF ps).reverse).getD 0 []) := by
  rcases snoc_cases ps with rfl | ⟨a, q, rfl⟩
  · exact absurd rfl h
  · have e : (hashF (a ++ [q])).reverse = q.2 :: a.reverse.map (·.2) := by simp [hashF, List.map_reverse]
    rw [e, rootG_snoc]
    rfl
theorem length_foldN (l : List (List UInt8)) (h : List UInt8) (hh : h.length = 32) : (l.foldl (fun h x => hNode x h) h).length = 32 := by
  induction l generalizing h with
  | nil => exact hh
  | cons x l ih => exact ih _ (length_hNode _ _)

set_option maxHeartbeats 4000000 in
set_option maxRecDepth 100000 in
theorem froot_nil (w : World) : Calls Try.prog 45 #[.pointer none] w fun e w' => e = .returned (.agg ((List.replicate 32 (0 : UInt8)).map B).toArray) ∧ Below w.heap.size w w' := by
  have h32 : (List.replicate 32 (0 : UInt8)).length = 32 := rfl
  obtain ⟨z, hz⟩ : ∃ z, List.replicate 32 (0 : UInt8) = z := ⟨_, rfl⟩
  rw [hz] at h32 ⊢
  have Hz := Lib.hid hz
  clear hz
  go_enter Try.func45, Try.ntmps45
  go_wp2_with (first
    | ((with_reducible show wpList _ _ _ (⟨some 2, .alloc _, _, _, _, _⟩ :: _) _ _); refine wpList_hnew rfl rfl ?_; intro w1 k2 hb1; simp only [Act.put])
    | ((with_reducible show wpList _ _ _ (⟨some 10, .build _ _, _, _, _, _⟩ :: _) _ _); refine wpList_run0 rfl (.agg (z.map B).toArray) (by rw [← Hz.out]; kernel_rfl) ?_; simp only [Act.put])
    | ((with_reducible show wpList _ _ _ [⟨none, .store _ (.tmp 2) _, _, _, _, _⟩] _ _); refine wpList_hset (.tmp 2) (.tmp 10) rfl rfl k2 rfl rfl h32 ?_; intro w2 k2b hb2 hW2; clear hW2; simp only [Act.put]))
  exact bodyPost_ret (ret_hash rfl rfl k2b) rfl ⟨rfl, hb1.trans hb2⟩
set_option maxHeartbeats 4000000 in
set_option maxRecDepth 100000 in
theorem froot_any (g : Nat) (ps : FrV) (w : World) (h : FrO w g ps) (ho : FrOk ps) : Calls Try.prog 45 #[fptr g] w fun e w' => e = .returned (.agg ((rootG ps).map B).toArray) ∧ Below w.heap.size w w' := by
  have hlen63 := ho.len
  obtain ⟨A, n, c, hk, hP⟩ := h.ex
  have hlen : ps.length = n := by rw [← hP.len, length_fpc]
  have hkg := hk.lt
  by_cases h0 : ps = []
  · subst h0
    obtain rfl : n = 0 := hlen.symm
    have hem : (rootG []).length = 32 := length_hEmpty
    have hcall := fun W => hempty_any W
    obtain ⟨z, hz⟩ : ∃ z, hEmpty = z := ⟨_, rfl⟩
    have hz2 : rootG [] = z := hz
    rw [hz] at hcall
    rw [hz2] at hem ⊢
    have Hcall := Lib.hid hcall
    have Hk := Lib.hid hk
    clear hz hz2 hcall hlen hP h ho hlen63 hk
    go_enter Try.func45, Try.ntmps45
    go_wp2_with (first
      | ((with_reducible show wpList _ _ _ (⟨some 2, .alloc _, _, _, _, _⟩ :: _) _ _); refine wpList_hnew rfl rfl ?_; intro w1 k2 hb1; have c14 : w1.cell? ⟨g, 0, none⟩ = some (.slice A 0 c) := (by rw [(Hk.out.step hb1).cell]; rfl); simp only [Act.put])
      | (go_at_call 105; refine (Hcall.out w1).mono ?_; rintro e w2 ⟨rfl, hb2⟩; replace k2 := k2.step hb2)
      | ((with_reducible show wpList _ _ _ [⟨none, .store _ (.tmp 2) _, _, _, _, _⟩] _ _); refine wpList_hset (.tmp 2) (.tmp 18) rfl rfl k2 rfl rfl hem ?_; intro w3 k2b hb3 hW2; clear hW2; simp only [Act.put]))
    exact bodyPost_ret (ret_hash rfl rfl k2b) rfl ⟨rfl, (hb1.trans (hb2.mono hb1.size)).trans hb3⟩
  · have hn0 : 0 < n := by rw [← hlen]; exact List.length_pos_iff.2 h0
    have hne0 : ((n : Int) == 0) = false := by simp; omega
    have hrt := rootG_rev ps h0
    have h32 := hashF_32 ps ho.h32
    have hpa := fun W (hb : Below w.heap.size w W) => fparts_any (fptr g) ps W rfl (allOk_some (h.step hb) ho.h62 (by omega)) ho.h32 (by omega)
    have hrl : ((hashF ps).reverse).length = n := by rw [List.length_reverse, hashF, List.length_map, hlen]
    have hhl : (hashF ps).length = n := by rw [hashF, List.length_map, hlen]
    have hr32 : H32 ((hashF ps).reverse) := fun x hx => h32 x (List.mem_reverse.1 hx)
    rw [hhl] at hpa
    obtain ⟨os, hos⟩ : ∃ o, hashF ps = o := ⟨_, rfl⟩
    rw [hos] at hpa hrl hr32 hrt h32 hhl
    rw [hrt]
    obtain ⟨rs, hrs⟩ : ∃ r, os.reverse = r := ⟨_, rfl⟩
    have hrv := fun v base W hv => revh_any os v n base W hv hhl h32 (by omega)
    rw [hrs] at hrl hr32 hrv ⊢
    have hr0 := hr32.getD 0 (by omega)
    obtain ⟨r0, hr0e⟩ : ∃ r, rs.getD 0 [] = r := ⟨_, rfl⟩
    rw [hr0e] at hr0 ⊢
    obtain ⟨m, rfl⟩ : ∃ m, n = m + 1 := ⟨n - 1, by omega⟩
    obtain ⟨rest, hrest⟩ : ∃ r, rs.drop 1 = r := ⟨_, rfl⟩
    rw [hrest]
    have hrel : rest.length = m := by rw [← hrest, List.length_drop, hrl]; rfl
    obtain ⟨res, hres⟩ : ∃ r, rest.foldl (fun h x => hNode x h) r0 = r := ⟨_, rfl⟩
    have hresl : res.length = 32 := by rw [← hres]; exact length_foldN _ _ hr0
    rw [hres]
    have Hres := Lib.hid hres
    have Hresl := Lib.hid hresl
    have Hrl' := Lib.hid hrel
    have Hrest := Lib.hid hrest
    clear hres hresl hrel hrest
    have Hk := Lib.hid hk
    have Hpa := Lib.hid hpa
    have Hrv := Lib.hid hrv
    have Hrl := Lib.hid hrl
    have Hr32 := Lib.hid hr32
    have Hr0 := Lib.hid hr0
    have Hr0e := Lib.hid hr0e
    have hm63 : m ≤ 63 := by omega
    clear hk hpa hrv hrl hr32 hr0 hr0e hrs hos hrt h32 hhl hlen hP h ho hlen63
    go_enter Try.func45, Try.ntmps45
    go_wp2_with (first
      | ((with_reducible show wpList _ _ _ (⟨some 2, .alloc _, _, _, _, _⟩ :: _) _ _); refine wpList_hnew rfl rfl ?_; intro w1 k2 hb1; have hs1 := k2.lt; have c14 : w1.cell? ⟨g, 0, none⟩ = some (.slice A (m + 1) c) := (by rw [(Hk.out.step hb1).cell]; rfl); simp only [Act.put])
      | (go_at_call 68; refine (Hpa.out w1 hb1).mono ?_; rintro e w2 ⟨v, rfl, ho2, hb2⟩; obtain ⟨gb, cv, rfl, hgb⟩ := owns_someB ho2 (by omega); replace k2 := k2.step hb2)
      | (go_at_call 106; refine (Hrv.out _ _ w2 ho2).mono ?_; rintro e w3 ⟨⟨rr, rfl⟩, ho3, hg3⟩; replace k2 : HV w3 w.heap.size (List.replicate 32 0) := ⟨k2.blk.grown hg3 (fun e => by have e : w.heap.size = gb := Option.some.inj e; omega), k2.len⟩; obtain ⟨A_, c_, e_, hH3⟩ := owns_hs ho3 Hrl.out Hr32.out; injection e_ with e1_ _ e2_; subst e1_ e2_; have hroom := hH3.sl.room; have hmx := hH3.sl.max)
      | ((with_reducible show wpList _ _ _ (⟨some 25, .load _ _, _, _, _, _⟩ :: _) _ _); refine wpList_run0 rfl (.agg (r0.map B).toArray) (run_load_op 25 (.tmp 24) rfl gb 0 rfl _ (by rw [← Hr0e.out]; exact hH3.get rfl 0 (by omega))) ?_; simp only [Act.put])
      | ((with_reducible show wpList _ _ _ (⟨some 4, .alloc _, _, _, _, _⟩ :: _) _ _); refine wpList_hvar (.tmp 4) (.tmp 25) rfl rfl rfl rfl rfl rfl Hr0.out ?_; intro w4 k4 hb4; simp only [Act.put])
      | ((with_reducible show wpList _ _ _ (⟨some 27, .slice _ _ _ _ _, _, _, _, _⟩ :: _) _ _); refine wpList_run0 rfl _ (run_slice_op_lo (.tmp 26) (.const (.int .i64 1)) rfl (some ⟨gb, 0, none⟩) (m + 1) cv 1 rfl rfl (by omega) _) ?_; generalize hA1 : (if cv = 1 then some (⟨gb, 0, none⟩ : Addr) else (some (⟨gb, 0, none⟩ : Addr)).map (·.add (1 * 32))) = A1; simp only [Act.put]))
    have hH4 := ((hH3.weak (Y := fun b => b < w3.heap.size) fun b hb _ => hb).step hb4).drop 1 (by omega)
    rw [hA1, Nat.add_sub_cancel] at hH4
    obtain ⟨c1, hc1⟩ : ∃ c1, cv - 1 = c1 := ⟨_, rfl⟩
    have hroom4 := hH4.sl.room
    have hmx4 := hH4.sl.max
    unfold maxLen at hmx4
    rw [hc1] at hH4 hroom4 hmx4 ⊢
    rw [Hrest.out] at hH4
    have hbase : Below w.heap.size w w3 := (hb1.trans (hb2.mono hb1.size)).grown hg3 (Nat.le_trans hb1.size hb2.size) (fun r e => by have e : gb = r := Option.some.inj e; omega)
    have hbel4 := hbase.trans (hb4.mono hbase.size)
    have k24 := k2.step hb4
    have hwb : w.heap.size < w3.heap.size := Nat.lt_of_lt_of_le hs1 (Nat.le_trans hb2.size hg3.size)
    have hmm : (((m + 1 : Nat) : Int) - 1) = (m : Int) := by omega
    obtain ⟨b4, hb4e⟩ : ∃ b, w3.heap.size = b := ⟨_, rfl⟩
    rw [hb4e] at hH4 k4 hwb ⊢
    clear hb4e hA1 hbase k2 hb4 hH3 hroom hmx hg3 ho3 ho2 hgb hb2 c14 hb1 hs1 Hk Hpa Hrv Hrl Hr32 Hr0e hc1
    go_loopw [6, 29] (fun _ i wr => ∃ k : Nat, k ≤ m ∧ i = .int .i64 k ∧ HV wr b4 ((rest.take k).foldl (fun h x => hNode x h) r0) ∧ Hs wr (fun b => b < b4) A1 m c1 rest ∧ HV wr w.heap.size (List.replicate 32 0) ∧ Below w.heap.size w wr) (fun _ i _ => m - (intOf i).toNat)
    case atStart => exact ⟨0, Nat.zero_le _, rfl, k4, hH4, k24, hbel4⟩
    case round =>
      clear k4 hH4 k24 hbel4
      obtain ⟨k, hk, rfl, k4, hH, k2, hbel⟩ := hrel
      by_cases hlt : k < m
      · have hd : decide ((k : Int) < (m : Int)) = true := by simp; omega
        have hwk : IntKind.i64.wrap ((k : Int) + 1) = (k : Int) + 1 := IntWalk.i64_in _ (by omega)
        obtain ⟨b, o, rfl, -, -, -⟩ := hH.at_ (by omega)
        have hget := hH.get rfl k hlt
        have hx32 := hH.all.getD k (by rw [Hrl'.out]; exact hlt)
        have hsn : (rest.take (k + 1)).foldl (fun h x => hNode x h) r0 = hNode (rest.getD k []) ((rest.take k).foldl (fun h x => hNode x h) r0) := by rw [take_snocF rest k (by rw [Hrl'.out]; exact hlt), List.foldl_append]; rfl
        obtain ⟨x, hx⟩ : ∃ x, rest.getD k [] = x := ⟨_, rfl⟩
        obtain ⟨cur, hcur⟩ : ∃ x, (rest.take k).foldl (fun h x => hNode x h) r0 = x := ⟨_, rfl⟩
        rw [hx] at hget hx32 hsn
        rw [hcur] at hsn k4
        have hcl := k4.len
        have hnl := length_hNode x cur
        have hcm := fun W => hnode_any x cur W hx32 hcl
        obtain ⟨nx, hnx⟩ : ∃ n, hNode x cur = n := ⟨_, rfl⟩
        rw [hnx] at hsn hnl hcm
        have Hget := Lib.hid hget
        have Hx32 := Lib.hid hx32
        have Hsn := Lib.hid hsn
        have Hcm := Lib.hid hcm
        have Hnl := Lib.hid hnl
        clear hget hx32 hsn hcm hx hcur hnx hcl hnl
        go_wp2_with (first
          | ((with_reducible show wpList _ _ _ (⟨some 32, .load _ _, _, _, _, _⟩ :: _) _ _); refine wpList_run0 rfl (.agg (x.map B).toArray) (run_load_op 25 (.tmp 31) rfl b (o + k * 32) rfl _ Hget.out) ?_; simp only [Act.put])
          | ((with_reducible show wpList _ _ _ (⟨some 6, .alloc _, _, _, _, _⟩ :: _) _ _); refine wpList_hvar (.tmp 6) (.tmp 32) rfl rfl rfl rfl rfl rfl Hx32.out ?_; intro w5 k6 hb5; replace k4 := k4.step hb5; simp only [Act.put])
          | ((with_reducible show wpList _ _ _ (⟨some 33, .load _ _, _, _, _, _⟩ :: _) _ _); refine wpList_hload (.tmp 6) (by kernel_rfl) rfl k6 rfl ?_; simp only [Act.put])
          | ((with_reducible show wpList _ _ _ (⟨some 34, .load _ _, _, _, _, _⟩ :: _) _ _); refine wpList_hload (.tmp 4) (by kernel_rfl) rfl k4 rfl ?_; simp only [Act.put])
          | (go_at_call 107; refine (Hcm.out w5).mono ?_; rintro e w6 ⟨rfl, hb6⟩; replace k4 := k4.step hb6)
          | ((with_reducible show wpList _ _ _ [⟨none, .store _ (.tmp 4) _, _, _, _, _⟩] _ _); refine wpList_hset (.tmp 4) (.tmp 35) rfl rfl k4 rfl rfl Hnl.out ?_; intro w7 k4b hb7 hW2; clear hW2; simp only [Act.put]))
        go_roundw
        case rel => exact ⟨k + 1, by omega, by go_num, by rw [Hsn.out]; exact k4b, (((hH.step hb5).step hb6).below hb7 fun b _ h => h), ((k2.step hb5).step hb6).far hb7 hwb, ((hbel.trans (hb5.mono hbel.size)).trans (hb6.mono (Nat.le_trans hbel.size hb5.size))).trans (hb7.mono (Nat.le_of_lt hwb))⟩
        case measure => simp [intOf]; omega
      · obtain rfl : k = m := by omega
        have hd : decide ((k : Int) < (k : Int)) = false := by simp
        rw [List.take_of_length_le (by rw [Hrl'.out]; exact Nat.le_refl _), Hres.out] at k4
        go_wp2_with (first
          | ((with_reducible show wpList _ _ _ (⟨some 37, .load _ _, _, _, _, _⟩ :: _) _ _); refine wpList_hload (.tmp 4) (by kernel_rfl) rfl k4 rfl ?_; simp only [Act.put])
          | ((with_reducible show wpList _ _ _ [⟨none, .store _ (.tmp 2) _, _, _, _, _⟩] _ _); refine wpList_hset (.tmp 2) (.tmp 37) rfl rfl k2 rfl rfl Hresl.out ?_; intro w7 k2b hb7 hW2; clear hW2; simp only [Act.put]))
        exact bodyPost_ret (ret_hash rfl rfl k2b) rfl ⟨rfl, hbel.trans hb7⟩
end Go.Proofs.Ytonidnfgneokbaa
