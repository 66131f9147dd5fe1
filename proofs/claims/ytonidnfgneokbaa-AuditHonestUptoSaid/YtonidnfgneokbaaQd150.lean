/- notarylaw13.AuditHonest. -/
import Derived.Test.YtonidnfgneokbaaQd140
import Derived.Test.YtonidnfgneokbaaQd149
import Derived.Test.YtonidnfgneokbaaQd110
namespace Go.Proofs.Ytonidnfgneokbaa
open Go Go.RowKit Go.Shelf
attribute [local go_sem] Oper.semAt_some

theorem owns_hs {W : World} {base : Nat} {v : Value} {l : List (List UInt8)} (h : W.ownsRow base 25 32 v l.length (hcells l)) (h32 : H32 l) : ∃ A c, v = .slice A l.length c ∧ Hs W (fun _ => True) A l.length c l := by
  obtain ⟨A, c, rfl, hs⟩ := owns_slv h
  exact ⟨A, c, rfl, hs.weak fun _ _ _ => trivial, rfl, h32⟩
set_option maxHeartbeats 1000000 in
set_option maxRecDepth 100000 in
theorem own13_fn : HFn 38 (hashK 0) := by
  refine ⟨fun args w => ?_, length_hashK 0, fun l A n c w h hn => ?_⟩
  · exact enter_fn Try.func38 (by kernel_rfl) (by kernel_rfl) args w
  · have hroom := h.room
    have hll := h.len
    have hlit := fun W (hs : Sl W (fun _ => True) A n c l) => hof_any [l] (some ⟨W.heap.size, 0, none⟩) 1 1 (W.alloc (.cells #[.slice A n c] 23)) rfl (BsS.lit W [.slice A n c] [l] rfl fun i hi => by
      match i, hi with
      | 0, _ => exact ⟨A, c, by simp [hll], by simp [hll]; omega, hs.bs⟩) (by decide) (by simp [hll]; omega)
    have hrl := length_hashK 0 l
    have hre : sha256 [l].flatten = hashK 0 l := by simp [hashK]
    rw [hre] at hlit
    obtain ⟨r, hr⟩ : ∃ r, hashK 0 l = r := ⟨_, rfl⟩
    rw [hr] at hlit hrl ⊢
    have Hlit := Lib.hid hlit
    have Hrl := Lib.hid hrl
    clear hlit hrl hr hre hll
    go_enter Try.func38, Try.ntmps38
    go_wp2_with (first
      | ((with_reducible show wpList _ _ _ (⟨some 2, .alloc _, _, _, _, _⟩ :: _) _ _); refine wpList_hnew rfl rfl ?_; intro w1 k2 hb1; simp only [Act.put])
      | ((with_reducible show wpList _ _ _ (⟨some 4, .buildSlice _ _ _, _, _, _, _⟩ :: _) _ _); refine wpList_run rfl (.slice (some ⟨w1.heap.size, 0, none⟩) 1 1) (w1.alloc (.cells #[.slice A n c] 23)) (by kernel_rfl) ?_; simp only [Act.put])
      | (go_at_call 101; refine (Hlit.out w1 (h.step hb1)).mono ?_; rintro e w2 ⟨rfl, hb2⟩; have hba := (Below.refl w1.heap.size w1).alloc (Nat.le_refl _) (.cells #[.slice A n c] 23); replace hba := hba.trans (hb2.mono hba.size); clear hb2; replace k2 := k2.step hba; have hb3 := hb1.trans (hba.mono hb1.size))
      | ((with_reducible show wpList _ _ _ [⟨none, .store _ _ _, _, _, _, _⟩] _ _); refine wpList_hset2 (.tmp 2) (.tmp 5) rfl rfl k2 rfl rfl Hrl.out ?_; intro w3 k2s hb4 _; simp only [Act.put]))
    exact bodyPost_ret (ret_hash rfl rfl k2s) rfl ⟨rfl, hb3.trans hb4⟩

set_option maxHeartbeats 16000000 in
set_option maxRecDepth 100000 in
theorem audithonest_any (kd : Int) (ls : List (List UInt8)) (Ad : Option Addr) (nd cd : Nat) (i : Int) (w : World) (hd : Es w (· < w.heap.size) Ad nd cd ls) (hbl : ls.flatten.length ≤ 1048576) :
    Calls Try.prog 7 #[.int .i64 kd, .slice Ad nd cd, .int .i64 i] w fun e' w' => e' = .returned (.bool true) ∧ Below w.heap.size w w' := by
  have hroomd := hd.room
  have hmxd := hd.max
  unfold maxLen at hmxd
  have hdl := hd.len
  have hx : ∀ x ∈ ls, x.length ≤ 1000000000 := fun x hx => Nat.le_trans (Nat.le_trans (List.sublist_flatten_of_mem hx).length_le hbl) (by decide)
  have Hdl := Lib.hid hdl
  have Hx := Lib.hid hx
  clear hdl hx hbl
  by_cases hbig : 300 < nd
  · have hbg : decide ((300 : Int) < (nd : Int)) = true := by simp; omega
    go_enter Try.func7, Try.ntmps7
    go_wp2_with (first
      | (go_at_call 14; refine (known13_any _).mono ?_; rintro e w1 ⟨rfl, hb1⟩)
      | (go_at_call 13; refine (large13_any _ _ _ _).mono ?_; rintro e w2 ⟨rfl, hww⟩; obtain rfl : w1 = w2 := by first | exact hww | exact hww.symm))
    go_ret
    exact ⟨rfl, hb1⟩
  have hbg : decide ((300 : Int) < (nd : Int)) = false := by simp; omega
  by_cases hz : nd = 0
  · subst hz
    go_enter Try.func7, Try.ntmps7
    go_wp2_with (first
      | (go_at_call 14; refine (known13_any _).mono ?_; rintro e w1 ⟨rfl, hb1⟩)
      | (go_at_call 13; refine (large13_any _ _ _ _).mono ?_; rintro e w2 ⟨rfl, hww⟩; obtain rfl : w1 = w2 := by first | exact hww | exact hww.symm))
    go_ret
    exact ⟨rfl, hb1⟩
  have hz0 : ((nd : Int) == (0 : Int)) = false := by simp; omega
  have hz1 : ¬ (nd : Int) = 0 := by omega
  have hz2 : ¬ nd = 0 := hz
  obtain ⟨b, o, rfl, hbw, -, hat⟩ := hd.at_ (by omega)
  go_enter Try.func7, Try.ntmps7
  go_wp2_with (first
      | (go_at_call 14; refine (known13_any _).mono ?_; rintro e w1 ⟨rfl, hb1⟩)
      | (go_at_call 13; refine (large13_any _ _ _ _).mono ?_; rintro e w2 ⟨rfl, hww⟩; obtain rfl : w1 = w2 := by first | exact hww | exact hww.symm))
  go_loopw [6, 7] (fun _ v7 wr => ∃ k : Nat, k ≤ nd ∧ v7 = .int .i64 (k : Int) ∧ (∀ j, j < k → (ls.getD j []).length ≤ 4096) ∧ wr = w1) (fun _ v7 _ => nd - (intOf v7).toNat)
  case atStart => exact ⟨0, Nat.zero_le _, rfl, fun j h => by omega, rfl⟩
  case round =>
    obtain ⟨k, hk, rfl, hj, rfl⟩ := hrel
    by_cases hlt : k < nd
    · have hd1 : decide ((k : Int) < (nd : Int)) = true := by simp; omega
      obtain ⟨Ai, ci, hc0, -⟩ := hat k hlt
      have hc1 := (hb1.cell (p := ⟨b, o + k, none⟩) hbw).trans hc0
      obtain ⟨x, hxe⟩ : ∃ x, ls.getD k [] = x := ⟨_, rfl⟩
      rw [hxe] at hc1
      have hj2 : x.length ≤ 4096 → ∀ j, j < k + 1 → (ls.getD j []).length ≤ 4096 := fun hxl j hjk => by
        rcases Nat.lt_or_ge j k with h | h
        · exact hj j h
        · rw [show j = k by omega, hxe]; exact hxl
      have Hj2 := Lib.hid hj2
      have hwk : IntKind.i64.wrap ((k : Int) + 1) = (k : Int) + 1 := IntWalk.i64_in _ (by omega)
      clear hc0 hxe hj hj2
      by_cases hxl : x.length ≤ 4096
      · have hd2 : decide ((4096 : Int) < (x.length : Int)) = false := by simp; omega
        have hd3 : ¬ 4096 < x.length := by omega
        go_wp2_with fail
        go_roundw
        case rel => exact ⟨k + 1, by omega, by go_num, Hj2.out hxl, by first | trivial | rfl⟩
        case measure => simp [intOf]; omega
      · have hd2 : decide ((4096 : Int) < (x.length : Int)) = true := by simp; omega
        have hd3 : 4096 < x.length := by omega
        go_wp2_with fail
        go_ret
        exact ⟨rfl, hb1⟩
    · obtain rfl : k = nd := by omega
      have hd1 : decide ((k : Int) < (k : Int)) = false := by simp
      have hbigD : bigD ls = false := by
        unfold bigD
        rw [Bool.or_eq_false_iff]
        refine ⟨by simp [Hdl.out]; omega, ?_⟩
        rw [List.any_eq_false]
        intro x hx
        obtain ⟨j, hjl, rfl⟩ := List.getElem_of_mem hx
        have := hj j (by rw [← Hdl.out]; exact hjl)
        rw [List.getD_eq_getElem?_getD, List.getElem?_eq_getElem hjl] at this
        simpa using this
      have HbD := Lib.hid hbigD
      clear hj hbigD
      have h1 := Int.tmod_lt_of_pos i (show (0 : Int) < (k : Int) by omega)
      have h2 := Int.lt_tmod_of_pos i (show (0 : Int) < (k : Int) by omega)
      have hr : IntKind.i64.wrap (i.tmod (k : Int)) = i.tmod (k : Int) := IntWalk.i64_in _ (by omega)
      obtain ⟨r, hr0⟩ : ∃ r, i.tmod (k : Int) = r := ⟨_, rfl⟩
      rw [hr0] at h1 h2 hr
      by_cases hn : r < 0
      · have hd2 : decide (r < (0 : Int)) = true := by simpa using hn
        obtain ⟨s, hs⟩ : ∃ s : Nat, r + (k : Int) = (s : Int) := ⟨(r + k).toNat, by omega⟩
        have hws : IntKind.i64.wrap (r + (k : Int)) = (s : Int) := by rw [IntWalk.i64_in _ (by omega)]; exact hs
        have hsn : s < k := by omega
        have Hr0 := Lib.hid hr0
        clear hs h1 h2
        go_wp2_with (go_at_call 15; refine (number13_any _ _).mono ?_; rintro e w2 ⟨rfl, hww⟩; obtain rfl : wr = w2 := by first | exact hww | exact hww.symm)
        obtain ⟨kk, hkk⟩ : ∃ k, numK kd = k := ⟨_, rfl⟩
        have hk5 := numK_cases kd
        rw [hkk] at hk5
        try rw [hkk]
        clear hkk
        have Hk5 := Lib.hid hk5
        clear hk5
        obtain ⟨Ae, ce, hc0, hsl⟩ := hat s hsn
        obtain ⟨en, hen⟩ : ∃ x, ls.getD s [] = x := ⟨_, rfl⟩
        rw [hen] at hc0 hsl
        have hcl := fun W (hb : Below w.heap.size w W) => (hb.cell (p := ⟨b, o + s, none⟩) hbw).trans hc0
        have hse := fun W (hb : Below w.heap.size w W) => (hsl.step hb).all
        have hpr := fun kq W (hb : Below w.heap.size w W) => rprove13_rec kq k s ls (some ⟨b, o, none⟩) k cd W (Nat.le_refl _) hsn (hd.step hb).all (by omega) Hx.out
        have hq32 := fun kq => besideW_all (hashK kq) (length_hashK kq) (wayI s k) ls
        have hI := fun kq => honest_I (hashK kq) ls s (by rw [Hdl.out]; exact hsn) HbD.out
        rw [Hdl.out, hen] at hI
        have hin := fun (q : List (List UInt8)) (hq : inclC (hashK kk) ls (s : Int) en q = (noC, 231)) A c W v (hb : Below w.heap.size w W) (hp : Hs W (fun _ => True) A q.length c q) (e : v = .slice A q.length c) => (show Calls Try.prog 17 #[.int .i64 kk, .slice (some ⟨b, o, none⟩) k cd, .int .i64 (s : Int), .slice Ae en.length ce, v] W _ from e ▸ incl13_any kk Hk5.out ls (some ⟨b, o, none⟩) k cd (s : Int) en Ae en.length ce q A q.length c W (hd.step hb).all (hse W hb) hp)
        have hai := fun (q : List (List UInt8)) (hq : inclC (hashK 0) ls (s : Int) en q = (noC, 231)) A c W v (hb : Below w.heap.size w W) (hp : Hs W (fun _ => True) A q.length c q) (e : v = .slice A q.length c) => (show Calls Try.prog 31 #[hval 38, .slice (some ⟨b, o, none⟩) k cd, .int .i64 (s : Int), .slice Ae en.length ce, v] W _ from e ▸ aincl_any own13_fn ls (some ⟨b, o, none⟩) k cd (s : Int) en Ae en.length ce q A q.length c W (hd.step hb).all (hse W hb) hp)
        obtain ⟨m, hm⟩ : ∃ m, s + 1 = m := ⟨_, rfl⟩
        have hwm : IntKind.i64.wrap ((s : Int) + 1) = (m : Int) := by rw [IntWalk.i64_in _ (by omega)]; omega
        have hC := honest_C (hashK kk) ls m (by omega) (by rw [Hdl.out]; omega) HbD.out
        have hro := fun W (hb : Below w.heap.size w W) => rroot13_rec kk m (ls.take m) (some ⟨b, o, none⟩) m cd W (Nat.le_refl _) (((hd.step hb).take m (by omega)).all) (by omega) (fun x hx' => Hx.out x (List.mem_of_mem_take hx'))
        have hlk := fun W (hb : Below w.heap.size w W) => rlink13_rec kk k m true ls (some ⟨b, o, none⟩) k cd W (Nat.le_refl _) (by omega) (by omega) (hd.step hb).all (by omega) Hx.out
        have hl32 := linkL_all (hashK kk) (length_hashK kk) true m ls
        have hfi := length_rootA (hashK kk) (length_hashK kk) (ls.take m)
        obtain ⟨fi, hfie⟩ : ∃ x, rootA (hashK kk) (ls.take m) = x := ⟨_, rfl⟩
        obtain ⟨q2, hq2⟩ : ∃ x, linkL (hashK kk) true m ls = x := ⟨_, rfl⟩
        rw [hfie] at hC hro hfi
        rw [hq2] at hC hlk hl32
        have hco := fun A c W (hb : Below w.heap.size w W) (hp : Hs W (fun _ => True) A q2.length c q2) => cons13_any kk Hk5.out ls (some ⟨b, o, none⟩) k cd (m : Int) fi q2 A q2.length c W (hd.step hb).all hfi hp
        rw [hC] at hco
        have h231 := hI kk
        have h231' := hI 0
        obtain ⟨q, hq⟩ : ∃ q, besideW (hashK kk) (wayI s k) ls = q := ⟨_, rfl⟩
        obtain ⟨q0, hq0⟩ : ∃ q, besideW (hashK 0) (wayI s k) ls = q := ⟨_, rfl⟩
        have hpr1 := hpr kk
        have hpr0 := hpr 0
        have hq32a := hq32 kk
        have hq32b := hq32 0
        rw [hq] at h231 hpr1 hq32a
        rw [hq0] at h231' hpr0 hq32b
        have hin := fun A c W v hb hp e => hin q h231 A c W v hb hp e
        have hai := fun A c W v hb hp e => hai q0 h231' A c W v hb hp e
        rw [h231] at hin
        rw [h231'] at hai
        have Hcl := Lib.hid hcl
        have Hpr := Lib.hid hpr1
        have Hpr0 := Lib.hid hpr0
        have Hin := Lib.hid hin
        have Hai := Lib.hid hai
        have Hro := Lib.hid hro
        have Hlk := Lib.hid hlk
        have Hco := Lib.hid hco
        have Hfi := Lib.hid hfi
        have Hq32 := Lib.hid hq32a
        have Hq320 := Lib.hid hq32b
        have Hl32 := Lib.hid hl32
        have hms : m ≤ k := by omega
        clear hcl hpr hpr1 hpr0 hin hai hro hlk hco hfi hq32 hq32a hq32b hl32 hI h231 h231' hC hq hq0 hq2 hfie hc0 hsl hse hen hat hm
        have hS : Below (wr.heap.size) wr wr.drew := (Below.refl _ _).drew
        refine wp_region_begin (fun W => Below (wr.heap.size) wr W) (by kernel_rfl) hS fun _ => ?_
        generalize wr.drew = u4 at hS  ⊢
        refine wpAnyH_pre (f := 8) (by kernel_rfl) #[true, true, true, true, true, true, true, true, true, true, false, false, false, false, false, false, false, false] [(0, true), (1, true), (2, true), (3, true), (4, true), (5, true), (6, true), (7, true), (8, true), (9, true)] _ _ _ (by kernel_rfl) hS ?_
        simp only [List.map_cons, List.map_nil, Array.getD_eq_getD_getElem?, List.getElem?_toArray, List.getElem?_cons_succ, List.getElem?_cons_zero, Option.getD_some]
        refine wpMix_s (fun K hK => ?_)
        go_simp
        refine hK _ ?_
        clear hK K
        refine wpMix_s (fun K hK => ?_)
        go_simp
        refine hK _ ?_
        clear hK K
        refine wpMix_s (fun K hK => ?_)
        go_simp
        refine hK _ ?_
        clear hK K
        refine wpMix_s (fun K hK => ?_)
        go_simp
        refine hK _ ?_
        clear hK K
        refine wpMix_s (fun K hK => ?_)
        go_simp
        refine hK _ ?_
        clear hK K
        refine wpMix_s (fun K hK => ?_)
        go_simp
        refine hK _ ?_
        clear hK K
        refine wpMix_v (by kernel_rfl) (.slice Ae en.length ce) (fun s_ => run_load_op 23 (.tmp 55) rfl b (o + s) rfl _ (run_load_scalar (by kernel_rfl) (Hcl.out s_.W (hb1.trans (s_.ok.mono hb1.size))))) ?_
        simp only [Act.put]
        refine wpMix_s (fun K hK => ?_)
        go_simp
        refine hK _ ?_
        clear hK K
        refine wpMix_s (fun K hK => ?_)
        go_simp
        refine hK _ ?_
        clear hK K
        refine wpMix_s (fun K hK => ?_)
        go_simp
        refine hK _ ?_
        clear hK K
        refine wpMix_nil ?_
        intro _
        show wpAnyH _ _ _ _ _ _ #[true, true, true, true, true, true, true, true, true, true, false, false, false, false, false, false, false, false] _ _
        refine wpAnyH_manyF [10, 11, 12, 13, 14, 15] (fun k => if k = 11 then [10] else if k = 12 then [11] else if k = 13 then [12] else if k = 14 then [12] else []) (fun k => k == 12 || k == 13 || k == 14) (fun k => if k = 10 then 60 else if k = 11 then 61 else if k = 12 then 49 else if k = 13 then 62 else if k = 14 then 63 else if k = 15 then 10 else 0) (fun k => if k = 10 then Fc.hrow wr.heap.size q else if k = 11 then Fc.clt wr.heap.size noC 231 else if k = 12 then Fc.clt wr.heap.size noC 231 else if k = 13 then Fc.cl wr.heap.size noC else if k = 14 then Fc.val (.int .i64 231) (fun _ h => by cases h) else Fc.clbox wr.heap.size) [60, 61, 49, 62, 63, 10] 2 (fun _ => undef) (by kernel_rfl) (by decide) (by decide) (by kernel_rfl) hS ?_ ?_
        · refine List.forall_mem_cons.2 ⟨?k10, List.forall_mem_cons.2 ⟨?k11, List.forall_mem_cons.2 ⟨?k12, List.forall_mem_cons.2 ⟨?k13, List.forall_mem_cons.2 ⟨?k14, List.forall_mem_cons.2 ⟨?k15, fun _ h => by cases h⟩⟩⟩⟩⟩⟩
          case k10 =>
            intro us u4k hSk hneed
            simp only [Array.getD_eq_getD_getElem?, List.getElem?_toArray, List.getElem?_cons_succ, List.getElem?_cons_zero, Option.getD_some]
            simp only [putAll, Act.put, List.setIfInBounds_toArray, List.set_cons_succ, List.set_cons_zero]
            refine wpMix_c (fun K hK => ?_) hSk
            go_simp
            refine (Hpr.out u4k (hb1.trans (hSk.mono hb1.size))).mono ?_
            rintro e u4kj ⟨v_, rfl, ho, hb'⟩
            refine hK _ _ ?_
            clear hK K
            refine ⟨hSk.trans (hb'.mono hSk.size), ?_⟩
            refine wpMix_nil ?_
            obtain ⟨A_, c_, rfl, -⟩ := owns_slv ho
            exact ⟨.slice A_ q.length c_, by kernel_rfl, ⟨A_, c_, rfl, owns_le ho hSk.size⟩, hb', fun g e => by cases e⟩
          case k11 =>
            intro us u4k hSk hneed
            simp only [Array.getD_eq_getD_getElem?, List.getElem?_toArray, List.getElem?_cons_succ, List.getElem?_cons_zero, Option.getD_some]
            simp only [putAll, Act.put, List.setIfInBounds_toArray, List.set_cons_succ, List.set_cons_zero]
            obtain ⟨A_, c_, e_, ho_⟩ : (Fc.hrow wr.heap.size q).ok (us 60) u4k := hneed 10 (by simp)
            have hs_ : Hs u4k (fun _ => True) A_ q.length c_ q := by rw [e_] at ho_; obtain ⟨A9_, c9_, e9_, h9_⟩ := owns_hs ho_ Hq32.out; cases e9_; exact h9_
            have E_ := Lib.hid e_
            clear e_ ho_
            refine wpMix_c (fun K hK => ?_) hSk
            go_simp
            refine (Hin.out A_ c_ u4k (us 60) (hb1.trans (hSk.mono hb1.size)) hs_ E_.out).mono ?_
            rintro e u4kj ⟨v_, rfl, ⟨a_, b_, rfl, h8_, h9_⟩, hb'⟩
            refine hK _ _ ?_
            clear hK K
            refine ⟨hSk.trans (hb'.mono hSk.size), ?_⟩
            refine wpMix_nil ?_
            exact ⟨.tuple #[.agg #[a_, b_], .int .i64 231], by kernel_rfl, ⟨a_, b_, rfl, owns_le h8_ hSk.size, owns_le h9_ hSk.size⟩, hb', fun g e => by cases e⟩
          case k12 =>
            intro us u4k hSk hneed
            simp only [Array.getD_eq_getD_getElem?, List.getElem?_toArray, List.getElem?_cons_succ, List.getElem?_cons_zero, Option.getD_some]
            simp only [putAll, Act.put, List.setIfInBounds_toArray, List.set_cons_succ, List.set_cons_zero]
            obtain ⟨a_, b_, e_, o1_, o2_⟩ : (Fc.clt wr.heap.size noC 231).ok (us 61) u4k := hneed 11 (by simp)
            refine wpMix_v (by kernel_rfl) (.tuple #[.agg #[a_, b_], .int .i64 231]) (fun s => run_move_op (.tmp 61) rfl _ e_ s.W) ?_
            simp only [Act.put]
            refine wpMix_nil ?_
            exact ⟨.tuple #[.agg #[a_, b_], .int .i64 231], by kernel_rfl, ⟨a_, b_, rfl, o1_, o2_⟩, Below.refl _ _, fun g e => by cases e⟩
          case k13 =>
            intro us u4k hSk hneed
            simp only [Array.getD_eq_getD_getElem?, List.getElem?_toArray, List.getElem?_cons_succ, List.getElem?_cons_zero, Option.getD_some]
            simp only [putAll, Act.put, List.setIfInBounds_toArray, List.set_cons_succ, List.set_cons_zero]
            obtain ⟨a_, b_, e_, o1_, o2_⟩ : (Fc.clt wr.heap.size noC 231).ok (us 49) u4k := hneed 12 (by simp)
            refine wpMix_v (by kernel_rfl) (.agg #[a_, b_]) (fun s => run_extract_op (.tmp 49) 0 rfl #[.agg #[a_, b_], .int .i64 231] e_ _ rfl s.W) ?_
            simp only [Act.put]
            refine wpMix_nil ?_
            exact ⟨.agg #[a_, b_], by kernel_rfl, ⟨a_, b_, rfl, o1_, o2_⟩, Below.refl _ _, fun g e => by cases e⟩
          case k14 =>
            intro us u4k hSk hneed
            simp only [Array.getD_eq_getD_getElem?, List.getElem?_toArray, List.getElem?_cons_succ, List.getElem?_cons_zero, Option.getD_some]
            simp only [putAll, Act.put, List.setIfInBounds_toArray, List.set_cons_succ, List.set_cons_zero]
            obtain ⟨a_, b_, e_, o1_, o2_⟩ : (Fc.clt wr.heap.size noC 231).ok (us 49) u4k := hneed 12 (by simp)
            refine wpMix_v (by kernel_rfl) (.int .i64 231) (fun s => run_extract_op (.tmp 49) 1 rfl #[.agg #[a_, b_], .int .i64 231] e_ _ rfl s.W) ?_
            simp only [Act.put]
            refine wpMix_nil ?_
            exact ⟨.int .i64 231, by kernel_rfl, rfl, Below.refl _ _, fun g e => by cases e⟩
          case k15 =>
            intro us u4k hSk hneed
            simp only [Array.getD_eq_getD_getElem?, List.getElem?_toArray, List.getElem?_cons_succ, List.getElem?_cons_zero, Option.getD_some]
            simp only [putAll, Act.put, List.setIfInBounds_toArray, List.set_cons_succ, List.set_cons_zero]
            refine wpMix_clnew rfl rfl (fun _ hb => hSk.trans (hb.mono hSk.size)) ?_
            intro u4kj kj hb'
            refine wpMix_nil ?_
            exact ⟨ptrB u4k.heap.size, by kernel_rfl, ⟨_, rfl, kj, hSk.size⟩, hb', fun g e => by cases e; exact Nat.le_refl _⟩
        · intro us u4t hS hF hA
          obtain ⟨a_, b_, e62, oa_, ob_⟩ : (Fc.cl wr.heap.size noC).ok (us 62) u4t := hF 13 (by simp)
          have e63 : us 63 = .int .i64 231 := hF 14 (by simp)
          obtain ⟨g_, e10, kb_, hg_⟩ : (Fc.clbox wr.heap.size).ok (us 10) u4t := hF 15 (by simp)
          simp only [putAll, Act.put, List.setIfInBounds_toArray, List.set_cons_succ, List.set_cons_zero]
          rw [e62, e63, e10]
          clear hF hA e62 e63 e10
          show wpAnyH _ _ _ _ _ _ #[true, true, true, true, true, true, true, true, true, true, true, true, true, true, true, true, false, false] _ _
          refine wpAnyH_pre (f := 0) (by kernel_rfl) #[true, true, true, true, true, true, true, true, true, true, true, true, true, true, true, true, true, true] [(16, false), (17, true)] _ _ _ (by kernel_rfl) hS ?_
          simp only [List.map_cons, List.map_nil, Array.getD_eq_getD_getElem?, List.getElem?_toArray, List.getElem?_cons_succ, List.getElem?_cons_zero, Option.getD_some]
          refine wpMix_clset (.tmp 10) (.tmp 62) rfl rfl kb_ rfl rfl (owns_oneCell oa_) (owns_oneCell ob_) (fun _ hb => hS.trans (hb.mono hg_)) ?_
          intro u4ts _ hb' _
          simp only [Act.put]
          replace hS := hS.trans (hb'.mono hg_)
          clear hb' kb_ oa_ ob_
          refine wpMix_s (fun K hK => ?_)
          go_simp
          refine hK _ ?_
          clear hK K
          refine wpMix_nil ?_
          intro _
          refine wpAnyH_end (by kernel_rfl) ?_
          have hb2 := hb1.trans (hS.mono hb1.size)
          clear hS hb1
          go_wp2_with (first
            | ((with_reducible show wpList _ _ _ (⟨some 73, .slice _ _ _ _ _, _, _, _, _⟩ :: _) _ _); refine wpList_run0 rfl (.slice (some ⟨b, o, none⟩) m cd) (run_slice_hiB (.tmp 70) (.tmp 72) rfl (some ⟨b, o, none⟩) k cd m rfl rfl (by omega) _) ?_; simp only [Act.put])
            | (go_at_call 36; refine (Hro.out _ hb2).mono ?_; rintro e w5 ⟨rfl, hb5⟩; have hb6 := hb2.trans (hb5.mono hb2.size))
            | (go_at_call 37; refine (Hlk.out _ hb6).mono ?_; rintro e w7 ⟨v7_, rfl, ho7, hb7⟩; have hb8 := hb6.trans (hb7.mono hb6.size); obtain ⟨A7, c7, rfl, h7⟩ := owns_hs ho7 Hl32.out; clear ho7)
            | (go_at_call 29; refine (Hco.out A7 c7 _ hb8 h7).mono ?_; rintro e w9 ⟨v9_, rfl, ⟨a9_, b9_, rfl, h9a, h9b⟩, hb9⟩; have hb10 := hb8.trans (hb9.mono hb8.size))
            | ((with_reducible show wpList _ _ _ (⟨some 12, .alloc _, _, _, _, _⟩ :: _) _ _); refine wpList_clvar (.tmp 12) (.tmp 81) rfl rfl rfl rfl rfl rfl (owns_oneCell h9a) (owns_oneCell h9b) ?_; intro w11 _ hb11; simp only [Act.put]; have hb12 := hb10.trans (hb11.mono hb10.size)))
          clear hb5 hb6 hb7 hb8 h7 hb9 hb10 hb11 h9a h9b
          have hS : Below (w11.heap.size) w11 w11.drew := (Below.refl _ _).drew
          refine wp_region_begin (fun W => Below (w11.heap.size) w11 W) (by kernel_rfl) hS fun _ => ?_
          generalize w11.drew = u6 at hS  ⊢
          refine wpAnyH_pre (f := 8) (by kernel_rfl) #[true, true, true, true, true, true, true, true, false, false, false, false, false, false, false, false] [(0, true), (1, true), (2, true), (3, true), (4, true), (5, true), (6, true), (7, true)] _ _ _ (by kernel_rfl) hS ?_
          simp only [List.map_cons, List.map_nil, Array.getD_eq_getD_getElem?, List.getElem?_toArray, List.getElem?_cons_succ, List.getElem?_cons_zero, Option.getD_some]
          refine wpMix_s (fun K hK => ?_)
          go_simp
          refine hK _ ?_
          clear hK K
          refine wpMix_s (fun K hK => ?_)
          go_simp
          refine hK _ ?_
          clear hK K
          refine wpMix_s (fun K hK => ?_)
          go_simp
          refine hK _ ?_
          clear hK K
          refine wpMix_s (fun K hK => ?_)
          go_simp
          refine hK _ ?_
          clear hK K
          refine wpMix_s (fun K hK => ?_)
          go_simp
          refine hK _ ?_
          clear hK K
          refine wpMix_v (by kernel_rfl) (.slice Ae en.length ce) (fun s_ => run_load_op 23 (.tmp 88) rfl b (o + s) rfl _ (run_load_scalar (by kernel_rfl) (Hcl.out s_.W (hb12.trans (s_.ok.mono hb12.size))))) ?_
          simp only [Act.put]
          refine wpMix_s (fun K hK => ?_)
          go_simp
          refine hK _ ?_
          clear hK K
          refine wpMix_s (fun K hK => ?_)
          go_simp
          refine hK _ ?_
          clear hK K
          refine wpMix_nil ?_
          intro _
          show wpAnyH _ _ _ _ _ _ #[true, true, true, true, true, true, true, true, false, false, false, false, false, false, false, false] _ _
          refine wpAnyH_manyF [8, 9, 10, 11, 12, 13] (fun k => if k = 9 then [8] else if k = 10 then [9] else if k = 11 then [10] else if k = 12 then [10] else []) (fun k => k == 10 || k == 11 || k == 12) (fun k => if k = 8 then 92 else if k = 9 then 93 else if k = 10 then 83 else if k = 11 then 94 else if k = 12 then 95 else if k = 13 then 14 else 0) (fun k => if k = 8 then Fc.hrow w11.heap.size q0 else if k = 9 then Fc.clt w11.heap.size noC 231 else if k = 10 then Fc.clt w11.heap.size noC 231 else if k = 11 then Fc.cl w11.heap.size noC else if k = 12 then Fc.val (.int .i64 231) (fun _ h => by cases h) else Fc.clbox w11.heap.size) [92, 93, 83, 94, 95, 14] 2 (fun _ => undef) (by kernel_rfl) (by decide) (by decide) (by kernel_rfl) hS ?_ ?_
          · refine List.forall_mem_cons.2 ⟨?k8, List.forall_mem_cons.2 ⟨?k9, List.forall_mem_cons.2 ⟨?k10, List.forall_mem_cons.2 ⟨?k11, List.forall_mem_cons.2 ⟨?k12, List.forall_mem_cons.2 ⟨?k13, fun _ h => by cases h⟩⟩⟩⟩⟩⟩
            case k8 =>
              intro us u6k hSk hneed
              simp only [Array.getD_eq_getD_getElem?, List.getElem?_toArray, List.getElem?_cons_succ, List.getElem?_cons_zero, Option.getD_some]
              simp only [putAll, Act.put, List.setIfInBounds_toArray, List.set_cons_succ, List.set_cons_zero]
              refine wpMix_c (fun K hK => ?_) hSk
              go_simp
              refine (Hpr0.out u6k (hb12.trans (hSk.mono hb12.size))).mono ?_
              rintro e u6kj ⟨v_, rfl, ho, hb'⟩
              refine hK _ _ ?_
              clear hK K
              refine ⟨hSk.trans (hb'.mono hSk.size), ?_⟩
              refine wpMix_nil ?_
              obtain ⟨A_, c_, rfl, -⟩ := owns_slv ho
              exact ⟨.slice A_ q0.length c_, by kernel_rfl, ⟨A_, c_, rfl, owns_le ho hSk.size⟩, hb', fun g e => by cases e⟩
            case k9 =>
              intro us u6k hSk hneed
              simp only [Array.getD_eq_getD_getElem?, List.getElem?_toArray, List.getElem?_cons_succ, List.getElem?_cons_zero, Option.getD_some]
              simp only [putAll, Act.put, List.setIfInBounds_toArray, List.set_cons_succ, List.set_cons_zero]
              obtain ⟨A_, c_, e_, ho_⟩ : (Fc.hrow w11.heap.size q0).ok (us 92) u6k := hneed 8 (by simp)
              have hs_ : Hs u6k (fun _ => True) A_ q0.length c_ q0 := by rw [e_] at ho_; obtain ⟨A9_, c9_, e9_, h9_⟩ := owns_hs ho_ Hq320.out; cases e9_; exact h9_
              have E_ := Lib.hid e_
              clear e_ ho_
              refine wpMix_c (fun K hK => ?_) hSk
              go_simp
              refine (Hai.out A_ c_ u6k (us 92) (hb12.trans (hSk.mono hb12.size)) hs_ E_.out).mono ?_
              rintro e u6kj ⟨v_, rfl, ⟨a_, b_, rfl, h8_, h9_⟩, hb'⟩
              refine hK _ _ ?_
              clear hK K
              refine ⟨hSk.trans (hb'.mono hSk.size), ?_⟩
              refine wpMix_nil ?_
              exact ⟨.tuple #[.agg #[a_, b_], .int .i64 231], by kernel_rfl, ⟨a_, b_, rfl, owns_le h8_ hSk.size, owns_le h9_ hSk.size⟩, hb', fun g e => by cases e⟩
            case k10 =>
              intro us u6k hSk hneed
              simp only [Array.getD_eq_getD_getElem?, List.getElem?_toArray, List.getElem?_cons_succ, List.getElem?_cons_zero, Option.getD_some]
              simp only [putAll, Act.put, List.setIfInBounds_toArray, List.set_cons_succ, List.set_cons_zero]
              obtain ⟨a_, b_, e_, o1_, o2_⟩ : (Fc.clt w11.heap.size noC 231).ok (us 93) u6k := hneed 9 (by simp)
              refine wpMix_v (by kernel_rfl) (.tuple #[.agg #[a_, b_], .int .i64 231]) (fun s => run_move_op (.tmp 93) rfl _ e_ s.W) ?_
              simp only [Act.put]
              refine wpMix_nil ?_
              exact ⟨.tuple #[.agg #[a_, b_], .int .i64 231], by kernel_rfl, ⟨a_, b_, rfl, o1_, o2_⟩, Below.refl _ _, fun g e => by cases e⟩
            case k11 =>
              intro us u6k hSk hneed
              simp only [Array.getD_eq_getD_getElem?, List.getElem?_toArray, List.getElem?_cons_succ, List.getElem?_cons_zero, Option.getD_some]
              simp only [putAll, Act.put, List.setIfInBounds_toArray, List.set_cons_succ, List.set_cons_zero]
              obtain ⟨a_, b_, e_, o1_, o2_⟩ : (Fc.clt w11.heap.size noC 231).ok (us 83) u6k := hneed 10 (by simp)
              refine wpMix_v (by kernel_rfl) (.agg #[a_, b_]) (fun s => run_extract_op (.tmp 83) 0 rfl #[.agg #[a_, b_], .int .i64 231] e_ _ rfl s.W) ?_
              simp only [Act.put]
              refine wpMix_nil ?_
              exact ⟨.agg #[a_, b_], by kernel_rfl, ⟨a_, b_, rfl, o1_, o2_⟩, Below.refl _ _, fun g e => by cases e⟩
            case k12 =>
              intro us u6k hSk hneed
              simp only [Array.getD_eq_getD_getElem?, List.getElem?_toArray, List.getElem?_cons_succ, List.getElem?_cons_zero, Option.getD_some]
              simp only [putAll, Act.put, List.setIfInBounds_toArray, List.set_cons_succ, List.set_cons_zero]
              obtain ⟨a_, b_, e_, o1_, o2_⟩ : (Fc.clt w11.heap.size noC 231).ok (us 83) u6k := hneed 10 (by simp)
              refine wpMix_v (by kernel_rfl) (.int .i64 231) (fun s => run_extract_op (.tmp 83) 1 rfl #[.agg #[a_, b_], .int .i64 231] e_ _ rfl s.W) ?_
              simp only [Act.put]
              refine wpMix_nil ?_
              exact ⟨.int .i64 231, by kernel_rfl, rfl, Below.refl _ _, fun g e => by cases e⟩
            case k13 =>
              intro us u6k hSk hneed
              simp only [Array.getD_eq_getD_getElem?, List.getElem?_toArray, List.getElem?_cons_succ, List.getElem?_cons_zero, Option.getD_some]
              simp only [putAll, Act.put, List.setIfInBounds_toArray, List.set_cons_succ, List.set_cons_zero]
              refine wpMix_clnew rfl rfl (fun _ hb => hSk.trans (hb.mono hSk.size)) ?_
              intro u6kj kj hb'
              refine wpMix_nil ?_
              exact ⟨ptrB u6k.heap.size, by kernel_rfl, ⟨_, rfl, kj, hSk.size⟩, hb', fun g e => by cases e; exact Nat.le_refl _⟩
          · intro us u6t hS hF hA
            obtain ⟨a_, b_, e62, oa_, ob_⟩ : (Fc.cl w11.heap.size noC).ok (us 94) u6t := hF 11 (by simp)
            have e63 : us 95 = .int .i64 231 := hF 12 (by simp)
            obtain ⟨g_, e10, kb_, hg_⟩ : (Fc.clbox w11.heap.size).ok (us 14) u6t := hF 13 (by simp)
            simp only [putAll, Act.put, List.setIfInBounds_toArray, List.set_cons_succ, List.set_cons_zero]
            rw [e62, e63, e10]
            clear hF hA e62 e63 e10
            show wpAnyH _ _ _ _ _ _ #[true, true, true, true, true, true, true, true, true, true, true, true, true, true, false, false] _ _
            refine wpAnyH_pre (f := 0) (by kernel_rfl) #[true, true, true, true, true, true, true, true, true, true, true, true, true, true, true, true] [(14, false), (15, true)] _ _ _ (by kernel_rfl) hS ?_
            simp only [List.map_cons, List.map_nil, Array.getD_eq_getD_getElem?, List.getElem?_toArray, List.getElem?_cons_succ, List.getElem?_cons_zero, Option.getD_some]
            refine wpMix_clset (.tmp 14) (.tmp 94) rfl rfl kb_ rfl rfl (owns_oneCell oa_) (owns_oneCell ob_) (fun _ hb => hS.trans (hb.mono hg_)) ?_
            intro u6ts _ hb' _
            simp only [Act.put]
            replace hS := hS.trans (hb'.mono hg_)
            clear hb' kb_ oa_ ob_
            refine wpMix_s (fun K hK => ?_)
            go_simp
            refine hK _ ?_
            clear hK K
            refine wpMix_nil ?_
            intro _
            refine wpAnyH_end (by kernel_rfl) ?_
            have hb13 := hb12.trans (hS.mono hb12.size)
            go_wp2_with (go_at_call 19; refine (num13_any _ _).mono ?_; rintro e w14 ⟨rfl, hww⟩; obtain rfl : u6ts = w14 := by first | exact hww | exact hww.symm)
            go_ret
            exact ⟨rfl, hb13⟩
      · obtain ⟨s, rfl⟩ : ∃ s : Nat, r = (s : Int) := ⟨r.toNat, by omega⟩
        have hd2 : decide ((s : Int) < (0 : Int)) = false := by simp
        have hsn : s < k := by omega
        clear h1 h2 hn
        go_wp2_with (go_at_call 15; refine (number13_any _ _).mono ?_; rintro e w2 ⟨rfl, hww⟩; obtain rfl : wr = w2 := by first | exact hww | exact hww.symm)
        obtain ⟨kk, hkk⟩ : ∃ k, numK kd = k := ⟨_, rfl⟩
        have hk5 := numK_cases kd
        rw [hkk] at hk5
        try rw [hkk]
        clear hkk
        have Hk5 := Lib.hid hk5
        clear hk5
        obtain ⟨Ae, ce, hc0, hsl⟩ := hat s hsn
        obtain ⟨en, hen⟩ : ∃ x, ls.getD s [] = x := ⟨_, rfl⟩
        rw [hen] at hc0 hsl
        have hcl := fun W (hb : Below w.heap.size w W) => (hb.cell (p := ⟨b, o + s, none⟩) hbw).trans hc0
        have hse := fun W (hb : Below w.heap.size w W) => (hsl.step hb).all
        have hpr := fun kq W (hb : Below w.heap.size w W) => rprove13_rec kq k s ls (some ⟨b, o, none⟩) k cd W (Nat.le_refl _) hsn (hd.step hb).all (by omega) Hx.out
        have hq32 := fun kq => besideW_all (hashK kq) (length_hashK kq) (wayI s k) ls
        have hI := fun kq => honest_I (hashK kq) ls s (by rw [Hdl.out]; exact hsn) HbD.out
        rw [Hdl.out, hen] at hI
        have hin := fun (q : List (List UInt8)) (hq : inclC (hashK kk) ls (s : Int) en q = (noC, 231)) A c W v (hb : Below w.heap.size w W) (hp : Hs W (fun _ => True) A q.length c q) (e : v = .slice A q.length c) => (show Calls Try.prog 17 #[.int .i64 kk, .slice (some ⟨b, o, none⟩) k cd, .int .i64 (s : Int), .slice Ae en.length ce, v] W _ from e ▸ incl13_any kk Hk5.out ls (some ⟨b, o, none⟩) k cd (s : Int) en Ae en.length ce q A q.length c W (hd.step hb).all (hse W hb) hp)
        have hai := fun (q : List (List UInt8)) (hq : inclC (hashK 0) ls (s : Int) en q = (noC, 231)) A c W v (hb : Below w.heap.size w W) (hp : Hs W (fun _ => True) A q.length c q) (e : v = .slice A q.length c) => (show Calls Try.prog 31 #[hval 38, .slice (some ⟨b, o, none⟩) k cd, .int .i64 (s : Int), .slice Ae en.length ce, v] W _ from e ▸ aincl_any own13_fn ls (some ⟨b, o, none⟩) k cd (s : Int) en Ae en.length ce q A q.length c W (hd.step hb).all (hse W hb) hp)
        obtain ⟨m, hm⟩ : ∃ m, s + 1 = m := ⟨_, rfl⟩
        have hwm : IntKind.i64.wrap ((s : Int) + 1) = (m : Int) := by rw [IntWalk.i64_in _ (by omega)]; omega
        have hC := honest_C (hashK kk) ls m (by omega) (by rw [Hdl.out]; omega) HbD.out
        have hro := fun W (hb : Below w.heap.size w W) => rroot13_rec kk m (ls.take m) (some ⟨b, o, none⟩) m cd W (Nat.le_refl _) (((hd.step hb).take m (by omega)).all) (by omega) (fun x hx' => Hx.out x (List.mem_of_mem_take hx'))
        have hlk := fun W (hb : Below w.heap.size w W) => rlink13_rec kk k m true ls (some ⟨b, o, none⟩) k cd W (Nat.le_refl _) (by omega) (by omega) (hd.step hb).all (by omega) Hx.out
        have hl32 := linkL_all (hashK kk) (length_hashK kk) true m ls
        have hfi := length_rootA (hashK kk) (length_hashK kk) (ls.take m)
        obtain ⟨fi, hfie⟩ : ∃ x, rootA (hashK kk) (ls.take m) = x := ⟨_, rfl⟩
        obtain ⟨q2, hq2⟩ : ∃ x, linkL (hashK kk) true m ls = x := ⟨_, rfl⟩
        rw [hfie] at hC hro hfi
        rw [hq2] at hC hlk hl32
        have hco := fun A c W (hb : Below w.heap.size w W) (hp : Hs W (fun _ => True) A q2.length c q2) => cons13_any kk Hk5.out ls (some ⟨b, o, none⟩) k cd (m : Int) fi q2 A q2.length c W (hd.step hb).all hfi hp
        rw [hC] at hco
        have h231 := hI kk
        have h231' := hI 0
        obtain ⟨q, hq⟩ : ∃ q, besideW (hashK kk) (wayI s k) ls = q := ⟨_, rfl⟩
        obtain ⟨q0, hq0⟩ : ∃ q, besideW (hashK 0) (wayI s k) ls = q := ⟨_, rfl⟩
        have hpr1 := hpr kk
        have hpr0 := hpr 0
        have hq32a := hq32 kk
        have hq32b := hq32 0
        rw [hq] at h231 hpr1 hq32a
        rw [hq0] at h231' hpr0 hq32b
        have hin := fun A c W v hb hp e => hin q h231 A c W v hb hp e
        have hai := fun A c W v hb hp e => hai q0 h231' A c W v hb hp e
        rw [h231] at hin
        rw [h231'] at hai
        have Hcl := Lib.hid hcl
        have Hpr := Lib.hid hpr1
        have Hpr0 := Lib.hid hpr0
        have Hin := Lib.hid hin
        have Hai := Lib.hid hai
        have Hro := Lib.hid hro
        have Hlk := Lib.hid hlk
        have Hco := Lib.hid hco
        have Hfi := Lib.hid hfi
        have Hq32 := Lib.hid hq32a
        have Hq320 := Lib.hid hq32b
        have Hl32 := Lib.hid hl32
        have hms : m ≤ k := by omega
        clear hcl hpr hpr1 hpr0 hin hai hro hlk hco hfi hq32 hq32a hq32b hl32 hI h231 h231' hC hq hq0 hq2 hfie hc0 hsl hse hen hat hm
        have hS : Below (wr.heap.size) wr wr.drew := (Below.refl _ _).drew
        refine wp_region_begin (fun W => Below (wr.heap.size) wr W) (by kernel_rfl) hS fun _ => ?_
        generalize wr.drew = u4 at hS  ⊢
        refine wpAnyH_pre (f := 8) (by kernel_rfl) #[true, true, true, true, true, true, true, true, true, true, false, false, false, false, false, false, false, false] [(0, true), (1, true), (2, true), (3, true), (4, true), (5, true), (6, true), (7, true), (8, true), (9, true)] _ _ _ (by kernel_rfl) hS ?_
        simp only [List.map_cons, List.map_nil, Array.getD_eq_getD_getElem?, List.getElem?_toArray, List.getElem?_cons_succ, List.getElem?_cons_zero, Option.getD_some]
        refine wpMix_s (fun K hK => ?_)
        go_simp
        refine hK _ ?_
        clear hK K
        refine wpMix_s (fun K hK => ?_)
        go_simp
        refine hK _ ?_
        clear hK K
        refine wpMix_s (fun K hK => ?_)
        go_simp
        refine hK _ ?_
        clear hK K
        refine wpMix_s (fun K hK => ?_)
        go_simp
        refine hK _ ?_
        clear hK K
        refine wpMix_s (fun K hK => ?_)
        go_simp
        refine hK _ ?_
        clear hK K
        refine wpMix_s (fun K hK => ?_)
        go_simp
        refine hK _ ?_
        clear hK K
        refine wpMix_v (by kernel_rfl) (.slice Ae en.length ce) (fun s_ => run_load_op 23 (.tmp 55) rfl b (o + s) rfl _ (run_load_scalar (by kernel_rfl) (Hcl.out s_.W (hb1.trans (s_.ok.mono hb1.size))))) ?_
        simp only [Act.put]
        refine wpMix_s (fun K hK => ?_)
        go_simp
        refine hK _ ?_
        clear hK K
        refine wpMix_s (fun K hK => ?_)
        go_simp
        refine hK _ ?_
        clear hK K
        refine wpMix_s (fun K hK => ?_)
        go_simp
        refine hK _ ?_
        clear hK K
        refine wpMix_nil ?_
        intro _
        show wpAnyH _ _ _ _ _ _ #[true, true, true, true, true, true, true, true, true, true, false, false, false, false, false, false, false, false] _ _
        refine wpAnyH_manyF [10, 11, 12, 13, 14, 15] (fun k => if k = 11 then [10] else if k = 12 then [11] else if k = 13 then [12] else if k = 14 then [12] else []) (fun k => k == 12 || k == 13 || k == 14) (fun k => if k = 10 then 60 else if k = 11 then 61 else if k = 12 then 49 else if k = 13 then 62 else if k = 14 then 63 else if k = 15 then 10 else 0) (fun k => if k = 10 then Fc.hrow wr.heap.size q else if k = 11 then Fc.clt wr.heap.size noC 231 else if k = 12 then Fc.clt wr.heap.size noC 231 else if k = 13 then Fc.cl wr.heap.size noC else if k = 14 then Fc.val (.int .i64 231) (fun _ h => by cases h) else Fc.clbox wr.heap.size) [60, 61, 49, 62, 63, 10] 2 (fun _ => undef) (by kernel_rfl) (by decide) (by decide) (by kernel_rfl) hS ?_ ?_
        · refine List.forall_mem_cons.2 ⟨?k10, List.forall_mem_cons.2 ⟨?k11, List.forall_mem_cons.2 ⟨?k12, List.forall_mem_cons.2 ⟨?k13, List.forall_mem_cons.2 ⟨?k14, List.forall_mem_cons.2 ⟨?k15, fun _ h => by cases h⟩⟩⟩⟩⟩⟩
          case k10 =>
            intro us u4k hSk hneed
            simp only [Array.getD_eq_getD_getElem?, List.getElem?_toArray, List.getElem?_cons_succ, List.getElem?_cons_zero, Option.getD_some]
            simp only [putAll, Act.put, List.setIfInBounds_toArray, List.set_cons_succ, List.set_cons_zero]
            refine wpMix_c (fun K hK => ?_) hSk
            go_simp
            refine (Hpr.out u4k (hb1.trans (hSk.mono hb1.size))).mono ?_
            rintro e u4kj ⟨v_, rfl, ho, hb'⟩
            refine hK _ _ ?_
            clear hK K
            refine ⟨hSk.trans (hb'.mono hSk.size), ?_⟩
            refine wpMix_nil ?_
            obtain ⟨A_, c_, rfl, -⟩ := owns_slv ho
            exact ⟨.slice A_ q.length c_, by kernel_rfl, ⟨A_, c_, rfl, owns_le ho hSk.size⟩, hb', fun g e => by cases e⟩
          case k11 =>
            intro us u4k hSk hneed
            simp only [Array.getD_eq_getD_getElem?, List.getElem?_toArray, List.getElem?_cons_succ, List.getElem?_cons_zero, Option.getD_some]
            simp only [putAll, Act.put, List.setIfInBounds_toArray, List.set_cons_succ, List.set_cons_zero]
            obtain ⟨A_, c_, e_, ho_⟩ : (Fc.hrow wr.heap.size q).ok (us 60) u4k := hneed 10 (by simp)
            have hs_ : Hs u4k (fun _ => True) A_ q.length c_ q := by rw [e_] at ho_; obtain ⟨A9_, c9_, e9_, h9_⟩ := owns_hs ho_ Hq32.out; cases e9_; exact h9_
            have E_ := Lib.hid e_
            clear e_ ho_
            refine wpMix_c (fun K hK => ?_) hSk
            go_simp
            refine (Hin.out A_ c_ u4k (us 60) (hb1.trans (hSk.mono hb1.size)) hs_ E_.out).mono ?_
            rintro e u4kj ⟨v_, rfl, ⟨a_, b_, rfl, h8_, h9_⟩, hb'⟩
            refine hK _ _ ?_
            clear hK K
            refine ⟨hSk.trans (hb'.mono hSk.size), ?_⟩
            refine wpMix_nil ?_
            exact ⟨.tuple #[.agg #[a_, b_], .int .i64 231], by kernel_rfl, ⟨a_, b_, rfl, owns_le h8_ hSk.size, owns_le h9_ hSk.size⟩, hb', fun g e => by cases e⟩
          case k12 =>
            intro us u4k hSk hneed
            simp only [Array.getD_eq_getD_getElem?, List.getElem?_toArray, List.getElem?_cons_succ, List.getElem?_cons_zero, Option.getD_some]
            simp only [putAll, Act.put, List.setIfInBounds_toArray, List.set_cons_succ, List.set_cons_zero]
            obtain ⟨a_, b_, e_, o1_, o2_⟩ : (Fc.clt wr.heap.size noC 231).ok (us 61) u4k := hneed 11 (by simp)
            refine wpMix_v (by kernel_rfl) (.tuple #[.agg #[a_, b_], .int .i64 231]) (fun s => run_move_op (.tmp 61) rfl _ e_ s.W) ?_
            simp only [Act.put]
            refine wpMix_nil ?_
            exact ⟨.tuple #[.agg #[a_, b_], .int .i64 231], by kernel_rfl, ⟨a_, b_, rfl, o1_, o2_⟩, Below.refl _ _, fun g e => by cases e⟩
          case k13 =>
            intro us u4k hSk hneed
            simp only [Array.getD_eq_getD_getElem?, List.getElem?_toArray, List.getElem?_cons_succ, List.getElem?_cons_zero, Option.getD_some]
            simp only [putAll, Act.put, List.setIfInBounds_toArray, List.set_cons_succ, List.set_cons_zero]
            obtain ⟨a_, b_, e_, o1_, o2_⟩ : (Fc.clt wr.heap.size noC 231).ok (us 49) u4k := hneed 12 (by simp)
            refine wpMix_v (by kernel_rfl) (.agg #[a_, b_]) (fun s => run_extract_op (.tmp 49) 0 rfl #[.agg #[a_, b_], .int .i64 231] e_ _ rfl s.W) ?_
            simp only [Act.put]
            refine wpMix_nil ?_
            exact ⟨.agg #[a_, b_], by kernel_rfl, ⟨a_, b_, rfl, o1_, o2_⟩, Below.refl _ _, fun g e => by cases e⟩
          case k14 =>
            intro us u4k hSk hneed
            simp only [Array.getD_eq_getD_getElem?, List.getElem?_toArray, List.getElem?_cons_succ, List.getElem?_cons_zero, Option.getD_some]
            simp only [putAll, Act.put, List.setIfInBounds_toArray, List.set_cons_succ, List.set_cons_zero]
            obtain ⟨a_, b_, e_, o1_, o2_⟩ : (Fc.clt wr.heap.size noC 231).ok (us 49) u4k := hneed 12 (by simp)
            refine wpMix_v (by kernel_rfl) (.int .i64 231) (fun s => run_extract_op (.tmp 49) 1 rfl #[.agg #[a_, b_], .int .i64 231] e_ _ rfl s.W) ?_
            simp only [Act.put]
            refine wpMix_nil ?_
            exact ⟨.int .i64 231, by kernel_rfl, rfl, Below.refl _ _, fun g e => by cases e⟩
          case k15 =>
            intro us u4k hSk hneed
            simp only [Array.getD_eq_getD_getElem?, List.getElem?_toArray, List.getElem?_cons_succ, List.getElem?_cons_zero, Option.getD_some]
            simp only [putAll, Act.put, List.setIfInBounds_toArray, List.set_cons_succ, List.set_cons_zero]
            refine wpMix_clnew rfl rfl (fun _ hb => hSk.trans (hb.mono hSk.size)) ?_
            intro u4kj kj hb'
            refine wpMix_nil ?_
            exact ⟨ptrB u4k.heap.size, by kernel_rfl, ⟨_, rfl, kj, hSk.size⟩, hb', fun g e => by cases e; exact Nat.le_refl _⟩
        · intro us u4t hS hF hA
          obtain ⟨a_, b_, e62, oa_, ob_⟩ : (Fc.cl wr.heap.size noC).ok (us 62) u4t := hF 13 (by simp)
          have e63 : us 63 = .int .i64 231 := hF 14 (by simp)
          obtain ⟨g_, e10, kb_, hg_⟩ : (Fc.clbox wr.heap.size).ok (us 10) u4t := hF 15 (by simp)
          simp only [putAll, Act.put, List.setIfInBounds_toArray, List.set_cons_succ, List.set_cons_zero]
          rw [e62, e63, e10]
          clear hF hA e62 e63 e10
          show wpAnyH _ _ _ _ _ _ #[true, true, true, true, true, true, true, true, true, true, true, true, true, true, true, true, false, false] _ _
          refine wpAnyH_pre (f := 0) (by kernel_rfl) #[true, true, true, true, true, true, true, true, true, true, true, true, true, true, true, true, true, true] [(16, false), (17, true)] _ _ _ (by kernel_rfl) hS ?_
          simp only [List.map_cons, List.map_nil, Array.getD_eq_getD_getElem?, List.getElem?_toArray, List.getElem?_cons_succ, List.getElem?_cons_zero, Option.getD_some]
          refine wpMix_clset (.tmp 10) (.tmp 62) rfl rfl kb_ rfl rfl (owns_oneCell oa_) (owns_oneCell ob_) (fun _ hb => hS.trans (hb.mono hg_)) ?_
          intro u4ts _ hb' _
          simp only [Act.put]
          replace hS := hS.trans (hb'.mono hg_)
          clear hb' kb_ oa_ ob_
          refine wpMix_s (fun K hK => ?_)
          go_simp
          refine hK _ ?_
          clear hK K
          refine wpMix_nil ?_
          intro _
          refine wpAnyH_end (by kernel_rfl) ?_
          have hb2 := hb1.trans (hS.mono hb1.size)
          clear hS hb1
          go_wp2_with (first
            | ((with_reducible show wpList _ _ _ (⟨some 73, .slice _ _ _ _ _, _, _, _, _⟩ :: _) _ _); refine wpList_run0 rfl (.slice (some ⟨b, o, none⟩) m cd) (run_slice_hiB (.tmp 70) (.tmp 72) rfl (some ⟨b, o, none⟩) k cd m rfl rfl (by omega) _) ?_; simp only [Act.put])
            | (go_at_call 36; refine (Hro.out _ hb2).mono ?_; rintro e w5 ⟨rfl, hb5⟩; have hb6 := hb2.trans (hb5.mono hb2.size))
            | (go_at_call 37; refine (Hlk.out _ hb6).mono ?_; rintro e w7 ⟨v7_, rfl, ho7, hb7⟩; have hb8 := hb6.trans (hb7.mono hb6.size); obtain ⟨A7, c7, rfl, h7⟩ := owns_hs ho7 Hl32.out; clear ho7)
            | (go_at_call 29; refine (Hco.out A7 c7 _ hb8 h7).mono ?_; rintro e w9 ⟨v9_, rfl, ⟨a9_, b9_, rfl, h9a, h9b⟩, hb9⟩; have hb10 := hb8.trans (hb9.mono hb8.size))
            | ((with_reducible show wpList _ _ _ (⟨some 12, .alloc _, _, _, _, _⟩ :: _) _ _); refine wpList_clvar (.tmp 12) (.tmp 81) rfl rfl rfl rfl rfl rfl (owns_oneCell h9a) (owns_oneCell h9b) ?_; intro w11 _ hb11; simp only [Act.put]; have hb12 := hb10.trans (hb11.mono hb10.size)))
          clear hb5 hb6 hb7 hb8 h7 hb9 hb10 hb11 h9a h9b
          have hS : Below (w11.heap.size) w11 w11.drew := (Below.refl _ _).drew
          refine wp_region_begin (fun W => Below (w11.heap.size) w11 W) (by kernel_rfl) hS fun _ => ?_
          generalize w11.drew = u6 at hS  ⊢
          refine wpAnyH_pre (f := 8) (by kernel_rfl) #[true, true, true, true, true, true, true, true, false, false, false, false, false, false, false, false] [(0, true), (1, true), (2, true), (3, true), (4, true), (5, true), (6, true), (7, true)] _ _ _ (by kernel_rfl) hS ?_
          simp only [List.map_cons, List.map_nil, Array.getD_eq_getD_getElem?, List.getElem?_toArray, List.getElem?_cons_succ, List.getElem?_cons_zero, Option.getD_some]
          refine wpMix_s (fun K hK => ?_)
          go_simp
          refine hK _ ?_
          clear hK K
          refine wpMix_s (fun K hK => ?_)
          go_simp
          refine hK _ ?_
          clear hK K
          refine wpMix_s (fun K hK => ?_)
          go_simp
          refine hK _ ?_
          clear hK K
          refine wpMix_s (fun K hK => ?_)
          go_simp
          refine hK _ ?_
          clear hK K
          refine wpMix_s (fun K hK => ?_)
          go_simp
          refine hK _ ?_
          clear hK K
          refine wpMix_v (by kernel_rfl) (.slice Ae en.length ce) (fun s_ => run_load_op 23 (.tmp 88) rfl b (o + s) rfl _ (run_load_scalar (by kernel_rfl) (Hcl.out s_.W (hb12.trans (s_.ok.mono hb12.size))))) ?_
          simp only [Act.put]
          refine wpMix_s (fun K hK => ?_)
          go_simp
          refine hK _ ?_
          clear hK K
          refine wpMix_s (fun K hK => ?_)
          go_simp
          refine hK _ ?_
          clear hK K
          refine wpMix_nil ?_
          intro _
          show wpAnyH _ _ _ _ _ _ #[true, true, true, true, true, true, true, true, false, false, false, false, false, false, false, false] _ _
          refine wpAnyH_manyF [8, 9, 10, 11, 12, 13] (fun k => if k = 9 then [8] else if k = 10 then [9] else if k = 11 then [10] else if k = 12 then [10] else []) (fun k => k == 10 || k == 11 || k == 12) (fun k => if k = 8 then 92 else if k = 9 then 93 else if k = 10 then 83 else if k = 11 then 94 else if k = 12 then 95 else if k = 13 then 14 else 0) (fun k => if k = 8 then Fc.hrow w11.heap.size q0 else if k = 9 then Fc.clt w11.heap.size noC 231 else if k = 10 then Fc.clt w11.heap.size noC 231 else if k = 11 then Fc.cl w11.heap.size noC else if k = 12 then Fc.val (.int .i64 231) (fun _ h => by cases h) else Fc.clbox w11.heap.size) [92, 93, 83, 94, 95, 14] 2 (fun _ => undef) (by kernel_rfl) (by decide) (by decide) (by kernel_rfl) hS ?_ ?_
          · refine List.forall_mem_cons.2 ⟨?k8, List.forall_mem_cons.2 ⟨?k9, List.forall_mem_cons.2 ⟨?k10, List.forall_mem_cons.2 ⟨?k11, List.forall_mem_cons.2 ⟨?k12, List.forall_mem_cons.2 ⟨?k13, fun _ h => by cases h⟩⟩⟩⟩⟩⟩
            case k8 =>
              intro us u6k hSk hneed
              simp only [Array.getD_eq_getD_getElem?, List.getElem?_toArray, List.getElem?_cons_succ, List.getElem?_cons_zero, Option.getD_some]
              simp only [putAll, Act.put, List.setIfInBounds_toArray, List.set_cons_succ, List.set_cons_zero]
              refine wpMix_c (fun K hK => ?_) hSk
              go_simp
              refine (Hpr0.out u6k (hb12.trans (hSk.mono hb12.size))).mono ?_
              rintro e u6kj ⟨v_, rfl, ho, hb'⟩
              refine hK _ _ ?_
              clear hK K
              refine ⟨hSk.trans (hb'.mono hSk.size), ?_⟩
              refine wpMix_nil ?_
              obtain ⟨A_, c_, rfl, -⟩ := owns_slv ho
              exact ⟨.slice A_ q0.length c_, by kernel_rfl, ⟨A_, c_, rfl, owns_le ho hSk.size⟩, hb', fun g e => by cases e⟩
            case k9 =>
              intro us u6k hSk hneed
              simp only [Array.getD_eq_getD_getElem?, List.getElem?_toArray, List.getElem?_cons_succ, List.getElem?_cons_zero, Option.getD_some]
              simp only [putAll, Act.put, List.setIfInBounds_toArray, List.set_cons_succ, List.set_cons_zero]
              obtain ⟨A_, c_, e_, ho_⟩ : (Fc.hrow w11.heap.size q0).ok (us 92) u6k := hneed 8 (by simp)
              have hs_ : Hs u6k (fun _ => True) A_ q0.length c_ q0 := by rw [e_] at ho_; obtain ⟨A9_, c9_, e9_, h9_⟩ := owns_hs ho_ Hq320.out; cases e9_; exact h9_
              have E_ := Lib.hid e_
              clear e_ ho_
              refine wpMix_c (fun K hK => ?_) hSk
              go_simp
              refine (Hai.out A_ c_ u6k (us 92) (hb12.trans (hSk.mono hb12.size)) hs_ E_.out).mono ?_
              rintro e u6kj ⟨v_, rfl, ⟨a_, b_, rfl, h8_, h9_⟩, hb'⟩
              refine hK _ _ ?_
              clear hK K
              refine ⟨hSk.trans (hb'.mono hSk.size), ?_⟩
              refine wpMix_nil ?_
              exact ⟨.tuple #[.agg #[a_, b_], .int .i64 231], by kernel_rfl, ⟨a_, b_, rfl, owns_le h8_ hSk.size, owns_le h9_ hSk.size⟩, hb', fun g e => by cases e⟩
            case k10 =>
              intro us u6k hSk hneed
              simp only [Array.getD_eq_getD_getElem?, List.getElem?_toArray, List.getElem?_cons_succ, List.getElem?_cons_zero, Option.getD_some]
              simp only [putAll, Act.put, List.setIfInBounds_toArray, List.set_cons_succ, List.set_cons_zero]
              obtain ⟨a_, b_, e_, o1_, o2_⟩ : (Fc.clt w11.heap.size noC 231).ok (us 93) u6k := hneed 9 (by simp)
              refine wpMix_v (by kernel_rfl) (.tuple #[.agg #[a_, b_], .int .i64 231]) (fun s => run_move_op (.tmp 93) rfl _ e_ s.W) ?_
              simp only [Act.put]
              refine wpMix_nil ?_
              exact ⟨.tuple #[.agg #[a_, b_], .int .i64 231], by kernel_rfl, ⟨a_, b_, rfl, o1_, o2_⟩, Below.refl _ _, fun g e => by cases e⟩
            case k11 =>
              intro us u6k hSk hneed
              simp only [Array.getD_eq_getD_getElem?, List.getElem?_toArray, List.getElem?_cons_succ, List.getElem?_cons_zero, Option.getD_some]
              simp only [putAll, Act.put, List.setIfInBounds_toArray, List.set_cons_succ, List.set_cons_zero]
              obtain ⟨a_, b_, e_, o1_, o2_⟩ : (Fc.clt w11.heap.size noC 231).ok (us 83) u6k := hneed 10 (by simp)
              refine wpMix_v (by kernel_rfl) (.agg #[a_, b_]) (fun s => run_extract_op (.tmp 83) 0 rfl #[.agg #[a_, b_], .int .i64 231] e_ _ rfl s.W) ?_
              simp only [Act.put]
              refine wpMix_nil ?_
              exact ⟨.agg #[a_, b_], by kernel_rfl, ⟨a_, b_, rfl, o1_, o2_⟩, Below.refl _ _, fun g e => by cases e⟩
            case k12 =>
              intro us u6k hSk hneed
              simp only [Array.getD_eq_getD_getElem?, List.getElem?_toArray, List.getElem?_cons_succ, List.getElem?_cons_zero, Option.getD_some]
              simp only [putAll, Act.put, List.setIfInBounds_toArray, List.set_cons_succ, List.set_cons_zero]
              obtain ⟨a_, b_, e_, o1_, o2_⟩ : (Fc.clt w11.heap.size noC 231).ok (us 83) u6k := hneed 10 (by simp)
              refine wpMix_v (by kernel_rfl) (.int .i64 231) (fun s => run_extract_op (.tmp 83) 1 rfl #[.agg #[a_, b_], .int .i64 231] e_ _ rfl s.W) ?_
              simp only [Act.put]
              refine wpMix_nil ?_
              exact ⟨.int .i64 231, by kernel_rfl, rfl, Below.refl _ _, fun g e => by cases e⟩
            case k13 =>
              intro us u6k hSk hneed
              simp only [Array.getD_eq_getD_getElem?, List.getElem?_toArray, List.getElem?_cons_succ, List.getElem?_cons_zero, Option.getD_some]
              simp only [putAll, Act.put, List.setIfInBounds_toArray, List.set_cons_succ, List.set_cons_zero]
              refine wpMix_clnew rfl rfl (fun _ hb => hSk.trans (hb.mono hSk.size)) ?_
              intro u6kj kj hb'
              refine wpMix_nil ?_
              exact ⟨ptrB u6k.heap.size, by kernel_rfl, ⟨_, rfl, kj, hSk.size⟩, hb', fun g e => by cases e; exact Nat.le_refl _⟩
          · intro us u6t hS hF hA
            obtain ⟨a_, b_, e62, oa_, ob_⟩ : (Fc.cl w11.heap.size noC).ok (us 94) u6t := hF 11 (by simp)
            have e63 : us 95 = .int .i64 231 := hF 12 (by simp)
            obtain ⟨g_, e10, kb_, hg_⟩ : (Fc.clbox w11.heap.size).ok (us 14) u6t := hF 13 (by simp)
            simp only [putAll, Act.put, List.setIfInBounds_toArray, List.set_cons_succ, List.set_cons_zero]
            rw [e62, e63, e10]
            clear hF hA e62 e63 e10
            show wpAnyH _ _ _ _ _ _ #[true, true, true, true, true, true, true, true, true, true, true, true, true, true, false, false] _ _
            refine wpAnyH_pre (f := 0) (by kernel_rfl) #[true, true, true, true, true, true, true, true, true, true, true, true, true, true, true, true] [(14, false), (15, true)] _ _ _ (by kernel_rfl) hS ?_
            simp only [List.map_cons, List.map_nil, Array.getD_eq_getD_getElem?, List.getElem?_toArray, List.getElem?_cons_succ, List.getElem?_cons_zero, Option.getD_some]
            refine wpMix_clset (.tmp 14) (.tmp 94) rfl rfl kb_ rfl rfl (owns_oneCell oa_) (owns_oneCell ob_) (fun _ hb => hS.trans (hb.mono hg_)) ?_
            intro u6ts _ hb' _
            simp only [Act.put]
            replace hS := hS.trans (hb'.mono hg_)
            clear hb' kb_ oa_ ob_
            refine wpMix_s (fun K hK => ?_)
            go_simp
            refine hK _ ?_
            clear hK K
            refine wpMix_nil ?_
            intro _
            refine wpAnyH_end (by kernel_rfl) ?_
            have hb13 := hb12.trans (hS.mono hb12.size)
            go_wp2_with (go_at_call 19; refine (num13_any _ _).mono ?_; rintro e w14 ⟨rfl, hww⟩; obtain rfl : u6ts = w14 := by first | exact hww | exact hww.symm)
            go_ret
            exact ⟨rfl, hb13⟩
end Go.Proofs.Ytonidnfgneokbaa
