/- notaryref13.Incl. -/
import Derived.Test.YtonidnfgneokbaaQd131
namespace Go.Proofs.Ytonidnfgneokbaa
open Go Go.RowKit Go.Shelf
attribute [local go_sem] Oper.semAt_some

theorem inclM_cons (H : Hf) (b : Bool) (way : List Bool) (d : List (List UInt8)) (pf : List (List UInt8)) (a0 e : List UInt8) (L : Nat) (hL : way.length = L) (x y : List UInt8) (hx : rootA H (d.take (splitN d.length)) = x) (hy : rootA H (d.drop (splitN d.length)) = y) (p : PairV) (hp : pairB b (pf.getD L []) (atI H way (pf.take L) a0 L) = p) :
    inclM H (b :: way) (saidL H (b :: way) pf a0) d e = if p = (x, y) then inclM H way (saidL H way (pf.take L) a0) (if b = true then d.drop (splitN d.length) else d.take (splitN d.length)) e else ((nodeD p, nodeD (x, y)), 0) := by
  subst hL hx hy hp
  rw [saidL_cons, prI_top]
  unfold inclM
  by_cases h : pairB b (pf.getD way.length []) (atI H way (pf.take way.length) a0 way.length) = (rootA H (d.take (splitN d.length)), rootA H (d.drop (splitN d.length)))
  · rw [if_pos h, lieF_step H b way _ _ d h]
  · rw [if_neg h, lieF_stop H b way _ _ d h]
theorem inclM_nil (H : Hf) (sd : List PairV) (d : List (List UInt8)) (e : List UInt8) : inclM H [] sd d e = if e = d.getD 0 [] then (noC, 231) else ((leafD e, leafD (d.getD 0 [])), 0) := by
  unfold inclM lieF
  cases sd <;> rfl

set_option maxHeartbeats 16000000 in
set_option maxRecDepth 100000 in
theorem rincl_any (kd : Int) (ls : List (List UInt8)) (Ad : Option Addr) (nd cd : Nat) (i : Int) (en : List UInt8) (Ae : Option Addr) (ne ce : Nat) (pf : List (List UInt8)) (Ap : Option Addr) (np cp : Nat) (w : World)
    (hd : Es w (fun _ => True) Ad nd cd ls) (he : Sl w (fun _ => True) Ae ne ce en) (hp : Hs w (fun _ => True) Ap np cp pf) :
    Calls Try.prog 18 #[.int .i64 kd, .slice Ad nd cd, .int .i64 i, .slice Ae ne ce, .slice Ap np cp] w fun e' w' => ∃ v, e' = .returned (.tuple #[v, .int .i64 (inclC (hashK kd) ls i en pf).2]) ∧ ClV w.heap.size (inclC (hashK kd) ls i en pf).1 v w' ∧ Below w.heap.size w w' := by
  have hroomd := hd.room
  have hmxd := hd.max
  unfold maxLen at hmxd
  have hroome := he.room
  have hmxe := he.max
  unfold maxLen at hmxe
  have hroomp := hp.sl.room
  have hmxp := hp.sl.max
  unfold maxLen at hmxp
  have hdl := hd.len
  have hel := he.len
  have hpl := hp.len
  have hd' := hd.weak (Y := (· < w.heap.size)) fun b hb _ => hb
  have he' := he.weak (Y := (· < w.heap.size)) fun b hb _ => hb
  have hp' := hp.weak (Y := (· < w.heap.size)) fun b hb _ => hb
  have Hdl := Lib.hid hdl
  have Hel := Lib.hid hel
  have Hpl := Lib.hid hpl
  clear hd he hp hdl hel hpl
  obtain ⟨big, hbig⟩ : ∃ b, bigD ls = b := ⟨_, rfl⟩
  have hlg := fun W (hb : Below w.heap.size w W) => rlarge_any ls Ad nd cd W ((hd'.step hb).all)
  rw [hbig] at hlg
  have Hlg := Lib.hid hlg
  have Hbig := Lib.hid hbig
  clear hlg hbig
  by_cases hA : big = true ∨ 4096 < ne
  · rw [inclC_2 (hashK kd) ls i en pf (by rw [Hbig.out, Hel.out]; exact hA)]
    by_cases hA1 : big = true
    · subst hA1
      go_enter Try.func18, Try.ntmps18
      refine Code.wp_mono (fun _ _ _ h => BP.out h) ?_
      go_wp2_with (first
        | ((with_reducible show wpList _ _ _ (⟨some 10, .alloc _, _, _, _, _⟩ :: _) _ _); refine wpList_clnew rfl rfl ?_; intro w1 k10 hb1; simp only [Act.put])
        | (go_at_call 74; refine (Hlg.out _ hb1).mono ?_; rintro e w2 ⟨rfl, hw2⟩; obtain rfl := hw2.symm)
        | ((with_reducible show wpList _ _ _ (⟨some 26, .build _ _, _, _, _, _⟩ :: _) _ _); refine wpList_run0 rfl (.agg #[.slice none 0 0, .slice none 0 0]) (by kernel_rfl) ?_; simp only [Act.put])
        | ((with_reducible show wpList _ _ _ (⟨none, .store _ (.tmp 10) (.tmp 26), _, _, _, _⟩ :: _) _ _); refine wpList_clset (.tmp 10) (.tmp 26) rfl rfl k10 rfl rfl rfl rfl ?_; intro W3 k10s hb3 hW3; clear hW3; have hbE := hb1.trans (hb3.mono (Nat.le_refl _)); simp only [Act.put]))
      exact ⟨bodyPost_ret (ret_clash2 rfl rfl k10s) rfl ⟨_, rfl, ClV.zero _ _, hbE⟩⟩
    · have hA1 : big = false := by simpa using hA1
      subst hA1
      have hn4 : decide ((4096 : Int) < (ne : Int)) = true := by simp at hA ⊢; omega
      have hn4' : 4096 < ne := by simpa using hA
      go_enter Try.func18, Try.ntmps18
      refine Code.wp_mono (fun _ _ _ h => BP.out h) ?_
      go_wp2_with (first
        | ((with_reducible show wpList _ _ _ (⟨some 10, .alloc _, _, _, _, _⟩ :: _) _ _); refine wpList_clnew rfl rfl ?_; intro w1 k10 hb1; simp only [Act.put])
        | (go_at_call 74; refine (Hlg.out _ hb1).mono ?_; rintro e w2 ⟨rfl, hw2⟩; obtain rfl := hw2.symm)
        | ((with_reducible show wpList _ _ _ (⟨some 26, .build _ _, _, _, _, _⟩ :: _) _ _); refine wpList_run0 rfl (.agg #[.slice none 0 0, .slice none 0 0]) (by kernel_rfl) ?_; simp only [Act.put])
        | ((with_reducible show wpList _ _ _ (⟨none, .store _ (.tmp 10) (.tmp 26), _, _, _, _⟩ :: _) _ _); refine wpList_clset (.tmp 10) (.tmp 26) rfl rfl k10 rfl rfl rfl rfl ?_; intro W3 k10s hb3 hW3; clear hW3; have hbE := hb1.trans (hb3.mono (Nat.le_refl _)); simp only [Act.put]))
      exact ⟨bodyPost_ret (ret_clash2 rfl rfl k10s) rfl ⟨_, rfl, ClV.zero _ _, hbE⟩⟩
  · rw [not_or] at hA
    have hA1 : big = false := by simpa using hA.1
    subst hA1
    have hn4 : decide ((4096 : Int) < (ne : Int)) = false := by simp; omega
    have hn4' : ¬ 4096 < ne := hA.2
    have hA2 : ne ≤ 4096 := by omega
    have hnb : ¬ (bigD ls = true ∨ 4096 < en.length) := by rw [Hbig.out, Hel.out]; simp; omega
    have hnb2 := bigD_not ls Hbig.out
    rw [Hdl.out] at hnb2
    have Hnb := Lib.hid hnb
    have Hnb2 := Lib.hid hnb2
    clear hA hnb hnb2
    by_cases hB : i < 0 ∨ (nd : Int) ≤ i
    · rw [inclC_4 (hashK kd) ls i en pf Hnb.out (by rw [Hdl.out]; exact hB)]
      have Hb := Lib.hid hB
      by_cases hi0 : i < 0
      · have hi1 : decide (i < (0 : Int)) = true := by simpa using hi0
        clear hB
        go_enter Try.func18, Try.ntmps18
        refine Code.wp_mono (fun _ _ _ h => BP.out h) ?_
        go_wp2_with (first
          | ((with_reducible show wpList _ _ _ (⟨some 10, .alloc _, _, _, _, _⟩ :: _) _ _); refine wpList_clnew rfl rfl ?_; intro w1 k10 hb1; simp only [Act.put])
          | (go_at_call 74; refine (Hlg.out _ hb1).mono ?_; rintro e w2 ⟨rfl, hw2⟩; obtain rfl := hw2.symm)
          | ((with_reducible show wpList _ _ _ (⟨some 34, .build _ _, _, _, _, _⟩ :: _) _ _); refine wpList_run0 rfl (.agg #[.slice none 0 0, .slice none 0 0]) (by kernel_rfl) ?_; simp only [Act.put])
          | ((with_reducible show wpList _ _ _ (⟨none, .store _ (.tmp 10) (.tmp 34), _, _, _, _⟩ :: _) _ _); refine wpList_clset (.tmp 10) (.tmp 34) rfl rfl k10 rfl rfl rfl rfl ?_; intro W3 k10s hb3 hW3; clear hW3; have hbE := hb1.trans (hb3.mono (Nat.le_refl _)); simp only [Act.put]))
        exact ⟨bodyPost_ret (ret_clash2 rfl rfl k10s) rfl ⟨_, rfl, ClV.zero _ _, hbE⟩⟩
      · have hi1 : decide (i < (0 : Int)) = false := by simpa using hi0
        have hi2' : (nd : Int) ≤ i := by omega
        have hi2 : decide ((nd : Int) ≤ i) = true := by simpa using hi2'
        clear hB
        go_enter Try.func18, Try.ntmps18
        refine Code.wp_mono (fun _ _ _ h => BP.out h) ?_
        go_wp2_with (first
          | ((with_reducible show wpList _ _ _ (⟨some 10, .alloc _, _, _, _, _⟩ :: _) _ _); refine wpList_clnew rfl rfl ?_; intro w1 k10 hb1; simp only [Act.put])
          | (go_at_call 74; refine (Hlg.out _ hb1).mono ?_; rintro e w2 ⟨rfl, hw2⟩; obtain rfl := hw2.symm)
          | ((with_reducible show wpList _ _ _ (⟨some 34, .build _ _, _, _, _, _⟩ :: _) _ _); refine wpList_run0 rfl (.agg #[.slice none 0 0, .slice none 0 0]) (by kernel_rfl) ?_; simp only [Act.put])
          | ((with_reducible show wpList _ _ _ (⟨none, .store _ (.tmp 10) (.tmp 34), _, _, _, _⟩ :: _) _ _); refine wpList_clset (.tmp 10) (.tmp 34) rfl rfl k10 rfl rfl rfl rfl ?_; intro W3 k10s hb3 hW3; clear hW3; have hbE := hb1.trans (hb3.mono (Nat.le_refl _)); simp only [Act.put]))
        exact ⟨bodyPost_ret (ret_clash2 rfl rfl k10s) rfl ⟨_, rfl, ClV.zero _ _, hbE⟩⟩
    · rw [not_or] at hB
      obtain ⟨s0, rfl⟩ : ∃ s : Nat, i = (s : Int) := ⟨i.toNat, by omega⟩
      have hsn0 : s0 < nd := by omega
      have hnd : nd ≤ 65536 := Hnb2.out.1
      have hi1 : decide ((s0 : Int) < (0 : Int)) = false := by simp
      have hi2 : decide ((nd : Int) ≤ (s0 : Int)) = false := by simp; omega
      have hi2' : ¬ (nd : Int) ≤ (s0 : Int) := by omega
      rw [inclC_n (hashK kd) ls s0 en pf Hnb.out (by rw [Hdl.out]; exact hsn0), Hpl.out, Hdl.out]
      have hdp := fun W => rdeep13_rec nd s0 nd W (Nat.le_refl _) (by omega) hsn0 (by omega)
      obtain ⟨L, hL⟩ : ∃ L, (wayI s0 nd).length = L := ⟨_, rfl⟩
      have hwll : L ≤ nd := by rw [← hL]; exact wayF_le _ _ _ _ _
      rw [hL] at hdp ⊢
      have Hdp := Lib.hid hdp
      have HL := Lib.hid hL
      clear hB hdp hL
      by_cases hC : np = L
      · rw [if_neg (by omega)]
        subst hC
        have hC1 : (((np : Int) : Int) != (np : Int)) = false := by simp
        have hC2 : ¬ ¬ (np : Int) = (np : Int) := by simp
        have hup := fun W (hb : Below w.heap.size w W) => rup13_rec kd en Ae ne ce (by have := hA2; omega) nd s0 nd pf Ap np cp W (Nat.le_refl _) (by omega) hsn0 (by omega) (he'.step hb).all ((hp'.step hb).weak fun _ _ _ => trivial) HL.out.symm
        have hrt := fun W (hb : Below w.heap.size w W) => rroot13_rec kd nd ls Ad nd cd W (Nat.le_refl _) (hd'.step hb).all (by omega) (fun x hx => Nat.le_trans (Hnb2.out.2 x hx) (by decide))
        obtain ⟨a0, ha0⟩ : ∃ a, hashK kd (leafD en) = a := ⟨_, rfl⟩
        have h0l : a0.length = 32 := by rw [← ha0]; exact length_hashK _ _
        rw [ha0] at hup ⊢
        obtain ⟨at_, hat⟩ : ∃ a, atI (hashK kd) (wayI s0 nd) pf a0 np = a := ⟨_, rfl⟩
        have hatl : at_.length = 32 := by rw [← hat]; exact length_atI (hashK kd) (length_hashK kd) a0 h0l _ pf np
        rw [hat] at hup ⊢
        obtain ⟨ro, hro⟩ : ∃ a, rootA (hashK kd) ls = a := ⟨_, rfl⟩
        have hrol : ro.length = 32 := by rw [← hro]; exact length_rootA (hashK kd) (length_hashK kd) ls
        rw [hro] at hrt ⊢
        obtain ⟨res, hres⟩ : ∃ r, (if at_ ≠ ro then (noC, (230 : Int)) else inclM (hashK kd) (wayI s0 nd) (saidL (hashK kd) (wayI s0 nd) pf a0) ls en) = r := ⟨_, rfl⟩
        rw [hres]
        have Hres := Lib.hid hres
        have Hup := Lib.hid hup
        have Hrt := Lib.hid hrt
        have Ha0 := Lib.hid ha0
        have H0l := Lib.hid h0l
        have Hatl := Lib.hid hatl
        have Hrol := Lib.hid hrol
        clear hres hup hrt hat ha0 hro h0l hatl hrol
        by_cases hD : at_ = ro
        · have hr := Hres.out
          rw [if_neg (fun h => h hD)] at hr
          have Hr := Lib.hid hr
          have HD := Lib.hid hD
          clear hr hD
          go_enter Try.func18, Try.ntmps18
          refine Code.wp_mono (fun _ _ _ h => BP.out h) ?_
          go_wp2_with (first
            | ((with_reducible show wpList _ _ _ (⟨some 10, .alloc _, _, _, _, _⟩ :: _) _ _); refine wpList_clnew rfl rfl ?_; intro w1 k10 hb1; simp only [Act.put])
            | (go_at_call 74; refine (Hlg.out _ hb1).mono ?_; rintro e w2 ⟨rfl, hw2⟩; obtain rfl := hw2.symm)
            | (go_at_call 75; refine (Hdp.out _).mono ?_; rintro e w3 ⟨rfl, hw3⟩; obtain rfl := hw3.symm)
            | (go_at_call 76; refine (Hup.out _ hb1).mono ?_; rintro e w4 ⟨rfl, hb4⟩; have hb5 := hb1.trans (hb4.mono hb1.size); replace k10 := k10.step hb4)
            | (go_at_call 36; refine (Hrt.out _ hb5).mono ?_; rintro e w6 ⟨rfl, hb6⟩; have hb7 := hb5.trans (hb6.mono hb5.size); replace k10 := k10.step hb6)
            | ((with_reducible show wpList _ _ _ (⟨some 51, .binOp _ _ _ _ _, _, _, _, _⟩ :: _) _ _); refine wpList_runG (by kernel_rfl) (.bool false) _ (run_neq26_f (.tmp 47) (.tmp 50) _ at_ ro rfl rfl rfl Hatl.out Hrol.out HD.out _) ?_; simp only [Act.put]))
          clear hb1 hb4 hb5 hb6 hC1 hC2 hi1 hi2 hi2' hn4 hn4'
          go_loopw [1, 2, 4, 13, 14, 15, 16] (fun v1 v2 v4 _ _ _ _ wr => ∃ (s n c np : Nat) (A Ap : Option Addr) (d pf : List (List UInt8)), v1 = .slice A n c ∧ v2 = .int .i64 (s : Int) ∧ v4 = .slice Ap np cp ∧ Es wr (· < w.heap.size) A n c d ∧ Hs wr (· < w.heap.size) Ap np cp pf ∧ s < n ∧ n ≤ nd ∧ np = (wayI s n).length ∧
            inclM (hashK kd) (wayI s n) (saidL (hashK kd) (wayI s n) pf a0) d en = res ∧ (∀ x ∈ d, x.length ≤ 4096) ∧ Blk wr w.heap.size 34 #[.slice none 0 0, .slice none 0 0] ∧ Below w.heap.size w wr) (fun v1 _ _ _ _ _ _ _ => sliceLen v1)
          case atStart => exact ⟨s0, nd, cd, np, Ad, Ap, ls, pf, rfl, rfl, rfl, hd'.step hb7, hp'.step hb7, hsn0, Nat.le_refl _, HL.out.symm, Hr.out, Hnb2.out.2, k10, hb7⟩
          case round =>
            clear k10 hb7
            obtain ⟨s, n, c, np, A, Ap, d, pf, rfl, rfl, rfl, hE, hP, hsn, hn', hnp, hres, hxd, k10, hbr⟩ := hrel
            have hroom := hE.room
            have hmx := hE.max
            unfold maxLen at hmx
            have hroomP := hP.sl.room
            have hdl := hE.len
            have hPl := hP.len
            by_cases h2 : 2 ≤ n
            · have h1n : decide ((1 : Int) < (n : Int)) = true := by simp; omega
              have hkl := splitN_lt n h2
              have hkp := splitN_pos n h2
              have hsp := fun W => rsplit_any (n : Int) W (by omega)
              rw [Int.toNat_natCast] at hsp
              have hwr := fun (hk : splitN n ≤ s) => wayI_right s n h2 hsn hk
              have hwl := fun (hk : s < splitN n) => wayI_left s n h2 hk
              have hcons := fun b way (L : Nat) (hL : way.length = L) x y hx hy p hp => inclM_cons (hashK kd) b way d pf a0 en L hL x y hx hy p hp
              rw [hdl] at hcons
              obtain ⟨k, hk⟩ : ∃ k, splitN n = k := ⟨_, rfl⟩
              rw [hk] at hkl hkp hsp hwr hwl hcons
              have ht1 := hE.take k (by omega)
              have ht2 := hE.drop k (by omega)
              obtain ⟨A2, hA2⟩ : ∃ A2, (if c = k then A else A.map (·.add (k * 1))) = A2 := ⟨_, rfl⟩
              rw [hA2] at ht2
              have HA2 := Lib.hid hA2
              have r1 := fun W (hb : Below wr.heap.size wr W) => rroot13_rec kd k (d.take k) A k c W (Nat.le_refl _) (ht1.step hb).all (by omega) (fun x hx' => Nat.le_trans (hxd x (List.mem_of_mem_take hx')) (by decide))
              have r2 := fun W (hb : Below wr.heap.size wr W) => rroot13_rec kd (n - k) (d.drop k) A2 (n - k) (c - k) W (Nat.le_refl _) (ht2.step hb).all (by omega) (fun x hx' => Nat.le_trans (hxd x (List.mem_of_mem_drop hx')) (by decide))
              have l1 := length_rootA (hashK kd) (length_hashK kd) (d.take k)
              have l2 := length_rootA (hashK kd) (length_hashK kd) (d.drop k)
              obtain ⟨x, hx1⟩ : ∃ x, rootA (hashK kd) (d.take k) = x := ⟨_, rfl⟩
              obtain ⟨y, hy1⟩ : ∃ y, rootA (hashK kd) (d.drop k) = y := ⟨_, rfl⟩
              replace hcons := fun b way (L : Nat) (hL : way.length = L) p hp => hcons b way L hL x y hx1 hy1 p hp
              rw [hx1] at r1 l1
              rw [hy1] at r2 l2
              have hnd2 := fun W => rnode13_any x y W l1 l2
              have hnl : (nodeD (x, y)).length = 65 := by simp [nodeD, l1, l2]
              have Hnl := Lib.hid hnl
              have Hnd := Lib.hid hnd2
              have R1 := Lib.hid r1
              have R2 := Lib.hid r2
              have Hsp := Lib.hid hsp
              have Hxd := Lib.hid hxd
              have Ll1 := Lib.hid l1
              have Ll2 := Lib.hid l2
              clear hnd2 hnl r1 r2 hsp hxd hx1 hy1 hk hA2 l1 l2
              by_cases hik : s < k
              · have hd1 : decide ((s : Int) < (k : Int)) = true := by simp; omega
                have e := hwl hik
                rw [e] at hnp hres
                obtain ⟨way, hway⟩ : ∃ way, wayI s k = way := ⟨_, rfl⟩
                rw [hway] at hnp hres
                rw [List.length_cons] at hnp
                obtain ⟨L, hL⟩ : ∃ L, way.length = L := ⟨_, rfl⟩
                rw [hL] at hnp
                subst hnp
                obtain ⟨p1, hp1⟩ : ∃ p, atI (hashK kd) way (pf.take L) a0 L = p := ⟨_, rfl⟩
                obtain ⟨p2, hp2⟩ : ∃ p, pf.getD L [] = p := ⟨_, rfl⟩
                rw [hcons false way L hL (p1, p2) (by rw [hp1, hp2]; rfl), if_neg (by simp : ¬ false = true)] at hres
                have hup := fun W (hb : Below wr.heap.size wr W) => rup13_rec kd en Ae ne ce (by omega) k s k (pf.take L) Ap L cp W (Nat.le_refl _) (by omega) hik (by omega) (he'.step (hbr.trans (hb.mono hbr.size))).all (((hP.step hb).take L (by omega)).weak fun _ _ _ => trivial) (by rw [hway, hL])
                rw [hway, Ha0.out, hp1] at hup
                obtain ⟨bp, op, rfl, hbp, -, -⟩ := hP.at_ (by omega)
                have hget := fun W (hb : Below wr.heap.size wr W) => (hP.step hb).get rfl L (by omega)
                have lg := hP.all.getD L (by rw [hPl]; omega)
                rw [hp2] at hget lg
                have la := length_atI (hashK kd) (length_hashK kd) a0 H0l.out way (pf.take L) L
                rw [hp1] at la
                have hnd3 := fun W => rnode13_any p1 p2 W la lg
                have hnl3 : (nodeD (p1, p2)).length = 65 := by simp [nodeD, la, lg]
                have hww : IntKind.i64.wrap ((L : Int) + 1 - 1) = (L : Int) := by rw [IntWalk.i64_in _ (by omega)]; omega
                have hww2 : IntKind.i64.wrap ((((L + 1 : Nat)) : Int) - 1) = (L : Int) := by rw [IntWalk.i64_in _ (by omega)]; omega
                have hLL : (L : Int) < (L : Int) + 1 := by omega
                have Hres2 := Lib.hid hres
                have Hway := Lib.hid hway
                have HwL := Lib.hid hL
                have Hup2 := Lib.hid hup
                have Hget := Lib.hid hget
                have Hnd3 := Lib.hid hnd3
                have Hnl3 := Lib.hid hnl3
                have Lp1 := Lib.hid la
                have Lp2 := Lib.hid lg
                clear hres hway hL hup hget hnd3 hnl3 hcons hwr hwl e hp1 hp2 lg la
                have ht1' := ht1
                have ht2' := ht2
                go_wp2_with (go_at_call 77; refine (Hsp.out wr).mono ?_; rintro e w9 ⟨rfl, rfl⟩)
                have hz0 := hbr.size
                have hk10l := k10.lt
                have hS : Below wr.heap.size wr wr.drew := (Below.refl _ _).drew
                refine wp_region_mix (fun W => Below wr.heap.size wr W) [(0, true), (1, true), (2, true), (3, true), (5, true), (6, true), (7, true), (8, true), (4, false), (9, false), (10, false), (11, true)] (by kernel_rfl) (by kernel_rfl) hS fun _ => ?_
                simp only [List.map_cons, List.map_nil, Array.getD_eq_getD_getElem?, List.getElem?_toArray, List.getElem?_cons_succ, List.getElem?_cons_zero, Option.getD_some]
                generalize wr.drew = u0 at hS ⊢
                refine wpMix_s (fun K hK => ?_)
                go_simp
                refine hK _ ?_
                clear hK K
                refine wpMix_s (fun K hK => ?_)
                go_simp
                refine hK _ ?_
                clear hK K
                refine wpMix_s (fun K hK => ?_)
                go_simp
                refine hK _ ?_
                clear hK K
                refine wpMix_v (by kernel_rfl) (.slice A k c) (fun s => run_slice_hiB (.tmp 64) (.tmp 65) rfl A n c k rfl rfl (by omega) s.W) ?_
                simp only [Act.put]
                refine wpMix_s (fun K hK => ?_)
                go_simp
                refine hK _ ?_
                clear hK K
                refine wpMix_s (fun K hK => ?_)
                go_simp
                refine hK _ ?_
                clear hK K
                refine wpMix_s (fun K hK => ?_)
                go_simp
                refine hK _ ?_
                clear hK K
                refine wpMix_v (by kernel_rfl) (.slice A2 (n - k) (c - k)) (fun s => by rw [← HA2.out]; exact run_slice_loB (.tmp 69) (.tmp 70) rfl A n c k rfl rfl (by omega) s.W) ?_
                simp only [Act.put]
                refine wpMix_c (fun K hK => ?_) hS
                go_simp
                refine (R1.out u0 hS).mono ?_
                rintro e u0_1 ⟨rfl, hb'⟩
                refine hK _ _ ?_
                clear hK K
                replace hS := hS.trans (hb'.mono hS.size)
                refine ⟨hS, ?_⟩
                clear hb'
                refine wpMix_c (fun K hK => ?_) hS
                go_simp
                refine (R2.out u0_1 hS).mono ?_
                rintro e u0_2 ⟨rfl, hb'⟩
                refine hK _ _ ?_
                clear hK K
                replace hS := hS.trans (hb'.mono hS.size)
                refine ⟨hS, ?_⟩
                clear hb'
                have hzS := hS.size
                refine wpMix_c (fun K hK => ?_) hS
                go_simp
                refine (Hnd.out u0_2).mono ?_
                rintro e u0_2a ⟨v8, rfl, hf⟩
                refine hK _ _ ?_
                clear hK K
                have ho8 := owns_le hf.1 (show w.heap.size + 1 ≤ u0_2.heap.size by omega)
                have hz8 := hf.2.size
                replace hS := hS.trans (hf.2.mono hS.size)
                refine ⟨hS, ?_⟩
                clear hf hzS
                obtain ⟨A8, c8, rfl, -⟩ := owns_slv ho8
                rw [Hnl.out] at ho8 ⊢
                refine wpMix_s (fun K hK => ?_)
                go_simp
                refine hK _ ?_
                clear hK K
                refine wpMix_nil ?_
                intro _
                have hb8 := hbr.trans (hS.mono hbr.size)
                have hS8 := Lib.hid hS
                clear hS
                go_wp2_with fail
                have hb88 := hS8.out
                replace ho8 := owns_step ho8 (Below.refl u0_2a.heap.size u0_2a).drew
                have hS : Below u0_2a.heap.size u0_2a u0_2a.drew := (Below.refl _ _).drew
                refine wp_region_mix (fun W => Below u0_2a.heap.size u0_2a W) [(0, true), (1, true), (2, true), (3, true), (4, true), (5, true), (6, true), (8, true), (9, true), (10, true), (11, true), (7, false), (12, false), (13, true)] (by kernel_rfl) (by kernel_rfl) hS fun _ => ?_
                simp only [List.map_cons, List.map_nil, Array.getD_eq_getD_getElem?, List.getElem?_toArray, List.getElem?_cons_succ, List.getElem?_cons_zero, Option.getD_some]
                generalize u0_2a.drew = u1 at hS ho8 ⊢
                refine wpMix_s (fun K hK => ?_)
                go_simp
                refine hK _ ?_
                clear hK K
                refine wpMix_s (fun K hK => ?_)
                go_simp
                refine hK _ ?_
                clear hK K
                refine wpMix_s (fun K hK => ?_)
                go_simp
                refine hK _ ?_
                clear hK K
                refine wpMix_s (fun K hK => ?_)
                go_simp
                refine hK _ ?_
                clear hK K
                refine wpMix_s (fun K hK => ?_)
                go_simp
                refine hK _ ?_
                clear hK K
                refine wpMix_s (fun K hK => ?_)
                go_simp
                refine hK _ ?_
                clear hK K
                refine wpMix_v (by kernel_rfl) (.slice (some ⟨bp, op, none⟩) L cp) (fun s => run_slice_op_hi (.tmp 81) (.tmp 82) rfl (some ⟨bp, op, none⟩) (L + 1) cp L rfl rfl (by omega) s.W) ?_
                simp only [Act.put]
                refine wpMix_s (fun K hK => ?_)
                go_simp
                refine hK _ ?_
                clear hK K
                refine wpMix_s (fun K hK => ?_)
                go_simp
                refine hK _ ?_
                clear hK K
                refine wpMix_s (fun K hK => ?_)
                go_simp
                refine hK _ ?_
                clear hK K
                refine wpMix_load (by kernel_rfl) 25 (.tmp 87) rfl (bp) (op + L * 32) rfl (p2.map B).toArray ((fun s => Hget.out s.W (hb88.trans (s.ok.mono hb88.size)))) ?_
                simp only [Act.put]
                refine wpMix_c (fun K hK => ?_) hS
                go_simp
                refine (Hup2.out u1 (hb88.trans (hS.mono hb88.size))).mono ?_
                rintro e u1_1 ⟨rfl, hb'⟩
                refine hK _ _ ?_
                clear hK K
                replace hS := hS.trans (hb'.mono hS.size)
                refine ⟨hS, ?_⟩
                replace ho8 := owns_step ho8 hb'
                clear hb'
                have hzS := hS.size
                refine wpMix_c (fun K hK => ?_) hS
                go_simp
                refine (Hnd3.out u1_1).mono ?_
                rintro e u1_1a ⟨v9, rfl, hf⟩
                refine hK _ _ ?_
                clear hK K
                have ho9 := owns_le hf.1 (show w.heap.size + 1 ≤ u1_1.heap.size by have := hb88.size; omega)
                have hz9 := hf.2.size
                replace ho8 := owns_step ho8 hf.2
                replace hS := hS.trans (hf.2.mono hS.size)
                refine ⟨hS, ?_⟩
                clear hf hzS
                obtain ⟨A9, c9, rfl, -⟩ := owns_slv ho9
                rw [Hnl3.out] at ho9 ⊢
                refine wpMix_s (fun K hK => ?_)
                go_simp
                refine hK _ ?_
                clear hK K
                refine wpMix_nil ?_
                intro _
                have hs8 : Sl u1_1a (fun _ => True) A8 65 c8 (nodeD (x, y)) := by have h9 := ho8; rw [← Hnl.out] at h9; obtain ⟨A_, c_, e_, h_⟩ := owns_sl h9; rw [Hnl.out] at e_ h_; cases e_; exact h_.all
                have hs9 : Sl u1_1a (fun _ => True) A9 65 c9 (nodeD (p1, p2)) := by have h9 := ho9; rw [← Hnl3.out] at h9; obtain ⟨A_, c_, e_, h_⟩ := owns_sl h9; rw [Hnl3.out] at e_ h_; cases e_; exact h_.all
                have st8 := run_str hs8
                have st9 := run_str hs9
                have hbN := hb8.trans (hS.mono hb8.size)
                replace k10 := k10.step (hb88.trans (hS.mono hb88.size))
                have hbS9 := hb88.trans (hS.mono hb88.size)
                clear hS
                by_cases hpe : (p1, p2) = (x, y)
                · have hr := Hres2.out
                  rw [if_pos hpe] at hr
                  have Hr2 := Lib.hid hr
                  have hne := fun (ρ : Operand → Value) (o : Oper) (a b : Operand) (ty : TypeId) (ho : o.op = .binOp .neq 9 a b ty) (hx : ρ a = .string (bstr (nodeD (p1, p2)))) (hy : ρ b = .string (bstr (nodeD (x, y)))) (W : World) => run_neqs_op (o := o) (ρ := ρ) a b ty _ _ ho hx hy W
                  rw [show (nodeD (p1, p2) != nodeD (x, y)) = false by rw [hpe]; simp] at hne
                  have Hne := Lib.hid hne
                  clear hr hne hpe
                  go_wp2_with (first
                    | ((with_reducible show wpList _ _ _ (⟨some 112, .binOp _ _ _ _ _, _, _, _, _⟩ :: _) _ _); refine wpList_run0 rfl (.bool false) (Hne.out _ _ (.tmp 109) (.tmp 111) _ rfl rfl rfl _) ?_; simp only [Act.put])
                    | ((with_reducible show wpList _ _ _ (⟨some 118, .slice _ _ _ _ _, _, _, _, _⟩ :: _) _ _); refine wpList_run0 rfl (.slice (some ⟨bp, op, none⟩) L cp) (run_slice_op_hi (.tmp 116) (.tmp 117) rfl (some ⟨bp, op, none⟩) (L + 1) cp L rfl rfl (by omega) _) ?_; simp only [Act.put])
                    | ((with_reducible show wpList _ _ _ (⟨some 124, .slice _ _ _ _ _, _, _, _, _⟩ :: _) _ _); refine wpList_run0 rfl (.slice A k c) (run_slice_hiB (.tmp 122) (.tmp 123) rfl A n c k rfl rfl (by omega) _) ?_; simp only [Act.put])
                    | ((with_reducible show wpList _ _ _ (⟨some 127, .slice _ _ _ _ _, _, _, _, _⟩ :: _) _ _); refine wpList_run0 rfl (.slice A2 (n - k) (c - k)) (by rw [← HA2.out]; exact run_slice_loB (.tmp 125) (.tmp 126) rfl A n c k rfl rfl (by omega) _) ?_; simp only [Act.put]))
                  go_roundw
                  case rel => exact ⟨s, k, c, L, A, some ⟨bp, op, none⟩, d.take k, pf.take L, rfl, rfl, rfl, ht1.step hbS9, (hP.step hbS9).take L (by omega), hik, by omega, by rw [Hway.out, HwL.out], by rw [Hway.out]; exact Hr2.out, fun x hx => Hxd.out x (List.mem_of_mem_take hx), k10, hbN⟩
                  case measure => simp [sliceLen]; omega
                · have hr := Hres2.out
                  rw [if_neg hpe] at hr
                  subst hr
                  have hne := fun (ρ : Operand → Value) (o : Oper) (a b : Operand) (ty : TypeId) (ho : o.op = .binOp .neq 9 a b ty) (hx : ρ a = .string (bstr (nodeD (p1, p2)))) (hy : ρ b = .string (bstr (nodeD (x, y)))) (W : World) => run_neqs_op (o := o) (ρ := ρ) a b ty _ _ ho hx hy W
                  rw [show (nodeD (p1, p2) != nodeD (x, y)) = true by simpa using fun h => hpe (nodeD_inj (by exact Lp1.out) (by exact Ll1.out) h)] at hne
                  have Hne := Lib.hid hne
                  clear hne hpe
                  go_wp2_with (first
                    | ((with_reducible show wpList _ _ _ (⟨some 112, .binOp _ _ _ _ _, _, _, _, _⟩ :: _) _ _); refine wpList_run0 rfl (.bool true) (Hne.out _ _ (.tmp 109) (.tmp 111) _ rfl rfl rfl _) ?_; simp only [Act.put])
                    | ((with_reducible show wpList _ _ _ (⟨some 115, .build _ _, _, _, _, _⟩ :: _) _ _); refine wpList_run0 rfl (.agg #[.slice A9 65 c9, .slice A8 65 c8]) (by kernel_rfl) ?_; simp only [Act.put])
                    | ((with_reducible show wpList _ _ _ (⟨none, .store _ (.tmp 10) _, _, _, _, _⟩ :: _) _ _); refine wpList_clset (.tmp 10) (.tmp 115) rfl rfl k10 rfl rfl rfl rfl ?_; intro W8 k10s hb3 hW8; have hgr : u1_1a.grownBy W8 (some w.heap.size) := (by rw [hW8]; exact grown_setRow (grown_of_below (Below.refl _ _) _) _); replace ho8 := ho8.kept hgr (.inr fun e => by have := (ho8.lt _ e).1; omega); replace ho9 := ho9.kept hgr (.inr fun e => by have := (ho9.lt _ e).1; omega); have hbE := hbN.trans (hb3.mono (Nat.le_refl _)); clear hW8 hgr; simp only [Act.put]))
                  exact ⟨bodyPost_ret (ret_clash2 rfl rfl k10s) rfl ⟨_, rfl, ⟨_, _, rfl, by rw [Hnl3.out]; exact owns_le ho9 (Nat.le_succ _), by rw [Hnl.out]; exact owns_le ho8 (Nat.le_succ _)⟩, hbE⟩⟩
              · have hd1 : decide ((s : Int) < (k : Int)) = false := by simp; omega
                have e := hwr (by omega)
                rw [e] at hnp hres
                obtain ⟨way, hway⟩ : ∃ way, wayI (s - k) (n - k) = way := ⟨_, rfl⟩
                rw [hway] at hnp hres
                rw [List.length_cons] at hnp
                obtain ⟨L, hL⟩ : ∃ L, way.length = L := ⟨_, rfl⟩
                rw [hL] at hnp
                subst hnp
                obtain ⟨p1, hp1⟩ : ∃ p, pf.getD L [] = p := ⟨_, rfl⟩
                obtain ⟨p2, hp2⟩ : ∃ p, atI (hashK kd) way (pf.take L) a0 L = p := ⟨_, rfl⟩
                rw [hcons true way L hL (p1, p2) (by rw [hp1, hp2]; rfl), if_pos rfl] at hres
                have hup := fun W (hb : Below wr.heap.size wr W) => rup13_rec kd en Ae ne ce (by omega) (n - k) (s - k) (n - k) (pf.take L) Ap L cp W (Nat.le_refl _) (by omega) (by omega) (by omega) (he'.step (hbr.trans (hb.mono hbr.size))).all (((hP.step hb).take L (by omega)).weak fun _ _ _ => trivial) (by rw [hway, hL])
                rw [hway, Ha0.out, hp2, show ((s - k : Nat) : Int) = (s : Int) - k by omega, show ((n - k : Nat) : Int) = (n : Int) - k by omega] at hup
                have hw1 : IntKind.i64.wrap ((s : Int) - (k : Int)) = (s : Int) - k := IntWalk.i64_in _ (by omega)
                have hw2 : IntKind.i64.wrap ((n : Int) - (k : Int)) = (n : Int) - k := IntWalk.i64_in _ (by omega)
                obtain ⟨bp, op, rfl, hbp, -, -⟩ := hP.at_ (by omega)
                have hget := fun W (hb : Below wr.heap.size wr W) => (hP.step hb).get rfl L (by omega)
                have lg := hP.all.getD L (by rw [hPl]; omega)
                rw [hp1] at hget lg
                have la := length_atI (hashK kd) (length_hashK kd) a0 H0l.out way (pf.take L) L
                rw [hp2] at la
                have hnd3 := fun W => rnode13_any p1 p2 W lg la
                have hnl3 : (nodeD (p1, p2)).length = 65 := by simp [nodeD, lg, la]
                have hww : IntKind.i64.wrap ((L : Int) + 1 - 1) = (L : Int) := by rw [IntWalk.i64_in _ (by omega)]; omega
                have hww2 : IntKind.i64.wrap ((((L + 1 : Nat)) : Int) - 1) = (L : Int) := by rw [IntWalk.i64_in _ (by omega)]; omega
                have hLL : (L : Int) < (L : Int) + 1 := by omega
                have Hres2 := Lib.hid hres
                have Hway := Lib.hid hway
                have HwL := Lib.hid hL
                have Hup2 := Lib.hid hup
                have Hget := Lib.hid hget
                have Hnd3 := Lib.hid hnd3
                have Hnl3 := Lib.hid hnl3
                have Lp1 := Lib.hid lg
                have Lp2 := Lib.hid la
                clear hres hway hL hup hget hnd3 hnl3 hcons hwr hwl e hp1 hp2 lg la
                have ht1' := ht1
                have ht2' := ht2
                go_wp2_with (go_at_call 77; refine (Hsp.out wr).mono ?_; rintro e w9 ⟨rfl, rfl⟩)
                have hz0 := hbr.size
                have hk10l := k10.lt
                have hS : Below wr.heap.size wr wr.drew := (Below.refl _ _).drew
                refine wp_region_mix (fun W => Below wr.heap.size wr W) [(0, true), (1, true), (2, true), (3, true), (5, true), (6, true), (7, true), (8, true), (4, false), (9, false), (10, false), (11, true)] (by kernel_rfl) (by kernel_rfl) hS fun _ => ?_
                simp only [List.map_cons, List.map_nil, Array.getD_eq_getD_getElem?, List.getElem?_toArray, List.getElem?_cons_succ, List.getElem?_cons_zero, Option.getD_some]
                generalize wr.drew = u0 at hS ⊢
                refine wpMix_s (fun K hK => ?_)
                go_simp
                refine hK _ ?_
                clear hK K
                refine wpMix_s (fun K hK => ?_)
                go_simp
                refine hK _ ?_
                clear hK K
                refine wpMix_s (fun K hK => ?_)
                go_simp
                refine hK _ ?_
                clear hK K
                refine wpMix_v (by kernel_rfl) (.slice A k c) (fun s => run_slice_hiB (.tmp 64) (.tmp 65) rfl A n c k rfl rfl (by omega) s.W) ?_
                simp only [Act.put]
                refine wpMix_s (fun K hK => ?_)
                go_simp
                refine hK _ ?_
                clear hK K
                refine wpMix_s (fun K hK => ?_)
                go_simp
                refine hK _ ?_
                clear hK K
                refine wpMix_s (fun K hK => ?_)
                go_simp
                refine hK _ ?_
                clear hK K
                refine wpMix_v (by kernel_rfl) (.slice A2 (n - k) (c - k)) (fun s => by rw [← HA2.out]; exact run_slice_loB (.tmp 69) (.tmp 70) rfl A n c k rfl rfl (by omega) s.W) ?_
                simp only [Act.put]
                refine wpMix_c (fun K hK => ?_) hS
                go_simp
                refine (R1.out u0 hS).mono ?_
                rintro e u0_1 ⟨rfl, hb'⟩
                refine hK _ _ ?_
                clear hK K
                replace hS := hS.trans (hb'.mono hS.size)
                refine ⟨hS, ?_⟩
                clear hb'
                refine wpMix_c (fun K hK => ?_) hS
                go_simp
                refine (R2.out u0_1 hS).mono ?_
                rintro e u0_2 ⟨rfl, hb'⟩
                refine hK _ _ ?_
                clear hK K
                replace hS := hS.trans (hb'.mono hS.size)
                refine ⟨hS, ?_⟩
                clear hb'
                have hzS := hS.size
                refine wpMix_c (fun K hK => ?_) hS
                go_simp
                refine (Hnd.out u0_2).mono ?_
                rintro e u0_2a ⟨v8, rfl, hf⟩
                refine hK _ _ ?_
                clear hK K
                have ho8 := owns_le hf.1 (show w.heap.size + 1 ≤ u0_2.heap.size by omega)
                have hz8 := hf.2.size
                replace hS := hS.trans (hf.2.mono hS.size)
                refine ⟨hS, ?_⟩
                clear hf hzS
                obtain ⟨A8, c8, rfl, -⟩ := owns_slv ho8
                rw [Hnl.out] at ho8 ⊢
                refine wpMix_s (fun K hK => ?_)
                go_simp
                refine hK _ ?_
                clear hK K
                refine wpMix_nil ?_
                intro _
                have hb8 := hbr.trans (hS.mono hbr.size)
                have hS8 := Lib.hid hS
                clear hS
                go_wp2_with fail
                have hb88 := hS8.out
                replace ho8 := owns_step ho8 (Below.refl u0_2a.heap.size u0_2a).drew
                have hS : Below u0_2a.heap.size u0_2a u0_2a.drew := (Below.refl _ _).drew
                refine wp_region_mix (fun W => Below u0_2a.heap.size u0_2a W) [(0, true), (1, true), (2, true), (3, true), (4, true), (5, true), (6, true), (7, true), (8, true), (9, true), (10, true), (11, true), (12, true), (13, true), (14, true), (15, true), (16, false), (17, false), (18, true)] (by kernel_rfl) (by kernel_rfl) hS fun _ => ?_
                simp only [List.map_cons, List.map_nil, Array.getD_eq_getD_getElem?, List.getElem?_toArray, List.getElem?_cons_succ, List.getElem?_cons_zero, Option.getD_some]
                generalize u0_2a.drew = u1 at hS ho8 ⊢
                refine wpMix_s (fun K hK => ?_)
                go_simp
                refine hK _ ?_
                clear hK K
                refine wpMix_s (fun K hK => ?_)
                go_simp
                refine hK _ ?_
                clear hK K
                refine wpMix_s (fun K hK => ?_)
                go_simp
                refine hK _ ?_
                clear hK K
                refine wpMix_load (by kernel_rfl) 25 (.tmp 92) rfl (bp) (op + L * 32) rfl (p1.map B).toArray ((fun s => Hget.out s.W (hb88.trans (s.ok.mono hb88.size)))) ?_
                simp only [Act.put]
                refine wpMix_s (fun K hK => ?_)
                go_simp
                refine hK _ ?_
                clear hK K
                refine wpMix_s (fun K hK => ?_)
                go_simp
                refine hK _ ?_
                clear hK K
                refine wpMix_s (fun K hK => ?_)
                go_simp
                refine hK _ ?_
                clear hK K
                refine wpMix_s (fun K hK => ?_)
                go_simp
                refine hK _ ?_
                clear hK K
                refine wpMix_s (fun K hK => ?_)
                go_simp
                refine hK _ ?_
                clear hK K
                refine wpMix_s (fun K hK => ?_)
                go_simp
                refine hK _ ?_
                clear hK K
                refine wpMix_s (fun K hK => ?_)
                go_simp
                refine hK _ ?_
                clear hK K
                refine wpMix_s (fun K hK => ?_)
                go_simp
                refine hK _ ?_
                clear hK K
                refine wpMix_s (fun K hK => ?_)
                go_simp
                refine hK _ ?_
                clear hK K
                refine wpMix_s (fun K hK => ?_)
                go_simp
                refine hK _ ?_
                clear hK K
                refine wpMix_s (fun K hK => ?_)
                go_simp
                refine hK _ ?_
                clear hK K
                refine wpMix_v (by kernel_rfl) (.slice (some ⟨bp, op, none⟩) L cp) (fun s => run_slice_op_hi (.tmp 103) (.tmp 104) rfl (some ⟨bp, op, none⟩) (L + 1) cp L rfl rfl (by omega) s.W) ?_
                simp only [Act.put]
                refine wpMix_c (fun K hK => ?_) hS
                go_simp
                refine (Hup2.out u1 (hb88.trans (hS.mono hb88.size))).mono ?_
                rintro e u1_1 ⟨rfl, hb'⟩
                refine hK _ _ ?_
                clear hK K
                replace hS := hS.trans (hb'.mono hS.size)
                refine ⟨hS, ?_⟩
                replace ho8 := owns_step ho8 hb'
                clear hb'
                have hzS := hS.size
                refine wpMix_c (fun K hK => ?_) hS
                go_simp
                refine (Hnd3.out u1_1).mono ?_
                rintro e u1_1a ⟨v9, rfl, hf⟩
                refine hK _ _ ?_
                clear hK K
                have ho9 := owns_le hf.1 (show w.heap.size + 1 ≤ u1_1.heap.size by have := hb88.size; omega)
                have hz9 := hf.2.size
                replace ho8 := owns_step ho8 hf.2
                replace hS := hS.trans (hf.2.mono hS.size)
                refine ⟨hS, ?_⟩
                clear hf hzS
                obtain ⟨A9, c9, rfl, -⟩ := owns_slv ho9
                rw [Hnl3.out] at ho9 ⊢
                refine wpMix_s (fun K hK => ?_)
                go_simp
                refine hK _ ?_
                clear hK K
                refine wpMix_nil ?_
                intro _
                have hs8 : Sl u1_1a (fun _ => True) A8 65 c8 (nodeD (x, y)) := by have h9 := ho8; rw [← Hnl.out] at h9; obtain ⟨A_, c_, e_, h_⟩ := owns_sl h9; rw [Hnl.out] at e_ h_; cases e_; exact h_.all
                have hs9 : Sl u1_1a (fun _ => True) A9 65 c9 (nodeD (p1, p2)) := by have h9 := ho9; rw [← Hnl3.out] at h9; obtain ⟨A_, c_, e_, h_⟩ := owns_sl h9; rw [Hnl3.out] at e_ h_; cases e_; exact h_.all
                have st8 := run_str hs8
                have st9 := run_str hs9
                have hbN := hb8.trans (hS.mono hb8.size)
                replace k10 := k10.step (hb88.trans (hS.mono hb88.size))
                have hbS9 := hb88.trans (hS.mono hb88.size)
                clear hS
                by_cases hpe : (p1, p2) = (x, y)
                · have hr := Hres2.out
                  rw [if_pos hpe] at hr
                  have Hr2 := Lib.hid hr
                  have hne := fun (ρ : Operand → Value) (o : Oper) (a b : Operand) (ty : TypeId) (ho : o.op = .binOp .neq 9 a b ty) (hx : ρ a = .string (bstr (nodeD (p1, p2)))) (hy : ρ b = .string (bstr (nodeD (x, y)))) (W : World) => run_neqs_op (o := o) (ρ := ρ) a b ty _ _ ho hx hy W
                  rw [show (nodeD (p1, p2) != nodeD (x, y)) = false by rw [hpe]; simp] at hne
                  have Hne := Lib.hid hne
                  clear hr hne hpe
                  go_wp2_with (first
                    | ((with_reducible show wpList _ _ _ (⟨some 112, .binOp _ _ _ _ _, _, _, _, _⟩ :: _) _ _); refine wpList_run0 rfl (.bool false) (Hne.out _ _ (.tmp 109) (.tmp 111) _ rfl rfl rfl _) ?_; simp only [Act.put])
                    | ((with_reducible show wpList _ _ _ (⟨some 118, .slice _ _ _ _ _, _, _, _, _⟩ :: _) _ _); refine wpList_run0 rfl (.slice (some ⟨bp, op, none⟩) L cp) (run_slice_op_hi (.tmp 116) (.tmp 117) rfl (some ⟨bp, op, none⟩) (L + 1) cp L rfl rfl (by omega) _) ?_; simp only [Act.put])
                    | ((with_reducible show wpList _ _ _ (⟨some 124, .slice _ _ _ _ _, _, _, _, _⟩ :: _) _ _); refine wpList_run0 rfl (.slice A k c) (run_slice_hiB (.tmp 122) (.tmp 123) rfl A n c k rfl rfl (by omega) _) ?_; simp only [Act.put])
                    | ((with_reducible show wpList _ _ _ (⟨some 127, .slice _ _ _ _ _, _, _, _, _⟩ :: _) _ _); refine wpList_run0 rfl (.slice A2 (n - k) (c - k)) (by rw [← HA2.out]; exact run_slice_loB (.tmp 125) (.tmp 126) rfl A n c k rfl rfl (by omega) _) ?_; simp only [Act.put]))
                  go_roundw
                  case rel => exact ⟨s - k, n - k, c - k, L, A2, some ⟨bp, op, none⟩, d.drop k, pf.take L, rfl, by go_num, rfl, ht2.step hbS9, (hP.step hbS9).take L (by omega), by omega, by omega, by rw [Hway.out, HwL.out], by rw [Hway.out]; exact Hr2.out, fun x hx => Hxd.out x (List.mem_of_mem_drop hx), k10, hbN⟩
                  case measure => simp [sliceLen]; omega
                · have hr := Hres2.out
                  rw [if_neg hpe] at hr
                  subst hr
                  have hne := fun (ρ : Operand → Value) (o : Oper) (a b : Operand) (ty : TypeId) (ho : o.op = .binOp .neq 9 a b ty) (hx : ρ a = .string (bstr (nodeD (p1, p2)))) (hy : ρ b = .string (bstr (nodeD (x, y)))) (W : World) => run_neqs_op (o := o) (ρ := ρ) a b ty _ _ ho hx hy W
                  rw [show (nodeD (p1, p2) != nodeD (x, y)) = true by simpa using fun h => hpe (nodeD_inj (by exact Lp1.out) (by exact Ll1.out) h)] at hne
                  have Hne := Lib.hid hne
                  clear hne hpe
                  go_wp2_with (first
                    | ((with_reducible show wpList _ _ _ (⟨some 112, .binOp _ _ _ _ _, _, _, _, _⟩ :: _) _ _); refine wpList_run0 rfl (.bool true) (Hne.out _ _ (.tmp 109) (.tmp 111) _ rfl rfl rfl _) ?_; simp only [Act.put])
                    | ((with_reducible show wpList _ _ _ (⟨some 115, .build _ _, _, _, _, _⟩ :: _) _ _); refine wpList_run0 rfl (.agg #[.slice A9 65 c9, .slice A8 65 c8]) (by kernel_rfl) ?_; simp only [Act.put])
                    | ((with_reducible show wpList _ _ _ (⟨none, .store _ (.tmp 10) _, _, _, _, _⟩ :: _) _ _); refine wpList_clset (.tmp 10) (.tmp 115) rfl rfl k10 rfl rfl rfl rfl ?_; intro W8 k10s hb3 hW8; have hgr : u1_1a.grownBy W8 (some w.heap.size) := (by rw [hW8]; exact grown_setRow (grown_of_below (Below.refl _ _) _) _); replace ho8 := ho8.kept hgr (.inr fun e => by have := (ho8.lt _ e).1; omega); replace ho9 := ho9.kept hgr (.inr fun e => by have := (ho9.lt _ e).1; omega); have hbE := hbN.trans (hb3.mono (Nat.le_refl _)); clear hW8 hgr; simp only [Act.put]))
                  exact ⟨bodyPost_ret (ret_clash2 rfl rfl k10s) rfl ⟨_, rfl, ⟨_, _, rfl, by rw [Hnl3.out]; exact owns_le ho9 (Nat.le_succ _), by rw [Hnl.out]; exact owns_le ho8 (Nat.le_succ _)⟩, hbE⟩⟩
            · obtain rfl : n = 1 := by omega
              obtain ⟨x, rfl⟩ := List.length_eq_one_iff.1 hdl
              rw [wayI_one, inclM_nil] at hres
              replace hres : (if en = x then (noC, (231 : Int)) else ((leafD en, leafD x), 0)) = res := hres
              obtain ⟨b18, o18, rfl, hb18, -, hat⟩ := hE.at_ (by decide)
              obtain ⟨Ax, cx, hcx0, hsx0⟩ := hat 0 (by decide)
              have hcx : wr.cell? ⟨b18, o18, none⟩ = some (.slice Ax x.length cx) := hcx0
              have hsx : Sl wr (· < w.heap.size) Ax x.length cx x := hsx0
              have hxl : x.length ≤ 4096 := hxd x (List.mem_singleton.2 rfl)
              have hbx : b18 < wr.heap.size := hb18
              have e3 : ∀ s : InC (fun W => Below wr.heap.size wr W), (convert 23 9 (.slice Ae ne ce)).run Try.prog s.W = .ok (.string (bstr en)) s.W := fun s => run_str (he'.step (hbr.trans (s.ok.mono hbr.size))).all
              have e4 : ∀ s : InC (fun W => Below wr.heap.size wr W), (convert 23 9 (.slice Ax x.length cx)).run Try.prog s.W = .ok (.string (bstr x)) s.W := fun s => run_str (hsx.step s.ok).all
              have Hxl := Lib.hid hxl
              have Hel' := Hel
              have hk10l := k10.lt
              have hzr := hbr.size
              clear hcx0 hsx0 hat hxl hxd hE hP hnp hroomP hPl
              go_wp2_with fail
              by_cases hex : en = x
              · rw [if_pos hex] at hres
                subst hres
                subst hex
                have hqs := fun (ρ : Operand → Value) (o : Oper) (a b : Operand) (ty : TypeId) (ho : o.op = .binOp .eql 9 a b ty) (hx : ρ a = .string (bstr en)) (hy : ρ b = .string (bstr en)) (W : World) => run_eqls_op (o := o) (ρ := ρ) a b ty _ _ ho hx hy W
                rw [BEq.rfl] at hqs
                have Hqs := Lib.hid hqs
                clear hqs
                have hS : Below wr.heap.size wr wr.drew := (Below.refl _ _).drew
                refine wp_region_mix (fun W => Below wr.heap.size wr W) [(0, true), (1, true), (2, true), (3, true), (4, true), (5, true), (6, true)] (by kernel_rfl) (by kernel_rfl) hS fun _ => ?_
                simp only [List.map_cons, List.map_nil, Array.getD_eq_getD_getElem?, List.getElem?_toArray, List.getElem?_cons_succ, List.getElem?_cons_zero, Option.getD_some]
                generalize wr.drew = u3 at hS ⊢
                refine wpMix_s (fun K hK => ?_)
                go_simp
                refine hK _ ?_
                clear hK K
                refine wpMix_s (fun K hK => ?_)
                go_simp
                refine hK _ ?_
                clear hK K
                refine wpMix_s (fun K hK => ?_)
                go_simp
                refine hK _ ?_
                clear hK K
                refine wpMix_s (fun K hK => ?_)
                go_simp
                refine hK _ ?_
                clear hK K
                refine wpMix_v (by kernel_rfl) (.slice Ax en.length cx) (fun s => run_load_op 23 (.tmp 134) rfl b18 o18 rfl _ (run_load_scalar (by kernel_rfl) ((s.ok.cell hbx).trans hcx))) ?_
                simp only [Act.put]
                refine wpMix_s (fun K hK => ?_)
                go_simp
                refine hK _ ?_
                clear hK K
                refine wpMix_v (by kernel_rfl) (.bool true) (fun s => Hqs.out _ _ (.tmp 132) (.tmp 136) _ rfl rfl rfl s.W) ?_
                simp only [Act.put]
                refine wpMix_nil ?_
                intro _
                clear e3 e4
                have hbQ := hbr.trans (hS.mono hbr.size)
                replace k10 := k10.step hS
                clear hS
                go_wp2_with (first
                  | ((with_reducible show wpList _ _ _ (⟨some 138, .build _ _, _, _, _, _⟩ :: _) _ _); refine wpList_run0 rfl (.agg #[.slice none 0 0, .slice none 0 0]) (by kernel_rfl) ?_; simp only [Act.put])
                  | ((with_reducible show wpList _ _ _ (⟨none, .store _ (.tmp 10) (.tmp 138), _, _, _, _⟩ :: _) _ _); refine wpList_clset (.tmp 10) (.tmp 138) rfl rfl k10 rfl rfl rfl rfl ?_; intro W3 k10s hb3 hW3; clear hW3; have hbE := hbQ.trans (hb3.mono (Nat.le_refl _)); simp only [Act.put]))
                exact ⟨bodyPost_ret (ret_clash2 rfl rfl k10s) rfl ⟨_, rfl, ClV.zero _ _, hbE⟩⟩
              · rw [if_neg hex] at hres
                subst hres
                have hqs := fun (ρ : Operand → Value) (o : Oper) (a b : Operand) (ty : TypeId) (ho : o.op = .binOp .eql 9 a b ty) (hx : ρ a = .string (bstr en)) (hy : ρ b = .string (bstr x)) (W : World) => run_eqls_op (o := o) (ρ := ρ) a b ty _ _ ho hx hy W
                rw [show (en == x) = false by simpa using hex] at hqs
                have Hqs := Lib.hid hqs
                clear hqs hex
                have hS : Below wr.heap.size wr wr.drew := (Below.refl _ _).drew
                refine wp_region_mix (fun W => Below wr.heap.size wr W) [(0, true), (1, true), (2, true), (3, true), (4, true), (5, true), (6, true)] (by kernel_rfl) (by kernel_rfl) hS fun _ => ?_
                simp only [List.map_cons, List.map_nil, Array.getD_eq_getD_getElem?, List.getElem?_toArray, List.getElem?_cons_succ, List.getElem?_cons_zero, Option.getD_some]
                generalize wr.drew = u3 at hS ⊢
                refine wpMix_s (fun K hK => ?_)
                go_simp
                refine hK _ ?_
                clear hK K
                refine wpMix_s (fun K hK => ?_)
                go_simp
                refine hK _ ?_
                clear hK K
                refine wpMix_s (fun K hK => ?_)
                go_simp
                refine hK _ ?_
                clear hK K
                refine wpMix_s (fun K hK => ?_)
                go_simp
                refine hK _ ?_
                clear hK K
                refine wpMix_v (by kernel_rfl) (.slice Ax x.length cx) (fun s => run_load_op 23 (.tmp 134) rfl b18 o18 rfl _ (run_load_scalar (by kernel_rfl) ((s.ok.cell hbx).trans hcx))) ?_
                simp only [Act.put]
                refine wpMix_s (fun K hK => ?_)
                go_simp
                refine hK _ ?_
                clear hK K
                refine wpMix_v (by kernel_rfl) (.bool false) (fun s => Hqs.out _ _ (.tmp 132) (.tmp 136) _ rfl rfl rfl s.W) ?_
                simp only [Act.put]
                refine wpMix_nil ?_
                intro _
                clear e3 e4
                have hbw2 := hS
                clear hS
                go_wp2_with fail
                replace k10 := k10.step hbw2
                have hk10d := k10.drew
                have hS : Below u3.heap.size u3 u3.drew := (Below.refl _ _).drew
                have hzb := hbw2.size
                replace k10 := hk10d
                clear hk10d
                refine wp_region_mix_tail (fun W => Below u3.heap.size u3 W) 7 [(0, true), (2, true), (3, true), (4, true), (1, false), (5, false), (6, true)] (by kernel_rfl) (by kernel_rfl) hS fun _ => ?_
                simp only [List.map_cons, List.map_nil, Array.getD_eq_getD_getElem?, List.getElem?_toArray, List.getElem?_cons_succ, List.getElem?_cons_zero, Option.getD_some]
                generalize u3.drew = u4 at hS k10 ⊢
                refine wpMix_s (fun K hK => ?_)
                go_simp
                refine hK _ ?_
                clear hK K
                refine wpMix_s (fun K hK => ?_)
                go_simp
                refine hK _ ?_
                clear hK K
                refine wpMix_s (fun K hK => ?_)
                go_simp
                refine hK _ ?_
                clear hK K
                refine wpMix_v (by kernel_rfl) (.slice Ax x.length cx) (fun s => run_load_op 23 (.tmp 142) rfl b18 o18 rfl _ (run_load_scalar (by kernel_rfl) (((hbw2.trans (s.ok.mono hbw2.size)).cell hbx).trans hcx))) ?_
                simp only [Act.put]
                have hz0_ := hS.size
                refine wpMix_c (fun K hK => ?_) hS
                go_simp
                refine (rleaf_any en Ae ne ce u4 (he'.step (hbr.trans ((hbw2.trans (hS.mono hbw2.size)).mono hbr.size))).all (by have := hA2; omega)).mono ?_
                rintro e u4a ⟨v8, rfl, hf⟩
                refine hK _ _ ?_
                clear hK K
                have hz8 := hf.2.size
                replace k10 := k10.step hf.2
                replace hS := hS.trans (hf.2.mono hS.size)
                refine ⟨hS, ?_⟩
                have ho8 := owns_le hf.1 (show w.heap.size + 1 ≤ u4.heap.size by omega)
                clear hf
                have hz0_ := hS.size
                refine wpMix_c (fun K hK => ?_) hS
                go_simp
                refine (rleaf_any x Ax x.length cx u4a ((hsx.step (hbw2.trans (hS.mono hbw2.size))).all) (by have := Hxl.out; omega)).mono ?_
                rintro e u4aa ⟨v9, rfl, hf⟩
                refine hK _ _ ?_
                clear hK K
                have hz8 := hf.2.size
                replace k10 := k10.step hf.2
                replace hS := hS.trans (hf.2.mono hS.size)
                refine ⟨hS, ?_⟩
                have ho9 := owns_le hf.1 (show w.heap.size + 1 ≤ u4a.heap.size by omega)
                replace ho8 := owns_step ho8 hf.2
                clear hf
                obtain ⟨A8, c8, rfl, -⟩ := owns_slv ho8
                obtain ⟨A9, c9, rfl, -⟩ := owns_slv ho9
                refine wpMix_v (by kernel_rfl) (.agg #[.slice A8 (leafD en).length c8, .slice A9 (leafD x).length c9]) (fun s => by kernel_rfl) ?_
                simp only [Act.put]
                refine wpMix_nil ?_
                intro _
                simp only [List.drop_succ_cons, List.drop_zero]
                refine wpList_clset (.tmp 10) (.tmp 145) rfl rfl k10 rfl rfl rfl rfl ?_
                intro W7 k10s hb19 hW7
                have hgr : u4aa.grownBy W7 (some w.heap.size) := by rw [hW7]; exact grown_setRow (grown_of_below (Below.refl _ _) _) _
                replace ho8 := ho8.kept hgr (.inr fun e => by have := (ho8.lt _ e).1; omega)
                replace ho9 := ho9.kept hgr (.inr fun e => by have := (ho9.lt _ e).1; omega)
                have hbE := ((hbr.trans (hbw2.mono hbr.size)).trans (hS.mono (Nat.le_trans hbr.size hbw2.size))).trans (hb19.mono (Nat.le_refl _))
                clear hW7 hgr
                simp only [Act.put]
                go_wp2_with fail
                refine np_normal ?_
                go_wp2_with fail
                exact ⟨bodyPost_ret (ret_clash2 rfl rfl k10s) rfl ⟨_, rfl, ⟨_, _, rfl, owns_le ho8 (Nat.le_succ _), owns_le ho9 (Nat.le_succ _)⟩, hbE⟩⟩
        · have hr := Hres.out
          rw [if_pos hD] at hr
          subst hr
          go_enter Try.func18, Try.ntmps18
          refine Code.wp_mono (fun _ _ _ h => BP.out h) ?_
          go_wp2_with (first
            | ((with_reducible show wpList _ _ _ (⟨some 10, .alloc _, _, _, _, _⟩ :: _) _ _); refine wpList_clnew rfl rfl ?_; intro w1 k10 hb1; simp only [Act.put])
            | (go_at_call 74; refine (Hlg.out _ hb1).mono ?_; rintro e w2 ⟨rfl, hw2⟩; obtain rfl := hw2.symm)
            | (go_at_call 75; refine (Hdp.out _).mono ?_; rintro e w3 ⟨rfl, hw3⟩; obtain rfl := hw3.symm)
            | (go_at_call 76; refine (Hup.out _ hb1).mono ?_; rintro e w4 ⟨rfl, hb4⟩; have hb5 := hb1.trans (hb4.mono hb1.size); replace k10 := k10.step hb4)
            | (go_at_call 36; refine (Hrt.out _ hb5).mono ?_; rintro e w6 ⟨rfl, hb6⟩; have hb7 := hb5.trans (hb6.mono hb5.size); replace k10 := k10.step hb6)
            | ((with_reducible show wpList _ _ _ (⟨some 51, .binOp _ _ _ _ _, _, _, _, _⟩ :: _) _ _); refine wpList_runG (by kernel_rfl) (.bool true) _ (run_neq26_t (.tmp 47) (.tmp 50) _ at_ ro rfl rfl rfl Hatl.out Hrol.out hD _) ?_; simp only [Act.put])
            | ((with_reducible show wpList _ _ _ (⟨some 53, .build _ _, _, _, _, _⟩ :: _) _ _); refine wpList_run0 rfl (.agg #[.slice none 0 0, .slice none 0 0]) (by kernel_rfl) ?_; simp only [Act.put])
            | ((with_reducible show wpList _ _ _ (⟨none, .store _ (.tmp 10) (.tmp 53), _, _, _, _⟩ :: _) _ _); refine wpList_clset (.tmp 10) (.tmp 53) rfl rfl k10 rfl rfl rfl rfl ?_; intro W3 k10s hb3 hW3; clear hW3; have hbE := hb7.trans (hb3.mono (Nat.le_refl _)); simp only [Act.put]))
          exact ⟨bodyPost_ret (ret_clash2 rfl rfl k10s) rfl ⟨_, rfl, ClV.zero _ _, hbE⟩⟩
      · rw [if_pos hC]
        have hC1 : (((np : Int) : Int) != (L : Int)) = true := by simp; omega
        have hC2 : ¬ (np : Int) = (L : Int) := by omega
        go_enter Try.func18, Try.ntmps18
        refine Code.wp_mono (fun _ _ _ h => BP.out h) ?_
        go_wp2_with (first
          | ((with_reducible show wpList _ _ _ (⟨some 10, .alloc _, _, _, _, _⟩ :: _) _ _); refine wpList_clnew rfl rfl ?_; intro w1 k10 hb1; simp only [Act.put])
          | (go_at_call 74; refine (Hlg.out _ hb1).mono ?_; rintro e w2 ⟨rfl, hw2⟩; obtain rfl := hw2.symm)
          | (go_at_call 75; refine (Hdp.out _).mono ?_; rintro e w3 ⟨rfl, hw3⟩; obtain rfl := hw3.symm)
          | ((with_reducible show wpList _ _ _ (⟨some 53, .build _ _, _, _, _, _⟩ :: _) _ _); refine wpList_run0 rfl (.agg #[.slice none 0 0, .slice none 0 0]) (by kernel_rfl) ?_; simp only [Act.put])
          | ((with_reducible show wpList _ _ _ (⟨none, .store _ (.tmp 10) (.tmp 53), _, _, _, _⟩ :: _) _ _); refine wpList_clset (.tmp 10) (.tmp 53) rfl rfl k10 rfl rfl rfl rfl ?_; intro W3 k10s hb3 hW3; clear hW3; have hbE := hb1.trans (hb3.mono (Nat.le_refl _)); simp only [Act.put]))
        exact ⟨bodyPost_ret (ret_clash2 rfl rfl k10s) rfl ⟨_, rfl, ClV.zero _ _, hbE⟩⟩
end Go.Proofs.Ytonidnfgneokbaa
