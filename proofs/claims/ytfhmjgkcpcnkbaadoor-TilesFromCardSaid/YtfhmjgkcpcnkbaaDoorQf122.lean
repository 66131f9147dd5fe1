/- tiles: Append, Tile. -/
import Derived.Test.YtfhmjgkcpcnkbaaDoorQf121
import Derived.Shelf.SlMaps.Clone
import Derived.Laws.Externs
import Derived.Test.YtfhmjgkcpcnkbaaDoorQf120
import Derived.Test.YtfhmjgkcpcnkbaaDoorQf118
import Derived.Test.YtfhmjgkcpcnkbaaDoorQf107
import Derived.Test.YtfhmjgkcpcnkbaaDoorQf101
namespace Go.Proofs.YtfhmjgkcpcnkbaaDoor
open Go Go.RowKit
attribute [local go_sem] Oper.semAt_some

theorem Ti.pushed {W W' : World} {lo p m h : Nat} {f f' : Int → Int → Option Value} {L : HL} {N' : Nat} {x : List UInt8} (ht : Ti lo p m h f L W) (hT : TiM lo p m N' h L.length f' (tileG h (L ++ [x])) W') (hN : N' ≤ 64 * L.length + 18) (hx : x.length = 32) (hm : L.length + 1 ≤ 100000) :
    Ti lo p m h f' (L ++ [x]) (W'.setCell ⟨p, 1, none⟩ (.int .i64 ((L.length + 1 : Nat) : Int))) ∧ KB (TiW p m f') W' (W'.setCell ⟨p, 1, none⟩ (.int .i64 ((L.length + 1 : Nat) : Int))) := by
  have hk : KB (fun b => b = p) W' (W'.setCell ⟨p, 1, none⟩ (.int .i64 ((L.length + 1 : Nat) : Int))) := KB.of_grown (grown_setCell (World.grownBy.refl _ (some p)) 1 _) fun r e => (Option.some.inj e).symm
  have hb : Blk (W'.setCell ⟨p, 1, none⟩ (.int .i64 ((L.length + 1 : Nat) : Int))) p 73 (tiArr h (L.length + 1) m) := hT.blk.set_ 1 _
  have hmp : m ≠ p := fun e => by
    obtain ⟨es, clock, hmb, -⟩ := id hT.map
    have := hT.blk
    rw [← e] at this
    rw [show W'.heap[m]? = _ from this] at hmb
    cases hmb
  have hl : (L ++ [x]).length = L.length + 1 := by simp
  refine ⟨⟨?_, ht.h1, ht.h8, ht.all.append fun y hy => by rw [List.mem_singleton.1 hy]; exact hx, by rw [hl]; exact hm⟩, hk.mono fun b e => .inl e⟩
  rw [hl]
  have hT2 : TiM lo p m (64 * (L.length + 1)) h L.length f' (tileG h (L ++ [x])) W' := hT.size (by omega)
  exact ⟨hb, hT2.map.kb hk hmp, hT2.rows.kb hk fun k a b v hf hv => fun e => by subst e; exact own_blkty (hT2.rows.row a b v hf).1 hT.blk (by decide) hv, hT2.lowp, hT2.lowm⟩
theorem run_lookup_opC {P : Program} {ρ : Operand → Value} {o : Oper} {W : World} {v : Value} (t : TypeId) (m k : Operand) (ho : o.op = .lookup t m k true) (vm vk : Value) (hm : ρ m = vm) (hk : ρ k = vk) (h : (Instr.lookup t vm vk true).run P W = .ok v W) : (execOp ρ o).run P W = .ok (.value v) W := by
  unfold execOp
  simp only [ho, hm, hk, Sem.run_bind, h, Result.andThen_ok, Sem.run_pure]
set_option maxHeartbeats 4000000 in
set_option maxRecDepth 100000 in
theorem tappend_any (lo p m h : Nat) (f : Int → Int → Option Value) (L l : HL) (A : Option Addr) (n c : Nat) (w : World) (ht : Ti lo p m h f L w) (hl : Hs w (fun b => ¬ TiW p m f b) A n c l) (hn : L.length + l.length ≤ 100000) :
    Calls Tryd.prog 27 #[.pointer (some ⟨p, 0, none⟩), .slice A n c] w fun e w' => e = .returned (.int .i64 0) ∧ ∃ f', Ti lo p m h f' (L ++ l) w' ∧ KB (TiW p m f) w w' ∧ ∀ b, TiW p m f' b → TiW p m f b ∨ w.heap.size ≤ b := by
  have hlen := hl.len
  have hroom := hl.sl.room
  have hmx := hl.sl.max
  unfold maxLen at hmx
  have hlt := fun b (hb : TiW p m f b) => (ht.t.ltR b hb).2
  have Hlt := Lib.hid hlt
  have Hlen := Lib.hid hlen
  have Hn := Lib.hid hn
  have c2 := ht.c2
  have hq := fun w => run_eql_map_nil_sl (P := Tryd.prog) w 71 _ _ (some m) Tryd.underlying71
  clear hlt hn hlen
  go_enter Tryd.func27, Tryd.ntmps27
  go_wp2_with fail
  clear c2 hq
  go_loopw [18] (fun v18 wr => ∃ (k : Nat) (f' : Int → Int → Option Value), k ≤ n ∧ v18 = .int .i64 (k : Int) ∧ Ti lo p m h f' (L ++ l.take k) wr ∧ KB (TiW p m f) w wr ∧ ∀ b, TiW p m f' b → TiW p m f b ∨ w.heap.size ≤ b) (fun v18 _ => n - (intOf v18).toNat)
  case atStart => exact ⟨0, f, Nat.zero_le _, rfl, by rw [List.take_zero, List.append_nil]; exact ht, KB.refl _ _, fun b h => .inl h⟩
  case round =>
    clear ht
    obtain ⟨k, f', hk, rfl, hT, hK, hnw⟩ := hrel
    by_cases hkn : k < n
    · have hd : decide ((k : Int) < (n : Int)) = true := by simp; omega
      have hwk : IntKind.i64.wrap ((k : Int) + 1) = (k : Int) + 1 := IntWalk.i64_in _ (by omega)
      have hkl : k < l.length := by rw [Hlen.out]; exact hkn
      have hlr := hl.kb hK fun b _ hb hm => hb hm
      obtain ⟨gb, o, rfl, hbl, -, hat⟩ := hlr.at_ (by omega)
      have hld := hat k hkn
      have hx : (l.getD k []).length = 32 := hl.all.getD k hkl
      have htk : l.take (k + 1) = l.take k ++ [l.getD k []] := by rw [List.take_add_one, List.getD_eq_getElem?_getD, List.getElem?_eq_getElem hkl]; rfl
      obtain ⟨x, hxe⟩ : ∃ x, l.getD k [] = x := ⟨_, rfl⟩
      rw [hxe] at hld hx htk
      have Hld := Lib.hid hld
      have Hx := Lib.hid hx
      have Htk := Lib.hid htk
      have HK := Lib.hid hK
      have Hnw := Lib.hid hnw
      have HT := Lib.hid hT
      obtain ⟨q, hse⟩ : ∃ q, L.length + k = q := ⟨_, rfl⟩
      have hkk : (L ++ l.take k).length = q := by rw [List.length_append, List.length_take, ← hse]; omega
      have hs1 : q + 1 ≤ 100000 := by have := Hn.out; omega
      have Hkk := Lib.hid hkk
      clear hse
      clear hld hx htk hK hnw hat hlr hxe hkk
      have hkn' : k < n := hkn
      go_wp2_with (first
        | ((with_reducible show wpList _ _ _ (⟨some 21, .load _ _, _, _, _, _⟩ :: _) _ _); refine wpList_load rfl 48 (.tmp 20) rfl gb (o + k * 32) rfl _ Hld.out ?_; simp only [Act.put, List.setIfInBounds_toArray, List.set_cons_succ, List.set_cons_zero])
        | ((with_reducible show wpList _ _ _ (⟨some 6, .alloc _, _, _, _, _⟩ :: _) _ _); refine wpList_hvar (.tmp 6) (.tmp 21) rfl rfl rfl rfl rfl rfl Hx.out ?_; intro w1 k1 hb1; simp only [Act.put, List.setIfInBounds_toArray, List.set_cons_succ, List.set_cons_zero]))
      clear Hld
      have hT1 := HT.out.step hb1
      have c1 : ∀ s : InC (fun V => Below w1.heap.size w1 V), s.W.cell? ⟨p, 1, none⟩ = some (.int .i64 (q : Int)) := fun s => by rw [← Hkk.out]; exact (hT1.step s.ok).c1
      have hS : Below w1.heap.size w1 w1.drew := (Below.refl _ _).drew
      go_upto_region 6 with fail
      refine wp_region_mix_tail7 (fun W => Below w1.heap.size w1 W) 6 [(0, true), (1, true), (2, true), (3, true), (4, true), (5, true)] (by kernel_rfl) (by kernel_rfl) hS fun _ => ?_
      simp only [List.map_cons, List.map_nil, Array.getD_eq_getD_getElem?, List.getElem?_toArray, List.getElem?_cons_succ, List.getElem?_cons_zero, Option.getD_some]
      generalize w1.drew = Z0 at hS ⊢
      refine wpMix_s (fun K hK => ?_)
      go_simp
      refine hK _ ?_
      clear hK K
      refine wpMix_s (fun K hK => ?_)
      go_simp
      refine hK _ ?_
      clear hK K
      refine wpMix_s (fun K hK => ?_)
      go_simp
      refine hK _ ?_
      clear hK K
      refine wpMix_s (fun K hK => ?_)
      go_simp
      refine hK _ ?_
      clear hK K
      refine wpMix_s (fun K hK => ?_)
      go_simp
      refine hK _ ?_
      clear hK K
      refine wpMix_load (by kernel_rfl) 48 (.tmp 6) rfl (wr.heap.size) (0) rfl (x.map B).toArray (fun s => (k1.step s.ok).load) ?_
      simp only [Act.put, List.setIfInBounds_toArray, List.set_cons_succ, List.set_cons_zero]
      refine wpMix_nil ?_
      intro _
      simp only [List.drop_succ_cons, List.drop_zero]
      have hT2 := hT1.step hS
      have hpl := push_tiles h 17 hT2.h1 (L ++ l.take k) x (by rw [Hkk.out]; omega)
      have hcall := tpush_rec lo p m h (L ++ l.take k).length hT2.h1 hT2.h8 17 0 (L ++ l.take k).length (64 * (L ++ l.take k).length) 256 x f' (tileG h (L ++ l.take k)) Z0 hT2.t Hx.out (by rw [Hkk.out]; omega) (by omega) (by rw [Hkk.out]; omega) (by rw [Hkk.out]; omega) (by omega) (fun a b => Nat.le_trans (tileG_len h _ a b) (Nat.pow_le_pow_right (n := 2) (by decide) hT2.h8)) (fun j => tileG_at h _ j)
      rw [hpl, Hkk.out] at hcall
      have HB := Lib.hid (hb1.trans (hS.mono hb1.size))
      have HT2 := Lib.hid hT2
      clear hpl c1 hT1 hS hT2 hb1
      have Hcall := Lib.hid hcall
      clear hcall
      go_wp2_with fail
      refine Hcall.out.mono ?_
      clear Hcall
      rintro e W2 ⟨rfl, f2, N2, hM2, hN2, hK2, hn2⟩
      have c1 : W2.cell? ⟨p, 1, none⟩ = some (.int .i64 (q : Int)) := by rw [hM2.blk.cell]; rfl
      have f1 := hM2.blk.frozen 1
      have hws : IntKind.i64.wrap ((q : Int) + 1) = ((q + 1 : Nat) : Int) := by rw [IntWalk.i64_in _ (by omega)]; omega
      obtain ⟨hT3, hk3⟩ := HT2.out.pushed (by rw [Hkk.out]; exact hM2) (by rw [Hkk.out]; omega) Hx.out (by rw [Hkk.out]; omega)
      rw [Hkk.out] at hT3 hk3
      have HT3 := Lib.hid hT3
      have Hk3 := Lib.hid hk3
      have Hk2 := Lib.hid hK2
      have Hn2 := Lib.hid hn2
      clear hM2 hK2 hn2 hT3 hk3
      go_wp2_with fail
      refine np_normal ?_
      go_wp2_with fail
      go_roundw
      case rel =>
        refine ⟨k + 1, f2, by omega, by go_num, by rw [Htk.out, ← List.append_assoc]; exact HT3.out, ?_, ?_⟩
        · have hkW : KB (TiW p m f) wr Z0 := KB.of_below HB.out
          have hk2W : KB (TiW p m f) w W2 := (HK.out.trans hkW).then Hk2.out fun b hb hm => by
            rcases Hnw.out b (.inr hm) with h1 | h1
            · exact h1
            · omega
          refine hk2W.then Hk3.out fun b hb hm => ?_
          rcases hm with rfl | hm
          · exact .inl rfl
          · rcases Hn2.out b hm with h1 | h1
            · rcases Hnw.out b (.inr h1) with h2 | h2
              · exact h2
              · omega
            · have := HK.out.size; have := HB.out.size; omega
        · intro b hm
          rcases hm with rfl | hm
          · exact .inl (.inl rfl)
          · rcases Hn2.out b hm with h1 | h1
            · exact Hnw.out b (.inr h1)
            · exact .inr (by have := HK.out.size; have := HB.out.size; omega)
      case measure => simp [intOf]; omega
    · obtain rfl : k = n := by omega
      have hd : decide ((k : Int) < (k : Int)) = false := by simp
      have htk : l.take k = l := List.take_of_length_le (by rw [Hlen.out]; exact Nat.le_refl _)
      rw [htk] at hT
      clear htk
      have HT := Lib.hid hT
      have HK := Lib.hid hK
      have Hnw := Lib.hid hnw
      clear hT hK hnw
      go_wp2_with fail
      go_ret
      exact ⟨rfl, f', HT.out, HK.out, Hnw.out⟩
theorem Ti.some {W : World} {lo p m h : Nat} {f : Int → Int → Option Value} {L : HL} (ht : Ti lo p m h f L W) (a b : Int) : (f a b).isSome = decide (0 < (tileG h L a b).length) := by
  cases hf : f a b with
  | none =>
    rw [ht.t.rows.none a b hf]
    rfl
  | some v =>
    have := (ht.t.rows.row a b v hf).2
    have h2 := List.length_pos_iff.2 this
    simp [h2]
set_option maxHeartbeats 1000000 in
set_option maxRecDepth 100000 in
theorem ttile_any (lo p m h : Nat) (f : Int → Int → Option Value) (L : HL) (a b : Int) (w : World) (ht : Ti lo p m h f L w) (ha : I64 a) (hb : I64 b) :
    Calls Tryd.prog 29 #[.pointer (some ⟨p, 0, none⟩), .int .i64 a, .int .i64 b] w fun e w' => ∃ v, e = .returned (.tuple #[v, .bool (decide (0 < (tileG h L a b).length))]) ∧ w'.ownsRow w.heap.size 48 32 v (tileG h L a b).length (hcells (tileG h L a b)) ∧ Below w.heap.size w w' := by
  have hs := ht.some a b
  have hrow := ht.t.rows.get a b
  have hlook := ht.t.map.look true ha hb
  rw [hs] at hlook
  have h256 : (tileG h L a b).length ≤ 256 := Nat.le_trans (tileG_len h _ a b) (Nat.pow_le_pow_right (n := 2) (by decide) ht.h8)
  obtain ⟨A, c, hv, hsl⟩ := owns_slv hrow
  rw [hv] at hlook
  have info : (Tryd.prog.info? 48).map (fun i => (i.zero, i.size, i.bytes)) = some (some (.agg zeroHash), 32, 32) := by kernel_rfl
  obtain ⟨v', W', hr, ho, hg, hv'⟩ := append_slv (ty := 36) Tryd.underlying36 info rfl (by decide) (World.ownsRow_nil w w.heap.size 48 32) hsl.all (fun u hu => by obtain ⟨y, -, rfl⟩ := List.mem_map.1 hu; rfl) (by unfold maxLen; omega) (by omega) (Nat.le_refl _)
  rw [List.nil_append, Nat.zero_add] at ho
  have hbW : Below w.heap.size w W' := (Below.refl _ _).grown hg (Nat.le_refl _) fun k hk => by cases hk
  have c2 := ht.c2
  obtain ⟨q, hq⟩ : ∃ q, (tileG h L a b).length = q := ⟨_, rfl⟩
  rw [hq] at hlook hr ho ⊢
  have Hlook := Lib.hid hlook
  have Hr := Lib.hid hr
  have Ho := Lib.hid ho
  have HbW := Lib.hid hbW
  have hla : IntKind.i64.wrap a = a := IntWalk.i64_in _ ⟨ha.1, ha.2⟩
  clear hs hrow hlook hv hsl info hr ho hg hv' hbW ht hq h256
  go_enter Tryd.func29, Tryd.ntmps29
  go_wp2_with (first
    | ((with_reducible show wpList _ _ _ (⟨some 20, .lookup _ _ _ _, _, _, _, _⟩ :: _) _ _); refine wpList_run rfl (.tuple #[.slice A q c, .bool (decide (0 < q))]) w (run_lookup_opC 71 (.tmp 16) (.tmp 19) rfl _ _ rfl rfl Hlook.out) ?_; simp only [Act.put, List.setIfInBounds_toArray, List.set_cons_succ, List.set_cons_zero])
    | ((with_reducible show wpList _ _ _ (⟨some 24, .call _, _, _, _, _⟩ :: _) _ _); refine wpList_run rfl v' W' (run_append_op (.const (.slice none 0 0)) (.tmp 23) 36 rfl _ _ rfl rfl Hr.out) ?_; simp only [Act.put, List.setIfInBounds_toArray, List.set_cons_succ, List.set_cons_zero]))
  go_ret2
  exact ⟨v', rfl, Ho.out, HbW.out⟩
end Go.Proofs.YtfhmjgkcpcnkbaaDoor
/- tiles: which tiles there are; maps.Clone; All. -/
namespace Go.Proofs.YtfhmjgkcpcnkbaaDoor
open Go Go.RowKit
attribute [local go_sem] Oper.semAt_some

/-- how many tiles a level has -/
def nT (h l n : Nat) : Nat := if cT h l n = 0 then 0 else (cT h l n - 1) / 2 ^ h + 1
theorem cT_nil (h l : Nat) : cT h l 0 = 0 := by unfold cT; simp
theorem gL_all (h n l : Nat) : gL h 0 n l = (List.range (nT h l n)).map fun j => (l, j, min (2 ^ h) (cT h l n - j * 2 ^ h)) := by
  unfold gL nT
  rw [cT_nil]
  by_cases hc : cT h l n = 0
  · rw [hc]; simp
  · rw [if_pos (by omega), if_neg hc, Nat.zero_div, Nat.sub_zero]
    simp
def offT (h n l : Nat) : Nat := (gA h 0 n l).length
theorem offT_zero (h n : Nat) : offT h n 0 = 0 := rfl
theorem offT_succ (h n l : Nat) : offT h n (l + 1) = offT h n l + nT h l n := by
  unfold offT
  rw [gA_succ, List.length_append, gL_all, List.length_map, List.length_range]
theorem gA_pre (h m n k : Nat) : ∀ d, ∃ r, gA h m n (k + d) = gA h m n k ++ r
  | 0 => ⟨[], by simp⟩
  | d + 1 => by
    obtain ⟨r, hr⟩ := gA_pre h m n k d
    exact ⟨r ++ gL h m n (k + d), by rw [← Nat.add_assoc, gA_succ, hr, List.append_assoc]⟩
theorem gR_at (h n l j : Nat) (hl : l ≤ 62) (hj : j < nT h l n) : (gR h 0 n)[offT h n l + j]? = some (l, j, min (2 ^ h) (cT h l n - j * 2 ^ h)) := by
  obtain ⟨r, hr⟩ := gA_pre h 0 n (l + 1) (62 - l)
  unfold gR
  rw [show 63 = l + 1 + (62 - l) by omega, hr, gA_succ, List.append_assoc, List.getElem?_append_right (by unfold offT; omega)]
  unfold offT
  rw [Nat.add_sub_cancel_left, List.getElem?_append_left (by rw [gL_all, List.length_map, List.length_range]; exact hj), gL_all, List.getElem?_map, List.getElem?_range hj]
  rfl
theorem offT_end (h n l : Nat) (hl : l ≤ 63) (hc : cT h l n = 0) : offT h n l = (gR h 0 n).length := by
  unfold offT
  rw [gA_full h 0 n l hl hc]
theorem offT_lt (h n l j : Nat) (hl : l ≤ 62) (hj : j < nT h l n) : offT h n l + j < (gR h 0 n).length :=
  (List.getElem?_eq_some_iff.1 (gR_at h n l j hl hj)).1
abbrev TileV := Int × Int × HL
/-- the tiles of a list: level, number, hashes -/
def tilesL (h : Nat) (L : HL) : List TileV := (gR h 0 L.length).map fun t => ((t.1 : Int), (t.2.1 : Int), tileG h L t.1 t.2.1)
theorem tilesL_len (h : Nat) (L : HL) : (tilesL h L).length = (gR h 0 L.length).length := by simp [tilesL]
theorem tilesL_at (h : Nat) (L : HL) (l j : Nat) (hl : l ≤ 62) (hj : j < nT h l L.length) : (tilesL h L)[offT h L.length l + j]? = some ((l : Int), (j : Int), tileG h L l j) := by
  unfold tilesL
  rw [List.getElem?_map, gR_at h _ l j hl hj]
  rfl
/-- how many tiles there are at most -/
theorem nT_le (h l n : Nat) (_hh : 1 ≤ h) : nT h l n ≤ cT h l n := by
  unfold nT
  split
  · omega
  · rename_i hc
    have := Nat.div_le_self (cT h l n - 1) (2 ^ h)
    omega
theorem cT_half (h l n : Nat) (hh : 1 ≤ h) : cT h (l + 1) n ≤ cT h l n / 2 := by
  rw [cT_succ]
  exact Nat.div_le_div_left (Nat.le_trans (by decide) (Nat.pow_le_pow_right (n := 2) (by decide) hh)) (by decide)
theorem offT_le (h n : Nat) (hh : 1 ≤ h) : ∀ l, offT h n l + 2 * cT h l n ≤ 2 * n
  | 0 => by
    have : cT h 0 n = n := by unfold cT; simp
    rw [offT_zero, this]; omega
  | l + 1 => by
    have h1 := offT_le h n hh l
    have h2 := nT_le h l n hh
    have h3 := cT_half h l n hh
    rw [offT_succ]
    omega
theorem gR_le (h n : Nat) (hh : 1 ≤ h) (_hn : n < 9223372036854775808) : (gR h 0 n).length ≤ 2 * n := by
  have h1 := offT_le h n hh 63
  have h2 : (gR h 0 n).length = offT h n 63 := rfl
  omega
set_option maxHeartbeats 2000000 in
set_option maxRecDepth 100000 in
theorem mclone_any {w : World} {m N : Nat} {f : Int → Int → Option Value} (h : MapF w m N f) :
    Calls Tryd.prog 47 #[.map (some m)] w fun e w' => e = .returned (.map (some w.heap.size)) ∧ MapF w' w.heap.size N f ∧ Below w.heap.size w w' := by
  obtain ⟨es, clock, hb, r⟩ := h
  have hq := fun w => run_eql_map_nil_sl (P := Tryd.prog) w 71 _ _ (some m) Tryd.underlying71
  obtain ⟨w2, hw2⟩ : ∃ x, w.alloc (.map es clock) = x := ⟨_, rfl⟩
  have hm : MapF w2 w.heap.size N f := ⟨es, clock, by rw [← hw2]; exact (MapKept.heap_alloc w _).1, r⟩
  have hbw : Below w.heap.size w w2 := by rw [← hw2]; exact (Below.refl _ _).alloc (Nat.le_refl _) _
  have hcl := run_maps_clone_sl (P := Tryd.prog) (w := w) 71 hb
  rw [hw2] at hcl
  have Hcl := Lib.hid hcl
  have Hm := Lib.hid hm
  have Hb := Lib.hid hbw
  clear hcl hm hbw hw2 hb r
  go_enter Tryd.func47, Tryd.ntmps47
  go_wp2
  rw [run_callFunc_extern Tryd.func64 (by kernel_rfl) (by kernel_rfl) (by kernel_rfl) (e := Extern.MapsClone.clone) (by kernel_rfl), Hcl.out]
  simp only [Result.andThen]
  rw [Oper.upon_value]
  go_wp2
  rw [run_typeAssert_map_sl _ 71 _ _ _ _ Tryd.underlying71]
  simp only [Result.andThen]
  rw [Oper.upon_value]
  go_wp2
  go_ret
  exact ⟨rfl, Hm.out, Hb.out⟩
set_option maxHeartbeats 1000000 in
set_option maxRecDepth 100000 in
theorem tall_any (f : Value) (w : World) (hf : f.oneCell' = true) : Calls Tryd.prog 21 #[f] w fun e w' => e = .returned (.func (.func 46) #[] #[.pointer (some ⟨w.heap.size, 0, none⟩)]) ∧ Blk w' w.heap.size 40 #[f] ∧ Below w.heap.size w w' := by
  obtain ⟨w0, hw0⟩ : ∃ w0, w.alloc (.cells #[f] 40) = w0 := ⟨_, rfl⟩
  have hb0 : Below w.heap.size w w0 := by rw [← hw0]; exact (Below.refl _ _).alloc (Nat.le_refl _) _
  have k : Blk w0 w.heap.size 40 #[f] := by rw [← hw0]; exact Blk.new _ _ _
  have hc : f.cells = #[f] := by cases f <;> first | rfl | cases hf
  have Hw0 := Lib.hid hw0
  clear hw0
  go_enter Tryd.func21, Tryd.ntmps21
  go_wp2_with (rw [Hw0.out])
  go_ret
  exact ⟨rfl, k, hb0⟩
end Go.Proofs.YtfhmjgkcpcnkbaaDoor
/- A drawing region in a fence: operations that only look come first, in whatever order; then a tail in its order. No program in sight. -/
namespace Go.Proofs.YtfhmjgkcpcnkbaaDoor
open Go Go.RowKit

theorem wpAnyIn_tail {F : Fence} {n : Nat} {P : Program} {Q : Exit → Act → World → Prop} {l : List Oper} : ∀ (d j : Nat) (listed : Array Bool) (a : Act) (w : World), j + d = l.length → tailOk l.toArray d j listed = true →
    wpListIn F n P l.toArray Q (l.drop j) a w → wpAnyIn F n P .any l.toArray Q d listed a w
  | 0, j, listed, a, w, hl, hB, h => by
    rw [List.drop_eq_nil_of_le (by omega)] at h
    exact ⟨by simpa [tailOk] using hB, h⟩
  | d + 1, j, listed, a, w, hl, hB, h => by
    simp only [tailOk, Bool.and_eq_true, beq_iff_eq] at hB
    obtain ⟨hr, hB⟩ := hB
    have ho : l.toArray[j]? = some (l[j]'(by omega)) := by simp [List.getElem?_eq_getElem (show j < l.length by omega)]
    rw [List.drop_eq_getElem_cons (show j < l.length by omega)] at h
    refine ⟨fun h0 => (by rw [h0] at hr; cases hr), fun i hi => ?_⟩
    rw [hr] at hi
    obtain rfl : i = j := by simpa using hi
    unfold wpListIn at h
    unfold wpOpIn
    simp only [ho]
    split
    · rename_i hw
      rw [if_pos hw] at h
      exact Oper.wpIn_mono (fun a'' w'' hq => wpAnyIn_tail d (i + 1) _ _ _ (by omega) hB hq) h
    · rename_i hw
      rw [if_neg hw] at h
      exact ⟨h.1, wpAnyIn_tail d (i + 1) _ _ _ (by omega) hB h.2⟩
theorem wpOpIn_look {F : Fence} (hF : Fence.Open F) {n : Nat} {P : Program} {ops : Array Oper} {Q : Exit → Act → World → Prop} {i : Nat} {o : Oper} {a : Act} {w : World} {K : Act → World → Prop} {v : Value} (ho : ops[i]? = some o) (hw : Region.wanted o (yielded ops a.tmps) = true) (hd : noDefer [o] = true)
    (hr : (execOp a.eval o).run P w = .ok (.value v) w) (h : K (a.put o.dst v) w) : wpOpIn F n P ops Q i K a w := by
  unfold wpOpIn
  rw [ho]
  dsimp only
  rw [if_pos hw]
  refine Oper.wpIn_of_wp hF (noDefer_op hd o (List.mem_singleton.2 rfl)) ?_
  unfold Oper.wp
  rw [hr]
  exact h
theorem wpAnyIn_looks0 {F : Fence} {n : Nat} {P : Program} {ops : Array Oper} {Q : Exit → Act → World → Prop} {w : World} (mk : (Nat → Value) → Act) (L : Array Bool) (ks : List Nat) (need : Nat → List Nat) (slot : Nat → Nat) (val : Nat → Value) (f1 : Nat)
    (hok : makersOk ops L ks need = true) (hnd : ks.Nodup) (hslot : ∀ k ∈ ks, ∀ k' ∈ ks, slot k = slot k' → k = k')
    (hrun : ∀ k ∈ ks, ∀ us, (∀ k' ∈ need k, us (slot k') = val k') → ∀ K : Act → World → Prop, K (mk (upd us (slot k) (val k))) w → wpOpIn F n P ops Q k K (mk us) w)
    (htail : ∀ us, (∀ k ∈ ks, us (slot k) = val k) → wpAnyIn F n P .any ops Q f1 (setAll L ks) (mk us) w) :
    ∀ (m : Nat) (sub : List Nat) (us : Nat → Value), leftN ks sub = m → (∀ k ∈ sub, k ∈ ks) → (∀ k ∈ sub, closedP ops (setAll L sub) k = true) → (∀ k ∈ sub, us (slot k) = val k) → wpAnyIn F n P .any ops Q (m + f1) (setAll L sub) (mk us) w
  | 0, sub, us, hn, hsub, _, hf => by
    have hall := leftN_zero ks sub hn
    rw [List.all_eq_true] at hall
    have hm : ∀ k ∈ ks, k ∈ sub := fun k hk => by simpa using hall k hk
    rw [setAll_same L sub ks (fun i => by
      by_cases hi : i ∈ sub
      · rw [List.contains_iff_mem.2 hi, List.contains_iff_mem.2 (hsub i hi)]
      · have hi' : i ∉ ks := fun h => hi (hm i h)
        rw [Bool.eq_false_iff.2 (fun h => hi (List.contains_iff_mem.1 h)), Bool.eq_false_iff.2 (fun h => hi' (List.contains_iff_mem.1 h))]), Nat.zero_add]
    exact htail us fun k hk => hf k (hm k hk)
  | m + 1, sub, us, hn, hsub, hcl, hf => by
    have hok' := hok
    unfold makersOk at hok'
    rw [List.all_eq_true] at hok'
    have hc := hok' _ (filter_subs (fun k => sub.contains k) ks)
    have hse : ∀ i, (ks.filter fun k => sub.contains k).contains i = sub.contains i := fun i => by
      by_cases hi : i ∈ sub
      · rw [List.contains_iff_mem.2 hi, List.contains_iff_mem.2 (List.mem_filter.2 ⟨hsub i hi, List.contains_iff_mem.2 hi⟩)]
      · rw [Bool.eq_false_iff.2 (fun h => hi (List.contains_iff_mem.1 h)), Bool.eq_false_iff.2 (fun h => hi (List.contains_iff_mem.1 (List.mem_filter.1 (List.contains_iff_mem.1 h)).2))]
    rw [setAll_same L _ sub hse] at hc
    have hnall : ks.all (ks.filter fun k => sub.contains k).contains = false := by
      rw [Bool.eq_false_iff]
      intro h
      rw [List.all_eq_true] at h
      unfold leftN at hn
      have h0 : (ks.filter fun k => !sub.contains k) = [] := List.filter_eq_nil_iff.2 fun k hk => by
        have := h k hk
        rw [hse] at this
        simp [List.contains_iff_mem.1 this]
      rw [h0] at hn
      cases hn
    have hclf : ((ks.filter fun k => sub.contains k).all fun k => closedP ops (setAll L sub) k) = true := by
      rw [List.all_eq_true]
      exact fun k hk => hcl k (List.contains_iff_mem.1 (List.mem_filter.1 hk).2)
    rw [hnall, hclf, Bool.not_true, Bool.or_false, Bool.false_or, Bool.and_eq_true] at hc
    obtain ⟨hne, hrd⟩ := hc
    rw [List.all_eq_true] at hrd
    rw [show m + 1 + f1 = m + f1 + 1 by omega]
    refine ⟨fun h0 => (by rw [h0] at hne; cases hne), fun k hk => ?_⟩
    have hk' := hrd k hk
    rw [Bool.and_eq_true, List.contains_iff_mem] at hk'
    obtain ⟨hks, hnd'⟩ := hk'
    rw [List.all_eq_true] at hnd'
    obtain ⟨hun, ok, hoi, hed⟩ := mem_ready.1 hk
    have hget : ops.getD k default = ok := by simp [hoi]
    have hkn : sub.contains k = false := by
      by_cases hkL : k < L.size
      · have := setAll_get L k hkL sub
        rw [Array.getD_eq_getD_getElem?, this] at hun
        simp only [Option.getD_some, Bool.or_eq_false_iff] at hun
        exact hun.2
      · rw [Array.getD_eq_getD_getElem?, Array.getElem?_eq_none (by rw [size_setAll]; omega)] at hun
        cases hun
    have hr := hrun k hks us (fun k' hk'' => hf k' (by
      have := hnd' k' hk''
      rw [hse] at this
      exact List.contains_iff_mem.1 this))
    refine hr _ ?_
    have hother : ∀ k' ∈ sub, upd us (slot k) (val k) (slot k') = us (slot k') := fun k' hk'' => upd_other _ _ _ _ (fun e => by
      have := hslot k' (hsub k' hk'') k hks e
      subst this
      rw [List.contains_iff_mem.2 hk''] at hkn
      cases hkn)
    refine wpAnyIn_looks0 mk L ks need slot val f1 hok hnd hslot hrun htail m (k :: sub) _ (by have := leftN_cons sub k hkn ks hnd hks; omega) ?_ ?_ ?_
    · intro k' hk''
      rcases List.mem_cons.1 hk'' with rfl | hk''
      · exact hks
      · exact hsub k' hk''
    · intro k' hk''
      refine closedP_step ops (setAll L sub) k k' ?_
      rcases List.mem_cons.1 hk'' with rfl | hk''
      · unfold closedP
        rw [hget, List.all_eq_true]
        intro e he
        by_cases hb : Region.binds .any e = true
        · rw [hed e (by simpa using he) hb]; simp
        · simp [hb]
      · exact hcl k' hk''
    · intro k' hk''
      rcases List.mem_cons.1 hk'' with rfl | hk''
      · exact upd_same _ _ _
      · rw [hother k' hk'']; exact hf k' hk''
/-- THE LAW: what only looks, in whatever order; then the tail -/
theorem wpIn_region_looks {F : Fence} (hF : Fence.Open F) {m : Nat} {P : Program} {id : Nat} {Q : Exit → Act → World → Prop} {a : Act} {w : World} {l : List Oper} (mk : (Nat → Value) → Act) (ks : List Nat) (need : Nat → List Nat) (slot : Nat → Nat) (val : Nat → Value) (us0 : Nat → Value) (f1 : Nat)
    (hm : P.follows .mixedOrders = true) (hmk : mk us0 = a) (hok : makersOk l.toArray (Array.replicate l.length false) ks need = true) (hnd : ks.Nodup) (hslot : ∀ k ∈ ks, ∀ k' ∈ ks, slot k = slot k' → k = k')
    (hf : ks.length + f1 = l.length) (ht : tailOk l.toArray f1 ks.length (setAll (Array.replicate l.length false) ks) = true)
    (hrun : ∀ k ∈ ks, ∀ us, (∀ k' ∈ need k, us (slot k') = val k') → ∃ o, l.toArray[k]? = some o ∧ Region.wanted o (yielded l.toArray (mk us).tmps) = true ∧ noDefer [o] = true ∧ (execOp (mk us).eval o).run P w.drew = .ok (.value (val k)) w.drew ∧ (mk us).put o.dst (val k) = mk (upd us (slot k) (val k)))
    (htail : ∀ us, (∀ k ∈ ks, us (slot k) = val k) → wpListIn F m P l.toArray Q (l.drop ks.length) (mk us) w.drew) : (Code.region id l.toArray true).wpIn F m P Q a w := by
  refine wpIn_region_any hm ?_
  have hleft : leftN ks [] = ks.length := by
    unfold leftN
    simp
  have h := wpAnyIn_looks0 (F := F) (n := m) (P := P) (ops := l.toArray) (Q := Q) (w := w.drew) mk (Array.replicate l.length false) ks need slot val f1 hok hnd hslot
    (fun k hk us hu K hK => by
      obtain ⟨o, h1, h2, h3, h4, h5⟩ := hrun k hk us hu
      refine wpOpIn_look hF h1 h2 h3 h4 ?_
      rw [h5]
      exact hK)
    (fun us hu => wpAnyIn_tail f1 ks.length _ _ _ hf ht (htail us hu)) ks.length [] us0 hleft (fun _ h => by cases h) (fun _ h => by cases h) (fun _ h => by cases h)
  rw [hf, hmk] at h
  have hs : setAll (Array.replicate l.length false) [] = Array.replicate l.length false := rfl
  rw [hs] at h
  simpa using h
theorem wpIn_region_looksP {F : Fence} (hF : Fence.Open F) {m : Nat} {P : Program} {id : Nat} {Q : Exit → Act → World → Prop} {a : Act} {w : World} {l : List Oper} (ks : List Nat) (need : Nat → List Nat) (slot : Nat → Nat) (slots : List Nat) (val : Nat → Value) (f1 : Nat)
    (hm : P.follows .mixedOrders = true) (hmk : putAll a (fun j => a.tmps.getD j undef) slots = a) (hok : makersOk l.toArray (Array.replicate l.length false) ks need = true) (hnd : ks.Nodup) (hslot : ∀ k ∈ ks, ∀ k' ∈ ks, slot k = slot k' → k = k')
    (hf : ks.length + f1 = l.length) (ht : tailOk l.toArray f1 ks.length (setAll (Array.replicate l.length false) ks) = true)
    (hrun : ∀ k ∈ ks, ∀ us, (∀ k' ∈ need k, us (slot k') = val k') → ∃ o, l.toArray[k]? = some o ∧ Region.wanted o (yielded l.toArray (putAll a us slots).tmps) = true ∧ noDefer [o] = true ∧ (execOp (putAll a us slots).eval o).run P w.drew = .ok (.value (val k)) w.drew ∧ (putAll a us slots).put o.dst (val k) = putAll a (upd us (slot k) (val k)) slots)
    (htail : ∀ us, (∀ k ∈ ks, us (slot k) = val k) → wpListIn F m P l.toArray Q (l.drop ks.length) (putAll a us slots) w.drew) : (Code.region id l.toArray true).wpIn F m P Q a w :=
  wpIn_region_looks hF (fun us => putAll a us slots) ks need slot val (fun j => a.tmps.getD j undef) f1 hm hmk hok hnd hslot hf ht hrun htail
end Go.Proofs.YtfhmjgkcpcnkbaaDoor
/- A drawing region in a fence: a head in an order of one's own, in a class; then a tail in its order, which may hand things on. No program in sight. -/
namespace Go.Proofs.YtfhmjgkcpcnkbaaDoor
open Go Go.RowKit

section
variable {P : Program} {ops : Array Oper} {Q : Exit → Act → World → Prop} {md : Region.Mode} {S : World → Prop} {k : Nat} {Tl : Array Bool → Act → World → Prop}

/-- the head's operations come up in any order; behind them stands Tl -/
def wpAnyTS (P : Program) (md : Region.Mode) (ops : Array Oper) (Q : Exit → Act → World → Prop) (S : World → Prop) (k : Nat) (Tl : Array Bool → Act → World → Prop) : Nat → Array Bool → Act → World → Prop
  | 0, listed, a, w => (∀ j, j < k → listed.getD j true = true) ∧ Tl listed a w
  | fuel + 1, listed, a, w =>
    (Region.ready md ops listed ≠ []) ∧
    ∀ i ∈ Region.ready md ops listed, i < k ∧ wpOp P ops Q i (fun a' w' => S w' ∧ wpAnyTS P md ops Q S k Tl fuel (listed.setIfInBounds i true) a' w') a w

theorem wpAnyTS_first {i : Nat} {oi : Oper} {v : Value} (hi : ops[i]? = some oi) (hik : i < k) (hsel : ∀ (j : Nat) (o : Oper) cs b, ops[j]? = some o → o.op ≠ .select cs b) (hw : ∀ j, k ≤ j → j < ops.size → waitsT md ops j i = true)
    (hQ : ∀ c a w, Q (.panic c) (a.put oi.dst v) w → Q (.panic c) a w) :
    ∀ (fuel : Nat) (listed : Array Bool) (a : Act) (w : World), Cl md ops listed →
      (∀ j oj, ops[j]? = some oj → j ≠ i → listed.getD j true = false → (∀ e ∈ oj.after, Region.binds md e = true → e.on ≠ i) → oi.apart ops oj = true) →
      i ∈ Region.ready md ops listed → YieldsIf P ops S oi v a → S w →
      wpAnyTS P md ops Q S k Tl fuel (listed.setIfInBounds i true) (a.put oi.dst v) w → wpAnyTS P md ops Q S k Tl (fuel + 1) listed a w := by
  intro fuel
  have hlt : ∀ (listed : Array Bool), Cl md ops listed → i ∈ Region.ready md ops listed → ∀ j ∈ Region.ready md ops listed, j < k := fun listed hcl hr j hj => by
    rcases Nat.lt_or_ge j k with h' | h'
    · exact h'
    · exfalso
      obtain ⟨hjun, oj, hoj, hall⟩ := mem_ready.1 hj
      have hl := waitsT_spec hcl hoj hall (hw j h' (Array.getElem?_eq_some_iff.1 hoj).1)
      have h0 := (mem_ready.1 hr).1
      rcases Nat.lt_or_ge i listed.size with h' | h'
      · simp [h'] at h0 hl; rw [h0] at hl; cases hl
      · simp [Array.getElem?_eq_none h'] at hl
  induction fuel with
  | zero =>
    intro listed a w hcl _ hr hy hS H
    refine ⟨fun h => (by rw [h] at hr; cases hr), fun j hj => ?_⟩
    by_cases hji : j = i
    · subst hji; exact ⟨hik, hy.wpOp hi hS ⟨hS, H⟩⟩
    · exfalso
      have h1 := H.1 j (hlt listed hcl hr j hj)
      rw [getD_set_ne true (fun e => hji e.symm)] at h1
      rw [(mem_ready.1 hj).1] at h1
      cases h1
  | succ fuel ih =>
    intro listed a w hcl hfree hr hy hS H
    refine ⟨fun h => (by rw [h] at hr; cases hr), fun j hj => ⟨hlt listed hcl hr j hj, ?_⟩⟩
    by_cases hji : j = i
    · subst hji; exact hy.wpOp hi hS ⟨hS, H⟩
    · have h1 := (H.2 j (ready_mono hj hji)).2
      obtain ⟨hjun, oj, hoj, hall⟩ := mem_ready.1 hj
      have hnot : ∀ e ∈ oj.after, Region.binds md e = true → e.on ≠ i := fun e he hb heq => by
        have h1 := hall e he hb
        have h0 := (mem_ready.1 hr).1
        rw [heq] at h1
        rcases Nat.lt_or_ge i listed.size with h' | h'
        · simp [h'] at h0 h1; rw [h0] at h1; cases h1
        · simp [Array.getElem?_eq_none h'] at h1
      have h2 := wpOp_putIf hoj (hfree j oj hoj hji hjun hnot) (fun cs b => hsel i oi cs b hi) (fun cs b => hsel j oj cs b hoj) hQ hy h1
      have hfree' : ∀ m ok, ops[m]? = some ok → m ≠ i → (listed.setIfInBounds j true).getD m true = false →
          (∀ e ∈ ok.after, Region.binds md e = true → e.on ≠ i) → oi.apart ops ok = true := fun m ok hm hmi hun hno => by
        refine hfree m ok hm hmi ?_ hno
        by_cases hjm : j = m
        · subst hjm; exact hjun
        · rw [getD_set_ne true hjm] at hun; exact hun
      refine wpOp_mono (fun a' w' h3 => ⟨h3.2.1, ih (listed.setIfInBounds j true) a' w' (hcl.put hj) hfree' (ready_mono hr (Ne.symm hji)) h3.1 h3.2.1 ?_⟩) h2
      rw [Array.setIfInBounds_comm _ _ hji]
      exact h3.2.2

theorem wpAnyTS_pre (hsel : Region.noSelect ops = true) (listed' : Array Bool) (hk : ∀ j, j < k → listed'.getD j true = true) : ∀ (l : List (Nat × Bool)) (listed : Array Bool) (a : Act) (w : World), mixTo ops l listed = some listed' →
    (l.all fun x => (decide (x.1 < k)) && (!x.2 || ((List.range ops.size).all fun j => decide (j < k) || waitsT .any ops j x.1))) = true → Cl .any ops listed → S w →
    wpMix0 P ops S Q (fun a w => S w → Tl listed' a w) (l.map fun x => (ops.getD x.1 default, x.2)) a w → wpAnyTS P .any ops (NoPanic Q) S k Tl l.length listed a w
  | [], listed, a, w, hB, _, _, hS, h => by
    simp only [mixTo, Option.some.injEq] at hB
    subst hB
    exact ⟨hk, h hS⟩
  | (i, true) :: l, listed, a, w, hB, hall, hcl, hS, h => by
    simp only [List.all_cons, Bool.and_eq_true, Bool.not_true, Bool.false_or, decide_eq_true_eq] at hall
    simp only [mixTo] at hB
    split at hB
    case isFalse => cases hB
    rename_i hB0
    simp only [Bool.and_eq_true] at hB0
    obtain ⟨hr, hf⟩ := hB0
    have hr' : i ∈ Region.ready .any ops listed := by simpa using hr
    obtain ⟨_, oi, hoi, _⟩ := mem_ready.1 hr'
    have hget : ops.getD i default = oi := by simp [hoi]
    simp only [List.map_cons, wpMix0, hget] at h
    have hy : ∃ v, YieldsIf P ops S oi v a ∧ wpMix0 P ops S Q (fun a w => S w → Tl listed' a w) (l.map fun x => (ops.getD x.1 default, x.2)) (a.put oi.dst v) w := by
      by_cases hw : Region.wanted oi (yielded ops a.tmps) = true
      · rw [if_pos hw] at h
        obtain ⟨v, h1, h2⟩ := h
        exact ⟨v, .inl ⟨hw, fun w' hw' => h1 ⟨w', hw'⟩⟩, h2⟩
      · rw [if_neg hw] at h
        exact ⟨undef, .inr ⟨by simpa using hw, rfl⟩, h⟩
    obtain ⟨v, hy, h2⟩ := hy
    exact wpAnyTS_first hoi hall.1.1 (Region.noSelect_spec hsel) (fun j hkj hj => by have := List.all_eq_true.1 hall.1.2 j (List.mem_range.2 hj); simp only [Bool.or_eq_true, decide_eq_true_eq] at this; rcases this with h' | h'; exact absurd h' (by omega); exact h') (fun _ _ _ hp => hp) l.length listed a w hcl (Region.free_spec hoi hf) hr' hy hS
      (wpAnyTS_pre hsel listed' hk l _ _ w hB (by simpa using hall.2) (hcl.put hr') hS h2)
  | (i, false) :: l, listed, a, w, hB, hall, hcl, hS, h => by
    simp only [List.all_cons, Bool.and_eq_true, decide_eq_true_eq] at hall
    simp only [mixTo] at hB
    split at hB
    case isFalse => cases hB
    rename_i hB0
    have hr : Region.ready .any ops listed = [i] := by simpa using hB0
    have hr' : i ∈ Region.ready .any ops listed := by rw [hr]; simp
    obtain ⟨_, oi, hoi, _⟩ := mem_ready.1 hr'
    have hget : ops.getD i default = oi := by simp [hoi]
    simp only [List.map_cons, wpMix0, hget] at h
    refine ⟨fun h0 => (by rw [h0] at hr; cases hr), fun j hj => ?_⟩
    rw [hr] at hj
    obtain rfl : j = i := by simpa using hj
    refine ⟨hall.1.1, ?_⟩
    unfold wpOp
    simp only [hoi]
    by_cases hw : Region.wanted oi (yielded ops a.tmps) = true
    · rw [if_pos hw] at h ⊢
      exact .inl (Oper.wp_mono (fun a' w' ⟨h1, h2⟩ => ⟨h1, wpAnyTS_pre hsel listed' hk l _ a' w' hB (by simpa using hall.2) (hcl.put hr') h1 h2⟩) h)
    · rw [if_neg hw] at h ⊢
      exact ⟨hS, wpAnyTS_pre hsel listed' hk l _ _ w hB (by simpa using hall.2) (hcl.put hr') hS h⟩
theorem wpAnyIn_of_TS {F : Fence} (hF : Fence.Open F) {n : Nat} (hd : noDefer ops.toList = true) (hout : ∀ a w, ¬ Q .outgrown a w) (f : Nat) : ∀ (fuel : Nat) (listed : Array Bool) (a : Act) (w : World),
    wpAnyTS P md ops (NoPanic Q) S k (fun listed a w => wpAnyIn F n P md ops (NoPanic Q) f listed a w) fuel listed a w → wpAnyIn F n P md ops (NoPanic Q) (fuel + f) listed a w
  | 0, _, _, _, h => by rw [Nat.zero_add]; exact h.2
  | fuel + 1, listed, a, w, h => by
    rw [show fuel + 1 + f = (fuel + f) + 1 by omega]
    refine ⟨fun h0 => absurd h0 h.1, fun i hi => ?_⟩
    have h1 := (h.2 i hi).2
    unfold wpOp at h1
    unfold wpOpIn
    split at h1
    · rename_i ho
      rw [ho]
      exact wpAnyIn_of_TS hF hd hout f fuel _ _ _ h1.2
    · rename_i o ho
      rw [ho]
      dsimp only
      have hm : o ∈ ops.toList := by
        obtain ⟨hl, he⟩ := Array.getElem?_eq_some_iff.1 ho
        rw [← he]
        simp
      split
      · rename_i hw
        rw [if_pos hw] at h1
        rcases h1 with h1 | ⟨_, a', w', h1⟩
        · exact Oper.wpIn_of_wp hF (noDefer_op hd o hm) (Oper.wp_mono (fun a w h => wpAnyIn_of_TS hF hd hout f fuel _ a w h.2) h1)
        · exact (hout a' w' h1).elim
      · rename_i hw
        rw [if_neg hw] at h1
        exact ⟨fun f _ => hF.fn_ f, wpAnyIn_of_TS hF hd hout f fuel _ _ _ h1.2⟩
end
/-- what is checked of an order and its tail -/
def mixTailYOk (l : List Oper) (n : Nat) (order : List (Nat × Bool)) : Bool :=
  Region.noSelect l.toArray && (order.length == n) && (decide (n ≤ l.length)) && (order.all fun x => (decide (x.1 < n)) && (!x.2 || ((List.range l.toArray.size).all fun j => decide (j < n) || waitsT .any l.toArray j x.1))) &&
    ((mixTo l.toArray order (Array.replicate l.length false)).map fun x => tailOk l.toArray (l.length - n) n x && ((List.range n).all fun j => x.getD j true)).getD false
theorem wpIn_region_mix_tailY {P : Program} {id : Nat} {Q : Exit → Act → World → Prop} {a : Act} {w : World} {l : List Oper} {F : Fence} {m : Nat} (hF : Fence.Open F) (hnd : noDefer l = true) (hout : ∀ a w, ¬ Q .outgrown a w) (S : World → Prop) (n : Nat) (order : List (Nat × Bool)) (hm : P.follows .mixedOrders = true) (hB : mixTailYOk l n order = true) (hS : S w.drew)
    (h : Nonempty (InC S) → wpMix P l.toArray S Q (fun a w => S w → wpListIn F m P l.toArray (NoPanic Q) (l.drop n) a w) (order.map fun x => (l.toArray.getD x.1 default, x.2)) a w.drew) : (Code.region id l.toArray true).wpIn F m P Q a w := by
  unfold mixTailYOk at hB
  simp only [Bool.and_eq_true, beq_iff_eq, decide_eq_true_eq] at hB
  obtain ⟨⟨⟨⟨hsel, hlen⟩, hn⟩, hall⟩, hmix⟩ := hB
  refine wpIn_mono (Q := NoPanic Q) (wpIn_region_any hm ?_) NoPanic.imp
  cases hx : mixTo l.toArray order (Array.replicate l.length false) with
  | none => rw [hx] at hmix; cases hmix
  | some listed' =>
    rw [hx] at hmix
    simp only [Option.map_some, Option.getD_some, Bool.and_eq_true, List.all_eq_true, List.mem_range] at hmix
    obtain ⟨htail, hk⟩ := hmix
    have h1 := wpAnyTS_pre (P := P) (Q := Q) (S := S) (k := n) (Tl := fun listed a w => wpAnyIn F m P .any l.toArray (NoPanic Q) (l.length - n) listed a w) hsel listed' hk order (Array.replicate l.length false) a w.drew hx hall (fun m om hm hl => by simp only [Array.getD_eq_getD_getElem?, Array.getElem?_replicate] at hl; split at hl <;> cases hl) hS
      (wpMix0_mono _ _ _ (fun a' w' h' hs => wpAnyIn_tail _ n _ _ _ (by omega) htail (h' hs)) _ _ (h ⟨⟨_, hS⟩⟩).out)
    have := wpAnyIn_of_TS hF (by simpa using hnd) hout _ _ _ _ _ h1
    rw [hlen, show n + (l.length - n) = l.length by omega] at this
    simpa using this
end Go.Proofs.YtfhmjgkcpcnkbaaDoor
/- A variable of many cells is made and filled; one cell is written. (As in Pl1, without the fronts: not both in one seat.) -/
namespace Go.Proofs.YtfhmjgkcpcnkbaaDoor
open Go Go.RowKit
attribute [local go_sem] Oper.semAt_some
section
variable {P : Program} {w : World} {ops : Array Oper} {rest : List Oper} {o1 o2 : Oper} {a : Act} {Q : Exit → Act → World → Prop}
/-- a variable of many cells is made and filled -/
theorem wpList_varA {T : TypeId} {zs cs : Array Value} (n : Nat) (x y : Operand) (hg1 : o1.guard = none) (hg2 : o2.guard = none) (hz : (execOp a.eval o1).run P w = .ok (.value (.pointer (some ⟨w.heap.size, 0, none⟩))) (w.alloc (.cells zs T))) (hsz : ∀ w : World, (sizeOf T).run P w = .ok n w) (ho2 : o2.op = .store T x y)
    (hx : (a.put o1.dst (.pointer (some ⟨w.heap.size, 0, none⟩))).eval x = .pointer (some ⟨w.heap.size, 0, none⟩)) (hy : (a.put o1.dst (.pointer (some ⟨w.heap.size, 0, none⟩))).eval y = .agg cs) (hn : cs.size = n) (hzs : zs.size = n) (hv : ∀ v ∈ cs.toList, v.oneCell' = true)
    (h : ∀ W, Blk W w.heap.size T cs → Below w.heap.size w W → wpList P ops Q rest ((a.put o1.dst (.pointer (some ⟨w.heap.size, 0, none⟩))).put o2.dst undef) W) : wpList P ops Q (o1 :: o2 :: rest) a w := by
  refine wpList_run hg1 (.pointer (some ⟨w.heap.size, 0, none⟩)) (w.alloc (.cells zs T)) hz ?_
  refine wpList_store_blk hg2 T x y ho2 n hsz w.heap.size cs hx hy hn hv T zs (Blk.new w T zs) hzs ?_
  exact h _ ((Blk.new w T zs).setRow_ _) (below_setRow ((Below.refl _ _).alloc (Nat.le_refl _) _) (Nat.le_refl _) _)
end
theorem one_cells {v : Value} (hv : v.oneCell' = true) : v.cells = #[v] := by cases v <;> first | rfl | cases hv
theorem run_put1 {P : Program} (ty : TypeId) (hsz : ∀ w : World, (sizeOf ty).run P w = .ok 1 w) (v : Value) (hv : v.oneCell' = true) (p : Addr) (w : World) (u : Value) (hc : w.cell? p = some u) (hf : w.frozen? p = false) :
    (Instr.storeAt ty (.pointer (some p)) v).run P w = .ok () (w.setCell p v) := by
  have h1 : (store p v).run P w = .ok () (w.setCell p v) := by rw [run_store _ _ _ _ _ hv, hc]; simp [hf]
  have hp : p.add 0 = p := rfl
  simp [Instr.storeAt, Instr.sureAddr, storeVar, one_cells hv, hsz, storeCells, Sem.run_bind, hp, h1]
theorem wpMix_put1 {P : Program} {ops : Array Oper} {S : World → Prop} {Q : Exit → Act → World → Prop} {R : Act → World → Prop} {o : Oper} {l : List (Oper × Bool)} {a : Act} {w : World} (hw : Region.wanted o (yielded ops a.tmps) = true) (ty : TypeId) (x y : Operand) (ho : o.op = .store ty x y) (hsz : ∀ w : World, (sizeOf ty).run P w = .ok 1 w)
    (p : Addr) (v : Value) (hx : a.eval x = .pointer (some p)) (hy : a.eval y = v) (hv : v.oneCell' = true) (u : Value) (hc : w.cell? p = some u) (hf : w.frozen? p = false) (hS : S (w.setCell p v))
    (h : wpMix P ops S Q R l (a.put o.dst undef) (w.setCell p v)) : wpMix P ops S Q R ((o, false) :: l) a w := by
  refine ⟨?_⟩
  unfold wpMix0
  rw [if_pos hw]
  unfold Oper.wp execOp
  simp only [ho, hx, hy, run_put1 ty hsz v hv p w u hc hf, Sem.run_bind, Sem.run_pure, Result.andThen_ok, Oper.upon]
  exact ⟨hS, h.out⟩
theorem wpList_put1i {P : Program} {w : World} {ops : Array Oper} {rest : List Oper} {o : Oper} {a : Act} {Q : Exit → Act → World → Prop} (hgd : o.guard = none) (ty : TypeId) (x y : Operand) (ho : o.op = .store ty x y) (hsz : ∀ w : World, (sizeOf ty).run P w = .ok 1 w)
    (p : Addr) (v : Value) (hx : a.eval x = .pointer (some p)) (hy : a.eval y = v) (hv : v.oneCell' = true) (u : Value) (hc : w.cell? p = some u) (hf : w.frozen? p = false) (h : wpList P ops Q rest (a.put o.dst undef) (w.setCell p v)) : wpList P ops Q (o :: rest) a w :=
  wpList_plain hgd fun _ hK => by
    unfold Oper.wp execOp
    simp only [ho, hx, hy, run_put1 ty hsz v hv p w u hc hf, Sem.run_bind, Sem.run_pure, Result.andThen_ok, Oper.upon]
    exact hK _ _ h
end Go.Proofs.YtfhmjgkcpcnkbaaDoor
