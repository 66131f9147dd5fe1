/- Rows.ShaCutSaid: a text's sum does not hang on where it is cut, into parts or Writes, or taken up again by its bytes. -/
import Derived.Test.YtdkgndjomkbbjaaOpen2
import Derived.Test.YtdkgndjomkbbjaaShaCut
namespace Go.Proofs.Ytdkgndjomkbbjaa
open Go.RowKit Go.WideShapes Go.ChangeShapes Go.ChangeAt

section
variable {H : Type} {enc : TypeId × Value → H} {P : Program} {W : World} {base : Nat} {held : Bool}
theorem open_i64s {t e : TypeId} {fuel : Nat} {cs : List Value} {x : DataW H × List MemPlace} (ht : P.underlying t = some (.slice e)) (he : P.underlying e = some (.int .i64)) (hc : P.cellsOf e = 1)
    (h : DataW.trod enc P W 0 (fun _ => true) held fuel t cs = some x) : ∃ (A : Option Addr) (n c : Nat) (zs : List Int), cs = [Value.slice A n c] ∧ Ints W A n zs ∧ n ≤ c ∧ c ≤ maxLen ∧ n + 1 ≤ Rows.uptoBulk x.1 := by
  obtain ⟨A, n, c, L, xs, h1, h2, h3, h4, _, h6, h7⟩ := open_slR (fun (z : Int) cs => cs = [Value.int .i64 z] ∧ (-9223372036854775808 ≤ z ∧ z ≤ 9223372036854775807)) (fun _ => 0) ht hc (by decide) (fun fuel cs y hy _ => by
    obtain ⟨z, rfl, hy2, hwf⟩ := DataW.trod_int he hy
    refine ⟨z, ⟨rfl, ?_⟩, bulk_one _⟩
    simpa [Lit.wf, IntKind.min, IntKind.max, IntKind.signed, IntKind.bits] using hwf) h
  have hL := map_of_each (fun z : Int => [Value.int .i64 z]) L xs (by omega) (fun i a b ha hb => (h6 i a b ha hb).1)
  refine ⟨A, n, c, xs, h1, ⟨h4, fun z hz => ?_, fun hn => ?_⟩, h2.room, h2.max, by omega⟩
  · obtain ⟨i, hi, rfl⟩ := List.getElem_of_mem hz
    exact (h6 i xs[i] (L[i]'(by omega)) (List.getElem?_eq_getElem hi) (List.getElem?_eq_getElem (by omega))).2
  · obtain ⟨b, o, hA, hb, _, hcell⟩ := h2.at_ hn (by decide)
    refine ⟨b, o, hA, hb, fun j hj => hcell j _ ?_⟩
    rw [hL, flatten_map_single, List.getElem?_map, List.getElem?_eq_getElem (by omega), Option.map_some, List.getD_eq_getElem?_getD, List.getElem?_eq_getElem (by omega), Option.getD_some]
end

set_option maxRecDepth 100000 in
theorem shaCut_lifted (os : Os) (started : os.Started) (H : Type) (enc : TypeId × Value → H) :
    ReturnsInHanded {} Try.checked os 6 .any (Rows.shaCutSpec.pre6 enc Try.prog Try.f6 Rows.shaCutRow.domain false) (Rows.shaCutSpec.post enc Try.prog Try.f6 false true false false) := by
  refine returnsInHanded_of_change (C := Try.checked) Try.own started (by kernel_rfl) Try.func6
    (ChangeSpec.witness6 (enc := enc) (C := Try.checked) false ⟨#[], #[.slice none 0 0, .slice none 0 0], []⟩ 8 (by kernel_rfl) (by kernel_rfl) (by kernel_rfl) (by kernel_rfl)) ?_
  intro W base args ds gs before hval0 hW hcnd _
  have hval : ∀ (j : Nat) t v, Try.f6.params[j]? = some t → args[j]? = some v → Value.okWide Try.prog W .any base t v := hval0
  have hW' := hW
  obtain ⟨p, q, hA0, hV, rfl, hfz, hnd⟩ := hW
  have hA : DataW.TrodAll enc Try.prog W 0 (fun _ => true) true Try.f6.params.toList args.toList ds p := hA0
  rw [Try.params6] at hA hval
  obtain ⟨v0, v1, d0, d1, p0, p1, rfl, rfl, rfl, h0, h1⟩ := trodAll_two hA
  obtain ⟨rfl, rfl⟩ := trodVars_none hV
  obtain ⟨A, n, c, rfl⟩ := okWide_slice Try.underlying23 (hval 0 _ _ rfl rfl)
  obtain ⟨A2, n2, c2, rfl⟩ := okWide_slice Try.underlying43 (hval 1 _ _ rfl rfl)
  obtain ⟨f0, h0⟩ := h0
  obtain ⟨f1, h1⟩ := h1
  obtain ⟨A, n, c, l, hcs, hS, -⟩ := open_u8s Try.underlying23 Try.underlying5 (by kernel_rfl) h0
  cases hcs
  obtain ⟨A2, n2, c2, zs, hcs, hZ, hr, hm, -⟩ := open_i64s Try.underlying43 Try.underlying3 (by kernel_rfl) h1
  cases hcs
  unfold maxLen at hm
  refine (shacut_any l A n c A2 n2 c2 zs W hS hZ hr (by omega)).mono fun e W' ⟨he, hb⟩ => ?_
  exact ⟨_, he, post_of_law (bt := 4) Try.laidOut rfl (by kernel_rfl) (by kernel_rfl) (by kernel_rfl) hW' rfl hb⟩

theorem shaCut_holds : Rows.ShaCutSaid :=
  OpenClaim.holds_of_wide 6 Try.f6 rfl rfl rfl rfl rfl rfl rfl ⟨rfl, rfl, rfl, rfl, rfl⟩ rfl rfl rfl rfl rfl (by kernel_rfl) Try.func6 (by kernel_rfl)
    (of_decide_eq_true (by kernel_rfl)) (by unfold Func.isWrapper; first | (rw [if_pos (by decide +kernel)]; kernel_rfl) | (rw [if_neg (by decide +kernel)]; exact ⟨rfl, rfl⟩))
    (fun os started H enc _ => shaCut_lifted os started H enc)
end Go.Proofs.Ytdkgndjomkbbjaa
