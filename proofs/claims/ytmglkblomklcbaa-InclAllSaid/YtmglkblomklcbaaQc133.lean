/- Rows.InclAllSaid: the proofs of all entries of any list, left early, gone over again; the list stays. -/
import Derived.Test.YtmglkblomklcbaaQc110
import Derived.Test.YtmglkblomklcbaaQc132
namespace Go.Proofs.Ytmglkblomklcbaa
open Go.RowKit Go.WideShapes Go.ChangeShapes Go.ChangeAt

set_option maxRecDepth 100000 in
theorem inclAll_lifted (os : Os) (started : os.Started) (H : Type) (enc : TypeId × Value → H) :
    ReturnsInHanded {} Try.checked os 5 .any (Rows.inclAllSpec.pre6 enc Try.prog Try.f5 Rows.inclAllRow.domain false) (Rows.inclAllSpec.post enc Try.prog Try.f5 false true false false) := by
  refine returnsInHanded_of_change (C := Try.checked) Try.own started (by kernel_rfl) Try.func5
    (ChangeSpec.witness6 (enc := enc) (C := Try.checked) false ⟨#[], #[.slice none 0 0, .int .i64 0], []⟩ 8 (by kernel_rfl) (by kernel_rfl) (by kernel_rfl) (by kernel_rfl)) ?_
  intro W base args ds gs before hval0 hW _ _
  have hW' := hW
  obtain ⟨p, q, hA0, hV, rfl, hfz, hnd⟩ := hW
  have hA : DataW.TrodAll enc Try.prog W 0 (fun _ => true) true Try.f5.params.toList args.toList ds p := hA0
  have hval : ∀ (j : Nat) t v, Try.f5.params[j]? = some t → args[j]? = some v → Value.okWide Try.prog W .any base t v := hval0
  rw [Try.params5] at hA hval
  obtain ⟨v0, v1, d0, d1, p0, p1, rfl, rfl, rfl, h0, h1⟩ := trodAll_two hA
  obtain ⟨rfl, rfl⟩ := trodVars_none hV
  obtain ⟨A0, n0, c0, rfl⟩ := okWide_slice Try.underlying22 (hval 0 _ _ rfl rfl)
  obtain ⟨f0, h0⟩ := h0
  obtain ⟨A0, n0, c0, l0, hcs, hS0, -⟩ := open_hashes Try.underlying22 Try.underlying45 Try.underlying5 (by kernel_rfl) (by kernel_rfl) h0
  cases hcs
  obtain ⟨z1, rfl, -, -, hz1⟩ := open_int Try.underlying3 (hval 1 _ _ rfl rfl) h1
  refine (inclall_any l0 A0 n0 c0 z1 W hS0).mono fun e W' ⟨he, hb⟩ => ?_
  exact ⟨_, he, post_of_law (bt := 4) Try.laidOut rfl (by kernel_rfl) (by kernel_rfl) (by kernel_rfl) hW' rfl hb⟩

theorem inclAll_holds : Rows.InclAllSaid :=
  OpenClaim.holds_of_wide 5 Try.f5 rfl rfl rfl rfl rfl rfl rfl ⟨rfl, rfl, rfl, rfl, rfl⟩ rfl rfl rfl rfl rfl (by kernel_rfl) Try.func5 (by kernel_rfl)
    (of_decide_eq_true (by kernel_rfl)) (by unfold Func.isWrapper; first | (rw [if_pos (by decide +kernel)]; kernel_rfl) | (rw [if_neg (by decide +kernel)]; exact ⟨rfl, rfl⟩))
    (fun os started H enc _ => inclAll_lifted os started H enc)
end Go.Proofs.Ytmglkblomklcbaa
