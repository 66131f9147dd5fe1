/- Rows.HashTextsSaid: of any text the hash that it says, or none. -/
import Derived.Test.YtdkgndjomkbbjaaOpen2
import Derived.Test.YtdkgndjomkbbjaaHTexts
namespace Go.Proofs.Ytdkgndjomkbbjaa
open Go.RowKit Go.WideShapes Go.ChangeShapes Go.ChangeAt

set_option maxRecDepth 100000 in
theorem hashTexts_lifted (os : Os) (started : os.Started) (H : Type) (enc : TypeId × Value → H) :
    ReturnsInHanded {} Try.checked os 12 .any (Rows.hashTextsSpec.pre6 enc Try.prog Try.f12 Rows.hashTextsRow.domain false) (Rows.hashTextsSpec.post enc Try.prog Try.f12 false true false false) := by
  refine returnsInHanded_of_change (C := Try.checked) Try.own started (by kernel_rfl) Try.func12
    (ChangeSpec.witness6 (enc := enc) (C := Try.checked) false ⟨#[], #[.string ⟨#[]⟩], []⟩ 8 (by kernel_rfl) (by kernel_rfl) (by kernel_rfl) (by kernel_rfl)) ?_
  intro W base args ds gs before hval0 hW hcnd _
  have hval : ∀ (j : Nat) t v, Try.f12.params[j]? = some t → args[j]? = some v → Value.okWide Try.prog W .any base t v := hval0
  have hW' := hW
  obtain ⟨p, q, hA0, hV, rfl, hfz, hnd⟩ := hW
  have hA : DataW.TrodAll enc Try.prog W 0 (fun _ => true) true Try.f12.params.toList args.toList ds p := hA0
  rw [Try.params12] at hA hval
  obtain ⟨v0, d0, rfl, rfl, h0⟩ := trodAll_one hA
  obtain ⟨rfl, rfl⟩ := trodVars_none hV
  have hv0 := hval 0 _ _ rfl rfl
  obtain ⟨S, rfl⟩ := okWide_string Try.underlying9 hv0
  have hl : S.size ≤ 9223372036854775807 := by
    have hv1 : Value.okWide Try.prog W .any base 9 (.string S) := hv0
    simp only [Value.okWide, Cell.okWide, Cell.ok, Try.underlying9] at hv1
    have hm : IntKind.i64.max = 9223372036854775807 := by decide
    omega
  have hS : S = bstr S.data.toList := rfl
  rw [hS]
  refine (htexts_any S.data.toList W (show S.data.toList.length ≤ _ by rw [Array.length_toList]; exact hl)).mono fun e W' ⟨he, hb⟩ => ?_
  rw [← hS]
  exact ⟨_, he, post_of_law (bt := 4) Try.laidOut rfl (by kernel_rfl) (by kernel_rfl) (by kernel_rfl) hW' rfl hb⟩

theorem hashTexts_holds : Rows.HashTextsSaid :=
  OpenClaim.holds_of_wide 12 Try.f12 rfl rfl rfl rfl rfl rfl rfl ⟨rfl, rfl, rfl, rfl, rfl⟩ rfl rfl rfl rfl rfl (by kernel_rfl) Try.func12 (by kernel_rfl)
    (of_decide_eq_true (by kernel_rfl)) (by unfold Func.isWrapper; first | (rw [if_pos (by decide +kernel)]; kernel_rfl) | (rw [if_neg (by decide +kernel)]; exact ⟨rfl, rfl⟩))
    (fun os started H enc _ => hashTexts_lifted os started H enc)
end Go.Proofs.Ytdkgndjomkbbjaa
