/- Rows.InclHoldsUptoSaid: a proof holds, and nothing else does. -/
import Derived.Test.YtmglkblomklcbaaQc111
import Derived.Test.YtmglkblomklcbaaQc132
namespace Go.Proofs.Ytmglkblomklcbaa
open Go.RowKit Go.WideShapes Go.ChangeShapes Go.ChangeAt

set_option maxRecDepth 100000 in
theorem inclHolds_lifted (os : Os) (started : os.Started) (H : Type) (enc : TypeId × Value → H) (F : Stop.Interp) :
    ReturnsInHanded {} Try.checked os 7 .any ((Rows.OpenSpec.upto Rows.inclHoldsSpec).pre6 enc Try.prog Try.f7 Rows.inclHoldsUptoRow.domain false) (((Rows.OpenSpec.upto Rows.inclHoldsSpec).at F).post enc Try.prog Try.f7 false true false false) := by
  refine returnsInHanded_of_cond (C := Try.checked) (s := Rows.OpenSpec.upto Rows.inclHoldsSpec) (k := Rows.uptoSmall) rfl Try.own started (by kernel_rfl) Try.func7
    (OpenSpec.witness (enc := enc) (C := Try.checked) (s := Rows.OpenSpec.upto Rows.inclHoldsSpec) (k := Rows.uptoSmall) rfl false ⟨#[], #[.slice none 0 0, .int .i64 0, .agg (Array.replicate 32 (.int .u8 0))], []⟩ 8 (by kernel_rfl) (by kernel_rfl) (by kernel_rfl)
      (x := ([.nil, .lit (.int .i64 0), .agg (List.replicate 32 (.lit (.int .u8 0)))], [], [])) (by kernel_rfl) rfl (by kernel_rfl)) ?_
  intro W base args ds gs before hval0 hW _ hk _
  have hW' := hW
  obtain ⟨p, q, hA0, hV, rfl, hfz, hnd⟩ := hW
  have hA : DataW.TrodAll enc Try.prog W 0 (fun _ => true) true Try.f7.params.toList args.toList ds p := hA0
  have hval : ∀ (j : Nat) t v, Try.f7.params[j]? = some t → args[j]? = some v → Value.okWide Try.prog W .any base t v := hval0
  rw [Try.params7] at hA hval
  obtain ⟨v0, v1, v2, d0, d1, d2, p0, p1, p2, rfl, rfl, rfl, h0, h1, h2⟩ := trodAll_three hA
  obtain ⟨rfl, rfl⟩ := trodVars_none hV
  obtain ⟨A0, n0, c0, rfl⟩ := okWide_slice Try.underlying64 (hval 0 _ _ rfl rfl)
  obtain ⟨f0, h0⟩ := h0
  obtain ⟨A0, n0, c0, vs0, l0, hcs, hS0, hb0⟩ := open_u8ss Try.underlying64 Try.underlying71 Try.underlying5 (by kernel_rfl) (by kernel_rfl) h0
  cases hcs
  obtain ⟨z1, rfl, -, -, hz1⟩ := open_int Try.underlying2 (hval 1 _ _ rfl rfl) h1
  obtain ⟨x2, rfl, hx2⟩ := open_hash Try.underlying45 Try.underlying5 (by kernel_rfl) (by kernel_rfl) (hval 2 _ _ rfl rfl) h2
  have hk' := of_decide_eq_true hk
  simp only [Rows.uptoBulkAll, List.append_nil] at hk' hb0
  refine (inclholds_any l0 A0 n0 c0 vs0 z1 x2 W hS0 hx2 (by omega)).mono fun e W' ⟨he, hb⟩ => ?_
  exact ⟨_, he, post_of_law (bt := 4) Try.laidOut rfl (by kernel_rfl) (by kernel_rfl) (by kernel_rfl) hW' rfl hb⟩

theorem inclHolds_holds : Rows.InclHoldsUptoSaid :=
  OpenClaim.holds_of_cond 7 Try.f7 rfl rfl rfl rfl rfl rfl rfl ⟨rfl, rfl, rfl, rfl, rfl⟩ rfl rfl rfl rfl rfl (by kernel_rfl) Try.func7 (by kernel_rfl)
    (of_decide_eq_true (by kernel_rfl)) (by unfold Func.isWrapper; first | (rw [if_pos (by decide +kernel)]; kernel_rfl) | (rw [if_neg (by decide +kernel)]; exact ⟨rfl, rfl⟩))
    (fun os started H enc _ F => inclHolds_lifted os started H enc F)
end Go.Proofs.Ytmglkblomklcbaa
