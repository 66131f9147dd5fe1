/- Rows.ConsCheckSaid: ConsCheck: the whole law. -/
import Derived.Test.YtgcbdnoniikboaaQCC11
import Derived.Test.YtgcbdnoniikboaaQCC30
namespace Go.Proofs.Ytgcbdnoniikboaa
open Go.RowKit Go.WideShapes Go.ChangeShapes Go.ChangeAt

set_option maxRecDepth 100000 in
theorem consCheck_lifted (os : Os) (started : os.Started) (H : Type) (enc : TypeId × Value → H) :
    ReturnsInHanded {} Try.checked os 10 .any (Rows.consCheckSpec.pre6 enc Try.prog Try.f10 Rows.consCheckRow.domain false) (Rows.consCheckSpec.post enc Try.prog Try.f10 false true false false) := by
  refine returnsInHanded_of_change (C := Try.checked) Try.own started (by kernel_rfl) Try.func10
    (ChangeSpec.witness6 (enc := enc) (C := Try.checked) false ⟨#[], #[.agg (#[.int .i64 0, .int .i64 0] ++ Array.replicate 64 (.int .u8 0)), .slice none 0 0], []⟩ 8 (by kernel_rfl) (by kernel_rfl) (by kernel_rfl) (by kernel_rfl)) ?_
  intro W base args ds gs before hval0 hW _ _
  have hW' := hW
  obtain ⟨p, q, hA0, hV, rfl, hfz, hnd⟩ := hW
  have hA : DataW.TrodAll enc Try.prog W 0 (fun _ => true) true Try.f10.params.toList args.toList ds p := hA0
  have hval : ∀ (j : Nat) t v, Try.f10.params[j]? = some t → args[j]? = some v → Value.okWide Try.prog W .any base t v := hval0
  rw [Try.params10] at hA hval
  obtain ⟨v0, v1, d0, d1, p0, p1, rfl, rfl, rfl, h0, h1⟩ := trodAll_two hA
  obtain ⟨rfl, rfl⟩ := trodVars_none hV
  obtain ⟨m0, n0, x0, y0, rfl, wm0, wn0, hx0, hy0⟩ := open_ask Try.underlying71 rfl rfl rfl rfl Try.underlying2 Try.underlying2 Try.underlying34 Try.underlying34 Try.underlying5 (by kernel_rfl) (by kernel_rfl) (by kernel_rfl) (by kernel_rfl) (by kernel_rfl) (by kernel_rfl) (hval 0 _ _ rfl rfl) h0
  obtain ⟨A1, n1, c1, rfl⟩ := okWide_slice Try.underlying37 (hval 1 _ _ rfl rfl)
  obtain ⟨f1, h1⟩ := h1
  obtain ⟨A1, n1, c1, l1, hcs, hS1, -⟩ := open_hashes Try.underlying37 Try.underlying34 Try.underlying5 (by kernel_rfl) (by kernel_rfl) h1
  cases hcs
  refine (conscheck_any m0 n0 x0 y0 l1 A1 n1 c1 W (bounds_i64 wn0).2 hx0 hy0 hS1).mono fun e W' ⟨he, hb⟩ => ?_
  exact ⟨_, he, post_of_law (bt := 4) Try.laidOut rfl (by kernel_rfl) (by kernel_rfl) (by kernel_rfl) hW' rfl hb⟩

theorem consCheck_holds : Rows.ConsCheckSaid :=
  OpenClaim.holds_of_wide 10 Try.f10 rfl rfl rfl rfl rfl rfl rfl ⟨rfl, rfl, rfl, rfl, rfl⟩ rfl rfl rfl rfl rfl (by kernel_rfl) Try.func10 (by kernel_rfl)
    (of_decide_eq_true (by kernel_rfl)) (by unfold Func.isWrapper; first | (rw [if_pos (by decide +kernel)]; kernel_rfl) | (rw [if_neg (by decide +kernel)]; exact ⟨rfl, rfl⟩))
    (fun os started H enc _ => consCheck_lifted os started H enc)
end Go.Proofs.Ytgcbdnoniikboaa
