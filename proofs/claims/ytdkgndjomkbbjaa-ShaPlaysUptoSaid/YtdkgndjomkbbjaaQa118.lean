/- Rows.ShaPlaysUptoSaid: two sums under way, call by call, with copies and sums put aside (bulk at most 1048576). -/
import Derived.Test.YtdkgndjomkbbjaaQa107
import Derived.Test.YtdkgndjomkbbjaaQa117
import Derived.Test.YtdkgndjomkbbjaaQa101
namespace Go.Proofs.Ytdkgndjomkbbjaa
open Go.RowKit Go.WideShapes Go.ChangeShapes Go.ChangeAt

set_option maxRecDepth 100000 in
theorem shaPlays_lifted (os : Os) (started : os.Started) (H : Type) (enc : TypeId × Value → H) (F : Stop.Interp) :
    ReturnsInHanded {} Try.checked os 10 .any ((Rows.OpenSpec.upto Rows.shaPlaysSpec).pre6 enc Try.prog Try.f10 Rows.shaPlaysUptoRow.domain false) (((Rows.OpenSpec.upto Rows.shaPlaysSpec).at F).post enc Try.prog Try.f10 false true false false) := by
  refine returnsInHanded_of_cond (C := Try.checked) (s := Rows.OpenSpec.upto Rows.shaPlaysSpec) (k := Rows.uptoSmall) rfl Try.own started (by kernel_rfl) Try.func10
    (OpenSpec.witness (enc := enc) (C := Try.checked) (s := Rows.OpenSpec.upto Rows.shaPlaysSpec) (k := Rows.uptoSmall) rfl false ⟨#[], #[.slice none 0 0, .slice none 0 0], []⟩ 8 (by kernel_rfl) (by kernel_rfl) (by kernel_rfl)
      (x := ([.nil, .nil], [], [])) (by kernel_rfl) rfl (by kernel_rfl)) ?_
  intro W base args ds gs before hval0 hW _ hk _
  have hW' := hW
  obtain ⟨p, q, hA0, hV, rfl, hfz, hnd⟩ := hW
  have hA : DataW.TrodAll enc Try.prog W 0 (fun _ => true) true Try.f10.params.toList args.toList ds p := hA0
  have hval : ∀ (j : Nat) t v, Try.f10.params[j]? = some t → args[j]? = some v → Value.okWide Try.prog W .any base t v := hval0
  rw [Try.params10] at hA hval
  obtain ⟨v0, v1, d0, d1, p0, p1, rfl, rfl, rfl, h0, h1⟩ := trodAll_two hA
  obtain ⟨rfl, rfl⟩ := trodVars_none hV
  obtain ⟨A0, n0, c0, rfl⟩ := okWide_slice Try.underlying23 (hval 0 _ _ rfl rfl)
  obtain ⟨A1, n1, c1, rfl⟩ := okWide_slice Try.underlying73 (hval 1 _ _ rfl rfl)
  obtain ⟨f0, h0⟩ := h0
  obtain ⟨f1, h1⟩ := h1
  have hkz := of_decide_eq_true hk
  simp only [Rows.uptoBulkAll, List.append_nil] at hkz
  obtain ⟨A0, n0, c0, l, hcs, hS0, hb0⟩ := open_u8s Try.underlying23 Try.underlying5 (by kernel_rfl) h0
  cases hcs
  obtain ⟨A1, n1, c1, ss1, hcs, hS1⟩ := open_psteps Try.underlying73 Try.underlying88 rfl rfl rfl Try.underlying3 Try.underlying3 Try.underlying23 Try.underlying5 (by kernel_rfl) (by kernel_rfl) (by kernel_rfl) (by kernel_rfl) (by kernel_rfl) h1 (show Rows.uptoBulk d1 ≤ 2097152 by omega)
  cases hcs
  have hn0 : n0 ≤ 1000000000 := by
    have : n0 + 1 ≤ Rows.uptoBulk d0 := hb0
    omega
  refine (shaPlays_any l A0 n0 c0 ss1 A1 n1 c1 W hS0 hn0 hS1).mono fun e W' ⟨he, hb⟩ => ?_
  exact ⟨_, he, post_of_law (bt := 4) Try.laidOut rfl (by kernel_rfl) (by kernel_rfl) (by kernel_rfl) hW' rfl hb⟩

theorem shaPlays_holds : Rows.ShaPlaysUptoSaid :=
  OpenClaim.holds_of_cond 10 Try.f10 rfl rfl rfl rfl rfl rfl rfl ⟨rfl, rfl, rfl, rfl, rfl⟩ rfl rfl rfl rfl rfl (by kernel_rfl) Try.func10 (by kernel_rfl)
    (of_decide_eq_true (by kernel_rfl)) (by unfold Func.isWrapper; first | (rw [if_pos (by decide +kernel)]; kernel_rfl) | (rw [if_neg (by decide +kernel)]; exact ⟨rfl, rfl⟩))
    (fun os started H enc _ F => shaPlays_lifted os started H enc F)
end Go.Proofs.Ytdkgndjomkbbjaa
