/- Rows.InclBytesUptoSaid: any proof as bytes; any bytes as a proof of any numbers, or the refusal; all stays; what is told is new each time. -/
import Derived.Test.YtmglkblomklcbaaQc111
import Derived.Test.YtmglkblomklcbaaQc128
namespace Go.Proofs.Ytmglkblomklcbaa
open Go.RowKit Go.WideShapes Go.ChangeShapes Go.ChangeAt

set_option maxRecDepth 100000 in
theorem inclBytes_lifted (os : Os) (started : os.Started) (H : Type) (enc : TypeId × Value → H) (F : Stop.Interp) :
    ReturnsInHanded {} Try.checked os 8 .any ((Rows.OpenSpec.upto Rows.inclBytesSpec).pre6 enc Try.prog Try.f8 Rows.inclBytesUptoRow.domain false) (((Rows.OpenSpec.upto Rows.inclBytesSpec).at F).post enc Try.prog Try.f8 false true false false) := by
  refine returnsInHanded_of_cond (C := Try.checked) (s := Rows.OpenSpec.upto Rows.inclBytesSpec) (k := Rows.uptoSmall) rfl Try.own started (by kernel_rfl) Try.func8
    (OpenSpec.witness (enc := enc) (C := Try.checked) (s := Rows.OpenSpec.upto Rows.inclBytesSpec) (k := Rows.uptoSmall) rfl false ⟨#[], #[.slice none 0 0, .slice none 0 0, .agg (Array.replicate 32 (.int .u8 0) ++ #[.int .i64 0, .int .i64 0] ++ Array.replicate 32 (.int .u8 0))], []⟩ 8 (by kernel_rfl) (by kernel_rfl) (by kernel_rfl)
      (x := ([.nil, .nil, .agg [.agg (List.replicate 32 (.lit (.int .u8 0))), .lit (.int .i64 0), .agg [.lit (.int .i64 0), .agg (List.replicate 32 (.lit (.int .u8 0)))]]], [], [])) (by kernel_rfl) rfl (by kernel_rfl)) ?_
  intro W base args ds gs before hval0 hW _ hk _
  have hW' := hW
  obtain ⟨p, q, hA0, hV, rfl, hfz, hnd⟩ := hW
  have hA : DataW.TrodAll enc Try.prog W 0 (fun _ => true) true Try.f8.params.toList args.toList ds p := hA0
  have hval : ∀ (j : Nat) t v, Try.f8.params[j]? = some t → args[j]? = some v → Value.okWide Try.prog W .any base t v := hval0
  rw [Try.params8] at hA hval
  obtain ⟨v0, v1, v2, d0, d1, d2, p0, p1, p2, rfl, rfl, rfl, h0, h1, h2⟩ := trodAll_three hA
  obtain ⟨rfl, rfl⟩ := trodVars_none hV
  obtain ⟨A0, n0, c0, rfl⟩ := okWide_slice Try.underlying22 (hval 0 _ _ rfl rfl)
  obtain ⟨f0, h0⟩ := h0
  obtain ⟨A0, n0, c0, l0, hcs, hS0, hb0⟩ := open_hashes Try.underlying22 Try.underlying45 Try.underlying5 (by kernel_rfl) (by kernel_rfl) h0
  cases hcs
  obtain ⟨A1, n1, c1, rfl⟩ := okWide_slice Try.underlying71 (hval 1 _ _ rfl rfl)
  obtain ⟨f1, h1⟩ := h1
  obtain ⟨A1, n1, c1, l1, hcs, hS1, hb1⟩ := open_u8s Try.underlying71 Try.underlying5 (by kernel_rfl) h1
  cases hcs
  obtain ⟨x2, i2, n2, y2, rfl, wi2, wn2, hx2, hy2⟩ := open_asked Try.underlying49 rfl rfl rfl Try.underlying45 Try.underlying2 Try.underlying47 Try.underlying5 rfl rfl Try.underlying2 Try.underlying45 (by kernel_rfl) (by kernel_rfl) (by kernel_rfl) (by kernel_rfl) (by kernel_rfl) (by kernel_rfl) (by kernel_rfl) (hval 2 _ _ rfl rfl) h2
  have hk' := of_decide_eq_true hk
  simp only [Rows.uptoBulkAll, List.append_nil] at hk' hb0 hb1
  refine (inclbytes_any l0 A0 n0 c0 l1 A1 n1 c1 x2 i2 n2 y2 W hS0 hS1 hx2 (bounds_i64 wn2).2 (by omega) (by omega)).mono fun e W' ⟨he, hb⟩ => ?_
  exact ⟨_, he, post_of_law (bt := 4) Try.laidOut rfl (by kernel_rfl) (by kernel_rfl) (by kernel_rfl) hW' rfl hb⟩

theorem inclBytes_holds : Rows.InclBytesUptoSaid :=
  OpenClaim.holds_of_cond 8 Try.f8 rfl rfl rfl rfl rfl rfl rfl ⟨rfl, rfl, rfl, rfl, rfl⟩ rfl rfl rfl rfl rfl (by kernel_rfl) Try.func8 (by kernel_rfl)
    (of_decide_eq_true (by kernel_rfl)) (by unfold Func.isWrapper; first | (rw [if_pos (by decide +kernel)]; kernel_rfl) | (rw [if_neg (by decide +kernel)]; exact ⟨rfl, rfl⟩))
    (fun os started H enc _ F => inclBytes_lifted os started H enc F)
end Go.Proofs.Ytmglkblomklcbaa
