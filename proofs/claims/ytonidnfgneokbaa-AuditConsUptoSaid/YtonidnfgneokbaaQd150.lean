/- Rows.AuditConsUptoSaid: of any list, number, root and proof, by any of five hashes, audit.Cons answers as the definition (what it reads is of bulk at most 1048576): the clash, which is one, or the refusal; what is handed in stays, and two answers are the caller's. -/
import Derived.Test.YtonidnfgneokbaaQd110
import Derived.Test.YtonidnfgneokbaaQd149
namespace Go.Proofs.Ytonidnfgneokbaa
open Go.RowKit Go.WideShapes Go.ChangeShapes Go.ChangeAt

set_option maxRecDepth 100000 in
theorem auditCons_lifted (os : Os) (started : os.Started) (H : Type) (enc : TypeId × Value → H) (F : Stop.Interp) :
    ReturnsInHanded {} Try.checked os 5 .any ((Rows.OpenSpec.upto Rows.auditConsSpec).pre6 enc Try.prog Try.f5 Rows.auditConsUptoRow.domain false) (((Rows.OpenSpec.upto Rows.auditConsSpec).at F).post enc Try.prog Try.f5 false true false false) := by
  refine returnsInHanded_of_cond (C := Try.checked) (s := Rows.OpenSpec.upto Rows.auditConsSpec) (k := Rows.uptoSmall) rfl Try.own started (by kernel_rfl) Try.func5
    (OpenSpec.witness (enc := enc) (C := Try.checked) (s := Rows.OpenSpec.upto Rows.auditConsSpec) (k := Rows.uptoSmall) rfl false ⟨#[], #[.int .i64 0, .agg (#[.slice none 0 0, .int .i64 0, .slice none 0 0] ++ Array.replicate 32 (.int .u8 0) ++ #[.slice none 0 0])], []⟩ 8 (by kernel_rfl) (by kernel_rfl) (by kernel_rfl)
      (x := ([.lit (.int .i64 0), .agg [.nil, .lit (.int .i64 0), .nil, .agg (List.replicate 32 (.lit (.int .u8 0))), .nil]], [], [])) (by kernel_rfl) rfl (by kernel_rfl)) ?_
  intro W base args ds gs before hval0 hW _ hk _
  have hW' := hW
  obtain ⟨p, q, hA0, hV, rfl, hfz, hnd⟩ := hW
  have hA : DataW.TrodAll enc Try.prog W 0 (fun _ => true) true Try.f5.params.toList args.toList ds p := hA0
  have hval : ∀ (j : Nat) t v, Try.f5.params[j]? = some t → args[j]? = some v → Value.okWide Try.prog W .any base t v := hval0
  rw [Try.params5] at hA hval
  obtain ⟨v0, v1, d0, d1, p0, p1, rfl, rfl, rfl, h0, h1⟩ := trodAll_two hA
  obtain ⟨rfl, rfl⟩ := trodVars_none hV
  obtain ⟨z0, rfl, -, -, hz0⟩ := open_int Try.underlying3 (hval 0 _ _ rfl rfl) h0
  obtain ⟨Ad1, nd1, cd1, vs1, ls1, i1, Ae1, ne1, ce1, en1, fi1, Ap1, np1, cp1, pf1, rfl, hS1, he1, hp1, hf1, wi1, hb1⟩ := open_ask13 Try.underlying28 rfl rfl rfl rfl rfl Try.underlying22 Try.underlying23 Try.underlying2 Try.underlying23 Try.underlying25 Try.underlying26 Try.underlying25 Try.underlying5 (by kernel_rfl) (by kernel_rfl) (by kernel_rfl) (by kernel_rfl) (by kernel_rfl) (by kernel_rfl) (by kernel_rfl) (by kernel_rfl) (by kernel_rfl) (hval 1 _ _ rfl rfl) h1
  have hk' := of_decide_eq_true hk
  simp only [Rows.uptoBulkAll, List.append_nil] at hk' hb1
  refine (auditcons_any z0 ls1 Ad1 nd1 cd1 i1 Ae1 ne1 ce1 fi1 pf1 Ap1 np1 cp1 W hS1.es hp1 hf1 (by omega) (by omega)).mono fun e W' ⟨he, hb⟩ => ?_
  exact ⟨_, he, post_of_law (bt := 4) Try.laidOut rfl (by kernel_rfl) (by kernel_rfl) (by kernel_rfl) hW' rfl hb⟩

theorem auditCons_holds : Rows.AuditConsUptoSaid :=
  OpenClaim.holds_of_cond 5 Try.f5 rfl rfl rfl rfl rfl rfl rfl ⟨rfl, rfl, rfl, rfl, rfl⟩ rfl rfl rfl rfl rfl (by kernel_rfl) Try.func5 (by kernel_rfl)
    (of_decide_eq_true (by kernel_rfl)) (by unfold Func.isWrapper; first | (rw [if_pos (by decide +kernel)]; kernel_rfl) | (rw [if_neg (by decide +kernel)]; exact ⟨rfl, rfl⟩))
    (fun os started H enc _ F => auditCons_lifted os started H enc F)
end Go.Proofs.Ytonidnfgneokbaa
