import Derived.Test.YtdjhoankkddomaaGreatQg249
import Derived.Test.YtdjhoankkddomaaGreatQg250
import Derived.Test.YtdjhoankkddomaaGreatQg201
namespace Go.Proofs.YtdjhoankkddomaaGreat
open Go.RowKit Go.WideShapes Go.ChangeShapes Go.ChangeAt
set_option maxRecDepth 100000 in
theorem modelPlays_lifted (os:Os) (started:os.Started) (H:Type) (enc:TypeId × Value→H) (F:Stop.Interp) :
  ReturnsInHanded {} Tryz.checked os 3 .any ((Rows.OpenSpec.upto Rows.modelPlaysSpec).pre6 enc Tryz.prog Tryz.f3 Rows.modelPlaysUptoRow.domain false) (((Rows.OpenSpec.upto Rows.modelPlaysSpec).at F).post enc Tryz.prog Tryz.f3 false true false false):=by
 refine returnsInHanded_of_cond (C:=Tryz.checked) (s:=Rows.OpenSpec.upto Rows.modelPlaysSpec) (k:=Rows.uptoSmall) rfl Tryz.own started (by kernel_rfl) Tryz.func3
  (OpenSpec.witness (enc:=enc) (C:=Tryz.checked) (s:=Rows.OpenSpec.upto Rows.modelPlaysSpec) (k:=Rows.uptoSmall) rfl false ⟨#[],#[.agg #[.int .i64 0,.int .i64 0],.slice none 0 0],[]⟩ 8 (by kernel_rfl) (by kernel_rfl) (by kernel_rfl)
   (x:=([.agg [.lit (.int .i64 0),.lit (.int .i64 0)],.nil],[],[])) (by kernel_rfl) rfl (by kernel_rfl)) ?_
 intro W base args ds gs before hval0 hW _ hk _
 have hW':=hW
 obtain ⟨p,q,hA0,hV,rfl,hfz,hnd⟩:=hW
 have hA:DataW.TrodAll enc Tryz.prog W 0 (fun _=>true) true Tryz.f3.params.toList args.toList ds p:=hA0
 have hval:∀ (j:Nat) t v,Tryz.f3.params[j]?=some t→args[j]?=some v→Value.okWide Tryz.prog W .any base t v:=hval0
 rw [Tryz.params3] at hA hval
 obtain ⟨v0,v1,d0,d1,p0,p1,rfl,rfl,rfl,h0,h1⟩:=trodAll_two hA
 obtain ⟨rfl,rfl⟩:=trodVars_none hV
 obtain ⟨a0,b0,rfl,wa0,wb0⟩:=open_pair Tryz.underlying23 rfl rfl Tryz.underlying3 Tryz.underlying3 (by kernel_rfl) (by kernel_rfl) (by kernel_rfl) (hval 0 _ _ rfl rfl) h0
 obtain ⟨A1,n1,c1,rfl⟩:=okWide_slice Tryz.underlying24 (hval 1 _ _ rfl rfl)
 obtain ⟨f1,h1⟩:=h1
 have hkz:=of_decide_eq_true hk
 simp only [Rows.uptoBulkAll,List.append_nil] at hkz
 obtain ⟨A1,n1,c1,ss1,hcs,hS1⟩:=open_psteps Tryz.underlying24 Tryz.underlying43 rfl rfl rfl rfl rfl Tryz.underlying3 Tryz.underlying3 Tryz.underlying2 Tryz.underlying2 Tryz.underlying41 Tryz.underlying5 (by kernel_rfl) (by kernel_rfl) (by kernel_rfl) (by kernel_rfl) (by kernel_rfl) (by kernel_rfl) (by kernel_rfl) h1 (show Rows.uptoBulk d1≤2097152 by omega)
 cases hcs
 refine (modelPlays_any W a0 b0 A1 n1 c1 ss1 hS1).mono fun e W' ⟨he,hb⟩=>?_
 exact ⟨_,he,post_of_law (bt:=4) Tryz.laidOut rfl (by kernel_rfl) (by kernel_rfl) (by kernel_rfl) hW' rfl hb⟩
theorem modelPlays_holds:Rows.ModelPlaysUptoSaid :=
 OpenClaim.holds_of_cond 3 Tryz.f3 rfl rfl rfl rfl rfl rfl rfl ⟨rfl,rfl,rfl,rfl,rfl⟩ rfl rfl rfl rfl rfl (by kernel_rfl) Tryz.func3 (by kernel_rfl)
  (of_decide_eq_true (by kernel_rfl)) (by unfold Func.isWrapper;first|(rw [if_pos (by decide +kernel)];kernel_rfl)|(rw [if_neg (by decide +kernel)];exact ⟨rfl,rfl⟩))
  (fun os started H enc _ F=>modelPlays_lifted os started H enc F)
end Go.Proofs.YtdjhoankkddomaaGreat
