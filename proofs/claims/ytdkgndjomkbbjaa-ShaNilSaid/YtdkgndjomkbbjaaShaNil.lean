/- Rows.ShaNilSaid: a sum that is not there and a zero one answer as the document says, whatever the bytes. -/
import Derived.Test.YtdkgndjomkbbjaaRow
import Derived.Test.YtdkgndjomkbbjaaNil
namespace Go.Proofs.Ytdkgndjomkbbjaa
open Go.RowKit Go.WideShapes Go.ChangeShapes Go.ChangeAt

def zeroSha' : Array Value := ((List.replicate 8 0).map U ++ (List.replicate 64 0).map B ++ [Value.int .i64 0, Value.bool false] : List Value).toArray

set_option maxHeartbeats 400000 in
set_option maxRecDepth 100000 in
theorem shanil_any (x : Value) (w : World) :
    Calls Try.prog 5 #[x] w fun e w' => e = .returned (.bool true) ∧ Below w.heap.size w w' := by
  obtain ⟨zs, hzs⟩ : ∃ zs, zeroSha' = zs := ⟨_, rfl⟩
  have hz73 : zs[73]? = some (.bool false) := by rw [← hzs]; rfl
  have Hzs := Lib.hid hzs
  clear hzs
  go_enter Try.func5, Try.ntmps5
  go_wp2_with (first
    | (go_at_call_of 21 (Value.pointer none); refine (nothing_nil (.inl rfl) (fun g hg => by cases hg)).mono ?_; rintro e w1 ⟨rfl, hb1⟩)
    | ((with_reducible show wpList _ _ _ (⟨some 8, .build _ _, _, _, _, _⟩ :: _) _ _); refine wpList_runG (by kernel_rfl) (.agg zs) w1 (by rw [← Hzs.out]; kernel_rfl) ?_; simp only [Act.put])
    | ((with_reducible show wpList _ _ _ (⟨some 9, .box _ _, _, _, _, _⟩ :: _) _ _); refine wpList_runG (by kernel_rfl) (.pointer (some ⟨w1.heap.size, 0, none⟩)) (w1.alloc (.cells zs 41)) (by rfl) ?_; refine wpList_world (fun W => Blk W w1.heap.size 41 zs ∧ Below w.heap.size w W) ⟨Blk.new _ _ _, hb1.alloc hb1.size _⟩ ?_; rintro w2 ⟨z2, hb2⟩; have l2 := z2.lt; simp only [Act.put])
    | (go_at_call_of 21 (Value.pointer (some ⟨w1.heap.size, 0, none⟩)); refine (nothing_nil (.inr ⟨w1.heap.size, rfl, by rw [z2.cell]; exact hz73⟩) (fun g hg => by cases hg; exact l2)).mono ?_; rintro e w3 ⟨rfl, hb3⟩)
    | (go_at_call 18; refine (known_any _).mono ?_; rintro e w4 ⟨rfl, hb4⟩))
  go_ret
  have h3 := hb2.trans (hb3.mono hb2.size)
  exact ⟨rfl, h3.trans (hb4.mono h3.size)⟩

set_option maxRecDepth 100000 in
theorem shaNil_lifted (os : Os) (started : os.Started) (H : Type) (enc : TypeId × Value → H) :
    ReturnsInHanded {} Try.checked os 5 .any (Rows.shaNilSpec.pre6 enc Try.prog Try.f5 Rows.shaNilRow.domain false) (Rows.shaNilSpec.post enc Try.prog Try.f5 false true false false) := by
  refine returnsInHanded_of_change (C := Try.checked) Try.own started (by kernel_rfl) Try.func5
    (ChangeSpec.witness6 (enc := enc) (C := Try.checked) false ⟨#[], #[.slice none 0 0], []⟩ 8 (by kernel_rfl) (by kernel_rfl) (by kernel_rfl) (by kernel_rfl)) ?_
  intro W base args ds gs before hval0 hW hcnd _
  have hW' := hW
  obtain ⟨p, q, hA0, hV, rfl, hfz, hnd⟩ := hW
  have hA : DataW.TrodAll enc Try.prog W 0 (fun _ => true) true Try.f5.params.toList args.toList ds p := hA0
  rw [Try.params5] at hA
  obtain ⟨v0, d0, rfl, rfl, h0⟩ := trodAll_one hA
  obtain ⟨rfl, rfl⟩ := trodVars_none hV
  refine (shanil_any v0 W).mono fun e W' ⟨he, hb⟩ => ?_
  exact ⟨_, he, post_of_law (bt := 4) Try.laidOut rfl (by kernel_rfl) (by kernel_rfl) (by kernel_rfl) hW' rfl hb⟩

theorem shaNil_holds : Rows.ShaNilSaid :=
  OpenClaim.holds_of_wide 5 Try.f5 rfl rfl rfl rfl rfl rfl rfl ⟨rfl, rfl, rfl, rfl, rfl⟩ rfl rfl rfl rfl rfl (by kernel_rfl) Try.func5 (by kernel_rfl)
    (of_decide_eq_true (by kernel_rfl)) (by unfold Func.isWrapper; first | (rw [if_pos (by decide +kernel)]; kernel_rfl) | (rw [if_neg (by decide +kernel)]; exact ⟨rfl, rfl⟩))
    (fun os started H enc _ => shaNil_lifted os started H enc)
end Go.Proofs.Ytdkgndjomkbbjaa
