/- The functions that hash, handed in; notaryref13.Root. -/
import Derived.Test.YtonidnfgneokbaaQd120
namespace Go.Proofs.Ytonidnfgneokbaa
open Go Go.RowKit Go.Shelf
attribute [local go_sem] Oper.semAt_some
theorem enter_fn {P : Program} {f : FuncId} {fn : Func} (hf : P.funcs[f]? = some fn) (hname : (fn.name == "runtime.NumGoroutine") = false) (hb : fn.body.isSome = true) (args : Array Value) (w : World) : (callFunc f args).run P w = .ok (.enter f args) w := by
  have h1 : fn.name ≠ "runtime.NumGoroutine" := by simpa using hname
  obtain ⟨c, hc⟩ := Option.isSome_iff_exists.1 hb
  simp [callFunc, hf, h1, hc]

set_option maxHeartbeats 1000000 in
set_option maxRecDepth 100000 in
theorem strong13_fn : HFn 69 (hashK 0) := by
  refine ⟨fun args w => ?_, length_hashK 0, fun l A n c w h hn => ?_⟩
  · exact enter_fn Try.func69 (by kernel_rfl) (by kernel_rfl) args w
  · have hh := fun W (h : Sl W (fun _ => True) A n c l) => rhash13_any 0 l A n c W h hn
    have hrl := length_hashK 0 l
    obtain ⟨r, hr⟩ : ∃ r, hashK 0 l = r := ⟨_, rfl⟩
    rw [hr] at hh hrl ⊢
    have Hh := Lib.hid hh
    have Hrl := Lib.hid hrl
    clear hh hrl hr
    go_enter Try.func69, Try.ntmps69
    go_wp2_with (first
      | ((with_reducible show wpList _ _ _ (⟨some 2, .alloc _, _, _, _, _⟩ :: _) _ _); refine wpList_hnew rfl rfl ?_; intro w1 k2 hb1; simp only [Act.put])
      | (go_at_call 80; refine (Hh.out _ (h.step hb1)).mono ?_; rintro e w2 ⟨rfl, hb2⟩; replace k2 := k2.step hb2; have hb3 := hb1.trans (hb2.mono hb1.size))
      | ((with_reducible show wpList _ _ _ [⟨none, .store _ _ _, _, _, _, _⟩] _ _); refine wpList_hset2 (.tmp 2) (.tmp 4) rfl rfl k2 rfl rfl Hrl.out ?_; intro w3 k2s hb4 _; simp only [Act.put]))
    exact bodyPost_ret (ret_hash rfl rfl k2s) rfl ⟨rfl, hb3.trans hb4⟩

set_option maxHeartbeats 1000000 in
set_option maxRecDepth 100000 in
theorem first13_fn : HFn 71 (hashK 1) := by
  refine ⟨fun args w => ?_, length_hashK 1, fun l A n c w h hn => ?_⟩
  · exact enter_fn Try.func71 (by kernel_rfl) (by kernel_rfl) args w
  · have hh := fun W (h : Sl W (fun _ => True) A n c l) => rhash13_any 1 l A n c W h hn
    have hrl := length_hashK 1 l
    obtain ⟨r, hr⟩ : ∃ r, hashK 1 l = r := ⟨_, rfl⟩
    rw [hr] at hh hrl ⊢
    have Hh := Lib.hid hh
    have Hrl := Lib.hid hrl
    clear hh hrl hr
    go_enter Try.func71, Try.ntmps71
    go_wp2_with (first
      | ((with_reducible show wpList _ _ _ (⟨some 2, .alloc _, _, _, _, _⟩ :: _) _ _); refine wpList_hnew rfl rfl ?_; intro w1 k2 hb1; simp only [Act.put])
      | (go_at_call 80; refine (Hh.out _ (h.step hb1)).mono ?_; rintro e w2 ⟨rfl, hb2⟩; replace k2 := k2.step hb2; have hb3 := hb1.trans (hb2.mono hb1.size))
      | ((with_reducible show wpList _ _ _ [⟨none, .store _ _ _, _, _, _, _⟩] _ _); refine wpList_hset2 (.tmp 2) (.tmp 4) rfl rfl k2 rfl rfl Hrl.out ?_; intro w3 k2s hb4 _; simp only [Act.put]))
    exact bodyPost_ret (ret_hash rfl rfl k2s) rfl ⟨rfl, hb3.trans hb4⟩

set_option maxHeartbeats 1000000 in
set_option maxRecDepth 100000 in
theorem bits13_fn : HFn 72 (hashK 2) := by
  refine ⟨fun args w => ?_, length_hashK 2, fun l A n c w h hn => ?_⟩
  · exact enter_fn Try.func72 (by kernel_rfl) (by kernel_rfl) args w
  · have hh := fun W (h : Sl W (fun _ => True) A n c l) => rhash13_any 2 l A n c W h hn
    have hrl := length_hashK 2 l
    obtain ⟨r, hr⟩ : ∃ r, hashK 2 l = r := ⟨_, rfl⟩
    rw [hr] at hh hrl ⊢
    have Hh := Lib.hid hh
    have Hrl := Lib.hid hrl
    clear hh hrl hr
    go_enter Try.func72, Try.ntmps72
    go_wp2_with (first
      | ((with_reducible show wpList _ _ _ (⟨some 2, .alloc _, _, _, _, _⟩ :: _) _ _); refine wpList_hnew rfl rfl ?_; intro w1 k2 hb1; simp only [Act.put])
      | (go_at_call 80; refine (Hh.out _ (h.step hb1)).mono ?_; rintro e w2 ⟨rfl, hb2⟩; replace k2 := k2.step hb2; have hb3 := hb1.trans (hb2.mono hb1.size))
      | ((with_reducible show wpList _ _ _ [⟨none, .store _ _ _, _, _, _, _⟩] _ _); refine wpList_hset2 (.tmp 2) (.tmp 4) rfl rfl k2 rfl rfl Hrl.out ?_; intro w3 k2s hb4 _; simp only [Act.put]))
    exact bodyPost_ret (ret_hash rfl rfl k2s) rfl ⟨rfl, hb3.trans hb4⟩

set_option maxHeartbeats 1000000 in
set_option maxRecDepth 100000 in
theorem none13_fn : HFn 34 (hashK 3) := by
  refine ⟨fun args w => ?_, length_hashK 3, fun l A n c w h hn => ?_⟩
  · exact enter_fn Try.func34 (by kernel_rfl) (by kernel_rfl) args w
  · have hh := fun W (h : Sl W (fun _ => True) A n c l) => rhash13_any 3 l A n c W h hn
    have hrl := length_hashK 3 l
    obtain ⟨r, hr⟩ : ∃ r, hashK 3 l = r := ⟨_, rfl⟩
    rw [hr] at hh hrl ⊢
    have Hh := Lib.hid hh
    have Hrl := Lib.hid hrl
    clear hh hrl hr
    go_enter Try.func34, Try.ntmps34
    go_wp2_with (first
      | ((with_reducible show wpList _ _ _ (⟨some 2, .alloc _, _, _, _, _⟩ :: _) _ _); refine wpList_hnew rfl rfl ?_; intro w1 k2 hb1; simp only [Act.put])
      | (go_at_call 80; refine (Hh.out _ (h.step hb1)).mono ?_; rintro e w2 ⟨rfl, hb2⟩; replace k2 := k2.step hb2; have hb3 := hb1.trans (hb2.mono hb1.size))
      | ((with_reducible show wpList _ _ _ [⟨none, .store _ _ _, _, _, _, _⟩] _ _); refine wpList_hset2 (.tmp 2) (.tmp 4) rfl rfl k2 rfl rfl Hrl.out ?_; intro w3 k2s hb4 _; simp only [Act.put]))
    exact bodyPost_ret (ret_hash rfl rfl k2s) rfl ⟨rfl, hb3.trans hb4⟩

set_option maxHeartbeats 1000000 in
set_option maxRecDepth 100000 in
theorem two13_fn : HFn 73 (hashK 4) := by
  refine ⟨fun args w => ?_, length_hashK 4, fun l A n c w h hn => ?_⟩
  · exact enter_fn Try.func73 (by kernel_rfl) (by kernel_rfl) args w
  · have hh := fun W (h : Sl W (fun _ => True) A n c l) => rhash13_any 4 l A n c W h hn
    have hrl := length_hashK 4 l
    obtain ⟨r, hr⟩ : ∃ r, hashK 4 l = r := ⟨_, rfl⟩
    rw [hr] at hh hrl ⊢
    have Hh := Lib.hid hh
    have Hrl := Lib.hid hrl
    clear hh hrl hr
    go_enter Try.func73, Try.ntmps73
    go_wp2_with (first
      | ((with_reducible show wpList _ _ _ (⟨some 2, .alloc _, _, _, _, _⟩ :: _) _ _); refine wpList_hnew rfl rfl ?_; intro w1 k2 hb1; simp only [Act.put])
      | (go_at_call 80; refine (Hh.out _ (h.step hb1)).mono ?_; rintro e w2 ⟨rfl, hb2⟩; replace k2 := k2.step hb2; have hb3 := hb1.trans (hb2.mono hb1.size))
      | ((with_reducible show wpList _ _ _ [⟨none, .store _ _ _, _, _, _, _⟩] _ _); refine wpList_hset2 (.tmp 2) (.tmp 4) rfl rfl k2 rfl rfl Hrl.out ?_; intro w3 k2s hb4 _; simp only [Act.put]))
    exact bodyPost_ret (ret_hash rfl rfl k2s) rfl ⟨rfl, hb3.trans hb4⟩
end Go.Proofs.Ytonidnfgneokbaa
