/- A model in memory. -/
import Derived.Test.YtobcfgbkhgkelaaQe213
import Derived.Test.YtobcfgbkhgkelaaQe216
import Derived.Test.YtobcfgbkhgkelaaQe211
import Derived.Test.YtobcfgbkhgkelaaQe215
import Derived.Lib.LazyBuf
namespace Go.Proofs.Ytobcfgbkhgkelaa
open Go Go.RowKit

/-- the values that name its rows -/
structure MdR where
  e : Value
  h : Value
  r : Value
  q : Value
  b : Value
def mcell (R : MdR) (m : MoV) (i : Nat) : Value :=
  if i = 0 then R.e else if i = 1 then R.h else if i = 2 then R.r else if i = 3 then .int .i64 m.seg else if i = 4 then .int .i64 m.cap else if i = 5 then R.q else if i = 6 then .int .i64 m.lastS
  else if i < 39 then B (m.lastR.getD (i - 7) 0) else if i = 39 then .bool m.has else if i = 40 then R.b else if i = 41 then .int .i64 m.ptS else if i < 74 then B (m.ptR.getD (i - 42) 0)
  else if i = 74 then .bool m.pointing else if i = 75 then .bool m.only else .bool true
def mdArr (R : MdR) (m : MoV) : Array Value := ((List.range 77).map (mcell R m)).toArray
theorem md_size (R : MdR) (m : MoV) : (mdArr R m).size = 77 := by simp [mdArr]
theorem md_at (R : MdR) (m : MoV) (i : Nat) (h : i < 77) : (mdArr R m)[i]? = some (mcell R m i) := by simp [mdArr, h]
theorem md_ext {R : MdR} {m : MoV} {cs : Array Value} (hs : cs.size = 77) (h : ∀ i, i < 77 → cs[i]? = some (mcell R m i)) : cs = mdArr R m := by
  apply Array.ext_getElem?
  intro i
  by_cases hi : i < 77
  · rw [h i hi, md_at _ _ _ hi]
  · rw [Array.getElem?_eq_none (by omega), Array.getElem?_eq_none (by rw [md_size]; omega)]
theorem md_set {R R' : MdR} {m m' : MoV} (k : Nat) (_hk : k < 77) (v : Value) (hv : mcell R' m' k = v) (h : ∀ i, i < 77 → i ≠ k → mcell R' m' i = mcell R m i) : (mdArr R m).setIfInBounds k v = mdArr R' m' := by
  refine md_ext (by simp [md_size]) fun i hi => ?_
  rw [Array.getElem?_setIfInBounds]
  by_cases e : k = i
  · subst e; rw [if_pos rfl, if_pos (by rw [md_size]; omega), hv]
  · rw [if_neg e, md_at _ _ _ hi, h i hi (fun e' => e e'.symm)]
/-- slices of bytes in a row of one's own -/
structure EsO (W : World) (lo : Nat) (v : Value) (ls : List (List UInt8)) (X : Nat → Prop) : Prop where
  ex : ∃ vs, W.ownsRow lo 22 1 v ls.length vs ∧ ∀ i (h : i < ls.length), ∃ Ai ci, vs[i]? = some (.slice Ai (ls[i]).length ci) ∧ Sl W X Ai (ls[i]).length ci ls[i]
section
variable {W W' : World} {lo : Nat} {v : Value} {ls : List (List UInt8)} {X Y M : Nat → Prop}
theorem EsO.weak (h : EsO W lo v ls X) (hX : ∀ b, b < W.heap.size → X b → Y b) : EsO W lo v ls Y :=
  let ⟨vs, h1, h2⟩ := h.ex
  ⟨vs, h1, fun i hi => let ⟨A, c, h3, h4⟩ := h2 i hi; ⟨A, c, h3, h4.weak hX⟩⟩
theorem EsO.kb (h : EsO W lo v ls X) (hk : KB M W W') (hv : ∀ b, v.ownBlock = some b → ¬ M b) (hX : ∀ b, b < W.heap.size → X b → ¬ M b) : EsO W' lo v ls X :=
  let ⟨vs, h1, h2⟩ := h.ex
  ⟨vs, hk.own h1 hv, fun i hi => let ⟨A, c, h3, h4⟩ := h2 i hi; ⟨A, c, h3, hk.slb h4 hX⟩⟩
theorem EsO.step (h : EsO W lo v ls X) (hb : Below W.heap.size W W') : EsO W' lo v ls X :=
  h.kb (M := fun _ => False) (KB.of_below hb) (fun _ _ h => h) (fun _ _ _ h => h)
theorem EsO.lt (h : EsO W lo v ls X) (b : Nat) (hb : v.ownBlock = some b) : lo ≤ b ∧ b < W.heap.size := h.ex.choose_spec.1.lt b hb
theorem EsO.es (h : EsO W lo v ls X) : ∃ A c, v = .slice A ls.length c ∧ Es W (fun _ => True) A ls.length c ls := by
  obtain ⟨vs, h1, h2⟩ := h.ex
  obtain ⟨A, c, rfl, hs⟩ := owns_slv h1
  exact ⟨A, c, rfl, ⟨vs, hs.all, fun i hi => let ⟨A, c, h3, h4⟩ := h2 i hi; ⟨A, c, h3, h4.all⟩⟩, rfl⟩
theorem EsO.one (h : EsO W lo v ls X) : v.oneCell' = true := by
  obtain ⟨A, c, rfl, _⟩ := h.es
  rfl
theorem EsO.nil : EsO W lo (.slice none 0 0) [] X := ⟨[], World.ownsRow_nil _ _ _ _, fun i hi => absurd hi (by simp)⟩
/-- one more entry is put behind -/
theorem EsO.app (h : EsO W lo v ls X) (hlo : lo ≤ W.heap.size) (hn : ls.length ≤ 1000000000) (l : List UInt8) (A : Option Addr) (c : Nat) (hl : Sl W X A l.length c l) (hX : ∀ b, b < W.heap.size → X b → some b ≠ v.ownBlock) :
    ∃ v' W', (Builtin.append_ #[23, 23] 23 #[v, .slice (some ⟨W.heap.size, 0, none⟩) 1 1]).run Try.prog (W.alloc (.cells #[.slice A l.length c] 22)) = .ok v' W' ∧ EsO W' lo v' (ls ++ [l]) X ∧ W.grownBy W' v.ownBlock ∧ (v'.ownBlock = v.ownBlock ∨ ∃ k, v'.ownBlock = some k ∧ W.heap.size ≤ k) := by
  obtain ⟨vs, h1, h2⟩ := h.ex
  have hba : Below W.heap.size W (W.alloc (.cells #[.slice A l.length c] 22)) := (Below.refl _ _).alloc (Nat.le_refl _) _
  have info : (Try.prog.info? 22).map (fun i => (i.zero, i.size, i.bytes)) = some (some (.slice none 0 0), 1, 24) := by kernel_rfl
  obtain ⟨v', W', hr, ho, hg, hv⟩ := append_slv (ty := 23) Try.underlying23 info rfl (by decide) (owns_step h1 hba) (SlV.lit (s := 1) (n := 1) W (fun _ => True) 22 [.slice A l.length c] rfl (by decide) trivial) (by simp [Value.oneCell']) (by unfold maxLen; omega) (by omega) (Nat.le_trans hlo hba.size)
  have hg0 : W.grownBy W' v.ownBlock := (grown_of_below hba v.ownBlock).trans hg
  refine ⟨v', W', hr, ⟨vs ++ [.slice A l.length c], by rw [List.length_append]; exact ho, fun i hi => ?_⟩, hg0, ?_⟩
  · have hvl : vs.length = ls.length := by have := h1.1; omega
    by_cases hil : i < ls.length
    · obtain ⟨Ai, ci, h3, h4⟩ := h2 i hil
      rw [List.getElem_append_left hil]
      exact ⟨Ai, ci, by rw [List.getElem?_append_left (by omega)]; exact h3, h4.grown hg0 hX⟩
    · have hie : i = ls.length := by rw [List.length_append] at hi; simp at hi; omega
      subst hie
      have hget : (ls ++ [l])[ls.length] = l := by simp
      rw [hget]
      exact ⟨A, c, by rw [List.getElem?_append_right (by omega), hvl, Nat.sub_self]; rfl, hl.grown hg0 hX⟩
  · rcases hv with hv | ⟨k, hv, hk⟩
    · exact .inl hv
    · exact .inr ⟨k, hv, Nat.le_trans hba.size hk⟩
end
/-- the blocks that a model writes to -/
def MdW (g : Nat) (R : MdR) (b : Nat) : Prop := b = g ∨ R.e.ownBlock = some b ∨ R.h.ownBlock = some b ∨ R.q.ownBlock = some b
/-- of these it has no word in its own, and none that it reads: what others write to lies in Z -/
def MdN (Z : Nat → Prop) (g : Nat) (R : MdR) (b : Nat) : Prop := MdW g R b ∨ Z b
structure Md (Z : Nat → Prop) (lo g : Nat) (R : MdR) (m : MoV) (W : World) : Prop where
  blk : Blk W g 39 (mdArr R m)
  lastL : m.lastR.length = 32
  ptL : m.ptR.length = 32
  ents : EsO W lo R.e m.ents fun b => ¬ MdN Z g R b
  hashes : W.ownsRow lo 26 32 R.h m.ents.length (hcells (lvs m.ents))
  roots : ∃ A c, R.r = .slice A (m.ents.length + 1) c ∧ Hs W (fun b => ¬ MdN Z g R b) A (m.ents.length + 1) c (headsL (lvs m.ents) m.ents.length)
  queue : EsO W lo R.q m.queue fun b => ¬ MdN Z g R b
  begun : ∃ A c, R.b = .slice A m.begun.length c ∧ Es W (fun b => ¬ (b = g ∨ Z b)) A m.begun.length c m.begun
  eq : ∀ b, R.e.ownBlock = some b → R.q.ownBlock ≠ some b
  fresh : m.only = false → m.begun = [] ∧ R.b = .slice none 0 0
  low : lo ≤ g
  big : ∀ x ∈ m.ents, x.length ≤ 1099511627776
  bigq : ∀ x ∈ m.queue, x.length ≤ 1099511627776
  zlt : ∀ b, Z b → b < W.heap.size
  zno : ∀ b, MdW g R b → ¬ Z b
section
variable {W W' : World} {Z : Nat → Prop} {lo g : Nat} {R : MdR} {m : MoV} {M : Nat → Prop}
theorem H32.lvs (es : List (List UInt8)) : H32 (lvs es) := fun x hx => by obtain ⟨e, _, rfl⟩ := List.mem_map.1 hx; exact length_hLeaf e
theorem Md.lt (h : Md Z lo g R m W) (b : Nat) (hb : MdW g R b) : lo ≤ b ∧ b < W.heap.size := by
  rcases hb with rfl | hb | hb | hb
  · exact ⟨h.low, h.blk.lt⟩
  · exact h.ents.lt b hb
  · exact h.hashes.lt b hb
  · exact h.queue.lt b hb
theorem Md.ltN (h : Md Z lo g R m W) (b : Nat) (hb : MdN Z g R b) : b < W.heap.size := hb.elim (fun h' => (h.lt b h').2) (h.zlt b)
theorem Hs.kb {X : Nat → Prop} {A : Option Addr} {n c : Nat} {hs : List (List UInt8)} (h : Hs W X A n c hs) (hk : KB M W W') (hX : ∀ b, b < W.heap.size → X b → ¬ M b) : Hs W' X A n c hs := ⟨hk.slv h.sl hX, h.len, h.all⟩
theorem Es.kb {X : Nat → Prop} {A : Option Addr} {n c : Nat} {ls : List (List UInt8)} (h : Es W X A n c ls) (hk : KB M W W') (hX : ∀ b, b < W.heap.size → X b → ¬ M b) : Es W' X A n c ls :=
  let ⟨vs, h1, h2⟩ := h.ex
  ⟨⟨vs, hk.slv h1 hX, fun i hi => let ⟨A, c, h3, h4⟩ := h2 i hi; ⟨A, c, h3, hk.slb h4 hX⟩⟩, h.len⟩
theorem Md.step (h : Md Z lo g R m W) (hb : Below W.heap.size W W') : Md Z lo g R m W' :=
  ⟨h.blk.below hb h.blk.lt, h.lastL, h.ptL, h.ents.step hb, owns_step h.hashes hb, let ⟨A, c, h1, h2⟩ := h.roots; ⟨A, c, h1, h2.step hb⟩, h.queue.step hb, let ⟨A, c, h1, h2⟩ := h.begun; ⟨A, c, h1, h2.step hb⟩, h.eq, h.fresh, h.low, h.big, h.bigq, fun b hz => Nat.lt_of_lt_of_le (h.zlt b hz) hb.size, h.zno⟩
/-- others write -/
theorem Md.kb (h : Md Z lo g R m W) (hk : KB M W W') (hM : ∀ b, b < W.heap.size → M b → Z b) : Md Z lo g R m W' := by
  have hN : ∀ b, b < W.heap.size → MdW g R b → ¬ M b := fun b hb hw hm => h.zno b hw (hM b hb hm)
  refine ⟨hk.blk h.blk (hN g h.blk.lt (.inl rfl)), h.lastL, h.ptL, ?_, ?_, ?_, ?_, ?_, h.eq, h.fresh, h.low, h.big, h.bigq, fun b hz => Nat.lt_of_lt_of_le (h.zlt b hz) hk.size, h.zno⟩
  · exact h.ents.kb hk (fun b hb => hN b (h.ents.lt b hb).2 (.inr (.inl hb))) (fun b hl hx hm => hx (.inr (hM b hl hm)))
  · exact hk.own h.hashes fun b hb => hN b (h.hashes.lt b hb).2 (.inr (.inr (.inl hb)))
  · exact let ⟨A, c, h1, h2⟩ := h.roots; ⟨A, c, h1, h2.kb hk fun b hl hx hm => hx (.inr (hM b hl hm))⟩
  · exact h.queue.kb hk (fun b hb => hN b (h.queue.lt b hb).2 (.inr (.inr (.inr hb)))) (fun b hl hx hm => hx (.inr (hM b hl hm)))
  · exact let ⟨A, c, h1, h2⟩ := h.begun; ⟨A, c, h1, h2.kb hk fun b hl hx hm => hx (.inr (hM b hl hm))⟩
/-- another word for what others write to: what it holds of what is there, it held -/
theorem Md.setZ {Z' : Nat → Prop} (h : Md Z lo g R m W) (hz : ∀ b, Z' b → b < W.heap.size) (hzz : ∀ b, b < W.heap.size → Z' b → Z b) : Md Z' lo g R m W :=
  ⟨h.blk, h.lastL, h.ptL, h.ents.weak fun _ hl hx hm => hx (hm.imp id (hzz _ hl)), h.hashes, let ⟨A, c, h1, h2⟩ := h.roots; ⟨A, c, h1, h2.weak fun _ hl hx hm => hx (hm.imp id (hzz _ hl))⟩, h.queue.weak fun _ hl hx hm => hx (hm.imp id (hzz _ hl)), let ⟨A, c, h1, h2⟩ := h.begun; ⟨A, c, h1, h2.weak fun _ hl hx hm => hx (hm.imp id (hzz _ hl))⟩, h.eq, h.fresh, h.low, h.big, h.bigq, hz, fun b hw hz' => h.zno b hw (hzz b (hz b hz') hz')⟩
/-- behind a step, what is new may be written to by others -/
theorem Md.stepZ {Z' : Nat → Prop} (h : Md Z lo g R m W) (hb : Below W.heap.size W W') (hz : ∀ b, Z' b → b < W'.heap.size) (hzz : ∀ b, Z' b → Z b ∨ W.heap.size ≤ b) : Md Z' lo g R m W' := by
  have hlt : ∀ b, b < W.heap.size → Z' b → Z b := fun b hl hz' => (hzz b hz').elim id fun h' => absurd hl (by omega)
  refine ⟨h.blk.below hb h.blk.lt, h.lastL, h.ptL, ?_, owns_step h.hashes hb, ?_, ?_, ?_, h.eq, h.fresh, h.low, h.big, h.bigq, hz, fun b hw hz' => h.zno b hw (hlt b (h.lt b hw).2 hz')⟩
  · exact ((h.ents.weak (Y := fun b => ¬ MdN Z g R b ∧ b < W.heap.size) fun b hl hx => ⟨hx, hl⟩).step hb).weak fun b _ hx hm => hx.1 (hm.imp id (hlt b hx.2))
  · exact let ⟨A, c, h1, h2⟩ := h.roots; ⟨A, c, h1, ((h2.weak (Y := fun b => ¬ MdN Z g R b ∧ b < W.heap.size) fun b hl hx => ⟨hx, hl⟩).step hb).weak fun b _ hx hm => hx.1 (hm.imp id (hlt b hx.2))⟩
  · exact ((h.queue.weak (Y := fun b => ¬ MdN Z g R b ∧ b < W.heap.size) fun b hl hx => ⟨hx, hl⟩).step hb).weak fun b _ hx hm => hx.1 (hm.imp id (hlt b hx.2))
  · exact let ⟨A, c, h1, h2⟩ := h.begun; ⟨A, c, h1, ((h2.weak (Y := fun b => ¬ (b = g ∨ Z b) ∧ b < W.heap.size) fun b hl hx => ⟨hx, hl⟩).step hb).weak fun b _ hx hm => hx.1 (hm.imp id (hlt b hx.2))⟩
theorem Md.lower {lo' : Nat} (h : Md Z lo g R m W) (hl : lo' ≤ lo) : Md Z lo' g R m W :=
  ⟨h.blk, h.lastL, h.ptL, let ⟨vs, h1, h2⟩ := h.ents.ex; ⟨vs, owns_le h1 hl, h2⟩, owns_le h.hashes hl, h.roots, let ⟨vs, h1, h2⟩ := h.queue.ex; ⟨vs, owns_le h1 hl, h2⟩, h.begun, h.eq, h.fresh, Nat.le_trans hl h.low, h.big, h.bigq, h.zlt, h.zno⟩
theorem Md.cell (h : Md Z lo g R m W) (i : Nat) (hi : i < 77) : W.cell? ⟨g, i, none⟩ = some (mcell R m i) := by rw [h.blk.cell, md_at _ _ _ hi]
theorem Md.size (h : Md Z lo g R m W) : lo ≤ W.heap.size := Nat.le_of_lt (Nat.lt_of_le_of_lt h.low h.blk.lt)
end
end Go.Proofs.Ytobcfgbkhgkelaa
/- model: what is asked first (none, may, Size, begins, ..), of a model that is there and of one that is not. -/
namespace Go.Proofs.Ytobcfgbkhgkelaa
open Go Go.RowKit
attribute [local go_sem] Oper.semAt_some

def mptr (g : Nat) : Value := .pointer (some ⟨g, 0, none⟩)
/-- no model: nil, or a zero one -/
def NoM (W : World) (v : Value) : Prop := v = .pointer none ∨ ∃ g cs, v = .pointer (some ⟨g, 0, none⟩) ∧ Blk W g 39 cs ∧ cs[76]? = some (.bool false)
theorem NoM.step {W W' : World} {v : Value} (h : NoM W v) (hb : Below W.heap.size W W') : NoM W' v := by
  rcases h with h | ⟨g, cs, h1, h2, h3⟩
  · exact .inl h
  · exact .inr ⟨g, cs, h1, h2.below hb h2.lt, h3⟩
section
variable {W : World} {Z : Nat → Prop} {lo g : Nat} {R : MdR} {m : MoV}
theorem mnone_any (h : Md Z lo g R m W) : Calls Try.prog 43 #[.pointer (some ⟨g, 0, none⟩)] W fun e w' => e = .returned (.bool false) ∧ w' = W := by
  have c76 : W.cell? ⟨g, 76, none⟩ = some (.bool true) := h.cell 76 (by decide)
  clear h
  go_enter Try.func43, Try.ntmps43
  go_wp2_with fail
  go_ret
  exact ⟨rfl, rfl⟩
theorem mnone_no {v : Value} (h : NoM W v) : Calls Try.prog 43 #[v] W fun e w' => e = .returned (.bool true) ∧ w' = W := by
  rcases h with rfl | ⟨g, cs, rfl, h2, h3⟩
  · go_enter Try.func43, Try.ntmps43
    go_wp2_with fail
    go_ret
    exact ⟨rfl, rfl⟩
  · have c76 : W.cell? ⟨g, 76, none⟩ = some (.bool false) := by rw [h2.cell]; exact h3
    clear h2 h3
    go_enter Try.func43, Try.ntmps43
    go_wp2_with fail
    go_ret
    exact ⟨rfl, rfl⟩
theorem mmay_any (h : Md Z lo g R m W) : Calls Try.prog 40 #[.pointer (some ⟨g, 0, none⟩)] W fun e w' => e = .returned (.int .i64 (if m.only then 10 else 0)) ∧ w' = W := by
  have c75 : W.cell? ⟨g, 75, none⟩ = some (.bool m.only) := h.cell 75 (by decide)
  have hn := mnone_any h
  clear h
  cases ho : m.only with
  | true =>
    rw [ho] at c75
    clear ho
    go_enter Try.func40, Try.ntmps40
    go_wp2_with (go_at_call 43; refine hn.mono ?_; rintro e w' ⟨rfl, hw⟩; obtain rfl := hw.symm)
    go_ret
    exact ⟨rfl, rfl⟩
  | false =>
    rw [ho] at c75
    clear ho
    go_enter Try.func40, Try.ntmps40
    go_wp2_with (go_at_call 43; refine hn.mono ?_; rintro e w' ⟨rfl, hw⟩; obtain rfl := hw.symm)
    go_ret
    exact ⟨rfl, rfl⟩
theorem mmay_no {v : Value} (h : NoM W v) : Calls Try.prog 40 #[v] W fun e w' => e = .returned (.int .i64 1) ∧ w' = W := by
  have hn := mnone_no h
  clear h
  go_enter Try.func40, Try.ntmps40
  go_wp2_with (go_at_call 43; refine hn.mono ?_; rintro e w' ⟨rfl, hw⟩; obtain rfl := hw.symm)
  go_ret
  exact ⟨rfl, rfl⟩
theorem msize_any (h : Md Z lo g R m W) : Calls Try.prog 13 #[.pointer (some ⟨g, 0, none⟩)] W fun e w' => e = .returned (.int .i64 (m.ents.length : Int)) ∧ w' = W := by
  obtain ⟨A, c, hv, he⟩ := h.ents.es
  have hr := he.room
  have hm := he.max
  unfold maxLen at hm
  have c0 : W.cell? ⟨g, 0, none⟩ = some R.e := h.cell 0 (by decide)
  rw [hv] at c0
  have hn := mnone_any h
  clear h he hv
  go_enter Try.func13, Try.ntmps13
  go_wp2_with (go_at_call 43; refine hn.mono ?_; rintro e w' ⟨rfl, hw⟩; obtain rfl := hw.symm)
  go_ret
  exact ⟨rfl, rfl⟩
theorem msize_no {v : Value} (h : NoM W v) : Calls Try.prog 13 #[v] W fun e w' => e = .returned (.int .i64 0) ∧ w' = W := by
  have hn := mnone_no h
  clear h
  go_enter Try.func13, Try.ntmps13
  go_wp2_with (go_at_call 43; refine hn.mono ?_; rintro e w' ⟨rfl, hw⟩; obtain rfl := hw.symm)
  go_ret
  exact ⟨rfl, rfl⟩
theorem mwait_no {v : Value} (h : NoM W v) : Calls Try.prog 35 #[v] W fun e w' => e = .returned (.int .i64 0) ∧ w' = W := by
  have hn := mnone_no h
  clear h
  go_enter Try.func35, Try.ntmps35
  go_wp2_with (go_at_call 43; refine hn.mono ?_; rintro e w' ⟨rfl, hw⟩; obtain rfl := hw.symm)
  go_ret
  exact ⟨rfl, rfl⟩
theorem monly_no {v : Value} (h : NoM W v) : Calls Try.prog 37 #[v] W fun e w' => e = .returned (.bool false) ∧ w' = W := by
  have hn := mnone_no h
  clear h
  go_enter Try.func37, Try.ntmps37
  go_wp2_with (go_at_call 43; refine hn.mono ?_; rintro e w' ⟨rfl, hw⟩; obtain rfl := hw.symm)
  go_ret
  exact ⟨rfl, rfl⟩
theorem mcopy_no {v : Value} (h : NoM W v) : Calls Try.prog 38 #[v] W fun e w' => e = .returned (.pointer none) ∧ w' = W := by
  have hn := mnone_no h
  clear h
  go_enter Try.func38, Try.ntmps38
  go_wp2_with (go_at_call 43; refine hn.mono ?_; rintro e w' ⟨rfl, hw⟩; obtain rfl := hw.symm)
  go_ret
  exact ⟨rfl, rfl⟩
theorem msettle_no {v : Value} (h : NoM W v) : Calls Try.prog 31 #[v] W fun e w' => e = .returned (.int .i64 1) ∧ w' = W := by
  have hn := mmay_no h
  clear h
  go_enter Try.func31, Try.ntmps31
  go_wp2_with (go_at_call 40; refine hn.mono ?_; rintro e w' ⟨rfl, hw⟩; obtain rfl := hw.symm)
  go_ret
  exact ⟨rfl, rfl⟩
theorem mbegins_no {v : Value} {n : Int} (h : NoM W v) : Calls Try.prog 42 #[v, .int .i64 n] W fun e w' => e = .returned (.int .i64 1) ∧ w' = W := by
  have hn := mnone_no h
  clear h
  go_enter Try.func42, Try.ntmps42
  go_wp2_with (go_at_call 43; refine hn.mono ?_; rintro e w' ⟨rfl, hw⟩; obtain rfl := hw.symm)
  go_ret
  exact ⟨rfl, rfl⟩
theorem msubmit_no {v : Value} {A : Option Addr} {n c : Nat} (h : NoM W v) : Calls Try.prog 10 #[v, .slice A n c] W fun e w' => e = .returned (.int .i64 1) ∧ w' = W := by
  have hn := mmay_no h
  clear h
  go_enter Try.func10, Try.ntmps10
  go_wp2_with (go_at_call 40; refine hn.mono ?_; rintro e w' ⟨rfl, hw⟩; obtain rfl := hw.symm)
  go_ret
  exact ⟨rfl, rfl⟩
theorem mfail_no {v : Value} {n : Int} (h : NoM W v) : Calls Try.prog 34 #[v, .int .i64 n] W fun e w' => e = .returned (.int .i64 1) ∧ w' = W := by
  have hn := mmay_no h
  clear h
  go_enter Try.func34, Try.ntmps34
  go_wp2_with (go_at_call 40; refine hn.mono ?_; rintro e w' ⟨rfl, hw⟩; obtain rfl := hw.symm)
  go_ret
  exact ⟨rfl, rfl⟩
theorem mflush_no {v : Value} (h : NoM W v) : Calls Try.prog 11 #[v] W fun e w' => e = .returned (.tuple #[.int .i64 0, .int .i64 0, .int .i64 1]) ∧ w' = W := by
  have hn := mmay_no h
  clear h
  go_enter Try.func11, Try.ntmps11
  go_wp2_with (go_at_call 40; refine hn.mono ?_; rintro e w' ⟨rfl, hw⟩; obtain rfl := hw.symm)
  go_ret3
  exact ⟨rfl, rfl⟩
theorem mread_no {v : Value} {n : Int} (h : NoM W v) : Calls Try.prog 15 #[v, .int .i64 n] W fun e w' => e = .returned (.tuple #[.slice none 0 0, .int .i64 1]) ∧ w' = W := by
  have hn := mnone_no h
  clear h
  go_enter Try.func15, Try.ntmps15
  go_wp2_with (go_at_call 43; refine hn.mono ?_; rintro e w' ⟨rfl, hw⟩; obtain rfl := hw.symm)
  go_ret2
  exact ⟨rfl, rfl⟩
theorem mfront_no {v : Value} {n : Int} (h : NoM W v) : Calls Try.prog 32 #[v, .int .i64 n] W fun e w' => e = .returned (.tuple #[.slice none 0 0, .int .i64 1]) ∧ w' = W := by
  have hn := mbegins_no (n := n) h
  clear h
  go_enter Try.func32, Try.ntmps32
  go_wp2_with (go_at_call 42; refine hn.mono ?_; rintro e w' ⟨rfl, hw⟩; obtain rfl := hw.symm)
  go_ret2
  exact ⟨rfl, rfl⟩
theorem mincl_no {v : Value} {k n : Int} (h : NoM W v) : Calls Try.prog 28 #[v, .int .i64 k, .int .i64 n] W fun e w' => e = .returned (.tuple #[.slice none 0 0, .int .i64 1]) ∧ w' = W := by
  have hn := mbegins_no (n := n) h
  clear h
  go_enter Try.func28, Try.ntmps28
  go_wp2_with (go_at_call 42; refine hn.mono ?_; rintro e w' ⟨rfl, hw⟩; obtain rfl := hw.symm)
  go_ret2
  exact ⟨rfl, rfl⟩
theorem mcons_no {v : Value} {k n : Int} (h : NoM W v) : Calls Try.prog 25 #[v, .int .i64 k, .int .i64 n] W fun e w' => e = .returned (.tuple #[.slice none 0 0, .int .i64 1]) ∧ w' = W := by
  have hn := mbegins_no (n := n) h
  clear h
  go_enter Try.func25, Try.ntmps25
  go_wp2_with (go_at_call 42; refine hn.mono ?_; rintro e w' ⟨rfl, hw⟩; obtain rfl := hw.symm)
  go_ret2
  exact ⟨rfl, rfl⟩
end
end Go.Proofs.Ytobcfgbkhgkelaa
/- slices.Clone of hashes and of stretches; slices.Values of stretches. -/
namespace Go.Proofs.Ytobcfgbkhgkelaa
open Go Go.RowKit Go.Shelf
attribute [local go_sem] Oper.semAt_some

set_option maxHeartbeats 1000000 in
set_option maxRecDepth 100000 in
theorem cloneh_any (l : List (List UInt8)) (A : Option Addr) (n c : Nat) (w : World) (h : Hs w (fun _ => True) A n c l) (hn : n ≤ 1099511627776) :
    Calls Try.prog 69 #[.slice A n c] w fun e w' => ∃ A' c', e = .returned (.slice A' n c') ∧ Hs w' (w.heap.size ≤ ·) A' n c' l ∧ Below w.heap.size w w' := by
  cases A with
  | none =>
    obtain ⟨rfl, rfl⟩ := h.sl.nil rfl
    obtain rfl : l = [] := List.eq_nil_of_length_eq_zero h.len
    have hE : Hs w (w.heap.size ≤ ·) none 0 0 [] := ⟨SlV.empty, rfl, by intro x hx; cases hx⟩
    clear h
    have hnil := fun w => run_eql_slice_nil (P := Try.prog) w 33 26 none 0 0 Try.underlying33
    go_enter Try.func69, Try.ntmps69
    go_wp2_with fail
    go_ret
    exact ⟨none, 0, rfl, hE, Below.refl _ _⟩
  | some a =>
    have hroom := h.sl.room
    have hmx := h.sl.max
    unfold maxLen at hmx
    have hb1 : Below w.heap.size w (w.alloc (.cells #[] 26)) := (Below.refl _ _).alloc (Nat.le_refl _) _
    have ho0 : (w.alloc (.cells #[] 26)).ownsRow w.heap.size 26 32 (.slice (some ⟨w.heap.size, 0, none⟩) 0 0) 0 [] :=
      World.ownsRow_lit (base := w.heap.size) (e := 26) (size := 32) w #[] 0 (Nat.le_refl _) (by unfold maxLen; decide) (by simp)
    obtain ⟨v1, w1, hr1, ho1, hg1, -⟩ := append_slv (ty := 33) Try.underlying33 info26z (by simp [Value.cells]) (by decide) ho0 (h.step hb1).sl (oneB _) (by unfold maxLen; omega) (by omega) hb1.size
    rw [List.nil_append, Nat.zero_add] at ho1
    have hb2 := hb1.grown hg1 hb1.size (fun k hk => by cases hk; exact Nat.le_refl _)
    obtain ⟨A', c', rfl, h1⟩ := Hs.of_owns ho1 h.len h.all
    have h2 : Hs w1 (w.heap.size ≤ ·) A' n c' l := h1.weak fun _ _ hx => hx.1
    have Hr1 := Lib.hid hr1
    have hnil := fun w => run_eql_slice_nil (P := Try.prog) w 33 26 (some a) n c Try.underlying33
    clear hr1 ho0 ho1 hg1 hb1 h h1
    go_enter Try.func69, Try.ntmps69
    go_wp2_with ((with_reducible show wpList _ _ _ (⟨some 7, .call _, _, _, _, _⟩ :: _) _ _); refine wpList_run rfl (.slice A' n c') w1 (run_append_op (.tmp 5) (.tmp 6) 33 rfl _ _ rfl rfl Hr1.out) ?_; simp only [Act.put])
    go_ret
    exact ⟨A', c', rfl, h2, hb2⟩

set_option maxHeartbeats 1000000 in
set_option maxRecDepth 100000 in
theorem cloner_any (l : List (Int × Int)) (A : Option Addr) (n c : Nat) (w : World) (h : Rs w (fun _ => True) A n c l) (hn : n ≤ 1099511627776) :
    Calls Try.prog 93 #[.slice A n c] w fun e w' => ∃ A' c', e = .returned (.slice A' n c') ∧ Rs w' (w.heap.size ≤ ·) A' n c' l ∧ Below w.heap.size w w' := by
  cases A with
  | none =>
    obtain ⟨rfl, rfl⟩ := h.sl.nil rfl
    obtain rfl : l = [] := List.eq_nil_of_length_eq_zero h.len
    have hE : Rs w (w.heap.size ≤ ·) none 0 0 [] := Rs.empty
    clear h
    have hnil := fun w => run_eql_slice_nil (P := Try.prog) w 114 121 none 0 0 Try.underlying114
    go_enter Try.func93, Try.ntmps93
    go_wp2_with fail
    go_ret
    exact ⟨none, 0, rfl, hE, Below.refl _ _⟩
  | some a =>
    have hroom := h.sl.room
    have hmx := h.sl.max
    unfold maxLen at hmx
    have hb1 : Below w.heap.size w (w.alloc (.cells #[] 121)) := (Below.refl _ _).alloc (Nat.le_refl _) _
    have ho0 : (w.alloc (.cells #[] 121)).ownsRow w.heap.size 121 2 (.slice (some ⟨w.heap.size, 0, none⟩) 0 0) 0 [] :=
      World.ownsRow_lit (base := w.heap.size) (e := 121) (size := 2) w #[] 0 (Nat.le_refl _) (by unfold maxLen; decide) (by simp)
    obtain ⟨v1, w1, hr1, ho1, hg1, -⟩ := append_slv (ty := 114) Try.underlying114 infoR (by simp [Value.cells]) (by decide) ho0 (h.step hb1).sl (oneR _) (by unfold maxLen; omega) (by omega) hb1.size
    rw [List.nil_append, Nat.zero_add] at ho1
    have hb2 := hb1.grown hg1 hb1.size (fun k hk => by cases hk; exact Nat.le_refl _)
    obtain ⟨A', c', rfl, h1⟩ := Rs.of_owns ho1 h.len
    have h2 : Rs w1 (w.heap.size ≤ ·) A' n c' l := h1.weak fun _ _ hx => hx.1
    have Hr1 := Lib.hid hr1
    have hnil := fun w => run_eql_slice_nil (P := Try.prog) w 114 121 (some a) n c Try.underlying114
    clear hr1 ho0 ho1 hg1 hb1 h h1
    go_enter Try.func93, Try.ntmps93
    go_wp2_with ((with_reducible show wpList _ _ _ (⟨some 7, .call _, _, _, _, _⟩ :: _) _ _); refine wpList_run rfl (.slice A' n c') w1 (run_append_op (.tmp 5) (.tmp 6) 114 rfl _ _ rfl rfl Hr1.out) ?_; simp only [Act.put])
    go_ret
    exact ⟨A', c', rfl, h2, hb2⟩

theorem valuesr_any (A : Option Addr) (n c : Nat) (w : World) :
    Calls Try.prog 95 #[.slice A n c] w fun e w' => e = .returned (.func (.func 110) #[] #[.pointer (some ⟨w.heap.size, 0, none⟩)]) ∧ Blk w' w.heap.size 114 #[.slice A n c] ∧ Below w.heap.size w w' := by
  go_enter Try.func95, Try.ntmps95
  go_wp2_with fail
  go_ret
  exact ⟨rfl, Blk.new _ _ _, (Below.refl _ _).alloc (Nat.le_refl _) _⟩

theorem load_R {W : World} {g : Nat} {a b : Int} (h : Blk W g 121 #[.int .i64 a, .int .i64 b]) : (Instr.loadAt 121 (.pointer (some ⟨g, 0, none⟩))).run Try.prog W = .ok (.agg #[.int .i64 a, .int .i64 b]) W :=
  run_load_blk (aggR _) (sizeR _) _ _ rfl h
set_option maxRecDepth 100000 in
theorem wpList_rvar {w : World} {ops : Array Oper} {rest : List Oper} {o1 o2 : Oper} {a : Act} {Q : Exit → Act → World → Prop} (l : Int × Int) (x y : Operand) (hg1 : o1.guard = none) (hg2 : o2.guard = none) (ho1 : o1.op = .alloc 121) (ho2 : o2.op = .store 121 x y)
    (hx : (a.put o1.dst (.pointer (some ⟨w.heap.size, 0, none⟩))).eval x = .pointer (some ⟨w.heap.size, 0, none⟩)) (hy : (a.put o1.dst (.pointer (some ⟨w.heap.size, 0, none⟩))).eval y = .agg #[.int .i64 l.1, .int .i64 l.2])
    (h : ∀ W, Blk W w.heap.size 121 #[.int .i64 l.1, .int .i64 l.2] → Below w.heap.size w W → wpList Try.prog ops Q rest ((a.put o1.dst (.pointer (some ⟨w.heap.size, 0, none⟩))).put o2.dst undef) W) : wpList Try.prog ops Q (o1 :: o2 :: rest) a w := by
  refine wpList_run hg1 (.pointer (some ⟨w.heap.size, 0, none⟩)) (w.alloc (.cells #[.int .i64 0, .int .i64 0] 121)) ?_ ?_
  · unfold execOp
    rw [ho1]
    rfl
  · refine wpList_store_blk hg2 121 x y ho2 2 sizeR w.heap.size #[.int .i64 l.1, .int .i64 l.2] hx hy rfl (by intro v hv; simp at hv; rcases hv with rfl | rfl <;> rfl) 121 _ (Blk.new w 121 #[.int .i64 0, .int .i64 0]) rfl ?_
    exact h _ ((Blk.new w 121 #[.int .i64 0, .int .i64 0]).setRow_ _) (below_setRow ((Below.refl _ _).alloc (Nat.le_refl _) _) (Nat.le_refl _) _)

def rval (x : Int × Int) : Value := .agg #[.int .i64 x.1, .int .i64 x.2]
set_option maxRecDepth 100000 in
set_option maxHeartbeats 2000000 in
theorem values1_seq (l : List (Int × Int)) (A : Option Addr) (n c g : Nat) (U : Nat → Prop) (w : World) (hbox : Blk w g 114 #[.slice A n c]) (h : Rs w (fun b => ¬ U b) A n c l) (_hU : ¬ U g) (hn : n ≤ 1099511627776) :
    SeqU Try.prog 110 #[.pointer (some ⟨g, 0, none⟩)] n U (fun _ k vs _ => vs = #[rval (l.getD k (0, 0))]) w := by
  intro ly J Jx W hW hJ hJx hY h0
  have hbox' := hbox.below hW hbox.lt
  have h' := h.step hW
  have hmx := h.sl.max
  have hroom := h.sl.room
  unfold maxLen at hmx
  have hgl : g < W.heap.size := hbox'.lt
  have hcell : W.cell? ⟨g, 0, none⟩ = some (.slice A n c) := by rw [hbox'.cell]; rfl
  have hst : J W.heap.size 0 W := h0 _ (Nat.le_refl _)
  have Hst := Lib.hid hst
  have HJ := Lib.hid hJ
  have HY := Lib.hid hY
  have Hbox := Lib.hid hbox'
  clear hbox hJx hJ hY hbox' h hW h0 hst
  refine callsIn_of_wp Try.func110 rfl trivial ?_ rfl
  simp only [Try.ntmps110, List.size_toArray, List.length_cons, List.length_nil, Nat.reduceAdd, Nat.reduceSub, Array.replicate_succ, Array.replicate_zero, List.push_toArray, List.append_toArray, List.nil_append, List.cons_append]
  gi_wp2
  gi_loopw [7] (fun i wr => ∃ k : Nat, k ≤ n ∧ i = .int .i64 k ∧ W.heap.size ≤ wr.heap.size ∧ J W.heap.size k wr ∧ Rs wr (fun b => b < W.heap.size ∧ ¬ U b) A n c l)
    (fun i _ => n - (intOf i).toNat)
  case atStart => exact ⟨0, Nat.zero_le _, rfl, Nat.le_refl _, Hst.out, h'.weak fun b hb hx => ⟨hb, hx⟩⟩
  case round =>
    clear Hst h' hcell
    obtain ⟨k, hk, rfl, hsz, hJs, hs⟩ := hrel
    by_cases hlt : k < n
    · obtain ⟨b, o, rfl, -, -, -⟩ := hs.at_ (by omega)
      have hld := hs.load rfl k hlt
      obtain ⟨⟨x1, x2⟩, hx⟩ : ∃ x, l.getD k (0, 0) = x := ⟨_, rfl⟩
      rw [hx] at hld
      have Hx := Lib.hid hx
      clear hx
      gi_wp2_with (first
        | ((with_reducible show wpListIn _ _ _ _ _ (⟨some 10, .load _ _, _, _, _, _⟩ :: _) _ _); refine wpListIn_of1 openW rfl ?_; refine wpList_cell 121 (.tmp 9) b (o + k * 2) (.agg #[.int .i64 x1, .int .i64 x2]) (by kernel_rfl) rfl rfl hld ?_; refine thenN_nil ?_; simp only [Act.put])
        | ((with_reducible show wpListIn _ _ _ _ _ (⟨some 4, .alloc _, _, _, _, _⟩ :: _) _ _); refine wpListIn_of2 openW rfl ?_; refine wpList_rvar (x1, x2) (.tmp 4) (.tmp 10) rfl rfl rfl rfl rfl rfl ?_; intro W2 k4 hb2; refine thenN_nil ?_; simp only [Act.put])
        | ((with_reducible show wpListIn _ _ _ _ _ (⟨some 12, .load _ _, _, _, _, _⟩ :: _) _ _); refine wpListIn_of1 openW rfl ?_; refine wpList_cell 121 (.tmp 4) wr.heap.size 0 (.agg #[.int .i64 x1, .int .i64 x2]) (by kernel_rfl) rfl rfl (load_R k4) ?_; refine thenN_nil ?_; simp only [Act.put]; have hJ2 := HJ.out W.heap.size k wr W2 none hJs (grown_of_below hb2 none) (fun r e => by cases e); obtain ⟨fn, tmps, assign, body, hy, hR⟩ := HY.out W.heap.size k #[.agg #[.int .i64 x1, .int .i64 x2]] W2 (Nat.le_refl _) (Nat.le_trans hsz hb2.size) hlt hJ2 (by rw [Hx.out]; rfl); clear hJ2 hJs hld))
      refine hR.mono ?_
      have hs2 := hs.step hb2
      have hsz2 := hb2.size
      clear hR hy k4 hb2 hs
      rintro e w4 (⟨rfl, hj4, hk4⟩ | ⟨rfl, hjx4, hk4⟩)
      · have hs4 : Rs w4 (fun b => b < W.heap.size ∧ ¬ U b) (some ⟨b, o, none⟩) n c l := ⟨hk4.slv hs2.sl fun b _ hb => hb, hs2.len⟩
        have hsz4 := hk4.size
        clear hk4 hs2
        gi_wp2
        exact ⟨⟨k + 1, by omega, by go_num, by omega, hj4, hs4⟩, by simp [intOf]; omega⟩
      · gi_wp2
        refine bodyPost_ret (by exact results_none rfl _ _ _) rfl ?_
        exact ⟨⟨_, rfl⟩, _, Nat.le_refl _, .inr ⟨k, hlt, hjx4⟩⟩
    · obtain rfl : k = n := by omega
      gi_wp2
      go_end0
      exact ⟨⟨_, rfl⟩, _, Nat.le_refl _, .inl hJs⟩
end Go.Proofs.Ytobcfgbkhgkelaa
