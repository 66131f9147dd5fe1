/- Plain facts on machine words as numbers of the model: no program in sight. -/
import Derived.WalkKit
import Derived.WalkSpells
import Derived.WalkLawsBesides
import Derived.Handy
import Derived.PlainAid
import Derived.Lib.Hide
import Derived.Test.YtfhmjgkcpcnkbaaDoorRows
import Derived.ProofKit
import Derived.Carry
import Derived.OpenShut
import Derived.Below
import Derived.ChangeSame
import Derived.Laws.OwnMore
import Derived.Laws.CopyOwn
import Derived.Deep.Draws
import Derived.StillTailTactics
namespace Go.Proofs.YtfhmjgkcpcnkbaaDoor
open Go.RowKit

/-- a 32-bit word, a byte, as values -/
abbrev U (x : UInt32) : Value := .int .u32 (x.toNat : Int)
abbrev B (x : UInt8) : Value := .int .u8 (x.toNat : Int)

theorem ret_int {k : IntKind} {a b : Int} (h : a = b) : Ending.returned (.int k a) = .returned (.int k b) := by rw [h]
theorem u32_lt (x : UInt32) : x.toNat < 4294967296 := x.toNat_lt
theorem u8_lt (x : UInt8) : x.toNat < 256 := x.toNat_lt
theorem u64_lt (x : UInt64) : x.toNat < 18446744073709551616 := x.toNat_lt

theorem bxor32 (x y : UInt32) : bits .xor .u32 (x.toNat : Int) (y.toNat : Int) = ((x ^^^ y).toNat : Int) := by
  rw [u32_xor_nat _ _ (u32_lt x) (u32_lt y), UInt32.toNat_xor]
theorem bor32 (x y : UInt32) : bits .or .u32 (x.toNat : Int) (y.toNat : Int) = ((x ||| y).toNat : Int) := by
  rw [u32_or_nat _ _ (u32_lt x) (u32_lt y), UInt32.toNat_or]
theorem band32 (x y : UInt32) : bits .and .u32 (x.toNat : Int) (y.toNat : Int) = ((x &&& y).toNat : Int) := by
  rw [u32_and_nat _ _ (u32_lt x) (u32_lt y), UInt32.toNat_and]
theorem wadd32 (x y : UInt32) : IntKind.u32.wrap ((x.toNat : Int) + (y.toNat : Int)) = ((x + y).toNat : Int) := by
  rw [IntKind.wrap_u32', UInt32.toNat_add]; omega
theorem wadd32' (x y : UInt32) : ((x.toNat : Int) + (y.toNat : Int)) % 4294967296 = ((x + y).toNat : Int) := by
  rw [UInt32.toNat_add]; omega
theorem wmul32 (x y : UInt32) : IntKind.u32.wrap ((x.toNat : Int) * (y.toNat : Int)) = ((x * y).toNat : Int) := by
  rw [IntKind.wrap_u32', UInt32.toNat_mul]; omega
theorem shl32 (x : UInt32) (k : Nat) (hk : k < 32) : (x.toNat : Int) * 2 ^ k % 4294967296 = ((x <<< UInt32.ofNat k).toNat : Int) := by
  rw [UInt32.toNat_shiftLeft, UInt32.toNat_ofNat', Nat.shiftLeft_eq]
  have h1 : k % 2 ^ 32 % 32 = k := by omega
  rw [h1, show (2 : Nat) ^ 32 = 4294967296 from rfl, Int.natCast_emod, Int.natCast_mul, Int.natCast_pow]
  rfl
theorem shr32 (x : UInt32) (k : Nat) (hk : k < 32) : (x.toNat : Int) / 2 ^ k = ((x >>> UInt32.ofNat k).toNat : Int) := by
  rw [UInt32.toNat_shiftRight, UInt32.toNat_ofNat', Nat.shiftRight_eq_div_pow]
  have h1 : k % 2 ^ 32 % 32 = k := by omega
  rw [h1, Int.natCast_ediv, Int.natCast_pow]
  rfl
end Go.Proofs.YtfhmjgkcpcnkbaaDoor
/- A law's row: its end (true; what was below stays), its arguments. No program in sight but the seat's numbers. -/
namespace Go.Proofs.YtfhmjgkcpcnkbaaDoor
open Go.RowKit Go.WideShapes Go.ChangeShapes Go.ChangeAt

theorem Tryd.own : ownKnob Tryd.prog.godebug = none := by kernel_rfl
theorem Tryd.laidOut : laidOutB Tryd.prog = true := by kernel_rfl

section
variable {H : Type} {enc : TypeId × Value → H} {P : Program}
theorem trodAll_stays (hl : laidOutB P = true) {W W' : World} (hb : Below W.heap.size W W') : ∀ {ts : List TypeId} {vs : List Value} {ds : List (DataW H)} {ps : List MemPlace},
    (ts.all fun t => P.readableRec t && decide (t < P.types.size)) = true → DataW.TrodAll enc P W 0 (fun _ => true) true ts vs ds ps → (∀ x ∈ ps, x.block < W.heap.size) → ∀ sp : Nat → Bool, (∀ x ∈ ps, sp x.block = true) →
    DataW.TrodAll enc P W' 0 sp true ts vs ds ps
  | [], [], [], _, _, h, _, _, _ => h
  | [], _ :: _, _, _, _, h, _, _, _ => by simp [DataW.TrodAll] at h
  | [], [], _ :: _, _, _, h, _, _, _ => by simp [DataW.TrodAll] at h
  | _ :: _, [], _, _, _, h, _, _, _ => by simp [DataW.TrodAll] at h
  | _ :: _, _ :: _, [], _, _, h, _, _, _ => by simp [DataW.TrodAll] at h
  | t :: ts, v :: vs, d :: ds, ps, ht, h, hlt, sp, hsp => by
    obtain ⟨p, q, h1, h2, rfl⟩ := h
    simp only [List.all_cons, Bool.and_eq_true, decide_eq_true_eq] at ht
    exact ⟨p, q, WideElems.Trod_stays hl ht.1.1 ht.1.2 h1 (fun x hx => hb.same (hlt x (by simp [hx]))) (fun x hx => hsp x (by simp [hx])),
      trodAll_stays hl hb (by simpa using ht.2) h2 (fun x hx => hlt x (by simp [hx])) sp (fun x hx => hsp x (by simp [hx])), rfl⟩

theorem post_of_below {f : Func} {s : ChangeSpec} {apart fresh handsOn again : Bool} {W W' : World} {args : Array Value} {v : Value} {ds gs : List (DataW H)} {before pa pv : List MemPlace}
    (hW : DataW.Whole enc P f.params.toList s.vars apart W args.toList ds gs before)
    (hres : ∀ (b : Nat) (sp : Nat → Bool) (hd : Bool), DataW.TrodAll enc P W' b sp hd f.resultTypes.toList (v.resultList f.resultTypes.size) (s.fn H (ds ++ gs)).results [])
    (hargs : ∀ sp : Nat → Bool, (∀ p ∈ before, sp p.block = true) → DataW.TrodAll enc P W' 0 sp true f.params.toList args.toList (s.fn H (ds ++ gs)).args pa)
    (hvars : ∀ sp : Nat → Bool, (∀ p ∈ before, sp p.block = true) → DataW.TrodVars enc P W' sp s.vars (s.fn H (ds ++ gs)).vars pv)
    (hps : before = pa ++ pv) (hb : Below W.heap.size W W')
    (hok : ∀ (j : Nat) (t : TypeId) (r : Value), f.resultTypes[j]? = some t → (v.resultList f.resultTypes.size)[j]? = some r → Value.okWide P W' .any 0 t r) :
    s.post enc P f apart fresh handsOn again W args v W' := by
  have hlt : ∀ p ∈ before, p.block < W.heap.size := fun p hp => hW.lt p hp
  have hold : ∀ p ∈ before, (fun b => decide (b < W.heap.size)) p.block = true := fun p hp => by simpa using hlt p hp
  refine ⟨ds, gs, before, [], pa, pv, hW, hres _ _ _, hargs _ hold, hvars _ hold, World.keptBut_mono (fun p hp => ⟨hp, ?_⟩) (hb.frame (· ∈ before)), fun _ => ?_⟩
  · rw [hps, List.mem_append] at hp
    exact Or.inr hp
  · obtain ⟨_, _, _, _, _, hz, hn⟩ := hW
    refine ⟨hok, _, _, ([] ++ pa) ++ pv, ⟨[] ++ pa, pv, trodAll_append (hargs _ (fun _ _ => rfl)) (hres _ _ _), hvars _ (fun _ _ => rfl), rfl, ?_, ?_⟩, ?_⟩
    · intro b off hp
      have hin : MemPlace.cell b off ∈ before := by rw [hps]; simpa using hp
      rw [hb.frozen (hlt _ hin)]
      exact hz b off hin
    · intro ha
      have := hn ha
      rw [hps] at this
      simpa using this
    · intro p hp _
      rw [hps]
      simpa using hp

/-- a law that answers true and leaves everything below where it was -/
theorem post_of_law {f : Func} {s : ChangeSpec} {apart fresh handsOn again : Bool} {W W' : World} {args : Array Value} {ds gs : List (DataW H)} {before : List MemPlace} {bt : TypeId}
    (hl : laidOutB P = true) (hv : s.vars = []) (hr : f.resultTypes = #[bt]) (hbt : P.underlying bt = some .bool) (hp : (f.params.toList.all fun t => P.readableRec t && decide (t < P.types.size)) = true)
    (hW : DataW.Whole enc P f.params.toList s.vars apart W args.toList ds gs before) (hs : (s.fn H (ds ++ gs)) = { results := [.lit (.bool true)], args := ds })
    (hb : Below W.heap.size W W') : s.post enc P f apart fresh handsOn again W args (.bool true) W' := by
  have hW' := hW
  obtain ⟨p, q, hA, hV, hpq, _⟩ := hW
  rw [hv] at hV
  obtain ⟨rfl, rfl⟩ := trodVars_none hV
  rw [List.append_nil] at hpq
  subst hpq
  refine post_of_below (pa := before) (pv := []) hW' (fun b sp hd => ?_) (fun sp hsp => ?_) (fun sp _ => ?_) (by simp) hb ?_
  · rw [hs, hr]
    exact trodAll_mk1 ⟨1, by simp [DataW.trod, hbt, Value.cells]⟩
  · rw [hs]
    exact trodAll_stays hl hb hp hA (fun x hx => hW'.lt x hx) sp hsp
  · rw [hs, hv]
    rfl
  · exact ok_one hr rfl (okWide_bool_mk hbt true)
end

theorem exists_map {α β : Type} (f : α → β) : ∀ (l : List β), (∀ y ∈ l, ∃ x, y = f x) → ∃ m : List α, l = m.map f
  | [], _ => ⟨[], rfl⟩
  | y :: l, h => by
    obtain ⟨x, rfl⟩ := h y (by simp)
    obtain ⟨m, rfl⟩ := exists_map f l (fun y hy => h y (by simp [hy]))
    exact ⟨x :: m, rfl⟩

section
variable {H : Type} {enc : TypeId × Value → H} {P : Program} {W : World} {base : Nat} {spare : Nat → Bool} {held : Bool}
theorem open_arr {t e : TypeId} {k : IntKind} {n : Nat} {v : Value} {d : DataW H} {p : List MemPlace} (ht : P.underlying t = some (.array n e)) (he : P.underlying e = some (.int k)) (hc : P.cellsOf e = 1) (hct : P.cellsOf t = n)
    (hok : Value.okWide P W .any base t v) (h : DataW.Trod enc P W 0 spare held t v d p) : ∃ cs : List Value, v = .agg cs.toArray ∧ cs.length = n ∧ ∀ y ∈ cs, ∃ x : Int, y = .int k x ∧ (Lit.int k x).wf = true := by
  simp only [Value.okWide, ht] at hok
  obtain ⟨cs, rfl, hsz, _⟩ := hok
  obtain ⟨fuel, h⟩ := h
  obtain ⟨xs, m, rfl, _, hl, hxl, hi⟩ := DataW.trod_array ht h
  refine ⟨cs.toList, rfl, by simpa [hct] using hsz, fun y hy => ?_⟩
  obtain ⟨i, hin, hiy⟩ := List.getElem_of_mem hy
  have hin' : i < n := by simpa [← hct, ← hsz] using hin
  have h1 := hi i hin'
  rw [hc, Nat.mul_one, List.getElem?_eq_getElem (by omega)] at h1
  obtain ⟨x, hx, _, hwf⟩ := DataW.trod_int he h1
  refine ⟨x, ?_, hwf⟩
  have h2 := congrArg (·[0]?) hx
  simp only [Value.cells, List.getElem?_cons_zero] at h2
  rw [List.getElem?_take_of_lt (by omega), List.getElem?_drop, Nat.add_zero, List.getElem?_eq_getElem hin] at h2
  rw [← hiy]
  exact Option.some.inj h2
theorem open_arrB {t e : TypeId} {n : Nat} {v : Value} {d : DataW H} {p : List MemPlace} (ht : P.underlying t = some (.array n e)) (he : P.underlying e = some (.int .u8)) (hc : P.cellsOf e = 1) (hct : P.cellsOf t = n)
    (hok : Value.okWide P W .any base t v) (h : DataW.Trod enc P W 0 spare held t v d p) : ∃ l : List UInt8, v = .agg (l.map B).toArray ∧ l.length = n := by
  obtain ⟨cs, rfl, hl, hcs⟩ := open_arr ht he hc hct hok h
  obtain ⟨m, rfl⟩ := exists_map B cs (fun y hy => by
    obtain ⟨x, rfl, hwf⟩ := hcs y hy
    have := bounds_u8 hwf
    exact ⟨UInt8.ofNat x.toNat, by simp [B, UInt8.toNat_ofNat']; omega⟩)
  exact ⟨m, rfl, by simpa using hl⟩
theorem open_arrU {t e : TypeId} {n : Nat} {v : Value} {d : DataW H} {p : List MemPlace} (ht : P.underlying t = some (.array n e)) (he : P.underlying e = some (.int .u32)) (hc : P.cellsOf e = 1) (hct : P.cellsOf t = n)
    (hok : Value.okWide P W .any base t v) (h : DataW.Trod enc P W 0 spare held t v d p) : ∃ l : List UInt32, v = .agg (l.map U).toArray ∧ l.length = n := by
  obtain ⟨cs, rfl, hl, hcs⟩ := open_arr ht he hc hct hok h
  obtain ⟨m, rfl⟩ := exists_map U cs (fun y hy => by
    obtain ⟨x, rfl, hwf⟩ := hcs y hy
    have := bounds_u32 hwf
    exact ⟨UInt32.ofNat x.toNat, by simp [U, UInt32.toNat_ofNat']; omega⟩)
  exact ⟨m, rfl, by simpa using hl⟩
end
end Go.Proofs.YtfhmjgkcpcnkbaaDoor
/- Words for memory: a block known whole; what is read through a slice. No program in sight. -/
namespace Go.Proofs.YtfhmjgkcpcnkbaaDoor
open Go.RowKit

/-- block g is just these cells of element type t, none frozen -/
def Blk (w : World) (g : Nat) (t : TypeId) (cs : Array Value) : Prop := w.heap[g]? = some (.cells cs t (0, 0))

section
variable {w w' : World} {g : Nat} {t : TypeId} {cs : Array Value}
theorem Blk.lt (h : Blk w g t cs) : g < w.heap.size := by
  rcases Nat.lt_or_ge g w.heap.size with hlt | hge
  · exact hlt
  · unfold Blk at h; rw [Array.getElem?_eq_none hge] at h; cases h
theorem Blk.cell (h : Blk w g t cs) (i : Nat) : w.cell? ⟨g, i, none⟩ = cs[i]? := cell_of_row w g i cs t (0, 0) h
theorem Blk.frozen (h : Blk w g t cs) (i : Nat) : w.frozen? ⟨g, i, none⟩ = false := by
  unfold Blk at h
  simp [World.frozen?, h]
theorem Blk.new (w : World) (t : TypeId) (cs : Array Value) : Blk (w.alloc (.cells cs t)) w.heap.size t cs := heap_alloc_new w _
theorem Blk.drew (h : Blk w g t cs) : Blk w.drew g t cs := h
theorem Blk.drewN (h : Blk w g t cs) (n : Nat) : Blk (w.drewN n) g t cs := h
theorem Blk.alloc (h : Blk w g t cs) (o : Obj) : Blk (w.alloc o) g t cs := (Below.heap_alloc w o g h.lt).trans h
theorem Blk.set_ (h : Blk w g t cs) (i : Nat) (u : Value) : Blk (w.setCell ⟨g, i, none⟩ u) g t (cs.setIfInBounds i u) := by
  unfold Blk at h ⊢
  simp [World.setCell, Array.getElem?_modify, h]
theorem Blk.far (h : Blk w g t cs) {p : Addr} (hp : g ≠ p.block) (u : Value) : Blk (w.setCell p u) g t cs := (Below.heap_setCell w p u g hp).trans h
theorem Blk.apart (h : Blk w g t cs) {g' i : Nat} (hp : g ≠ g') (u : Value) : Blk (w.setCell ⟨g', i, none⟩ u) g t cs := h.far (p := ⟨g', i, none⟩) hp u
theorem Blk.below {B : Nat} (h : Blk w g t cs) (hb : Below B w w') (hg : g < B) : Blk w' g t cs := (hb.block g hg).trans h
theorem Blk.grown {row : Option Nat} (h : Blk w g t cs) (hb : w.grownBy w' row) (hg : some g ≠ row) : Blk w' g t cs := (hb.block g h.lt hg).trans h
end

theorem Blk.setRow_ {w : World} {g : Nat} {t : TypeId} {cs : Array Value} (h : Blk w g t cs) (cs' : Array Value) : Blk (w.setRow g cs') g t cs' := setRow_heap w g cs cs' t (0, 0) h
theorem Blk.setRow_apart {w : World} {g g' : Nat} {t : TypeId} {cs : Array Value} (h : Blk w g t cs) (hp : g ≠ g') (cs' : Array Value) : Blk (w.setRow g' cs') g t cs := (setRow_other w g' g cs' hp).trans h

theorem addr_add (g o j : Nat) : (⟨g, o, none⟩ : Addr).add j = ⟨g, o + j, none⟩ := by unfold Addr.add; split <;> simp_all

/-- an array, a struct, read whole -/
theorem run_load_agg {P : Program} {w : World} {ty : TypeId} {n : Nat} (hagg : (isAgg ty).run P w = .ok true w) (hsz : (sizeOf ty).run P w = .ok n w) (g o : Nat) (cs : List Value) (hl : cs.length = n)
    (h : ∀ j u, cs[j]? = some u → w.cell? ⟨g, o + j, none⟩ = some u) : (Instr.loadAt ty (.pointer (some ⟨g, o, none⟩))).run P w = .ok (.agg cs.toArray) w := by
  have hc : (loadCells ⟨g, o, none⟩ cs.length).run P w = .ok cs.toArray w := run_loadCells_list w _ cs (fun j v hv => by rw [addr_add]; exact h j v hv)
  rw [hl] at hc
  simp [Instr.loadAt, Instr.sureAddr, loadVar, Sem.run_bind, hagg, hsz, hc]
theorem run_load_blk {P : Program} {w : World} {ty t : TypeId} {n : Nat} (hagg : (isAgg ty).run P w = .ok true w) (hsz : (sizeOf ty).run P w = .ok n w) (g : Nat) (cs : Array Value) (hl : cs.size = n)
    (h : Blk w g t cs) : (Instr.loadAt ty (.pointer (some ⟨g, 0, none⟩))).run P w = .ok (.agg cs) w := by
  have := run_load_agg (P := P) (w := w) hagg hsz g 0 cs.toList (by simpa using hl) (fun j u hu => by rw [Nat.zero_add, h.cell]; simpa using hu)
  simpa using this
/-- an array, a struct, written whole -/
theorem run_store_agg {P : Program} {w : World} {ty t : TypeId} {n : Nat} (hsz : (sizeOf ty).run P w = .ok n w) (g o : Nat) (vs cur : Array Value) (hv : vs.size = n) (h1 : ∀ v ∈ vs.toList, v.oneCell' = true)
    (hg : Blk w g t cur) (hb : o + n ≤ cur.size) : (Instr.storeAt ty (.pointer (some ⟨g, o, none⟩)) (.agg vs)).run P w = .ok () (w.setRow g (cur.toList.take o ++ vs.toList ++ cur.toList.drop (o + n)).toArray) := by
  have hc := run_storeCells_at P g o t vs.toList 0 cur w hg (by simpa [hv] using hb) h1
  simp only [Nat.add_zero, Array.length_toList, hv] at hc
  simp [Instr.storeAt, Instr.sureAddr, storeVar, Sem.run_bind, hsz, Value.cells, hv, hc]
theorem run_store_blk {P : Program} {w : World} {ty t : TypeId} {n : Nat} (hsz : (sizeOf ty).run P w = .ok n w) (g : Nat) (vs cur : Array Value) (hv : vs.size = n) (h1 : ∀ v ∈ vs.toList, v.oneCell' = true)
    (hg : Blk w g t cur) (hc : cur.size = n) : (Instr.storeAt ty (.pointer (some ⟨g, 0, none⟩)) (.agg vs)).run P w = .ok () (w.setRow g vs) := by
  have := run_store_agg (P := P) hsz g 0 vs cur hv h1 hg (by omega)
  have hd : cur.toList.drop (0 + n) = [] := List.drop_eq_nil_of_le (by simp [hc])
  rw [hd] at this
  simpa using this
theorem wpList_store_blk {P : Program} {w : World} {ops : Array Oper} {rest : List Oper} {o : Oper} {a : Act} {Q : Exit → Act → World → Prop} (hgd : o.guard = none) (ty : TypeId) (x y : Operand) (ho : o.op = .store ty x y)
    (n : Nat) (hsz : ∀ w : World, (sizeOf ty).run P w = .ok n w) (g : Nat) (vs : Array Value) (hx : a.eval x = .pointer (some ⟨g, 0, none⟩)) (hy : a.eval y = .agg vs) (hv : vs.size = n) (h1 : ∀ v ∈ vs.toList, v.oneCell' = true)
    (t : TypeId) (cur : Array Value) (hg : Blk w g t cur) (hc : cur.size = n) (h : wpList P ops Q rest (a.put o.dst undef) (w.setRow g vs)) : wpList P ops Q (o :: rest) a w :=
  wpList_plain hgd fun _ hK => by
    unfold Oper.wp execOp
    simp only [ho, hx, hy, run_store_blk (P := P) (hsz w) g vs cur hv h1 hg hc, Sem.run_bind, Sem.run_pure, Result.andThen_ok, Oper.upon]
    exact hK _ _ h
theorem Blk.new' (w : World) (t : TypeId) (cs : Array Value) (n : Nat) (hn : n = w.heap.size) : Blk (w.alloc (.cells cs t)) n t cs := by subst hn; exact Blk.new w t cs
/-- a region that draws its order, whose operations leave the world as it is: walked once, in the text's order -/
theorem still_region {P : Program} {id : Nat} {Q : Exit → Act → World → Prop} {a : Act} {w : World} {l : List Oper} (hm : P.follows .mixedOrders = true) (hB : Region.lexB .any l.toArray = true)
    (h : wpStill P l.toArray w.drew (fun a' => Q .normal a' w.drew) l a) : (Code.region id l.toArray true).wp P Q a w := wp_region_still_lit hm hB h
/-- the same, but for a tail in one forced order -/
theorem still_region_tail {P : Program} {id : Nat} {Q : Exit → Act → World → Prop} {a : Act} {w : World} {l : List Oper} (n : Nat) (hm : P.follows .mixedOrders = true) (hB : Region.lexTailB .any l.toArray n = true)
    (h : wpStill P l.toArray w.drew (fun a' => wpList P l.toArray Q (l.drop n) a' w.drew) (l.take n) a) : (Code.region id l.toArray true).wp P Q a w := wp_region_still_tail n hm hB h
/-- an operation whose run is known, by whatever means -/
theorem wpList_run0 {P : Program} {w : World} {ops : Array Oper} {rest : List Oper} {o : Oper} {a : Act} {Q : Exit → Act → World → Prop} (hgd : o.guard = none) (v : Value) (hrun : (execOp a.eval o).run P w = .ok (.value v) w)
    (h : wpList P ops Q rest (a.put o.dst v) w) : wpList P ops Q (o :: rest) a w :=
  wpList_plain hgd fun _ hK => by
    unfold Oper.wp
    rw [hrun]
    exact hK _ _ h
theorem wpList_run {P : Program} {w : World} {ops : Array Oper} {rest : List Oper} {o : Oper} {a : Act} {Q : Exit → Act → World → Prop} (hgd : o.guard = none) (v : Value) (w' : World) (hrun : (execOp a.eval o).run P w = .ok (.value v) w')
    (h : wpList P ops Q rest (a.put o.dst v) w') : wpList P ops Q (o :: rest) a w :=
  wpList_plain hgd fun _ hK => by
    unfold Oper.wp
    rw [hrun]
    exact hK _ _ h
theorem oneCell_U (L : List UInt32) : ∀ v ∈ (L.map U).toArray.toList, v.oneCell' = true := by simp [Value.oneCell']
theorem oneCell_B (L : List UInt8) : ∀ v ∈ (L.map B).toArray.toList, v.oneCell' = true := by simp [Value.oneCell']

/-- the world under a name of its own, with what is known of it -/
theorem wp_world {P : Program} {c : Code} {Q : Exit → Act → World → Prop} {a : Act} {w0 : World} (F : World → Prop) (h : F w0) (hr : ∀ w, F w → Code.wp P c Q a w) : Code.wp P c Q a w0 := hr _ h
theorem wpList_world {P : Program} {ops : Array Oper} {Q : Exit → Act → World → Prop} {l : List Oper} {a : Act} {w0 : World} (F : World → Prop) (h : F w0) (hr : ∀ w, F w → wpList P ops Q l a w) : wpList P ops Q l a w0 := hr _ h

/-- a cell of a block of words, of bytes -/
theorem cellU (L : List UInt32) (i : Nat) (h : i < L.length) : ((L.map U).toArray)[i]? = some (U (L.getD i 0)) := by
  simp [List.getElem?_eq_getElem h, List.getD_eq_getElem?_getD]
theorem cellB (L : List UInt8) (i : Nat) (h : i < L.length) : ((L.map B).toArray)[i]? = some (B (L.getD i 0)) := by
  simp [List.getElem?_eq_getElem h, List.getD_eq_getElem?_getD]
theorem setU (L : List UInt32) (i : Nat) (x : UInt32) : ((L.map U).toArray).setIfInBounds i (U x) = ((L.set i x).map U).toArray := by simp
theorem setB (L : List UInt8) (i : Nat) (x : UInt8) : ((L.map B).toArray).setIfInBounds i (B x) = ((L.set i x).map B).toArray := by simp
theorem getD_set_same {α : Type} (L : List α) (t : Nat) (x d : α) (h : t < L.length) : (L.set t x).getD t d = x := by
  simp [List.getD_eq_getElem?_getD, h]
theorem getD_set_other {α : Type} (L : List α) (t i : Nat) (x d : α) (h : t ≠ i) : (L.set t x).getD i d = L.getD i d := by
  simp [List.getD_eq_getElem?_getD, h]
theorem getD_take {α : Type} (L : List α) (t i : Nat) (d : α) (h : i < t) : (L.take t).getD i d = L.getD i d := by
  simp [List.getD_eq_getElem?_getD, h]
theorem take_set_succ {α : Type} (L : List α) (t : Nat) (x : α) (h : t < L.length) : (L.set t x).take (t + 1) = L.take t ++ [x] := by
  rw [List.take_succ_eq_append_getElem (by simpa using h)]
  rw [List.take_set_of_le (Nat.le_refl _)]
  simp

theorem wpList_store_agg {P : Program} {w : World} {ops : Array Oper} {rest : List Oper} {o : Oper} {a : Act} {Q : Exit → Act → World → Prop} (hgd : o.guard = none) (ty : TypeId) (x y : Operand) (ho : o.op = .store ty x y)
    (n : Nat) (hsz : ∀ w : World, (sizeOf ty).run P w = .ok n w) (g off : Nat) (vs : Array Value) (hx : a.eval x = .pointer (some ⟨g, off, none⟩)) (hy : a.eval y = .agg vs) (hv : vs.size = n) (h1 : ∀ v ∈ vs.toList, v.oneCell' = true)
    (t : TypeId) (cur : Array Value) (hg : Blk w g t cur) (hc : off + n ≤ cur.size) (h : wpList P ops Q rest (a.put o.dst undef) (w.setRow g (cur.toList.take off ++ vs.toList ++ cur.toList.drop (off + n)).toArray)) : wpList P ops Q (o :: rest) a w :=
  wpList_plain hgd fun _ hK => by
    unfold Oper.wp execOp
    simp only [ho, hx, hy, run_store_agg (P := P) (hsz w) g off vs cur hv h1 hg hc, Sem.run_bind, Sem.run_pure, Result.andThen_ok, Oper.upon]
    exact hK _ _ h

/-- a slice's length -/
def sliceLen : Value → Nat
  | .slice _ n _ => n
  | _ => 0

/-- a slice's elements, as cells, in blocks of which X holds -/
def Bs (w : World) (X : Nat → Prop) (A : Option Addr) (l : List Value) : Prop :=
  l ≠ [] → ∃ b o, A = some ⟨b, o, none⟩ ∧ b < w.heap.size ∧ X b ∧ ∀ j v, l[j]? = some v → w.cell? ⟨b, o + j, none⟩ = some v
section
variable {w w' : World} {X Y : Nat → Prop} {A : Option Addr} {l : List Value}
theorem Bs.nil : Bs w X A [] := fun h => absurd rfl h
theorem Bs.weak (h : Bs w X A l) (hX : ∀ b, b < w.heap.size → X b → Y b) : Bs w Y A l := fun hl =>
  let ⟨b, o, h1, h2, h3, h4⟩ := h hl
  ⟨b, o, h1, h2, hX b h2 h3, h4⟩
theorem Bs.keep (h : Bs w X A l) (hs : w.heap.size ≤ w'.heap.size) (hk : ∀ p : Addr, p.block < w.heap.size → X p.block → w'.cell? p = w.cell? p) : Bs w' X A l := fun hl =>
  let ⟨b, o, h1, h2, h3, h4⟩ := h hl
  ⟨b, o, h1, by omega, h3, fun j v hv => (hk ⟨b, o + j, none⟩ h2 h3).trans (h4 j v hv)⟩
theorem Bs.drewN (h : Bs w X A l) (n : Nat) : Bs (w.drewN n) X A l := h
theorem Bs.drew (h : Bs w X A l) : Bs w.drew X A l := h
theorem Bs.alloc (h : Bs w X A l) (o : Obj) : Bs (w.alloc o) X A l := h.keep (by simp) fun p hp _ => World.cell?_alloc_lt w o p hp
theorem Bs.below {B : Nat} (h : Bs w X A l) (hb : Go.RowKit.Below B w w') (hX : ∀ b, b < w.heap.size → X b → b < B) : Bs w' X A l := h.keep hb.size fun _ hp hx => hb.cell (hX _ hp hx)
theorem Bs.grown {row : Option Nat} (h : Bs w X A l) (hg : w.grownBy w' row) (hX : ∀ b, b < w.heap.size → X b → some b ≠ row) : Bs w' X A l :=
  h.keep hg.size fun p hp hx => World.cell?_of_block (hg.block p.block hp (hX _ hp hx))
theorem Bs.setCell (h : Bs w X A l) {p : Addr} (u : Value) (hX : ¬ X p.block) : Bs (w.setCell p u) X A l :=
  h.keep (by simp [World.setCell]) fun q _ hx => World.cell?_setCell_other w p q u (fun e => by subst e; exact hX hx)
theorem Bs.drop {c k s : Nat} (h : Bs w X A l) (hc : l.length ≤ c * s) : Bs w X (if c = k then A else A.map (·.add (k * s))) (l.drop (k * s)) := fun hl => by
  have hne : l ≠ [] := fun e => hl (by rw [e]; simp)
  obtain ⟨b, o, rfl, h2, h3, h4⟩ := h hne
  have hlt : k * s < l.length := by
    rcases Nat.lt_or_ge (k * s) l.length with h | h
    · exact h
    · exact absurd (List.drop_eq_nil_of_le h) hl
  rw [if_neg (fun e => by subst e; omega)]
  refine ⟨b, o + k * s, by simp [addr_add], h2, h3, fun j v hv => ?_⟩
  rw [show o + k * s + j = o + (k * s + j) by omega]
  exact h4 _ v (by rw [← hv, List.getElem?_drop])
theorem Bs.take {k : Nat} (h : Bs w X A l) : Bs w X A (l.take k) := fun hl => by
  have hne : l ≠ [] := fun e => hl (by rw [e]; simp)
  obtain ⟨b, o, h1, h2, h3, h4⟩ := h hne
  refine ⟨b, o, h1, h2, h3, fun j v hv => h4 j v ?_⟩
  rw [List.getElem?_take] at hv
  split at hv
  · exact hv
  · cases hv
theorem Bs.at_ (h : Bs w X A l) (hl : 0 < l.length) : ∃ b o, A = some ⟨b, o, none⟩ ∧ b < w.heap.size ∧ X b ∧ ∀ j v, l[j]? = some v → w.cell? ⟨b, o + j, none⟩ = some v := h (by intro e; simp [e] at hl)
end

theorem Bs.setRow_ {w : World} {g : Nat} {A : Option Addr} {l : List Value} (h : Bs w (· ≠ g) A l) (cs : Array Value) : Bs (w.setRow g cs) (· ≠ g) A l :=
  h.keep (by simp) fun _ _ hx => World.cell?_of_block (setRow_other w g _ cs hx)
theorem grown_setRow {w w' : World} {g : Nat} (h : w.grownBy w' (some g)) (cs : Array Value) : w.grownBy (w'.setRow g cs) (some g) :=
  ⟨h.os, h.tape, h.output, by simpa using h.size, fun i hi hne => (setRow_other w' g i cs (fun e => hne (by rw [e]))).trans (h.block i hi hne)⟩
theorem grown_setCell {w w' : World} {g : Nat} (h : w.grownBy w' (some g)) (i : Nat) (u : Value) : w.grownBy (w'.setCell ⟨g, i, none⟩ u) (some g) :=
  ⟨h.os, h.tape, h.output, by simpa [World.setCell] using h.size, fun k hk hne => (Go.RowKit.Below.heap_setCell w' ⟨g, i, none⟩ u k (fun e => hne (by rw [e]))).trans (h.block k hk hne)⟩
theorem grown_drewN {a w : World} {row : Option Nat} (h : a.grownBy w row) (n : Nat) : a.grownBy (w.drewN n) row := ⟨h.os, h.tape, h.output, h.size, h.block⟩
theorem grown_drew {a w : World} {row : Option Nat} (h : a.grownBy w row) : a.grownBy w.drew row := ⟨h.os, h.tape, h.output, h.size, h.block⟩
theorem grown_below {a w w' : World} {row : Option Nat} (h : a.grownBy w row) (hb : Go.RowKit.Below w.heap.size w w') : a.grownBy w' row :=
  ⟨hb.os.trans h.os, hb.tape.trans h.tape, hb.output.trans h.output, Nat.le_trans h.size hb.size, fun k hk hne => (hb.block k (Nat.lt_of_lt_of_le hk h.size)).trans (h.block k hk hne)⟩

/-- 's[k:]' -/
theorem run_slice_low {P : Program} {t : TypeId} {s : Nat} (ht : P.underlying t = some (.slice (P.elem t))) (hs : ∀ W : World, (sizeOf (P.elem t)).run P W = .ok s W) (A : Option Addr) (n c k : Nat) (hk : k ≤ n) (W : World) :
    (Instr.sliceAt t (.slice A n c) (some (.int .i64 (k : Int))) none none).run P W = .ok (.slice (if c = k then A else A.map (·.add (k * s))) (n - k) (c - k)) W := by
  rw [run_sliceAt_slice W t _ _ _ _ ht, run_slice_l W t A n c ht .i64 (k : Int) (by omega) (by omega), hs]
  simp [sliced, Result.andThen]
/-- 's[:k]' -/
theorem run_slice_high {P : Program} {t : TypeId} {s : Nat} (ht : P.underlying t = some (.slice (P.elem t))) (hs : ∀ W : World, (sizeOf (P.elem t)).run P W = .ok s W) (A : Option Addr) (n c k : Nat) (hk : k ≤ c) (W : World) :
    (Instr.sliceAt t (.slice A n c) none (some (.int .i64 (k : Int))) none).run P W = .ok (.slice A k c) W := by
  rw [run_sliceAt_slice W t _ _ _ _ ht, run_slice_h W t A n c ht .i64 (k : Int) (by omega) (by omega), hs]
  simp [sliced, Result.andThen]
  intro _
  cases A <;> simp [Addr.add]
/-- 'p[k:]' of an array behind a pointer -/
theorem run_slice_arr {P : Program} {t : TypeId} {s N : Nat} (ht : P.underlying t = some (.array (P.arrayLen t) (P.elem t))) (hN : P.arrayLen t = N) (hs : ∀ W : World, (sizeOf (P.elem t)).run P W = .ok s W) (g o k : Nat) (hk : k < N) (W : World) :
    (Instr.sliceAt t (.pointer (some ⟨g, o, none⟩)) (some (.int .i64 (k : Int))) none none).run P W = .ok (.slice (some ⟨g, o + k * s, none⟩) (N - k) (N - k)) W := by
  rw [run_sliceAt_array_l W t _ ht .i64 (k : Int) (by omega) (by rw [hN]; omega), hs, hN]
  simp only [slicedAt, Result.andThen, Int.toNat_natCast]
  rw [if_neg (by omega), addr_add]
/-- 'copy(p[..], src)' into a block that is known whole, one-cell elements -/
theorem run_copy_blk {P : Program} {w : World} {T E : TypeId} (ty : TypeId) (hu : P.underlying T = some (.slice E)) (hs : (P.info? E).map (·.size) = some 1) (g o : Nat) (t : TypeId) (cur : Array Value) (dLen dCap : Nat)
    (X : Nat → Prop) (A : Option Addr) (l : List Value) (n c : Nat) (hg : Blk w g t cur) (hl : l.length = n) (hb : Bs w X A l) (hfit : o + Nat.min n dLen ≤ cur.size) (h1 : ∀ v ∈ l, v.oneCell' = true) :
    (Builtin.copy_ #[T, T] ty #[.slice (some ⟨g, o, none⟩) dLen dCap, .slice A n c]).run P w =
      .ok (.int .i64 ((Nat.min n dLen : Nat) : Int)) (w.setRow g (cur.toList.take o ++ l.take (Nat.min n dLen) ++ cur.toList.drop (o + Nat.min n dLen)).toArray) := by
  by_cases h0 : Nat.min n dLen = 0
  · rw [h0]
    have := run_copy_none (P := P) w T T ty E (some ⟨g, o, none⟩) A dLen dCap n c hu hs h0
    rw [this]
    simp only [List.take_zero, List.append_nil, Nat.add_zero, List.take_append_drop, Array.toArray_toList]
    rw [setRow_self w g cur t (0, 0) hg]
    rfl
  · have hpos : 0 < l.length := by rw [hl]; have : Nat.min n dLen ≤ n := Nat.min_le_left _ _; omega
    obtain ⟨b, ob, rfl, h2, h3, h4⟩ := hb.at_ hpos
    have hlen : (l.take (Nat.min n dLen)).length = Nat.min n dLen := by
      rw [List.length_take, hl]
      have : Nat.min n dLen ≤ n := Nat.min_le_left _ _
      omega
    have := run_copy_row (P := P) w T T ty E g o dLen dCap ⟨b, ob, none⟩ n c cur t (l.take (Nat.min n dLen)) hu hs hg hlen (fun j v hv => by
      rw [addr_add]
      refine h4 j v ?_
      rw [List.getElem?_take] at hv
      split at hv
      · exact hv
      · cases hv) (by rw [hlen]; exact hfit) (fun v hv => h1 v (List.mem_of_mem_take hv))
    rw [this, hlen]
    rfl

/-- a slice of slices of bytes, all in blocks of which X holds -/
def BsS (w : World) (X : Nat → Prop) (A : Option Addr) (ls : List (List UInt8)) : Prop :=
  ∃ vs : List Value, Bs w X A vs ∧ vs.length = ls.length ∧ ∀ i (h : i < ls.length), ∃ Ai ci, vs[i]? = some (.slice Ai (ls[i]).length ci) ∧ (ls[i]).length ≤ ci ∧ Bs w X Ai ((ls[i]).map B)
section
variable {w w' : World} {X Y : Nat → Prop} {A : Option Addr} {ls : List (List UInt8)}
theorem BsS.keep (h : BsS w X A ls) (hs : w.heap.size ≤ w'.heap.size) (hk : ∀ p : Addr, p.block < w.heap.size → X p.block → w'.cell? p = w.cell? p) : BsS w' X A ls :=
  let ⟨vs, h1, h2, h3⟩ := h
  ⟨vs, h1.keep hs hk, h2, fun i hi => let ⟨Ai, ci, e1, e2, e3⟩ := h3 i hi; ⟨Ai, ci, e1, e2, e3.keep hs hk⟩⟩
theorem BsS.weak (h : BsS w X A ls) (hX : ∀ b, b < w.heap.size → X b → Y b) : BsS w Y A ls :=
  let ⟨vs, h1, h2, h3⟩ := h
  ⟨vs, h1.weak hX, h2, fun i hi => let ⟨Ai, ci, e1, e2, e3⟩ := h3 i hi; ⟨Ai, ci, e1, e2, e3.weak hX⟩⟩
theorem BsS.below {B : Nat} (h : BsS w X A ls) (hb : Go.RowKit.Below B w w') (hX : ∀ b, b < w.heap.size → X b → b < B) : BsS w' X A ls := h.keep hb.size fun _ hp hx => hb.cell (hX _ hp hx)
end
end Go.Proofs.YtfhmjgkcpcnkbaaDoor
/- SHA-256 in plain Lean: what both texts are held against. No program in sight. -/
namespace Go.Proofs.YtfhmjgkcpcnkbaaDoor

/-- to the right, by n -/
def rotr (x : UInt32) (n : Nat) : UInt32 := x >>> UInt32.ofNat n ||| x <<< UInt32.ofNat (32 - n)
/-- four bytes, the highest first -/
def be4 (a b c d : UInt8) : UInt32 := UInt32.ofNat (((a.toNat * 256 + b.toNat) * 256 + c.toNat) * 256 + d.toNat)
theorem be4_toNat (a b c d : UInt8) : (be4 a b c d).toNat = ((a.toNat * 256 + b.toNat) * 256 + c.toNat) * 256 + d.toNat := by
  have ha := u8_lt a
  have hb := u8_lt b
  have hc := u8_lt c
  have hd := u8_lt d
  unfold be4
  rw [UInt32.toNat_ofNat']
  omega

def K256 : List UInt32 := [
  0x428a2f98, 0x71374491, 0xb5c0fbcf, 0xe9b5dba5, 0x3956c25b, 0x59f111f1, 0x923f82a4, 0xab1c5ed5,
  0xd807aa98, 0x12835b01, 0x243185be, 0x550c7dc3, 0x72be5d74, 0x80deb1fe, 0x9bdc06a7, 0xc19bf174,
  0xe49b69c1, 0xefbe4786, 0x0fc19dc6, 0x240ca1cc, 0x2de92c6f, 0x4a7484aa, 0x5cb0a9dc, 0x76f988da,
  0x983e5152, 0xa831c66d, 0xb00327c8, 0xbf597fc7, 0xc6e00bf3, 0xd5a79147, 0x06ca6351, 0x14292967,
  0x27b70a85, 0x2e1b2138, 0x4d2c6dfc, 0x53380d13, 0x650a7354, 0x766a0abb, 0x81c2c92e, 0x92722c85,
  0xa2bfe8a1, 0xa81a664b, 0xc24b8b70, 0xc76c51a3, 0xd192e819, 0xd6990624, 0xf40e3585, 0x106aa070,
  0x19a4c116, 0x1e376c08, 0x2748774c, 0x34b0bcb5, 0x391c0cb3, 0x4ed8aa4a, 0x5b9cca4f, 0x682e6ff3,
  0x748f82ee, 0x78a5636f, 0x84c87814, 0x8cc70208, 0x90befffa, 0xa4506ceb, 0xbef9a3f7, 0xc67178f2]
def H256 : List UInt32 := [0x6a09e667, 0xbb67ae85, 0x3c6ef372, 0xa54ff53a, 0x510e527f, 0x9b05688c, 0x1f83d9ab, 0x5be0cd19]

/-- the word t out of a block's bytes -/
def wordAt (bl : List UInt8) (t : Nat) : UInt32 := be4 (bl.getD (4 * t) 0) (bl.getD (4 * t + 1) 0) (bl.getD (4 * t + 2) 0) (bl.getD (4 * t + 3) 0)
def sig0 (x : UInt32) : UInt32 := rotr x 7 ^^^ rotr x 18 ^^^ x >>> 3
def sig1 (x : UInt32) : UInt32 := rotr x 17 ^^^ rotr x 19 ^^^ x >>> 10
/-- the word t, of its first i bytes -/
def partW (bl : List UInt8) (t : Nat) : Nat → UInt32
  | 0 => 0
  | i + 1 => partW bl t i * 256 + (bl.getD (4 * t + i) 0).toUInt32
/-- the next word of the schedule -/
def nextW (w : List UInt32) : UInt32 := w.getD (w.length - 16) 0 + w.getD (w.length - 7) 0 + sig0 (w.getD (w.length - 15) 0) + sig1 (w.getD (w.length - 2) 0)
/-- the first t words -/
def firstW (bl : List UInt8) (t : Nat) : List UInt32 := (List.range t).map (wordAt bl)
/-- n more words -/
def moreW : Nat → List UInt32 → List UInt32
  | 0, w => w
  | n + 1, w => let w' := moreW n w; w' ++ [nextW w']
def sched (bl : List UInt8) : List UInt32 := moreW 48 (firstW bl 16)

theorem length_firstW (bl : List UInt8) (t : Nat) : (firstW bl t).length = t := by simp [firstW]
theorem firstW_succ (bl : List UInt8) (t : Nat) : firstW bl (t + 1) = firstW bl t ++ [wordAt bl t] := by simp [firstW, List.range_succ]
theorem length_moreW (n : Nat) (w : List UInt32) : (moreW n w).length = w.length + n := by
  induction n with
  | zero => rfl
  | succ n ih => simp [moreW, ih]; omega

/-- words' operations behind names that the walk does not open -/
def add32 (x y : UInt32) : UInt32 := x + y
def xor32 (x y : UInt32) : UInt32 := x ^^^ y
def and32 (x y : UInt32) : UInt32 := x &&& y
def not32 (x : UInt32) : UInt32 := ~~~ x
theorem add32_i (x y : UInt32) : ((x.toNat : Int) + (y.toNat : Int)) % 4294967296 = ((add32 x y).toNat : Int) := wadd32' x y
theorem xor32_i (x y : UInt32) : bits .xor .u32 (x.toNat : Int) (y.toNat : Int) = ((xor32 x y).toNat : Int) := bxor32 x y
theorem and32_i (x y : UInt32) : bits .and .u32 (x.toNat : Int) (y.toNat : Int) = ((and32 x y).toNat : Int) := band32 x y

theorem add32_w (x y : UInt32) : IntKind.u32.wrap ((x.toNat : Int) + (y.toNat : Int)) = ((add32 x y).toNat : Int) := wadd32 x y
theorem not32_i (x : UInt32) : bits .xor .u32 (if IntKind.u32.signed = true then -1 else IntKind.u32.max) (x.toNat : Int) = ((not32 x).toNat : Int) := by
  have e : (if IntKind.u32.signed = true then -1 else IntKind.u32.max) = (((4294967295 : UInt32).toNat : Nat) : Int) := by decide
  rw [e, bxor32]
  have h : (4294967295 : UInt32) ^^^ x = ~~~ x := by
    apply UInt32.eq_of_toBitVec_eq
    show BitVec.allOnes 32 ^^^ x.toBitVec = ~~~ x.toBitVec
    rw [BitVec.xor_comm, BitVec.xor_allOnes]
  rw [h]
  rfl

def mul256 (x : UInt32) : UInt32 := x * 256
theorem mul256_w (x : UInt32) : IntKind.u32.wrap ((x.toNat : Int) * 256) = ((mul256 x).toNat : Int) := by
  have := wmul32 x 256
  exact this
theorem mul256_i (x : UInt32) : (x.toNat : Int) * 256 % 4294967296 = ((mul256 x).toNat : Int) := by
  rw [← mul256_w, IntKind.wrap_u32']
def up32 (x : UInt8) : UInt32 := x.toUInt32
theorem up32_w (x : UInt8) : IntKind.u32.wrap (x.toNat : Int) = ((up32 x).toNat : Int) := by
  have := u8_lt x
  rw [IntKind.wrap_u32', up32, UInt8.toNat_toUInt32]; omega
theorem up32_i (x : UInt8) : (x.toNat : Int) % 4294967296 = ((up32 x).toNat : Int) := by
  rw [← up32_w, IntKind.wrap_u32']
theorem partW_succ (bl : List UInt8) (t i : Nat) : partW bl t (i + 1) = add32 (mul256 (partW bl t i)) (up32 (bl.getD (4 * t + i) 0)) := rfl
theorem partW_four (bl : List UInt8) (t : Nat) : partW bl t 4 = wordAt bl t := by
  apply UInt32.toNat.inj
  have h0 := u8_lt (bl.getD (4 * t) 0)
  have h1 := u8_lt (bl.getD (4 * t + 1) 0)
  have h2 := u8_lt (bl.getD (4 * t + 2) 0)
  have h3 := u8_lt (bl.getD (4 * t + 3) 0)
  simp only [partW, wordAt, be4_toNat, UInt32.toNat_add, UInt32.toNat_mul, UInt8.toNat_toUInt32, Nat.add_zero, UInt32.toNat_ofNat]
  omega

def shr3 (x : UInt32) : UInt32 := x >>> 3
def shr10 (x : UInt32) : UInt32 := x >>> 10
theorem shr3_i (x : UInt32) : (x.toNat : Int) / (8 : Int) = ((shr3 x).toNat : Int) := shr32 x 3 (by omega)
theorem shr10_i (x : UInt32) : (x.toNat : Int) / (1024 : Int) = ((shr10 x).toNat : Int) := shr32 x 10 (by omega)

structure S8 where
  a : UInt32
  b : UInt32
  c : UInt32
  d : UInt32
  e : UInt32
  f : UInt32
  g : UInt32
  h : UInt32

def S8.list (s : S8) : List UInt32 := [s.a, s.b, s.c, s.d, s.e, s.f, s.g, s.h]
def S8.of (l : List UInt32) : S8 := ⟨l.getD 0 0, l.getD 1 0, l.getD 2 0, l.getD 3 0, l.getD 4 0, l.getD 5 0, l.getD 6 0, l.getD 7 0⟩
def big1 (e : UInt32) : UInt32 := rotr e 6 ^^^ rotr e 11 ^^^ rotr e 25
def big0 (a : UInt32) : UInt32 := rotr a 2 ^^^ rotr a 13 ^^^ rotr a 22
def tempX (s : S8) (k w : UInt32) : UInt32 := s.h + big1 s.e + (s.e &&& s.f ^^^ ~~~ s.e &&& s.g) + k + w
def tempY (s : S8) : UInt32 := big0 s.a + (s.a &&& s.b ^^^ s.a &&& s.c ^^^ s.b &&& s.c)
def S8.round (s : S8) (k w : UInt32) : S8 := ⟨tempX s k w + tempY s, s.a, s.b, s.c, s.d + tempX s k w, s.e, s.f, s.g⟩
/-- the first t rounds -/
def S8.rounds (s : S8) (ws : List UInt32) : Nat → S8
  | 0 => s
  | t + 1 => (S8.rounds s ws t).round (K256.getD t 0) (ws.getD t 0)
def S8.plus (s v : S8) : S8 := ⟨v.a + s.a, v.b + s.b, v.c + s.c, v.d + s.d, v.e + s.e, v.f + s.f, v.g + s.g, v.h + s.h⟩
/-- a block turns a state -/
def S8.block (s : S8) (bl : List UInt8) : S8 := s.plus (s.rounds (sched bl) 64)

/-- the two steps in which the program makes the next word, in the model's own spelling -/
theorem step_sig0 (y x : UInt32) : ((y.toNat : Int) + bits .xor .u32 (bits .xor .u32 ((rotr x 7).toNat : Int) ((rotr x 18).toNat : Int)) ((x.toNat : Int) / (8 : Int))) % 4294967296 = ((y + sig0 x).toNat : Int) := by
  have e : (x.toNat : Int) / (8 : Int) = ((x >>> 3).toNat : Int) := shr32 x 3 (by omega)
  rw [e, bxor32, bxor32]
  exact wadd32' _ _
theorem step_sig1 (y x : UInt32) : ((y.toNat : Int) + bits .xor .u32 (bits .xor .u32 ((rotr x 17).toNat : Int) ((rotr x 19).toNat : Int)) ((x.toNat : Int) / (1024 : Int))) % 4294967296 = ((y + sig1 x).toNat : Int) := by
  have e : (x.toNat : Int) / (1024 : Int) = ((x >>> 10).toNat : Int) := shr32 x 10 (by omega)
  rw [e, bxor32, bxor32]
  exact wadd32' _ _
theorem nextW_take (L : List UInt32) (t : Nat) (h1 : 16 ≤ t) (h2 : t ≤ L.length) :
    nextW (L.take t) = L.getD (t - 16) 0 + L.getD (t - 7) 0 + sig0 (L.getD (t - 15) 0) + sig1 (L.getD (t - 2) 0) := by
  have hl : (L.take t).length = t := by simp; omega
  unfold nextW
  rw [hl, getD_take _ _ _ _ (by omega), getD_take _ _ _ _ (by omega), getD_take _ _ _ _ (by omega), getD_take _ _ _ _ (by omega)]
theorem moreW_succ (n : Nat) (w : List UInt32) : moreW (n + 1) w = moreW n w ++ [nextW (moreW n w)] := rfl
theorem length_K256 : K256.length = 64 := rfl
theorem length_list (s : S8) : s.list.length = 8 := rfl
theorem of_list (l : List UInt32) (h : l.length = 8) : (S8.of l).list = l := by
  match l, h with
  | [a, b, c, d, e, f, g, h], _ => rfl
theorem of_list' (s : S8) : S8.of s.list = s := rfl
end Go.Proofs.YtfhmjgkcpcnkbaaDoor
/- A sum under way, in plain Lean. No program in sight. -/
namespace Go.Proofs.YtfhmjgkcpcnkbaaDoor

/-- the state behind q whole blocks of l -/
def S8.blocks (s : S8) (l : List UInt8) : Nat → S8
  | 0 => s
  | q + 1 => (S8.blocks s l q).block ((l.drop (64 * q)).take 64)

structure Und where
  st : S8
  len : Nat
  rest : List UInt8

/-- bytes are taken -/
def Und.take (u : Und) (b : List UInt8) : Und :=
  ⟨u.st.blocks (u.rest ++ b) ((u.rest ++ b).length / 64), u.len + b.length, (u.rest ++ b).drop (64 * ((u.rest ++ b).length / 64))⟩
def Und.new : Und := ⟨S8.of H256, 0, []⟩
/-- what every sum under way meets -/
def Und.ok (u : Und) : Prop := u.rest.length = u.len % 64

theorem S8.blocks_append (s : S8) (l m : List UInt8) (q : Nat) (h : 64 * q ≤ l.length) : s.blocks (l ++ m) q = s.blocks l q := by
  induction q with
  | zero => rfl
  | succ q ih =>
    simp only [S8.blocks]
    rw [ih (by omega)]
    congr 1
    rw [List.drop_append_of_le_length (by omega), List.take_append_of_le_length (by simp; omega)]
theorem S8.blocks_add (s : S8) (l : List UInt8) (p q : Nat) : s.blocks l (p + q) = (s.blocks l p).blocks (l.drop (64 * p)) q := by
  induction q with
  | zero => rfl
  | succ q ih =>
    rw [show p + (q + 1) = (p + q) + 1 by omega]
    simp only [S8.blocks]
    rw [ih, List.drop_drop, show 64 * p + 64 * q = 64 * (p + q) by omega]

theorem Und.take_take (u : Und) (a b : List UInt8) : (u.take a).take b = u.take (a ++ b) := by
  have hl : (u.rest ++ (a ++ b)) = (u.rest ++ a) ++ b := by simp
  unfold Und.take
  simp only
  rw [hl]
  generalize u.rest ++ a = l
  have e1 : l.drop (64 * (l.length / 64)) ++ b = (l ++ b).drop (64 * (l.length / 64)) := by rw [List.drop_append_of_le_length (by omega)]
  have e2 : ((l ++ b).drop (64 * (l.length / 64))).length / 64 = (l ++ b).length / 64 - l.length / 64 := by
    rw [List.length_drop, List.length_append]; omega
  have e3 : (l ++ b).length / 64 = l.length / 64 + ((l ++ b).length / 64 - l.length / 64) := by
    rw [List.length_append]; omega
  congr 1
  · rw [e1, e2]
    conv => rhs; rw [e3, S8.blocks_add, S8.blocks_append _ _ _ _ (by omega)]
  · simp; omega
  · rw [e1, e2, List.drop_drop]
    congr 1
    omega
theorem Und.take_ok (u : Und) (b : List UInt8) (h : u.ok) : (u.take b).ok := by
  unfold Und.ok Und.take at *
  simp only [List.length_drop, List.length_append]
  omega
theorem Und.take_nil (u : Und) (h : u.ok) : u.take [] = u := by
  unfold Und.ok at h
  unfold Und.take
  have e : (u.rest ++ []).length / 64 = 0 := by simp; omega
  rw [e]
  simp [S8.blocks]
theorem Und.take_short (u : Und) (b : List UInt8) (h : u.rest.length + b.length < 64) : u.take b = ⟨u.st, u.len + b.length, u.rest ++ b⟩ := by
  unfold Und.take
  have e : (u.rest ++ b).length / 64 = 0 := by simp; omega
  rw [e]
  simp [S8.blocks]
theorem Und.take_full (u : Und) (b : List UInt8) (h : u.rest.length + b.length = 64) : u.take b = ⟨u.st.block (u.rest ++ b), u.len + b.length, []⟩ := by
  unfold Und.take
  have e : (u.rest ++ b).length / 64 = 1 := by simp; omega
  have e2 : (u.rest ++ b).length = 64 := by simp; omega
  have e3 : (u.rest ++ b).take 64 = u.rest ++ b := List.take_of_length_le (by omega)
  have e4 : (u.rest ++ b).drop 64 = [] := List.drop_eq_nil_of_le (by omega)
  rw [e]
  simp only [S8.blocks, Nat.mul_zero, List.drop_zero, Nat.mul_one, e3, e4]
theorem Und.new_ok : Und.new.ok := rfl
theorem Und.take_len (u : Und) (b : List UInt8) : (u.take b).len = u.len + b.length := rfl

/-- a word's four bytes, the highest first -/
def word4 (w : UInt32) : List UInt8 := [(w >>> 24).toUInt8, (w >>> 16).toUInt8, (w >>> 8).toUInt8, w.toUInt8]
/-- a number's eight bytes, the highest first -/
def num8 (n : Nat) : List UInt8 := (List.range 8).map fun i => UInt8.ofNat (n / 256 ^ (7 - i))
def S8.bytes (s : S8) : List UInt8 := s.list.flatMap word4
def Und.pad (u : Und) : List UInt8 := 128 :: (List.replicate ((119 - u.rest.length) % 64) 0 ++ num8 (u.len * 8))
/-- the sum -/
def Und.sum (u : Und) : List UInt8 := (u.take u.pad).st.bytes
/-- the sum under way as bytes -/
def Und.bytes (u : Und) : List UInt8 := u.st.bytes ++ num8 u.len ++ u.rest
/-- SHA-256 -/
def sha256 (m : List UInt8) : List UInt8 := (Und.new.take m).sum

theorem length_word4 (w : UInt32) : (word4 w).length = 4 := rfl
theorem length_num8 (n : Nat) : (num8 n).length = 8 := by simp [num8]
theorem S8.length_bytes (s : S8) : s.bytes.length = 32 := rfl
theorem Und.length_sum (u : Und) : u.sum.length = 32 := S8.length_bytes _
theorem length_sha256 (m : List UInt8) : (sha256 m).length = 32 := Und.length_sum _
end Go.Proofs.YtfhmjgkcpcnkbaaDoor
