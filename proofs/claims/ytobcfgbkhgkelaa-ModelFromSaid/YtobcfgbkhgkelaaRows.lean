/-
  No cell of these rows narrows 'for every input' (looked for: loops, veiled, ifaces, maps, wideKeys, modest, calm, conditions, laid).
  DERIVED. THE GIVEN ROWS OF THIS SEAT. 4 by the template 'for every input the law returns true; each argument reads behind the call as it read before'; 0 by the template 'total and deterministic' (their statements: YtobcfgbkhgkelaaTotals.lean).
  GIVEN WITH THE SEED: the statements are not yours to turn. If you find one false, say at which input.
  Laid BY PROGRAM, IN A SANDBOX (cutbox-rows.mjs): the forced cells as the released guide's own fill.sh prints them over the translation da7e8d26df7d8ab3… (all of the seat's roots in one cut). By AI agents, Wed Nov 11 2026. No macro, syntax, notation, axiom, sorry.
-/
import Derived.Test.YtobcfgbkhgkelaaChecked
import GoSem.Claim
import GoSem.ClaimJoined
import GoSem.ClaimMapViews
import Derived.JoinedTies
import Derived.KernelRfl
namespace Go.Proofs.Ytobcfgbkhgkelaa
/- THE CELL 'sum', in the pinned program and in every row, IS THE sha256 OF THE DUMP (.gsa) THAT YtobcfgbkhgkelaaProg.lean LOADS. Nothing in Lean hashes anything: it is a label: what it is worth is what the hold of that sum in a sandbox is worth. -/
noncomputable def Try.pinned : Pinned := { name := "ytobcfgbkhgkelaa", sum := "da7e8d26df7d8ab31bcb230fd81982bdcc21a49fae0482e953c131572e573aee", checked := Try.checked }
namespace Rows
def none {H : Type} : Left H := { results := [], args := [] }

/-- 'notarylaw24.ModelNil': WHATEVER THE INPUT: true; the input reads as it did. -/
def modelNilSpec : ChangeSpec := { name := "modelNil", fn := fun _ => fun
  | [d1, d2, d3] => { results := [.lit (.bool true)], args := [d1, d2, d3] }
  | _ => none }
def modelNilRow : OpenClaim := { program := "ytobcfgbkhgkelaa", sum := "da7e8d26df7d8ab31bcb230fd81982bdcc21a49fae0482e953c131572e573aee", func := "notary/notarylaw24.ModelNil", spec := "modelNil", unfollowed := true, recurses := true, apart := false }
def ModelNilSaid : Prop := modelNilRow.holds Try.pinned (OpenSpec.ofChange modelNilSpec)

/-- ITS FALSE NEIGHBOUR: 'it returns false'. Refute it at one input. -/
def modelNilWrong : ChangeSpec := { name := "modelNil", fn := fun _ => fun
  | [d1, d2, d3] => { results := [.lit (.bool false)], args := [d1, d2, d3] }
  | _ => none }
def ModelNilWrongFalsely : Prop := modelNilRow.holds Try.pinned (OpenSpec.ofChange modelNilWrong)

/-- 'notarylaw24.ModelGrows': WHATEVER THE INPUT: true; the input reads as it did. -/
def modelGrowsSpec : ChangeSpec := { name := "modelGrows", fn := fun _ => fun
  | [d1, d2, d3] => { results := [.lit (.bool true)], args := [d1, d2, d3] }
  | _ => none }
def modelGrowsRow : OpenClaim := { program := "ytobcfgbkhgkelaa", sum := "da7e8d26df7d8ab31bcb230fd81982bdcc21a49fae0482e953c131572e573aee", func := "notary/notarylaw24.ModelGrows", spec := "modelGrows", unfollowed := true, recurses := true, apart := false }
def ModelGrowsSaid : Prop := modelGrowsRow.holds Try.pinned (OpenSpec.ofChange modelGrowsSpec)

/-- ITS FALSE NEIGHBOUR: 'it returns false'. Refute it at one input. -/
def modelGrowsWrong : ChangeSpec := { name := "modelGrows", fn := fun _ => fun
  | [d1, d2, d3] => { results := [.lit (.bool false)], args := [d1, d2, d3] }
  | _ => none }
def ModelGrowsWrongFalsely : Prop := modelGrowsRow.holds Try.pinned (OpenSpec.ofChange modelGrowsWrong)

/-- 'notarylaw24.ModelFrom': WHATEVER THE INPUT: true; the input reads as it did. -/
def modelFromSpec : ChangeSpec := { name := "modelFrom", fn := fun _ => fun
  | [d1, d2] => { results := [.lit (.bool true)], args := [d1, d2] }
  | _ => none }
def modelFromRow : OpenClaim := { program := "ytobcfgbkhgkelaa", sum := "da7e8d26df7d8ab31bcb230fd81982bdcc21a49fae0482e953c131572e573aee", func := "notary/notarylaw24.ModelFrom", spec := "modelFrom", unfollowed := true, recurses := true, apart := false }
def ModelFromSaid : Prop := modelFromRow.holds Try.pinned (OpenSpec.ofChange modelFromSpec)

/-- ITS FALSE NEIGHBOUR: 'it returns false'. Refute it at one input. -/
def modelFromWrong : ChangeSpec := { name := "modelFrom", fn := fun _ => fun
  | [d1, d2] => { results := [.lit (.bool false)], args := [d1, d2] }
  | _ => none }
def ModelFromWrongFalsely : Prop := modelFromRow.holds Try.pinned (OpenSpec.ofChange modelFromWrong)

/-- 'notarylaw24.ModelProofs': WHATEVER THE INPUT: true; the input reads as it did. -/
def modelProofsSpec : ChangeSpec := { name := "modelProofs", fn := fun _ => fun
  | [d1, d2, d3] => { results := [.lit (.bool true)], args := [d1, d2, d3] }
  | _ => none }
def modelProofsRow : OpenClaim := { program := "ytobcfgbkhgkelaa", sum := "da7e8d26df7d8ab31bcb230fd81982bdcc21a49fae0482e953c131572e573aee", func := "notary/notarylaw24.ModelProofs", spec := "modelProofs", unfollowed := true, recurses := true, apart := false }
def ModelProofsSaid : Prop := modelProofsRow.holds Try.pinned (OpenSpec.ofChange modelProofsSpec)

/-- ITS FALSE NEIGHBOUR: 'it returns false'. Refute it at one input. -/
def modelProofsWrong : ChangeSpec := { name := "modelProofs", fn := fun _ => fun
  | [d1, d2, d3] => { results := [.lit (.bool false)], args := [d1, d2, d3] }
  | _ => none }
def ModelProofsWrongFalsely : Prop := modelProofsRow.holds Try.pinned (OpenSpec.ofChange modelProofsWrong)

/- THE SECOND FORM. 'bulk': how many values and letters a reading holds, each counted each time it is reached (what is shared counts as often as it is met; a slice's spare places count too). A statement '..UptoSaid' is the law's where the arguments, and the package variables that the reading takes, are together of bulk at most 1048576: NARROWER than '..Said'. Prove '..Said' where nothing that the law and all that it calls make is longer than what came in: it says more and counts as full. Else prove '..UptoSaid'. A law counts once. -/
mutual
def uptoBulk {H : Type} : DataW H → Nat
  | .lit (.string bytes) => bytes.length + 1
  | .lit _ => 1
  | .nil => 1
  | .ptr d => uptoBulk d + 1
  | .slice elems spare => uptoBulkAll elems + uptoBulkAll spare + 1
  | .agg parts => uptoBulkAll parts + 1
  | .iface _ d => uptoBulk d + 1
  | .map entries => uptoBulkEntries entries + 1
  | .held _ => 1
def uptoBulkAll {H : Type} : List (DataW H) → Nat
  | [] => 0
  | d :: r => uptoBulk d + uptoBulkAll r
def uptoBulkEntries {H : Type} : List (Lit × DataW H) → Nat
  | [] => 0
  | x :: r => uptoBulkEntry x + uptoBulkEntries r
def uptoBulkEntry {H : Type} : Lit × DataW H → Nat
  | (.string bytes, d) => bytes.length + uptoBulk d + 1
  | (_, d) => uptoBulk d + 1
 end
def uptoSmall : (H : Type) → List (DataW H) → Bool := fun _ ds => decide (uptoBulkAll ds ≤ 1048576)
def OpenSpec.upto (s : _root_.Go.ChangeSpec) : _root_.Go.OpenSpec := { _root_.Go.OpenSpec.ofChange s with cond := some uptoSmall }

/-- 'notarylaw24.ModelNil', WHERE WHAT IT READS IS OF BULK AT MOST 1048576: true; the input reads as it did. -/
def modelNilUptoRow : OpenClaim := { program := "ytobcfgbkhgkelaa", sum := "da7e8d26df7d8ab31bcb230fd81982bdcc21a49fae0482e953c131572e573aee", func := "notary/notarylaw24.ModelNil", spec := "modelNil", unfollowed := true, recurses := true, apart := false, narrowed := true }
def ModelNilUptoSaid : Prop := modelNilUptoRow.holds Try.pinned (OpenSpec.upto modelNilSpec)

/-- 'notarylaw24.ModelGrows', WHERE WHAT IT READS IS OF BULK AT MOST 1048576: true; the input reads as it did. -/
def modelGrowsUptoRow : OpenClaim := { program := "ytobcfgbkhgkelaa", sum := "da7e8d26df7d8ab31bcb230fd81982bdcc21a49fae0482e953c131572e573aee", func := "notary/notarylaw24.ModelGrows", spec := "modelGrows", unfollowed := true, recurses := true, apart := false, narrowed := true }
def ModelGrowsUptoSaid : Prop := modelGrowsUptoRow.holds Try.pinned (OpenSpec.upto modelGrowsSpec)

/-- 'notarylaw24.ModelFrom', WHERE WHAT IT READS IS OF BULK AT MOST 1048576: true; the input reads as it did. -/
def modelFromUptoRow : OpenClaim := { program := "ytobcfgbkhgkelaa", sum := "da7e8d26df7d8ab31bcb230fd81982bdcc21a49fae0482e953c131572e573aee", func := "notary/notarylaw24.ModelFrom", spec := "modelFrom", unfollowed := true, recurses := true, apart := false, narrowed := true }
def ModelFromUptoSaid : Prop := modelFromUptoRow.holds Try.pinned (OpenSpec.upto modelFromSpec)

/-- 'notarylaw24.ModelProofs', WHERE WHAT IT READS IS OF BULK AT MOST 1048576: true; the input reads as it did. -/
def modelProofsUptoRow : OpenClaim := { program := "ytobcfgbkhgkelaa", sum := "da7e8d26df7d8ab31bcb230fd81982bdcc21a49fae0482e953c131572e573aee", func := "notary/notarylaw24.ModelProofs", spec := "modelProofs", unfollowed := true, recurses := true, apart := false, narrowed := true }
def ModelProofsUptoSaid : Prop := modelProofsUptoRow.holds Try.pinned (OpenSpec.upto modelProofsSpec)

end Rows
end Go.Proofs.Ytobcfgbkhgkelaa
