/-
  No cell of these rows narrows 'for every input' (looked for: loops, veiled, ifaces, maps, wideKeys, modest, calm, conditions, laid).
  DERIVED. THE GIVEN ROWS OF THIS SEAT. 6 by the template 'for every input the law returns true; each argument reads behind the call as it read before'; 0 by the template 'total and deterministic' (their statements: YtmglkblomklcbaaTotals.lean).
  GIVEN WITH THE SEED: the statements are not yours to turn. If you find one false, say at which input.
  Laid BY PROGRAM, IN A SANDBOX (cutbox-rows.mjs): the forced cells as the released guide's own fill.sh prints them over the translation f44f2df82f9d1034… (all of the seat's roots in one cut). By AI agents, Wed Nov 11 2026. No macro, syntax, notation, axiom, sorry.
-/
import Derived.Test.YtmglkblomklcbaaChecked
import GoSem.Claim
import GoSem.ClaimJoined
import GoSem.ClaimMapViews
import Derived.JoinedTies
import Derived.KernelRfl
namespace Go.Proofs.Ytmglkblomklcbaa
/- THE CELL 'sum', in the pinned program and in every row, IS THE sha256 OF THE DUMP (.gsa) THAT YtmglkblomklcbaaProg.lean LOADS. Nothing in Lean hashes anything: it is a label: what it is worth is what the hold of that sum in a sandbox is worth. -/
noncomputable def Try.pinned : Pinned := { name := "ytmglkblomklcbaa", sum := "f44f2df82f9d103447119279d3d23c1efa003d9af819f8cf5d108c20b358ad49", checked := Try.checked }
namespace Rows
def none {H : Type} : Left H := { results := [], args := [] }

/-- 'notarylaw11.InclProves': WHATEVER THE INPUT: true; the input reads as it did. -/
def inclProvesSpec : ChangeSpec := { name := "inclProves", fn := fun _ => fun
  | [d1, d2] => { results := [.lit (.bool true)], args := [d1, d2] }
  | _ => none }
def inclProvesRow : OpenClaim := { program := "ytmglkblomklcbaa", sum := "f44f2df82f9d103447119279d3d23c1efa003d9af819f8cf5d108c20b358ad49", func := "notary/notarylaw11.InclProves", spec := "inclProves", unfollowed := true, recurses := true, apart := false }
def InclProvesSaid : Prop := inclProvesRow.holds Try.pinned (OpenSpec.ofChange inclProvesSpec)

/-- ITS FALSE NEIGHBOUR: 'it returns false'. Refute it at one input. -/
def inclProvesWrong : ChangeSpec := { name := "inclProves", fn := fun _ => fun
  | [d1, d2] => { results := [.lit (.bool false)], args := [d1, d2] }
  | _ => none }
def InclProvesWrongFalsely : Prop := inclProvesRow.holds Try.pinned (OpenSpec.ofChange inclProvesWrong)

/-- 'notarylaw11.InclLens': WHATEVER THE INPUT: true; the input reads as it did. -/
def inclLensSpec : ChangeSpec := { name := "inclLens", fn := fun _ => fun
  | [d1, d2] => { results := [.lit (.bool true)], args := [d1, d2] }
  | _ => none }
def inclLensRow : OpenClaim := { program := "ytmglkblomklcbaa", sum := "f44f2df82f9d103447119279d3d23c1efa003d9af819f8cf5d108c20b358ad49", func := "notary/notarylaw11.InclLens", spec := "inclLens", unfollowed := true, recurses := true, apart := false }
def InclLensSaid : Prop := inclLensRow.holds Try.pinned (OpenSpec.ofChange inclLensSpec)

/-- ITS FALSE NEIGHBOUR: 'it returns false'. Refute it at one input. -/
def inclLensWrong : ChangeSpec := { name := "inclLens", fn := fun _ => fun
  | [d1, d2] => { results := [.lit (.bool false)], args := [d1, d2] }
  | _ => none }
def InclLensWrongFalsely : Prop := inclLensRow.holds Try.pinned (OpenSpec.ofChange inclLensWrong)

/-- 'notarylaw11.InclAll': WHATEVER THE INPUT: true; the input reads as it did. -/
def inclAllSpec : ChangeSpec := { name := "inclAll", fn := fun _ => fun
  | [d1, d2] => { results := [.lit (.bool true)], args := [d1, d2] }
  | _ => none }
def inclAllRow : OpenClaim := { program := "ytmglkblomklcbaa", sum := "f44f2df82f9d103447119279d3d23c1efa003d9af819f8cf5d108c20b358ad49", func := "notary/notarylaw11.InclAll", spec := "inclAll", unfollowed := true, recurses := true, apart := false }
def InclAllSaid : Prop := inclAllRow.holds Try.pinned (OpenSpec.ofChange inclAllSpec)

/-- ITS FALSE NEIGHBOUR: 'it returns false'. Refute it at one input. -/
def inclAllWrong : ChangeSpec := { name := "inclAll", fn := fun _ => fun
  | [d1, d2] => { results := [.lit (.bool false)], args := [d1, d2] }
  | _ => none }
def InclAllWrongFalsely : Prop := inclAllRow.holds Try.pinned (OpenSpec.ofChange inclAllWrong)

/-- 'notarylaw11.InclChecks': WHATEVER THE INPUT: true; the input reads as it did. -/
def inclChecksSpec : ChangeSpec := { name := "inclChecks", fn := fun _ => fun
  | [d1, d2, d3] => { results := [.lit (.bool true)], args := [d1, d2, d3] }
  | _ => none }
def inclChecksRow : OpenClaim := { program := "ytmglkblomklcbaa", sum := "f44f2df82f9d103447119279d3d23c1efa003d9af819f8cf5d108c20b358ad49", func := "notary/notarylaw11.InclChecks", spec := "inclChecks", unfollowed := true, recurses := true, apart := false }
def InclChecksSaid : Prop := inclChecksRow.holds Try.pinned (OpenSpec.ofChange inclChecksSpec)

/-- ITS FALSE NEIGHBOUR: 'it returns false'. Refute it at one input. -/
def inclChecksWrong : ChangeSpec := { name := "inclChecks", fn := fun _ => fun
  | [d1, d2, d3] => { results := [.lit (.bool false)], args := [d1, d2, d3] }
  | _ => none }
def InclChecksWrongFalsely : Prop := inclChecksRow.holds Try.pinned (OpenSpec.ofChange inclChecksWrong)

/-- 'notarylaw11.InclHolds': WHATEVER THE INPUT: true; the input reads as it did. -/
def inclHoldsSpec : ChangeSpec := { name := "inclHolds", fn := fun _ => fun
  | [d1, d2, d3] => { results := [.lit (.bool true)], args := [d1, d2, d3] }
  | _ => none }
def inclHoldsRow : OpenClaim := { program := "ytmglkblomklcbaa", sum := "f44f2df82f9d103447119279d3d23c1efa003d9af819f8cf5d108c20b358ad49", func := "notary/notarylaw11.InclHolds", spec := "inclHolds", unfollowed := true, recurses := true, apart := false }
def InclHoldsSaid : Prop := inclHoldsRow.holds Try.pinned (OpenSpec.ofChange inclHoldsSpec)

/-- ITS FALSE NEIGHBOUR: 'it returns false'. Refute it at one input. -/
def inclHoldsWrong : ChangeSpec := { name := "inclHolds", fn := fun _ => fun
  | [d1, d2, d3] => { results := [.lit (.bool false)], args := [d1, d2, d3] }
  | _ => none }
def InclHoldsWrongFalsely : Prop := inclHoldsRow.holds Try.pinned (OpenSpec.ofChange inclHoldsWrong)

/-- 'notarylaw11.InclBytes': WHATEVER THE INPUT: true; the input reads as it did. -/
def inclBytesSpec : ChangeSpec := { name := "inclBytes", fn := fun _ => fun
  | [d1, d2, d3] => { results := [.lit (.bool true)], args := [d1, d2, d3] }
  | _ => none }
def inclBytesRow : OpenClaim := { program := "ytmglkblomklcbaa", sum := "f44f2df82f9d103447119279d3d23c1efa003d9af819f8cf5d108c20b358ad49", func := "notary/notarylaw11.InclBytes", spec := "inclBytes", unfollowed := true, recurses := true, apart := false }
def InclBytesSaid : Prop := inclBytesRow.holds Try.pinned (OpenSpec.ofChange inclBytesSpec)

/-- ITS FALSE NEIGHBOUR: 'it returns false'. Refute it at one input. -/
def inclBytesWrong : ChangeSpec := { name := "inclBytes", fn := fun _ => fun
  | [d1, d2, d3] => { results := [.lit (.bool false)], args := [d1, d2, d3] }
  | _ => none }
def InclBytesWrongFalsely : Prop := inclBytesRow.holds Try.pinned (OpenSpec.ofChange inclBytesWrong)

/- THE SECOND FORM. 'bulk': how many values and letters a reading holds, each counted each time it is reached (what is shared counts as often as it is met; a slice's spare places count too). A statement '..UptoSaid' is the law's where the arguments, and the package variables that the reading takes, are together of bulk at most 1048576: NARROWER than '..Said'. Prove '..Said' where nothing that the law and all that it calls make is longer than what came in: it says more and counts as full. Else prove '..UptoSaid'. A law counts once. -/
mutual
def uptoBulk {H : Type} : DataW H → Nat
  | .lit (.string bytes) => bytes.length + 1
  | .lit _ => 1
  | .nil => 1
  | .ptr d => uptoBulk d + 1
  | .slice elems spare => uptoBulkAll elems + uptoBulkAll spare + 1
  | .agg parts => uptoBulkAll parts + 1
  | .iface _ d => uptoBulk d + 1
  | .map entries => uptoBulkEntries entries + 1
  | .held _ => 1
def uptoBulkAll {H : Type} : List (DataW H) → Nat
  | [] => 0
  | d :: r => uptoBulk d + uptoBulkAll r
def uptoBulkEntries {H : Type} : List (Lit × DataW H) → Nat
  | [] => 0
  | x :: r => uptoBulkEntry x + uptoBulkEntries r
def uptoBulkEntry {H : Type} : Lit × DataW H → Nat
  | (.string bytes, d) => bytes.length + uptoBulk d + 1
  | (_, d) => uptoBulk d + 1
 end
def uptoSmall : (H : Type) → List (DataW H) → Bool := fun _ ds => decide (uptoBulkAll ds ≤ 1048576)
def OpenSpec.upto (s : _root_.Go.ChangeSpec) : _root_.Go.OpenSpec := { _root_.Go.OpenSpec.ofChange s with cond := some uptoSmall }

/-- 'notarylaw11.InclProves', WHERE WHAT IT READS IS OF BULK AT MOST 1048576: true; the input reads as it did. -/
def inclProvesUptoRow : OpenClaim := { program := "ytmglkblomklcbaa", sum := "f44f2df82f9d103447119279d3d23c1efa003d9af819f8cf5d108c20b358ad49", func := "notary/notarylaw11.InclProves", spec := "inclProves", unfollowed := true, recurses := true, apart := false, narrowed := true }
def InclProvesUptoSaid : Prop := inclProvesUptoRow.holds Try.pinned (OpenSpec.upto inclProvesSpec)

/-- 'notarylaw11.InclLens', WHERE WHAT IT READS IS OF BULK AT MOST 1048576: true; the input reads as it did. -/
def inclLensUptoRow : OpenClaim := { program := "ytmglkblomklcbaa", sum := "f44f2df82f9d103447119279d3d23c1efa003d9af819f8cf5d108c20b358ad49", func := "notary/notarylaw11.InclLens", spec := "inclLens", unfollowed := true, recurses := true, apart := false, narrowed := true }
def InclLensUptoSaid : Prop := inclLensUptoRow.holds Try.pinned (OpenSpec.upto inclLensSpec)

/-- 'notarylaw11.InclAll', WHERE WHAT IT READS IS OF BULK AT MOST 1048576: true; the input reads as it did. -/
def inclAllUptoRow : OpenClaim := { program := "ytmglkblomklcbaa", sum := "f44f2df82f9d103447119279d3d23c1efa003d9af819f8cf5d108c20b358ad49", func := "notary/notarylaw11.InclAll", spec := "inclAll", unfollowed := true, recurses := true, apart := false, narrowed := true }
def InclAllUptoSaid : Prop := inclAllUptoRow.holds Try.pinned (OpenSpec.upto inclAllSpec)

/-- 'notarylaw11.InclChecks', WHERE WHAT IT READS IS OF BULK AT MOST 1048576: true; the input reads as it did. -/
def inclChecksUptoRow : OpenClaim := { program := "ytmglkblomklcbaa", sum := "f44f2df82f9d103447119279d3d23c1efa003d9af819f8cf5d108c20b358ad49", func := "notary/notarylaw11.InclChecks", spec := "inclChecks", unfollowed := true, recurses := true, apart := false, narrowed := true }
def InclChecksUptoSaid : Prop := inclChecksUptoRow.holds Try.pinned (OpenSpec.upto inclChecksSpec)

/-- 'notarylaw11.InclHolds', WHERE WHAT IT READS IS OF BULK AT MOST 1048576: true; the input reads as it did. -/
def inclHoldsUptoRow : OpenClaim := { program := "ytmglkblomklcbaa", sum := "f44f2df82f9d103447119279d3d23c1efa003d9af819f8cf5d108c20b358ad49", func := "notary/notarylaw11.InclHolds", spec := "inclHolds", unfollowed := true, recurses := true, apart := false, narrowed := true }
def InclHoldsUptoSaid : Prop := inclHoldsUptoRow.holds Try.pinned (OpenSpec.upto inclHoldsSpec)

/-- 'notarylaw11.InclBytes', WHERE WHAT IT READS IS OF BULK AT MOST 1048576: true; the input reads as it did. -/
def inclBytesUptoRow : OpenClaim := { program := "ytmglkblomklcbaa", sum := "f44f2df82f9d103447119279d3d23c1efa003d9af819f8cf5d108c20b358ad49", func := "notary/notarylaw11.InclBytes", spec := "inclBytes", unfollowed := true, recurses := true, apart := false, narrowed := true }
def InclBytesUptoSaid : Prop := inclBytesUptoRow.holds Try.pinned (OpenSpec.upto inclBytesSpec)

end Rows
end Go.Proofs.Ytmglkblomklcbaa
