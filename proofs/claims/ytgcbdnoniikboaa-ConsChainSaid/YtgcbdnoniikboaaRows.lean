/-
  No cell of these rows narrows 'for every input' (looked for: loops, veiled, ifaces, maps, wideKeys, modest, calm, conditions, laid).
  DERIVED. THE GIVEN ROWS OF THIS SEAT. 11 by the template 'for every input the law returns true; each argument reads behind the call as it read before'; 0 by the template 'total and deterministic' (their statements: YtgcbdnoniikboaaTotals.lean).
  GIVEN WITH THE SEED: the statements are not yours to turn. If you find one false, say at which input.
  Laid BY PROGRAM, IN A SANDBOX (cutbox-rows.mjs): the forced cells as the released guide's own fill.sh prints them over the translation 11eb1d4fd009d0d6… (all of the seat's roots in one cut). By AI agents, Wed Nov 11 2026. No macro, syntax, notation, axiom, sorry.
-/
import Derived.Test.YtgcbdnoniikboaaChecked
import GoSem.Claim
import GoSem.ClaimJoined
import GoSem.ClaimMapViews
import Derived.JoinedTies
import Derived.KernelRfl
namespace Go.Proofs.Ytgcbdnoniikboaa
/- THE CELL 'sum', in the pinned program and in every row, IS THE sha256 OF THE DUMP (.gsa) THAT YtgcbdnoniikboaaProg.lean LOADS. Nothing in Lean hashes anything: it is a label: what it is worth is what the hold of that sum in a sandbox is worth. -/
noncomputable def Try.pinned : Pinned := { name := "ytgcbdnoniikboaa", sum := "11eb1d4fd009d0d6a9112a4888cd7ef45f7e1d66751236ce1e9f6faf89acfdfc", checked := Try.checked }
namespace Rows
def none {H : Type} : Left H := { results := [], args := [] }

/-- 'notarylaw09.TreePaths': WHATEVER THE INPUT: true; the input reads as it did. -/
def treePathsSpec : ChangeSpec := { name := "treePaths", fn := fun _ => fun
  | [d1, d2] => { results := [.lit (.bool true)], args := [d1, d2] }
  | _ => none }
def treePathsRow : OpenClaim := { program := "ytgcbdnoniikboaa", sum := "11eb1d4fd009d0d6a9112a4888cd7ef45f7e1d66751236ce1e9f6faf89acfdfc", func := "notary/notarylaw09.TreePaths", spec := "treePaths", unfollowed := true, recurses := true, apart := false }
def TreePathsSaid : Prop := treePathsRow.holds Try.pinned (OpenSpec.ofChange treePathsSpec)

/-- ITS FALSE NEIGHBOUR: 'it returns false'. Refute it at one input. -/
def treePathsWrong : ChangeSpec := { name := "treePaths", fn := fun _ => fun
  | [d1, d2] => { results := [.lit (.bool false)], args := [d1, d2] }
  | _ => none }
def TreePathsWrongFalsely : Prop := treePathsRow.holds Try.pinned (OpenSpec.ofChange treePathsWrong)

/-- 'notarylaw09.TreeEntries': WHATEVER THE INPUT: true; the input reads as it did. -/
def treeEntriesSpec : ChangeSpec := { name := "treeEntries", fn := fun _ => fun
  | [d] => { results := [.lit (.bool true)], args := [d] }
  | _ => none }
def treeEntriesRow : OpenClaim := { program := "ytgcbdnoniikboaa", sum := "11eb1d4fd009d0d6a9112a4888cd7ef45f7e1d66751236ce1e9f6faf89acfdfc", func := "notary/notarylaw09.TreeEntries", spec := "treeEntries", unfollowed := true, recurses := true, apart := false }
def TreeEntriesSaid : Prop := treeEntriesRow.holds Try.pinned (OpenSpec.ofChange treeEntriesSpec)

/-- ITS FALSE NEIGHBOUR: 'it returns false'. Refute it at one input. -/
def treeEntriesWrong : ChangeSpec := { name := "treeEntries", fn := fun _ => fun
  | [d] => { results := [.lit (.bool false)], args := [d] }
  | _ => none }
def TreeEntriesWrongFalsely : Prop := treeEntriesRow.holds Try.pinned (OpenSpec.ofChange treeEntriesWrong)

/-- 'notarylaw09.TreeNumbers': WHATEVER THE INPUT: true; the input reads as it did. -/
def treeNumbersSpec : ChangeSpec := { name := "treeNumbers", fn := fun _ => fun
  | [d1, d2] => { results := [.lit (.bool true)], args := [d1, d2] }
  | _ => none }
def treeNumbersRow : OpenClaim := { program := "ytgcbdnoniikboaa", sum := "11eb1d4fd009d0d6a9112a4888cd7ef45f7e1d66751236ce1e9f6faf89acfdfc", func := "notary/notarylaw09.TreeNumbers", spec := "treeNumbers", unfollowed := true, recurses := true, apart := false }
def TreeNumbersSaid : Prop := treeNumbersRow.holds Try.pinned (OpenSpec.ofChange treeNumbersSpec)

/-- ITS FALSE NEIGHBOUR: 'it returns false'. Refute it at one input. -/
def treeNumbersWrong : ChangeSpec := { name := "treeNumbers", fn := fun _ => fun
  | [d1, d2] => { results := [.lit (.bool false)], args := [d1, d2] }
  | _ => none }
def TreeNumbersWrongFalsely : Prop := treeNumbersRow.holds Try.pinned (OpenSpec.ofChange treeNumbersWrong)

/-- 'notarylaw09.TreeTogether': WHATEVER THE INPUT: true; the input reads as it did. -/
def treeTogetherSpec : ChangeSpec := { name := "treeTogether", fn := fun _ => fun
  | [d] => { results := [.lit (.bool true)], args := [d] }
  | _ => none }
def treeTogetherRow : OpenClaim := { program := "ytgcbdnoniikboaa", sum := "11eb1d4fd009d0d6a9112a4888cd7ef45f7e1d66751236ce1e9f6faf89acfdfc", func := "notary/notarylaw09.TreeTogether", spec := "treeTogether", unfollowed := true, recurses := true, apart := false }
def TreeTogetherSaid : Prop := treeTogetherRow.holds Try.pinned (OpenSpec.ofChange treeTogetherSpec)

/-- ITS FALSE NEIGHBOUR: 'it returns false'. Refute it at one input. -/
def treeTogetherWrong : ChangeSpec := { name := "treeTogether", fn := fun _ => fun
  | [d] => { results := [.lit (.bool false)], args := [d] }
  | _ => none }
def TreeTogetherWrongFalsely : Prop := treeTogetherRow.holds Try.pinned (OpenSpec.ofChange treeTogetherWrong)

/-- 'notarylaw09.TreeRoots': WHATEVER THE INPUT: true; the input reads as it did. -/
def treeRootsSpec : ChangeSpec := { name := "treeRoots", fn := fun _ => fun
  | [d1, d2, d3] => { results := [.lit (.bool true)], args := [d1, d2, d3] }
  | _ => none }
def treeRootsRow : OpenClaim := { program := "ytgcbdnoniikboaa", sum := "11eb1d4fd009d0d6a9112a4888cd7ef45f7e1d66751236ce1e9f6faf89acfdfc", func := "notary/notarylaw09.TreeRoots", spec := "treeRoots", unfollowed := true, recurses := true, apart := false }
def TreeRootsSaid : Prop := treeRootsRow.holds Try.pinned (OpenSpec.ofChange treeRootsSpec)

/-- ITS FALSE NEIGHBOUR: 'it returns false'. Refute it at one input. -/
def treeRootsWrong : ChangeSpec := { name := "treeRoots", fn := fun _ => fun
  | [d1, d2, d3] => { results := [.lit (.bool false)], args := [d1, d2, d3] }
  | _ => none }
def TreeRootsWrongFalsely : Prop := treeRootsRow.holds Try.pinned (OpenSpec.ofChange treeRootsWrong)

/-- 'notarylaw09.TreeEach': WHATEVER THE INPUT: true; the input reads as it did. -/
def treeEachSpec : ChangeSpec := { name := "treeEach", fn := fun _ => fun
  | [d1, d2, d3] => { results := [.lit (.bool true)], args := [d1, d2, d3] }
  | _ => none }
def treeEachRow : OpenClaim := { program := "ytgcbdnoniikboaa", sum := "11eb1d4fd009d0d6a9112a4888cd7ef45f7e1d66751236ce1e9f6faf89acfdfc", func := "notary/notarylaw09.TreeEach", spec := "treeEach", unfollowed := true, recurses := true, apart := false }
def TreeEachSaid : Prop := treeEachRow.holds Try.pinned (OpenSpec.ofChange treeEachSpec)

/-- ITS FALSE NEIGHBOUR: 'it returns false'. Refute it at one input. -/
def treeEachWrong : ChangeSpec := { name := "treeEach", fn := fun _ => fun
  | [d1, d2, d3] => { results := [.lit (.bool false)], args := [d1, d2, d3] }
  | _ => none }
def TreeEachWrongFalsely : Prop := treeEachRow.holds Try.pinned (OpenSpec.ofChange treeEachWrong)

/-- 'notarylaw12.ConsProve': WHATEVER THE INPUT: true; the input reads as it did. -/
def consProveSpec : ChangeSpec := { name := "consProve", fn := fun _ => fun
  | [d1, d2, d3] => { results := [.lit (.bool true)], args := [d1, d2, d3] }
  | _ => none }
def consProveRow : OpenClaim := { program := "ytgcbdnoniikboaa", sum := "11eb1d4fd009d0d6a9112a4888cd7ef45f7e1d66751236ce1e9f6faf89acfdfc", func := "notary/notarylaw12.ConsProve", spec := "consProve", unfollowed := true, recurses := true, apart := false }
def ConsProveSaid : Prop := consProveRow.holds Try.pinned (OpenSpec.ofChange consProveSpec)

/-- ITS FALSE NEIGHBOUR: 'it returns false'. Refute it at one input. -/
def consProveWrong : ChangeSpec := { name := "consProve", fn := fun _ => fun
  | [d1, d2, d3] => { results := [.lit (.bool false)], args := [d1, d2, d3] }
  | _ => none }
def ConsProveWrongFalsely : Prop := consProveRow.holds Try.pinned (OpenSpec.ofChange consProveWrong)

/-- 'notarylaw12.ConsCheck': WHATEVER THE INPUT: true; the input reads as it did. -/
def consCheckSpec : ChangeSpec := { name := "consCheck", fn := fun _ => fun
  | [d1, d2] => { results := [.lit (.bool true)], args := [d1, d2] }
  | _ => none }
def consCheckRow : OpenClaim := { program := "ytgcbdnoniikboaa", sum := "11eb1d4fd009d0d6a9112a4888cd7ef45f7e1d66751236ce1e9f6faf89acfdfc", func := "notary/notarylaw12.ConsCheck", spec := "consCheck", unfollowed := true, recurses := true, apart := false }
def ConsCheckSaid : Prop := consCheckRow.holds Try.pinned (OpenSpec.ofChange consCheckSpec)

/-- ITS FALSE NEIGHBOUR: 'it returns false'. Refute it at one input. -/
def consCheckWrong : ChangeSpec := { name := "consCheck", fn := fun _ => fun
  | [d1, d2] => { results := [.lit (.bool false)], args := [d1, d2] }
  | _ => none }
def ConsCheckWrongFalsely : Prop := consCheckRow.holds Try.pinned (OpenSpec.ofChange consCheckWrong)

/-- 'notarylaw12.ConsShows': WHATEVER THE INPUT: true; the input reads as it did. -/
def consShowsSpec : ChangeSpec := { name := "consShows", fn := fun _ => fun
  | [d1, d2, d3] => { results := [.lit (.bool true)], args := [d1, d2, d3] }
  | _ => none }
def consShowsRow : OpenClaim := { program := "ytgcbdnoniikboaa", sum := "11eb1d4fd009d0d6a9112a4888cd7ef45f7e1d66751236ce1e9f6faf89acfdfc", func := "notary/notarylaw12.ConsShows", spec := "consShows", unfollowed := true, recurses := true, apart := false }
def ConsShowsSaid : Prop := consShowsRow.holds Try.pinned (OpenSpec.ofChange consShowsSpec)

/-- ITS FALSE NEIGHBOUR: 'it returns false'. Refute it at one input. -/
def consShowsWrong : ChangeSpec := { name := "consShows", fn := fun _ => fun
  | [d1, d2, d3] => { results := [.lit (.bool false)], args := [d1, d2, d3] }
  | _ => none }
def ConsShowsWrongFalsely : Prop := consShowsRow.holds Try.pinned (OpenSpec.ofChange consShowsWrong)

/-- 'notarylaw12.ConsOn': WHATEVER THE INPUT: true; the input reads as it did. -/
def consOnSpec : ChangeSpec := { name := "consOn", fn := fun _ => fun
  | [d1, d2, d3] => { results := [.lit (.bool true)], args := [d1, d2, d3] }
  | _ => none }
def consOnRow : OpenClaim := { program := "ytgcbdnoniikboaa", sum := "11eb1d4fd009d0d6a9112a4888cd7ef45f7e1d66751236ce1e9f6faf89acfdfc", func := "notary/notarylaw12.ConsOn", spec := "consOn", unfollowed := true, recurses := true, apart := false }
def ConsOnSaid : Prop := consOnRow.holds Try.pinned (OpenSpec.ofChange consOnSpec)

/-- ITS FALSE NEIGHBOUR: 'it returns false'. Refute it at one input. -/
def consOnWrong : ChangeSpec := { name := "consOn", fn := fun _ => fun
  | [d1, d2, d3] => { results := [.lit (.bool false)], args := [d1, d2, d3] }
  | _ => none }
def ConsOnWrongFalsely : Prop := consOnRow.holds Try.pinned (OpenSpec.ofChange consOnWrong)

/-- 'notarylaw12.ConsChain': WHATEVER THE INPUT: true; the input reads as it did. -/
def consChainSpec : ChangeSpec := { name := "consChain", fn := fun _ => fun
  | [d1, d2, d3] => { results := [.lit (.bool true)], args := [d1, d2, d3] }
  | _ => none }
def consChainRow : OpenClaim := { program := "ytgcbdnoniikboaa", sum := "11eb1d4fd009d0d6a9112a4888cd7ef45f7e1d66751236ce1e9f6faf89acfdfc", func := "notary/notarylaw12.ConsChain", spec := "consChain", unfollowed := true, recurses := true, apart := false }
def ConsChainSaid : Prop := consChainRow.holds Try.pinned (OpenSpec.ofChange consChainSpec)

/-- ITS FALSE NEIGHBOUR: 'it returns false'. Refute it at one input. -/
def consChainWrong : ChangeSpec := { name := "consChain", fn := fun _ => fun
  | [d1, d2, d3] => { results := [.lit (.bool false)], args := [d1, d2, d3] }
  | _ => none }
def ConsChainWrongFalsely : Prop := consChainRow.holds Try.pinned (OpenSpec.ofChange consChainWrong)

/- THE SECOND FORM. 'bulk': how many values and letters a reading holds, each counted each time it is reached (what is shared counts as often as it is met; a slice's spare places count too). A statement '..UptoSaid' is the law's where the arguments, and the package variables that the reading takes, are together of bulk at most 1048576: NARROWER than '..Said'. Prove '..Said' where nothing that the law and all that it calls make is longer than what came in: it says more and counts as full. Else prove '..UptoSaid'. A law counts once. -/
mutual
def uptoBulk {H : Type} : DataW H → Nat
  | .lit (.string bytes) => bytes.length + 1
  | .lit _ => 1
  | .nil => 1
  | .ptr d => uptoBulk d + 1
  | .slice elems spare => uptoBulkAll elems + uptoBulkAll spare + 1
  | .agg parts => uptoBulkAll parts + 1
  | .iface _ d => uptoBulk d + 1
  | .map entries => uptoBulkEntries entries + 1
  | .held _ => 1
def uptoBulkAll {H : Type} : List (DataW H) → Nat
  | [] => 0
  | d :: r => uptoBulk d + uptoBulkAll r
def uptoBulkEntries {H : Type} : List (Lit × DataW H) → Nat
  | [] => 0
  | x :: r => uptoBulkEntry x + uptoBulkEntries r
def uptoBulkEntry {H : Type} : Lit × DataW H → Nat
  | (.string bytes, d) => bytes.length + uptoBulk d + 1
  | (_, d) => uptoBulk d + 1
 end
def uptoSmall : (H : Type) → List (DataW H) → Bool := fun _ ds => decide (uptoBulkAll ds ≤ 1048576)
def OpenSpec.upto (s : _root_.Go.ChangeSpec) : _root_.Go.OpenSpec := { _root_.Go.OpenSpec.ofChange s with cond := some uptoSmall }

/-- 'notarylaw09.TreePaths', WHERE WHAT IT READS IS OF BULK AT MOST 1048576: true; the input reads as it did. -/
def treePathsUptoRow : OpenClaim := { program := "ytgcbdnoniikboaa", sum := "11eb1d4fd009d0d6a9112a4888cd7ef45f7e1d66751236ce1e9f6faf89acfdfc", func := "notary/notarylaw09.TreePaths", spec := "treePaths", unfollowed := true, recurses := true, apart := false, narrowed := true }
def TreePathsUptoSaid : Prop := treePathsUptoRow.holds Try.pinned (OpenSpec.upto treePathsSpec)

/-- 'notarylaw09.TreeEntries', WHERE WHAT IT READS IS OF BULK AT MOST 1048576: true; the input reads as it did. -/
def treeEntriesUptoRow : OpenClaim := { program := "ytgcbdnoniikboaa", sum := "11eb1d4fd009d0d6a9112a4888cd7ef45f7e1d66751236ce1e9f6faf89acfdfc", func := "notary/notarylaw09.TreeEntries", spec := "treeEntries", unfollowed := true, recurses := true, apart := false, narrowed := true }
def TreeEntriesUptoSaid : Prop := treeEntriesUptoRow.holds Try.pinned (OpenSpec.upto treeEntriesSpec)

/-- 'notarylaw09.TreeNumbers', WHERE WHAT IT READS IS OF BULK AT MOST 1048576: true; the input reads as it did. -/
def treeNumbersUptoRow : OpenClaim := { program := "ytgcbdnoniikboaa", sum := "11eb1d4fd009d0d6a9112a4888cd7ef45f7e1d66751236ce1e9f6faf89acfdfc", func := "notary/notarylaw09.TreeNumbers", spec := "treeNumbers", unfollowed := true, recurses := true, apart := false, narrowed := true }
def TreeNumbersUptoSaid : Prop := treeNumbersUptoRow.holds Try.pinned (OpenSpec.upto treeNumbersSpec)

/-- 'notarylaw09.TreeTogether', WHERE WHAT IT READS IS OF BULK AT MOST 1048576: true; the input reads as it did. -/
def treeTogetherUptoRow : OpenClaim := { program := "ytgcbdnoniikboaa", sum := "11eb1d4fd009d0d6a9112a4888cd7ef45f7e1d66751236ce1e9f6faf89acfdfc", func := "notary/notarylaw09.TreeTogether", spec := "treeTogether", unfollowed := true, recurses := true, apart := false, narrowed := true }
def TreeTogetherUptoSaid : Prop := treeTogetherUptoRow.holds Try.pinned (OpenSpec.upto treeTogetherSpec)

/-- 'notarylaw09.TreeRoots', WHERE WHAT IT READS IS OF BULK AT MOST 1048576: true; the input reads as it did. -/
def treeRootsUptoRow : OpenClaim := { program := "ytgcbdnoniikboaa", sum := "11eb1d4fd009d0d6a9112a4888cd7ef45f7e1d66751236ce1e9f6faf89acfdfc", func := "notary/notarylaw09.TreeRoots", spec := "treeRoots", unfollowed := true, recurses := true, apart := false, narrowed := true }
def TreeRootsUptoSaid : Prop := treeRootsUptoRow.holds Try.pinned (OpenSpec.upto treeRootsSpec)

/-- 'notarylaw09.TreeEach', WHERE WHAT IT READS IS OF BULK AT MOST 1048576: true; the input reads as it did. -/
def treeEachUptoRow : OpenClaim := { program := "ytgcbdnoniikboaa", sum := "11eb1d4fd009d0d6a9112a4888cd7ef45f7e1d66751236ce1e9f6faf89acfdfc", func := "notary/notarylaw09.TreeEach", spec := "treeEach", unfollowed := true, recurses := true, apart := false, narrowed := true }
def TreeEachUptoSaid : Prop := treeEachUptoRow.holds Try.pinned (OpenSpec.upto treeEachSpec)

/-- 'notarylaw12.ConsProve', WHERE WHAT IT READS IS OF BULK AT MOST 1048576: true; the input reads as it did. -/
def consProveUptoRow : OpenClaim := { program := "ytgcbdnoniikboaa", sum := "11eb1d4fd009d0d6a9112a4888cd7ef45f7e1d66751236ce1e9f6faf89acfdfc", func := "notary/notarylaw12.ConsProve", spec := "consProve", unfollowed := true, recurses := true, apart := false, narrowed := true }
def ConsProveUptoSaid : Prop := consProveUptoRow.holds Try.pinned (OpenSpec.upto consProveSpec)

/-- 'notarylaw12.ConsCheck', WHERE WHAT IT READS IS OF BULK AT MOST 1048576: true; the input reads as it did. -/
def consCheckUptoRow : OpenClaim := { program := "ytgcbdnoniikboaa", sum := "11eb1d4fd009d0d6a9112a4888cd7ef45f7e1d66751236ce1e9f6faf89acfdfc", func := "notary/notarylaw12.ConsCheck", spec := "consCheck", unfollowed := true, recurses := true, apart := false, narrowed := true }
def ConsCheckUptoSaid : Prop := consCheckUptoRow.holds Try.pinned (OpenSpec.upto consCheckSpec)

/-- 'notarylaw12.ConsShows', WHERE WHAT IT READS IS OF BULK AT MOST 1048576: true; the input reads as it did. -/
def consShowsUptoRow : OpenClaim := { program := "ytgcbdnoniikboaa", sum := "11eb1d4fd009d0d6a9112a4888cd7ef45f7e1d66751236ce1e9f6faf89acfdfc", func := "notary/notarylaw12.ConsShows", spec := "consShows", unfollowed := true, recurses := true, apart := false, narrowed := true }
def ConsShowsUptoSaid : Prop := consShowsUptoRow.holds Try.pinned (OpenSpec.upto consShowsSpec)

/-- 'notarylaw12.ConsOn', WHERE WHAT IT READS IS OF BULK AT MOST 1048576: true; the input reads as it did. -/
def consOnUptoRow : OpenClaim := { program := "ytgcbdnoniikboaa", sum := "11eb1d4fd009d0d6a9112a4888cd7ef45f7e1d66751236ce1e9f6faf89acfdfc", func := "notary/notarylaw12.ConsOn", spec := "consOn", unfollowed := true, recurses := true, apart := false, narrowed := true }
def ConsOnUptoSaid : Prop := consOnUptoRow.holds Try.pinned (OpenSpec.upto consOnSpec)

/-- 'notarylaw12.ConsChain', WHERE WHAT IT READS IS OF BULK AT MOST 1048576: true; the input reads as it did. -/
def consChainUptoRow : OpenClaim := { program := "ytgcbdnoniikboaa", sum := "11eb1d4fd009d0d6a9112a4888cd7ef45f7e1d66751236ce1e9f6faf89acfdfc", func := "notary/notarylaw12.ConsChain", spec := "consChain", unfollowed := true, recurses := true, apart := false, narrowed := true }
def ConsChainUptoSaid : Prop := consChainUptoRow.holds Try.pinned (OpenSpec.upto consChainSpec)

end Rows
end Go.Proofs.Ytgcbdnoniikboaa
