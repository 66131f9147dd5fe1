/-
  No cell of these rows narrows 'for every input' (looked for: loops, veiled, ifaces, maps, wideKeys, modest, calm, conditions, laid).
  DERIVED. THE GIVEN ROWS OF THIS SEAT. 10 by the template 'for every input the law returns true; each argument reads behind the call as it read before'; 0 by the template 'total and deterministic' (their statements: YtonidnfgneokbaaTotals.lean).
  GIVEN WITH THE SEED: the statements are not yours to turn. If you find one false, say at which input.
  Laid BY PROGRAM, IN A SANDBOX (cutbox-rows.mjs): the forced cells as the released guide's own fill.sh prints them over the translation 1dae6d0854b61a2b… (all of the seat's roots in one cut). By AI agents, Wed Nov 11 2026. No macro, syntax, notation, axiom, sorry.
-/
import Derived.Test.YtonidnfgneokbaaChecked
import GoSem.Claim
import GoSem.ClaimJoined
import GoSem.ClaimMapViews
import Derived.JoinedTies
import Derived.KernelRfl
namespace Go.Proofs.Ytonidnfgneokbaa
/- THE CELL 'sum', in the pinned program and in every row, IS THE sha256 OF THE DUMP (.gsa) THAT YtonidnfgneokbaaProg.lean LOADS. Nothing in Lean hashes anything: it is a label: what it is worth is what the hold of that sum in a sandbox is worth. -/
noncomputable def Try.pinned : Pinned := { name := "ytonidnfgneokbaa", sum := "1dae6d0854b61a2b0c4a98e7ad8fea893ea8c5d01a52cad3c7225b7d3cbd70aa", checked := Try.checked }
namespace Rows
def none {H : Type} : Left H := { results := [], args := [] }

/-- 'notarylaw13.AuditIncl': WHATEVER THE INPUT: true; the input reads as it did. -/
def auditInclSpec : ChangeSpec := { name := "auditIncl", fn := fun _ => fun
  | [d1, d2] => { results := [.lit (.bool true)], args := [d1, d2] }
  | _ => none }
def auditInclRow : OpenClaim := { program := "ytonidnfgneokbaa", sum := "1dae6d0854b61a2b0c4a98e7ad8fea893ea8c5d01a52cad3c7225b7d3cbd70aa", func := "notary/notarylaw13.AuditIncl", spec := "auditIncl", unfollowed := true, recurses := true, apart := false }
def AuditInclSaid : Prop := auditInclRow.holds Try.pinned (OpenSpec.ofChange auditInclSpec)

/-- ITS FALSE NEIGHBOUR: 'it returns false'. Refute it at one input. -/
def auditInclWrong : ChangeSpec := { name := "auditIncl", fn := fun _ => fun
  | [d1, d2] => { results := [.lit (.bool false)], args := [d1, d2] }
  | _ => none }
def AuditInclWrongFalsely : Prop := auditInclRow.holds Try.pinned (OpenSpec.ofChange auditInclWrong)

/-- 'notarylaw13.AuditLists': WHATEVER THE INPUT: true; the input reads as it did. -/
def auditListsSpec : ChangeSpec := { name := "auditLists", fn := fun _ => fun
  | [d1, d2, d3, d4] => { results := [.lit (.bool true)], args := [d1, d2, d3, d4] }
  | _ => none }
def auditListsRow : OpenClaim := { program := "ytonidnfgneokbaa", sum := "1dae6d0854b61a2b0c4a98e7ad8fea893ea8c5d01a52cad3c7225b7d3cbd70aa", func := "notary/notarylaw13.AuditLists", spec := "auditLists", unfollowed := true, recurses := true, apart := false }
def AuditListsSaid : Prop := auditListsRow.holds Try.pinned (OpenSpec.ofChange auditListsSpec)

/-- ITS FALSE NEIGHBOUR: 'it returns false'. Refute it at one input. -/
def auditListsWrong : ChangeSpec := { name := "auditLists", fn := fun _ => fun
  | [d1, d2, d3, d4] => { results := [.lit (.bool false)], args := [d1, d2, d3, d4] }
  | _ => none }
def AuditListsWrongFalsely : Prop := auditListsRow.holds Try.pinned (OpenSpec.ofChange auditListsWrong)

/-- 'notarylaw13.AuditCons': WHATEVER THE INPUT: true; the input reads as it did. -/
def auditConsSpec : ChangeSpec := { name := "auditCons", fn := fun _ => fun
  | [d1, d2] => { results := [.lit (.bool true)], args := [d1, d2] }
  | _ => none }
def auditConsRow : OpenClaim := { program := "ytonidnfgneokbaa", sum := "1dae6d0854b61a2b0c4a98e7ad8fea893ea8c5d01a52cad3c7225b7d3cbd70aa", func := "notary/notarylaw13.AuditCons", spec := "auditCons", unfollowed := true, recurses := true, apart := false }
def AuditConsSaid : Prop := auditConsRow.holds Try.pinned (OpenSpec.ofChange auditConsSpec)

/-- ITS FALSE NEIGHBOUR: 'it returns false'. Refute it at one input. -/
def auditConsWrong : ChangeSpec := { name := "auditCons", fn := fun _ => fun
  | [d1, d2] => { results := [.lit (.bool false)], args := [d1, d2] }
  | _ => none }
def AuditConsWrongFalsely : Prop := auditConsRow.holds Try.pinned (OpenSpec.ofChange auditConsWrong)

/-- 'notarylaw13.AuditNames': WHATEVER THE INPUT: true; the input reads as it did. -/
def auditNamesSpec : ChangeSpec := { name := "auditNames", fn := fun _ => fun
  | [] => { results := [.lit (.bool true)], args := [] }
  | _ => none }
def auditNamesRow : OpenClaim := { program := "ytonidnfgneokbaa", sum := "1dae6d0854b61a2b0c4a98e7ad8fea893ea8c5d01a52cad3c7225b7d3cbd70aa", func := "notary/notarylaw13.AuditNames", spec := "auditNames", unfollowed := true, recurses := true, apart := false }
def AuditNamesSaid : Prop := auditNamesRow.holds Try.pinned (OpenSpec.ofChange auditNamesSpec)

/-- ITS FALSE NEIGHBOUR: 'it returns false'. Refute it at one input. -/
def auditNamesWrong : ChangeSpec := { name := "auditNames", fn := fun _ => fun
  | [] => { results := [.lit (.bool false)], args := [] }
  | _ => none }
def AuditNamesWrongFalsely : Prop := auditNamesRow.holds Try.pinned (OpenSpec.ofChange auditNamesWrong)

/-- 'notarylaw13.AuditHonest': WHATEVER THE INPUT: true; the input reads as it did. -/
def auditHonestSpec : ChangeSpec := { name := "auditHonest", fn := fun _ => fun
  | [d1, d2, d3] => { results := [.lit (.bool true)], args := [d1, d2, d3] }
  | _ => none }
def auditHonestRow : OpenClaim := { program := "ytonidnfgneokbaa", sum := "1dae6d0854b61a2b0c4a98e7ad8fea893ea8c5d01a52cad3c7225b7d3cbd70aa", func := "notary/notarylaw13.AuditHonest", spec := "auditHonest", unfollowed := true, recurses := true, apart := false }
def AuditHonestSaid : Prop := auditHonestRow.holds Try.pinned (OpenSpec.ofChange auditHonestSpec)

/-- ITS FALSE NEIGHBOUR: 'it returns false'. Refute it at one input. -/
def auditHonestWrong : ChangeSpec := { name := "auditHonest", fn := fun _ => fun
  | [d1, d2, d3] => { results := [.lit (.bool false)], args := [d1, d2, d3] }
  | _ => none }
def AuditHonestWrongFalsely : Prop := auditHonestRow.holds Try.pinned (OpenSpec.ofChange auditHonestWrong)

/-- 'notarylaw10.FrontRoots': WHATEVER THE INPUT: true; the input reads as it did. -/
def frontRootsSpec : ChangeSpec := { name := "frontRoots", fn := fun _ => fun
  | [d1, d2] => { results := [.lit (.bool true)], args := [d1, d2] }
  | _ => none }
def frontRootsRow : OpenClaim := { program := "ytonidnfgneokbaa", sum := "1dae6d0854b61a2b0c4a98e7ad8fea893ea8c5d01a52cad3c7225b7d3cbd70aa", func := "notary/notarylaw10.FrontRoots", spec := "frontRoots", unfollowed := true, recurses := true, apart := false }
def FrontRootsSaid : Prop := frontRootsRow.holds Try.pinned (OpenSpec.ofChange frontRootsSpec)

/-- ITS FALSE NEIGHBOUR: 'it returns false'. Refute it at one input. -/
def frontRootsWrong : ChangeSpec := { name := "frontRoots", fn := fun _ => fun
  | [d1, d2] => { results := [.lit (.bool false)], args := [d1, d2] }
  | _ => none }
def FrontRootsWrongFalsely : Prop := frontRootsRow.holds Try.pinned (OpenSpec.ofChange frontRootsWrong)

/-- 'notarylaw10.FrontReads': WHATEVER THE INPUT: true; the input reads as it did. -/
def frontReadsSpec : ChangeSpec := { name := "frontReads", fn := fun _ => fun
  | [d] => { results := [.lit (.bool true)], args := [d] }
  | _ => none }
def frontReadsRow : OpenClaim := { program := "ytonidnfgneokbaa", sum := "1dae6d0854b61a2b0c4a98e7ad8fea893ea8c5d01a52cad3c7225b7d3cbd70aa", func := "notary/notarylaw10.FrontReads", spec := "frontReads", unfollowed := true, recurses := true, apart := false }
def FrontReadsSaid : Prop := frontReadsRow.holds Try.pinned (OpenSpec.ofChange frontReadsSpec)

/-- ITS FALSE NEIGHBOUR: 'it returns false'. Refute it at one input. -/
def frontReadsWrong : ChangeSpec := { name := "frontReads", fn := fun _ => fun
  | [d] => { results := [.lit (.bool false)], args := [d] }
  | _ => none }
def FrontReadsWrongFalsely : Prop := frontReadsRow.holds Try.pinned (OpenSpec.ofChange frontReadsWrong)

/-- 'notarylaw10.FrontMeanwhile': WHATEVER THE INPUT: true; the input reads as it did. -/
def frontMeanwhileSpec : ChangeSpec := { name := "frontMeanwhile", fn := fun _ => fun
  | [d1, d2] => { results := [.lit (.bool true)], args := [d1, d2] }
  | _ => none }
def frontMeanwhileRow : OpenClaim := { program := "ytonidnfgneokbaa", sum := "1dae6d0854b61a2b0c4a98e7ad8fea893ea8c5d01a52cad3c7225b7d3cbd70aa", func := "notary/notarylaw10.FrontMeanwhile", spec := "frontMeanwhile", unfollowed := true, recurses := true, apart := false }
def FrontMeanwhileSaid : Prop := frontMeanwhileRow.holds Try.pinned (OpenSpec.ofChange frontMeanwhileSpec)

/-- ITS FALSE NEIGHBOUR: 'it returns false'. Refute it at one input. -/
def frontMeanwhileWrong : ChangeSpec := { name := "frontMeanwhile", fn := fun _ => fun
  | [d1, d2] => { results := [.lit (.bool false)], args := [d1, d2] }
  | _ => none }
def FrontMeanwhileWrongFalsely : Prop := frontMeanwhileRow.holds Try.pinned (OpenSpec.ofChange frontMeanwhileWrong)

/-- 'notarylaw10.FrontPlays': WHATEVER THE INPUT: true; the input reads as it did. -/
def frontPlaysSpec : ChangeSpec := { name := "frontPlays", fn := fun _ => fun
  | [d1, d2] => { results := [.lit (.bool true)], args := [d1, d2] }
  | _ => none }
def frontPlaysRow : OpenClaim := { program := "ytonidnfgneokbaa", sum := "1dae6d0854b61a2b0c4a98e7ad8fea893ea8c5d01a52cad3c7225b7d3cbd70aa", func := "notary/notarylaw10.FrontPlays", spec := "frontPlays", unfollowed := true, recurses := true, apart := false }
def FrontPlaysSaid : Prop := frontPlaysRow.holds Try.pinned (OpenSpec.ofChange frontPlaysSpec)

/-- ITS FALSE NEIGHBOUR: 'it returns false'. Refute it at one input. -/
def frontPlaysWrong : ChangeSpec := { name := "frontPlays", fn := fun _ => fun
  | [d1, d2] => { results := [.lit (.bool false)], args := [d1, d2] }
  | _ => none }
def FrontPlaysWrongFalsely : Prop := frontPlaysRow.holds Try.pinned (OpenSpec.ofChange frontPlaysWrong)

/-- 'notarylaw10.FrontNil': WHATEVER THE INPUT: true; the input reads as it did. -/
def frontNilSpec : ChangeSpec := { name := "frontNil", fn := fun _ => fun
  | [] => { results := [.lit (.bool true)], args := [] }
  | _ => none }
def frontNilRow : OpenClaim := { program := "ytonidnfgneokbaa", sum := "1dae6d0854b61a2b0c4a98e7ad8fea893ea8c5d01a52cad3c7225b7d3cbd70aa", func := "notary/notarylaw10.FrontNil", spec := "frontNil", unfollowed := true, recurses := true, apart := false }
def FrontNilSaid : Prop := frontNilRow.holds Try.pinned (OpenSpec.ofChange frontNilSpec)

/-- ITS FALSE NEIGHBOUR: 'it returns false'. Refute it at one input. -/
def frontNilWrong : ChangeSpec := { name := "frontNil", fn := fun _ => fun
  | [] => { results := [.lit (.bool false)], args := [] }
  | _ => none }
def FrontNilWrongFalsely : Prop := frontNilRow.holds Try.pinned (OpenSpec.ofChange frontNilWrong)

/- THE SECOND FORM. 'bulk': how many values and letters a reading holds, each counted each time it is reached (what is shared counts as often as it is met; a slice's spare places count too). A statement '..UptoSaid' is the law's where the arguments, and the package variables that the reading takes, are together of bulk at most 1048576: NARROWER than '..Said'. Prove '..Said' where nothing that the law and all that it calls make is longer than what came in: it says more and counts as full. Else prove '..UptoSaid'. A law counts once. -/
mutual
def uptoBulk {H : Type} : DataW H → Nat
  | .lit (.string bytes) => bytes.length + 1
  | .lit _ => 1
  | .nil => 1
  | .ptr d => uptoBulk d + 1
  | .slice elems spare => uptoBulkAll elems + uptoBulkAll spare + 1
  | .agg parts => uptoBulkAll parts + 1
  | .iface _ d => uptoBulk d + 1
  | .map entries => uptoBulkEntries entries + 1
  | .held _ => 1
def uptoBulkAll {H : Type} : List (DataW H) → Nat
  | [] => 0
  | d :: r => uptoBulk d + uptoBulkAll r
def uptoBulkEntries {H : Type} : List (Lit × DataW H) → Nat
  | [] => 0
  | x :: r => uptoBulkEntry x + uptoBulkEntries r
def uptoBulkEntry {H : Type} : Lit × DataW H → Nat
  | (.string bytes, d) => bytes.length + uptoBulk d + 1
  | (_, d) => uptoBulk d + 1
 end
def uptoSmall : (H : Type) → List (DataW H) → Bool := fun _ ds => decide (uptoBulkAll ds ≤ 1048576)
def OpenSpec.upto (s : _root_.Go.ChangeSpec) : _root_.Go.OpenSpec := { _root_.Go.OpenSpec.ofChange s with cond := some uptoSmall }

/-- 'notarylaw13.AuditIncl', WHERE WHAT IT READS IS OF BULK AT MOST 1048576: true; the input reads as it did. -/
def auditInclUptoRow : OpenClaim := { program := "ytonidnfgneokbaa", sum := "1dae6d0854b61a2b0c4a98e7ad8fea893ea8c5d01a52cad3c7225b7d3cbd70aa", func := "notary/notarylaw13.AuditIncl", spec := "auditIncl", unfollowed := true, recurses := true, apart := false, narrowed := true }
def AuditInclUptoSaid : Prop := auditInclUptoRow.holds Try.pinned (OpenSpec.upto auditInclSpec)

/-- 'notarylaw13.AuditLists', WHERE WHAT IT READS IS OF BULK AT MOST 1048576: true; the input reads as it did. -/
def auditListsUptoRow : OpenClaim := { program := "ytonidnfgneokbaa", sum := "1dae6d0854b61a2b0c4a98e7ad8fea893ea8c5d01a52cad3c7225b7d3cbd70aa", func := "notary/notarylaw13.AuditLists", spec := "auditLists", unfollowed := true, recurses := true, apart := false, narrowed := true }
def AuditListsUptoSaid : Prop := auditListsUptoRow.holds Try.pinned (OpenSpec.upto auditListsSpec)

/-- 'notarylaw13.AuditCons', WHERE WHAT IT READS IS OF BULK AT MOST 1048576: true; the input reads as it did. -/
def auditConsUptoRow : OpenClaim := { program := "ytonidnfgneokbaa", sum := "1dae6d0854b61a2b0c4a98e7ad8fea893ea8c5d01a52cad3c7225b7d3cbd70aa", func := "notary/notarylaw13.AuditCons", spec := "auditCons", unfollowed := true, recurses := true, apart := false, narrowed := true }
def AuditConsUptoSaid : Prop := auditConsUptoRow.holds Try.pinned (OpenSpec.upto auditConsSpec)

/-- 'notarylaw13.AuditNames', WHERE WHAT IT READS IS OF BULK AT MOST 1048576: true; the input reads as it did. -/
def auditNamesUptoRow : OpenClaim := { program := "ytonidnfgneokbaa", sum := "1dae6d0854b61a2b0c4a98e7ad8fea893ea8c5d01a52cad3c7225b7d3cbd70aa", func := "notary/notarylaw13.AuditNames", spec := "auditNames", unfollowed := true, recurses := true, apart := false, narrowed := true }
def AuditNamesUptoSaid : Prop := auditNamesUptoRow.holds Try.pinned (OpenSpec.upto auditNamesSpec)

/-- 'notarylaw13.AuditHonest', WHERE WHAT IT READS IS OF BULK AT MOST 1048576: true; the input reads as it did. -/
def auditHonestUptoRow : OpenClaim := { program := "ytonidnfgneokbaa", sum := "1dae6d0854b61a2b0c4a98e7ad8fea893ea8c5d01a52cad3c7225b7d3cbd70aa", func := "notary/notarylaw13.AuditHonest", spec := "auditHonest", unfollowed := true, recurses := true, apart := false, narrowed := true }
def AuditHonestUptoSaid : Prop := auditHonestUptoRow.holds Try.pinned (OpenSpec.upto auditHonestSpec)

/-- 'notarylaw10.FrontRoots', WHERE WHAT IT READS IS OF BULK AT MOST 1048576: true; the input reads as it did. -/
def frontRootsUptoRow : OpenClaim := { program := "ytonidnfgneokbaa", sum := "1dae6d0854b61a2b0c4a98e7ad8fea893ea8c5d01a52cad3c7225b7d3cbd70aa", func := "notary/notarylaw10.FrontRoots", spec := "frontRoots", unfollowed := true, recurses := true, apart := false, narrowed := true }
def FrontRootsUptoSaid : Prop := frontRootsUptoRow.holds Try.pinned (OpenSpec.upto frontRootsSpec)

/-- 'notarylaw10.FrontReads', WHERE WHAT IT READS IS OF BULK AT MOST 1048576: true; the input reads as it did. -/
def frontReadsUptoRow : OpenClaim := { program := "ytonidnfgneokbaa", sum := "1dae6d0854b61a2b0c4a98e7ad8fea893ea8c5d01a52cad3c7225b7d3cbd70aa", func := "notary/notarylaw10.FrontReads", spec := "frontReads", unfollowed := true, recurses := true, apart := false, narrowed := true }
def FrontReadsUptoSaid : Prop := frontReadsUptoRow.holds Try.pinned (OpenSpec.upto frontReadsSpec)

/-- 'notarylaw10.FrontMeanwhile', WHERE WHAT IT READS IS OF BULK AT MOST 1048576: true; the input reads as it did. -/
def frontMeanwhileUptoRow : OpenClaim := { program := "ytonidnfgneokbaa", sum := "1dae6d0854b61a2b0c4a98e7ad8fea893ea8c5d01a52cad3c7225b7d3cbd70aa", func := "notary/notarylaw10.FrontMeanwhile", spec := "frontMeanwhile", unfollowed := true, recurses := true, apart := false, narrowed := true }
def FrontMeanwhileUptoSaid : Prop := frontMeanwhileUptoRow.holds Try.pinned (OpenSpec.upto frontMeanwhileSpec)

/-- 'notarylaw10.FrontPlays', WHERE WHAT IT READS IS OF BULK AT MOST 1048576: true; the input reads as it did. -/
def frontPlaysUptoRow : OpenClaim := { program := "ytonidnfgneokbaa", sum := "1dae6d0854b61a2b0c4a98e7ad8fea893ea8c5d01a52cad3c7225b7d3cbd70aa", func := "notary/notarylaw10.FrontPlays", spec := "frontPlays", unfollowed := true, recurses := true, apart := false, narrowed := true }
def FrontPlaysUptoSaid : Prop := frontPlaysUptoRow.holds Try.pinned (OpenSpec.upto frontPlaysSpec)

/-- 'notarylaw10.FrontNil', WHERE WHAT IT READS IS OF BULK AT MOST 1048576: true; the input reads as it did. -/
def frontNilUptoRow : OpenClaim := { program := "ytonidnfgneokbaa", sum := "1dae6d0854b61a2b0c4a98e7ad8fea893ea8c5d01a52cad3c7225b7d3cbd70aa", func := "notary/notarylaw10.FrontNil", spec := "frontNil", unfollowed := true, recurses := true, apart := false, narrowed := true }
def FrontNilUptoSaid : Prop := frontNilUptoRow.holds Try.pinned (OpenSpec.upto frontNilSpec)

end Rows
end Go.Proofs.Ytonidnfgneokbaa
