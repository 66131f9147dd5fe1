/-
  NARROWER THAN 'FOR EVERY INPUT', by the rows' own cells (each row's printed sentence says how): TilesGrown: laid · TilesFrom: laid · TilesPlays: laid · TilesAgree: laid.
  DERIVED. THE GIVEN ROWS OF THIS SEAT. 4 by the template 'for every input the law returns true; each argument reads behind the call as it read before'; 0 by the template 'total and deterministic' (their statements: YtfhmjgkcpcnkbaaDoorTotals.lean).
  GIVEN WITH THE SEED: the statements are not yours to turn. If you find one false, say at which input.
  Laid BY PROGRAM, IN A SANDBOX (cutbox-rows.mjs): the forced cells as the released guide's own fill.sh prints them over the translation b89dc9719446887d… (all of the seat's roots in one cut). By AI agents, Wed Nov 11 2026. No macro, syntax, notation, axiom, sorry.
-/
import Derived.Test.YtfhmjgkcpcnkbaaDoorChecked
import GoSem.Claim
import GoSem.ClaimJoined
import GoSem.ClaimMapViews
import Derived.JoinedTies
import Derived.KernelRfl
namespace Go.Proofs.YtfhmjgkcpcnkbaaDoor
/- THE CELL 'sum', in the pinned program and in every row, IS THE sha256 OF THE DUMP (.gsa) THAT YtfhmjgkcpcnkbaaDoorProg.lean LOADS. Nothing in Lean hashes anything: it is a label: what it is worth is what the hold of that sum in a sandbox is worth. -/
noncomputable def Tryd.pinned : Pinned := { name := "ytfhmjgkcpcnkbaadoor", sum := "b89dc9719446887dd20f60d0f36671be5e9dfc5ee6b93bf77a75e980585a5bf6", checked := Tryd.checked }
namespace Rows
def none {H : Type} : Left H := { results := [], args := [] }

/- WHAT THE LISTED PACKAGE-LEVEL VARIABLES READ AS WHEN THE CALL BEGINS. Each datum BY PROGRAM (the guide's laid-datum.mjs) off the statement by which the dump's own 'gosem.cut.vars' lays the variable. In a bare row this is a premise. The card (YtfhmjgkcpcnkbaaDoorCards.lean) ties it to the program's text. -/
def laid_math_bits_deBruijn64tab {H : Type} : DataW H := .agg [.lit (.int .u8 0), .lit (.int .u8 1), .lit (.int .u8 56), .lit (.int .u8 2), .lit (.int .u8 57), .lit (.int .u8 49), .lit (.int .u8 28), .lit (.int .u8 3), .lit (.int .u8 61), .lit (.int .u8 58), .lit (.int .u8 42), .lit (.int .u8 50), .lit (.int .u8 38), .lit (.int .u8 29), .lit (.int .u8 17), .lit (.int .u8 4), .lit (.int .u8 62), .lit (.int .u8 47), .lit (.int .u8 59), .lit (.int .u8 36), .lit (.int .u8 45), .lit (.int .u8 43), .lit (.int .u8 51), .lit (.int .u8 22), .lit (.int .u8 53), .lit (.int .u8 39), .lit (.int .u8 33), .lit (.int .u8 30), .lit (.int .u8 24), .lit (.int .u8 18), .lit (.int .u8 12), .lit (.int .u8 5), .lit (.int .u8 63), .lit (.int .u8 55), .lit (.int .u8 48), .lit (.int .u8 27), .lit (.int .u8 60), .lit (.int .u8 41), .lit (.int .u8 37), .lit (.int .u8 16), .lit (.int .u8 46), .lit (.int .u8 35), .lit (.int .u8 44), .lit (.int .u8 21), .lit (.int .u8 52), .lit (.int .u8 32), .lit (.int .u8 23), .lit (.int .u8 11), .lit (.int .u8 54), .lit (.int .u8 26), .lit (.int .u8 40), .lit (.int .u8 15), .lit (.int .u8 34), .lit (.int .u8 20), .lit (.int .u8 31), .lit (.int .u8 10), .lit (.int .u8 25), .lit (.int .u8 14), .lit (.int .u8 19), .lit (.int .u8 9), .lit (.int .u8 13), .lit (.int .u8 8), .lit (.int .u8 7), .lit (.int .u8 6)]

/-- 'notarylaw14.TilesGrown': WHATEVER THE INPUT: true; the input reads as it did. -/
def tilesGrownSpec : ChangeSpec := { name := "tilesGrown", fn := fun _ => fun
  | [d1, d2, d3] => { results := [.lit (.bool true)], args := [d1, d2, d3] }
  | _ => none }
def tilesGrownRow : OpenClaim := { program := "ytfhmjgkcpcnkbaadoor", sum := "b89dc9719446887dd20f60d0f36671be5e9dfc5ee6b93bf77a75e980585a5bf6", func := "notary/notarylaw14.TilesGrown", spec := "tilesGrown", inPlace := ["maps.clone"], unfollowed := true, recurses := true, named := ["math/bits.deBruijn64tab"], plainKeys := false, apart := false, laid := [("math/bits.deBruijn64tab", laid_math_bits_deBruijn64tab)] }
def TilesGrownSaid : Prop := tilesGrownRow.holds Tryd.pinned (OpenSpec.ofChange tilesGrownSpec)

/-- ITS FALSE NEIGHBOUR: 'it returns false'. Refute it at one input. -/
def tilesGrownWrong : ChangeSpec := { name := "tilesGrown", fn := fun _ => fun
  | [d1, d2, d3] => { results := [.lit (.bool false)], args := [d1, d2, d3] }
  | _ => none }
def TilesGrownWrongFalsely : Prop := tilesGrownRow.holds Tryd.pinned (OpenSpec.ofChange tilesGrownWrong)

/-- 'notarylaw14.TilesFrom': WHATEVER THE INPUT: true; the input reads as it did. -/
def tilesFromSpec : ChangeSpec := { name := "tilesFrom", fn := fun _ => fun
  | [d] => { results := [.lit (.bool true)], args := [d] }
  | _ => none }
def tilesFromRow : OpenClaim := { program := "ytfhmjgkcpcnkbaadoor", sum := "b89dc9719446887dd20f60d0f36671be5e9dfc5ee6b93bf77a75e980585a5bf6", func := "notary/notarylaw14.TilesFrom", spec := "tilesFrom", inPlace := ["maps.clone"], unfollowed := true, recurses := true, named := ["math/bits.deBruijn64tab"], plainKeys := false, apart := false, laid := [("math/bits.deBruijn64tab", laid_math_bits_deBruijn64tab)] }
def TilesFromSaid : Prop := tilesFromRow.holds Tryd.pinned (OpenSpec.ofChange tilesFromSpec)

/-- ITS FALSE NEIGHBOUR: 'it returns false'. Refute it at one input. -/
def tilesFromWrong : ChangeSpec := { name := "tilesFrom", fn := fun _ => fun
  | [d] => { results := [.lit (.bool false)], args := [d] }
  | _ => none }
def TilesFromWrongFalsely : Prop := tilesFromRow.holds Tryd.pinned (OpenSpec.ofChange tilesFromWrong)

/-- 'notarylaw14.TilesPlays': WHATEVER THE INPUT: true; the input reads as it did. -/
def tilesPlaysSpec : ChangeSpec := { name := "tilesPlays", fn := fun _ => fun
  | [d1, d2] => { results := [.lit (.bool true)], args := [d1, d2] }
  | _ => none }
def tilesPlaysRow : OpenClaim := { program := "ytfhmjgkcpcnkbaadoor", sum := "b89dc9719446887dd20f60d0f36671be5e9dfc5ee6b93bf77a75e980585a5bf6", func := "notary/notarylaw14.TilesPlays", spec := "tilesPlays", inPlace := ["maps.clone"], unfollowed := true, recurses := true, named := ["math/bits.deBruijn64tab"], plainKeys := false, apart := false, laid := [("math/bits.deBruijn64tab", laid_math_bits_deBruijn64tab)] }
def TilesPlaysSaid : Prop := tilesPlaysRow.holds Tryd.pinned (OpenSpec.ofChange tilesPlaysSpec)

/-- ITS FALSE NEIGHBOUR: 'it returns false'. Refute it at one input. -/
def tilesPlaysWrong : ChangeSpec := { name := "tilesPlays", fn := fun _ => fun
  | [d1, d2] => { results := [.lit (.bool false)], args := [d1, d2] }
  | _ => none }
def TilesPlaysWrongFalsely : Prop := tilesPlaysRow.holds Tryd.pinned (OpenSpec.ofChange tilesPlaysWrong)

/-- 'notarylaw14.TilesAgree': WHATEVER THE INPUT: true; the input reads as it did. -/
def tilesAgreeSpec : ChangeSpec := { name := "tilesAgree", fn := fun _ => fun
  | [d1, d2, d3] => { results := [.lit (.bool true)], args := [d1, d2, d3] }
  | _ => none }
def tilesAgreeRow : OpenClaim := { program := "ytfhmjgkcpcnkbaadoor", sum := "b89dc9719446887dd20f60d0f36671be5e9dfc5ee6b93bf77a75e980585a5bf6", func := "notary/notarylaw14.TilesAgree", spec := "tilesAgree", inPlace := ["maps.clone"], unfollowed := true, recurses := true, named := ["math/bits.deBruijn64tab"], plainKeys := false, apart := false, laid := [("math/bits.deBruijn64tab", laid_math_bits_deBruijn64tab)] }
def TilesAgreeSaid : Prop := tilesAgreeRow.holds Tryd.pinned (OpenSpec.ofChange tilesAgreeSpec)

/-- ITS FALSE NEIGHBOUR: 'it returns false'. Refute it at one input. -/
def tilesAgreeWrong : ChangeSpec := { name := "tilesAgree", fn := fun _ => fun
  | [d1, d2, d3] => { results := [.lit (.bool false)], args := [d1, d2, d3] }
  | _ => none }
def TilesAgreeWrongFalsely : Prop := tilesAgreeRow.holds Tryd.pinned (OpenSpec.ofChange tilesAgreeWrong)

/- THE SECOND FORM. 'bulk': how many values and letters a reading holds, each counted each time it is reached (what is shared counts as often as it is met; a slice's spare places count too). A statement '..UptoSaid' is the law's where the arguments, and the package variables that the reading takes, are together of bulk at most 1048576: NARROWER than '..Said'. Prove '..Said' where nothing that the law and all that it calls make is longer than what came in: it says more and counts as full. Else prove '..UptoSaid'. A law counts once. -/
mutual
def uptoBulk {H : Type} : DataW H → Nat
  | .lit (.string bytes) => bytes.length + 1
  | .lit _ => 1
  | .nil => 1
  | .ptr d => uptoBulk d + 1
  | .slice elems spare => uptoBulkAll elems + uptoBulkAll spare + 1
  | .agg parts => uptoBulkAll parts + 1
  | .iface _ d => uptoBulk d + 1
  | .map entries => uptoBulkEntries entries + 1
  | .held _ => 1
def uptoBulkAll {H : Type} : List (DataW H) → Nat
  | [] => 0
  | d :: r => uptoBulk d + uptoBulkAll r
def uptoBulkEntries {H : Type} : List (Lit × DataW H) → Nat
  | [] => 0
  | x :: r => uptoBulkEntry x + uptoBulkEntries r
def uptoBulkEntry {H : Type} : Lit × DataW H → Nat
  | (.string bytes, d) => bytes.length + uptoBulk d + 1
  | (_, d) => uptoBulk d + 1
 end
def uptoSmall : (H : Type) → List (DataW H) → Bool := fun _ ds => decide (uptoBulkAll ds ≤ 1048576)
def OpenSpec.upto (s : _root_.Go.ChangeSpec) : _root_.Go.OpenSpec := { _root_.Go.OpenSpec.ofChange s with cond := some uptoSmall }

/-- 'notarylaw14.TilesGrown', WHERE WHAT IT READS IS OF BULK AT MOST 1048576: true; the input reads as it did. -/
def tilesGrownUptoRow : OpenClaim := { program := "ytfhmjgkcpcnkbaadoor", sum := "b89dc9719446887dd20f60d0f36671be5e9dfc5ee6b93bf77a75e980585a5bf6", func := "notary/notarylaw14.TilesGrown", spec := "tilesGrown", inPlace := ["maps.clone"], unfollowed := true, recurses := true, named := ["math/bits.deBruijn64tab"], plainKeys := false, apart := false, laid := [("math/bits.deBruijn64tab", laid_math_bits_deBruijn64tab)], narrowed := true }
def TilesGrownUptoSaid : Prop := tilesGrownUptoRow.holds Tryd.pinned (OpenSpec.upto tilesGrownSpec)

/-- 'notarylaw14.TilesFrom', WHERE WHAT IT READS IS OF BULK AT MOST 1048576: true; the input reads as it did. -/
def tilesFromUptoRow : OpenClaim := { program := "ytfhmjgkcpcnkbaadoor", sum := "b89dc9719446887dd20f60d0f36671be5e9dfc5ee6b93bf77a75e980585a5bf6", func := "notary/notarylaw14.TilesFrom", spec := "tilesFrom", inPlace := ["maps.clone"], unfollowed := true, recurses := true, named := ["math/bits.deBruijn64tab"], plainKeys := false, apart := false, laid := [("math/bits.deBruijn64tab", laid_math_bits_deBruijn64tab)], narrowed := true }
def TilesFromUptoSaid : Prop := tilesFromUptoRow.holds Tryd.pinned (OpenSpec.upto tilesFromSpec)

/-- 'notarylaw14.TilesPlays', WHERE WHAT IT READS IS OF BULK AT MOST 1048576: true; the input reads as it did. -/
def tilesPlaysUptoRow : OpenClaim := { program := "ytfhmjgkcpcnkbaadoor", sum := "b89dc9719446887dd20f60d0f36671be5e9dfc5ee6b93bf77a75e980585a5bf6", func := "notary/notarylaw14.TilesPlays", spec := "tilesPlays", inPlace := ["maps.clone"], unfollowed := true, recurses := true, named := ["math/bits.deBruijn64tab"], plainKeys := false, apart := false, laid := [("math/bits.deBruijn64tab", laid_math_bits_deBruijn64tab)], narrowed := true }
def TilesPlaysUptoSaid : Prop := tilesPlaysUptoRow.holds Tryd.pinned (OpenSpec.upto tilesPlaysSpec)

/-- 'notarylaw14.TilesAgree', WHERE WHAT IT READS IS OF BULK AT MOST 1048576: true; the input reads as it did. -/
def tilesAgreeUptoRow : OpenClaim := { program := "ytfhmjgkcpcnkbaadoor", sum := "b89dc9719446887dd20f60d0f36671be5e9dfc5ee6b93bf77a75e980585a5bf6", func := "notary/notarylaw14.TilesAgree", spec := "tilesAgree", inPlace := ["maps.clone"], unfollowed := true, recurses := true, named := ["math/bits.deBruijn64tab"], plainKeys := false, apart := false, laid := [("math/bits.deBruijn64tab", laid_math_bits_deBruijn64tab)], narrowed := true }
def TilesAgreeUptoSaid : Prop := tilesAgreeUptoRow.holds Tryd.pinned (OpenSpec.upto tilesAgreeSpec)

end Rows
end Go.Proofs.YtfhmjgkcpcnkbaaDoor
