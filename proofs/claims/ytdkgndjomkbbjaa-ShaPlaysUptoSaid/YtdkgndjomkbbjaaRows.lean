/-
  No cell of these rows narrows 'for every input' (looked for: loops, veiled, ifaces, maps, wideKeys, modest, calm, conditions, laid).
  DERIVED. THE GIVEN ROWS OF THIS SEAT. 11 by the template 'for every input the law returns true; each argument reads behind the call as it read before'; 0 by the template 'total and deterministic' (their statements: YtdkgndjomkbbjaaTotals.lean).
  GIVEN WITH THE SEED: the statements are not yours to turn. If you find one false, say at which input.
  Laid BY PROGRAM, IN A SANDBOX (cutbox-rows.mjs): the forced cells as the released guide's own fill.sh prints them over the translation 843fcda3f3cec886… (all of the seat's roots in one cut). By AI agents, Wed Nov 11 2026. No macro, syntax, notation, axiom, sorry.
-/
import Derived.Test.YtdkgndjomkbbjaaChecked
import GoSem.Claim
import GoSem.ClaimJoined
import GoSem.ClaimMapViews
import Derived.JoinedTies
import Derived.KernelRfl
namespace Go.Proofs.Ytdkgndjomkbbjaa
/- THE CELL 'sum', in the pinned program and in every row, IS THE sha256 OF THE DUMP (.gsa) THAT YtdkgndjomkbbjaaProg.lean LOADS. Nothing in Lean hashes anything: it is a label: what it is worth is what the hold of that sum in a sandbox is worth. -/
noncomputable def Try.pinned : Pinned := { name := "ytdkgndjomkbbjaa", sum := "843fcda3f3cec886a2b93997b0008293306b9565ae195907249f777265b12b15", checked := Try.checked }
namespace Rows
def none {H : Type} : Left H := { results := [], args := [] }

/-- 'notarylaw03.ShaSums': WHATEVER THE INPUT: true; the input reads as it did. -/
def shaSumsSpec : ChangeSpec := { name := "shaSums", fn := fun _ => fun
  | [d] => { results := [.lit (.bool true)], args := [d] }
  | _ => none }
def shaSumsRow : OpenClaim := { program := "ytdkgndjomkbbjaa", sum := "843fcda3f3cec886a2b93997b0008293306b9565ae195907249f777265b12b15", func := "notary/notarylaw03.ShaSums", spec := "shaSums", apart := false }
def ShaSumsSaid : Prop := shaSumsRow.holds Try.pinned (OpenSpec.ofChange shaSumsSpec)

/-- ITS FALSE NEIGHBOUR: 'it returns false'. Refute it at one input. -/
def shaSumsWrong : ChangeSpec := { name := "shaSums", fn := fun _ => fun
  | [d] => { results := [.lit (.bool false)], args := [d] }
  | _ => none }
def ShaSumsWrongFalsely : Prop := shaSumsRow.holds Try.pinned (OpenSpec.ofChange shaSumsWrong)

/-- 'notarylaw03.ShaBlock': WHATEVER THE INPUT: true; the input reads as it did. -/
def shaBlockSpec : ChangeSpec := { name := "shaBlock", fn := fun _ => fun
  | [d1, d2] => { results := [.lit (.bool true)], args := [d1, d2] }
  | _ => none }
def shaBlockRow : OpenClaim := { program := "ytdkgndjomkbbjaa", sum := "843fcda3f3cec886a2b93997b0008293306b9565ae195907249f777265b12b15", func := "notary/notarylaw03.ShaBlock", spec := "shaBlock", apart := false }
def ShaBlockSaid : Prop := shaBlockRow.holds Try.pinned (OpenSpec.ofChange shaBlockSpec)

/-- ITS FALSE NEIGHBOUR: 'it returns false'. Refute it at one input. -/
def shaBlockWrong : ChangeSpec := { name := "shaBlock", fn := fun _ => fun
  | [d1, d2] => { results := [.lit (.bool false)], args := [d1, d2] }
  | _ => none }
def ShaBlockWrongFalsely : Prop := shaBlockRow.holds Try.pinned (OpenSpec.ofChange shaBlockWrong)

/-- 'notarylaw03.ShaNil': WHATEVER THE INPUT: true; the input reads as it did. -/
def shaNilSpec : ChangeSpec := { name := "shaNil", fn := fun _ => fun
  | [d] => { results := [.lit (.bool true)], args := [d] }
  | _ => none }
def shaNilRow : OpenClaim := { program := "ytdkgndjomkbbjaa", sum := "843fcda3f3cec886a2b93997b0008293306b9565ae195907249f777265b12b15", func := "notary/notarylaw03.ShaNil", spec := "shaNil", apart := false }
def ShaNilSaid : Prop := shaNilRow.holds Try.pinned (OpenSpec.ofChange shaNilSpec)

/-- ITS FALSE NEIGHBOUR: 'it returns false'. Refute it at one input. -/
def shaNilWrong : ChangeSpec := { name := "shaNil", fn := fun _ => fun
  | [d] => { results := [.lit (.bool false)], args := [d] }
  | _ => none }
def ShaNilWrongFalsely : Prop := shaNilRow.holds Try.pinned (OpenSpec.ofChange shaNilWrong)

/-- 'notarylaw03.ShaCut': WHATEVER THE INPUT: true; the input reads as it did. -/
def shaCutSpec : ChangeSpec := { name := "shaCut", fn := fun _ => fun
  | [d1, d2] => { results := [.lit (.bool true)], args := [d1, d2] }
  | _ => none }
def shaCutRow : OpenClaim := { program := "ytdkgndjomkbbjaa", sum := "843fcda3f3cec886a2b93997b0008293306b9565ae195907249f777265b12b15", func := "notary/notarylaw03.ShaCut", spec := "shaCut", apart := false }
def ShaCutSaid : Prop := shaCutRow.holds Try.pinned (OpenSpec.ofChange shaCutSpec)

/-- ITS FALSE NEIGHBOUR: 'it returns false'. Refute it at one input. -/
def shaCutWrong : ChangeSpec := { name := "shaCut", fn := fun _ => fun
  | [d1, d2] => { results := [.lit (.bool false)], args := [d1, d2] }
  | _ => none }
def ShaCutWrongFalsely : Prop := shaCutRow.holds Try.pinned (OpenSpec.ofChange shaCutWrong)

/-- 'notarylaw08.HashBytes': WHATEVER THE INPUT: true; the input reads as it did. -/
def hashBytesSpec : ChangeSpec := { name := "hashBytes", fn := fun _ => fun
  | [d1, d2, d3] => { results := [.lit (.bool true)], args := [d1, d2, d3] }
  | _ => none }
def hashBytesRow : OpenClaim := { program := "ytdkgndjomkbbjaa", sum := "843fcda3f3cec886a2b93997b0008293306b9565ae195907249f777265b12b15", func := "notary/notarylaw08.HashBytes", spec := "hashBytes", unfollowed := true, recurses := true, apart := false }
def HashBytesSaid : Prop := hashBytesRow.holds Try.pinned (OpenSpec.ofChange hashBytesSpec)

/-- ITS FALSE NEIGHBOUR: 'it returns false'. Refute it at one input. -/
def hashBytesWrong : ChangeSpec := { name := "hashBytes", fn := fun _ => fun
  | [d1, d2, d3] => { results := [.lit (.bool false)], args := [d1, d2, d3] }
  | _ => none }
def HashBytesWrongFalsely : Prop := hashBytesRow.holds Try.pinned (OpenSpec.ofChange hashBytesWrong)

/-- 'notarylaw08.HashRows': WHATEVER THE INPUT: true; the input reads as it did. -/
def hashRowsSpec : ChangeSpec := { name := "hashRows", fn := fun _ => fun
  | [d1, d2] => { results := [.lit (.bool true)], args := [d1, d2] }
  | _ => none }
def hashRowsRow : OpenClaim := { program := "ytdkgndjomkbbjaa", sum := "843fcda3f3cec886a2b93997b0008293306b9565ae195907249f777265b12b15", func := "notary/notarylaw08.HashRows", spec := "hashRows", unfollowed := true, recurses := true, apart := false }
def HashRowsSaid : Prop := hashRowsRow.holds Try.pinned (OpenSpec.ofChange hashRowsSpec)

/-- ITS FALSE NEIGHBOUR: 'it returns false'. Refute it at one input. -/
def hashRowsWrong : ChangeSpec := { name := "hashRows", fn := fun _ => fun
  | [d1, d2] => { results := [.lit (.bool false)], args := [d1, d2] }
  | _ => none }
def HashRowsWrongFalsely : Prop := hashRowsRow.holds Try.pinned (OpenSpec.ofChange hashRowsWrong)

/-- 'notarylaw08.HashApart': WHATEVER THE INPUT: true; the input reads as it did. -/
def hashApartSpec : ChangeSpec := { name := "hashApart", fn := fun _ => fun
  | [d1, d2, d3] => { results := [.lit (.bool true)], args := [d1, d2, d3] }
  | _ => none }
def hashApartRow : OpenClaim := { program := "ytdkgndjomkbbjaa", sum := "843fcda3f3cec886a2b93997b0008293306b9565ae195907249f777265b12b15", func := "notary/notarylaw08.HashApart", spec := "hashApart", unfollowed := true, recurses := true, apart := false }
def HashApartSaid : Prop := hashApartRow.holds Try.pinned (OpenSpec.ofChange hashApartSpec)

/-- ITS FALSE NEIGHBOUR: 'it returns false'. Refute it at one input. -/
def hashApartWrong : ChangeSpec := { name := "hashApart", fn := fun _ => fun
  | [d1, d2, d3] => { results := [.lit (.bool false)], args := [d1, d2, d3] }
  | _ => none }
def HashApartWrongFalsely : Prop := hashApartRow.holds Try.pinned (OpenSpec.ofChange hashApartWrong)

/-- 'notarylaw03.ShaPlays': WHATEVER THE INPUT: true; the input reads as it did. -/
def shaPlaysSpec : ChangeSpec := { name := "shaPlays", fn := fun _ => fun
  | [d1, d2] => { results := [.lit (.bool true)], args := [d1, d2] }
  | _ => none }
def shaPlaysRow : OpenClaim := { program := "ytdkgndjomkbbjaa", sum := "843fcda3f3cec886a2b93997b0008293306b9565ae195907249f777265b12b15", func := "notary/notarylaw03.ShaPlays", spec := "shaPlays", apart := false }
def ShaPlaysSaid : Prop := shaPlaysRow.holds Try.pinned (OpenSpec.ofChange shaPlaysSpec)

/-- ITS FALSE NEIGHBOUR: 'it returns false'. Refute it at one input. -/
def shaPlaysWrong : ChangeSpec := { name := "shaPlays", fn := fun _ => fun
  | [d1, d2] => { results := [.lit (.bool false)], args := [d1, d2] }
  | _ => none }
def ShaPlaysWrongFalsely : Prop := shaPlaysRow.holds Try.pinned (OpenSpec.ofChange shaPlaysWrong)

/-- 'notarylaw08.HashLeaves': WHATEVER THE INPUT: true; the input reads as it did. -/
def hashLeavesSpec : ChangeSpec := { name := "hashLeaves", fn := fun _ => fun
  | [d] => { results := [.lit (.bool true)], args := [d] }
  | _ => none }
def hashLeavesRow : OpenClaim := { program := "ytdkgndjomkbbjaa", sum := "843fcda3f3cec886a2b93997b0008293306b9565ae195907249f777265b12b15", func := "notary/notarylaw08.HashLeaves", spec := "hashLeaves", unfollowed := true, recurses := true, apart := false }
def HashLeavesSaid : Prop := hashLeavesRow.holds Try.pinned (OpenSpec.ofChange hashLeavesSpec)

/-- ITS FALSE NEIGHBOUR: 'it returns false'. Refute it at one input. -/
def hashLeavesWrong : ChangeSpec := { name := "hashLeaves", fn := fun _ => fun
  | [d] => { results := [.lit (.bool false)], args := [d] }
  | _ => none }
def HashLeavesWrongFalsely : Prop := hashLeavesRow.holds Try.pinned (OpenSpec.ofChange hashLeavesWrong)

/-- 'notarylaw08.HashTexts': WHATEVER THE INPUT: true; the input reads as it did. -/
def hashTextsSpec : ChangeSpec := { name := "hashTexts", fn := fun _ => fun
  | [d] => { results := [.lit (.bool true)], args := [d] }
  | _ => none }
def hashTextsRow : OpenClaim := { program := "ytdkgndjomkbbjaa", sum := "843fcda3f3cec886a2b93997b0008293306b9565ae195907249f777265b12b15", func := "notary/notarylaw08.HashTexts", spec := "hashTexts", inPlace := ["internal/bytealg.IndexByte"], unfollowed := true, recurses := true, apart := false }
def HashTextsSaid : Prop := hashTextsRow.holds Try.pinned (OpenSpec.ofChange hashTextsSpec)

/-- ITS FALSE NEIGHBOUR: 'it returns false'. Refute it at one input. -/
def hashTextsWrong : ChangeSpec := { name := "hashTexts", fn := fun _ => fun
  | [d] => { results := [.lit (.bool false)], args := [d] }
  | _ => none }
def HashTextsWrongFalsely : Prop := hashTextsRow.holds Try.pinned (OpenSpec.ofChange hashTextsWrong)

/-- 'notarylaw08.HashOrders': WHATEVER THE INPUT: true; the input reads as it did. -/
def hashOrdersSpec : ChangeSpec := { name := "hashOrders", fn := fun _ => fun
  | [d1, d2] => { results := [.lit (.bool true)], args := [d1, d2] }
  | _ => none }
def hashOrdersRow : OpenClaim := { program := "ytdkgndjomkbbjaa", sum := "843fcda3f3cec886a2b93997b0008293306b9565ae195907249f777265b12b15", func := "notary/notarylaw08.HashOrders", spec := "hashOrders", inPlace := ["internal/bytealg.IndexByte", "internal/bytealg.Compare"], unfollowed := true, recurses := true, apart := false }
def HashOrdersSaid : Prop := hashOrdersRow.holds Try.pinned (OpenSpec.ofChange hashOrdersSpec)

/-- ITS FALSE NEIGHBOUR: 'it returns false'. Refute it at one input. -/
def hashOrdersWrong : ChangeSpec := { name := "hashOrders", fn := fun _ => fun
  | [d1, d2] => { results := [.lit (.bool false)], args := [d1, d2] }
  | _ => none }
def HashOrdersWrongFalsely : Prop := hashOrdersRow.holds Try.pinned (OpenSpec.ofChange hashOrdersWrong)

/- THE SECOND FORM. 'bulk': how many values and letters a reading holds, each counted each time it is reached (what is shared counts as often as it is met; a slice's spare places count too). A statement '..UptoSaid' is the law's where the arguments, and the package variables that the reading takes, are together of bulk at most 1048576: NARROWER than '..Said'. Prove '..Said' where nothing that the law and all that it calls make is longer than what came in: it says more and counts as full. Else prove '..UptoSaid'. A law counts once. -/
mutual
def uptoBulk {H : Type} : DataW H → Nat
  | .lit (.string bytes) => bytes.length + 1
  | .lit _ => 1
  | .nil => 1
  | .ptr d => uptoBulk d + 1
  | .slice elems spare => uptoBulkAll elems + uptoBulkAll spare + 1
  | .agg parts => uptoBulkAll parts + 1
  | .iface _ d => uptoBulk d + 1
  | .map entries => uptoBulkEntries entries + 1
  | .held _ => 1
def uptoBulkAll {H : Type} : List (DataW H) → Nat
  | [] => 0
  | d :: r => uptoBulk d + uptoBulkAll r
def uptoBulkEntries {H : Type} : List (Lit × DataW H) → Nat
  | [] => 0
  | x :: r => uptoBulkEntry x + uptoBulkEntries r
def uptoBulkEntry {H : Type} : Lit × DataW H → Nat
  | (.string bytes, d) => bytes.length + uptoBulk d + 1
  | (_, d) => uptoBulk d + 1
 end
def uptoSmall : (H : Type) → List (DataW H) → Bool := fun _ ds => decide (uptoBulkAll ds ≤ 1048576)
def OpenSpec.upto (s : _root_.Go.ChangeSpec) : _root_.Go.OpenSpec := { _root_.Go.OpenSpec.ofChange s with cond := some uptoSmall }

/-- 'notarylaw03.ShaSums', WHERE WHAT IT READS IS OF BULK AT MOST 1048576: true; the input reads as it did. -/
def shaSumsUptoRow : OpenClaim := { program := "ytdkgndjomkbbjaa", sum := "843fcda3f3cec886a2b93997b0008293306b9565ae195907249f777265b12b15", func := "notary/notarylaw03.ShaSums", spec := "shaSums", apart := false, narrowed := true }
def ShaSumsUptoSaid : Prop := shaSumsUptoRow.holds Try.pinned (OpenSpec.upto shaSumsSpec)

/-- 'notarylaw03.ShaBlock', WHERE WHAT IT READS IS OF BULK AT MOST 1048576: true; the input reads as it did. -/
def shaBlockUptoRow : OpenClaim := { program := "ytdkgndjomkbbjaa", sum := "843fcda3f3cec886a2b93997b0008293306b9565ae195907249f777265b12b15", func := "notary/notarylaw03.ShaBlock", spec := "shaBlock", apart := false, narrowed := true }
def ShaBlockUptoSaid : Prop := shaBlockUptoRow.holds Try.pinned (OpenSpec.upto shaBlockSpec)

/-- 'notarylaw03.ShaNil', WHERE WHAT IT READS IS OF BULK AT MOST 1048576: true; the input reads as it did. -/
def shaNilUptoRow : OpenClaim := { program := "ytdkgndjomkbbjaa", sum := "843fcda3f3cec886a2b93997b0008293306b9565ae195907249f777265b12b15", func := "notary/notarylaw03.ShaNil", spec := "shaNil", apart := false, narrowed := true }
def ShaNilUptoSaid : Prop := shaNilUptoRow.holds Try.pinned (OpenSpec.upto shaNilSpec)

/-- 'notarylaw03.ShaCut', WHERE WHAT IT READS IS OF BULK AT MOST 1048576: true; the input reads as it did. -/
def shaCutUptoRow : OpenClaim := { program := "ytdkgndjomkbbjaa", sum := "843fcda3f3cec886a2b93997b0008293306b9565ae195907249f777265b12b15", func := "notary/notarylaw03.ShaCut", spec := "shaCut", apart := false, narrowed := true }
def ShaCutUptoSaid : Prop := shaCutUptoRow.holds Try.pinned (OpenSpec.upto shaCutSpec)

/-- 'notarylaw08.HashBytes', WHERE WHAT IT READS IS OF BULK AT MOST 1048576: true; the input reads as it did. -/
def hashBytesUptoRow : OpenClaim := { program := "ytdkgndjomkbbjaa", sum := "843fcda3f3cec886a2b93997b0008293306b9565ae195907249f777265b12b15", func := "notary/notarylaw08.HashBytes", spec := "hashBytes", unfollowed := true, recurses := true, apart := false, narrowed := true }
def HashBytesUptoSaid : Prop := hashBytesUptoRow.holds Try.pinned (OpenSpec.upto hashBytesSpec)

/-- 'notarylaw08.HashRows', WHERE WHAT IT READS IS OF BULK AT MOST 1048576: true; the input reads as it did. -/
def hashRowsUptoRow : OpenClaim := { program := "ytdkgndjomkbbjaa", sum := "843fcda3f3cec886a2b93997b0008293306b9565ae195907249f777265b12b15", func := "notary/notarylaw08.HashRows", spec := "hashRows", unfollowed := true, recurses := true, apart := false, narrowed := true }
def HashRowsUptoSaid : Prop := hashRowsUptoRow.holds Try.pinned (OpenSpec.upto hashRowsSpec)

/-- 'notarylaw08.HashApart', WHERE WHAT IT READS IS OF BULK AT MOST 1048576: true; the input reads as it did. -/
def hashApartUptoRow : OpenClaim := { program := "ytdkgndjomkbbjaa", sum := "843fcda3f3cec886a2b93997b0008293306b9565ae195907249f777265b12b15", func := "notary/notarylaw08.HashApart", spec := "hashApart", unfollowed := true, recurses := true, apart := false, narrowed := true }
def HashApartUptoSaid : Prop := hashApartUptoRow.holds Try.pinned (OpenSpec.upto hashApartSpec)

/-- 'notarylaw03.ShaPlays', WHERE WHAT IT READS IS OF BULK AT MOST 1048576: true; the input reads as it did. -/
def shaPlaysUptoRow : OpenClaim := { program := "ytdkgndjomkbbjaa", sum := "843fcda3f3cec886a2b93997b0008293306b9565ae195907249f777265b12b15", func := "notary/notarylaw03.ShaPlays", spec := "shaPlays", apart := false, narrowed := true }
def ShaPlaysUptoSaid : Prop := shaPlaysUptoRow.holds Try.pinned (OpenSpec.upto shaPlaysSpec)

/-- 'notarylaw08.HashLeaves', WHERE WHAT IT READS IS OF BULK AT MOST 1048576: true; the input reads as it did. -/
def hashLeavesUptoRow : OpenClaim := { program := "ytdkgndjomkbbjaa", sum := "843fcda3f3cec886a2b93997b0008293306b9565ae195907249f777265b12b15", func := "notary/notarylaw08.HashLeaves", spec := "hashLeaves", unfollowed := true, recurses := true, apart := false, narrowed := true }
def HashLeavesUptoSaid : Prop := hashLeavesUptoRow.holds Try.pinned (OpenSpec.upto hashLeavesSpec)

/-- 'notarylaw08.HashTexts', WHERE WHAT IT READS IS OF BULK AT MOST 1048576: true; the input reads as it did. -/
def hashTextsUptoRow : OpenClaim := { program := "ytdkgndjomkbbjaa", sum := "843fcda3f3cec886a2b93997b0008293306b9565ae195907249f777265b12b15", func := "notary/notarylaw08.HashTexts", spec := "hashTexts", inPlace := ["internal/bytealg.IndexByte"], unfollowed := true, recurses := true, apart := false, narrowed := true }
def HashTextsUptoSaid : Prop := hashTextsUptoRow.holds Try.pinned (OpenSpec.upto hashTextsSpec)

/-- 'notarylaw08.HashOrders', WHERE WHAT IT READS IS OF BULK AT MOST 1048576: true; the input reads as it did. -/
def hashOrdersUptoRow : OpenClaim := { program := "ytdkgndjomkbbjaa", sum := "843fcda3f3cec886a2b93997b0008293306b9565ae195907249f777265b12b15", func := "notary/notarylaw08.HashOrders", spec := "hashOrders", inPlace := ["internal/bytealg.IndexByte", "internal/bytealg.Compare"], unfollowed := true, recurses := true, apart := false, narrowed := true }
def HashOrdersUptoSaid : Prop := hashOrdersUptoRow.holds Try.pinned (OpenSpec.upto hashOrdersSpec)

end Rows
end Go.Proofs.Ytdkgndjomkbbjaa
