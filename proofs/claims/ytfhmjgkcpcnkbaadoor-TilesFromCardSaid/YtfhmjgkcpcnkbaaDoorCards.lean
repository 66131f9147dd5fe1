/-
  DERIVED. GIVEN WITH THE SEED: THE CARDS: each row of YtfhmjgkcpcnkbaaDoorRows.lean that lists a variable, with what it lists TIED to the program's text (the seventh form; the later family's looks); each row that meets fmt, with fmt's text TOLD by the authors' own Lean function (tested against real Go, not proved from fmt's source: count such statements apart). THE CARD IS WHAT COUNTS. Prove the row's statement (the work); the ties are given (YtfhmjgkcpcnkbaaDoorTie.lean); close each card by the builder's one call (the guide's Derived/Test/ToyasCard.lean, 'card_holds'). Laid BY PROGRAM, IN A SANDBOX (cutbox-door.mjs). By AI agents, Wed Nov 11 2026. No macro, syntax, notation, axiom, sorry.
-/
import Derived.Test.YtfhmjgkcpcnkbaaDoorRows
import GoSem.ClaimSeven
namespace Go.Proofs.YtfhmjgkcpcnkbaaDoor
namespace Rows

/-- THE TIED CARD OF 'notarylaw14.TilesGrown'. -/
def tilesGrownCard : Claim7 := { stood := { row := tilesGrownRow, standIns := [], harness := (true, "1a5c6d30959432ce19754bd2b54372845ab57bc5ab84efccc5a60098fbaddf19"), looks := true }, kinds := [], alts := [], laidByText := true, laidKinds := [.data], laidTests := true, laidLooks := .later }
def TilesGrownCardSaid : Prop := Claim7.holds Tryd.pinned (.plain (OpenSpec.ofChange tilesGrownSpec)) tilesGrownCard

/-- THE TIED CARD OF 'notarylaw14.TilesFrom'. -/
def tilesFromCard : Claim7 := { stood := { row := tilesFromRow, standIns := [], harness := (true, "1a5c6d30959432ce19754bd2b54372845ab57bc5ab84efccc5a60098fbaddf19"), looks := true }, kinds := [], alts := [], laidByText := true, laidKinds := [.data], laidTests := true, laidLooks := .later }
def TilesFromCardSaid : Prop := Claim7.holds Tryd.pinned (.plain (OpenSpec.ofChange tilesFromSpec)) tilesFromCard

/-- THE TIED CARD OF 'notarylaw14.TilesPlays'. -/
def tilesPlaysCard : Claim7 := { stood := { row := tilesPlaysRow, standIns := [], harness := (true, "1a5c6d30959432ce19754bd2b54372845ab57bc5ab84efccc5a60098fbaddf19"), looks := true }, kinds := [], alts := [], laidByText := true, laidKinds := [.data], laidTests := true, laidLooks := .later }
def TilesPlaysCardSaid : Prop := Claim7.holds Tryd.pinned (.plain (OpenSpec.ofChange tilesPlaysSpec)) tilesPlaysCard

/-- THE TIED CARD OF 'notarylaw14.TilesAgree'. -/
def tilesAgreeCard : Claim7 := { stood := { row := tilesAgreeRow, standIns := [], harness := (true, "1a5c6d30959432ce19754bd2b54372845ab57bc5ab84efccc5a60098fbaddf19"), looks := true }, kinds := [], alts := [], laidByText := true, laidKinds := [.data], laidTests := true, laidLooks := .later }
def TilesAgreeCardSaid : Prop := Claim7.holds Tryd.pinned (.plain (OpenSpec.ofChange tilesAgreeSpec)) tilesAgreeCard

/-- THE SECOND FORM's CARD OF 'notarylaw14.TilesGrown'. -/
def tilesGrownUptoCard : Claim7 := { stood := { row := tilesGrownUptoRow, standIns := [], harness := (true, "1a5c6d30959432ce19754bd2b54372845ab57bc5ab84efccc5a60098fbaddf19"), looks := true }, kinds := [], alts := [], laidByText := true, laidKinds := [.data], laidTests := true, laidLooks := .later }
def TilesGrownUptoCardSaid : Prop := Claim7.holds Tryd.pinned (.plain (OpenSpec.upto tilesGrownSpec)) tilesGrownUptoCard

/-- THE SECOND FORM's CARD OF 'notarylaw14.TilesFrom'. -/
def tilesFromUptoCard : Claim7 := { stood := { row := tilesFromUptoRow, standIns := [], harness := (true, "1a5c6d30959432ce19754bd2b54372845ab57bc5ab84efccc5a60098fbaddf19"), looks := true }, kinds := [], alts := [], laidByText := true, laidKinds := [.data], laidTests := true, laidLooks := .later }
def TilesFromUptoCardSaid : Prop := Claim7.holds Tryd.pinned (.plain (OpenSpec.upto tilesFromSpec)) tilesFromUptoCard

/-- THE SECOND FORM's CARD OF 'notarylaw14.TilesPlays'. -/
def tilesPlaysUptoCard : Claim7 := { stood := { row := tilesPlaysUptoRow, standIns := [], harness := (true, "1a5c6d30959432ce19754bd2b54372845ab57bc5ab84efccc5a60098fbaddf19"), looks := true }, kinds := [], alts := [], laidByText := true, laidKinds := [.data], laidTests := true, laidLooks := .later }
def TilesPlaysUptoCardSaid : Prop := Claim7.holds Tryd.pinned (.plain (OpenSpec.upto tilesPlaysSpec)) tilesPlaysUptoCard

/-- THE SECOND FORM's CARD OF 'notarylaw14.TilesAgree'. -/
def tilesAgreeUptoCard : Claim7 := { stood := { row := tilesAgreeUptoRow, standIns := [], harness := (true, "1a5c6d30959432ce19754bd2b54372845ab57bc5ab84efccc5a60098fbaddf19"), looks := true }, kinds := [], alts := [], laidByText := true, laidKinds := [.data], laidTests := true, laidLooks := .later }
def TilesAgreeUptoCardSaid : Prop := Claim7.holds Tryd.pinned (.plain (OpenSpec.upto tilesAgreeSpec)) tilesAgreeUptoCard
end Rows
end Go.Proofs.YtfhmjgkcpcnkbaaDoor
