/-
  DERIVED. GIVEN WITH THE SEED: THE CARDS: each row of YtdhfcelhgnjpcaaDoorRows.lean that lists a variable, with what it lists TIED to the program's text (the seventh form; the later family's looks); each row that meets fmt, with fmt's text TOLD by the authors' own Lean function (tested against real Go, not proved from fmt's source: count such statements apart). THE CARD IS WHAT COUNTS. Prove the row's statement (the work); the ties are given (YtdhfcelhgnjpcaaDoorTie.lean); close each card by the builder's one call (the guide's Derived/Test/ToyasCard.lean, 'card_holds'). Laid BY PROGRAM, IN A SANDBOX (cutbox-door.mjs). By AI agents, Wed Nov 11 2026. No macro, syntax, notation, axiom, sorry.
-/
import Derived.Test.YtdhfcelhgnjpcaaDoorRows
import GoSem.ClaimSeven
namespace Go.Proofs.YtdhfcelhgnjpcaaDoor
namespace Rows

/-- THE TIED CARD OF 'rolaw.MergePlays'. -/
def mergePlaysCard : Claim7 := { stood := { row := mergePlaysRow, standIns := [], harness := (true, "362cad7de1cdb3465ee1d01bec81df43ed5a48f9bf9b0d7a369a91130fa9d218"), looks := true }, kinds := [], alts := [], laidByText := true, laidKinds := [.data, .pinned], laidTests := true, laidLooks := .later }
def MergePlaysCardSaid : Prop := Claim7.holds Tryd.pinned (.plain (OpenSpec.ofChange mergePlaysSpec)) mergePlaysCard

/-- THE TIED CARD OF 'rokeep.TextDeed'. -/
def textDeedCard : Claim7 := { stood := { row := textDeedRow, standIns := [], harness := (true, "362cad7de1cdb3465ee1d01bec81df43ed5a48f9bf9b0d7a369a91130fa9d218"), looks := true }, kinds := [], alts := [], laidByText := true, laidKinds := [.data, .data, .data, .data, .sentinel, .sentinel, .pinned], laidTests := true, laidLooks := .later }
def TextDeedCardSaid : Prop := Claim7.holds Tryd.pinned (.plain (OpenSpec.ofChange textDeedSpec)) textDeedCard

/-- THE TIED CARD OF 'rokeep.TextEntry'. -/
def textEntryCard : Claim7 := { stood := { row := textEntryRow, standIns := [], harness := (true, "362cad7de1cdb3465ee1d01bec81df43ed5a48f9bf9b0d7a369a91130fa9d218"), looks := true }, kinds := [], alts := [], laidByText := true, laidKinds := [.data, .data, .data, .data, .sentinel, .sentinel, .pinned], laidTests := true, laidLooks := .later }
def TextEntryCardSaid : Prop := Claim7.holds Tryd.pinned (.plain (OpenSpec.ofChange textEntrySpec)) textEntryCard

/-- THE TIED CARD OF 'rokeep.TextLog'. -/
def textLogCard : Claim7 := { stood := { row := textLogRow, standIns := [], harness := (true, "362cad7de1cdb3465ee1d01bec81df43ed5a48f9bf9b0d7a369a91130fa9d218"), looks := true }, kinds := [], alts := [], laidByText := true, laidKinds := [.data, .data, .data, .data, .sentinel, .sentinel, .pinned], laidTests := true, laidLooks := .later }
def TextLogCardSaid : Prop := Claim7.holds Tryd.pinned (.plain (OpenSpec.ofChange textLogSpec)) textLogCard

/-- THE SECOND FORM's CARD OF 'rolaw.MergePlays'. -/
def mergePlaysUptoCard : Claim7 := { stood := { row := mergePlaysUptoRow, standIns := [], harness := (true, "362cad7de1cdb3465ee1d01bec81df43ed5a48f9bf9b0d7a369a91130fa9d218"), looks := true }, kinds := [], alts := [], laidByText := true, laidKinds := [.data, .pinned], laidTests := true, laidLooks := .later }
def MergePlaysUptoCardSaid : Prop := Claim7.holds Tryd.pinned (.plain (OpenSpec.upto mergePlaysSpec)) mergePlaysUptoCard

/-- THE SECOND FORM's CARD OF 'rokeep.TextDeed'. -/
def textDeedUptoCard : Claim7 := { stood := { row := textDeedUptoRow, standIns := [], harness := (true, "362cad7de1cdb3465ee1d01bec81df43ed5a48f9bf9b0d7a369a91130fa9d218"), looks := true }, kinds := [], alts := [], laidByText := true, laidKinds := [.data, .data, .data, .data, .sentinel, .sentinel, .pinned], laidTests := true, laidLooks := .later }
def TextDeedUptoCardSaid : Prop := Claim7.holds Tryd.pinned (.plain (OpenSpec.upto textDeedSpec)) textDeedUptoCard

/-- THE SECOND FORM's CARD OF 'rokeep.TextEntry'. -/
def textEntryUptoCard : Claim7 := { stood := { row := textEntryUptoRow, standIns := [], harness := (true, "362cad7de1cdb3465ee1d01bec81df43ed5a48f9bf9b0d7a369a91130fa9d218"), looks := true }, kinds := [], alts := [], laidByText := true, laidKinds := [.data, .data, .data, .data, .sentinel, .sentinel, .pinned], laidTests := true, laidLooks := .later }
def TextEntryUptoCardSaid : Prop := Claim7.holds Tryd.pinned (.plain (OpenSpec.upto textEntrySpec)) textEntryUptoCard

/-- THE SECOND FORM's CARD OF 'rokeep.TextLog'. -/
def textLogUptoCard : Claim7 := { stood := { row := textLogUptoRow, standIns := [], harness := (true, "362cad7de1cdb3465ee1d01bec81df43ed5a48f9bf9b0d7a369a91130fa9d218"), looks := true }, kinds := [], alts := [], laidByText := true, laidKinds := [.data, .data, .data, .data, .sentinel, .sentinel, .pinned], laidTests := true, laidLooks := .later }
def TextLogUptoCardSaid : Prop := Claim7.holds Tryd.pinned (.plain (OpenSpec.upto textLogSpec)) textLogUptoCard
end Rows
end Go.Proofs.YtdhfcelhgnjpcaaDoor
