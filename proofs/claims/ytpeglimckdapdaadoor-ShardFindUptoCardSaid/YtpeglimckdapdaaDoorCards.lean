/-
  DERIVED. GIVEN WITH THE SEED: THE CARDS: each row of YtpeglimckdapdaaDoorRows.lean that lists a variable, with what it lists TIED to the program's text (the seventh form; the later family's looks); each row that meets fmt, with fmt's text TOLD by the authors' own Lean function (tested against real Go, not proved from fmt's source: count such statements apart). THE CARD IS WHAT COUNTS. Prove the row's statement (the work); the ties are given (YtpeglimckdapdaaDoorTie.lean); close each card by the builder's one call (the guide's Derived/Test/ToyasCard.lean, 'card_holds'). Laid BY PROGRAM, IN A SANDBOX (cutbox-door.mjs). By AI agents, Wed Nov 11 2026. No macro, syntax, notation, axiom, sorry.
-/
import Derived.Test.YtpeglimckdapdaaDoorRows
import GoSem.ClaimSeven
namespace Go.Proofs.YtpeglimckdapdaaDoor
namespace Rows

/-- THE TIED CARD OF 'rokeep.ShardFind'. -/
def shardFindCard : Claim7 := { stood := { row := shardFindRow, standIns := [], harness := (true, "8358b1bda3a437367fe1bd895f14a163ac0b0c1cdccaec8e0d5ce69db74b1367"), looks := false }, kinds := [], alts := [], laidByText := true, laidKinds := [.data, .pinned], laidTests := true, laidLooks := .later }
def ShardFindCardSaid : Prop := Claim7.holds Tryd.pinned (.plain (OpenSpec.ofChange shardFindSpec)) shardFindCard

/-- THE SECOND FORM's CARD OF 'rokeep.ShardFind'. -/
def shardFindUptoCard : Claim7 := { stood := { row := shardFindUptoRow, standIns := [], harness := (true, "8358b1bda3a437367fe1bd895f14a163ac0b0c1cdccaec8e0d5ce69db74b1367"), looks := false }, kinds := [], alts := [], laidByText := true, laidKinds := [.data, .pinned], laidTests := true, laidLooks := .later }
def ShardFindUptoCardSaid : Prop := Claim7.holds Tryd.pinned (.plain (OpenSpec.upto shardFindSpec)) shardFindUptoCard
end Rows
end Go.Proofs.YtpeglimckdapdaaDoor
