/-
  DERIVED. GIVEN WITH THE SEED: THE CARDS: each row of YtcfgpmmclijonaaGreatDoorRows.lean that lists a variable, with what it lists TIED to the program's text (the seventh form; the later family's looks); each row that meets fmt, with fmt's text TOLD by the authors' own Lean function (tested against real Go, not proved from fmt's source: count such statements apart). THE CARD IS WHAT COUNTS. Prove the row's statement (the work); the ties are given (YtcfgpmmclijonaaGreatDoorTie.lean); close each card by the builder's one call (the guide's Derived/Test/ToyasCard.lean, 'card_holds'). Laid BY PROGRAM, IN A SANDBOX (cutbox-door.mjs). By AI agents, Wed Nov 11 2026. No macro, syntax, notation, axiom, sorry.
-/
import Derived.Test.YtcfgpmmclijonaaGreatDoorRows
import GoSem.ClaimSeven
namespace Go.Proofs.YtcfgpmmclijonaaGreatDoor
namespace Rows

/-- THE TIED CARD OF 'casementlaw25.EditPlays'. -/
def editPlaysCard : Claim7 := { stood := { row := editPlaysRow, standIns := [], harness := (true, "04ee4992055d031f3b2adf80b5753fe224504213e38b4fd2040b147850493eb9"), looks := false }, kinds := [], alts := [], laidByText := true, laidKinds := [.data, .data, .pinned, .pinned, .pinned], laidTests := true, laidLooks := .later }
def EditPlaysCardSaid : Prop := Claim7.holds Tryz.pinned (.plain (OpenSpec.ofChange editPlaysSpec)) editPlaysCard

/-- THE SECOND FORM's CARD OF 'casementlaw25.EditPlays'. -/
def editPlaysUptoCard : Claim7 := { stood := { row := editPlaysUptoRow, standIns := [], harness := (true, "04ee4992055d031f3b2adf80b5753fe224504213e38b4fd2040b147850493eb9"), looks := false }, kinds := [], alts := [], laidByText := true, laidKinds := [.data, .data, .pinned, .pinned, .pinned], laidTests := true, laidLooks := .later }
def EditPlaysUptoCardSaid : Prop := Claim7.holds Tryz.pinned (.plain (OpenSpec.upto editPlaysSpec)) editPlaysUptoCard
end Rows
end Go.Proofs.YtcfgpmmclijonaaGreatDoor
