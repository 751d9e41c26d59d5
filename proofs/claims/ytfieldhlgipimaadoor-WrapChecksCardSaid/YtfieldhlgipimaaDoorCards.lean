/-
  DERIVED. GIVEN WITH THE SEED: THE CARDS: each row of YtfieldhlgipimaaDoorRows.lean that lists a variable, with what it lists TIED to the program's text (the seventh form; the later family's looks); each row that meets fmt, with fmt's text TOLD by the authors' own Lean function (tested against real Go, not proved from fmt's source: count such statements apart). THE CARD IS WHAT COUNTS. Prove the row's statement (the work); the ties are given (YtfieldhlgipimaaDoorTie.lean); close each card by the builder's one call (the guide's Derived/Test/ToyasCard.lean, 'card_holds'). Laid BY PROGRAM, IN A SANDBOX (cutbox-door.mjs). By AI agents, Wed Nov 11 2026. No macro, syntax, notation, axiom, sorry.
-/
import Derived.Test.YtfieldhlgipimaaDoorRows
import GoSem.ClaimSeven
namespace Go.Proofs.YtfieldhlgipimaaDoor
namespace Rows

/-- THE TIED CARD OF 'casementlaw07.WrapChecks'. -/
def wrapChecksCard : Claim7 := { stood := { row := wrapChecksRow, standIns := [], harness := (true, "5f2d0bc66c69970f09b3c0ec30fef64f090af76f92e2e2412c1009ad5272a121"), looks := false }, kinds := [], alts := [], laidByText := true, laidKinds := [.data, .pinned], laidTests := true, laidLooks := .later }
def WrapChecksCardSaid : Prop := Claim7.holds Tryd.pinned (.plain (OpenSpec.ofChange wrapChecksSpec)) wrapChecksCard

/-- THE SECOND FORM's CARD OF 'casementlaw07.WrapChecks'. -/
def wrapChecksUptoCard : Claim7 := { stood := { row := wrapChecksUptoRow, standIns := [], harness := (true, "5f2d0bc66c69970f09b3c0ec30fef64f090af76f92e2e2412c1009ad5272a121"), looks := false }, kinds := [], alts := [], laidByText := true, laidKinds := [.data, .pinned], laidTests := true, laidLooks := .later }
def WrapChecksUptoCardSaid : Prop := Claim7.holds Tryd.pinned (.plain (OpenSpec.upto wrapChecksSpec)) wrapChecksUptoCard
end Rows
end Go.Proofs.YtfieldhlgipimaaDoor
