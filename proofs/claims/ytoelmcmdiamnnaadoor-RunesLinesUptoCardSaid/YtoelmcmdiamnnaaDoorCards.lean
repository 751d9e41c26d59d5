/-
  DERIVED. GIVEN WITH THE SEED: THE CARDS: each row of YtoelmcmdiamnnaaDoorRows.lean that lists a variable, with what it lists TIED to the program's text (the seventh form; the later family's looks); each row that meets fmt, with fmt's text TOLD by the authors' own Lean function (tested against real Go, not proved from fmt's source: count such statements apart). THE CARD IS WHAT COUNTS. Prove the row's statement (the work); the ties are given (YtoelmcmdiamnnaaDoorTie.lean); close each card by the builder's one call (the guide's Derived/Test/ToyasCard.lean, 'card_holds'). Laid BY PROGRAM, IN A SANDBOX (cutbox-door.mjs). By AI agents, Wed Nov 11 2026. No macro, syntax, notation, axiom, sorry.
-/
import Derived.Test.YtoelmcmdiamnnaaDoorRows
import GoSem.ClaimSeven
namespace Go.Proofs.YtoelmcmdiamnnaaDoor
namespace Rows

/-- THE TIED CARD OF 'casementlaw03.RunesOne'. -/
def runesOneCard : Claim7 := { stood := { row := runesOneRow, standIns := [], harness := (true, "c2f57bf8640d0d0d4cedbdc58b4a8e4222e73bc08dd7e31280c68b2b5cf2d96b"), looks := false }, kinds := [], alts := [], laidByText := true, laidKinds := [.data, .data, .pinned, .pinned, .pinned], laidTests := true, laidLooks := .later }
def RunesOneCardSaid : Prop := Claim7.holds Tryd.pinned (.plain (OpenSpec.ofChange runesOneSpec)) runesOneCard

/-- THE TIED CARD OF 'casementlaw03.RunesCut'. -/
def runesCutCard : Claim7 := { stood := { row := runesCutRow, standIns := [], harness := (true, "c2f57bf8640d0d0d4cedbdc58b4a8e4222e73bc08dd7e31280c68b2b5cf2d96b"), looks := false }, kinds := [], alts := [], laidByText := true, laidKinds := [.data, .data, .pinned, .pinned, .pinned], laidTests := true, laidLooks := .later }
def RunesCutCardSaid : Prop := Claim7.holds Tryd.pinned (.plain (OpenSpec.ofChange runesCutSpec)) runesCutCard

/-- THE TIED CARD OF 'casementlaw03.RunesGo'. -/
def runesGoCard : Claim7 := { stood := { row := runesGoRow, standIns := [], harness := (true, "c2f57bf8640d0d0d4cedbdc58b4a8e4222e73bc08dd7e31280c68b2b5cf2d96b"), looks := false }, kinds := [], alts := [], laidByText := true, laidKinds := [.data, .data, .pinned, .pinned, .pinned], laidTests := true, laidLooks := .later }
def RunesGoCardSaid : Prop := Claim7.holds Tryd.pinned (.plain (OpenSpec.ofChange runesGoSpec)) runesGoCard

/-- THE TIED CARD OF 'casementlaw03.RunesPieces'. -/
def runesPiecesCard : Claim7 := { stood := { row := runesPiecesRow, standIns := [], harness := (true, "c2f57bf8640d0d0d4cedbdc58b4a8e4222e73bc08dd7e31280c68b2b5cf2d96b"), looks := false }, kinds := [], alts := [], laidByText := true, laidKinds := [.data, .data, .pinned, .pinned, .pinned], laidTests := true, laidLooks := .later }
def RunesPiecesCardSaid : Prop := Claim7.holds Tryd.pinned (.plain (OpenSpec.ofChange runesPiecesSpec)) runesPiecesCard

/-- THE TIED CARD OF 'casementlaw03.RunesLines'. -/
def runesLinesCard : Claim7 := { stood := { row := runesLinesRow, standIns := [], harness := (true, "c2f57bf8640d0d0d4cedbdc58b4a8e4222e73bc08dd7e31280c68b2b5cf2d96b"), looks := false }, kinds := [], alts := [], laidByText := true, laidKinds := [.data, .data, .pinned, .pinned, .pinned], laidTests := true, laidLooks := .later }
def RunesLinesCardSaid : Prop := Claim7.holds Tryd.pinned (.plain (OpenSpec.ofChange runesLinesSpec)) runesLinesCard

/-- THE TIED CARD OF 'casementlaw03.RunesClean'. -/
def runesCleanCard : Claim7 := { stood := { row := runesCleanRow, standIns := [], harness := (true, "c2f57bf8640d0d0d4cedbdc58b4a8e4222e73bc08dd7e31280c68b2b5cf2d96b"), looks := false }, kinds := [], alts := [], laidByText := true, laidKinds := [.data, .data, .pinned, .pinned, .pinned], laidTests := true, laidLooks := .later }
def RunesCleanCardSaid : Prop := Claim7.holds Tryd.pinned (.plain (OpenSpec.ofChange runesCleanSpec)) runesCleanCard

/-- THE SECOND FORM's CARD OF 'casementlaw03.RunesOne'. -/
def runesOneUptoCard : Claim7 := { stood := { row := runesOneUptoRow, standIns := [], harness := (true, "c2f57bf8640d0d0d4cedbdc58b4a8e4222e73bc08dd7e31280c68b2b5cf2d96b"), looks := false }, kinds := [], alts := [], laidByText := true, laidKinds := [.data, .data, .pinned, .pinned, .pinned], laidTests := true, laidLooks := .later }
def RunesOneUptoCardSaid : Prop := Claim7.holds Tryd.pinned (.plain (OpenSpec.upto runesOneSpec)) runesOneUptoCard

/-- THE SECOND FORM's CARD OF 'casementlaw03.RunesCut'. -/
def runesCutUptoCard : Claim7 := { stood := { row := runesCutUptoRow, standIns := [], harness := (true, "c2f57bf8640d0d0d4cedbdc58b4a8e4222e73bc08dd7e31280c68b2b5cf2d96b"), looks := false }, kinds := [], alts := [], laidByText := true, laidKinds := [.data, .data, .pinned, .pinned, .pinned], laidTests := true, laidLooks := .later }
def RunesCutUptoCardSaid : Prop := Claim7.holds Tryd.pinned (.plain (OpenSpec.upto runesCutSpec)) runesCutUptoCard

/-- THE SECOND FORM's CARD OF 'casementlaw03.RunesGo'. -/
def runesGoUptoCard : Claim7 := { stood := { row := runesGoUptoRow, standIns := [], harness := (true, "c2f57bf8640d0d0d4cedbdc58b4a8e4222e73bc08dd7e31280c68b2b5cf2d96b"), looks := false }, kinds := [], alts := [], laidByText := true, laidKinds := [.data, .data, .pinned, .pinned, .pinned], laidTests := true, laidLooks := .later }
def RunesGoUptoCardSaid : Prop := Claim7.holds Tryd.pinned (.plain (OpenSpec.upto runesGoSpec)) runesGoUptoCard

/-- THE SECOND FORM's CARD OF 'casementlaw03.RunesPieces'. -/
def runesPiecesUptoCard : Claim7 := { stood := { row := runesPiecesUptoRow, standIns := [], harness := (true, "c2f57bf8640d0d0d4cedbdc58b4a8e4222e73bc08dd7e31280c68b2b5cf2d96b"), looks := false }, kinds := [], alts := [], laidByText := true, laidKinds := [.data, .data, .pinned, .pinned, .pinned], laidTests := true, laidLooks := .later }
def RunesPiecesUptoCardSaid : Prop := Claim7.holds Tryd.pinned (.plain (OpenSpec.upto runesPiecesSpec)) runesPiecesUptoCard

/-- THE SECOND FORM's CARD OF 'casementlaw03.RunesLines'. -/
def runesLinesUptoCard : Claim7 := { stood := { row := runesLinesUptoRow, standIns := [], harness := (true, "c2f57bf8640d0d0d4cedbdc58b4a8e4222e73bc08dd7e31280c68b2b5cf2d96b"), looks := false }, kinds := [], alts := [], laidByText := true, laidKinds := [.data, .data, .pinned, .pinned, .pinned], laidTests := true, laidLooks := .later }
def RunesLinesUptoCardSaid : Prop := Claim7.holds Tryd.pinned (.plain (OpenSpec.upto runesLinesSpec)) runesLinesUptoCard

/-- THE SECOND FORM's CARD OF 'casementlaw03.RunesClean'. -/
def runesCleanUptoCard : Claim7 := { stood := { row := runesCleanUptoRow, standIns := [], harness := (true, "c2f57bf8640d0d0d4cedbdc58b4a8e4222e73bc08dd7e31280c68b2b5cf2d96b"), looks := false }, kinds := [], alts := [], laidByText := true, laidKinds := [.data, .data, .pinned, .pinned, .pinned], laidTests := true, laidLooks := .later }
def RunesCleanUptoCardSaid : Prop := Claim7.holds Tryd.pinned (.plain (OpenSpec.upto runesCleanSpec)) runesCleanUptoCard
end Rows
end Go.Proofs.YtoelmcmdiamnnaaDoor
