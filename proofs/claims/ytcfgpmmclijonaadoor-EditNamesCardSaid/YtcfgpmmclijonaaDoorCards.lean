/-
  DERIVED. GIVEN WITH THE SEED: THE CARDS: each row of YtcfgpmmclijonaaDoorRows.lean that lists a variable, with what it lists TIED to the program's text (the seventh form; the later family's looks); each row that meets fmt, with fmt's text TOLD by the authors' own Lean function (tested against real Go, not proved from fmt's source: count such statements apart). THE CARD IS WHAT COUNTS. Prove the row's statement (the work); the ties are given (YtcfgpmmclijonaaDoorTie.lean); close each card by the builder's one call (the guide's Derived/Test/ToyasCard.lean, 'card_holds'). Laid BY PROGRAM, IN A SANDBOX (cutbox-door.mjs). By AI agents, Wed Nov 11 2026. No macro, syntax, notation, axiom, sorry.
-/
import Derived.Test.YtcfgpmmclijonaaDoorRows
import GoSem.ClaimSeven
namespace Go.Proofs.YtcfgpmmclijonaaDoor
namespace Rows

/-- THE TIED CARD OF 'casementlaw25.EditKeeps'. -/
def editKeepsCard : Claim7 := { stood := { row := editKeepsRow, standIns := [], harness := (true, "4e67be02708dcafd80ba73ccb8c6cd4cdecbcd1e08931e7d48a1ae8baf885047"), looks := false }, kinds := [], alts := [], laidByText := true, laidKinds := [.data, .data, .pinned, .pinned, .pinned], laidTests := true, laidLooks := .later }
def EditKeepsCardSaid : Prop := Claim7.holds Tryd.pinned (.plain (OpenSpec.ofChange editKeepsSpec)) editKeepsCard

/-- THE TIED CARD OF 'casementlaw25.EditBack'. -/
def editBackCard : Claim7 := { stood := { row := editBackRow, standIns := [], harness := (true, "4e67be02708dcafd80ba73ccb8c6cd4cdecbcd1e08931e7d48a1ae8baf885047"), looks := false }, kinds := [], alts := [], laidByText := true, laidKinds := [.data, .data, .pinned, .pinned, .pinned], laidTests := true, laidLooks := .later }
def EditBackCardSaid : Prop := Claim7.holds Tryd.pinned (.plain (OpenSpec.ofChange editBackSpec)) editBackCard

/-- THE TIED CARD OF 'casementlaw25.EditShows'. -/
def editShowsCard : Claim7 := { stood := { row := editShowsRow, standIns := [], harness := (true, "4e67be02708dcafd80ba73ccb8c6cd4cdecbcd1e08931e7d48a1ae8baf885047"), looks := false }, kinds := [], alts := [], laidByText := true, laidKinds := [.data, .data, .pinned, .pinned, .pinned], laidTests := true, laidLooks := .later }
def EditShowsCardSaid : Prop := Claim7.holds Tryd.pinned (.plain (OpenSpec.ofChange editShowsSpec)) editShowsCard

/-- THE TIED CARD OF 'casementlaw25.EditNames'. -/
def editNamesCard : Claim7 := { stood := { row := editNamesRow, standIns := [], harness := (true, "4e67be02708dcafd80ba73ccb8c6cd4cdecbcd1e08931e7d48a1ae8baf885047"), looks := false }, kinds := [], alts := [], laidByText := true, laidKinds := [.data, .data, .pinned, .pinned, .pinned], laidTests := true, laidLooks := .later }
def EditNamesCardSaid : Prop := Claim7.holds Tryd.pinned (.plain (OpenSpec.ofChange editNamesSpec)) editNamesCard

/-- THE SECOND FORM's CARD OF 'casementlaw25.EditKeeps'. -/
def editKeepsUptoCard : Claim7 := { stood := { row := editKeepsUptoRow, standIns := [], harness := (true, "4e67be02708dcafd80ba73ccb8c6cd4cdecbcd1e08931e7d48a1ae8baf885047"), looks := false }, kinds := [], alts := [], laidByText := true, laidKinds := [.data, .data, .pinned, .pinned, .pinned], laidTests := true, laidLooks := .later }
def EditKeepsUptoCardSaid : Prop := Claim7.holds Tryd.pinned (.plain (OpenSpec.upto editKeepsSpec)) editKeepsUptoCard

/-- THE SECOND FORM's CARD OF 'casementlaw25.EditBack'. -/
def editBackUptoCard : Claim7 := { stood := { row := editBackUptoRow, standIns := [], harness := (true, "4e67be02708dcafd80ba73ccb8c6cd4cdecbcd1e08931e7d48a1ae8baf885047"), looks := false }, kinds := [], alts := [], laidByText := true, laidKinds := [.data, .data, .pinned, .pinned, .pinned], laidTests := true, laidLooks := .later }
def EditBackUptoCardSaid : Prop := Claim7.holds Tryd.pinned (.plain (OpenSpec.upto editBackSpec)) editBackUptoCard

/-- THE SECOND FORM's CARD OF 'casementlaw25.EditShows'. -/
def editShowsUptoCard : Claim7 := { stood := { row := editShowsUptoRow, standIns := [], harness := (true, "4e67be02708dcafd80ba73ccb8c6cd4cdecbcd1e08931e7d48a1ae8baf885047"), looks := false }, kinds := [], alts := [], laidByText := true, laidKinds := [.data, .data, .pinned, .pinned, .pinned], laidTests := true, laidLooks := .later }
def EditShowsUptoCardSaid : Prop := Claim7.holds Tryd.pinned (.plain (OpenSpec.upto editShowsSpec)) editShowsUptoCard

/-- THE SECOND FORM's CARD OF 'casementlaw25.EditNames'. -/
def editNamesUptoCard : Claim7 := { stood := { row := editNamesUptoRow, standIns := [], harness := (true, "4e67be02708dcafd80ba73ccb8c6cd4cdecbcd1e08931e7d48a1ae8baf885047"), looks := false }, kinds := [], alts := [], laidByText := true, laidKinds := [.data, .data, .pinned, .pinned, .pinned], laidTests := true, laidLooks := .later }
def EditNamesUptoCardSaid : Prop := Claim7.holds Tryd.pinned (.plain (OpenSpec.upto editNamesSpec)) editNamesUptoCard
end Rows
end Go.Proofs.YtcfgpmmclijonaaDoor
