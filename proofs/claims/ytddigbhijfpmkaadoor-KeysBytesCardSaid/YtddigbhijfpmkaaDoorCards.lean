/-
  DERIVED. GIVEN WITH THE SEED: THE CARDS: each row of YtddigbhijfpmkaaDoorRows.lean that lists a variable, with what it lists TIED to the program's text (the seventh form; the later family's looks); each row that meets fmt, with fmt's text TOLD by the authors' own Lean function (tested against real Go, not proved from fmt's source: count such statements apart). THE CARD IS WHAT COUNTS. Prove the row's statement (the work); the ties are given (YtddigbhijfpmkaaDoorTie.lean); close each card by the builder's one call (the guide's Derived/Test/ToyasCard.lean, 'card_holds'). Laid BY PROGRAM, IN A SANDBOX (cutbox-door.mjs). By AI agents, Wed Nov 11 2026. No macro, syntax, notation, axiom, sorry.
-/
import Derived.Test.YtddigbhijfpmkaaDoorRows
import GoSem.ClaimSeven
namespace Go.Proofs.YtddigbhijfpmkaaDoor
namespace Rows

/-- THE TIED CARD OF 'casementlaw21.KeysBytes'. -/
def keysBytesCard : Claim7 := { stood := { row := keysBytesRow, standIns := [], harness := (true, "b070724a3c9d567f25a788bd43591cf7be5029639175210506b208ac62ee09d1"), looks := false }, kinds := [], alts := [], laidByText := true, laidKinds := [.data, .pinned], laidTests := true, laidLooks := .later }
def KeysBytesCardSaid : Prop := Claim7.holds Tryd.pinned (.plain (OpenSpec.ofChange keysBytesSpec)) keysBytesCard

/-- THE TIED CARD OF 'casementlaw21.KeysBack'. -/
def keysBackCard : Claim7 := { stood := { row := keysBackRow, standIns := [], harness := (true, "b070724a3c9d567f25a788bd43591cf7be5029639175210506b208ac62ee09d1"), looks := false }, kinds := [], alts := [], laidByText := true, laidKinds := [.data, .pinned], laidTests := true, laidLooks := .later }
def KeysBackCardSaid : Prop := Claim7.holds Tryd.pinned (.plain (OpenSpec.ofChange keysBackSpec)) keysBackCard

/-- THE TIED CARD OF 'casementlaw21.KeysPieces'. -/
def keysPiecesCard : Claim7 := { stood := { row := keysPiecesRow, standIns := [], harness := (true, "b070724a3c9d567f25a788bd43591cf7be5029639175210506b208ac62ee09d1"), looks := false }, kinds := [], alts := [], laidByText := true, laidKinds := [.data, .pinned], laidTests := true, laidLooks := .later }
def KeysPiecesCardSaid : Prop := Claim7.holds Tryd.pinned (.plain (OpenSpec.ofChange keysPiecesSpec)) keysPiecesCard

/-- THE TIED CARD OF 'casementlaw21.KeysWay'. -/
def keysWayCard : Claim7 := { stood := { row := keysWayRow, standIns := [], harness := (true, "b070724a3c9d567f25a788bd43591cf7be5029639175210506b208ac62ee09d1"), looks := false }, kinds := [], alts := [], laidByText := true, laidKinds := [.data, .pinned], laidTests := true, laidLooks := .later }
def KeysWayCardSaid : Prop := Claim7.holds Tryd.pinned (.plain (OpenSpec.ofChange keysWaySpec)) keysWayCard

/-- THE TIED CARD OF 'casementlaw21.KeysText'. -/
def keysTextCard : Claim7 := { stood := { row := keysTextRow, standIns := [], harness := (true, "b070724a3c9d567f25a788bd43591cf7be5029639175210506b208ac62ee09d1"), looks := false }, kinds := [], alts := [], laidByText := true, laidKinds := [.data, .pinned], laidTests := true, laidLooks := .later }
def KeysTextCardSaid : Prop := Claim7.holds Tryd.pinned (.plain (OpenSpec.ofChange keysTextSpec)) keysTextCard

/-- THE TIED CARD OF 'casementlaw21.KeysMatch'. -/
def keysMatchCard : Claim7 := { stood := { row := keysMatchRow, standIns := [], harness := (true, "b070724a3c9d567f25a788bd43591cf7be5029639175210506b208ac62ee09d1"), looks := false }, kinds := [], alts := [], laidByText := true, laidKinds := [.data, .pinned], laidTests := true, laidLooks := .later }
def KeysMatchCardSaid : Prop := Claim7.holds Tryd.pinned (.plain (OpenSpec.ofChange keysMatchSpec)) keysMatchCard

/-- THE SECOND FORM's CARD OF 'casementlaw21.KeysBytes'. -/
def keysBytesUptoCard : Claim7 := { stood := { row := keysBytesUptoRow, standIns := [], harness := (true, "b070724a3c9d567f25a788bd43591cf7be5029639175210506b208ac62ee09d1"), looks := false }, kinds := [], alts := [], laidByText := true, laidKinds := [.data, .pinned], laidTests := true, laidLooks := .later }
def KeysBytesUptoCardSaid : Prop := Claim7.holds Tryd.pinned (.plain (OpenSpec.upto keysBytesSpec)) keysBytesUptoCard

/-- THE SECOND FORM's CARD OF 'casementlaw21.KeysBack'. -/
def keysBackUptoCard : Claim7 := { stood := { row := keysBackUptoRow, standIns := [], harness := (true, "b070724a3c9d567f25a788bd43591cf7be5029639175210506b208ac62ee09d1"), looks := false }, kinds := [], alts := [], laidByText := true, laidKinds := [.data, .pinned], laidTests := true, laidLooks := .later }
def KeysBackUptoCardSaid : Prop := Claim7.holds Tryd.pinned (.plain (OpenSpec.upto keysBackSpec)) keysBackUptoCard

/-- THE SECOND FORM's CARD OF 'casementlaw21.KeysPieces'. -/
def keysPiecesUptoCard : Claim7 := { stood := { row := keysPiecesUptoRow, standIns := [], harness := (true, "b070724a3c9d567f25a788bd43591cf7be5029639175210506b208ac62ee09d1"), looks := false }, kinds := [], alts := [], laidByText := true, laidKinds := [.data, .pinned], laidTests := true, laidLooks := .later }
def KeysPiecesUptoCardSaid : Prop := Claim7.holds Tryd.pinned (.plain (OpenSpec.upto keysPiecesSpec)) keysPiecesUptoCard

/-- THE SECOND FORM's CARD OF 'casementlaw21.KeysWay'. -/
def keysWayUptoCard : Claim7 := { stood := { row := keysWayUptoRow, standIns := [], harness := (true, "b070724a3c9d567f25a788bd43591cf7be5029639175210506b208ac62ee09d1"), looks := false }, kinds := [], alts := [], laidByText := true, laidKinds := [.data, .pinned], laidTests := true, laidLooks := .later }
def KeysWayUptoCardSaid : Prop := Claim7.holds Tryd.pinned (.plain (OpenSpec.upto keysWaySpec)) keysWayUptoCard

/-- THE SECOND FORM's CARD OF 'casementlaw21.KeysText'. -/
def keysTextUptoCard : Claim7 := { stood := { row := keysTextUptoRow, standIns := [], harness := (true, "b070724a3c9d567f25a788bd43591cf7be5029639175210506b208ac62ee09d1"), looks := false }, kinds := [], alts := [], laidByText := true, laidKinds := [.data, .pinned], laidTests := true, laidLooks := .later }
def KeysTextUptoCardSaid : Prop := Claim7.holds Tryd.pinned (.plain (OpenSpec.upto keysTextSpec)) keysTextUptoCard

/-- THE SECOND FORM's CARD OF 'casementlaw21.KeysMatch'. -/
def keysMatchUptoCard : Claim7 := { stood := { row := keysMatchUptoRow, standIns := [], harness := (true, "b070724a3c9d567f25a788bd43591cf7be5029639175210506b208ac62ee09d1"), looks := false }, kinds := [], alts := [], laidByText := true, laidKinds := [.data, .pinned], laidTests := true, laidLooks := .later }
def KeysMatchUptoCardSaid : Prop := Claim7.holds Tryd.pinned (.plain (OpenSpec.upto keysMatchSpec)) keysMatchUptoCard
end Rows
end Go.Proofs.YtddigbhijfpmkaaDoor
