/-
  DERIVED. GIVEN WITH THE SEED: THE CARDS: each row of YtoiondgcjbdonaaDoorRows.lean that lists a variable, with what it lists TIED to the program's text (the seventh form; the later family's looks); each row that meets fmt, with fmt's text TOLD by the authors' own Lean function (tested against real Go, not proved from fmt's source: count such statements apart). THE CARD IS WHAT COUNTS. Prove the row's statement (the work); the ties are given (YtoiondgcjbdonaaDoorTie.lean); close each card by the builder's one call (the guide's Derived/Test/ToyasCard.lean, 'card_holds'). Laid BY PROGRAM, IN A SANDBOX (cutbox-door.mjs). By AI agents, Wed Nov 11 2026. No macro, syntax, notation, axiom, sorry.
-/
import Derived.Test.YtoiondgcjbdonaaDoorRows
import GoSem.ClaimSeven
namespace Go.Proofs.YtoiondgcjbdonaaDoor
namespace Rows

/-- THE TIED CARD OF 'casementlaw05.StyleRules'. -/
def styleRulesCard : Claim7 := { stood := { row := styleRulesRow, standIns := [], harness := (true, "e5be82126c748b42e13574e3e93851599015cff9cc83194e36083d391559c8e1"), looks := false }, kinds := [], alts := [], laidByText := true, laidKinds := [.data, .pinned], laidTests := true, laidLooks := .later }
def StyleRulesCardSaid : Prop := Claim7.holds Tryd.pinned (.plain (OpenSpec.ofChange styleRulesSpec)) styleRulesCard

/-- THE TIED CARD OF 'casementlaw05.StyleUnders'. -/
def styleUndersCard : Claim7 := { stood := { row := styleUndersRow, standIns := [], harness := (true, "e5be82126c748b42e13574e3e93851599015cff9cc83194e36083d391559c8e1"), looks := false }, kinds := [], alts := [], laidByText := true, laidKinds := [.data, .pinned], laidTests := true, laidLooks := .later }
def StyleUndersCardSaid : Prop := Claim7.holds Tryd.pinned (.plain (OpenSpec.ofChange styleUndersSpec)) styleUndersCard

/-- THE TIED CARD OF 'casementlaw05.StylePeels'. -/
def stylePeelsCard : Claim7 := { stood := { row := stylePeelsRow, standIns := [], harness := (true, "e5be82126c748b42e13574e3e93851599015cff9cc83194e36083d391559c8e1"), looks := false }, kinds := [], alts := [], laidByText := true, laidKinds := [.data, .pinned], laidTests := true, laidLooks := .later }
def StylePeelsCardSaid : Prop := Claim7.holds Tryd.pinned (.plain (OpenSpec.ofChange stylePeelsSpec)) stylePeelsCard

/-- THE TIED CARD OF 'casementlaw05.StyleOrders'. -/
def styleOrdersCard : Claim7 := { stood := { row := styleOrdersRow, standIns := [], harness := (true, "e5be82126c748b42e13574e3e93851599015cff9cc83194e36083d391559c8e1"), looks := false }, kinds := [], alts := [], laidByText := true, laidKinds := [.data, .pinned], laidTests := true, laidLooks := .later }
def StyleOrdersCardSaid : Prop := Claim7.holds Tryd.pinned (.plain (OpenSpec.ofChange styleOrdersSpec)) styleOrdersCard

/-- THE TIED CARD OF 'casementlaw05.StyleTold'. -/
def styleToldCard : Claim7 := { stood := { row := styleToldRow, standIns := [], harness := (true, "e5be82126c748b42e13574e3e93851599015cff9cc83194e36083d391559c8e1"), looks := false }, kinds := [], alts := [], laidByText := true, laidKinds := [.data, .pinned], laidTests := true, laidLooks := .later }
def StyleToldCardSaid : Prop := Claim7.holds Tryd.pinned (.plain (OpenSpec.ofChange styleToldSpec)) styleToldCard

/-- THE TIED CARD OF 'casementlaw05.StyleBrackets'. -/
def styleBracketsCard : Claim7 := { stood := { row := styleBracketsRow, standIns := [], harness := (true, "e5be82126c748b42e13574e3e93851599015cff9cc83194e36083d391559c8e1"), looks := false }, kinds := [], alts := [], laidByText := true, laidKinds := [.data, .pinned], laidTests := true, laidLooks := .later }
def StyleBracketsCardSaid : Prop := Claim7.holds Tryd.pinned (.plain (OpenSpec.ofChange styleBracketsSpec)) styleBracketsCard

/-- THE TIED CARD OF 'casementlaw05.StyleNames'. -/
def styleNamesCard : Claim7 := { stood := { row := styleNamesRow, standIns := [], harness := (true, "e5be82126c748b42e13574e3e93851599015cff9cc83194e36083d391559c8e1"), looks := false }, kinds := [], alts := [], laidByText := true, laidKinds := [.data, .pinned], laidTests := true, laidLooks := .later }
def StyleNamesCardSaid : Prop := Claim7.holds Tryd.pinned (.plain (OpenSpec.ofChange styleNamesSpec)) styleNamesCard

/-- THE SECOND FORM's CARD OF 'casementlaw05.StyleRules'. -/
def styleRulesUptoCard : Claim7 := { stood := { row := styleRulesUptoRow, standIns := [], harness := (true, "e5be82126c748b42e13574e3e93851599015cff9cc83194e36083d391559c8e1"), looks := false }, kinds := [], alts := [], laidByText := true, laidKinds := [.data, .pinned], laidTests := true, laidLooks := .later }
def StyleRulesUptoCardSaid : Prop := Claim7.holds Tryd.pinned (.plain (OpenSpec.upto styleRulesSpec)) styleRulesUptoCard

/-- THE SECOND FORM's CARD OF 'casementlaw05.StyleUnders'. -/
def styleUndersUptoCard : Claim7 := { stood := { row := styleUndersUptoRow, standIns := [], harness := (true, "e5be82126c748b42e13574e3e93851599015cff9cc83194e36083d391559c8e1"), looks := false }, kinds := [], alts := [], laidByText := true, laidKinds := [.data, .pinned], laidTests := true, laidLooks := .later }
def StyleUndersUptoCardSaid : Prop := Claim7.holds Tryd.pinned (.plain (OpenSpec.upto styleUndersSpec)) styleUndersUptoCard

/-- THE SECOND FORM's CARD OF 'casementlaw05.StylePeels'. -/
def stylePeelsUptoCard : Claim7 := { stood := { row := stylePeelsUptoRow, standIns := [], harness := (true, "e5be82126c748b42e13574e3e93851599015cff9cc83194e36083d391559c8e1"), looks := false }, kinds := [], alts := [], laidByText := true, laidKinds := [.data, .pinned], laidTests := true, laidLooks := .later }
def StylePeelsUptoCardSaid : Prop := Claim7.holds Tryd.pinned (.plain (OpenSpec.upto stylePeelsSpec)) stylePeelsUptoCard

/-- THE SECOND FORM's CARD OF 'casementlaw05.StyleOrders'. -/
def styleOrdersUptoCard : Claim7 := { stood := { row := styleOrdersUptoRow, standIns := [], harness := (true, "e5be82126c748b42e13574e3e93851599015cff9cc83194e36083d391559c8e1"), looks := false }, kinds := [], alts := [], laidByText := true, laidKinds := [.data, .pinned], laidTests := true, laidLooks := .later }
def StyleOrdersUptoCardSaid : Prop := Claim7.holds Tryd.pinned (.plain (OpenSpec.upto styleOrdersSpec)) styleOrdersUptoCard

/-- THE SECOND FORM's CARD OF 'casementlaw05.StyleTold'. -/
def styleToldUptoCard : Claim7 := { stood := { row := styleToldUptoRow, standIns := [], harness := (true, "e5be82126c748b42e13574e3e93851599015cff9cc83194e36083d391559c8e1"), looks := false }, kinds := [], alts := [], laidByText := true, laidKinds := [.data, .pinned], laidTests := true, laidLooks := .later }
def StyleToldUptoCardSaid : Prop := Claim7.holds Tryd.pinned (.plain (OpenSpec.upto styleToldSpec)) styleToldUptoCard

/-- THE SECOND FORM's CARD OF 'casementlaw05.StyleBrackets'. -/
def styleBracketsUptoCard : Claim7 := { stood := { row := styleBracketsUptoRow, standIns := [], harness := (true, "e5be82126c748b42e13574e3e93851599015cff9cc83194e36083d391559c8e1"), looks := false }, kinds := [], alts := [], laidByText := true, laidKinds := [.data, .pinned], laidTests := true, laidLooks := .later }
def StyleBracketsUptoCardSaid : Prop := Claim7.holds Tryd.pinned (.plain (OpenSpec.upto styleBracketsSpec)) styleBracketsUptoCard

/-- THE SECOND FORM's CARD OF 'casementlaw05.StyleNames'. -/
def styleNamesUptoCard : Claim7 := { stood := { row := styleNamesUptoRow, standIns := [], harness := (true, "e5be82126c748b42e13574e3e93851599015cff9cc83194e36083d391559c8e1"), looks := false }, kinds := [], alts := [], laidByText := true, laidKinds := [.data, .pinned], laidTests := true, laidLooks := .later }
def StyleNamesUptoCardSaid : Prop := Claim7.holds Tryd.pinned (.plain (OpenSpec.upto styleNamesSpec)) styleNamesUptoCard
end Rows
end Go.Proofs.YtoiondgcjbdonaaDoor
