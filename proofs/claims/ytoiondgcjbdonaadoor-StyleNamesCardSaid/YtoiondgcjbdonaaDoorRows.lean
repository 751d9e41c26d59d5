/-
  NARROWER THAN 'FOR EVERY INPUT', by the rows' own cells (each row's printed sentence says how): StyleRules: laid · StyleUnders: laid · StylePeels: laid · StyleOrders: laid · StyleTold: laid · StyleBrackets: laid · StyleNames: laid.
  DERIVED. THE GIVEN ROWS OF THIS SEAT. 7 by the template 'for every input the law returns true; each argument reads behind the call as it read before'; 0 by the template 'total and deterministic' (their statements: YtoiondgcjbdonaaDoorTotals.lean).
  GIVEN WITH THE SEED: the statements are not yours to turn. If you find one false, say at which input.
  Laid BY PROGRAM, IN A SANDBOX (cutbox-rows.mjs): the forced cells as the released guide's own fill.sh prints them over the translation b0709ad32d591ad4… (all of the seat's roots in one cut). By AI agents, Wed Nov 11 2026. No macro, syntax, notation, axiom, sorry.
-/
import Derived.Test.YtoiondgcjbdonaaDoorChecked
import GoSem.PinnedTables
import GoSem.Claim
import GoSem.ClaimJoined
import GoSem.ClaimMapViews
import Derived.JoinedTies
import Derived.KernelRfl
namespace Go.Proofs.YtoiondgcjbdonaaDoor
/- THE CELL 'sum', in the pinned program and in every row, IS THE sha256 OF THE DUMP (.gsa) THAT YtoiondgcjbdonaaDoorProg.lean LOADS. Nothing in Lean hashes anything: it is a label: what it is worth is what the hold of that sum in a sandbox is worth. -/
noncomputable def Tryd.pinned : Pinned := { name := "ytoiondgcjbdonaadoor", sum := "b0709ad32d591ad4d0c49f17879a08de859153f4c001989e366a54ee91fc6a98", checked := Tryd.checked }
namespace Rows
def none {H : Type} : Left H := { results := [], args := [] }

/- WHAT THE LISTED PACKAGE-LEVEL VARIABLES READ AS WHEN THE CALL BEGINS. Each datum BY PROGRAM (the guide's laid-datum.mjs) off the statement by which the dump's own 'gosem.cut.vars' lays the variable. In a bare row this is a premise. The card (YtoiondgcjbdonaaDoorCards.lean) ties it to the program's text. -/
def laid_unicode_utf8_acceptRanges {H : Type} : DataW H := .agg [.agg [.lit (.int .u8 128), .lit (.int .u8 191)], .agg [.lit (.int .u8 160), .lit (.int .u8 191)], .agg [.lit (.int .u8 128), .lit (.int .u8 159)], .agg [.lit (.int .u8 144), .lit (.int .u8 191)], .agg [.lit (.int .u8 128), .lit (.int .u8 143)], .agg [.lit (.int .u8 0), .lit (.int .u8 0)], .agg [.lit (.int .u8 0), .lit (.int .u8 0)], .agg [.lit (.int .u8 0), .lit (.int .u8 0)], .agg [.lit (.int .u8 0), .lit (.int .u8 0)], .agg [.lit (.int .u8 0), .lit (.int .u8 0)], .agg [.lit (.int .u8 0), .lit (.int .u8 0)], .agg [.lit (.int .u8 0), .lit (.int .u8 0)], .agg [.lit (.int .u8 0), .lit (.int .u8 0)], .agg [.lit (.int .u8 0), .lit (.int .u8 0)], .agg [.lit (.int .u8 0), .lit (.int .u8 0)], .agg [.lit (.int .u8 0), .lit (.int .u8 0)]]
/-- One of Go's own tables, pinned by name: the form's constant. -/
def laid_unicode_utf8_first : DataW Unit := Go.Pinned.utf8First

/-- 'casementlaw05.StyleRules': WHATEVER THE INPUT: true; the input reads as it did. -/
def styleRulesSpec : ChangeSpec := { name := "styleRules", fn := fun _ => fun
  | [d1, d2, d3, d4, d5] => { results := [.lit (.bool true)], args := [d1, d2, d3, d4, d5] }
  | _ => none }
def styleRulesRow : OpenClaim := { program := "ytoiondgcjbdonaadoor", sum := "b0709ad32d591ad4d0c49f17879a08de859153f4c001989e366a54ee91fc6a98", func := "casement/casementlaw05.StyleRules", spec := "styleRules", inPlace := ["internal/bytealg.IndexByteString", "internal/bytealg.IndexString", "internal/reflectlite.ValueOf", "internal/reflectlite.Swapper", "(internal/reflectlite.Value).Len", "internal/bytealg.CountString"], unfollowed := true, recurses := true, named := ["internal/bytealg.MaxLen", "unicode/utf8.first", "unicode/utf8.acceptRanges"], apart := false, laid := [("unicode/utf8.acceptRanges", laid_unicode_utf8_acceptRanges), ("unicode/utf8.first", laid_unicode_utf8_first)] }
def StyleRulesSaid : Prop := styleRulesRow.holds Tryd.pinned (OpenSpec.ofChange styleRulesSpec)

/-- ITS FALSE NEIGHBOUR: 'it returns false'. Refute it at one input. -/
def styleRulesWrong : ChangeSpec := { name := "styleRules", fn := fun _ => fun
  | [d1, d2, d3, d4, d5] => { results := [.lit (.bool false)], args := [d1, d2, d3, d4, d5] }
  | _ => none }
def StyleRulesWrongFalsely : Prop := styleRulesRow.holds Tryd.pinned (OpenSpec.ofChange styleRulesWrong)

/-- 'casementlaw05.StyleUnders': WHATEVER THE INPUT: true; the input reads as it did. -/
def styleUndersSpec : ChangeSpec := { name := "styleUnders", fn := fun _ => fun
  | [d1, d2] => { results := [.lit (.bool true)], args := [d1, d2] }
  | _ => none }
def styleUndersRow : OpenClaim := { program := "ytoiondgcjbdonaadoor", sum := "b0709ad32d591ad4d0c49f17879a08de859153f4c001989e366a54ee91fc6a98", func := "casement/casementlaw05.StyleUnders", spec := "styleUnders", inPlace := ["internal/bytealg.IndexByteString", "internal/bytealg.IndexString", "internal/reflectlite.ValueOf", "internal/reflectlite.Swapper", "(internal/reflectlite.Value).Len", "internal/bytealg.CountString"], unfollowed := true, recurses := true, named := ["internal/bytealg.MaxLen", "unicode/utf8.first", "unicode/utf8.acceptRanges"], apart := false, laid := [("unicode/utf8.acceptRanges", laid_unicode_utf8_acceptRanges), ("unicode/utf8.first", laid_unicode_utf8_first)] }
def StyleUndersSaid : Prop := styleUndersRow.holds Tryd.pinned (OpenSpec.ofChange styleUndersSpec)

/-- ITS FALSE NEIGHBOUR: 'it returns false'. Refute it at one input. -/
def styleUndersWrong : ChangeSpec := { name := "styleUnders", fn := fun _ => fun
  | [d1, d2] => { results := [.lit (.bool false)], args := [d1, d2] }
  | _ => none }
def StyleUndersWrongFalsely : Prop := styleUndersRow.holds Tryd.pinned (OpenSpec.ofChange styleUndersWrong)

/-- 'casementlaw05.StylePeels': WHATEVER THE INPUT: true; the input reads as it did. -/
def stylePeelsSpec : ChangeSpec := { name := "stylePeels", fn := fun _ => fun
  | [d1, d2, d3, d4] => { results := [.lit (.bool true)], args := [d1, d2, d3, d4] }
  | _ => none }
def stylePeelsRow : OpenClaim := { program := "ytoiondgcjbdonaadoor", sum := "b0709ad32d591ad4d0c49f17879a08de859153f4c001989e366a54ee91fc6a98", func := "casement/casementlaw05.StylePeels", spec := "stylePeels", inPlace := ["internal/bytealg.IndexByteString", "internal/bytealg.IndexString", "internal/reflectlite.ValueOf", "internal/reflectlite.Swapper", "(internal/reflectlite.Value).Len", "internal/bytealg.CountString"], unfollowed := true, recurses := true, named := ["internal/bytealg.MaxLen", "unicode/utf8.first", "unicode/utf8.acceptRanges"], apart := false, laid := [("unicode/utf8.acceptRanges", laid_unicode_utf8_acceptRanges), ("unicode/utf8.first", laid_unicode_utf8_first)] }
def StylePeelsSaid : Prop := stylePeelsRow.holds Tryd.pinned (OpenSpec.ofChange stylePeelsSpec)

/-- ITS FALSE NEIGHBOUR: 'it returns false'. Refute it at one input. -/
def stylePeelsWrong : ChangeSpec := { name := "stylePeels", fn := fun _ => fun
  | [d1, d2, d3, d4] => { results := [.lit (.bool false)], args := [d1, d2, d3, d4] }
  | _ => none }
def StylePeelsWrongFalsely : Prop := stylePeelsRow.holds Tryd.pinned (OpenSpec.ofChange stylePeelsWrong)

/-- 'casementlaw05.StyleOrders': WHATEVER THE INPUT: true; the input reads as it did. -/
def styleOrdersSpec : ChangeSpec := { name := "styleOrders", fn := fun _ => fun
  | [d] => { results := [.lit (.bool true)], args := [d] }
  | _ => none }
def styleOrdersRow : OpenClaim := { program := "ytoiondgcjbdonaadoor", sum := "b0709ad32d591ad4d0c49f17879a08de859153f4c001989e366a54ee91fc6a98", func := "casement/casementlaw05.StyleOrders", spec := "styleOrders", inPlace := ["internal/bytealg.IndexByteString", "internal/bytealg.IndexString", "internal/reflectlite.ValueOf", "internal/reflectlite.Swapper", "(internal/reflectlite.Value).Len", "internal/bytealg.CountString"], unfollowed := true, recurses := true, named := ["internal/bytealg.MaxLen", "unicode/utf8.first", "unicode/utf8.acceptRanges"], apart := false, laid := [("unicode/utf8.acceptRanges", laid_unicode_utf8_acceptRanges), ("unicode/utf8.first", laid_unicode_utf8_first)] }
def StyleOrdersSaid : Prop := styleOrdersRow.holds Tryd.pinned (OpenSpec.ofChange styleOrdersSpec)

/-- ITS FALSE NEIGHBOUR: 'it returns false'. Refute it at one input. -/
def styleOrdersWrong : ChangeSpec := { name := "styleOrders", fn := fun _ => fun
  | [d] => { results := [.lit (.bool false)], args := [d] }
  | _ => none }
def StyleOrdersWrongFalsely : Prop := styleOrdersRow.holds Tryd.pinned (OpenSpec.ofChange styleOrdersWrong)

/-- 'casementlaw05.StyleTold': WHATEVER THE INPUT: true; the input reads as it did. -/
def styleToldSpec : ChangeSpec := { name := "styleTold", fn := fun _ => fun
  | [d1, d2, d3, d4] => { results := [.lit (.bool true)], args := [d1, d2, d3, d4] }
  | _ => none }
def styleToldRow : OpenClaim := { program := "ytoiondgcjbdonaadoor", sum := "b0709ad32d591ad4d0c49f17879a08de859153f4c001989e366a54ee91fc6a98", func := "casement/casementlaw05.StyleTold", spec := "styleTold", inPlace := ["internal/bytealg.IndexByteString", "internal/bytealg.IndexString", "internal/reflectlite.ValueOf", "internal/reflectlite.Swapper", "(internal/reflectlite.Value).Len", "internal/bytealg.CountString"], unfollowed := true, recurses := true, named := ["internal/bytealg.MaxLen", "unicode/utf8.first", "unicode/utf8.acceptRanges"], apart := false, laid := [("unicode/utf8.acceptRanges", laid_unicode_utf8_acceptRanges), ("unicode/utf8.first", laid_unicode_utf8_first)] }
def StyleToldSaid : Prop := styleToldRow.holds Tryd.pinned (OpenSpec.ofChange styleToldSpec)

/-- ITS FALSE NEIGHBOUR: 'it returns false'. Refute it at one input. -/
def styleToldWrong : ChangeSpec := { name := "styleTold", fn := fun _ => fun
  | [d1, d2, d3, d4] => { results := [.lit (.bool false)], args := [d1, d2, d3, d4] }
  | _ => none }
def StyleToldWrongFalsely : Prop := styleToldRow.holds Tryd.pinned (OpenSpec.ofChange styleToldWrong)

/-- 'casementlaw05.StyleBrackets': WHATEVER THE INPUT: true; the input reads as it did. -/
def styleBracketsSpec : ChangeSpec := { name := "styleBrackets", fn := fun _ => fun
  | [d1, d2, d3] => { results := [.lit (.bool true)], args := [d1, d2, d3] }
  | _ => none }
def styleBracketsRow : OpenClaim := { program := "ytoiondgcjbdonaadoor", sum := "b0709ad32d591ad4d0c49f17879a08de859153f4c001989e366a54ee91fc6a98", func := "casement/casementlaw05.StyleBrackets", spec := "styleBrackets", inPlace := ["internal/bytealg.IndexByteString", "internal/bytealg.IndexString", "internal/reflectlite.ValueOf", "internal/reflectlite.Swapper", "(internal/reflectlite.Value).Len", "internal/bytealg.CountString"], unfollowed := true, recurses := true, named := ["internal/bytealg.MaxLen", "unicode/utf8.first", "unicode/utf8.acceptRanges"], apart := false, laid := [("unicode/utf8.acceptRanges", laid_unicode_utf8_acceptRanges), ("unicode/utf8.first", laid_unicode_utf8_first)] }
def StyleBracketsSaid : Prop := styleBracketsRow.holds Tryd.pinned (OpenSpec.ofChange styleBracketsSpec)

/-- ITS FALSE NEIGHBOUR: 'it returns false'. Refute it at one input. -/
def styleBracketsWrong : ChangeSpec := { name := "styleBrackets", fn := fun _ => fun
  | [d1, d2, d3] => { results := [.lit (.bool false)], args := [d1, d2, d3] }
  | _ => none }
def StyleBracketsWrongFalsely : Prop := styleBracketsRow.holds Tryd.pinned (OpenSpec.ofChange styleBracketsWrong)

/-- 'casementlaw05.StyleNames': WHATEVER THE INPUT: true; the input reads as it did. -/
def styleNamesSpec : ChangeSpec := { name := "styleNames", fn := fun _ => fun
  | [] => { results := [.lit (.bool true)], args := [] }
  | _ => none }
def styleNamesRow : OpenClaim := { program := "ytoiondgcjbdonaadoor", sum := "b0709ad32d591ad4d0c49f17879a08de859153f4c001989e366a54ee91fc6a98", func := "casement/casementlaw05.StyleNames", spec := "styleNames", inPlace := ["internal/bytealg.IndexByteString", "internal/bytealg.IndexString", "internal/reflectlite.ValueOf", "internal/reflectlite.Swapper", "(internal/reflectlite.Value).Len", "internal/bytealg.CountString"], unfollowed := true, recurses := true, named := ["internal/bytealg.MaxLen", "unicode/utf8.first", "unicode/utf8.acceptRanges"], apart := false, laid := [("unicode/utf8.acceptRanges", laid_unicode_utf8_acceptRanges), ("unicode/utf8.first", laid_unicode_utf8_first)] }
def StyleNamesSaid : Prop := styleNamesRow.holds Tryd.pinned (OpenSpec.ofChange styleNamesSpec)

/-- ITS FALSE NEIGHBOUR: 'it returns false'. Refute it at one input. -/
def styleNamesWrong : ChangeSpec := { name := "styleNames", fn := fun _ => fun
  | [] => { results := [.lit (.bool false)], args := [] }
  | _ => none }
def StyleNamesWrongFalsely : Prop := styleNamesRow.holds Tryd.pinned (OpenSpec.ofChange styleNamesWrong)

/- THE SECOND FORM. 'bulk': how many values and letters a reading holds, each counted each time it is reached (what is shared counts as often as it is met; a slice's spare places count too). A statement '..UptoSaid' is the law's where the arguments, and the package variables that the reading takes, are together of bulk at most 1048576: NARROWER than '..Said'. Prove '..Said' where nothing that the law and all that it calls make is longer than what came in: it says more and counts as full. Else prove '..UptoSaid'. A law counts once. -/
mutual
def uptoBulk {H : Type} : DataW H → Nat
  | .lit (.string bytes) => bytes.length + 1
  | .lit _ => 1
  | .nil => 1
  | .ptr d => uptoBulk d + 1
  | .slice elems spare => uptoBulkAll elems + uptoBulkAll spare + 1
  | .agg parts => uptoBulkAll parts + 1
  | .iface _ d => uptoBulk d + 1
  | .map entries => uptoBulkEntries entries + 1
  | .held _ => 1
def uptoBulkAll {H : Type} : List (DataW H) → Nat
  | [] => 0
  | d :: r => uptoBulk d + uptoBulkAll r
def uptoBulkEntries {H : Type} : List (Lit × DataW H) → Nat
  | [] => 0
  | x :: r => uptoBulkEntry x + uptoBulkEntries r
def uptoBulkEntry {H : Type} : Lit × DataW H → Nat
  | (.string bytes, d) => bytes.length + uptoBulk d + 1
  | (_, d) => uptoBulk d + 1
 end
def uptoSmall : (H : Type) → List (DataW H) → Bool := fun _ ds => decide (uptoBulkAll ds ≤ 1048576)
def OpenSpec.upto (s : _root_.Go.ChangeSpec) : _root_.Go.OpenSpec := { _root_.Go.OpenSpec.ofChange s with cond := some uptoSmall }

/-- 'casementlaw05.StyleRules', WHERE WHAT IT READS IS OF BULK AT MOST 1048576: true; the input reads as it did. -/
def styleRulesUptoRow : OpenClaim := { program := "ytoiondgcjbdonaadoor", sum := "b0709ad32d591ad4d0c49f17879a08de859153f4c001989e366a54ee91fc6a98", func := "casement/casementlaw05.StyleRules", spec := "styleRules", inPlace := ["internal/bytealg.IndexByteString", "internal/bytealg.IndexString", "internal/reflectlite.ValueOf", "internal/reflectlite.Swapper", "(internal/reflectlite.Value).Len", "internal/bytealg.CountString"], unfollowed := true, recurses := true, named := ["internal/bytealg.MaxLen", "unicode/utf8.first", "unicode/utf8.acceptRanges"], apart := false, laid := [("unicode/utf8.acceptRanges", laid_unicode_utf8_acceptRanges), ("unicode/utf8.first", laid_unicode_utf8_first)], narrowed := true }
def StyleRulesUptoSaid : Prop := styleRulesUptoRow.holds Tryd.pinned (OpenSpec.upto styleRulesSpec)

/-- 'casementlaw05.StyleUnders', WHERE WHAT IT READS IS OF BULK AT MOST 1048576: true; the input reads as it did. -/
def styleUndersUptoRow : OpenClaim := { program := "ytoiondgcjbdonaadoor", sum := "b0709ad32d591ad4d0c49f17879a08de859153f4c001989e366a54ee91fc6a98", func := "casement/casementlaw05.StyleUnders", spec := "styleUnders", inPlace := ["internal/bytealg.IndexByteString", "internal/bytealg.IndexString", "internal/reflectlite.ValueOf", "internal/reflectlite.Swapper", "(internal/reflectlite.Value).Len", "internal/bytealg.CountString"], unfollowed := true, recurses := true, named := ["internal/bytealg.MaxLen", "unicode/utf8.first", "unicode/utf8.acceptRanges"], apart := false, laid := [("unicode/utf8.acceptRanges", laid_unicode_utf8_acceptRanges), ("unicode/utf8.first", laid_unicode_utf8_first)], narrowed := true }
def StyleUndersUptoSaid : Prop := styleUndersUptoRow.holds Tryd.pinned (OpenSpec.upto styleUndersSpec)

/-- 'casementlaw05.StylePeels', WHERE WHAT IT READS IS OF BULK AT MOST 1048576: true; the input reads as it did. -/
def stylePeelsUptoRow : OpenClaim := { program := "ytoiondgcjbdonaadoor", sum := "b0709ad32d591ad4d0c49f17879a08de859153f4c001989e366a54ee91fc6a98", func := "casement/casementlaw05.StylePeels", spec := "stylePeels", inPlace := ["internal/bytealg.IndexByteString", "internal/bytealg.IndexString", "internal/reflectlite.ValueOf", "internal/reflectlite.Swapper", "(internal/reflectlite.Value).Len", "internal/bytealg.CountString"], unfollowed := true, recurses := true, named := ["internal/bytealg.MaxLen", "unicode/utf8.first", "unicode/utf8.acceptRanges"], apart := false, laid := [("unicode/utf8.acceptRanges", laid_unicode_utf8_acceptRanges), ("unicode/utf8.first", laid_unicode_utf8_first)], narrowed := true }
def StylePeelsUptoSaid : Prop := stylePeelsUptoRow.holds Tryd.pinned (OpenSpec.upto stylePeelsSpec)

/-- 'casementlaw05.StyleOrders', WHERE WHAT IT READS IS OF BULK AT MOST 1048576: true; the input reads as it did. -/
def styleOrdersUptoRow : OpenClaim := { program := "ytoiondgcjbdonaadoor", sum := "b0709ad32d591ad4d0c49f17879a08de859153f4c001989e366a54ee91fc6a98", func := "casement/casementlaw05.StyleOrders", spec := "styleOrders", inPlace := ["internal/bytealg.IndexByteString", "internal/bytealg.IndexString", "internal/reflectlite.ValueOf", "internal/reflectlite.Swapper", "(internal/reflectlite.Value).Len", "internal/bytealg.CountString"], unfollowed := true, recurses := true, named := ["internal/bytealg.MaxLen", "unicode/utf8.first", "unicode/utf8.acceptRanges"], apart := false, laid := [("unicode/utf8.acceptRanges", laid_unicode_utf8_acceptRanges), ("unicode/utf8.first", laid_unicode_utf8_first)], narrowed := true }
def StyleOrdersUptoSaid : Prop := styleOrdersUptoRow.holds Tryd.pinned (OpenSpec.upto styleOrdersSpec)

/-- 'casementlaw05.StyleTold', WHERE WHAT IT READS IS OF BULK AT MOST 1048576: true; the input reads as it did. -/
def styleToldUptoRow : OpenClaim := { program := "ytoiondgcjbdonaadoor", sum := "b0709ad32d591ad4d0c49f17879a08de859153f4c001989e366a54ee91fc6a98", func := "casement/casementlaw05.StyleTold", spec := "styleTold", inPlace := ["internal/bytealg.IndexByteString", "internal/bytealg.IndexString", "internal/reflectlite.ValueOf", "internal/reflectlite.Swapper", "(internal/reflectlite.Value).Len", "internal/bytealg.CountString"], unfollowed := true, recurses := true, named := ["internal/bytealg.MaxLen", "unicode/utf8.first", "unicode/utf8.acceptRanges"], apart := false, laid := [("unicode/utf8.acceptRanges", laid_unicode_utf8_acceptRanges), ("unicode/utf8.first", laid_unicode_utf8_first)], narrowed := true }
def StyleToldUptoSaid : Prop := styleToldUptoRow.holds Tryd.pinned (OpenSpec.upto styleToldSpec)

/-- 'casementlaw05.StyleBrackets', WHERE WHAT IT READS IS OF BULK AT MOST 1048576: true; the input reads as it did. -/
def styleBracketsUptoRow : OpenClaim := { program := "ytoiondgcjbdonaadoor", sum := "b0709ad32d591ad4d0c49f17879a08de859153f4c001989e366a54ee91fc6a98", func := "casement/casementlaw05.StyleBrackets", spec := "styleBrackets", inPlace := ["internal/bytealg.IndexByteString", "internal/bytealg.IndexString", "internal/reflectlite.ValueOf", "internal/reflectlite.Swapper", "(internal/reflectlite.Value).Len", "internal/bytealg.CountString"], unfollowed := true, recurses := true, named := ["internal/bytealg.MaxLen", "unicode/utf8.first", "unicode/utf8.acceptRanges"], apart := false, laid := [("unicode/utf8.acceptRanges", laid_unicode_utf8_acceptRanges), ("unicode/utf8.first", laid_unicode_utf8_first)], narrowed := true }
def StyleBracketsUptoSaid : Prop := styleBracketsUptoRow.holds Tryd.pinned (OpenSpec.upto styleBracketsSpec)

/-- 'casementlaw05.StyleNames', WHERE WHAT IT READS IS OF BULK AT MOST 1048576: true; the input reads as it did. -/
def styleNamesUptoRow : OpenClaim := { program := "ytoiondgcjbdonaadoor", sum := "b0709ad32d591ad4d0c49f17879a08de859153f4c001989e366a54ee91fc6a98", func := "casement/casementlaw05.StyleNames", spec := "styleNames", inPlace := ["internal/bytealg.IndexByteString", "internal/bytealg.IndexString", "internal/reflectlite.ValueOf", "internal/reflectlite.Swapper", "(internal/reflectlite.Value).Len", "internal/bytealg.CountString"], unfollowed := true, recurses := true, named := ["internal/bytealg.MaxLen", "unicode/utf8.first", "unicode/utf8.acceptRanges"], apart := false, laid := [("unicode/utf8.acceptRanges", laid_unicode_utf8_acceptRanges), ("unicode/utf8.first", laid_unicode_utf8_first)], narrowed := true }
def StyleNamesUptoSaid : Prop := styleNamesUptoRow.holds Tryd.pinned (OpenSpec.upto styleNamesSpec)

end Rows
end Go.Proofs.YtoiondgcjbdonaaDoor
