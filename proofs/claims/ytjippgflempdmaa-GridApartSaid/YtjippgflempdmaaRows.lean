/-
  No cell of these rows narrows 'for every input' (looked for: loops, veiled, ifaces, maps, wideKeys, modest, calm, conditions, laid).
  DERIVED. THE GIVEN ROWS OF THIS SEAT. 5 by the template 'for every input the law returns true; each argument reads behind the call as it read before'; 0 by the template 'total and deterministic' (their statements: YtjippgflempdmaaTotals.lean).
  GIVEN WITH THE SEED: the statements are not yours to turn. If you find one false, say at which input.
  Laid BY PROGRAM, IN A SANDBOX (cutbox-rows.mjs): the forced cells as the released guide's own fill.sh prints them over the translation bd0daf8d324a067e… (all of the seat's roots in one cut). By AI agents, Wed Nov 11 2026. No macro, syntax, notation, axiom, sorry.
-/
import Derived.Test.YtjippgflempdmaaChecked
import GoSem.Claim
import GoSem.ClaimJoined
import GoSem.ClaimMapViews
import Derived.JoinedTies
import Derived.KernelRfl
namespace Go.Proofs.Ytjippgflempdmaa
/- THE CELL 'sum', in the pinned program and in every row, IS THE sha256 OF THE DUMP (.gsa) THAT YtjippgflempdmaaProg.lean LOADS. Nothing in Lean hashes anything: it is a label: what it is worth is what the hold of that sum in a sandbox is worth. -/
noncomputable def Try.pinned : Pinned := { name := "ytjippgflempdmaa", sum := "bd0daf8d324a067e18e6b69acd30a737bde949a7f98f7bc6acea223eb8447ace", checked := Try.checked }
namespace Rows
def none {H : Type} : Left H := { results := [], args := [] }

/-- 'casementlaw11.GridNames': WHATEVER THE INPUT: true; the input reads as it did. -/
def gridNamesSpec : ChangeSpec := { name := "gridNames", fn := fun _ => fun
  | [] => { results := [.lit (.bool true)], args := [] }
  | _ => none }
def gridNamesRow : OpenClaim := { program := "ytjippgflempdmaa", sum := "bd0daf8d324a067e18e6b69acd30a737bde949a7f98f7bc6acea223eb8447ace", func := "casement/casementlaw11.GridNames", spec := "gridNames", unfollowed := true, recurses := true, apart := false }
def GridNamesSaid : Prop := gridNamesRow.holds Try.pinned (OpenSpec.ofChange gridNamesSpec)

/-- ITS FALSE NEIGHBOUR: 'it returns false'. Refute it at one input. -/
def gridNamesWrong : ChangeSpec := { name := "gridNames", fn := fun _ => fun
  | [] => { results := [.lit (.bool false)], args := [] }
  | _ => none }
def GridNamesWrongFalsely : Prop := gridNamesRow.holds Try.pinned (OpenSpec.ofChange gridNamesWrong)

/-- 'casementlaw11.GridWidths': WHATEVER THE INPUT: true; the input reads as it did. -/
def gridWidthsSpec : ChangeSpec := { name := "gridWidths", fn := fun _ => fun
  | [d1, d2, d3, d4] => { results := [.lit (.bool true)], args := [d1, d2, d3, d4] }
  | _ => none }
def gridWidthsRow : OpenClaim := { program := "ytjippgflempdmaa", sum := "bd0daf8d324a067e18e6b69acd30a737bde949a7f98f7bc6acea223eb8447ace", func := "casement/casementlaw11.GridWidths", spec := "gridWidths", unfollowed := true, recurses := true, apart := false }
def GridWidthsSaid : Prop := gridWidthsRow.holds Try.pinned (OpenSpec.ofChange gridWidthsSpec)

/-- ITS FALSE NEIGHBOUR: 'it returns false'. Refute it at one input. -/
def gridWidthsWrong : ChangeSpec := { name := "gridWidths", fn := fun _ => fun
  | [d1, d2, d3, d4] => { results := [.lit (.bool false)], args := [d1, d2, d3, d4] }
  | _ => none }
def GridWidthsWrongFalsely : Prop := gridWidthsRow.holds Try.pinned (OpenSpec.ofChange gridWidthsWrong)

/-- 'casementlaw11.GridRects': WHATEVER THE INPUT: true; the input reads as it did. -/
def gridRectsSpec : ChangeSpec := { name := "gridRects", fn := fun _ => fun
  | [d1, d2, d3, d4, d5] => { results := [.lit (.bool true)], args := [d1, d2, d3, d4, d5] }
  | _ => none }
def gridRectsRow : OpenClaim := { program := "ytjippgflempdmaa", sum := "bd0daf8d324a067e18e6b69acd30a737bde949a7f98f7bc6acea223eb8447ace", func := "casement/casementlaw11.GridRects", spec := "gridRects", unfollowed := true, recurses := true, apart := false }
def GridRectsSaid : Prop := gridRectsRow.holds Try.pinned (OpenSpec.ofChange gridRectsSpec)

/-- ITS FALSE NEIGHBOUR: 'it returns false'. Refute it at one input. -/
def gridRectsWrong : ChangeSpec := { name := "gridRects", fn := fun _ => fun
  | [d1, d2, d3, d4, d5] => { results := [.lit (.bool false)], args := [d1, d2, d3, d4, d5] }
  | _ => none }
def GridRectsWrongFalsely : Prop := gridRectsRow.holds Try.pinned (OpenSpec.ofChange gridRectsWrong)

/-- 'casementlaw11.GridLeast': WHATEVER THE INPUT: true; the input reads as it did. -/
def gridLeastSpec : ChangeSpec := { name := "gridLeast", fn := fun _ => fun
  | [d1, d2, d3, d4, d5] => { results := [.lit (.bool true)], args := [d1, d2, d3, d4, d5] }
  | _ => none }
def gridLeastRow : OpenClaim := { program := "ytjippgflempdmaa", sum := "bd0daf8d324a067e18e6b69acd30a737bde949a7f98f7bc6acea223eb8447ace", func := "casement/casementlaw11.GridLeast", spec := "gridLeast", unfollowed := true, recurses := true, apart := false }
def GridLeastSaid : Prop := gridLeastRow.holds Try.pinned (OpenSpec.ofChange gridLeastSpec)

/-- ITS FALSE NEIGHBOUR: 'it returns false'. Refute it at one input. -/
def gridLeastWrong : ChangeSpec := { name := "gridLeast", fn := fun _ => fun
  | [d1, d2, d3, d4, d5] => { results := [.lit (.bool false)], args := [d1, d2, d3, d4, d5] }
  | _ => none }
def GridLeastWrongFalsely : Prop := gridLeastRow.holds Try.pinned (OpenSpec.ofChange gridLeastWrong)

/-- 'casementlaw11.GridApart': WHATEVER THE INPUT: true; the input reads as it did. -/
def gridApartSpec : ChangeSpec := { name := "gridApart", fn := fun _ => fun
  | [d1, d2, d3, d4, d5] => { results := [.lit (.bool true)], args := [d1, d2, d3, d4, d5] }
  | _ => none }
def gridApartRow : OpenClaim := { program := "ytjippgflempdmaa", sum := "bd0daf8d324a067e18e6b69acd30a737bde949a7f98f7bc6acea223eb8447ace", func := "casement/casementlaw11.GridApart", spec := "gridApart", unfollowed := true, recurses := true, apart := false }
def GridApartSaid : Prop := gridApartRow.holds Try.pinned (OpenSpec.ofChange gridApartSpec)

/-- ITS FALSE NEIGHBOUR: 'it returns false'. Refute it at one input. -/
def gridApartWrong : ChangeSpec := { name := "gridApart", fn := fun _ => fun
  | [d1, d2, d3, d4, d5] => { results := [.lit (.bool false)], args := [d1, d2, d3, d4, d5] }
  | _ => none }
def GridApartWrongFalsely : Prop := gridApartRow.holds Try.pinned (OpenSpec.ofChange gridApartWrong)

/- THE SECOND FORM. 'bulk': how many values and letters a reading holds, each counted each time it is reached (what is shared counts as often as it is met; a slice's spare places count too). A statement '..UptoSaid' is the law's where the arguments, and the package variables that the reading takes, are together of bulk at most 1048576: NARROWER than '..Said'. Prove '..Said' where nothing that the law and all that it calls make is longer than what came in: it says more and counts as full. Else prove '..UptoSaid'. A law counts once. -/
mutual
def uptoBulk {H : Type} : DataW H → Nat
  | .lit (.string bytes) => bytes.length + 1
  | .lit _ => 1
  | .nil => 1
  | .ptr d => uptoBulk d + 1
  | .slice elems spare => uptoBulkAll elems + uptoBulkAll spare + 1
  | .agg parts => uptoBulkAll parts + 1
  | .iface _ d => uptoBulk d + 1
  | .map entries => uptoBulkEntries entries + 1
  | .held _ => 1
def uptoBulkAll {H : Type} : List (DataW H) → Nat
  | [] => 0
  | d :: r => uptoBulk d + uptoBulkAll r
def uptoBulkEntries {H : Type} : List (Lit × DataW H) → Nat
  | [] => 0
  | x :: r => uptoBulkEntry x + uptoBulkEntries r
def uptoBulkEntry {H : Type} : Lit × DataW H → Nat
  | (.string bytes, d) => bytes.length + uptoBulk d + 1
  | (_, d) => uptoBulk d + 1
 end
def uptoSmall : (H : Type) → List (DataW H) → Bool := fun _ ds => decide (uptoBulkAll ds ≤ 1048576)
def OpenSpec.upto (s : _root_.Go.ChangeSpec) : _root_.Go.OpenSpec := { _root_.Go.OpenSpec.ofChange s with cond := some uptoSmall }

/-- 'casementlaw11.GridNames', WHERE WHAT IT READS IS OF BULK AT MOST 1048576: true; the input reads as it did. -/
def gridNamesUptoRow : OpenClaim := { program := "ytjippgflempdmaa", sum := "bd0daf8d324a067e18e6b69acd30a737bde949a7f98f7bc6acea223eb8447ace", func := "casement/casementlaw11.GridNames", spec := "gridNames", unfollowed := true, recurses := true, apart := false, narrowed := true }
def GridNamesUptoSaid : Prop := gridNamesUptoRow.holds Try.pinned (OpenSpec.upto gridNamesSpec)

/-- 'casementlaw11.GridWidths', WHERE WHAT IT READS IS OF BULK AT MOST 1048576: true; the input reads as it did. -/
def gridWidthsUptoRow : OpenClaim := { program := "ytjippgflempdmaa", sum := "bd0daf8d324a067e18e6b69acd30a737bde949a7f98f7bc6acea223eb8447ace", func := "casement/casementlaw11.GridWidths", spec := "gridWidths", unfollowed := true, recurses := true, apart := false, narrowed := true }
def GridWidthsUptoSaid : Prop := gridWidthsUptoRow.holds Try.pinned (OpenSpec.upto gridWidthsSpec)

/-- 'casementlaw11.GridRects', WHERE WHAT IT READS IS OF BULK AT MOST 1048576: true; the input reads as it did. -/
def gridRectsUptoRow : OpenClaim := { program := "ytjippgflempdmaa", sum := "bd0daf8d324a067e18e6b69acd30a737bde949a7f98f7bc6acea223eb8447ace", func := "casement/casementlaw11.GridRects", spec := "gridRects", unfollowed := true, recurses := true, apart := false, narrowed := true }
def GridRectsUptoSaid : Prop := gridRectsUptoRow.holds Try.pinned (OpenSpec.upto gridRectsSpec)

/-- 'casementlaw11.GridLeast', WHERE WHAT IT READS IS OF BULK AT MOST 1048576: true; the input reads as it did. -/
def gridLeastUptoRow : OpenClaim := { program := "ytjippgflempdmaa", sum := "bd0daf8d324a067e18e6b69acd30a737bde949a7f98f7bc6acea223eb8447ace", func := "casement/casementlaw11.GridLeast", spec := "gridLeast", unfollowed := true, recurses := true, apart := false, narrowed := true }
def GridLeastUptoSaid : Prop := gridLeastUptoRow.holds Try.pinned (OpenSpec.upto gridLeastSpec)

/-- 'casementlaw11.GridApart', WHERE WHAT IT READS IS OF BULK AT MOST 1048576: true; the input reads as it did. -/
def gridApartUptoRow : OpenClaim := { program := "ytjippgflempdmaa", sum := "bd0daf8d324a067e18e6b69acd30a737bde949a7f98f7bc6acea223eb8447ace", func := "casement/casementlaw11.GridApart", spec := "gridApart", unfollowed := true, recurses := true, apart := false, narrowed := true }
def GridApartUptoSaid : Prop := gridApartUptoRow.holds Try.pinned (OpenSpec.upto gridApartSpec)

end Rows
end Go.Proofs.Ytjippgflempdmaa
