/-
  No cell of these rows narrows 'for every input' (looked for: loops, veiled, ifaces, maps, wideKeys, modest, calm, conditions, laid).
  DERIVED. THE GIVEN ROWS OF THIS SEAT. 7 by the template 'for every input the law returns true; each argument reads behind the call as it read before'; 0 by the template 'total and deterministic' (their statements: YtoinjoihkodkeaaTotals.lean).
  GIVEN WITH THE SEED: the statements are not yours to turn. If you find one false, say at which input.
  Laid BY PROGRAM, IN A SANDBOX (cutbox-rows.mjs): the forced cells as the released guide's own fill.sh prints them over the translation 31a8b1ce81d2868c… (all of the seat's roots in one cut). By AI agents, Wed Nov 11 2026. No macro, syntax, notation, axiom, sorry.
-/
import Derived.Test.YtoinjoihkodkeaaChecked
import GoSem.Claim
import GoSem.ClaimJoined
import GoSem.ClaimMapViews
import Derived.JoinedTies
import Derived.KernelRfl
namespace Go.Proofs.Ytoinjoihkodkeaa
/- THE CELL 'sum', in the pinned program and in every row, IS THE sha256 OF THE DUMP (.gsa) THAT YtoinjoihkodkeaaProg.lean LOADS. Nothing in Lean hashes anything: it is a label: what it is worth is what the hold of that sum in a sandbox is worth. -/
noncomputable def Try.pinned : Pinned := { name := "ytoinjoihkodkeaa", sum := "31a8b1ce81d2868c7f6591e1d25bdc6253c75fde96bd7650449cc132a3bc2f49", checked := Try.checked }
namespace Rows
def none {H : Type} : Left H := { results := [], args := [] }

/-- 'casementlaw01.GeomOnes': WHATEVER THE INPUT: true; the input reads as it did. -/
def geomOnesSpec : ChangeSpec := { name := "geomOnes", fn := fun _ => fun
  | [d1, d2, d3] => { results := [.lit (.bool true)], args := [d1, d2, d3] }
  | _ => none }
def geomOnesRow : OpenClaim := { program := "ytoinjoihkodkeaa", sum := "31a8b1ce81d2868c7f6591e1d25bdc6253c75fde96bd7650449cc132a3bc2f49", func := "casement/casementlaw01.GeomOnes", spec := "geomOnes", apart := false }
def GeomOnesSaid : Prop := geomOnesRow.holds Try.pinned (OpenSpec.ofChange geomOnesSpec)

/-- ITS FALSE NEIGHBOUR: 'it returns false'. Refute it at one input. -/
def geomOnesWrong : ChangeSpec := { name := "geomOnes", fn := fun _ => fun
  | [d1, d2, d3] => { results := [.lit (.bool false)], args := [d1, d2, d3] }
  | _ => none }
def GeomOnesWrongFalsely : Prop := geomOnesRow.holds Try.pinned (OpenSpec.ofChange geomOnesWrong)

/-- 'casementlaw01.GeomMoves': WHATEVER THE INPUT: true; the input reads as it did. -/
def geomMovesSpec : ChangeSpec := { name := "geomMoves", fn := fun _ => fun
  | [d1, d2, d3, d4, d5] => { results := [.lit (.bool true)], args := [d1, d2, d3, d4, d5] }
  | _ => none }
def geomMovesRow : OpenClaim := { program := "ytoinjoihkodkeaa", sum := "31a8b1ce81d2868c7f6591e1d25bdc6253c75fde96bd7650449cc132a3bc2f49", func := "casement/casementlaw01.GeomMoves", spec := "geomMoves", apart := false }
def GeomMovesSaid : Prop := geomMovesRow.holds Try.pinned (OpenSpec.ofChange geomMovesSpec)

/-- ITS FALSE NEIGHBOUR: 'it returns false'. Refute it at one input. -/
def geomMovesWrong : ChangeSpec := { name := "geomMoves", fn := fun _ => fun
  | [d1, d2, d3, d4, d5] => { results := [.lit (.bool false)], args := [d1, d2, d3, d4, d5] }
  | _ => none }
def GeomMovesWrongFalsely : Prop := geomMovesRow.holds Try.pinned (OpenSpec.ofChange geomMovesWrong)

/-- 'casementlaw01.GeomTwos': WHATEVER THE INPUT: true; the input reads as it did. -/
def geomTwosSpec : ChangeSpec := { name := "geomTwos", fn := fun _ => fun
  | [d1, d2] => { results := [.lit (.bool true)], args := [d1, d2] }
  | _ => none }
def geomTwosRow : OpenClaim := { program := "ytoinjoihkodkeaa", sum := "31a8b1ce81d2868c7f6591e1d25bdc6253c75fde96bd7650449cc132a3bc2f49", func := "casement/casementlaw01.GeomTwos", spec := "geomTwos", apart := false }
def GeomTwosSaid : Prop := geomTwosRow.holds Try.pinned (OpenSpec.ofChange geomTwosSpec)

/-- ITS FALSE NEIGHBOUR: 'it returns false'. Refute it at one input. -/
def geomTwosWrong : ChangeSpec := { name := "geomTwos", fn := fun _ => fun
  | [d1, d2] => { results := [.lit (.bool false)], args := [d1, d2] }
  | _ => none }
def GeomTwosWrongFalsely : Prop := geomTwosRow.holds Try.pinned (OpenSpec.ofChange geomTwosWrong)

/-- 'casementlaw01.GeomAreas': WHATEVER THE INPUT: true; the input reads as it did. -/
def geomAreasSpec : ChangeSpec := { name := "geomAreas", fn := fun _ => fun
  | [d1, d2] => { results := [.lit (.bool true)], args := [d1, d2] }
  | _ => none }
def geomAreasRow : OpenClaim := { program := "ytoinjoihkodkeaa", sum := "31a8b1ce81d2868c7f6591e1d25bdc6253c75fde96bd7650449cc132a3bc2f49", func := "casement/casementlaw01.GeomAreas", spec := "geomAreas", apart := false }
def GeomAreasSaid : Prop := geomAreasRow.holds Try.pinned (OpenSpec.ofChange geomAreasSpec)

/-- ITS FALSE NEIGHBOUR: 'it returns false'. Refute it at one input. -/
def geomAreasWrong : ChangeSpec := { name := "geomAreas", fn := fun _ => fun
  | [d1, d2] => { results := [.lit (.bool false)], args := [d1, d2] }
  | _ => none }
def GeomAreasWrongFalsely : Prop := geomAreasRow.holds Try.pinned (OpenSpec.ofChange geomAreasWrong)

/-- 'casementlaw01.GeomPlaces': WHATEVER THE INPUT: true; the input reads as it did. -/
def geomPlacesSpec : ChangeSpec := { name := "geomPlaces", fn := fun _ => fun
  | [d1, d2] => { results := [.lit (.bool true)], args := [d1, d2] }
  | _ => none }
def geomPlacesRow : OpenClaim := { program := "ytoinjoihkodkeaa", sum := "31a8b1ce81d2868c7f6591e1d25bdc6253c75fde96bd7650449cc132a3bc2f49", func := "casement/casementlaw01.GeomPlaces", spec := "geomPlaces", apart := false }
def GeomPlacesSaid : Prop := geomPlacesRow.holds Try.pinned (OpenSpec.ofChange geomPlacesSpec)

/-- ITS FALSE NEIGHBOUR: 'it returns false'. Refute it at one input. -/
def geomPlacesWrong : ChangeSpec := { name := "geomPlaces", fn := fun _ => fun
  | [d1, d2] => { results := [.lit (.bool false)], args := [d1, d2] }
  | _ => none }
def GeomPlacesWrongFalsely : Prop := geomPlacesRow.holds Try.pinned (OpenSpec.ofChange geomPlacesWrong)

/-- 'casementlaw01.GeomBack': WHATEVER THE INPUT: true; the input reads as it did. -/
def geomBackSpec : ChangeSpec := { name := "geomBack", fn := fun _ => fun
  | [d1, d2, d3, d4] => { results := [.lit (.bool true)], args := [d1, d2, d3, d4] }
  | _ => none }
def geomBackRow : OpenClaim := { program := "ytoinjoihkodkeaa", sum := "31a8b1ce81d2868c7f6591e1d25bdc6253c75fde96bd7650449cc132a3bc2f49", func := "casement/casementlaw01.GeomBack", spec := "geomBack", apart := false }
def GeomBackSaid : Prop := geomBackRow.holds Try.pinned (OpenSpec.ofChange geomBackSpec)

/-- ITS FALSE NEIGHBOUR: 'it returns false'. Refute it at one input. -/
def geomBackWrong : ChangeSpec := { name := "geomBack", fn := fun _ => fun
  | [d1, d2, d3, d4] => { results := [.lit (.bool false)], args := [d1, d2, d3, d4] }
  | _ => none }
def GeomBackWrongFalsely : Prop := geomBackRow.holds Try.pinned (OpenSpec.ofChange geomBackWrong)

/-- 'casementlaw01.GeomNames': WHATEVER THE INPUT: true; the input reads as it did. -/
def geomNamesSpec : ChangeSpec := { name := "geomNames", fn := fun _ => fun
  | [] => { results := [.lit (.bool true)], args := [] }
  | _ => none }
def geomNamesRow : OpenClaim := { program := "ytoinjoihkodkeaa", sum := "31a8b1ce81d2868c7f6591e1d25bdc6253c75fde96bd7650449cc132a3bc2f49", func := "casement/casementlaw01.GeomNames", spec := "geomNames", apart := false }
def GeomNamesSaid : Prop := geomNamesRow.holds Try.pinned (OpenSpec.ofChange geomNamesSpec)

/-- ITS FALSE NEIGHBOUR: 'it returns false'. Refute it at one input. -/
def geomNamesWrong : ChangeSpec := { name := "geomNames", fn := fun _ => fun
  | [] => { results := [.lit (.bool false)], args := [] }
  | _ => none }
def GeomNamesWrongFalsely : Prop := geomNamesRow.holds Try.pinned (OpenSpec.ofChange geomNamesWrong)

/- THE SECOND FORM. 'bulk': how many values and letters a reading holds, each counted each time it is reached (what is shared counts as often as it is met; a slice's spare places count too). A statement '..UptoSaid' is the law's where the arguments, and the package variables that the reading takes, are together of bulk at most 1048576: NARROWER than '..Said'. Prove '..Said' where nothing that the law and all that it calls make is longer than what came in: it says more and counts as full. Else prove '..UptoSaid'. A law counts once. -/
mutual
def uptoBulk {H : Type} : DataW H → Nat
  | .lit (.string bytes) => bytes.length + 1
  | .lit _ => 1
  | .nil => 1
  | .ptr d => uptoBulk d + 1
  | .slice elems spare => uptoBulkAll elems + uptoBulkAll spare + 1
  | .agg parts => uptoBulkAll parts + 1
  | .iface _ d => uptoBulk d + 1
  | .map entries => uptoBulkEntries entries + 1
  | .held _ => 1
def uptoBulkAll {H : Type} : List (DataW H) → Nat
  | [] => 0
  | d :: r => uptoBulk d + uptoBulkAll r
def uptoBulkEntries {H : Type} : List (Lit × DataW H) → Nat
  | [] => 0
  | x :: r => uptoBulkEntry x + uptoBulkEntries r
def uptoBulkEntry {H : Type} : Lit × DataW H → Nat
  | (.string bytes, d) => bytes.length + uptoBulk d + 1
  | (_, d) => uptoBulk d + 1
 end
def uptoSmall : (H : Type) → List (DataW H) → Bool := fun _ ds => decide (uptoBulkAll ds ≤ 1048576)
def OpenSpec.upto (s : _root_.Go.ChangeSpec) : _root_.Go.OpenSpec := { _root_.Go.OpenSpec.ofChange s with cond := some uptoSmall }

/-- 'casementlaw01.GeomOnes', WHERE WHAT IT READS IS OF BULK AT MOST 1048576: true; the input reads as it did. -/
def geomOnesUptoRow : OpenClaim := { program := "ytoinjoihkodkeaa", sum := "31a8b1ce81d2868c7f6591e1d25bdc6253c75fde96bd7650449cc132a3bc2f49", func := "casement/casementlaw01.GeomOnes", spec := "geomOnes", apart := false, narrowed := true }
def GeomOnesUptoSaid : Prop := geomOnesUptoRow.holds Try.pinned (OpenSpec.upto geomOnesSpec)

/-- 'casementlaw01.GeomMoves', WHERE WHAT IT READS IS OF BULK AT MOST 1048576: true; the input reads as it did. -/
def geomMovesUptoRow : OpenClaim := { program := "ytoinjoihkodkeaa", sum := "31a8b1ce81d2868c7f6591e1d25bdc6253c75fde96bd7650449cc132a3bc2f49", func := "casement/casementlaw01.GeomMoves", spec := "geomMoves", apart := false, narrowed := true }
def GeomMovesUptoSaid : Prop := geomMovesUptoRow.holds Try.pinned (OpenSpec.upto geomMovesSpec)

/-- 'casementlaw01.GeomTwos', WHERE WHAT IT READS IS OF BULK AT MOST 1048576: true; the input reads as it did. -/
def geomTwosUptoRow : OpenClaim := { program := "ytoinjoihkodkeaa", sum := "31a8b1ce81d2868c7f6591e1d25bdc6253c75fde96bd7650449cc132a3bc2f49", func := "casement/casementlaw01.GeomTwos", spec := "geomTwos", apart := false, narrowed := true }
def GeomTwosUptoSaid : Prop := geomTwosUptoRow.holds Try.pinned (OpenSpec.upto geomTwosSpec)

/-- 'casementlaw01.GeomAreas', WHERE WHAT IT READS IS OF BULK AT MOST 1048576: true; the input reads as it did. -/
def geomAreasUptoRow : OpenClaim := { program := "ytoinjoihkodkeaa", sum := "31a8b1ce81d2868c7f6591e1d25bdc6253c75fde96bd7650449cc132a3bc2f49", func := "casement/casementlaw01.GeomAreas", spec := "geomAreas", apart := false, narrowed := true }
def GeomAreasUptoSaid : Prop := geomAreasUptoRow.holds Try.pinned (OpenSpec.upto geomAreasSpec)

/-- 'casementlaw01.GeomPlaces', WHERE WHAT IT READS IS OF BULK AT MOST 1048576: true; the input reads as it did. -/
def geomPlacesUptoRow : OpenClaim := { program := "ytoinjoihkodkeaa", sum := "31a8b1ce81d2868c7f6591e1d25bdc6253c75fde96bd7650449cc132a3bc2f49", func := "casement/casementlaw01.GeomPlaces", spec := "geomPlaces", apart := false, narrowed := true }
def GeomPlacesUptoSaid : Prop := geomPlacesUptoRow.holds Try.pinned (OpenSpec.upto geomPlacesSpec)

/-- 'casementlaw01.GeomBack', WHERE WHAT IT READS IS OF BULK AT MOST 1048576: true; the input reads as it did. -/
def geomBackUptoRow : OpenClaim := { program := "ytoinjoihkodkeaa", sum := "31a8b1ce81d2868c7f6591e1d25bdc6253c75fde96bd7650449cc132a3bc2f49", func := "casement/casementlaw01.GeomBack", spec := "geomBack", apart := false, narrowed := true }
def GeomBackUptoSaid : Prop := geomBackUptoRow.holds Try.pinned (OpenSpec.upto geomBackSpec)

/-- 'casementlaw01.GeomNames', WHERE WHAT IT READS IS OF BULK AT MOST 1048576: true; the input reads as it did. -/
def geomNamesUptoRow : OpenClaim := { program := "ytoinjoihkodkeaa", sum := "31a8b1ce81d2868c7f6591e1d25bdc6253c75fde96bd7650449cc132a3bc2f49", func := "casement/casementlaw01.GeomNames", spec := "geomNames", apart := false, narrowed := true }
def GeomNamesUptoSaid : Prop := geomNamesUptoRow.holds Try.pinned (OpenSpec.upto geomNamesSpec)

end Rows
end Go.Proofs.Ytoinjoihkodkeaa
