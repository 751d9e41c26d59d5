/-
  No cell of these rows narrows 'for every input' (looked for: loops, veiled, ifaces, maps, wideKeys, modest, calm, conditions, laid).
  DERIVED. THE GIVEN ROWS OF THIS SEAT. 10 by the template 'for every input the law returns true; each argument reads behind the call as it read before'; 0 by the template 'total and deterministic' (their statements: YthannibclhidcaaTotals.lean).
  GIVEN WITH THE SEED: the statements are not yours to turn. If you find one false, say at which input.
  Laid BY PROGRAM, IN A SANDBOX (cutbox-rows.mjs): the forced cells as the released guide's own fill.sh prints them over the translation c35b11f52f7c473a… (all of the seat's roots in one cut). By AI agents, Wed Nov 11 2026. No macro, syntax, notation, axiom, sorry.
-/
import Derived.Test.YthannibclhidcaaChecked
import GoSem.Claim
import GoSem.ClaimJoined
import GoSem.ClaimMapViews
import Derived.JoinedTies
import Derived.KernelRfl
namespace Go.Proofs.Ythannibclhidcaa
/- THE CELL 'sum', in the pinned program and in every row, IS THE sha256 OF THE DUMP (.gsa) THAT YthannibclhidcaaProg.lean LOADS. Nothing in Lean hashes anything: it is a label: what it is worth is what the hold of that sum in a sandbox is worth. -/
noncomputable def Try.pinned : Pinned := { name := "ythannibclhidcaa", sum := "c35b11f52f7c473a6bd6561a80233ca32f9e3bf2a5f4ea6d21e29f2f8d119690", checked := Try.checked }
namespace Rows
def none {H : Type} : Left H := { results := [], args := [] }

/-- 'casementlaw10.FlexRows': WHATEVER THE INPUT: true; the input reads as it did. -/
def flexRowsSpec : ChangeSpec := { name := "flexRows", fn := fun _ => fun
  | [d1, d2, d3, d4] => { results := [.lit (.bool true)], args := [d1, d2, d3, d4] }
  | _ => none }
def flexRowsRow : OpenClaim := { program := "ythannibclhidcaa", sum := "c35b11f52f7c473a6bd6561a80233ca32f9e3bf2a5f4ea6d21e29f2f8d119690", func := "casement/casementlaw10.FlexRows", spec := "flexRows", apart := false }
def FlexRowsSaid : Prop := flexRowsRow.holds Try.pinned (OpenSpec.ofChange flexRowsSpec)

/-- ITS FALSE NEIGHBOUR: 'it returns false'. Refute it at one input. -/
def flexRowsWrong : ChangeSpec := { name := "flexRows", fn := fun _ => fun
  | [d1, d2, d3, d4] => { results := [.lit (.bool false)], args := [d1, d2, d3, d4] }
  | _ => none }
def FlexRowsWrongFalsely : Prop := flexRowsRow.holds Try.pinned (OpenSpec.ofChange flexRowsWrong)

/-- 'casementlaw10.FlexShares': WHATEVER THE INPUT: true; the input reads as it did. -/
def flexSharesSpec : ChangeSpec := { name := "flexShares", fn := fun _ => fun
  | [d1, d2] => { results := [.lit (.bool true)], args := [d1, d2] }
  | _ => none }
def flexSharesRow : OpenClaim := { program := "ythannibclhidcaa", sum := "c35b11f52f7c473a6bd6561a80233ca32f9e3bf2a5f4ea6d21e29f2f8d119690", func := "casement/casementlaw10.FlexShares", spec := "flexShares", apart := false }
def FlexSharesSaid : Prop := flexSharesRow.holds Try.pinned (OpenSpec.ofChange flexSharesSpec)

/-- ITS FALSE NEIGHBOUR: 'it returns false'. Refute it at one input. -/
def flexSharesWrong : ChangeSpec := { name := "flexShares", fn := fun _ => fun
  | [d1, d2] => { results := [.lit (.bool false)], args := [d1, d2] }
  | _ => none }
def FlexSharesWrongFalsely : Prop := flexSharesRow.holds Try.pinned (OpenSpec.ofChange flexSharesWrong)

/-- 'casementlaw10.FlexRow': WHATEVER THE INPUT: true; the input reads as it did. -/
def flexRowSpec : ChangeSpec := { name := "flexRow", fn := fun _ => fun
  | [d1, d2, d3] => { results := [.lit (.bool true)], args := [d1, d2, d3] }
  | _ => none }
def flexRowRow : OpenClaim := { program := "ythannibclhidcaa", sum := "c35b11f52f7c473a6bd6561a80233ca32f9e3bf2a5f4ea6d21e29f2f8d119690", func := "casement/casementlaw10.FlexRow", spec := "flexRow", apart := false }
def FlexRowSaid : Prop := flexRowRow.holds Try.pinned (OpenSpec.ofChange flexRowSpec)

/-- ITS FALSE NEIGHBOUR: 'it returns false'. Refute it at one input. -/
def flexRowWrong : ChangeSpec := { name := "flexRow", fn := fun _ => fun
  | [d1, d2, d3] => { results := [.lit (.bool false)], args := [d1, d2, d3] }
  | _ => none }
def FlexRowWrongFalsely : Prop := flexRowRow.holds Try.pinned (OpenSpec.ofChange flexRowWrong)

/-- 'casementlaw10.FlexFair': WHATEVER THE INPUT: true; the input reads as it did. -/
def flexFairSpec : ChangeSpec := { name := "flexFair", fn := fun _ => fun
  | [d1, d2] => { results := [.lit (.bool true)], args := [d1, d2] }
  | _ => none }
def flexFairRow : OpenClaim := { program := "ythannibclhidcaa", sum := "c35b11f52f7c473a6bd6561a80233ca32f9e3bf2a5f4ea6d21e29f2f8d119690", func := "casement/casementlaw10.FlexFair", spec := "flexFair", apart := false }
def FlexFairSaid : Prop := flexFairRow.holds Try.pinned (OpenSpec.ofChange flexFairSpec)

/-- ITS FALSE NEIGHBOUR: 'it returns false'. Refute it at one input. -/
def flexFairWrong : ChangeSpec := { name := "flexFair", fn := fun _ => fun
  | [d1, d2] => { results := [.lit (.bool false)], args := [d1, d2] }
  | _ => none }
def FlexFairWrongFalsely : Prop := flexFairRow.holds Try.pinned (OpenSpec.ofChange flexFairWrong)

/-- 'casementlaw10.FlexNames': WHATEVER THE INPUT: true; the input reads as it did. -/
def flexNamesSpec : ChangeSpec := { name := "flexNames", fn := fun _ => fun
  | [] => { results := [.lit (.bool true)], args := [] }
  | _ => none }
def flexNamesRow : OpenClaim := { program := "ythannibclhidcaa", sum := "c35b11f52f7c473a6bd6561a80233ca32f9e3bf2a5f4ea6d21e29f2f8d119690", func := "casement/casementlaw10.FlexNames", spec := "flexNames", apart := false }
def FlexNamesSaid : Prop := flexNamesRow.holds Try.pinned (OpenSpec.ofChange flexNamesSpec)

/-- ITS FALSE NEIGHBOUR: 'it returns false'. Refute it at one input. -/
def flexNamesWrong : ChangeSpec := { name := "flexNames", fn := fun _ => fun
  | [] => { results := [.lit (.bool false)], args := [] }
  | _ => none }
def FlexNamesWrongFalsely : Prop := flexNamesRow.holds Try.pinned (OpenSpec.ofChange flexNamesWrong)

/-- 'casementlaw09.LeastSolve': WHATEVER THE INPUT: true; the input reads as it did. -/
def leastSolveSpec : ChangeSpec := { name := "leastSolve", fn := fun _ => fun
  | [d1, d2] => { results := [.lit (.bool true)], args := [d1, d2] }
  | _ => none }
def leastSolveRow : OpenClaim := { program := "ythannibclhidcaa", sum := "c35b11f52f7c473a6bd6561a80233ca32f9e3bf2a5f4ea6d21e29f2f8d119690", func := "casement/casementlaw09.LeastSolve", spec := "leastSolve", unfollowed := true, recurses := true, apart := false }
def LeastSolveSaid : Prop := leastSolveRow.holds Try.pinned (OpenSpec.ofChange leastSolveSpec)

/-- ITS FALSE NEIGHBOUR: 'it returns false'. Refute it at one input. -/
def leastSolveWrong : ChangeSpec := { name := "leastSolve", fn := fun _ => fun
  | [d1, d2] => { results := [.lit (.bool false)], args := [d1, d2] }
  | _ => none }
def LeastSolveWrongFalsely : Prop := leastSolveRow.holds Try.pinned (OpenSpec.ofChange leastSolveWrong)

/-- 'casementlaw09.LeastKeeps': WHATEVER THE INPUT: true; the input reads as it did. -/
def leastKeepsSpec : ChangeSpec := { name := "leastKeeps", fn := fun _ => fun
  | [d1, d2, d3] => { results := [.lit (.bool true)], args := [d1, d2, d3] }
  | _ => none }
def leastKeepsRow : OpenClaim := { program := "ythannibclhidcaa", sum := "c35b11f52f7c473a6bd6561a80233ca32f9e3bf2a5f4ea6d21e29f2f8d119690", func := "casement/casementlaw09.LeastKeeps", spec := "leastKeeps", unfollowed := true, recurses := true, apart := false }
def LeastKeepsSaid : Prop := leastKeepsRow.holds Try.pinned (OpenSpec.ofChange leastKeepsSpec)

/-- ITS FALSE NEIGHBOUR: 'it returns false'. Refute it at one input. -/
def leastKeepsWrong : ChangeSpec := { name := "leastKeeps", fn := fun _ => fun
  | [d1, d2, d3] => { results := [.lit (.bool false)], args := [d1, d2, d3] }
  | _ => none }
def LeastKeepsWrongFalsely : Prop := leastKeepsRow.holds Try.pinned (OpenSpec.ofChange leastKeepsWrong)

/-- 'casementlaw09.LeastBelow': WHATEVER THE INPUT: true; the input reads as it did. -/
def leastBelowSpec : ChangeSpec := { name := "leastBelow", fn := fun _ => fun
  | [d1, d2, d3] => { results := [.lit (.bool true)], args := [d1, d2, d3] }
  | _ => none }
def leastBelowRow : OpenClaim := { program := "ythannibclhidcaa", sum := "c35b11f52f7c473a6bd6561a80233ca32f9e3bf2a5f4ea6d21e29f2f8d119690", func := "casement/casementlaw09.LeastBelow", spec := "leastBelow", unfollowed := true, recurses := true, apart := false }
def LeastBelowSaid : Prop := leastBelowRow.holds Try.pinned (OpenSpec.ofChange leastBelowSpec)

/-- ITS FALSE NEIGHBOUR: 'it returns false'. Refute it at one input. -/
def leastBelowWrong : ChangeSpec := { name := "leastBelow", fn := fun _ => fun
  | [d1, d2, d3] => { results := [.lit (.bool false)], args := [d1, d2, d3] }
  | _ => none }
def LeastBelowWrongFalsely : Prop := leastBelowRow.holds Try.pinned (OpenSpec.ofChange leastBelowWrong)

/-- 'casementlaw09.LeastLoop': WHATEVER THE INPUT: true; the input reads as it did. -/
def leastLoopSpec : ChangeSpec := { name := "leastLoop", fn := fun _ => fun
  | [d1, d2] => { results := [.lit (.bool true)], args := [d1, d2] }
  | _ => none }
def leastLoopRow : OpenClaim := { program := "ythannibclhidcaa", sum := "c35b11f52f7c473a6bd6561a80233ca32f9e3bf2a5f4ea6d21e29f2f8d119690", func := "casement/casementlaw09.LeastLoop", spec := "leastLoop", unfollowed := true, recurses := true, apart := false }
def LeastLoopSaid : Prop := leastLoopRow.holds Try.pinned (OpenSpec.ofChange leastLoopSpec)

/-- ITS FALSE NEIGHBOUR: 'it returns false'. Refute it at one input. -/
def leastLoopWrong : ChangeSpec := { name := "leastLoop", fn := fun _ => fun
  | [d1, d2] => { results := [.lit (.bool false)], args := [d1, d2] }
  | _ => none }
def LeastLoopWrongFalsely : Prop := leastLoopRow.holds Try.pinned (OpenSpec.ofChange leastLoopWrong)

/-- 'casementlaw09.LeastMore': WHATEVER THE INPUT: true; the input reads as it did. -/
def leastMoreSpec : ChangeSpec := { name := "leastMore", fn := fun _ => fun
  | [d1, d2, d3, d4] => { results := [.lit (.bool true)], args := [d1, d2, d3, d4] }
  | _ => none }
def leastMoreRow : OpenClaim := { program := "ythannibclhidcaa", sum := "c35b11f52f7c473a6bd6561a80233ca32f9e3bf2a5f4ea6d21e29f2f8d119690", func := "casement/casementlaw09.LeastMore", spec := "leastMore", unfollowed := true, recurses := true, apart := false }
def LeastMoreSaid : Prop := leastMoreRow.holds Try.pinned (OpenSpec.ofChange leastMoreSpec)

/-- ITS FALSE NEIGHBOUR: 'it returns false'. Refute it at one input. -/
def leastMoreWrong : ChangeSpec := { name := "leastMore", fn := fun _ => fun
  | [d1, d2, d3, d4] => { results := [.lit (.bool false)], args := [d1, d2, d3, d4] }
  | _ => none }
def LeastMoreWrongFalsely : Prop := leastMoreRow.holds Try.pinned (OpenSpec.ofChange leastMoreWrong)

/- THE SECOND FORM. 'bulk': how many values and letters a reading holds, each counted each time it is reached (what is shared counts as often as it is met; a slice's spare places count too). A statement '..UptoSaid' is the law's where the arguments, and the package variables that the reading takes, are together of bulk at most 1048576: NARROWER than '..Said'. Prove '..Said' where nothing that the law and all that it calls make is longer than what came in: it says more and counts as full. Else prove '..UptoSaid'. A law counts once. -/
mutual
def uptoBulk {H : Type} : DataW H → Nat
  | .lit (.string bytes) => bytes.length + 1
  | .lit _ => 1
  | .nil => 1
  | .ptr d => uptoBulk d + 1
  | .slice elems spare => uptoBulkAll elems + uptoBulkAll spare + 1
  | .agg parts => uptoBulkAll parts + 1
  | .iface _ d => uptoBulk d + 1
  | .map entries => uptoBulkEntries entries + 1
  | .held _ => 1
def uptoBulkAll {H : Type} : List (DataW H) → Nat
  | [] => 0
  | d :: r => uptoBulk d + uptoBulkAll r
def uptoBulkEntries {H : Type} : List (Lit × DataW H) → Nat
  | [] => 0
  | x :: r => uptoBulkEntry x + uptoBulkEntries r
def uptoBulkEntry {H : Type} : Lit × DataW H → Nat
  | (.string bytes, d) => bytes.length + uptoBulk d + 1
  | (_, d) => uptoBulk d + 1
 end
def uptoSmall : (H : Type) → List (DataW H) → Bool := fun _ ds => decide (uptoBulkAll ds ≤ 1048576)
def OpenSpec.upto (s : _root_.Go.ChangeSpec) : _root_.Go.OpenSpec := { _root_.Go.OpenSpec.ofChange s with cond := some uptoSmall }

/-- 'casementlaw10.FlexRows', WHERE WHAT IT READS IS OF BULK AT MOST 1048576: true; the input reads as it did. -/
def flexRowsUptoRow : OpenClaim := { program := "ythannibclhidcaa", sum := "c35b11f52f7c473a6bd6561a80233ca32f9e3bf2a5f4ea6d21e29f2f8d119690", func := "casement/casementlaw10.FlexRows", spec := "flexRows", apart := false, narrowed := true }
def FlexRowsUptoSaid : Prop := flexRowsUptoRow.holds Try.pinned (OpenSpec.upto flexRowsSpec)

/-- 'casementlaw10.FlexShares', WHERE WHAT IT READS IS OF BULK AT MOST 1048576: true; the input reads as it did. -/
def flexSharesUptoRow : OpenClaim := { program := "ythannibclhidcaa", sum := "c35b11f52f7c473a6bd6561a80233ca32f9e3bf2a5f4ea6d21e29f2f8d119690", func := "casement/casementlaw10.FlexShares", spec := "flexShares", apart := false, narrowed := true }
def FlexSharesUptoSaid : Prop := flexSharesUptoRow.holds Try.pinned (OpenSpec.upto flexSharesSpec)

/-- 'casementlaw10.FlexRow', WHERE WHAT IT READS IS OF BULK AT MOST 1048576: true; the input reads as it did. -/
def flexRowUptoRow : OpenClaim := { program := "ythannibclhidcaa", sum := "c35b11f52f7c473a6bd6561a80233ca32f9e3bf2a5f4ea6d21e29f2f8d119690", func := "casement/casementlaw10.FlexRow", spec := "flexRow", apart := false, narrowed := true }
def FlexRowUptoSaid : Prop := flexRowUptoRow.holds Try.pinned (OpenSpec.upto flexRowSpec)

/-- 'casementlaw10.FlexFair', WHERE WHAT IT READS IS OF BULK AT MOST 1048576: true; the input reads as it did. -/
def flexFairUptoRow : OpenClaim := { program := "ythannibclhidcaa", sum := "c35b11f52f7c473a6bd6561a80233ca32f9e3bf2a5f4ea6d21e29f2f8d119690", func := "casement/casementlaw10.FlexFair", spec := "flexFair", apart := false, narrowed := true }
def FlexFairUptoSaid : Prop := flexFairUptoRow.holds Try.pinned (OpenSpec.upto flexFairSpec)

/-- 'casementlaw10.FlexNames', WHERE WHAT IT READS IS OF BULK AT MOST 1048576: true; the input reads as it did. -/
def flexNamesUptoRow : OpenClaim := { program := "ythannibclhidcaa", sum := "c35b11f52f7c473a6bd6561a80233ca32f9e3bf2a5f4ea6d21e29f2f8d119690", func := "casement/casementlaw10.FlexNames", spec := "flexNames", apart := false, narrowed := true }
def FlexNamesUptoSaid : Prop := flexNamesUptoRow.holds Try.pinned (OpenSpec.upto flexNamesSpec)

/-- 'casementlaw09.LeastSolve', WHERE WHAT IT READS IS OF BULK AT MOST 1048576: true; the input reads as it did. -/
def leastSolveUptoRow : OpenClaim := { program := "ythannibclhidcaa", sum := "c35b11f52f7c473a6bd6561a80233ca32f9e3bf2a5f4ea6d21e29f2f8d119690", func := "casement/casementlaw09.LeastSolve", spec := "leastSolve", unfollowed := true, recurses := true, apart := false, narrowed := true }
def LeastSolveUptoSaid : Prop := leastSolveUptoRow.holds Try.pinned (OpenSpec.upto leastSolveSpec)

/-- 'casementlaw09.LeastKeeps', WHERE WHAT IT READS IS OF BULK AT MOST 1048576: true; the input reads as it did. -/
def leastKeepsUptoRow : OpenClaim := { program := "ythannibclhidcaa", sum := "c35b11f52f7c473a6bd6561a80233ca32f9e3bf2a5f4ea6d21e29f2f8d119690", func := "casement/casementlaw09.LeastKeeps", spec := "leastKeeps", unfollowed := true, recurses := true, apart := false, narrowed := true }
def LeastKeepsUptoSaid : Prop := leastKeepsUptoRow.holds Try.pinned (OpenSpec.upto leastKeepsSpec)

/-- 'casementlaw09.LeastBelow', WHERE WHAT IT READS IS OF BULK AT MOST 1048576: true; the input reads as it did. -/
def leastBelowUptoRow : OpenClaim := { program := "ythannibclhidcaa", sum := "c35b11f52f7c473a6bd6561a80233ca32f9e3bf2a5f4ea6d21e29f2f8d119690", func := "casement/casementlaw09.LeastBelow", spec := "leastBelow", unfollowed := true, recurses := true, apart := false, narrowed := true }
def LeastBelowUptoSaid : Prop := leastBelowUptoRow.holds Try.pinned (OpenSpec.upto leastBelowSpec)

/-- 'casementlaw09.LeastLoop', WHERE WHAT IT READS IS OF BULK AT MOST 1048576: true; the input reads as it did. -/
def leastLoopUptoRow : OpenClaim := { program := "ythannibclhidcaa", sum := "c35b11f52f7c473a6bd6561a80233ca32f9e3bf2a5f4ea6d21e29f2f8d119690", func := "casement/casementlaw09.LeastLoop", spec := "leastLoop", unfollowed := true, recurses := true, apart := false, narrowed := true }
def LeastLoopUptoSaid : Prop := leastLoopUptoRow.holds Try.pinned (OpenSpec.upto leastLoopSpec)

/-- 'casementlaw09.LeastMore', WHERE WHAT IT READS IS OF BULK AT MOST 1048576: true; the input reads as it did. -/
def leastMoreUptoRow : OpenClaim := { program := "ythannibclhidcaa", sum := "c35b11f52f7c473a6bd6561a80233ca32f9e3bf2a5f4ea6d21e29f2f8d119690", func := "casement/casementlaw09.LeastMore", spec := "leastMore", unfollowed := true, recurses := true, apart := false, narrowed := true }
def LeastMoreUptoSaid : Prop := leastMoreUptoRow.holds Try.pinned (OpenSpec.upto leastMoreSpec)

end Rows
end Go.Proofs.Ythannibclhidcaa
