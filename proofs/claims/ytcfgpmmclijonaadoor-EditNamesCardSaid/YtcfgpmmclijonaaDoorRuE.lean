/- Layer 3: the reference's pieces of a text. (Printed by gen_e.py.) -/
import Derived.Test.YtcfgpmmclijonaaDoorRuC2
import Derived.Test.YtcfgpmmclijonaaDoorRuD
namespace Go.Proofs.YtcfgpmmclijonaaDoor
set_option linter.unusedVariables false
set_option linter.unusedSimpArgs false
set_option maxRecDepth 100000
open Go.RowKit Go.Lib

theorem qrw_snoc (A : List (Nat × Nat)) (i t n r : Nat) (hA : sumw A = i) (ht : i + n = t) : qrw 0 A ++ (#[.int .i64 (i : Int), .int .i64 (t : Int), .int .i32 (r : Int), .int .i64 (wid r : Int)] : Array Value).toList = qrw 0 (A ++ [(n, r)]) := by
  rw [qrw_append]
  subst hA
  subst ht
  simp only [qrw, Nat.zero_add]
end Go.Proofs.YtcfgpmmclijonaaDoor
