/- Layer 3: the reference's 'one': the first rune of a text. (Printed by gen_c.py.) -/
import Derived.Test.YtcfgpmmclijonaaDoorRuB
import Derived.Laws.BitsLemmas
import Derived.Lib.DecodeNEq
namespace Go.Proofs.YtcfgpmmclijonaaDoor
set_option linter.unusedVariables false
set_option linter.unusedSimpArgs false
set_option maxRecDepth 100000
open Go.RowKit Go.Lib

theorem and31 {x : Int} (h0 : 0 ≤ x) (h1 : x < 256) : bits .and .i32 x 31 = x % 32 := bits_mask .i32 31 (by decide) wraps_i32 5 (by decide) x h0 (by omega)
theorem and15 {x : Int} (h0 : 0 ≤ x) (h1 : x < 256) : bits .and .i32 x 15 = x % 16 := bits_mask .i32 31 (by decide) wraps_i32 4 (by decide) x h0 (by omega)
theorem and7 {x : Int} (h0 : 0 ≤ x) (h1 : x < 256) : bits .and .i32 x 7 = x % 8 := bits_mask .i32 31 (by decide) wraps_i32 3 (by decide) x h0 (by omega)
/-- A broken byte. -/
def brk (p : Nat × Nat) : Bool := decide (p.1 = 65533 ∧ p.2 = 1)
theorem ret_one {a b : Int} {n m : Int} {x y : Bool} (h1 : a = b) (h2 : n = m) (h3 : x = y) : Ending.returned (.tuple #[.int .i32 a, .int .i64 n, .bool x]) = .returned (.tuple #[.int .i32 b, .int .i64 m, .bool y]) := by rw [h1, h2, h3]
section
variable (s : ByteArray) (w : World) (x0 x1 x2 x3 : UInt8) (hz : 0 < s.size) (h0 : s[0] = x0) (h1 : (h : 1 < s.size) → s[1] = x1) (h2 : (h : 2 < s.size) → s[2] = x2) (h3 : (h : 3 < s.size) → s[3] = x3)
include hz h0 h1 h2 h3
set_option linter.unusedSectionVars false
end
end Go.Proofs.YtcfgpmmclijonaaDoor
