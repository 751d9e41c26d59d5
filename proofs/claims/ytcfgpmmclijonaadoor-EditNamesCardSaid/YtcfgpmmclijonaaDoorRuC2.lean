/- Layer 3: the reference's 'one' at every text that is not empty. (Printed by gen_c2.py.) -/
import Derived.Test.YtcfgpmmclijonaaDoorRuC
namespace Go.Proofs.YtcfgpmmclijonaaDoor
set_option linter.unusedVariables false
set_option linter.unusedSimpArgs false
set_option maxRecDepth 100000
open Go.RowKit Go.Lib

theorem get!_lt (s : ByteArray) (k : Nat) (h : k < s.size) : s[k] = s.get! k := by
  cases s with
  | mk d => exact (getElem!_pos d k h).symm
def OneP (D : Nat × Nat) (w : World) : Ending → World → Prop := fun e w' => e = .returned (.tuple #[.int .i32 (D.1 : Int), .int .i64 (D.2 : Int), .bool (brk D)]) ∧ w = w'
end Go.Proofs.YtcfgpmmclijonaaDoor
