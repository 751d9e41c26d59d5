/- Layer 3: the reference's Next and Back; contracts at small texts. -/
import Derived.Test.YtcfgpmmclijonaaDoorRuI
import Derived.Test.YtcfgpmmclijonaaDoorRuH
namespace Go.Proofs.YtcfgpmmclijonaaDoor
set_option linter.unusedVariables false
set_option linter.unusedSimpArgs false
set_option maxRecDepth 100000
open Go.RowKit Go.Lib

theorem small {f : FuncId} {args : Array Value} {w : World} {n : Nat} {R : Ending → World → Prop} (h : Calls Tryd.prog f args w (Out (Great n) R)) (hn : n ≤ 4000000) : Calls Tryd.prog f args w R :=
  h.mono fun _ _ hh => hh.elim id (fun ⟨_, hG⟩ => absurd hG (by unfold Great; omega))
theorem small2 {f : FuncId} {args : Array Value} {w : World} {n m : Nat} {R : Ending → World → Prop} (h : Calls Tryd.prog f args w (Out (Great n ∨ Great m) R)) (hn : n ≤ 4000000) (hm : m ≤ 4000000) : Calls Tryd.prog f args w R :=
  h.mono fun _ _ hh => hh.elim id (fun ⟨_, hG⟩ => hG.elim (fun h => absurd h (by unfold Great; omega)) (fun h => absurd h (by unfold Great; omega)))
set_option maxHeartbeats 4000000
set_option maxRecDepth 100000
end Go.Proofs.YtcfgpmmclijonaaDoor
