/- What the values of a drawn region's operations are ('region_mono'): small facts, each of which abides. -/
import Derived.Test.YtcfgpmmclijonaaGreatDoorBaseMono
import Derived.Test.YtcfgpmmclijonaaGreatDoorMem
namespace Go.Proofs.YtcfgpmmclijonaaGreatDoor
set_option linter.unusedVariables false
set_option linter.unusedSimpArgs false
set_option maxRecDepth 100000
open Go.RowKit

def Stable (g : Value → World → Prop) : Prop := ∀ v w w', g v w → Below w.heap.size w w' → g v w'
def IsV (x : Value) : Value → World → Prop := fun v _ => v = x
def BlkV (B : Nat) (cs : Array Value) (t : TypeId) (k : Nat) : Value → World → Prop := fun v w => ∃ g, v = .slice (some ⟨g, 0, none⟩) k k ∧ B ≤ g ∧ w.heap[g]? = some (.cells cs t (0, 0))
theorem IsV.stable (x : Value) : Stable (IsV x) := fun _ _ _ h _ => h
theorem BlkV.stable (B : Nat) (cs : Array Value) (t : TypeId) (k : Nat) : Stable (BlkV B cs t k) := fun _ _ _ ⟨g, e, hg, h⟩ hb => ⟨g, e, hg, (hb.block _ (blk_lt2 h)).trans h⟩
def pick (Gs : List (Value → World → Prop)) (i : Nat) (v : Value) (w : World) : Prop := (Gs.getD i fun _ _ => True) v w
theorem pick_stable {Gs : List (Value → World → Prop)} (h : ∀ g ∈ Gs, Stable g) : ∀ i v w w', pick Gs i v w → Below w.heap.size w w' → pick Gs i v w' := by
  intro i
  unfold pick
  by_cases hi : i < Gs.length
  · rw [show Gs.getD i (fun _ _ => True) = Gs[i] by simp [List.getD, hi]]
    exact h _ (List.getElem_mem hi)
  · rw [show Gs.getD i (fun _ _ => True) = fun _ _ => True by simp [List.getD, show Gs.length ≤ i by omega]]
    exact fun _ _ _ _ _ => trivial
theorem same_up {P : Program} {f : FuncId} {args : Array Value} {w : World} {x : Value} (h : Calls P f args w fun e w' => e = .returned x ∧ w = w') : Calls P f args w fun e w'' => ∃ v, e = .returned v ∧ v = x ∧ Below w.heap.size w w'' :=
  h.mono fun _ _ ⟨he, hw⟩ => ⟨x, he, rfl, hw ▸ Below.refl _ _⟩
theorem below_up {P : Program} {f : FuncId} {args : Array Value} {w : World} {x : Value} (h : Calls P f args w fun e w' => e = .returned x ∧ Below w.heap.size w w') : Calls P f args w fun e w'' => ∃ v, e = .returned v ∧ v = x ∧ Below w.heap.size w w'' :=
  h.mono fun _ _ ⟨he, hw⟩ => ⟨x, he, rfl, hw⟩
end Go.Proofs.YtcfgpmmclijonaaGreatDoor
