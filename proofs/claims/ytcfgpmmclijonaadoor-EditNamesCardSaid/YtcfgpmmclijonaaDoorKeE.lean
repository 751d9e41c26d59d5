/- Layer 21: whether a key may be; modifiers; a key's text, read; both sides. -/
import Derived.Test.YtcfgpmmclijonaaDoorKeD
namespace Go.Proofs.YtcfgpmmclijonaaDoor
set_option linter.unusedVariables false
set_option linter.unusedSimpArgs false
set_option maxRecDepth 100000
open Go.RowKit Go.Shelf Go.Lib
set_option maxRecDepth 100000
set_option maxHeartbeats 4000000

def kyV (k : Ky) : Value := .agg #[.string ⟨k.nm.toArray⟩, .int .u8 (k.md : Int)]
theorem may_any (nm : ByteArray) (md : Nat) (w : World) (hT : Tabs w) : Calls Tryd.prog 49 #[.agg #[.string nm, .int .u8 (md : Int)]] w fun e w' => e = .returned (.bool (mayB ⟨nm.data.toList, md⟩)) ∧ Below w.heap.size w w' := by
  have HA := (Below.refl w.heap.size w).alloc (Nat.le_refl _) (.cells #[.string nm, .int .u8 (md : Int)] 41)
  have CN := name_any nm (w.alloc (.cells #[.string nm, .int .u8 (md : Int)] 41)) (tabs_on hT HA)
  have hE : mayB ⟨nm.data.toList, md⟩ = (decide (md ≤ 7) && nmB nm.data.toList) := rfl
  rw [hE]
  clear hE
  generalize nmB nm.data.toList = b at *
  by_cases h : md ≤ 7
  · have h1 : (md : Int) ≤ 7 := by omega
    have h2 : decide ((md : Int) ≤ 7) = true := decide_eq_true h1
    rw [decide_eq_true h]
    go_enter Tryd.func49, Tryd.ntmps49
    go_wp2_with fail
    refine CN.mono ?_
    rintro e w1 ⟨rfl, hb⟩
    go_wp2
    go_ret
    exact ⟨rfl, HA.trans (hb.mono HA.size)⟩
  · have h1 : ¬ ((md : Int) ≤ 7) := by omega
    have h2 : decide ((md : Int) ≤ 7) = false := decide_eq_false h1
    rw [decide_eq_false h]
    go_enter Tryd.func49, Tryd.ntmps49
    go_wp2
    go_ret
    exact ⟨rfl, HA⟩
/-! ### modifiers -/
theorem pre_one (l : By) : (Lib.hasPrefix l ctrlL = true ∧ Lib.hasPrefix l altL = false ∧ Lib.hasPrefix l shiftL = false) ∨ (Lib.hasPrefix l ctrlL = false ∧ Lib.hasPrefix l altL = true ∧ Lib.hasPrefix l shiftL = false) ∨
    (Lib.hasPrefix l ctrlL = false ∧ Lib.hasPrefix l altL = false ∧ Lib.hasPrefix l shiftL = true) ∨ (Lib.hasPrefix l ctrlL = false ∧ Lib.hasPrefix l altL = false ∧ Lib.hasPrefix l shiftL = false) := by
  unfold Lib.hasPrefix ctrlL altL shiftL
  cases l with
  | nil => decide
  | cons b t =>
    simp only [List.isPrefixOf]
    by_cases h1 : b = 99
    · subst h1
      generalize List.isPrefixOf [116, 114, 108, 43] t = p1
      generalize List.isPrefixOf [108, 116, 43] t = p2
      generalize List.isPrefixOf [104, 105, 102, 116, 43] t = p3
      revert p1 p2 p3
      decide
    · by_cases h2 : b = 97
      · subst h2
        generalize List.isPrefixOf [116, 114, 108, 43] t = p1
        generalize List.isPrefixOf [108, 116, 43] t = p2
        generalize List.isPrefixOf [104, 105, 102, 116, 43] t = p3
        revert p1 p2 p3
        decide
      · by_cases h3 : b = 115
        · subst h3
          generalize List.isPrefixOf [116, 114, 108, 43] t = p1
          generalize List.isPrefixOf [108, 116, 43] t = p2
          generalize List.isPrefixOf [104, 105, 102, 116, 43] t = p3
          revert p1 p2 p3
          decide
        · have e1 : ((99 : UInt8) == b) = false := beq_eq_false_iff_ne.2 (Ne.symm h1)
          have e2 : ((97 : UInt8) == b) = false := beq_eq_false_iff_ne.2 (Ne.symm h2)
          have e3 : ((115 : UInt8) == b) = false := beq_eq_false_iff_ne.2 (Ne.symm h3)
          simp [e1, e2, e3]
theorem modL_eq (l : By) : modL l = if Lib.hasPrefix l ctrlL then (2, 5) else if Lib.hasPrefix l altL then (4, 4) else if Lib.hasPrefix l shiftL then (1, 6) else (0, 0) := rfl
def modR (l : By) : By := l.drop (modL l).2
end Go.Proofs.YtcfgpmmclijonaaDoor
