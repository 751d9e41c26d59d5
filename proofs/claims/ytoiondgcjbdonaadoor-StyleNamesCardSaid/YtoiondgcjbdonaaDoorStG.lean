/- Layer 5: may a look be: the program's and the reference's. (Printed by gen_g.py.) -/
import Derived.Test.YtoiondgcjbdonaaDoorStF
namespace Go.Proofs.YtoiondgcjbdonaaDoor
set_option linter.unusedVariables false
set_option linter.unusedSimpArgs false
set_option maxRecDepth 100000
open Go.RowKit Go.Lib

theorem bits_tab : ((List.range 256).all fun h => ((((h &&& 1 : Nat) : Int) == 1) == ((h &&& 1) != 0)) && ((((h &&& 2 : Nat) : Int) == 2) == ((h &&& 2) != 0)) && ((((h &&& 4 : Nat) : Int) == 4) == ((h &&& 4) != 0)) && ((((h &&& 8 : Nat) : Int) == 8) == ((h &&& 8) != 0))) = true := by kernel_rfl
theorem tl_one {h : Nat} (hh : h < 256) : (bits .and .u8 (h : Int) 1 == 1) = tl h 1 := by
  have t := List.all_eq_true.1 bits_tab h (List.mem_range.2 hh)
  simp only [Bool.and_eq_true, beq_iff_eq] at t
  rw [show tl h 1 = ((h &&& 1) != 0) from tl_and (m := 1) hh (by omega), ← t.1.1.1, show bits .and .u8 (h : Int) 1 = ((h &&& 1 : Nat) : Int) from and8 h 1 hh (by omega)]
theorem tl_two {h : Nat} (hh : h < 256) : (bits .and .u8 (h : Int) 2 == 2) = tl h 2 := by
  have t := List.all_eq_true.1 bits_tab h (List.mem_range.2 hh)
  simp only [Bool.and_eq_true, beq_iff_eq] at t
  rw [show tl h 2 = ((h &&& 2) != 0) from tl_and (m := 2) hh (by omega), ← t.1.1.2, show bits .and .u8 (h : Int) 2 = ((h &&& 2 : Nat) : Int) from and8 h 2 hh (by omega)]
theorem tl_four {h : Nat} (hh : h < 256) : (bits .and .u8 (h : Int) 4 == 4) = tl h 4 := by
  have t := List.all_eq_true.1 bits_tab h (List.mem_range.2 hh)
  simp only [Bool.and_eq_true, beq_iff_eq] at t
  rw [show tl h 4 = ((h &&& 4) != 0) from tl_and (m := 4) hh (by omega), ← t.1.2, show bits .and .u8 (h : Int) 4 = ((h &&& 4 : Nat) : Int) from and8 h 4 hh (by omega)]
theorem tl_eight {h : Nat} (hh : h < 256) : (bits .and .u8 (h : Int) 8 == 8) = tl h 8 := by
  have t := List.all_eq_true.1 bits_tab h (List.mem_range.2 hh)
  simp only [Bool.and_eq_true, beq_iff_eq] at t
  rw [show tl h 8 = ((h &&& 8) != 0) from tl_and (m := 8) hh (by omega), ← t.2, show bits .and .u8 (h : Int) 8 = ((h &&& 8 : Nat) : Int) from and8 h 8 hh (by omega)]
theorem no_dec {p : Prop} {_ : Decidable p} (h : ¬ p) : decide p = false := decide_eq_false h

set_option maxHeartbeats 4000000 in
set_option maxRecDepth 100000 in
theorem may_any (a : Lk) (ha : a.has < 256) (w : World) : Calls Tryd.prog 44 #[lkV a] w fun e w' => e = .returned (.bool (mayL a)) ∧ Below w.heap.size w w' := by
  have cU := fun w => under_any a Lk.none ha (by decide) w
  unfold lkV at cU
  simp only [Lk.none, Cl.zero, Int.natCast_zero] at cU
  have hM : mayL a = (decide (a.has ≤ 15) && (decide (0 ≤ a.pad) && (decide (a.pad ≤ 16384) && decide (a = underL a Lk.none)))) := rfl
  generalize mayL a = M at hM ⊢
  rw [← lkEq_iff] at hM
  simp only [Lk.none, Cl.zero] at hM
  generalize underL a ⟨0, ⟨0, 0, 0, 0⟩, ⟨0, 0, 0, 0⟩, false, 0⟩ = u at *
  have HM := hid hM
  clear hM
  unfold lkV
  by_cases h1 : a.has ≤ 15
  case neg =>
    have n1 : ¬ (a.has ≤ 15) := h1
    have H1 := hid n1
    clear n1
    have z1 : ¬ ((a.has : Int) ≤ 15) := by omega
    have y1 : decide ((a.has : Int) ≤ 15) = false := no_dec z1
    clear h1 cU
    go_enter Tryd.func44, Tryd.ntmps44
    go_wp2
    refine region_ext mixed (by kernel_rfl) ?_
    repeat (go_big_quiet_step (fail))
    refine wpQuiet_nil ?_
    intro w1 hb1
    go_wp2
    go_ret
    refine ⟨ret_bool ?_, (by repeat (first | exact Below.refl _ _ | with_reducible refine Below.alloc ?_ (by first | (simp; done) | (simp; omega) | omega) _ | with_reducible refine Below.setCell ?_ (by first | (simp; done) | (simp; omega) | omega) _ | with_reducible refine Below.drew ?_ | with_reducible refine Below.trans ?_ (Below.mono (by assumption) (by first | (simp; done) | (simp; omega) | omega))))⟩
    rw [HM.out, no_dec (show ¬ (a.has ≤ 15) by have g := H1.out; omega)]
    simp
  have H1 := hid h1
  have z1 : (a.has : Int) ≤ 15 := by omega
  clear h1
  by_cases h2 : 0 ≤ a.pad
  case neg =>
    have n2 : ¬ (0 ≤ a.pad) := h2
    have H2 := hid n2
    clear n2
    have z2 : ¬ (0 ≤ a.pad) := by omega
    have y2 : decide (0 ≤ a.pad) = false := no_dec z2
    clear h2 cU
    go_enter Tryd.func44, Tryd.ntmps44
    go_wp2
    refine region_ext mixed (by kernel_rfl) ?_
    repeat (go_big_quiet_step (fail))
    refine wpQuiet_nil ?_
    intro w1 hb1
    go_wp2
    go_ret
    refine ⟨ret_bool ?_, (by repeat (first | exact Below.refl _ _ | with_reducible refine Below.alloc ?_ (by first | (simp; done) | (simp; omega) | omega) _ | with_reducible refine Below.setCell ?_ (by first | (simp; done) | (simp; omega) | omega) _ | with_reducible refine Below.drew ?_ | with_reducible refine Below.trans ?_ (Below.mono (by assumption) (by first | (simp; done) | (simp; omega) | omega))))⟩
    rw [HM.out, decide_eq_true H1.out, no_dec (show ¬ (0 ≤ a.pad) by have g := H2.out; omega)]
    simp
  have H2 := hid h2
  have z2 : 0 ≤ a.pad := by omega
  clear h2
  by_cases h3 : a.pad ≤ 16384
  case neg =>
    have n3 : ¬ (a.pad ≤ 16384) := h3
    have H3 := hid n3
    clear n3
    have z3 : ¬ (a.pad ≤ 16384) := by omega
    have y3 : decide (a.pad ≤ 16384) = false := no_dec z3
    clear h3 cU
    go_enter Tryd.func44, Tryd.ntmps44
    go_wp2
    refine region_ext mixed (by kernel_rfl) ?_
    repeat (go_big_quiet_step (fail))
    refine wpQuiet_nil ?_
    intro w1 hb1
    go_wp2
    go_ret
    refine ⟨ret_bool ?_, (by repeat (first | exact Below.refl _ _ | with_reducible refine Below.alloc ?_ (by first | (simp; done) | (simp; omega) | omega) _ | with_reducible refine Below.setCell ?_ (by first | (simp; done) | (simp; omega) | omega) _ | with_reducible refine Below.drew ?_ | with_reducible refine Below.trans ?_ (Below.mono (by assumption) (by first | (simp; done) | (simp; omega) | omega))))⟩
    rw [HM.out, decide_eq_true H1.out, decide_eq_true H2.out, no_dec (show ¬ (a.pad ≤ 16384) by have g := H3.out; omega)]
    simp
  have H3 := hid h3
  have z3 : a.pad ≤ 16384 := by omega
  clear h3
  go_enter Tryd.func44, Tryd.ntmps44
  go_wp2
  refine region_ext mixed (by kernel_rfl) ?_
  repeat (go_big_quiet_step ((go_at_call 22; exact in_ext (cU _))))
  refine wpQuiet_nil ?_
  intro w1 hb1
  go_wp2
  go_ret
  refine ⟨ret_bool ?_, (by repeat (first | exact Below.refl _ _ | with_reducible refine Below.alloc ?_ (by first | (simp; done) | (simp; omega) | omega) _ | with_reducible refine Below.setCell ?_ (by first | (simp; done) | (simp; omega) | omega) _ | with_reducible refine Below.drew ?_ | with_reducible refine Below.trans ?_ (Below.mono (by assumption) (by first | (simp; done) | (simp; omega) | omega))))⟩
  rw [HM.out, decide_eq_true H1.out, decide_eq_true H2.out, decide_eq_true H3.out]
  rfl

set_option maxHeartbeats 8000000 in
set_option maxRecDepth 100000 in
theorem rmay_any (a : Lk) (ha : a.has < 256) (w : World) : Calls Tryd.prog 45 #[lkV a] w fun e w' => e = .returned (.bool (mayL a)) ∧ Below w.heap.size w w' := by
  rw [← may_eq ha]
  have hM : mayR a = ((decide (a.has ≤ 15) && (decide (0 ≤ a.pad) && decide (a.pad ≤ 16384))) && ((tl a.has 1 || decide (a.col = Cl.zero)) && ((tl a.has 2 || decide (a.bak = Cl.zero)) && ((tl a.has 4 || !a.brd) && (tl a.has 8 || decide (a.pad = 0)))))) := rfl
  generalize mayR a = M at hM ⊢
  rw [← clEq_zero, ← clEq_zero] at hM
  by_cases h0 : a.has ≤ 15 ∧ 0 ≤ a.pad ∧ a.pad ≤ 16384
  · obtain ⟨h1, h2, h3⟩ := h0
    rw [decide_eq_true h1, decide_eq_true h2, decide_eq_true h3] at hM
    have HM := hid hM
    clear hM
    have e1 := tl_one ha
    have e2 := tl_two ha
    have e4 := tl_four ha
    have e8 := tl_eight ha
    have z1 : (a.has : Int) ≤ 15 := by omega
    have HZ := hid h1
    clear h1
    generalize tl a.has 1 = t1 at *
    generalize tl a.has 2 = t2 at *
    generalize tl a.has 4 = t4 at *
    generalize tl a.has 8 = t8 at *
    unfold lkV
    cases t1 <;> cases t2 <;> cases t4 <;> cases t8
    all_goals
      go_enter Tryd.func45, Tryd.ntmps45
      go_wp2
      all_goals
        go_ret
        refine ⟨ret_bool ?_, (by repeat (first | exact Below.refl _ _ | with_reducible refine Below.alloc ?_ (by first | (simp; done) | (simp; omega) | omega) _ | with_reducible refine Below.setCell ?_ (by first | (simp; done) | (simp; omega) | omega) _ | with_reducible refine Below.drew ?_ | with_reducible refine Below.trans ?_ (Below.mono (by assumption) (by first | (simp; done) | (simp; omega) | omega))))⟩
        rw [HM.out]
        first
          | (simp [*]; done)
          | (simp [*]; rfl)
  · have hf : M = false := by
      rw [hM]
      have : (decide (a.has ≤ 15) && (decide (0 ≤ a.pad) && decide (a.pad ≤ 16384))) = false := by
        simp only [Bool.and_eq_false_iff, decide_eq_false_iff_not]
        omega
      rw [this, Bool.false_and]
    clear hM
    subst hf
    unfold lkV
    by_cases h1 : a.has ≤ 15
    · by_cases h2 : 0 ≤ a.pad
      · have h3 : 16384 < a.pad := by omega
        have z1 : (a.has : Int) ≤ 15 := by omega
        clear h0 h1
        go_enter Tryd.func45, Tryd.ntmps45
        go_wp2
        go_ret
        exact ⟨rfl, (by repeat (first | exact Below.refl _ _ | with_reducible refine Below.alloc ?_ (by first | (simp; done) | (simp; omega) | omega) _ | with_reducible refine Below.setCell ?_ (by first | (simp; done) | (simp; omega) | omega) _ | with_reducible refine Below.drew ?_ | with_reducible refine Below.trans ?_ (Below.mono (by assumption) (by first | (simp; done) | (simp; omega) | omega))))⟩
      · have h3 : a.pad < 0 := by omega
        have z1 : (a.has : Int) ≤ 15 := by omega
        clear h0 h1 h2
        go_enter Tryd.func45, Tryd.ntmps45
        go_wp2
        go_ret
        exact ⟨rfl, (by repeat (first | exact Below.refl _ _ | with_reducible refine Below.alloc ?_ (by first | (simp; done) | (simp; omega) | omega) _ | with_reducible refine Below.setCell ?_ (by first | (simp; done) | (simp; omega) | omega) _ | with_reducible refine Below.drew ?_ | with_reducible refine Below.trans ?_ (Below.mono (by assumption) (by first | (simp; done) | (simp; omega) | omega))))⟩
    · have z1 : 15 < (a.has : Int) := by omega
      clear h0 h1
      go_enter Tryd.func45, Tryd.ntmps45
      go_wp2
      go_ret
      exact ⟨rfl, (by repeat (first | exact Below.refl _ _ | with_reducible refine Below.alloc ?_ (by first | (simp; done) | (simp; omega) | omega) _ | with_reducible refine Below.setCell ?_ (by first | (simp; done) | (simp; omega) | omega) _ | with_reducible refine Below.drew ?_ | with_reducible refine Below.trans ?_ (Below.mono (by assumption) (by first | (simp; done) | (simp; omega) | omega))))⟩
end Go.Proofs.YtoiondgcjbdonaaDoor
