/- Layer 3: kinds of pieces, words: both sides. -/
import Derived.Test.YtcfgpmmclijonaaGreatDoorRuK
namespace Go.Proofs.YtcfgpmmclijonaaGreatDoor
set_option linter.unusedVariables false
set_option linter.unusedSimpArgs false
set_option maxRecDepth 100000
open Go.RowKit Go.Shelf Go.Lib

def kd (r : Int) : Nat := if r = 32 ∨ r = 9 ∨ r = 10 then 0 else if r = 95 ∨ isLet r = true ∨ isDig r = true then 1 else 2
theorem kd_le (r : Int) : kd r ≤ 2 := by
  unfold kd
  by_cases h1 : r = 32 ∨ r = 9 ∨ r = 10
  · rw [if_pos h1]; omega
  · rw [if_neg h1]
    by_cases h2 : r = 95 ∨ isLet r = true ∨ isDig r = true
    · rw [if_pos h2]; omega
    · rw [if_neg h2]; omega
set_option maxHeartbeats 4000000
set_option maxRecDepth 100000
theorem kind_any (a b r : Int) (h0 : 0 ≤ r) (h1 : r ≤ 1114111) (w : World) (hT : Tabs w) : Calls Tryz.prog 69 #[.agg #[.int .i64 a, .int .i64 b, .int .i32 r]] w fun e w' => e = .returned (.int .i64 (kd r : Int)) ∧ Below w.heap.size w w' := by
  have HL : Hid (∀ x, Below w.heap.size w x → Calls Tryz.prog 88 #[.int .i32 r] x fun e w' => e = .returned (.bool (isLet r)) ∧ Below x.heap.size x w') := hid fun x hb => letter_any r x (tabs_on hT hb) (by omega) (by omega)
  have HD : Hid (∀ x, Below w.heap.size w x → Calls Tryz.prog 89 #[.int .i32 r] x fun e w' => e = .returned (.bool (isDig r)) ∧ Below x.heap.size x w') := hid fun x hb => digit_any r x (tabs_on hT hb) (by omega) (by omega)
  have hB := (Below.refl w.heap.size w).alloc (Nat.le_refl _) (.cells #[.int .i64 a, .int .i64 b, .int .i32 r] 92)
  have HB := hid hB
  have hk : kd r = if r = 32 ∨ r = 9 ∨ r = 10 then 0 else if r = 95 ∨ isLet r = true ∨ isDig r = true then 1 else 2 := rfl
  rw [hk]
  clear hk hB hT
  generalize isLet r = lb at *
  generalize isDig r = db at *
  by_cases k1 : r = 32
  · rw [if_pos (.inl k1)]
    go_enter Tryz.func69, Tryz.ntmps69
    go_wp2
    go_ret
    exact ⟨rfl, (Below.refl _ _).alloc (Nat.le_refl _) _⟩
  by_cases k2 : r = 9
  · rw [if_pos (.inr (.inl k2))]
    go_enter Tryz.func69, Tryz.ntmps69
    go_wp2
    go_ret
    exact ⟨rfl, (Below.refl _ _).alloc (Nat.le_refl _) _⟩
  by_cases k3 : r = 10
  · rw [if_pos (.inr (.inr k3))]
    go_enter Tryz.func69, Tryz.ntmps69
    go_wp2
    go_ret
    exact ⟨rfl, (Below.refl _ _).alloc (Nat.le_refl _) _⟩
  rw [if_neg (by omega)]
  by_cases k4 : r = 95
  · rw [if_pos (.inl k4)]
    go_enter Tryz.func69, Tryz.ntmps69
    go_wp2
    go_ret
    exact ⟨rfl, (Below.refl _ _).alloc (Nat.le_refl _) _⟩
  cases lb with
  | true =>
    rw [if_pos (.inr (.inl rfl))]
    go_enter Tryz.func69, Tryz.ntmps69
    go_wp2_with fail
    refine (HL.out _ HB.out).mono ?_
    rintro e w1 ⟨rfl, hb1⟩
    go_wp2
    go_ret
    exact ⟨rfl, HB.out.trans (hb1.mono HB.out.size)⟩
  | false =>
    cases db with
    | true =>
      rw [if_pos (.inr (.inr rfl))]
      go_enter Tryz.func69, Tryz.ntmps69
      go_wp2_with fail
      refine (HL.out _ HB.out).mono ?_
      rintro e w1 ⟨rfl, hb1⟩
      have HB1 := hid (HB.out.trans (hb1.mono HB.out.size))
      clear hb1
      go_wp2_with fail
      refine (HD.out _ HB1.out).mono ?_
      rintro e w2 ⟨rfl, hb2⟩
      go_wp2
      go_ret
      exact ⟨rfl, HB1.out.trans (hb2.mono HB1.out.size)⟩
    | false =>
      rw [if_neg (by simp [k4])]
      go_enter Tryz.func69, Tryz.ntmps69
      go_wp2_with fail
      refine (HL.out _ HB.out).mono ?_
      rintro e w1 ⟨rfl, hb1⟩
      have HB1 := hid (HB.out.trans (hb1.mono HB.out.size))
      clear hb1
      go_wp2_with fail
      refine (HD.out _ HB1.out).mono ?_
      rintro e w2 ⟨rfl, hb2⟩
      go_wp2
      go_ret
      exact ⟨rfl, HB1.out.trans (hb2.mono HB1.out.size)⟩
theorem rkind_any (a b r c : Int) (h0 : 0 ≤ r) (h1 : r ≤ 1114111) (w : World) (hT : Tabs w) : Calls Tryz.prog 77 #[.agg #[.int .i64 a, .int .i64 b, .int .i32 r, .int .i64 c]] w fun e w' => e = .returned (.int .i64 ((kd r + 1 : Nat) : Int)) ∧ Below w.heap.size w w' := by
  have HL : Hid (∀ x, Below w.heap.size w x → Calls Tryz.prog 88 #[.int .i32 r] x fun e w' => e = .returned (.bool (isLet r)) ∧ Below x.heap.size x w') := hid fun x hb => letter_any r x (tabs_on hT hb) (by omega) (by omega)
  have HD : Hid (∀ x, Below w.heap.size w x → Calls Tryz.prog 89 #[.int .i32 r] x fun e w' => e = .returned (.bool (isDig r)) ∧ Below x.heap.size x w') := hid fun x hb => digit_any r x (tabs_on hT hb) (by omega) (by omega)
  have hB := (Below.refl w.heap.size w).alloc (Nat.le_refl _) (.cells #[.int .i64 a, .int .i64 b, .int .i32 r, .int .i64 c] 103)
  have HB := hid hB
  have hk : kd r = if r = 32 ∨ r = 9 ∨ r = 10 then 0 else if r = 95 ∨ isLet r = true ∨ isDig r = true then 1 else 2 := rfl
  rw [hk]
  clear hk hB hT
  generalize isLet r = lb at *
  generalize isDig r = db at *
  by_cases k1 : r = 32
  · rw [if_pos (.inl k1)]
    go_enter Tryz.func77, Tryz.ntmps77
    go_wp2
    go_ret
    exact ⟨rfl, (Below.refl _ _).alloc (Nat.le_refl _) _⟩
  by_cases k2 : r = 9
  · rw [if_pos (.inr (.inl k2))]
    go_enter Tryz.func77, Tryz.ntmps77
    go_wp2
    go_ret
    exact ⟨rfl, (Below.refl _ _).alloc (Nat.le_refl _) _⟩
  by_cases k3 : r = 10
  · rw [if_pos (.inr (.inr k3))]
    go_enter Tryz.func77, Tryz.ntmps77
    go_wp2
    go_ret
    exact ⟨rfl, (Below.refl _ _).alloc (Nat.le_refl _) _⟩
  rw [if_neg (by omega)]
  by_cases k4 : r = 95
  · rw [if_pos (.inl k4)]
    go_enter Tryz.func77, Tryz.ntmps77
    go_wp2
    go_ret
    exact ⟨rfl, (Below.refl _ _).alloc (Nat.le_refl _) _⟩
  have b1 : (r == 32) = false := by simpa using k1
  have b2 : (r == 9) = false := by simpa using k2
  have b3 : (r == 10) = false := by simpa using k3
  have b4 : (r == 95) = false := by simpa using k4
  cases lb with
  | true =>
    rw [if_pos (.inr (.inl rfl))]
    go_enter Tryz.func77, Tryz.ntmps77
    go_wp2_with fail
    refine (HL.out _ HB.out).mono ?_
    rintro e w1 ⟨rfl, hb1⟩
    go_wp2
    go_ret
    exact ⟨rfl, HB.out.trans (hb1.mono HB.out.size)⟩
  | false =>
    cases db with
    | true =>
      rw [if_pos (.inr (.inr rfl))]
      go_enter Tryz.func77, Tryz.ntmps77
      go_wp2_with fail
      refine (HL.out _ HB.out).mono ?_
      rintro e w1 ⟨rfl, hb1⟩
      have HB1 := hid (HB.out.trans (hb1.mono HB.out.size))
      clear hb1
      go_wp2_with fail
      refine (HD.out _ HB1.out).mono ?_
      rintro e w2 ⟨rfl, hb2⟩
      go_wp2
      go_ret
      exact ⟨rfl, HB1.out.trans (hb2.mono HB1.out.size)⟩
    | false =>
      rw [if_neg (by simp [k4])]
      go_enter Tryz.func77, Tryz.ntmps77
      go_wp2_with fail
      refine (HL.out _ HB.out).mono ?_
      rintro e w1 ⟨rfl, hb1⟩
      have HB1 := hid (HB.out.trans (hb1.mono HB.out.size))
      clear hb1
      go_wp2_with fail
      refine (HD.out _ HB1.out).mono ?_
      rintro e w2 ⟨rfl, hb2⟩
      go_wp2
      go_ret
      exact ⟨rfl, HB1.out.trans (hb2.mono HB1.out.size)⟩
end Go.Proofs.YtcfgpmmclijonaaGreatDoor
