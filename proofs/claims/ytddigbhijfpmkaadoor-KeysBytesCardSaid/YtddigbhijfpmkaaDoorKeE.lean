/- Layer 21: whether a key may be; modifiers; a key's text, read; both sides. -/
import Derived.Test.YtddigbhijfpmkaaDoorKeD
namespace Go.Proofs.YtddigbhijfpmkaaDoor
set_option linter.unusedVariables false
set_option linter.unusedSimpArgs false
set_option maxRecDepth 100000
open Go.RowKit Go.Shelf Go.Lib
set_option maxRecDepth 100000
set_option maxHeartbeats 4000000

def kyV (k : Ky) : Value := .agg #[.string ⟨k.nm.toArray⟩, .int .u8 (k.md : Int)]
theorem may_any (nm : ByteArray) (md : Nat) (w : World) (hT : Tabs w) : Calls Tryd.prog 26 #[.agg #[.string nm, .int .u8 (md : Int)]] w fun e w' => e = .returned (.bool (mayB ⟨nm.data.toList, md⟩)) ∧ Below w.heap.size w w' := by
  have HA := (Below.refl w.heap.size w).alloc (Nat.le_refl _) (.cells #[.string nm, .int .u8 (md : Int)] 31)
  have CN := name_any nm (w.alloc (.cells #[.string nm, .int .u8 (md : Int)] 31)) (tabs_on hT HA)
  have hE : mayB ⟨nm.data.toList, md⟩ = (decide (md ≤ 7) && nmB nm.data.toList) := rfl
  rw [hE]
  clear hE
  generalize nmB nm.data.toList = b at *
  by_cases h : md ≤ 7
  · have h1 : (md : Int) ≤ 7 := by omega
    have h2 : decide ((md : Int) ≤ 7) = true := decide_eq_true h1
    rw [decide_eq_true h]
    go_enter Tryd.func26, Tryd.ntmps26
    go_wp2_with fail
    refine CN.mono ?_
    rintro e w1 ⟨rfl, hb⟩
    go_wp2
    go_ret
    exact ⟨rfl, HA.trans (hb.mono HA.size)⟩
  · have h1 : ¬ ((md : Int) ≤ 7) := by omega
    have h2 : decide ((md : Int) ≤ 7) = false := decide_eq_false h1
    rw [decide_eq_false h]
    go_enter Tryd.func26, Tryd.ntmps26
    go_wp2
    go_ret
    exact ⟨rfl, HA⟩
theorem rmay_any (nm : ByteArray) (md : Nat) (w : World) (hT : Tabs w) (hs : nm.size ≤ 9223372036854775807) : Calls Tryd.prog 31 #[.agg #[.string nm, .int .u8 (md : Int)]] w fun e w' => e = .returned (.bool (mayB ⟨nm.data.toList, md⟩)) ∧ Below w.heap.size w w' := by
  have HA := (Below.refl w.heap.size w).alloc (Nat.le_refl _) (.cells #[.string nm, .int .u8 (md : Int)] 31)
  have CN := rname_any nm (w.alloc (.cells #[.string nm, .int .u8 (md : Int)] 31)) (tabs_on hT HA) hs
  have hE : mayB ⟨nm.data.toList, md⟩ = (decide (md ≤ 7) && nmB nm.data.toList) := rfl
  rw [hE]
  clear hE
  generalize nmB nm.data.toList = b at *
  by_cases h : md ≤ 7
  · have h1 : (md : Int) ≤ 7 := by omega
    have h2 : decide ((md : Int) ≤ 7) = true := decide_eq_true h1
    rw [decide_eq_true h]
    go_enter Tryd.func31, Tryd.ntmps31
    go_wp2_with fail
    refine CN.mono ?_
    rintro e w1 ⟨rfl, hb⟩
    go_wp2
    go_ret
    exact ⟨rfl, HA.trans (hb.mono HA.size)⟩
  · have h1 : ¬ ((md : Int) ≤ 7) := by omega
    have h2 : decide ((md : Int) ≤ 7) = false := decide_eq_false h1
    rw [decide_eq_false h]
    go_enter Tryd.func31, Tryd.ntmps31
    go_wp2
    go_ret
    exact ⟨rfl, HA⟩

/-! ### modifiers -/
theorem pre_one (l : By) : (Lib.hasPrefix l ctrlL = true ∧ Lib.hasPrefix l altL = false ∧ Lib.hasPrefix l shiftL = false) ∨ (Lib.hasPrefix l ctrlL = false ∧ Lib.hasPrefix l altL = true ∧ Lib.hasPrefix l shiftL = false) ∨
    (Lib.hasPrefix l ctrlL = false ∧ Lib.hasPrefix l altL = false ∧ Lib.hasPrefix l shiftL = true) ∨ (Lib.hasPrefix l ctrlL = false ∧ Lib.hasPrefix l altL = false ∧ Lib.hasPrefix l shiftL = false) := by
  unfold Lib.hasPrefix ctrlL altL shiftL
  cases l with
  | nil => decide
  | cons b t =>
    simp only [List.isPrefixOf]
    by_cases h1 : b = 99
    · subst h1
      generalize List.isPrefixOf [116, 114, 108, 43] t = p1
      generalize List.isPrefixOf [108, 116, 43] t = p2
      generalize List.isPrefixOf [104, 105, 102, 116, 43] t = p3
      revert p1 p2 p3
      decide
    · by_cases h2 : b = 97
      · subst h2
        generalize List.isPrefixOf [116, 114, 108, 43] t = p1
        generalize List.isPrefixOf [108, 116, 43] t = p2
        generalize List.isPrefixOf [104, 105, 102, 116, 43] t = p3
        revert p1 p2 p3
        decide
      · by_cases h3 : b = 115
        · subst h3
          generalize List.isPrefixOf [116, 114, 108, 43] t = p1
          generalize List.isPrefixOf [108, 116, 43] t = p2
          generalize List.isPrefixOf [104, 105, 102, 116, 43] t = p3
          revert p1 p2 p3
          decide
        · have e1 : ((99 : UInt8) == b) = false := beq_eq_false_iff_ne.2 (Ne.symm h1)
          have e2 : ((97 : UInt8) == b) = false := beq_eq_false_iff_ne.2 (Ne.symm h2)
          have e3 : ((115 : UInt8) == b) = false := beq_eq_false_iff_ne.2 (Ne.symm h3)
          simp [e1, e2, e3]
theorem modL_eq (l : By) : modL l = if Lib.hasPrefix l ctrlL then (2, 5) else if Lib.hasPrefix l altL then (4, 4) else if Lib.hasPrefix l shiftL then (1, 6) else (0, 0) := rfl
def modR (l : By) : By := l.drop (modL l).2
theorem mod_any (s : ByteArray) (w : World) : Calls Tryd.prog 39 #[.string s] w fun e w' => e = .returned (.tuple #[.int .u8 ((modL s.data.toList).1 : Int), .string ⟨(modR s.data.toList).toArray⟩]) ∧ w = w' := by
  have C1 := fun w => cp_any s { data := #[99, 116, 114, 108, 43] } w
  have C2 := fun w => cp_any s { data := #[97, 108, 116, 43] } w
  have C3 := fun w => cp_any s { data := #[115, 104, 105, 102, 116, 43] } w
  have hm : (⟨s.data.toList.toArray⟩ : ByteArray) = s := ba_mk s
  unfold modR
  rw [modL_eq]
  unfold Lib.trimPrefix at C1 C2 C3
  have hp := pre_one s.data.toList
  unfold ctrlL altL shiftL at hp ⊢
  rcases hp with ⟨h1, h2, h3⟩ | ⟨h1, h2, h3⟩ | ⟨h1, h2, h3⟩ | ⟨h1, h2, h3⟩
  all_goals
    simp only [h1, h2, h3, if_true, Bool.false_eq_true, if_false] at C1 C2 C3 ⊢
    try rw [hm] at C1
    try rw [hm] at C2
    try rw [hm] at C3
    clear h1 h2 h3
    go_enter Tryd.func39, Tryd.ntmps39
    go_wp2_with (first | (go_at_call 55; with_reducible refine (C1 _).mono ?_; rintro e w1 ⟨rfl, rfl⟩) | (go_at_call 55; with_reducible refine (C2 _).mono ?_; rintro e w1 ⟨rfl, rfl⟩) | (go_at_call 55; with_reducible refine (C3 _).mono ?_; rintro e w1 ⟨rfl, rfl⟩))
    first
      | exact bodyPost_ret (by simp [results, Tryd.results39, go_sem, *]) rfl ⟨rfl, rfl⟩
      | (rw [List.drop_zero, hm]; exact bodyPost_ret (by simp [results, Tryd.results39, go_sem, *]) rfl ⟨rfl, rfl⟩)
theorem begins_any (s p : ByteArray) (hs : s.size ≤ 9223372036854775807) (w : World) : Calls Tryd.prog 64 #[.string s, .string p] w fun e w' => e = .returned (.bool (Lib.hasPrefix s.data.toList p.data.toList)) ∧ w = w' := by
  have hr := Lib.hasPrefix_raw s p
  obtain ⟨b, hb⟩ : ∃ b, Lib.hasPrefix s.data.toList p.data.toList = b := ⟨_, rfl⟩
  rw [hb] at hr ⊢
  clear hb
  by_cases h : p.size ≤ s.size
  · have h1 : (p.size : Int) ≤ (s.size : Int) := by omega
    have h2 : decide ((p.size : Int) ≤ (s.size : Int)) = true := decide_eq_true h1
    rw [decide_eq_true h, Bool.true_and] at hr
    go_enter Tryd.func64, Tryd.ntmps64
    go_wp2
    go_ret
    exact ⟨by first | rw [hr] | rfl, rfl⟩
  · have h1 : ¬ ((p.size : Int) ≤ (s.size : Int)) := by omega
    have h2 : decide ((p.size : Int) ≤ (s.size : Int)) = false := decide_eq_false h1
    rw [decide_eq_false h, Bool.false_and] at hr
    subst hr
    go_enter Tryd.func64, Tryd.ntmps64
    go_wp2
    go_ret
    exact ⟨rfl, rfl⟩
theorem rmod_any (s : ByteArray) (hs : s.size ≤ 9223372036854775807) (w : World) : Calls Tryd.prog 44 #[.string s] w fun e w' => e = .returned (.tuple #[.int .u8 ((modL s.data.toList).1 : Int), .int .i64 ((modL s.data.toList).2 : Int)]) ∧ w = w' := by
  have C1 := fun w => begins_any s { data := #[99, 116, 114, 108, 43] } hs w
  have C2 := fun w => begins_any s { data := #[97, 108, 116, 43] } hs w
  have C3 := fun w => begins_any s { data := #[115, 104, 105, 102, 116, 43] } hs w
  rw [modL_eq]
  have hp := pre_one s.data.toList
  unfold ctrlL altL shiftL at hp ⊢
  rcases hp with ⟨h1, h2, h3⟩ | ⟨h1, h2, h3⟩ | ⟨h1, h2, h3⟩ | ⟨h1, h2, h3⟩
  all_goals
    simp only [h1, h2, h3, if_true, Bool.false_eq_true, if_false] at C1 C2 C3 ⊢
    clear h1 h2 h3
    go_enter Tryd.func44, Tryd.ntmps44
    go_wp2_with (first | (go_at_call 64; with_reducible refine (C1 _).mono ?_; rintro e w1 ⟨rfl, rfl⟩) | (go_at_call 64; with_reducible refine (C2 _).mono ?_; rintro e w1 ⟨rfl, rfl⟩) | (go_at_call 64; with_reducible refine (C3 _).mono ?_; rintro e w1 ⟨rfl, rfl⟩))
    exact bodyPost_ret (by simp [results, Tryd.results44, go_sem, *]) rfl ⟨rfl, rfl⟩
end Go.Proofs.YtddigbhijfpmkaaDoor
