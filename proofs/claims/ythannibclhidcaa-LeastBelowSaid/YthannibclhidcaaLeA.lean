/- Layer 9: Check of both sides. (Printed by least/gen_a.py.) -/
import Derived.Test.YthannibclhidcaaLeCyc
import Derived.Test.YthannibclhidcaaFlexB
namespace Go.Proofs.Ythannibclhidcaa
set_option linter.unusedVariables false
set_option linter.unusedSimpArgs false
open Go.RowKit
attribute [local go_sem] max_fold min_fold

def okBb (n : Int) (b : T3) : Bool := decide ((0 ≤ b.p ∧ b.p < n) ∧ (0 ≤ b.q ∧ b.q < n) ∧ (-1048576 ≤ b.r ∧ b.r ≤ 1048576))
def allB (n : Int) (L : List T3) : Bool := L.all (okBb n)
def chkN (n : Int) (L : List T3) : Int := if n < 0 then 2 else if 4096 < n ∨ 4096 < L.length then 4 else if allB n L then 0 else 2
theorem allB_take (n : Int) (L : List T3) (k : Nat) (h : k < L.length) : allB n (L.take (k + 1)) = (allB n (L.take k) && okBb n L[k]) := by
  rw [List.take_succ_eq_append_getElem h]
  simp only [allB, List.all_append, List.all_cons, List.all_nil, Bool.and_true]
theorem allB_no {n : Int} {L : List T3} {k : Nat} (h : k < L.length) (hm : okBb n L[k] = false) : allB n L = false := by
  rw [Bool.eq_false_iff]
  intro ha
  have := (List.all_eq_true.1 ha) L[k] (List.getElem_mem h)
  rw [hm] at this
  cases this
theorem bk_at {L : List T3} {j : Nat} (h : j < L.length) : bk L j = L[j] := by simp [bk, List.getD, h]
theorem chkN_ok {n : Int} {L : List T3} (h : chkN n L = 0) : ∃ m : Nat, n = (m : Int) ∧ m ≤ 4096 ∧ L.length ≤ 4096 ∧ okL m L := by
  unfold chkN at h
  split at h
  · omega
  · split at h
    · omega
    · split at h
      · rename_i h1 h2 h3
        refine ⟨n.toNat, by omega, by omega, by omega, fun j hj => ?_⟩
        have := List.all_eq_true.1 h3 L[j] (List.getElem_mem hj)
        simp only [okBb, decide_eq_true_eq] at this
        rw [bk_at hj]
        unfold okB
        omega
      · omega
theorem chkN_is (n : Int) (L : List T3) : chkN n L = 0 ∨ chkN n L = 2 ∨ chkN n L = 4 := by
  unfold chkN
  split
  · simp
  · split
    · simp
    · split <;> simp

set_option maxHeartbeats 4000000 in
set_option maxRecDepth 100000 in
theorem checkN_any (B : Nat) (A : Option Addr) (c : Nat) (n : Int) (L : List T3) (w : World) (hA : At B w A (t3s L)) (hB : B ≤ w.heap.size) (hl : L.length ≤ 9000000000000000000) :
    Calls Try.prog 54 #[.int .i64 n, .slice A L.length c] w fun e w' => e = .returned (.int .i64 (chkN n L)) ∧ Below w.heap.size w w' := by
  by_cases hn : n < 0
  · rw [show chkN n L = 2 by simp [chkN, hn]]
    go_enter Try.func54, Try.ntmps54
    go_wp2
    go_ret
    exact ⟨rfl, (by repeat (first | exact Below.refl _ _ | with_reducible refine Below.alloc ?_ (by first | (simp; done) | (simp; omega) | omega) _ | with_reducible refine Below.setCell ?_ (by first | (simp; done) | (simp; omega) | omega) _ | with_reducible refine Below.drew ?_ | with_reducible refine Below.trans ?_ (Below.mono (by assumption) (by first | (simp; done) | (simp; omega) | omega))))⟩
  · by_cases hbig : 4096 < n ∨ 4096 < L.length
    · rw [show chkN n L = 4 by simp [chkN, hn, hbig]]
      by_cases hn2 : 4096 < n
      · clear hbig
        go_enter Try.func54, Try.ntmps54
        go_wp2
        go_ret
        exact ⟨rfl, (by repeat (first | exact Below.refl _ _ | with_reducible refine Below.alloc ?_ (by first | (simp; done) | (simp; omega) | omega) _ | with_reducible refine Below.setCell ?_ (by first | (simp; done) | (simp; omega) | omega) _ | with_reducible refine Below.drew ?_ | with_reducible refine Below.trans ?_ (Below.mono (by assumption) (by first | (simp; done) | (simp; omega) | omega))))⟩
      · have hb : (4096 : Int) < (L.length : Int) := by omega
        clear hbig
        go_enter Try.func54, Try.ntmps54
        go_wp2
        go_ret
        exact ⟨rfl, (by repeat (first | exact Below.refl _ _ | with_reducible refine Below.alloc ?_ (by first | (simp; done) | (simp; omega) | omega) _ | with_reducible refine Below.setCell ?_ (by first | (simp; done) | (simp; omega) | omega) _ | with_reducible refine Below.drew ?_ | with_reducible refine Below.trans ?_ (Below.mono (by assumption) (by first | (simp; done) | (simp; omega) | omega))))⟩
    · have hb : (L.length : Int) ≤ 4096 := by omega
      have hn2 : n ≤ 4096 := by omega
      have hlen : L.length ≤ 4096 := by omega
      have HC := Go.Lib.hid (show chkN n L = if allB n L then 0 else 2 by simp [chkN, hn, hbig])
      have hn3 : 0 ≤ n := by omega
      clear hbig hn
      go_enter Try.func54, Try.ntmps54
      go_wp2
      go_loopw [18] (fun i wr => ∃ k : Nat, k ≤ L.length ∧ i = .int .i64 k ∧ Hid (allB n (L.take k) = true) ∧ Below w.heap.size w wr) (fun i _ => L.length - (intOf i).toNat)
      case atStart => exact ⟨0, by omega, rfl, Go.Lib.hid rfl, Below.refl _ _⟩
      case round =>
        obtain ⟨k, hk, rfl, HP, hbr⟩ := hrel
        have hsr := hbr.size
        by_cases hlt : k < L.length
        · have hli : (k : Int) < (L.length : Int) := by omega
          obtain ⟨g, o, rfl, hg, c0, c1, c2⟩ := (hA.below (hbr.mono hB)).t3 hlt
          have HS := Go.Lib.hid (allB_take n L k hlt)
          have HN : Hid (okBb n L[k] = false → allB n L = false) := Go.Lib.hid fun h => allB_no (L := L) hlt h
          clear hA
          generalize L[k] = t at *
          go_wp2
          all_goals first
            | (go_roundw
               case rel =>
                 have hm : okBb n t = true := by simp only [okBb, decide_eq_true_eq]; omega
                 exact ⟨k + 1, by omega, by go_num, Go.Lib.hid (by rw [HS.out, HP.out, hm]; rfl), hbr.alloc hsr _⟩
               case measure => simp [intOf]; omega)
            | (go_ret
               refine ⟨ret_int ?_, hbr.alloc hsr _⟩
               have hm : okBb n t = false := by simp only [okBb, decide_eq_false_iff_not]; omega
               rw [HC.out, HN.out hm]
               rfl)
        · have hlt' : ¬ ((k : Int) < (L.length : Int)) := by omega
          have hkl : k = L.length := by omega
          go_wp2
          go_ret
          refine ⟨ret_int ?_, hbr⟩
          have := HP.out
          rw [hkl, List.take_length] at this
          rw [HC.out, this]
          rfl

set_option maxHeartbeats 4000000 in
set_option maxRecDepth 100000 in
theorem rcheckN_any (B : Nat) (A : Option Addr) (c : Nat) (n : Int) (L : List T3) (w : World) (hA : At B w A (t3s L)) (hB : B ≤ w.heap.size) (hl : L.length ≤ 9000000000000000000) :
    Calls Try.prog 56 #[.int .i64 n, .slice A L.length c] w fun e w' => e = .returned (.int .i64 (chkN n L)) ∧ Below w.heap.size w w' := by
  by_cases hn : n < 0
  · rw [show chkN n L = 2 by simp [chkN, hn]]
    go_enter Try.func56, Try.ntmps56
    go_wp2
    go_ret
    exact ⟨rfl, (by repeat (first | exact Below.refl _ _ | with_reducible refine Below.alloc ?_ (by first | (simp; done) | (simp; omega) | omega) _ | with_reducible refine Below.setCell ?_ (by first | (simp; done) | (simp; omega) | omega) _ | with_reducible refine Below.drew ?_ | with_reducible refine Below.trans ?_ (Below.mono (by assumption) (by first | (simp; done) | (simp; omega) | omega))))⟩
  · by_cases hbig : 4096 < n ∨ 4096 < L.length
    · rw [show chkN n L = 4 by simp [chkN, hn, hbig]]
      by_cases hn2 : 4096 < n
      · clear hbig
        go_enter Try.func56, Try.ntmps56
        go_wp2
        go_ret
        exact ⟨rfl, (by repeat (first | exact Below.refl _ _ | with_reducible refine Below.alloc ?_ (by first | (simp; done) | (simp; omega) | omega) _ | with_reducible refine Below.setCell ?_ (by first | (simp; done) | (simp; omega) | omega) _ | with_reducible refine Below.drew ?_ | with_reducible refine Below.trans ?_ (Below.mono (by assumption) (by first | (simp; done) | (simp; omega) | omega))))⟩
      · have hb : (4096 : Int) < (L.length : Int) := by omega
        clear hbig
        go_enter Try.func56, Try.ntmps56
        go_wp2
        go_ret
        exact ⟨rfl, (by repeat (first | exact Below.refl _ _ | with_reducible refine Below.alloc ?_ (by first | (simp; done) | (simp; omega) | omega) _ | with_reducible refine Below.setCell ?_ (by first | (simp; done) | (simp; omega) | omega) _ | with_reducible refine Below.drew ?_ | with_reducible refine Below.trans ?_ (Below.mono (by assumption) (by first | (simp; done) | (simp; omega) | omega))))⟩
    · have hb : (L.length : Int) ≤ 4096 := by omega
      have hn2 : n ≤ 4096 := by omega
      have hlen : L.length ≤ 4096 := by omega
      have HC := Go.Lib.hid (show chkN n L = if allB n L then 0 else 2 by simp [chkN, hn, hbig])
      have hn3 : 0 ≤ n := by omega
      clear hbig hn
      go_enter Try.func56, Try.ntmps56
      go_wp2
      go_loopw [5] (fun i wr => ∃ k : Nat, k ≤ L.length ∧ i = .int .i64 k ∧ Hid (allB n (L.take k) = true) ∧ Below w.heap.size w wr) (fun i _ => L.length - (intOf i).toNat)
      case atStart => exact ⟨0, by omega, rfl, Go.Lib.hid rfl, Below.refl _ _⟩
      case round =>
        obtain ⟨k, hk, rfl, HP, hbr⟩ := hrel
        have hsr := hbr.size
        by_cases hlt : k < L.length
        · have hli : (k : Int) < (L.length : Int) := by omega
          obtain ⟨g, o, rfl, hg, c0, c1, c2⟩ := (hA.below (hbr.mono hB)).t3 hlt
          have HS := Go.Lib.hid (allB_take n L k hlt)
          have HN : Hid (okBb n L[k] = false → allB n L = false) := Go.Lib.hid fun h => allB_no (L := L) hlt h
          clear hA
          generalize L[k] = t at *
          go_wp2
          all_goals first
            | (go_roundw
               case rel =>
                 have hm : okBb n t = true := by simp only [okBb, decide_eq_true_eq]; omega
                 exact ⟨k + 1, by omega, by go_num, Go.Lib.hid (by rw [HS.out, HP.out, hm]; rfl), hbr.alloc hsr _⟩
               case measure => simp [intOf]; omega)
            | (go_ret
               refine ⟨ret_int ?_, hbr.alloc hsr _⟩
               have hm : okBb n t = false := by simp only [okBb, decide_eq_false_iff_not]; omega
               rw [HC.out, HN.out hm]
               rfl)
        · have hlt' : ¬ ((k : Int) < (L.length : Int)) := by omega
          have hkl : k = L.length := by omega
          go_wp2
          go_ret
          refine ⟨ret_int ?_, hbr⟩
          have := HP.out
          rw [hkl, List.take_length] at this
          rw [HC.out, this]
          rfl

end Go.Proofs.Ythannibclhidcaa
