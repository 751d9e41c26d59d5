/- Layer 10: the leaves: within, check, may, Check, room, gaps. -/
import Derived.Test.YthannibclhidcaaProg
import Derived.Test.YthannibclhidcaaMem
namespace Go.Proofs.Ythannibclhidcaa
set_option linter.unusedVariables false
set_option linter.unusedSimpArgs false
open Go.RowKit

theorem max_fold (a b : Int) : (if a < b then b else a) = max a b := by omega
theorem min_fold (a b : Int) : (if b < a then b else a) = min a b := by omega
attribute [local go_sem] max_fold min_fold
theorem mixed : Try.prog.follows .mixedOrders = true := by kernel_rfl
def inB (n a b : Int) : Bool := decide (a ≤ n) && decide (n ≤ b)
theorem inB_iff (n a b : Int) : inB n a b = true ↔ a ≤ n ∧ n ≤ b := by simp [inB]
theorem inB_no (n a b : Int) : inB n a b = false ↔ n < a ∨ b < n := by simp [inB]; omega
def mayT (t : T3) : Bool := inB t.p 0 16384 && (t.q == 0 || inB t.q t.p 16384) && inB t.r 0 16384
theorem mayT_iff (t : T3) : mayT t = true ↔ (0 ≤ t.p ∧ t.p ≤ 16384) ∧ (t.q = 0 ∨ t.p ≤ t.q ∧ t.q ≤ 16384) ∧ (0 ≤ t.r ∧ t.r ≤ 16384) := by
  simp [mayT, inB, and_assoc]
def allT (L : List T3) : Bool := L.all mayT
def chk (L : List T3) : Int := if 1024 < L.length then 4 else if allT L then 0 else 100

set_option maxHeartbeats 400000 in
theorem within_any (n a b : Int) (w : World) : Calls Try.prog 45 #[.int .i64 n, .int .i64 a, .int .i64 b] w fun e w' => e = .returned (.bool (inB n a b)) ∧ w = w' := by
  go_enter Try.func45, Try.ntmps45
  go_wp2
  all_goals
    go_ret
    exact ⟨ret_bool (by unfold inB; first | (simp [*]; done) | (simp; omega)), rfl⟩
set_option maxHeartbeats 400000 in
theorem room_any (n : Int) (w : World) : Calls Try.prog 47 #[.int .i64 n] w fun e w' => e = .returned (.bool (inB n 0 32768)) ∧ w = w' := by
  go_enter Try.func47, Try.ntmps47
  go_wp2
  all_goals
    go_ret
    exact ⟨ret_bool (by unfold inB; first | (simp [*]; done) | (simp; omega)), rfl⟩
set_option maxHeartbeats 400000 in
theorem gaps_any (n : Int) (w : World) : Calls Try.prog 48 #[.int .i64 n] w fun e w' => e = .returned (.bool (inB n 0 16384)) ∧ w = w' := by
  go_enter Try.func48, Try.ntmps48
  go_wp2
  all_goals
    go_ret
    exact ⟨ret_bool (by unfold inB; first | (simp [*]; done) | (simp; omega)), rfl⟩
set_option maxHeartbeats 1000000 in
theorem may_any (t : T3) (w : World) : Calls Try.prog 59 #[.agg #[.int .i64 t.p, .int .i64 t.q, .int .i64 t.r]] w fun e w' => e = .returned (.bool (mayT t)) ∧ Below w.heap.size w w' := by
  go_enter Try.func59, Try.ntmps59
  go_wp2
  all_goals
    go_ret
    exact ⟨ret_bool (by rw [Bool.eq_iff_iff, mayT_iff]; simp; omega), (by repeat (first | exact Below.refl _ _ | with_reducible refine Below.alloc ?_ (by first | (simp; done) | (simp; omega) | omega) _ | with_reducible refine Below.setCell ?_ (by first | (simp; done) | (simp; omega) | omega) _ | with_reducible refine Below.drew ?_ | with_reducible refine Below.trans ?_ (Below.mono (by assumption) (by first | (simp; done) | (simp; omega) | omega))))⟩
theorem may_is {t : T3} {v : Bool} (h : mayT t = v) (w : World) : Calls Try.prog 59 #[.agg #[.int .i64 t.p, .int .i64 t.q, .int .i64 t.r]] w fun e w' => e = .returned (.bool v) ∧ Below w.heap.size w w' := h ▸ may_any t w
theorem allT_take (L : List T3) (k : Nat) (h : k < L.length) : allT (L.take (k + 1)) = (allT (L.take k) && mayT L[k]) := by
  rw [List.take_succ_eq_append_getElem h]
  simp only [allT, List.all_append, List.all_cons, List.all_nil, Bool.and_true]
theorem allT_no {L : List T3} {k : Nat} (h : k < L.length) (hm : mayT L[k] = false) : allT L = false := by
  rw [Bool.eq_false_iff]
  intro ha
  have := (List.all_eq_true.1 ha) L[k] (List.getElem_mem h)
  rw [hm] at this
  cases this

set_option maxHeartbeats 2000000 in
theorem check_any (B : Nat) (A : Option Addr) (c : Nat) (L : List T3) (w : World) (hA : At B w A (t3s L)) (hB : B ≤ w.heap.size) (hl : L.length ≤ 9000000000000000000) :
    Calls Try.prog 50 #[.slice A L.length c] w fun e w' => e = .returned (.int .i64 (chk L)) ∧ Below w.heap.size w w' := by
  by_cases hbig : 1024 < L.length
  · rw [show chk L = 4 by simp [chk, hbig]]
    have hb : (1024 : Int) < (L.length : Int) := by omega
    go_enter Try.func50, Try.ntmps50
    go_wp2
    go_ret
    exact ⟨rfl, (by repeat (first | exact Below.refl _ _ | with_reducible refine Below.alloc ?_ (by first | (simp; done) | (simp; omega) | omega) _ | with_reducible refine Below.setCell ?_ (by first | (simp; done) | (simp; omega) | omega) _ | with_reducible refine Below.drew ?_ | with_reducible refine Below.trans ?_ (Below.mono (by assumption) (by first | (simp; done) | (simp; omega) | omega))))⟩
  · have hb : (L.length : Int) ≤ 1024 := by omega
    go_enter Try.func50, Try.ntmps50
    go_wp2
    go_loopw [10] (fun i wr => ∃ k : Nat, k ≤ L.length ∧ i = .int .i64 k ∧ Hid (allT (L.take k) = true) ∧ Below w.heap.size w wr) (fun i _ => L.length - (intOf i).toNat)
    case atStart => exact ⟨0, by omega, rfl, Go.Lib.hid rfl, Below.refl _ _⟩
    case round =>
      obtain ⟨k, hk, rfl, HP, hbr⟩ := hrel
      have hsr := hbr.size
      by_cases hlt : k < L.length
      · have hli : (k : Int) < (L.length : Int) := by omega
        obtain ⟨g, o, rfl, hg, c0, c1, c2⟩ := (hA.below (hbr.mono hB)).t3 hlt
        have hsu := allT_take L k hlt
        have hno := fun h => allT_no (L := L) hlt h
        generalize L[k] = t at *
        have HS := Go.Lib.hid hsu
        have HN := Go.Lib.hid hno
        clear hsu hno
        go_wp2_with (first | (go_at_call 45; refine (within_any _ _ _ _).mono ?_; rintro e w' ⟨rfl, rfl⟩))
        all_goals first
          | (go_roundw
             case rel =>
               have hm : mayT t = true := by first | (simp [mayT, *]; done) | (have hr : inB t.r 0 16384 = true := (by simpa using (by assumption : (!inB t.r 0 16384) = false)); simp [mayT, *])
               exact ⟨k + 1, by omega, by go_num, Go.Lib.hid (by rw [HS.out, HP.out, hm]; rfl), hbr.alloc hsr _⟩
             case measure => simp [intOf]; omega)
          | (go_ret
             refine ⟨ret_int ?_, hbr.alloc hsr _⟩
             have hm : mayT t = false := by first | (simp [mayT, *]; done) | (have hr : inB t.r 0 16384 = false := (by simpa using (by assumption : (!inB t.r 0 16384) = true)); simp [mayT, hr])
             simp [chk, hbig, HN.out hm])
      · have hlt' : ¬ ((k : Int) < (L.length : Int)) := by omega
        have hkl : k = L.length := by omega
        go_wp2
        go_ret
        refine ⟨ret_int ?_, hbr⟩
        have := HP.out
        rw [hkl, List.take_length] at this
        simp [chk, hbig, this]

set_option maxHeartbeats 2000000 in
theorem rcheck_any (B : Nat) (A : Option Addr) (c : Nat) (L : List T3) (w : World) (hA : At B w A (t3s L)) (hB : B ≤ w.heap.size) (hl : L.length ≤ 9000000000000000000) :
    Calls Try.prog 52 #[.slice A L.length c] w fun e w' => e = .returned (.int .i64 (chk L)) ∧ Below w.heap.size w w' := by
  by_cases hbig : 1024 < L.length
  · rw [show chk L = 4 by simp [chk, hbig]]
    have hb : (1024 : Int) < (L.length : Int) := by omega
    go_enter Try.func52, Try.ntmps52
    go_wp2
    go_ret
    exact ⟨rfl, (by repeat (first | exact Below.refl _ _ | with_reducible refine Below.alloc ?_ (by first | (simp; done) | (simp; omega) | omega) _ | with_reducible refine Below.setCell ?_ (by first | (simp; done) | (simp; omega) | omega) _ | with_reducible refine Below.drew ?_ | with_reducible refine Below.trans ?_ (Below.mono (by assumption) (by first | (simp; done) | (simp; omega) | omega))))⟩
  · have hb : (L.length : Int) ≤ 1024 := by omega
    go_enter Try.func52, Try.ntmps52
    go_wp2
    go_loopw [3] (fun i wr => ∃ k : Nat, k ≤ L.length ∧ i = .int .i64 k ∧ Hid (allT (L.take k) = true) ∧ Below w.heap.size w wr) (fun i _ => L.length - (intOf i).toNat)
    case atStart => exact ⟨0, by omega, rfl, Go.Lib.hid rfl, Below.refl _ _⟩
    case round =>
      obtain ⟨k, hk, rfl, HP, hbr⟩ := hrel
      have hsr := hbr.size
      by_cases hlt : k < L.length
      · have hli : (k : Int) < (L.length : Int) := by omega
        obtain ⟨g, o, rfl, hg, c0, c1, c2⟩ := (hA.below (hbr.mono hB)).t3 hlt
        have hsu := allT_take L k hlt
        have hno := fun h => allT_no (L := L) hlt h
        generalize L[k] = t at *
        have HS := Go.Lib.hid hsu
        have HN := Go.Lib.hid hno
        clear hsu hno
        cases hm : mayT t
        all_goals
          have HM := Go.Lib.hid hm
          clear hm
          go_wp2_with fail
          refine (may_is HM.out _).mono ?_
          rintro e w2 ⟨rfl, hb2⟩
          go_wp2
          first
            | (go_roundw
               case rel => exact ⟨k + 1, by omega, by go_num, Go.Lib.hid (by rw [HS.out, HP.out, HM.out]; rfl), hbr.trans (hb2.mono hsr)⟩
               case measure => simp [intOf]; omega)
            | (go_ret
               refine ⟨ret_int ?_, hbr.trans (hb2.mono hsr)⟩
               simp [chk, hbig, HN.out HM.out])
      · have hlt' : ¬ ((k : Int) < (L.length : Int)) := by omega
        have hkl : k = L.length := by omega
        go_wp2
        go_ret
        refine ⟨ret_int ?_, hbr⟩
        have := HP.out
        rw [hkl, List.take_length] at this
        simp [chk, hbig, this]
end Go.Proofs.Ythannibclhidcaa
