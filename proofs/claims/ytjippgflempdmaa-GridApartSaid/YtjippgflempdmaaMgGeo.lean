/- Layer 1 in plain Lean: rectangles by their four numbers. No Go in sight. -/
import Derived.WalkKit
import Derived.Test.YtjippgflempdmaaProg
import Derived.Test.YtjippgflempdmaaBase
import Derived.Lib.Hide
import Derived.LoopN
import Derived.Test.YtjippgflempdmaaBaseAlloc
namespace Go.Proofs.Ytjippgflempdmaa.Geo
set_option linter.unusedVariables false
set_option linter.unusedSimpArgs false
set_option maxRecDepth 100000
open Go.RowKit

structure Rc where
  x : Int
  y : Int
  w : Int
  h : Int
deriving DecidableEq

def zero : Rc := ⟨0, 0, 0, 0⟩
def within (n : Int) : Bool := decide (-16384 ≤ n) && decide (n ≤ 16384)
def side (n : Int) : Bool := decide (0 ≤ n) && decide (n ≤ 32768)
def may (r : Rc) : Bool := within r.x && within r.y && side r.w && side r.h && decide (r.x + r.w ≤ 16384) && decide (r.y + r.h ≤ 16384)
def checkE (r : Rc) : Int := if may r then 0 else 5
def empty (r : Rc) : Bool := !may r || r.w == 0 || r.h == 0
def area (r : Rc) : Int := if empty r then 0 else r.w * r.h
def has (r : Rc) (p q : Int) : Bool := !empty r && decide (r.x ≤ p) && decide (p < r.x + r.w) && decide (r.y ≤ q) && decide (q < r.y + r.h)
def fromR (x y r b : Int) : Rc := if r ≤ x ∨ b ≤ y then zero else ⟨x, y, wrap64 (r - x), wrap64 (b - y)⟩
def makeOk (a b c d : Int) : Bool := within a && within b && within c && within d
def makeR (a b c d : Int) : Rc := if makeOk a b c d then fromR (min a c) (min b d) (max a c) (max b d) else zero
def makeE (a b c d : Int) : Int := if makeOk a b c d then 0 else 2
def meet (p q : Rc) : Rc := if empty p || empty q then zero else fromR (max p.x q.x) (max p.y q.y) (min (p.x + p.w) (q.x + q.w)) (min (p.y + p.h) (q.y + q.h))
def join (p q : Rc) : Rc := if empty p then (if empty q then zero else q) else if empty q then p else fromR (min p.x q.x) (min p.y q.y) (max (p.x + p.w) (q.x + q.w)) (max (p.y + p.h) (q.y + q.h))
def inR (p q : Rc) : Bool := empty p || decide (meet p q = p)
def over (p q : Rc) : Bool := !decide (meet p q = zero)
def fitR (r : Rc) : Rc := if may r then r else zero
def fitE (r : Rc) : Int := if may r then 0 else 9
def insetIn (r : Rc) (by_ : Int) : Rc := fromR (r.x + by_) (r.y + by_) (r.x + r.w - by_) (r.y + r.h - by_)
def insetR (r : Rc) (by_ : Int) : Rc := if !may r then zero else if !within by_ then zero else if empty r then zero else fitR (insetIn r by_)
def insetE (r : Rc) (by_ : Int) : Int := if !may r then 5 else if !within by_ then 2 else if empty r then 0 else fitE (insetIn r by_)
def far (p q : Int) : Bool := decide (min p q < -32768) || decide (32768 < max p q)
def movedR (r : Rc) (p q : Int) : Rc := if !may r then zero else if empty r then zero else if far p q then zero else fitR ⟨r.x + p, r.y + q, r.w, r.h⟩
def movedE (r : Rc) (p q : Int) : Int := if !may r then 5 else if empty r then 0 else if far p q then 9 else fitE ⟨r.x + p, r.y + q, r.w, r.h⟩
def begin_ (a room len way : Int) : Int := if way = 1 then a + (room - len) / 2 else if way = 2 then a + room - len else a
def alignIn (r : Rc) (a b x y : Int) : Rc := ⟨begin_ r.x r.w a x, begin_ r.y r.h b y, a, b⟩
def alignBad (a b x y : Int) : Bool := !side a || !side b || decide (2 < x) || decide (2 < y)
def alignR (r : Rc) (a b x y : Int) : Rc := if !may r then zero else if alignBad a b x y then zero else if a == 0 || b == 0 then zero else fitR (alignIn r a b x y)
def alignE (r : Rc) (a b x y : Int) : Int := if !may r then 5 else if alignBad a b x y then 2 else if a == 0 || b == 0 then 0 else fitE (alignIn r a b x y)
def pieces (p m : Rc) : List Rc := [fromR p.x p.y (p.x + p.w) m.y, fromR p.x m.y m.x (m.y + m.h), fromR (m.x + m.w) m.y (p.x + p.w) (m.y + m.h), fromR p.x (m.y + m.h) (p.x + p.w) (p.y + p.h)]
def lessE (p q : Rc) : Int := if may p && may q then 0 else 5
def lessL (p q : Rc) : List Rc := if !(may p && may q) then [] else if empty p then [] else if meet p q = zero then [p] else (pieces p (meet p q)).filter fun r => !decide (r = zero)

def rcEq (x y a b p q c d : Int) : Bool := decide (x = p) && (decide (y = q) && (decide (a = c) && decide (b = d)))
theorem rcEq_self (x y a b : Int) : rcEq x y a b x y a b = true := by simp [rcEq]
theorem rcEq_iff (r s : Rc) : rcEq r.x r.y r.w r.h s.x s.y s.w s.h = decide (r = s) := by
  cases r
  cases s
  simp [rcEq, Bool.decide_and]
theorem rcEq_iff' (r : Rc) (x y a b : Int) : rcEq r.x r.y r.w r.h x y a b = decide (r = ⟨x, y, a, b⟩) := rcEq_iff r ⟨x, y, a, b⟩
theorem within_iff (n : Int) : within n = true ↔ -16384 ≤ n ∧ n ≤ 16384 := by simp [within]
theorem side_iff (n : Int) : side n = true ↔ 0 ≤ n ∧ n ≤ 32768 := by simp [side]
theorem may_iff (x y a b : Int) : may ⟨x, y, a, b⟩ = true ↔ (-16384 ≤ x ∧ x ≤ 16384) ∧ (-16384 ≤ y ∧ y ≤ 16384) ∧ (0 ≤ a ∧ a ≤ 32768) ∧ (0 ≤ b ∧ b ≤ 32768) ∧ x + a ≤ 16384 ∧ y + b ≤ 16384 := by
  simp [may, within, side, and_assoc]
theorem empty_iff (x y a b : Int) : empty ⟨x, y, a, b⟩ = false ↔ (-16384 ≤ x ∧ x ≤ 16384) ∧ (-16384 ≤ y ∧ y ≤ 16384) ∧ (1 ≤ a ∧ a ≤ 32768) ∧ (1 ≤ b ∧ b ≤ 32768) ∧ x + a ≤ 16384 ∧ y + b ≤ 16384 := by
  simp [empty, may_iff]
  omega
theorem empty_may {r : Rc} (h : empty r = false) : may r = true := by
  revert h
  simp [empty]
  intro h _ _
  exact h
theorem may_check {r : Rc} : may r = true ↔ checkE r = 0 := by
  unfold checkE
  split <;> simp_all
theorem mul_bd {a b : Int} (ha : 0 ≤ a ∧ a ≤ 32768) (hb : 0 ≤ b ∧ b ≤ 32768) : 0 ≤ a * b ∧ a * b ≤ 1073741824 := by
  refine ⟨Int.mul_nonneg ha.1 hb.1, ?_⟩
  have := Int.mul_le_mul ha.2 hb.2 hb.1 (by omega)
  omega
theorem max_fold (a b : Int) : (if a < b then b else a) = max a b := by omega
theorem min_fold (a b : Int) : (if b < a then b else a) = min a b := by omega

theorem check_close {x y a b t : Int} (h1 : within x = true) (h2 : within y = true) (h3 : side a = true) (h4 : side b = true) (ht : t = max (wrap64 (x + a)) (wrap64 (y + b))) : (t ≤ 16384 → checkE ⟨x, y, a, b⟩ = 0) ∧ (16384 < t → checkE ⟨x, y, a, b⟩ = 5) := by
  have b1 := (within_iff x).1 h1
  have b2 := (within_iff y).1 h2
  have b3 := (side_iff a).1 h3
  have b4 := (side_iff b).1 h4
  have e1 : wrap64 (x + a) = x + a := IntWalk.wrap64_in _ (by omega)
  have e2 : wrap64 (y + b) = y + b := IntWalk.wrap64_in _ (by omega)
  rw [e1, e2] at ht
  simp only [checkE, may, h1, h2, h3, h4, Bool.true_and, Bool.and_eq_true, decide_eq_true_eq]
  constructor <;> intro h <;> simp only [ite_eq_left_iff, ite_eq_right_iff] <;> omega
end Go.Proofs.Ytjippgflempdmaa.Geo

/- Layer 1: what the program's leaves and the reference's leaves compute. -/
namespace Go.Proofs.Ytjippgflempdmaa.Geo
set_option linter.unusedVariables false
set_option linter.unusedSimpArgs false
set_option maxRecDepth 100000
open Go.RowKit
attribute [local go_sem] max_fold min_fold

section
variable (w : World) (x y a b p q c d : Int)
theorem run_eql_rect : (binOp .eql 42 (.agg #[.int .i64 x, .int .i64 y, .int .i64 a, .int .i64 b]) (.agg #[.int .i64 p, .int .i64 q, .int .i64 c, .int .i64 d])).run Try.prog w = .ok (.bool (rcEq x y a b p q c d)) w := by
  unfold rcEq
  by_cases h1 : x = p <;> by_cases h2 : y = q <;> by_cases h3 : a = c <;> by_cases h4 : b = d <;> simp [go_sem, h1, h2, h3, h4]
theorem run_neq_rect : (binOp .neq 42 (.agg #[.int .i64 x, .int .i64 y, .int .i64 a, .int .i64 b]) (.agg #[.int .i64 p, .int .i64 q, .int .i64 c, .int .i64 d])).run Try.prog w = .ok (.bool (!rcEq x y a b p q c d)) w := by
  unfold rcEq
  by_cases h1 : x = p <;> by_cases h2 : y = q <;> by_cases h3 : a = c <;> by_cases h4 : b = d <;> simp [go_sem, h1, h2, h3, h4]
end
attribute [go_sem 2000] run_eql_rect run_neq_rect
attribute [go_sem] rcEq_self

theorem mixed : Try.prog.follows .mixedOrders = true := by kernel_rfl

set_option maxHeartbeats 400000 in
theorem within_any (n : Int) (w : World) : Calls Try.prog 59 #[.int .i64 n] w fun e w' => e = .returned (.bool (within n)) ∧ w = w' := by
  go_enter Try.func59, Try.ntmps59
  go_wp2
  all_goals
    go_ret
    exact ⟨ret_bool (by unfold within; first | (simp; omega) | simp [*]), rfl⟩
set_option maxHeartbeats 400000 in
theorem side_any (n : Int) (w : World) : Calls Try.prog 60 #[.int .i64 n] w fun e w' => e = .returned (.bool (side n)) ∧ w = w' := by
  go_enter Try.func60, Try.ntmps60
  go_wp2
  all_goals
    go_ret
    exact ⟨ret_bool (by unfold side; first | (simp; omega) | simp [*]), rfl⟩
set_option maxHeartbeats 400000 in
theorem rwithin_any (n : Int) (w : World) : Calls Try.prog 91 #[.int .i64 n] w fun e w' => e = .returned (.bool (within n)) ∧ w = w' := by
  go_enter Try.func91, Try.ntmps91
  go_wp2
  all_goals
    go_ret
    exact ⟨ret_bool (by unfold within; first | (simp; omega) | simp [*]), rfl⟩
set_option maxHeartbeats 400000 in
theorem rside_any (n : Int) (w : World) : Calls Try.prog 92 #[.int .i64 n] w fun e w' => e = .returned (.bool (side n)) ∧ w = w' := by
  go_enter Try.func92, Try.ntmps92
  go_wp2
  all_goals
    go_ret
    exact ⟨ret_bool (by unfold side; first | (simp; omega) | simp [*]), rfl⟩

set_option maxHeartbeats 400000 in
theorem check_any (x y a b : Int) (w : World) :
    Calls Try.prog 29 #[.agg #[.int .i64 x, .int .i64 y, .int .i64 a, .int .i64 b]] w fun e w' => e = .returned (.int .i64 (checkE ⟨x, y, a, b⟩)) ∧ Below w.heap.size w w' := by
  go_enter Try.func29, Try.ntmps29
  go_wp2_with (first | (go_at_call 59; refine (within_any _ _).mono ?_; rintro e w' ⟨rfl, rfl⟩) | (go_at_call 60; refine (side_any _ _).mono ?_; rintro e w' ⟨rfl, rfl⟩))
  all_goals
    go_ret
    refine ⟨ret_int ?_, (by repeat (first | exact Below.refl _ _ | with_reducible refine Below.alloc ?_ (by first | (simp; done) | (simp; omega) | omega) _ | with_reducible refine Below.setCell ?_ (by first | (simp; done) | (simp; omega) | omega) _ | with_reducible refine Below.drew ?_ | with_reducible refine Below.trans ?_ (Below.mono (by assumption) (by first | (simp; done) | (simp; omega) | omega))))⟩
    first | exact ((check_close (by assumption) (by assumption) (by assumption) (by assumption) rfl).1 (by assumption)).symm | exact ((check_close (by assumption) (by assumption) (by assumption) (by assumption) rfl).2 (by assumption)).symm | (simp [checkE, may, *]; done)

set_option maxHeartbeats 400000 in
theorem ends_any (x y a b : Int) (w : World) :
    Calls Try.prog 78 #[.agg #[.int .i64 x, .int .i64 y, .int .i64 a, .int .i64 b]] w fun e w' => e = .returned (.tuple #[.int .i64 (wrap64 (x + a)), .int .i64 (wrap64 (y + b))]) ∧ Below w.heap.size w w' := by
  go_enter Try.func78, Try.ntmps78
  go_wp2
  refine region_ext mixed (by kernel_rfl) ?_
  repeat (go_big_quiet_step (fail))
  refine wpQuiet_nil ?_
  intro w1 hb1
  go_wp2
  go_ret2
  exact ⟨rfl, (by repeat (first | exact Below.refl _ _ | with_reducible refine Below.alloc ?_ (by first | (simp; done) | (simp; omega) | omega) _ | with_reducible refine Below.setCell ?_ (by first | (simp; done) | (simp; omega) | omega) _ | with_reducible refine Below.drew ?_ | with_reducible refine Below.trans ?_ (Below.mono (by assumption) (by first | (simp; done) | (simp; omega) | omega))))⟩
theorem ends_in (x y a b : Int) (w : World) (h1 : -9000000000000000000 ≤ x + a ∧ x + a ≤ 9000000000000000000) (h2 : -9000000000000000000 ≤ y + b ∧ y + b ≤ 9000000000000000000) :
    Calls Try.prog 78 #[.agg #[.int .i64 x, .int .i64 y, .int .i64 a, .int .i64 b]] w fun e w' => e = .returned (.tuple #[.int .i64 (x + a), .int .i64 (y + b)]) ∧ Below w.heap.size w w' :=
  (ends_any x y a b w).mono fun _ _ ⟨he, hb⟩ => ⟨by rw [he, IntWalk.wrap64_in _ (by omega), IntWalk.wrap64_in _ (by omega)], hb⟩

set_option maxHeartbeats 400000 in
theorem from_any (x y r b : Int) (w : World) :
    Calls Try.prog 79 #[.int .i64 x, .int .i64 y, .int .i64 r, .int .i64 b] w fun e w' => e = .returned (.agg #[.int .i64 (fromR x y r b).x, .int .i64 (fromR x y r b).y, .int .i64 (fromR x y r b).w, .int .i64 (fromR x y r b).h]) ∧ Below w.heap.size w w' := by
  by_cases h : r ≤ x ∨ b ≤ y
  · rw [show fromR x y r b = ⟨0, 0, 0, 0⟩ from if_pos h]
    by_cases h1 : r ≤ x
    · go_enter Try.func79, Try.ntmps79
      go_wp2
      exact bodyPost_ret (v := .agg #[.int .i64 0, .int .i64 0, .int .i64 0, .int .i64 0]) (by simp [results, Try.results79, go_sem]) rfl ⟨rfl, (by repeat (first | exact Below.refl _ _ | with_reducible refine Below.alloc ?_ (by first | (simp; done) | (simp; omega) | omega) _ | with_reducible refine Below.setCell ?_ (by first | (simp; done) | (simp; omega) | omega) _ | with_reducible refine Below.drew ?_ | with_reducible refine Below.trans ?_ (Below.mono (by assumption) (by first | (simp; done) | (simp; omega) | omega))))⟩
    · have h2 : b ≤ y := by omega
      go_enter Try.func79, Try.ntmps79
      go_wp2
      exact bodyPost_ret (v := .agg #[.int .i64 0, .int .i64 0, .int .i64 0, .int .i64 0]) (by simp [results, Try.results79, go_sem]) rfl ⟨rfl, (by repeat (first | exact Below.refl _ _ | with_reducible refine Below.alloc ?_ (by first | (simp; done) | (simp; omega) | omega) _ | with_reducible refine Below.setCell ?_ (by first | (simp; done) | (simp; omega) | omega) _ | with_reducible refine Below.drew ?_ | with_reducible refine Below.trans ?_ (Below.mono (by assumption) (by first | (simp; done) | (simp; omega) | omega))))⟩
  · rw [show fromR x y r b = ⟨x, y, wrap64 (r - x), wrap64 (b - y)⟩ from if_neg h]
    have h1 : x < r := by omega
    have h2 : y < b := by omega
    clear h
    go_enter Try.func79, Try.ntmps79
    go_wp2
    exact bodyPost_ret (v := .agg #[.int .i64 x, .int .i64 y, .int .i64 (wrap64 (r - x)), .int .i64 (wrap64 (b - y))]) (by simp [results, Try.results79, go_sem]) rfl ⟨rfl, (by repeat (first | exact Below.refl _ _ | with_reducible refine Below.alloc ?_ (by first | (simp; done) | (simp; omega) | omega) _ | with_reducible refine Below.setCell ?_ (by first | (simp; done) | (simp; omega) | omega) _ | with_reducible refine Below.drew ?_ | with_reducible refine Below.trans ?_ (Below.mono (by assumption) (by first | (simp; done) | (simp; omega) | omega))))⟩

theorem area_eq {x y a b : Int} (h : may ⟨x, y, a, b⟩ = true) : area ⟨x, y, a, b⟩ = wrap64 (a * b) := by
  have hm := (may_iff x y a b).1 h
  have := mul_bd hm.2.2.1 hm.2.2.2.1
  rw [IntWalk.wrap64_in _ (by omega)]
  unfold area
  split
  · rename_i he
    simp [empty, h] at he
    rcases he with he | he <;> simp [he]
  · rfl
theorem area_no {x y a b : Int} (h : may ⟨x, y, a, b⟩ = false) : area ⟨x, y, a, b⟩ = 0 := by simp [area, empty, h]
theorem chk_t {r : Rc} (h : (checkE r != 0) = true) : may r = false := by
  unfold checkE at h
  cases hm : may r <;> simp_all
theorem chk_f {r : Rc} (h : (checkE r != 0) = false) : may r = true := by
  unfold checkE at h
  cases hm : may r <;> simp_all
theorem area_zero {r : Rc} : (area r == 0) = empty r := by
  unfold area
  split
  · simp_all
  · rename_i h
    have he : empty r = false := by simpa using h
    have h2 := (empty_iff r.x r.y r.w r.h).1 he
    rw [he]
    have := Int.mul_pos (a := r.w) (b := r.h) (by omega) (by omega)
    simp
    omega

set_option maxHeartbeats 400000 in
theorem area_any (x y a b : Int) (w : World) :
    Calls Try.prog 93 #[.agg #[.int .i64 x, .int .i64 y, .int .i64 a, .int .i64 b]] w fun e w' => e = .returned (.int .i64 (area ⟨x, y, a, b⟩)) ∧ Below w.heap.size w w' := by
  go_enter Try.func93, Try.ntmps93
  go_wp2_with (first | (go_at_call 29; refine (check_any _ _ _ _ _).mono ?_; rintro e w1 ⟨rfl, hb⟩; (first | (have hP1 := hP.trans (hb.mono hP.size); clear hP hb hc hf z0; have hP := hP1; clear hP1) | (have hP := hb; clear hb)); obtain ⟨hc, hf⟩ := bcell hP; have z0 : w.heap.size < w1.heap.size := (by have hz := hP.size; (try simp at hz); omega)))
  all_goals
    go_ret
    exact ⟨ret_int (by first | rw [area_no (chk_t (by assumption))] | rw [area_eq (chk_f (by assumption))]), (by repeat (first | exact Below.refl _ _ | with_reducible refine Below.alloc ?_ (by first | (simp; done) | (simp; omega) | omega) _ | with_reducible refine Below.setCell ?_ (by first | (simp; done) | (simp; omega) | omega) _ | with_reducible refine Below.drew ?_ | with_reducible refine Below.trans ?_ (Below.mono (by assumption) (by first | (simp; done) | (simp; omega) | omega))))⟩

set_option maxHeartbeats 400000 in
theorem empty_any (x y a b : Int) (w : World) :
    Calls Try.prog 77 #[.agg #[.int .i64 x, .int .i64 y, .int .i64 a, .int .i64 b]] w fun e w' => e = .returned (.bool (empty ⟨x, y, a, b⟩)) ∧ Below w.heap.size w w' := by
  go_enter Try.func77, Try.ntmps77
  go_wp2_with (first | (go_at_call 93; refine (area_any _ _ _ _ _).mono ?_; rintro e w1 ⟨rfl, hb⟩; (first | (have hP1 := hP.trans (hb.mono hP.size); clear hP hb hc hf z0; have hP := hP1; clear hP1) | (have hP := hb; clear hb)); obtain ⟨hc, hf⟩ := bcell hP; have z0 : w.heap.size < w1.heap.size := (by have hz := hP.size; (try simp at hz); omega)))
  go_ret
  exact ⟨ret_bool area_zero, (by repeat (first | exact Below.refl _ _ | with_reducible refine Below.alloc ?_ (by first | (simp; done) | (simp; omega) | omega) _ | with_reducible refine Below.setCell ?_ (by first | (simp; done) | (simp; omega) | omega) _ | with_reducible refine Below.drew ?_ | with_reducible refine Below.trans ?_ (Below.mono (by assumption) (by first | (simp; done) | (simp; omega) | omega))))⟩

theorem empty_is {x y a b : Int} {v : Bool} (h : empty ⟨x, y, a, b⟩ = v) (w : World) :
    Calls Try.prog 77 #[.agg #[.int .i64 x, .int .i64 y, .int .i64 a, .int .i64 b]] w fun e w' => e = .returned (.bool v) ∧ Below w.heap.size w w' := h ▸ empty_any x y a b w

set_option maxHeartbeats 400000 in
theorem meet_any (x y a b p q c d : Int) (w : World) :
    Calls Try.prog 61 #[.agg #[.int .i64 x, .int .i64 y, .int .i64 a, .int .i64 b], .agg #[.int .i64 p, .int .i64 q, .int .i64 c, .int .i64 d]] w fun e w' =>
      e = .returned (.agg #[.int .i64 (meet ⟨x, y, a, b⟩ ⟨p, q, c, d⟩).x, .int .i64 (meet ⟨x, y, a, b⟩ ⟨p, q, c, d⟩).y, .int .i64 (meet ⟨x, y, a, b⟩ ⟨p, q, c, d⟩).w, .int .i64 (meet ⟨x, y, a, b⟩ ⟨p, q, c, d⟩).h]) ∧ Below w.heap.size w w' := by
  by_cases h : empty ⟨x, y, a, b⟩ = true
  · rw [show meet ⟨x, y, a, b⟩ ⟨p, q, c, d⟩ = ⟨0, 0, 0, 0⟩ by simp [meet, h, zero]]
    go_enter Try.func61, Try.ntmps61
    go_wp2_with (first | (go_at_call 77; refine (empty_any _ _ _ _ _).mono ?_; rintro e w1 ⟨rfl, hb⟩; (first | (have hP1 := hP.trans (hb.mono hP.size); clear hP hb hc hf z0 z1 z2; have hP := hP1; clear hP1) | (have hP := hb; clear hb)); obtain ⟨hc, hf⟩ := bcell hP; have z0 : w.heap.size < w1.heap.size := (by have hz := hP.size; (try simp at hz); omega); have z1 : w.heap.size + 1 < w1.heap.size := (by have hz := hP.size; (try simp at hz); omega); have z2 : w.heap.size + 2 < w1.heap.size := (by have hz := hP.size; (try simp at hz); omega)))
    exact bodyPost_ret (by simp [results, Try.results61, go_sem, *]) rfl ⟨rfl, (by repeat (first | exact Below.refl _ _ | with_reducible refine Below.alloc ?_ (by first | (simp; done) | (simp; omega) | omega) _ | with_reducible refine Below.setCell ?_ (by first | (simp; done) | (simp; omega) | omega) _ | with_reducible refine Below.drew ?_ | with_reducible refine Below.trans ?_ (Below.mono (by assumption) (by first | (simp; done) | (simp; omega) | omega))))⟩
  · have h1 : empty ⟨x, y, a, b⟩ = false := by simpa using h
    clear h
    by_cases h : empty ⟨p, q, c, d⟩ = true
    · rw [show meet ⟨x, y, a, b⟩ ⟨p, q, c, d⟩ = ⟨0, 0, 0, 0⟩ by simp [meet, h, zero]]
      go_enter Try.func61, Try.ntmps61
      go_wp2_with (first | (go_at_call 77; refine (empty_any _ _ _ _ _).mono ?_; rintro e w1 ⟨rfl, hb⟩; (first | (have hP1 := hP.trans (hb.mono hP.size); clear hP hb hc hf z0 z1 z2; have hP := hP1; clear hP1) | (have hP := hb; clear hb)); obtain ⟨hc, hf⟩ := bcell hP; have z0 : w.heap.size < w1.heap.size := (by have hz := hP.size; (try simp at hz); omega); have z1 : w.heap.size + 1 < w1.heap.size := (by have hz := hP.size; (try simp at hz); omega); have z2 : w.heap.size + 2 < w1.heap.size := (by have hz := hP.size; (try simp at hz); omega)))
      exact bodyPost_ret (by simp [results, Try.results61, go_sem, *]) rfl ⟨rfl, (by repeat (first | exact Below.refl _ _ | with_reducible refine Below.alloc ?_ (by first | (simp; done) | (simp; omega) | omega) _ | with_reducible refine Below.setCell ?_ (by first | (simp; done) | (simp; omega) | omega) _ | with_reducible refine Below.drew ?_ | with_reducible refine Below.trans ?_ (Below.mono (by assumption) (by first | (simp; done) | (simp; omega) | omega))))⟩
    · have h2 : empty ⟨p, q, c, d⟩ = false := by simpa using h
      have hb1 := (empty_iff x y a b).1 h1
      have hb2 := (empty_iff p q c d).1 h2
      clear h
      rw [show meet ⟨x, y, a, b⟩ ⟨p, q, c, d⟩ = fromR (max x p) (max y q) (min (x + a) (p + c)) (min (y + b) (q + d)) by simp [meet, h1, h2]]
      go_enter Try.func61, Try.ntmps61
      go_wp2_with (first | (go_at_call 77; refine (empty_any _ _ _ _ _).mono ?_; rintro e w1 ⟨rfl, hb⟩; (first | (have hP1 := hP.trans (hb.mono hP.size); clear hP hb hc hf z0 z1 z2; have hP := hP1; clear hP1) | (have hP := hb; clear hb)); obtain ⟨hc, hf⟩ := bcell hP; have z0 : w.heap.size < w1.heap.size := (by have hz := hP.size; (try simp at hz); omega); have z1 : w.heap.size + 1 < w1.heap.size := (by have hz := hP.size; (try simp at hz); omega); have z2 : w.heap.size + 2 < w1.heap.size := (by have hz := hP.size; (try simp at hz); omega)) | (go_at_call 78; refine (ends_in _ _ _ _ _ (by omega) (by omega)).mono ?_; rintro e w1 ⟨rfl, hb⟩; (first | (have hP1 := hP.trans (hb.mono hP.size); clear hP hb hc hf z0 z1 z2; have hP := hP1; clear hP1) | (have hP := hb; clear hb)); obtain ⟨hc, hf⟩ := bcell hP; have z0 : w.heap.size < w1.heap.size := (by have hz := hP.size; (try simp at hz); omega); have z1 : w.heap.size + 1 < w1.heap.size := (by have hz := hP.size; (try simp at hz); omega); have z2 : w.heap.size + 2 < w1.heap.size := (by have hz := hP.size; (try simp at hz); omega)) | (go_at_call 79; refine (from_any _ _ _ _ _).mono ?_; rintro e w1 ⟨rfl, hb⟩; (first | (have hP1 := hP.trans (hb.mono hP.size); clear hP hb hc hf z0 z1 z2; have hP := hP1; clear hP1) | (have hP := hb; clear hb)); obtain ⟨hc, hf⟩ := bcell hP; have z0 : w.heap.size < w1.heap.size := (by have hz := hP.size; (try simp at hz); omega); have z1 : w.heap.size + 1 < w1.heap.size := (by have hz := hP.size; (try simp at hz); omega); have z2 : w.heap.size + 2 < w1.heap.size := (by have hz := hP.size; (try simp at hz); omega)))
      exact bodyPost_ret (by simp [results, Try.results61, go_sem, *]) rfl ⟨rfl, (by repeat (first | exact Below.refl _ _ | with_reducible refine Below.alloc ?_ (by first | (simp; done) | (simp; omega) | omega) _ | with_reducible refine Below.setCell ?_ (by first | (simp; done) | (simp; omega) | omega) _ | with_reducible refine Below.drew ?_ | with_reducible refine Below.trans ?_ (Below.mono (by assumption) (by first | (simp; done) | (simp; omega) | omega))))⟩

end Go.Proofs.Ytjippgflempdmaa.Geo

/- Layer 1: Go's functions over rectangles, by those of GeomA. -/
namespace Go.Proofs.Ytjippgflempdmaa.Geo
set_option linter.unusedVariables false
set_option linter.unusedSimpArgs false
set_option maxRecDepth 100000
open Go.RowKit
attribute [local go_sem] max_fold min_fold

theorem rc_eq (r : Rc) (x y a b : Int) : r = ⟨x, y, a, b⟩ ↔ r.x = x ∧ r.y = y ∧ r.w = a ∧ r.h = b := by
  cases r
  simp
set_option maxHeartbeats 400000 in
theorem over_any (x y a b p q c d : Int) (w : World) :
    Calls Try.prog 30 #[.agg #[.int .i64 x, .int .i64 y, .int .i64 a, .int .i64 b], .agg #[.int .i64 p, .int .i64 q, .int .i64 c, .int .i64 d]] w fun e w' => e = .returned (.bool (over ⟨x, y, a, b⟩ ⟨p, q, c, d⟩)) ∧ Below w.heap.size w w' := by
  go_enter Try.func30, Try.ntmps30
  go_wp2_with (first | (go_at_call 61; refine (meet_any _ _ _ _ _ _ _ _ _).mono ?_; rintro e w1 ⟨rfl, hb⟩; (first | (have hP1 := hP.trans (hb.mono hP.size); clear hP hb hc hf z0 z1; have hP := hP1; clear hP1) | (have hP := hb; clear hb)); obtain ⟨hc, hf⟩ := bcell hP; have z0 : w.heap.size < w1.heap.size := (by have hz := hP.size; (try simp at hz); omega); have z1 : w.heap.size + 1 < w1.heap.size := (by have hz := hP.size; (try simp at hz); omega)))
  go_ret
  exact ⟨ret_bool (by rw [rcEq_iff']; rfl), (by repeat (first | exact Below.refl _ _ | with_reducible refine Below.alloc ?_ (by first | (simp; done) | (simp; omega) | omega) _ | with_reducible refine Below.setCell ?_ (by first | (simp; done) | (simp; omega) | omega) _ | with_reducible refine Below.drew ?_ | with_reducible refine Below.trans ?_ (Below.mono (by assumption) (by first | (simp; done) | (simp; omega) | omega))))⟩

end Go.Proofs.Ytjippgflempdmaa.Geo

/- Layer 1: the reference's functions (casementref01), by the same plain functions. -/
namespace Go.Proofs.Ytjippgflempdmaa.Geo
set_option linter.unusedVariables false
set_option linter.unusedSimpArgs false
set_option maxRecDepth 100000
open Go.RowKit
attribute [local go_sem] max_fold min_fold

def span (a n : Int) : Bool := within a && side n && decide (a + n ≤ 16384)
theorem may_span (x y a b : Int) : may ⟨x, y, a, b⟩ = (span x a && span y b) := by
  unfold may span
  cases within x <;> cases within y <;> cases side a <;> cases side b <;> simp
theorem span_bd {a n : Int} (h : span a n = true) : (-16384 ≤ a ∧ a ≤ 16384) ∧ (0 ≤ n ∧ n ≤ 32768) ∧ a + n ≤ 16384 := by
  simpa [span, within_iff, side_iff, and_assoc] using h

set_option maxHeartbeats 400000 in
theorem rspan_any (a n : Int) (w : World) : Calls Try.prog 76 #[.int .i64 a, .int .i64 n] w fun e w' => e = .returned (.bool (span a n)) ∧ w = w' := by
  cases h1 : within a
  · go_enter Try.func76, Try.ntmps76
    go_wp2_with (first | (go_at_call 91; refine (rwithin_any _ _).mono ?_; rintro e w' ⟨rfl, rfl⟩) | (go_at_call 92; refine (rside_any _ _).mono ?_; rintro e w' ⟨rfl, rfl⟩))
    go_ret
    exact ⟨ret_bool (by simp [span, h1]), rfl⟩
  · have b1 := (within_iff a).1 h1
    cases h2 : side n
    · go_enter Try.func76, Try.ntmps76
      go_wp2_with (first | (go_at_call 91; refine (rwithin_any _ _).mono ?_; rintro e w' ⟨rfl, rfl⟩) | (go_at_call 92; refine (rside_any _ _).mono ?_; rintro e w' ⟨rfl, rfl⟩))
      go_ret
      exact ⟨ret_bool (by simp [span, h1, h2]), rfl⟩
    · have b2 := (side_iff n).1 h2
      go_enter Try.func76, Try.ntmps76
      go_wp2_with (first | (go_at_call 91; refine (rwithin_any _ _).mono ?_; rintro e w' ⟨rfl, rfl⟩) | (go_at_call 92; refine (rside_any _ _).mono ?_; rintro e w' ⟨rfl, rfl⟩))
      all_goals
        go_ret
        exact ⟨ret_bool (by simp [span, h1, h2]), rfl⟩

set_option maxHeartbeats 400000 in
theorem rmay_any (x y a b : Int) (w : World) :
    Calls Try.prog 58 #[.agg #[.int .i64 x, .int .i64 y, .int .i64 a, .int .i64 b]] w fun e w' => e = .returned (.bool (may ⟨x, y, a, b⟩)) ∧ Below w.heap.size w w' := by
  rw [may_span]
  cases h1 : span x a
  all_goals
    go_enter Try.func58, Try.ntmps58
    go_wp2_with (first | (go_at_call 76; refine (rspan_any _ _ _).mono ?_; rintro e w' ⟨rfl, rfl⟩))
    go_ret
    exact ⟨ret_bool (by simp), (by repeat (first | exact Below.refl _ _ | with_reducible refine Below.alloc ?_ (by first | (simp; done) | (simp; omega) | omega) _ | with_reducible refine Below.setCell ?_ (by first | (simp; done) | (simp; omega) | omega) _ | with_reducible refine Below.drew ?_ | with_reducible refine Below.trans ?_ (Below.mono (by assumption) (by first | (simp; done) | (simp; omega) | omega))))⟩

set_option maxHeartbeats 400000 in
theorem rcheck_any (x y a b : Int) (w : World) :
    Calls Try.prog 55 #[.agg #[.int .i64 x, .int .i64 y, .int .i64 a, .int .i64 b]] w fun e w' => e = .returned (.int .i64 (checkE ⟨x, y, a, b⟩)) ∧ Below w.heap.size w w' := by
  cases h1 : may ⟨x, y, a, b⟩
  all_goals
    go_enter Try.func55, Try.ntmps55
    go_wp2_with (first | (go_at_call 58; refine (rmay_any _ _ _ _ _).mono ?_; rintro e w1 ⟨rfl, hb⟩; (first | (have hP1 := hP.trans (hb.mono hP.size); clear hP hb hc hf z0; have hP := hP1; clear hP1) | (have hP := hb; clear hb)); obtain ⟨hc, hf⟩ := bcell hP; have z0 : w.heap.size < w1.heap.size := (by have hz := hP.size; (try simp at hz); omega)))
    go_ret
    exact ⟨ret_int (by simp [checkE, h1]), (by repeat (first | exact Below.refl _ _ | with_reducible refine Below.alloc ?_ (by first | (simp; done) | (simp; omega) | omega) _ | with_reducible refine Below.setCell ?_ (by first | (simp; done) | (simp; omega) | omega) _ | with_reducible refine Below.drew ?_ | with_reducible refine Below.trans ?_ (Below.mono (by assumption) (by first | (simp; done) | (simp; omega) | omega))))⟩

end Go.Proofs.Ytjippgflempdmaa.Geo

/- Layer 1: the reference's functions over rectangles. -/
namespace Go.Proofs.Ytjippgflempdmaa.Geo
set_option linter.unusedVariables false
set_option linter.unusedSimpArgs false
set_option maxRecDepth 100000
open Go.RowKit
attribute [local go_sem] max_fold min_fold

end Go.Proofs.Ytjippgflempdmaa.Geo

/- Layer 1: Make, Align; the reference's Make, Inset, Moved, Align. -/
namespace Go.Proofs.Ytjippgflempdmaa.Geo
set_option linter.unusedVariables false
set_option linter.unusedSimpArgs false
set_option maxRecDepth 100000
open Go.RowKit
attribute [local go_sem] max_fold min_fold

section
variable (w : World) (v0 v1 v2 v3 u0 u1 u2 u3 s0 s1 s2 s3 t0 t1 t2 t3 : Value)
end


end Go.Proofs.Ytjippgflempdmaa.Geo

/- Layer 1: lists of rectangles in memory; checked, checks. -/
namespace Go.Proofs.Ytjippgflempdmaa.Geo
set_option linter.unusedVariables false
set_option linter.unusedSimpArgs false
set_option maxRecDepth 100000
open Go.RowKit
attribute [local go_sem] max_fold min_fold

def rcells : List Rc → List Value
  | [] => []
  | r :: l => .int .i64 r.x :: .int .i64 r.y :: .int .i64 r.w :: .int .i64 r.h :: rcells l
theorem rcells_append (l m : List Rc) : rcells (l ++ m) = rcells l ++ rcells m := by
  induction l with
  | nil => rfl
  | cons r l ih => simp [rcells, ih]
theorem rcells_len (l : List Rc) : (rcells l).length = l.length * 4 := by
  induction l with
  | nil => rfl
  | cons r l ih => simp [rcells, ih]; omega
theorem rcells_one (l : List Rc) : ∀ v ∈ rcells l, v.oneCell' = true := by
  induction l with
  | nil => intro v h; cases h
  | cons r l ih =>
    intro v h
    simp only [rcells, List.mem_cons] at h
    rcases h with rfl | rfl | rfl | rfl | h
    · rfl
    · rfl
    · rfl
    · rfl
    · exact ih v h
theorem rcells_at (l : List Rc) (k : Nat) (h : k < l.length) : (rcells l)[k * 4]? = some (.int .i64 l[k].x) ∧ (rcells l)[k * 4 + 1]? = some (.int .i64 l[k].y) ∧ (rcells l)[k * 4 + 2]? = some (.int .i64 l[k].w) ∧ (rcells l)[k * 4 + 3]? = some (.int .i64 l[k].h) := by
  induction l generalizing k with
  | nil => simp at h
  | cons r l ih =>
    cases k with
    | zero => simp [rcells]
    | succ k =>
      have := ih k (by simpa using h)
      have e : (k + 1) * 4 = k * 4 + 4 := by omega
      rw [e]
      simpa [rcells] using this

theorem info_rect : (Try.prog.info? 42).map (fun i => (i.zero, i.size, i.bytes)) = some (some (.agg #[.int .i64 0, .int .i64 0, .int .i64 0, .int .i64 0]), 4, 32) := by kernel_rfl

theorem append_rect {ops : Array Oper} {rest : List Oper} {o : Oper} {a : Act} {Q : Exit → Act → World → Prop} {w : World} (hgd : o.guard = none) (s x : Operand)
    (ho : o.op = .call { callee := .builtin .append, args := #[s, x], argTypes := #[36, 36] }) (base : Nat) (v : Value) (l : List Rc) (r : Rc) (g : Nat)
    (hs : a.eval s = v) (hx : a.eval x = .slice (some ⟨g, 0, none⟩) 1 1) (hown : w.ownsRow base 42 4 v l.length (rcells l))
    (h0 : w.cell? ⟨g, 0, none⟩ = some (.int .i64 r.x)) (h1 : w.cell? ⟨g, 1, none⟩ = some (.int .i64 r.y)) (h2 : w.cell? ⟨g, 2, none⟩ = some (.int .i64 r.w)) (h3 : w.cell? ⟨g, 3, none⟩ = some (.int .i64 r.h))
    (hn : l.length ≤ 1000000) (hbase : base ≤ w.heap.size)
    (h : ∀ v' w', w'.ownsRow base 42 4 v' (l ++ [r]).length (rcells (l ++ [r])) → w.grownBy w' v.ownBlock → v' ≠ .slice none 0 0 → wpList Try.prog ops Q rest (a.put o.dst v') w') : wpList Try.prog ops Q (o :: rest) a w := by
  obtain ⟨i0, hi, hz0, hz1, hz2⟩ := info_parts info_rect
  refine wpList_append_own w hgd s x 36 ho base 42 i0 _ 4 32 Try.underlying36 hi hz0 hz1 hz2 rfl (by decide) v l.length (rcells l) hs hown ⟨g, 0, none⟩ 1 1 (rcells [r]) hx rfl (fun j u hj => ?_) (rcells_one _) (by unfold maxLen; omega) (by omega) hbase (fun v' w' h4 h5 h6 => ?_)
  · match j, hj with
    | 0, hj => simp [rcells] at hj; subst hj; simpa [Addr.add] using h0
    | 1, hj => simp [rcells] at hj; subst hj; simpa [Addr.add] using h1
    | 2, hj => simp [rcells] at hj; subst hj; simpa [Addr.add] using h2
    | 3, hj => simp [rcells] at hj; subst hj; simpa [Addr.add] using h3
    | j + 4, hj => simp [rcells] at hj
  · refine h v' w' (by rw [rcells_append, List.length_append]; exact h4) h5 (fun e => ?_)
    have := (h6.1 e).2
    omega

theorem lessE_no1 {p q : Rc} (h : may p = false) : lessE p q = checkE p := by simp [lessE, checkE, h]
theorem lessE_no2 {p q : Rc} (h : may p = true) : lessE p q = checkE q := by
  cases h2 : may q <;> simp [lessE, checkE, h, h2]

end Go.Proofs.Ytjippgflempdmaa.Geo

/- Layer 1: Less: the loop over the four pieces. -/
namespace Go.Proofs.Ytjippgflempdmaa.Geo
set_option linter.unusedVariables false
set_option linter.unusedSimpArgs false
set_option maxRecDepth 100000
open Go.RowKit
attribute [local go_sem] max_fold min_fold

theorem own_shape {w : World} {base : Nat} {e : TypeId} {size n : Nat} {v : Value} {xs : List Value} (h : w.ownsRow base e size v n xs) : ∃ A c, v = .slice A n c := by
  rcases h.2 with ⟨rfl, rfl⟩ | ⟨g, cap, cur, rfl, _⟩
  · exact ⟨none, 0, rfl⟩
  · exact ⟨_, cap, rfl⟩
theorem own_ge {w : World} {base : Nat} {e : TypeId} {size n : Nat} {v : Value} {xs : List Value} (h : w.ownsRow base e size v n xs) : ∀ k, v.ownBlock = some k → base ≤ k := by
  intro k hk
  rcases h.2 with ⟨rfl, _⟩ | ⟨g, cap, cur, rfl, hb, _⟩
  · simp [Value.ownBlock] at hk
  · simp [Value.ownBlock] at hk
    omega
def LessPost (l : List Rc) (err : Int) (W : World) (e : Ending) (w' : World) : Prop := ∃ (A : Option Addr) (c : Nat), e = .returned (.tuple #[.slice A l.length c, .int .i64 err]) ∧ w'.ownsRow W.heap.size 42 4 (.slice A l.length c) l.length (rcells l) ∧ Below W.heap.size W w'
theorem own_new {w : World} {base g : Nat} (r : Rc) (hg : g = w.heap.size) (hb : base ≤ w.heap.size) : (w.alloc (.cells #[.int .i64 r.x, .int .i64 r.y, .int .i64 r.w, .int .i64 r.h] 42)).ownsRow base 42 4 (.slice (some ⟨g, 0, none⟩) 1 1) 1 (rcells [r]) := by
  subst hg
  refine ⟨rfl, .inr ⟨w.heap.size, 1, #[.int .i64 r.x, .int .i64 r.y, .int .i64 r.w, .int .i64 r.h], rfl, hb, ?_, Nat.le_refl _, by unfold maxLen; omega, rfl, rfl⟩⟩
  exact heap_alloc_new w _

def nz (r : Rc) : Bool := !decide (r = zero)
theorem nz_of {r : Rc} {b : Bool} (h : rcEq r.x r.y r.w r.h 0 0 0 0 = b) : nz r = !b := by
  rw [← h, rcEq_iff' r 0 0 0 0]
  rfl
theorem part_le (rs : List Rc) (k : Nat) (h : rs.length = 4) : ((rs.take k).filter nz).length ≤ 4 := by
  have h1 := List.length_filter_le nz (rs.take k)
  have h2 := List.length_take_le k rs
  have : (rs.take k).length ≤ 4 := by rw [List.length_take, h]; omega
  omega
theorem part_succ (rs : List Rc) (k : Nat) (h : k < rs.length) : (rs.take (k + 1)).filter nz = (rs.take k).filter nz ++ if nz rs[k] then [rs[k]] else [] := by
  rw [List.take_succ_eq_append_getElem h, List.filter_append]
  congr 1
  simp [List.filter_cons]

theorem idx_rest {rs : List Rc} {k : Nat} (h : k < rs.length) (hz : rcEq rs[k].x rs[k].y rs[k].w rs[k].h 0 0 0 0 = false) : (rs.take (k + 1)).filter nz = (rs.take k).filter nz ++ [rs[k]] := by
  rw [part_succ rs k h, nz_of hz]
  rfl
theorem idx_drop {rs : List Rc} {k : Nat} (h : k < rs.length) (hz : rcEq rs[k].x rs[k].y rs[k].w rs[k].h 0 0 0 0 = true) : (rs.take (k + 1)).filter nz = (rs.take k).filter nz := by
  rw [part_succ rs k h, nz_of hz]
  simp

end Go.Proofs.Ytjippgflempdmaa.Geo

/- Layer 1: Less whole; SameList. -/
namespace Go.Proofs.Ytjippgflempdmaa.Geo
set_option linter.unusedVariables false
set_option linter.unusedSimpArgs false
set_option maxRecDepth 100000
open Go.RowKit
attribute [local go_sem] max_fold min_fold

theorem meet_full {p q : Rc} (h1 : empty p = false) (h2 : empty q = false) :
    meet p q = if min (p.x + p.w) (q.x + q.w) ≤ max p.x q.x ∨ min (p.y + p.h) (q.y + q.h) ≤ max p.y q.y then zero else ⟨max p.x q.x, max p.y q.y, min (p.x + p.w) (q.x + q.w) - max p.x q.x, min (p.y + p.h) (q.y + q.h) - max p.y q.y⟩ := by
  have a := (empty_iff p.x p.y p.w p.h).1 h1
  have b := (empty_iff q.x q.y q.w q.h).1 h2
  simp only [meet, h1, h2, Bool.or_false, Bool.false_eq_true, if_false, fromR]
  split
  · rfl
  · rw [IntWalk.wrap64_in _ (by omega), IntWalk.wrap64_in _ (by omega)]
theorem meet_ok {p q : Rc} (h : ¬ meet p q = zero) : empty (meet p q) = false ∧ empty p = false ∧ empty q = false := by
  cases h1 : empty p
  · cases h2 : empty q
    · rw [meet_full h1 h2] at h ⊢
      split at h
      · exact absurd rfl h
      · have a := (empty_iff p.x p.y p.w p.h).1 h1
        have b := (empty_iff q.x q.y q.w q.h).1 h2
        rename_i hc
        rw [if_neg hc]
        refine ⟨(empty_iff _ _ _ _).2 ?_, rfl, rfl⟩
        omega
    · simp [meet, h2] at h
  · simp [meet, h1] at h

/-- A slice value over rectangles that read as l. -/
def RowAt (w : World) (A : Option Addr) (l : List Rc) : Prop := 0 < l.length → ∃ g, A = some ⟨g, 0, none⟩ ∧ g < w.heap.size ∧ ∀ k, (h : k < l.length) →
  w.cell? ⟨g, k * 4, none⟩ = some (.int .i64 l[k].x) ∧ w.cell? ⟨g, k * 4 + 1, none⟩ = some (.int .i64 l[k].y) ∧ w.cell? ⟨g, k * 4 + 2, none⟩ = some (.int .i64 l[k].w) ∧ w.cell? ⟨g, k * 4 + 3, none⟩ = some (.int .i64 l[k].h)
theorem RowAt.of_own {w : World} {base : Nat} {A : Option Addr} {c : Nat} {l : List Rc} (h : w.ownsRow base 42 4 (.slice A l.length c) l.length (rcells l)) : RowAt w A l := by
  intro hn
  rcases h.2 with ⟨_, h0⟩ | ⟨g, cap, cur, hv, hb, hh, hn', hcap, hcs, ht⟩
  · omega
  have hA : A = some ⟨g, 0, none⟩ := by injection hv
  have hlt : g < w.heap.size := by
    rcases Nat.lt_or_ge g w.heap.size with h' | h'
    · exact h'
    · rw [Array.getElem?_eq_none h'] at hh
      cases hh
  refine ⟨g, hA, hlt, fun k hk => ?_⟩
  obtain ⟨h0, h1, h2, h3⟩ := rcells_at l k hk
  have f : ∀ j u, (rcells l)[j]? = some u → w.cell? ⟨g, j, none⟩ = some u := by
    intro j u hj
    rw [cell_of_row w g j cur _ (0, 0) hh]
    rw [← ht, List.getElem?_take] at hj
    split at hj
    · simpa using hj
    · cases hj
  exact ⟨f _ _ h0, f _ _ h1, f _ _ h2, f _ _ h3⟩
theorem RowAt.below {w w' : World} {A : Option Addr} {l : List Rc} (h : RowAt w A l) (hb : Below w.heap.size w w') : RowAt w' A l := by
  intro hn
  obtain ⟨g, hA, hg, hc⟩ := h hn
  refine ⟨g, hA, Nat.lt_of_lt_of_le hg hb.size, fun k hk => ?_⟩
  have := hc k hk
  rw [hb.cell (p := ⟨g, k * 4, none⟩) hg, hb.cell (p := ⟨g, k * 4 + 1, none⟩) hg, hb.cell (p := ⟨g, k * 4 + 2, none⟩) hg, hb.cell (p := ⟨g, k * 4 + 3, none⟩) hg]
  exact this

set_option maxHeartbeats 2000000 in
theorem same_any (A B : Option Addr) (c c' : Nat) (l m : List Rc) (w : World) (hl : l.length ≤ 1000) (hm : m.length ≤ 1000) (h1 : RowAt w A l) (h2 : RowAt w B m) :
    Calls Try.prog 25 #[.slice A l.length c, .slice B m.length c'] w fun e w' => e = .returned (.bool (decide (l = m))) ∧ Below w.heap.size w w' := by
  by_cases hlen : l.length = m.length
  · have hne : ((l.length : Int) != (m.length : Int)) = false := by simp [hlen]
    have HL := Go.Lib.hid hlen
    clear hlen
    go_enter Try.func25, Try.ntmps25
    go_wp2
    go_loopw [5] (fun i wr => ∃ k : Nat, k ≤ l.length ∧ i = .int .i64 k ∧ (∀ j, (hj : j < k) → (h1 : j < l.length) → (h2 : j < m.length) → l[j] = m[j]) ∧ Below w.heap.size w wr) (fun i _ => l.length - (intOf i).toNat)
    case atStart => exact ⟨0, by omega, rfl, fun j hj => absurd hj (by omega), Below.refl _ _⟩
    case round =>
      obtain ⟨k, hk, rfl, heq, hbr⟩ := hrel
      have HE := Go.Lib.hid heq
      clear heq
      by_cases hlt : k < l.length
      · have hlt2 : k < m.length := by have := HL.out; omega
        obtain ⟨g, rfl, hg, hc⟩ := (h1.below hbr) (by omega)
        obtain ⟨g', rfl, hg', hc'⟩ := (h2.below hbr) (by omega)
        obtain ⟨a0, a1, a2, a3⟩ := hc k hlt
        obtain ⟨b0, b1, b2, b3⟩ := hc' k hlt2
        clear hc hc'
        have i1 : (k : Int) < (l.length : Int) := by omega
        have i2 : (k : Int) < (m.length : Int) := by omega
        cases hz : rcEq l[k].x l[k].y l[k].w l[k].h m[k].x m[k].y m[k].w m[k].h
        · go_wp2
          refine region_ext mixed (by kernel_rfl) ?_
          repeat (go_big_quiet_step (fail))
          refine wpQuiet_nil ?_
          intro w1 hb1
          go_wp2
          go_ret
          refine ⟨ret_bool ?_, hbr.trans (hb1.mono hbr.size)⟩
          symm
          simp only [decide_eq_false_iff_not]
          intro e
          subst e
          rw [rcEq_self] at hz
          exact Bool.noConfusion hz
        · go_wp2
          refine region_ext mixed (by kernel_rfl) ?_
          repeat (go_big_quiet_step (fail))
          refine wpQuiet_nil ?_
          intro w1 hb1
          go_wp2
          go_roundw
          case rel =>
            refine ⟨k + 1, by omega, by go_num, fun j hj j1 j2 => ?_, hbr.trans (hb1.mono hbr.size)⟩
            by_cases ej : j = k
            · subst ej
              rw [rcEq_iff] at hz
              exact of_decide_eq_true hz
            · exact HE.out j (by omega) j1 j2
          case measure => simp [intOf]; omega
      · have hkl : k = l.length := by omega
        have hlt' : ¬ ((k : Int) < (l.length : Int)) := by omega
        go_wp2
        go_ret
        refine ⟨ret_bool ?_, hbr⟩
        symm
        simp only [decide_eq_true_eq]
        exact List.ext_getElem HL.out fun j j1 j2 => HE.out j (by omega) j1 j2
  · have hne : ((l.length : Int) != (m.length : Int)) = true := by simp; omega
    go_enter Try.func25, Try.ntmps25
    go_wp2
    go_ret
    exact ⟨ret_bool (by symm; simp; intro e; exact hlen (by rw [e])), (by repeat (first | exact Below.refl _ _ | with_reducible refine Below.alloc ?_ (by first | (simp; done) | (simp; omega) | omega) _ | with_reducible refine Below.setCell ?_ (by first | (simp; done) | (simp; omega) | omega) _ | with_reducible refine Below.drew ?_ | with_reducible refine Below.trans ?_ (Below.mono (by assumption) (by first | (simp; done) | (simp; omega) | omega))))⟩
end Go.Proofs.Ytjippgflempdmaa.Geo
