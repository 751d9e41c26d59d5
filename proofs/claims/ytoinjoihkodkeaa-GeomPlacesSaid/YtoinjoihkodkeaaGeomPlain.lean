/- Layer 1 in plain Lean: rectangles by their four numbers. No Go in sight. -/
import Derived.WalkKit
namespace Go.Proofs.Ytoinjoihkodkeaa
set_option linter.unusedVariables false
set_option linter.unusedSimpArgs false
open Go.RowKit

structure Rc where
  x : Int
  y : Int
  w : Int
  h : Int
deriving DecidableEq

def zero : Rc := ⟨0, 0, 0, 0⟩
def within (n : Int) : Bool := decide (-16384 ≤ n) && decide (n ≤ 16384)
def side (n : Int) : Bool := decide (0 ≤ n) && decide (n ≤ 32768)
def may (r : Rc) : Bool := within r.x && within r.y && side r.w && side r.h && decide (r.x + r.w ≤ 16384) && decide (r.y + r.h ≤ 16384)
def checkE (r : Rc) : Int := if may r then 0 else 5
def empty (r : Rc) : Bool := !may r || r.w == 0 || r.h == 0
def area (r : Rc) : Int := if empty r then 0 else r.w * r.h
def has (r : Rc) (p q : Int) : Bool := !empty r && decide (r.x ≤ p) && decide (p < r.x + r.w) && decide (r.y ≤ q) && decide (q < r.y + r.h)
def fromR (x y r b : Int) : Rc := if r ≤ x ∨ b ≤ y then zero else ⟨x, y, wrap64 (r - x), wrap64 (b - y)⟩
def makeOk (a b c d : Int) : Bool := within a && within b && within c && within d
def makeR (a b c d : Int) : Rc := if makeOk a b c d then fromR (min a c) (min b d) (max a c) (max b d) else zero
def makeE (a b c d : Int) : Int := if makeOk a b c d then 0 else 2
def meet (p q : Rc) : Rc := if empty p || empty q then zero else fromR (max p.x q.x) (max p.y q.y) (min (p.x + p.w) (q.x + q.w)) (min (p.y + p.h) (q.y + q.h))
def join (p q : Rc) : Rc := if empty p then (if empty q then zero else q) else if empty q then p else fromR (min p.x q.x) (min p.y q.y) (max (p.x + p.w) (q.x + q.w)) (max (p.y + p.h) (q.y + q.h))
def inR (p q : Rc) : Bool := empty p || decide (meet p q = p)
def over (p q : Rc) : Bool := !decide (meet p q = zero)
def fitR (r : Rc) : Rc := if may r then r else zero
def fitE (r : Rc) : Int := if may r then 0 else 9
def insetIn (r : Rc) (by_ : Int) : Rc := fromR (r.x + by_) (r.y + by_) (r.x + r.w - by_) (r.y + r.h - by_)
def insetR (r : Rc) (by_ : Int) : Rc := if !may r then zero else if !within by_ then zero else if empty r then zero else fitR (insetIn r by_)
def insetE (r : Rc) (by_ : Int) : Int := if !may r then 5 else if !within by_ then 2 else if empty r then 0 else fitE (insetIn r by_)
def far (p q : Int) : Bool := decide (min p q < -32768) || decide (32768 < max p q)
def movedR (r : Rc) (p q : Int) : Rc := if !may r then zero else if empty r then zero else if far p q then zero else fitR ⟨r.x + p, r.y + q, r.w, r.h⟩
def movedE (r : Rc) (p q : Int) : Int := if !may r then 5 else if empty r then 0 else if far p q then 9 else fitE ⟨r.x + p, r.y + q, r.w, r.h⟩
def begin_ (a room len way : Int) : Int := if way = 1 then a + (room - len) / 2 else if way = 2 then a + room - len else a
def alignIn (r : Rc) (a b x y : Int) : Rc := ⟨begin_ r.x r.w a x, begin_ r.y r.h b y, a, b⟩
def alignBad (a b x y : Int) : Bool := !side a || !side b || decide (2 < x) || decide (2 < y)
def alignR (r : Rc) (a b x y : Int) : Rc := if !may r then zero else if alignBad a b x y then zero else if a == 0 || b == 0 then zero else fitR (alignIn r a b x y)
def alignE (r : Rc) (a b x y : Int) : Int := if !may r then 5 else if alignBad a b x y then 2 else if a == 0 || b == 0 then 0 else fitE (alignIn r a b x y)
def pieces (p m : Rc) : List Rc := [fromR p.x p.y (p.x + p.w) m.y, fromR p.x m.y m.x (m.y + m.h), fromR (m.x + m.w) m.y (p.x + p.w) (m.y + m.h), fromR p.x (m.y + m.h) (p.x + p.w) (p.y + p.h)]
def lessE (p q : Rc) : Int := if may p && may q then 0 else 5
def lessL (p q : Rc) : List Rc := if !(may p && may q) then [] else if empty p then [] else if meet p q = zero then [p] else (pieces p (meet p q)).filter fun r => !decide (r = zero)

def rcEq (x y a b p q c d : Int) : Bool := decide (x = p) && (decide (y = q) && (decide (a = c) && decide (b = d)))
theorem rcEq_self (x y a b : Int) : rcEq x y a b x y a b = true := by simp [rcEq]
theorem rcEq_iff (r s : Rc) : rcEq r.x r.y r.w r.h s.x s.y s.w s.h = decide (r = s) := by
  cases r
  cases s
  simp [rcEq, Bool.decide_and]
theorem rcEq_iff' (r : Rc) (x y a b : Int) : rcEq r.x r.y r.w r.h x y a b = decide (r = ⟨x, y, a, b⟩) := rcEq_iff r ⟨x, y, a, b⟩
theorem within_iff (n : Int) : within n = true ↔ -16384 ≤ n ∧ n ≤ 16384 := by simp [within]
theorem side_iff (n : Int) : side n = true ↔ 0 ≤ n ∧ n ≤ 32768 := by simp [side]
theorem may_iff (x y a b : Int) : may ⟨x, y, a, b⟩ = true ↔ (-16384 ≤ x ∧ x ≤ 16384) ∧ (-16384 ≤ y ∧ y ≤ 16384) ∧ (0 ≤ a ∧ a ≤ 32768) ∧ (0 ≤ b ∧ b ≤ 32768) ∧ x + a ≤ 16384 ∧ y + b ≤ 16384 := by
  simp [may, within, side, and_assoc]
theorem empty_iff (x y a b : Int) : empty ⟨x, y, a, b⟩ = false ↔ (-16384 ≤ x ∧ x ≤ 16384) ∧ (-16384 ≤ y ∧ y ≤ 16384) ∧ (1 ≤ a ∧ a ≤ 32768) ∧ (1 ≤ b ∧ b ≤ 32768) ∧ x + a ≤ 16384 ∧ y + b ≤ 16384 := by
  simp [empty, may_iff]
  omega
theorem empty_may {r : Rc} (h : empty r = false) : may r = true := by
  revert h
  simp [empty]
  intro h _ _
  exact h
theorem may_check {r : Rc} : may r = true ↔ checkE r = 0 := by
  unfold checkE
  split <;> simp_all
theorem mul_bd {a b : Int} (ha : 0 ≤ a ∧ a ≤ 32768) (hb : 0 ≤ b ∧ b ≤ 32768) : 0 ≤ a * b ∧ a * b ≤ 1073741824 := by
  refine ⟨Int.mul_nonneg ha.1 hb.1, ?_⟩
  have := Int.mul_le_mul ha.2 hb.2 hb.1 (by omega)
  omega
theorem max_fold (a b : Int) : (if a < b then b else a) = max a b := by omega
theorem min_fold (a b : Int) : (if b < a then b else a) = min a b := by omega

theorem check_close {x y a b t : Int} (h1 : within x = true) (h2 : within y = true) (h3 : side a = true) (h4 : side b = true) (ht : t = max (wrap64 (x + a)) (wrap64 (y + b))) : (t ≤ 16384 → checkE ⟨x, y, a, b⟩ = 0) ∧ (16384 < t → checkE ⟨x, y, a, b⟩ = 5) := by
  have b1 := (within_iff x).1 h1
  have b2 := (within_iff y).1 h2
  have b3 := (side_iff a).1 h3
  have b4 := (side_iff b).1 h4
  have e1 : wrap64 (x + a) = x + a := IntWalk.wrap64_in _ (by omega)
  have e2 : wrap64 (y + b) = y + b := IntWalk.wrap64_in _ (by omega)
  rw [e1, e2] at ht
  simp only [checkE, may, h1, h2, h3, h4, Bool.true_and, Bool.and_eq_true, decide_eq_true_eq]
  constructor <;> intro h <;> simp only [ite_eq_left_iff, ite_eq_right_iff] <;> omega
end Go.Proofs.Ytoinjoihkodkeaa
