/- Layer 5: equality of looks and of colours. (Printed by gen_f.py.) -/
import Derived.Test.YtoiondgcjbdonaaDoorStE
namespace Go.Proofs.YtoiondgcjbdonaaDoor
set_option linter.unusedVariables false
set_option linter.unusedSimpArgs false
set_option maxRecDepth 100000
open Go.RowKit Go.Lib

def clEq (a b c d p q r s : Int) : Bool := decide (a = p) && (decide (b = q) && (decide (c = r) && decide (d = s)))
theorem clEq_iff (x y : Cl) : clEq x.r x.g x.b x.a y.r y.g y.b y.a = decide (x = y) := by
  obtain ⟨a, b, c, d⟩ := x
  obtain ⟨p, q, r, s⟩ := y
  unfold clEq
  rw [Bool.eq_iff_iff]
  simp only [Bool.and_eq_true, decide_eq_true_eq, Cl.mk.injEq]
  omega
theorem clEq_zero (x : Cl) : clEq x.r x.g x.b x.a 0 0 0 0 = decide (x = Cl.zero) := clEq_iff x Cl.zero
def lkEq (x0 x1 x2 x3 x4 x5 x6 x7 x8 x10 y0 y1 y2 y3 y4 y5 y6 y7 y8 y10 : Int) (x9 y9 : Bool) : Bool :=
  decide (x0 = y0) && (clEq x1 x2 x3 x4 y1 y2 y3 y4 && (clEq x5 x6 x7 x8 y5 y6 y7 y8 && (decide (x9 = y9) && decide (x10 = y10))))
theorem lkEq_iff (a b : Lk) : lkEq a.has a.col.r a.col.g a.col.b a.col.a a.bak.r a.bak.g a.bak.b a.bak.a a.pad b.has b.col.r b.col.g b.col.b b.col.a b.bak.r b.bak.g b.bak.b b.bak.a b.pad a.brd b.brd = decide (a = b) := by
  unfold lkEq
  rw [clEq_iff, clEq_iff]
  obtain ⟨a0, a1, a2, a3, a4⟩ := a
  obtain ⟨b0, b1, b2, b3, b4⟩ := b
  rw [Bool.eq_iff_iff]
  simp only [Bool.and_eq_true, decide_eq_true_eq, Lk.mk.injEq]
  rw [show ((a0 : Int) = (b0 : Int)) ↔ a0 = b0 from Int.ofNat_inj]
section
variable (w : World) (a b c d p q r s : Int)
theorem run_eql_cl : (binOp .eql 30 (.agg #[.int .u8 a, .int .u8 b, .int .u8 c, .int .u8 d]) (.agg #[.int .u8 p, .int .u8 q, .int .u8 r, .int .u8 s])).run Tryd.prog w = .ok (.bool (clEq a b c d p q r s)) w := by
  unfold clEq
  by_cases h1 : a = p <;> by_cases h2 : b = q <;> by_cases h3 : c = r <;> by_cases h4 : d = s <;> simp [go_sem, h1, h2, h3, h4]
theorem run_neq_cl : (binOp .neq 30 (.agg #[.int .u8 a, .int .u8 b, .int .u8 c, .int .u8 d]) (.agg #[.int .u8 p, .int .u8 q, .int .u8 r, .int .u8 s])).run Tryd.prog w = .ok (.bool (!clEq a b c d p q r s)) w := by
  unfold clEq
  by_cases h1 : a = p <;> by_cases h2 : b = q <;> by_cases h3 : c = r <;> by_cases h4 : d = s <;> simp [go_sem, h1, h2, h3, h4]
end
section
variable (w : World) (x0 x1 x2 x3 x4 x5 x6 x7 x8 x10 y0 y1 y2 y3 y4 y5 y6 y7 y8 y10 : Int) (x9 y9 : Bool)
set_option maxHeartbeats 2000000 in
theorem run_eql_lk : (binOp .eql 32 (.agg #[.int .u8 x0, .int .u8 x1, .int .u8 x2, .int .u8 x3, .int .u8 x4, .int .u8 x5, .int .u8 x6, .int .u8 x7, .int .u8 x8, .bool x9, .int .i64 x10]) (.agg #[.int .u8 y0, .int .u8 y1, .int .u8 y2, .int .u8 y3, .int .u8 y4, .int .u8 y5, .int .u8 y6, .int .u8 y7, .int .u8 y8, .bool y9, .int .i64 y10])).run Tryd.prog w = .ok (.bool (lkEq x0 x1 x2 x3 x4 x5 x6 x7 x8 x10 y0 y1 y2 y3 y4 y5 y6 y7 y8 y10 x9 y9)) w := by
  unfold lkEq clEq
  by_cases h0 : x0 = y0
  case neg => simp [go_sem, h0]
  by_cases h1 : x1 = y1
  case neg => simp [go_sem, h0, h1]
  by_cases h2 : x2 = y2
  case neg => simp [go_sem, h0, h1, h2]
  by_cases h3 : x3 = y3
  case neg => simp [go_sem, h0, h1, h2, h3]
  by_cases h4 : x4 = y4
  case neg => simp [go_sem, h0, h1, h2, h3, h4]
  by_cases h5 : x5 = y5
  case neg => simp [go_sem, h0, h1, h2, h3, h4, h5]
  by_cases h6 : x6 = y6
  case neg => simp [go_sem, h0, h1, h2, h3, h4, h5, h6]
  by_cases h7 : x7 = y7
  case neg => simp [go_sem, h0, h1, h2, h3, h4, h5, h6, h7]
  by_cases h8 : x8 = y8
  case neg => simp [go_sem, h0, h1, h2, h3, h4, h5, h6, h7, h8]
  by_cases h9 : x9 = y9
  case neg => simp [go_sem, h0, h1, h2, h3, h4, h5, h6, h7, h8, h9]
  by_cases h10 : x10 = y10
  case neg => simp [go_sem, h0, h1, h2, h3, h4, h5, h6, h7, h8, h9, h10]
  simp [go_sem, h0, h1, h2, h3, h4, h5, h6, h7, h8, h9, h10]
set_option maxHeartbeats 2000000 in
theorem run_neq_lk : (binOp .neq 32 (.agg #[.int .u8 x0, .int .u8 x1, .int .u8 x2, .int .u8 x3, .int .u8 x4, .int .u8 x5, .int .u8 x6, .int .u8 x7, .int .u8 x8, .bool x9, .int .i64 x10]) (.agg #[.int .u8 y0, .int .u8 y1, .int .u8 y2, .int .u8 y3, .int .u8 y4, .int .u8 y5, .int .u8 y6, .int .u8 y7, .int .u8 y8, .bool y9, .int .i64 y10])).run Tryd.prog w = .ok (.bool (!lkEq x0 x1 x2 x3 x4 x5 x6 x7 x8 x10 y0 y1 y2 y3 y4 y5 y6 y7 y8 y10 x9 y9)) w := by
  unfold lkEq clEq
  by_cases h0 : x0 = y0
  case neg => simp [go_sem, h0]
  by_cases h1 : x1 = y1
  case neg => simp [go_sem, h0, h1]
  by_cases h2 : x2 = y2
  case neg => simp [go_sem, h0, h1, h2]
  by_cases h3 : x3 = y3
  case neg => simp [go_sem, h0, h1, h2, h3]
  by_cases h4 : x4 = y4
  case neg => simp [go_sem, h0, h1, h2, h3, h4]
  by_cases h5 : x5 = y5
  case neg => simp [go_sem, h0, h1, h2, h3, h4, h5]
  by_cases h6 : x6 = y6
  case neg => simp [go_sem, h0, h1, h2, h3, h4, h5, h6]
  by_cases h7 : x7 = y7
  case neg => simp [go_sem, h0, h1, h2, h3, h4, h5, h6, h7]
  by_cases h8 : x8 = y8
  case neg => simp [go_sem, h0, h1, h2, h3, h4, h5, h6, h7, h8]
  by_cases h9 : x9 = y9
  case neg => simp [go_sem, h0, h1, h2, h3, h4, h5, h6, h7, h8, h9]
  by_cases h10 : x10 = y10
  case neg => simp [go_sem, h0, h1, h2, h3, h4, h5, h6, h7, h8, h9, h10]
  simp [go_sem, h0, h1, h2, h3, h4, h5, h6, h7, h8, h9, h10]
end
attribute [go_sem 2000] run_eql_cl run_neq_cl run_eql_lk run_neq_lk
end Go.Proofs.YtoiondgcjbdonaaDoor
