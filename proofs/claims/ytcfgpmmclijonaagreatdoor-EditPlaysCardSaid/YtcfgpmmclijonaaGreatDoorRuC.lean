/- Layer 3: the reference's 'one': the first rune of a text. (Printed by gen_c.py.) -/
import Derived.Test.YtcfgpmmclijonaaGreatDoorRuB
import Derived.Laws.BitsLemmas
import Derived.Lib.DecodeNEq
namespace Go.Proofs.YtcfgpmmclijonaaGreatDoor
set_option linter.unusedVariables false
set_option linter.unusedSimpArgs false
set_option maxRecDepth 100000
open Go.RowKit Go.Lib

theorem and31 {x : Int} (h0 : 0 ≤ x) (h1 : x < 256) : bits .and .i32 x 31 = x % 32 := bits_mask .i32 31 (by decide) wraps_i32 5 (by decide) x h0 (by omega)
theorem and15 {x : Int} (h0 : 0 ≤ x) (h1 : x < 256) : bits .and .i32 x 15 = x % 16 := bits_mask .i32 31 (by decide) wraps_i32 4 (by decide) x h0 (by omega)
theorem and7 {x : Int} (h0 : 0 ≤ x) (h1 : x < 256) : bits .and .i32 x 7 = x % 8 := bits_mask .i32 31 (by decide) wraps_i32 3 (by decide) x h0 (by omega)
/-- A broken byte. -/
def brk (p : Nat × Nat) : Bool := decide (p.1 = 65533 ∧ p.2 = 1)
theorem ret_one {a b : Int} {n m : Int} {x y : Bool} (h1 : a = b) (h2 : n = m) (h3 : x = y) : Ending.returned (.tuple #[.int .i32 a, .int .i64 n, .bool x]) = .returned (.tuple #[.int .i32 b, .int .i64 m, .bool y]) := by rw [h1, h2, h3]
section
variable (s : ByteArray) (w : World) (x0 x1 x2 x3 : UInt8) (hz : 0 < s.size) (h0 : s[0] = x0) (h1 : (h : 1 < s.size) → s[1] = x1) (h2 : (h : 2 < s.size) → s[2] = x2) (h3 : (h : 3 < s.size) → s[3] = x3)
include hz h0 h1 h2 h3
set_option linter.unusedSectionVars false
set_option maxHeartbeats 2000000 in
set_option maxRecDepth 100000 in
theorem one_A (k0 : x0.toNat < 128) : Calls Tryz.prog 95 #[.string s] w fun e w' => e = .returned (.tuple #[.int .i32 ((decodeN s.size x0.toNat x1.toNat x2.toNat x3.toNat).1 : Int), .int .i64 ((decodeN s.size x0.toNat x1.toNat x2.toNat x3.toNat).2 : Int), .bool (brk (decodeN s.size x0.toNat x1.toNat x2.toNat x3.toNat))]) ∧ w = w' := by
  have l0 := x0.toNat_lt; have l1 := x1.toNat_lt; have l2 := x2.toNat_lt; have l3 := x3.toNat_lt
  have hD : decodeN s.size x0.toNat x1.toNat x2.toNat x3.toNat = (x0.toNat, 1) := by
    unfold decodeN
    repeat' split
    all_goals first | rfl | (exfalso; omega) | (apply Prod.ext <;> simp only <;> omega)
  rw [hD]
  clear hD
  clear h1 h2 h3
  have z0 : (0 : Int) < (s.size : Int) := by omega
  have y0 : (x0.toNat : Int) < 128 := by omega
  go_enter Tryz.func95, Tryz.ntmps95
  go_wp2
  refine bodyPost_ret (v := .tuple #[.int .i32 ((x0.toNat : Int)), .int .i64 1, .bool false]) (by simp [results, Tryz.results95, go_sem]) rfl ⟨?_, rfl⟩
  refine ret_one ?_ ?_ ?_
  all_goals (first | rfl | (simp [brk]; done) | (simp [brk]; omega) | omega)
set_option maxHeartbeats 2000000 in
set_option maxRecDepth 100000 in
theorem one_B1 (k0 : 128 ≤ x0.toNat) (k1 : x0.toNat < 194) : Calls Tryz.prog 95 #[.string s] w fun e w' => e = .returned (.tuple #[.int .i32 ((decodeN s.size x0.toNat x1.toNat x2.toNat x3.toNat).1 : Int), .int .i64 ((decodeN s.size x0.toNat x1.toNat x2.toNat x3.toNat).2 : Int), .bool (brk (decodeN s.size x0.toNat x1.toNat x2.toNat x3.toNat))]) ∧ w = w' := by
  have l0 := x0.toNat_lt; have l1 := x1.toNat_lt; have l2 := x2.toNat_lt; have l3 := x3.toNat_lt
  have hD : decodeN s.size x0.toNat x1.toNat x2.toNat x3.toNat = (65533, 1) := by
    unfold decodeN
    repeat' split
    all_goals first | rfl | (exfalso; omega) | (apply Prod.ext <;> simp only <;> omega)
  rw [hD]
  clear hD
  clear h1 h2 h3
  have z0 : (0 : Int) < (s.size : Int) := by omega
  have y0 : 128 ≤ (x0.toNat : Int) := by omega
  have y1 : (x0.toNat : Int) < 194 := by omega
  go_enter Tryz.func95, Tryz.ntmps95
  go_wp2
  refine bodyPost_ret (v := .tuple #[.int .i32 (65533), .int .i64 1, .bool true]) (by simp [results, Tryz.results95, go_sem]) rfl ⟨?_, rfl⟩
  refine ret_one ?_ ?_ ?_
  all_goals (first | rfl | (simp [brk]; done) | (simp [brk]; omega) | omega)
set_option maxHeartbeats 2000000 in
set_option maxRecDepth 100000 in
theorem one_B2 (k0 : 244 < x0.toNat) : Calls Tryz.prog 95 #[.string s] w fun e w' => e = .returned (.tuple #[.int .i32 ((decodeN s.size x0.toNat x1.toNat x2.toNat x3.toNat).1 : Int), .int .i64 ((decodeN s.size x0.toNat x1.toNat x2.toNat x3.toNat).2 : Int), .bool (brk (decodeN s.size x0.toNat x1.toNat x2.toNat x3.toNat))]) ∧ w = w' := by
  have l0 := x0.toNat_lt; have l1 := x1.toNat_lt; have l2 := x2.toNat_lt; have l3 := x3.toNat_lt
  have hD : decodeN s.size x0.toNat x1.toNat x2.toNat x3.toNat = (65533, 1) := by
    unfold decodeN
    repeat' split
    all_goals first | rfl | (exfalso; omega) | (apply Prod.ext <;> simp only <;> omega)
  rw [hD]
  clear hD
  clear h1 h2 h3
  have z0 : (0 : Int) < (s.size : Int) := by omega
  have y0 : 244 < (x0.toNat : Int) := by omega
  go_enter Tryz.func95, Tryz.ntmps95
  go_wp2
  refine bodyPost_ret (v := .tuple #[.int .i32 (65533), .int .i64 1, .bool true]) (by simp [results, Tryz.results95, go_sem]) rfl ⟨?_, rfl⟩
  refine ret_one ?_ ?_ ?_
  all_goals (first | rfl | (simp [brk]; done) | (simp [brk]; omega) | omega)
set_option maxHeartbeats 2000000 in
set_option maxRecDepth 100000 in
theorem one_C0 (k0 : 194 ≤ x0.toNat) (k1 : x0.toNat ≤ 223) (k2 : s.size < 2) : Calls Tryz.prog 95 #[.string s] w fun e w' => e = .returned (.tuple #[.int .i32 ((decodeN s.size x0.toNat x1.toNat x2.toNat x3.toNat).1 : Int), .int .i64 ((decodeN s.size x0.toNat x1.toNat x2.toNat x3.toNat).2 : Int), .bool (brk (decodeN s.size x0.toNat x1.toNat x2.toNat x3.toNat))]) ∧ w = w' := by
  have l0 := x0.toNat_lt; have l1 := x1.toNat_lt; have l2 := x2.toNat_lt; have l3 := x3.toNat_lt
  have hD : decodeN s.size x0.toNat x1.toNat x2.toNat x3.toNat = (65533, 1) := by
    unfold decodeN
    repeat' split
    all_goals first | rfl | (exfalso; omega) | (apply Prod.ext <;> simp only <;> omega)
  rw [hD]
  clear hD
  clear h1 h2 h3
  have z0 : (0 : Int) < (s.size : Int) := by omega
  have y0 : 194 ≤ (x0.toNat : Int) := by omega
  have y1 : (x0.toNat : Int) ≤ 223 := by omega
  have y2 : (s.size : Int) < 2 := by omega
  go_enter Tryz.func95, Tryz.ntmps95
  go_wp2
  refine bodyPost_ret (v := .tuple #[.int .i32 (65533), .int .i64 1, .bool true]) (by simp [results, Tryz.results95, go_sem]) rfl ⟨?_, rfl⟩
  refine ret_one ?_ ?_ ?_
  all_goals (first | rfl | (simp [brk]; done) | (simp [brk]; omega) | omega)
set_option maxHeartbeats 2000000 in
set_option maxRecDepth 100000 in
theorem one_C1 (k0 : 194 ≤ x0.toNat) (k1 : x0.toNat ≤ 223) (k2 : 2 ≤ s.size) (k3 : x1.toNat < 128) : Calls Tryz.prog 95 #[.string s] w fun e w' => e = .returned (.tuple #[.int .i32 ((decodeN s.size x0.toNat x1.toNat x2.toNat x3.toNat).1 : Int), .int .i64 ((decodeN s.size x0.toNat x1.toNat x2.toNat x3.toNat).2 : Int), .bool (brk (decodeN s.size x0.toNat x1.toNat x2.toNat x3.toNat))]) ∧ w = w' := by
  have l0 := x0.toNat_lt; have l1 := x1.toNat_lt; have l2 := x2.toNat_lt; have l3 := x3.toNat_lt
  have hD : decodeN s.size x0.toNat x1.toNat x2.toNat x3.toNat = (65533, 1) := by
    unfold decodeN
    repeat' split
    all_goals first | rfl | (exfalso; omega) | (apply Prod.ext <;> simp only <;> omega)
  rw [hD]
  clear hD
  have g1 := h1 (by omega)
  clear h1 h2 h3
  have z0 : (0 : Int) < (s.size : Int) := by omega
  have y0 : 194 ≤ (x0.toNat : Int) := by omega
  have y1 : (x0.toNat : Int) ≤ 223 := by omega
  have y2 : 2 ≤ (s.size : Int) := by omega
  have y3 : (x1.toNat : Int) < 128 := by omega
  have q1 : (1 : Int) < (s.size : Int) := by omega
  have e0 : bits .and .i32 (x0.toNat : Int) 31 = (x0.toNat : Int) % 32 := and31 (by omega) (by omega)
  have w1 : wrap32 (((x0.toNat : Int) % 32) * 64) = ((x0.toNat : Int) % 32) * 64 := by unfold wrap32; omega
  have o1 : bits .or .i32 (((x0.toNat : Int) % 32) * 64) ((x1.toNat : Int) % 64) = ((x0.toNat : Int) % 32) * 64 + (x1.toNat : Int) % 64 := i32_or6 _ _ (by omega) (by omega) (by omega) (by omega) (by omega)
  go_enter Tryz.func95, Tryz.ntmps95
  go_wp2
  refine wp_loop_rounds 1 ?_
  rw [rounds_succ]
  go_wp2
  refine bodyPost_ret (v := .tuple #[.int .i32 (65533), .int .i64 1, .bool true]) (by simp [results, Tryz.results95, go_sem]) rfl ⟨?_, rfl⟩
  refine ret_one ?_ ?_ ?_
  all_goals (first | rfl | (simp [brk]; done) | (simp [brk]; omega) | omega)
set_option maxHeartbeats 2000000 in
set_option maxRecDepth 100000 in
theorem one_C2 (k0 : 194 ≤ x0.toNat) (k1 : x0.toNat ≤ 223) (k2 : 2 ≤ s.size) (k3 : 128 ≤ x1.toNat) (k4 : 191 < x1.toNat) : Calls Tryz.prog 95 #[.string s] w fun e w' => e = .returned (.tuple #[.int .i32 ((decodeN s.size x0.toNat x1.toNat x2.toNat x3.toNat).1 : Int), .int .i64 ((decodeN s.size x0.toNat x1.toNat x2.toNat x3.toNat).2 : Int), .bool (brk (decodeN s.size x0.toNat x1.toNat x2.toNat x3.toNat))]) ∧ w = w' := by
  have l0 := x0.toNat_lt; have l1 := x1.toNat_lt; have l2 := x2.toNat_lt; have l3 := x3.toNat_lt
  have hD : decodeN s.size x0.toNat x1.toNat x2.toNat x3.toNat = (65533, 1) := by
    unfold decodeN
    repeat' split
    all_goals first | rfl | (exfalso; omega) | (apply Prod.ext <;> simp only <;> omega)
  rw [hD]
  clear hD
  have g1 := h1 (by omega)
  clear h1 h2 h3
  have z0 : (0 : Int) < (s.size : Int) := by omega
  have y0 : 194 ≤ (x0.toNat : Int) := by omega
  have y1 : (x0.toNat : Int) ≤ 223 := by omega
  have y2 : 2 ≤ (s.size : Int) := by omega
  have y3 : 128 ≤ (x1.toNat : Int) := by omega
  have y4 : 191 < (x1.toNat : Int) := by omega
  have q1 : (1 : Int) < (s.size : Int) := by omega
  have e0 : bits .and .i32 (x0.toNat : Int) 31 = (x0.toNat : Int) % 32 := and31 (by omega) (by omega)
  have w1 : wrap32 (((x0.toNat : Int) % 32) * 64) = ((x0.toNat : Int) % 32) * 64 := by unfold wrap32; omega
  have o1 : bits .or .i32 (((x0.toNat : Int) % 32) * 64) ((x1.toNat : Int) % 64) = ((x0.toNat : Int) % 32) * 64 + (x1.toNat : Int) % 64 := i32_or6 _ _ (by omega) (by omega) (by omega) (by omega) (by omega)
  go_enter Tryz.func95, Tryz.ntmps95
  go_wp2
  refine wp_loop_rounds 1 ?_
  rw [rounds_succ]
  go_wp2
  refine bodyPost_ret (v := .tuple #[.int .i32 (65533), .int .i64 1, .bool true]) (by simp [results, Tryz.results95, go_sem]) rfl ⟨?_, rfl⟩
  refine ret_one ?_ ?_ ?_
  all_goals (first | rfl | (simp [brk]; done) | (simp [brk]; omega) | omega)
set_option maxHeartbeats 2000000 in
set_option maxRecDepth 100000 in
theorem one_C3 (k0 : 194 ≤ x0.toNat) (k1 : x0.toNat ≤ 223) (k2 : 2 ≤ s.size) (k3 : 128 ≤ x1.toNat) (k4 : x1.toNat ≤ 191) : Calls Tryz.prog 95 #[.string s] w fun e w' => e = .returned (.tuple #[.int .i32 ((decodeN s.size x0.toNat x1.toNat x2.toNat x3.toNat).1 : Int), .int .i64 ((decodeN s.size x0.toNat x1.toNat x2.toNat x3.toNat).2 : Int), .bool (brk (decodeN s.size x0.toNat x1.toNat x2.toNat x3.toNat))]) ∧ w = w' := by
  have l0 := x0.toNat_lt; have l1 := x1.toNat_lt; have l2 := x2.toNat_lt; have l3 := x3.toNat_lt
  have hD : decodeN s.size x0.toNat x1.toNat x2.toNat x3.toNat = (x0.toNat % 32 * 64 + x1.toNat % 64, 2) := by
    unfold decodeN
    repeat' split
    all_goals first | rfl | (exfalso; omega) | (apply Prod.ext <;> simp only <;> omega)
  rw [hD]
  clear hD
  have g1 := h1 (by omega)
  clear h1 h2 h3
  have z0 : (0 : Int) < (s.size : Int) := by omega
  have y0 : 194 ≤ (x0.toNat : Int) := by omega
  have y1 : (x0.toNat : Int) ≤ 223 := by omega
  have y2 : 2 ≤ (s.size : Int) := by omega
  have y3 : 128 ≤ (x1.toNat : Int) := by omega
  have y4 : (x1.toNat : Int) ≤ 191 := by omega
  have q1 : (1 : Int) < (s.size : Int) := by omega
  have e0 : bits .and .i32 (x0.toNat : Int) 31 = (x0.toNat : Int) % 32 := and31 (by omega) (by omega)
  have w1 : wrap32 (((x0.toNat : Int) % 32) * 64) = ((x0.toNat : Int) % 32) * 64 := by unfold wrap32; omega
  have o1 : bits .or .i32 (((x0.toNat : Int) % 32) * 64) ((x1.toNat : Int) % 64) = ((x0.toNat : Int) % 32) * 64 + (x1.toNat : Int) % 64 := i32_or6 _ _ (by omega) (by omega) (by omega) (by omega) (by omega)
  go_enter Tryz.func95, Tryz.ntmps95
  go_wp2
  refine wp_loop_rounds 2 ?_
  rw [rounds_succ]
  go_wp2
  rw [rounds_succ]
  go_wp2
  refine bodyPost_ret (v := .tuple #[.int .i32 (((x0.toNat : Int) % 32) * 64 + (x1.toNat : Int) % 64), .int .i64 2, .bool false]) (by simp [results, Tryz.results95, go_sem]) rfl ⟨?_, rfl⟩
  refine ret_one ?_ ?_ ?_
  all_goals (first | rfl | (simp [brk]; done) | (simp [brk]; omega) | omega)
set_option maxHeartbeats 2000000 in
set_option maxRecDepth 100000 in
theorem one_D0 (k0 : 224 ≤ x0.toNat) (k1 : x0.toNat ≤ 239) (k2 : s.size < 3) : Calls Tryz.prog 95 #[.string s] w fun e w' => e = .returned (.tuple #[.int .i32 ((decodeN s.size x0.toNat x1.toNat x2.toNat x3.toNat).1 : Int), .int .i64 ((decodeN s.size x0.toNat x1.toNat x2.toNat x3.toNat).2 : Int), .bool (brk (decodeN s.size x0.toNat x1.toNat x2.toNat x3.toNat))]) ∧ w = w' := by
  have l0 := x0.toNat_lt; have l1 := x1.toNat_lt; have l2 := x2.toNat_lt; have l3 := x3.toNat_lt
  have hD : decodeN s.size x0.toNat x1.toNat x2.toNat x3.toNat = (65533, 1) := by
    unfold decodeN
    repeat' split
    all_goals first | rfl | (exfalso; omega) | (apply Prod.ext <;> simp only <;> omega)
  rw [hD]
  clear hD
  clear h1 h2 h3
  have z0 : (0 : Int) < (s.size : Int) := by omega
  have y0 : 224 ≤ (x0.toNat : Int) := by omega
  have y1 : (x0.toNat : Int) ≤ 239 := by omega
  have y2 : (s.size : Int) < 3 := by omega
  go_enter Tryz.func95, Tryz.ntmps95
  go_wp2
  refine bodyPost_ret (v := .tuple #[.int .i32 (65533), .int .i64 1, .bool true]) (by simp [results, Tryz.results95, go_sem]) rfl ⟨?_, rfl⟩
  refine ret_one ?_ ?_ ?_
  all_goals (first | rfl | (simp [brk]; done) | (simp [brk]; omega) | omega)
set_option maxHeartbeats 2000000 in
set_option maxRecDepth 100000 in
theorem one_D1 (k0 : 224 ≤ x0.toNat) (k1 : x0.toNat ≤ 239) (k2 : 3 ≤ s.size) (k3 : x1.toNat < 128) : Calls Tryz.prog 95 #[.string s] w fun e w' => e = .returned (.tuple #[.int .i32 ((decodeN s.size x0.toNat x1.toNat x2.toNat x3.toNat).1 : Int), .int .i64 ((decodeN s.size x0.toNat x1.toNat x2.toNat x3.toNat).2 : Int), .bool (brk (decodeN s.size x0.toNat x1.toNat x2.toNat x3.toNat))]) ∧ w = w' := by
  have l0 := x0.toNat_lt; have l1 := x1.toNat_lt; have l2 := x2.toNat_lt; have l3 := x3.toNat_lt
  have hD : decodeN s.size x0.toNat x1.toNat x2.toNat x3.toNat = (65533, 1) := by
    unfold decodeN
    repeat' split
    all_goals first | rfl | (exfalso; omega) | (apply Prod.ext <;> simp only <;> omega)
  rw [hD]
  clear hD
  have g1 := h1 (by omega)
  have g2 := h2 (by omega)
  clear h1 h2 h3
  have z0 : (0 : Int) < (s.size : Int) := by omega
  have y0 : 224 ≤ (x0.toNat : Int) := by omega
  have y1 : (x0.toNat : Int) ≤ 239 := by omega
  have y2 : 3 ≤ (s.size : Int) := by omega
  have y3 : (x1.toNat : Int) < 128 := by omega
  have q1 : (1 : Int) < (s.size : Int) := by omega
  have q2 : (2 : Int) < (s.size : Int) := by omega
  have e0 : bits .and .i32 (x0.toNat : Int) 15 = (x0.toNat : Int) % 16 := and15 (by omega) (by omega)
  have w1 : wrap32 (((x0.toNat : Int) % 16) * 64) = ((x0.toNat : Int) % 16) * 64 := by unfold wrap32; omega
  have o1 : bits .or .i32 (((x0.toNat : Int) % 16) * 64) ((x1.toNat : Int) % 64) = ((x0.toNat : Int) % 16) * 64 + (x1.toNat : Int) % 64 := i32_or6 _ _ (by omega) (by omega) (by omega) (by omega) (by omega)
  have w2 : wrap32 ((((x0.toNat : Int) % 16) * 64 + (x1.toNat : Int) % 64) * 64) = (((x0.toNat : Int) % 16) * 64 + (x1.toNat : Int) % 64) * 64 := by unfold wrap32; omega
  have o2 : bits .or .i32 ((((x0.toNat : Int) % 16) * 64 + (x1.toNat : Int) % 64) * 64) ((x2.toNat : Int) % 64) = (((x0.toNat : Int) % 16) * 64 + (x1.toNat : Int) % 64) * 64 + (x2.toNat : Int) % 64 := i32_or6 _ _ (by omega) (by omega) (by omega) (by omega) (by omega)
  go_enter Tryz.func95, Tryz.ntmps95
  go_wp2
  refine wp_loop_rounds 1 ?_
  rw [rounds_succ]
  go_wp2
  refine bodyPost_ret (v := .tuple #[.int .i32 (65533), .int .i64 1, .bool true]) (by simp [results, Tryz.results95, go_sem]) rfl ⟨?_, rfl⟩
  refine ret_one ?_ ?_ ?_
  all_goals (first | rfl | (simp [brk]; done) | (simp [brk]; omega) | omega)
set_option maxHeartbeats 2000000 in
set_option maxRecDepth 100000 in
theorem one_D2 (k0 : 224 ≤ x0.toNat) (k1 : x0.toNat ≤ 239) (k2 : 3 ≤ s.size) (k3 : 128 ≤ x1.toNat) (k4 : 191 < x1.toNat) : Calls Tryz.prog 95 #[.string s] w fun e w' => e = .returned (.tuple #[.int .i32 ((decodeN s.size x0.toNat x1.toNat x2.toNat x3.toNat).1 : Int), .int .i64 ((decodeN s.size x0.toNat x1.toNat x2.toNat x3.toNat).2 : Int), .bool (brk (decodeN s.size x0.toNat x1.toNat x2.toNat x3.toNat))]) ∧ w = w' := by
  have l0 := x0.toNat_lt; have l1 := x1.toNat_lt; have l2 := x2.toNat_lt; have l3 := x3.toNat_lt
  have hD : decodeN s.size x0.toNat x1.toNat x2.toNat x3.toNat = (65533, 1) := by
    unfold decodeN
    repeat' split
    all_goals first | rfl | (exfalso; omega) | (apply Prod.ext <;> simp only <;> omega)
  rw [hD]
  clear hD
  have g1 := h1 (by omega)
  have g2 := h2 (by omega)
  clear h1 h2 h3
  have z0 : (0 : Int) < (s.size : Int) := by omega
  have y0 : 224 ≤ (x0.toNat : Int) := by omega
  have y1 : (x0.toNat : Int) ≤ 239 := by omega
  have y2 : 3 ≤ (s.size : Int) := by omega
  have y3 : 128 ≤ (x1.toNat : Int) := by omega
  have y4 : 191 < (x1.toNat : Int) := by omega
  have q1 : (1 : Int) < (s.size : Int) := by omega
  have q2 : (2 : Int) < (s.size : Int) := by omega
  have e0 : bits .and .i32 (x0.toNat : Int) 15 = (x0.toNat : Int) % 16 := and15 (by omega) (by omega)
  have w1 : wrap32 (((x0.toNat : Int) % 16) * 64) = ((x0.toNat : Int) % 16) * 64 := by unfold wrap32; omega
  have o1 : bits .or .i32 (((x0.toNat : Int) % 16) * 64) ((x1.toNat : Int) % 64) = ((x0.toNat : Int) % 16) * 64 + (x1.toNat : Int) % 64 := i32_or6 _ _ (by omega) (by omega) (by omega) (by omega) (by omega)
  have w2 : wrap32 ((((x0.toNat : Int) % 16) * 64 + (x1.toNat : Int) % 64) * 64) = (((x0.toNat : Int) % 16) * 64 + (x1.toNat : Int) % 64) * 64 := by unfold wrap32; omega
  have o2 : bits .or .i32 ((((x0.toNat : Int) % 16) * 64 + (x1.toNat : Int) % 64) * 64) ((x2.toNat : Int) % 64) = (((x0.toNat : Int) % 16) * 64 + (x1.toNat : Int) % 64) * 64 + (x2.toNat : Int) % 64 := i32_or6 _ _ (by omega) (by omega) (by omega) (by omega) (by omega)
  go_enter Tryz.func95, Tryz.ntmps95
  go_wp2
  refine wp_loop_rounds 1 ?_
  rw [rounds_succ]
  go_wp2
  refine bodyPost_ret (v := .tuple #[.int .i32 (65533), .int .i64 1, .bool true]) (by simp [results, Tryz.results95, go_sem]) rfl ⟨?_, rfl⟩
  refine ret_one ?_ ?_ ?_
  all_goals (first | rfl | (simp [brk]; done) | (simp [brk]; omega) | omega)
set_option maxHeartbeats 2000000 in
set_option maxRecDepth 100000 in
theorem one_D3 (k0 : 224 ≤ x0.toNat) (k1 : x0.toNat ≤ 239) (k2 : 3 ≤ s.size) (k3 : 128 ≤ x1.toNat) (k4 : x1.toNat ≤ 191) (k5 : x2.toNat < 128) : Calls Tryz.prog 95 #[.string s] w fun e w' => e = .returned (.tuple #[.int .i32 ((decodeN s.size x0.toNat x1.toNat x2.toNat x3.toNat).1 : Int), .int .i64 ((decodeN s.size x0.toNat x1.toNat x2.toNat x3.toNat).2 : Int), .bool (brk (decodeN s.size x0.toNat x1.toNat x2.toNat x3.toNat))]) ∧ w = w' := by
  have l0 := x0.toNat_lt; have l1 := x1.toNat_lt; have l2 := x2.toNat_lt; have l3 := x3.toNat_lt
  have hD : decodeN s.size x0.toNat x1.toNat x2.toNat x3.toNat = (65533, 1) := by
    unfold decodeN
    repeat' split
    all_goals first | rfl | (exfalso; omega) | (apply Prod.ext <;> simp only <;> omega)
  rw [hD]
  clear hD
  have g1 := h1 (by omega)
  have g2 := h2 (by omega)
  clear h1 h2 h3
  have z0 : (0 : Int) < (s.size : Int) := by omega
  have y0 : 224 ≤ (x0.toNat : Int) := by omega
  have y1 : (x0.toNat : Int) ≤ 239 := by omega
  have y2 : 3 ≤ (s.size : Int) := by omega
  have y3 : 128 ≤ (x1.toNat : Int) := by omega
  have y4 : (x1.toNat : Int) ≤ 191 := by omega
  have y5 : (x2.toNat : Int) < 128 := by omega
  have q1 : (1 : Int) < (s.size : Int) := by omega
  have q2 : (2 : Int) < (s.size : Int) := by omega
  have e0 : bits .and .i32 (x0.toNat : Int) 15 = (x0.toNat : Int) % 16 := and15 (by omega) (by omega)
  have w1 : wrap32 (((x0.toNat : Int) % 16) * 64) = ((x0.toNat : Int) % 16) * 64 := by unfold wrap32; omega
  have o1 : bits .or .i32 (((x0.toNat : Int) % 16) * 64) ((x1.toNat : Int) % 64) = ((x0.toNat : Int) % 16) * 64 + (x1.toNat : Int) % 64 := i32_or6 _ _ (by omega) (by omega) (by omega) (by omega) (by omega)
  have w2 : wrap32 ((((x0.toNat : Int) % 16) * 64 + (x1.toNat : Int) % 64) * 64) = (((x0.toNat : Int) % 16) * 64 + (x1.toNat : Int) % 64) * 64 := by unfold wrap32; omega
  have o2 : bits .or .i32 ((((x0.toNat : Int) % 16) * 64 + (x1.toNat : Int) % 64) * 64) ((x2.toNat : Int) % 64) = (((x0.toNat : Int) % 16) * 64 + (x1.toNat : Int) % 64) * 64 + (x2.toNat : Int) % 64 := i32_or6 _ _ (by omega) (by omega) (by omega) (by omega) (by omega)
  go_enter Tryz.func95, Tryz.ntmps95
  go_wp2
  refine wp_loop_rounds 2 ?_
  rw [rounds_succ]
  go_wp2
  rw [rounds_succ]
  go_wp2
  refine bodyPost_ret (v := .tuple #[.int .i32 (65533), .int .i64 1, .bool true]) (by simp [results, Tryz.results95, go_sem]) rfl ⟨?_, rfl⟩
  refine ret_one ?_ ?_ ?_
  all_goals (first | rfl | (simp [brk]; done) | (simp [brk]; omega) | omega)
set_option maxHeartbeats 2000000 in
set_option maxRecDepth 100000 in
theorem one_D4 (k0 : 224 ≤ x0.toNat) (k1 : x0.toNat ≤ 239) (k2 : 3 ≤ s.size) (k3 : 128 ≤ x1.toNat) (k4 : x1.toNat ≤ 191) (k5 : 128 ≤ x2.toNat) (k6 : 191 < x2.toNat) : Calls Tryz.prog 95 #[.string s] w fun e w' => e = .returned (.tuple #[.int .i32 ((decodeN s.size x0.toNat x1.toNat x2.toNat x3.toNat).1 : Int), .int .i64 ((decodeN s.size x0.toNat x1.toNat x2.toNat x3.toNat).2 : Int), .bool (brk (decodeN s.size x0.toNat x1.toNat x2.toNat x3.toNat))]) ∧ w = w' := by
  have l0 := x0.toNat_lt; have l1 := x1.toNat_lt; have l2 := x2.toNat_lt; have l3 := x3.toNat_lt
  have hD : decodeN s.size x0.toNat x1.toNat x2.toNat x3.toNat = (65533, 1) := by
    unfold decodeN
    repeat' split
    all_goals first | rfl | (exfalso; omega) | (apply Prod.ext <;> simp only <;> omega)
  rw [hD]
  clear hD
  have g1 := h1 (by omega)
  have g2 := h2 (by omega)
  clear h1 h2 h3
  have z0 : (0 : Int) < (s.size : Int) := by omega
  have y0 : 224 ≤ (x0.toNat : Int) := by omega
  have y1 : (x0.toNat : Int) ≤ 239 := by omega
  have y2 : 3 ≤ (s.size : Int) := by omega
  have y3 : 128 ≤ (x1.toNat : Int) := by omega
  have y4 : (x1.toNat : Int) ≤ 191 := by omega
  have y5 : 128 ≤ (x2.toNat : Int) := by omega
  have y6 : 191 < (x2.toNat : Int) := by omega
  have q1 : (1 : Int) < (s.size : Int) := by omega
  have q2 : (2 : Int) < (s.size : Int) := by omega
  have e0 : bits .and .i32 (x0.toNat : Int) 15 = (x0.toNat : Int) % 16 := and15 (by omega) (by omega)
  have w1 : wrap32 (((x0.toNat : Int) % 16) * 64) = ((x0.toNat : Int) % 16) * 64 := by unfold wrap32; omega
  have o1 : bits .or .i32 (((x0.toNat : Int) % 16) * 64) ((x1.toNat : Int) % 64) = ((x0.toNat : Int) % 16) * 64 + (x1.toNat : Int) % 64 := i32_or6 _ _ (by omega) (by omega) (by omega) (by omega) (by omega)
  have w2 : wrap32 ((((x0.toNat : Int) % 16) * 64 + (x1.toNat : Int) % 64) * 64) = (((x0.toNat : Int) % 16) * 64 + (x1.toNat : Int) % 64) * 64 := by unfold wrap32; omega
  have o2 : bits .or .i32 ((((x0.toNat : Int) % 16) * 64 + (x1.toNat : Int) % 64) * 64) ((x2.toNat : Int) % 64) = (((x0.toNat : Int) % 16) * 64 + (x1.toNat : Int) % 64) * 64 + (x2.toNat : Int) % 64 := i32_or6 _ _ (by omega) (by omega) (by omega) (by omega) (by omega)
  go_enter Tryz.func95, Tryz.ntmps95
  go_wp2
  refine wp_loop_rounds 2 ?_
  rw [rounds_succ]
  go_wp2
  rw [rounds_succ]
  go_wp2
  refine bodyPost_ret (v := .tuple #[.int .i32 (65533), .int .i64 1, .bool true]) (by simp [results, Tryz.results95, go_sem]) rfl ⟨?_, rfl⟩
  refine ret_one ?_ ?_ ?_
  all_goals (first | rfl | (simp [brk]; done) | (simp [brk]; omega) | omega)
set_option maxHeartbeats 2000000 in
set_option maxRecDepth 100000 in
theorem one_D5 (k0 : 224 ≤ x0.toNat) (k1 : x0.toNat ≤ 239) (k2 : 3 ≤ s.size) (k3 : 128 ≤ x1.toNat) (k4 : x1.toNat ≤ 191) (k5 : 128 ≤ x2.toNat) (k6 : x2.toNat ≤ 191) (k7 : x0.toNat % 16 * 4096 + x1.toNat % 64 * 64 + x2.toNat % 64 < 2048) : Calls Tryz.prog 95 #[.string s] w fun e w' => e = .returned (.tuple #[.int .i32 ((decodeN s.size x0.toNat x1.toNat x2.toNat x3.toNat).1 : Int), .int .i64 ((decodeN s.size x0.toNat x1.toNat x2.toNat x3.toNat).2 : Int), .bool (brk (decodeN s.size x0.toNat x1.toNat x2.toNat x3.toNat))]) ∧ w = w' := by
  have l0 := x0.toNat_lt; have l1 := x1.toNat_lt; have l2 := x2.toNat_lt; have l3 := x3.toNat_lt
  have hD : decodeN s.size x0.toNat x1.toNat x2.toNat x3.toNat = (65533, 1) := by
    unfold decodeN
    repeat' split
    all_goals first | rfl | (exfalso; omega) | (apply Prod.ext <;> simp only <;> omega)
  rw [hD]
  clear hD
  have g1 := h1 (by omega)
  have g2 := h2 (by omega)
  clear h1 h2 h3
  have z0 : (0 : Int) < (s.size : Int) := by omega
  have y0 : 224 ≤ (x0.toNat : Int) := by omega
  have y1 : (x0.toNat : Int) ≤ 239 := by omega
  have y2 : 3 ≤ (s.size : Int) := by omega
  have y3 : 128 ≤ (x1.toNat : Int) := by omega
  have y4 : (x1.toNat : Int) ≤ 191 := by omega
  have y5 : 128 ≤ (x2.toNat : Int) := by omega
  have y6 : (x2.toNat : Int) ≤ 191 := by omega
  have q1 : (1 : Int) < (s.size : Int) := by omega
  have q2 : (2 : Int) < (s.size : Int) := by omega
  have e0 : bits .and .i32 (x0.toNat : Int) 15 = (x0.toNat : Int) % 16 := and15 (by omega) (by omega)
  have w1 : wrap32 (((x0.toNat : Int) % 16) * 64) = ((x0.toNat : Int) % 16) * 64 := by unfold wrap32; omega
  have o1 : bits .or .i32 (((x0.toNat : Int) % 16) * 64) ((x1.toNat : Int) % 64) = ((x0.toNat : Int) % 16) * 64 + (x1.toNat : Int) % 64 := i32_or6 _ _ (by omega) (by omega) (by omega) (by omega) (by omega)
  have w2 : wrap32 ((((x0.toNat : Int) % 16) * 64 + (x1.toNat : Int) % 64) * 64) = (((x0.toNat : Int) % 16) * 64 + (x1.toNat : Int) % 64) * 64 := by unfold wrap32; omega
  have o2 : bits .or .i32 ((((x0.toNat : Int) % 16) * 64 + (x1.toNat : Int) % 64) * 64) ((x2.toNat : Int) % 64) = (((x0.toNat : Int) % 16) * 64 + (x1.toNat : Int) % 64) * 64 + (x2.toNat : Int) % 64 := i32_or6 _ _ (by omega) (by omega) (by omega) (by omega) (by omega)
  obtain ⟨R, hR⟩ : ∃ R : Int, R = (((x0.toNat : Int) % 16) * 64 + (x1.toNat : Int) % 64) * 64 + (x2.toNat : Int) % 64 := ⟨_, rfl⟩
  rw [← hR] at o2
  have y7 : R < 2048 := by omega
  have HR := hid hR
  clear hR
  go_enter Tryz.func95, Tryz.ntmps95
  go_wp2
  refine wp_loop_rounds 3 ?_
  rw [rounds_succ]
  go_wp2
  rw [rounds_succ]
  go_wp2
  rw [rounds_succ]
  go_wp2
  refine bodyPost_ret (v := .tuple #[.int .i32 (65533), .int .i64 1, .bool true]) (by simp [results, Tryz.results95, go_sem]) rfl ⟨?_, rfl⟩
  refine ret_one ?_ ?_ ?_
  all_goals (try have hR := HR.out)
  all_goals (first | rfl | (simp [brk]; done) | (simp [brk]; omega) | omega)
set_option maxHeartbeats 2000000 in
set_option maxRecDepth 100000 in
theorem one_D6 (k0 : 224 ≤ x0.toNat) (k1 : x0.toNat ≤ 239) (k2 : 3 ≤ s.size) (k3 : 128 ≤ x1.toNat) (k4 : x1.toNat ≤ 191) (k5 : 128 ≤ x2.toNat) (k6 : x2.toNat ≤ 191) (k7 : 2048 ≤ x0.toNat % 16 * 4096 + x1.toNat % 64 * 64 + x2.toNat % 64) (k8 : 55296 ≤ x0.toNat % 16 * 4096 + x1.toNat % 64 * 64 + x2.toNat % 64) (k9 : x0.toNat % 16 * 4096 + x1.toNat % 64 * 64 + x2.toNat % 64 ≤ 57343) : Calls Tryz.prog 95 #[.string s] w fun e w' => e = .returned (.tuple #[.int .i32 ((decodeN s.size x0.toNat x1.toNat x2.toNat x3.toNat).1 : Int), .int .i64 ((decodeN s.size x0.toNat x1.toNat x2.toNat x3.toNat).2 : Int), .bool (brk (decodeN s.size x0.toNat x1.toNat x2.toNat x3.toNat))]) ∧ w = w' := by
  have l0 := x0.toNat_lt; have l1 := x1.toNat_lt; have l2 := x2.toNat_lt; have l3 := x3.toNat_lt
  have hD : decodeN s.size x0.toNat x1.toNat x2.toNat x3.toNat = (65533, 1) := by
    unfold decodeN
    repeat' split
    all_goals first | rfl | (exfalso; omega) | (apply Prod.ext <;> simp only <;> omega)
  rw [hD]
  clear hD
  have g1 := h1 (by omega)
  have g2 := h2 (by omega)
  clear h1 h2 h3
  have z0 : (0 : Int) < (s.size : Int) := by omega
  have y0 : 224 ≤ (x0.toNat : Int) := by omega
  have y1 : (x0.toNat : Int) ≤ 239 := by omega
  have y2 : 3 ≤ (s.size : Int) := by omega
  have y3 : 128 ≤ (x1.toNat : Int) := by omega
  have y4 : (x1.toNat : Int) ≤ 191 := by omega
  have y5 : 128 ≤ (x2.toNat : Int) := by omega
  have y6 : (x2.toNat : Int) ≤ 191 := by omega
  have q1 : (1 : Int) < (s.size : Int) := by omega
  have q2 : (2 : Int) < (s.size : Int) := by omega
  have e0 : bits .and .i32 (x0.toNat : Int) 15 = (x0.toNat : Int) % 16 := and15 (by omega) (by omega)
  have w1 : wrap32 (((x0.toNat : Int) % 16) * 64) = ((x0.toNat : Int) % 16) * 64 := by unfold wrap32; omega
  have o1 : bits .or .i32 (((x0.toNat : Int) % 16) * 64) ((x1.toNat : Int) % 64) = ((x0.toNat : Int) % 16) * 64 + (x1.toNat : Int) % 64 := i32_or6 _ _ (by omega) (by omega) (by omega) (by omega) (by omega)
  have w2 : wrap32 ((((x0.toNat : Int) % 16) * 64 + (x1.toNat : Int) % 64) * 64) = (((x0.toNat : Int) % 16) * 64 + (x1.toNat : Int) % 64) * 64 := by unfold wrap32; omega
  have o2 : bits .or .i32 ((((x0.toNat : Int) % 16) * 64 + (x1.toNat : Int) % 64) * 64) ((x2.toNat : Int) % 64) = (((x0.toNat : Int) % 16) * 64 + (x1.toNat : Int) % 64) * 64 + (x2.toNat : Int) % 64 := i32_or6 _ _ (by omega) (by omega) (by omega) (by omega) (by omega)
  obtain ⟨R, hR⟩ : ∃ R : Int, R = (((x0.toNat : Int) % 16) * 64 + (x1.toNat : Int) % 64) * 64 + (x2.toNat : Int) % 64 := ⟨_, rfl⟩
  rw [← hR] at o2
  have y7 : 2048 ≤ R := by omega
  have y8 : 55296 ≤ R := by omega
  have y9 : R ≤ 57343 := by omega
  have HR := hid hR
  clear hR
  go_enter Tryz.func95, Tryz.ntmps95
  go_wp2
  refine wp_loop_rounds 3 ?_
  rw [rounds_succ]
  go_wp2
  rw [rounds_succ]
  go_wp2
  rw [rounds_succ]
  go_wp2
  refine bodyPost_ret (v := .tuple #[.int .i32 (65533), .int .i64 1, .bool true]) (by simp [results, Tryz.results95, go_sem]) rfl ⟨?_, rfl⟩
  refine ret_one ?_ ?_ ?_
  all_goals (try have hR := HR.out)
  all_goals (first | rfl | (simp [brk]; done) | (simp [brk]; omega) | omega)
set_option maxHeartbeats 2000000 in
set_option maxRecDepth 100000 in
theorem one_D7 (k0 : 224 ≤ x0.toNat) (k1 : x0.toNat ≤ 239) (k2 : 3 ≤ s.size) (k3 : 128 ≤ x1.toNat) (k4 : x1.toNat ≤ 191) (k5 : 128 ≤ x2.toNat) (k6 : x2.toNat ≤ 191) (k7 : 2048 ≤ x0.toNat % 16 * 4096 + x1.toNat % 64 * 64 + x2.toNat % 64) (k8 : x0.toNat % 16 * 4096 + x1.toNat % 64 * 64 + x2.toNat % 64 < 55296) : Calls Tryz.prog 95 #[.string s] w fun e w' => e = .returned (.tuple #[.int .i32 ((decodeN s.size x0.toNat x1.toNat x2.toNat x3.toNat).1 : Int), .int .i64 ((decodeN s.size x0.toNat x1.toNat x2.toNat x3.toNat).2 : Int), .bool (brk (decodeN s.size x0.toNat x1.toNat x2.toNat x3.toNat))]) ∧ w = w' := by
  have l0 := x0.toNat_lt; have l1 := x1.toNat_lt; have l2 := x2.toNat_lt; have l3 := x3.toNat_lt
  have hD : decodeN s.size x0.toNat x1.toNat x2.toNat x3.toNat = (x0.toNat % 16 * 4096 + x1.toNat % 64 * 64 + x2.toNat % 64, 3) := by
    unfold decodeN
    repeat' split
    all_goals first | rfl | (exfalso; omega) | (apply Prod.ext <;> simp only <;> omega)
  rw [hD]
  clear hD
  have g1 := h1 (by omega)
  have g2 := h2 (by omega)
  clear h1 h2 h3
  have z0 : (0 : Int) < (s.size : Int) := by omega
  have y0 : 224 ≤ (x0.toNat : Int) := by omega
  have y1 : (x0.toNat : Int) ≤ 239 := by omega
  have y2 : 3 ≤ (s.size : Int) := by omega
  have y3 : 128 ≤ (x1.toNat : Int) := by omega
  have y4 : (x1.toNat : Int) ≤ 191 := by omega
  have y5 : 128 ≤ (x2.toNat : Int) := by omega
  have y6 : (x2.toNat : Int) ≤ 191 := by omega
  have q1 : (1 : Int) < (s.size : Int) := by omega
  have q2 : (2 : Int) < (s.size : Int) := by omega
  have e0 : bits .and .i32 (x0.toNat : Int) 15 = (x0.toNat : Int) % 16 := and15 (by omega) (by omega)
  have w1 : wrap32 (((x0.toNat : Int) % 16) * 64) = ((x0.toNat : Int) % 16) * 64 := by unfold wrap32; omega
  have o1 : bits .or .i32 (((x0.toNat : Int) % 16) * 64) ((x1.toNat : Int) % 64) = ((x0.toNat : Int) % 16) * 64 + (x1.toNat : Int) % 64 := i32_or6 _ _ (by omega) (by omega) (by omega) (by omega) (by omega)
  have w2 : wrap32 ((((x0.toNat : Int) % 16) * 64 + (x1.toNat : Int) % 64) * 64) = (((x0.toNat : Int) % 16) * 64 + (x1.toNat : Int) % 64) * 64 := by unfold wrap32; omega
  have o2 : bits .or .i32 ((((x0.toNat : Int) % 16) * 64 + (x1.toNat : Int) % 64) * 64) ((x2.toNat : Int) % 64) = (((x0.toNat : Int) % 16) * 64 + (x1.toNat : Int) % 64) * 64 + (x2.toNat : Int) % 64 := i32_or6 _ _ (by omega) (by omega) (by omega) (by omega) (by omega)
  obtain ⟨R, hR⟩ : ∃ R : Int, R = (((x0.toNat : Int) % 16) * 64 + (x1.toNat : Int) % 64) * 64 + (x2.toNat : Int) % 64 := ⟨_, rfl⟩
  rw [← hR] at o2
  have y7 : 2048 ≤ R := by omega
  have y8 : R < 55296 := by omega
  have HR := hid hR
  clear hR
  go_enter Tryz.func95, Tryz.ntmps95
  go_wp2
  refine wp_loop_rounds 3 ?_
  rw [rounds_succ]
  go_wp2
  rw [rounds_succ]
  go_wp2
  rw [rounds_succ]
  go_wp2
  refine bodyPost_ret (v := .tuple #[.int .i32 (R), .int .i64 3, .bool false]) (by simp [results, Tryz.results95, go_sem]) rfl ⟨?_, rfl⟩
  refine ret_one ?_ ?_ ?_
  all_goals (try have hR := HR.out)
  all_goals (first | rfl | (simp [brk]; done) | (simp [brk]; omega) | omega)
set_option maxHeartbeats 2000000 in
set_option maxRecDepth 100000 in
theorem one_D8 (k0 : 224 ≤ x0.toNat) (k1 : x0.toNat ≤ 239) (k2 : 3 ≤ s.size) (k3 : 128 ≤ x1.toNat) (k4 : x1.toNat ≤ 191) (k5 : 128 ≤ x2.toNat) (k6 : x2.toNat ≤ 191) (k7 : 2048 ≤ x0.toNat % 16 * 4096 + x1.toNat % 64 * 64 + x2.toNat % 64) (k8 : 55296 ≤ x0.toNat % 16 * 4096 + x1.toNat % 64 * 64 + x2.toNat % 64) (k9 : 57343 < x0.toNat % 16 * 4096 + x1.toNat % 64 * 64 + x2.toNat % 64) : Calls Tryz.prog 95 #[.string s] w fun e w' => e = .returned (.tuple #[.int .i32 ((decodeN s.size x0.toNat x1.toNat x2.toNat x3.toNat).1 : Int), .int .i64 ((decodeN s.size x0.toNat x1.toNat x2.toNat x3.toNat).2 : Int), .bool (brk (decodeN s.size x0.toNat x1.toNat x2.toNat x3.toNat))]) ∧ w = w' := by
  have l0 := x0.toNat_lt; have l1 := x1.toNat_lt; have l2 := x2.toNat_lt; have l3 := x3.toNat_lt
  have hD : decodeN s.size x0.toNat x1.toNat x2.toNat x3.toNat = (x0.toNat % 16 * 4096 + x1.toNat % 64 * 64 + x2.toNat % 64, 3) := by
    unfold decodeN
    repeat' split
    all_goals first | rfl | (exfalso; omega) | (apply Prod.ext <;> simp only <;> omega)
  rw [hD]
  clear hD
  have g1 := h1 (by omega)
  have g2 := h2 (by omega)
  clear h1 h2 h3
  have z0 : (0 : Int) < (s.size : Int) := by omega
  have y0 : 224 ≤ (x0.toNat : Int) := by omega
  have y1 : (x0.toNat : Int) ≤ 239 := by omega
  have y2 : 3 ≤ (s.size : Int) := by omega
  have y3 : 128 ≤ (x1.toNat : Int) := by omega
  have y4 : (x1.toNat : Int) ≤ 191 := by omega
  have y5 : 128 ≤ (x2.toNat : Int) := by omega
  have y6 : (x2.toNat : Int) ≤ 191 := by omega
  have q1 : (1 : Int) < (s.size : Int) := by omega
  have q2 : (2 : Int) < (s.size : Int) := by omega
  have e0 : bits .and .i32 (x0.toNat : Int) 15 = (x0.toNat : Int) % 16 := and15 (by omega) (by omega)
  have w1 : wrap32 (((x0.toNat : Int) % 16) * 64) = ((x0.toNat : Int) % 16) * 64 := by unfold wrap32; omega
  have o1 : bits .or .i32 (((x0.toNat : Int) % 16) * 64) ((x1.toNat : Int) % 64) = ((x0.toNat : Int) % 16) * 64 + (x1.toNat : Int) % 64 := i32_or6 _ _ (by omega) (by omega) (by omega) (by omega) (by omega)
  have w2 : wrap32 ((((x0.toNat : Int) % 16) * 64 + (x1.toNat : Int) % 64) * 64) = (((x0.toNat : Int) % 16) * 64 + (x1.toNat : Int) % 64) * 64 := by unfold wrap32; omega
  have o2 : bits .or .i32 ((((x0.toNat : Int) % 16) * 64 + (x1.toNat : Int) % 64) * 64) ((x2.toNat : Int) % 64) = (((x0.toNat : Int) % 16) * 64 + (x1.toNat : Int) % 64) * 64 + (x2.toNat : Int) % 64 := i32_or6 _ _ (by omega) (by omega) (by omega) (by omega) (by omega)
  obtain ⟨R, hR⟩ : ∃ R : Int, R = (((x0.toNat : Int) % 16) * 64 + (x1.toNat : Int) % 64) * 64 + (x2.toNat : Int) % 64 := ⟨_, rfl⟩
  rw [← hR] at o2
  have y7 : 2048 ≤ R := by omega
  have y8 : 55296 ≤ R := by omega
  have y9 : 57343 < R := by omega
  have HR := hid hR
  clear hR
  go_enter Tryz.func95, Tryz.ntmps95
  go_wp2
  refine wp_loop_rounds 3 ?_
  rw [rounds_succ]
  go_wp2
  rw [rounds_succ]
  go_wp2
  rw [rounds_succ]
  go_wp2
  refine bodyPost_ret (v := .tuple #[.int .i32 (R), .int .i64 3, .bool false]) (by simp [results, Tryz.results95, go_sem]) rfl ⟨?_, rfl⟩
  refine ret_one ?_ ?_ ?_
  all_goals (try have hR := HR.out)
  all_goals (first | rfl | (simp [brk]; done) | (simp [brk]; omega) | omega)
set_option maxHeartbeats 2000000 in
set_option maxRecDepth 100000 in
theorem one_E0 (k0 : 240 ≤ x0.toNat) (k1 : x0.toNat ≤ 244) (k2 : s.size < 4) : Calls Tryz.prog 95 #[.string s] w fun e w' => e = .returned (.tuple #[.int .i32 ((decodeN s.size x0.toNat x1.toNat x2.toNat x3.toNat).1 : Int), .int .i64 ((decodeN s.size x0.toNat x1.toNat x2.toNat x3.toNat).2 : Int), .bool (brk (decodeN s.size x0.toNat x1.toNat x2.toNat x3.toNat))]) ∧ w = w' := by
  have l0 := x0.toNat_lt; have l1 := x1.toNat_lt; have l2 := x2.toNat_lt; have l3 := x3.toNat_lt
  have hD : decodeN s.size x0.toNat x1.toNat x2.toNat x3.toNat = (65533, 1) := by
    unfold decodeN
    repeat' split
    all_goals first | rfl | (exfalso; omega) | (apply Prod.ext <;> simp only <;> omega)
  rw [hD]
  clear hD
  clear h1 h2 h3
  have z0 : (0 : Int) < (s.size : Int) := by omega
  have y0 : 240 ≤ (x0.toNat : Int) := by omega
  have y1 : (x0.toNat : Int) ≤ 244 := by omega
  have y2 : (s.size : Int) < 4 := by omega
  go_enter Tryz.func95, Tryz.ntmps95
  go_wp2
  refine bodyPost_ret (v := .tuple #[.int .i32 (65533), .int .i64 1, .bool true]) (by simp [results, Tryz.results95, go_sem]) rfl ⟨?_, rfl⟩
  refine ret_one ?_ ?_ ?_
  all_goals (first | rfl | (simp [brk]; done) | (simp [brk]; omega) | omega)
set_option maxHeartbeats 2000000 in
set_option maxRecDepth 100000 in
theorem one_E1 (k0 : 240 ≤ x0.toNat) (k1 : x0.toNat ≤ 244) (k2 : 4 ≤ s.size) (k3 : x1.toNat < 128) : Calls Tryz.prog 95 #[.string s] w fun e w' => e = .returned (.tuple #[.int .i32 ((decodeN s.size x0.toNat x1.toNat x2.toNat x3.toNat).1 : Int), .int .i64 ((decodeN s.size x0.toNat x1.toNat x2.toNat x3.toNat).2 : Int), .bool (brk (decodeN s.size x0.toNat x1.toNat x2.toNat x3.toNat))]) ∧ w = w' := by
  have l0 := x0.toNat_lt; have l1 := x1.toNat_lt; have l2 := x2.toNat_lt; have l3 := x3.toNat_lt
  have hD : decodeN s.size x0.toNat x1.toNat x2.toNat x3.toNat = (65533, 1) := by
    unfold decodeN
    repeat' split
    all_goals first | rfl | (exfalso; omega) | (apply Prod.ext <;> simp only <;> omega)
  rw [hD]
  clear hD
  have g1 := h1 (by omega)
  have g2 := h2 (by omega)
  have g3 := h3 (by omega)
  clear h1 h2 h3
  have z0 : (0 : Int) < (s.size : Int) := by omega
  have y0 : 240 ≤ (x0.toNat : Int) := by omega
  have y1 : (x0.toNat : Int) ≤ 244 := by omega
  have y2 : 4 ≤ (s.size : Int) := by omega
  have y3 : (x1.toNat : Int) < 128 := by omega
  have q1 : (1 : Int) < (s.size : Int) := by omega
  have q2 : (2 : Int) < (s.size : Int) := by omega
  have q3 : (3 : Int) < (s.size : Int) := by omega
  have e0 : bits .and .i32 (x0.toNat : Int) 7 = (x0.toNat : Int) % 8 := and7 (by omega) (by omega)
  have w1 : wrap32 (((x0.toNat : Int) % 8) * 64) = ((x0.toNat : Int) % 8) * 64 := by unfold wrap32; omega
  have o1 : bits .or .i32 (((x0.toNat : Int) % 8) * 64) ((x1.toNat : Int) % 64) = ((x0.toNat : Int) % 8) * 64 + (x1.toNat : Int) % 64 := i32_or6 _ _ (by omega) (by omega) (by omega) (by omega) (by omega)
  have w2 : wrap32 ((((x0.toNat : Int) % 8) * 64 + (x1.toNat : Int) % 64) * 64) = (((x0.toNat : Int) % 8) * 64 + (x1.toNat : Int) % 64) * 64 := by unfold wrap32; omega
  have o2 : bits .or .i32 ((((x0.toNat : Int) % 8) * 64 + (x1.toNat : Int) % 64) * 64) ((x2.toNat : Int) % 64) = (((x0.toNat : Int) % 8) * 64 + (x1.toNat : Int) % 64) * 64 + (x2.toNat : Int) % 64 := i32_or6 _ _ (by omega) (by omega) (by omega) (by omega) (by omega)
  have w3 : wrap32 (((((x0.toNat : Int) % 8) * 64 + (x1.toNat : Int) % 64) * 64 + (x2.toNat : Int) % 64) * 64) = ((((x0.toNat : Int) % 8) * 64 + (x1.toNat : Int) % 64) * 64 + (x2.toNat : Int) % 64) * 64 := by unfold wrap32; omega
  have o3 : bits .or .i32 (((((x0.toNat : Int) % 8) * 64 + (x1.toNat : Int) % 64) * 64 + (x2.toNat : Int) % 64) * 64) ((x3.toNat : Int) % 64) = ((((x0.toNat : Int) % 8) * 64 + (x1.toNat : Int) % 64) * 64 + (x2.toNat : Int) % 64) * 64 + (x3.toNat : Int) % 64 := i32_or6 _ _ (by omega) (by omega) (by omega) (by omega) (by omega)
  go_enter Tryz.func95, Tryz.ntmps95
  go_wp2
  refine wp_loop_rounds 1 ?_
  rw [rounds_succ]
  go_wp2
  refine bodyPost_ret (v := .tuple #[.int .i32 (65533), .int .i64 1, .bool true]) (by simp [results, Tryz.results95, go_sem]) rfl ⟨?_, rfl⟩
  refine ret_one ?_ ?_ ?_
  all_goals (first | rfl | (simp [brk]; done) | (simp [brk]; omega) | omega)
set_option maxHeartbeats 2000000 in
set_option maxRecDepth 100000 in
theorem one_E2 (k0 : 240 ≤ x0.toNat) (k1 : x0.toNat ≤ 244) (k2 : 4 ≤ s.size) (k3 : 128 ≤ x1.toNat) (k4 : 191 < x1.toNat) : Calls Tryz.prog 95 #[.string s] w fun e w' => e = .returned (.tuple #[.int .i32 ((decodeN s.size x0.toNat x1.toNat x2.toNat x3.toNat).1 : Int), .int .i64 ((decodeN s.size x0.toNat x1.toNat x2.toNat x3.toNat).2 : Int), .bool (brk (decodeN s.size x0.toNat x1.toNat x2.toNat x3.toNat))]) ∧ w = w' := by
  have l0 := x0.toNat_lt; have l1 := x1.toNat_lt; have l2 := x2.toNat_lt; have l3 := x3.toNat_lt
  have hD : decodeN s.size x0.toNat x1.toNat x2.toNat x3.toNat = (65533, 1) := by
    unfold decodeN
    repeat' split
    all_goals first | rfl | (exfalso; omega) | (apply Prod.ext <;> simp only <;> omega)
  rw [hD]
  clear hD
  have g1 := h1 (by omega)
  have g2 := h2 (by omega)
  have g3 := h3 (by omega)
  clear h1 h2 h3
  have z0 : (0 : Int) < (s.size : Int) := by omega
  have y0 : 240 ≤ (x0.toNat : Int) := by omega
  have y1 : (x0.toNat : Int) ≤ 244 := by omega
  have y2 : 4 ≤ (s.size : Int) := by omega
  have y3 : 128 ≤ (x1.toNat : Int) := by omega
  have y4 : 191 < (x1.toNat : Int) := by omega
  have q1 : (1 : Int) < (s.size : Int) := by omega
  have q2 : (2 : Int) < (s.size : Int) := by omega
  have q3 : (3 : Int) < (s.size : Int) := by omega
  have e0 : bits .and .i32 (x0.toNat : Int) 7 = (x0.toNat : Int) % 8 := and7 (by omega) (by omega)
  have w1 : wrap32 (((x0.toNat : Int) % 8) * 64) = ((x0.toNat : Int) % 8) * 64 := by unfold wrap32; omega
  have o1 : bits .or .i32 (((x0.toNat : Int) % 8) * 64) ((x1.toNat : Int) % 64) = ((x0.toNat : Int) % 8) * 64 + (x1.toNat : Int) % 64 := i32_or6 _ _ (by omega) (by omega) (by omega) (by omega) (by omega)
  have w2 : wrap32 ((((x0.toNat : Int) % 8) * 64 + (x1.toNat : Int) % 64) * 64) = (((x0.toNat : Int) % 8) * 64 + (x1.toNat : Int) % 64) * 64 := by unfold wrap32; omega
  have o2 : bits .or .i32 ((((x0.toNat : Int) % 8) * 64 + (x1.toNat : Int) % 64) * 64) ((x2.toNat : Int) % 64) = (((x0.toNat : Int) % 8) * 64 + (x1.toNat : Int) % 64) * 64 + (x2.toNat : Int) % 64 := i32_or6 _ _ (by omega) (by omega) (by omega) (by omega) (by omega)
  have w3 : wrap32 (((((x0.toNat : Int) % 8) * 64 + (x1.toNat : Int) % 64) * 64 + (x2.toNat : Int) % 64) * 64) = ((((x0.toNat : Int) % 8) * 64 + (x1.toNat : Int) % 64) * 64 + (x2.toNat : Int) % 64) * 64 := by unfold wrap32; omega
  have o3 : bits .or .i32 (((((x0.toNat : Int) % 8) * 64 + (x1.toNat : Int) % 64) * 64 + (x2.toNat : Int) % 64) * 64) ((x3.toNat : Int) % 64) = ((((x0.toNat : Int) % 8) * 64 + (x1.toNat : Int) % 64) * 64 + (x2.toNat : Int) % 64) * 64 + (x3.toNat : Int) % 64 := i32_or6 _ _ (by omega) (by omega) (by omega) (by omega) (by omega)
  go_enter Tryz.func95, Tryz.ntmps95
  go_wp2
  refine wp_loop_rounds 1 ?_
  rw [rounds_succ]
  go_wp2
  refine bodyPost_ret (v := .tuple #[.int .i32 (65533), .int .i64 1, .bool true]) (by simp [results, Tryz.results95, go_sem]) rfl ⟨?_, rfl⟩
  refine ret_one ?_ ?_ ?_
  all_goals (first | rfl | (simp [brk]; done) | (simp [brk]; omega) | omega)
set_option maxHeartbeats 2000000 in
set_option maxRecDepth 100000 in
theorem one_E3 (k0 : 240 ≤ x0.toNat) (k1 : x0.toNat ≤ 244) (k2 : 4 ≤ s.size) (k3 : 128 ≤ x1.toNat) (k4 : x1.toNat ≤ 191) (k5 : x2.toNat < 128) : Calls Tryz.prog 95 #[.string s] w fun e w' => e = .returned (.tuple #[.int .i32 ((decodeN s.size x0.toNat x1.toNat x2.toNat x3.toNat).1 : Int), .int .i64 ((decodeN s.size x0.toNat x1.toNat x2.toNat x3.toNat).2 : Int), .bool (brk (decodeN s.size x0.toNat x1.toNat x2.toNat x3.toNat))]) ∧ w = w' := by
  have l0 := x0.toNat_lt; have l1 := x1.toNat_lt; have l2 := x2.toNat_lt; have l3 := x3.toNat_lt
  have hD : decodeN s.size x0.toNat x1.toNat x2.toNat x3.toNat = (65533, 1) := by
    unfold decodeN
    repeat' split
    all_goals first | rfl | (exfalso; omega) | (apply Prod.ext <;> simp only <;> omega)
  rw [hD]
  clear hD
  have g1 := h1 (by omega)
  have g2 := h2 (by omega)
  have g3 := h3 (by omega)
  clear h1 h2 h3
  have z0 : (0 : Int) < (s.size : Int) := by omega
  have y0 : 240 ≤ (x0.toNat : Int) := by omega
  have y1 : (x0.toNat : Int) ≤ 244 := by omega
  have y2 : 4 ≤ (s.size : Int) := by omega
  have y3 : 128 ≤ (x1.toNat : Int) := by omega
  have y4 : (x1.toNat : Int) ≤ 191 := by omega
  have y5 : (x2.toNat : Int) < 128 := by omega
  have q1 : (1 : Int) < (s.size : Int) := by omega
  have q2 : (2 : Int) < (s.size : Int) := by omega
  have q3 : (3 : Int) < (s.size : Int) := by omega
  have e0 : bits .and .i32 (x0.toNat : Int) 7 = (x0.toNat : Int) % 8 := and7 (by omega) (by omega)
  have w1 : wrap32 (((x0.toNat : Int) % 8) * 64) = ((x0.toNat : Int) % 8) * 64 := by unfold wrap32; omega
  have o1 : bits .or .i32 (((x0.toNat : Int) % 8) * 64) ((x1.toNat : Int) % 64) = ((x0.toNat : Int) % 8) * 64 + (x1.toNat : Int) % 64 := i32_or6 _ _ (by omega) (by omega) (by omega) (by omega) (by omega)
  have w2 : wrap32 ((((x0.toNat : Int) % 8) * 64 + (x1.toNat : Int) % 64) * 64) = (((x0.toNat : Int) % 8) * 64 + (x1.toNat : Int) % 64) * 64 := by unfold wrap32; omega
  have o2 : bits .or .i32 ((((x0.toNat : Int) % 8) * 64 + (x1.toNat : Int) % 64) * 64) ((x2.toNat : Int) % 64) = (((x0.toNat : Int) % 8) * 64 + (x1.toNat : Int) % 64) * 64 + (x2.toNat : Int) % 64 := i32_or6 _ _ (by omega) (by omega) (by omega) (by omega) (by omega)
  have w3 : wrap32 (((((x0.toNat : Int) % 8) * 64 + (x1.toNat : Int) % 64) * 64 + (x2.toNat : Int) % 64) * 64) = ((((x0.toNat : Int) % 8) * 64 + (x1.toNat : Int) % 64) * 64 + (x2.toNat : Int) % 64) * 64 := by unfold wrap32; omega
  have o3 : bits .or .i32 (((((x0.toNat : Int) % 8) * 64 + (x1.toNat : Int) % 64) * 64 + (x2.toNat : Int) % 64) * 64) ((x3.toNat : Int) % 64) = ((((x0.toNat : Int) % 8) * 64 + (x1.toNat : Int) % 64) * 64 + (x2.toNat : Int) % 64) * 64 + (x3.toNat : Int) % 64 := i32_or6 _ _ (by omega) (by omega) (by omega) (by omega) (by omega)
  go_enter Tryz.func95, Tryz.ntmps95
  go_wp2
  refine wp_loop_rounds 2 ?_
  rw [rounds_succ]
  go_wp2
  rw [rounds_succ]
  go_wp2
  refine bodyPost_ret (v := .tuple #[.int .i32 (65533), .int .i64 1, .bool true]) (by simp [results, Tryz.results95, go_sem]) rfl ⟨?_, rfl⟩
  refine ret_one ?_ ?_ ?_
  all_goals (first | rfl | (simp [brk]; done) | (simp [brk]; omega) | omega)
set_option maxHeartbeats 2000000 in
set_option maxRecDepth 100000 in
theorem one_E4 (k0 : 240 ≤ x0.toNat) (k1 : x0.toNat ≤ 244) (k2 : 4 ≤ s.size) (k3 : 128 ≤ x1.toNat) (k4 : x1.toNat ≤ 191) (k5 : 128 ≤ x2.toNat) (k6 : 191 < x2.toNat) : Calls Tryz.prog 95 #[.string s] w fun e w' => e = .returned (.tuple #[.int .i32 ((decodeN s.size x0.toNat x1.toNat x2.toNat x3.toNat).1 : Int), .int .i64 ((decodeN s.size x0.toNat x1.toNat x2.toNat x3.toNat).2 : Int), .bool (brk (decodeN s.size x0.toNat x1.toNat x2.toNat x3.toNat))]) ∧ w = w' := by
  have l0 := x0.toNat_lt; have l1 := x1.toNat_lt; have l2 := x2.toNat_lt; have l3 := x3.toNat_lt
  have hD : decodeN s.size x0.toNat x1.toNat x2.toNat x3.toNat = (65533, 1) := by
    unfold decodeN
    repeat' split
    all_goals first | rfl | (exfalso; omega) | (apply Prod.ext <;> simp only <;> omega)
  rw [hD]
  clear hD
  have g1 := h1 (by omega)
  have g2 := h2 (by omega)
  have g3 := h3 (by omega)
  clear h1 h2 h3
  have z0 : (0 : Int) < (s.size : Int) := by omega
  have y0 : 240 ≤ (x0.toNat : Int) := by omega
  have y1 : (x0.toNat : Int) ≤ 244 := by omega
  have y2 : 4 ≤ (s.size : Int) := by omega
  have y3 : 128 ≤ (x1.toNat : Int) := by omega
  have y4 : (x1.toNat : Int) ≤ 191 := by omega
  have y5 : 128 ≤ (x2.toNat : Int) := by omega
  have y6 : 191 < (x2.toNat : Int) := by omega
  have q1 : (1 : Int) < (s.size : Int) := by omega
  have q2 : (2 : Int) < (s.size : Int) := by omega
  have q3 : (3 : Int) < (s.size : Int) := by omega
  have e0 : bits .and .i32 (x0.toNat : Int) 7 = (x0.toNat : Int) % 8 := and7 (by omega) (by omega)
  have w1 : wrap32 (((x0.toNat : Int) % 8) * 64) = ((x0.toNat : Int) % 8) * 64 := by unfold wrap32; omega
  have o1 : bits .or .i32 (((x0.toNat : Int) % 8) * 64) ((x1.toNat : Int) % 64) = ((x0.toNat : Int) % 8) * 64 + (x1.toNat : Int) % 64 := i32_or6 _ _ (by omega) (by omega) (by omega) (by omega) (by omega)
  have w2 : wrap32 ((((x0.toNat : Int) % 8) * 64 + (x1.toNat : Int) % 64) * 64) = (((x0.toNat : Int) % 8) * 64 + (x1.toNat : Int) % 64) * 64 := by unfold wrap32; omega
  have o2 : bits .or .i32 ((((x0.toNat : Int) % 8) * 64 + (x1.toNat : Int) % 64) * 64) ((x2.toNat : Int) % 64) = (((x0.toNat : Int) % 8) * 64 + (x1.toNat : Int) % 64) * 64 + (x2.toNat : Int) % 64 := i32_or6 _ _ (by omega) (by omega) (by omega) (by omega) (by omega)
  have w3 : wrap32 (((((x0.toNat : Int) % 8) * 64 + (x1.toNat : Int) % 64) * 64 + (x2.toNat : Int) % 64) * 64) = ((((x0.toNat : Int) % 8) * 64 + (x1.toNat : Int) % 64) * 64 + (x2.toNat : Int) % 64) * 64 := by unfold wrap32; omega
  have o3 : bits .or .i32 (((((x0.toNat : Int) % 8) * 64 + (x1.toNat : Int) % 64) * 64 + (x2.toNat : Int) % 64) * 64) ((x3.toNat : Int) % 64) = ((((x0.toNat : Int) % 8) * 64 + (x1.toNat : Int) % 64) * 64 + (x2.toNat : Int) % 64) * 64 + (x3.toNat : Int) % 64 := i32_or6 _ _ (by omega) (by omega) (by omega) (by omega) (by omega)
  go_enter Tryz.func95, Tryz.ntmps95
  go_wp2
  refine wp_loop_rounds 2 ?_
  rw [rounds_succ]
  go_wp2
  rw [rounds_succ]
  go_wp2
  refine bodyPost_ret (v := .tuple #[.int .i32 (65533), .int .i64 1, .bool true]) (by simp [results, Tryz.results95, go_sem]) rfl ⟨?_, rfl⟩
  refine ret_one ?_ ?_ ?_
  all_goals (first | rfl | (simp [brk]; done) | (simp [brk]; omega) | omega)
set_option maxHeartbeats 2000000 in
set_option maxRecDepth 100000 in
theorem one_E5 (k0 : 240 ≤ x0.toNat) (k1 : x0.toNat ≤ 244) (k2 : 4 ≤ s.size) (k3 : 128 ≤ x1.toNat) (k4 : x1.toNat ≤ 191) (k5 : 128 ≤ x2.toNat) (k6 : x2.toNat ≤ 191) (k7 : x3.toNat < 128) : Calls Tryz.prog 95 #[.string s] w fun e w' => e = .returned (.tuple #[.int .i32 ((decodeN s.size x0.toNat x1.toNat x2.toNat x3.toNat).1 : Int), .int .i64 ((decodeN s.size x0.toNat x1.toNat x2.toNat x3.toNat).2 : Int), .bool (brk (decodeN s.size x0.toNat x1.toNat x2.toNat x3.toNat))]) ∧ w = w' := by
  have l0 := x0.toNat_lt; have l1 := x1.toNat_lt; have l2 := x2.toNat_lt; have l3 := x3.toNat_lt
  have hD : decodeN s.size x0.toNat x1.toNat x2.toNat x3.toNat = (65533, 1) := by
    unfold decodeN
    repeat' split
    all_goals first | rfl | (exfalso; omega) | (apply Prod.ext <;> simp only <;> omega)
  rw [hD]
  clear hD
  have g1 := h1 (by omega)
  have g2 := h2 (by omega)
  have g3 := h3 (by omega)
  clear h1 h2 h3
  have z0 : (0 : Int) < (s.size : Int) := by omega
  have y0 : 240 ≤ (x0.toNat : Int) := by omega
  have y1 : (x0.toNat : Int) ≤ 244 := by omega
  have y2 : 4 ≤ (s.size : Int) := by omega
  have y3 : 128 ≤ (x1.toNat : Int) := by omega
  have y4 : (x1.toNat : Int) ≤ 191 := by omega
  have y5 : 128 ≤ (x2.toNat : Int) := by omega
  have y6 : (x2.toNat : Int) ≤ 191 := by omega
  have y7 : (x3.toNat : Int) < 128 := by omega
  have q1 : (1 : Int) < (s.size : Int) := by omega
  have q2 : (2 : Int) < (s.size : Int) := by omega
  have q3 : (3 : Int) < (s.size : Int) := by omega
  have e0 : bits .and .i32 (x0.toNat : Int) 7 = (x0.toNat : Int) % 8 := and7 (by omega) (by omega)
  have w1 : wrap32 (((x0.toNat : Int) % 8) * 64) = ((x0.toNat : Int) % 8) * 64 := by unfold wrap32; omega
  have o1 : bits .or .i32 (((x0.toNat : Int) % 8) * 64) ((x1.toNat : Int) % 64) = ((x0.toNat : Int) % 8) * 64 + (x1.toNat : Int) % 64 := i32_or6 _ _ (by omega) (by omega) (by omega) (by omega) (by omega)
  have w2 : wrap32 ((((x0.toNat : Int) % 8) * 64 + (x1.toNat : Int) % 64) * 64) = (((x0.toNat : Int) % 8) * 64 + (x1.toNat : Int) % 64) * 64 := by unfold wrap32; omega
  have o2 : bits .or .i32 ((((x0.toNat : Int) % 8) * 64 + (x1.toNat : Int) % 64) * 64) ((x2.toNat : Int) % 64) = (((x0.toNat : Int) % 8) * 64 + (x1.toNat : Int) % 64) * 64 + (x2.toNat : Int) % 64 := i32_or6 _ _ (by omega) (by omega) (by omega) (by omega) (by omega)
  have w3 : wrap32 (((((x0.toNat : Int) % 8) * 64 + (x1.toNat : Int) % 64) * 64 + (x2.toNat : Int) % 64) * 64) = ((((x0.toNat : Int) % 8) * 64 + (x1.toNat : Int) % 64) * 64 + (x2.toNat : Int) % 64) * 64 := by unfold wrap32; omega
  have o3 : bits .or .i32 (((((x0.toNat : Int) % 8) * 64 + (x1.toNat : Int) % 64) * 64 + (x2.toNat : Int) % 64) * 64) ((x3.toNat : Int) % 64) = ((((x0.toNat : Int) % 8) * 64 + (x1.toNat : Int) % 64) * 64 + (x2.toNat : Int) % 64) * 64 + (x3.toNat : Int) % 64 := i32_or6 _ _ (by omega) (by omega) (by omega) (by omega) (by omega)
  go_enter Tryz.func95, Tryz.ntmps95
  go_wp2
  refine wp_loop_rounds 3 ?_
  rw [rounds_succ]
  go_wp2
  rw [rounds_succ]
  go_wp2
  rw [rounds_succ]
  go_wp2
  refine bodyPost_ret (v := .tuple #[.int .i32 (65533), .int .i64 1, .bool true]) (by simp [results, Tryz.results95, go_sem]) rfl ⟨?_, rfl⟩
  refine ret_one ?_ ?_ ?_
  all_goals (first | rfl | (simp [brk]; done) | (simp [brk]; omega) | omega)
set_option maxHeartbeats 2000000 in
set_option maxRecDepth 100000 in
theorem one_E6 (k0 : 240 ≤ x0.toNat) (k1 : x0.toNat ≤ 244) (k2 : 4 ≤ s.size) (k3 : 128 ≤ x1.toNat) (k4 : x1.toNat ≤ 191) (k5 : 128 ≤ x2.toNat) (k6 : x2.toNat ≤ 191) (k7 : 128 ≤ x3.toNat) (k8 : 191 < x3.toNat) : Calls Tryz.prog 95 #[.string s] w fun e w' => e = .returned (.tuple #[.int .i32 ((decodeN s.size x0.toNat x1.toNat x2.toNat x3.toNat).1 : Int), .int .i64 ((decodeN s.size x0.toNat x1.toNat x2.toNat x3.toNat).2 : Int), .bool (brk (decodeN s.size x0.toNat x1.toNat x2.toNat x3.toNat))]) ∧ w = w' := by
  have l0 := x0.toNat_lt; have l1 := x1.toNat_lt; have l2 := x2.toNat_lt; have l3 := x3.toNat_lt
  have hD : decodeN s.size x0.toNat x1.toNat x2.toNat x3.toNat = (65533, 1) := by
    unfold decodeN
    repeat' split
    all_goals first | rfl | (exfalso; omega) | (apply Prod.ext <;> simp only <;> omega)
  rw [hD]
  clear hD
  have g1 := h1 (by omega)
  have g2 := h2 (by omega)
  have g3 := h3 (by omega)
  clear h1 h2 h3
  have z0 : (0 : Int) < (s.size : Int) := by omega
  have y0 : 240 ≤ (x0.toNat : Int) := by omega
  have y1 : (x0.toNat : Int) ≤ 244 := by omega
  have y2 : 4 ≤ (s.size : Int) := by omega
  have y3 : 128 ≤ (x1.toNat : Int) := by omega
  have y4 : (x1.toNat : Int) ≤ 191 := by omega
  have y5 : 128 ≤ (x2.toNat : Int) := by omega
  have y6 : (x2.toNat : Int) ≤ 191 := by omega
  have y7 : 128 ≤ (x3.toNat : Int) := by omega
  have y8 : 191 < (x3.toNat : Int) := by omega
  have q1 : (1 : Int) < (s.size : Int) := by omega
  have q2 : (2 : Int) < (s.size : Int) := by omega
  have q3 : (3 : Int) < (s.size : Int) := by omega
  have e0 : bits .and .i32 (x0.toNat : Int) 7 = (x0.toNat : Int) % 8 := and7 (by omega) (by omega)
  have w1 : wrap32 (((x0.toNat : Int) % 8) * 64) = ((x0.toNat : Int) % 8) * 64 := by unfold wrap32; omega
  have o1 : bits .or .i32 (((x0.toNat : Int) % 8) * 64) ((x1.toNat : Int) % 64) = ((x0.toNat : Int) % 8) * 64 + (x1.toNat : Int) % 64 := i32_or6 _ _ (by omega) (by omega) (by omega) (by omega) (by omega)
  have w2 : wrap32 ((((x0.toNat : Int) % 8) * 64 + (x1.toNat : Int) % 64) * 64) = (((x0.toNat : Int) % 8) * 64 + (x1.toNat : Int) % 64) * 64 := by unfold wrap32; omega
  have o2 : bits .or .i32 ((((x0.toNat : Int) % 8) * 64 + (x1.toNat : Int) % 64) * 64) ((x2.toNat : Int) % 64) = (((x0.toNat : Int) % 8) * 64 + (x1.toNat : Int) % 64) * 64 + (x2.toNat : Int) % 64 := i32_or6 _ _ (by omega) (by omega) (by omega) (by omega) (by omega)
  have w3 : wrap32 (((((x0.toNat : Int) % 8) * 64 + (x1.toNat : Int) % 64) * 64 + (x2.toNat : Int) % 64) * 64) = ((((x0.toNat : Int) % 8) * 64 + (x1.toNat : Int) % 64) * 64 + (x2.toNat : Int) % 64) * 64 := by unfold wrap32; omega
  have o3 : bits .or .i32 (((((x0.toNat : Int) % 8) * 64 + (x1.toNat : Int) % 64) * 64 + (x2.toNat : Int) % 64) * 64) ((x3.toNat : Int) % 64) = ((((x0.toNat : Int) % 8) * 64 + (x1.toNat : Int) % 64) * 64 + (x2.toNat : Int) % 64) * 64 + (x3.toNat : Int) % 64 := i32_or6 _ _ (by omega) (by omega) (by omega) (by omega) (by omega)
  go_enter Tryz.func95, Tryz.ntmps95
  go_wp2
  refine wp_loop_rounds 3 ?_
  rw [rounds_succ]
  go_wp2
  rw [rounds_succ]
  go_wp2
  rw [rounds_succ]
  go_wp2
  refine bodyPost_ret (v := .tuple #[.int .i32 (65533), .int .i64 1, .bool true]) (by simp [results, Tryz.results95, go_sem]) rfl ⟨?_, rfl⟩
  refine ret_one ?_ ?_ ?_
  all_goals (first | rfl | (simp [brk]; done) | (simp [brk]; omega) | omega)
set_option maxHeartbeats 2000000 in
set_option maxRecDepth 100000 in
theorem one_E7 (k0 : 240 ≤ x0.toNat) (k1 : x0.toNat ≤ 244) (k2 : 4 ≤ s.size) (k3 : 128 ≤ x1.toNat) (k4 : x1.toNat ≤ 191) (k5 : 128 ≤ x2.toNat) (k6 : x2.toNat ≤ 191) (k7 : 128 ≤ x3.toNat) (k8 : x3.toNat ≤ 191) (k9 : x0.toNat % 8 * 262144 + x1.toNat % 64 * 4096 + x2.toNat % 64 * 64 + x3.toNat % 64 < 65536) : Calls Tryz.prog 95 #[.string s] w fun e w' => e = .returned (.tuple #[.int .i32 ((decodeN s.size x0.toNat x1.toNat x2.toNat x3.toNat).1 : Int), .int .i64 ((decodeN s.size x0.toNat x1.toNat x2.toNat x3.toNat).2 : Int), .bool (brk (decodeN s.size x0.toNat x1.toNat x2.toNat x3.toNat))]) ∧ w = w' := by
  have l0 := x0.toNat_lt; have l1 := x1.toNat_lt; have l2 := x2.toNat_lt; have l3 := x3.toNat_lt
  have hD : decodeN s.size x0.toNat x1.toNat x2.toNat x3.toNat = (65533, 1) := by
    unfold decodeN
    repeat' split
    all_goals first | rfl | (exfalso; omega) | (apply Prod.ext <;> simp only <;> omega)
  rw [hD]
  clear hD
  have g1 := h1 (by omega)
  have g2 := h2 (by omega)
  have g3 := h3 (by omega)
  clear h1 h2 h3
  have z0 : (0 : Int) < (s.size : Int) := by omega
  have y0 : 240 ≤ (x0.toNat : Int) := by omega
  have y1 : (x0.toNat : Int) ≤ 244 := by omega
  have y2 : 4 ≤ (s.size : Int) := by omega
  have y3 : 128 ≤ (x1.toNat : Int) := by omega
  have y4 : (x1.toNat : Int) ≤ 191 := by omega
  have y5 : 128 ≤ (x2.toNat : Int) := by omega
  have y6 : (x2.toNat : Int) ≤ 191 := by omega
  have y7 : 128 ≤ (x3.toNat : Int) := by omega
  have y8 : (x3.toNat : Int) ≤ 191 := by omega
  have q1 : (1 : Int) < (s.size : Int) := by omega
  have q2 : (2 : Int) < (s.size : Int) := by omega
  have q3 : (3 : Int) < (s.size : Int) := by omega
  have e0 : bits .and .i32 (x0.toNat : Int) 7 = (x0.toNat : Int) % 8 := and7 (by omega) (by omega)
  have w1 : wrap32 (((x0.toNat : Int) % 8) * 64) = ((x0.toNat : Int) % 8) * 64 := by unfold wrap32; omega
  have o1 : bits .or .i32 (((x0.toNat : Int) % 8) * 64) ((x1.toNat : Int) % 64) = ((x0.toNat : Int) % 8) * 64 + (x1.toNat : Int) % 64 := i32_or6 _ _ (by omega) (by omega) (by omega) (by omega) (by omega)
  have w2 : wrap32 ((((x0.toNat : Int) % 8) * 64 + (x1.toNat : Int) % 64) * 64) = (((x0.toNat : Int) % 8) * 64 + (x1.toNat : Int) % 64) * 64 := by unfold wrap32; omega
  have o2 : bits .or .i32 ((((x0.toNat : Int) % 8) * 64 + (x1.toNat : Int) % 64) * 64) ((x2.toNat : Int) % 64) = (((x0.toNat : Int) % 8) * 64 + (x1.toNat : Int) % 64) * 64 + (x2.toNat : Int) % 64 := i32_or6 _ _ (by omega) (by omega) (by omega) (by omega) (by omega)
  have w3 : wrap32 (((((x0.toNat : Int) % 8) * 64 + (x1.toNat : Int) % 64) * 64 + (x2.toNat : Int) % 64) * 64) = ((((x0.toNat : Int) % 8) * 64 + (x1.toNat : Int) % 64) * 64 + (x2.toNat : Int) % 64) * 64 := by unfold wrap32; omega
  have o3 : bits .or .i32 (((((x0.toNat : Int) % 8) * 64 + (x1.toNat : Int) % 64) * 64 + (x2.toNat : Int) % 64) * 64) ((x3.toNat : Int) % 64) = ((((x0.toNat : Int) % 8) * 64 + (x1.toNat : Int) % 64) * 64 + (x2.toNat : Int) % 64) * 64 + (x3.toNat : Int) % 64 := i32_or6 _ _ (by omega) (by omega) (by omega) (by omega) (by omega)
  obtain ⟨R, hR⟩ : ∃ R : Int, R = ((((x0.toNat : Int) % 8) * 64 + (x1.toNat : Int) % 64) * 64 + (x2.toNat : Int) % 64) * 64 + (x3.toNat : Int) % 64 := ⟨_, rfl⟩
  rw [← hR] at o3
  have y9 : R < 65536 := by omega
  have HR := hid hR
  clear hR
  go_enter Tryz.func95, Tryz.ntmps95
  go_wp2
  refine wp_loop_rounds 4 ?_
  rw [rounds_succ]
  go_wp2
  rw [rounds_succ]
  go_wp2
  rw [rounds_succ]
  go_wp2
  rw [rounds_succ]
  go_wp2
  refine bodyPost_ret (v := .tuple #[.int .i32 (65533), .int .i64 1, .bool true]) (by simp [results, Tryz.results95, go_sem]) rfl ⟨?_, rfl⟩
  refine ret_one ?_ ?_ ?_
  all_goals (try have hR := HR.out)
  all_goals (first | rfl | (simp [brk]; done) | (simp [brk]; omega) | omega)
set_option maxHeartbeats 2000000 in
set_option maxRecDepth 100000 in
theorem one_E8 (k0 : 240 ≤ x0.toNat) (k1 : x0.toNat ≤ 244) (k2 : 4 ≤ s.size) (k3 : 128 ≤ x1.toNat) (k4 : x1.toNat ≤ 191) (k5 : 128 ≤ x2.toNat) (k6 : x2.toNat ≤ 191) (k7 : 128 ≤ x3.toNat) (k8 : x3.toNat ≤ 191) (k9 : 65536 ≤ x0.toNat % 8 * 262144 + x1.toNat % 64 * 4096 + x2.toNat % 64 * 64 + x3.toNat % 64) (k10 : 1114111 < x0.toNat % 8 * 262144 + x1.toNat % 64 * 4096 + x2.toNat % 64 * 64 + x3.toNat % 64) : Calls Tryz.prog 95 #[.string s] w fun e w' => e = .returned (.tuple #[.int .i32 ((decodeN s.size x0.toNat x1.toNat x2.toNat x3.toNat).1 : Int), .int .i64 ((decodeN s.size x0.toNat x1.toNat x2.toNat x3.toNat).2 : Int), .bool (brk (decodeN s.size x0.toNat x1.toNat x2.toNat x3.toNat))]) ∧ w = w' := by
  have l0 := x0.toNat_lt; have l1 := x1.toNat_lt; have l2 := x2.toNat_lt; have l3 := x3.toNat_lt
  have hD : decodeN s.size x0.toNat x1.toNat x2.toNat x3.toNat = (65533, 1) := by
    unfold decodeN
    repeat' split
    all_goals first | rfl | (exfalso; omega) | (apply Prod.ext <;> simp only <;> omega)
  rw [hD]
  clear hD
  have g1 := h1 (by omega)
  have g2 := h2 (by omega)
  have g3 := h3 (by omega)
  clear h1 h2 h3
  have z0 : (0 : Int) < (s.size : Int) := by omega
  have y0 : 240 ≤ (x0.toNat : Int) := by omega
  have y1 : (x0.toNat : Int) ≤ 244 := by omega
  have y2 : 4 ≤ (s.size : Int) := by omega
  have y3 : 128 ≤ (x1.toNat : Int) := by omega
  have y4 : (x1.toNat : Int) ≤ 191 := by omega
  have y5 : 128 ≤ (x2.toNat : Int) := by omega
  have y6 : (x2.toNat : Int) ≤ 191 := by omega
  have y7 : 128 ≤ (x3.toNat : Int) := by omega
  have y8 : (x3.toNat : Int) ≤ 191 := by omega
  have q1 : (1 : Int) < (s.size : Int) := by omega
  have q2 : (2 : Int) < (s.size : Int) := by omega
  have q3 : (3 : Int) < (s.size : Int) := by omega
  have e0 : bits .and .i32 (x0.toNat : Int) 7 = (x0.toNat : Int) % 8 := and7 (by omega) (by omega)
  have w1 : wrap32 (((x0.toNat : Int) % 8) * 64) = ((x0.toNat : Int) % 8) * 64 := by unfold wrap32; omega
  have o1 : bits .or .i32 (((x0.toNat : Int) % 8) * 64) ((x1.toNat : Int) % 64) = ((x0.toNat : Int) % 8) * 64 + (x1.toNat : Int) % 64 := i32_or6 _ _ (by omega) (by omega) (by omega) (by omega) (by omega)
  have w2 : wrap32 ((((x0.toNat : Int) % 8) * 64 + (x1.toNat : Int) % 64) * 64) = (((x0.toNat : Int) % 8) * 64 + (x1.toNat : Int) % 64) * 64 := by unfold wrap32; omega
  have o2 : bits .or .i32 ((((x0.toNat : Int) % 8) * 64 + (x1.toNat : Int) % 64) * 64) ((x2.toNat : Int) % 64) = (((x0.toNat : Int) % 8) * 64 + (x1.toNat : Int) % 64) * 64 + (x2.toNat : Int) % 64 := i32_or6 _ _ (by omega) (by omega) (by omega) (by omega) (by omega)
  have w3 : wrap32 (((((x0.toNat : Int) % 8) * 64 + (x1.toNat : Int) % 64) * 64 + (x2.toNat : Int) % 64) * 64) = ((((x0.toNat : Int) % 8) * 64 + (x1.toNat : Int) % 64) * 64 + (x2.toNat : Int) % 64) * 64 := by unfold wrap32; omega
  have o3 : bits .or .i32 (((((x0.toNat : Int) % 8) * 64 + (x1.toNat : Int) % 64) * 64 + (x2.toNat : Int) % 64) * 64) ((x3.toNat : Int) % 64) = ((((x0.toNat : Int) % 8) * 64 + (x1.toNat : Int) % 64) * 64 + (x2.toNat : Int) % 64) * 64 + (x3.toNat : Int) % 64 := i32_or6 _ _ (by omega) (by omega) (by omega) (by omega) (by omega)
  obtain ⟨R, hR⟩ : ∃ R : Int, R = ((((x0.toNat : Int) % 8) * 64 + (x1.toNat : Int) % 64) * 64 + (x2.toNat : Int) % 64) * 64 + (x3.toNat : Int) % 64 := ⟨_, rfl⟩
  rw [← hR] at o3
  have y9 : 65536 ≤ R := by omega
  have y10 : 1114111 < R := by omega
  have HR := hid hR
  clear hR
  go_enter Tryz.func95, Tryz.ntmps95
  go_wp2
  refine wp_loop_rounds 4 ?_
  rw [rounds_succ]
  go_wp2
  rw [rounds_succ]
  go_wp2
  rw [rounds_succ]
  go_wp2
  rw [rounds_succ]
  go_wp2
  refine bodyPost_ret (v := .tuple #[.int .i32 (65533), .int .i64 1, .bool true]) (by simp [results, Tryz.results95, go_sem]) rfl ⟨?_, rfl⟩
  refine ret_one ?_ ?_ ?_
  all_goals (try have hR := HR.out)
  all_goals (first | rfl | (simp [brk]; done) | (simp [brk]; omega) | omega)
set_option maxHeartbeats 2000000 in
set_option maxRecDepth 100000 in
theorem one_E9 (k0 : 240 ≤ x0.toNat) (k1 : x0.toNat ≤ 244) (k2 : 4 ≤ s.size) (k3 : 128 ≤ x1.toNat) (k4 : x1.toNat ≤ 191) (k5 : 128 ≤ x2.toNat) (k6 : x2.toNat ≤ 191) (k7 : 128 ≤ x3.toNat) (k8 : x3.toNat ≤ 191) (k9 : 65536 ≤ x0.toNat % 8 * 262144 + x1.toNat % 64 * 4096 + x2.toNat % 64 * 64 + x3.toNat % 64) (k10 : x0.toNat % 8 * 262144 + x1.toNat % 64 * 4096 + x2.toNat % 64 * 64 + x3.toNat % 64 ≤ 1114111) : Calls Tryz.prog 95 #[.string s] w fun e w' => e = .returned (.tuple #[.int .i32 ((decodeN s.size x0.toNat x1.toNat x2.toNat x3.toNat).1 : Int), .int .i64 ((decodeN s.size x0.toNat x1.toNat x2.toNat x3.toNat).2 : Int), .bool (brk (decodeN s.size x0.toNat x1.toNat x2.toNat x3.toNat))]) ∧ w = w' := by
  have l0 := x0.toNat_lt; have l1 := x1.toNat_lt; have l2 := x2.toNat_lt; have l3 := x3.toNat_lt
  have hD : decodeN s.size x0.toNat x1.toNat x2.toNat x3.toNat = (x0.toNat % 8 * 262144 + x1.toNat % 64 * 4096 + x2.toNat % 64 * 64 + x3.toNat % 64, 4) := by
    unfold decodeN
    repeat' split
    all_goals first | rfl | (exfalso; omega) | (apply Prod.ext <;> simp only <;> omega)
  rw [hD]
  clear hD
  have g1 := h1 (by omega)
  have g2 := h2 (by omega)
  have g3 := h3 (by omega)
  clear h1 h2 h3
  have z0 : (0 : Int) < (s.size : Int) := by omega
  have y0 : 240 ≤ (x0.toNat : Int) := by omega
  have y1 : (x0.toNat : Int) ≤ 244 := by omega
  have y2 : 4 ≤ (s.size : Int) := by omega
  have y3 : 128 ≤ (x1.toNat : Int) := by omega
  have y4 : (x1.toNat : Int) ≤ 191 := by omega
  have y5 : 128 ≤ (x2.toNat : Int) := by omega
  have y6 : (x2.toNat : Int) ≤ 191 := by omega
  have y7 : 128 ≤ (x3.toNat : Int) := by omega
  have y8 : (x3.toNat : Int) ≤ 191 := by omega
  have q1 : (1 : Int) < (s.size : Int) := by omega
  have q2 : (2 : Int) < (s.size : Int) := by omega
  have q3 : (3 : Int) < (s.size : Int) := by omega
  have e0 : bits .and .i32 (x0.toNat : Int) 7 = (x0.toNat : Int) % 8 := and7 (by omega) (by omega)
  have w1 : wrap32 (((x0.toNat : Int) % 8) * 64) = ((x0.toNat : Int) % 8) * 64 := by unfold wrap32; omega
  have o1 : bits .or .i32 (((x0.toNat : Int) % 8) * 64) ((x1.toNat : Int) % 64) = ((x0.toNat : Int) % 8) * 64 + (x1.toNat : Int) % 64 := i32_or6 _ _ (by omega) (by omega) (by omega) (by omega) (by omega)
  have w2 : wrap32 ((((x0.toNat : Int) % 8) * 64 + (x1.toNat : Int) % 64) * 64) = (((x0.toNat : Int) % 8) * 64 + (x1.toNat : Int) % 64) * 64 := by unfold wrap32; omega
  have o2 : bits .or .i32 ((((x0.toNat : Int) % 8) * 64 + (x1.toNat : Int) % 64) * 64) ((x2.toNat : Int) % 64) = (((x0.toNat : Int) % 8) * 64 + (x1.toNat : Int) % 64) * 64 + (x2.toNat : Int) % 64 := i32_or6 _ _ (by omega) (by omega) (by omega) (by omega) (by omega)
  have w3 : wrap32 (((((x0.toNat : Int) % 8) * 64 + (x1.toNat : Int) % 64) * 64 + (x2.toNat : Int) % 64) * 64) = ((((x0.toNat : Int) % 8) * 64 + (x1.toNat : Int) % 64) * 64 + (x2.toNat : Int) % 64) * 64 := by unfold wrap32; omega
  have o3 : bits .or .i32 (((((x0.toNat : Int) % 8) * 64 + (x1.toNat : Int) % 64) * 64 + (x2.toNat : Int) % 64) * 64) ((x3.toNat : Int) % 64) = ((((x0.toNat : Int) % 8) * 64 + (x1.toNat : Int) % 64) * 64 + (x2.toNat : Int) % 64) * 64 + (x3.toNat : Int) % 64 := i32_or6 _ _ (by omega) (by omega) (by omega) (by omega) (by omega)
  obtain ⟨R, hR⟩ : ∃ R : Int, R = ((((x0.toNat : Int) % 8) * 64 + (x1.toNat : Int) % 64) * 64 + (x2.toNat : Int) % 64) * 64 + (x3.toNat : Int) % 64 := ⟨_, rfl⟩
  rw [← hR] at o3
  have y9 : 65536 ≤ R := by omega
  have y10 : R ≤ 1114111 := by omega
  have HR := hid hR
  clear hR
  go_enter Tryz.func95, Tryz.ntmps95
  go_wp2
  refine wp_loop_rounds 4 ?_
  rw [rounds_succ]
  go_wp2
  rw [rounds_succ]
  go_wp2
  rw [rounds_succ]
  go_wp2
  rw [rounds_succ]
  go_wp2
  refine bodyPost_ret (v := .tuple #[.int .i32 (R), .int .i64 4, .bool false]) (by simp [results, Tryz.results95, go_sem]) rfl ⟨?_, rfl⟩
  refine ret_one ?_ ?_ ?_
  all_goals (try have hR := HR.out)
  all_goals (first | rfl | (simp [brk]; done) | (simp [brk]; omega) | omega)
end
end Go.Proofs.YtcfgpmmclijonaaGreatDoor
