/- Layer 5: the reference's order: bits, told, stronger. (Printed by gen_n.py.) -/
import Derived.Test.YtoiondgcjbdonaaDoorStL
namespace Go.Proofs.YtoiondgcjbdonaaDoor
set_option linter.unusedVariables false
set_option linter.unusedSimpArgs false
set_option maxRecDepth 100000
open Go.RowKit Go.Shelf Go.Lib Go.Sort

theorem rbits_0 (w : World) : Calls Tryd.prog 54 #[.int .u8 0] w fun e w' => e = .returned (.int .i64 0) ∧ w = w' := by
  have q0 : bits .and .u8 0 1 = 0 := by kernel_rfl
  go_enter Tryd.func54, Tryd.ntmps54
  go_wp2
  refine wp_loop_rounds 5 ?_
  repeat (rw [rounds_succ]; go_wp2)
  go_ret
  exact ⟨rfl, rfl⟩
theorem rbits_1 (w : World) : Calls Tryd.prog 54 #[.int .u8 1] w fun e w' => e = .returned (.int .i64 1) ∧ w = w' := by
  have q0 : bits .and .u8 0 1 = 0 := by kernel_rfl
  have q1 : bits .and .u8 1 1 = 1 := by kernel_rfl
  go_enter Tryd.func54, Tryd.ntmps54
  go_wp2
  refine wp_loop_rounds 5 ?_
  repeat (rw [rounds_succ]; go_wp2)
  go_ret
  exact ⟨rfl, rfl⟩
theorem rbits_2 (w : World) : Calls Tryd.prog 54 #[.int .u8 2] w fun e w' => e = .returned (.int .i64 1) ∧ w = w' := by
  have q0 : bits .and .u8 0 1 = 0 := by kernel_rfl
  have q1 : bits .and .u8 1 1 = 1 := by kernel_rfl
  have q2 : bits .and .u8 2 1 = 0 := by kernel_rfl
  go_enter Tryd.func54, Tryd.ntmps54
  go_wp2
  refine wp_loop_rounds 5 ?_
  repeat (rw [rounds_succ]; go_wp2)
  go_ret
  exact ⟨rfl, rfl⟩
theorem rbits_3 (w : World) : Calls Tryd.prog 54 #[.int .u8 3] w fun e w' => e = .returned (.int .i64 2) ∧ w = w' := by
  have q0 : bits .and .u8 0 1 = 0 := by kernel_rfl
  have q1 : bits .and .u8 1 1 = 1 := by kernel_rfl
  have q3 : bits .and .u8 3 1 = 1 := by kernel_rfl
  go_enter Tryd.func54, Tryd.ntmps54
  go_wp2
  refine wp_loop_rounds 5 ?_
  repeat (rw [rounds_succ]; go_wp2)
  go_ret
  exact ⟨rfl, rfl⟩
theorem rbits_4 (w : World) : Calls Tryd.prog 54 #[.int .u8 4] w fun e w' => e = .returned (.int .i64 1) ∧ w = w' := by
  have q0 : bits .and .u8 0 1 = 0 := by kernel_rfl
  have q1 : bits .and .u8 1 1 = 1 := by kernel_rfl
  have q2 : bits .and .u8 2 1 = 0 := by kernel_rfl
  have q4 : bits .and .u8 4 1 = 0 := by kernel_rfl
  go_enter Tryd.func54, Tryd.ntmps54
  go_wp2
  refine wp_loop_rounds 5 ?_
  repeat (rw [rounds_succ]; go_wp2)
  go_ret
  exact ⟨rfl, rfl⟩
theorem rbits_5 (w : World) : Calls Tryd.prog 54 #[.int .u8 5] w fun e w' => e = .returned (.int .i64 2) ∧ w = w' := by
  have q0 : bits .and .u8 0 1 = 0 := by kernel_rfl
  have q1 : bits .and .u8 1 1 = 1 := by kernel_rfl
  have q2 : bits .and .u8 2 1 = 0 := by kernel_rfl
  have q5 : bits .and .u8 5 1 = 1 := by kernel_rfl
  go_enter Tryd.func54, Tryd.ntmps54
  go_wp2
  refine wp_loop_rounds 5 ?_
  repeat (rw [rounds_succ]; go_wp2)
  go_ret
  exact ⟨rfl, rfl⟩
theorem rbits_6 (w : World) : Calls Tryd.prog 54 #[.int .u8 6] w fun e w' => e = .returned (.int .i64 2) ∧ w = w' := by
  have q0 : bits .and .u8 0 1 = 0 := by kernel_rfl
  have q1 : bits .and .u8 1 1 = 1 := by kernel_rfl
  have q3 : bits .and .u8 3 1 = 1 := by kernel_rfl
  have q6 : bits .and .u8 6 1 = 0 := by kernel_rfl
  go_enter Tryd.func54, Tryd.ntmps54
  go_wp2
  refine wp_loop_rounds 5 ?_
  repeat (rw [rounds_succ]; go_wp2)
  go_ret
  exact ⟨rfl, rfl⟩
theorem rbits_7 (w : World) : Calls Tryd.prog 54 #[.int .u8 7] w fun e w' => e = .returned (.int .i64 3) ∧ w = w' := by
  have q0 : bits .and .u8 0 1 = 0 := by kernel_rfl
  have q1 : bits .and .u8 1 1 = 1 := by kernel_rfl
  have q3 : bits .and .u8 3 1 = 1 := by kernel_rfl
  have q7 : bits .and .u8 7 1 = 1 := by kernel_rfl
  go_enter Tryd.func54, Tryd.ntmps54
  go_wp2
  refine wp_loop_rounds 5 ?_
  repeat (rw [rounds_succ]; go_wp2)
  go_ret
  exact ⟨rfl, rfl⟩
theorem rbits_8 (w : World) : Calls Tryd.prog 54 #[.int .u8 8] w fun e w' => e = .returned (.int .i64 1) ∧ w = w' := by
  have q1 : bits .and .u8 1 1 = 1 := by kernel_rfl
  have q2 : bits .and .u8 2 1 = 0 := by kernel_rfl
  have q4 : bits .and .u8 4 1 = 0 := by kernel_rfl
  have q8 : bits .and .u8 8 1 = 0 := by kernel_rfl
  go_enter Tryd.func54, Tryd.ntmps54
  go_wp2
  refine wp_loop_rounds 5 ?_
  repeat (rw [rounds_succ]; go_wp2)
  go_ret
  exact ⟨rfl, rfl⟩
theorem rbits_9 (w : World) : Calls Tryd.prog 54 #[.int .u8 9] w fun e w' => e = .returned (.int .i64 2) ∧ w = w' := by
  have q1 : bits .and .u8 1 1 = 1 := by kernel_rfl
  have q2 : bits .and .u8 2 1 = 0 := by kernel_rfl
  have q4 : bits .and .u8 4 1 = 0 := by kernel_rfl
  have q9 : bits .and .u8 9 1 = 1 := by kernel_rfl
  go_enter Tryd.func54, Tryd.ntmps54
  go_wp2
  refine wp_loop_rounds 5 ?_
  repeat (rw [rounds_succ]; go_wp2)
  go_ret
  exact ⟨rfl, rfl⟩
theorem rbits_10 (w : World) : Calls Tryd.prog 54 #[.int .u8 10] w fun e w' => e = .returned (.int .i64 2) ∧ w = w' := by
  have q1 : bits .and .u8 1 1 = 1 := by kernel_rfl
  have q2 : bits .and .u8 2 1 = 0 := by kernel_rfl
  have q5 : bits .and .u8 5 1 = 1 := by kernel_rfl
  have q10 : bits .and .u8 10 1 = 0 := by kernel_rfl
  go_enter Tryd.func54, Tryd.ntmps54
  go_wp2
  refine wp_loop_rounds 5 ?_
  repeat (rw [rounds_succ]; go_wp2)
  go_ret
  exact ⟨rfl, rfl⟩
theorem rbits_11 (w : World) : Calls Tryd.prog 54 #[.int .u8 11] w fun e w' => e = .returned (.int .i64 3) ∧ w = w' := by
  have q1 : bits .and .u8 1 1 = 1 := by kernel_rfl
  have q2 : bits .and .u8 2 1 = 0 := by kernel_rfl
  have q5 : bits .and .u8 5 1 = 1 := by kernel_rfl
  have q11 : bits .and .u8 11 1 = 1 := by kernel_rfl
  go_enter Tryd.func54, Tryd.ntmps54
  go_wp2
  refine wp_loop_rounds 5 ?_
  repeat (rw [rounds_succ]; go_wp2)
  go_ret
  exact ⟨rfl, rfl⟩
theorem rbits_12 (w : World) : Calls Tryd.prog 54 #[.int .u8 12] w fun e w' => e = .returned (.int .i64 2) ∧ w = w' := by
  have q1 : bits .and .u8 1 1 = 1 := by kernel_rfl
  have q3 : bits .and .u8 3 1 = 1 := by kernel_rfl
  have q6 : bits .and .u8 6 1 = 0 := by kernel_rfl
  have q12 : bits .and .u8 12 1 = 0 := by kernel_rfl
  go_enter Tryd.func54, Tryd.ntmps54
  go_wp2
  refine wp_loop_rounds 5 ?_
  repeat (rw [rounds_succ]; go_wp2)
  go_ret
  exact ⟨rfl, rfl⟩
theorem rbits_13 (w : World) : Calls Tryd.prog 54 #[.int .u8 13] w fun e w' => e = .returned (.int .i64 3) ∧ w = w' := by
  have q1 : bits .and .u8 1 1 = 1 := by kernel_rfl
  have q3 : bits .and .u8 3 1 = 1 := by kernel_rfl
  have q6 : bits .and .u8 6 1 = 0 := by kernel_rfl
  have q13 : bits .and .u8 13 1 = 1 := by kernel_rfl
  go_enter Tryd.func54, Tryd.ntmps54
  go_wp2
  refine wp_loop_rounds 5 ?_
  repeat (rw [rounds_succ]; go_wp2)
  go_ret
  exact ⟨rfl, rfl⟩
theorem rbits_14 (w : World) : Calls Tryd.prog 54 #[.int .u8 14] w fun e w' => e = .returned (.int .i64 3) ∧ w = w' := by
  have q1 : bits .and .u8 1 1 = 1 := by kernel_rfl
  have q3 : bits .and .u8 3 1 = 1 := by kernel_rfl
  have q7 : bits .and .u8 7 1 = 1 := by kernel_rfl
  have q14 : bits .and .u8 14 1 = 0 := by kernel_rfl
  go_enter Tryd.func54, Tryd.ntmps54
  go_wp2
  refine wp_loop_rounds 5 ?_
  repeat (rw [rounds_succ]; go_wp2)
  go_ret
  exact ⟨rfl, rfl⟩
theorem rbits_15 (w : World) : Calls Tryd.prog 54 #[.int .u8 15] w fun e w' => e = .returned (.int .i64 4) ∧ w = w' := by
  have q1 : bits .and .u8 1 1 = 1 := by kernel_rfl
  have q3 : bits .and .u8 3 1 = 1 := by kernel_rfl
  have q7 : bits .and .u8 7 1 = 1 := by kernel_rfl
  have q15 : bits .and .u8 15 1 = 1 := by kernel_rfl
  go_enter Tryd.func54, Tryd.ntmps54
  go_wp2
  refine wp_loop_rounds 5 ?_
  repeat (rw [rounds_succ]; go_wp2)
  go_ret
  exact ⟨rfl, rfl⟩
theorem rbits_any (s : Nat) (hs : s ≤ 15) (w : World) : Calls Tryd.prog 54 #[.int .u8 (s : Int)] w fun e w' => e = .returned (.int .i64 (Lib.onesCount s : Int)) ∧ w = w' := by
  match s, hs with
  | 0, _ => exact rbits_0 w
  | 1, _ => exact rbits_1 w
  | 2, _ => exact rbits_2 w
  | 3, _ => exact rbits_3 w
  | 4, _ => exact rbits_4 w
  | 5, _ => exact rbits_5 w
  | 6, _ => exact rbits_6 w
  | 7, _ => exact rbits_7 w
  | 8, _ => exact rbits_8 w
  | 9, _ => exact rbits_9 w
  | 10, _ => exact rbits_10 w
  | 11, _ => exact rbits_11 w
  | 12, _ => exact rbits_12 w
  | 13, _ => exact rbits_13 w
  | 14, _ => exact rbits_14 w
  | 15, _ => exact rbits_15 w
  | n + 16, h => omega
def tI (b : Bool) : Int := if b then 1 else 0
theorem told_any (b : Bool) (w : World) : Calls Tryd.prog 40 #[.bool b] w fun e w' => e = .returned (.int .i64 (tI b)) ∧ w = w' := by
  cases b
  · go_enter Tryd.func40, Tryd.ntmps40
    go_wp2
    go_ret
    exact ⟨rfl, rfl⟩
  · go_enter Tryd.func40, Tryd.ntmps40
    go_wp2
    go_ret
    exact ⟨rfl, rfl⟩

/-- Two rows of four numbers. -/
def Four (ga gb : Nat) (x y : List Int) (W : World) : Prop := (∀ (j : Nat) v, x[j]? = some v → W.cell? ⟨ga, j, none⟩ = some (.int .i64 v)) ∧ (∀ (j : Nat) v, y[j]? = some v → W.cell? ⟨gb, j, none⟩ = some (.int .i64 v)) ∧ ga < W.heap.size ∧ gb < W.heap.size
theorem Four.on {ga gb : Nat} {x y : List Int} {W W' : World} (h : Four ga gb x y W) (hb : Below W.heap.size W W') : Four ga gb x y W' :=
  ⟨fun j v hj => (hb.cell (p := ⟨ga, j, none⟩) h.2.2.1).trans (h.1 j v hj), fun j v hj => (hb.cell (p := ⟨gb, j, none⟩) h.2.2.2).trans (h.2.1 j v hj), Nat.lt_of_lt_of_le h.2.2.1 hb.size, Nat.lt_of_lt_of_le h.2.2.2 hb.size⟩
theorem four_row {w : World} {g : Nat} {a b c d : Int} {t : TypeId} (h : w.heap[g]? = some (.cells #[.int .i64 a, .int .i64 b, .int .i64 c, .int .i64 d] t (0, 0))) : ∀ (j : Nat) v, [a, b, c, d][j]? = some v → w.cell? ⟨g, j, none⟩ = some (.int .i64 v) := by
  intro j v hj
  rw [blk_cell h]
  match j, hj with
  | 0, hj => simp at hj; simp [hj]
  | 1, hj => simp at hj; simp [hj]
  | 2, hj => simp at hj; simp [hj]
  | 3, hj => simp at hj; simp [hj]
  | j + 4, hj => simp at hj
theorem Four.made {w1 w2 : World} {t : TypeId} {a b c d : Int} (hb : Below (w1.alloc (.cells #[.int .i64 a, .int .i64 b, .int .i64 c, .int .i64 d] t)).heap.size (w1.alloc (.cells #[.int .i64 a, .int .i64 b, .int .i64 c, .int .i64 d] t)) w2) (a' b' c' d' p q r s : Int) (ha : a' = a := by rfl) (hb' : b' = b := by rfl) (hc : c' = c := by rfl) (hd : d' = d := by rfl) {t' : TypeId} :
    Four w1.heap.size w2.heap.size [a', b', c', d'] [p, q, r, s] (w2.alloc (.cells #[.int .i64 p, .int .i64 q, .int .i64 r, .int .i64 s] t')) := by
  subst ha hb' hc hd
  have hs := hb.size
  simp at hs
  have h1 : (w2.alloc (.cells #[.int .i64 p, .int .i64 q, .int .i64 r, .int .i64 s] t')).heap[w1.heap.size]? = some (.cells #[.int .i64 a', .int .i64 b', .int .i64 c', .int .i64 d'] t (0, 0)) := by
    rw [heap_alloc_old _ _ (by omega), hb.block _ (by simp)]
    exact heap_alloc_new _ _
  exact ⟨four_row h1, four_row (heap_alloc_new _ _), by simp; omega, by simp⟩
/-- What the four comparisons tell of the strengths. -/
structure Cmp (x0 y0 : Nat) (x1 y1 x2 y2 : Int) (i k : Nat) (K : Bool) : Prop where
  at0 : ¬ (x0 : Int) = y0 → decide ((y0 : Int) < x0) = K
  at1 : (x0 : Int) = y0 → ¬ x1 = y1 → decide (y1 < x1) = K
  at2 : (x0 : Int) = y0 → x1 = y1 → ¬ x2 = y2 → decide (y2 < x2) = K
  at3 : (x0 : Int) = y0 → x1 = y1 → x2 = y2 → ¬ (i : Int) = k → decide ((k : Int) < i) = K
  at4 : (x0 : Int) = y0 → x1 = y1 → x2 = y2 → (i : Int) = k → false = K
theorem strong_eq (r s : Ru) (i k : Nat) : Cmp (Lib.onesCount r.st) (Lib.onesCount s.st) (tI !r.cls.toList.isEmpty) (tI !s.cls.toList.isEmpty) (tI ((r.kind : Int) != 0)) (tI ((s.kind : Int) != 0)) i k (decide (keyR s < keyR r ∨ (keyR s = keyR r ∧ k < i))) := by
  have a1 : (tI !r.cls.toList.isEmpty) = if r.cls.size = 0 then 0 else 1 := by
    by_cases h : r.cls.size = 0
    · rw [bytes_nil h, if_pos h]; rfl
    · rw [bytes_some h, if_neg h]; rfl
  have b1 : (tI !s.cls.toList.isEmpty) = if s.cls.size = 0 then 0 else 1 := by
    by_cases h : s.cls.size = 0
    · rw [bytes_nil h, if_pos h]; rfl
    · rw [bytes_some h, if_neg h]; rfl
  have a2 : (tI ((r.kind : Int) != 0)) = if r.kind = 0 then 0 else 1 := by
    by_cases h : r.kind = 0
    · rw [if_pos h, h]; rfl
    · rw [if_neg h]; unfold tI; rw [if_pos (by simp [h])]
  have b2 : (tI ((s.kind : Int) != 0)) = if s.kind = 0 then 0 else 1 := by
    by_cases h : s.kind = 0
    · rw [if_pos h, h]; rfl
    · rw [if_neg h]; unfold tI; rw [if_pos (by simp [h])]
  rw [a1, b1, a2, b2]
  unfold keyR
  generalize Lib.onesCount r.st = x
  generalize Lib.onesCount s.st = y
  by_cases h1 : r.cls.size = 0 <;> by_cases h2 : s.cls.size = 0 <;> by_cases h3 : r.kind = 0 <;> by_cases h4 : s.kind = 0
  all_goals
    simp only [h1, h2, h3, h4, if_true, if_false]
    constructor
    all_goals
      intros
      rw [Bool.eq_iff_iff]
      simp only [decide_eq_true_eq, Bool.false_eq_true, false_iff]
      omega

set_option maxHeartbeats 4000000 in
set_option maxRecDepth 100000 in
theorem stronger_cells (g o n c i k : Nat) (r s : Ru) (w : World) (hr : r.st ≤ 15) (hs : s.st ≤ 15) (hi : i < n) (hk : k < n) (hn : n ≤ 256)
    (c0 : w.cell? ⟨g, o + i * 14, none⟩ = some (.int .u8 (r.kind : Int))) (c1 : w.cell? ⟨g, o + i * 14 + 1, none⟩ = some (.string r.cls)) (c2 : w.cell? ⟨g, o + i * 14 + 2, none⟩ = some (.int .u8 (r.st : Int)))
    (d0 : w.cell? ⟨g, o + k * 14, none⟩ = some (.int .u8 (s.kind : Int))) (d1 : w.cell? ⟨g, o + k * 14 + 1, none⟩ = some (.string s.cls)) (d2 : w.cell? ⟨g, o + k * 14 + 2, none⟩ = some (.int .u8 (s.st : Int))) :
    Calls Tryd.prog 39 #[.slice (some ⟨g, o, none⟩) n c, .int .i64 (i : Int), .int .i64 (k : Int)] w fun e w' => e = .returned (.bool (decide (keyR s < keyR r ∨ (keyR s = keyR r ∧ k < i)))) ∧ Below w.heap.size w w' := by
  have hg : g < w.heap.size := World.block_lt_of_cell? _ _ c0
  have C1 := fun w => rbits_any r.st hr w
  have C2 := fun w => rbits_any s.st hs w
  have hK := strong_eq r s i k
  generalize decide (keyR s < keyR r ∨ (keyR s = keyR r ∧ k < i)) = K at hK ⊢
  have HK := hid hK
  clear hK
  go_enter Tryd.func39, Tryd.ntmps39
  go_wp2
  refine region_ext_last 2 mixed (by kernel_rfl) ?_
  simp only [List.length_cons, List.length_nil, Nat.reduceAdd, Nat.reduceSub, List.take_succ_cons, List.take_zero, List.drop_succ_cons, List.drop_zero]
  repeat (go_big_quiet_step (first | (go_at_call 54; with_reducible exact in_ext_same (C1 _)) | (go_at_call 40; exact in_ext_same (told_any _ _))))
  refine wpQuiet_nil ?_
  intro w1 hb1
  obtain ⟨hc1, hf1⟩ := bcell hb1
  have z1 : g < w1.heap.size := by have := hb1.size; omega
  go_wp2
  refine region_ext_last 2 mixed (by kernel_rfl) ?_
  simp only [List.length_cons, List.length_nil, Nat.reduceAdd, Nat.reduceSub, List.take_succ_cons, List.take_zero, List.drop_succ_cons, List.drop_zero]
  repeat (go_big_quiet_step (first | (go_at_call 54; with_reducible exact in_ext_same (C2 _)) | (go_at_call 40; exact in_ext_same (told_any _ _))))
  refine wpQuiet_nil ?_
  intro w2 hb2
  have hs2 := hb2.size
  (try simp at hs2)
  have FF := Four.made hb2 (Lib.onesCount r.st : Int) (tI !r.cls.toList.isEmpty) (tI ((r.kind : Int) != 0)) (i : Int) (Lib.onesCount s.st : Int) (tI !s.cls.toList.isEmpty) (tI ((s.kind : Int) != 0)) (k : Int) (t' := 3)
  have hB : Below w.heap.size w (w2.alloc (.cells #[.int .i64 (Lib.onesCount s.st : Int), .int .i64 (tI !s.cls.toList.isEmpty), .int .i64 (tI ((s.kind : Int) != 0)), .int .i64 (k : Int)] 3)) :=
    ((hb1.alloc hb1.size _).trans (hb2.mono (by have := hb1.size; simp; omega))).alloc (by have := hb1.size; omega) _
  have hne : w1.heap.size ≠ w2.heap.size := by omega
  clear C1 C2 c0 c1 c2 d0 d1 d2 hc1 hf1 hb1 hb2 hg z1
  go_wp2
  generalize (tI !r.cls.toList.isEmpty) = x1 at *
  generalize (tI !s.cls.toList.isEmpty) = y1 at *
  generalize (tI ((r.kind : Int) != 0)) = x2 at *
  generalize (tI ((s.kind : Int) != 0)) = y2 at *
  generalize Lib.onesCount r.st = x0 at *
  generalize Lib.onesCount s.st = y0 at *
  generalize w2.alloc (.cells #[.int .i64 (y0 : Int), .int .i64 y1, .int .i64 y2, .int .i64 (k : Int)] 3) = W0 at *
  generalize w2.heap.size = gb at *
  generalize w1.heap.size = ga at *
  clear hs2 hr hs
  refine wp_loop_rounds 5 ?_
  have F0 := FF
  have HB0 := hB
  clear FF hB
  rw [rounds_succ]
  by_cases e0 : (x0 : Int) = (y0 : Int)
  case pos =>
    have k0 := F0.1 0 _ rfl
    have m0 := F0.2.1 0 _ rfl
    have l0 := F0.2.2.1
    have l1 := F0.2.2.2
    have q0 : ((x0 : Int) != (y0 : Int)) = false := by simpa using e0
    have E0 := hid e0
    clear e0
    go_wp2
    refine region_ext mixed (by kernel_rfl) ?_
    repeat (go_big_quiet_step (fail))
    refine wpQuiet_nil ?_
    intro W1 hB1
    have F1 := F0.on hB1
    have HB1 := HB0.trans (hB1.mono HB0.size)
    clear k0 m0 l0 l1
    go_wp2
    clear q0
    rw [rounds_succ]
    by_cases e1 : x1 = y1
    case pos =>
      have k0 := F1.1 1 _ rfl
      have m0 := F1.2.1 1 _ rfl
      have l0 := F1.2.2.1
      have l1 := F1.2.2.2
      have q1 : (x1 != y1) = false := by simpa using e1
      have E1 := hid e1
      clear e1
      go_wp2
      refine region_ext mixed (by kernel_rfl) ?_
      repeat (go_big_quiet_step (fail))
      refine wpQuiet_nil ?_
      intro W2 hB2
      have F2 := F1.on hB2
      have HB2 := HB1.trans (hB2.mono HB1.size)
      clear k0 m0 l0 l1
      go_wp2
      clear q1
      rw [rounds_succ]
      by_cases e2 : x2 = y2
      case pos =>
        have k0 := F2.1 2 _ rfl
        have m0 := F2.2.1 2 _ rfl
        have l0 := F2.2.2.1
        have l1 := F2.2.2.2
        have q2 : (x2 != y2) = false := by simpa using e2
        have E2 := hid e2
        clear e2
        go_wp2
        refine region_ext mixed (by kernel_rfl) ?_
        repeat (go_big_quiet_step (fail))
        refine wpQuiet_nil ?_
        intro W3 hB3
        have F3 := F2.on hB3
        have HB3 := HB2.trans (hB3.mono HB2.size)
        clear k0 m0 l0 l1
        go_wp2
        clear q2
        rw [rounds_succ]
        by_cases e3 : (i : Int) = (k : Int)
        case pos =>
          have k0 := F3.1 3 _ rfl
          have m0 := F3.2.1 3 _ rfl
          have l0 := F3.2.2.1
          have l1 := F3.2.2.2
          have q3 : ((i : Int) != (k : Int)) = false := by simpa using e3
          have E3 := hid e3
          clear e3
          go_wp2
          refine region_ext mixed (by kernel_rfl) ?_
          repeat (go_big_quiet_step (fail))
          refine wpQuiet_nil ?_
          intro W4 hB4
          have F4 := F3.on hB4
          have HB4 := HB3.trans (hB4.mono HB3.size)
          clear k0 m0 l0 l1
          go_wp2
          clear q3
          rw [rounds_succ]
          go_wp2
          go_ret
          exact ⟨ret_bool (HK.out.at4 E0.out E1.out E2.out E3.out), HB4⟩
        case neg =>
          have k0 := F3.1 3 _ rfl
          have m0 := F3.2.1 3 _ rfl
          have l0 := F3.2.2.1
          have l1 := F3.2.2.2
          have q3 : ((i : Int) != (k : Int)) = true := by simpa using e3
          have E3 := hid e3
          clear e3
          go_wp2
          refine region_ext mixed (by kernel_rfl) ?_
          repeat (go_big_quiet_step (fail))
          refine wpQuiet_nil ?_
          intro W4 hB4
          have F4 := F3.on hB4
          have HB4 := HB3.trans (hB4.mono HB3.size)
          clear k0 m0 l0 l1
          have k0 := F4.1 3 _ rfl
          have m0 := F4.2.1 3 _ rfl
          have l0 := F4.2.2.1
          have l1 := F4.2.2.2
          go_wp2
          refine region_ext mixed (by kernel_rfl) ?_
          repeat (go_big_quiet_step (fail))
          refine wpQuiet_nil ?_
          intro W5 hB5
          have F5 := F4.on hB5
          have HB5 := HB4.trans (hB5.mono HB4.size)
          go_wp2
          go_ret
          exact ⟨ret_bool (by have h := HK.out.at3 E0.out E1.out E2.out E3.out; first | exact h | simpa using h), HB5⟩
      case neg =>
        have k0 := F2.1 2 _ rfl
        have m0 := F2.2.1 2 _ rfl
        have l0 := F2.2.2.1
        have l1 := F2.2.2.2
        have q2 : (x2 != y2) = true := by simpa using e2
        have E2 := hid e2
        clear e2
        go_wp2
        refine region_ext mixed (by kernel_rfl) ?_
        repeat (go_big_quiet_step (fail))
        refine wpQuiet_nil ?_
        intro W3 hB3
        have F3 := F2.on hB3
        have HB3 := HB2.trans (hB3.mono HB2.size)
        clear k0 m0 l0 l1
        have k0 := F3.1 2 _ rfl
        have m0 := F3.2.1 2 _ rfl
        have l0 := F3.2.2.1
        have l1 := F3.2.2.2
        go_wp2
        refine region_ext mixed (by kernel_rfl) ?_
        repeat (go_big_quiet_step (fail))
        refine wpQuiet_nil ?_
        intro W4 hB4
        have F4 := F3.on hB4
        have HB4 := HB3.trans (hB4.mono HB3.size)
        go_wp2
        go_ret
        exact ⟨ret_bool (by have h := HK.out.at2 E0.out E1.out E2.out; first | exact h | simpa using h), HB4⟩
    case neg =>
      have k0 := F1.1 1 _ rfl
      have m0 := F1.2.1 1 _ rfl
      have l0 := F1.2.2.1
      have l1 := F1.2.2.2
      have q1 : (x1 != y1) = true := by simpa using e1
      have E1 := hid e1
      clear e1
      go_wp2
      refine region_ext mixed (by kernel_rfl) ?_
      repeat (go_big_quiet_step (fail))
      refine wpQuiet_nil ?_
      intro W2 hB2
      have F2 := F1.on hB2
      have HB2 := HB1.trans (hB2.mono HB1.size)
      clear k0 m0 l0 l1
      have k0 := F2.1 1 _ rfl
      have m0 := F2.2.1 1 _ rfl
      have l0 := F2.2.2.1
      have l1 := F2.2.2.2
      go_wp2
      refine region_ext mixed (by kernel_rfl) ?_
      repeat (go_big_quiet_step (fail))
      refine wpQuiet_nil ?_
      intro W3 hB3
      have F3 := F2.on hB3
      have HB3 := HB2.trans (hB3.mono HB2.size)
      go_wp2
      go_ret
      exact ⟨ret_bool (by have h := HK.out.at1 E0.out E1.out; first | exact h | simpa using h), HB3⟩
  case neg =>
    have k0 := F0.1 0 _ rfl
    have m0 := F0.2.1 0 _ rfl
    have l0 := F0.2.2.1
    have l1 := F0.2.2.2
    have q0 : ((x0 : Int) != (y0 : Int)) = true := by simpa using e0
    have E0 := hid e0
    clear e0
    go_wp2
    refine region_ext mixed (by kernel_rfl) ?_
    repeat (go_big_quiet_step (fail))
    refine wpQuiet_nil ?_
    intro W1 hB1
    have F1 := F0.on hB1
    have HB1 := HB0.trans (hB1.mono HB0.size)
    clear k0 m0 l0 l1
    have k0 := F1.1 0 _ rfl
    have m0 := F1.2.1 0 _ rfl
    have l0 := F1.2.2.1
    have l1 := F1.2.2.2
    go_wp2
    refine region_ext mixed (by kernel_rfl) ?_
    repeat (go_big_quiet_step (fail))
    refine wpQuiet_nil ?_
    intro W2 hB2
    have F2 := F1.on hB2
    have HB2 := HB1.trans (hB2.mono HB1.size)
    go_wp2
    go_ret
    exact ⟨ret_bool (by have h := HK.out.at0 E0.out; first | exact h | simpa using h), HB2⟩
end Go.Proofs.YtoiondgcjbdonaaDoor
