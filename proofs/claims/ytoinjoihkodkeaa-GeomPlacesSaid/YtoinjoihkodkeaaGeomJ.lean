/- Layer 1: lists of rectangles in memory; checked, checks. -/
import Derived.Test.YtoinjoihkodkeaaGeomE
namespace Go.Proofs.Ytoinjoihkodkeaa
set_option linter.unusedVariables false
set_option linter.unusedSimpArgs false
open Go.RowKit
attribute [local go_sem] max_fold min_fold

def rcells : List Rc → List Value
  | [] => []
  | r :: l => .int .i64 r.x :: .int .i64 r.y :: .int .i64 r.w :: .int .i64 r.h :: rcells l
theorem rcells_append (l m : List Rc) : rcells (l ++ m) = rcells l ++ rcells m := by
  induction l with
  | nil => rfl
  | cons r l ih => simp [rcells, ih]
theorem rcells_len (l : List Rc) : (rcells l).length = l.length * 4 := by
  induction l with
  | nil => rfl
  | cons r l ih => simp [rcells, ih]; omega
theorem rcells_one (l : List Rc) : ∀ v ∈ rcells l, v.oneCell' = true := by
  induction l with
  | nil => intro v h; cases h
  | cons r l ih =>
    intro v h
    simp only [rcells, List.mem_cons] at h
    rcases h with rfl | rfl | rfl | rfl | h
    · rfl
    · rfl
    · rfl
    · rfl
    · exact ih v h
theorem rcells_at (l : List Rc) (k : Nat) (h : k < l.length) : (rcells l)[k * 4]? = some (.int .i64 l[k].x) ∧ (rcells l)[k * 4 + 1]? = some (.int .i64 l[k].y) ∧ (rcells l)[k * 4 + 2]? = some (.int .i64 l[k].w) ∧ (rcells l)[k * 4 + 3]? = some (.int .i64 l[k].h) := by
  induction l generalizing k with
  | nil => simp at h
  | cons r l ih =>
    cases k with
    | zero => simp [rcells]
    | succ k =>
      have := ih k (by simpa using h)
      have e : (k + 1) * 4 = k * 4 + 4 := by omega
      rw [e]
      simpa [rcells] using this

theorem info_rect : (Try.prog.info? 27).map (fun i => (i.zero, i.size, i.bytes)) = some (some (.agg #[.int .i64 0, .int .i64 0, .int .i64 0, .int .i64 0]), 4, 32) := by kernel_rfl

theorem append_rect {ops : Array Oper} {rest : List Oper} {o : Oper} {a : Act} {Q : Exit → Act → World → Prop} {w : World} (hgd : o.guard = none) (s x : Operand)
    (ho : o.op = .call { callee := .builtin .append, args := #[s, x], argTypes := #[41, 41] }) (base : Nat) (v : Value) (l : List Rc) (r : Rc) (g : Nat)
    (hs : a.eval s = v) (hx : a.eval x = .slice (some ⟨g, 0, none⟩) 1 1) (hown : w.ownsRow base 27 4 v l.length (rcells l))
    (h0 : w.cell? ⟨g, 0, none⟩ = some (.int .i64 r.x)) (h1 : w.cell? ⟨g, 1, none⟩ = some (.int .i64 r.y)) (h2 : w.cell? ⟨g, 2, none⟩ = some (.int .i64 r.w)) (h3 : w.cell? ⟨g, 3, none⟩ = some (.int .i64 r.h))
    (hn : l.length ≤ 1000000) (hbase : base ≤ w.heap.size)
    (h : ∀ v' w', w'.ownsRow base 27 4 v' (l ++ [r]).length (rcells (l ++ [r])) → w.grownBy w' v.ownBlock → v' ≠ .slice none 0 0 → wpList Try.prog ops Q rest (a.put o.dst v') w') : wpList Try.prog ops Q (o :: rest) a w := by
  obtain ⟨i0, hi, hz0, hz1, hz2⟩ := info_parts info_rect
  refine wpList_append_own w hgd s x 41 ho base 27 i0 _ 4 32 Try.underlying41 hi hz0 hz1 hz2 rfl (by decide) v l.length (rcells l) hs hown ⟨g, 0, none⟩ 1 1 (rcells [r]) hx rfl (fun j u hj => ?_) (rcells_one _) (by unfold maxLen; omega) (by omega) hbase (fun v' w' h4 h5 h6 => ?_)
  · match j, hj with
    | 0, hj => simp [rcells] at hj; subst hj; simpa [Addr.add] using h0
    | 1, hj => simp [rcells] at hj; subst hj; simpa [Addr.add] using h1
    | 2, hj => simp [rcells] at hj; subst hj; simpa [Addr.add] using h2
    | 3, hj => simp [rcells] at hj; subst hj; simpa [Addr.add] using h3
    | j + 4, hj => simp [rcells] at hj
  · refine h v' w' (by rw [rcells_append, List.length_append]; exact h4) h5 (fun e => ?_)
    have := (h6.1 e).2
    omega

theorem lessE_no1 {p q : Rc} (h : may p = false) : lessE p q = checkE p := by simp [lessE, checkE, h]
theorem lessE_no2 {p q : Rc} (h : may p = true) : lessE p q = checkE q := by
  cases h2 : may q <;> simp [lessE, checkE, h, h2]

set_option maxHeartbeats 1000000 in
theorem checked_any (x y a b p q c d : Int) (g : Nat) (w : World) (h0 : w.cell? ⟨g, 0, none⟩ = some (.int .i64 x)) (h1 : w.cell? ⟨g, 1, none⟩ = some (.int .i64 y)) (h2 : w.cell? ⟨g, 2, none⟩ = some (.int .i64 a)) (h3 : w.cell? ⟨g, 3, none⟩ = some (.int .i64 b))
    (h4 : w.cell? ⟨g, 4, none⟩ = some (.int .i64 p)) (h5 : w.cell? ⟨g, 5, none⟩ = some (.int .i64 q)) (h6 : w.cell? ⟨g, 6, none⟩ = some (.int .i64 c)) (h7 : w.cell? ⟨g, 7, none⟩ = some (.int .i64 d)) :
    Calls Try.prog 55 #[.slice (some ⟨g, 0, none⟩) 2 2] w fun e w' => e = .returned (.int .i64 (lessE ⟨x, y, a, b⟩ ⟨p, q, c, d⟩)) ∧ Below w.heap.size w w' := by
  have hg : g < w.heap.size := World.block_lt_of_cell? _ _ h0
  cases hm : may ⟨x, y, a, b⟩
  · rw [lessE_no1 hm]
    have hk : (checkE ⟨x, y, a, b⟩ != 0) = true := by simp [checkE, hm]
    go_enter Try.func55, Try.ntmps55
    go_wp2
    refine wp_loop_rounds 1 ?_
    rw [rounds_succ]
    go_wp2_with (first | (go_at_call 12; refine (check_any _ _ _ _ _).mono ?_; rintro e w1 ⟨rfl, hb⟩; (first | (have hP1 := hP.trans (hb.mono hP.size); clear hP hb hc hf z0; have hP := hP1; clear hP1) | (have hP := hb; clear hb)); obtain ⟨hc, hf⟩ := bcell hP; have z0 : w.heap.size < w1.heap.size := (by have hz := hP.size; (try simp at hz); omega); have zg : g < w1.heap.size := (by have hz := hP.size; (try simp at hz); omega)))
    go_ret
    exact ⟨rfl, (by repeat (first | exact Below.refl _ _ | with_reducible refine Below.alloc ?_ (by first | (simp; done) | (simp; omega) | omega) _ | with_reducible refine Below.setCell ?_ (by first | (simp; done) | (simp; omega) | omega) _ | with_reducible refine Below.drew ?_ | with_reducible refine Below.trans ?_ (Below.mono (by assumption) (by first | (simp; done) | (simp; omega) | omega))))⟩
  · rw [lessE_no2 hm]
    have hk : checkE ⟨x, y, a, b⟩ = 0 := by simp [checkE, hm]
    cases hm2 : may ⟨p, q, c, d⟩
    · have hk2 : (checkE ⟨p, q, c, d⟩ != 0) = true := by simp [checkE, hm2]
      go_enter Try.func55, Try.ntmps55
      go_wp2
      refine wp_loop_rounds 2 ?_
      rw [rounds_succ]
      go_wp2_with (first | (go_at_call 12; refine (check_any _ _ _ _ _).mono ?_; rintro e w1 ⟨rfl, hb1⟩; obtain ⟨hc1, hf1⟩ := bcell hb1; have hs1 := hb1.size; (try simp at hs1); have z1_0 : w.heap.size < w1.heap.size := (by omega); have y1_0 : w.heap.size < w1.heap.size + 1 := (by omega); have z1_1 : g < w1.heap.size := (by omega); have y1_1 : g < w1.heap.size + 1 := (by omega)))
      rw [rounds_succ]
      go_wp2_with (first | (go_at_call 12; refine (check_any _ _ _ _ _).mono ?_; rintro e w2 ⟨rfl, hb2⟩; obtain ⟨hc2, hf2⟩ := bcell hb2; have hs2 := hb2.size; (try simp at hs2); have z2_0 : w.heap.size < w2.heap.size := (by omega); have y2_0 : w.heap.size < w2.heap.size + 1 := (by omega); have z2_1 : g < w2.heap.size := (by omega); have y2_1 : g < w2.heap.size + 1 := (by omega); have z2_2 : w1.heap.size < w2.heap.size := (by omega); have y2_2 : w1.heap.size < w2.heap.size + 1 := (by omega)))
      go_ret
      exact ⟨rfl, (by repeat (first | exact Below.refl _ _ | with_reducible refine Below.alloc ?_ (by first | (simp; done) | (simp; omega) | omega) _ | with_reducible refine Below.setCell ?_ (by first | (simp; done) | (simp; omega) | omega) _ | with_reducible refine Below.drew ?_ | with_reducible refine Below.trans ?_ (Below.mono (by assumption) (by first | (simp; done) | (simp; omega) | omega))))⟩
    · have hk2 : checkE ⟨p, q, c, d⟩ = 0 := by simp [checkE, hm2]
      rw [hk2]
      go_enter Try.func55, Try.ntmps55
      go_wp2
      refine wp_loop_rounds 3 ?_
      rw [rounds_succ]
      go_wp2_with (first | (go_at_call 12; refine (check_any _ _ _ _ _).mono ?_; rintro e w1 ⟨rfl, hb1⟩; obtain ⟨hc1, hf1⟩ := bcell hb1; have hs1 := hb1.size; (try simp at hs1); have z1_0 : w.heap.size < w1.heap.size := (by omega); have y1_0 : w.heap.size < w1.heap.size + 1 := (by omega); have z1_1 : g < w1.heap.size := (by omega); have y1_1 : g < w1.heap.size + 1 := (by omega)))
      rw [rounds_succ]
      go_wp2_with (first | (go_at_call 12; refine (check_any _ _ _ _ _).mono ?_; rintro e w2 ⟨rfl, hb2⟩; obtain ⟨hc2, hf2⟩ := bcell hb2; have hs2 := hb2.size; (try simp at hs2); have z2_0 : w.heap.size < w2.heap.size := (by omega); have y2_0 : w.heap.size < w2.heap.size + 1 := (by omega); have z2_1 : g < w2.heap.size := (by omega); have y2_1 : g < w2.heap.size + 1 := (by omega); have z2_2 : w1.heap.size < w2.heap.size := (by omega); have y2_2 : w1.heap.size < w2.heap.size + 1 := (by omega)))
      rw [rounds_succ]
      go_wp2
      go_ret
      exact ⟨rfl, (by repeat (first | exact Below.refl _ _ | with_reducible refine Below.alloc ?_ (by first | (simp; done) | (simp; omega) | omega) _ | with_reducible refine Below.setCell ?_ (by first | (simp; done) | (simp; omega) | omega) _ | with_reducible refine Below.drew ?_ | with_reducible refine Below.trans ?_ (Below.mono (by assumption) (by first | (simp; done) | (simp; omega) | omega))))⟩

set_option maxHeartbeats 400000 in
theorem checks_any (x y a b p q c d : Int) (w : World) :
    Calls Try.prog 56 #[.agg #[.int .i64 x, .int .i64 y, .int .i64 a, .int .i64 b], .agg #[.int .i64 p, .int .i64 q, .int .i64 c, .int .i64 d]] w fun e w' => e = .returned (.int .i64 (lessE ⟨x, y, a, b⟩ ⟨p, q, c, d⟩)) ∧ Below w.heap.size w w' := by
  cases h1 : may ⟨x, y, a, b⟩
  · go_enter Try.func56, Try.ntmps56
    go_wp2_with (first | (go_at_call 46; refine (rmay_any _ _ _ _ _).mono ?_; rintro e w1 ⟨rfl, hb⟩; (first | (have hP1 := hP.trans (hb.mono hP.size); clear hP hb hc hf z0 z1; have hP := hP1; clear hP1) | (have hP := hb; clear hb)); obtain ⟨hc, hf⟩ := bcell hP; have z0 : w.heap.size < w1.heap.size := (by have hz := hP.size; (try simp at hz); omega); have z1 : w.heap.size + 1 < w1.heap.size := (by have hz := hP.size; (try simp at hz); omega)))
    go_ret
    exact ⟨ret_int (by simp [lessE, h1]), (by repeat (first | exact Below.refl _ _ | with_reducible refine Below.alloc ?_ (by first | (simp; done) | (simp; omega) | omega) _ | with_reducible refine Below.setCell ?_ (by first | (simp; done) | (simp; omega) | omega) _ | with_reducible refine Below.drew ?_ | with_reducible refine Below.trans ?_ (Below.mono (by assumption) (by first | (simp; done) | (simp; omega) | omega))))⟩
  · cases h2 : may ⟨p, q, c, d⟩
    all_goals
      go_enter Try.func56, Try.ntmps56
      go_wp2_with (first | (go_at_call 46; refine (rmay_any _ _ _ _ _).mono ?_; rintro e w1 ⟨rfl, hb⟩; (first | (have hP1 := hP.trans (hb.mono hP.size); clear hP hb hc hf z0 z1; have hP := hP1; clear hP1) | (have hP := hb; clear hb)); obtain ⟨hc, hf⟩ := bcell hP; have z0 : w.heap.size < w1.heap.size := (by have hz := hP.size; (try simp at hz); omega); have z1 : w.heap.size + 1 < w1.heap.size := (by have hz := hP.size; (try simp at hz); omega)))
      go_ret
      exact ⟨ret_int (by simp [lessE, h1, h2]), (by repeat (first | exact Below.refl _ _ | with_reducible refine Below.alloc ?_ (by first | (simp; done) | (simp; omega) | omega) _ | with_reducible refine Below.setCell ?_ (by first | (simp; done) | (simp; omega) | omega) _ | with_reducible refine Below.drew ?_ | with_reducible refine Below.trans ?_ (Below.mono (by assumption) (by first | (simp; done) | (simp; omega) | omega))))⟩
end Go.Proofs.Ytoinjoihkodkeaa
