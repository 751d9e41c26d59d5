/- The walk of GeomAreas, and what it leans on: the pieces and the meeting are together as many places as the first rectangle. -/
import Derived.Test.YtoinjoihkodkeaaGeomM
import Derived.Lib.Hide
namespace Go.Proofs.Ytoinjoihkodkeaa
set_option linter.unusedVariables false
set_option linter.unusedSimpArgs false
open Go.RowKit
attribute [local go_sem] max_fold min_fold

theorem from_in {x y r b : Int} (h : -40000 ≤ x ∧ x ≤ 40000 ∧ -40000 ≤ y ∧ y ≤ 40000 ∧ -40000 ≤ r ∧ r ≤ 40000 ∧ -40000 ≤ b ∧ b ≤ 40000) : fromR x y r b = if r ≤ x ∨ b ≤ y then zero else ⟨x, y, r - x, b - y⟩ := by
  unfold fromR
  split
  · rfl
  · rw [IntWalk.wrap64_in _ (by omega), IntWalk.wrap64_in _ (by omega)]
def suma : List Rc → Int
  | [] => 0
  | r :: l => area r + suma l
theorem suma_append (l m : List Rc) : suma (l ++ m) = suma l + suma m := by
  induction l with
  | nil => simp [suma]
  | cons r l ih => simp [suma, ih]; omega
theorem suma_nz (l : List Rc) : suma (l.filter nz) = suma l := by
  induction l with
  | nil => rfl
  | cons r l ih =>
    by_cases h : r = zero
    · subst h
      have : nz zero = false := by decide
      simp [List.filter_cons, this, suma, ih, show area zero = 0 by decide]
    · have : nz r = true := by simp [nz, h]
      simp [List.filter_cons, this, suma, ih]

/-- A rectangle from one corner to another, which may be. -/
theorem area_from {x y r b : Int} (h : -16384 ≤ x ∧ x ≤ r ∧ r ≤ 16384 ∧ -16384 ≤ y ∧ y ≤ b ∧ b ≤ 16384) : area (fromR x y r b) = (r - x) * (b - y) := by
  rw [from_in (by omega)]
  split
  · rename_i h0
    have hz : r - x = 0 ∨ b - y = 0 := by omega
    rw [show area zero = 0 by decide]
    rcases hz with hz | hz <;> simp [hz]
  · rename_i h0
    have he : empty ⟨x, y, r - x, b - y⟩ = false := (empty_iff _ _ _ _).2 (by omega)
    simp [area, he]
theorem from_full {x y r b : Int} (h : -16384 ≤ x ∧ x ≤ 16384 ∧ r ≤ 16384 ∧ -16384 ≤ r ∧ -16384 ≤ y ∧ y ≤ 16384 ∧ b ≤ 16384 ∧ -16384 ≤ b) (hn : nz (fromR x y r b) = true) : fromR x y r b = ⟨x, y, r - x, b - y⟩ ∧ x < r ∧ y < b := by
  have e := from_in (x := x) (y := y) (r := r) (b := b) (by omega)
  split at e
  · rw [e] at hn
    exact absurd hn (by decide)
  · exact ⟨e, by omega, by omega⟩
theorem area_sum (t h u p w q : Int) : w * h + ((p + w + q) * t + (p * h + (q * h + ((p + w + q) * u + 0)))) = (p + w + q) * (t + h + u) := by
  simp only [Int.add_mul, Int.mul_add]
  omega

theorem meet_self {p : Rc} (h : empty p = false) : meet p p = p := by
  have a := (empty_iff p.x p.y p.w p.h).1 h
  rw [meet_full h h, if_neg (by omega)]
  cases p
  simp
  omega
theorem inR_self (p : Rc) : inR p p = true := by
  unfold inR
  cases h : empty p
  · simp [meet_self h]
  · rfl

theorem areas_sum {p q : Rc} (hp : may p = true) (hq : may q = true) : area (meet p q) + suma (lessL p q) = area p := by
  unfold lessL
  simp only [hp, hq, Bool.and_self, Bool.not_true, Bool.false_eq_true, if_false]
  split
  · rename_i h
    simp [meet, h, area, suma, show empty zero = true by decide]
  · split
    · rename_i h0 h1
      rw [h1]
      simp [suma, show area zero = 0 by decide]
    · rename_i h0 h1
      obtain ⟨hm, h2, h3⟩ := meet_ok h1
      have a := (empty_iff p.x p.y p.w p.h).1 h2
      have b := (empty_iff q.x q.y q.w q.h).1 h3
      rw [show (pieces p (meet p q)).filter (fun r => !decide (r = zero)) = (pieces p (meet p q)).filter nz from rfl, suma_nz]
      have e := meet_full h2 h3
      split at e
      · exact absurd e h1
      · generalize meet p q = m at *
        have c := (empty_iff m.x m.y m.w m.h).1 hm
        have mx : m.x = max p.x q.x := by rw [e]
        have my : m.y = max p.y q.y := by rw [e]
        have mw : m.w = min (p.x + p.w) (q.x + q.w) - max p.x q.x := by rw [e]
        have mh : m.h = min (p.y + p.h) (q.y + q.h) - max p.y q.y := by rw [e]
        simp only [pieces, suma]
        rw [area_from (by omega), area_from (by omega), area_from (by omega), area_from (by omega)]
        have am : area m = m.w * m.h := by simp [area, hm]
        have ap : area p = p.w * p.h := by simp [area, h2]
        rw [am, ap]
        have k := area_sum (m.y - p.y) m.h (p.y + p.h - (m.y + m.h)) (m.x - p.x) m.w (p.x + p.w - (m.x + m.w))
        rw [show m.x - p.x + m.w + (p.x + p.w - (m.x + m.w)) = p.w by omega, show m.y - p.y + m.h + (p.y + p.h - (m.y + m.h)) = p.h by omega] at k
        rw [← k, show p.x + p.w - p.x = p.w by omega, show m.y + m.h - m.y = m.h by omega]

theorem rc_ext {r s : Rc} (h1 : r.x = s.x) (h2 : r.y = s.y) (h3 : r.w = s.w) (h4 : r.h = s.h) : r = s := by
  cases r
  cases s
  simp_all
theorem inR_of {r p : Rc} (hr : empty r = false) (hp : empty p = false) (h : p.x ≤ r.x ∧ r.x + r.w ≤ p.x + p.w ∧ p.y ≤ r.y ∧ r.y + r.h ≤ p.y + p.h) : inR r p = true := by
  have a := (empty_iff r.x r.y r.w r.h).1 hr
  have e : meet r p = r := by
    rw [meet_full hr hp, if_neg (by omega)]
    refine rc_ext ?_ ?_ ?_ ?_ <;> simp only <;> omega
  simp [inR, hr, e]
theorem over_not {r p : Rc} (hr : empty r = false) (hp : empty p = false) (h : r.x + r.w ≤ p.x ∨ p.x + p.w ≤ r.x ∨ r.y + r.h ≤ p.y ∨ p.y + p.h ≤ r.y) : over r p = false := by
  have e : meet r p = zero := by
    rw [meet_full hr hp, if_pos (by omega)]
  simp [over, e]
theorem piece_prop {p q : Rc} (hp : may p = true) (hq : may q = true) {r : Rc} (hr : r ∈ lessL p q) : empty r = false ∧ inR r p = true ∧ over r q = false := by
  unfold lessL at hr
  simp only [hp, hq, Bool.and_self, Bool.not_true, Bool.false_eq_true, if_false] at hr
  split at hr
  · cases hr
  · rename_i h0
    have h2 : empty p = false := by simpa using h0
    split at hr
    · rename_i h1
      simp only [List.mem_singleton] at hr
      subst hr
      exact ⟨h2, inR_self r, by simp [over, h1]⟩
    · rename_i h1
      obtain ⟨hm, _, h3⟩ := meet_ok h1
      have a := (empty_iff p.x p.y p.w p.h).1 h2
      have b := (empty_iff q.x q.y q.w q.h).1 h3
      have e := meet_full h2 h3
      split at e
      · exact absurd e h1
      · generalize meet p q = m at *
        have c := (empty_iff m.x m.y m.w m.h).1 hm
        have mx : m.x = max p.x q.x := by rw [e]
        have my : m.y = max p.y q.y := by rw [e]
        have mw : m.w = min (p.x + p.w) (q.x + q.w) - max p.x q.x := by rw [e]
        have mh : m.h = min (p.y + p.h) (q.y + q.h) - max p.y q.y := by rw [e]
        simp only [List.mem_filter, pieces, List.mem_cons, List.not_mem_nil, or_false] at hr
        obtain ⟨hr, hn⟩ := hr
        have hn' : nz r = true := hn
        clear e
        rcases hr with rfl | rfl | rfl | rfl
        all_goals
          obtain ⟨e2, l1, l2⟩ := from_full (by omega) hn'
          rw [e2]
          exact ⟨(empty_iff _ _ _ _).2 (by omega), inR_of ((empty_iff _ _ _ _).2 (by omega)) h2 (by simp only; omega), over_not ((empty_iff _ _ _ _).2 (by omega)) h3 (by simp only; omega)⟩
theorem join_prop {p q : Rc} (hp : may p = true) (hq : may q = true) : may (join p q) = true ∧ inR p (join p q) = true ∧ inR q (join p q) = true := by
  unfold join
  cases h2 : empty p <;> cases h3 : empty q
  · have a := (empty_iff p.x p.y p.w p.h).1 h2
    have b := (empty_iff q.x q.y q.w q.h).1 h3
    simp only [Bool.false_eq_true, if_false]
    rw [from_in (by omega), if_neg (by omega)]
    have he : empty ⟨min p.x q.x, min p.y q.y, max (p.x + p.w) (q.x + q.w) - min p.x q.x, max (p.y + p.h) (q.y + q.h) - min p.y q.y⟩ = false := (empty_iff _ _ _ _).2 (by omega)
    exact ⟨empty_may he, inR_of h2 he (by simp only; omega), inR_of h3 he (by simp only; omega)⟩
  · simp only [Bool.false_eq_true, if_false, if_true]
    exact ⟨hp, inR_self p, by simp [inR, h3]⟩
  · simp only [Bool.false_eq_true, if_false, if_true]
    exact ⟨hq, by simp [inR, h2], inR_self q⟩
  · simp only [if_true]
    exact ⟨by decide, by simp [inR, h2], by simp [inR, h3]⟩
theorem in_len {p q : Rc} (hp : may p = true) (hq : may q = true) : inR p q = decide ((lessL p q).length = 0) := by
  have s := areas_sum hp hq
  cases h2 : empty p
  · have a := (empty_iff p.x p.y p.w p.h).1 h2
    by_cases h1 : meet p q = zero
    · have : lessL p q = [p] := by simp [lessL, hp, hq, h2, h1]
      rw [this]
      have hz : zero ≠ p := by
        intro e
        rw [← e] at h2
        exact absurd h2 (by decide)
      simp [inR, h2, h1, hz]
    · obtain ⟨hm, _, h3⟩ := meet_ok h1
      have b := (empty_iff q.x q.y q.w q.h).1 h3
      have c := (empty_iff _ _ _ _).1 hm
      have e := meet_full h2 h3
      split at e
      · exact absurd e h1
      · by_cases hmp : meet p q = p
        · have hl : lessL p q = [] := by
            have : lessL p q = (pieces p (meet p q)).filter nz := by simp only [lessL, hp, hq, h2, h1, Bool.and_self, Bool.not_true, Bool.false_eq_true, if_false]; rfl
            rw [this, hmp, List.filter_eq_nil_iff]
            intro r hr
            simp only [pieces, List.mem_cons, List.not_mem_nil, or_false] at hr
            have hz : r = zero := by
              rcases hr with rfl | rfl | rfl | rfl <;> exact if_pos (by omega)
            rw [hz]
            decide
          simp [inR, h2, hmp, hl]
        · have : inR p q = false := by simp [inR, h2, hmp]
          rw [this]
          symm
          simp only [decide_eq_false_iff_not]
          intro hl
          have hl' : lessL p q = [] := List.eq_nil_of_length_eq_zero hl
          have : lessL p q = (pieces p (meet p q)).filter nz := by simp only [lessL, hp, hq, h2, h1, Bool.and_self, Bool.not_true, Bool.false_eq_true, if_false]; rfl
          rw [this, List.filter_eq_nil_iff] at hl'
          have z : ∀ r ∈ pieces p (meet p q), r = zero := fun r hr => by
            have := hl' r hr
            simpa [nz] using this
          have z0 := z _ (List.mem_cons_self ..)
          have z1 := z (fromR p.x (meet p q).y (meet p q).x ((meet p q).y + (meet p q).h)) (by simp [pieces])
          have z2 := z (fromR ((meet p q).x + (meet p q).w) (meet p q).y (p.x + p.w) ((meet p q).y + (meet p q).h)) (by simp [pieces])
          have z3 := z (fromR p.x ((meet p q).y + (meet p q).h) (p.x + p.w) (p.y + p.h)) (by simp [pieces])
          refine hmp ?_
          generalize meet p q = m at *
          have mx : m.x = max p.x q.x := by rw [e]
          have my : m.y = max p.y q.y := by rw [e]
          have mw : m.w = min (p.x + p.w) (q.x + q.w) - max p.x q.x := by rw [e]
          have mh : m.h = min (p.y + p.h) (q.y + q.h) - max p.y q.y := by rw [e]
          clear e
          have f : ∀ {x y r b : Int}, (-16384 ≤ x ∧ x ≤ 16384 ∧ r ≤ 16384 ∧ -16384 ≤ r ∧ -16384 ≤ y ∧ y ≤ 16384 ∧ b ≤ 16384 ∧ -16384 ≤ b) → fromR x y r b = zero → r ≤ x ∨ b ≤ y := by
            intro x y r b hb hz
            rw [from_in (by omega)] at hz
            split at hz
            · assumption
            · exfalso
              have h1 := congrArg Rc.w hz
              simp [zero] at h1
              omega
          have k0 := f (by omega) z0
          have k1 := f (by omega) z1
          have k2 := f (by omega) z2
          have k3 := f (by omega) z3
          exact rc_ext (by omega) (by omega) (by omega) (by omega)
  · have : lessL p q = [] := by simp [lessL, hp, hq, h2]
    rw [this]
    simp [inR, h2]

theorem suma_take (l : List Rc) (k : Nat) (h : k < l.length) : suma (l.take (k + 1)) = suma (l.take k) + area l[k] := by
  rw [List.take_succ_eq_append_getElem h, suma_append]
  simp [suma]
theorem suma_bd (l : List Rc) : 0 ≤ suma l ∧ suma l ≤ 1073741824 * l.length := by
  induction l with
  | nil => simp [suma]
  | cons r l ih =>
    have : 0 ≤ area r ∧ area r ≤ 1073741824 := by
      unfold area
      split
      · omega
      · rename_i h
        have a := (empty_iff r.x r.y r.w r.h).1 (by simpa using h)
        exact mul_bd (by omega) (by omega)
    simp only [suma, List.length_cons]
    omega
theorem less_len (p q : Rc) : (lessL p q).length ≤ 4 := by
  unfold lessL
  split
  · simp
  · split
    · simp
    · split
      · simp
      · exact Nat.le_trans (List.length_filter_le _ _) (by simp [pieces])

theorem in_is {x y a b p q c d : Int} {v : Bool} (h : inR ⟨x, y, a, b⟩ ⟨p, q, c, d⟩ = v) (w : World) :
    Calls Try.prog 31 #[.agg #[.int .i64 x, .int .i64 y, .int .i64 a, .int .i64 b], .agg #[.int .i64 p, .int .i64 q, .int .i64 c, .int .i64 d]] w fun e w' => e = .returned (.bool v) ∧ Below w.heap.size w w' := h ▸ in_any x y a b p q c d w
theorem over_is {x y a b p q c d : Int} {v : Bool} (h : over ⟨x, y, a, b⟩ ⟨p, q, c, d⟩ = v) (w : World) :
    Calls Try.prog 33 #[.agg #[.int .i64 x, .int .i64 y, .int .i64 a, .int .i64 b], .agg #[.int .i64 p, .int .i64 q, .int .i64 c, .int .i64 d]] w fun e w' => e = .returned (.bool v) ∧ Below w.heap.size w w' := h ▸ over_any x y a b p q c d w
theorem check_is {x y a b v : Int} (h : checkE ⟨x, y, a, b⟩ = v) (w : World) :
    Calls Try.prog 12 #[.agg #[.int .i64 x, .int .i64 y, .int .i64 a, .int .i64 b]] w fun e w' => e = .returned (.int .i64 v) ∧ Below w.heap.size w w' := h ▸ check_any x y a b w

theorem less_err {x y a b p q c d : Int} (h : (may ⟨x, y, a, b⟩ && may ⟨p, q, c, d⟩) = false) (w : World) :
    Calls Try.prog 28 #[.agg #[.int .i64 x, .int .i64 y, .int .i64 a, .int .i64 b], .agg #[.int .i64 p, .int .i64 q, .int .i64 c, .int .i64 d]] w fun e w' => ∃ A c, e = .returned (.tuple #[.slice A 0 c, .int .i64 5]) ∧ Below w.heap.size w w' :=
  (less_no x y a b p q c d w h).mono fun _ _ ⟨A, c, he, _, hb⟩ => ⟨A, c, he, hb⟩

set_option maxHeartbeats 2000000 in
theorem areas_err (x y a b p q c d : Int) (w : World) (h : (may ⟨x, y, a, b⟩ && may ⟨p, q, c, d⟩) = false) :
    Calls Try.prog 6 #[.agg #[.int .i64 x, .int .i64 y, .int .i64 a, .int .i64 b], .agg #[.int .i64 p, .int .i64 q, .int .i64 c, .int .i64 d]] w fun e w' => e = .returned (.bool true) ∧ Below w.heap.size w w' := by
  cases h1 : may ⟨x, y, a, b⟩
  · have hk : checkE ⟨x, y, a, b⟩ = 5 := by simp [checkE, h1]
    go_enter Try.func6, Try.ntmps6
    go_wp2_with (first | (go_at_call 37; refine (alive_any _).mono ?_; rintro e w1 ⟨rfl, hb1⟩; obtain ⟨hc1, hf1⟩ := bcell hb1; have hs1 := hb1.size; (try simp at hs1); have z1_0 : w.heap.size < w1.heap.size := (by omega); have y1_0 : w.heap.size < w1.heap.size + 1 := (by omega); have z1_1 : w.heap.size + 1 < w1.heap.size := (by omega); have y1_1 : w.heap.size + 1 < w1.heap.size + 1 := (by omega)) | (go_at_call 28; refine (less_err h _).mono ?_; rintro e w2 ⟨A, C, rfl, hb2⟩; obtain ⟨hc2, hf2⟩ := bcell hb2; have hs2 := hb2.size; have z2 : w.heap.size < w2.heap.size := (by omega); have z3 : w.heap.size + 1 < w2.heap.size := (by omega)) | (go_at_call 12; refine (check_is hk _).mono ?_; rintro e w3 ⟨rfl, hb3⟩; obtain ⟨hc3, hf3⟩ := bcell hb3; have hs3 := hb3.size; (try simp at hs3); have z3_0 : w.heap.size < w3.heap.size := (by omega); have y3_0 : w.heap.size < w3.heap.size + 1 := (by omega); have z3_1 : w.heap.size + 1 < w3.heap.size := (by omega); have y3_1 : w.heap.size + 1 < w3.heap.size + 1 := (by omega)))
    go_ret
    exact ⟨rfl, (by repeat (first | exact Below.refl _ _ | with_reducible refine Below.alloc ?_ (by first | (simp; done) | (simp; omega) | omega) _ | with_reducible refine Below.setCell ?_ (by first | (simp; done) | (simp; omega) | omega) _ | with_reducible refine Below.drew ?_ | with_reducible refine Below.trans ?_ (Below.mono (by assumption) (by first | (simp; done) | (simp; omega) | omega))))⟩
  · have h2 : may ⟨p, q, c, d⟩ = false := by simpa [h1] using h
    have hk : checkE ⟨x, y, a, b⟩ = 0 := by simp [checkE, h1]
    have hk2 : checkE ⟨p, q, c, d⟩ = 5 := by simp [checkE, h2]
    have H1 := Go.Lib.hid hk
    have H2 := Go.Lib.hid hk2
    clear hk hk2
    go_enter Try.func6, Try.ntmps6
    go_wp2_with (first | (go_at_call 37; refine (alive_any _).mono ?_; rintro e w1 ⟨rfl, hb1⟩; obtain ⟨hc1, hf1⟩ := bcell hb1; have hs1 := hb1.size; (try simp at hs1); have z1_0 : w.heap.size < w1.heap.size := (by omega); have y1_0 : w.heap.size < w1.heap.size + 1 := (by omega); have z1_1 : w.heap.size + 1 < w1.heap.size := (by omega); have y1_1 : w.heap.size + 1 < w1.heap.size + 1 := (by omega)) | (go_at_call 28; refine (less_err h _).mono ?_; rintro e w2 ⟨A, C, rfl, hb2⟩; obtain ⟨hc2, hf2⟩ := bcell hb2; have hs2 := hb2.size; have z2 : w.heap.size < w2.heap.size := (by omega); have z3 : w.heap.size + 1 < w2.heap.size := (by omega)) | (go_at_call 12; (with_reducible refine (check_is H1.out _).mono ?_); rintro e w3 ⟨rfl, hb3⟩; obtain ⟨hc3, hf3⟩ := bcell hb3; have hs3 := hb3.size; (try simp at hs3); have z3_0 : w.heap.size < w3.heap.size := (by omega); have y3_0 : w.heap.size < w3.heap.size + 1 := (by omega); have z3_1 : w.heap.size + 1 < w3.heap.size := (by omega); have y3_1 : w.heap.size + 1 < w3.heap.size + 1 := (by omega)) | (go_at_call 12; (with_reducible refine (check_is H2.out _).mono ?_); rintro e w4 ⟨rfl, hb4⟩; obtain ⟨hc4, hf4⟩ := bcell hb4; have hs4 := hb4.size; (try simp at hs4); have z4_0 : w.heap.size < w4.heap.size := (by omega); have y4_0 : w.heap.size < w4.heap.size + 1 := (by omega); have z4_1 : w.heap.size + 1 < w4.heap.size := (by omega); have y4_1 : w.heap.size + 1 < w4.heap.size + 1 := (by omega)))
    go_ret
    exact ⟨rfl, (by repeat (first | exact Below.refl _ _ | with_reducible refine Below.alloc ?_ (by first | (simp; done) | (simp; omega) | omega) _ | with_reducible refine Below.setCell ?_ (by first | (simp; done) | (simp; omega) | omega) _ | with_reducible refine Below.drew ?_ | with_reducible refine Below.trans ?_ (Below.mono (by assumption) (by first | (simp; done) | (simp; omega) | omega))))⟩

theorem area_is {x y a b v : Int} (h : area ⟨x, y, a, b⟩ = v) (w : World) :
    Calls Try.prog 16 #[.agg #[.int .i64 x, .int .i64 y, .int .i64 a, .int .i64 b]] w fun e w' => e = .returned (.int .i64 v) ∧ Below w.heap.size w w' := h ▸ area_any x y a b w
theorem join_is {x y a b p q c d : Int} {j : Rc} (h : join ⟨x, y, a, b⟩ ⟨p, q, c, d⟩ = j) (w : World) :
    Calls Try.prog 26 #[.agg #[.int .i64 x, .int .i64 y, .int .i64 a, .int .i64 b], .agg #[.int .i64 p, .int .i64 q, .int .i64 c, .int .i64 d]] w fun e w' => e = .returned (.agg #[.int .i64 j.x, .int .i64 j.y, .int .i64 j.w, .int .i64 j.h]) ∧ Below w.heap.size w w' := h ▸ join_any x y a b p q c d w
theorem meet_is {x y a b p q c d : Int} {j : Rc} (h : meet ⟨x, y, a, b⟩ ⟨p, q, c, d⟩ = j) (w : World) :
    Calls Try.prog 35 #[.agg #[.int .i64 x, .int .i64 y, .int .i64 a, .int .i64 b], .agg #[.int .i64 p, .int .i64 q, .int .i64 c, .int .i64 d]] w fun e w' => e = .returned (.agg #[.int .i64 j.x, .int .i64 j.y, .int .i64 j.w, .int .i64 j.h]) ∧ Below w.heap.size w w' := h ▸ meet_any x y a b p q c d w
theorem area_bd (r : Rc) : 0 ≤ area r ∧ area r ≤ 1073741824 := by
  have := suma_bd [r]
  simp only [suma, List.length_cons, List.length_nil] at this
  omega

set_option maxHeartbeats 4000000 in
theorem areas_ok (x y a b p q c d : Int) (w : World) (h1 : may ⟨x, y, a, b⟩ = true) (h2 : may ⟨p, q, c, d⟩ = true) :
    Calls Try.prog 6 #[.agg #[.int .i64 x, .int .i64 y, .int .i64 a, .int .i64 b], .agg #[.int .i64 p, .int .i64 q, .int .i64 c, .int .i64 d]] w fun e w' => e = .returned (.bool true) ∧ Below w.heap.size w w' := by
  have hless := less_any x y a b p q c d
  have hmem : ∀ r ∈ lessL ⟨x, y, a, b⟩ ⟨p, q, c, d⟩, _ := fun r hr => piece_prop h1 h2 hr
  have hsum := areas_sum h1 h2
  have hjoin := join_prop h1 h2
  have hin := in_len h1 h2
  have hlen := less_len ⟨x, y, a, b⟩ ⟨p, q, c, d⟩
  rw [show lessE ⟨x, y, a, b⟩ ⟨p, q, c, d⟩ = 0 by simp [lessE, h1, h2]] at hless
  generalize lessL ⟨x, y, a, b⟩ ⟨p, q, c, d⟩ = l at *
  generalize hm : meet ⟨x, y, a, b⟩ ⟨p, q, c, d⟩ = m at *
  generalize hj : join ⟨x, y, a, b⟩ ⟨p, q, c, d⟩ = j at *
  generalize har : area ⟨x, y, a, b⟩ = S at *
  generalize ham : area m = M at *
  have bm : 0 ≤ M ∧ M ≤ 1073741824 := ham ▸ area_bd m
  have hcj : checkE j = 0 := may_check.1 hjoin.1
  have HLESS := Go.Lib.hid hless
  have HMEM := Go.Lib.hid hmem
  have HSUM := Go.Lib.hid hsum
  have HJOIN := Go.Lib.hid hjoin
  have HIN := Go.Lib.hid hin
  have HM := Go.Lib.hid hm
  have HJ := Go.Lib.hid hj
  have HS := Go.Lib.hid har
  have HA := Go.Lib.hid ham
  have HC := Go.Lib.hid hcj
  clear hless hmem hsum hjoin hin hm hj har ham hcj
  go_enter Try.func6, Try.ntmps6
  go_wp2_with (first | (go_at_call 37; refine (alive_any _).mono ?_; rintro e w1 ⟨rfl, hb1⟩; obtain ⟨hc1, hf1⟩ := bcell hb1; have hs1 := hb1.size; (try simp at hs1); have z1_0 : w.heap.size < w1.heap.size := (by omega); have y1_0 : w.heap.size < w1.heap.size + 1 := (by omega); have z1_1 : w.heap.size + 1 < w1.heap.size := (by omega); have y1_1 : w.heap.size + 1 < w1.heap.size + 1 := (by omega)) | (go_at_call 28; refine (HLESS.out _).mono ?_; rintro e w2 ⟨A, C, rfl, hown, hb2⟩; obtain ⟨hc2, hf2⟩ := bcell hb2; have hs2 := hb2.size; have z2_0 : w.heap.size < w2.heap.size := (by omega); have z2_1 : w.heap.size + 1 < w2.heap.size := (by omega); have hrow := RowAt.of_own hown; clear hown) | (go_at_call 35; refine (meet_is HM.out _).mono ?_; rintro e w3 ⟨rfl, hb3⟩; obtain ⟨hc3, hf3⟩ := bcell hb3; have hs3 := hb3.size; (try simp at hs3); have z3_0 : w.heap.size < w3.heap.size := (by omega); have y3_0 : w.heap.size < w3.heap.size + 1 := (by omega); have z3_1 : w.heap.size + 1 < w3.heap.size := (by omega); have y3_1 : w.heap.size + 1 < w3.heap.size + 1 := (by omega)) | (go_at_call 16; refine (area_is HA.out _).mono ?_; rintro e w4 ⟨rfl, hb4⟩; obtain ⟨hc4, hf4⟩ := bcell hb4; have hs4 := hb4.size; (try simp at hs4); have z4_0 : w.heap.size < w4.heap.size := (by omega); have y4_0 : w.heap.size < w4.heap.size + 1 := (by omega); have z4_1 : w.heap.size + 1 < w4.heap.size := (by omega); have y4_1 : w.heap.size + 1 < w4.heap.size + 1 := (by omega)))
  have hrow4 := (hrow.below hb3).below hb4
  clear hrow
  have hb04 : Below w.heap.size w w4 := (by repeat (first | exact Below.refl _ _ | with_reducible refine Below.alloc ?_ (by first | (simp; done) | (simp; omega) | omega) _ | with_reducible refine Below.setCell ?_ (by first | (simp; done) | (simp; omega) | omega) _ | with_reducible refine Below.drew ?_ | with_reducible refine Below.trans ?_ (Below.mono (by assumption) (by first | (simp; done) | (simp; omega) | omega))))
  go_loopw [8, 9] (fun n i wr => ∃ (k : Nat) (N : Int), k ≤ l.length ∧ i = .int .i64 k ∧ n = .int .i64 N ∧ Hid (N = M + suma (l.take k)) ∧ Below w4.heap.size w4 wr) (fun _ i _ => l.length - (intOf i).toNat)
  case atStart => exact ⟨0, M, by omega, rfl, rfl, Go.Lib.hid (by simp [suma]), Below.refl _ _⟩
  case round =>
    obtain ⟨k, N, hk, rfl, rfl, hN, hbr⟩ := hrel
    obtain ⟨hcr, hfr⟩ := bcell hbr
    have hsr := hbr.size
    have zr0 : w.heap.size < wr.heap.size := by omega
    have zr1 : w.heap.size + 1 < wr.heap.size := by omega
    have hbN : 0 ≤ N ∧ N ≤ 10000000000 := by
      have e := hN.out
      have := suma_bd (l.take k)
      have := List.length_take_le k l
      have : (l.take k).length ≤ 4 := by rw [List.length_take]; omega
      omega
    by_cases hlt : k < l.length
    · have hli : (k : Int) < (l.length : Int) := by omega
      obtain ⟨g, rfl, hg, hcg⟩ := (hrow4.below hbr) (by omega)
      obtain ⟨a0, a1, a2, a3⟩ := hcg k hlt
      clear hcg
      have ht := HMEM.out l[k] (List.getElem_mem hlt)
      have HT := Go.Lib.hid ht
      clear ht
      have bk := area_bd l[k]
      obtain ⟨ak, hak⟩ : ∃ ak, area l[k] = ak := ⟨_, rfl⟩
      rw [hak] at bk
      have HK := Go.Lib.hid hak
      clear hak
      go_wp2
      refine region_ext mixed (by kernel_rfl) ?_
      repeat (go_big_quiet_step (first | (go_at_call 14; exact in_ext (empty_is HT.out.1 _)) | (go_at_call 31; exact in_ext (in_is HT.out.2.1 _)) | (go_at_call 33; exact in_ext (over_is HT.out.2.2 _))))
      refine wpQuiet_nil ?_
      intro w7 hb7
      obtain ⟨hc7, hf7⟩ := bcell hb7
      have hs7 := hb7.size
      have z7 : g < w7.heap.size := by omega
      go_wp2_with (first | (go_at_call 16; refine (area_is HK.out _).mono ?_; rintro e w8 ⟨rfl, hb8⟩; obtain ⟨hc8, hf8⟩ := bcell hb8; have hs8 := hb8.size; (try simp at hs8)))
      go_roundw
      case rel =>
        refine ⟨k + 1, N + ak, by omega, by go_num, rfl, Go.Lib.hid ?_, ?_⟩
        · have e := hN.out
          have e2 := HK.out
          rw [suma_take l k hlt]
          omega
        · exact (hbr.trans (hb7.mono hsr)).trans (hb8.mono (by omega))
      case measure => simp [intOf]; omega
    · have hlt' : ¬ ((k : Int) < (l.length : Int)) := by omega
      have hkl : k = l.length := by omega
      have hNS : N = S := by
        have e := hN.out
        have s := HSUM.out
        rw [hkl, List.take_length] at e
        omega
      subst hNS
      clear hN hbN hrow4
      have hle : ((l.length : Int) == 0) = decide (l.length = 0) := by
        rw [Bool.eq_iff_iff]
        simp
      go_wp2_with (first | (go_at_call 26; refine (join_is HJ.out _).mono ?_; rintro e w8 ⟨rfl, hb8⟩; obtain ⟨hc8, hf8⟩ := bcell hb8; have hs8 := hb8.size; (try simp at hs8); have z8_0 : w.heap.size < w8.heap.size := (by omega); have y8_0 : w.heap.size < w8.heap.size + 1 := (by omega); have z8_1 : w.heap.size + 1 < w8.heap.size := (by omega); have y8_1 : w.heap.size + 1 < w8.heap.size + 1 := (by omega)) | (go_at_call 16; refine (area_is HS.out _).mono ?_; rintro e w9 ⟨rfl, hb9⟩; obtain ⟨hc9, hf9⟩ := bcell hb9; have hs9 := hb9.size; (try simp at hs9); have z9_0 : w.heap.size < w9.heap.size := (by omega); have y9_0 : w.heap.size < w9.heap.size + 1 := (by omega); have z9_1 : w.heap.size + 1 < w9.heap.size := (by omega); have y9_1 : w.heap.size + 1 < w9.heap.size + 1 := (by omega); have z9_2 : w8.heap.size < w9.heap.size := (by omega); have y9_2 : w8.heap.size < w9.heap.size + 1 := (by omega)) | (go_at_call 31; (with_reducible refine (in_is HJOIN.out.2.1 _).mono ?_); rintro e w10 ⟨rfl, hb10⟩; obtain ⟨hc10, hf10⟩ := bcell hb10; have hs10 := hb10.size; (try simp at hs10); have z10_0 : w.heap.size < w10.heap.size := (by omega); have y10_0 : w.heap.size < w10.heap.size + 1 := (by omega); have z10_1 : w.heap.size + 1 < w10.heap.size := (by omega); have y10_1 : w.heap.size + 1 < w10.heap.size + 1 := (by omega); have z10_2 : w8.heap.size < w10.heap.size := (by omega); have y10_2 : w8.heap.size < w10.heap.size + 1 := (by omega)) | (go_at_call 31; (with_reducible refine (in_is HJOIN.out.2.2 _).mono ?_); rintro e w11 ⟨rfl, hb11⟩; obtain ⟨hc11, hf11⟩ := bcell hb11; have hs11 := hb11.size; (try simp at hs11); have z11_0 : w.heap.size < w11.heap.size := (by omega); have y11_0 : w.heap.size < w11.heap.size + 1 := (by omega); have z11_1 : w.heap.size + 1 < w11.heap.size := (by omega); have y11_1 : w.heap.size + 1 < w11.heap.size + 1 := (by omega); have z11_2 : w8.heap.size < w11.heap.size := (by omega); have y11_2 : w8.heap.size < w11.heap.size + 1 := (by omega)) | (go_at_call 12; refine (check_is HC.out _).mono ?_; rintro e w12 ⟨rfl, hb12⟩; obtain ⟨hc12, hf12⟩ := bcell hb12; have hs12 := hb12.size; (try simp at hs12); have z12_0 : w.heap.size < w12.heap.size := (by omega); have y12_0 : w.heap.size < w12.heap.size + 1 := (by omega); have z12_1 : w.heap.size + 1 < w12.heap.size := (by omega); have y12_1 : w.heap.size + 1 < w12.heap.size + 1 := (by omega); have z12_2 : w8.heap.size < w12.heap.size := (by omega); have y12_2 : w8.heap.size < w12.heap.size + 1 := (by omega)) | (go_at_call 31; (with_reducible refine (in_is HIN.out _).mono ?_); rintro e w13 ⟨rfl, hb13⟩; obtain ⟨hc13, hf13⟩ := bcell hb13; have hs13 := hb13.size; (try simp at hs13); have z13_0 : w.heap.size < w13.heap.size := (by omega); have y13_0 : w.heap.size < w13.heap.size + 1 := (by omega); have z13_1 : w.heap.size + 1 < w13.heap.size := (by omega); have y13_1 : w.heap.size + 1 < w13.heap.size + 1 := (by omega); have z13_2 : w8.heap.size < w13.heap.size := (by omega); have y13_2 : w8.heap.size < w13.heap.size + 1 := (by omega)))
      go_ret
      exact ⟨rfl, (by repeat (first | exact Below.refl _ _ | with_reducible refine Below.alloc ?_ (by first | (simp; done) | (simp; omega) | omega) _ | with_reducible refine Below.setCell ?_ (by first | (simp; done) | (simp; omega) | omega) _ | with_reducible refine Below.drew ?_ | with_reducible refine Below.trans ?_ (Below.mono (by assumption) (by first | (simp; done) | (simp; omega) | omega))))⟩

theorem walkGeomAreas (x y a b p q c d : Int) (w : World) :
    Calls Try.prog 6 #[.agg #[.int .i64 x, .int .i64 y, .int .i64 a, .int .i64 b], .agg #[.int .i64 p, .int .i64 q, .int .i64 c, .int .i64 d]] w fun e w' => e = .returned (.bool true) ∧ Below w.heap.size w w' := by
  cases h : (may ⟨x, y, a, b⟩ && may ⟨p, q, c, d⟩)
  · exact areas_err x y a b p q c d w h
  · obtain ⟨h1, h2⟩ : may ⟨x, y, a, b⟩ = true ∧ may ⟨p, q, c, d⟩ = true := by simpa using h
    exact areas_ok x y a b p q c d w h1 h2
end Go.Proofs.Ytoinjoihkodkeaa
