/- GeomPlaces: the leaves: has, rect. -/
import Derived.Test.YtoinjoihkodkeaaPlacesPlain
import Derived.Test.YtoinjoihkodkeaaBaseMake
namespace Go.Proofs.Ytoinjoihkodkeaa
set_option linter.unusedVariables false
set_option linter.unusedSimpArgs false
open Go.RowKit
attribute [local go_sem] max_fold min_fold

set_option maxHeartbeats 1000000 in
theorem lhas_any (r : Rc) (p q : Int) (w : World) (hx : -40000 ≤ r.x ∧ r.x ≤ 40000) (hy : -40000 ≤ r.y ∧ r.y ≤ 40000) (hw : 0 ≤ r.w ∧ r.w ≤ 40000) (hh : 0 ≤ r.h ∧ r.h ≤ 40000) :
    Calls Try.prog 39 #[.agg #[.int .i64 r.x, .int .i64 r.y, .int .i64 r.w, .int .i64 r.h], .int .i64 p, .int .i64 q] w fun e w' => e = .returned (.bool (hasP r p q)) ∧ Below w.heap.size w w' := by
  go_enter Try.func39, Try.ntmps39
  go_wp2
  all_goals
    go_ret
    exact ⟨ret_bool (by unfold hasP; first | (simp [*]; done) | (simp; omega)), (by repeat (first | exact Below.refl _ _ | with_reducible refine Below.alloc ?_ (by first | (simp; done) | (simp; omega) | omega) _ | with_reducible refine Below.setCell ?_ (by first | (simp; done) | (simp; omega) | omega) _ | with_reducible refine Below.drew ?_ | with_reducible refine Below.trans ?_ (Below.mono (by assumption) (by first | (simp; done) | (simp; omega) | omega))))⟩
theorem lhas_is {r : Rc} {p q : Int} {v : Bool} (h : hasP r p q = v) (hx : -40000 ≤ r.x ∧ r.x ≤ 40000) (hy : -40000 ≤ r.y ∧ r.y ≤ 40000) (hw : 0 ≤ r.w ∧ r.w ≤ 40000) (hh : 0 ≤ r.h ∧ r.h ≤ 40000) (w : World) :
    Calls Try.prog 39 #[.agg #[.int .i64 r.x, .int .i64 r.y, .int .i64 r.w, .int .i64 r.h], .int .i64 p, .int .i64 q] w fun e w' => e = .returned (.bool v) ∧ Below w.heap.size w w' := h ▸ lhas_any r p q w hx hy hw hh

def fourR (a b c d : Int) : Rc := ⟨a.tmod 16, b.tmod 16, (wrap64 (c.tmod 16 + 16)).tmod 16, (wrap64 (d.tmod 16 + 16)).tmod 16⟩
theorem fourR_in (a b c d : Int) : InR (fourR a b c d) := by
  have bd : ∀ t : Int, -15 ≤ t.tmod 16 ∧ t.tmod 16 ≤ 15 := by
    intro t
    have h1 := Int.tmod_lt_of_pos t (show (0 : Int) < 16 by omega)
    have h2 := Int.lt_tmod_of_pos t (show (0 : Int) < 16 by omega)
    omega
  have bn : ∀ t : Int, 0 ≤ (wrap64 (t.tmod 16 + 16)).tmod 16 ∧ (wrap64 (t.tmod 16 + 16)).tmod 16 ≤ 15 := by
    intro t
    have h1 := bd t
    rw [IntWalk.wrap64_in _ (by omega)]
    have h2 := Int.tmod_nonneg 16 (show 0 ≤ t.tmod 16 + 16 by omega)
    have h3 := bd (t.tmod 16 + 16)
    omega
  exact ⟨bd a, bd b, bn c, bn d⟩
set_option maxHeartbeats 1000000 in
theorem rect_any (a b c d : Int) (w : World) (ha : -128 ≤ a ∧ a ≤ 127) (hb : -128 ≤ b ∧ b ≤ 127) (hc : -128 ≤ c ∧ c ≤ 127) (hd : -128 ≤ d ∧ d ≤ 127) :
    Calls Try.prog 38 #[.agg #[.int .i8 a, .int .i8 b, .int .i8 c, .int .i8 d]] w fun e w' => e = .returned (.agg #[.int .i64 (fourR a b c d).x, .int .i64 (fourR a b c d).y, .int .i64 (fourR a b c d).w, .int .i64 (fourR a b c d).h]) ∧ Below w.heap.size w w' := by
  go_enter Try.func38, Try.ntmps38
  go_wp2_with (first | (go_at_call 40; refine (r_any _ _ _ _ _).mono ?_; rintro e w1 ⟨rfl, hb⟩; (first | (have hP1 := hP.trans (hb.mono hP.size); clear hP hb hc hf z0 z1; have hP := hP1; clear hP1) | (have hP := hb; clear hb)); obtain ⟨hc, hf⟩ := bcell hP; have z0 : w.heap.size < w1.heap.size := (by have hz := hP.size; (try simp at hz); omega); have z1 : w.heap.size + 1 < w1.heap.size := (by have hz := hP.size; (try simp at hz); omega)))
  exact bodyPost_ret (by simp [results, Try.results38, go_sem, fourR, *]) rfl ⟨rfl, (by repeat (first | exact Below.refl _ _ | with_reducible refine Below.alloc ?_ (by first | (simp; done) | (simp; omega) | omega) _ | with_reducible refine Below.setCell ?_ (by first | (simp; done) | (simp; omega) | omega) _ | with_reducible refine Below.drew ?_ | with_reducible refine Below.trans ?_ (Below.mono (by assumption) (by first | (simp; done) | (simp; omega) | omega))))⟩
theorem rect_is {a b c d : Int} {r : Rc} (h : fourR a b c d = r) (ha : -128 ≤ a ∧ a ≤ 127) (hb : -128 ≤ b ∧ b ≤ 127) (hc : -128 ≤ c ∧ c ≤ 127) (hd : -128 ≤ d ∧ d ≤ 127) (w : World) :
    Calls Try.prog 38 #[.agg #[.int .i8 a, .int .i8 b, .int .i8 c, .int .i8 d]] w fun e w' => e = .returned (.agg #[.int .i64 r.x, .int .i64 r.y, .int .i64 r.w, .int .i64 r.h]) ∧ Below w.heap.size w w' := h ▸ rect_any a b c d w ha hb hc hd
theorem meet_is3 {r s t : Rc} (h : meet r s = t) (w : World) : Calls Try.prog 35 #[.agg #[.int .i64 r.x, .int .i64 r.y, .int .i64 r.w, .int .i64 r.h], .agg #[.int .i64 s.x, .int .i64 s.y, .int .i64 s.w, .int .i64 s.h]] w fun e w' => e = .returned (.agg #[.int .i64 t.x, .int .i64 t.y, .int .i64 t.w, .int .i64 t.h]) ∧ Below w.heap.size w w' := h ▸ meet_any r.x r.y r.w r.h s.x s.y s.w s.h w
theorem join_is4 {r s t : Rc} (h : join r s = t) (w : World) : Calls Try.prog 26 #[.agg #[.int .i64 r.x, .int .i64 r.y, .int .i64 r.w, .int .i64 r.h], .agg #[.int .i64 s.x, .int .i64 s.y, .int .i64 s.w, .int .i64 s.h]] w fun e w' => e = .returned (.agg #[.int .i64 t.x, .int .i64 t.y, .int .i64 t.w, .int .i64 t.h]) ∧ Below w.heap.size w w' := h ▸ join_any r.x r.y r.w r.h s.x s.y s.w s.h w
theorem over_is4 {r s : Rc} {v : Bool} (h : over r s = v) (w : World) : Calls Try.prog 33 #[.agg #[.int .i64 r.x, .int .i64 r.y, .int .i64 r.w, .int .i64 r.h], .agg #[.int .i64 s.x, .int .i64 s.y, .int .i64 s.w, .int .i64 s.h]] w fun e w' => e = .returned (.bool v) ∧ Below w.heap.size w w' := h ▸ over_any r.x r.y r.w r.h s.x s.y s.w s.h w
theorem has_is4 {r : Rc} {p q : Int} {v : Bool} (h : has r p q = v) (w : World) : Calls Try.prog 18 #[.agg #[.int .i64 r.x, .int .i64 r.y, .int .i64 r.w, .int .i64 r.h], .agg #[.int .i64 p, .int .i64 q]] w fun e w' => e = .returned (.bool v) ∧ Below w.heap.size w w' := h ▸ has_any r.x r.y r.w r.h p q w
def Bd (r : Rc) : Prop := (-40000 ≤ r.x ∧ r.x ≤ 40000) ∧ (-40000 ≤ r.y ∧ r.y ≤ 40000) ∧ (0 ≤ r.w ∧ r.w ≤ 40000) ∧ (0 ≤ r.h ∧ r.h ≤ 40000)
theorem InR.bd {r : Rc} (h : InR r) : Bd r := by
  obtain ⟨h1, h2, h3, h4⟩ := h
  refine ⟨?_, ?_, ?_, ?_⟩ <;> omega
theorem zero_bd : Bd zero := by
  refine ⟨?_, ?_, ?_, ?_⟩ <;> decide
theorem fromR_bd {x y r b : Int} (hx : -100 ≤ x ∧ x ≤ 100) (hy : -100 ≤ y ∧ y ≤ 100) (hr : -100 ≤ r ∧ r ≤ 100) (hb : -100 ≤ b ∧ b ≤ 100) : Bd (fromR x y r b) := by
  unfold fromR
  split
  · exact zero_bd
  · rw [IntWalk.wrap64_in _ (by omega), IntWalk.wrap64_in _ (by omega)]
    refine ⟨?_, ?_, ?_, ?_⟩ <;> simp only <;> omega
theorem meet_bd {a b : Rc} (ha : InR a) (hb : InR b) : Bd (meet a b) := by
  obtain ⟨h1, h2, h3, h4⟩ := ha
  obtain ⟨k1, k2, k3, k4⟩ := hb
  unfold meet
  split
  · exact zero_bd
  · exact fromR_bd (by omega) (by omega) (by omega) (by omega)
theorem join_bd {a b : Rc} (ha : InR a) (hb : InR b) : Bd (join a b) := by
  have ha' := ha.bd
  have hb' := hb.bd
  obtain ⟨h1, h2, h3, h4⟩ := ha
  obtain ⟨k1, k2, k3, k4⟩ := hb
  unfold join
  split
  · split
    · exact zero_bd
    · exact hb'
  · split
    · exact ha'
    · exact fromR_bd (by omega) (by omega) (by omega) (by omega)
theorem lhas_bd {r : Rc} {p q : Int} {v : Bool} (h : hasP r p q = v) (hb : Bd r) (w : World) :
    Calls Try.prog 39 #[.agg #[.int .i64 r.x, .int .i64 r.y, .int .i64 r.w, .int .i64 r.h], .int .i64 p, .int .i64 q] w fun e w' => e = .returned (.bool v) ∧ Below w.heap.size w w' := lhas_is h hb.1 hb.2.1 hb.2.2.1 hb.2.2.2 w
end Go.Proofs.Ytoinjoihkodkeaa
