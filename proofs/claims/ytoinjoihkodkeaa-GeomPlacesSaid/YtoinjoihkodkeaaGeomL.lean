/- Layer 1: Less whole; SameList. -/
import Derived.Test.YtoinjoihkodkeaaGeomK
namespace Go.Proofs.Ytoinjoihkodkeaa
set_option linter.unusedVariables false
set_option linter.unusedSimpArgs false
open Go.RowKit
attribute [local go_sem] max_fold min_fold

theorem meet_full {p q : Rc} (h1 : empty p = false) (h2 : empty q = false) :
    meet p q = if min (p.x + p.w) (q.x + q.w) ≤ max p.x q.x ∨ min (p.y + p.h) (q.y + q.h) ≤ max p.y q.y then zero else ⟨max p.x q.x, max p.y q.y, min (p.x + p.w) (q.x + q.w) - max p.x q.x, min (p.y + p.h) (q.y + q.h) - max p.y q.y⟩ := by
  have a := (empty_iff p.x p.y p.w p.h).1 h1
  have b := (empty_iff q.x q.y q.w q.h).1 h2
  simp only [meet, h1, h2, Bool.or_false, Bool.false_eq_true, if_false, fromR]
  split
  · rfl
  · rw [IntWalk.wrap64_in _ (by omega), IntWalk.wrap64_in _ (by omega)]
theorem meet_ok {p q : Rc} (h : ¬ meet p q = zero) : empty (meet p q) = false ∧ empty p = false ∧ empty q = false := by
  cases h1 : empty p
  · cases h2 : empty q
    · rw [meet_full h1 h2] at h ⊢
      split at h
      · exact absurd rfl h
      · have a := (empty_iff p.x p.y p.w p.h).1 h1
        have b := (empty_iff q.x q.y q.w q.h).1 h2
        rename_i hc
        rw [if_neg hc]
        refine ⟨(empty_iff _ _ _ _).2 ?_, rfl, rfl⟩
        omega
    · simp [meet, h2] at h
  · simp [meet, h1] at h

theorem less_any (x y a b p q c d : Int) (w : World) :
    Calls Try.prog 28 #[.agg #[.int .i64 x, .int .i64 y, .int .i64 a, .int .i64 b], .agg #[.int .i64 p, .int .i64 q, .int .i64 c, .int .i64 d]] w (LessPost (lessL ⟨x, y, a, b⟩ ⟨p, q, c, d⟩) (lessE ⟨x, y, a, b⟩ ⟨p, q, c, d⟩) w) := by
  cases h0 : (may ⟨x, y, a, b⟩ && may ⟨p, q, c, d⟩)
  · rw [show lessL ⟨x, y, a, b⟩ ⟨p, q, c, d⟩ = [] by simp only [lessL, h0]; rfl, show lessE ⟨x, y, a, b⟩ ⟨p, q, c, d⟩ = 5 by simp only [lessE, h0]; rfl]
    exact less_no x y a b p q c d w h0
  · rw [show lessE ⟨x, y, a, b⟩ ⟨p, q, c, d⟩ = 0 by simp only [lessE, h0]; rfl]
    obtain ⟨h1, h2⟩ : may ⟨x, y, a, b⟩ = true ∧ may ⟨p, q, c, d⟩ = true := by simpa using h0
    cases h3 : empty ⟨x, y, a, b⟩
    · by_cases h4 : meet ⟨x, y, a, b⟩ ⟨p, q, c, d⟩ = zero
      · rw [show lessL ⟨x, y, a, b⟩ ⟨p, q, c, d⟩ = [⟨x, y, a, b⟩] by simp [lessL, h1, h2, h3, h4]]
        exact less_apart x y a b p q c d w h1 h2 h3 h4
      · rw [show lessL ⟨x, y, a, b⟩ ⟨p, q, c, d⟩ = (pieces ⟨x, y, a, b⟩ (meet ⟨x, y, a, b⟩ ⟨p, q, c, d⟩)).filter nz by simp only [lessL, h1, h2, h3, h4, Bool.and_self, Bool.not_true, Bool.false_eq_true, if_false]; rfl]
        exact less_full x y a b p q c d w h1 h2 h3 _ rfl (by rw [rcEq_iff']; exact decide_eq_false h4) (meet_ok h4).1
    · rw [show lessL ⟨x, y, a, b⟩ ⟨p, q, c, d⟩ = [] by simp [lessL, h1, h2, h3]]
      exact less_empty x y a b p q c d w h1 h2 h3

/-- A slice value over rectangles that read as l. -/
def RowAt (w : World) (A : Option Addr) (l : List Rc) : Prop := 0 < l.length → ∃ g, A = some ⟨g, 0, none⟩ ∧ g < w.heap.size ∧ ∀ k, (h : k < l.length) →
  w.cell? ⟨g, k * 4, none⟩ = some (.int .i64 l[k].x) ∧ w.cell? ⟨g, k * 4 + 1, none⟩ = some (.int .i64 l[k].y) ∧ w.cell? ⟨g, k * 4 + 2, none⟩ = some (.int .i64 l[k].w) ∧ w.cell? ⟨g, k * 4 + 3, none⟩ = some (.int .i64 l[k].h)
theorem RowAt.of_own {w : World} {base : Nat} {A : Option Addr} {c : Nat} {l : List Rc} (h : w.ownsRow base 27 4 (.slice A l.length c) l.length (rcells l)) : RowAt w A l := by
  intro hn
  rcases h.2 with ⟨_, h0⟩ | ⟨g, cap, cur, hv, hb, hh, hn', hcap, hcs, ht⟩
  · omega
  have hA : A = some ⟨g, 0, none⟩ := by injection hv
  have hlt : g < w.heap.size := by
    rcases Nat.lt_or_ge g w.heap.size with h' | h'
    · exact h'
    · rw [Array.getElem?_eq_none h'] at hh
      cases hh
  refine ⟨g, hA, hlt, fun k hk => ?_⟩
  obtain ⟨h0, h1, h2, h3⟩ := rcells_at l k hk
  have f : ∀ j u, (rcells l)[j]? = some u → w.cell? ⟨g, j, none⟩ = some u := by
    intro j u hj
    rw [cell_of_row w g j cur _ (0, 0) hh]
    rw [← ht, List.getElem?_take] at hj
    split at hj
    · simpa using hj
    · cases hj
  exact ⟨f _ _ h0, f _ _ h1, f _ _ h2, f _ _ h3⟩
theorem RowAt.below {w w' : World} {A : Option Addr} {l : List Rc} (h : RowAt w A l) (hb : Below w.heap.size w w') : RowAt w' A l := by
  intro hn
  obtain ⟨g, hA, hg, hc⟩ := h hn
  refine ⟨g, hA, Nat.lt_of_lt_of_le hg hb.size, fun k hk => ?_⟩
  have := hc k hk
  rw [hb.cell (p := ⟨g, k * 4, none⟩) hg, hb.cell (p := ⟨g, k * 4 + 1, none⟩) hg, hb.cell (p := ⟨g, k * 4 + 2, none⟩) hg, hb.cell (p := ⟨g, k * 4 + 3, none⟩) hg]
  exact this

set_option maxHeartbeats 2000000 in
theorem same_any (A B : Option Addr) (c c' : Nat) (l m : List Rc) (w : World) (hl : l.length ≤ 1000) (hm : m.length ≤ 1000) (h1 : RowAt w A l) (h2 : RowAt w B m) :
    Calls Try.prog 30 #[.slice A l.length c, .slice B m.length c'] w fun e w' => e = .returned (.bool (decide (l = m))) ∧ Below w.heap.size w w' := by
  by_cases hlen : l.length = m.length
  · have hne : ((l.length : Int) != (m.length : Int)) = false := by simp [hlen]
    have HL := Go.Lib.hid hlen
    clear hlen
    go_enter Try.func30, Try.ntmps30
    go_wp2
    go_loopw [5] (fun i wr => ∃ k : Nat, k ≤ l.length ∧ i = .int .i64 k ∧ (∀ j, (hj : j < k) → (h1 : j < l.length) → (h2 : j < m.length) → l[j] = m[j]) ∧ Below w.heap.size w wr) (fun i _ => l.length - (intOf i).toNat)
    case atStart => exact ⟨0, by omega, rfl, fun j hj => absurd hj (by omega), Below.refl _ _⟩
    case round =>
      obtain ⟨k, hk, rfl, heq, hbr⟩ := hrel
      have HE := Go.Lib.hid heq
      clear heq
      by_cases hlt : k < l.length
      · have hlt2 : k < m.length := by have := HL.out; omega
        obtain ⟨g, rfl, hg, hc⟩ := (h1.below hbr) (by omega)
        obtain ⟨g', rfl, hg', hc'⟩ := (h2.below hbr) (by omega)
        obtain ⟨a0, a1, a2, a3⟩ := hc k hlt
        obtain ⟨b0, b1, b2, b3⟩ := hc' k hlt2
        clear hc hc'
        have i1 : (k : Int) < (l.length : Int) := by omega
        have i2 : (k : Int) < (m.length : Int) := by omega
        cases hz : rcEq l[k].x l[k].y l[k].w l[k].h m[k].x m[k].y m[k].w m[k].h
        · go_wp2
          refine region_ext mixed (by kernel_rfl) ?_
          repeat (go_big_quiet_step (fail))
          refine wpQuiet_nil ?_
          intro w1 hb1
          go_wp2
          go_ret
          refine ⟨ret_bool ?_, hbr.trans (hb1.mono hbr.size)⟩
          symm
          simp only [decide_eq_false_iff_not]
          intro e
          subst e
          rw [rcEq_self] at hz
          exact Bool.noConfusion hz
        · go_wp2
          refine region_ext mixed (by kernel_rfl) ?_
          repeat (go_big_quiet_step (fail))
          refine wpQuiet_nil ?_
          intro w1 hb1
          go_wp2
          go_roundw
          case rel =>
            refine ⟨k + 1, by omega, by go_num, fun j hj j1 j2 => ?_, hbr.trans (hb1.mono hbr.size)⟩
            by_cases ej : j = k
            · subst ej
              rw [rcEq_iff] at hz
              exact of_decide_eq_true hz
            · exact HE.out j (by omega) j1 j2
          case measure => simp [intOf]; omega
      · have hkl : k = l.length := by omega
        have hlt' : ¬ ((k : Int) < (l.length : Int)) := by omega
        go_wp2
        go_ret
        refine ⟨ret_bool ?_, hbr⟩
        symm
        simp only [decide_eq_true_eq]
        exact List.ext_getElem HL.out fun j j1 j2 => HE.out j (by omega) j1 j2
  · have hne : ((l.length : Int) != (m.length : Int)) = true := by simp; omega
    go_enter Try.func30, Try.ntmps30
    go_wp2
    go_ret
    exact ⟨ret_bool (by symm; simp; intro e; exact hlen (by rw [e])), (by repeat (first | exact Below.refl _ _ | with_reducible refine Below.alloc ?_ (by first | (simp; done) | (simp; omega) | omega) _ | with_reducible refine Below.setCell ?_ (by first | (simp; done) | (simp; omega) | omega) _ | with_reducible refine Below.drew ?_ | with_reducible refine Below.trans ?_ (Below.mono (by assumption) (by first | (simp; done) | (simp; omega) | omega))))⟩
end Go.Proofs.Ytoinjoihkodkeaa
