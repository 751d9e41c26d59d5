/- Layer 1: Less: the loop over the four pieces. -/
import Derived.Test.YtoinjoihkodkeaaGeomJ
import Derived.Lib.Hide
namespace Go.Proofs.Ytoinjoihkodkeaa
set_option linter.unusedVariables false
set_option linter.unusedSimpArgs false
open Go.RowKit
attribute [local go_sem] max_fold min_fold

theorem own_shape {w : World} {base : Nat} {e : TypeId} {size n : Nat} {v : Value} {xs : List Value} (h : w.ownsRow base e size v n xs) : ∃ A c, v = .slice A n c := by
  rcases h.2 with ⟨rfl, rfl⟩ | ⟨g, cap, cur, rfl, _⟩
  · exact ⟨none, 0, rfl⟩
  · exact ⟨_, cap, rfl⟩
theorem own_ge {w : World} {base : Nat} {e : TypeId} {size n : Nat} {v : Value} {xs : List Value} (h : w.ownsRow base e size v n xs) : ∀ k, v.ownBlock = some k → base ≤ k := by
  intro k hk
  rcases h.2 with ⟨rfl, _⟩ | ⟨g, cap, cur, rfl, hb, _⟩
  · simp [Value.ownBlock] at hk
  · simp [Value.ownBlock] at hk
    omega
def LessPost (l : List Rc) (err : Int) (W : World) (e : Ending) (w' : World) : Prop := ∃ (A : Option Addr) (c : Nat), e = .returned (.tuple #[.slice A l.length c, .int .i64 err]) ∧ w'.ownsRow W.heap.size 27 4 (.slice A l.length c) l.length (rcells l) ∧ Below W.heap.size W w'
theorem own_new {w : World} {base g : Nat} (r : Rc) (hg : g = w.heap.size) (hb : base ≤ w.heap.size) : (w.alloc (.cells #[.int .i64 r.x, .int .i64 r.y, .int .i64 r.w, .int .i64 r.h] 27)).ownsRow base 27 4 (.slice (some ⟨g, 0, none⟩) 1 1) 1 (rcells [r]) := by
  subst hg
  refine ⟨rfl, .inr ⟨w.heap.size, 1, #[.int .i64 r.x, .int .i64 r.y, .int .i64 r.w, .int .i64 r.h], rfl, hb, ?_, Nat.le_refl _, by unfold maxLen; omega, rfl, rfl⟩⟩
  exact heap_alloc_new w _

def nz (r : Rc) : Bool := !decide (r = zero)
theorem nz_of {r : Rc} {b : Bool} (h : rcEq r.x r.y r.w r.h 0 0 0 0 = b) : nz r = !b := by
  rw [← h, rcEq_iff' r 0 0 0 0]
  rfl
theorem part_le (rs : List Rc) (k : Nat) (h : rs.length = 4) : ((rs.take k).filter nz).length ≤ 4 := by
  have h1 := List.length_filter_le nz (rs.take k)
  have h2 := List.length_take_le k rs
  have : (rs.take k).length ≤ 4 := by rw [List.length_take, h]; omega
  omega
theorem part_succ (rs : List Rc) (k : Nat) (h : k < rs.length) : (rs.take (k + 1)).filter nz = (rs.take k).filter nz ++ if nz rs[k] then [rs[k]] else [] := by
  rw [List.take_succ_eq_append_getElem h, List.filter_append]
  congr 1
  simp [List.filter_cons]

set_option maxHeartbeats 1000000 in
theorem less_no (x y a b p q c d : Int) (w : World) (h : (may ⟨x, y, a, b⟩ && may ⟨p, q, c, d⟩) = false) :
    Calls Try.prog 28 #[.agg #[.int .i64 x, .int .i64 y, .int .i64 a, .int .i64 b], .agg #[.int .i64 p, .int .i64 q, .int .i64 c, .int .i64 d]] w (LessPost [] 5 w) := by
  have hk : lessE ⟨x, y, a, b⟩ ⟨p, q, c, d⟩ = 5 := by simp [lessE, h]
  go_enter Try.func28, Try.ntmps28
  go_wp2_with (first | (go_at_call 55; refine (checked_any x y a b p q c d _ _ (by simp [go_sem]) (by simp [go_sem]) (by simp [go_sem]) (by simp [go_sem]) (by simp [go_sem]) (by simp [go_sem]) (by simp [go_sem]) (by simp [go_sem])).mono ?_; rintro e w1 ⟨rfl, hb⟩; (first | (have hP1 := hP.trans (hb.mono hP.size); clear hP hb hc hf z0 z1; have hP := hP1; clear hP1) | (have hP := hb; clear hb)); obtain ⟨hc, hf⟩ := bcell hP; have z0 : w.heap.size < w1.heap.size := (by have hz := hP.size; (try simp at hz); omega); have z1 : w.heap.size + 1 < w1.heap.size := (by have hz := hP.size; (try simp at hz); omega)))
  go_ret2
  exact ⟨none, 0, rfl, World.ownsRow_nil _ _ _ _, (by repeat (first | exact Below.refl _ _ | with_reducible refine Below.alloc ?_ (by first | (simp; done) | (simp; omega) | omega) _ | with_reducible refine Below.setCell ?_ (by first | (simp; done) | (simp; omega) | omega) _ | with_reducible refine Below.drew ?_ | with_reducible refine Below.trans ?_ (Below.mono (by assumption) (by first | (simp; done) | (simp; omega) | omega))))⟩

set_option maxHeartbeats 1000000 in
theorem less_empty (x y a b p q c d : Int) (w : World) (h1 : may ⟨x, y, a, b⟩ = true) (h2 : may ⟨p, q, c, d⟩ = true) (h3 : empty ⟨x, y, a, b⟩ = true) :
    Calls Try.prog 28 #[.agg #[.int .i64 x, .int .i64 y, .int .i64 a, .int .i64 b], .agg #[.int .i64 p, .int .i64 q, .int .i64 c, .int .i64 d]] w (LessPost [] 0 w) := by
  have hk : lessE ⟨x, y, a, b⟩ ⟨p, q, c, d⟩ = 0 := by simp [lessE, h1, h2]
  go_enter Try.func28, Try.ntmps28
  go_wp2_with (first | (go_at_call 55; refine (checked_any x y a b p q c d _ _ (by simp [go_sem]) (by simp [go_sem]) (by simp [go_sem]) (by simp [go_sem]) (by simp [go_sem]) (by simp [go_sem]) (by simp [go_sem]) (by simp [go_sem])).mono ?_; rintro e w1 ⟨rfl, hb⟩; (first | (have hP1 := hP.trans (hb.mono hP.size); clear hP hb hc hf z0 z1; have hP := hP1; clear hP1) | (have hP := hb; clear hb)); obtain ⟨hc, hf⟩ := bcell hP; have z0 : w.heap.size < w1.heap.size := (by have hz := hP.size; (try simp at hz); omega); have z1 : w.heap.size + 1 < w1.heap.size := (by have hz := hP.size; (try simp at hz); omega)) | (go_at_call 14; refine (empty_any _ _ _ _ _).mono ?_; rintro e w1 ⟨rfl, hb⟩; (first | (have hP1 := hP.trans (hb.mono hP.size); clear hP hb hc hf z0 z1; have hP := hP1; clear hP1) | (have hP := hb; clear hb)); obtain ⟨hc, hf⟩ := bcell hP; have z0 : w.heap.size < w1.heap.size := (by have hz := hP.size; (try simp at hz); omega); have z1 : w.heap.size + 1 < w1.heap.size := (by have hz := hP.size; (try simp at hz); omega)))
  go_ret2
  exact ⟨none, 0, rfl, World.ownsRow_nil _ _ _ _, (by repeat (first | exact Below.refl _ _ | with_reducible refine Below.alloc ?_ (by first | (simp; done) | (simp; omega) | omega) _ | with_reducible refine Below.setCell ?_ (by first | (simp; done) | (simp; omega) | omega) _ | with_reducible refine Below.drew ?_ | with_reducible refine Below.trans ?_ (Below.mono (by assumption) (by first | (simp; done) | (simp; omega) | omega))))⟩

set_option maxHeartbeats 1000000 in
theorem less_apart (x y a b p q c d : Int) (w : World) (h1 : may ⟨x, y, a, b⟩ = true) (h2 : may ⟨p, q, c, d⟩ = true) (h3 : empty ⟨x, y, a, b⟩ = false) (h4 : meet ⟨x, y, a, b⟩ ⟨p, q, c, d⟩ = ⟨0, 0, 0, 0⟩) :
    Calls Try.prog 28 #[.agg #[.int .i64 x, .int .i64 y, .int .i64 a, .int .i64 b], .agg #[.int .i64 p, .int .i64 q, .int .i64 c, .int .i64 d]] w (LessPost [⟨x, y, a, b⟩] 0 w) := by
  have hk : lessE ⟨x, y, a, b⟩ ⟨p, q, c, d⟩ = 0 := by simp [lessE, h1, h2]
  go_enter Try.func28, Try.ntmps28
  go_wp2_with (first | (go_at_call 55; refine (checked_any x y a b p q c d _ _ (by simp [go_sem]) (by simp [go_sem]) (by simp [go_sem]) (by simp [go_sem]) (by simp [go_sem]) (by simp [go_sem]) (by simp [go_sem]) (by simp [go_sem])).mono ?_; rintro e w1 ⟨rfl, hb⟩; (first | (have hP1 := hP.trans (hb.mono hP.size); clear hP hb hc hf z0 z1; have hP := hP1; clear hP1) | (have hP := hb; clear hb)); obtain ⟨hc, hf⟩ := bcell hP; have z0 : w.heap.size < w1.heap.size := (by have hz := hP.size; (try simp at hz); omega); have z1 : w.heap.size + 1 < w1.heap.size := (by have hz := hP.size; (try simp at hz); omega)) | (go_at_call 14; refine (empty_any _ _ _ _ _).mono ?_; rintro e w1 ⟨rfl, hb⟩; (first | (have hP1 := hP.trans (hb.mono hP.size); clear hP hb hc hf z0 z1; have hP := hP1; clear hP1) | (have hP := hb; clear hb)); obtain ⟨hc, hf⟩ := bcell hP; have z0 : w.heap.size < w1.heap.size := (by have hz := hP.size; (try simp at hz); omega); have z1 : w.heap.size + 1 < w1.heap.size := (by have hz := hP.size; (try simp at hz); omega)) | (go_at_call 35; refine (meet_any _ _ _ _ _ _ _ _ _).mono ?_; rintro e w5 ⟨rfl, hb5⟩; obtain ⟨hc5, hf5⟩ := bcell hb5; have hs5 := hb5.size; (try simp at hs5); have z5_0 : w.heap.size < w5.heap.size := (by omega); have y5_0 : w.heap.size < w5.heap.size + 1 := (by omega); have z5_1 : w.heap.size + 1 < w5.heap.size := (by omega); have y5_1 : w.heap.size + 1 < w5.heap.size + 1 := (by omega)))
  go_ret2
  exact ⟨_, _, rfl, own_new ⟨x, y, a, b⟩ (by simp) (by first | (simp; done) | (simp; omega) | omega), (by repeat (first | exact Below.refl _ _ | with_reducible refine Below.alloc ?_ (by first | (simp; done) | (simp; omega) | omega) _ | with_reducible refine Below.setCell ?_ (by first | (simp; done) | (simp; omega) | omega) _ | with_reducible refine Below.drew ?_ | with_reducible refine Below.trans ?_ (Below.mono (by assumption) (by first | (simp; done) | (simp; omega) | omega))))⟩

theorem idx_rest {rs : List Rc} {k : Nat} (h : k < rs.length) (hz : rcEq rs[k].x rs[k].y rs[k].w rs[k].h 0 0 0 0 = false) : (rs.take (k + 1)).filter nz = (rs.take k).filter nz ++ [rs[k]] := by
  rw [part_succ rs k h, nz_of hz]
  rfl
theorem idx_drop {rs : List Rc} {k : Nat} (h : k < rs.length) (hz : rcEq rs[k].x rs[k].y rs[k].w rs[k].h 0 0 0 0 = true) : (rs.take (k + 1)).filter nz = (rs.take k).filter nz := by
  rw [part_succ rs k h, nz_of hz]
  simp

set_option maxHeartbeats 4000000 in
theorem less_full (x y a b p q c d : Int) (w : World) (h1 : may ⟨x, y, a, b⟩ = true) (h2 : may ⟨p, q, c, d⟩ = true) (h3 : empty ⟨x, y, a, b⟩ = false) (m : Rc) (hm : meet ⟨x, y, a, b⟩ ⟨p, q, c, d⟩ = m) (h4 : rcEq m.x m.y m.w m.h 0 0 0 0 = false) (h5 : empty m = false) :
    Calls Try.prog 28 #[.agg #[.int .i64 x, .int .i64 y, .int .i64 a, .int .i64 b], .agg #[.int .i64 p, .int .i64 q, .int .i64 c, .int .i64 d]] w (LessPost ((pieces ⟨x, y, a, b⟩ m).filter nz) 0 w) := by
  have hk : lessE ⟨x, y, a, b⟩ ⟨p, q, c, d⟩ = 0 := by simp [lessE, h1, h2]
  have hb1 := (empty_iff x y a b).1 h3
  have hb2 := (empty_iff m.x m.y m.w m.h).1 h5
  obtain ⟨mx, my, mw, mh⟩ := m
  simp only at h4 hb2
  have HM := Go.Lib.hid hm
  clear hm
  have hmeet : ∀ w, Calls Try.prog 35 #[.agg #[.int .i64 x, .int .i64 y, .int .i64 a, .int .i64 b], .agg #[.int .i64 p, .int .i64 q, .int .i64 c, .int .i64 d]] w fun e w' => e = .returned (.agg #[.int .i64 mx, .int .i64 my, .int .i64 mw, .int .i64 mh]) ∧ Below w.heap.size w w' := fun w => by
    have := meet_any x y a b p q c d w
    rwa [HM.out] at this
  have HMT := Go.Lib.hid hmeet
  clear hmeet
  generalize hr0 : fromR x y (x + a) my = r0
  generalize hr1 : fromR x my mx (my + mh) = r1
  generalize hr2 : fromR (mx + mw) my (x + a) (my + mh) = r2
  generalize hr3 : fromR x (my + mh) (x + a) (y + b) = r3
  have hrs : pieces ⟨x, y, a, b⟩ ⟨mx, my, mw, mh⟩ = [r0, r1, r2, r3] := by simp only [pieces, hr0, hr1, hr2, hr3]
  rw [hrs]
  have F0 : ∀ w, Calls Try.prog 42 #[.int .i64 x, .int .i64 y, .int .i64 (x + a), .int .i64 my] w fun e w' => e = .returned (.agg #[.int .i64 r0.x, .int .i64 r0.y, .int .i64 r0.w, .int .i64 r0.h]) ∧ Below w.heap.size w w' := fun w => hr0 ▸ from_any _ _ _ _ w
  have F1 : ∀ w, Calls Try.prog 42 #[.int .i64 x, .int .i64 my, .int .i64 mx, .int .i64 (my + mh)] w fun e w' => e = .returned (.agg #[.int .i64 r1.x, .int .i64 r1.y, .int .i64 r1.w, .int .i64 r1.h]) ∧ Below w.heap.size w w' := fun w => hr1 ▸ from_any _ _ _ _ w
  have F2 : ∀ w, Calls Try.prog 42 #[.int .i64 (mx + mw), .int .i64 my, .int .i64 (x + a), .int .i64 (my + mh)] w fun e w' => e = .returned (.agg #[.int .i64 r2.x, .int .i64 r2.y, .int .i64 r2.w, .int .i64 r2.h]) ∧ Below w.heap.size w w' := fun w => hr2 ▸ from_any _ _ _ _ w
  have F3 : ∀ w, Calls Try.prog 42 #[.int .i64 x, .int .i64 (my + mh), .int .i64 (x + a), .int .i64 (y + b)] w fun e w' => e = .returned (.agg #[.int .i64 r3.x, .int .i64 r3.y, .int .i64 r3.w, .int .i64 r3.h]) ∧ Below w.heap.size w w' := fun w => hr3 ▸ from_any _ _ _ _ w
  have G0 := Go.Lib.hid F0
  have G1 := Go.Lib.hid F1
  have G2 := Go.Lib.hid F2
  have G3 := Go.Lib.hid F3
  clear F0 F1 F2 F3 hr0 hr1 hr2 hr3 hrs
  go_enter Try.func28, Try.ntmps28
  go_wp2_with (first | (go_at_call 55; refine (checked_any x y a b p q c d _ _ (by simp [go_sem]) (by simp [go_sem]) (by simp [go_sem]) (by simp [go_sem]) (by simp [go_sem]) (by simp [go_sem]) (by simp [go_sem]) (by simp [go_sem])).mono ?_; rintro e w1 ⟨rfl, hb⟩; (first | (have hP1 := hP.trans (hb.mono hP.size); clear hP hb hc hf z0 z1; have hP := hP1; clear hP1) | (have hP := hb; clear hb)); obtain ⟨hc, hf⟩ := bcell hP; have z0 : w.heap.size < w1.heap.size := (by have hz := hP.size; (try simp at hz); omega); have z1 : w.heap.size + 1 < w1.heap.size := (by have hz := hP.size; (try simp at hz); omega)) | (go_at_call 14; refine (empty_any _ _ _ _ _).mono ?_; rintro e w1 ⟨rfl, hb⟩; (first | (have hP1 := hP.trans (hb.mono hP.size); clear hP hb hc hf z0 z1; have hP := hP1; clear hP1) | (have hP := hb; clear hb)); obtain ⟨hc, hf⟩ := bcell hP; have z0 : w.heap.size < w1.heap.size := (by have hz := hP.size; (try simp at hz); omega); have z1 : w.heap.size + 1 < w1.heap.size := (by have hz := hP.size; (try simp at hz); omega)) | (go_at_call 35; refine (HMT.out _).mono ?_; rintro e w5 ⟨rfl, hb5⟩; obtain ⟨hc5, hf5⟩ := bcell hb5; have hs5 := hb5.size; (try simp at hs5); have z5_0 : w.heap.size < w5.heap.size := (by omega); have y5_0 : w.heap.size < w5.heap.size + 1 := (by omega); have z5_1 : w.heap.size + 1 < w5.heap.size := (by omega); have y5_1 : w.heap.size + 1 < w5.heap.size + 1 := (by omega)) | (go_at_call 47; refine (ends_in _ _ _ _ _ (by omega) (by omega)).mono ?_; rintro e w6 ⟨rfl, hb6⟩; obtain ⟨hc6, hf6⟩ := bcell hb6; have hs6 := hb6.size; (try simp at hs6); have z6_0 : w.heap.size < w6.heap.size := (by omega); have y6_0 : w.heap.size < w6.heap.size + 1 := (by omega); have z6_1 : w.heap.size + 1 < w6.heap.size := (by omega); have y6_1 : w.heap.size + 1 < w6.heap.size + 1 := (by omega); have z6_2 : w5.heap.size < w6.heap.size := (by omega); have y6_2 : w5.heap.size < w6.heap.size + 1 := (by omega)))
  refine region_ext mixed (by kernel_rfl) ?_
  repeat (go_big_quiet_step (first | (go_at_call 42; first | with_reducible exact in_ext (G0.out _) | with_reducible exact in_ext (G1.out _) | with_reducible exact in_ext (G2.out _) | with_reducible exact in_ext (G3.out _))))
  refine wpQuiet_nil ?_
  intro w8 hb8
  go_wp2
  have hbw : Below w.heap.size w w8 := (by repeat (first | exact Below.refl _ _ | with_reducible refine Below.alloc ?_ (by first | (simp; done) | (simp; omega) | omega) _ | with_reducible refine Below.setCell ?_ (by first | (simp; done) | (simp; omega) | omega) _ | with_reducible refine Below.drew ?_ | with_reducible refine Below.trans ?_ (Below.mono (by assumption) (by first | (simp; done) | (simp; omega) | omega))))
  go_loopw [12, 79] (fun v i wr => ∃ (k : Nat) (A : Option Addr) (C : Nat), k ≤ 4 ∧ i = .int .i64 k ∧ v = .slice A ((([r0, r1, r2, r3].take k).filter nz).length) C ∧ wr.ownsRow w.heap.size 27 4 (.slice A ((([r0, r1, r2, r3].take k).filter nz).length) C) (([r0, r1, r2, r3].take k).filter nz).length (rcells (([r0, r1, r2, r3].take k).filter nz)) ∧ Below w.heap.size w wr) (fun _ i _ => 4 - (intOf i).toNat)
  case atStart => exact ⟨0, none, 0, by omega, rfl, rfl, World.ownsRow_nil _ _ _ _, hbw⟩
  case round =>
    obtain ⟨k, A, C, hk4, rfl, rfl, hown, hbr⟩ := hrel
    clear hbw
    have hsz := hbr.size
    generalize hik : (k : Int) = i
    rcases (show k = 0 ∨ k = 1 ∨ k = 2 ∨ k = 3 ∨ k = 4 by omega) with rfl | rfl | rfl | rfl | rfl
    · have hi : i = 0 := by omega
      subst hi
      clear hik
      cases hz : rcEq r0.x r0.y r0.w r0.h 0 0 0 0
      · have e1 := idx_rest (rs := [r0, r1, r2, r3]) (k := 0) (by simp) hz
        have hle := part_le [r0, r1, r2, r3] 0 rfl
        generalize ([r0, r1, r2, r3].take 0).filter nz = L at *
        have E1 := Go.Lib.hid e1
        clear e1
        go_wp2_with (first | (at_builtin; refine append_rect rfl (.tmp 85) (.tmp 87) rfl w.heap.size _ _ r0 (wr.heap.size + 1) rfl rfl ((hown.alloc _).alloc _) (by simp [go_sem]) (by simp [go_sem]) (by simp [go_sem]) (by simp [go_sem]) ?_ ?_ ?_))
        · omega
        · simp
          omega
        intro v' w9 hown9 hg9 hn9
        obtain ⟨A', C', rfl⟩ := own_shape hown9
        have hb9 : Below w.heap.size w w9 := ((hbr.alloc hsz _).alloc (by simp; omega) _).grown hg9 (by simp; omega) (own_ge hown)
        clear hg9 hn9 hown hbr
        go_wp2
        go_roundw
        case rel =>
          have E2 : ([r0, r1, r2, r3].take (0 + 1)).filter nz = L ++ [r0] := E1.out
          exact ⟨0 + 1, A', C', by omega, by go_num, by rw [E2, List.length_append]; rfl, by rw [E2, List.length_append]; exact hown9, hb9⟩
        case measure => simp [intOf]
      · have e1 := idx_drop (rs := [r0, r1, r2, r3]) (k := 0) (by simp) hz
        generalize ([r0, r1, r2, r3].take 0).filter nz = L at *
        have E1 := Go.Lib.hid e1
        clear e1
        go_wp2
        go_roundw
        case rel => exact ⟨0 + 1, A, C, by omega, by go_num, by rw [E1.out], by rw [E1.out]; exact hown.alloc _, hbr.alloc hsz _⟩
        case measure => simp [intOf]
    · have hi : i = 1 := by omega
      subst hi
      clear hik
      cases hz : rcEq r1.x r1.y r1.w r1.h 0 0 0 0
      · have e1 := idx_rest (rs := [r0, r1, r2, r3]) (k := 1) (by simp) hz
        have hle := part_le [r0, r1, r2, r3] 1 rfl
        generalize ([r0, r1, r2, r3].take 1).filter nz = L at *
        have E1 := Go.Lib.hid e1
        clear e1
        go_wp2_with (first | (at_builtin; refine append_rect rfl (.tmp 85) (.tmp 87) rfl w.heap.size _ _ r1 (wr.heap.size + 1) rfl rfl ((hown.alloc _).alloc _) (by simp [go_sem]) (by simp [go_sem]) (by simp [go_sem]) (by simp [go_sem]) ?_ ?_ ?_))
        · omega
        · simp
          omega
        intro v' w9 hown9 hg9 hn9
        obtain ⟨A', C', rfl⟩ := own_shape hown9
        have hb9 : Below w.heap.size w w9 := ((hbr.alloc hsz _).alloc (by simp; omega) _).grown hg9 (by simp; omega) (own_ge hown)
        clear hg9 hn9 hown hbr
        go_wp2
        go_roundw
        case rel =>
          have E2 : ([r0, r1, r2, r3].take (1 + 1)).filter nz = L ++ [r1] := E1.out
          exact ⟨1 + 1, A', C', by omega, by go_num, by rw [E2, List.length_append]; rfl, by rw [E2, List.length_append]; exact hown9, hb9⟩
        case measure => simp [intOf]
      · have e1 := idx_drop (rs := [r0, r1, r2, r3]) (k := 1) (by simp) hz
        generalize ([r0, r1, r2, r3].take 1).filter nz = L at *
        have E1 := Go.Lib.hid e1
        clear e1
        go_wp2
        go_roundw
        case rel => exact ⟨1 + 1, A, C, by omega, by go_num, by rw [E1.out], by rw [E1.out]; exact hown.alloc _, hbr.alloc hsz _⟩
        case measure => simp [intOf]
    · have hi : i = 2 := by omega
      subst hi
      clear hik
      cases hz : rcEq r2.x r2.y r2.w r2.h 0 0 0 0
      · have e1 := idx_rest (rs := [r0, r1, r2, r3]) (k := 2) (by simp) hz
        have hle := part_le [r0, r1, r2, r3] 2 rfl
        generalize ([r0, r1, r2, r3].take 2).filter nz = L at *
        have E1 := Go.Lib.hid e1
        clear e1
        go_wp2_with (first | (at_builtin; refine append_rect rfl (.tmp 85) (.tmp 87) rfl w.heap.size _ _ r2 (wr.heap.size + 1) rfl rfl ((hown.alloc _).alloc _) (by simp [go_sem]) (by simp [go_sem]) (by simp [go_sem]) (by simp [go_sem]) ?_ ?_ ?_))
        · omega
        · simp
          omega
        intro v' w9 hown9 hg9 hn9
        obtain ⟨A', C', rfl⟩ := own_shape hown9
        have hb9 : Below w.heap.size w w9 := ((hbr.alloc hsz _).alloc (by simp; omega) _).grown hg9 (by simp; omega) (own_ge hown)
        clear hg9 hn9 hown hbr
        go_wp2
        go_roundw
        case rel =>
          have E2 : ([r0, r1, r2, r3].take (2 + 1)).filter nz = L ++ [r2] := E1.out
          exact ⟨2 + 1, A', C', by omega, by go_num, by rw [E2, List.length_append]; rfl, by rw [E2, List.length_append]; exact hown9, hb9⟩
        case measure => simp [intOf]
      · have e1 := idx_drop (rs := [r0, r1, r2, r3]) (k := 2) (by simp) hz
        generalize ([r0, r1, r2, r3].take 2).filter nz = L at *
        have E1 := Go.Lib.hid e1
        clear e1
        go_wp2
        go_roundw
        case rel => exact ⟨2 + 1, A, C, by omega, by go_num, by rw [E1.out], by rw [E1.out]; exact hown.alloc _, hbr.alloc hsz _⟩
        case measure => simp [intOf]
    · have hi : i = 3 := by omega
      subst hi
      clear hik
      cases hz : rcEq r3.x r3.y r3.w r3.h 0 0 0 0
      · have e1 := idx_rest (rs := [r0, r1, r2, r3]) (k := 3) (by simp) hz
        have hle := part_le [r0, r1, r2, r3] 3 rfl
        generalize ([r0, r1, r2, r3].take 3).filter nz = L at *
        have E1 := Go.Lib.hid e1
        clear e1
        go_wp2_with (first | (at_builtin; refine append_rect rfl (.tmp 85) (.tmp 87) rfl w.heap.size _ _ r3 (wr.heap.size + 1) rfl rfl ((hown.alloc _).alloc _) (by simp [go_sem]) (by simp [go_sem]) (by simp [go_sem]) (by simp [go_sem]) ?_ ?_ ?_))
        · omega
        · simp
          omega
        intro v' w9 hown9 hg9 hn9
        obtain ⟨A', C', rfl⟩ := own_shape hown9
        have hb9 : Below w.heap.size w w9 := ((hbr.alloc hsz _).alloc (by simp; omega) _).grown hg9 (by simp; omega) (own_ge hown)
        clear hg9 hn9 hown hbr
        go_wp2
        go_roundw
        case rel =>
          have E2 : ([r0, r1, r2, r3].take (3 + 1)).filter nz = L ++ [r3] := E1.out
          exact ⟨3 + 1, A', C', by omega, by go_num, by rw [E2, List.length_append]; rfl, by rw [E2, List.length_append]; exact hown9, hb9⟩
        case measure => simp [intOf]
      · have e1 := idx_drop (rs := [r0, r1, r2, r3]) (k := 3) (by simp) hz
        generalize ([r0, r1, r2, r3].take 3).filter nz = L at *
        have E1 := Go.Lib.hid e1
        clear e1
        go_wp2
        go_roundw
        case rel => exact ⟨3 + 1, A, C, by omega, by go_num, by rw [E1.out], by rw [E1.out]; exact hown.alloc _, hbr.alloc hsz _⟩
        case measure => simp [intOf]
    · have hi : i = 4 := by omega
      subst hi
      clear hik
      go_wp2
      go_ret2
      exact ⟨A, C, rfl, hown, hbr⟩
end Go.Proofs.Ytoinjoihkodkeaa
