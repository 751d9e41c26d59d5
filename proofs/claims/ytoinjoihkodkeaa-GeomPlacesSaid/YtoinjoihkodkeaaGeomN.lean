/- Layer 1: the reference's Less . -/
import Derived.Test.YtoinjoihkodkeaaGeomL
import Derived.Test.YtoinjoihkodkeaaBaseAlloc
import Derived.Test.YtoinjoihkodkeaaBaseMake
namespace Go.Proofs.Ytoinjoihkodkeaa
set_option linter.unusedVariables false
set_option linter.unusedSimpArgs false
open Go.RowKit
attribute [local go_sem] max_fold min_fold
set_option maxHeartbeats 1000000 in
theorem rless_no (x y a b p q c d : Int) (w : World) (h : (may ⟨x, y, a, b⟩ && may ⟨p, q, c, d⟩) = false) :
    Calls Try.prog 29 #[.agg #[.int .i64 x, .int .i64 y, .int .i64 a, .int .i64 b], .agg #[.int .i64 p, .int .i64 q, .int .i64 c, .int .i64 d]] w (LessPost [] 5 w) := by
  have hk : lessE ⟨x, y, a, b⟩ ⟨p, q, c, d⟩ = 5 := by simp [lessE, h]
  go_enter Try.func29, Try.ntmps29
  go_wp2_with (first | (go_at_call 56; refine (checks_any _ _ _ _ _ _ _ _ _).mono ?_; rintro e w1 ⟨rfl, hb⟩; (first | (have hP1 := hP.trans (hb.mono hP.size); clear hP hb hc hf z0 z1; have hP := hP1; clear hP1) | (have hP := hb; clear hb)); obtain ⟨hc, hf⟩ := bcell hP; have z0 : w.heap.size < w1.heap.size := (by have hz := hP.size; (try simp at hz); omega); have z1 : w.heap.size + 1 < w1.heap.size := (by have hz := hP.size; (try simp at hz); omega)))
  go_ret2
  exact ⟨none, 0, rfl, World.ownsRow_nil _ _ _ _, (by repeat (first | exact Below.refl _ _ | with_reducible refine Below.alloc ?_ (by first | (simp; done) | (simp; omega) | omega) _ | with_reducible refine Below.setCell ?_ (by first | (simp; done) | (simp; omega) | omega) _ | with_reducible refine Below.drew ?_ | with_reducible refine Below.trans ?_ (Below.mono (by assumption) (by first | (simp; done) | (simp; omega) | omega))))⟩
set_option maxHeartbeats 1000000 in
theorem rless_empty (x y a b p q c d : Int) (w : World) (h1 : may ⟨x, y, a, b⟩ = true) (h2 : may ⟨p, q, c, d⟩ = true) (h3 : empty ⟨x, y, a, b⟩ = true) :
    Calls Try.prog 29 #[.agg #[.int .i64 x, .int .i64 y, .int .i64 a, .int .i64 b], .agg #[.int .i64 p, .int .i64 q, .int .i64 c, .int .i64 d]] w (LessPost [] 0 w) := by
  have hk : lessE ⟨x, y, a, b⟩ ⟨p, q, c, d⟩ = 0 := by simp [lessE, h1, h2]
  go_enter Try.func29, Try.ntmps29
  go_wp2_with (first | (go_at_call 56; refine (checks_any _ _ _ _ _ _ _ _ _).mono ?_; rintro e w1 ⟨rfl, hb⟩; (first | (have hP1 := hP.trans (hb.mono hP.size); clear hP hb hc hf z0 z1; have hP := hP1; clear hP1) | (have hP := hb; clear hb)); obtain ⟨hc, hf⟩ := bcell hP; have z0 : w.heap.size < w1.heap.size := (by have hz := hP.size; (try simp at hz); omega); have z1 : w.heap.size + 1 < w1.heap.size := (by have hz := hP.size; (try simp at hz); omega)) | (go_at_call 15; refine (rempty_any _ _ _ _ _).mono ?_; rintro e w1 ⟨rfl, hb⟩; (first | (have hP1 := hP.trans (hb.mono hP.size); clear hP hb hc hf z0 z1; have hP := hP1; clear hP1) | (have hP := hb; clear hb)); obtain ⟨hc, hf⟩ := bcell hP; have z0 : w.heap.size < w1.heap.size := (by have hz := hP.size; (try simp at hz); omega); have z1 : w.heap.size + 1 < w1.heap.size := (by have hz := hP.size; (try simp at hz); omega)))
  go_ret2
  exact ⟨none, 0, rfl, World.ownsRow_nil _ _ _ _, (by repeat (first | exact Below.refl _ _ | with_reducible refine Below.alloc ?_ (by first | (simp; done) | (simp; omega) | omega) _ | with_reducible refine Below.setCell ?_ (by first | (simp; done) | (simp; omega) | omega) _ | with_reducible refine Below.drew ?_ | with_reducible refine Below.trans ?_ (Below.mono (by assumption) (by first | (simp; done) | (simp; omega) | omega))))⟩
theorem rmeet_is {x y a b p q c d : Int} {j : Rc} (h : meet ⟨x, y, a, b⟩ ⟨p, q, c, d⟩ = j) (w : World) :
    Calls Try.prog 36 #[.agg #[.int .i64 x, .int .i64 y, .int .i64 a, .int .i64 b], .agg #[.int .i64 p, .int .i64 q, .int .i64 c, .int .i64 d]] w fun e w' => e = .returned (.agg #[.int .i64 j.x, .int .i64 j.y, .int .i64 j.w, .int .i64 j.h]) ∧ Below w.heap.size w w' := h ▸ rmeet_any x y a b p q c d w
set_option maxHeartbeats 2000000 in
theorem rless_apart (x y a b p q c d : Int) (w : World) (h1 : may ⟨x, y, a, b⟩ = true) (h2 : may ⟨p, q, c, d⟩ = true) (h3 : empty ⟨x, y, a, b⟩ = false) (h4 : meet ⟨x, y, a, b⟩ ⟨p, q, c, d⟩ = ⟨0, 0, 0, 0⟩) :
    Calls Try.prog 29 #[.agg #[.int .i64 x, .int .i64 y, .int .i64 a, .int .i64 b], .agg #[.int .i64 p, .int .i64 q, .int .i64 c, .int .i64 d]] w (LessPost [⟨x, y, a, b⟩] 0 w) := by
  have hk : lessE ⟨x, y, a, b⟩ ⟨p, q, c, d⟩ = 0 := by simp [lessE, h1, h2]
  have hz : empty ⟨0, 0, 0, 0⟩ = true := by decide
  have HM := Go.Lib.hid h4
  have HA := Go.Lib.hid h3
  have HZ := Go.Lib.hid hz
  clear h4 hz
  go_enter Try.func29, Try.ntmps29
  go_wp2_with (first | (go_at_call 56; refine (checks_any _ _ _ _ _ _ _ _ _).mono ?_; rintro e w1 ⟨rfl, hb⟩; (first | (have hP1 := hP.trans (hb.mono hP.size); clear hP hb hc hf z0 z1; have hP := hP1; clear hP1) | (have hP := hb; clear hb)); obtain ⟨hc, hf⟩ := bcell hP; have z0 : w.heap.size < w1.heap.size := (by have hz := hP.size; (try simp at hz); omega); have z1 : w.heap.size + 1 < w1.heap.size := (by have hz := hP.size; (try simp at hz); omega)) | (go_at_call 15; (with_reducible refine (rempty_is HA.out _).mono ?_); rintro e w4 ⟨rfl, hb4⟩; obtain ⟨hc4, hf4⟩ := bcell hb4; have hs4 := hb4.size; (try simp at hs4); have z4_0 : w.heap.size < w4.heap.size := (by omega); have y4_0 : w.heap.size < w4.heap.size + 1 := (by omega); have z4_1 : w.heap.size + 1 < w4.heap.size := (by omega); have y4_1 : w.heap.size + 1 < w4.heap.size + 1 := (by omega)) | (go_at_call 36; refine (rmeet_is HM.out _).mono ?_; rintro e w5 ⟨rfl, hb5⟩; obtain ⟨hc5, hf5⟩ := bcell hb5; have hs5 := hb5.size; (try simp at hs5); have z5_0 : w.heap.size < w5.heap.size := (by omega); have y5_0 : w.heap.size < w5.heap.size + 1 := (by omega); have z5_1 : w.heap.size + 1 < w5.heap.size := (by omega); have y5_1 : w.heap.size + 1 < w5.heap.size + 1 := (by omega)) | (go_at_call 15; (with_reducible refine (rempty_is HZ.out _).mono ?_); rintro e w6 ⟨rfl, hb6⟩; obtain ⟨hc6, hf6⟩ := bcell hb6; have hs6 := hb6.size; (try simp at hs6); have z6_0 : w.heap.size < w6.heap.size := (by omega); have y6_0 : w.heap.size < w6.heap.size + 1 := (by omega); have z6_1 : w.heap.size + 1 < w6.heap.size := (by omega); have y6_1 : w.heap.size + 1 < w6.heap.size + 1 := (by omega); have z6_2 : w5.heap.size < w6.heap.size := (by omega); have y6_2 : w5.heap.size < w6.heap.size + 1 := (by omega)))
  go_ret2
  exact ⟨_, _, rfl, own_new ⟨x, y, a, b⟩ (by simp) (by first | (simp; done) | (simp; omega) | omega), (by repeat (first | exact Below.refl _ _ | with_reducible refine Below.alloc ?_ (by first | (simp; done) | (simp; omega) | omega) _ | with_reducible refine Below.setCell ?_ (by first | (simp; done) | (simp; omega) | omega) _ | with_reducible refine Below.drew ?_ | with_reducible refine Below.trans ?_ (Below.mono (by assumption) (by first | (simp; done) | (simp; omega) | omega))))⟩

theorem empty_from {x y r b : Int} (hx : -16384 ≤ x ∧ x ≤ 16384) (hy : -16384 ≤ y ∧ y ≤ 16384) (hr : -16384 ≤ r ∧ r ≤ 16384) (hb : -16384 ≤ b ∧ b ≤ 16384) : empty (fromR x y r b) = !nz (fromR x y r b) := by
  unfold fromR nz
  split
  · decide
  · rename_i h
    rw [IntWalk.wrap64_in _ (by omega), IntWalk.wrap64_in _ (by omega)]
    have h1 : empty ⟨x, y, r - x, b - y⟩ = false := (empty_iff _ _ _ _).2 (by omega)
    rw [h1]
    have h2 : (⟨x, y, r - x, b - y⟩ : Rc) ≠ zero := by
      intro e
      have : r - x = 0 := congrArg Rc.w e
      omega
    simp [h2]
theorem own_mono {w : World} {base base' : Nat} {e : TypeId} {size n : Nat} {v : Value} {xs : List Value} (h : w.ownsRow base e size v n xs) (hb : base' ≤ base) : w.ownsRow base' e size v n xs := by
  refine ⟨h.1, ?_⟩
  rcases h.2 with h2 | ⟨g, cap, cur, hv, hg, r⟩
  · exact .inl h2
  · exact .inr ⟨g, cap, cur, hv, by omega, r⟩
theorem own_below {w w' : World} {base : Nat} {e : TypeId} {size n : Nat} {v : Value} {xs : List Value} (h : w.ownsRow base e size v n xs) (hb : Below w.heap.size w w') : w'.ownsRow base e size v n xs := by
  refine ⟨h.1, ?_⟩
  rcases h.2 with h2 | ⟨g, cap, cur, hv, hg, hh, r⟩
  · exact .inl h2
  · exact .inr ⟨g, cap, cur, hv, hg, by rw [hb.block g (lt_of_block hh)]; exact hh, r⟩
theorem filt_succ (L : List Rc) (k : Nat) (h : k < L.length) : (nz L[k] = true → (L.take (k + 1)).filter nz = (L.take k).filter nz ++ [L[k]]) ∧ (nz L[k] = false → (L.take (k + 1)).filter nz = (L.take k).filter nz) := by
  constructor <;> intro hz <;> rw [part_succ L k h, hz] <;> simp

set_option maxHeartbeats 4000000 in
theorem rless_full (x y a b p q c d : Int) (w : World) (h1 : may ⟨x, y, a, b⟩ = true) (h2 : may ⟨p, q, c, d⟩ = true) (h3 : empty ⟨x, y, a, b⟩ = false) (m : Rc) (hm : meet ⟨x, y, a, b⟩ ⟨p, q, c, d⟩ = m) (h5 : empty m = false) (hin : x ≤ m.x ∧ y ≤ m.y ∧ m.x + m.w ≤ x + a ∧ m.y + m.h ≤ y + b) :
    Calls Try.prog 29 #[.agg #[.int .i64 x, .int .i64 y, .int .i64 a, .int .i64 b], .agg #[.int .i64 p, .int .i64 q, .int .i64 c, .int .i64 d]] w (LessPost ((pieces ⟨x, y, a, b⟩ m).filter nz) 0 w) := by
  have hk : lessE ⟨x, y, a, b⟩ ⟨p, q, c, d⟩ = 0 := by simp [lessE, h1, h2]
  have hb1 := (empty_iff x y a b).1 h3
  have hb2 := (empty_iff m.x m.y m.w m.h).1 h5
  obtain ⟨mx, my, mw, mh⟩ := m
  simp only at hb2 hin
  have HM := Go.Lib.hid hm
  have HA := Go.Lib.hid h3
  have HZ := Go.Lib.hid h5
  clear hm h5
  have z0 := empty_from (x := x) (y := y) (r := x + a) (b := my) (by omega) (by omega) (by omega) (by omega)
  have z1 := empty_from (x := x) (y := my) (r := mx) (b := my + mh) (by omega) (by omega) (by omega) (by omega)
  have z2 := empty_from (x := mx + mw) (y := my) (r := x + a) (b := my + mh) (by omega) (by omega) (by omega) (by omega)
  have z3 := empty_from (x := x) (y := my + mh) (r := x + a) (b := y + b) (by omega) (by omega) (by omega) (by omega)
  generalize hr0 : fromR x y (x + a) my = r0 at *
  generalize hr1 : fromR x my mx (my + mh) = r1 at *
  generalize hr2 : fromR (mx + mw) my (x + a) (my + mh) = r2 at *
  generalize hr3 : fromR x (my + mh) (x + a) (y + b) = r3 at *
  have hrs : pieces ⟨x, y, a, b⟩ ⟨mx, my, mw, mh⟩ = [r0, r1, r2, r3] := by simp only [pieces, hr0, hr1, hr2, hr3]
  rw [hrs]
  have hempty : ∀ r ∈ [r0, r1, r2, r3], empty r = !nz r := by
    intro r hr
    simp only [List.mem_cons, List.not_mem_nil, or_false] at hr
    rcases hr with rfl | rfl | rfl | rfl <;> assumption
  have HE := Go.Lib.hid hempty
  have F0 : ∀ w, Calls Try.prog 44 #[.int .i64 x, .int .i64 y, .int .i64 (x + a), .int .i64 my] w fun e w' => e = .returned (.agg #[.int .i64 r0.x, .int .i64 r0.y, .int .i64 r0.w, .int .i64 r0.h]) ∧ Below w.heap.size w w' := fun w => hr0 ▸ rfrom_any _ _ _ _ w
  have F1 : ∀ w, Calls Try.prog 44 #[.int .i64 x, .int .i64 my, .int .i64 mx, .int .i64 (my + mh)] w fun e w' => e = .returned (.agg #[.int .i64 r1.x, .int .i64 r1.y, .int .i64 r1.w, .int .i64 r1.h]) ∧ Below w.heap.size w w' := fun w => hr1 ▸ rfrom_any _ _ _ _ w
  have F2 : ∀ w, Calls Try.prog 44 #[.int .i64 (mx + mw), .int .i64 my, .int .i64 (x + a), .int .i64 (my + mh)] w fun e w' => e = .returned (.agg #[.int .i64 r2.x, .int .i64 r2.y, .int .i64 r2.w, .int .i64 r2.h]) ∧ Below w.heap.size w w' := fun w => hr2 ▸ rfrom_any _ _ _ _ w
  have F3 : ∀ w, Calls Try.prog 44 #[.int .i64 x, .int .i64 (my + mh), .int .i64 (x + a), .int .i64 (y + b)] w fun e w' => e = .returned (.agg #[.int .i64 r3.x, .int .i64 r3.y, .int .i64 r3.w, .int .i64 r3.h]) ∧ Below w.heap.size w w' := fun w => hr3 ▸ rfrom_any _ _ _ _ w
  have G0 := Go.Lib.hid F0
  have G1 := Go.Lib.hid F1
  have G2 := Go.Lib.hid F2
  have G3 := Go.Lib.hid F3
  clear F0 F1 F2 F3 hr0 hr1 hr2 hr3 hrs z0 z1 z2 z3 hempty
  go_enter Try.func29, Try.ntmps29
  go_wp2_with (first | (go_at_call 56; refine (checks_any _ _ _ _ _ _ _ _ _).mono ?_; rintro e w1 ⟨rfl, hb⟩; (first | (have hP1 := hP.trans (hb.mono hP.size); clear hP hb hc hf z0 z1; have hP := hP1; clear hP1) | (have hP := hb; clear hb)); obtain ⟨hc, hf⟩ := bcell hP; have z0 : w.heap.size < w1.heap.size := (by have hz := hP.size; (try simp at hz); omega); have z1 : w.heap.size + 1 < w1.heap.size := (by have hz := hP.size; (try simp at hz); omega)) | (go_at_call 15; (with_reducible refine (rempty_is HA.out _).mono ?_); rintro e w4 ⟨rfl, hb4⟩; obtain ⟨hc4, hf4⟩ := bcell hb4; have hs4 := hb4.size; (try simp at hs4); have z4_0 : w.heap.size < w4.heap.size := (by omega); have y4_0 : w.heap.size < w4.heap.size + 1 := (by omega); have z4_1 : w.heap.size + 1 < w4.heap.size := (by omega); have y4_1 : w.heap.size + 1 < w4.heap.size + 1 := (by omega)) | (go_at_call 36; refine (rmeet_is HM.out _).mono ?_; rintro e w5 ⟨rfl, hb5⟩; obtain ⟨hc5, hf5⟩ := bcell hb5; have hs5 := hb5.size; (try simp at hs5); have z5_0 : w.heap.size < w5.heap.size := (by omega); have y5_0 : w.heap.size < w5.heap.size + 1 := (by omega); have z5_1 : w.heap.size + 1 < w5.heap.size := (by omega); have y5_1 : w.heap.size + 1 < w5.heap.size + 1 := (by omega)) | (go_at_call 15; (with_reducible refine (rempty_is HZ.out _).mono ?_); rintro e w6 ⟨rfl, hb6⟩; obtain ⟨hc6, hf6⟩ := bcell hb6; have hs6 := hb6.size; (try simp at hs6); have z6_0 : w.heap.size < w6.heap.size := (by omega); have y6_0 : w.heap.size < w6.heap.size + 1 := (by omega); have z6_1 : w.heap.size + 1 < w6.heap.size := (by omega); have y6_1 : w.heap.size + 1 < w6.heap.size + 1 := (by omega); have z6_2 : w5.heap.size < w6.heap.size := (by omega); have y6_2 : w5.heap.size < w6.heap.size + 1 := (by omega)))
  (apply region_make1 (Good := NewCells w6 (fun b => .slice (some ⟨b, 0, none⟩) 1 1) #[.int .i64 r0.x, .int .i64 r0.y, .int .i64 r0.w, .int .i64 r0.h] 27) (W := w6) 14 13 mixed rfl rfl (by kernel_rfl) (by decide) NewCells.mono; (focus (intro V hV; have hsV := hV.size; obtain ⟨hcV, hfV⟩ := bcell hV; have zV_0 : w.heap.size < V.heap.size := (by omega); have yV_0 : w.heap.size < V.heap.size + 1 := (by omega); have zV_1 : w.heap.size + 1 < V.heap.size := (by omega); have yV_1 : w.heap.size + 1 < V.heap.size + 1 := (by omega); have zV_2 : w5.heap.size < V.heap.size := (by omega); have yV_2 : w5.heap.size < V.heap.size + 1 := (by omega); simp only [List.length_cons, List.length_nil, Nat.reduceAdd, Nat.reduceSub, List.take_succ_cons, List.take_zero, List.drop_succ_cons, List.drop_zero, List.cons_append, List.nil_append, List.append_nil]; (repeat (go_big_quiet_step (first | (go_at_call 48; exact in_ext (right_in _ _ _ _ _ (by omega))) | (go_at_call 49; exact in_ext (below_in _ _ _ _ _ (by omega))) | (go_at_call 44; first | with_reducible exact in_ext (G0.out _) | with_reducible exact in_ext (G1.out _) | with_reducible exact in_ext (G2.out _) | with_reducible exact in_ext (G3.out _))))); exact wpQuiet_nil rfl)); (focus (exact makes_new fun w => by simp [go_sem])); rintro v w7 ⟨b7, hge7, hlt7, hblk7, rfl⟩ hb7; have hs7 := hb7.size; obtain ⟨hc7, hf7⟩ := bcell hb7; have hk7 := blk_cell hblk7; have hl7 := blk_frozen hblk7; have zw7_0 : w.heap.size < w7.heap.size := (by omega); have yw7_0 : w.heap.size < w7.heap.size + 1 := (by omega); have zw7_1 : w.heap.size + 1 < w7.heap.size := (by omega); have yw7_1 : w.heap.size + 1 < w7.heap.size + 1 := (by omega); have zw7_2 : w5.heap.size < w7.heap.size := (by omega); have yw7_2 : w5.heap.size < w7.heap.size + 1 := (by omega); simp only [List.length_cons, List.length_nil, Nat.reduceAdd, Nat.reduceSub, List.take_succ_cons, List.take_zero, List.drop_succ_cons, List.drop_zero, List.cons_append, List.nil_append, List.append_nil])
  have own7 := World.ownsRow_nil w7 w6.heap.size 27 4
  refine append_rect rfl (.tmp 26) (.tmp 39) rfl w6.heap.size _ [] r0 b7 rfl rfl own7 (by rw [hk7]; rfl) (by rw [hk7]; rfl) (by rw [hk7]; rfl) (by rw [hk7]; rfl) (by simp) (by omega) ?_
  intro v8 w8 hown8 hg8 hn8
  have hgs8 := hg8.size
  have hB8 : Below w6.heap.size w6 w8 := hb7.grown hg8 (by omega) (own_ge own7)
  clear hc7 hf7 hk7 hl7 hg8 hn8 own7
  obtain ⟨hc8, hf8⟩ := bcell hB8
  have zz8_0 : w.heap.size < w8.heap.size := by omega
  have zz8_1 : w.heap.size + 1 < w8.heap.size := by omega
  have zz8_2 : w5.heap.size < w8.heap.size := by omega
  go_wp2
  (apply region_make1 (Good := NewCells w8 (fun b => .slice (some ⟨b, 0, none⟩) 1 1) #[.int .i64 r1.x, .int .i64 r1.y, .int .i64 r1.w, .int .i64 r1.h] 27) (W := w8) 14 13 mixed rfl rfl (by kernel_rfl) (by decide) NewCells.mono; (focus (intro V hV; have hsV := hV.size; obtain ⟨hcV, hfV⟩ := bcell hV; have zV_0 : w.heap.size < V.heap.size := (by omega); have yV_0 : w.heap.size < V.heap.size + 1 := (by omega); have zV_1 : w.heap.size + 1 < V.heap.size := (by omega); have yV_1 : w.heap.size + 1 < V.heap.size + 1 := (by omega); have zV_2 : w5.heap.size < V.heap.size := (by omega); have yV_2 : w5.heap.size < V.heap.size + 1 := (by omega); simp only [List.length_cons, List.length_nil, Nat.reduceAdd, Nat.reduceSub, List.take_succ_cons, List.take_zero, List.drop_succ_cons, List.drop_zero, List.cons_append, List.nil_append, List.append_nil]; (repeat (go_big_quiet_step (first | (go_at_call 48; exact in_ext (right_in _ _ _ _ _ (by omega))) | (go_at_call 49; exact in_ext (below_in _ _ _ _ _ (by omega))) | (go_at_call 44; first | with_reducible exact in_ext (G0.out _) | with_reducible exact in_ext (G1.out _) | with_reducible exact in_ext (G2.out _) | with_reducible exact in_ext (G3.out _))))); exact wpQuiet_nil rfl)); (focus (exact makes_new fun w => by simp [go_sem])); rintro v w9 ⟨b9, hge9, hlt9, hblk9, rfl⟩ hb9; have hs9 := hb9.size; obtain ⟨hc9, hf9⟩ := bcell hb9; have hk9 := blk_cell hblk9; have hl9 := blk_frozen hblk9; have zw9_0 : w.heap.size < w9.heap.size := (by omega); have yw9_0 : w.heap.size < w9.heap.size + 1 := (by omega); have zw9_1 : w.heap.size + 1 < w9.heap.size := (by omega); have yw9_1 : w.heap.size + 1 < w9.heap.size + 1 := (by omega); have zw9_2 : w5.heap.size < w9.heap.size := (by omega); have yw9_2 : w5.heap.size < w9.heap.size + 1 := (by omega); simp only [List.length_cons, List.length_nil, Nat.reduceAdd, Nat.reduceSub, List.take_succ_cons, List.take_zero, List.drop_succ_cons, List.drop_zero, List.cons_append, List.nil_append, List.append_nil])
  have own9 := own_below hown8 hb9
  refine append_rect rfl (.tmp 41) (.tmp 54) rfl w6.heap.size _ [r0] r1 b9 rfl rfl own9 (by rw [hk9]; rfl) (by rw [hk9]; rfl) (by rw [hk9]; rfl) (by rw [hk9]; rfl) (by simp) (by omega) ?_
  intro v10 w10 hown10 hg10 hn10
  have hgs10 := hg10.size
  have hB10 : Below w6.heap.size w6 w10 := (hB8.trans (hb9.mono (by omega))).grown hg10 (by omega) (own_ge own9)
  clear hc9 hf9 hk9 hl9 hg10 hn10 own9
  clear hc8 hf8
  obtain ⟨hc10, hf10⟩ := bcell hB10
  have zz10_0 : w.heap.size < w10.heap.size := by omega
  have zz10_1 : w.heap.size + 1 < w10.heap.size := by omega
  have zz10_2 : w5.heap.size < w10.heap.size := by omega
  go_wp2
  (apply region_make1 (Good := NewCells w10 (fun b => .slice (some ⟨b, 0, none⟩) 1 1) #[.int .i64 r2.x, .int .i64 r2.y, .int .i64 r2.w, .int .i64 r2.h] 27) (W := w10) 12 11 mixed rfl rfl (by kernel_rfl) (by decide) NewCells.mono; (focus (intro V hV; have hsV := hV.size; obtain ⟨hcV, hfV⟩ := bcell hV; have zV_0 : w.heap.size < V.heap.size := (by omega); have yV_0 : w.heap.size < V.heap.size + 1 := (by omega); have zV_1 : w.heap.size + 1 < V.heap.size := (by omega); have yV_1 : w.heap.size + 1 < V.heap.size + 1 := (by omega); have zV_2 : w5.heap.size < V.heap.size := (by omega); have yV_2 : w5.heap.size < V.heap.size + 1 := (by omega); simp only [List.length_cons, List.length_nil, Nat.reduceAdd, Nat.reduceSub, List.take_succ_cons, List.take_zero, List.drop_succ_cons, List.drop_zero, List.cons_append, List.nil_append, List.append_nil]; (repeat (go_big_quiet_step (first | (go_at_call 48; exact in_ext (right_in _ _ _ _ _ (by omega))) | (go_at_call 49; exact in_ext (below_in _ _ _ _ _ (by omega))) | (go_at_call 44; first | with_reducible exact in_ext (G0.out _) | with_reducible exact in_ext (G1.out _) | with_reducible exact in_ext (G2.out _) | with_reducible exact in_ext (G3.out _))))); exact wpQuiet_nil rfl)); (focus (exact makes_new fun w => by simp [go_sem])); rintro v w11 ⟨b11, hge11, hlt11, hblk11, rfl⟩ hb11; have hs11 := hb11.size; obtain ⟨hc11, hf11⟩ := bcell hb11; have hk11 := blk_cell hblk11; have hl11 := blk_frozen hblk11; have zw11_0 : w.heap.size < w11.heap.size := (by omega); have yw11_0 : w.heap.size < w11.heap.size + 1 := (by omega); have zw11_1 : w.heap.size + 1 < w11.heap.size := (by omega); have yw11_1 : w.heap.size + 1 < w11.heap.size + 1 := (by omega); have zw11_2 : w5.heap.size < w11.heap.size := (by omega); have yw11_2 : w5.heap.size < w11.heap.size + 1 := (by omega); simp only [List.length_cons, List.length_nil, Nat.reduceAdd, Nat.reduceSub, List.take_succ_cons, List.take_zero, List.drop_succ_cons, List.drop_zero, List.cons_append, List.nil_append, List.append_nil])
  have own11 := own_below hown10 hb11
  refine append_rect rfl (.tmp 56) (.tmp 67) rfl w6.heap.size _ [r0, r1] r2 b11 rfl rfl own11 (by rw [hk11]; rfl) (by rw [hk11]; rfl) (by rw [hk11]; rfl) (by rw [hk11]; rfl) (by simp) (by omega) ?_
  intro v12 w12 hown12 hg12 hn12
  have hgs12 := hg12.size
  have hB12 : Below w6.heap.size w6 w12 := (hB10.trans (hb11.mono (by omega))).grown hg12 (by omega) (own_ge own11)
  clear hc11 hf11 hk11 hl11 hg12 hn12 own11
  clear hc10 hf10
  obtain ⟨hc12, hf12⟩ := bcell hB12
  have zz12_0 : w.heap.size < w12.heap.size := by omega
  have zz12_1 : w.heap.size + 1 < w12.heap.size := by omega
  have zz12_2 : w5.heap.size < w12.heap.size := by omega
  go_wp2
  (apply region_make1 (Good := NewCells w12 (fun b => .slice (some ⟨b, 0, none⟩) 1 1) #[.int .i64 r3.x, .int .i64 r3.y, .int .i64 r3.w, .int .i64 r3.h] 27) (W := w12) 12 11 mixed rfl rfl (by kernel_rfl) (by decide) NewCells.mono; (focus (intro V hV; have hsV := hV.size; obtain ⟨hcV, hfV⟩ := bcell hV; have zV_0 : w.heap.size < V.heap.size := (by omega); have yV_0 : w.heap.size < V.heap.size + 1 := (by omega); have zV_1 : w.heap.size + 1 < V.heap.size := (by omega); have yV_1 : w.heap.size + 1 < V.heap.size + 1 := (by omega); have zV_2 : w5.heap.size < V.heap.size := (by omega); have yV_2 : w5.heap.size < V.heap.size + 1 := (by omega); simp only [List.length_cons, List.length_nil, Nat.reduceAdd, Nat.reduceSub, List.take_succ_cons, List.take_zero, List.drop_succ_cons, List.drop_zero, List.cons_append, List.nil_append, List.append_nil]; (repeat (go_big_quiet_step (first | (go_at_call 48; exact in_ext (right_in _ _ _ _ _ (by omega))) | (go_at_call 49; exact in_ext (below_in _ _ _ _ _ (by omega))) | (go_at_call 44; first | with_reducible exact in_ext (G0.out _) | with_reducible exact in_ext (G1.out _) | with_reducible exact in_ext (G2.out _) | with_reducible exact in_ext (G3.out _))))); exact wpQuiet_nil rfl)); (focus (exact makes_new fun w => by simp [go_sem])); rintro v w13 ⟨b13, hge13, hlt13, hblk13, rfl⟩ hb13; have hs13 := hb13.size; obtain ⟨hc13, hf13⟩ := bcell hb13; have hk13 := blk_cell hblk13; have hl13 := blk_frozen hblk13; have zw13_0 : w.heap.size < w13.heap.size := (by omega); have yw13_0 : w.heap.size < w13.heap.size + 1 := (by omega); have zw13_1 : w.heap.size + 1 < w13.heap.size := (by omega); have yw13_1 : w.heap.size + 1 < w13.heap.size + 1 := (by omega); have zw13_2 : w5.heap.size < w13.heap.size := (by omega); have yw13_2 : w5.heap.size < w13.heap.size + 1 := (by omega); simp only [List.length_cons, List.length_nil, Nat.reduceAdd, Nat.reduceSub, List.take_succ_cons, List.take_zero, List.drop_succ_cons, List.drop_zero, List.cons_append, List.nil_append, List.append_nil])
  have own13 := own_below hown12 hb13
  refine append_rect rfl (.tmp 69) (.tmp 80) rfl w6.heap.size _ [r0, r1, r2] r3 b13 rfl rfl own13 (by rw [hk13]; rfl) (by rw [hk13]; rfl) (by rw [hk13]; rfl) (by rw [hk13]; rfl) (by simp) (by omega) ?_
  intro v14 w14 hown14 hg14 hn14
  have hgs14 := hg14.size
  have hB14 : Below w6.heap.size w6 w14 := (hB12.trans (hb13.mono (by omega))).grown hg14 (by omega) (own_ge own13)
  clear hc13 hf13 hk13 hl13 hg14 hn14 own13
  clear hc12 hf12
  obtain ⟨hc14, hf14⟩ := bcell hB14
  have zz14_0 : w.heap.size < w14.heap.size := by omega
  have zz14_1 : w.heap.size + 1 < w14.heap.size := by omega
  have zz14_2 : w5.heap.size < w14.heap.size := by omega
  obtain ⟨A, C, rfl⟩ := own_shape hown14
  have hall : RowAt w14 A ([r0, r1, r2] ++ [r3]) := RowAt.of_own hown14
  have hbw : Below w.heap.size w w14 := (by repeat (first | exact Below.refl _ _ | with_reducible refine Below.alloc ?_ (by first | (simp; done) | (simp; omega) | omega) _ | with_reducible refine Below.setCell ?_ (by first | (simp; done) | (simp; omega) | omega) _ | with_reducible refine Below.drew ?_ | with_reducible refine Below.trans ?_ (Below.mono (by assumption) (by first | (simp; done) | (simp; omega) | omega))))
  have hmem : ∀ r ∈ [r0, r1, r2] ++ [r3], empty r = !nz r := fun r hr => HE.out r (by simpa using hr)
  have hlen : ([r0, r1, r2] ++ [r3]).length = 4 := rfl
  generalize hL : [r0, r1, r2] ++ [r3] = L at *
  have HL := Go.Lib.hid hL
  have HM2 := Go.Lib.hid hmem
  have HLN := Go.Lib.hid hlen
  have HF : (List.filter nz [r0, r1, r2, r3]) = L.filter nz := by rw [← hL]; rfl
  rw [HF]
  clear HF hL hmem hc14 hf14 hB14 hB12 hB10 hB8 hown14 hown12 hown10 hown8 hc hf hP hb4 hc4 hf4 hb5 hc5 hf5 hb6 hc6 hf6 G0 G1 G2 G3 HE hlen
  go_wp2
  go_loopw [9, 10] (fun v i wr => ∃ (k : Nat) (A' : Option Addr) (C' : Nat), k ≤ 4 ∧ i = .int .i64 k ∧ v = .slice A' (((L.take k).filter nz).length) C' ∧ wr.ownsRow w14.heap.size 27 4 (.slice A' (((L.take k).filter nz).length) C') ((L.take k).filter nz).length (rcells ((L.take k).filter nz)) ∧ Below w14.heap.size w14 wr) (fun _ i _ => 4 - (intOf i).toNat)
  case atStart => exact ⟨0, none, 0, by omega, rfl, rfl, World.ownsRow_nil _ _ _ _, Below.refl _ _⟩
  case round =>
    obtain ⟨k, A', C', hk4, rfl, rfl, hown, hbr⟩ := hrel
    have hsz := hbr.size
    have hlen := HLN.out
    have hle : ((L.take k).filter nz).length ≤ 4 := part_le L k hlen
    by_cases hlt : k < 4
    · have hkl : k < L.length := by omega
      obtain ⟨g, rfl, hg, hc⟩ := (hall.below hbr) (by omega)
      obtain ⟨a0, a1, a2, a3⟩ := hc k hkl
      have hz := HM2.out L[k] (List.getElem_mem hkl)
      have hsu := filt_succ L k hkl
      generalize L[k] = r at *
      obtain ⟨rx, ry, rw_, rh⟩ := r
      simp only at a0 a1 a2 a3
      have hlt' : (k : Int) < 4 := by omega
      have hkl' : (k : Int) < (L.length : Int) := by omega
      have hll : (L.length : Int) = 4 := by omega
      rw [hlen] at *
      have HS := Go.Lib.hid hsu
      clear hsu hc
      cases hnz : nz ⟨rx, ry, rw_, rh⟩
      · rw [hnz] at hz
        have HZk : Hid (empty ⟨rx, ry, rw_, rh⟩ = true) := Go.Lib.hid hz
        have HNZ := Go.Lib.hid hnz
        clear hz hnz
        generalize ((L.take k).filter nz) = M at *
        go_wp2_with (first | (go_at_call 15; (with_reducible refine (rempty_is HZk.out _).mono ?_); rintro e w20 ⟨rfl, hb20⟩; obtain ⟨hc20, hf20⟩ := bcell hb20; have hs20 := hb20.size; (try simp at hs20); have z20_0 : g < w20.heap.size := (by omega); have y20_0 : g < w20.heap.size + 1 := (by omega)))
        go_roundw
        case rel =>
          have E := HS.out.2 HNZ.out
          exact ⟨k + 1, A', C', by omega, by go_num, by rw [E], by rw [E]; exact own_below hown hb20, hbr.trans (hb20.mono hsz)⟩
        case measure => simp [intOf]; omega
      · rw [hnz] at hz
        have HZk : Hid (empty ⟨rx, ry, rw_, rh⟩ = false) := Go.Lib.hid hz
        have HNZ := Go.Lib.hid hnz
        clear hz hnz
        generalize ((L.take k).filter nz) = M at *
        go_wp2_with (first | (go_at_call 15; (with_reducible refine (rempty_is HZk.out _).mono ?_); rintro e w20 ⟨rfl, hb20⟩; obtain ⟨hc20, hf20⟩ := bcell hb20; have hs20 := hb20.size; (try simp at hs20); have z20_0 : g < w20.heap.size := (by omega); have y20_0 : g < w20.heap.size + 1 := (by omega)) | (at_builtin; refine append_rect rfl (.tmp 94) (.tmp 99) rfl w14.heap.size _ M ⟨rx, ry, rw_, rh⟩ w20.heap.size rfl rfl ((own_below hown hb20).alloc _) (by simp [go_sem]) (by simp [go_sem]) (by simp [go_sem]) (by simp [go_sem]) ?_ ?_ ?_))
        · omega
        · simp
          omega
        intro v21 w21 hown21 hg21 hn21
        obtain ⟨A2, C2, rfl⟩ := own_shape hown21
        have hb21 : Below w14.heap.size w14 w21 := ((hbr.trans (hb20.mono hsz)).alloc (by omega) _).grown hg21 (by simp; omega) (own_ge hown)
        clear hg21 hn21 hown hbr
        go_wp2
        go_roundw
        case rel =>
          have E := HS.out.1 HNZ.out
          exact ⟨k + 1, A2, C2, by omega, by go_num, by rw [E, List.length_append]; rfl, by rw [E, List.length_append]; exact hown21, hb21⟩
        case measure => simp [intOf]; omega
    · have hk : k = 4 := by omega
      subst hk
      have e : L.take 4 = L := List.take_of_length_le (by omega)
      have HE4 := Go.Lib.hid e
      clear e
      rw [hlen] at *
      go_wp2
      go_ret2
      rw [HE4.out] at hown ⊢
      have zz : w.heap.size ≤ w14.heap.size := by omega
      have hown' := own_mono hown zz
      have hLL := HL.out
      subst hLL
      exact ⟨A', C', rfl, hown', hbw.trans (hbr.mono (by omega))⟩
theorem meet_in {p q : Rc} (h : ¬ meet p q = zero) : p.x ≤ (meet p q).x ∧ p.y ≤ (meet p q).y ∧ (meet p q).x + (meet p q).w ≤ p.x + p.w ∧ (meet p q).y + (meet p q).h ≤ p.y + p.h := by
  obtain ⟨_, h1, h2⟩ := meet_ok h
  rw [meet_full h1 h2] at h ⊢
  split at h
  · exact absurd rfl h
  · rename_i hc
    rw [if_neg hc]
    simp only
    omega
theorem rless_any (x y a b p q c d : Int) (w : World) :
    Calls Try.prog 29 #[.agg #[.int .i64 x, .int .i64 y, .int .i64 a, .int .i64 b], .agg #[.int .i64 p, .int .i64 q, .int .i64 c, .int .i64 d]] w (LessPost (lessL ⟨x, y, a, b⟩ ⟨p, q, c, d⟩) (lessE ⟨x, y, a, b⟩ ⟨p, q, c, d⟩) w) := by
  cases h0 : (may ⟨x, y, a, b⟩ && may ⟨p, q, c, d⟩)
  · rw [show lessL ⟨x, y, a, b⟩ ⟨p, q, c, d⟩ = [] by simp only [lessL, h0]; rfl, show lessE ⟨x, y, a, b⟩ ⟨p, q, c, d⟩ = 5 by simp only [lessE, h0]; rfl]
    exact rless_no x y a b p q c d w h0
  · rw [show lessE ⟨x, y, a, b⟩ ⟨p, q, c, d⟩ = 0 by simp only [lessE, h0]; rfl]
    obtain ⟨h1, h2⟩ : may ⟨x, y, a, b⟩ = true ∧ may ⟨p, q, c, d⟩ = true := by simpa using h0
    cases h3 : empty ⟨x, y, a, b⟩
    · by_cases h4 : meet ⟨x, y, a, b⟩ ⟨p, q, c, d⟩ = zero
      · rw [show lessL ⟨x, y, a, b⟩ ⟨p, q, c, d⟩ = [⟨x, y, a, b⟩] by simp [lessL, h1, h2, h3, h4]]
        exact rless_apart x y a b p q c d w h1 h2 h3 h4
      · rw [show lessL ⟨x, y, a, b⟩ ⟨p, q, c, d⟩ = (pieces ⟨x, y, a, b⟩ (meet ⟨x, y, a, b⟩ ⟨p, q, c, d⟩)).filter nz by simp only [lessL, h1, h2, h3, h4, Bool.and_self, Bool.not_true, Bool.false_eq_true, if_false]; rfl]
        exact rless_full x y a b p q c d w h1 h2 h3 _ rfl (meet_ok h4).1 (meet_in h4)
    · rw [show lessL ⟨x, y, a, b⟩ ⟨p, q, c, d⟩ = [] by simp [lessL, h1, h2, h3]]
      exact rless_empty x y a b p q c d w h1 h2 h3
end Go.Proofs.Ytoinjoihkodkeaa
