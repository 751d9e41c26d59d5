/- Layer 11: the law GridRects. Printed by gen_r.py. -/
import Derived.Test.YtjippgflempdmaaGrRefW
namespace Go.Proofs.Ytjippgflempdmaa
set_option linter.unusedVariables false
set_option linter.unusedSimpArgs false
set_option maxRecDepth 100000
open Go.RowKit
attribute [local go_sem] max_fold min_fold

theorem run_eql_sz (w : World) (x y : Int) : (binOp .eql 31 (.agg #[.int .i64 x, .int .i64 y]) (.agg #[.int .i64 x, .int .i64 y])).run Try.prog w = .ok (.bool true) w := by
  simp [go_sem]
attribute [local go_sem 2000] run_eql_sz
theorem rlen_bd {S : List Int} {L : List T2} {col gap : Int} {r : Geo.Rc} (h : muchB S.length = false) : (rcsR S L col gap r).length ≤ 60 := by
  unfold rcsR
  split
  · rename_i h0
    unfold allL
    rw [rctL_len]
    unfold rcsE at h0
    split at h0
    · rename_i h1
      split at h0
      · rename_i h2
        have := (wrong_ok (askR_ok h1).1 h2).2.2
        simp [muchB] at h
        omega
      · omega
    · rename_i h1
      exact absurd h0 h1
  · simp
theorem mark_at2 {w : World} {base g n c : Nat} {L : List T2} (h : w.ownsRow base 31 2 (.slice (some ⟨g, 0, none⟩) (n + 1) c) (n + 1) (t2s (L ++ [m77]))) : At w.heap.size w (some ⟨g, 0, none⟩) (t2s L) := by
  have := (At.of_own h).take (L.length * 2)
  rwa [t2s_append, List.take_append_of_le_length (by rw [t2s_len]; omega), ← t2s_len, List.take_length] at this
theorem mark_at1 {w : World} {base g n c : Nat} {L : List Int} (h : w.ownsRow base 3 1 (.slice (some ⟨g, 0, none⟩) (n + 1) c) (n + 1) (ints (L ++ [777]))) : At w.heap.size w (some ⟨g, 0, none⟩) (ints L) := by
  have := (At.of_own h).take L.length
  rwa [show (ints (L ++ [777])).take L.length = ints L by rw [ints_append, List.take_append_of_le_length (by rw [ints_len]; omega), ← ints_len, List.take_length]] at this
theorem blk4 {w : World} {g : Nat} {a b c d : Value} {t : TypeId} (h : w.heap[g]? = some (.cells #[a, b, c, d] t (0, 0))) : w.cell? ⟨g, 0, none⟩ = some a ∧ w.cell? ⟨g, 1, none⟩ = some b ∧ w.cell? ⟨g, 2, none⟩ = some c ∧ w.cell? ⟨g, 3, none⟩ = some d ∧ g < w.heap.size :=
  ⟨by have := blk_cell h 0; simpa using this, by have := blk_cell h 1; simpa using this, by have := blk_cell h 2; simpa using this, by have := blk_cell h 3; simpa using this, blk_lt2 h⟩

set_option maxRecDepth 100000 in
set_option maxHeartbeats 8000000 in
theorem walkGridRects (w : World) (A : Option Addr) (c : Nat) (S : List Int) (hA : At w.heap.size w A (ints S)) (hnil : A = none → S.length = 0 ∧ c = 0) (hlc : S.length ≤ c) (hcm : c ≤ maxLen) (hw1 : ∀ n ∈ S, (Lit.int .i64 n).wf = true) (A2 : Option Addr) (c2 : Nat) (L : List T2) (hA2 : At w.heap.size w A2 (t2s L)) (hnil2 : A2 = none → L.length = 0 ∧ c2 = 0) (hlc2 : L.length ≤ c2) (hcm2 : c2 ≤ maxLen) (col : Int) (hcol : (Lit.int .i64 col).wf = true) (gap : Int) (hgap : (Lit.int .i64 gap).wf = true) (rx ry rw_ rh : Int) :
    Calls Try.prog 5 #[.slice A S.length c, .slice A2 L.length c2, .int .i64 col, .int .i64 gap, .agg #[.int .i64 rx, .int .i64 ry, .int .i64 rw_, .int .i64 rh]] w fun e w' => e = .returned (.bool true) ∧ Below w.heap.size w w' := by
  have hm1 : (S.length : Int) ≤ 9223372036854775807 := by unfold maxLen at hcm; omega
  have hm2 : (L.length : Int) ≤ 9223372036854775807 := by unfold maxLen at hcm2; omega
  clear hw1 hcol hgap hlc hlc2 hcm hcm2
  obtain ⟨N, hN⟩ : ∃ N, S.length = N := ⟨_, rfl⟩
  obtain ⟨M, hM⟩ : ∃ M, L.length = M := ⟨_, rfl⟩
  cases hg1 : muchB S.length
  · cases hg2 : muchB L.length
    · have hs1 : S.length ≤ 3000 := by simp [muchB] at hg1; omega
      have hs2 : L.length ≤ 3000 := by simp [muchB] at hg2; omega
      have HM1 := Go.Lib.hid fun w => hg1 ▸ much_any (S.length : Int) w
      have HM2 := Go.Lib.hid fun w => hg2 ▸ much_any (L.length : Int) w
      have HX := Go.Lib.hid fun (B : Nat) (w : World) (h : At B w A (ints S)) => ints_any B A c S w h hs1 hnil
      have HY := Go.Lib.hid fun (B : Nat) (w : World) (h : At B w A2 (t2s L)) => sizes_any B A2 c2 L w h hs2 hnil2
      have HKX := Go.Lib.hid fun (A A2 : Option Addr) (c c2 : Nat) (w : World) h1 h2 h4 h5 => keptInts_any w.heap.size A A2 c c2 S w h1 h2 (Nat.le_refl _) hs1 h4 h5
      have HKY := Go.Lib.hid fun (A A2 : Option Addr) (c c2 : Nat) (w : World) h1 h2 h4 h5 => keptSizes_any w.heap.size A A2 c c2 L w h1 h2 (Nat.le_refl _) hs2 h4 h5
      have HN := Go.Lib.hid fun (A A2 : Option Addr) (c c2 : Nat) (w : World) h1 h2 => Need_any w.heap.size A A2 c c2 S L col gap w h1 h2 (Nat.le_refl _) (by omega) (by omega)
      have HRN := Go.Lib.hid fun (A A2 : Option Addr) (c c2 : Nat) (w : World) h1 h2 => rNeed_any w.heap.size A A2 c c2 S L col gap w h1 h2 (Nat.le_refl _) (by omega) (by omega)
      have HC := Go.Lib.hid fun (A A2 : Option Addr) (c c2 : Nat) (w : World) h1 h2 => Rects_any w.heap.size A A2 c c2 S L col gap rx ry rw_ rh w h1 h2 (Nat.le_refl _) (by omega) (by omega)
      have HRC := Go.Lib.hid fun (A A2 : Option Addr) (c c2 : Nat) (w : World) h1 h2 => rRects_any w.heap.size A A2 c c2 S L col gap rx ry rw_ rh w h1 h2 (Nat.le_refl _) (by omega) (by omega)
      have hrl := rlen_bd (L := L) (col := col) (gap := gap) (r := ⟨rx, ry, rw_, rh⟩) hg1
      rw [hN] at HM1 HX HKX HN HRN HC HRC hs1 ⊢
      rw [hM] at HM2 HY HKY HN HRN HC HRC hs2 ⊢
      rw [hN] at hm1
      rw [hM] at hm2
      obtain ⟨⟨np, nq⟩, hnd⟩ : ∃ r : T2, ndR S L col gap = r := ⟨_, rfl⟩
      rw [hnd] at HN HRN
      generalize ndE S L col gap = eN at *
      generalize rcsR S L col gap ⟨rx, ry, rw_, rh⟩ = R at *
      generalize rcsE S L col gap ⟨rx, ry, rw_, rh⟩ = eR at *
      obtain ⟨nR, hnR⟩ : ∃ n, R.length = n := ⟨_, rfl⟩
      have HSL : Hid (∀ (A A2 : Option Addr) (c c2 : Nat) (w : World), Geo.RowAt w A R → Geo.RowAt w A2 R → Calls Try.prog 25 #[.slice A nR c, .slice A2 nR c2] w fun e w' => e = .returned (.bool true) ∧ Below w.heap.size w w') := Go.Lib.hid fun A A2 c c2 w h1 h2 => by
        have := Geo.same_any A A2 c c2 R R w (by omega) (by omega) h1 h2
        rwa [hnR, show decide (R = R) = true by simp] at this
      have HNR := Go.Lib.hid hnR
      clear hg1 hg2 hN hM hnil hnil2 hnR hrl hnd
      go_enter Try.func5, Try.ntmps5
      have b0 := Below.refl w.heap.size w
      have h1 : Below w.heap.size w (w.alloc (.cells #[.int .i64 rx, .int .i64 ry, .int .i64 rw_, .int .i64 rh] 42)) := (Below.refl _ _).alloc (Nat.le_refl _) _
      have hq := alloc_at w (.cells #[.int .i64 rx, .int .i64 ry, .int .i64 rw_, .int .i64 rh] 42)
      replace hA := hA.on9 h1
      replace hA2 := hA2.on9 h1
      have c1 := b0.trans (h1.mono b0.size)
      have t1 := c1.size
      clear b0 h1
      go_wp2_with fail
      refine (alive_any _).mono ?_
      rintro e w2 ⟨rfl, h2⟩
      replace hA := hA.on9 h2
      replace hA2 := hA2.on9 h2
      replace hq := (h2.block _ (blk_lt2 hq)).trans hq
      have c2 := c1.trans (h2.mono c1.size)
      have t2 := c2.size
      clear c1 h2
      go_wp2_with fail
      refine (HM1.out _).mono ?_
      rintro e w' ⟨rfl, rfl⟩
      go_wp2_with fail
      refine (HM2.out _).mono ?_
      rintro e w' ⟨rfl, rfl⟩
      go_wp2_with fail
      refine (HX.out _ _ hA).mono ?_
      rintro e w5 ⟨gx, cx, rfl, hcx, hmx, hox, h5⟩
      replace hA := hA.on9 h5
      replace hA2 := hA2.on9 h5
      replace hq := (h5.block _ (blk_lt2 hq)).trans hq
      have c5 := c2.trans (h5.mono c2.size)
      have t5 := c5.size
      clear c2 h5
      go_wp2_with fail
      refine (HY.out _ _ hA2).mono ?_
      rintro e w6 ⟨gy, cy, rfl, hcy, hmy, hoy, h6⟩
      replace hA := hA.on9 h6
      replace hA2 := hA2.on9 h6
      replace hox := own_below' hox h6
      replace hq := (h6.block _ (blk_lt2 hq)).trans hq
      have c6 := c5.trans (h6.mono c5.size)
      have t6 := c6.size
      clear c5 h6
      have hx := mark_at1 hox
      have hy := mark_at2 hoy
      go_wp2_with fail
      refine (HN.out _ _ _ _ _ hx hy).mono ?_
      rintro e w7 ⟨rfl, h7⟩
      replace hA := hA.on9 h7
      replace hA2 := hA2.on9 h7
      replace hx := hx.on9 h7
      replace hy := hy.on9 h7
      replace hox := own_below' hox h7
      replace hoy := own_below' hoy h7
      replace hq := (h7.block _ (blk_lt2 hq)).trans hq
      have c7 := c6.trans (h7.mono c6.size)
      have t7 := c7.size
      clear c6 h7
      have h8 : Below w7.heap.size w7 (w7.alloc (.cells #[.int .i64 np, .int .i64 nq] 31)) := (Below.refl _ _).alloc (Nat.le_refl _) _
      have hn1 := alloc_at w7 (.cells #[.int .i64 np, .int .i64 nq] 31)
      replace hA := hA.on9 h8
      replace hA2 := hA2.on9 h8
      replace hx := hx.on9 h8
      replace hy := hy.on9 h8
      replace hox := own_below' hox h8
      replace hoy := own_below' hoy h8
      replace hq := (h8.block _ (blk_lt2 hq)).trans hq
      have c8 := c7.trans (h8.mono c7.size)
      have t8 := c8.size
      clear c7 h8
      obtain ⟨q0, q1, q2, q3, lq⟩ := blk4 hq
      go_wp2_with fail
      refine (HC.out _ _ _ _ _ hx hy).mono ?_
      rintro e w9 ⟨Al, cl, rfl, hol, h9⟩
      replace hA := hA.on9 h9
      replace hA2 := hA2.on9 h9
      replace hx := hx.on9 h9
      replace hy := hy.on9 h9
      replace hox := own_below' hox h9
      replace hoy := own_below' hoy h9
      replace hq := (h9.block _ (blk_lt2 hq)).trans hq
      replace hn1 := (h9.block _ (blk_lt2 hn1)).trans hn1
      have c9 := c8.trans (h9.mono c8.size)
      have t9 := c9.size
      clear c8 h9
      clear q0 q1 q2 q3 lq
      rw [HNR.out] at hol ⊢
      go_wp2_with fail
      refine (HRN.out _ _ _ _ _ hA hA2).mono ?_
      rintro e w10 ⟨rfl, h10⟩
      replace hA := hA.on9 h10
      replace hA2 := hA2.on9 h10
      replace hx := hx.on9 h10
      replace hy := hy.on9 h10
      replace hox := own_below' hox h10
      replace hoy := own_below' hoy h10
      replace hol := own_below' hol h10
      replace hq := (h10.block _ (blk_lt2 hq)).trans hq
      replace hn1 := (h10.block _ (blk_lt2 hn1)).trans hn1
      have c10 := c9.trans (h10.mono c9.size)
      have t10 := c10.size
      clear c9 h10
      have h11 : Below w10.heap.size w10 (w10.alloc (.cells #[.int .i64 np, .int .i64 nq] 31)) := (Below.refl _ _).alloc (Nat.le_refl _) _
      have hn2 := alloc_at w10 (.cells #[.int .i64 np, .int .i64 nq] 31)
      replace hA := hA.on9 h11
      replace hA2 := hA2.on9 h11
      replace hx := hx.on9 h11
      replace hy := hy.on9 h11
      replace hox := own_below' hox h11
      replace hoy := own_below' hoy h11
      replace hol := own_below' hol h11
      replace hq := (h11.block _ (blk_lt2 hq)).trans hq
      replace hn1 := (h11.block _ (blk_lt2 hn1)).trans hn1
      have c11 := c10.trans (h11.mono c10.size)
      have t11 := c11.size
      clear c10 h11
      obtain ⟨q0, q1, q2, q3, lq⟩ := blk4 hq
      go_wp2_with fail
      refine (HRC.out _ _ _ _ _ hA hA2).mono ?_
      rintro e w12 ⟨Am, cm, rfl, hom, h12⟩
      replace hA := hA.on9 h12
      replace hA2 := hA2.on9 h12
      replace hx := hx.on9 h12
      replace hy := hy.on9 h12
      replace hox := own_below' hox h12
      replace hoy := own_below' hoy h12
      replace hol := own_below' hol h12
      replace hq := (h12.block _ (blk_lt2 hq)).trans hq
      replace hn1 := (h12.block _ (blk_lt2 hn1)).trans hn1
      replace hn2 := (h12.block _ (blk_lt2 hn2)).trans hn2
      have c12 := c11.trans (h12.mono c11.size)
      have t12 := c12.size
      clear c11 h12
      clear q0 q1 q2 q3 lq
      rw [HNR.out] at hom ⊢
      obtain ⟨k0, k1, _, _, lk⟩ := blk2 hn1
      obtain ⟨j0, j1, _, _, lj⟩ := blk2 hn2
      go_wp2_with fail
      refine (HSL.out _ _ _ _ _ (Geo.RowAt.of_own (by rw [HNR.out]; exact hol)) (Geo.RowAt.of_own (by rw [HNR.out]; exact hom))).mono ?_
      rintro e w13 ⟨rfl, h13⟩
      replace hA := hA.on9 h13
      replace hA2 := hA2.on9 h13
      replace hx := hx.on9 h13
      replace hy := hy.on9 h13
      replace hox := own_below' hox h13
      replace hoy := own_below' hoy h13
      replace hol := own_below' hol h13
      replace hom := own_below' hom h13
      replace hq := (h13.block _ (blk_lt2 hq)).trans hq
      replace hn1 := (h13.block _ (blk_lt2 hn1)).trans hn1
      replace hn2 := (h13.block _ (blk_lt2 hn2)).trans hn2
      have c13 := c12.trans (h13.mono c12.size)
      have t13 := c13.size
      clear c12 h13
      go_wp2_with fail
      refine (HKX.out _ _ _ _ _ (At.of_own hox) hA hcx hmx).mono ?_
      rintro e w14 ⟨rfl, h14⟩
      replace hA := hA.on9 h14
      replace hA2 := hA2.on9 h14
      replace hx := hx.on9 h14
      replace hy := hy.on9 h14
      replace hox := own_below' hox h14
      replace hoy := own_below' hoy h14
      replace hol := own_below' hol h14
      replace hom := own_below' hom h14
      replace hq := (h14.block _ (blk_lt2 hq)).trans hq
      replace hn1 := (h14.block _ (blk_lt2 hn1)).trans hn1
      replace hn2 := (h14.block _ (blk_lt2 hn2)).trans hn2
      have c14 := c13.trans (h14.mono c13.size)
      have t14 := c14.size
      clear c13 h14
      go_wp2_with fail
      refine (HKY.out _ _ _ _ _ (At.of_own hoy) hA2 hcy hmy).mono ?_
      rintro e w15 ⟨rfl, h15⟩
      replace hA := hA.on9 h15
      replace hA2 := hA2.on9 h15
      replace hx := hx.on9 h15
      replace hy := hy.on9 h15
      replace hox := own_below' hox h15
      replace hoy := own_below' hoy h15
      replace hol := own_below' hol h15
      replace hom := own_below' hom h15
      replace hq := (h15.block _ (blk_lt2 hq)).trans hq
      replace hn1 := (h15.block _ (blk_lt2 hn1)).trans hn1
      replace hn2 := (h15.block _ (blk_lt2 hn2)).trans hn2
      have c15 := c14.trans (h15.mono c14.size)
      have t15 := c15.size
      clear c14 h15
      clear k0 k1 lk j0 j1 lj hn1 hn2
      go_wp2
      go_ret
      exact ⟨rfl, c15⟩
    · have HM1 := Go.Lib.hid fun w => hg1 ▸ much_any (S.length : Int) w
      have HM2 := Go.Lib.hid fun w => hg2 ▸ much_any (L.length : Int) w
      rw [hN] at HM1 hm1 ⊢
      rw [hM] at HM2 hm2 ⊢
      clear hg1 hg2 hN hM hA hA2
      go_enter Try.func5, Try.ntmps5
      go_wp2_with fail
      refine (alive_any _).mono ?_
      rintro e w1 ⟨rfl, h1⟩
      go_wp2_with fail
      refine (HM1.out _).mono ?_
      rintro e w' ⟨rfl, rfl⟩
      go_wp2_with fail
      refine (HM2.out _).mono ?_
      rintro e w' ⟨rfl, rfl⟩
      go_wp2
      go_ret
      exact ⟨rfl, ((Below.refl _ _).alloc (Nat.le_refl _) _).trans (h1.mono (by simp))⟩
  · have HM1 := Go.Lib.hid fun w => hg1 ▸ much_any (S.length : Int) w
    rw [hN] at HM1 hm1 ⊢
    rw [hM] at hm2 ⊢
    clear hg1 hN hM hA hA2
    go_enter Try.func5, Try.ntmps5
    go_wp2_with fail
    refine (alive_any _).mono ?_
    rintro e w1 ⟨rfl, h1⟩
    go_wp2_with fail
    refine (HM1.out _).mono ?_
    rintro e w' ⟨rfl, rfl⟩
    go_wp2
    go_ret
    exact ⟨rfl, ((Below.refl _ _).alloc (Nat.le_refl _) _).trans (h1.mono (by simp))⟩
end Go.Proofs.Ytjippgflempdmaa

