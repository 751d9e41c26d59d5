/- The walk of GeomTwos. -/
import Derived.Test.YtoinjoihkodkeaaGeomN
import Derived.Test.YtoinjoihkodkeaaLawAreas
namespace Go.Proofs.Ytoinjoihkodkeaa
set_option linter.unusedVariables false
set_option linter.unusedSimpArgs false
open Go.RowKit
attribute [local go_sem] max_fold min_fold
theorem join_is2 {x y a b p q c d : Int} {j : Rc} (h : join ⟨x, y, a, b⟩ ⟨p, q, c, d⟩ = j) (w : World) :
    Calls Try.prog 26 #[.agg #[.int .i64 x, .int .i64 y, .int .i64 a, .int .i64 b], .agg #[.int .i64 p, .int .i64 q, .int .i64 c, .int .i64 d]] w fun e w' => e = .returned (.agg #[.int .i64 j.x, .int .i64 j.y, .int .i64 j.w, .int .i64 j.h]) ∧ Below w.heap.size w w' := h ▸ join_any x y a b p q c d w
theorem rjoin_is2 {x y a b p q c d : Int} {j : Rc} (h : join ⟨x, y, a, b⟩ ⟨p, q, c, d⟩ = j) (w : World) :
    Calls Try.prog 27 #[.agg #[.int .i64 x, .int .i64 y, .int .i64 a, .int .i64 b], .agg #[.int .i64 p, .int .i64 q, .int .i64 c, .int .i64 d]] w fun e w' => e = .returned (.agg #[.int .i64 j.x, .int .i64 j.y, .int .i64 j.w, .int .i64 j.h]) ∧ Below w.heap.size w w' := h ▸ rjoin_any x y a b p q c d w
theorem same_eq (A B : Option Addr) (c c' : Nat) (l : List Rc) (w : World) (hl : l.length ≤ 1000) (h1 : RowAt w A l) (h2 : RowAt w B l) :
    Calls Try.prog 30 #[.slice A l.length c, .slice B l.length c'] w fun e w' => e = .returned (.bool true) ∧ Below w.heap.size w w' := by
  have h := same_any A B c c' l l w hl hl h1 h2
  simpa using h
set_option maxHeartbeats 4000000 in
theorem walkGeomTwos (x y a b p q c d : Int) (w : World) :
    Calls Try.prog 5 #[.agg #[.int .i64 x, .int .i64 y, .int .i64 a, .int .i64 b], .agg #[.int .i64 p, .int .i64 q, .int .i64 c, .int .i64 d]] w fun e w' => e = .returned (.bool true) ∧ Below w.heap.size w w' := by
  obtain ⟨j, hj⟩ : ∃ j, join ⟨x, y, a, b⟩ ⟨p, q, c, d⟩ = j := ⟨_, rfl⟩
  have hl1 := less_any x y a b p q c d
  have hl2 := rless_any x y a b p q c d
  have hlen := less_len ⟨x, y, a, b⟩ ⟨p, q, c, d⟩
  generalize lessL ⟨x, y, a, b⟩ ⟨p, q, c, d⟩ = l at *
  generalize lessE ⟨x, y, a, b⟩ ⟨p, q, c, d⟩ = E at *
  have HJ := Go.Lib.hid hj
  have HL1 := Go.Lib.hid hl1
  have HL2 := Go.Lib.hid hl2
  clear hj hl1 hl2
  go_enter Try.func5, Try.ntmps5
  go_wp2_with fail
  obtain ⟨w1, hw1⟩ : ∃ w1, w1 = (w.alloc (.cells #[.int .i64 x, .int .i64 y, .int .i64 a, .int .i64 b] 27)).alloc (.cells #[.int .i64 p, .int .i64 q, .int .i64 c, .int .i64 d] 27) := ⟨_, rfl⟩
  rw [← hw1]
  have hb1 : Below w.heap.size w w1 := by rw [hw1]; exact (by repeat (first | exact Below.refl _ _ | with_reducible refine Below.alloc ?_ (by first | (simp; done) | (simp; omega) | omega) _ | with_reducible refine Below.setCell ?_ (by first | (simp; done) | (simp; omega) | omega) _ | with_reducible refine Below.drew ?_ | with_reducible refine Below.trans ?_ (Below.mono (by assumption) (by first | (simp; done) | (simp; omega) | omega))))
  have hA : w1.heap[w.heap.size]? = some (.cells #[.int .i64 x, .int .i64 y, .int .i64 a, .int .i64 b] 27 (0, 0)) := by rw [hw1]; exact heap_alloc2_old _ _ _
  have hB : w1.heap[w.heap.size + 1]? = some (.cells #[.int .i64 p, .int .i64 q, .int .i64 c, .int .i64 d] 27 (0, 0)) := by rw [hw1]; exact heap_alloc2_new _ _ _
  have hs1 : w1.heap.size = w.heap.size + 2 := by rw [hw1]; simp
  clear hw1
  have ltA := lt_of_block hA
  have ltB := lt_of_block hB
  have hcA := blk_cell hA
  have hcB := blk_cell hB
  (apply region_make2 (blk := pblk) (Good1 := NewCells w1 newPtr #[.int .i64 0, .int .i64 0, .int .i64 0, .int .i64 0] 27) (Good2 := NewCells w1 newPtr #[.int .i64 0, .int .i64 0, .int .i64 0, .int .i64 0] 27) (W := w1) 8 6 7 mixed rfl rfl rfl rfl (by decide) (by kernel_rfl) (by decide) (by decide) NewCells.mono NewCells.mono ptr_lt ptr_lt; (focus (intro V hV; have hsV := hV.size; (try simp at hsV); obtain ⟨hcV, hfV⟩ := bcell hV; have zV_0 : w.heap.size < V.heap.size := (by omega); have yV_0 : w.heap.size < V.heap.size + 1 := (by omega); have zV_1 : w.heap.size + 1 < V.heap.size := (by omega); have yV_1 : w.heap.size + 1 < V.heap.size + 1 := (by omega); simp only [List.length_cons, List.length_nil, Nat.reduceAdd, Nat.reduceSub, List.take_succ_cons, List.take_zero, List.drop_succ_cons, List.drop_zero, List.cons_append, List.nil_append, List.append_nil]; (repeat (go_big_quiet_step (first | (go_at_call 26; exact in_ext (join_is2 HJ.out _)) | (go_at_call 27; exact in_ext (rjoin_is2 HJ.out _))))); exact wpQuiet_nil rfl)); (focus (exact makes_ptr fun w => by simp [go_sem, newPtr])); (focus (exact makes_ptr fun w => by simp [go_sem, newPtr])); rintro u v w2 ⟨b2, hge2, hlt2, hblk2, rfl⟩ ⟨c2, hgf2, hlu2, hblj2, rfl⟩ hne2 hb2; have hne2 : b2 ≠ c2 := (fun e => hne2 b2 rfl (by rw [e]; rfl)); have hnf2 := Ne.symm hne2; have hs2 := hb2.size; (try simp at hs2); obtain ⟨hc2, hf2⟩ := bcell hb2; have hk2 := blk_cell hblk2; have hl2 := blk_frozen hblk2; have hm2 := blk_cell hblj2; have hn2 := blk_frozen hblj2; have zw2_0 : w.heap.size < w2.heap.size := (by omega); have yw2_0 : w.heap.size < w2.heap.size + 1 := (by omega); have zw2_1 : w.heap.size + 1 < w2.heap.size := (by omega); have yw2_1 : w.heap.size + 1 < w2.heap.size + 1 := (by omega); simp only [newPtr, List.length_cons, List.length_nil, Nat.reduceAdd, Nat.reduceSub, List.take_succ_cons, List.take_zero, List.drop_succ_cons, List.drop_zero, List.cons_append, List.nil_append, List.append_nil])
  have n1 : w.heap.size ≠ b2 := by omega
  have n2 : w.heap.size ≠ c2 := by omega
  have n3 : w.heap.size + 1 ≠ b2 := by omega
  have n4 : w.heap.size + 1 ≠ c2 := by omega
  have n5 := Ne.symm n1
  have n6 := Ne.symm n2
  have n7 := Ne.symm n3
  have n8 := Ne.symm n4
  have hA2 := (hb2.block _ ltA).trans hA
  have hB2 := (hb2.block _ ltB).trans hB
  have hA2' := store4_off (u0 := .int .i64 j.x) (u1 := .int .i64 j.y) (u2 := .int .i64 j.w) (u3 := .int .i64 j.h) (store4_off (u0 := .int .i64 j.x) (u1 := .int .i64 j.y) (u2 := .int .i64 j.w) (u3 := .int .i64 j.h) hA2 n1) n2
  have hB2' := store4_off (u0 := .int .i64 j.x) (u1 := .int .i64 j.y) (u2 := .int .i64 j.w) (u3 := .int .i64 j.h) (store4_off (u0 := .int .i64 j.x) (u1 := .int .i64 j.y) (u2 := .int .i64 j.w) (u3 := .int .i64 j.h) hB2 n3) n4
  have hJ2' := store4_off (u0 := .int .i64 j.x) (u1 := .int .i64 j.y) (u2 := .int .i64 j.w) (u3 := .int .i64 j.h) (store4 (u0 := .int .i64 j.x) (u1 := .int .i64 j.y) (u2 := .int .i64 j.w) (u3 := .int .i64 j.h) hblk2) hne2
  have hK2' := store4 (u0 := .int .i64 j.x) (u1 := .int .i64 j.y) (u2 := .int .i64 j.w) (u3 := .int .i64 j.h) (store4_off (u0 := .int .i64 j.x) (u1 := .int .i64 j.y) (u2 := .int .i64 j.w) (u3 := .int .i64 j.h) hblj2 hnf2)
  have HA2 := Go.Lib.hid hA2'
  have HB2 := Go.Lib.hid hB2'
  have HJ2 := Go.Lib.hid hJ2'
  have HK2 := Go.Lib.hid hK2'
  clear hA hB hA2 hB2 hblk2 hblj2 hA2' hB2' hJ2' hK2'
  go_wp2_with fail
  generalize hwb : World.setCell _ _ _ = wb at *
  have hbB : Below w1.heap.size w1 wb := by
    rw [← hwb]
    exact (((((((hb2.setCell (by assumption) _).setCell (by assumption) _).setCell (by assumption) _).setCell (by assumption) _).setCell (by assumption) _).setCell (by assumption) _).setCell (by assumption) _).setCell (by assumption) _
  refine (HL1.out _).mono ?_
  rintro e w3 ⟨A3, C3, rfl, hown3, hb3⟩
  have hA2 := HA2.out
  have hB2 := HB2.out
  have hJ2 := HJ2.out
  have hK2 := HK2.out
  have hA3 := (hb3.block _ (lt_of_block hA2)).trans hA2; have kA3 := blk_cell hA3; have lA3 := lt_of_block hA3; have hB3 := (hb3.block _ (lt_of_block hB2)).trans hB2; have kB3 := blk_cell hB3; have lB3 := lt_of_block hB3; have hJ3 := (hb3.block _ (lt_of_block hJ2)).trans hJ2; have kJ3 := blk_cell hJ3; have lJ3 := lt_of_block hJ3; have hK3 := (hb3.block _ (lt_of_block hK2)).trans hK2; have kK3 := blk_cell hK3; have lK3 := lt_of_block hK3
  clear hA2 hB2 hJ2 hK2 HA2 HB2 HJ2 HK2 hwb hc2 hf2 hk2 hl2 hm2 hn2
  go_wp2_with fail
  refine (HL1.out _).mono ?_
  rintro e w4 ⟨A4, C4, rfl, hown4, hb4⟩
  have hA4 := (hb4.block _ (lt_of_block hA3)).trans hA3; have kA4 := blk_cell hA4; have lA4 := lt_of_block hA4; have hB4 := (hb4.block _ (lt_of_block hB3)).trans hB3; have kB4 := blk_cell hB4; have lB4 := lt_of_block hB4; have hJ4 := (hb4.block _ (lt_of_block hJ3)).trans hJ3; have kJ4 := blk_cell hJ4; have lJ4 := lt_of_block hJ4; have hK4 := (hb4.block _ (lt_of_block hK3)).trans hK3; have kK4 := blk_cell hK4; have lK4 := lt_of_block hK4
  clear kA3 kB3 kJ3 kK3 
  go_wp2_with fail
  refine (HL2.out _).mono ?_
  rintro e w5 ⟨A5, C5, rfl, hown5, hb5⟩
  have hA5 := (hb5.block _ (lt_of_block hA4)).trans hA4; have kA5 := blk_cell hA5; have lA5 := lt_of_block hA5; have hB5 := (hb5.block _ (lt_of_block hB4)).trans hB4; have kB5 := blk_cell hB5; have lB5 := lt_of_block hB5; have hJ5 := (hb5.block _ (lt_of_block hJ4)).trans hJ4; have kJ5 := blk_cell hJ5; have lJ5 := lt_of_block hJ5; have hK5 := (hb5.block _ (lt_of_block hK4)).trans hK4; have kK5 := blk_cell hK5; have lK5 := lt_of_block hK5
  clear kA4 kB4 kJ4 kK4 
  have hr3 : RowAt w5 A3 l := ((RowAt.of_own hown3).below hb4).below hb5
  have hr4 : RowAt w5 A4 l := (RowAt.of_own hown4).below hb5
  have hr5 : RowAt w5 A5 l := RowAt.of_own hown5
  go_wp2_with (first | (go_at_call 30; refine (same_eq _ _ _ _ _ _ (by omega) hr3 hr5).mono ?_; rintro e w6 ⟨rfl, hb6⟩; have hA6 := (hb6.block _ (lt_of_block hA5)).trans hA5; have kA6 := blk_cell hA6; have lA6 := lt_of_block hA6; have hB6 := (hb6.block _ (lt_of_block hB5)).trans hB5; have kB6 := blk_cell hB6; have lB6 := lt_of_block hB6))
  have hown3' := own_below (own_below (own_below hown3 hb4) hb5) hb6
  clear hr3 hr4 hr5 kA5 kB5
  have hs3 := hb3.size
  have hs4 := hb4.size
  have hs5 := hb5.size
  have hs6 := hb6.size
  have hsB := hbB.size
  go_loopw [13] (fun i wr => ∃ (k : Nat) (xs : List Value), k ≤ l.length ∧ i = .int .i64 k ∧ wr.ownsRow wb.heap.size 27 4 (.slice A3 l.length C3) l.length xs ∧ w6.grownBy wr (Value.ownBlock (.slice A3 l.length C3))) (fun i wr => l.length - (intOf i).toNat)
  case atStart => exact ⟨0, _, by omega, rfl, hown3', World.grownBy.refl _ _⟩
  case round =>
    obtain ⟨k, xs, hk, rfl, hown, hgr⟩ := hrel
    have hsr := hgr.size
    by_cases hlt : k < l.length
    · have hli : (k : Int) < (l.length : Int) := by omega
      obtain ⟨g, rfl⟩ : ∃ g, A3 = some ⟨g, 0, none⟩ := by
        rcases hown.2 with ⟨_, h0⟩ | ⟨g, cap, cur, hv, _⟩
        · omega
        · exact ⟨g, by injection hv⟩
      have hxs := hown.1
      have hcell : ∀ i, i < 4 → ∃ v, wr.cell? ⟨g, k * 4 + i, none⟩ = some v := fun i hi => by
        rw [hown.cellAt (k * 4 + i) (by omega)]
        exact ⟨_, List.getElem?_eq_getElem (by omega)⟩
      obtain ⟨v0, c0⟩ := hcell 0 (by omega)
      obtain ⟨v1, c1⟩ := hcell 1 (by omega)
      obtain ⟨v2, c2_⟩ := hcell 2 (by omega)
      obtain ⟨v3, c3⟩ := hcell 3 (by omega)
      rw [Nat.add_zero] at c0
      have hfr : ∀ i, wr.frozen? ⟨g, i, none⟩ = false := hown.frozenAt
      clear hcell hxs
      obtain ⟨x1, o1, g1⟩ := own_store1 hown (k * 4) (.int .i64 77)
      obtain ⟨x2, o2, g2⟩ := own_store1 o1 (k * 4 + 1) (.int .i64 0)
      obtain ⟨x3, o3, g3⟩ := own_store1 o2 (k * 4 + 2) (.int .i64 0)
      obtain ⟨x4, o4, g4⟩ := own_store1 o3 (k * 4 + 3) (.int .i64 0)
      have hg' := grown_trans (grown_trans (grown_trans (grown_trans hgr g1) g2) g3) g4
      clear g1 g2 g3 g4 o1 o2 o3
      go_wp2
      go_roundw
      case rel => exact ⟨k + 1, x4, by omega, by go_num, o4, hg'⟩
      case measure => simp [intOf]; omega
    · have hli : ¬ ((k : Int) < (l.length : Int)) := by omega
      have hne : ∀ {base : Nat} {v : Value} {n : Nat} {ys : List Value} {wz : World}, wz.ownsRow base 27 4 v n ys → w3.heap.size ≤ base → v.ownBlock = none ∨ v.ownBlock ≠ Value.ownBlock (.slice A3 l.length C3) := by
        intro base v n ys wz ho hb
        cases hv : v.ownBlock with
        | none => exact .inl rfl
        | some m =>
          refine .inr fun e => ?_
          have h1 := own_ge ho m hv
          have h2 := (hown3.lt m e.symm).2
          omega
      have o4 := (own_below (own_below hown4 hb5) hb6).kept hgr (hne hown4 (Nat.le_refl _))
      have o5 := (own_below hown5 hb6).kept hgr (hne hown5 (by omega))
      have hr4 : RowAt wr A4 l := RowAt.of_own o4
      have hr5 : RowAt wr A5 l := RowAt.of_own o5
      have hbx : ∀ m, m < w1.heap.size → some m ≠ Value.ownBlock (.slice A3 l.length C3) := by
        intro m hm e
        have := (hown3.lt m e.symm).1
        omega
      have hAr := (hgr.block _ lA6 (hbx _ ltA)).trans hA6
      have hBr := (hgr.block _ lB6 (hbx _ ltB)).trans hB6
      have kAr := blk_cell hAr
      have kBr := blk_cell hBr
      have lAr := lt_of_block hAr
      have lBr := lt_of_block hBr
      have hfin : Below w.heap.size w wr := ((((((hb1.trans (hbB.mono (by omega))).trans (hb3.mono (by omega))).trans (hb4.mono (by omega))).trans (hb5.mono (by omega))).trans (hb6.mono (by omega)))).grown hgr (by omega) (fun m hm => by have := (hown3.lt m hm).1; omega)
      clear hne hbx hown hgr o4 o5 kA6 kB6
      go_wp2
      refine region_ext mixed (by kernel_rfl) ?_
      repeat (go_big_quiet_step (first | (go_at_call 30; exact in_ext (same_eq _ _ _ _ _ _ (by omega) (hr4.below (ext_below _)) (hr5.below (ext_below _)))) | (go_at_call 31; exact in_ext (in_any _ _ _ _ _ _ _ _ _)) | (go_at_call 32; exact in_ext (rin_any _ _ _ _ _ _ _ _ _)) | (go_at_call 33; exact in_ext (over_any _ _ _ _ _ _ _ _ _)) | (go_at_call 34; exact in_ext (rover_any _ _ _ _ _ _ _ _ _)) | (go_at_call 35; exact in_ext (meet_any _ _ _ _ _ _ _ _ _)) | (go_at_call 36; exact in_ext (rmeet_any _ _ _ _ _ _ _ _ _))))
      refine wpQuiet_nil ?_
      intro w9 hb9
      go_wp2
      go_ret
      exact ⟨rfl, hfin.trans (hb9.mono (by omega))⟩
end Go.Proofs.Ytoinjoihkodkeaa
