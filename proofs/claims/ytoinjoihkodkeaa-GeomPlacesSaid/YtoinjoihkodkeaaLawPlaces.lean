/- The walk of GeomPlaces. -/
import Derived.Test.YtoinjoihkodkeaaPlacesWalk
namespace Go.Proofs.Ytoinjoihkodkeaa
set_option linter.unusedVariables false
set_option linter.unusedSimpArgs false
open Go.RowKit
attribute [local go_sem] max_fold min_fold
set_option maxRecDepth 100000 in
set_option maxHeartbeats 8000000 in
theorem places_walk (p0 p1 p2 p3 q0 q1 q2 q3 : Int) (hp0 : -128 ≤ p0 ∧ p0 ≤ 127) (hp1 : -128 ≤ p1 ∧ p1 ≤ 127) (hp2 : -128 ≤ p2 ∧ p2 ≤ 127) (hp3 : -128 ≤ p3 ∧ p3 ≤ 127)
    (hq0 : -128 ≤ q0 ∧ q0 ≤ 127) (hq1 : -128 ≤ q1 ∧ q1 ≤ 127) (hq2 : -128 ≤ q2 ∧ q2 ≤ 127) (hq3 : -128 ≤ q3 ∧ q3 ≤ 127) (w0 : World) :
    Calls Try.prog 7 #[.agg #[.int .i8 p0, .int .i8 p1, .int .i8 p2, .int .i8 p3], .agg #[.int .i8 q0, .int .i8 q1, .int .i8 q2, .int .i8 q3]] w0 fun e w' => e = .returned (.bool true) ∧ Below w0.heap.size w0 w' := by
  have ia := fourR_in p0 p1 p2 p3
  have ib := fourR_in q0 q1 q2 q3
  have ra := fun w => rect_any p0 p1 p2 p3 w hp0 hp1 hp2 hp3
  have rb := fun w => rect_any q0 q1 q2 q3 w hq0 hq1 hq2 hq3
  generalize fourR p0 p1 p2 p3 = a at *
  generalize fourR q0 q1 q2 q3 = b at *
  obtain ⟨m, hm⟩ : ∃ m, meet a b = m := ⟨_, rfl⟩
  obtain ⟨j, hj⟩ : ∃ j, join a b = j := ⟨_, rfl⟩
  have hless := less_any a.x a.y a.w a.h b.x b.y b.w b.h
  have hcnt := less_cnt ia ib
  have hlen := less_len a b
  rw [show lessE ⟨a.x, a.y, a.w, a.h⟩ ⟨b.x, b.y, b.w, b.h⟩ = 0 by have h1 := ia.may; have h2 := ib.may; simp [lessE, h1, h2]] at hless
  have hlb : ∀ r ∈ lessL a b, (-40000 ≤ r.x ∧ r.x ≤ 40000) ∧ (-40000 ≤ r.y ∧ r.y ≤ 40000) ∧ (0 ≤ r.w ∧ r.w ≤ 40000) ∧ (0 ≤ r.h ∧ r.h ≤ 40000) := by
    intro r hr
    have := (piece_prop ia.may ib.may hr).1
    have := (empty_iff r.x r.y r.w r.h).1 this
    omega
  have hlq : lessL ⟨a.x, a.y, a.w, a.h⟩ ⟨b.x, b.y, b.w, b.h⟩ = lessL a b := rfl
  rw [hlq] at hless
  generalize lessL a b = l at *
  have RA := Go.Lib.hid ra
  have RB := Go.Lib.hid rb
  have IA := Go.Lib.hid ia
  have IB := Go.Lib.hid ib
  have HM := Go.Lib.hid hm
  have HJ := Go.Lib.hid hj
  have HL := Go.Lib.hid hless
  have HC := Go.Lib.hid hcnt
  have HB := Go.Lib.hid hlb
  clear ra rb ia ib hm hj hless hcnt hlb hlq
  go_enter Try.func7, Try.ntmps7
  go_wp2_with fail
  generalize hw1 : World.alloc _ _ = w1
  have hb1 : Below w0.heap.size w0 w1 := by rw [← hw1]; exact (by repeat (first | exact Below.refl _ _ | with_reducible refine Below.alloc ?_ (by first | (simp; done) | (simp; omega) | omega) _ | with_reducible refine Below.setCell ?_ (by first | (simp; done) | (simp; omega) | omega) _ | with_reducible refine Below.drew ?_ | with_reducible refine Below.trans ?_ (Below.mono (by assumption) (by first | (simp; done) | (simp; omega) | omega))))
  have hP1 : w1.heap[w0.heap.size]? = some (.cells #[.int .i8 p0, .int .i8 p1, .int .i8 p2, .int .i8 p3] 49 (0, 0)) := by rw [← hw1]; exact heap_alloc2_old _ _ _
  have hQ1 : w1.heap[w0.heap.size + 1]? = some (.cells #[.int .i8 q0, .int .i8 q1, .int .i8 q2, .int .i8 q3] 49 (0, 0)) := by rw [← hw1]; exact heap_alloc2_new _ _ _
  have hs1 : w1.heap.size = w0.heap.size + 2 := by rw [← hw1]; simp
  clear hw1
  have ltP := lt_of_block hP1
  have ltQ := lt_of_block hQ1
  have kP := blk_cell hP1
  have kQ := blk_cell hQ1
  (apply region_make2 (blk := pblk) (Good1 := NewCells w1 newPtr #[.int .i64 0, .int .i64 0, .int .i64 0, .int .i64 0] 27) (Good2 := NewCells w1 newPtr #[.int .i64 0, .int .i64 0, .int .i64 0, .int .i64 0] 27) (W := w1) 6 4 5 mixed rfl rfl rfl rfl (by decide) (by kernel_rfl) (by decide) (by decide) NewCells.mono NewCells.mono ptr_lt ptr_lt; (focus (intro V hV; have hsV := hV.size; (try simp at hsV); obtain ⟨hcV, hfV⟩ := bcell hV; have zV_0 : w0.heap.size < V.heap.size := (by omega); have yV_0 : w0.heap.size < V.heap.size + 1 := (by omega); have zV_1 : w0.heap.size + 1 < V.heap.size := (by omega); have yV_1 : w0.heap.size + 1 < V.heap.size + 1 := (by omega); simp only [List.length_cons, List.length_nil, Nat.reduceAdd, Nat.reduceSub, List.take_succ_cons, List.take_zero, List.drop_succ_cons, List.drop_zero, List.cons_append, List.nil_append, List.append_nil]; (repeat (go_big_quiet_step ((go_at_call 38; first | with_reducible exact in_ext (RA.out _) | with_reducible exact in_ext (RB.out _))))); exact wpQuiet_nil rfl)); (focus (exact makes_ptr fun w => by simp [go_sem, newPtr])); (focus (exact makes_ptr fun w => by simp [go_sem, newPtr])); rintro u v w2 ⟨b2, hge2, hlt2, hblk2, rfl⟩ ⟨c2, hgf2, hlu2, hblj2, rfl⟩ hne2 hb2; have hne2 : b2 ≠ c2 := (fun e => hne2 b2 rfl (by rw [e]; rfl)); have hnf2 := Ne.symm hne2; have hs2 := hb2.size; (try simp at hs2); obtain ⟨hc2, hf2⟩ := bcell hb2; have hk2 := blk_cell hblk2; have hl2 := blk_frozen hblk2; have hm2 := blk_cell hblj2; have hn2 := blk_frozen hblj2; have zw2_0 : w0.heap.size < w2.heap.size := (by omega); have yw2_0 : w0.heap.size < w2.heap.size + 1 := (by omega); have zw2_1 : w0.heap.size + 1 < w2.heap.size := (by omega); have yw2_1 : w0.heap.size + 1 < w2.heap.size + 1 := (by omega); simp only [newPtr, List.length_cons, List.length_nil, Nat.reduceAdd, Nat.reduceSub, List.take_succ_cons, List.take_zero, List.drop_succ_cons, List.drop_zero, List.cons_append, List.nil_append, List.append_nil])
  have hA2' := store4_off (u0 := .int .i64 b.x) (u1 := .int .i64 b.y) (u2 := .int .i64 b.w) (u3 := .int .i64 b.h) (store4 (u0 := .int .i64 a.x) (u1 := .int .i64 a.y) (u2 := .int .i64 a.w) (u3 := .int .i64 a.h) hblk2) hne2
  have hB2' := store4 (u0 := .int .i64 b.x) (u1 := .int .i64 b.y) (u2 := .int .i64 b.w) (u3 := .int .i64 b.h) (store4_off (u0 := .int .i64 a.x) (u1 := .int .i64 a.y) (u2 := .int .i64 a.w) (u3 := .int .i64 a.h) hblj2 hnf2)
  have HA2 := Go.Lib.hid hA2'
  have HB2 := Go.Lib.hid hB2'
  clear hblk2 hblj2 hA2' hB2'
  go_wp2_with fail
  generalize hwb : World.setCell _ _ _ = wb at *
  have hbB : Below w1.heap.size w1 wb := by
    rw [← hwb]
    exact (((((((hb2.setCell (by assumption) _).setCell (by assumption) _).setCell (by assumption) _).setCell (by assumption) _).setCell (by assumption) _).setCell (by assumption) _).setCell (by assumption) _).setCell (by assumption) _
  refine (meet_is3 HM.out _).mono ?_
  rintro e w3 ⟨rfl, hb3⟩
  have hs3 := hb3.size
  have hA2 := HA2.out
  have hB2 := HB2.out
  have hA3 := (hb3.block _ (lt_of_block hA2)).trans hA2; have kA3 := blk_cell hA3; have lA3 := lt_of_block hA3; have hB3 := (hb3.block _ (lt_of_block hB2)).trans hB2; have kB3 := blk_cell hB3; have lB3 := lt_of_block hB3
  clear hA2 hB2 HA2 HB2 hwb hc2 hf2 hk2 hl2 hm2 hn2
  go_wp2_with fail; refine (join_is4 HJ.out _).mono ?_; rintro e w4 ⟨rfl, hb4⟩; have hs4 := hb4.size; (try simp at hs4); have hA4 := (hb4.block _ (lt_of_block ((heap_alloc_old _ _ lA3).trans hA3))).trans ((heap_alloc_old _ _ lA3).trans hA3); have kA4 := blk_cell hA4; have lA4 := lt_of_block hA4; (try clear kA3); have hB4 := (hb4.block _ (lt_of_block ((heap_alloc_old _ _ lB3).trans hB3))).trans ((heap_alloc_old _ _ lB3).trans hB3); have kB4 := blk_cell hB4; have lB4 := lt_of_block hB4; (try clear kB3); have hM4 := (hb4.block _ (lt_of_block (heap_alloc_new w3 _))).trans (heap_alloc_new w3 _); have kM4 := blk_cell hM4; have lM4 := lt_of_block hM4
  go_wp2_with fail
  refine (HL.out _).mono ?_
  rintro e w5 ⟨R, C, rfl, hown5, hb5⟩
  have hs5 := hb5.size
  simp at hs5
  have hA5 := (hb5.block _ (lt_of_block ((heap_alloc_old _ _ lA4).trans hA4))).trans ((heap_alloc_old _ _ lA4).trans hA4); have kA5 := blk_cell hA5; have lA5 := lt_of_block hA5; (try clear kA4); have hB5 := (hb5.block _ (lt_of_block ((heap_alloc_old _ _ lB4).trans hB4))).trans ((heap_alloc_old _ _ lB4).trans hB4); have kB5 := blk_cell hB5; have lB5 := lt_of_block hB5; (try clear kB4); have hM5 := (hb5.block _ (lt_of_block ((heap_alloc_old _ _ lM4).trans hM4))).trans ((heap_alloc_old _ _ lM4).trans hM4); have kM5 := blk_cell hM5; have lM5 := lt_of_block hM5; (try clear kM4); have hJ5 := (hb5.block _ (lt_of_block (heap_alloc_new w4 _))).trans (heap_alloc_new w4 _); have kJ5 := blk_cell hJ5; have lJ5 := lt_of_block hJ5
  have hr5 : RowAt w5 R l := RowAt.of_own hown5
  clear hown5
  go_wp2_with fail; refine (alive_any _).mono ?_; rintro e w6 ⟨rfl, hb6⟩; have hs6 := hb6.size; (try simp at hs6); have hA6 := (hb6.block _ (lt_of_block hA5)).trans hA5; have kA6 := blk_cell hA6; have lA6 := lt_of_block hA6; (try clear kA5); have hB6 := (hb6.block _ (lt_of_block hB5)).trans hB5; have kB6 := blk_cell hB6; have lB6 := lt_of_block hB6; (try clear kB5); have hM6 := (hb6.block _ (lt_of_block hM5)).trans hM5; have kM6 := blk_cell hM6; have lM6 := lt_of_block hM6; (try clear kM5); have hJ6 := (hb6.block _ (lt_of_block hJ5)).trans hJ5; have kJ6 := blk_cell hJ6; have lJ6 := lt_of_block hJ6; (try clear kJ5)
  have hr6 := hr5.below hb6
  clear hr5
  have hl4 : (l.length : Int) ≤ 4 := by omega
  have hb06 : Below w0.heap.size w0 w6 := by
    have hsB := hbB.size
    exact ((((hb1.trans (hbB.mono (by omega))).trans (hb3.mono (by omega))).alloc (by omega) _ |>.trans (hb4.mono (by simp; omega))).alloc (by omega) _ |>.trans (hb5.mono (by simp; omega))).trans (hb6.mono (by omega))
  clear hb1 hbB hb2 hb3 hb4 hb5 hb6
  go_wp2
  go_loopw [11, 12, 13, 14, 15, 16, 17, 18] (fun an al ov le ri ab be y wr => ∃ (s : PSt) (Y : Int), -18 ≤ Y ∧ Y ≤ 34 ∧ an = .bool s.any ∧ al = .bool s.all ∧ ov = .bool s.over ∧ le = .int .i64 s.left ∧ ri = .int .i64 s.right ∧ ab = .int .i64 s.above ∧ be = .int .i64 s.below ∧ y = .int .i64 Y ∧ Hid (PInv a b (vis Y (-18)) s) ∧ Below w6.heap.size w6 wr) (fun _ _ _ _ _ _ _ y _ => (34 - intOf y).toNat)
  case atStart => exact ⟨PSt.init, -18, by omega, by omega, rfl, rfl, rfl, rfl, rfl, rfl, rfl, rfl, Go.Lib.hid ((PInv.start a b).congr vis_start), Below.refl _ _⟩
  case round =>
    obtain ⟨s, Y, hY1, hY2, rfl, rfl, rfl, rfl, rfl, rfl, rfl, rfl, HI, hbr⟩ := hrel
    obtain ⟨wo, rfl⟩ : ∃ wo : World, wo = wr := ⟨_, rfl⟩
    have hso := hbr.size
    have hA7 := (hbr.block _ (lt_of_block hA6)).trans hA6; have kA7 := blk_cell hA7; have lA7 := lt_of_block hA7; (try clear kA6); have hB7 := (hbr.block _ (lt_of_block hB6)).trans hB6; have kB7 := blk_cell hB7; have lB7 := lt_of_block hB7; (try clear kB6); have hM7 := (hbr.block _ (lt_of_block hM6)).trans hM6; have kM7 := blk_cell hM7; have lM7 := lt_of_block hM7; (try clear kM6); have hJ7 := (hbr.block _ (lt_of_block hJ6)).trans hJ6; have kJ7 := blk_cell hJ7; have lJ7 := lt_of_block hJ7; (try clear kJ6)
    by_cases hYl : Y < 34
    · go_wp2
      go_loopw [11, 12, 13, 14, 15, 16, 17, 19] (fun an al ov le ri ab be x wr => ∃ (s : PSt) (X : Int), -18 ≤ X ∧ X ≤ 34 ∧ an = .bool s.any ∧ al = .bool s.all ∧ ov = .bool s.over ∧ le = .int .i64 s.left ∧ ri = .int .i64 s.right ∧ ab = .int .i64 s.above ∧ be = .int .i64 s.below ∧ x = .int .i64 X ∧ Hid (PInv a b (vis Y X) s) ∧ Below w6.heap.size w6 wr) (fun _ _ _ _ _ _ _ x _ => (34 - intOf x).toNat)
      case atStart => exact ⟨s, -18, by omega, by omega, rfl, rfl, rfl, rfl, rfl, rfl, rfl, rfl, HI, hbr⟩
      case round =>
        clear hA7 kA7 lA7 hB7 kB7 lB7 hM7 kM7 lM7 hJ7 kJ7 lJ7 HI
        obtain ⟨s, X, hX1, hX2, rfl, rfl, rfl, rfl, rfl, rfl, rfl, rfl, HI, hbx⟩ := hrel
        obtain ⟨wx, rfl⟩ : ∃ wx : World, wx = wr := ⟨_, rfl⟩
        have hsx := hbx.size
        have hA8 := (hbx.block _ (lt_of_block hA6)).trans hA6; have kA8 := blk_cell hA8; have lA8 := lt_of_block hA8; (try clear kA6); have hB8 := (hbx.block _ (lt_of_block hB6)).trans hB6; have kB8 := blk_cell hB8; have lB8 := lt_of_block hB8; (try clear kB6); have hM8 := (hbx.block _ (lt_of_block hM6)).trans hM6; have kM8 := blk_cell hM8; have lM8 := lt_of_block hM8; (try clear kM6); have hJ8 := (hbx.block _ (lt_of_block hJ6)).trans hJ6; have kJ8 := blk_cell hJ8; have lJ8 := lt_of_block hJ8; (try clear kJ6)
        by_cases hXl : X < 34
        · obtain ⟨one, hone⟩ : ∃ v, hasP a X Y = v := ⟨_, rfl⟩
          obtain ⟨two, htwo⟩ : ∃ v, hasP b X Y = v := ⟨_, rfl⟩
          have c1 := fun w => lhas_bd hone IA.out.bd w
          have c2 := fun w => lhas_bd htwo IB.out.bd w
          have C1 := Go.Lib.hid c1
          have C2 := Go.Lib.hid c2
          have H1 := Go.Lib.hid hone
          have H2 := Go.Lib.hid htwo
          clear c1 c2 hone htwo
          go_wp2
          refine region_ext_last 2 mixed (by kernel_rfl) ?_
          simp only [List.length_cons, List.length_nil, Nat.reduceAdd, Nat.reduceSub, List.take_succ_cons, List.take_zero, List.drop_succ_cons, List.drop_zero]
          repeat (go_big_quiet_step (first | (go_at_call 39; first | with_reducible exact in_ext (C1.out _) | with_reducible exact in_ext (C2.out _))))
          refine wpQuiet_nil ?_
          intro w9 hb9
          have hs9 := hb9.size
          have hA9 := (hb9.block _ (lt_of_block hA8)).trans hA8; have kA9 := blk_cell hA9; have lA9 := lt_of_block hA9; (try clear kA8); have hB9 := (hb9.block _ (lt_of_block hB8)).trans hB8; have kB9 := blk_cell hB9; have lB9 := lt_of_block hB9; (try clear kB8); have hM9 := (hb9.block _ (lt_of_block hM8)).trans hM8; have kM9 := blk_cell hM9; have lM9 := lt_of_block hM9; (try clear kM8); have hJ9 := (hb9.block _ (lt_of_block hJ8)).trans hJ8; have kJ9 := blk_cell hJ9; have lJ9 := lt_of_block hJ9; (try clear kJ8)
          have hb69 := hbx.trans (hb9.mono hsx)
          clear C1 C2
          go_wp2
          go_loopw [22, 23] (fun n i wr => ∃ (k : Nat) (N : Int), k ≤ l.length ∧ i = .int .i64 k ∧ n = .int .i64 N ∧ Hid (N = cnt (l.take k) X Y) ∧ Below w9.heap.size w9 wr) (fun _ i _ => l.length - (intOf i).toNat)
          case atStart => exact ⟨0, 0, by omega, rfl, rfl, Go.Lib.hid rfl, Below.refl _ _⟩
          case round =>
            obtain ⟨k, N, hk, rfl, rfl, HN, hbi⟩ := hrel
            obtain ⟨wi, rfl⟩ : ∃ wi : World, wi = wr := ⟨_, rfl⟩
            have hsi := hbi.size
            have hNb : 0 ≤ N ∧ N ≤ 4 := by
              have h1 := cnt_bd (l.take k) X Y
              have h2 : (l.take k).length ≤ 4 := by rw [List.length_take]; omega
              have h3 := HN.out
              omega
            by_cases hlt : k < l.length
            · have hli : (k : Int) < (l.length : Int) := by omega
              obtain ⟨g, rfl, hg, hcg⟩ := (hr6.below (hb69.trans (hbi.mono (by omega)))) (by omega)
              obtain ⟨a0, a1, a2, a3⟩ := hcg k hlt
              have hbd : Bd l[k] := HB.out l[k] (List.getElem_mem hlt)
              have hnx := cnt_take l k hlt X Y
              generalize l[k] = r at *
              clear hcg kA9 kB9 kM9 kJ9
              obtain ⟨v, hv⟩ : ∃ v, hasP r X Y = v := ⟨_, rfl⟩
              have c3 := fun w => lhas_bd hv hbd w
              rw [hv] at hnx
              have HV := Go.Lib.hid hnx
              clear hv hbd hnx
              cases v
              all_goals
                have C3 := Go.Lib.hid c3
                clear c3
                go_wp2_with fail
                refine (C3.out _).mono ?_
                rintro e w10 ⟨rfl, hb10⟩
                go_wp2
                go_roundw
                case rel =>
                  have h3 := HN.out
                  have h4 := HV.out
                  first | exact ⟨k + 1, N + 1, by omega, by go_num, rfl, Go.Lib.hid (by rw [h4, ← h3]; rfl), hbi.trans (hb10.mono hsi)⟩ | exact ⟨k + 1, N, by omega, by go_num, rfl, Go.Lib.hid (by rw [h4, ← h3]; simp), hbi.trans (hb10.mono hsi)⟩
                case measure => simp [intOf]; omega
            · have hlt' : ¬ ((k : Int) < (l.length : Int)) := by omega
              have hkl : k = l.length := by omega
              have hN : N = if one && !two then 1 else 0 := by
                have h3 := HN.out
                rw [hkl, List.take_length, HC.out, H1.out, H2.out] at h3
                exact h3
              clear HN
              have hA10 := (hbi.block _ (lt_of_block hA9)).trans hA9; have kA10 := blk_cell hA10; have lA10 := lt_of_block hA10; (try clear kA9); have hB10 := (hbi.block _ (lt_of_block hB9)).trans hB9; have kB10 := blk_cell hB10; have lB10 := lt_of_block hB10; (try clear kB9); have hM10 := (hbi.block _ (lt_of_block hM9)).trans hM9; have kM10 := blk_cell hM10; have lM10 := lt_of_block hM10; (try clear kM9); have hJ10 := (hbi.block _ (lt_of_block hJ9)).trans hJ9; have kJ10 := blk_cell hJ10; have lJ10 := lt_of_block hJ10; (try clear kJ9)
              have hb610 := hb69.trans (hbi.mono (by omega))
              have hmm : hasP m X Y = (one && two) := by rw [← HM.out, meet_has IA.out IB.out, H1.out, H2.out]
              have hjj : (one || two) = true → hasP j X Y = true := by
                intro h
                rw [← HJ.out]
                exact join_has IA.out IB.out X Y (by rw [H1.out, H2.out]; exact h)
              have hha : has a X Y = one := by rw [has_hasP IA.out, H1.out]
              have hst := (HI.out.step (x := X) (y := Y) (by omega) (by omega)).congr (fun p q => vis_next (by omega) (by omega) p q)
              rw [H1.out, H2.out] at hst
              have hmb : Bd m := HM.out ▸ meet_bd IA.out IB.out
              have hjb : Bd j := HJ.out ▸ join_bd IA.out IB.out
              have HST := Go.Lib.hid hst
              have HBM := Go.Lib.hid hmb
              have HBJ := Go.Lib.hid hjb
              have HMM := Go.Lib.hid hmm
              have HJJ := Go.Lib.hid hjj
              have HHA := Go.Lib.hid hha
              clear hst hmb hjb hmm hjj hha HI H1 H2
              have hs10 := hbi.size
              cases one <;> cases two
              all_goals
                simp at hN
                subst hN
                go_wp2_with fail
                refine (lhas_bd HMM.out HBM.out _).mono ?_
                rintro e w11 ⟨rfl, hb11⟩
                have hs11 := hb11.size
                simp only [Bool.and_self, Bool.and_true, Bool.and_false, Bool.true_and, Bool.false_and]
                have hA11 := (hb11.block _ (lt_of_block hA10)).trans hA10; have kA11 := blk_cell hA11; have lA11 := lt_of_block hA11; (try clear kA10); have hB11 := (hb11.block _ (lt_of_block hB10)).trans hB10; have kB11 := blk_cell hB11; have lB11 := lt_of_block hB11; (try clear kB10); have hM11 := (hb11.block _ (lt_of_block hM10)).trans hM10; have kM11 := blk_cell hM11; have lM11 := lt_of_block hM11; (try clear kM10); have hJ11 := (hb11.block _ (lt_of_block hJ10)).trans hJ10; have kJ11 := blk_cell hJ11; have lJ11 := lt_of_block hJ11; (try clear kJ10)
                have hb611 := hb610.trans (hb11.mono (by omega))
                go_wp2_with fail
                try
                  refine (lhas_bd (HJJ.out rfl) HBJ.out _).mono ?_
                  rintro e w12 ⟨rfl, hb12⟩
                  have hs12 := hb12.size
                  have hA12 := (hb12.block _ (lt_of_block hA11)).trans hA11
                  have kA12 := blk_cell hA12
                  have lA12 := lt_of_block hA12
                  have hb612 := hb611.trans (hb12.mono (by omega))
                  go_wp2_with fail
                refine (has_is4 HHA.out _).mono ?_
                rintro e w13 ⟨rfl, hb13⟩
                have hs13 := hb13.size
                have hb613 : Below w6.heap.size w6 w13 := by first | exact hb612.trans (hb13.mono (by omega)) | exact hb611.trans (hb13.mono (by omega))
                go_wp2
                all_goals
                  go_roundw
                  case rel => exact ⟨s.step X Y _ _, X + 1, by omega, by omega, by simp [PSt.step, *], by simp [PSt.step, *], by simp [PSt.step, *], by simp [PSt.step], by simp [PSt.step], by simp [PSt.step], by simp [PSt.step], by go_num, HST, hb613⟩
                  case measure => simp [intOf]; omega
        · have hXe : X = 34 := by omega
          subst hXe
          have HI2 := Go.Lib.hid (HI.out.congr (fun p q => vis_row p q (by omega)))
          clear HI
          go_wp2
          go_roundw
          case rel => exact ⟨s, Y + 1, by omega, by omega, rfl, rfl, rfl, rfl, rfl, rfl, rfl, rfl, HI2, hbx⟩
          case measure => simp [intOf]; omega
    · have hYe : Y = 34 := by omega
      subst hYe
      have HO := Go.Lib.hid (places_over IA.out IB.out HI.out)
      have HO2 := Go.Lib.hid (places_over' IA.out IB.out HI.out)
      have HIn := Go.Lib.hid (places_in IA.out IB.out HI.out)
      have hj := places_join IA.out IB.out HI.out
      rw [HJ.out] at hj
      have hbnd := HI.out.bnd
      have hmc := meet_comm a b
      rw [HM.out] at hmc
      have HMC := Go.Lib.hid hmc
      obtain ⟨an, al, ov, le, ri, ab, be⟩ := s
      simp only at hbnd
      clear HI hmc
      cases an
      · simp only [Bool.false_eq_true, if_false] at hj
        subst hj
        go_wp2
        refine region_ext mixed (by kernel_rfl) ?_
        repeat (go_big_quiet_step (first | (go_at_call 40; exact in_ext (r_any _ _ _ _ _))))
        refine wpQuiet_nil ?_
        intro w14 hb14
        have hs14 := hb14.size
        have hA14 := (hb14.block _ (lt_of_block hA7)).trans hA7; have kA14 := blk_cell hA14; have lA14 := lt_of_block hA14; (try clear kA7); have hB14 := (hb14.block _ (lt_of_block hB7)).trans hB7; have kB14 := blk_cell hB14; have lB14 := lt_of_block hB14; (try clear kB7); have hM14 := (hb14.block _ (lt_of_block hM7)).trans hM7; have kM14 := blk_cell hM14; have lM14 := lt_of_block hM14; (try clear kM7); have hJ14 := (hb14.block _ (lt_of_block hJ7)).trans hJ7; have kJ14 := blk_cell hJ14; have lJ14 := lt_of_block hJ14; (try clear kJ7)
        go_wp2
        refine region_ext mixed (by kernel_rfl) ?_
        repeat (go_big_quiet_step (first | (go_at_call 33; first | with_reducible exact in_ext (over_is4 HO.out _) | with_reducible exact in_ext (over_is4 HO2.out _)) | (go_at_call 31; exact in_ext (in_is2 HIn.out _)) | (go_at_call 35; exact in_ext (meet_is3 HMC.out _))))
        refine wpQuiet_nil ?_
        intro w15 hb15
        go_wp2
        go_ret
        exact ⟨rfl, (((hb06.trans (hbr.mono (by have := hb06.size; omega))).trans (hb14.mono (by have := hb06.size; omega))).trans (hb15.mono (by have := hb06.size; omega)))⟩
      · simp only [if_true] at hj
        subst hj
        go_wp2
        refine region_ext mixed (by kernel_rfl) ?_
        repeat (go_big_quiet_step (first | (go_at_call 40; exact in_ext (r_any _ _ _ _ _))))
        refine wpQuiet_nil ?_
        intro w14 hb14
        have hs14 := hb14.size
        have hA14 := (hb14.block _ (lt_of_block hA7)).trans hA7; have kA14 := blk_cell hA14; have lA14 := lt_of_block hA14; (try clear kA7); have hB14 := (hb14.block _ (lt_of_block hB7)).trans hB7; have kB14 := blk_cell hB14; have lB14 := lt_of_block hB14; (try clear kB7); have hM14 := (hb14.block _ (lt_of_block hM7)).trans hM7; have kM14 := blk_cell hM14; have lM14 := lt_of_block hM14; (try clear kM7); have hJ14 := (hb14.block _ (lt_of_block hJ7)).trans hJ7; have kJ14 := blk_cell hJ14; have lJ14 := lt_of_block hJ14; (try clear kJ7)
        go_wp2
        refine region_ext mixed (by kernel_rfl) ?_
        repeat (go_big_quiet_step (first | (go_at_call 33; first | with_reducible exact in_ext (over_is4 HO.out _) | with_reducible exact in_ext (over_is4 HO2.out _)) | (go_at_call 31; exact in_ext (in_is2 HIn.out _)) | (go_at_call 35; exact in_ext (meet_is3 HMC.out _))))
        refine wpQuiet_nil ?_
        intro w15 hb15
        go_wp2
        go_ret
        exact ⟨rfl, (((hb06.trans (hbr.mono (by have := hb06.size; omega))).trans (hb14.mono (by have := hb06.size; omega))).trans (hb15.mono (by have := hb06.size; omega)))⟩
theorem walkGeomPlaces (p0 p1 p2 p3 : Int) (hp0 : -128 ≤ p0 ∧ p0 ≤ 127) (hp1 : -128 ≤ p1 ∧ p1 ≤ 127) (hp2 : -128 ≤ p2 ∧ p2 ≤ 127) (hp3 : -128 ≤ p3 ∧ p3 ≤ 127)
    (q0 q1 q2 q3 : Int) (hq0 : -128 ≤ q0 ∧ q0 ≤ 127) (hq1 : -128 ≤ q1 ∧ q1 ≤ 127) (hq2 : -128 ≤ q2 ∧ q2 ≤ 127) (hq3 : -128 ≤ q3 ∧ q3 ≤ 127) (w : World) :
    Calls Try.prog 7 #[.agg #[.int .i8 p0, .int .i8 p1, .int .i8 p2, .int .i8 p3], .agg #[.int .i8 q0, .int .i8 q1, .int .i8 q2, .int .i8 q3]] w fun e w' => e = .returned (.bool true) ∧ Below w.heap.size w w' :=
  places_walk p0 p1 p2 p3 q0 q1 q2 q3 hp0 hp1 hp2 hp3 hq0 hq1 hq2 hq3 w
end Go.Proofs.Ytoinjoihkodkeaa
