/- Layer 9: the law LeastMore. (Printed by least/gen_m.py.) -/
import Derived.Test.YthannibclhidcaaLeW
namespace Go.Proofs.Ythannibclhidcaa
set_option linter.unusedVariables false
set_option linter.unusedSimpArgs false
open Go.RowKit
attribute [local go_sem] max_fold min_fold

theorem top_bd {n : Int} {L : List T3} {most : Int} (h : topE n L most = 0) : 0 ≤ most ∧ most ≤ 1099511627776 := by
  obtain ⟨m, _, _, _, h, _⟩ := top_is h
  exact h
theorem top_len {n : Int} {L : List T3} {most : Int} (h : topE n L most = 0) : (topR n L most).length = n.toNat ∧ 0 ≤ n := by
  obtain ⟨m, rfl, _, _, _, h⟩ := top_is h
  exact ⟨h.len, by omega⟩
theorem solve_len {n : Int} {L : List T3} (h : solveE n L = 0) : (solveR n L).length = n.toNat ∧ 0 ≤ n := by
  obtain ⟨m, rfl, _, _, _, h⟩ := solve_below h
  exact ⟨h.len, by omega⟩

set_option maxRecDepth 100000 in
set_option maxHeartbeats 16000000 in
theorem walkLeastMore (w : World) (n : Int) (hx : (Lit.int .i64 n).wf = true) (A : Option Addr) (c : Nat) (L : List T3) (hA : At w.heap.size w A (t3s L)) (hnil : A = none → L.length = 0 ∧ c = 0) (hlc : L.length ≤ c) (hcm : c ≤ maxLen) (b : T3) (_ : (Lit.int .i64 b.p).wf = true) (_ : (Lit.int .i64 b.q).wf = true) (_ : (Lit.int .i64 b.r).wf = true) (most : Int) (_ : (Lit.int .i64 most).wf = true) :
    Calls Try.prog 12 #[.int .i64 n, .slice A L.length c, .agg #[.int .i64 b.p, .int .i64 b.q, .int .i64 b.r], .int .i64 most] w fun e w' => e = .returned (.bool true) ∧ Below w.heap.size w w' := by
  have hlen : L.length ≤ 9223372036854775807 := by unfold maxLen at hcm; omega
  have hbx := (Below.refl w.heap.size w).alloc (Nat.le_refl _) (Obj.cells #[.int .i64 b.p, .int .i64 b.q, .int .i64 b.r] 54)
  have hs0 := hbx.size
  by_cases hbig : 200 < n
  · go_enter Try.func12, Try.ntmps12
    go_wp2_with fail
    refine (awake_any _).mono ?_
    rintro e w1 ⟨rfl, hb1⟩
    go_wp2
    go_ret
    exact ⟨rfl, hbx.trans (hb1.mono hs0)⟩
  · by_cases hbig2 : 400 < L.length
    · have hb2 : (400 : Int) < (L.length : Int) := by omega
      clear hbig2
      go_enter Try.func12, Try.ntmps12
      go_wp2_with fail
      refine (awake_any _).mono ?_
      rintro e w1 ⟨rfl, hb1⟩
      go_wp2
      go_ret
      exact ⟨rfl, hbx.trans (hb1.mono hs0)⟩
    · have hb2 : ¬ (400 : Int) < (L.length : Int) := by omega
      have hl4 : L.length ≤ 400 := by omega
      have HSV := Go.Lib.hid fun (B : Nat) (A : Option Addr) (c : Nat) (w : World) h1 h2 => Solve_any B A c n L w h1 h2 (by omega)
      have HSV2 := Go.Lib.hid fun (B : Nat) (A : Option Addr) (c : Nat) (w : World) (h1 : At B w A (t3s (L ++ [b]))) h2 => Solve_any B A c n (L ++ [b]) w h1 h2 (by simp; omega)
      have HSV3 := Go.Lib.hid fun (B : Nat) (A : Option Addr) (c : Nat) (w : World) (h1 : At B w A (t3s (turnL L))) h2 => Solve_any B A c n (turnL L) w h1 h2 (by rw [turnL_len]; omega)
      have HTO := Go.Lib.hid fun (B : Nat) (A : Option Addr) (c : Nat) (w : World) h1 h2 => Most_any B A c n L most w h1 h2 (by omega)
      rw [turnL_len] at HSV3
      have h1 := @solve_more n L b
      have h2 := solve_turn n L
      have h3 := @top_turn n L most
      have h4 := @top_bd n L most
      have h5 := @top_len n L most
      have h6 := @solve_len n L
      have h7 := @solve_len n (L ++ [b])
      have h8 := @solve_len n (turnL L)
      have h9 := @solve_vals_bd n (turnL L)
      have hmore : (L ++ [b]).length = L.length + 1 := by simp
      rw [hmore] at HSV2
      generalize solveR n L = S at *
      generalize solveE n L = F at *
      generalize solveR n (L ++ [b]) = S2 at *
      generalize solveE n (L ++ [b]) = F2 at *
      generalize solveR n (turnL L) = S3 at *
      generalize solveE n (turnL L) = F3 at *
      generalize topR n L most = S4 at *
      generalize topE n L most = F4 at *
      have HS1 := Go.Lib.hid h1
      have HT1 := Go.Lib.hid h2
      have HT2 := Go.Lib.hid h3
      have HMB := Go.Lib.hid h4
      have HL4 := Go.Lib.hid h5
      have HL1 := Go.Lib.hid h6
      have HL2 := Go.Lib.hid h7
      have HL3 := Go.Lib.hid h8
      have HV3 := Go.Lib.hid h9
      have HNIL := Go.Lib.hid hnil
      obtain ⟨i0, hi, hz0, hz1, hz2⟩ := info_parts info_bound
      obtain ⟨len, hlen2⟩ : ∃ len, L.length = len := ⟨_, rfl⟩
      have HM := Go.Lib.hid hlen2
      have hal := alloc_at w (Obj.cells #[.int .i64 b.p, .int .i64 b.q, .int .i64 b.r] 54)
      have HAL := Go.Lib.hid hal
      have HA := Go.Lib.hid (hA.ext hbx)
      rw [hlen2] at HSV HSV2 HSV3 HTO hl4 hb2 ⊢
      obtain ⟨bp, bq, br⟩ := b
      simp only at HAL hbx hs0 HA ⊢
      clear h1 h2 h3 h4 h5 h6 h7 h8 h9 hmore hbig2 hlen hlc hcm hx hnil hlen2 hal hA
      go_enter Try.func12, Try.ntmps12
      go_wp2_with fail
      refine (awake_any _).mono ?_
      rintro e w1 ⟨rfl, hb1⟩
      have HK := Go.Lib.hid ((hb1.block _ (blk_lt2 HAL.out)).trans HAL.out)
      have HA1 := Go.Lib.hid (HA.out.ext hb1)
      have hbw1 := hbx.trans (hb1.mono hs0)
      have hs1 := hbw1.size
      clear HA HAL hbx hb1
      go_wp2_with (first | (at_builtin; refine append_many Try.underlying43 hi hz0 hz1 hz2 rfl (by decide) rfl (.tmp 33) (.tmp 34) rfl w1.heap.size (.slice none 0 0) 0 [] A len c w.heap.size (t3s L) rfl rfl (HM.out ▸ HNIL.out) (World.ownsRow_nil _ _ _ _) HA1.out (HM.out ▸ t3s_len L) (t3s_one L) ?_ ?_ (Nat.le_refl _) ?_))
      · unfold maxLen; omega
      · omega
      intro v2 w2 hown2 hg2
      have hb2' := (Below.refl w1.heap.size w1).grown hg2 (Nat.le_refl _) (fun k hk => by cases hk)
      have hs2 := hb2'.size
      replace hown2 : w2.ownsRow w1.heap.size 54 3 v2 len (t3s L) := by simpa using hown2
      have HK2 := (hb2'.block _ (blk_lt2 HK.out)).trans HK.out
      have q0 := blk_cell HK2 0
      have q1 := blk_cell HK2 1
      have q2 := blk_cell HK2 2
      simp at q0 q1 q2
      replace hown2 : w2.ownsRow w1.heap.size 54 3 v2 L.length (t3s L) := by rw [HM.out]; exact hown2
      go_wp2_with (first | (at_builtin; refine append_bound rfl (.tmp 36) (.tmp 38) rfl w1.heap.size _ L ⟨bp, bq, br⟩ w2.heap.size rfl rfl (hown2.alloc _) (by simp [go_sem]) (by simp [go_sem]) (by simp [go_sem]) ?_ ?_ ?_))
      · have := HM.out; omega
      · first | omega | (simp; omega)
      intro v3 w3 hown3 hg3 _
      have hb3 := (hb2'.alloc hs2 (.cells #[.int .i64 bp, .int .i64 bq, .int .i64 br] 54)).grown hg3 (by simp; omega) (own_ge hown2)
      have hown3' : w3.ownsRow w1.heap.size 54 3 v3 (len + 1) (t3s (L ++ [⟨bp, bq, br⟩])) := own_len hown3 (by simp; exact HM.out)
      obtain ⟨A3, c3, rfl⟩ := own_shape hown3'
      have HM3 := Go.Lib.hid (At.of_own hown3')
      have HA3 := Go.Lib.hid (HA1.out.ext hb3)
      have hbw3 := hbw1.trans (hb3.mono hs1)
      clear hown3 hg3 hown2 hg2 hb2' hs2 HK HK2 HA1 q0 q1 q2 hb3 hown3'
      go_wp2_with fail
      refine (HSV.out _ _ _ _ HA3.out hbw3.size).mono ?_
      rintro e w4 ⟨A4, c4, rfl, hown4, hb4⟩
      have hbw4 := hbw3.trans (hb4.mono hbw3.size)
      go_wp2_with fail
      refine (HSV2.out _ _ _ _ (HM3.out.ext hb4) hb4.size).mono ?_
      rintro e w5 ⟨A5, c5, rfl, hown5, hb5⟩
      have hbw5 := hbw4.trans (hb5.mono hbw4.size)
      have HX := Go.Lib.hid (own_below' hown4 hb5)
      have HY := Go.Lib.hid hown5
      have HA5 := Go.Lib.hid ((HA3.out.ext hb4).ext hb5)
      have HB5 := Go.Lib.hid hbw5
      have HS5 := Go.Lib.hid hbw5.size
      clear hown4 hown5 HM3 HA3 HSV HSV2 hb4 hb5 hbw1 hbw3 hbw4 hbw5 hs0 hs1
      by_cases hF2 : F2 = 0
      · subst hF2
        obtain ⟨hF, hle⟩ := HS1.out rfl
        obtain ⟨hlx, hn0⟩ := HL1.out hF
        obtain ⟨hly, _⟩ := HL2.out rfl
        have HLE := Go.Lib.hid hle
        have hF' : (F != 0) = false := by simpa using hF
        have HFZ := Go.Lib.hid hF
        clear hle hF
        go_wp2
        go_loopw [15] (fun i_ wq => ∃ i : Nat, (i : Int) ≤ n ∧ i_ = .int .i64 i ∧ Below w5.heap.size w5 wq) (fun i_ _ => n.toNat - (intOf i_).toNat)
        case atStart => exact ⟨0, hn0, rfl, Below.refl _ _⟩
        case round =>
          obtain ⟨i, hi2, rfl, hbr⟩ := hrel
          by_cases hin : (i : Int) < n
          · obtain ⟨ga, rfl, _, _, hca⟩ := cell_row (own_below' HX.out hbr) rfl (i := i) (by omega)
            obtain ⟨gb, rfl, _, _, hcb⟩ := cell_row (own_below' HY.out hbr) rfl (i := i) (by omega)
            have x1 := hca i (by omega)
            have x2 := hcb i (by omega)
            have l1 := World.block_lt_of_cell? _ _ x1
            have l2 := World.block_lt_of_cell? _ _ x2
            have he := HLE.out i hin
            have ha : i < S.length := by omega
            have hb' : i < S2.length := by omega
            clear hca hcb
            generalize S.getD i 0 = x at *
            generalize S2.getD i 0 = y at *
            have hno : decide (y < x) = false := decide_eq_false (by omega)
            go_wp2
            refine region_ext mixed (by kernel_rfl) ?_
            repeat (go_big_quiet_step (fail))
            refine wpQuiet_nil ?_
            intro w10 hb10
            go_wp2
            exact ⟨⟨i + 1, by omega, by go_num, hbr.trans (hb10.mono hbr.size)⟩, by simp [intOf]; omega⟩
          · clear hlx hly hi2 HLE
            clear HS1
            go_wp2
            go_loopw [16, 17] (fun t_ i_ wq => ∃ (k : Nat) (A' : Option Addr) (c' : Nat), k ≤ len ∧ i_ = .int .i64 k ∧ t_ = .slice A' k c' ∧ Hid (wq.ownsRow w5.heap.size 54 3 (.slice A' k c') k (t3s (turnL (L.take k)))) ∧ Below w5.heap.size w5 wq) (fun _ i_ _ => len - (intOf i_).toNat)
            case atStart => exact ⟨0, none, 0, by omega, rfl, rfl, Go.Lib.hid (World.ownsRow_nil _ _ _ _), hbr⟩
            case round =>
              clear hbr
              obtain ⟨k, A', c', hk, rfl, rfl, HOW, hbr⟩ := hrel
              have hsr := hbr.size
              by_cases hlt : k < len
              · have hli : (k : Int) < (len : Int) := by omega
                have hkL : k < L.length := by have := HM.out; omega
                obtain ⟨g, o, rfl, hg, c0, c1, c2⟩ := (HA5.out.ext hbr).t3 hkL
                have HTT := Go.Lib.hid (turn_take L k hkL)
                have hlm' : (turnL (L.take k)).length = k := by rw [turnL_len, List.length_take]; omega
                have lg := World.block_lt_of_cell? _ _ c0
                generalize L[k] = b' at *
                obtain ⟨bp', bq', br'⟩ := b'
                simp only at c0 c1 c2
                generalize turnL (L.take k) = M at *
                subst hlm'
                go_wp2
                (apply region_make1 (Good := NewCells wr (fun b => .slice (some ⟨b, 0, none⟩) 1 1) #[.int .i64 bq', .int .i64 bp', .int .i64 br'] 54) (W := wr) 18 17 mixed rfl rfl (by kernel_rfl) (by decide) NewCells.mono; (focus (intro V hV; have hsV := hV.size; obtain ⟨hcV, hfV⟩ := bcell hV; have zV_0 : g < V.heap.size := (by omega); have yV_0 : g < V.heap.size + 1 := (by omega); simp only [List.length_cons, List.length_nil, Nat.reduceAdd, Nat.reduceSub, List.take_succ_cons, List.take_zero, List.drop_succ_cons, List.drop_zero, List.cons_append, List.nil_append, List.append_nil]; (repeat (go_big_quiet_step (fail))); exact wpQuiet_nil rfl)); (focus (exact makes_new fun w => by simp [go_sem])); rintro v w6 ⟨b6, hge6, hlt6, hblk6, rfl⟩ hb6; have hs6 := hb6.size; obtain ⟨hc6, hf6⟩ := bcell hb6; have hk6 := blk_cell hblk6; have hl6 := blk_frozen hblk6; have zw6_0 : g < w6.heap.size := (by omega); have yw6_0 : g < w6.heap.size + 1 := (by omega); simp only [List.length_cons, List.length_nil, Nat.reduceAdd, Nat.reduceSub, List.take_succ_cons, List.take_zero, List.drop_succ_cons, List.drop_zero, List.cons_append, List.nil_append, List.append_nil])
                have HO3 := Go.Lib.hid (own_below' HOW.out hb6)
                have hbr3 := hbr.trans (hb6.mono hsr)
                have hsr3 := hbr3.size
                have e0 := hk6 0
                have e1 := hk6 1
                have e2 := hk6 2
                simp at e0 e1 e2
                clear HOW c0 c1 c2 lg hbr hb6 hc6 hf6 hk6 hl6 hblk6
                go_wp2_with (first | (at_builtin; refine append_bound rfl (.tmp 82) (.tmp 99) rfl w5.heap.size _ M ⟨bq', bp', br'⟩ b6 rfl rfl HO3.out e0 e1 e2 ?_ ?_ ?_))
                · omega
                · (try simp); omega
                intro v2 w7 hown4 hg4 _
                obtain ⟨A2, c2, rfl⟩ := own_shape hown4
                have hb4 : Below w5.heap.size w5 w7 := hbr3.grown hg4 hsr3 (own_ge HO3.out)
                have HO4 := Go.Lib.hid hown4
                clear hg4 HO3 hown4
                go_wp2
                refine ⟨⟨M.length + 1, A2, c2, by omega, by go_num, by first | rfl | (rw [List.length_append]; rfl), Go.Lib.hid ?_, hb4⟩, by simp [intOf]; omega⟩
                rw [HTT.out]
                first | exact HO4.out | (have := HO4.out; rw [List.length_append] at this; exact this)
              · have hlt' : ¬ ((k : Int) < (len : Int)) := by omega
                have hkl : k = L.length := by have := HM.out; omega
                have hown : wr.ownsRow w5.heap.size 54 3 (.slice A' k c') k (t3s (turnL L)) := by
                  have := HOW.out
                  rwa [show L.take k = L by rw [hkl, List.take_length]] at this
                have HC2 := HSV3.out wr.heap.size A' c' wr (At.of_own hown) (Nat.le_refl _)
                rw [show len = k by have := HM.out; omega] at HC2
                have HC3 := Go.Lib.hid HC2
                have hbw := HB5.out.trans (hbr.mono HS5.out)
                have hsw := hbw.size
                clear HOW hown HC2 HSV3 hkl
                go_wp2_with fail
                refine HC3.out.mono ?_
                rintro e w8 ⟨A8, c8, rfl, hown8, hb8⟩
                have hb58 := hbr.trans (hb8.mono hsr)
                have hbw8 := hbw.trans (hb8.mono hsw)
                clear HC3
                go_wp2_with fail
                refine (HTO.out _ _ _ _ (HA5.out.ext hb58) (Nat.le_trans HS5.out hb58.size)).mono ?_
                rintro e w9 ⟨A9, c9, rfl, hown9, hb9⟩
                have hbw9 := hbw8.trans (hb9.mono hbw8.size)
                have HO8 := Go.Lib.hid (own_below' hown8 hb9)
                have HO9 := Go.Lib.hid hown9
                clear hown8 hown9 hb8 hb9 hbr hb58 hbw hbw8
                by_cases hF3 : F3 = 0
                · have hF := HT1.out.1 hF3
                  subst hF3
                  subst hF
                  by_cases hF4 : F4 = 0
                  · subst hF4
                    obtain ⟨hl8, hn0⟩ := HL3.out rfl
                    obtain ⟨hl9, _⟩ := HL4.out rfl
                    have hmb := HMB.out rfl
                    have HEQ := Go.Lib.hid (HT2.out rfl)
                    have HVB := Go.Lib.hid (HV3.out rfl)
                    go_wp2
                    go_loopw [22] (fun i_ wq => ∃ i : Nat, (i : Int) ≤ n ∧ i_ = .int .i64 i ∧ Below w9.heap.size w9 wq) (fun i_ _ => n.toNat - (intOf i_).toNat)
                    case atStart => exact ⟨0, hn0, rfl, Below.refl _ _⟩
                    case round =>
                      obtain ⟨i, hi, rfl, hbi⟩ := hrel
                      by_cases hin : (i : Int) < n
                      · obtain ⟨ga, rfl, _, _, hca⟩ := cell_row (own_below' HO8.out hbi) rfl (i := i) (by omega)
                        obtain ⟨gb, rfl, _, _, hcb⟩ := cell_row (own_below' HO9.out hbi) rfl (i := i) (by omega)
                        have x1 := hca i (by omega)
                        have x2 := hcb i (by omega)
                        have l1 := World.block_lt_of_cell? _ _ x1
                        have l2 := World.block_lt_of_cell? _ _ x2
                        have he := HEQ.out i hin
                        have hvb := HVB.out i
                        have ha : i < S3.length := by omega
                        have hb' : i < S4.length := by omega
                        rw [he] at x2
                        clear hca hcb he
                        generalize S3.getD i 0 = z at *
                        have hne : ((most - z) != (most - z)) = false := by simp
                        go_wp2
                        refine region_ext mixed (by kernel_rfl) ?_
                        repeat (go_big_quiet_step (fail))
                        refine wpQuiet_nil ?_
                        intro w10 hb10
                        go_wp2
                        exact ⟨⟨i + 1, by omega, by go_num, hbi.trans (hb10.mono hbi.size)⟩, by simp [intOf]; omega⟩
                      · go_wp2
                        go_ret
                        exact ⟨rfl, hbw9.trans (hbi.mono hbw9.size)⟩
                  · have hF4' : (F4 == 0) = false := by rw [beq_eq_false_iff_ne]; exact hF4
                    by_cases hn0 : 0 < n
                    · go_wp2
                      go_loopw [22] (fun i_ wq => i_ = .int .i64 0 ∧ wq = w9) (fun _ _ => 0)
                      case atStart => exact ⟨rfl, rfl⟩
                      case round =>
                        obtain ⟨rfl, rfl⟩ := hrel
                        go_wp2
                        go_ret
                        exact ⟨rfl, hbw9⟩
                    · go_wp2
                      go_loopw [22] (fun i_ wq => i_ = .int .i64 0 ∧ wq = w9) (fun _ _ => 0)
                      case atStart => exact ⟨rfl, rfl⟩
                      case round =>
                        obtain ⟨rfl, rfl⟩ := hrel
                        go_wp2
                        go_ret
                        exact ⟨rfl, hbw9⟩
                · have hF : F ≠ 0 := fun h => hF3 (HT1.out.2 h)
                  have hF3' : (F3 == 0) = false := by rw [beq_eq_false_iff_ne]; exact hF3
                  have hF' : (F == 0) = false := by rw [beq_eq_false_iff_ne]; exact hF
                  by_cases hn0 : 0 < n
                  · go_wp2
                    go_loopw [22] (fun i_ wq => i_ = .int .i64 0 ∧ wq = w9) (fun _ _ => 0)
                    case atStart => exact ⟨rfl, rfl⟩
                    case round =>
                      obtain ⟨rfl, rfl⟩ := hrel
                      go_wp2
                      try (go_ret; exact ⟨rfl, hbw9⟩)
                  · go_wp2
                    go_loopw [22] (fun i_ wq => i_ = .int .i64 0 ∧ wq = w9) (fun _ _ => 0)
                    case atStart => exact ⟨rfl, rfl⟩
                    case round =>
                      obtain ⟨rfl, rfl⟩ := hrel
                      go_wp2
                      try (go_ret; exact ⟨rfl, hbw9⟩)
      · have hF2' : (F2 == 0) = false := by rw [beq_eq_false_iff_ne]; exact hF2
        go_wp2
        go_loopw [15] (fun i_ wq => i_ = .int .i64 0 ∧ Below w5.heap.size w5 wq) (fun _ _ => 0)
        case atStart => exact ⟨rfl, Below.refl _ _⟩
        case round =>
          obtain ⟨rfl, hbr⟩ := hrel
          by_cases hn1 : 0 < n
          · skip
            clear HS1
            go_wp2
            go_loopw [16, 17] (fun t_ i_ wq => ∃ (k : Nat) (A' : Option Addr) (c' : Nat), k ≤ len ∧ i_ = .int .i64 k ∧ t_ = .slice A' k c' ∧ Hid (wq.ownsRow w5.heap.size 54 3 (.slice A' k c') k (t3s (turnL (L.take k)))) ∧ Below w5.heap.size w5 wq) (fun _ i_ _ => len - (intOf i_).toNat)
            case atStart => exact ⟨0, none, 0, by omega, rfl, rfl, Go.Lib.hid (World.ownsRow_nil _ _ _ _), hbr⟩
            case round =>
              clear hbr
              obtain ⟨k, A', c', hk, rfl, rfl, HOW, hbr⟩ := hrel
              have hsr := hbr.size
              by_cases hlt : k < len
              · have hli : (k : Int) < (len : Int) := by omega
                have hkL : k < L.length := by have := HM.out; omega
                obtain ⟨g, o, rfl, hg, c0, c1, c2⟩ := (HA5.out.ext hbr).t3 hkL
                have HTT := Go.Lib.hid (turn_take L k hkL)
                have hlm' : (turnL (L.take k)).length = k := by rw [turnL_len, List.length_take]; omega
                have lg := World.block_lt_of_cell? _ _ c0
                generalize L[k] = b' at *
                obtain ⟨bp', bq', br'⟩ := b'
                simp only at c0 c1 c2
                generalize turnL (L.take k) = M at *
                subst hlm'
                go_wp2
                (apply region_make1 (Good := NewCells wr (fun b => .slice (some ⟨b, 0, none⟩) 1 1) #[.int .i64 bq', .int .i64 bp', .int .i64 br'] 54) (W := wr) 18 17 mixed rfl rfl (by kernel_rfl) (by decide) NewCells.mono; (focus (intro V hV; have hsV := hV.size; obtain ⟨hcV, hfV⟩ := bcell hV; have zV_0 : g < V.heap.size := (by omega); have yV_0 : g < V.heap.size + 1 := (by omega); simp only [List.length_cons, List.length_nil, Nat.reduceAdd, Nat.reduceSub, List.take_succ_cons, List.take_zero, List.drop_succ_cons, List.drop_zero, List.cons_append, List.nil_append, List.append_nil]; (repeat (go_big_quiet_step (fail))); exact wpQuiet_nil rfl)); (focus (exact makes_new fun w => by simp [go_sem])); rintro v w6 ⟨b6, hge6, hlt6, hblk6, rfl⟩ hb6; have hs6 := hb6.size; obtain ⟨hc6, hf6⟩ := bcell hb6; have hk6 := blk_cell hblk6; have hl6 := blk_frozen hblk6; have zw6_0 : g < w6.heap.size := (by omega); have yw6_0 : g < w6.heap.size + 1 := (by omega); simp only [List.length_cons, List.length_nil, Nat.reduceAdd, Nat.reduceSub, List.take_succ_cons, List.take_zero, List.drop_succ_cons, List.drop_zero, List.cons_append, List.nil_append, List.append_nil])
                have HO3 := Go.Lib.hid (own_below' HOW.out hb6)
                have hbr3 := hbr.trans (hb6.mono hsr)
                have hsr3 := hbr3.size
                have e0 := hk6 0
                have e1 := hk6 1
                have e2 := hk6 2
                simp at e0 e1 e2
                clear HOW c0 c1 c2 lg hbr hb6 hc6 hf6 hk6 hl6 hblk6
                go_wp2_with (first | (at_builtin; refine append_bound rfl (.tmp 82) (.tmp 99) rfl w5.heap.size _ M ⟨bq', bp', br'⟩ b6 rfl rfl HO3.out e0 e1 e2 ?_ ?_ ?_))
                · omega
                · (try simp); omega
                intro v2 w7 hown4 hg4 _
                obtain ⟨A2, c2, rfl⟩ := own_shape hown4
                have hb4 : Below w5.heap.size w5 w7 := hbr3.grown hg4 hsr3 (own_ge HO3.out)
                have HO4 := Go.Lib.hid hown4
                clear hg4 HO3 hown4
                go_wp2
                refine ⟨⟨M.length + 1, A2, c2, by omega, by go_num, by first | rfl | (rw [List.length_append]; rfl), Go.Lib.hid ?_, hb4⟩, by simp [intOf]; omega⟩
                rw [HTT.out]
                first | exact HO4.out | (have := HO4.out; rw [List.length_append] at this; exact this)
              · have hlt' : ¬ ((k : Int) < (len : Int)) := by omega
                have hkl : k = L.length := by have := HM.out; omega
                have hown : wr.ownsRow w5.heap.size 54 3 (.slice A' k c') k (t3s (turnL L)) := by
                  have := HOW.out
                  rwa [show L.take k = L by rw [hkl, List.take_length]] at this
                have HC2 := HSV3.out wr.heap.size A' c' wr (At.of_own hown) (Nat.le_refl _)
                rw [show len = k by have := HM.out; omega] at HC2
                have HC3 := Go.Lib.hid HC2
                have hbw := HB5.out.trans (hbr.mono HS5.out)
                have hsw := hbw.size
                clear HOW hown HC2 HSV3 hkl
                go_wp2_with fail
                refine HC3.out.mono ?_
                rintro e w8 ⟨A8, c8, rfl, hown8, hb8⟩
                have hb58 := hbr.trans (hb8.mono hsr)
                have hbw8 := hbw.trans (hb8.mono hsw)
                clear HC3
                go_wp2_with fail
                refine (HTO.out _ _ _ _ (HA5.out.ext hb58) (Nat.le_trans HS5.out hb58.size)).mono ?_
                rintro e w9 ⟨A9, c9, rfl, hown9, hb9⟩
                have hbw9 := hbw8.trans (hb9.mono hbw8.size)
                have HO8 := Go.Lib.hid (own_below' hown8 hb9)
                have HO9 := Go.Lib.hid hown9
                clear hown8 hown9 hb8 hb9 hbr hb58 hbw hbw8
                by_cases hF3 : F3 = 0
                · have hF := HT1.out.1 hF3
                  subst hF3
                  subst hF
                  by_cases hF4 : F4 = 0
                  · subst hF4
                    obtain ⟨hl8, hn0⟩ := HL3.out rfl
                    obtain ⟨hl9, _⟩ := HL4.out rfl
                    have hmb := HMB.out rfl
                    have HEQ := Go.Lib.hid (HT2.out rfl)
                    have HVB := Go.Lib.hid (HV3.out rfl)
                    go_wp2
                    go_loopw [22] (fun i_ wq => ∃ i : Nat, (i : Int) ≤ n ∧ i_ = .int .i64 i ∧ Below w9.heap.size w9 wq) (fun i_ _ => n.toNat - (intOf i_).toNat)
                    case atStart => exact ⟨0, hn0, rfl, Below.refl _ _⟩
                    case round =>
                      obtain ⟨i, hi, rfl, hbi⟩ := hrel
                      by_cases hin : (i : Int) < n
                      · obtain ⟨ga, rfl, _, _, hca⟩ := cell_row (own_below' HO8.out hbi) rfl (i := i) (by omega)
                        obtain ⟨gb, rfl, _, _, hcb⟩ := cell_row (own_below' HO9.out hbi) rfl (i := i) (by omega)
                        have x1 := hca i (by omega)
                        have x2 := hcb i (by omega)
                        have l1 := World.block_lt_of_cell? _ _ x1
                        have l2 := World.block_lt_of_cell? _ _ x2
                        have he := HEQ.out i hin
                        have hvb := HVB.out i
                        have ha : i < S3.length := by omega
                        have hb' : i < S4.length := by omega
                        rw [he] at x2
                        clear hca hcb he
                        generalize S3.getD i 0 = z at *
                        have hne : ((most - z) != (most - z)) = false := by simp
                        go_wp2
                        refine region_ext mixed (by kernel_rfl) ?_
                        repeat (go_big_quiet_step (fail))
                        refine wpQuiet_nil ?_
                        intro w10 hb10
                        go_wp2
                        exact ⟨⟨i + 1, by omega, by go_num, hbi.trans (hb10.mono hbi.size)⟩, by simp [intOf]; omega⟩
                      · go_wp2
                        go_ret
                        exact ⟨rfl, hbw9.trans (hbi.mono hbw9.size)⟩
                  · have hF4' : (F4 == 0) = false := by rw [beq_eq_false_iff_ne]; exact hF4
                    by_cases hn0 : 0 < n
                    · go_wp2
                      go_loopw [22] (fun i_ wq => i_ = .int .i64 0 ∧ wq = w9) (fun _ _ => 0)
                      case atStart => exact ⟨rfl, rfl⟩
                      case round =>
                        obtain ⟨rfl, rfl⟩ := hrel
                        go_wp2
                        go_ret
                        exact ⟨rfl, hbw9⟩
                    · go_wp2
                      go_loopw [22] (fun i_ wq => i_ = .int .i64 0 ∧ wq = w9) (fun _ _ => 0)
                      case atStart => exact ⟨rfl, rfl⟩
                      case round =>
                        obtain ⟨rfl, rfl⟩ := hrel
                        go_wp2
                        go_ret
                        exact ⟨rfl, hbw9⟩
                · have hF : F ≠ 0 := fun h => hF3 (HT1.out.2 h)
                  have hF3' : (F3 == 0) = false := by rw [beq_eq_false_iff_ne]; exact hF3
                  have hF' : (F == 0) = false := by rw [beq_eq_false_iff_ne]; exact hF
                  by_cases hn0 : 0 < n
                  · go_wp2
                    go_loopw [22] (fun i_ wq => i_ = .int .i64 0 ∧ wq = w9) (fun _ _ => 0)
                    case atStart => exact ⟨rfl, rfl⟩
                    case round =>
                      obtain ⟨rfl, rfl⟩ := hrel
                      go_wp2
                      try (go_ret; exact ⟨rfl, hbw9⟩)
                  · go_wp2
                    go_loopw [22] (fun i_ wq => i_ = .int .i64 0 ∧ wq = w9) (fun _ _ => 0)
                    case atStart => exact ⟨rfl, rfl⟩
                    case round =>
                      obtain ⟨rfl, rfl⟩ := hrel
                      go_wp2
                      try (go_ret; exact ⟨rfl, hbw9⟩)
          · skip
            clear HS1
            go_wp2
            go_loopw [16, 17] (fun t_ i_ wq => ∃ (k : Nat) (A' : Option Addr) (c' : Nat), k ≤ len ∧ i_ = .int .i64 k ∧ t_ = .slice A' k c' ∧ Hid (wq.ownsRow w5.heap.size 54 3 (.slice A' k c') k (t3s (turnL (L.take k)))) ∧ Below w5.heap.size w5 wq) (fun _ i_ _ => len - (intOf i_).toNat)
            case atStart => exact ⟨0, none, 0, by omega, rfl, rfl, Go.Lib.hid (World.ownsRow_nil _ _ _ _), hbr⟩
            case round =>
              clear hbr
              obtain ⟨k, A', c', hk, rfl, rfl, HOW, hbr⟩ := hrel
              have hsr := hbr.size
              by_cases hlt : k < len
              · have hli : (k : Int) < (len : Int) := by omega
                have hkL : k < L.length := by have := HM.out; omega
                obtain ⟨g, o, rfl, hg, c0, c1, c2⟩ := (HA5.out.ext hbr).t3 hkL
                have HTT := Go.Lib.hid (turn_take L k hkL)
                have hlm' : (turnL (L.take k)).length = k := by rw [turnL_len, List.length_take]; omega
                have lg := World.block_lt_of_cell? _ _ c0
                generalize L[k] = b' at *
                obtain ⟨bp', bq', br'⟩ := b'
                simp only at c0 c1 c2
                generalize turnL (L.take k) = M at *
                subst hlm'
                go_wp2
                (apply region_make1 (Good := NewCells wr (fun b => .slice (some ⟨b, 0, none⟩) 1 1) #[.int .i64 bq', .int .i64 bp', .int .i64 br'] 54) (W := wr) 18 17 mixed rfl rfl (by kernel_rfl) (by decide) NewCells.mono; (focus (intro V hV; have hsV := hV.size; obtain ⟨hcV, hfV⟩ := bcell hV; have zV_0 : g < V.heap.size := (by omega); have yV_0 : g < V.heap.size + 1 := (by omega); simp only [List.length_cons, List.length_nil, Nat.reduceAdd, Nat.reduceSub, List.take_succ_cons, List.take_zero, List.drop_succ_cons, List.drop_zero, List.cons_append, List.nil_append, List.append_nil]; (repeat (go_big_quiet_step (fail))); exact wpQuiet_nil rfl)); (focus (exact makes_new fun w => by simp [go_sem])); rintro v w6 ⟨b6, hge6, hlt6, hblk6, rfl⟩ hb6; have hs6 := hb6.size; obtain ⟨hc6, hf6⟩ := bcell hb6; have hk6 := blk_cell hblk6; have hl6 := blk_frozen hblk6; have zw6_0 : g < w6.heap.size := (by omega); have yw6_0 : g < w6.heap.size + 1 := (by omega); simp only [List.length_cons, List.length_nil, Nat.reduceAdd, Nat.reduceSub, List.take_succ_cons, List.take_zero, List.drop_succ_cons, List.drop_zero, List.cons_append, List.nil_append, List.append_nil])
                have HO3 := Go.Lib.hid (own_below' HOW.out hb6)
                have hbr3 := hbr.trans (hb6.mono hsr)
                have hsr3 := hbr3.size
                have e0 := hk6 0
                have e1 := hk6 1
                have e2 := hk6 2
                simp at e0 e1 e2
                clear HOW c0 c1 c2 lg hbr hb6 hc6 hf6 hk6 hl6 hblk6
                go_wp2_with (first | (at_builtin; refine append_bound rfl (.tmp 82) (.tmp 99) rfl w5.heap.size _ M ⟨bq', bp', br'⟩ b6 rfl rfl HO3.out e0 e1 e2 ?_ ?_ ?_))
                · omega
                · (try simp); omega
                intro v2 w7 hown4 hg4 _
                obtain ⟨A2, c2, rfl⟩ := own_shape hown4
                have hb4 : Below w5.heap.size w5 w7 := hbr3.grown hg4 hsr3 (own_ge HO3.out)
                have HO4 := Go.Lib.hid hown4
                clear hg4 HO3 hown4
                go_wp2
                refine ⟨⟨M.length + 1, A2, c2, by omega, by go_num, by first | rfl | (rw [List.length_append]; rfl), Go.Lib.hid ?_, hb4⟩, by simp [intOf]; omega⟩
                rw [HTT.out]
                first | exact HO4.out | (have := HO4.out; rw [List.length_append] at this; exact this)
              · have hlt' : ¬ ((k : Int) < (len : Int)) := by omega
                have hkl : k = L.length := by have := HM.out; omega
                have hown : wr.ownsRow w5.heap.size 54 3 (.slice A' k c') k (t3s (turnL L)) := by
                  have := HOW.out
                  rwa [show L.take k = L by rw [hkl, List.take_length]] at this
                have HC2 := HSV3.out wr.heap.size A' c' wr (At.of_own hown) (Nat.le_refl _)
                rw [show len = k by have := HM.out; omega] at HC2
                have HC3 := Go.Lib.hid HC2
                have hbw := HB5.out.trans (hbr.mono HS5.out)
                have hsw := hbw.size
                clear HOW hown HC2 HSV3 hkl
                go_wp2_with fail
                refine HC3.out.mono ?_
                rintro e w8 ⟨A8, c8, rfl, hown8, hb8⟩
                have hb58 := hbr.trans (hb8.mono hsr)
                have hbw8 := hbw.trans (hb8.mono hsw)
                clear HC3
                go_wp2_with fail
                refine (HTO.out _ _ _ _ (HA5.out.ext hb58) (Nat.le_trans HS5.out hb58.size)).mono ?_
                rintro e w9 ⟨A9, c9, rfl, hown9, hb9⟩
                have hbw9 := hbw8.trans (hb9.mono hbw8.size)
                have HO8 := Go.Lib.hid (own_below' hown8 hb9)
                have HO9 := Go.Lib.hid hown9
                clear hown8 hown9 hb8 hb9 hbr hb58 hbw hbw8
                by_cases hF3 : F3 = 0
                · have hF := HT1.out.1 hF3
                  subst hF3
                  subst hF
                  by_cases hF4 : F4 = 0
                  · subst hF4
                    obtain ⟨hl8, hn0⟩ := HL3.out rfl
                    obtain ⟨hl9, _⟩ := HL4.out rfl
                    have hmb := HMB.out rfl
                    have HEQ := Go.Lib.hid (HT2.out rfl)
                    have HVB := Go.Lib.hid (HV3.out rfl)
                    go_wp2
                    go_loopw [22] (fun i_ wq => ∃ i : Nat, (i : Int) ≤ n ∧ i_ = .int .i64 i ∧ Below w9.heap.size w9 wq) (fun i_ _ => n.toNat - (intOf i_).toNat)
                    case atStart => exact ⟨0, hn0, rfl, Below.refl _ _⟩
                    case round =>
                      obtain ⟨i, hi, rfl, hbi⟩ := hrel
                      by_cases hin : (i : Int) < n
                      · obtain ⟨ga, rfl, _, _, hca⟩ := cell_row (own_below' HO8.out hbi) rfl (i := i) (by omega)
                        obtain ⟨gb, rfl, _, _, hcb⟩ := cell_row (own_below' HO9.out hbi) rfl (i := i) (by omega)
                        have x1 := hca i (by omega)
                        have x2 := hcb i (by omega)
                        have l1 := World.block_lt_of_cell? _ _ x1
                        have l2 := World.block_lt_of_cell? _ _ x2
                        have he := HEQ.out i hin
                        have hvb := HVB.out i
                        have ha : i < S3.length := by omega
                        have hb' : i < S4.length := by omega
                        rw [he] at x2
                        clear hca hcb he
                        generalize S3.getD i 0 = z at *
                        have hne : ((most - z) != (most - z)) = false := by simp
                        go_wp2
                        refine region_ext mixed (by kernel_rfl) ?_
                        repeat (go_big_quiet_step (fail))
                        refine wpQuiet_nil ?_
                        intro w10 hb10
                        go_wp2
                        exact ⟨⟨i + 1, by omega, by go_num, hbi.trans (hb10.mono hbi.size)⟩, by simp [intOf]; omega⟩
                      · go_wp2
                        go_ret
                        exact ⟨rfl, hbw9.trans (hbi.mono hbw9.size)⟩
                  · have hF4' : (F4 == 0) = false := by rw [beq_eq_false_iff_ne]; exact hF4
                    by_cases hn0 : 0 < n
                    · go_wp2
                      go_loopw [22] (fun i_ wq => i_ = .int .i64 0 ∧ wq = w9) (fun _ _ => 0)
                      case atStart => exact ⟨rfl, rfl⟩
                      case round =>
                        obtain ⟨rfl, rfl⟩ := hrel
                        go_wp2
                        go_ret
                        exact ⟨rfl, hbw9⟩
                    · go_wp2
                      go_loopw [22] (fun i_ wq => i_ = .int .i64 0 ∧ wq = w9) (fun _ _ => 0)
                      case atStart => exact ⟨rfl, rfl⟩
                      case round =>
                        obtain ⟨rfl, rfl⟩ := hrel
                        go_wp2
                        go_ret
                        exact ⟨rfl, hbw9⟩
                · have hF : F ≠ 0 := fun h => hF3 (HT1.out.2 h)
                  have hF3' : (F3 == 0) = false := by rw [beq_eq_false_iff_ne]; exact hF3
                  have hF' : (F == 0) = false := by rw [beq_eq_false_iff_ne]; exact hF
                  by_cases hn0 : 0 < n
                  · go_wp2
                    go_loopw [22] (fun i_ wq => i_ = .int .i64 0 ∧ wq = w9) (fun _ _ => 0)
                    case atStart => exact ⟨rfl, rfl⟩
                    case round =>
                      obtain ⟨rfl, rfl⟩ := hrel
                      go_wp2
                      try (go_ret; exact ⟨rfl, hbw9⟩)
                  · go_wp2
                    go_loopw [22] (fun i_ wq => i_ = .int .i64 0 ∧ wq = w9) (fun _ _ => 0)
                    case atStart => exact ⟨rfl, rfl⟩
                    case round =>
                      obtain ⟨rfl, rfl⟩ := hrel
                      go_wp2
                      try (go_ret; exact ⟨rfl, hbw9⟩)
end Go.Proofs.Ythannibclhidcaa
