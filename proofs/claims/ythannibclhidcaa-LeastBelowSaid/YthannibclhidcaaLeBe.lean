/- Layer 9: the law LeastBelow. -/
import Derived.Test.YthannibclhidcaaLeZ
import Derived.Test.YthannibclhidcaaLeB9
import Derived.Deep.CutRange
import Derived.Deep.CutBlock
namespace Go.Proofs.Ythannibclhidcaa
set_option linter.unusedVariables false
set_option linter.unusedSimpArgs false
open Go.RowKit
attribute [local go_sem] max_fold min_fold

set_option maxRecDepth 100000 in
set_option maxHeartbeats 16000000 in
theorem walkLeastBelow (w : World) (A2 : Option Addr) (c2 : Nat) (X : List Int) (hX : At w.heap.size w A2 (ints X)) (hnil2 : A2 = none → X.length = 0 ∧ c2 = 0) (hlc2 : X.length ≤ c2) (hcm2 : c2 ≤ maxLen) (hwf : ∀ n ∈ X, (Lit.int .i64 n).wf = true)
    (A : Option Addr) (c : Nat) (L : List T3) (hA : At w.heap.size w A (t3s L)) (hnil : A = none → L.length = 0 ∧ c = 0) (hlc : L.length ≤ c) (hcm : c ≤ maxLen) (most : Int) (hx : (Lit.int .i64 most).wf = true) :
    Calls Try.prog 10 #[.slice A2 X.length c2, .slice A L.length c, .int .i64 most] w fun e w' => e = .returned (.bool true) ∧ Below w.heap.size w w' := by
  have hlen : L.length ≤ 9223372036854775807 := by unfold maxLen at hcm; omega
  have hlen2 : X.length ≤ 9223372036854775807 := by unfold maxLen at hcm2; omega
  by_cases hbig : 200 < X.length
  · have hb1' : (200 : Int) < (X.length : Int) := by omega
    go_enter Try.func10, Try.ntmps10
    go_wp2_with fail
    refine (awake_any _).mono ?_
    rintro e w1 ⟨rfl, hb1⟩
    go_wp2
    go_ret
    exact ⟨rfl, hb1⟩
  · by_cases hbig2 : 400 < L.length
    · have hb2 : (400 : Int) < (L.length : Int) := by omega
      have hb3 : ¬ (200 : Int) < (X.length : Int) := by omega
      clear hbig2
      go_enter Try.func10, Try.ntmps10
      go_wp2_with fail
      refine (awake_any _).mono ?_
      rintro e w1 ⟨rfl, hb1⟩
      go_wp2
      go_ret
      exact ⟨rfl, hb1⟩
    · have hb2 : ¬ (400 : Int) < (L.length : Int) := by omega
      have hb3 : ¬ (200 : Int) < (X.length : Int) := by omega
      have hn2 : X.length ≤ 200 := by omega
      have hl4 : L.length ≤ 400 := by omega
      obtain ⟨e1, e2, e3, e4, e5, e6, e7, e8, e9⟩ := least9 X L most hn2 hl4
      have hSl := solveR_lt X.length L
      have hTl := tightR_lt X.length L
      have hYl := topR_lt X.length L most
      have HU : Hid (UnderB X L most ↔ FineB X L ∧ ∀ j, j < X.length → X.getD j 0 ≤ most) := Go.Lib.hid Iff.rfl
      have HFI : Hid (FineB X L ↔ (keepsE X L = 0 ∧ keepsK X L = -1) ∧ ∀ j, j < X.length → 0 ≤ X.getD j 0) := Go.Lib.hid Iff.rfl
      have HSV := Go.Lib.hid fun (B : Nat) (A : Option Addr) (c : Nat) (w : World) h1 h2 => Solve_any B A c X.length L w h1 h2 (by omega)
      have HTI := Go.Lib.hid fun (B : Nat) (A : Option Addr) (c : Nat) (w : World) h1 h2 => Tight_any B A c X.length L w h1 h2 (by omega)
      have HTO := Go.Lib.hid fun (B : Nat) (A : Option Addr) (c : Nat) (w : World) h1 h2 => Most_any B A c X.length L most w h1 h2 (by omega)
      have HKP := Go.Lib.hid fun (B : Nat) (A Ax : Option Addr) (c cx : Nat) (w : World) h1 h2 h3 => Keeps_any B A Ax c cx X L w h1 h2 h3 (by omega) (by omega)
      have HKS := Go.Lib.hid fun (B : Nat) (A Ax : Option Addr) (c cx : Nat) (w : World) h1 h2 h3 => Keeps_any B A Ax c cx (solveR X.length L) L w h1 h2 h3 (by omega) (by omega)
      have HKY := Go.Lib.hid fun (B : Nat) (A Ax : Option Addr) (c cx : Nat) (w : World) h1 h2 h3 => Keeps_any B A Ax c cx (topR X.length L most) L w h1 h2 h3 (by omega) (by omega)
      unfold KeepsP at HKP HKS HKY
      generalize UnderB X L most = UB at *
      generalize FineB X L = FB at *
      generalize solveR X.length L = S at *
      generalize solveE X.length L = F at *
      generalize tightR X.length L = T at *
      generalize topR X.length L most = Y at *
      generalize topE X.length L most = G at *
      generalize keepsK X L = K1 at *
      generalize keepsE X L = K2 at *
      have E1 := Go.Lib.hid e1
      have E2 := Go.Lib.hid e2
      have E3 := Go.Lib.hid e3
      have E4 := Go.Lib.hid e4
      have E5 := Go.Lib.hid e5
      have E6 := Go.Lib.hid e6
      have E7 := Go.Lib.hid e7
      have E8 := Go.Lib.hid e8
      have E9 := Go.Lib.hid e9
      have HA := Go.Lib.hid hA
      have HX := Go.Lib.hid hX
      obtain ⟨n, hn⟩ : ∃ n, X.length = n := ⟨_, rfl⟩
      have HN := Go.Lib.hid hn
      obtain ⟨len, hlenE⟩ : ∃ len, L.length = len := ⟨_, rfl⟩
      have HM := Go.Lib.hid hlenE
      rw [hn] at HSV HTI HTO HKP hb3 hn2 ⊢
      rw [hlenE] at HSV HTI HTO HKP HKS HKY hb2 hl4 ⊢
      clear e1 e2 e3 e4 e5 e6 e7 e8 e9 hA hX hn hlenE hlen hlen2 hbig hbig2 hlc hlc2 hcm hcm2 hwf hnil hnil2 hx
      go_enter Try.func10, Try.ntmps10
      go_wp2_with fail
      refine (awake_any _).mono ?_
      rintro e w1 ⟨rfl, hb1⟩
      go_wp2_with fail
      refine (HSV.out _ _ _ _ (HA.out.ext hb1) hb1.size).mono ?_
      rintro e w2 ⟨As, cs, rfl, hos, hb2'⟩
      have hbw2 := hb1.trans (hb2'.mono hb1.size)
      go_wp2_with fail
      refine (HTI.out _ _ _ _ (HA.out.ext hbw2) hbw2.size).mono ?_
      rintro e w3 ⟨At_, ct, rfl, hot, hb3'⟩
      have hbw3 := hbw2.trans (hb3'.mono hbw2.size)
      go_wp2_with fail
      refine (HTO.out _ _ _ _ (HA.out.ext hbw3) hbw3.size).mono ?_
      rintro e w4 ⟨Ay, cy, rfl, hoy, hb4⟩
      have hbw4 := hbw3.trans (hb4.mono hbw3.size)
      go_wp2_with fail
      refine (HKP.out _ _ _ _ _ _ ((HA.out.ext hbw4).mono hbw4.size) ((HX.out.ext hbw4).mono hbw4.size) (Nat.le_refl _)).mono ?_
      rintro e w5 ⟨rfl, hb5⟩
      have hbw5 := hbw4.trans (hb5.mono hbw4.size)
      have HS := Go.Lib.hid (own_below' (own_below' (own_below' hos hb3') hb4) hb5)
      have HT := Go.Lib.hid (own_below' (own_below' hot hb4) hb5)
      have HY := Go.Lib.hid (own_below' hoy hb5)
      have HB5 := Go.Lib.hid hbw5
      have HA5 := Go.Lib.hid (HA.out.ext hbw5)
      have HX5 := Go.Lib.hid (HX.out.ext hbw5)
      have hs5 := hbw5.size
      clear hos hot hoy hb1 hb2' hb3' hb4 hb5 hbw2 hbw3 hbw4 hbw5 HSV HTI HTO HKP HA HX
      go_upto_region 13 with fail
      go_cut [17] from 66 to 71 (fun f wx => ∃ b : Bool, f = .bool b ∧ Hid (b = true ↔ K2 = 0 ∧ K1 = -1) ∧ wx = w5)
      case first =>
        by_cases h1 : K2 = 0
        · by_cases h2 : K1 = -1
          · subst h1 h2
            go_wp2
            go_meet
            exact ⟨true, rfl, Go.Lib.hid (by simp), rfl⟩
          · subst h1
            have h2' : (K1 == -1) = false := by rw [beq_eq_false_iff_ne]; exact h2
            go_wp2
            go_meet
            exact ⟨false, rfl, Go.Lib.hid (by simp [h2]), rfl⟩
        · have h1' : (K2 == 0) = false := by rw [beq_eq_false_iff_ne]; exact h1
          go_wp2
          go_meet
          exact ⟨false, rfl, Go.Lib.hid (by simp [h1]), rfl⟩
      case rest =>
        obtain ⟨b0, rfl, HB0, rfl⟩ := hcut
        go_upto_block 0 with fail
        go_cut [17] from 72 to 84 (fun f wx => ∃ b : Bool, f = .bool b ∧ Hid (b = true ↔ FB) ∧ wx = wc)
        case first =>
          go_wp2_with fail
          go_loop [17, 18] (fun f i => ∃ (k : Nat) (b : Bool), k ≤ n ∧ i = .int .i64 k ∧ f = .bool b ∧ Hid ((b = true → (K2 = 0 ∧ K1 = -1) ∧ ∀ j, j < k → 0 ≤ X.getD j 0) ∧ (b = false → ¬ FB))) (fun _ i => n - (intOf i).toNat)
          case atStart => exact ⟨0, b0, by omega, rfl, rfl, Go.Lib.hid ⟨fun h => ⟨HB0.out.1 h, fun j hj => by omega⟩, fun h hf => by have := HB0.out.2 (HFI.out.1 hf).1; rw [h] at this; cases this⟩⟩
          case round =>
            obtain ⟨k, b, hk, rfl, rfl, HI⟩ := hrel
            by_cases hlt : k < n
            · have hli : (k : Int) < (n : Int) := by omega
              cases b
              · go_wp2
                go_meet
                exact ⟨false, rfl, Go.Lib.hid ⟨fun h => (by cases h), fun h => absurd h (HI.out.2 (by simp))⟩, rfl⟩
              · have hkX : k < X.length := by have := HN.out; omega
                obtain ⟨g, o, rfl, hg, x1⟩ := HX5.out.int hkX
                have hgd : X.getD k 0 = X[k] := by simp [List.getD, hkX]
                have HNEW : Hid ((decide (0 ≤ X[k]) = true → (K2 = 0 ∧ K1 = -1) ∧ ∀ j, j < k + 1 → 0 ≤ X.getD j 0) ∧ (decide (0 ≤ X[k]) = false → ¬ FB)) := Go.Lib.hid (by
                  obtain ⟨h1, h2⟩ := HI.out.1 (by simp)
                  refine ⟨fun h => ⟨h1, fun j hj => ?_⟩, fun h hf => ?_⟩
                  · by_cases e : j = k
                    · rw [e, hgd]
                      simpa using h
                    · exact h2 j (by omega)
                  · have := (HFI.out.1 hf).2 k hkX
                    rw [hgd] at this
                    simp only [decide_eq_false_iff_not] at h
                    exact h this)
                clear hgd HI
                generalize X[k] = y at *
                go_wp2
                go_round
                case rel => exact ⟨k + 1, decide (0 ≤ y), by omega, by go_num, rfl, HNEW⟩
                case measure => simp [intOf]; omega
            · have hlt' : ¬ ((k : Int) < (n : Int)) := by omega
              have hkn : k = n := by omega
              have HF2 : Hid (b = true ↔ FB) := Go.Lib.hid (by
                constructor
                · intro h
                  obtain ⟨h1, h2⟩ := HI.out.1 h
                  exact HFI.out.2 ⟨h1, fun j hj => h2 j (by have := HN.out; omega)⟩
                · intro hf
                  cases b
                  · exact absurd hf (HI.out.2 (by simp))
                  · rfl)
              clear HI
              go_wp2
              go_meet
              exact ⟨b, rfl, HF2, rfl⟩
        case rest =>
          obtain ⟨f0, rfl, HF0, rfl⟩ := hcut
          by_cases hF : F = 0
          · subst hF
            have hSn : S.length = n := by rw [E2.out rfl, HN.out]
            have hks := E4.out rfl
            rw [hks.1, hks.2] at HKS
            have HSN := Go.Lib.hid hSn
            rw [hSn] at HKS ⊢
            have HOK := Go.Lib.hid (E7.out rfl)
            clear hSn hks E1 E2 E4 E7 HB0
            go_wp2_with (first | (at_make; refine make_bools rfl (.tmp 102) (.tmp 102) rfl wc.heap.size n rfl rfl (by omega) (Nat.le_refl _) ?_))
            intro w6 hown6 hgr6
            have hb6 : Below wc.heap.size wc w6 := (Below.refl _ _).grown hgr6 (Nat.le_refl _) (fun k hk => by cases hk)
            have HM6 : Hid (∃ M, Flags n M (fun v => ∃ a, a < 0 ∧ qn L (T.getD a 0).toNat = v) ∧ w6.ownsRow wc.heap.size 4 1 (.slice (some ⟨wc.heap.size, 0, none⟩) n n) n (bools M)) := Go.Lib.hid ⟨_, ⟨by simp, fun v hv => by simp [List.getD, hv]⟩, hown6⟩
            have HB6 := Go.Lib.hid hb6
            clear hown6 hgr6 hb6
            go_wp2
            generalize hgm : wc.heap.size = gm at *
            have HGM := Go.Lib.hid hgm
            clear hgm
            go_loopw [20] (fun i_ wr => ∃ a : Nat, a ≤ T.length ∧ i_ = .int .i64 a ∧ Hid (∃ M, Flags n M (fun v => ∃ a', a' < a ∧ qn L (T.getD a' 0).toNat = v) ∧ wr.ownsRow gm 4 1 (.slice (some ⟨gm, 0, none⟩) n n) n (bools M)) ∧ Hid (Below gm wc wr)) (fun i_ _ => T.length - (intOf i_).toNat)
            case atStart => exact ⟨0, by omega, rfl, HM6, HB6⟩
            case round =>
              clear HM6 HB6
              obtain ⟨a, ha, rfl, HMB, HBR⟩ := hrel
              by_cases hlt : a < T.length
              · have hli : (a : Int) < (T.length : Int) := by omega
                obtain ⟨j, ej, hj⟩ := E5.out a hlt
                have hbr : Below wc.heap.size wc wr := by rw [HGM.out]; exact HBR.out
                obtain ⟨gt, rfl, hgt1, hgt2, hct⟩ := cell_row HT.out rfl hlt
                have HCT := Go.Lib.hid hct
                have y1 := hct a hlt
                rw [ej] at y1
                obtain ⟨g, o, rfl, hg, c0, c1, c2⟩ := HA5.out.t3 hj
                rw [← bk_at hj] at c1
                obtain ⟨q1, q2, q3, q4⟩ := okB_pq HOK.out hj
                rw [← q4] at c1
                rw [HN.out] at q2
                obtain ⟨M, hFl, hOw⟩ := HMB.out
                have hnx : Flags n (M.set (qn L j) true) (fun v => ∃ a', a' < a + 1 ∧ qn L (T.getD a' 0).toNat = v) := hFl.set q2 fun v _ => by
                  constructor
                  · rintro ⟨a', ha', e⟩
                    by_cases h : a' = a
                    · right
                      rw [← e, h, ej]
                      rfl
                    · exact .inl ⟨a', by omega, e⟩
                  · rintro (⟨a', ha', e⟩ | e)
                    · exact ⟨a', by omega, e⟩
                    · exact ⟨a, by omega, by rw [e, ej]; rfl⟩
                have hjl : j < len := by have := HM.out; omega
                have hcase : decide (0 < a) = false ∨ (decide (0 < a) = true ∧ ∃ a' jp : Nat, (a : Int) - 1 = (a' : Int) ∧ a' < T.length ∧ T.getD a' 0 = (jp : Int) ∧ jp < j) := by
                  by_cases h0 : 0 < a
                  · right
                    obtain ⟨jp, ejp, hjp⟩ := E5.out (a - 1) (by omega)
                    have hin := E6.out (a - 1) (by omega)
                    rw [show a - 1 + 1 = a by omega, ej, ejp] at hin
                    exact ⟨decide_eq_true h0, a - 1, jp, by omega, by omega, ejp, by omega⟩
                  · exact .inl (decide_eq_false h0)
                have HML := Go.Lib.hid hFl.len
                have HNX := Go.Lib.hid hnx
                have HOW := Go.Lib.hid hOw
                have HBW := Go.Lib.hid hbr
                have HY1 := Go.Lib.hid y1
                have HC1 := Go.Lib.hid c1
                have x1 := cell_on hbr y1
                have lx := World.block_lt_of_cell? _ _ x1
                clear hct hj ej hbr y1 c0 c1 c2 q1 q3 q4 hFl hOw hnx HMB HBR hg
                generalize qn L j = Q at *
                have g1 : decide (len ≤ j) = false := decide_eq_false (by omega)
                have g0 : decide ((j : Int) < 0) = false := decide_eq_false (by omega)
                rcases hcase with hpa | ⟨hpa, a', jp, hsub, ha', hjp, hjpj⟩
                · go_wp2
                  refine region_ext mixed (by kernel_rfl) ?_
                  repeat (go_big_quiet_step (fail))
                  refine wpQuiet_nil ?_
                  intro w8 hb8
                  have HOW8 := Go.Lib.hid (own_below' HOW.out hb8)
                  have hbw8 := HBW.out.trans (hb8.mono HBW.out.size)
                  have HB8 := Go.Lib.hid hbw8
                  have x1 := cell_on hbw8 HY1.out
                  have k1 := cell_on hbw8 HC1.out
                  have lx1 := World.block_lt_of_cell? _ _ x1
                  have lx2 := World.block_lt_of_cell? _ _ k1
                  have m0 := cell_flag HOW8.out HML.out q2
                  have f0' := HOW8.out.frozenAt Q
                  have hst := own_store HOW8.out Q (.bool true)
                  rw [bools_set] at hst
                  have HST := Go.Lib.hid hst
                  have hbs := (show Below gm wc w8 by rw [← HGM.out]; exact hbw8).setCell (p := ⟨gm, Q, none⟩) (Nat.le_refl _) (.bool true)
                  have HBS := Go.Lib.hid hbs
                  generalize M.getD Q false = mq at *
                  clear hb8 hbw8 HOW HBW hst hbs HOW8
                  go_wp2
                  go_roundw
                  case rel => exact ⟨a + 1, by omega, by go_num, Go.Lib.hid ⟨_, HNX.out, HST.out⟩, HBS⟩
                  case measure => simp [intOf]; omega
                · have y2 := HCT.out a' ha'
                  rw [hjp] at y2
                  have x2 := cell_on HBW.out y2
                  have g2 : decide (j ≤ jp) = false := decide_eq_false (by omega)
                  clear hjp y2
                  go_wp2
                  refine region_ext mixed (by kernel_rfl) ?_
                  repeat (go_big_quiet_step (fail))
                  refine wpQuiet_nil ?_
                  intro w8 hb8
                  have HOW8 := Go.Lib.hid (own_below' HOW.out hb8)
                  have hbw8 := HBW.out.trans (hb8.mono HBW.out.size)
                  have HB8 := Go.Lib.hid hbw8
                  have x1 := cell_on hbw8 HY1.out
                  have k1 := cell_on hbw8 HC1.out
                  have lx1 := World.block_lt_of_cell? _ _ x1
                  have lx2 := World.block_lt_of_cell? _ _ k1
                  have m0 := cell_flag HOW8.out HML.out q2
                  have f0' := HOW8.out.frozenAt Q
                  have hst := own_store HOW8.out Q (.bool true)
                  rw [bools_set] at hst
                  have HST := Go.Lib.hid hst
                  have hbs := (show Below gm wc w8 by rw [← HGM.out]; exact hbw8).setCell (p := ⟨gm, Q, none⟩) (Nat.le_refl _) (.bool true)
                  have HBS := Go.Lib.hid hbs
                  generalize M.getD Q false = mq at *
                  clear hb8 hbw8 HOW HBW hst hbs HOW8
                  go_wp2
                  go_roundw
                  case rel => exact ⟨a + 1, by omega, by go_num, Go.Lib.hid ⟨_, HNX.out, HST.out⟩, HBS⟩
                  case measure => simp [intOf]; omega
              · have hlt' : ¬ ((a : Int) < (T.length : Int)) := by omega
                have hbr : Below wc.heap.size wc wr := by rw [HGM.out]; exact HBR.out
                obtain ⟨M, hFl, hOw⟩ := HMB.out
                have hlen := hFl.len
                have hiff := hFl.iff
                have haT : a = T.length := by omega
                subst haT
                have HV : Hid (∀ v, v < n → 0 ≤ S.getD v 0 ∧ (0 < S.getD v 0 → M.getD v false = true) ∧ (FB → S.getD v 0 ≤ X.getD v 0)) := Go.Lib.hid fun v hv => by
                  obtain ⟨h1, h2, h3⟩ := E3.out (by simp) v (by rw [HN.out]; exact hv)
                  exact ⟨h1, fun h => (hiff v hv).2 (h2 h), h3⟩
                have HOW := Go.Lib.hid hOw
                have HBW := Go.Lib.hid hbr
                have HML := Go.Lib.hid hlen
                clear hFl hOw hlen hiff hbr HMB HBR E5 E6 E3 HT
                have HU0 : Hid (f0 = true ↔ FB ∧ ∀ j, j < 0 → X.getD j 0 ≤ most) := Go.Lib.hid ⟨fun h => ⟨HF0.out.1 h, fun j hj => by omega⟩, fun h => HF0.out.2 h.1⟩
                go_wp2
                go_loopw [21, 22] (fun u_ i_ wq => ∃ (i : Nat) (u : Bool), i ≤ n ∧ i_ = .int .i64 i ∧ u_ = .bool u ∧ Hid (u = true ↔ FB ∧ ∀ j, j < i → X.getD j 0 ≤ most) ∧ Below wr.heap.size wr wq) (fun _ i_ _ => n - (intOf i_).toNat)
                case atStart => exact ⟨0, f0, by omega, rfl, rfl, HU0, Below.refl _ _⟩
                case round =>
                  clear HU0
                  obtain ⟨wo, hwo⟩ : ∃ wo : World, wo = wr := ⟨_, rfl⟩
                  obtain ⟨i, u, hi, rfl, rfl, HUI, hbi⟩ := hrel
                  by_cases hin : i < n
                  · have hii : (i : Int) < (n : Int) := by omega
                    have hball := HBW.out.trans (hbi.mono HBW.out.size)
                    obtain ⟨gs, rfl, _, _, hcs⟩ := cell_row HS.out rfl (i := i) (by have := HSN.out; omega)
                    have x1 := cell_on hball (hcs i (by have := HSN.out; omega))
                    have h1 := cell_on hbi (cell_flag HOW.out HML.out hin)
                    have hXi : i < X.length := by have := HN.out; omega
                    obtain ⟨g, o, rfl, hg, y0⟩ := HX5.out.int hXi
                    have hgd : X.getD i 0 = X[i] := by simp [List.getD, hXi]
                    rw [← hgd] at y0
                    have y1 := cell_on hball y0
                    have HYX := Go.Lib.hid y1
                    obtain ⟨v1, v2, v3⟩ := HV.out i hin
                    have lx := World.block_lt_of_cell? _ _ x1
                    have lh := World.block_lt_of_cell? _ _ h1
                    have ly := World.block_lt_of_cell? _ _ y1
                    have HN1 : Hid (u = true → (decide (X.getD i 0 ≤ most) = true ↔ FB ∧ ∀ j, j < i + 1 → X.getD j 0 ≤ most)) := Go.Lib.hid fun hu => by
                      obtain ⟨hf, hall⟩ := HUI.out.1 hu
                      constructor
                      · intro h
                        refine ⟨hf, fun j hj => ?_⟩
                        by_cases e : j = i
                        · rw [e]
                          simpa using h
                        · exact hall j (by omega)
                      · intro h
                        simpa using h.2 i (by omega)
                    have HN2 : Hid (u = false → (false = true ↔ FB ∧ ∀ j, j < i + 1 → X.getD j 0 ≤ most)) := Go.Lib.hid fun hu => by
                      constructor
                      · intro h
                        cases h
                      · intro h
                        have := HUI.out.2 ⟨h.1, fun j hj => h.2 j (by omega)⟩
                        rw [hu] at this
                        cases this
                    have HFU : Hid (u = true → f0 = true) := Go.Lib.hid fun hu => HF0.out.2 (HUI.out.1 hu).1
                    have HV3 := Go.Lib.hid fun h => v3 (HF0.out.1 h)
                    have HV2 := Go.Lib.hid v2
                    clear hcs y0 hgd hg hball v2 v3 HUI
                    generalize S.getD i 0 = x at *
                    generalize X.getD i 0 = y at *
                    generalize M.getD i false = hb at *
                    have gx : decide (x < 0) = false := decide_eq_false (by omega)
                    by_cases hxp : 0 < x
                    · have gp : decide (0 < x) = true := decide_eq_true hxp
                      have hbt := HV2.out hxp
                      subst hbt
                      cases hf0 : f0
                      · cases hu : u
                        · subst hf0
                          subst hu
                          go_wp2
                          refine region_ext mixed (by kernel_rfl) ?_
                          repeat (go_big_quiet_step (fail))
                          refine wpQuiet_nil ?_
                          intro w10 hb10
                          have y1 := cell_on hb10 HYX.out
                          have ly := World.block_lt_of_cell? _ _ y1
                          have hbz := hbi.trans (hb10.mono hbi.size)
                          clear hbi hb10
                          go_wp2
                          exact ⟨⟨i + 1, false, by omega, by go_num, rfl, Go.Lib.hid (HN2.out (by simp)), hbz⟩, by simp [intOf]; omega⟩
                        · exact absurd (HFU.out hu) (by rw [hf0]; simp)
                      · have gy : decide (y < x) = false := decide_eq_false (by have := HV3.out hf0; omega)
                        cases hu : u
                        · subst hf0
                          subst hu
                          go_wp2
                          refine region_ext mixed (by kernel_rfl) ?_
                          repeat (go_big_quiet_step (fail))
                          refine wpQuiet_nil ?_
                          intro w10 hb10
                          have y1 := cell_on hb10 HYX.out
                          have ly := World.block_lt_of_cell? _ _ y1
                          have hbz := hbi.trans (hb10.mono hbi.size)
                          clear hbi hb10
                          go_wp2
                          exact ⟨⟨i + 1, false, by omega, by go_num, rfl, Go.Lib.hid (HN2.out (by simp)), hbz⟩, by simp [intOf]; omega⟩
                        · subst hf0
                          subst hu
                          go_wp2
                          refine region_ext mixed (by kernel_rfl) ?_
                          repeat (go_big_quiet_step (fail))
                          refine wpQuiet_nil ?_
                          intro w10 hb10
                          have y1 := cell_on hb10 HYX.out
                          have ly := World.block_lt_of_cell? _ _ y1
                          have hbz := hbi.trans (hb10.mono hbi.size)
                          clear hbi hb10
                          go_wp2
                          exact ⟨⟨i + 1, decide (y ≤ most), by omega, by go_num, rfl, Go.Lib.hid (HN1.out (by simp)), hbz⟩, by simp [intOf]; omega⟩
                    · have gp : decide (0 < x) = false := decide_eq_false hxp
                      cases hf0 : f0
                      · cases hu : u
                        · subst hf0
                          subst hu
                          go_wp2
                          refine region_ext mixed (by kernel_rfl) ?_
                          repeat (go_big_quiet_step (fail))
                          refine wpQuiet_nil ?_
                          intro w10 hb10
                          have y1 := cell_on hb10 HYX.out
                          have ly := World.block_lt_of_cell? _ _ y1
                          have hbz := hbi.trans (hb10.mono hbi.size)
                          clear hbi hb10
                          go_wp2
                          exact ⟨⟨i + 1, false, by omega, by go_num, rfl, Go.Lib.hid (HN2.out (by simp)), hbz⟩, by simp [intOf]; omega⟩
                        · exact absurd (HFU.out hu) (by rw [hf0]; simp)
                      · have gy : decide (y < x) = false := decide_eq_false (by have := HV3.out hf0; omega)
                        cases hu : u
                        · subst hf0
                          subst hu
                          go_wp2
                          refine region_ext mixed (by kernel_rfl) ?_
                          repeat (go_big_quiet_step (fail))
                          refine wpQuiet_nil ?_
                          intro w10 hb10
                          have y1 := cell_on hb10 HYX.out
                          have ly := World.block_lt_of_cell? _ _ y1
                          have hbz := hbi.trans (hb10.mono hbi.size)
                          clear hbi hb10
                          go_wp2
                          exact ⟨⟨i + 1, false, by omega, by go_num, rfl, Go.Lib.hid (HN2.out (by simp)), hbz⟩, by simp [intOf]; omega⟩
                        · subst hf0
                          subst hu
                          go_wp2
                          refine region_ext mixed (by kernel_rfl) ?_
                          repeat (go_big_quiet_step (fail))
                          refine wpQuiet_nil ?_
                          intro w10 hb10
                          have y1 := cell_on hb10 HYX.out
                          have ly := World.block_lt_of_cell? _ _ y1
                          have hbz := hbi.trans (hb10.mono hbi.size)
                          clear hbi hb10
                          go_wp2
                          exact ⟨⟨i + 1, decide (y ≤ most), by omega, by go_num, rfl, Go.Lib.hid (HN1.out (by simp)), hbz⟩, by simp [intOf]; omega⟩
                  · have hin' : ¬ ((i : Int) < (n : Int)) := by omega
                    have hie : i = n := by omega
                    have hball := HBW.out.trans (hbi.mono HBW.out.size)
                    have HUB : Hid (u = true ↔ UB) := Go.Lib.hid (by
                      rw [HUI.out, HU.out, HN.out, hie])
                    have HA7 := Go.Lib.hid (HA5.out.ext hball)
                    have HX7 := Go.Lib.hid (HX5.out.ext hball)
                    have HS7 := Go.Lib.hid (own_below' HS.out hball)
                    have HY7 := Go.Lib.hid (own_below' HY.out hball)
                    have HB7 := Go.Lib.hid (HB5.out.trans (hball.mono (by have := HGM.out; omega)))
                    have hs7 : w.heap.size ≤ wr.heap.size := HB7.out.size
                    clear hball hbi HUI HBW HOW HML HA5 HX5 HS HY HB5 hie hin
                    go_wp2_with fail
                    refine (HKS.out _ _ _ _ _ _ (HA7.out.mono hs7) (At.of_own HS7.out) (Nat.le_refl _)).mono ?_
                    rintro e w9 ⟨rfl, hb9⟩
                    have HA9 := Go.Lib.hid (HA7.out.ext hb9)
                    have HX9 := Go.Lib.hid (HX7.out.ext hb9)
                    have HS9 := Go.Lib.hid (own_below' HS7.out hb9)
                    have HY9 := Go.Lib.hid (own_below' HY7.out hb9)
                    have HB9 := Go.Lib.hid (HB7.out.trans (hb9.mono hs7))
                    have hs9 := HB9.out.size
                    clear HA7 HX7 HS7 HY7 HB7 hb9 HKS
                    by_cases hG : G = 0
                    · subst hG
                      obtain ⟨hYn, hky, hyv⟩ := E9.out (by simp) (by simp)
                      rw [HN.out] at hYn
                      rw [hky.1, hky.2, hYn] at HKY
                      have HYN := Go.Lib.hid hYn
                      have HYV := Go.Lib.hid hyv
                      clear hYn hky hyv
                      rw [HYN.out]
                      go_wp2_with fail
                      refine (HKY.out _ _ _ _ _ _ (HA9.out.mono hs9) (At.of_own HY9.out) (Nat.le_refl _)).mono ?_
                      rintro e w11 ⟨rfl, hb11⟩
                      go_wp2
                      go_loopw [25] (fun i_ wq => ∃ i : Nat, i ≤ n ∧ i_ = .int .i64 i ∧ Below w11.heap.size w11 wq) (fun i_ _ => n - (intOf i_).toNat)
                      case atStart => exact ⟨0, by omega, rfl, Below.refl _ _⟩
                      case round =>
                        obtain ⟨i, hi, rfl, hbi⟩ := hrel
                        by_cases hin : i < n
                        · have hii : (i : Int) < (n : Int) := by omega
                          have hbq := hb11.trans (hbi.mono hb11.size)
                          obtain ⟨gs, rfl, _, _, hcs⟩ := cell_row HS9.out rfl (i := i) (by have := HSN.out; omega)
                          obtain ⟨gy, rfl, _, _, hcy⟩ := cell_row HY9.out rfl (i := i) (by have := HYN.out; omega)
                          have x1 := cell_on hbq (hcs i (by have := HSN.out; omega))
                          have z1 := cell_on hbq (hcy i (by have := HYN.out; omega))
                          have hXi : i < X.length := by have := HN.out; omega
                          obtain ⟨g, o, rfl, hg, y0⟩ := HX9.out.int hXi
                          have hgd : X.getD i 0 = X[i] := by simp [List.getD, hXi]
                          rw [← hgd] at y0
                          have y1 := cell_on hbq y0
                          obtain ⟨t1, t2, t3⟩ := HYV.out i hXi
                          have lx := World.block_lt_of_cell? _ _ x1
                          have lz := World.block_lt_of_cell? _ _ z1
                          have ly := World.block_lt_of_cell? _ _ y1
                          have HT3 := Go.Lib.hid fun h => t3 (HUB.out.1 h)
                          clear hcs hcy y0 hgd hg hbq t3
                          generalize S.getD i 0 = x at *
                          generalize Y.getD i 0 = z at *
                          generalize X.getD i 0 = y at *
                          have gz : decide (most < z) = false := decide_eq_false (by omega)
                          have gx : decide (z < x) = false := decide_eq_false (by omega)
                          cases hu : u
                          · subst hu
                            go_wp2
                            refine region_ext mixed (by kernel_rfl) ?_
                            repeat (go_big_quiet_step (fail))
                            refine wpQuiet_nil ?_
                            intro w12 hb12
                            go_wp2
                            exact ⟨⟨i + 1, by omega, by go_num, hbi.trans (hb12.mono hbi.size)⟩, by simp [intOf]; omega⟩
                          · have gy : decide (z < y) = false := decide_eq_false (by have := HT3.out hu; omega)
                            subst hu
                            go_wp2
                            refine region_ext mixed (by kernel_rfl) ?_
                            repeat (go_big_quiet_step (fail))
                            refine wpQuiet_nil ?_
                            intro w12 hb12
                            go_wp2
                            exact ⟨⟨i + 1, by omega, by go_num, hbi.trans (hb12.mono hbi.size)⟩, by simp [intOf]; omega⟩
                        · have hin' : ¬ ((i : Int) < (n : Int)) := by omega
                          go_wp2
                          go_ret
                          exact ⟨rfl, HB9.out.trans ((hb11.trans (hbi.mono hb11.size)).mono hs9)⟩
                    · have hG' : (G != 0) = true := by simpa using hG
                      obtain ⟨hY, h90⟩ := E8.out (by simp) hG
                      subst hY
                      by_cases hG9 : G = 90
                      · have hu : u = false := by
                          cases hu : u
                          · rfl
                          · exact absurd (HUB.out.1 hu) (h90 hG9)
                        subst hu
                        subst hG9
                        go_wp2
                        go_ret
                        exact ⟨rfl, HB9.out⟩
                      · have hG9' : (G != 90) = true := by simpa using hG9
                        go_wp2
                        go_ret
                        exact ⟨rfl, HB9.out⟩
          · obtain ⟨hS, hG, hFB⟩ := E1.out hF
            have hf0 : f0 = false := by
              cases hf : f0
              · rfl
              · exact absurd (HF0.out.1 hf) hFB
            subst hf0
            subst hS
            have hF' : (F != 0) = true := by simpa using hF
            have hG' : (G != 0) = true := by simpa using hG
            by_cases hF9 : F = 90
            · subst hF9
              go_wp2
              go_ret
              exact ⟨rfl, HB5.out⟩
            · have hF9' : (F == 90) = false := by rw [beq_eq_false_iff_ne]; exact hF9
              go_wp2
              go_ret
              exact ⟨rfl, HB5.out⟩
end Go.Proofs.Ythannibclhidcaa
