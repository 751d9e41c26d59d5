/- Layer 11: the document's Rects. -/
import Derived.Test.YtjippgflempdmaaGrRefR
namespace Go.Proofs.Ytjippgflempdmaa
set_option linter.unusedVariables false
set_option linter.unusedSimpArgs false
set_option maxRecDepth 100000
open Go.RowKit
attribute [local go_sem] max_fold min_fold

set_option maxRecDepth 100000 in
set_option maxHeartbeats 8000000 in
theorem rRects_any (B : Nat) (A A2 : Option Addr) (c c2 : Nat) (S : List Int) (L : List T2) (col gap rx ry rw_ rh : Int) (w : World) (hA : At B w A (ints S)) (hA2 : At B w A2 (t2s L)) (hB : B ≤ w.heap.size) (hl : S.length ≤ 9000000000000000000) (hl2 : L.length ≤ 9000000000000000000) :
    Calls Try.prog 24 #[.slice A S.length c, .slice A2 L.length c2, .int .i64 col, .int .i64 gap, .agg #[.int .i64 rx, .int .i64 ry, .int .i64 rw_, .int .i64 rh]] w (RctE (rcsR S L col gap ⟨rx, ry, rw_, rh⟩) (rcsE S L col gap ⟨rx, ry, rw_, rh⟩) w) := by
  have HS : Hid (∀ w', At B w' A (ints S) → Calls Try.prog 46 #[.slice A S.length c, .int .i64 64] w' fun e w'' => e = .returned (.int .i64 (numE 64 S)) ∧ w' = w'') := Go.Lib.hid fun w' h => reach_any B A c 64 S w' h hl
  have HZ : Hid (∀ w', At B w' A2 (t2s L) → B ≤ w'.heap.size → Calls Try.prog 51 #[.slice A2 L.length c2] w' fun e w'' => e = .returned (.int .i64 (szE L)) ∧ Below w'.heap.size w' w'') := Go.Lib.hid fun w' h h2 => rsized_any B A2 c2 L w' h h2 hl2
  obtain ⟨E, hE⟩ : ∃ E, askR S L col gap ⟨rx, ry, rw_, rh⟩ = E := ⟨_, rfl⟩
  have hEE : askE [numE 64 S, szE L, num1 64 col, num1 16384 gap, Geo.checkE ⟨rx, ry, rw_, rh⟩] = E := by rw [ask_five]; exact hE
  have HOK : Hid (E = 0 → wrongE S L col gap = 0 ∧ Geo.may ⟨rx, ry, rw_, rh⟩ = true) := Go.Lib.hid fun h => askR_ok (hE.trans h)
  have HWO : Hid (wrongE S L col gap = 0 → S.length = L.length → PlanOk (max col 1).toNat S L gap ∧ max col 1 = ((max col 1).toNat : Int) ∧ S.length ≤ 1024) := Go.Lib.hid wrong_ok
  have HE : Hid (rcsE S L col gap ⟨rx, ry, rw_, rh⟩ = if E = 0 then (if S.length = L.length then (if (allL (max col 1).toNat S L gap ⟨rx, ry, rw_, rh⟩ S.length).all Geo.may then 0 else 9) else 110) else E) := Go.Lib.hid (by rw [← hE]; rfl)
  have HR : Hid (rcsR S L col gap ⟨rx, ry, rw_, rh⟩ = if rcsE S L col gap ⟨rx, ry, rw_, rh⟩ = 0 then allL (max col 1).toNat S L gap ⟨rx, ry, rw_, rh⟩ S.length else []) := Go.Lib.hid rfl
  obtain ⟨N, hN⟩ : ∃ N, S.length = N := ⟨_, rfl⟩
  obtain ⟨M, hM⟩ : ∃ N, L.length = N := ⟨_, rfl⟩
  have HNM := Go.Lib.hid (⟨hN, hM⟩ : _ ∧ _)
  rw [hN] at HS HR
  rw [hM] at HZ
  rw [hN, hM] at HWO HE ⊢
  clear hE hl hl2 hN hM
  generalize numE 64 S = e1 at *
  generalize szE L = e2 at *
  generalize he3 : num1 64 col = e3 at *
  generalize he4 : num1 16384 gap = e4 at *
  obtain ⟨e5, he5⟩ : ∃ e, Geo.checkE ⟨rx, ry, rw_, rh⟩ = e := ⟨_, rfl⟩
  rw [he5] at hEE
  have HE3 := Go.Lib.hid he3
  have HE4 := Go.Lib.hid he4
  have HE5 := Go.Lib.hid he5
  have HEE := Go.Lib.hid hEE
  clear he3 he4 he5 hEE
  go_enter Try.func24, Try.ntmps24
  go_wp2
  obtain ⟨w0, hw0⟩ : ∃ w0, w.alloc (.cells #[.int .i64 rx, .int .i64 ry, .int .i64 rw_, .int .i64 rh] 42) = w0 := ⟨_, rfl⟩
  have hb0 : Below w.heap.size w w0 := hw0 ▸ (Below.refl _ _).alloc (Nat.le_refl _) _
  have hr0 : w0.heap[w.heap.size]? = some (.cells #[.int .i64 rx, .int .i64 ry, .int .i64 rw_, .int .i64 rh] 42 (0, 0)) := by rw [← hw0]; exact alloc_at _ _
  rw [hw0]
  clear hw0
  obtain ⟨qr, hqr⟩ : ∃ q, w.heap.size = q := ⟨_, rfl⟩
  have HQR := Go.Lib.hid hqr
  have HA := Go.Lib.hid (hA.below (hb0.mono hB))
  have HA2 := Go.Lib.hid (hA2.below (hb0.mono hB))
  have hB0 : B ≤ w0.heap.size := by have := hb0.size; omega
  have HB0 := Go.Lib.hid hb0
  rw [hqr] at hr0 ⊢
  clear hA hA2 hb0 hqr
  have k0 : w0.cell? ⟨qr, 0, none⟩ = some (.int .i64 rx) := by have := blk_cell hr0 0; simpa using this
  have k1 : w0.cell? ⟨qr, 1, none⟩ = some (.int .i64 ry) := by have := blk_cell hr0 1; simpa using this
  have k2 : w0.cell? ⟨qr, 2, none⟩ = some (.int .i64 rw_) := by have := blk_cell hr0 2; simpa using this
  have k3 : w0.cell? ⟨qr, 3, none⟩ = some (.int .i64 rh) := by have := blk_cell hr0 3; simpa using this
  have lr0 := blk_lt2 hr0
  refine region_mono 12 [[], [0], [], [2], [], [4], [], [6], [], [8], [1, 3, 5, 7, 9], [10]] (pick [IsV (.slice A N c), IsV (.int .i64 e1), IsV (.slice A2 M c2), IsV (.int .i64 e2), IsV (.int .i64 col), IsV (.int .i64 e3), IsV (.int .i64 gap), IsV (.int .i64 e4), IsV (.agg #[.int .i64 rx, .int .i64 ry, .int .i64 rw_, .int .i64 rh]), IsV (.int .i64 e5), BlkV #[.int .i64 e1, .int .i64 e2, .int .i64 e3, .int .i64 e4, .int .i64 e5] 25 5, IsV (.int .i64 E)]) mixed (by kernel_rfl) (pick_stable ?_) ?_ ?_
  · simp [IsV.stable, BlkV.stable]
  · simp only [List.take_succ_cons, List.take_zero, MonoObs, DepAll, dsOf, List.map_cons, List.map_nil]
    refine ⟨?_, ?_, ?_, ?_, ?_, ?_, ?_, ?_, ?_, ?_, ?_, ?_, trivial⟩
    all_goals simp [go_sem, upon1, pick, IsV, BlkV]
    all_goals first
      | exact fun w1 _ => Below.refl _ _
      | (intro w1 hw; simp [(bcell hw).1 _ _ lr0, k0, k1, k2, k3, go_sem, Result.andThen]; exact Below.refl _ _)
      | with_reducible exact fun w1 hw => same_up (HS.out w1 (HA.out.below (hw.mono hB0)))
      | with_reducible exact fun w1 hw => below_up (HZ.out w1 (HA2.out.below (hw.mono hB0)) (Nat.le_trans hB0 hw.size))
      | with_reducible exact fun w1 hw => same_up (HE3.out ▸ number_any col 64 w1)
      | with_reducible exact fun w1 hw => same_up (HE4.out ▸ number_any gap 16384 w1)
      | with_reducible exact fun w1 hw => below_up (HE5.out ▸ Geo.rcheck_any rx ry rw_ rh w1)
      | exact fun w1 hw => ⟨alloc_get _ _ _, (Below.refl _ _).alloc (Nat.le_refl _) _⟩
      | (rintro w1 hw v g rfl hg; have := rfirst_at g [e1, e2, e3, e4, e5] 5 w1 hg rfl rfl (by omega); rw [HEE.out] at this; exact same_up this)
  · intro w1 hb1
    simp only [show List.range 12 = [0, 1, 2, 3, 4, 5, 6, 7, 8, 9, 10, 11] from rfl, DepAll, dsOf, List.map_cons, List.map_nil, List.take_succ_cons, List.take_zero]
    rintro _ rfl _ rfl _ rfl _ rfl _ rfl _ rfl _ rfl _ rfl _ rfl _ rfl v10 ⟨g10, rfl, hg10⟩ _ rfl
    simp only [List.getD_cons_succ, List.getD_cons_zero, List.drop_succ_cons, List.drop_zero]
    have hr1 := (hb1.block _ lr0).trans hr0
    have HA1 := Go.Lib.hid (HA.out.below (hb1.mono hB0))
    have HA21 := Go.Lib.hid (HA2.out.below (hb1.mono hB0))
    have hs1 := hb1.size
    have HB1 := Go.Lib.hid (HB0.out.trans (hb1.mono HB0.out.size))
    clear hg10 hb1 hr0 k0 k1 k2 k3 HS HZ HA HA2 HEE
    by_cases h0 : E = 0
    · by_cases hlen : N = M
      · subst h0
        subst hlen
        have hlen : N = N := rfl
        obtain ⟨he1, hmay⟩ := HOK.out rfl
        obtain ⟨hok, hcol, hsl⟩ := HWO.out he1 hlen
        obtain ⟨m, hm⟩ : ∃ m : Nat, (max col 1).toNat = m := ⟨_, rfl⟩
        rw [hm] at hok hcol
        have hm1 := hok.wid.m1
        have hm2 := hok.wid.m2
        have hgap := hok.wid.g
        have hgg : okG gap = true := by simpa [okG, inB] using hgap
        have hub := use_bd (n := (m : Int)) (by omega) S N
        have hrN := rw_most (n := (m : Int)) (by omega) S N
        obtain ⟨U, hU⟩ : ∃ U, (useP m S N).toNat = U := ⟨_, rfl⟩
        obtain ⟨R, hR⟩ : ∃ R, rwN m S N = R := ⟨_, rfl⟩
        have hU64 : U ≤ 64 := by omega
        have hR1 : R ≤ 1024 := by omega
        obtain ⟨l1, hl1⟩ : ∃ l, usedL m S (wsL L) gap N = l := ⟨_, rfl⟩
        obtain ⟨l2, hl2⟩ : ∃ l, hgtL m S (hsL L) N = l := ⟨_, rfl⟩
        have h1len : l1.length = U := by rw [← hl1, usedL_len hm1, hU]
        have h2len : l2.length = R := by rw [← hl2, hgtL_len, hR]
        have h1ok : okN l1 := by rw [← hl1]; have := usedL_ok hok.wid; rwa [HNM.out.1] at this
        have h2ok : okN l2 := by rw [← hl2]; have := hgtL_ok (n := (m : Int)) (S := S) hok.hd; rwa [HNM.out.1] at this
        obtain ⟨hro1, hro2⟩ := may_room hmay
        obtain ⟨⟨f1, f2⟩, f3, f4⟩ := row_facts (room := rw_) h1ok (by omega) hgg hro1
        obtain ⟨⟨g1, g2⟩, g3, g4⟩ := row_facts (room := rh) h2ok (by omega) hgg hro2
        have HT1 : Hid (∀ w' A c, At w'.heap.size w' A (ints l1) → Calls Try.prog 57 #[.slice A U c] w' (TrkPost (trkL l1) U w')) := Go.Lib.hid fun w' A c h => by
          have := rtracks_any _ A c l1 w' h (Nat.le_refl _) (by omega)
          rwa [h1len] at this
        have HT2 : Hid (∀ w' A c, At w'.heap.size w' A (ints l2) → Calls Try.prog 57 #[.slice A R c] w' (TrkPost (trkL l2) R w')) := Go.Lib.hid fun w' A c h => by
          have := rtracks_any _ A c l2 w' h (Nat.le_refl _) (by omega)
          rwa [h2len] at this
        have HW1 : Hid (∀ w' A c, At w'.heap.size w' A (t3s (trkL l1)) → Calls Try.prog 56 #[.slice A U c, .int .i64 gap, .int .i64 rw_] w' (Int2E (rowR (trkL l1) gap rw_) (rowB (trkL l1) gap rw_) 0 w')) := Go.Lib.hid fun w' A c h => by
          have := rRow_any _ A c (trkL l1) gap rw_ w' h (Nat.le_refl _) (by rw [trkL_len]; omega)
          rwa [trkL_len, h1len, trk_row h1ok (by omega) hgg hro1] at this
        have HW2 : Hid (∀ w' A c, At w'.heap.size w' A (t3s (trkL l2)) → Calls Try.prog 56 #[.slice A R c, .int .i64 gap, .int .i64 rh] w' (Int2E (rowR (trkL l2) gap rh) (rowB (trkL l2) gap rh) 0 w')) := Go.Lib.hid fun w' A c h => by
          have := rRow_any _ A c (trkL l2) gap rh w' h (Nat.le_refl _) (by rw [trkL_len]; omega)
          rwa [trkL_len, h2len, trk_row h2ok (by omega) hgg hro2] at this
        have hall : allL m S L gap ⟨rx, ry, rw_, rh⟩ N = rctL m S ⟨rx, ry, rw_, rh⟩ (rowB (trkL l1) gap rw_) (rowR (trkL l1) gap rw_) (rowB (trkL l2) gap rh) (rowR (trkL l2) gap rh) N := by
          rw [← hl1, ← hl2]
          unfold allL xsL wdL ysL htL
          rw [HNM.out.1]
        have hx := HE.out
        rw [if_pos rfl, if_pos hlen, hm, hall] at hx
        have hy := HR.out
        rw [hm, hall] at hy
        have HEND1 : Hid (rcsE S L col gap ⟨rx, ry, rw_, rh⟩ = rctE m S ⟨rx, ry, rw_, rh⟩ (rowB (trkL l1) gap rw_) (rowR (trkL l1) gap rw_) (rowB (trkL l2) gap rh) (rowR (trkL l2) gap rh) N) := Go.Lib.hid hx
        have HEND2 := Go.Lib.hid hy
        rw [h1len] at f1 f2
        rw [h2len] at g1 g2
        have HLL := HNM.out.2
        have HNN := HNM.out.1
        have HSD := Go.Lib.hid fun (w : World) h => rsides_any w.heap.size A2 c2 L w h (Nat.le_refl _) (by omega)
        have HCE := Go.Lib.hid fun (w : World) h => rcells_any w.heap.size A c S col m w h (Nat.le_refl _) (by omega) hcol (by omega)
        have HHT := Go.Lib.hid fun (A2 : Option Addr) (c2 : Nat) (w : World) h h2 => rheights_any w.heap.size A A2 c c2 m S (hsL L) col w h h2 (Nat.le_refl _) (by omega) (by rw [hs_len]; omega) hok.hd hcol (by omega)
        have HWD := Go.Lib.hid fun (A2 : Option Addr) (c2 : Nat) (w : World) h h2 => rwidths_any w.heap.size A A2 c c2 m S (wsL L) col gap w h h2 (Nat.le_refl _) hok.wid (by rw [ws_len]; omega) hcol
        rw [HLL] at HSD
        rw [HNN] at HCE
        rw [HNN, hs_len, HLL, hl2] at HHT
        rw [HNN, ws_len, HLL] at HWD
        have HWT : Hid ((widL m S (wsL L) gap N).take U = l1) := Go.Lib.hid (by rw [← hl1, ← hU]; rfl)
        clear hx hy hall HE HR HWO HOK h1ok h2ok hro1 hro2 hgg he1 HLL HNN
        generalize rowR (trkL l1) gap rw_ = ws at *
        generalize rowB (trkL l1) gap rw_ = xs at *
        generalize rowR (trkL l2) gap rh = hs at *
        generalize rowB (trkL l2) gap rh = ys at *
        have HHU := Go.Lib.hid hU
        have HHR := Go.Lib.hid hR
        have HF := Go.Lib.hid (⟨f1, f2, f3, f4, g1, g2, g3, g4, hmay⟩ : _ ∧ _ ∧ _ ∧ _ ∧ _ ∧ _ ∧ _ ∧ _ ∧ _)
        have H2L := Go.Lib.hid h2len
        clear hl1 hl2 h1len h2len f1 f2 f3 f4 g1 g2 g3 g4 hmay hlen hm hcol hok
        have HA2s := Go.Lib.hid ((HA21.out.mono (show B ≤ w1.heap.size by omega)))
        go_wp2_with fail
        refine (HSD.out w1 HA2s.out).mono ?_
        rintro e w3 ⟨As, cs, Ah, ch, rfl, ht3⟩
        have hb3 := ht3.below
        have has := At.of_own (own_len9 ht3.o1 (show (wsL L).length = N by rw [ws_len]; exact HNM.out.2))
        have hah := At.of_own (own_len9 ht3.o2 (show (hsL L).length = N by rw [hs_len]; exact HNM.out.2))
        have hr3 := (hb3.block _ (blk_lt2 hr1)).trans hr1
        have HB3 := Go.Lib.hid (HB1.out.trans (hb3.mono HB1.out.size))
        have ha3 := (HA1.out.mono (show B ≤ w1.heap.size by omega)).on9 hb3
        clear ht3 hr1 hb3
        go_wp2_with fail
        refine (HCE.out w3 ha3).mono ?_
        rintro e w4 ⟨Ap, cp, Ad, cd, rfl, hc4⟩
        have hb4 := hc4.below
        have hap := At.of_own hc4.o1
        have had := At.of_own hc4.o2
        have hr4 := (hb4.block _ (blk_lt2 hr3)).trans hr3
        have HB4 := Go.Lib.hid (HB3.out.trans (hb4.mono HB3.out.size))
        have ha4 := ha3.on9 hb4
        have has4 := has.on9 hb4
        have hah4 := hah.on9 hb4
        clear hc4 hr3 hb4 ha3 has hah
        go_wp2_with fail
        refine (HWD.out _ _ w4 ha4 has4).mono ?_
        rintro e w5 ⟨Aw, cw, rfl, how, hb5⟩
        rw [widL_len] at how ⊢
        obtain ⟨gw, rfl, hmc, hcm⟩ := own_pos how (by omega)
        have haw := At.of_own how
        have haw1 := haw.take U
        rw [show (ints (widL m S (wsL L) gap N)).take U = ints ((widL m S (wsL L) gap N).take U) by simp [ints], HWT.out] at haw1
        have hr5 := (hb5.block _ (blk_lt2 hr4)).trans hr4
        have HB5 := Go.Lib.hid (HB4.out.trans (hb5.mono HB4.out.size))
        have HA5 := Go.Lib.hid (ha4.on9 hb5)
        have HAH5 := Go.Lib.hid (hah4.on9 hb5)
        have HAP5 := Go.Lib.hid (hap.on9 hb5)
        have HAD5 := Go.Lib.hid (had.on9 hb5)
        have HAW5 := Go.Lib.hid haw1
        clear how hr4 hb5 ha4 has4 hah4 hap had haw haw1
        go_wp2
        have hUU : useP m S N = (U : Int) := by have := HHU.out; omega
        have HUS : Hid (∀ w1, Below w5.heap.size w5 w1 → Calls Try.prog 54 #[.slice Ap N cp, .slice Ad N cd] w1 fun e w' => e = .returned (.int .i64 U) ∧ Below w1.heap.size w1 w') := Go.Lib.hid fun w1 hw => hUU ▸ rused_any _ Ap Ad cp cd m S N w1 (HAP5.out.on9 hw) (HAD5.out.on9 hw) (Nat.le_refl _) (by omega) (by omega) (by omega)
        have kr2 : w5.cell? ⟨qr, 2, none⟩ = some (.int .i64 rw_) := by have := blk_cell hr5 2; simpa using this
        have lr5 := blk_lt2 hr5
        have huc : (U : Int) ≤ (cw : Int) := by omega
        clear hUU hub
        refine region_mono 17 [[], [], [], [1, 2], [0, 3], [4], [], [], [7], [8], [5, 6, 9], [10], [11], [11], [11], [12], [13]] (pick [IsV (.slice (some ⟨gw, 0, none⟩) m cw), IsV (.slice Ap N cp), IsV (.slice Ad N cd), IsV (.int .i64 U), IsV (.slice (some ⟨gw, 0, none⟩) U cw), SlV U (t3s (trkL l1)), IsV (.int .i64 gap), IsV (.pointer (some ⟨qr, 2, none⟩)), IsV (.pointer (some ⟨qr, 2, none⟩)), IsV (.int .i64 rw_), Sl2 U (ints ws) (ints xs), Sl2 U (ints ws) (ints xs), SlV U (ints ws), SlV U (ints xs), IsV (.int .i64 0), SlV U (ints ws), SlV U (ints xs)]) mixed (by kernel_rfl) (pick_stable ?_) ?_ ?_
        · simp [IsV.stable, SlV.stable, Sl2.stable]
        · simp only [List.take_succ_cons, List.take_zero, MonoObs, DepAll, dsOf, List.map_cons, List.map_nil]
          refine ⟨?_, ?_, ?_, ?_, ?_, ?_, ?_, ?_, ?_, ?_, ?_, ?_, ?_, ?_, ?_, ?_, ?_, trivial⟩
          all_goals simp [go_sem, upon1, pick, IsV, huc]
          all_goals first
            | exact fun w1 _ => Below.refl _ _
            | with_reducible exact fun w1 hw => below_up (HUS.out w1 hw)
            | with_reducible exact fun w1 hw => trk_up (HT1.out w1 _ _ (HAW5.out.on9 hw))
            | (intro w1 hw; rw [(bcell hw).1 _ _ lr5, kr2]; simp [go_sem, Result.andThen]; exact Below.refl _ _)
            | (rintro w1 hw v ⟨A, c, rfl, h⟩; exact sl2_up HF.out.1 HF.out.2.1 (HW1.out w1 A c h))
            | (rintro w1 hw v h; exact ⟨h, Below.refl _ _⟩)
            | (rintro w1 hw v ⟨A, c, A2, c2, rfl, h1, h2⟩; simp [go_sem]; first | exact ⟨⟨A, c, rfl, h1⟩, Below.refl _ _⟩ | exact ⟨⟨A2, c2, rfl, h2⟩, Below.refl _ _⟩ | exact Below.refl _ _)
        · intro w6 hb6
          simp only [show List.range 17 = [0, 1, 2, 3, 4, 5, 6, 7, 8, 9, 10, 11, 12, 13, 14, 15, 16] from rfl, DepAll, dsOf, List.map_cons, List.map_nil, List.take_succ_cons, List.take_zero]
          rintro _ rfl _ rfl _ rfl _ rfl _ rfl v5 ⟨A5, c5, rfl, _⟩ _ rfl _ rfl _ rfl _ rfl v10 ⟨_, _, _, _, rfl, _, _⟩ v11 ⟨_, _, _, _, rfl, _, _⟩ v12 ⟨_, _, rfl, _⟩ v13 ⟨_, _, rfl, _⟩ _ rfl v15 ⟨Ae, ce, rfl, hws⟩ v16 ⟨Ax, cx, rfl, hxs⟩
          simp only [List.getD_cons_succ, List.getD_cons_zero, List.drop_succ_cons, List.drop_zero]
          have hr6 := (hb6.block _ lr5).trans hr5
          have HB6 := Go.Lib.hid (HB5.out.trans (hb6.mono HB5.out.size))
          have HA6 := Go.Lib.hid (HA5.out.on9 hb6)
          have HAH6 := Go.Lib.hid (HAH5.out.on9 hb6)
          have HAP6 := Go.Lib.hid (HAP5.out.on9 hb6)
          have HAD6 := Go.Lib.hid (HAD5.out.on9 hb6)
          have HWS6 := Go.Lib.hid hws
          have HXS6 := Go.Lib.hid hxs
          have lr6 := blk_lt2 hr6
          have kr3 : w6.cell? ⟨qr, 3, none⟩ = some (.int .i64 rh) := by have := blk_cell hr6 3; simpa using this
          clear hb6 hws hxs kr2 hr5 HUS
          go_wp2
          refine region_mono 16 [[], [], [], [0, 1, 2], [3], [], [], [6], [7], [4, 5, 8], [9], [10], [10], [10], [11], [12]] (pick [IsV (.slice A N c), IsV (.slice Ah N ch), IsV (.int .i64 col), SlV R (ints l2), SlV R (t3s (trkL l2)), IsV (.int .i64 gap), IsV (.pointer (some ⟨qr, 2, none⟩)), IsV (.pointer (some ⟨qr, 3, none⟩)), IsV (.int .i64 rh), Sl2 R (ints hs) (ints ys), Sl2 R (ints hs) (ints ys), SlV R (ints hs), SlV R (ints ys), IsV (.int .i64 0), SlV R (ints hs), SlV R (ints ys)]) mixed (by kernel_rfl) (pick_stable ?_) ?_ ?_
          · simp [IsV.stable, SlV.stable, Sl2.stable]
          · simp only [List.take_succ_cons, List.take_zero, MonoObs, DepAll, dsOf, List.map_cons, List.map_nil]
            refine ⟨?_, ?_, ?_, ?_, ?_, ?_, ?_, ?_, ?_, ?_, ?_, ?_, ?_, ?_, ?_, ?_, trivial⟩
            all_goals simp [go_sem, upon1, pick, IsV]
            all_goals first
              | exact fun w1 _ => Below.refl _ _
              | with_reducible exact fun w1 hw => sl_up H2L.out (HHT.out _ _ w1 (HA6.out.on9 hw) (HAH6.out.on9 hw))
              | (rintro w1 hw v ⟨A, c, rfl, h⟩; exact trk_up (HT2.out w1 A c h))
              | (intro w1 hw; rw [(bcell hw).1 _ _ lr6, kr3]; simp [go_sem, Result.andThen]; exact Below.refl _ _)
              | (rintro w1 hw v ⟨A, c, rfl, h⟩; exact sl2_up HF.out.2.2.2.2.1 HF.out.2.2.2.2.2.1 (HW2.out w1 A c h))
              | (rintro w1 hw v h; exact ⟨h, Below.refl _ _⟩)
              | (rintro w1 hw v ⟨A, c, A2, c2, rfl, h1, h2⟩; simp [go_sem]; first | exact ⟨⟨A, c, rfl, h1⟩, Below.refl _ _⟩ | exact ⟨⟨A2, c2, rfl, h2⟩, Below.refl _ _⟩ | exact Below.refl _ _)
          · intro w7 hb7
            simp only [show List.range 16 = [0, 1, 2, 3, 4, 5, 6, 7, 8, 9, 10, 11, 12, 13, 14, 15] from rfl, DepAll, dsOf, List.map_cons, List.map_nil, List.take_succ_cons, List.take_zero]
            rintro _ rfl _ rfl _ rfl v3 ⟨_, _, rfl, _⟩ v4 ⟨_, _, rfl, _⟩ _ rfl _ rfl _ rfl _ rfl v9 ⟨_, _, _, _, rfl, _, _⟩ v10 ⟨_, _, _, _, rfl, _, _⟩ v11 ⟨_, _, rfl, _⟩ v12 ⟨_, _, rfl, _⟩ _ rfl v14 ⟨Ag, cg, rfl, hhs⟩ v15 ⟨Ay, cy, rfl, hys⟩
            simp only [List.getD_cons_succ, List.getD_cons_zero, List.drop_succ_cons, List.drop_zero]
            have hr7 := (hb7.block _ lr6).trans hr6
            have HB7 := Go.Lib.hid (HB6.out.trans (hb7.mono HB6.out.size))
            have HAP7 := Go.Lib.hid (HAP6.out.on9 hb7)
            have HAD7 := Go.Lib.hid (HAD6.out.on9 hb7)
            have HWS7 := Go.Lib.hid (HWS6.out.on9 hb7)
            have HXS7 := Go.Lib.hid (HXS6.out.on9 hb7)
            have HHS7 := Go.Lib.hid hhs
            have HYS7 := Go.Lib.hid hys
            have HR7 := Go.Lib.hid hr7
            clear hb7 hhs hys kr3 hr6 hr7 HT1 HT2 HW1 HW2 HHT HSD HCE HWD HAW5
            have hHL : Hid ((ptsL (m : Int) S N).length = N ∧ (wdsL (m : Int) S N).length = N) := Go.Lib.hid ⟨ptsL_len _ _ _, wdsL_len _ _ _⟩
            have hmb := (Geo.may_iff _ _ _ _).1 HF.out.2.2.2.2.2.2.2.2
            go_wp2
            have H0 : Hid (w7.ownsRow w7.heap.size 42 4 (.slice none 0 0) 0 (Geo.rcells (rctL m S ⟨rx, ry, rw_, rh⟩ xs ws ys hs 0)) ∧ Below w7.heap.size w7 w7 ∧ ∀ q ∈ rctL m S ⟨rx, ry, rw_, rh⟩ xs ws ys hs 0, Geo.may q = true) := Go.Lib.hid ⟨World.ownsRow_nil _ _ _ _, Below.refl _ _, fun q hq => by simp [rctL] at hq⟩
            go_loopw [24, 25, 26, 27, 28, 29] (fun o_ i_ _ _ _ _ wr => ∃ k : Nat, k ≤ N ∧ i_ = .int .i64 k ∧ Hid (wr.ownsRow w7.heap.size 42 4 o_ k (Geo.rcells (rctL m S ⟨rx, ry, rw_, rh⟩ xs ws ys hs k)) ∧ Below w7.heap.size w7 wr ∧ ∀ q ∈ rctL m S ⟨rx, ry, rw_, rh⟩ xs ws ys hs k, Geo.may q = true)) (fun _ i_ _ _ _ _ _ => N - (intOf i_).toNat)
            case atStart => exact ⟨0, by omega, rfl, H0⟩
            case round =>
              clear H0
              obtain ⟨k, hk, rfl, H⟩ := hrel
              by_cases hlt : k < N
              · have hli : (k : Int) < (N : Int) := by omega
                have hcb := col_bd (n := (m : Int)) (by omega) S k
                have hwb := wide_bd (n := (m : Int)) (by omega) S k
                have hue := use_ge (n := (m : Int)) (S := S) hlt
                have hyR0 := rw_lt (n := (m : Int)) (by omega) S hlt
                rw [HHR.out] at hyR0
                have hUe := HHU.out
                obtain ⟨x, hx⟩ : ∃ x : Nat, colP m S k = x := ⟨(colP m S k).toNat, by omega⟩
                obtain ⟨l, hl⟩ : ∃ l : Nat, colP m S k + wideP m S k - 1 = l := ⟨(colP m S k + wideP m S k - 1).toNat, by omega⟩
                obtain ⟨y, hy⟩ : ∃ y, rowP m S k = y := ⟨_, rfl⟩
                have hwd : wideP m S k = (l : Int) + 1 - x := by omega
                have hlU0 : l < U := by omega
                have hxl0 : x ≤ l := by omega
                rw [hy] at hyR0
                obtain ⟨gp, op, rfl, lgp, p0, p1⟩ := HAP7.out.t2 (k := k) (by rw [hHL.out.1]; exact hlt)
                rw [show (ptsL (m : Int) S N)[k]'(by rw [hHL.out.1]; exact hlt) = ⟨colP m S k, (rowP m S k : Int)⟩ by simp [ptsL]] at p0 p1
                simp only [hx, hy] at p0 p1
                obtain ⟨gd, od, rfl, lgd, p2⟩ := HAD7.out.num (k := k) (by rw [hHL.out.2]; exact hlt)
                rw [show (wdsL (m : Int) S N).getD k 0 = wideP m S k by simp [wdsL, List.getD, hlt], hwd] at p2
                obtain ⟨gx, ox, rfl, lgx, p3⟩ := HXS7.out.num (k := x) (by rw [HF.out.2.1]; omega)
                have p4 := (HXS7.out.num2 (k := l) (by rw [HF.out.2.1]; omega)).2
                obtain ⟨ge, oe, rfl, lge, p5⟩ := HWS7.out.num (k := l) (by rw [HF.out.1]; omega)
                obtain ⟨gy, oy, rfl, lgy, p6⟩ := HYS7.out.num (k := y) (by rw [HF.out.2.2.2.2.2.1]; exact hyR0)
                obtain ⟨gg, og, rfl, lgg, p7⟩ := HHS7.out.num (k := y) (by rw [HF.out.2.2.2.2.1]; exact hyR0)
                have v1 := HF.out.2.2.2.1 _ (getD_in9 (show x < xs.length by rw [HF.out.2.1]; omega))
                have v2 := HF.out.2.2.2.1 _ (getD_in9 (show l < xs.length by rw [HF.out.2.1]; omega))
                have v3 := HF.out.2.2.1 _ (getD_in9 (show l < ws.length by rw [HF.out.1]; omega))
                have v4 := HF.out.2.2.2.2.2.2.2.1 _ (getD_in9 (show y < ys.length by rw [HF.out.2.2.2.2.2.1]; omega))
                have v5 := HF.out.2.2.2.2.2.2.1 _ (getD_in9 (show y < hs.length by rw [HF.out.2.2.2.2.1]; omega))
                have hq0 : w7.cell? ⟨qr, 0, none⟩ = some (.int .i64 rx) := by have := blk_cell HR7.out 0; simpa using this
                have hq1 : w7.cell? ⟨qr, 1, none⟩ = some (.int .i64 ry) := by have := blk_cell HR7.out 1; simpa using this
                have lq7 := blk_lt2 HR7.out
                have hP : rctP m S ⟨rx, ry, rw_, rh⟩ xs ws ys hs k = ⟨rx + xs.getD x 0, ry + ys.getD y 0, xs.getD l 0 + ws.getD l 0 - xs.getD x 0, hs.getD y 0⟩ := by
                  unfold rctP
                  rw [hl, hx, hy, Int.toNat_natCast, Int.toNat_natCast]
                have HQ : Hid (rctL m S ⟨rx, ry, rw_, rh⟩ xs ws ys hs (k + 1) = rctL m S ⟨rx, ry, rw_, rh⟩ xs ws ys hs k ++ [⟨rx + xs.getD x 0, ry + ys.getD y 0, xs.getD l 0 + ws.getD l 0 - xs.getD x 0, hs.getD y 0⟩]) := Go.Lib.hid (by rw [rctL_succ, hP])
                have HBAD : Hid (Geo.may ⟨rx + xs.getD x 0, ry + ys.getD y 0, xs.getD l 0 + ws.getD l 0 - xs.getD x 0, hs.getD y 0⟩ = false → rcsR S L col gap ⟨rx, ry, rw_, rh⟩ = [] ∧ rcsE S L col gap ⟨rx, ry, rw_, rh⟩ = 9) := Go.Lib.hid fun h => by
                  have h9 := rctE_bad (n := (m : Int)) (S := S) (r := ⟨rx, ry, rw_, rh⟩) (xs := xs) (ws := ws) (ys := ys) (hs := hs) hlt (by rw [hP]; exact h)
                  have h8 := HEND1.out.trans h9
                  exact ⟨by rw [HEND2.out, if_neg (by rw [h8]; decide)], h8⟩
                have HK := Go.Lib.hid (rctL_len (m : Int) S ⟨rx, ry, rw_, rh⟩ xs ws ys hs k)
                clear hP hl hx hy hcb hwb hue hUe hwd
                generalize xs.getD x 0 = x0 at *
                generalize xs.getD l 0 = x1 at *
                generalize ws.getD l 0 = w0_ at *
                generalize ys.getD y 0 = y0 at *
                generalize hs.getD y 0 = h0 at *
                have HFK : Hid (∀ w', Below w7.heap.size w7 w' → w'.cell? ⟨gp, op + k * 2, none⟩ = some (.int .i64 x) ∧ w'.cell? ⟨gp, op + k * 2 + 1, none⟩ = some (.int .i64 y) ∧ w'.cell? ⟨gd, od + k, none⟩ = some (.int .i64 ((l : Int) + 1 - x)) ∧ w'.cell? ⟨gx, ox + x, none⟩ = some (.int .i64 x0) ∧ w'.cell? ⟨gx, ox + l, none⟩ = some (.int .i64 x1) ∧ w'.cell? ⟨ge, oe + l, none⟩ = some (.int .i64 w0_) ∧ w'.cell? ⟨gy, oy + y, none⟩ = some (.int .i64 y0) ∧ w'.cell? ⟨gg, og + y, none⟩ = some (.int .i64 h0) ∧ w'.cell? ⟨qr, 0, none⟩ = some (.int .i64 rx) ∧ w'.cell? ⟨qr, 1, none⟩ = some (.int .i64 ry) ∧ gp < w'.heap.size ∧ gd < w'.heap.size ∧ gx < w'.heap.size ∧ ge < w'.heap.size ∧ gy < w'.heap.size ∧ gg < w'.heap.size ∧ qr < w'.heap.size) := Go.Lib.hid fun w' h => by
                  obtain ⟨hc, _⟩ := bcell h
                  have hz := h.size
                  exact ⟨(hc _ _ lgp).trans p0, (hc _ _ lgp).trans p1, (hc _ _ lgd).trans p2, (hc _ _ lgx).trans p3, (hc _ _ lgx).trans p4, (hc _ _ lge).trans p5, (hc _ _ lgy).trans p6, (hc _ _ lgg).trans p7, (hc _ _ lq7).trans hq0, (hc _ _ lq7).trans hq1, by omega, by omega, by omega, by omega, by omega, by omega, by omega⟩
                clear p0 p1 p2 p3 p4 p5 p6 p7 hq0 hq1 lgp lgd lgx lge lgy lgg lq7
                obtain ⟨p0, p1, p2, p3, p4, p5, p6, p7, hq0, hq1, lgp, lgd, lgx, lge, lgy, lgg, lq7⟩ := HFK.out _ H.out.2.1
                have hxl : (x : Int) + ((l : Int) + 1 - x) - 1 = l := by omega
                have hb1 : (x : Int) ≤ 64 := by omega
                have hlU : (l : Int) < (U : Int) := by omega
                have hxU : (x : Int) < (U : Int) := by omega
                have hyR : (y : Int) < (R : Int) := by omega
                go_wp2
                refine region_ext mixed (by kernel_rfl) ?_
                (repeat (go_big_quiet_step (fail)))
                refine wpQuiet_nil ?_
                intro w8 hb8
                (try rw [hxl])
                have HB8 := Go.Lib.hid (H.out.2.1.trans (hb8.mono H.out.2.1.size))
                clear p0 p1 p2 p3 p4 p5 p6 p7 hq0 hq1 lgp lgd lgx lge lgy lgg lq7
                obtain ⟨p0, p1, p2, p3, p4, p5, p6, p7, hq0, hq1, lgp, lgd, lgx, lge, lgy, lgg, lq7⟩ := HFK.out _ HB8.out
                go_wp2
                (apply region_make1 (Good := NewCells w8 (fun b => .pointer (some ⟨b, 0, none⟩)) #[.int .i64 0, .int .i64 0, .int .i64 0, .int .i64 0] 42) (W := w8) 33 32 mixed rfl rfl (by kernel_rfl) (by decide) NewCells.mono; (focus (intro V hV; have hsV := hV.size; obtain ⟨hcV, hfV⟩ := bcell hV; have zV_0 : qr < V.heap.size := (by omega); have yV_0 : qr < V.heap.size + 1 := (by omega); have zV_1 : gp < V.heap.size := (by omega); have yV_1 : gp < V.heap.size + 1 := (by omega); have zV_2 : gx < V.heap.size := (by omega); have yV_2 : gx < V.heap.size + 1 := (by omega); have zV_3 : ge < V.heap.size := (by omega); have yV_3 : ge < V.heap.size + 1 := (by omega); have zV_4 : gg < V.heap.size := (by omega); have yV_4 : gg < V.heap.size + 1 := (by omega); simp only [List.length_cons, List.length_nil, Nat.reduceAdd, Nat.reduceSub, List.take_succ_cons, List.take_zero, List.drop_succ_cons, List.drop_zero, List.cons_append, List.nil_append, List.append_nil]; (repeat (go_big_quiet_step (fail))); exact wpQuiet_nil rfl)); (focus (exact makes_new fun w => by simp [go_sem])); rintro v w9 ⟨b9, hge9, hlt9, hblk9, rfl⟩ hb9; have hs9 := hb9.size; obtain ⟨hc9, hf9⟩ := bcell hb9; have hk9 := blk_cell hblk9; have hl9 := blk_frozen hblk9; have zw9_0 : qr < w9.heap.size := (by omega); have yw9_0 : qr < w9.heap.size + 1 := (by omega); have zw9_1 : gp < w9.heap.size := (by omega); have yw9_1 : gp < w9.heap.size + 1 := (by omega); have zw9_2 : gx < w9.heap.size := (by omega); have yw9_2 : gx < w9.heap.size + 1 := (by omega); have zw9_3 : ge < w9.heap.size := (by omega); have yw9_3 : ge < w9.heap.size + 1 := (by omega); have zw9_4 : gg < w9.heap.size := (by omega); have yw9_4 : gg < w9.heap.size + 1 := (by omega); simp only [List.length_cons, List.length_nil, Nat.reduceAdd, Nat.reduceSub, List.take_succ_cons, List.take_zero, List.drop_succ_cons, List.drop_zero, List.cons_append, List.nil_append, List.append_nil])
                go_wp2_with fail
                have hb79 : Below w7.heap.size w7 w9 := HB8.out.trans (hb9.mono HB8.out.size)
                have hs78 := HB8.out.size
                have hg7 : w7.heap.size ≤ b9 := by omega
                have hb710 := (((hb79.setCell (p := ⟨b9, 0, none⟩) hg7 (.int .i64 (rx + x0))).setCell (p := ⟨b9, 1, none⟩) hg7 (.int .i64 (ry + y0))).setCell (p := ⟨b9, 2, none⟩) hg7 (.int .i64 (x1 + w0_ - x0))).setCell (p := ⟨b9, 3, none⟩) hg7 (.int .i64 h0)
                have hq10 := store4 (u0 := .int .i64 (rx + x0)) (u1 := .int .i64 (ry + y0)) (u2 := .int .i64 (x1 + w0_ - x0)) (u3 := .int .i64 h0) hblk9
                have ho9 := own_below' (own_below' H.out.1 hb8) hb9
                have hob : u24.ownBlock ≠ some b9 := fun e => by
                  have h1 := (H.out.1.lt b9 e).2
                  have h2 := hb8.size
                  omega
                have ho10 := own_off (own_off (own_off (own_off ho9 (j := 0) (u := .int .i64 (rx + x0)) hob) (j := 1) (u := .int .i64 (ry + y0)) hob) (j := 2) (u := .int .i64 (x1 + w0_ - x0)) hob) (j := 3) (u := .int .i64 h0) hob
                generalize World.setCell (World.setCell (World.setCell (World.setCell w9 _ _) _ _) _ _) _ _ = w10 at *
                refine (Geo.rmay_any _ _ _ _ _).mono ?_
                rintro e w11 ⟨rfl, hb11⟩
                have hq11 := (hb11.block _ (blk_lt2 hq10)).trans hq10
                have HO11 := Go.Lib.hid (own_below' ho10 hb11)
                have HB11 := Go.Lib.hid (hb710.trans (hb11.mono hb710.size))
                have HMAY := Go.Lib.hid H.out.2.2
                clear hb79 hs78 hg7 hb710 hq10 ho9 hob ho10 hb11 hb8 hb9 hblk9 hge9 hlt9 hs9 hc9 hf9 hk9 hl9 HB8 H HFK p0 p1 p2 p3 p4 p5 p6 p7 hq0 hq1 lgp lgd lgx lge lgy lgg lq7
                have q0 : w11.cell? ⟨b9, 0, none⟩ = some (.int .i64 (rx + x0)) := by have := blk_cell hq11 0; simpa using this
                have q1 : w11.cell? ⟨b9, 1, none⟩ = some (.int .i64 (ry + y0)) := by have := blk_cell hq11 1; simpa using this
                have q2 : w11.cell? ⟨b9, 2, none⟩ = some (.int .i64 (x1 + w0_ - x0)) := by have := blk_cell hq11 2; simpa using this
                have q3 : w11.cell? ⟨b9, 3, none⟩ = some (.int .i64 h0) := by have := blk_cell hq11 3; simpa using this
                have lq11 := blk_lt2 hq11
                cases hm : Geo.may ⟨rx + x0, ry + y0, x1 + w0_ - x0, h0⟩
                · have HEE := Go.Lib.hid (HBAD.out hm)
                  clear hm
                  go_wp2
                  rw [HEE.out.1, HEE.out.2]
                  go_ret2
                  exact RctE.none (HB7.out.trans (HB11.out.mono HB7.out.size))
                · have HN : Hid (∀ q ∈ rctL m S ⟨rx, ry, rw_, rh⟩ xs ws ys hs (k + 1), Geo.may q = true) := Go.Lib.hid (by
                    rw [HQ.out]
                    intro q hq
                    rcases List.mem_append.1 hq with h | h
                    · exact HMAY.out q h
                    · simp at h
                      rw [h]
                      exact hm)
                  clear hm HBAD
                  have hl11 := HB11.out.size
                  generalize rctL m S ⟨rx, ry, rw_, rh⟩ xs ws ys hs k = LK at *
                  go_wp2_with (first | (at_builtin; refine Geo.append_rect rfl (.tmp 163) (.tmp 165) rfl w7.heap.size _ LK ⟨rx + x0, ry + y0, x1 + w0_ - x0, h0⟩ w11.heap.size rfl rfl (own_len' (HO11.out.alloc _) HK.out.symm) (by simp [go_sem]) (by simp [go_sem]) (by simp [go_sem]) (by simp [go_sem]) ?_ ?_ ?_))
                  · rw [HK.out]; omega
                  · (try simp); omega
                  intro v12 w12 hown12 hg12 _
                  have H4 : Hid (w12.ownsRow w7.heap.size 42 4 v12 (k + 1) (Geo.rcells (LK ++ [⟨rx + x0, ry + y0, x1 + w0_ - x0, h0⟩])) ∧ Below w7.heap.size w7 w12) := Go.Lib.hid ⟨own_len' hown12 (by simp [HK.out]), (HB11.out.alloc HB11.out.size _).grown hg12 (by simp; omega) (own_ge HO11.out)⟩
                  rw [← HQ.out] at H4
                  clear hown12 hg12
                  go_wp2
                  go_roundw
                  case rel => exact ⟨k + 1, by omega, by go_num, Go.Lib.hid ⟨H4.out.1, H4.out.2, HN.out⟩⟩
                  case measure => simp [intOf]; omega
              · have hlt' : ¬ ((k : Int) < (N : Int)) := by omega
                have hkn : k = N := by omega
                subst hkn
                have h9 := rctE_good H.out.2.2
                have h8 := HEND1.out.trans h9
                have HEE : Hid (rcsR S L col gap ⟨rx, ry, rw_, rh⟩ = rctL m S ⟨rx, ry, rw_, rh⟩ xs ws ys hs k ∧ rcsE S L col gap ⟨rx, ry, rw_, rh⟩ = 0) := Go.Lib.hid ⟨by rw [HEND2.out, if_pos h8], h8⟩
                obtain ⟨Ao, co, rfl⟩ := own_shape H.out.1
                have HK := Go.Lib.hid (rctL_len (m : Int) S ⟨rx, ry, rw_, rh⟩ xs ws ys hs k)
                clear h8 h9
                go_wp2
                rw [HEE.out.1, HEE.out.2]
                go_ret2
                exact ⟨Ao, co, by rw [HK.out]; rfl, by rw [HK.out]; exact own_mono H.out.1 HB7.out.size, HB7.out.trans (H.out.2.1.mono HB7.out.size)⟩
      · have hll : ¬ ((M : Int) = (N : Int)) := by omega
        have hx := HE.out
        rw [if_pos h0, if_neg hlen] at hx
        have HEND : Hid (rcsR S L col gap ⟨rx, ry, rw_, rh⟩ = [] ∧ rcsE S L col gap ⟨rx, ry, rw_, rh⟩ = 110) := Go.Lib.hid ⟨by rw [HR.out, if_neg (by rw [hx]; decide)], hx⟩
        subst h0
        clear HWO HE HR hx HOK hlen
        go_wp2
        rw [HEND.out.1, HEND.out.2]
        go_ret2
        exact RctE.none HB1.out
    · have h0' : (E == 0) = false := by simpa using h0
      have hx := HE.out
      rw [if_neg h0] at hx
      have HEND : Hid (rcsR S L col gap ⟨rx, ry, rw_, rh⟩ = [] ∧ rcsE S L col gap ⟨rx, ry, rw_, rh⟩ = E) := Go.Lib.hid ⟨by rw [HR.out, if_neg (by rw [hx]; exact h0)], hx⟩
      clear HWO HE HR hx HOK
      go_wp2
      rw [HEND.out.1, HEND.out.2]
      go_ret2
      exact RctE.none HB1.out
end Go.Proofs.Ytjippgflempdmaa
