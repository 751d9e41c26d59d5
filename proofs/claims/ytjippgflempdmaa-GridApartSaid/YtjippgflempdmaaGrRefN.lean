/- Layer 11: the document's Need. Printed by gen_rn.py. -/
import Derived.Test.YtjippgflempdmaaMgGrF
namespace Go.Proofs.Ytjippgflempdmaa
set_option linter.unusedVariables false
set_option linter.unusedSimpArgs false
set_option maxRecDepth 100000
open Go.RowKit
attribute [local go_sem] max_fold min_fold

set_option maxRecDepth 100000 in
set_option maxHeartbeats 8000000 in
theorem rNeed_any (B : Nat) (A A2 : Option Addr) (c c2 : Nat) (S : List Int) (L : List T2) (col gap : Int) (w : World) (hA : At B w A (ints S)) (hA2 : At B w A2 (t2s L)) (hB : B ≤ w.heap.size) (hl : S.length ≤ 9000000000000000000) (hl2 : L.length ≤ 9000000000000000000) :
    Calls Try.prog 23 #[.slice A S.length c, .slice A2 L.length c2, .int .i64 col, .int .i64 gap] w (NeedP (ndR S L col gap) (ndE S L col gap) w) := by
  have HS : Hid (∀ w', At B w' A (ints S) → Calls Try.prog 46 #[.slice A S.length c, .int .i64 64] w' fun e w'' => e = .returned (.int .i64 (numE 64 S)) ∧ w' = w'') := Go.Lib.hid fun w' h => reach_any B A c 64 S w' h hl
  have HZ : Hid (∀ w', At B w' A2 (t2s L) → B ≤ w'.heap.size → Calls Try.prog 51 #[.slice A2 L.length c2] w' fun e w'' => e = .returned (.int .i64 (szE L)) ∧ Below w'.heap.size w' w'') := Go.Lib.hid fun w' h h2 => rsized_any B A2 c2 L w' h h2 hl2
  have HBD : Hid (wrongE S L col gap = 0 → S.length = L.length → (0 ≤ ndW S L col gap ∧ ndW S L col gap ≤ 100000000) ∧ (0 ≤ ndH S L col gap ∧ ndH S L col gap ≤ 100000000)) := Go.Lib.hid need_bd
  have HOK : Hid (wrongE S L col gap = 0 → S.length = L.length → PlanOk (max col 1).toNat S L gap ∧ max col 1 = ((max col 1).toNat : Int) ∧ S.length ≤ 1024) := Go.Lib.hid wrong_ok
  obtain ⟨E, hE⟩ : ∃ E, wrongE S L col gap = E := ⟨_, rfl⟩
  have hEE : askE [numE 64 S, szE L, num1 64 col, num1 16384 gap] = E := hE
  have HE : Hid (ndE S L col gap = if E = 0 then (if S.length = L.length then (if ndW S L col gap ≤ 16384 ∧ ndH S L col gap ≤ 16384 then 0 else 9) else 110) else E) := Go.Lib.hid (by rw [← hE]; rfl)
  have HR : Hid (ndR S L col gap = if ndE S L col gap = 0 then ⟨ndW S L col gap, ndH S L col gap⟩ else ⟨0, 0⟩) := Go.Lib.hid rfl
  rw [hE] at HBD HOK
  clear hE
  obtain ⟨N, hN⟩ : ∃ N, S.length = N := ⟨_, rfl⟩
  obtain ⟨M, hM⟩ : ∃ N, L.length = N := ⟨_, rfl⟩
  have HNM := Go.Lib.hid (⟨hN, hM⟩ : _ ∧ _)
  rw [hN] at HS
  rw [hM] at HZ
  rw [hN, hM] at HBD HOK HE ⊢
  clear hN hM hl hl2
  generalize numE 64 S = e1 at *
  generalize szE L = e2 at *
  generalize he3 : num1 64 col = e3 at *
  generalize he4 : num1 16384 gap = e4 at *
  have HE3 := Go.Lib.hid he3
  have HE4 := Go.Lib.hid he4
  have HEE := Go.Lib.hid hEE
  clear he3 he4 hEE
  go_enter Try.func23, Try.ntmps23
  go_wp2_with fail
  refine (HS.out _ (hA.next hB _)).mono ?_
  rintro e w' ⟨rfl, rfl⟩
  go_wp2_with fail
  refine (HZ.out _ (hA2.next hB _) (by simp; omega)).mono ?_
  rintro e w1 ⟨rfl, hb1⟩
  have hb1' : Below w.heap.size w w1 := ((Below.refl _ _).alloc (Nat.le_refl _) _).trans (hb1.mono (by simp))
  have hr1 := (hb1.block w.heap.size (by simp)).trans (alloc_at _ _)
  go_wp2_with fail
  refine (number_any col 64 _).mono ?_
  rintro e w' ⟨rfl, rfl⟩
  rw [HE3.out]
  go_wp2_with fail
  refine (number_any gap 16384 _).mono ?_
  rintro e w' ⟨rfl, rfl⟩
  rw [HE4.out]
  go_wp2_with fail
  refine (rfirst_at w1.heap.size [e1, e2, e3, e4] 4 _ (alloc_at _ _) rfl rfl (by omega)).mono ?_
  rintro e w2 ⟨rfl, hw2⟩
  rw [HEE.out]
  have hb2 : Below w1.heap.size w1 w2 := hw2 ▸ (Below.refl _ _).alloc (Nat.le_refl _) _
  clear hw2
  have hr2 := (hb2.block _ (blk_lt2 hr1)).trans hr1
  have hb2' := hb1'.trans (hb2.mono hb1'.size)
  obtain ⟨r, hr⟩ : ∃ r, w.heap.size = r := ⟨_, rfl⟩
  have HRR := Go.Lib.hid hr
  have HA := Go.Lib.hid (hA.below (hb2'.mono hB))
  have HA2 := Go.Lib.hid (hA2.below (hb2'.mono hB))
  have hs2 := hb2'.size
  have HB2 := Go.Lib.hid hb2'
  rw [hr] at hr2 ⊢
  clear hb1 hb1' hr1 hb2 hb2' hA hA2 HS HZ
  obtain ⟨k0, k1, f0, f1, l1⟩ := blk2 hr2
  by_cases h0 : E = 0
  · by_cases hlen : N = M
    · subst h0
      subst hlen
      obtain ⟨hbw, hbh⟩ := HBD.out rfl rfl
      obtain ⟨hok, hcol, hsl⟩ := HOK.out rfl rfl
      obtain ⟨m, hm⟩ : ∃ m : Nat, (max col 1).toNat = m := ⟨_, rfl⟩
      rw [hm] at hok hcol
      have hE2 := HE.out
      rw [if_pos rfl, if_pos rfl] at hE2
      have HE2 := Go.Lib.hid hE2
      have HOK1 := Go.Lib.hid hok
      have HWN : Hid (wholeP (widL m S (wsL L) gap N) gap (useP m S N) = ndW S L col gap) := Go.Lib.hid (by unfold ndW; rw [hm, hcol, HNM.out.1])
      have HHN : Hid (wholeP (hgtL m S (hsL L) N) gap (rwN m S N) = ndH S L col gap) := Go.Lib.hid (by unfold ndH; rw [hcol, HNM.out.1])
      have hgap := hok.wid.g
      have hm1 := hok.wid.m1
      have hm2 := hok.wid.m2
      have hu := use_bd (n := (m : Int)) (by omega) S N
      have hrN := rw_most (n := (m : Int)) (by omega) S N
      have HCOL := Go.Lib.hid hcol
      have HLL := HNM.out.2
      have HNN := HNM.out.1
      have HSD := Go.Lib.hid fun (w : World) h => rsides_any w.heap.size A2 c2 L w h (Nat.le_refl _) (by omega)
      have HCE := Go.Lib.hid fun (w : World) h => rcells_any w.heap.size A c S col m w h (Nat.le_refl _) (by omega) hcol (by omega)
      have HHT := Go.Lib.hid fun (A2 : Option Addr) (c2 : Nat) (w : World) h h2 => rheights_any w.heap.size A A2 c c2 m S (hsL L) col w h h2 (Nat.le_refl _) (by omega) (by rw [hs_len]; omega) hok.hd hcol (by omega)
      have HWD := Go.Lib.hid fun (A2 : Option Addr) (c2 : Nat) (w : World) h h2 => rwidths_any w.heap.size A A2 c c2 m S (wsL L) col gap w h h2 (Nat.le_refl _) hok.wid (by rw [ws_len]; omega) hcol
      rw [HLL] at HSD
      rw [HNN] at HCE
      rw [HNN, hs_len, HLL] at HHT
      rw [HNN, ws_len, HLL] at HWD
      have HWOK := Go.Lib.hid (widL_ok hok.wid)
      have HHOK := Go.Lib.hid (hgtL_ok (n := (m : Int)) (S := S) hok.hd)
      rw [HNN] at HWOK HHOK
      clear HBD HOK HE hE2 hcol hm hok HLL HNN
      generalize ndW S L col gap = W at *
      generalize ndH S L col gap = H at *
      have HA2s := Go.Lib.hid ((HA2.out.mono (show B ≤ w2.heap.size by omega)))
      go_wp2_with fail
      refine (HSD.out w2 HA2s.out).mono ?_
      rintro e w3 ⟨As, cs, Ah, ch, rfl, ht3⟩
      have hb3 := ht3.below
      have has := At.of_own (own_len9 ht3.o1 (show (wsL L).length = N by rw [ws_len]; exact HNM.out.2))
      have hah := At.of_own (own_len9 ht3.o2 (show (hsL L).length = N by rw [hs_len]; exact HNM.out.2))
      have hr3 := (hb3.block _ (blk_lt2 hr2)).trans hr2
      have HB3 := Go.Lib.hid (HB2.out.trans (hb3.mono HB2.out.size))
      have ha3 := (HA.out.mono (show B ≤ w2.heap.size by omega)).on9 hb3
      clear ht3 hr2 k0 k1 f0 f1 l1 hb3
      go_wp2_with fail
      refine (HCE.out w3 ha3).mono ?_
      rintro e w4 ⟨Ap, cp, Ad, cd, rfl, hc4⟩
      have hb4 := hc4.below
      have hap := At.of_own hc4.o1
      have had := At.of_own hc4.o2
      have hr4 := (hb4.block _ (blk_lt2 hr3)).trans hr3
      have HB4 := Go.Lib.hid (HB3.out.trans (hb4.mono HB3.out.size))
      have ha4 := ha3.on9 hb4
      have has4 := has.on9 hb4
      have hah4 := hah.on9 hb4
      clear hc4 hr3 hb4 ha3 has hah
      go_wp2_with fail
      refine (HHT.out _ _ w4 ha4 hah4).mono ?_
      rintro e w5 ⟨Ar, cr, rfl, hor, hb5⟩
      rw [hgtL_len] at hor ⊢
      have har := At.of_own hor
      have hr5 := (hb5.block _ (blk_lt2 hr4)).trans hr4
      have HB5 := Go.Lib.hid (HB4.out.trans (hb5.mono HB4.out.size))
      have ha5 := ha4.on9 hb5
      have has5 := has4.on9 hb5
      have hap5 := hap.on9 hb5
      have had5 := had.on9 hb5
      clear hor hr4 hb5 ha4 has4 hah4 hap had
      go_wp2_with fail
      refine (HWD.out _ _ w5 ha5 has5).mono ?_
      rintro e w6 ⟨Aw, cw, rfl, how, hb6⟩
      rw [widL_len] at how ⊢
      have haw := At.of_own how
      have hr6 := (hb6.block _ (blk_lt2 hr5)).trans hr5
      have HB6 := Go.Lib.hid (HB5.out.trans (hb6.mono HB5.out.size))
      have har6 := har.on9 hb6
      have hap6 := hap5.on9 hb6
      have had6 := had5.on9 hb6
      clear how hr5 hb6 ha5 has5 hap5 had5 har
      go_wp2_with fail
      refine (rused_any _ Ap Ad cp cd m S N w6 hap6 had6 (Nat.le_refl _) (by omega) (by omega) (by omega)).mono ?_
      rintro e w7 ⟨rfl, hb7⟩
      have haw7 := haw.on9 hb7
      have har7 := har6.on9 hb7
      have hr7 := (hb7.block _ (blk_lt2 hr6)).trans hr6
      have HB7 := Go.Lib.hid (HB6.out.trans (hb7.mono HB6.out.size))
      clear hr6 hb7 haw har6 hap6 had6
      have HU1 := Go.Lib.hid (rsum_any _ Aw cw (widL m S (wsL L) gap N) (useP m S N) gap w7 haw7 (by rw [widL_len]; omega) HWOK.out hgap (by omega))
      rw [widL_len, HWN.out] at HU1
      have HU2 := Go.Lib.hid (rsum_any _ Ar cr (hgtL m S (hsL L) N) (rwN m S N) gap w7 har7 (by rw [hgtL_len]; omega) HHOK.out hgap (by omega))
      rw [hgtL_len, HHN.out] at HU2
      clear haw7 har7
      generalize useP m S N = U at *
      generalize rwN m S N = Rn at *
      go_wp2_with fail
      refine HU1.out.mono ?_
      rintro e w' ⟨rfl, rfl⟩
      go_wp2_with fail
      refine HU2.out.mono ?_
      rintro e w' ⟨rfl, rfl⟩
      obtain ⟨k0, k1, f0, f1, l1⟩ := blk2 hr7
      have hrg : w.heap.size ≤ r := by have := HRR.out; omega
      have hB7 := HB7.out
      have hs7 := hB7.size
      clear HU1 HU2 hr7 HSD HCE HHT HWD
      by_cases hW : W ≤ 16384
      · by_cases hH : H ≤ 16384
        · have e0 := HE2.out
          rw [if_pos ⟨hW, hH⟩] at e0
          have HEND : Hid (ndR S L col gap = ⟨W, H⟩ ∧ ndE S L col gap = 0) := Go.Lib.hid ⟨by rw [HR.out, if_pos e0], e0⟩
          clear e0
          have hW' : decide (16384 < W) = false := by simpa using hW
          have hH' : ¬ (16384 < H) := by omega
          go_wp2
          rw [HEND.out.1, HEND.out.2]
          exact bodyPost_ret (by simp [results, Try.results23, go_sem, *]) rfl ⟨rfl, (by repeat (first | exact Below.refl _ _ | with_reducible refine Below.alloc ?_ (by first | (simp; done) | (simp; omega) | omega) _ | with_reducible refine Below.setCell ?_ (by first | (simp; done) | (simp; omega) | omega) _ | with_reducible refine Below.drew ?_ | with_reducible refine Below.trans ?_ (Below.mono (by assumption) (by first | (simp; done) | (simp; omega) | omega))))⟩
        · have e0 := HE2.out
          rw [if_neg fun h => hH h.2] at e0
          have HEND : Hid (ndR S L col gap = ⟨0, 0⟩ ∧ ndE S L col gap = 9) := Go.Lib.hid ⟨by rw [HR.out, if_neg (by rw [e0]; decide)], e0⟩
          clear e0
          have hW' : decide (16384 < W) = false := by simpa using hW
          have hH' : 16384 < H := by omega
          go_wp2
          rw [HEND.out.1, HEND.out.2]
          exact bodyPost_ret (by simp [results, Try.results23, go_sem, *]) rfl ⟨rfl, (by repeat (first | exact Below.refl _ _ | with_reducible refine Below.alloc ?_ (by first | (simp; done) | (simp; omega) | omega) _ | with_reducible refine Below.setCell ?_ (by first | (simp; done) | (simp; omega) | omega) _ | with_reducible refine Below.drew ?_ | with_reducible refine Below.trans ?_ (Below.mono (by assumption) (by first | (simp; done) | (simp; omega) | omega))))⟩
      · have e0 := HE2.out
        rw [if_neg fun h => hW h.1] at e0
        have HEND : Hid (ndR S L col gap = ⟨0, 0⟩ ∧ ndE S L col gap = 9) := Go.Lib.hid ⟨by rw [HR.out, if_neg (by rw [e0]; decide)], e0⟩
        clear e0
        have hW' : decide (16384 < W) = true := by simpa using hW
        have hW2 : 16384 < W := by omega
        go_wp2
        rw [HEND.out.1, HEND.out.2]
        exact bodyPost_ret (by simp [results, Try.results23, go_sem, *]) rfl ⟨rfl, (by repeat (first | exact Below.refl _ _ | with_reducible refine Below.alloc ?_ (by first | (simp; done) | (simp; omega) | omega) _ | with_reducible refine Below.setCell ?_ (by first | (simp; done) | (simp; omega) | omega) _ | with_reducible refine Below.drew ?_ | with_reducible refine Below.trans ?_ (Below.mono (by assumption) (by first | (simp; done) | (simp; omega) | omega))))⟩
    · have hll : ¬ ((M : Int) = (N : Int)) := by omega
      have hE2 := HE.out
      rw [if_pos h0, if_neg hlen] at hE2
      have HEND : Hid (ndR S L col gap = ⟨0, 0⟩ ∧ ndE S L col gap = 110) := Go.Lib.hid ⟨by rw [HR.out, if_neg (by rw [hE2]; decide)], hE2⟩
      subst h0
      have hB2 := HB2.out
      have hrg : w.heap.size ≤ r := by have := HRR.out; omega
      clear HBD HOK HE HR hE2 hlen
      go_wp2
      rw [HEND.out.1, HEND.out.2]
      exact bodyPost_ret (by simp [results, Try.results23, go_sem, *]) rfl ⟨rfl, (by repeat (first | exact Below.refl _ _ | with_reducible refine Below.alloc ?_ (by first | (simp; done) | (simp; omega) | omega) _ | with_reducible refine Below.setCell ?_ (by first | (simp; done) | (simp; omega) | omega) _ | with_reducible refine Below.drew ?_ | with_reducible refine Below.trans ?_ (Below.mono (by assumption) (by first | (simp; done) | (simp; omega) | omega))))⟩
  · have h0' : (E == 0) = false := by simpa using h0
    have hE2 := HE.out
    rw [if_neg h0] at hE2
    have HEND : Hid (ndR S L col gap = ⟨0, 0⟩ ∧ ndE S L col gap = E) := Go.Lib.hid ⟨by rw [HR.out, if_neg (by rw [hE2]; exact h0)], hE2⟩
    have hB2 := HB2.out
    have hrg : w.heap.size ≤ r := by have := HRR.out; omega
    clear HBD HOK HE HR hE2
    go_wp2
    rw [HEND.out.1, HEND.out.2]
    exact bodyPost_ret (by simp [results, Try.results23, go_sem, *]) rfl ⟨rfl, (by repeat (first | exact Below.refl _ _ | with_reducible refine Below.alloc ?_ (by first | (simp; done) | (simp; omega) | omega) _ | with_reducible refine Below.setCell ?_ (by first | (simp; done) | (simp; omega) | omega) _ | with_reducible refine Below.drew ?_ | with_reducible refine Below.trans ?_ (Below.mono (by assumption) (by first | (simp; done) | (simp; omega) | omega))))⟩
end Go.Proofs.Ytjippgflempdmaa
