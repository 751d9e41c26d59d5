/- Layer 10: the law FlexRow. -/
import Derived.Test.YthannibclhidcaaFlexJ
import Derived.Test.YthannibclhidcaaShFair2
namespace Go.Proofs.Ythannibclhidcaa
set_option linter.unusedVariables false
set_option linter.unusedSimpArgs false
open Go.RowKit
attribute [local go_sem] max_fold min_fold

theorem pos_sum (A : List Int) (gap : Int) : ∀ k, k ≤ A.length → posL A gap k = sumI (A.take k) + gap * k := by
  intro k
  induction k with
  | zero => intro _; simp [posL, sumI]
  | succ k ih =>
    intro h
    have h1 := ih (by omega)
    rw [List.take_succ_eq_append_getElem (show k < A.length by omega), sumI_append]
    simp only [posL, h1, sumI]
    have e : A.getD k 0 = A[k] := by simp [List.getD, show k < A.length by omega]
    rw [e]
    have e2 : gap * ((k + 1 : Nat) : Int) = gap * k + gap := by rw [Int.natCast_succ, Int.mul_add]; omega
    omega
theorem row_end {L : List T3} {gap room : Int} {A : List Int} (hF : Fair L (roomN L.length gap room) A) (hg : 0 ≤ gap ∧ gap ≤ 16384) (hs : 0 ≤ sumP L) (hn : 0 < L.length) : posL A gap L.length - gap ≤ max room (sumP L + gap * max 0 ((L.length : Int) - 1)) := by
  have h1 := pos_sum A gap L.length (by rw [hF.len]; omega)
  rw [← hF.len, List.take_length] at h1
  rw [← hF.len]
  rw [← hF.len] at hn
  have hsum : sumI A ≤ max (roomN L.length gap room) (sumP L) := by
    rcases hF.sum with h | ⟨_, _, h⟩ | ⟨h, h'⟩ <;> omega
  unfold roomN at hsum
  rw [← hF.len] at hsum
  rw [show max 0 ((A.length : Int) - 1) = (A.length : Int) - 1 by omega] at hsum ⊢
  have e : gap * ((A.length : Int) - 1) = gap * A.length - gap := by rw [Int.mul_sub]; omega
  rw [e] at hsum ⊢
  omega

set_option maxRecDepth 100000 in
set_option maxHeartbeats 4000000 in
theorem walkFlexRow (w : World) (A : Option Addr) (c : Nat) (L : List T3) (hA : At w.heap.size w A (t3s L)) (hnil : A = none → L.length = 0 ∧ c = 0) (hlc : L.length ≤ c) (hcm : c ≤ maxLen) (gap : Int) (hx : (Lit.int .i64 gap).wf = true) (room : Int) (hx2 : (Lit.int .i64 room).wf = true) :
    Calls Try.prog 5 #[.slice A L.length c, .int .i64 gap, .int .i64 room] w fun e w' => e = .returned (.bool true) ∧ Below w.heap.size w w' := by
  have hm : (L.length : Int) ≤ 9223372036854775807 := by unfold maxLen at hcm; omega
  by_cases hbig : 2000 < L.length
  · have hb : (2000 : Int) < (L.length : Int) := by omega
    go_enter Try.func5, Try.ntmps5
    go_wp2_with fail
    refine (alive_any _).mono ?_
    rintro e w1 ⟨rfl, hb1⟩
    go_wp2
    go_ret
    exact ⟨rfl, hb1⟩
  · have hb : ¬ (2000 : Int) < (L.length : Int) := by omega
    have hrow := fun w h1 h2 => Row_any (w.heap.size) A c L gap room w h1 h2 (by omega)
    have HROW := Go.Lib.hid hrow
    by_cases he : rowE L gap room = 0
    · obtain ⟨h0, hg, hr⟩ := rowE_ok he
      obtain ⟨hlen, hall⟩ := chk_ok h0
      have hgb := (inB_iff _ _ _).1 hg
      have hrb := (inB_iff _ _ _).1 hr
      obtain ⟨hpb, hnb⟩ := roomN_bd hgb hrb hlen
      have hso := share_out hlen hall hnb
      have hF := share_fair hall hnb
      have hR : rowR L gap room = shareP L (roomN L.length gap room) := by simp [rowR, he]
      have hB : rowB L gap room = startsL (shareP L (roomN L.length gap room)) gap := by simp [rowB, hR]
      have hneed := fun w h1 h2 => need_any (w.heap.size) A c L w h1 h2 (by omega)
      rw [show needR L = sumP L by simp [needR, h0], h0] at hneed
      have HNEED := Go.Lib.hid hneed
      have hsp := sumP_bd hall
      rw [hR, hB, he] at hrow
      clear hneed
      generalize shareP L (roomN L.length gap room) = S at *
      have HROW := Go.Lib.hid hrow
      have hend := fun h => row_end hF hgb hsp.1 h
      have HEND := Go.Lib.hid hend
      have hpos := posL_bd hso.2 hgb
      have HP := Go.Lib.hid hpos
      have HF := Go.Lib.hid hF
      have HSO := Go.Lib.hid hso.2
      have HSL := Go.Lib.hid hso.1
      have HBL : Hid ((startsL S gap).length = L.length) := Go.Lib.hid (by rw [startsL_len]; exact hso.1)
      have hl3 : L.length ≤ 1024 := hlen
      have hso1 := hso.1
      clear hrow hend hpos hF hso h0 hg hr he hall hR hB
      go_enter Try.func5, Try.ntmps5
      go_wp2_with fail
      refine (alive_any _).mono ?_
      rintro e w1 ⟨rfl, hb1⟩
      have hs1 := hb1.size
      have hA1 := (hA.below hb1).mono hs1
      go_wp2_with fail
      refine (HROW.out _ hA1 (Nat.le_refl _)).mono ?_
      rintro e w2 ⟨A1, c1, A2, c2, rfl, hownA, hownB, _, hb2⟩
      have hs2 := hb2.size
      have hA2 := hA1.on hb2
      have hXA := At.of_own hownA
      have hXB := At.of_own hownB
      rw [HSL.out] at hownA ⊢
      rw [HBL.out] at hownB ⊢
      have hb02 := hb1.trans (hb2.mono hs1)
      clear hownA hownB hb1 hb2 hA hA1 hso1
      go_wp2_with fail
      refine (HNEED.out _ hA2 (Nat.le_refl _)).mono ?_
      rintro e w3 ⟨rfl, hb3⟩
      have hs3 := hb3.size
      have hA3 := hA2.on hb3
      have hXA3 := hXA.on hb3
      have hXB3 := hXB.on hb3
      have hb03 := hb02.trans (hb3.mono (by omega))
      clear hb02 hb3 hA2 hXA hXB
      obtain ⟨n, hn⟩ : ∃ n, L.length = n := ⟨_, rfl⟩
      have HN := Go.Lib.hid hn
      rw [hn] at hb hl3 hpb hsp hm ⊢
      clear hn
      go_wp2
      go_loopw [13, 14] (fun en i wr => ∃ k : Nat, k ≤ n ∧ i = .int .i64 k ∧ en = .int .i64 (posL S gap k - gap) ∧ Below w3.heap.size w3 wr) (fun _ i _ => n - (intOf i).toNat)
      case atStart => exact ⟨0, by omega, rfl, by simp [posL], Below.refl _ _⟩
      case round =>
        obtain ⟨k, hk, rfl, rfl, hbr⟩ := hrel
        have hA4 := hA3.on hbr
        have hXA4 := hXA3.on hbr
        have hXB4 := hXB3.on hbr
        have hsr := hbr.size
        have hpk := HP.out k
        clear hA3 hXA3 hXB3
        by_cases hlt : k < n
        · have hli : (k : Int) < (n : Int) := by omega
          have hkL : k < L.length := by have := HN.out; omega
          have hkS : k < S.length := by have := HN.out; have := HSL.out; omega
          have hkB : k < (startsL S gap).length := by rw [startsL_len]; exact hkS
          obtain ⟨g0, o0, rfl, _, a0, a1, a2⟩ := hA4.t3 hkL
          obtain ⟨g1, o1, rfl, _, x0⟩ := hXA4.int hkS
          obtain ⟨g2, o2, rfl, _, y0⟩ := hXB4.int hkB
          have hbv : (startsL S gap)[k] = posL S gap k := by simp [startsL]
          rw [hbv] at y0
          have hlow := HF.out.low k hkL
          have hgd : S.getD k 0 = S[k] := by simp [List.getD, hkS]
          rw [tk_at hkL, hgd] at hlow
          have hsb := HSO.out _ (List.getElem_mem hkS)
          have hnx : posL S gap (k + 1) = posL S gap k + (S.getD k 0 + gap) := rfl
          rw [hgd] at hnx
          have l0 := World.block_lt_of_cell? _ _ a0
          have l1 := World.block_lt_of_cell? _ _ x0
          have l2 := World.block_lt_of_cell? _ _ y0
          have HNX := Go.Lib.hid hnx
          clear hnx hgd hbv hA4 hXA4 hXB4
          generalize S[k] = s at *
          generalize L[k] = t at *
          generalize posL S gap k = q at *
          have hne : (q != q - gap + gap) = false := by simp
          have hd : decide (s < t.p) = false := by simpa using hlow
          go_wp2
          refine region_ext mixed (by kernel_rfl) ?_
          repeat (go_big_quiet_step (fail))
          refine wpQuiet_nil ?_
          intro w5 hb5
          have z0 : w5.cell? ⟨g1, o1 + k, none⟩ = some (.int .i64 s) := by rw [hb5.cell (p := ⟨g1, o1 + k, none⟩) l1]; exact x0
          have z1 : w5.cell? ⟨g2, o2 + k, none⟩ = some (.int .i64 q) := by rw [hb5.cell (p := ⟨g2, o2 + k, none⟩) l2]; exact y0
          have m1 : g1 < w5.heap.size := Nat.lt_of_lt_of_le l1 hb5.size
          have m2 : g2 < w5.heap.size := Nat.lt_of_lt_of_le l2 hb5.size
          have hb35 := hbr.trans (hb5.mono hsr)
          have hs5 := hb35.size
          clear x0 y0 l1 l2 hb5 a0 a1 a2 l0
          go_wp2
          refine region_ext_last 1 mixed (by kernel_rfl) ?_
          simp only [List.length_cons, List.length_nil, Nat.reduceAdd, Nat.reduceSub, List.take_succ_cons, List.take_zero, List.drop_succ_cons, List.drop_zero]
          repeat (go_big_quiet_step (fail))
          refine wpQuiet_nil ?_
          intro w6 hb6
          go_wp2
          go_roundw
          case rel => exact ⟨k + 1, by omega, by go_num, by rw [HNX.out]; congr 1; omega, hb35.trans (hb6.mono hs5)⟩
          case measure => simp [intOf]; omega
        · have hlt' : ¬ ((k : Int) < (n : Int)) := by omega
          have hkn : k = n := by omega
          subst hkn
          clear hA4 hXA4 hXB4
          by_cases hz : k = 0
          · have hz2 : ((k : Int) == 0) = true := by simp [hz]
            go_wp2
            go_ret
            exact ⟨rfl, hb03.trans (hbr.mono (by omega))⟩
          · have hz2 : ((k : Int) == 0) = false := by simpa using hz
            have hfin := HEND.out (by have := HN.out; omega)
            rw [HN.out] at hfin
            have e0 : wrap64 0 = 0 := IntWalk.wrap64_in _ (by omega)
            by_cases hk1 : k = 1
            · have e1 : max 0 ((k : Int) - 1) = 0 := by omega
              rw [e1, Int.mul_zero, Int.add_zero] at hfin
              have hz3 : ¬ (0 < (k : Int) - 1) := by omega
              have e2 : wrap64 (sumP L) = sumP L := IntWalk.wrap64_in _ (by omega)
              go_wp2
              go_ret
              rw [hk1] at hfin
              exact ⟨ret_bool (by (try rw [e0, Int.add_zero, e2]); simpa [hk1] using hfin), hb03.trans (hbr.mono (by omega))⟩
            · have e1 : max 0 ((k : Int) - 1) = (k : Int) - 1 := by omega
              rw [e1] at hfin hpb
              have hz3 : 0 < (k : Int) - 1 := by omega
              have e2 : wrap64 (gap * ((k : Int) - 1)) = gap * ((k : Int) - 1) := IntWalk.wrap64_in _ (by omega)
              have e3 : wrap64 (sumP L + gap * ((k : Int) - 1)) = sumP L + gap * ((k : Int) - 1) := IntWalk.wrap64_in _ (by omega)
              go_wp2
              go_ret
              exact ⟨ret_bool (by (try rw [e2]); (try rw [e3]); first | (simp; done) | (simpa using hfin)), hb03.trans (hbr.mono (by omega))⟩
    · have HE := Go.Lib.hid he
      have hrow2 := hrow
      rw [show rowB L gap room = [] by simp [rowB, rowR, he, startsL], show rowR L gap room = [] by simp [rowR, he]] at hrow2
      have HROW2 := Go.Lib.hid hrow2
      have hne : (rowE L gap room != 0) = true := by simpa using he
      clear hrow hrow2 HROW he
      generalize rowE L gap room = E at *
      go_enter Try.func5, Try.ntmps5
      go_wp2_with fail
      refine (alive_any _).mono ?_
      rintro e w1 ⟨rfl, hb1⟩
      go_wp2_with fail
      refine (HROW2.out _ ((hA.below hb1).mono hb1.size) (Nat.le_refl _)).mono ?_
      rintro e w2 ⟨A1, c1, A2, c2, rfl, _, _, _, hb2⟩
      go_wp2
      go_ret
      exact ⟨rfl, hb1.trans (hb2.mono hb1.size)⟩
end Go.Proofs.Ythannibclhidcaa
